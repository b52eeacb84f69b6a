/- Who is who: names.Find. -/
import Derived.Test.YtmepdfipigdjhaaN1
namespace Go.Proofs.Ytmepdfipigdjhaa
open Go.RowKit
set_option linter.unusedSimpArgs false
set_option linter.unusedVariables false
attribute [local go_sem] Oper.semAt_some
theorem things_any (p : PgD) (cs : List Value) (d B : Nat) (w : World) (hx : IsPg B w d p cs) (hB : B ≤ w.heap.size) :
    Calls Try.prog 22 #[.agg cs.toArray] w fun e w' => e = .returned (.func (.func 44) #[] #[.pointer (some ⟨w.heap.size, 0, none⟩)]) ∧ PgBox (w.heap.size + 1) w.heap.size d p w' ∧ w.alloc (.cells cs.toArray 26) = w' := by
  have HX := hid hx
  obtain ⟨i, f, o, rfl, hi, hf, ho⟩ := hx
  clear hi hf ho
  go_enter Try.func22, Try.ntmps22
  go_wp2_with fail
  go_ret
  refine ⟨rfl, ?_, rfl⟩
  obtain ⟨i2, f2, o2, he, hi, hf, ho⟩ := HX.out
  simp only [List.cons.injEq, and_true, true_and] at he
  obtain ⟨rfl, rfl, rfl⟩ := he
  have hc : ∀ b o', b < B → (w.alloc (.cells #[.int .i64 p.st, i, f, o] 26)).cell? ⟨b, o', none⟩ = w.cell? ⟨b, o', none⟩ := fun b o' h => old_cell _ _ (by omega)
  exact ⟨Nat.lt_succ_self _, i, f, o, by simp, by simp, by simp, by simp, hi.mono (fun _ _ _ h => h) (by omega) hc, hf.mono (fun _ _ _ h => h.mono (by omega) hc) (by omega) hc, ho.mono (fun _ _ _ h => h) (by omega) hc⟩
theorem things_low (F : Fence) (n : Nat) (hF : F.fn 44) (hro : F.round = none) (hn : 1 ≤ n) (n0 q bp d : Nat) (p : PgD) (w : World) (hW : n0 ≤ w.heap.size) (hp : PgBox n0 bp d p w) :
    SeqLow F n Try.prog 44 #[.pointer (some ⟨bp, 0, none⟩)] encThs (Kq q n0) (fun ys => ys = p.things) (fun pre => pre <+: p.things) p.things.length w := fun l J Jx W hWb hJ _ hY h0 =>
  things1_in F n hF hro hn l n0 q bp d p J Jx hY W hJ (Nat.le_trans hW hWb.size) (hp.below (hWb.mono hW)) h0

def findTh (l : List ThD) (s : ByteArray) : Option ThD := l.find? fun x => decide (x.name = s)
def thRes : Option ThD → Value
  | some x => .tuple #[.int .i64 x.st, .int .u8 x.ty, .int .i64 x.fl, .bool true]
  | none => .tuple #[.int .i64 0, .int .u8 0, .int .i64 0, .bool false]
/-- The cells that names.Find answers by. -/
def FindCells (b : Nat) (st ty fl : Int) (ok : Bool) (w : World) : Prop :=
  One w (b + 2) (.int .i64 st) 3 ∧ One w (b + 3) (.int .u8 ty) 43 ∧ One w (b + 4) (.int .i64 fl) 3 ∧ One w (b + 5) (.bool ok) 4
theorem FindCells.below {W W' : World} {b B : Nat} {st ty fl : Int} {ok : Bool} (h : FindCells b st ty fl ok W) (hb : Below B W W') (hB : b + 6 ≤ B) : FindCells b st ty fl ok W' :=
  ⟨h.1.below hb (by omega), h.2.1.below hb (by omega), h.2.2.1.below hb (by omega), h.2.2.2.below hb (by omega)⟩

theorem find_leaves (r : Value) (tl : List Value) (st ty fl : Int) {ok : Bool} {D : Nat} {w w' W : World} {k0 k1 : Value} (hK : W.heap[D]? = some (.deferred (some []))) (hD : w'.heap.size ≤ D) (hsz : w'.heap.size = w.heap.size + 7)
    (hB : Below w.heap.size w W) (hC : FindCells w.heap.size st ty fl ok W) (hr : r = .tuple #[.int .i64 st, .int .u8 ty, .int .i64 fl, .bool ok]) :
    LeavesInM Fence.wide 10 Try.prog Try.f18 (k0 :: k1 :: .pointer (some ⟨w.heap.size, 0, none⟩) :: .pointer (some ⟨w.heap.size + 1, 0, none⟩) :: .pointer (some ⟨w.heap.size + 2, 0, none⟩) :: .pointer (some ⟨w.heap.size + 3, 0, none⟩) ::
      .pointer (some ⟨w.heap.size + 4, 0, none⟩) :: .pointer (some ⟨w.heap.size + 5, 0, none⟩) :: tl).toArray (Ret r w) [{ target := .collected D, args := #[] }] .returning W := by
  have hC' : FindCells w.heap.size st ty fl ok (W.putObj D (.deferred none)) := hC.below (below_put (Nat.le_refl _) _) (by omega)
  have c0 := hC'.1.cell
  have c1 := hC'.2.1.cell
  have c2 := hC'.2.2.1.cell
  have c3 := hC'.2.2.2.cell
  subst hr
  refine leave_mark hK ?_ ⟨rfl, hB.trans (below_put (by omega) _)⟩
  intro W' hW'
  rw [← hW'] at c0 c1 c2 c3
  simp [results, Try.results18, go_sem, c0, c1, c2, c3]; done
set_option maxRecDepth 100000 in
set_option maxHeartbeats 4000000 in
theorem find_in (p : PgD) (cs : List Value) (s : ByteArray) (d B : Nat) (w : World) (hx : IsPg B w d p cs) (hB : B ≤ w.heap.size) :
    CallsIn Fence.wide 10 Try.prog 18 #[.agg cs.toArray, .string s] w (Ret (thRes (findTh p.things s)) w) := by
  have HX := hid hx
  obtain ⟨i, f, o, rfl, hi, hf, ho⟩ := hx
  clear hi hf ho
  refine callsIn_of_wp_marks Try.func18 rfl trivial ?_ rfl
  simp only [Try.ntmps18, List.size_toArray, List.length_cons, List.length_nil, Nat.reduceAdd, Nat.reduceSub, Array.replicate_succ, Array.replicate_zero, List.push_toArray, List.append_toArray, List.nil_append, List.cons_append]
  gi_wp2_with (refine ⟨trivial, ?_⟩; gi_at_call 22; refine (callsIn_wide.2 (things_any p [.int .i64 p.st, i, f, o] d B _ ?_ ?_)).mono ?_; (exact HX.out.mono (Nat.le_refl _) (fun b o' h => (bcell (B := w.heap.size) (by repeat (first | with_reducible exact Below.refl w.heap.size w | with_reducible refine below_drewN ?_ _ | with_reducible refine Below.drew ?_ | with_reducible refine Below.alloc ?_ (by have hszz := Below.size (Below.refl w.heap.size w); first | omega | (simp; done) | (simp at hszz ⊢; omega)) _ | with_reducible refine Below.setCell ?_ (by have hszz := Below.size (Below.refl w.heap.size w); first | omega | (simp; done) | (simp at hszz ⊢; omega)) _))).1 _ _ (by omega))); (simp; omega); rintro e w' ⟨rfl, hbox, hww⟩)
  have oS : One w' (w.heap.size + 1) (.string s) 9 := by rw [← hww]; exact (by repeat (first | (refine One.new' _ _ _ ?_; simp; done) | refine One.alloc ?_ _))
  have oC : FindCells w.heap.size 0 0 0 false w' := by rw [← hww]; exact ⟨(by repeat (first | (refine One.new' _ _ _ ?_; simp; done) | refine One.alloc ?_ _)), (by repeat (first | (refine One.new' _ _ _ ?_; simp; done) | refine One.alloc ?_ _)), (by repeat (first | (refine One.new' _ _ _ ?_; simp; done) | refine One.alloc ?_ _)), (by repeat (first | (refine One.new' _ _ _ ?_; simp; done) | refine One.alloc ?_ _))⟩
  have hB0 : Below w.heap.size w w' := by rw [← hww]; exact (by repeat (first | with_reducible exact Below.refl w.heap.size w | with_reducible refine below_drewN ?_ _ | with_reducible refine Below.drew ?_ | with_reducible refine Below.alloc ?_ (by have hszz := Below.size (Below.refl w.heap.size w); first | omega | (simp; done) | (simp at hszz ⊢; omega)) _ | with_reducible refine Below.setCell ?_ (by have hszz := Below.size (Below.refl w.heap.size w); first | omega | (simp; done) | (simp at hszz ⊢; omega)) _))
  have hsz : w'.heap.size = w.heap.size + 7 := by rw [← hww]; simp
  simp only [World.size_alloc, Nat.add_assoc, Nat.reduceAdd] at hbox ⊢
  clear hww
  refine wpIn_range_low rfl (by omega) (gf := 44) (lb := #[.pointer (some ⟨w.heap.size + 6, 0, none⟩)]) rfl trivial (enters_of Try.func44 (by kernel_rfl) rfl)
    (things_low Fence.wide _ trivial rfl (by omega) (w.heap.size + 7) 0 (w.heap.size + 6) d p w' (by omega) hbox) Kq.trans (Kq.put (by omega)) (Below.refl _ _) (fun _ => rfl)
    (fun pre W => ((∀ x ∈ pre, x.name ≠ s) ∧ One W (w.heap.size + 1) (.string s) 9 ∧ FindCells w.heap.size 0 0 0 false W) ∧ Below w.heap.size w W)
    (fun c pre W => (c = .ret ∧ ∃ pre' x, pre = pre' ++ [x] ∧ x.name = s ∧ (∀ y ∈ pre', y.name ≠ s) ∧ FindCells w.heap.size x.st x.ty x.fl true W) ∧ Below w.heap.size w W)
    (Low.and (fun pre A A' hs hb => ⟨hs.1, hs.2.1.below hb (by omega), hs.2.2.below hb (by omega)⟩) (low_below (by omega)))
    (fun c => Low.and (fun pre A A' hs hb => by
      obtain ⟨h1, pre', x, h2, h3, h4, h5⟩ := hs
      exact ⟨h1, pre', x, h2, h3, h4, h5.below hb (by omega)⟩) (low_below (by omega)))
    ⟨⟨by simp, oS, oC⟩, hB0⟩
    (fun x a' W => ∃ Bx, w.heap.size + 6 < Bx ∧ Bx < W.heap.size ∧ W.heap[Bx]? = some (.cells #[.int .i64 x.st, .int .u8 x.ty, .int .i64 x.fl] 59 (0, 0)) ∧
      a' = { tmps := #[.agg #[.int .i64 p.st, i, f, o], .string s, .pointer (some ⟨w.heap.size, 0, none⟩), .pointer (some ⟨w.heap.size + 1, 0, none⟩), .pointer (some ⟨w.heap.size + 2, 0, none⟩), .pointer (some ⟨w.heap.size + 3, 0, none⟩),
        .pointer (some ⟨w.heap.size + 4, 0, none⟩), .pointer (some ⟨w.heap.size + 5, 0, none⟩), .string x.name, .pointer (some ⟨Bx, 0, none⟩), .agg #[.int .i64 p.st, i, f, o], .func (.func 44) #[] #[.pointer (some ⟨w.heap.size + 6, 0, none⟩)],
        .string x.name, .agg #[.int .i64 x.st, .int .u8 x.ty, .int .i64 x.fl], undef, undef, undef, undef, undef, undef, undef, undef, undef], defers := [] })
    (fun x a' _ X Y row hs hg hr => by
      obtain ⟨Bx, h1, h2, h3, h4⟩ := hs
      refine ⟨Bx, h1, Nat.lt_of_lt_of_le h2 hg.size, ?_, h4⟩
      rw [hg.block Bx h2 (fun e => by obtain ⟨_, o', h5, h6⟩ := hr Bx e.symm; rw [h3] at h5; cases h5; cases h6)]
      exact h3) ?assign ?body ?done ?stop
  case assign =>
    rintro l pre x W K ⟨⟨hno, oS1, oC1⟩, hB1⟩ hzz hK
    simp only [encThs]
    gi_wp2
    exact hK _ _ ((KeepsOthers.alloc _ _).from _) (Kq.of (Below.alloc (Below.refl _ _) (Nat.le_refl _) _)) ⟨⟨hno, oS1.alloc _, oC1.1.alloc _, oC1.2.1.alloc _, oC1.2.2.1.alloc _, oC1.2.2.2.alloc _⟩, hB1.alloc hB1.size _⟩
      ⟨W.heap.size, by omega, by simp, heap_alloc_new _ _, rfl⟩
  case body =>
    rintro l pre x a' W hl ⟨r, hr⟩ hzz ⟨⟨hno, oS1, oC1⟩, hB1⟩ ⟨Bx, hBx, hBl, hbx, rfl⟩ hlt
    have cs1 := oS1.cell
    have hcx : ∀ i (h : i < 3), W.cell? ⟨Bx, i, none⟩ = some (#[Value.int .i64 x.st, .int .u8 x.ty, .int .i64 x.fl][i]) := fun i h => by
      rw [World.cell?, hbx]; simp [h]
    have x0 : W.cell? ⟨Bx, 0, none⟩ = some (.int .i64 x.st) := hcx 0 (by omega)
    have x1 : W.cell? ⟨Bx, 1, none⟩ = some (.int .u8 x.ty) := hcx 1 (by omega)
    have x2 : W.cell? ⟨Bx, 2, none⟩ = some (.int .i64 x.fl) := hcx 2 (by omega)
    have HN := hid hno
    clear hcx hbx hno
    by_cases hn : x.name = s
    · have hn' : (x.name.toList == s.toList) = true := str_eq.2 hn
      have f0 := oC1.1.cell
      have f1 := oC1.2.1.cell
      have f2 := oC1.2.2.1.cell
      have f3 := oC1.2.2.2.cell
      have g0 := oC1.1.free
      have g1 := oC1.2.1.free
      have g2 := oC1.2.2.1.free
      have g3 := oC1.2.2.2.free
      obtain ⟨Wf, hWf⟩ : ∃ Wf, ((((W.setCell ⟨w.heap.size + 2, 0, none⟩ (.int .i64 x.st)).setCell ⟨w.heap.size + 3, 0, none⟩ (.int .u8 x.ty)).setCell ⟨w.heap.size + 4, 0, none⟩ (.int .i64 x.fl)).setCell ⟨w.heap.size + 5, 0, none⟩ (.bool true)).drew = Wf := ⟨_, rfl⟩
      have hkeep : KeepsFrom w'.heap.size W Wf := by
        rw [← hWf]
        exact ((((((KeepsOthers.setCell _ _ _).trans (KeepsOthers.setCell _ _ _)).trans (KeepsOthers.setCell _ _ _)).trans (KeepsOthers.setCell _ _ _)).trans (KeepsOthers.drew _))).from _
      have hcells : FindCells w.heap.size x.st x.ty x.fl true Wf := by
        rw [← hWf]
        refine ⟨?_, ?_, ?_, ?_⟩
        · exact ((((oC1.1.set _).other (by omega) _ _).other (by omega) _ _).other (by omega) _ _).drew
        · exact ((((oC1.2.1.other (by omega) _ _).set _).other (by omega) _ _).other (by omega) _ _).drew
        · exact ((((oC1.2.2.1.other (by omega) _ _).other (by omega) _ _).set _).other (by omega) _ _).drew
        · exact ((((oC1.2.2.2.other (by omega) _ _).other (by omega) _ _).other (by omega) _ _).set _).drew
      have hbel : Below w.heap.size w Wf := by
        rw [← hWf]
        exact ((((hB1.setCell (by show w.heap.size ≤ w.heap.size + 2; omega) _).setCell (by show w.heap.size ≤ w.heap.size + 3; omega) _).setCell (by show w.heap.size ≤ w.heap.size + 4; omega) _).setCell (by show w.heap.size ≤ w.heap.size + 5; omega) _).drew
      have hpost : Hid (KeepsFrom w'.heap.size W Wf ∧ (∃ pre' y, pre ++ [x] = pre' ++ [y] ∧ y.name = s ∧ (∀ z ∈ pre', z.name ≠ s) ∧ FindCells w.heap.size y.st y.ty y.fl true Wf) ∧ Below w.heap.size w Wf) :=
        ⟨hkeep, ⟨pre, x, rfl, hn, HN.out, hcells⟩, hbel⟩
      rw [← hWf] at hpost
      clear hn hWf hkeep hcells hbel oS1 oC1 hr hbox oS oC
      gi_wp2
      gi_region
      all_goals (gi_wp2; exact ⟨hpost.out.1, ⟨rfl, hpost.out.2.1⟩, hpost.out.2.2⟩)
    · have hn' : (x.name.toList == s.toList) = false := str_ne.2 hn
      gi_wp2
      refine ⟨KeepsFrom.refl _ _, Kq.refl _ _ _, ⟨fun y hy => ?_, oS1, oC1⟩, hB1⟩
      rcases List.mem_append.1 hy with h | h
      · exact HN.out y h
      · simp at h; rw [h]; exact hn
  case done =>
    rintro D xs W hD rfl ⟨⟨hno, oS1, oC1⟩, hB1⟩ hK
    have hres : findTh p.things s = none := by
      rw [findTh, List.find?_eq_none]
      intro x hx; simp [hno x hx]
    have f0 := oC1.1.cell
    have f1 := oC1.2.1.cell
    have f2 := oC1.2.2.1.cell
    have f3 := oC1.2.2.2.cell
    have g0 := oC1.1.free
    have g1 := oC1.2.1.free
    have g2 := oC1.2.2.1.free
    have g3 := oC1.2.2.2.free
    obtain ⟨Wf, hWf⟩ : ∃ Wf, (((W.setCell ⟨w.heap.size + 2, 0, none⟩ (.int .i64 0)).setCell ⟨w.heap.size + 3, 0, none⟩ (.int .u8 0)).setCell ⟨w.heap.size + 4, 0, none⟩ (.int .i64 0)).setCell ⟨w.heap.size + 5, 0, none⟩ (.bool false) = Wf := ⟨_, rfl⟩
    have hKf : Wf.heap[D]? = some (.deferred (some [])) := by
      rw [← hWf]
      exact ((((KeepsOthers.setCell _ _ _).trans (KeepsOthers.setCell _ _ _)).trans (KeepsOthers.setCell _ _ _)).trans (KeepsOthers.setCell _ _ _)).same _ _ hK rfl
    have hbel : Below w.heap.size w Wf := by
      rw [← hWf]
      exact (((hB1.setCell (by show w.heap.size ≤ w.heap.size + 2; omega) _).setCell (by show w.heap.size ≤ w.heap.size + 3; omega) _).setCell (by show w.heap.size ≤ w.heap.size + 4; omega) _).setCell (by show w.heap.size ≤ w.heap.size + 5; omega) _
    have hcells : FindCells w.heap.size 0 0 0 false Wf := by
      rw [← hWf]
      refine ⟨?_, ?_, ?_, ?_⟩
      · exact (((oC1.1.set _).other (by omega) _ _).other (by omega) _ _).other (by omega) _ _
      · exact (((oC1.2.1.other (by omega) _ _).set _).other (by omega) _ _).other (by omega) _ _
      · exact (((oC1.2.2.1.other (by omega) _ _).other (by omega) _ _).set _).other (by omega) _ _
      · exact (((oC1.2.2.2.other (by omega) _ _).other (by omega) _ _).other (by omega) _ _).set _
    rw [← hWf] at hKf hbel hcells
    clear hno hWf
    gi_wp2
    exact find_leaves (thRes (findTh p.things s)) _ _ _ _ hKf hD hsz hbel hcells (by rw [hres]; rfl)
  case stop =>
    rintro D c pre W hD hpre ⟨⟨rfl, pre', x, rfl, hx1, hx2, oC1⟩, hB1⟩ hK
    have hres : findTh p.things s = some x := by
      obtain ⟨t, ht⟩ := hpre
      rw [findTh, ← ht]
      rw [List.append_assoc, List.find?_append, List.find?_eq_none.2 (by intro y hy; simp [hx2 y hy])]
      simp [hx1]
    clear hpre
    gi_wp2
    exact find_leaves (thRes (findTh p.things s)) _ _ _ _ hK hD hsz hB1 oC1 (by rw [hres]; rfl)
theorem nameFind_any (p : PgD) (cs : List Value) (s : ByteArray) (d B : Nat) (w : World) (hx : IsPg B w d p cs) (hB : B ≤ w.heap.size) :
    Calls Try.prog 18 #[.agg cs.toArray, .string s] w (Ret (thRes (findTh p.things s)) w) := callsIn_wide.1 (find_in p cs s d B w hx hB)
end Go.Proofs.Ytmepdfipigdjhaa
