/- Whether each name of a program means one thing: names.Check. -/
import Derived.Test.YtmepdfipigdjhaaN2
import Derived.Test.YtmepdfipigdjhaaN3
import Derived.Maps.OwnIn
namespace Go.Proofs.Ytmepdfipigdjhaa
open Go.RowKit
set_option linter.unusedSimpArgs false
set_option linter.unusedVariables false
attribute [local go_sem] Oper.semAt_some

theorem parts_nil {op : Int} {args : List Ex} {left deep : Int} (h : ¬ (left - 1 < 0 ∨ deep < 1 ∨ partsZ op ≠ args.length)) (ho : op = 1 ∨ op = 2 ∨ op = 3) : args = [] := by
  have h1 : partsZ op = args.length := by
    refine Decidable.byContradiction fun e => h (.inr (.inr e))
  rw [partsZ, if_pos ho] at h1
  exact List.length_eq_zero_iff.1 (by omega)
mutual
theorem chk_count : ∀ (x : Ex) (deep left : Int), (x.chk deep left).1 = true → (x.count : Int) ≤ left - (x.chk deep left).2
  | .mk op n s args, deep, left => by
    rw [Ex.chk, Ex.count]
    by_cases h : left - 1 < 0 ∨ deep < 1 ∨ partsZ op ≠ args.length
    · rw [if_pos h]; simp
    · rw [if_neg h]
      by_cases h1 : op = 1
      · rw [if_pos h1, parts_nil h (.inl h1)]; intro _; simp [Ex.countL]; omega
      · rw [if_neg h1]
        by_cases h2 : op = 2
        · rw [if_pos h2, parts_nil h (.inr (.inl h2))]; intro _; simp [Ex.countL]; omega
        · rw [if_neg h2]
          by_cases h3 : op = 3
          · rw [if_pos h3, parts_nil h (.inr (.inr h3))]; intro _; simp [Ex.countL]; omega
          · rw [if_neg h3]
            have := chkL_count args (deep - 1) (left - 1)
            split
            · rename_i h4; intro _; have := this h4; dsimp only; push_cast; omega
            · simp
theorem chkL_count : ∀ (l : List Ex) (deep left : Int), (Ex.chkL deep left l).1 = true → (Ex.countL l : Int) ≤ left - (Ex.chkL deep left l).2
  | [], deep, left => by rw [Ex.chkL]; simp [Ex.countL]
  | x :: r, deep, left => by
    rw [Ex.chkL, Ex.countL]
    have h1 := chk_count x deep left
    split
    · rename_i h
      intro h2
      have := chkL_count r deep _ h2
      have := h1 h
      push_cast; omega
    · simp
end
theorem check_count {x : Ex} (h : x.check = true) : x.count ≤ 200 := by
  have h1 := chk_count x 32 200 h
  have h2 := (chk_left x 32 200 (by omega)).2.2 h
  omega
theorem PgD.count {p : PgD} (h : p.check = true) : ∀ x ∈ p.flows, x.body.count ≤ 4398046511104 := fun x hx => by
  have h1 := (PgD.check_iff.1 h).2.2.2.2.2.2.1
  have h2 := List.all_eq_true.1 h1 x hx
  rw [flOk, Bool.and_eq_true] at h2
  exact Nat.le_trans (check_count h2.2) (by decide)

def thNames (l : List ThD) : List ByteArray := l.map ThD.name
def thKs (l : List ThD) : List (ByteArray × Value) := l.map fun x => (x.name, encTh x)
theorem getA_thKs (l : List ThD) (s : ByteArray) : (getA s (thKs l)).isSome = memB s (thNames l) := by
  induction l with
  | nil => rfl
  | cons x r ih =>
    rw [thKs, List.map_cons, getA]
    rw [thKs] at ih
    by_cases h : x.name = s
    · simp [h, thNames, memB]
    · rw [if_neg h, ih]
      simp [thNames, memB, h]
theorem getA_none_of {s : ByteArray} {l : List ThD} (h : s ∉ thNames l) : getA s (thKs l) = none := by
  have := getA_thKs l s
  rw [Bool.eq_false_iff.2 (fun e => h (memB_iff.1 e))] at this
  simpa using this
theorem putA_thKs {l : List ThD} {x : ThD} (h : x.name ∉ thNames l) : putA x.name (encTh x) (thKs l) = thKs (l ++ [x]) := by
  have hg := getA_none_of h
  have hf : findA x.name (thKs l) 0 = none := by
    have := findA_get x.name (thKs l) 0
    rw [hg] at this
    simpa using this
  rw [findA_none _ _ _ 0 hf]
  simp [thKs]
/-- What names.Check answers. -/
def PgD.clash (p : PgD) : Int :=
  if p.check = false then 1 else if ¬ (thNames p.things).Nodup then 6 else if (p.asked.all fun s => memB s (thNames p.things)) = false then 6 else if ¬ p.outs.Nodup then 6 else 0

/-- Behind a first call: the program's box, and the answer's. -/
structure NcW (w w1 : World) (d : Nat) (p : PgD) (i f o : Value) : Prop where
  one : One w1 (w.heap.size + 1) (.int .i64 0) 29
  c0 : w1.cell? ⟨w.heap.size, 0, none⟩ = some (.int .i64 p.st)
  c1 : w1.cell? ⟨w.heap.size, 1, none⟩ = some i
  c2 : w1.cell? ⟨w.heap.size, 2, none⟩ = some f
  c3 : w1.cell? ⟨w.heap.size, 3, none⟩ = some o
  below : Below w.heap.size w w1
  size : w.heap.size + 2 ≤ w1.heap.size
  pg : IsPg w.heap.size w1 d p [.int .i64 p.st, i, f, o]
theorem NcW.of {B : Nat} {w w1 : World} {d : Nat} {p : PgD} {i f o : Value} (hx : IsPg B w d p [.int .i64 p.st, i, f, o]) (hB : B ≤ w.heap.size)
    (hb : Below ((w.alloc (.cells #[.int .i64 p.st, i, f, o] 26)).alloc (.cells #[.int .i64 0] 29)).heap.size ((w.alloc (.cells #[.int .i64 p.st, i, f, o] 26)).alloc (.cells #[.int .i64 0] 29)) w1) : NcW w w1 d p i f o := by
  have hs := hb.size
  simp only [World.size_alloc, Nat.add_assoc, Nat.reduceAdd] at hs
  have h1 : Below w.heap.size w w1 := Below.trans (by repeat (first | with_reducible exact Below.refl w.heap.size w | with_reducible refine below_drewN ?_ _ | with_reducible refine Below.drew ?_ | with_reducible refine Below.alloc ?_ (by have hszz := Below.size (Below.refl w.heap.size w); first | omega | (simp; done) | (simp at hszz ⊢; omega)) _ | with_reducible refine Below.setCell ?_ (by have hszz := Below.size (Below.refl w.heap.size w); first | omega | (simp; done) | (simp at hszz ⊢; omega)) _)) (hb.mono (by simp; omega))
  exact ⟨One.below (by repeat (first | (refine One.new' _ _ _ ?_; simp; done) | refine One.alloc ?_ _)) hb (by simp), (hb.cell (p := ⟨w.heap.size, 0, none⟩) (by simp; omega)).trans (by simp), (hb.cell (p := ⟨w.heap.size, 1, none⟩) (by simp; omega)).trans (by simp),
    (hb.cell (p := ⟨w.heap.size, 2, none⟩) (by simp; omega)).trans (by simp), (hb.cell (p := ⟨w.heap.size, 3, none⟩) (by simp; omega)).trans (by simp), h1, hs, IsPg.below h1 (hx.mono hB (fun _ _ _ => rfl))⟩

theorem getA_thKs_some {s : ByteArray} {l : List ThD} (h : s ∈ thNames l) : ∃ y : ThD, getA s (thKs l) = some (encTh y) := by
  induction l with
  | nil => simp [thNames] at h
  | cons x r ih =>
    rw [thKs, List.map_cons, getA]
    by_cases e : x.name = s
    · exact ⟨x, if_pos e⟩
    · rw [if_neg e]
      refine ih ?_
      simpa [thNames, Ne.symm e] using h
def strKs (l : List ByteArray) : List (ByteArray × Value) := l.map fun s => (s, .bool true)
theorem getA_strKs (l : List ByteArray) (s : ByteArray) : (getA s (strKs l)).getD (.bool false) = .bool (memB s l) := by
  induction l with
  | nil => rfl
  | cons x r ih =>
    rw [strKs, List.map_cons, getA]
    rw [strKs] at ih
    by_cases e : x = s
    · subst e; rw [if_pos rfl, show memB x (x :: r) = true from memB_iff.2 (by simp)]; rfl
    · rw [if_neg e, ih, show memB s (x :: r) = memB s r from by rw [Bool.eq_iff_iff, memB_iff, memB_iff]; simp [Ne.symm e]]
theorem putA_strKs {l : List ByteArray} {s : ByteArray} (h : s ∉ l) : putA s (.bool true) (strKs l) = strKs (l ++ [s]) := by
  have hf : findA s (strKs l) 0 = none := by
    have h1 := findA_get s (strKs l) 0
    have h2 : getA s (strKs l) = none := by
      clear h1
      induction l with
      | nil => rfl
      | cons x r ih =>
        rw [strKs, List.map_cons, getA, if_neg (fun e => h (by have e2 : x = s := e; simp [e2]))]
        exact ih (fun e => h (List.mem_cons_of_mem _ e))
    rw [h2] at h1
    simpa using h1
  rw [findA_none _ _ _ 0 hf]
  simp [strKs]
theorem lookup_th {w : World} {ks : List ThD} {b : Nat} (h : MapAt Value.string w b (thKs ks)) (s : ByteArray) :
    (Instr.lookup 55 (.map (some b)) (.string s) true).run Try.prog w = .ok (.tuple #[(getA s (thKs ks)).getD (.agg #[.int .i64 0, .int .u8 0, .int .i64 0]), .bool (getA s (thKs ks)).isSome]) w :=
  lookup_run (strKey Try.underlying9) Try.underlying55 (fun w => Try.zeroValue59 w) h s true
theorem lookup_str {w : World} {l : List ByteArray} {b : Nat} (h : MapAt Value.string w b (strKs l)) (s : ByteArray) :
    (Instr.lookup 63 (.map (some b)) (.string s) false).run Try.prog w = .ok (.bool (memB s l)) w := by
  have := lookup_run (strKey Try.underlying9) Try.underlying63 (fun w => Try.zeroValue4 w) h s false
  rw [if_neg (by decide), getA_strKs] at this
  exact this
theorem MapAt.isMap {α : Type} {enc : α → Value} {w : World} {b : Nat} {ks : List (α × Value)} (h : MapAt enc w b ks) : ∀ o, w.heap[b]? = some o → o.isCells = false := by
  obtain ⟨es, clock, h1, _⟩ := h
  intro o ho
  rw [h1] at ho; cases ho; rfl
theorem But.keepsFrom {q B : Nat} {w w' : World} (h : But q w w') (hq : q < B) : KeepsFrom B w w' := KeepsFrom.of_grownBy h.grown (fun j e => by cases e; exact hq)
theorem nc_res (r : Int) (tl : List Value) {b : Nat} {k0 k1 : Value} {W W' : World} (hE : One W b (.int .i64 r) 29) (hW : W' = W) :
    (results Try.f10 (k0 :: k1 :: .pointer (some ⟨b, 0, none⟩) :: tl).toArray).run Try.prog W' = .ok (.int .i64 r) W' := by
  subst hW
  have c := hE.cell
  simp [results, Try.results10, go_sem, c]; done
theorem nc_leaves1 (r : Int) (tl : List Value) {D : Nat} {w W : World} {k0 k1 : Value} (hK : W.heap[D]? = some (.deferred (some []))) (hD : w.heap.size + 2 ≤ D)
    (hB : Below w.heap.size w W) (hE : One W (w.heap.size + 1) (.int .i64 r) 29) {c : Int} (hc : c = r) :
    LeavesInM Fence.wide 20 Try.prog Try.f10 (k0 :: k1 :: .pointer (some ⟨w.heap.size + 1, 0, none⟩) :: tl).toArray (Ret (.int .i64 c) w) [{ target := .collected D, args := #[] }] .returning W := by
  subst hc
  exact leave_mark hK (fun W' hW' => nc_res c tl (hE.below (below_put (B := w.heap.size + 2) hD (.deferred none)) (by omega)) hW') ⟨rfl, hB.trans (below_put (by omega) _)⟩
theorem nc_leaves2 (r : Int) (tl : List Value) {D E : Nat} {w W : World} {k0 k1 : Value} (hK : W.heap[D]? = some (.deferred (some []))) (hK2 : W.heap[E]? = some (.deferred (some []))) (hne : E ≠ D) (hD : w.heap.size + 2 ≤ D) (hD2 : w.heap.size + 2 ≤ E)
    (hB : Below w.heap.size w W) (hE : One W (w.heap.size + 1) (.int .i64 r) 29) {c : Int} (hc : c = r) :
    LeavesInM Fence.wide 20 Try.prog Try.f10 (k0 :: k1 :: .pointer (some ⟨w.heap.size + 1, 0, none⟩) :: tl).toArray (Ret (.int .i64 c) w) [{ target := .collected D, args := #[] }, { target := .collected E, args := #[] }] .returning W := by
  subst hc
  have hb := (below_put (B := w.heap.size + 2) (W := W) hD (.deferred none)).trans (below_put (B := w.heap.size + 2) hD2 (.deferred none))
  exact leave_mark2 hne hK hK2 (fun W' hW' => nc_res c tl (hE.below hb (by omega)) hW') ⟨rfl, hB.trans (hb.mono (by omega))⟩

set_option maxRecDepth 100000 in
set_option maxHeartbeats 4000000 in
theorem nameCheck_in (p : PgD) (cs : List Value) (d B : Nat) (w : World) (hx : IsPg B w d p cs) (hB : B ≤ w.heap.size) :
    CallsIn Fence.wide 20 Try.prog 10 #[.agg cs.toArray] w (Ret (.int .i64 p.clash) w) := by
  have HX := hid hx
  obtain ⟨i, f, o, rfl, hi, hf, ho⟩ := hx
  clear hi hf ho
  have hmm := @run_makeMap Try.prog
  refine callsIn_of_wp_marks Try.func10 rfl trivial ?_ rfl
  simp only [Try.ntmps10, List.size_toArray, List.length_cons, List.length_nil, Nat.reduceAdd, Nat.reduceSub, Array.replicate_succ, Array.replicate_zero, List.push_toArray, List.append_toArray, List.nil_append, List.cons_append]
  rcases Bool.eq_false_or_eq_true p.check with hck | hck
  case inr =>
    gi_wp2_with (refine ⟨trivial, ?_⟩; gi_at_call 21; refine (callsIn_wide.2 (progCheck_any d B p [.int .i64 p.st, i, f, o] _ ?_ ?_)).mono ?_; (exact HX.out.mono (Nat.le_refl _) (fun b o' h => (bcell (B := w.heap.size) (by repeat (first | with_reducible exact Below.refl w.heap.size w | with_reducible refine below_drewN ?_ _ | with_reducible refine Below.drew ?_ | with_reducible refine Below.alloc ?_ (by have hszz := Below.size (Below.refl w.heap.size w); first | omega | (simp; done) | (simp at hszz ⊢; omega)) _ | with_reducible refine Below.setCell ?_ (by have hszz := Below.size (Below.refl w.heap.size w); first | omega | (simp; done) | (simp at hszz ⊢; omega)) _))).1 _ _ (by omega))); (simp; omega); rintro e w1 ⟨rfl, hb1⟩; have hn := NcW.of HX.out hB hb1; clear hb1; obtain ⟨oE, p0, p1, p2, p3, hB1, hss, hPg⟩ := hn; have HPg := hid hPg; clear hPg; have cE := oE.cell; have fE := oE.free; have hs1 : w.heap.size < w1.heap.size := Nat.lt_of_lt_of_le (by omega) hss; have hs2 : w.heap.size + 1 < w1.heap.size := Nat.lt_of_lt_of_le (by omega) hss; rw [hck])
    have hcl : p.clash = 1 := by rw [PgD.clash, if_pos hck]
    refine ⟨.int .i64 1, ?_, ?_⟩
    · have cr := (oE.set (.int .i64 1)).cell
      simp [results, Try.results10, go_sem, cr]; done
    · rw [hcl]
      exact ⟨rfl, hB1.setCell (by show w.heap.size ≤ w.heap.size + 1; omega) _⟩
  case inl =>
    gi_wp2_with (first | (refine ⟨trivial, ?_⟩; gi_at_call 21; refine (callsIn_wide.2 (progCheck_any d B p [.int .i64 p.st, i, f, o] _ ?_ ?_)).mono ?_; (exact HX.out.mono (Nat.le_refl _) (fun b o' h => (bcell (B := w.heap.size) (by repeat (first | with_reducible exact Below.refl w.heap.size w | with_reducible refine below_drewN ?_ _ | with_reducible refine Below.drew ?_ | with_reducible refine Below.alloc ?_ (by have hszz := Below.size (Below.refl w.heap.size w); first | omega | (simp; done) | (simp at hszz ⊢; omega)) _ | with_reducible refine Below.setCell ?_ (by have hszz := Below.size (Below.refl w.heap.size w); first | omega | (simp; done) | (simp at hszz ⊢; omega)) _))).1 _ _ (by omega))); (simp; omega); rintro e w1 ⟨rfl, hb1⟩; have hn := NcW.of HX.out hB hb1; clear hb1; obtain ⟨oE, p0, p1, p2, p3, hB1, hss, hPg⟩ := hn; have HPg := hid hPg; clear hPg; have cE := oE.cell; have fE := oE.free; have hs1 : w.heap.size < w1.heap.size := Nat.lt_of_lt_of_le (by omega) hss; have hs2 : w.heap.size + 1 < w1.heap.size := Nat.lt_of_lt_of_le (by omega) hss; rw [hck]) | (refine ⟨trivial, ?_⟩; gi_at_call 22; refine (callsIn_wide.2 (things_any p [.int .i64 p.st, i, f, o] d w.heap.size _ ?_ ?_)).mono ?_; (exact IsPg.below (Below.mono (B := w1.heap.size) (by repeat (first | with_reducible exact Below.refl w1.heap.size w1 | with_reducible refine below_drewN ?_ _ | with_reducible refine Below.drew ?_ | with_reducible refine Below.alloc ?_ (by have hszz := Below.size (Below.refl w1.heap.size w1); first | omega | (simp; done) | (simp at hszz ⊢; omega)) _ | with_reducible refine Below.setCell ?_ (by have hszz := Below.size (Below.refl w1.heap.size w1); first | omega | (simp; done) | (simp at hszz ⊢; omega)) _)) (by omega)) HPg.out); (simp; omega); rintro e w2 ⟨rfl, hbox, hww⟩))
    simp only [World.size_alloc, Nat.add_assoc, Nat.reduceAdd] at hbox ⊢
    have hsz : w2.heap.size = w1.heap.size + 3 := by rw [← hww]; simp
    have hB2 : Below w1.heap.size w1 w2 := by rw [← hww]; exact (by repeat (first | with_reducible exact Below.refl w1.heap.size w1 | with_reducible refine below_drewN ?_ _ | with_reducible refine Below.drew ?_ | with_reducible refine Below.alloc ?_ (by have hszz := Below.size (Below.refl w1.heap.size w1); first | omega | (simp; done) | (simp at hszz ⊢; omega)) _ | with_reducible refine Below.setCell ?_ (by have hszz := Below.size (Below.refl w1.heap.size w1); first | omega | (simp; done) | (simp at hszz ⊢; omega)) _))
    have oM : MapAt Value.string w2 w1.heap.size (thKs []) := by rw [← hww]; exact ((MapAt.made' _ _ rfl).alloc _).alloc _
    have oT : One w2 (w1.heap.size + 1) (.map (some w1.heap.size)) 55 := by rw [← hww]; exact (by repeat (first | (refine One.new' _ _ _ ?_; simp; done) | refine One.alloc ?_ _))
    clear hww
    refine wpIn_range_low rfl (by omega) (gf := 44) (lb := #[.pointer (some ⟨w1.heap.size + 2, 0, none⟩)]) rfl trivial (enters_of Try.func44 (by kernel_rfl) rfl)
      (things_low Fence.wide _ trivial rfl (by omega) (w1.heap.size + 3) w1.heap.size (w1.heap.size + 2) d p w2 (by omega) hbox) Kq.trans (Kq.put (by omega)) (Below.refl _ _) (fun _ => rfl)
      (fun pre W => ((thNames pre).Nodup ∧ MapAt Value.string W w1.heap.size (thKs pre) ∧ One W (w1.heap.size + 1) (.map (some w1.heap.size)) 55) ∧ Below w1.heap.size w1 W)
      (fun c pre W => (c = .ret ∧ ¬ (thNames pre).Nodup ∧ One W (w.heap.size + 1) (.int .i64 6) 29) ∧ Below w.heap.size w W)
      (Low.and (fun pre A A' hs hb => ⟨hs.1, hs.2.1.below hb (by omega), hs.2.2.below hb (by omega)⟩) (low_below (by omega)))
      (fun c => Low.and (fun pre A A' hs hb => ⟨hs.1, hs.2.1, hs.2.2.below hb (by omega)⟩) (low_below (by omega)))
      ⟨⟨List.nodup_nil, oM, oT⟩, hB2⟩
      (fun x a' W => ∃ Bx, w1.heap.size + 2 < Bx ∧ Bx < W.heap.size ∧ W.heap[Bx]? = some (.cells #[.int .i64 x.st, .int .u8 x.ty, .int .i64 x.fl] 59 (0, 0)) ∧
        a' = { tmps := #[.agg #[.int .i64 p.st, i, f, o], .pointer (some ⟨w.heap.size, 0, none⟩), .pointer (some ⟨w.heap.size + 1, 0, none⟩), .pointer (some ⟨w1.heap.size + 1, 0, none⟩), .string x.name, .pointer (some ⟨Bx, 0, none⟩), undef, undef, undef, undef, undef, undef, undef, undef, .agg #[.int .i64 p.st, i, f, o], .bool true, .bool false, .map (some w1.heap.size), .agg #[.int .i64 p.st, i, f, o], .func (.func 44) #[] #[.pointer (some ⟨w1.heap.size + 2, 0, none⟩)], .string x.name, .agg #[.int .i64 x.st, .int .u8 x.ty, .int .i64 x.fl], undef, undef, undef, undef, undef, undef, undef, undef, undef, undef, undef, undef, undef, undef, undef, undef, undef, undef, undef, undef, undef, undef, undef, undef, undef, undef, undef, undef, undef, undef, undef, undef, undef, undef, undef], defers := [] })
      (fun x a' _ X Y row hs hg hr => by
        obtain ⟨Bx, h1, h2, h3, h4⟩ := hs
        refine ⟨Bx, h1, Nat.lt_of_lt_of_le h2 hg.size, ?_, h4⟩
        rw [hg.block Bx h2 (fun e => by obtain ⟨_, o', h5, h6⟩ := hr Bx e.symm; rw [h3] at h5; cases h5; cases h6)]
        exact h3) ?assign ?body ?done ?stop
    case assign =>
      rintro l pre x W K ⟨⟨hno, oM1, oT1⟩, hBW⟩ hzz hK
      simp only [encThs]
      gi_wp2
      exact hK _ _ ((KeepsOthers.alloc _ _).from _) (Kq.of (Below.alloc (Below.refl _ _) (Nat.le_refl _) _)) ⟨⟨hno, oM1.alloc _, oT1.alloc _⟩, hBW.alloc hBW.size _⟩
        ⟨W.heap.size, by omega, by simp, heap_alloc_new _ _, rfl⟩
    case body =>
      rintro l pre x a' W hl ⟨r, hr⟩ hzz ⟨⟨hno, oM1, oT1⟩, hBW⟩ ⟨Bx, hBx, hBl, hbx, rfl⟩ hlt
      have cT := oT1.cell
      have hcx : ∀ i (h : i < 3), W.cell? ⟨Bx, i, none⟩ = some (#[Value.int .i64 x.st, .int .u8 x.ty, .int .i64 x.fl][i]) := fun i h => by
        rw [World.cell?, hbx]; simp [h]
      have x0 : W.cell? ⟨Bx, 0, none⟩ = some (.int .i64 x.st) := hcx 0 (by omega)
      have x1 : W.cell? ⟨Bx, 1, none⟩ = some (.int .u8 x.ty) := hcx 1 (by omega)
      have x2 : W.cell? ⟨Bx, 2, none⟩ = some (.int .i64 x.fl) := hcx 2 (by omega)
      have oE1 : One W (w.heap.size + 1) (.int .i64 0) 29 := oE.below hBW hs2
      have cE1 := oE1.cell
      have fE1 := oE1.free
      have hW1 : w.heap.size + 1 < W.heap.size := by omega
      have hW2 : w1.heap.size < W.heap.size := by omega
      have hW3 : w1.heap.size + 1 < W.heap.size := by omega
      have hrun := lookup_th oM1 x.name
      have HN := hid hno
      clear hcx hbx hno cE fE p0 p1 p2 p3 hr
      by_cases hn : x.name ∈ thNames pre
      · obtain ⟨y, hy⟩ := getA_thKs_some hn
        rw [hy] at hrun
        simp only [Option.getD_some, Option.isSome_some, encTh] at hrun
        gi_wp2
        refine ⟨((KeepsOthers.setCell _ _ _).trans (KeepsOthers.alloc _ _)).from _, ⟨rfl, ?_, (oE1.set _).alloc _⟩, ((hB1.trans (hBW.mono (by omega))).setCell (by show w.heap.size ≤ w.heap.size + 1; omega) _).alloc (by simp [World.setCell]; omega) _⟩
        intro hnd
        rw [thNames, List.map_append, List.nodup_append] at hnd
        exact hnd.2.2 _ hn _ (by simp) rfl
      · rw [getA_none_of hn] at hrun
        simp only [Option.getD_none, Option.isSome_none] at hrun
        gi_wp2_with (gi_at_mapUpdate
                     have hh := oM1.alloc (.cells #[.int .i64 0, .int .u8 0, .int .i64 0] 59)
                     refine wpListIn_update_map (vv := .agg #[.int .i64 x.st, .int .u8 x.ty, .int .i64 x.fl]) (strKey Try.underlying9) Try.underlying55 (by rfl) (by rfl) (by rfl) hh x.name (by rfl) (by rfl) ?_
                     intro w3 hmp hbt)
        have hmp := (putA_thKs hn) ▸ hmp
        have hsz3 := hbt.size
        rw [World.size_alloc] at hsz3
        refine ⟨((KeepsOthers.alloc _ _).from _).trans (hbt.keepsFrom (by omega)), (Kq.of (Below.alloc (Below.refl _ _) (Nat.le_refl _) _)).trans (Kq.but hbt (oM1.alloc _).isMap), ⟨?_, hmp, (oT1.alloc _).but hbt (by omega)⟩, ?_⟩
        · rw [thNames, List.map_append, List.nodup_append]
          refine ⟨HN.out, by simp, ?_⟩
          intro a ha b hb
          simp at hb
          rw [hb]
          exact fun e => hn (e ▸ ha)
        · exact (hBW.alloc hBW.size _).trans (hbt.below (Nat.le_refl _) (by simp; omega))
    case stop =>
      rintro D c pre W hD hpre ⟨⟨rfl, hnd, oE1⟩, hBW⟩ hK
      have hcl : p.clash = 6 := by
        rw [PgD.clash, if_neg (by rw [hck]; decide), if_pos]
        intro h
        obtain ⟨t, ht⟩ := hpre
        rw [← ht, thNames, List.map_append, List.nodup_append] at h
        exact hnd h.1
      gi_wp2
      exact nc_leaves1 6 _ hK (by omega) hBW oE1 hcl
    case done =>
      rintro D xs W hD rfl ⟨⟨hno, oM1, oT1⟩, hBW⟩ hK
      have q0 := (hBW.cell (p := ⟨w.heap.size, 0, none⟩) hs1).trans p0
      have q1 := (hBW.cell (p := ⟨w.heap.size, 1, none⟩) hs1).trans p1
      have q2 := (hBW.cell (p := ⟨w.heap.size, 2, none⟩) hs1).trans p2
      have q3 := (hBW.cell (p := ⟨w.heap.size, 3, none⟩) hs1).trans p3
      have HN := hid hno
      have hDl : D < W.heap.size := (Array.getElem?_eq_some_iff.1 hK).1
      clear hno
      gi_wp2_with (refine ⟨trivial, ?_⟩; gi_at_call 23; refine (callsIn_wide.2 (asked_any p [.int .i64 p.st, i, f, o] d w.heap.size _ ?_ ?_)).mono ?_; (exact IsPg.below (hBW.mono (by omega)) HPg.out); (omega); rintro e w3 ⟨rfl, hbox3, hww⟩)
      have hsz3 : w3.heap.size = W.heap.size + 1 := by rw [← hww]; simp
      have hB3 : Below W.heap.size W w3 := by rw [← hww]; exact (by repeat (first | with_reducible exact Below.refl W.heap.size W | with_reducible refine below_drewN ?_ _ | with_reducible refine Below.drew ?_ | with_reducible refine Below.alloc ?_ (by have hszz := Below.size (Below.refl W.heap.size W); first | omega | (simp; done) | (simp at hszz ⊢; omega)) _ | with_reducible refine Below.setCell ?_ (by have hszz := Below.size (Below.refl W.heap.size W); first | omega | (simp; done) | (simp at hszz ⊢; omega)) _))
      clear hww
      have oM3 := oM1.below hB3 (by omega)
      have oT3 := oT1.below hB3 (by omega)
      have hBW3 : Below w1.heap.size w1 w3 := hBW.trans (hB3.mono hBW.size)
      have hK3 : w3.heap[D]? = some (.deferred (some [])) := (hB3.block D hDl).trans hK
      clear oM1 oT1 hBW q0 q1 q2 q3
      refine wpIn_range_low rfl (by omega) (gf := 45) (lb := #[.pointer (some ⟨W.heap.size, 0, none⟩)]) rfl trivial (enters_of Try.func45 (by kernel_rfl) rfl)
        (asked_low _ (by omega) (W.heap.size + 1) w1.heap.size W.heap.size d p (PgD.count hck) w3 (by omega) hbox3) Kq.trans (Kq.put (by omega)) (Below.refl _ _) (fun _ => rfl)
        (fun pre A => (((∀ s ∈ pre, s ∈ thNames p.things) ∧ MapAt Value.string A w1.heap.size (thKs p.things) ∧ One A (w1.heap.size + 1) (.map (some w1.heap.size)) 55) ∧ A.heap[D]? = some (.deferred (some []))) ∧ Below w1.heap.size w1 A)
        (fun c pre A => ((c = .ret ∧ (∃ s ∈ pre, s ∉ thNames p.things) ∧ One A (w.heap.size + 1) (.int .i64 6) 29) ∧ A.heap[D]? = some (.deferred (some []))) ∧ Below w.heap.size w A)
        (Low.and (fun pre A A' hs hb => ⟨⟨hs.1.1, hs.1.2.1.below hb (by omega), hs.1.2.2.below hb (by omega)⟩, (hb.block D (by omega)).trans hs.2⟩) (low_below (by omega)))
        (fun c => Low.and (fun pre A A' hs hb => ⟨⟨hs.1.1, hs.1.2.1, hs.1.2.2.below hb (by omega)⟩, (hb.block D (by omega)).trans hs.2⟩) (low_below (by omega)))
        ⟨⟨⟨by simp, oM3, oT3⟩, hK3⟩, hBW3⟩
        (fun s a' A => a' = { tmps := #[.agg #[.int .i64 p.st, i, f, o], .pointer (some ⟨w.heap.size, 0, none⟩), .pointer (some ⟨w.heap.size + 1, 0, none⟩), .pointer (some ⟨w1.heap.size + 1, 0, none⟩), undef, undef, undef, undef, .string s, undef, undef, undef, undef, undef, .agg #[.int .i64 p.st, i, f, o], .bool true, .bool false, .map (some w1.heap.size), .agg #[.int .i64 p.st, i, f, o], .func (.func 44) #[] #[.pointer (some ⟨w1.heap.size + 2, 0, none⟩)], undef, undef, undef, undef, undef, undef, undef, undef, undef, undef, undef, undef, .agg #[.int .i64 p.st, i, f, o], .func (.func 45) #[] #[.pointer (some ⟨W.heap.size, 0, none⟩)], .string s, undef, undef, undef, undef, undef, undef, undef, undef, undef, undef, undef, undef, undef, undef, undef, undef, undef, undef, undef, undef, undef, undef], defers := [] })
        (fun s a' _ X Y row hs hg hr => hs) ?assign ?body ?done ?stop
      case assign =>
        rintro l pre s A K ⟨⟨⟨hno, oM4, oT4⟩, hK4⟩, hBW4⟩ hzz hK
        simp only [encStr]
        gi_wp2
        exact hK _ _ (KeepsFrom.refl _ _) (Kq.refl _ _ _) ⟨⟨⟨hno, oM4, oT4⟩, hK4⟩, hBW4⟩ rfl
      case body =>
        rintro l pre s a' A hl ⟨r, hr⟩ hzz ⟨⟨⟨hno, oM4, oT4⟩, hK4⟩, hBW4⟩ rfl hlt
        have cT := oT4.cell
        have oE1 : One A (w.heap.size + 1) (.int .i64 0) 29 := oE.below hBW4 hs2
        have cE1 := oE1.cell
        have fE1 := oE1.free
        have hW1 : w.heap.size + 1 < A.heap.size := by omega
        have hW2 : w1.heap.size < A.heap.size := by omega
        have hW3 : w1.heap.size + 1 < A.heap.size := by omega
        have hrun := lookup_th oM4 s
        have HN4 := hid hno
        clear hno hr
        by_cases hn : s ∈ thNames p.things
        · obtain ⟨y, hy⟩ := getA_thKs_some hn
          rw [hy] at hrun
          simp only [Option.getD_some, Option.isSome_some, encTh] at hrun
          gi_wp2
          refine ⟨(KeepsOthers.alloc _ _).from _, Kq.of (Below.alloc (Below.refl _ _) (Nat.le_refl _) _), ⟨⟨⟨?_, oM4.alloc _, oT4.alloc _⟩, (Below.heap_alloc _ _ _ (Array.getElem?_eq_some_iff.1 hK4).1).trans hK4⟩, hBW4.alloc hBW4.size _⟩⟩
          intro z hz
          rcases List.mem_append.1 hz with h | h
          · exact HN4.out z h
          · simp at h; rw [h]; exact hn
        · rw [getA_none_of hn] at hrun
          simp only [Option.getD_none, Option.isSome_none] at hrun
          gi_wp2
          refine ⟨((KeepsOthers.setCell _ _ _).trans (KeepsOthers.alloc _ _)).from _, ⟨⟨rfl, ⟨s, by simp, hn⟩, (oE1.set _).alloc _⟩, ?_⟩, ((hB1.trans (hBW4.mono (by omega))).setCell (by show w.heap.size ≤ w.heap.size + 1; omega) _).alloc (by simp [World.setCell]; omega) _⟩
          exact ((KeepsOthers.setCell _ _ _).trans (KeepsOthers.alloc _ _)).same _ _ hK4 rfl
      case stop =>
        rintro E c pre A hE hpre ⟨⟨⟨rfl, ⟨s, hs, hns⟩, oE1⟩, hKD⟩, hBA⟩ hKE
        have hcl : p.clash = 6 := by
          rw [PgD.clash, if_neg (by rw [hck]; decide), if_neg (by simpa using HN.out), if_pos]
          rw [Bool.eq_false_iff]
          intro h
          exact hns (memB_iff.1 (List.all_eq_true.1 h s (hpre.subset hs)))
        gi_wp2
        exact nc_leaves2 6 _ hKE hKD (by omega) (by omega) (by omega) hBA oE1 hcl
      case done =>
        rintro E xs A hE rfl ⟨⟨⟨hno, oM4, oT4⟩, hKD⟩, hBA⟩ hKE
        have hall : (p.asked.all fun s => memB s (thNames p.things)) = true := List.all_eq_true.2 fun s hs => memB_iff.2 (hno s hs)
        have q0 := (hBA.cell (p := ⟨w.heap.size, 0, none⟩) hs1).trans p0
        have q1 := (hBA.cell (p := ⟨w.heap.size, 1, none⟩) hs1).trans p1
        have q2 := (hBA.cell (p := ⟨w.heap.size, 2, none⟩) hs1).trans p2
        have q3 := (hBA.cell (p := ⟨w.heap.size, 3, none⟩) hs1).trans p3
        have oE1 : One A (w.heap.size + 1) (.int .i64 0) 29 := oE.below hBA hs2
        have HPA := hid (IsPg.below (hBA.mono (by omega)) HPg.out)
        have hD2 : D < A.heap.size := (Array.getElem?_eq_some_iff.1 hKD).1
        have hE2 : E < A.heap.size := (Array.getElem?_eq_some_iff.1 hKE).1
        have hA1 : w.heap.size < A.heap.size := by omega
        have hA2 : w.heap.size + 1 < A.heap.size := by omega
        have HN2 := hid hall
        obtain ⟨i2, f2, o2, he, _, _, ho2⟩ := HPA.out
        simp only [List.cons.injEq, and_true, true_and] at he
        obtain ⟨rfl, rfl, rfl⟩ := he
        obtain ⟨oa, oc, rfl, ol, hox⟩ := ho2.at_
        unfold maxLen at ol
        have HO := hid hox
        clear ho2 hox hno hall p0 p1 p2 p3 cE fE
        have oEA := oE1
        clear oE1 oE oM oT oM3 oT3 hbox hbox3
        gi_wp2
        gi_loopg [47] p.outs.length (fun k i W4 => ∃ j : Nat, j ≤ p.outs.length ∧ k = p.outs.length - j ∧ i = .int .i64 j ∧ (p.outs.take j).Nodup ∧ MapAt Value.string W4 A.heap.size (strKs (p.outs.take j)) ∧ Below A.heap.size A W4)
        case atStart => exact ⟨0, Nat.zero_le _, rfl, rfl, List.nodup_nil, MapAt.made' _ _ rfl, (Below.refl _ A).alloc (Nat.le_refl _) _⟩
        case round =>
          obtain ⟨j, hj, rfl, rfl, hnd, hmap, hW4⟩ := hrel
          have HND := hid hnd
          have hlm := hmap.lt
          have oE4 := oEA.below hW4 hA2
          have cE4 := oE4.cell
          have fE4 := oE4.free
          have hBf : Below w.heap.size w wr := hB1.trans ((hBA.mono (by omega)).trans (hW4.mono (by omega)))
          have hKD4 := (hW4.block D hD2).trans hKD
          have hKE4 := (hW4.block E hE2).trans hKE
          have hl1 : w.heap.size + 1 < wr.heap.size := by omega
          clear hnd
          by_cases hlt : j < p.outs.length
          · obtain ⟨b, off, rfl, hb, hc⟩ := HO.out.resolve_left (by intro h; rw [h] at hlt; simp at hlt)
            obtain ⟨cs, ⟨rfl, hs5⟩, _, h6⟩ := hc j hlt
            have k0 := (hW4.cell (p := ⟨b, off + j * 1 + 0, none⟩) (by show b < A.heap.size; omega)).trans (h6 0 (by simp))
            simp only [Nat.add_zero, Nat.mul_one, List.getElem_cons_zero] at k0
            clear hc h6
            have hsn := hid (show p.outs.take (j + 1) = p.outs.take j ++ [p.outs[j]] by rw [List.take_succ_eq_append_getElem hlt])
            have hrun := lookup_str hmap p.outs[j]
            generalize p.outs[j] = s at k0 hsn hs5 hrun
            by_cases hm : s ∈ p.outs.take j
            · rw [memB_iff.2 hm] at hrun
              have hcl : p.clash = 6 := by
                rw [PgD.clash, if_neg (by rw [hck]; decide), if_neg (by simpa using HN.out), if_neg (by rw [HN2.out]; decide), if_pos]
                intro h
                have h2 := h.sublist (List.take_sublist (j + 1) p.outs)
                rw [hsn.out, List.nodup_append] at h2
                exact h2.2.2 _ hm _ (by simp) rfl
              gi_wp2
              exact nc_leaves2 6 _ (((KeepsOthers.setCell _ _ _).same _ _ hKE4 rfl)) (((KeepsOthers.setCell _ _ _).same _ _ hKD4 rfl)) (by omega) (by omega) (by omega) (hBf.setCell (by show w.heap.size ≤ w.heap.size + 1; omega) _) (oE4.set _) hcl
            · rw [Bool.eq_false_iff.2 (fun e => hm (memB_iff.1 e))] at hrun
              gi_wp2_with (gi_at_mapUpdate
                           refine wpListIn_update_map (vv := .bool true) (strKey Try.underlying9) Try.underlying63 (by rfl) (by rfl) (by rfl) hmap s (by rfl) (by rfl) ?_
                           intro w5 hmp hbt)
              rw [putA_strKs hm, ← hsn.out] at hmp
              gi_roundg (p.outs.length - (j + 1))
              case rel =>
                refine ⟨j + 1, by omega, rfl, by go_num, ?_, hmp, hW4.trans (hbt.below (Nat.le_refl _) hW4.size)⟩
                rw [hsn.out, List.nodup_append]
                refine ⟨HND.out, by simp, ?_⟩
                intro a ha b hb
                simp at hb
                rw [hb]
                exact fun e => hm (e ▸ ha)
              case measure => omega
          · have hcl : p.clash = 0 := by
              rw [PgD.clash, if_neg (by rw [hck]; decide), if_neg (by simpa using HN.out), if_neg (by rw [HN2.out]; decide), if_neg]
              intro h
              have h2 := HND.out
              rw [List.take_of_length_le (by omega)] at h2
              exact h h2
            gi_wp2
            exact nc_leaves2 0 _ (((KeepsOthers.setCell _ _ _).same _ _ hKE4 rfl)) (((KeepsOthers.setCell _ _ _).same _ _ hKD4 rfl)) (by omega) (by omega) (by omega) (hBf.setCell (by show w.heap.size ≤ w.heap.size + 1; omega) _) (oE4.set _) hcl
theorem nameCheck_any (p : PgD) (cs : List Value) (d B : Nat) (w : World) (hx : IsPg B w d p cs) (hB : B ≤ w.heap.size) :
    Calls Try.prog 10 #[.agg cs.toArray] w (Ret (.int .i64 p.clash) w) := callsIn_wide.1 (nameCheck_in p cs d B w hx hB)
end Go.Proofs.Ytmepdfipigdjhaa
