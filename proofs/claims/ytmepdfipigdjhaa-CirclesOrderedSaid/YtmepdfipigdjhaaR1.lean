/- What anything asks for: exprs.Refs. -/
import Derived.Test.YtmepdfipigdjhaaE2
import Derived.Test.YtmepdfipigdjhaaM1
import Derived.Deep.AppendLies
import Derived.Laws.EntriesVeiled
namespace Go.Proofs.Ytmepdfipigdjhaa
open Go.RowKit
set_option linter.unusedSimpArgs false
set_option linter.unusedVariables false
def encRef (r : RefD) : Value := .agg #[.string r.name, .int .i64 r.ago]
theorem refKey : KeyOK Try.prog 74 encRef := by
  refine aggKey Try.underlying74 (fun x => ⟨_, rfl⟩) ?_ ?_ ?_
  · intro emp x w
    show (Instr.checkKey emp (9999 + 1) 74 _).run Try.prog w = _
    rw [Instr.checkKey, Sem.run_bind, run_underlying Try.underlying74, Result.andThen_ok]
    simp only [encRef]
    rw [← Array.forIn_toList]
    simp only [List.forIn_cons, List.forIn_nil, Sem.run_bind]
    have h1 : ∀ w, (Instr.checkKey emp 9999 9 (.string x.name)).run Try.prog w = .ok () w := fun w => by
      show (Instr.checkKey emp (9998 + 1) 9 _).run Try.prog w = _
      rw [Instr.checkKey, Sem.run_bind, run_underlying Try.underlying9, Result.andThen_ok]; rfl
    have h2 : ∀ w, (Instr.checkKey emp 9999 3 (.int .i64 x.ago)).run Try.prog w = .ok () w := fun w => by
      show (Instr.checkKey emp (9998 + 1) 3 _).run Try.prog w = _
      rw [Instr.checkKey, Sem.run_bind, run_underlying Try.underlying3, Result.andThen_ok]; rfl
    have p1 : ∀ w, (part 9 #[.string x.name, .int .i64 x.ago] 0).run Try.prog w = .ok (.string x.name) w := fun w => by kernel_rfl
    have p2 : ∀ w, (part 3 #[.string x.name, .int .i64 x.ago] 1).run Try.prog w = .ok (.int .i64 x.ago) w := fun w => by kernel_rfl
    simp [p1, p2, h1, h2, Result.andThen]
  · intro x y w
    have hS : Try.prog.underlying 74 = some (.struct (Try.prog.fieldsOf 74)) := by kernel_rfl
    have hp : Try.prog.stoodInHeld 74 = false := by kernel_rfl
    show (Op.equalIn (9999 + 1) 74 (.agg _) (.agg _)).run _ _ = _
    rw [run_equalIn_agg w 9999 74 _ _ hS hp]
    simp only [Program.fieldsOf, Try.underlying74]
    go_simp
    have : x = y ↔ x.name = y.name ∧ x.ago = y.ago := by obtain ⟨a, b⟩ := x; obtain ⟨c, d⟩ := y; simp
    have e : x.name.toList = y.name.toList ↔ x.name = y.name := by rw [← str_eq, beq_iff_eq]
    by_cases h1 : x.name = y.name <;> by_cases h2 : x.ago = y.ago <;> simp [e, this, h1, h2]
  · intro x
    show Instr.sameBits (9999 + 1) (.agg _) (.agg _) = true
    rw [Instr.sameBits]
    simp
    exact ⟨(by show (x.name == x.name) = true; rw [beq_toListBytes, str_eq]), (by show (IntKind.i64 == IntKind.i64 && x.ago == x.ago) = true; simp)⟩

mutual
/-- What a tree asks for, behind others. -/
def Ex.gather (ago : Int) (l : List RefD) : Ex → List RefD
  | .mk op _ s args => Ex.gatherL (if op = 19 then wrap64 (ago + 1) else ago) (if op = 3 ∧ ⟨s, ago⟩ ∉ l then l ++ [⟨s, ago⟩] else l) args
def Ex.gatherL (ago : Int) (l : List RefD) : List Ex → List RefD
  | [] => l
  | x :: r => Ex.gatherL ago (Ex.gather ago l x) r
end
def Ex.refs (x : Ex) : List RefD := x.gather 0 []
mutual
def Ex.count : Ex → Nat
  | .mk _ _ _ args => Ex.countL args + 1
def Ex.countL : List Ex → Nat
  | [] => 0
  | x :: r => Ex.count x + Ex.countL r
end
mutual
theorem gather_len : ∀ (x : Ex) (ago : Int) (l : List RefD), (x.gather ago l).length ≤ l.length + x.count
  | .mk op n s args, ago, l => by
    rw [Ex.gather, Ex.count]
    refine Nat.le_trans (gatherL_len args _ _) ?_
    split
    · simp; omega
    · omega
theorem gatherL_len : ∀ (r : List Ex) (ago : Int) (l : List RefD), (Ex.gatherL ago l r).length ≤ l.length + Ex.countL r
  | [], ago, l => by simp [Ex.gatherL, Ex.countL]
  | x :: r, ago, l => by
    rw [Ex.gatherL, Ex.countL]
    have h1 := gather_len x ago l
    have h2 := gatherL_len r ago (x.gather ago l)
    omega
end
def refCells (r : RefD) : List Value := [.string r.name, .int .i64 r.ago]
def refCap (b0 : Nat) : Value := .func (.func 51) #[] #[.pointer (some ⟨b0 + 3, 0, none⟩), .pointer (some ⟨b0 + 1, 0, none⟩), .pointer (some ⟨b0 + 4, 0, none⟩)]
def refKs (ks : List RefD) : List (RefD × Value) := ks.map fun r => (r, .bool true)
/-- What exprs.Refs keeps while it goes: its variables' blocks lie from b0 on. -/
structure RefSt (b0 : Nat) (ks : List RefD) (w : World) : Prop where
  tm : One w (b0 + 3) (.map (some (b0 + 2))) 97
  tg : One w (b0 + 4) (refCap b0) 98
  map : MapAt encRef w (b0 + 2) (refKs ks)
  tl : ∃ lv, One w (b0 + 1) lv 71 ∧ w.ownsRow (b0 + 5) 74 2 lv ks.length (ks.flatMap refCells)
theorem RefSt.alloc {b0 : Nat} {ks : List RefD} {w : World} (h : RefSt b0 ks w) (o : Obj) : RefSt b0 ks (w.alloc o) := by
  obtain ⟨lv, h1, h2⟩ := h.tl
  exact ⟨h.tm.alloc o, h.tg.alloc o, h.map.alloc o, lv, h1.alloc o, h2.alloc o⟩
theorem RefSt.lt {b0 : Nat} {ks : List RefD} {w : World} (h : RefSt b0 ks w) : b0 + 4 < w.heap.size := h.tg.lt
theorem getA_refKs (r : RefD) (ks : List RefD) : (getA r (refKs ks)).getD (.bool false) = .bool (decide (r ∈ ks)) := by
  induction ks with
  | nil => rfl
  | cons p l ih =>
    show (getA r ((p, _) :: refKs l)).getD _ = _
    rw [getA]
    by_cases h : p = r
    · simp [h]
    · have h' : ¬ r = p := fun e => h e.symm
      rw [if_neg h, ih]; simp [h']
theorem putA_refKs (r : RefD) (ks : List RefD) (h : r ∉ ks) : putA r (.bool true) (refKs ks) = refKs (ks ++ [r]) := by
  induction ks with
  | nil => rfl
  | cons p l ih =>
    show putA r _ ((p, _) :: refKs l) = (p, _) :: refKs (l ++ [r])
    rw [putA, if_neg (by intro e; exact h (by rw [← show p = r from e]; exact List.mem_cons_self)), ih (by intro e; exact h (List.mem_cons_of_mem _ e))]
theorem infoRef : (Try.prog.info? 74).map (fun i => (i.zero, i.size, i.bytes)) = some (some (.agg #[.string ⟨#[]⟩, .int .i64 0]), 2, 24) := by kernel_rfl

theorem lookup_ref {w : World} {ks : List RefD} {b : Nat} (h : MapAt encRef w b (refKs ks)) (s : ByteArray) (n : Int) (r : Bool) (hr : decide ((⟨s, n⟩ : RefD) ∈ ks) = r) :
    (Instr.lookup 97 (.map (some b)) (.agg #[.string s, .int .i64 n]) false).run Try.prog w = .ok (.bool r) w := by
  have := lookup_run refKey Try.underlying97 (fun w => Try.zeroValue4 w) h ⟨s, n⟩ false
  rw [getA_refKs, hr] at this
  exact this
def GoEnd (b0 : Nat) (ks : List RefD) (w : World) (e : Ending) (w' : World) : Prop := e = .returned (.tuple #[]) ∧ RefSt b0 ks w' ∧ Below b0 w w'


set_option maxRecDepth 100000 in
set_option maxHeartbeats 2000000 in
theorem go1_any (b0 : Nat) (d : Nat) : ∀ (op n : Int) (s : ByteArray) (args : List Ex) (v : Value) (B : Nat) (ago : Int) (ks : List RefD) (w : World), IsEx B w d (.mk op n s args) [.int .u8 op, .int .i64 n, .string s, v] → B ≤ b0 → RefSt b0 ks w → ks.length + (Ex.mk op n s args).count ≤ 4398046511104 →
    Calls Try.prog 51 #[.agg #[.int .u8 op, .int .i64 n, .string s, v], .int .i64 ago, .pointer (some ⟨b0 + 3, 0, none⟩), .pointer (some ⟨b0 + 1, 0, none⟩), .pointer (some ⟨b0 + 4, 0, none⟩)] w (GoEnd b0 ((Ex.mk op n s args).gather ago ks) w) := by
  induction d using Nat.strongRecOn with
  | _ d ih =>
    intro op n s args v B ago ks w hx0 hB hst hcnt
    cases d with
    | zero => exact hx0.elim
    | succ d =>
      obtain ⟨u, he, hs, hv⟩ := hx0
      simp only [List.cons.injEq, and_true, true_and] at he
      subst he
      obtain ⟨a, cap, rfl, hlen, hx⟩ := hv.exprs
      have HX := hid hx
      have hlen' := hlen
      unfold maxLen at hlen'
      clear hx hv
      have hlt := hst.lt
      have hlt1 : b0 + 1 < w.heap.size := by omega
      have hlt2 : b0 + 2 < w.heap.size := by omega
      have hlt3 : b0 + 3 < w.heap.size := by omega
      have cm := hst.tm.cell
      have cg := hst.tg.cell
      rw [refCap] at cg
      have hcn0 : ks.length + Ex.countL args + 1 ≤ 4398046511104 := by rw [Ex.count] at hcnt; omega
      by_cases h3 : op = 3
      · subst h3
        by_cases hm : (⟨s, ago⟩ : RefD) ∈ ks
        · have hd := decide_eq_true hm
          have hrun := lookup_ref ((hst.map.alloc (.cells #[.int .u8 3, .int .i64 n, .string s, .slice a args.length cap] 49)).alloc (.cells #[.string s, .int .i64 ago] 74)) s ago true hd
          clear hd
          go_enter Try.func51, Try.ntmps51
          go_wp2_with fail
          go_loopg [37] args.length (fun k i W => ∃ j : Nat, ∃ ks2 : List RefD, j ≤ args.length ∧ k = args.length - j ∧ i = .int .i64 j ∧ ks2.length + Ex.countL (args.drop j) ≤ 4398046511104 ∧ Ex.gatherL ago ks args = Ex.gatherL ago ks2 (args.drop j) ∧ RefSt b0 ks2 W ∧ Below b0 w W)
          case atStart => exact ⟨0, ks, by omega, by omega, rfl, by rw [List.drop_zero]; omega, by rw [List.drop_zero], (by repeat (first | with_reducible exact hst | with_reducible refine RefSt.alloc ?_ _)), (by repeat (first | with_reducible exact Below.refl b0 w | with_reducible refine below_drewN ?_ _ | with_reducible refine Below.drew ?_ | with_reducible refine Below.alloc ?_ (by have hszz := Below.size (Below.refl b0 w); first | omega | (simp; done) | (simp at hszz ⊢; omega)) _ | with_reducible refine Below.setCell ?_ (by have hszz := Below.size (Below.refl b0 w); first | omega | (simp; done) | (simp at hszz ⊢; omega)) _))⟩
          case round =>
            obtain ⟨j, ks2, hj, rfl, rfl, hcn, hg, hs2, hbW⟩ := hrel
            have HG := hid hg; clear hg
            have hl2 := hs2.lt
            have cg := hs2.tg.cell
            rw [refCap] at cg
            by_cases hj2 : j < args.length
            · obtain ⟨b, off, rfl, hbB, hcs⟩ := HX.out.resolve_left (by intro h; subst h; simp at hj2)
              obtain ⟨u, h0, h1, h2, h3, hex⟩ := hcs j hj2
              have hdr := hid (List.drop_eq_getElem_cons hj2)
              clear hcs
              generalize args[j] = xj at h0 h1 h2 h3 hex hdr
              obtain ⟨op2, n2, s2, args2⟩ := xj
              cases d with
              | zero => exact hex.elim
              | succ d' =>
                have hexW := hid (IsEx.below (Below.mono hbW hB) hex)
                obtain ⟨u2, he, hss, hsl⟩ := hex
                simp only [Ex.op, Ex.n, Ex.name, List.cons.injEq, and_true, true_and] at h0 h1 h2 he hexW
                subst he
                obtain ⟨a2, cap2, rfl, hsl⟩ := hsl
                have g0 := ((Below.mono hbW hB).cell (p := ⟨b, off + j * 4, none⟩) hbB).trans h0
                have g1 := ((Below.mono hbW hB).cell (p := ⟨b, off + j * 4 + 1, none⟩) hbB).trans h1
                have g2 := ((Below.mono hbW hB).cell (p := ⟨b, off + j * 4 + 2, none⟩) hbB).trans h2
                have g3 := ((Below.mono hbW hB).cell (p := ⟨b, off + j * 4 + 3, none⟩) hbB).trans h3
                clear h0 h1 h2 h3 hsl
                have hcn2 : ks2.length + (Ex.mk op2 n2 s2 args2).count ≤ 4398046511104 := by rw [hdr.out, Ex.countL] at hcn; omega
                have hcn3 : (Ex.gather ago ks2 (Ex.mk op2 n2 s2 args2)).length + Ex.countL (args.drop (j + 1)) ≤ 4398046511104 := by
                  have := gather_len (Ex.mk op2 n2 s2 args2) (ago) ks2
                  rw [hdr.out, Ex.countL] at hcn; omega
                go_wp2_with (go_at_call 51; refine (ih (d' + 1) (Nat.lt_succ_self _) op2 n2 s2 args2 _ B (ago) ks2 _ (by exact IsEx.below (by repeat (first | with_reducible exact Below.refl B wr | with_reducible refine below_drewN ?_ _ | with_reducible refine Below.drew ?_ | with_reducible refine Below.alloc ?_ (by have hszz := Below.size (Below.refl B wr); first | omega | (simp; done) | (simp at hszz ⊢; omega)) _ | with_reducible refine Below.setCell ?_ (by have hszz := Below.size (Below.refl B wr); first | omega | (simp; done) | (simp at hszz ⊢; omega)) _)) hexW.out) hB (by exact hs2.alloc _) hcn2).mono ?_; rintro e w3 ⟨rfl, hs3, hb3⟩)
                go_roundg (args.length - (j + 1))
                case rel => exact ⟨j + 1, _, by omega, rfl, by go_num, hcn3, by rw [HG.out, hdr.out, Ex.gatherL], hs3, hbW.trans ((((Below.refl b0 wr).alloc (by omega) _)).trans hb3)⟩
                case measure => omega
            · have hdr : args.drop j = [] := List.drop_of_length_le (by omega)
              have E2 := hid (show (Ex.mk 3 n s args).gather ago ks = ks2 by rw [Ex.gather]; rw [if_neg (by omega), if_neg (by intro h; exact h.2 hm)]; rw [HG.out, hdr, Ex.gatherL])
              clear hdr
              go_wp2_with fail
              go_end0
              exact ⟨rfl, by rw [E2.out]; exact hs2, hbW⟩

        · have hd := decide_eq_false hm
          obtain ⟨i0, hi, hz0, hz1, hz2⟩ := info_parts infoRef
          obtain ⟨lv, ol, hown⟩ := hst.tl
          have cl := ol.cell
          have fl := ol.free
          have hrun := lookup_ref ((hst.map.alloc (.cells #[.int .u8 3, .int .i64 n, .string s, .slice a args.length cap] 49)).alloc (.cells #[.string s, .int .i64 ago] 74)) s ago false hd
          clear hd
          go_enter Try.func51, Try.ntmps51
          go_wp2_with (first
            | (at_mapUpdate
               refine wpList_update_map (vv := .bool true) refKey Try.underlying97 (by rfl) rfl rfl ((hst.map.alloc _).alloc _) ⟨s, ago⟩ rfl rfl ?_
               intro w2 hmp hbt
               have o2 := One.but ((ol.alloc _).alloc _) hbt (by omega)
               have cl2 := o2.cell
               have fl2 := o2.free
               have hown2 := ((hown.alloc _).alloc _).kept hbt.grown (.inr (Ne.symm (own_ne hown (by omega))))
               have y0 := (hbt.cell (b := w.heap.size + 1) (o := 0) (by simp) (by omega)).trans (by simp : _ = some (Value.string s))
               have y1 := (hbt.cell (b := w.heap.size + 1) (o := 1) (by simp) (by omega)).trans (by simp : _ = some (Value.int .i64 ago))
               have x0 := (hbt.cell (b := w.heap.size) (o := 0) (by simp; omega) (by omega)).trans (by simp : _ = some (Value.int .u8 3))
               have x3 := (hbt.cell (b := w.heap.size) (o := 3) (by simp; omega) (by omega)).trans (by simp : _ = some (Value.slice a args.length cap))
               have hs2 := hbt.size
               simp only [World.size_alloc] at hs2)
            | (at_builtin
               refine wpList_append_own _ rfl _ _ 71 rfl (b0 + 5) 74 i0 _ 2 24 Try.underlying71 hi hz0 hz1 hz2 rfl (by decide) lv ks.length _ rfl (hown2.alloc _) ⟨w2.heap.size, 0, none⟩ 1 1 (refCells ⟨s, ago⟩) rfl rfl (World.news_of_block (cs := #[.string s, .int .i64 ago]) (t := 74) (fr := (0, 0)) (heap_alloc_new _ _)) ?_ ?_ ?_ ?_ ?_
               · simp [refCells, Value.oneCell']
               · unfold maxLen; omega
               · omega
               · simp; omega
               intro v' w3 hown3 hgrow _
               obtain ⟨g', cap', rfl⟩ := own_slice hown3
               have o3 := (o2.alloc _).grown hgrow (own_ne hown (by omega))
               have cl3 := o3.cell
               have fl3 := o3.free
               have xx0 := hgrow.cell (World.cell?_alloc_some _ _ _ (by rw [x0]; rfl) |>.trans x0) (own_ne' hown (Nat.le_refl _))
               have xx3 := hgrow.cell (World.cell?_alloc_some _ _ _ (by rw [x3]; rfl) |>.trans x3) (own_ne' hown (Nat.le_refl _))
               have hs3 := hgrow.size
               simp only [World.size_alloc] at hs3))
          have S3 : RefSt b0 (ks ++ [⟨s, ago⟩]) (w3.setCell ⟨b0 + 1, 0, none⟩ (.slice (some ⟨g', 0, none⟩) (ks.length + 1) cap')) := by
            refine ⟨?_, ?_, ?_, _, o3.set _, ?_⟩
            · exact (((One.but ((hst.tm.alloc _).alloc _) hbt (by omega)).alloc _).grown hgrow (own_ne hown (by omega))).other (by omega) _ _
            · exact (((One.but ((hst.tg.alloc _).alloc _) hbt (by omega)).alloc _).grown hgrow (own_ne hown (by omega))).other (by omega) _ _
            · have h := ((hmp.alloc _).grown hgrow (own_ne hown (by omega))).other (p := ⟨b0 + 1, 0, none⟩) (by show b0 + 2 ≠ b0 + 1; omega) (.slice (some ⟨g', 0, none⟩) (ks.length + 1) cap')
              rw [putA_refKs _ _ hm] at h
              exact h
            · have h := ownsRow_setCell_below hown3 (a := ⟨b0 + 1, 0, none⟩) (by show b0 + 1 < b0 + 5; omega) (.slice (some ⟨g', 0, none⟩) (ks.length + 1) cap')
              rw [List.length_append, List.flatMap_append, List.flatMap_singleton]
              exact h
          have B3 : Below b0 w (w3.setCell ⟨b0 + 1, 0, none⟩ (.slice (some ⟨g', 0, none⟩) (ks.length + 1) cap')) := by
            have h1 : Below b0 w w2 := (((Below.refl b0 w).alloc (by omega) _).alloc (by simp; omega) _).trans (hbt.below (by omega) (by simp; omega))
            have h2 : Below b0 w w3 := (h1.alloc (by omega) _).grown hgrow (by simp; omega) (fun k e => by have := (hown.lt k e).1; omega)
            exact h2.setCell (by show b0 ≤ b0 + 1; omega) _
          have HS3 := hid S3
          have HB3 := hid B3
          clear S3 B3
          go_loopg [37] args.length (fun k i W => ∃ j : Nat, ∃ ks2 : List RefD, j ≤ args.length ∧ k = args.length - j ∧ i = .int .i64 j ∧ ks2.length + Ex.countL (args.drop j) ≤ 4398046511104 ∧ Ex.gatherL ago (ks ++ [⟨s, ago⟩]) args = Ex.gatherL ago ks2 (args.drop j) ∧ RefSt b0 ks2 W ∧ Below b0 w W)
          case atStart => exact ⟨0, (ks ++ [⟨s, ago⟩]), by omega, by omega, rfl, by rw [List.drop_zero]; simp; omega, by rw [List.drop_zero], HS3.out, HB3.out⟩
          case round =>
            obtain ⟨j, ks2, hj, rfl, rfl, hcn, hg, hs2, hbW⟩ := hrel
            have HG := hid hg; clear hg
            have hl2 := hs2.lt
            have cg := hs2.tg.cell
            rw [refCap] at cg
            by_cases hj2 : j < args.length
            · obtain ⟨b, off, rfl, hbB, hcs⟩ := HX.out.resolve_left (by intro h; subst h; simp at hj2)
              obtain ⟨u, h0, h1, h2, h3, hex⟩ := hcs j hj2
              have hdr := hid (List.drop_eq_getElem_cons hj2)
              clear hcs
              generalize args[j] = xj at h0 h1 h2 h3 hex hdr
              obtain ⟨op2, n2, s2, args2⟩ := xj
              cases d with
              | zero => exact hex.elim
              | succ d' =>
                have hexW := hid (IsEx.below (Below.mono hbW hB) hex)
                obtain ⟨u2, he, hss, hsl⟩ := hex
                simp only [Ex.op, Ex.n, Ex.name, List.cons.injEq, and_true, true_and] at h0 h1 h2 he hexW
                subst he
                obtain ⟨a2, cap2, rfl, hsl⟩ := hsl
                have g0 := ((Below.mono hbW hB).cell (p := ⟨b, off + j * 4, none⟩) hbB).trans h0
                have g1 := ((Below.mono hbW hB).cell (p := ⟨b, off + j * 4 + 1, none⟩) hbB).trans h1
                have g2 := ((Below.mono hbW hB).cell (p := ⟨b, off + j * 4 + 2, none⟩) hbB).trans h2
                have g3 := ((Below.mono hbW hB).cell (p := ⟨b, off + j * 4 + 3, none⟩) hbB).trans h3
                clear h0 h1 h2 h3 hsl
                have hcn2 : ks2.length + (Ex.mk op2 n2 s2 args2).count ≤ 4398046511104 := by rw [hdr.out, Ex.countL] at hcn; omega
                have hcn3 : (Ex.gather ago ks2 (Ex.mk op2 n2 s2 args2)).length + Ex.countL (args.drop (j + 1)) ≤ 4398046511104 := by
                  have := gather_len (Ex.mk op2 n2 s2 args2) (ago) ks2
                  rw [hdr.out, Ex.countL] at hcn; omega
                go_wp2_with (go_at_call 51; refine (ih (d' + 1) (Nat.lt_succ_self _) op2 n2 s2 args2 _ B (ago) ks2 _ (by exact IsEx.below (by repeat (first | with_reducible exact Below.refl B wr | with_reducible refine below_drewN ?_ _ | with_reducible refine Below.drew ?_ | with_reducible refine Below.alloc ?_ (by have hszz := Below.size (Below.refl B wr); first | omega | (simp; done) | (simp at hszz ⊢; omega)) _ | with_reducible refine Below.setCell ?_ (by have hszz := Below.size (Below.refl B wr); first | omega | (simp; done) | (simp at hszz ⊢; omega)) _)) hexW.out) hB (by exact hs2.alloc _) hcn2).mono ?_; rintro e w3 ⟨rfl, hs3, hb3⟩)
                go_roundg (args.length - (j + 1))
                case rel => exact ⟨j + 1, _, by omega, rfl, by go_num, hcn3, by rw [HG.out, hdr.out, Ex.gatherL], hs3, hbW.trans ((((Below.refl b0 wr).alloc (by omega) _)).trans hb3)⟩
                case measure => omega
            · have hdr : args.drop j = [] := List.drop_of_length_le (by omega)
              have E2 := hid (show (Ex.mk 3 n s args).gather ago ks = ks2 by rw [Ex.gather]; rw [if_neg (by omega), if_pos ⟨rfl, hm⟩]; rw [HG.out, hdr, Ex.gatherL])
              clear hdr
              go_wp2_with fail
              go_end0
              exact ⟨rfl, by rw [E2.out]; exact hs2, hbW⟩

      · have h3' : (op == 3) = false := by simpa using h3
        by_cases h19 : op = 19
        · subst h19
          go_enter Try.func51, Try.ntmps51
          go_wp2_with fail
          go_loopg [37] args.length (fun k i W => ∃ j : Nat, ∃ ks2 : List RefD, j ≤ args.length ∧ k = args.length - j ∧ i = .int .i64 j ∧ ks2.length + Ex.countL (args.drop j) ≤ 4398046511104 ∧ Ex.gatherL (wrap64 (ago + 1)) ks args = Ex.gatherL (wrap64 (ago + 1)) ks2 (args.drop j) ∧ RefSt b0 ks2 W ∧ Below b0 w W)
          case atStart => exact ⟨0, ks, by omega, by omega, rfl, by rw [List.drop_zero]; omega, by rw [List.drop_zero], (by repeat (first | with_reducible exact hst | with_reducible refine RefSt.alloc ?_ _)), (by repeat (first | with_reducible exact Below.refl b0 w | with_reducible refine below_drewN ?_ _ | with_reducible refine Below.drew ?_ | with_reducible refine Below.alloc ?_ (by have hszz := Below.size (Below.refl b0 w); first | omega | (simp; done) | (simp at hszz ⊢; omega)) _ | with_reducible refine Below.setCell ?_ (by have hszz := Below.size (Below.refl b0 w); first | omega | (simp; done) | (simp at hszz ⊢; omega)) _))⟩
          case round =>
            obtain ⟨j, ks2, hj, rfl, rfl, hcn, hg, hs2, hbW⟩ := hrel
            have HG := hid hg; clear hg
            have hl2 := hs2.lt
            have cg := hs2.tg.cell
            rw [refCap] at cg
            by_cases hj2 : j < args.length
            · obtain ⟨b, off, rfl, hbB, hcs⟩ := HX.out.resolve_left (by intro h; subst h; simp at hj2)
              obtain ⟨u, h0, h1, h2, h3, hex⟩ := hcs j hj2
              have hdr := hid (List.drop_eq_getElem_cons hj2)
              clear hcs
              generalize args[j] = xj at h0 h1 h2 h3 hex hdr
              obtain ⟨op2, n2, s2, args2⟩ := xj
              cases d with
              | zero => exact hex.elim
              | succ d' =>
                have hexW := hid (IsEx.below (Below.mono hbW hB) hex)
                obtain ⟨u2, he, hss, hsl⟩ := hex
                simp only [Ex.op, Ex.n, Ex.name, List.cons.injEq, and_true, true_and] at h0 h1 h2 he hexW
                subst he
                obtain ⟨a2, cap2, rfl, hsl⟩ := hsl
                have g0 := ((Below.mono hbW hB).cell (p := ⟨b, off + j * 4, none⟩) hbB).trans h0
                have g1 := ((Below.mono hbW hB).cell (p := ⟨b, off + j * 4 + 1, none⟩) hbB).trans h1
                have g2 := ((Below.mono hbW hB).cell (p := ⟨b, off + j * 4 + 2, none⟩) hbB).trans h2
                have g3 := ((Below.mono hbW hB).cell (p := ⟨b, off + j * 4 + 3, none⟩) hbB).trans h3
                clear h0 h1 h2 h3 hsl
                have hcn2 : ks2.length + (Ex.mk op2 n2 s2 args2).count ≤ 4398046511104 := by rw [hdr.out, Ex.countL] at hcn; omega
                have hcn3 : (Ex.gather (wrap64 (ago + 1)) ks2 (Ex.mk op2 n2 s2 args2)).length + Ex.countL (args.drop (j + 1)) ≤ 4398046511104 := by
                  have := gather_len (Ex.mk op2 n2 s2 args2) ((wrap64 (ago + 1))) ks2
                  rw [hdr.out, Ex.countL] at hcn; omega
                go_wp2_with (go_at_call 51; refine (ih (d' + 1) (Nat.lt_succ_self _) op2 n2 s2 args2 _ B ((wrap64 (ago + 1))) ks2 _ (by exact IsEx.below (by repeat (first | with_reducible exact Below.refl B wr | with_reducible refine below_drewN ?_ _ | with_reducible refine Below.drew ?_ | with_reducible refine Below.alloc ?_ (by have hszz := Below.size (Below.refl B wr); first | omega | (simp; done) | (simp at hszz ⊢; omega)) _ | with_reducible refine Below.setCell ?_ (by have hszz := Below.size (Below.refl B wr); first | omega | (simp; done) | (simp at hszz ⊢; omega)) _)) hexW.out) hB (by exact hs2.alloc _) hcn2).mono ?_; rintro e w3 ⟨rfl, hs3, hb3⟩)
                go_roundg (args.length - (j + 1))
                case rel => exact ⟨j + 1, _, by omega, rfl, by go_num, hcn3, by rw [HG.out, hdr.out, Ex.gatherL], hs3, hbW.trans ((((Below.refl b0 wr).alloc (by omega) _)).trans hb3)⟩
                case measure => omega
            · have hdr : args.drop j = [] := List.drop_of_length_le (by omega)
              have E2 := hid (show (Ex.mk 19 n s args).gather ago ks = ks2 by rw [Ex.gather]; rw [if_pos rfl, if_neg (by intro h; exact h3 h.1)]; rw [HG.out, hdr, Ex.gatherL])
              clear hdr
              go_wp2_with fail
              go_end0
              exact ⟨rfl, by rw [E2.out]; exact hs2, hbW⟩

        · have h19' : (op == 19) = false := by simpa using h19
          go_enter Try.func51, Try.ntmps51
          go_wp2_with fail
          try simp only [h3', h19']
          go_loopg [37] args.length (fun k i W => ∃ j : Nat, ∃ ks2 : List RefD, j ≤ args.length ∧ k = args.length - j ∧ i = .int .i64 j ∧ ks2.length + Ex.countL (args.drop j) ≤ 4398046511104 ∧ Ex.gatherL ago ks args = Ex.gatherL ago ks2 (args.drop j) ∧ RefSt b0 ks2 W ∧ Below b0 w W)
          case atStart => exact ⟨0, ks, by omega, by omega, rfl, by rw [List.drop_zero]; omega, by rw [List.drop_zero], (by repeat (first | with_reducible exact hst | with_reducible refine RefSt.alloc ?_ _)), (by repeat (first | with_reducible exact Below.refl b0 w | with_reducible refine below_drewN ?_ _ | with_reducible refine Below.drew ?_ | with_reducible refine Below.alloc ?_ (by have hszz := Below.size (Below.refl b0 w); first | omega | (simp; done) | (simp at hszz ⊢; omega)) _ | with_reducible refine Below.setCell ?_ (by have hszz := Below.size (Below.refl b0 w); first | omega | (simp; done) | (simp at hszz ⊢; omega)) _))⟩
          case round =>
            obtain ⟨j, ks2, hj, rfl, rfl, hcn, hg, hs2, hbW⟩ := hrel
            have HG := hid hg; clear hg
            have hl2 := hs2.lt
            have cg := hs2.tg.cell
            rw [refCap] at cg
            by_cases hj2 : j < args.length
            · obtain ⟨b, off, rfl, hbB, hcs⟩ := HX.out.resolve_left (by intro h; subst h; simp at hj2)
              obtain ⟨u, h0, h1, h2, h3, hex⟩ := hcs j hj2
              have hdr := hid (List.drop_eq_getElem_cons hj2)
              clear hcs
              generalize args[j] = xj at h0 h1 h2 h3 hex hdr
              obtain ⟨op2, n2, s2, args2⟩ := xj
              cases d with
              | zero => exact hex.elim
              | succ d' =>
                have hexW := hid (IsEx.below (Below.mono hbW hB) hex)
                obtain ⟨u2, he, hss, hsl⟩ := hex
                simp only [Ex.op, Ex.n, Ex.name, List.cons.injEq, and_true, true_and] at h0 h1 h2 he hexW
                subst he
                obtain ⟨a2, cap2, rfl, hsl⟩ := hsl
                have g0 := ((Below.mono hbW hB).cell (p := ⟨b, off + j * 4, none⟩) hbB).trans h0
                have g1 := ((Below.mono hbW hB).cell (p := ⟨b, off + j * 4 + 1, none⟩) hbB).trans h1
                have g2 := ((Below.mono hbW hB).cell (p := ⟨b, off + j * 4 + 2, none⟩) hbB).trans h2
                have g3 := ((Below.mono hbW hB).cell (p := ⟨b, off + j * 4 + 3, none⟩) hbB).trans h3
                clear h0 h1 h2 h3 hsl
                have hcn2 : ks2.length + (Ex.mk op2 n2 s2 args2).count ≤ 4398046511104 := by rw [hdr.out, Ex.countL] at hcn; omega
                have hcn3 : (Ex.gather ago ks2 (Ex.mk op2 n2 s2 args2)).length + Ex.countL (args.drop (j + 1)) ≤ 4398046511104 := by
                  have := gather_len (Ex.mk op2 n2 s2 args2) ago ks2
                  rw [hdr.out, Ex.countL] at hcn; omega
                go_wp2_with (go_at_call 51; refine (ih (d' + 1) (Nat.lt_succ_self _) op2 n2 s2 args2 _ B ago ks2 _ (by exact IsEx.below (by repeat (first | with_reducible exact Below.refl B wr | with_reducible refine below_drewN ?_ _ | with_reducible refine Below.drew ?_ | with_reducible refine Below.alloc ?_ (by have hszz := Below.size (Below.refl B wr); first | omega | (simp; done) | (simp at hszz ⊢; omega)) _ | with_reducible refine Below.setCell ?_ (by have hszz := Below.size (Below.refl B wr); first | omega | (simp; done) | (simp at hszz ⊢; omega)) _)) hexW.out) hB (by exact hs2.alloc _) hcn2).mono ?_; rintro e w3 ⟨rfl, hs3, hb3⟩)
                go_roundg (args.length - (j + 1))
                case rel => exact ⟨j + 1, _, by omega, rfl, by go_num, hcn3, by rw [HG.out, hdr.out, Ex.gatherL], hs3, hbW.trans ((((Below.refl b0 wr).alloc (by omega) _)).trans hb3)⟩
                case measure => omega
            · have hdr : args.drop j = [] := List.drop_of_length_le (by omega)
              have E2 := hid (show (Ex.mk op n s args).gather ago ks = ks2 by rw [Ex.gather]; rw [if_neg h19, if_neg (by intro h; exact h3 h.1)]; rw [HG.out, hdr, Ex.gatherL])
              clear hdr
              go_wp2_with fail
              go_end0
              exact ⟨rfl, by rw [E2.out]; exact hs2, hbW⟩

end Go.Proofs.Ytmepdfipigdjhaa
