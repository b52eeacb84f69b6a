/- How great a program is, is told: some number, whatever it is. -/
import Derived.Test.YtmepdfipigdjhaaA3
namespace Go.Proofs.Ytmepdfipigdjhaa
open Go.RowKit
set_option linter.unusedSimpArgs false
set_option linter.unusedVariables false
/-- Some number; all that was there is as it was. -/
def SomeN (w : World) (e : Ending) (w' : World) : Prop := ∃ n : Int, e = .returned (.int .i64 n) ∧ Below w.heap.size w w'
theorem insSize_any (xs : List InD) (v : Value) (w : World) (hv : IsSl w.heap.size w 3 IsIn xs v) :
    Calls Try.prog 32 #[v] w (SomeN w) := by
  obtain ⟨a, cap, rfl, hl, hx⟩ := hv.at_
  unfold maxLen at hl
  go_enter Try.func32, Try.ntmps32
  go_wp2_with fail
  go_loopg [3, 4] xs.length (fun k n i W => ∃ (j : Nat) (z : Int), j ≤ xs.length ∧ k = xs.length - j ∧ i = .int .i64 j ∧ n = .int .i64 z ∧ W = w)
  case atStart => exact ⟨0, _, by omega, by omega, rfl, rfl, rfl⟩
  case round =>
    obtain ⟨j, z, hj, rfl, rfl, rfl, rfl⟩ := hrel
    by_cases hlt : j < xs.length
    · obtain ⟨b, off, rfl, hb, hc⟩ := hx.resolve_left (by intro h; subst h; simp at hlt)
      obtain ⟨cs, ⟨rfl, h5⟩, _, h6⟩ := hc j hlt
      have k0 := h6 0 (by simp)
      simp only [Nat.add_zero, List.getElem_cons_zero] at k0
      unfold maxLen at h5
      clear h6 hc hx
      generalize xs[j].name = s at k0 h5
      go_wp2_with fail
      all_goals
        first
        | (go_roundg (xs.length - (j + 1))
           case rel => exact ⟨j + 1, _, by omega, rfl, by go_num, rfl, rfl⟩
           case measure => omega)
        | (go_ret
           exact ⟨_, rfl, Below.refl _ _⟩)
    · go_wp2_with fail
      go_ret
      exact ⟨_, rfl, Below.refl _ _⟩
theorem textsSize_any (xs : List ByteArray) (v : Value) (w : World) (hv : IsSl w.heap.size w 1 IsStr xs v) :
    Calls Try.prog 34 #[v] w (SomeN w) := by
  obtain ⟨a, cap, rfl, hl, hx⟩ := hv.strs
  unfold maxLen at hl
  go_enter Try.func34, Try.ntmps34
  go_wp2_with fail
  go_loopg [3, 4] xs.length (fun k n i W => ∃ (j : Nat) (z : Int), j ≤ xs.length ∧ k = xs.length - j ∧ i = .int .i64 j ∧ n = .int .i64 z ∧ W = w)
  case atStart => exact ⟨0, _, by omega, by omega, rfl, rfl, rfl⟩
  case round =>
    obtain ⟨j, z, hj, rfl, rfl, rfl, rfl⟩ := hrel
    by_cases hlt : j < xs.length
    · obtain ⟨b, off, rfl, hb, hc⟩ := hx.resolve_left (by intro h; subst h; simp at hlt)
      obtain ⟨k0, h5⟩ := hc j hlt
      unfold maxLen at h5
      clear hc hx
      generalize xs[j] = s at k0 h5
      go_wp2_with fail
      all_goals
        first
        | (go_roundg (xs.length - (j + 1))
           case rel => exact ⟨j + 1, _, by omega, rfl, by go_num, rfl, rfl⟩
           case measure => omega)
        | (go_ret
           exact ⟨_, rfl, Below.refl _ _⟩)
    · go_wp2_with fail
      go_ret
      exact ⟨_, rfl, Below.refl _ _⟩
set_option maxHeartbeats 1000000 in
theorem exprSize_all (d : Nat) : (∀ (B : Nat) (x : Ex) (cs : List Value) (w : World), IsEx B w d x cs → B ≤ w.heap.size → Calls Try.prog 65 #[.agg cs.toArray] w (SomeN w)) ∧
    (∀ (B : Nat) (xs : List Ex) (v : Value) (w : World), IsSl B w 4 (IsEx B w d) xs v → B ≤ w.heap.size → Calls Try.prog 84 #[v] w (SomeN w)) := by
  induction d with
  | zero =>
    refine ⟨fun B x cs w h _ => h.elim, fun B xs v w h hB => ?_⟩
    obtain ⟨a, cap, rfl, hl, hx⟩ := h.at_
    have hnil : xs = [] := by
      rcases hx with h | ⟨b, off, _, _, hc⟩
      · exact h
      · cases xs with
        | nil => rfl
        | cons x r => obtain ⟨cs, h1, _⟩ := hc 0 (by simp); exact h1.elim
    subst hnil
    clear hx h hl
    go_enter Try.func84, Try.ntmps84
    go_wp2_with fail
    go_loopg [3, 4] 0 (fun k n i W => k = 0 ∧ i = .int .i64 0 ∧ (∃ z : Int, n = .int .i64 z) ∧ W = w)
    case atStart => exact ⟨rfl, rfl, ⟨_, rfl⟩, rfl⟩
    case round =>
      obtain ⟨rfl, rfl, ⟨z, rfl⟩, rfl⟩ := hrel
      go_wp2_with fail
      go_ret
      exact ⟨_, rfl, Below.refl _ _⟩
  | succ d ih =>
    have h1 : ∀ (B : Nat) (x : Ex) (cs : List Value) (w : World), IsEx B w (d + 1) x cs → B ≤ w.heap.size → Calls Try.prog 65 #[.agg cs.toArray] w (SomeN w) := by
      intro B x cs w h hB
      obtain ⟨op, n, s, args⟩ := x
      obtain ⟨v, rfl, hs, hsl⟩ := h
      unfold maxLen at hs
      have HS := hid hsl
      obtain ⟨a, cap, rfl, hsl⟩ := hsl
      clear hsl
      go_enter Try.func65, Try.ntmps65
      go_wp2_with (go_at_call 84; refine (ih.2 B args _ _ (by exact exs_below HS.out (by repeat (first | with_reducible exact Below.refl B w | with_reducible refine below_drewN ?_ _ | with_reducible refine Below.drew ?_ | with_reducible refine Below.alloc ?_ (by have hszz := Below.size (Below.refl B w); first | omega | (simp; done) | (simp at hszz ⊢; omega)) _ | with_reducible refine Below.setCell ?_ (by have hszz := Below.size (Below.refl B w); first | omega | (simp; done) | (simp at hszz ⊢; omega)) _))) (by simp; omega)).mono ?_; rintro e w3 ⟨n3, rfl, hb3⟩)
      all_goals
        go_ret
        first
        | exact ⟨_, rfl, Below.trans (by repeat (first | with_reducible exact Below.refl w.heap.size w | with_reducible refine below_drewN ?_ _ | with_reducible refine Below.drew ?_ | with_reducible refine Below.alloc ?_ (by have hszz := Below.size (Below.refl w.heap.size w); first | omega | (simp; done) | (simp at hszz ⊢; omega)) _ | with_reducible refine Below.setCell ?_ (by have hszz := Below.size (Below.refl w.heap.size w); first | omega | (simp; done) | (simp at hszz ⊢; omega)) _)) (hb3.mono (by simp))⟩
        | exact ⟨_, rfl, (by repeat (first | with_reducible exact Below.refl w.heap.size w | with_reducible refine below_drewN ?_ _ | with_reducible refine Below.drew ?_ | with_reducible refine Below.alloc ?_ (by have hszz := Below.size (Below.refl w.heap.size w); first | omega | (simp; done) | (simp at hszz ⊢; omega)) _ | with_reducible refine Below.setCell ?_ (by have hszz := Below.size (Below.refl w.heap.size w); first | omega | (simp; done) | (simp at hszz ⊢; omega)) _))⟩
    refine ⟨h1, ?_⟩
    intro B xs v w h hB
    obtain ⟨a, cap, rfl, hl, hx⟩ := h.at_
    unfold maxLen at hl
    go_enter Try.func84, Try.ntmps84
    go_wp2_with fail
    go_loopg [3, 4] xs.length (fun k n i W => ∃ (j : Nat) (z : Int), j ≤ xs.length ∧ k = xs.length - j ∧ i = .int .i64 j ∧ n = .int .i64 z ∧ Below w.heap.size w W)
    case atStart => exact ⟨0, _, by omega, by omega, rfl, rfl, Below.refl _ _⟩
    case round =>
      obtain ⟨j, z, hj, rfl, rfl, rfl, hW⟩ := hrel
      by_cases hlt : j < xs.length
      · obtain ⟨b, off, rfl, hb, hc⟩ := hx.resolve_left (by intro h; subst h; simp at hlt)
        obtain ⟨cs, h5, _, h6⟩ := hc j hlt
        have h5W := hid (IsEx.mono (Nat.le_refl _) (fun b o hb' => (bcell hW).1 b o (by omega)) _ _ _ h5)
        obtain ⟨x0, x1, x2, x3, rfl⟩ := h5.four
        have k0 := (hW.cell (p := ⟨b, off + j * 4 + 0, none⟩) (by show b < w.heap.size; omega)).trans (h6 0 (by simp))
        have k1 := (hW.cell (p := ⟨b, off + j * 4 + 1, none⟩) (by show b < w.heap.size; omega)).trans (h6 1 (by simp))
        have k2 := (hW.cell (p := ⟨b, off + j * 4 + 2, none⟩) (by show b < w.heap.size; omega)).trans (h6 2 (by simp))
        have k3 := (hW.cell (p := ⟨b, off + j * 4 + 3, none⟩) (by show b < w.heap.size; omega)).trans (h6 3 (by simp))
        simp only [Nat.add_zero, List.getElem_cons_zero, List.getElem_cons_succ] at k0 k1 k2 k3
        have hsz := hW.size
        clear h5 h6 hc hx
        go_wp2_with (go_at_call 65; refine (h1 B _ _ _ h5W.out (by omega)).mono ?_; rintro e w3 ⟨n3, rfl, hb3⟩)
        all_goals
          first
          | (go_roundg (xs.length - (j + 1))
             case rel => exact ⟨j + 1, _, by omega, rfl, by go_num, rfl, hW.trans (hb3.mono hsz)⟩
             case measure => omega)
          | (go_ret
             exact ⟨_, rfl, hW⟩)
      · go_wp2_with fail
        go_ret
        exact ⟨_, rfl, hW⟩
theorem exprSize_any (d B : Nat) (x : Ex) (cs : List Value) (w : World) (h : IsEx B w d x cs) (hB : B ≤ w.heap.size) : Calls Try.prog 65 #[.agg cs.toArray] w (SomeN w) := (exprSize_all d).1 B x cs w h hB
theorem flowSize_any (d B : Nat) (x : FlD) (cs : List Value) (w : World) (h : IsFl B w d x cs) (hB : B ≤ w.heap.size) : Calls Try.prog 53 #[.agg cs.toArray] w (SomeN w) := by
  obtain ⟨es, rfl, hs, hx⟩ := h
  have HX := hid hx
  obtain ⟨x0, x1, x2, x3, rfl⟩ := hx.four
  unfold maxLen at hs
  clear hx
  go_enter Try.func53, Try.ntmps53
  go_wp2_with (go_at_call 65; refine (exprSize_any d B x.body _ _ (IsEx.below (by repeat (first | with_reducible exact Below.refl B w | with_reducible refine below_drewN ?_ _ | with_reducible refine Below.drew ?_ | with_reducible refine Below.alloc ?_ (by have hszz := Below.size (Below.refl B w); first | omega | (simp; done) | (simp at hszz ⊢; omega)) _ | with_reducible refine Below.setCell ?_ (by have hszz := Below.size (Below.refl B w); first | omega | (simp; done) | (simp at hszz ⊢; omega)) _)) HX.out) (by simp; omega)).mono ?_; rintro e w3 ⟨n3, rfl, hb3⟩)
  all_goals
    go_ret
    first
    | exact ⟨_, rfl, Below.trans (by repeat (first | with_reducible exact Below.refl w.heap.size w | with_reducible refine below_drewN ?_ _ | with_reducible refine Below.drew ?_ | with_reducible refine Below.alloc ?_ (by have hszz := Below.size (Below.refl w.heap.size w); first | omega | (simp; done) | (simp at hszz ⊢; omega)) _ | with_reducible refine Below.setCell ?_ (by have hszz := Below.size (Below.refl w.heap.size w); first | omega | (simp; done) | (simp at hszz ⊢; omega)) _)) (hb3.mono (by simp))⟩
    | exact ⟨_, rfl, (by repeat (first | with_reducible exact Below.refl w.heap.size w | with_reducible refine below_drewN ?_ _ | with_reducible refine Below.drew ?_ | with_reducible refine Below.alloc ?_ (by have hszz := Below.size (Below.refl w.heap.size w); first | omega | (simp; done) | (simp at hszz ⊢; omega)) _ | with_reducible refine Below.setCell ?_ (by have hszz := Below.size (Below.refl w.heap.size w); first | omega | (simp; done) | (simp at hszz ⊢; omega)) _))⟩
theorem flowsSize_any (d B : Nat) (xs : List FlD) (v : Value) (w : World) (h : IsSl B w 8 (IsFl B w d) xs v) (hB : B ≤ w.heap.size) :
    Calls Try.prog 33 #[v] w (SomeN w) := by
  obtain ⟨a, cap, rfl, hl, hx⟩ := h.at_
  unfold maxLen at hl
  go_enter Try.func33, Try.ntmps33
  go_wp2_with fail
  go_loopg [3, 4] xs.length (fun k n i W => ∃ (j : Nat) (z : Int), j ≤ xs.length ∧ k = xs.length - j ∧ i = .int .i64 j ∧ n = .int .i64 z ∧ Below w.heap.size w W)
  case atStart => exact ⟨0, _, by omega, by omega, rfl, rfl, Below.refl _ _⟩
  case round =>
    obtain ⟨j, z, hj, rfl, rfl, rfl, hW⟩ := hrel
    by_cases hlt : j < xs.length
    · obtain ⟨b, off, rfl, hb, hc⟩ := hx.resolve_left (by intro h; subst h; simp at hlt)
      obtain ⟨cs, h5, _, h6⟩ := hc j hlt
      have h5W := hid (h5.mono (Nat.le_refl _) (fun b o hb' => (bcell hW).1 b o (by omega)))
      obtain ⟨es, rfl, hs, hex⟩ := h5
      obtain ⟨x0, x1, x2, x3, rfl⟩ := hex.four
      have k0 := (hW.cell (p := ⟨b, off + j * 8 + 0, none⟩) (by show b < w.heap.size; omega)).trans (h6 0 (by simp))
      have k1 := (hW.cell (p := ⟨b, off + j * 8 + 1, none⟩) (by show b < w.heap.size; omega)).trans (h6 1 (by simp))
      have k2 := (hW.cell (p := ⟨b, off + j * 8 + 2, none⟩) (by show b < w.heap.size; omega)).trans (h6 2 (by simp))
      have k3 := (hW.cell (p := ⟨b, off + j * 8 + 3, none⟩) (by show b < w.heap.size; omega)).trans (h6 3 (by simp))
      have k4 := (hW.cell (p := ⟨b, off + j * 8 + 4, none⟩) (by show b < w.heap.size; omega)).trans (h6 4 (by simp))
      have k5 := (hW.cell (p := ⟨b, off + j * 8 + 5, none⟩) (by show b < w.heap.size; omega)).trans (h6 5 (by simp))
      have k6 := (hW.cell (p := ⟨b, off + j * 8 + 6, none⟩) (by show b < w.heap.size; omega)).trans (h6 6 (by simp))
      have k7 := (hW.cell (p := ⟨b, off + j * 8 + 7, none⟩) (by show b < w.heap.size; omega)).trans (h6 7 (by simp))
      simp only [Nat.add_zero, List.cons_append, List.nil_append, List.getElem_cons_zero, List.getElem_cons_succ] at k0 k1 k2 k3 k4 k5 k6 k7 h5W
      have hsz := hW.size
      clear hex h6 hc hx hs
      generalize xs[j] = x at k0 k1 k2 k3 h5W
      go_wp2_with (go_at_call 53; refine (flowSize_any d B x _ _ h5W.out (by omega)).mono ?_; rintro e w3 ⟨n3, rfl, hb3⟩)
      all_goals
        first
        | (go_roundg (xs.length - (j + 1))
           case rel => exact ⟨j + 1, _, by omega, rfl, by go_num, rfl, hW.trans (hb3.mono hsz)⟩
           case measure => omega)
        | (go_ret
           exact ⟨_, rfl, hW⟩)
    · go_wp2_with fail
      go_ret
      exact ⟨_, rfl, hW⟩
set_option maxHeartbeats 1000000 in
theorem progSize_any (p : PgD) (cs : List Value) (d B : Nat) (w : World) (hx : IsPg B w d p cs) (hB : B ≤ w.heap.size) :
    Calls Try.prog 20 #[.agg cs.toArray] w (SomeN w) := by
  obtain ⟨i, f, o, rfl, hi, hf, ho⟩ := hx
  have HI := hid hi
  have HF := hid hf
  have HO := hid ho
  clear hi hf ho
  go_enter Try.func20, Try.ntmps20
  go_wp2_with (first
    | (go_at_call 32; refine (insSize_any p.ins i _ (by exact HI.out.mono (fun _ _ _ h => h) (by simp; omega) (fun b o' h => (bcell (B := w.heap.size) (by repeat (first | with_reducible exact Below.refl w.heap.size w | with_reducible refine below_drewN ?_ _ | with_reducible refine Below.drew ?_ | with_reducible refine Below.alloc ?_ (by have hszz := Below.size (Below.refl w.heap.size w); first | omega | (simp; done) | (simp at hszz ⊢; omega)) _ | with_reducible refine Below.setCell ?_ (by have hszz := Below.size (Below.refl w.heap.size w); first | omega | (simp; done) | (simp at hszz ⊢; omega)) _))).1 _ _ (by omega)))).mono ?_; rintro e w1 ⟨n1, rfl, hb1⟩
       have hs1 : w.heap.size < w1.heap.size := (by have := hb1.size; rw [World.size_alloc] at this; omega)
       have p2 := (hb1.cell (p := ⟨w.heap.size, 2, none⟩) (by simp)).trans (by simp : _ = some f)
       have p3 := (hb1.cell (p := ⟨w.heap.size, 3, none⟩) (by simp)).trans (by simp : _ = some o)
       have hB1 : Below w.heap.size w w1 := Below.trans (by repeat (first | with_reducible exact Below.refl w.heap.size w | with_reducible refine below_drewN ?_ _ | with_reducible refine Below.drew ?_ | with_reducible refine Below.alloc ?_ (by have hszz := Below.size (Below.refl w.heap.size w); first | omega | (simp; done) | (simp at hszz ⊢; omega)) _ | with_reducible refine Below.setCell ?_ (by have hszz := Below.size (Below.refl w.heap.size w); first | omega | (simp; done) | (simp at hszz ⊢; omega)) _)) (hb1.mono (by simp))
       clear hb1)
    | (go_at_call 33; refine (flowsSize_any d B p.flows f _ (by exact HF.out.mono (fun _ _ _ h => h.mono (Nat.le_refl _) (fun b o' h => (bcell hB1).1 _ _ (by omega))) (Nat.le_refl _) (fun b o' h => (bcell hB1).1 _ _ (by omega))) (by omega)).mono ?_; rintro e w2 ⟨n2, rfl, hb2⟩
       have hs2 := hb2.size
       have p3' := (hb2.cell (p := ⟨w.heap.size, 3, none⟩) hs1).trans p3
       have hB2 : Below w.heap.size w w2 := hB1.trans (hb2.mono (by omega))
       clear hb2)
    | (go_at_call 34; refine (textsSize_any p.outs o _ (by exact HO.out.mono (fun _ _ _ h => h) (by omega) (fun b o' h => (bcell hB2).1 _ _ (by omega)))).mono ?_; rintro e w3 ⟨n3, rfl, hb3⟩
       have hB3 : Below w.heap.size w w3 := hB2.trans (hb3.mono (by omega))
       clear hb3))
  all_goals
    go_ret
    first
    | exact ⟨_, rfl, hB3⟩
    | exact ⟨_, rfl, hB2⟩
    | exact ⟨_, rfl, hB1⟩
/-- Some answer; all that was there is as it was. -/
def SomeB (w : World) (e : Ending) (w' : World) : Prop := ∃ b : Bool, e = .returned (.bool b) ∧ Below w.heap.size w w'
set_option maxHeartbeats 1000000 in
theorem great_any (p : PgD) (cs : List Value) (d B : Nat) (w : World) (hx : IsPg B w d p cs) (hB : B ≤ w.heap.size) :
    Calls Try.prog 9 #[.agg cs.toArray] w (SomeB w) := by
  have HX := hid hx
  obtain ⟨i, f, o, rfl, hi, hf, ho⟩ := hx
  obtain ⟨ia, ic, rfl, il, _⟩ := hi.at_
  obtain ⟨fa, fc, rfl, fl, _⟩ := hf.at_
  obtain ⟨oa, oc, rfl, ol, _⟩ := ho.at_
  clear hi hf ho
  go_enter Try.func9, Try.ntmps9
  go_wp2_with (go_at_call 20; refine (progSize_any p _ d B _ (by exact HX.out.mono (Nat.le_refl _) (fun b o' h => (bcell (B := w.heap.size) (by repeat (first | with_reducible exact Below.refl w.heap.size w | with_reducible refine below_drewN ?_ _ | with_reducible refine Below.drew ?_ | with_reducible refine Below.alloc ?_ (by have hszz := Below.size (Below.refl w.heap.size w); first | omega | (simp; done) | (simp at hszz ⊢; omega)) _ | with_reducible refine Below.setCell ?_ (by have hszz := Below.size (Below.refl w.heap.size w); first | omega | (simp; done) | (simp at hszz ⊢; omega)) _))).1 _ _ (by omega))) (by simp; omega)).mono ?_; rintro e w1 ⟨n1, rfl, hb1⟩)
  all_goals
    go_ret
    first
    | exact ⟨_, rfl, Below.trans (by repeat (first | with_reducible exact Below.refl w.heap.size w | with_reducible refine below_drewN ?_ _ | with_reducible refine Below.drew ?_ | with_reducible refine Below.alloc ?_ (by have hszz := Below.size (Below.refl w.heap.size w); first | omega | (simp; done) | (simp at hszz ⊢; omega)) _ | with_reducible refine Below.setCell ?_ (by have hszz := Below.size (Below.refl w.heap.size w); first | omega | (simp; done) | (simp at hszz ⊢; omega)) _)) (hb1.mono (by simp))⟩
    | exact ⟨_, rfl, (by repeat (first | with_reducible exact Below.refl w.heap.size w | with_reducible refine below_drewN ?_ _ | with_reducible refine Below.drew ?_ | with_reducible refine Below.alloc ?_ (by have hszz := Below.size (Below.refl w.heap.size w); first | omega | (simp; done) | (simp at hszz ⊢; omega)) _ | with_reducible refine Below.setCell ?_ (by have hszz := Below.size (Below.refl w.heap.size w); first | omega | (simp; done) | (simp at hszz ⊢; omega)) _))⟩
end Go.Proofs.Ytmepdfipigdjhaa
