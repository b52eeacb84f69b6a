/- Ints in a row: sorting, searching. -/
import Derived.Test.YtmepdfipigdjhaaR2
import Derived.Test.YtmepdfipigdjhaaG1
import Derived.Test.YtmepdfipigdjhaaP2
import Derived.Test.YtmepdfipigdjhaaS1
namespace Go.Proofs.Ytmepdfipigdjhaa
open Go.RowKit
set_option linter.unusedSimpArgs false
set_option linter.unusedVariables false
/-- Ints in ascending order. -/
def sortI (l : List Int) : List Int := l.mergeSort fun x y => decide (x ≤ y)
theorem sortI_len (l : List Int) : (sortI l).length = l.length := by simp [sortI]
theorem sort_any (g cap : Nat) (zs : List Int) (w : World) (hc : ∀ j (h : j < zs.length), w.cell? ⟨g, j, none⟩ = some (.int .i64 zs[j])) (hf : ∀ j, j < zs.length → w.frozen? ⟨g, j, none⟩ = false)
    (hg : g < w.heap.size) (hl : zs.length < 4611686018427387904) :
    Calls Try.prog 46 #[.slice (some ⟨g, 0, none⟩) zs.length cap] w fun e w' => e = .returned (.tuple #[]) ∧ But g w w' ∧ ∀ j (h : j < zs.length), w'.cell? ⟨g, j, none⟩ = some (.int .i64 ((sortI zs)[j]'(by rw [sortI_len]; exact h))) := by
  have hH : Go.Sort.Holds (Value.int .i64) w g 0 zs.toArray := by
    intro j hj
    have hj2 : j < zs.length := by simpa using hj
    rw [Nat.zero_add]
    refine ⟨(hc j hj2).trans ?_, hf j hj2⟩
    rw [getElem!_pos zs.toArray j hj]; simp
  refine (Any.slices_Sort_int sortLay g 0 cap zs w hH hg hl).mono ?_
  rintro e w' ⟨rfl, n, os, rfl⟩
  refine ⟨rfl, ⟨rfl, rfl, rfl, ?_, ?_⟩, ?_⟩
  · simp [Go.Sort.grow, Go.Sort.putRow, Go.Sort.mapBlock, Go.Sort.ahead]
  · intro k hk hne
    show ((Go.Sort.putRow (Value.int .i64) (Go.Sort.ahead w n) g 0 _).heap ++ os)[k]? = _
    rw [Array.getElem?_append_left (by simpa [Go.Sort.putRow, Go.Sort.mapBlock, Go.Sort.ahead] using hk)]
    simp [Go.Sort.putRow, Go.Sort.mapBlock, Go.Sort.ahead, Array.getElem?_modify, Ne.symm hne]
  · intro j h
    have hs : j < (zs.mergeSort fun x y => decide (x ≤ y)).toArray.size := by simp; exact h
    rw [Go.Sort.cell?_grow _ _ _ (by simp [Go.Sort.putRow, Go.Sort.mapBlock, Go.Sort.ahead]; exact hg)]
    have h0 : Go.Sort.Holds (Value.int .i64) (Go.Sort.ahead w n) g 0 zs.toArray := hH
    have := Go.Sort.cell?_putRow (Value.int .i64) (Go.Sort.ahead w n) g 0 zs.toArray (zs.mergeSort fun x y => decide (x ≤ y)).toArray h0 (by simp) j hs
    rw [Nat.zero_add] at this
    rw [this, getElem!_pos (zs.mergeSort fun x y => decide (x ≤ y)).toArray j hs]
    simp [sortI]
theorem sort_none (p : Option Addr) (cap : Nat) (w : World) : Calls Try.prog 46 #[.slice p 0 cap] w fun e w' => e = .returned (.tuple #[]) ∧ w' = w :=
  Any.slices_Sort_int_none sortLay p cap w

/-- The first place at which p holds, or -1. -/
def placeZ {α : Type} (p : α → Bool) (l : List α) : Int := match l.findIdx? p with | some k => k | none => -1
theorem placeZ_some {α : Type} {p : α → Bool} {l : List α} {j : Nat} (h : j < l.length) (hp : p l[j] = true) (hno : ∀ m (_ : m < j) (h : m < l.length), p l[m] = false) : placeZ p l = j := by
  have : l.findIdx? p = some j := by
    rw [List.findIdx?_eq_some_iff_getElem]
    exact ⟨h, hp, fun m hm => by simp [hno m hm (by omega)]⟩
  rw [placeZ, this]
theorem placeZ_none {α : Type} {p : α → Bool} {l : List α} (hno : ∀ m (h : m < l.length), p l[m] = false) : placeZ p l = -1 := by
  have : l.findIdx? p = none := by
    rw [List.findIdx?_eq_none_iff]
    intro x hx
    obtain ⟨m, hm, rfl⟩ := List.getElem_of_mem hx
    exact hno m hm
  rw [placeZ, this]
theorem placeZ_any {α : Type} {p : α → Bool} {l : List α} : 0 ≤ placeZ p l ↔ l.any p = true := by
  rw [placeZ]
  cases h : l.findIdx? p with
  | none =>
    rw [List.findIdx?_eq_none_iff] at h
    simp only [List.any_eq_true]
    constructor
    · intro h2; exact absurd h2 (by decide)
    · rintro ⟨x, hx, hp⟩; rw [h x hx] at hp; cases hp
  | some k =>
    rw [List.findIdx?_eq_some_iff_getElem] at h
    obtain ⟨hk, hp, _⟩ := h
    exact ⟨fun _ => List.any_eq_true.2 ⟨_, List.getElem_mem hk, hp⟩, fun _ => Int.natCast_nonneg k⟩
/-- A call that answers this whole number. -/
def RetN (k : Int) (w : World) (e : Ending) (w' : World) : Prop := e = .returned (.int .i64 k) ∧ Below w.heap.size w w'

set_option maxHeartbeats 400000 in
theorem indexInt_any (xs : List Int) (v : Value) (x : Int) (w : World) (hv : IsSl w.heap.size w 1 IsInt xs v) :
    Calls Try.prog 63 #[v, .int .i64 x] w (RetN (placeZ (fun y => decide (y = x)) xs) w) := by
  obtain ⟨a, cap, rfl, hl, hx⟩ := hv.at_
  unfold maxLen at hl
  go_enter Try.func63, Try.ntmps63
  go_wp2_with fail
  go_loopg [8] xs.length (fun k i W => ∃ j : Nat, j ≤ xs.length ∧ k = xs.length - j ∧ i = .int .i64 j ∧ (∀ m (_ : m < j) (h : m < xs.length), xs[m] ≠ x) ∧ W = w)
  case atStart => exact ⟨0, by omega, by omega, rfl, fun m h => by omega, rfl⟩
  case round =>
    obtain ⟨j, hj, rfl, rfl, hno, rfl⟩ := hrel
    have HN := hid hno; clear hno
    by_cases hlt : j < xs.length
    · obtain ⟨b, off, rfl, hb, hc⟩ := hx.resolve_left (by intro h; subst h; simp at hlt)
      obtain ⟨cs, rfl, _, h6⟩ := hc j hlt
      have k0 := h6 0 (by simp)
      simp only [Nat.add_zero, Nat.mul_one, List.getElem_cons_zero] at k0
      clear hc h6
      by_cases he : xs[j] = x
      · have he2 : (x == xs[j]) = true := by simp [he]
        have hp := hid (placeZ_some (p := fun y => decide (y = x)) hlt (by simp [he]) (fun m hm h => by simpa using HN.out m hm h))
        clear he
        go_wp2_with fail
        go_ret
        exact ⟨ret_i64 hp.out.symm, Below.refl _ _⟩
      · have he2 : (x == xs[j]) = false := by simp [Ne.symm he]
        have HE := hid he
        clear he
        go_wp2_with fail
        go_roundg (xs.length - (j + 1))
        case rel =>
          refine ⟨j + 1, by omega, rfl, by go_num, fun m hm h => ?_, rfl⟩
          rcases Nat.lt_succ_iff_lt_or_eq.1 hm with h' | rfl
          · exact HN.out m h' h
          · exact HE.out
        case measure => omega
    · go_wp2_with fail
      go_ret
      exact ⟨ret_i64 (placeZ_none (fun m h => by simpa using HN.out m (by omega) h)).symm, Below.refl _ _⟩
theorem containsInt_any (xs : List Int) (v : Value) (x : Int) (w : World) (hv : IsSl w.heap.size w 1 IsInt xs v) :
    Calls Try.prog 50 #[v, .int .i64 x] w (RetB (xs.any fun y => decide (y = x)) w) := by
  obtain ⟨a, cap, rfl, hl, hx⟩ := hv.at_
  have hv2 : IsSl w.heap.size w 1 IsInt xs (.slice a xs.length cap) := hv
  clear hx
  have HV := hid hv2
  clear hv2 hv
  go_enter Try.func50, Try.ntmps50
  go_wp2_with (go_at_call 63; refine (indexInt_any xs _ x _ HV.out).mono ?_; rintro e w2 ⟨rfl, hb2⟩)
  go_ret
  exact ⟨ret_bool (by rw [Bool.eq_iff_iff]; simp only [decide_eq_true_eq]; exact placeZ_any), hb2⟩

set_option maxHeartbeats 1000000 in
theorem indexFuncFar (xs : List Int) (p : Int → Bool) (v : Value) (lb : Array Value) (w : World) (hv : IsSl w.heap.size w 1 IsInt xs v)
    (hp : ∀ x W, x ∈ xs → Below w.heap.size w W → Calls Try.prog 27 (#[.int .i64 x] ++ lb) W (RetB (p x) W)) :
    Calls Try.prog 26 #[v, .func (.func 27) #[] lb] w (RetN (placeZ p xs) w) := by
  obtain ⟨a, cap, rfl, hl, hx⟩ := hv.at_
  have HP := hid hp
  clear hp hv
  unfold maxLen at hl
  go_enter Try.func26, Try.ntmps26
  go_wp2_with fail
  go_loopg [8] xs.length (fun k i W => ∃ j : Nat, j ≤ xs.length ∧ k = xs.length - j ∧ i = .int .i64 j ∧ (∀ m (_ : m < j) (h : m < xs.length), p xs[m] = false) ∧ Below w.heap.size w W)
  case atStart => exact ⟨0, by omega, by omega, rfl, fun m h => by omega, Below.refl _ _⟩
  case round =>
    obtain ⟨j, hj, rfl, rfl, hno, hWB⟩ := hrel
    have HN := hid hno; clear hno
    by_cases hlt : j < xs.length
    · obtain ⟨b, off, rfl, hb, hc⟩ := hx.resolve_left (by intro h; subst h; simp at hlt)
      obtain ⟨cs, rfl, _, h6⟩ := hc j hlt
      have hcall := hid (fun W hW => HP.out xs[j] W (List.getElem_mem hlt) hW)
      have k0 := (hWB.cell (p := ⟨b, off + j * 1 + 0, none⟩) hb).trans (h6 0 (by simp))
      simp only [Nat.add_zero, Nat.mul_one, List.getElem_cons_zero] at k0
      clear hc h6
      cases hpx : p xs[j]
      · have HX := hid hpx
        go_wp2_with (go_at_call 27; refine (hcall.out _ (by repeat (first | with_reducible exact hWB | with_reducible refine below_drewN ?_ _ | with_reducible refine Below.drew ?_ | with_reducible refine Below.alloc ?_ (by have hszz := Below.size (hWB); first | omega | (simp; done) | (simp at hszz ⊢; omega)) _ | with_reducible refine Below.setCell ?_ (by have hszz := Below.size (hWB); first | omega | (simp; done) | (simp at hszz ⊢; omega)) _))).mono ?_; rintro e w2 ⟨rfl, hb2⟩)
        go_roundg (xs.length - (j + 1))
        case rel =>
          refine ⟨j + 1, by omega, rfl, by go_num, fun m hm h => ?_, bthen (w := w) (by repeat (first | with_reducible exact hWB | with_reducible refine below_drewN ?_ _ | with_reducible refine Below.drew ?_ | with_reducible refine Below.alloc ?_ (by have hszz := Below.size (hWB); first | omega | (simp; done) | (simp at hszz ⊢; omega)) _ | with_reducible refine Below.setCell ?_ (by have hszz := Below.size (hWB); first | omega | (simp; done) | (simp at hszz ⊢; omega)) _)) hb2⟩
          rcases Nat.lt_succ_iff_lt_or_eq.1 hm with h' | rfl
          · exact HN.out m h' h
          · exact HX.out
        case measure => omega
      · have HX := hid hpx
        go_wp2_with (go_at_call 27; refine (hcall.out _ (by repeat (first | with_reducible exact hWB | with_reducible refine below_drewN ?_ _ | with_reducible refine Below.drew ?_ | with_reducible refine Below.alloc ?_ (by have hszz := Below.size (hWB); first | omega | (simp; done) | (simp at hszz ⊢; omega)) _ | with_reducible refine Below.setCell ?_ (by have hszz := Below.size (hWB); first | omega | (simp; done) | (simp at hszz ⊢; omega)) _))).mono ?_; rintro e w2 ⟨rfl, hb2⟩)
        go_ret
        exact ⟨ret_i64 (placeZ_some hlt HX.out HN.out).symm, bthen (w := w) (by repeat (first | with_reducible exact hWB | with_reducible refine below_drewN ?_ _ | with_reducible refine Below.drew ?_ | with_reducible refine Below.alloc ?_ (by have hszz := Below.size (hWB); first | omega | (simp; done) | (simp at hszz ⊢; omega)) _ | with_reducible refine Below.setCell ?_ (by have hszz := Below.size (hWB); first | omega | (simp; done) | (simp at hszz ⊢; omega)) _)) hb2⟩
    · go_wp2_with fail
      go_ret
      exact ⟨ret_i64 (placeZ_none fun m h => HN.out m (by omega) h).symm, hWB⟩

set_option maxHeartbeats 1000000 in
theorem indexFuncEdge (xs : List Int) (p : Int → Bool) (v : Value) (lb : Array Value) (w : World) (hv : IsSl w.heap.size w 1 IsInt xs v)
    (hp : ∀ x W, x ∈ xs → Below w.heap.size w W → Calls Try.prog 49 (#[.int .i64 x] ++ lb) W (RetB (p x) W)) :
    Calls Try.prog 26 #[v, .func (.func 49) #[] lb] w (RetN (placeZ p xs) w) := by
  obtain ⟨a, cap, rfl, hl, hx⟩ := hv.at_
  have HP := hid hp
  clear hp hv
  unfold maxLen at hl
  go_enter Try.func26, Try.ntmps26
  go_wp2_with fail
  go_loopg [8] xs.length (fun k i W => ∃ j : Nat, j ≤ xs.length ∧ k = xs.length - j ∧ i = .int .i64 j ∧ (∀ m (_ : m < j) (h : m < xs.length), p xs[m] = false) ∧ Below w.heap.size w W)
  case atStart => exact ⟨0, by omega, by omega, rfl, fun m h => by omega, Below.refl _ _⟩
  case round =>
    obtain ⟨j, hj, rfl, rfl, hno, hWB⟩ := hrel
    have HN := hid hno; clear hno
    by_cases hlt : j < xs.length
    · obtain ⟨b, off, rfl, hb, hc⟩ := hx.resolve_left (by intro h; subst h; simp at hlt)
      obtain ⟨cs, rfl, _, h6⟩ := hc j hlt
      have hcall := hid (fun W hW => HP.out xs[j] W (List.getElem_mem hlt) hW)
      have k0 := (hWB.cell (p := ⟨b, off + j * 1 + 0, none⟩) hb).trans (h6 0 (by simp))
      simp only [Nat.add_zero, Nat.mul_one, List.getElem_cons_zero] at k0
      clear hc h6
      cases hpx : p xs[j]
      · have HX := hid hpx
        go_wp2_with (go_at_call 49; refine (hcall.out _ (by repeat (first | with_reducible exact hWB | with_reducible refine below_drewN ?_ _ | with_reducible refine Below.drew ?_ | with_reducible refine Below.alloc ?_ (by have hszz := Below.size (hWB); first | omega | (simp; done) | (simp at hszz ⊢; omega)) _ | with_reducible refine Below.setCell ?_ (by have hszz := Below.size (hWB); first | omega | (simp; done) | (simp at hszz ⊢; omega)) _))).mono ?_; rintro e w2 ⟨rfl, hb2⟩)
        go_roundg (xs.length - (j + 1))
        case rel =>
          refine ⟨j + 1, by omega, rfl, by go_num, fun m hm h => ?_, bthen (w := w) (by repeat (first | with_reducible exact hWB | with_reducible refine below_drewN ?_ _ | with_reducible refine Below.drew ?_ | with_reducible refine Below.alloc ?_ (by have hszz := Below.size (hWB); first | omega | (simp; done) | (simp at hszz ⊢; omega)) _ | with_reducible refine Below.setCell ?_ (by have hszz := Below.size (hWB); first | omega | (simp; done) | (simp at hszz ⊢; omega)) _)) hb2⟩
          rcases Nat.lt_succ_iff_lt_or_eq.1 hm with h' | rfl
          · exact HN.out m h' h
          · exact HX.out
        case measure => omega
      · have HX := hid hpx
        go_wp2_with (go_at_call 49; refine (hcall.out _ (by repeat (first | with_reducible exact hWB | with_reducible refine below_drewN ?_ _ | with_reducible refine Below.drew ?_ | with_reducible refine Below.alloc ?_ (by have hszz := Below.size (hWB); first | omega | (simp; done) | (simp at hszz ⊢; omega)) _ | with_reducible refine Below.setCell ?_ (by have hszz := Below.size (hWB); first | omega | (simp; done) | (simp at hszz ⊢; omega)) _))).mono ?_; rintro e w2 ⟨rfl, hb2⟩)
        go_ret
        exact ⟨ret_i64 (placeZ_some hlt HX.out HN.out).symm, bthen (w := w) (by repeat (first | with_reducible exact hWB | with_reducible refine below_drewN ?_ _ | with_reducible refine Below.drew ?_ | with_reducible refine Below.alloc ?_ (by have hszz := Below.size (hWB); first | omega | (simp; done) | (simp at hszz ⊢; omega)) _ | with_reducible refine Below.setCell ?_ (by have hszz := Below.size (hWB); first | omega | (simp; done) | (simp at hszz ⊢; omega)) _)) hb2⟩
    · go_wp2_with fail
      go_ret
      exact ⟨ret_i64 (placeZ_none fun m h => HN.out m (by omega) h).symm, hWB⟩

theorem containsFuncEdge (xs : List Int) (p : Int → Bool) (v : Value) (lb : Array Value) (w : World) (hv : IsSl w.heap.size w 1 IsInt xs v)
    (hp : ∀ x W, x ∈ xs → Below w.heap.size w W → Calls Try.prog 49 (#[.int .i64 x] ++ lb) W (RetB (p x) W)) :
    Calls Try.prog 48 #[v, .func (.func 49) #[] lb] w (RetB (xs.any p) w) := by
  have HP := hid hp
  clear hp
  go_enter Try.func48, Try.ntmps48
  go_wp2_with (go_at_call 26; refine (indexFuncEdge xs p v lb _ hv HP.out).mono ?_; rintro e w2 ⟨rfl, hb2⟩)
  go_ret
  exact ⟨ret_bool (by rw [Bool.eq_iff_iff]; simp only [decide_eq_true_eq]; exact placeZ_any), hb2⟩
end Go.Proofs.Ytmepdfipigdjhaa
