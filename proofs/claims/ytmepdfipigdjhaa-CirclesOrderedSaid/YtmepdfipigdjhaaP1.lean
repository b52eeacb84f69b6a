/- Whether a program may be: progs.Check and all that it calls. -/
import Derived.Test.YtmepdfipigdjhaaE2
namespace Go.Proofs.Ytmepdfipigdjhaa
open Go.RowKit
set_option linter.unusedSimpArgs false
set_option linter.unusedVariables false

def mayB (stations : Int) (name : ByteArray) (t at_ : Int) : Bool := nameB name && (decide (t = 1) || decide (t = 2)) && decide (1 ≤ at_) && decide (at_ ≤ stations)
set_option maxHeartbeats 400000 in
theorem may_any (st : Int) (s : ByteArray) (t a : Int) (w : World) (hs : s.size ≤ maxLen) :
    Calls Try.prog 37 #[.int .i64 st, .string s, .int .u8 t, .int .i64 a] w (RetB (mayB st s t a) w) := by
  have hB := Below.refl w.heap.size w
  cases hn : nameB s
  · have HN := hid hn
    go_enter Try.func37, Try.ntmps37
    go_wp2_with (go_at_call 43; refine (name_any _ _ hs).mono ?_; rintro e w2 ⟨rfl, hb2⟩; replace hB := bthen (w := w) (by repeat (first | with_reducible exact hB | with_reducible refine below_drewN ?_ _ | with_reducible refine Below.drew ?_ | with_reducible refine Below.alloc ?_ (by have hszz := Below.size (hB); first | omega | (simp; done) | (simp at hszz ⊢; omega)) _ | with_reducible refine Below.setCell ?_ (by have hszz := Below.size (hB); first | omega | (simp; done) | (simp at hszz ⊢; omega)) _)) hb2; clear hb2)
    go_ret
    exact ⟨ret_bool (by simp [mayB, HN.out]), hB⟩
  · have HN := hid hn
    by_cases h1 : t = 1
    · subst h1
      go_enter Try.func37, Try.ntmps37
      go_wp2_with (go_at_call 43; refine (name_any _ _ hs).mono ?_; rintro e w2 ⟨rfl, hb2⟩; replace hB := bthen (w := w) (by repeat (first | with_reducible exact hB | with_reducible refine below_drewN ?_ _ | with_reducible refine Below.drew ?_ | with_reducible refine Below.alloc ?_ (by have hszz := Below.size (hB); first | omega | (simp; done) | (simp at hszz ⊢; omega)) _ | with_reducible refine Below.setCell ?_ (by have hszz := Below.size (hB); first | omega | (simp; done) | (simp at hszz ⊢; omega)) _)) hb2; clear hb2)
      all_goals
        go_ret
        exact ⟨ret_bool (by rw [Bool.eq_iff_iff]; simp [mayB, HN.out, *]; try omega), hB⟩
    · by_cases h2 : t = 2
      · subst h2
        go_enter Try.func37, Try.ntmps37
        go_wp2_with (go_at_call 43; refine (name_any _ _ hs).mono ?_; rintro e w2 ⟨rfl, hb2⟩; replace hB := bthen (w := w) (by repeat (first | with_reducible exact hB | with_reducible refine below_drewN ?_ _ | with_reducible refine Below.drew ?_ | with_reducible refine Below.alloc ?_ (by have hszz := Below.size (hB); first | omega | (simp; done) | (simp at hszz ⊢; omega)) _ | with_reducible refine Below.setCell ?_ (by have hszz := Below.size (hB); first | omega | (simp; done) | (simp at hszz ⊢; omega)) _)) hb2; clear hb2)
        all_goals
          go_ret
          exact ⟨ret_bool (by rw [Bool.eq_iff_iff]; simp [mayB, HN.out, *]; try omega), hB⟩
      · have h1' : (t == 1) = false := by simpa using h1
        have h2' : (t == 2) = false := by simpa using h2
        go_enter Try.func37, Try.ntmps37
        go_wp2_with (go_at_call 43; refine (name_any _ _ hs).mono ?_; rintro e w2 ⟨rfl, hb2⟩; replace hB := bthen (w := w) (by repeat (first | with_reducible exact hB | with_reducible refine below_drewN ?_ _ | with_reducible refine Below.drew ?_ | with_reducible refine Below.alloc ?_ (by have hszz := Below.size (hB); first | omega | (simp; done) | (simp at hszz ⊢; omega)) _ | with_reducible refine Below.setCell ?_ (by have hszz := Below.size (hB); first | omega | (simp; done) | (simp at hszz ⊢; omega)) _)) hb2; clear hb2)
        all_goals
          go_ret
          exact ⟨ret_bool (by simp [mayB, HN.out, h1, h2]), hB⟩

theorem len4 (l : List Value) (h : l.length = 4) : ∃ a b c d, l = [a, b, c, d] := by
  match l, h with
  | [a, b, c, d], _ => exact ⟨a, b, c, d, rfl⟩
/-- The cells of a slice's element. -/
theorem IsSl.at_ {α : Type} {B : Nat} {w : World} {k : Nat} {R : α → List Value → Prop} {xs : List α} {v : Value} (h : IsSl B w k R xs v) :
    ∃ a cap, v = .slice a xs.length cap ∧ xs.length ≤ maxLen ∧ (xs = [] ∨ ∃ b off, a = some ⟨b, off, none⟩ ∧ b < B ∧ ∀ i (h : i < xs.length), ∃ cs, R xs[i] cs ∧ cs.length = k ∧ ∀ j (hj : j < cs.length), w.cell? ⟨b, off + i * k + j, none⟩ = some cs[j]) := by
  obtain ⟨a, cap, rfl, h1, h2, h3⟩ := h
  exact ⟨a, cap, rfl, by omega, h3⟩

set_option maxHeartbeats 1000000 in
theorem indexFuncIn (xs : List InD) (p : InD → Bool) (v : Value) (lb : Array Value) (w : World)  (hv : IsSl w.heap.size w 3 IsIn xs v)
    (hp : ∀ x cs W, IsIn x cs → x ∈ xs → Below w.heap.size w W → Calls Try.prog 36 (#[.agg cs.toArray] ++ lb) W (RetB (p x) W)) :
    Calls Try.prog 54 #[v, .func (.func 36) #[] lb] w (Found (xs.any p = true) w) := by
  obtain ⟨a, cap, rfl, hl, hx⟩ := hv.at_
  have HP := hid hp
  have HV := hid hv
  clear hp hv
  unfold maxLen at hl
  go_enter Try.func54, Try.ntmps54
  go_wp2_with fail
  go_loopg [8] xs.length (fun k i W => ∃ j : Nat, j ≤ xs.length ∧ k = xs.length - j ∧ i = .int .i64 j ∧ (∀ m (_ : m < j) (h : m < xs.length), p xs[m] = false) ∧ Below w.heap.size w W)
  case atStart => exact ⟨0, by omega, by omega, rfl, fun m h => by omega, Below.refl _ _⟩
  case round =>
    obtain ⟨j, hj, rfl, rfl, hno, hWB⟩ := hrel
    have HN := hid hno; clear hno
    by_cases hlt : j < xs.length
    · obtain ⟨b, off, rfl, hb, hc⟩ := hx.resolve_left (by intro h; subst h; simp at hlt)
      obtain ⟨cs, h5, h5', h6⟩ := hc j hlt
      have hcall := hid (fun W hW => HP.out _ cs W h5 (List.getElem_mem hlt) hW)
      obtain ⟨rfl, _⟩ := h5
      have k0 := (hWB.cell (p := ⟨b, off + j * 3 + 0, none⟩) hb).trans (h6 0 (by simp))
      have k1 := (hWB.cell (p := ⟨b, off + j * 3 + 1, none⟩) hb).trans (h6 1 (by simp))
      have k2 := (hWB.cell (p := ⟨b, off + j * 3 + 2, none⟩) hb).trans (h6 2 (by simp))
      simp only [Nat.add_zero, List.getElem_cons_zero, List.getElem_cons_succ] at k0 k1 k2
      clear hc h6
      cases hpx : p xs[j]
      · have HX := hid hpx
        go_wp2_with (go_at_call 36; refine (hcall.out _ (by repeat (first | with_reducible exact hWB | with_reducible refine below_drewN ?_ _ | with_reducible refine Below.drew ?_ | with_reducible refine Below.alloc ?_ (by have hszz := Below.size (hWB); first | omega | (simp; done) | (simp at hszz ⊢; omega)) _ | with_reducible refine Below.setCell ?_ (by have hszz := Below.size (hWB); first | omega | (simp; done) | (simp at hszz ⊢; omega)) _))).mono ?_; rintro e w2 ⟨rfl, hb2⟩)
        go_roundg (xs.length - (j + 1))
        case rel =>
          refine ⟨j + 1, by omega, rfl, by go_num, fun m hm h => ?_, bthen (w := w) (by repeat (first | with_reducible exact hWB | with_reducible refine below_drewN ?_ _ | with_reducible refine Below.drew ?_ | with_reducible refine Below.alloc ?_ (by have hszz := Below.size (hWB); first | omega | (simp; done) | (simp at hszz ⊢; omega)) _ | with_reducible refine Below.setCell ?_ (by have hszz := Below.size (hWB); first | omega | (simp; done) | (simp at hszz ⊢; omega)) _)) hb2⟩
          rcases Nat.lt_succ_iff_lt_or_eq.1 hm with h' | rfl
          · exact HN.out m h' h
          · exact HX.out
        case measure => omega
      · have HX := hid hpx
        go_wp2_with (go_at_call 36; refine (hcall.out _ (by repeat (first | with_reducible exact hWB | with_reducible refine below_drewN ?_ _ | with_reducible refine Below.drew ?_ | with_reducible refine Below.alloc ?_ (by have hszz := Below.size (hWB); first | omega | (simp; done) | (simp at hszz ⊢; omega)) _ | with_reducible refine Below.setCell ?_ (by have hszz := Below.size (hWB); first | omega | (simp; done) | (simp at hszz ⊢; omega)) _))).mono ?_; rintro e w2 ⟨rfl, hb2⟩)
        go_ret
        exact ⟨j, rfl, ⟨fun _ => List.any_eq_true.2 ⟨xs[j], List.getElem_mem hlt, HX.out⟩, fun _ => by omega⟩, bthen (w := w) (by repeat (first | with_reducible exact hWB | with_reducible refine below_drewN ?_ _ | with_reducible refine Below.drew ?_ | with_reducible refine Below.alloc ?_ (by have hszz := Below.size (hWB); first | omega | (simp; done) | (simp at hszz ⊢; omega)) _ | with_reducible refine Below.setCell ?_ (by have hszz := Below.size (hWB); first | omega | (simp; done) | (simp at hszz ⊢; omega)) _)) hb2⟩
    · go_wp2_with fail
      go_ret
      refine ⟨-1, rfl, ⟨fun h => by omega, fun h => ?_⟩, hWB⟩
      obtain ⟨x, hmx, hpx⟩ := List.any_eq_true.1 h
      obtain ⟨m, hm', rfl⟩ := List.getElem_of_mem hmx
      rw [HN.out m (by omega) hm'] at hpx
      exact absurd hpx (by simp)

theorem containsFuncIn (xs : List InD) (p : InD → Bool) (v : Value) (lb : Array Value) (w : World)  (hv : IsSl w.heap.size w 3 IsIn xs v)
    (hp : ∀ x cs W, IsIn x cs → x ∈ xs → Below w.heap.size w W → Calls Try.prog 36 (#[.agg cs.toArray] ++ lb) W (RetB (p x) W)) :
    Calls Try.prog 35 #[v, .func (.func 36) #[] lb] w (RetB (xs.any p) w) := by
  have HP := hid hp
  clear hp
  go_enter Try.func35, Try.ntmps35
  go_wp2_with (go_at_call 54; refine (indexFuncIn xs p v lb _  hv HP.out).mono ?_; rintro e w2 ⟨k, rfl, hk, hb2⟩; have HK := hid hk; clear hk)
  go_ret
  exact ⟨ret_bool (by rw [Bool.eq_iff_iff]; simp only [decide_eq_true_eq]; exact HK.out), hb2⟩

set_option maxHeartbeats 1000000 in
theorem indexFuncStr (xs : List ByteArray) (p : ByteArray → Bool) (v : Value) (lb : Array Value) (w : World)  (hv : IsSl w.heap.size w 1 IsStr xs v)
    (hp : ∀ x cs W, IsStr x cs → x ∈ xs → Below w.heap.size w W → Calls Try.prog 42 (#[.string x] ++ lb) W (RetB (p x) W)) :
    Calls Try.prog 57 #[v, .func (.func 42) #[] lb] w (Found (xs.any p = true) w) := by
  obtain ⟨a, cap, rfl, hl, hx⟩ := hv.at_
  have HP := hid hp
  have HV := hid hv
  clear hp hv
  unfold maxLen at hl
  go_enter Try.func57, Try.ntmps57
  go_wp2_with fail
  go_loopg [8] xs.length (fun k i W => ∃ j : Nat, j ≤ xs.length ∧ k = xs.length - j ∧ i = .int .i64 j ∧ (∀ m (_ : m < j) (h : m < xs.length), p xs[m] = false) ∧ Below w.heap.size w W)
  case atStart => exact ⟨0, by omega, by omega, rfl, fun m h => by omega, Below.refl _ _⟩
  case round =>
    obtain ⟨j, hj, rfl, rfl, hno, hWB⟩ := hrel
    have HN := hid hno; clear hno
    by_cases hlt : j < xs.length
    · obtain ⟨b, off, rfl, hb, hc⟩ := hx.resolve_left (by intro h; subst h; simp at hlt)
      obtain ⟨cs, h5, h5', h6⟩ := hc j hlt
      have hcall := hid (fun W hW => HP.out _ cs W h5 (List.getElem_mem hlt) hW)
      obtain ⟨rfl, _⟩ := h5
      have k0 := (hWB.cell (p := ⟨b, off + j * 1 + 0, none⟩) hb).trans (h6 0 (by simp))
      simp only [Nat.add_zero, Nat.mul_one, List.getElem_cons_zero] at k0
      clear hc h6
      cases hpx : p xs[j]
      · have HX := hid hpx
        go_wp2_with (go_at_call 42; refine (hcall.out _ (by repeat (first | with_reducible exact hWB | with_reducible refine below_drewN ?_ _ | with_reducible refine Below.drew ?_ | with_reducible refine Below.alloc ?_ (by have hszz := Below.size (hWB); first | omega | (simp; done) | (simp at hszz ⊢; omega)) _ | with_reducible refine Below.setCell ?_ (by have hszz := Below.size (hWB); first | omega | (simp; done) | (simp at hszz ⊢; omega)) _))).mono ?_; rintro e w2 ⟨rfl, hb2⟩)
        go_roundg (xs.length - (j + 1))
        case rel =>
          refine ⟨j + 1, by omega, rfl, by go_num, fun m hm h => ?_, bthen (w := w) (by repeat (first | with_reducible exact hWB | with_reducible refine below_drewN ?_ _ | with_reducible refine Below.drew ?_ | with_reducible refine Below.alloc ?_ (by have hszz := Below.size (hWB); first | omega | (simp; done) | (simp at hszz ⊢; omega)) _ | with_reducible refine Below.setCell ?_ (by have hszz := Below.size (hWB); first | omega | (simp; done) | (simp at hszz ⊢; omega)) _)) hb2⟩
          rcases Nat.lt_succ_iff_lt_or_eq.1 hm with h' | rfl
          · exact HN.out m h' h
          · exact HX.out
        case measure => omega
      · have HX := hid hpx
        go_wp2_with (go_at_call 42; refine (hcall.out _ (by repeat (first | with_reducible exact hWB | with_reducible refine below_drewN ?_ _ | with_reducible refine Below.drew ?_ | with_reducible refine Below.alloc ?_ (by have hszz := Below.size (hWB); first | omega | (simp; done) | (simp at hszz ⊢; omega)) _ | with_reducible refine Below.setCell ?_ (by have hszz := Below.size (hWB); first | omega | (simp; done) | (simp at hszz ⊢; omega)) _))).mono ?_; rintro e w2 ⟨rfl, hb2⟩)
        go_ret
        exact ⟨j, rfl, ⟨fun _ => List.any_eq_true.2 ⟨xs[j], List.getElem_mem hlt, HX.out⟩, fun _ => by omega⟩, bthen (w := w) (by repeat (first | with_reducible exact hWB | with_reducible refine below_drewN ?_ _ | with_reducible refine Below.drew ?_ | with_reducible refine Below.alloc ?_ (by have hszz := Below.size (hWB); first | omega | (simp; done) | (simp at hszz ⊢; omega)) _ | with_reducible refine Below.setCell ?_ (by have hszz := Below.size (hWB); first | omega | (simp; done) | (simp at hszz ⊢; omega)) _)) hb2⟩
    · go_wp2_with fail
      go_ret
      refine ⟨-1, rfl, ⟨fun h => by omega, fun h => ?_⟩, hWB⟩
      obtain ⟨x, hmx, hpx⟩ := List.any_eq_true.1 h
      obtain ⟨m, hm', rfl⟩ := List.getElem_of_mem hmx
      rw [HN.out m (by omega) hm'] at hpx
      exact absurd hpx (by simp)

theorem containsFuncStr (xs : List ByteArray) (p : ByteArray → Bool) (v : Value) (lb : Array Value) (w : World)  (hv : IsSl w.heap.size w 1 IsStr xs v)
    (hp : ∀ x cs W, IsStr x cs → x ∈ xs → Below w.heap.size w W → Calls Try.prog 42 (#[.string x] ++ lb) W (RetB (p x) W)) :
    Calls Try.prog 41 #[v, .func (.func 42) #[] lb] w (RetB (xs.any p) w) := by
  have HP := hid hp
  clear hp
  go_enter Try.func41, Try.ntmps41
  go_wp2_with (go_at_call 57; refine (indexFuncStr xs p v lb _  hv HP.out).mono ?_; rintro e w2 ⟨k, rfl, hk, hb2⟩; have HK := hid hk; clear hk)
  go_ret
  exact ⟨ret_bool (by rw [Bool.eq_iff_iff]; simp only [decide_eq_true_eq]; exact HK.out), hb2⟩

set_option maxHeartbeats 1000000 in
theorem indexFuncFl (xs : List FlD) (p : FlD → Bool) (v : Value) (lb : Array Value) (w : World) (d : Nat) (hv : IsSl w.heap.size w 8 (IsFl w.heap.size w d) xs v)
    (hp : ∀ x cs W, (IsFl w.heap.size w d) x cs → x ∈ xs → Below w.heap.size w W → Calls Try.prog 39 (#[.agg cs.toArray] ++ lb) W (RetB (p x) W)) :
    Calls Try.prog 55 #[v, .func (.func 39) #[] lb] w (Found (xs.any p = true) w) := by
  obtain ⟨a, cap, rfl, hl, hx⟩ := hv.at_
  have HP := hid hp
  have HV := hid hv
  clear hp hv
  unfold maxLen at hl
  go_enter Try.func55, Try.ntmps55
  go_wp2_with fail
  go_loopg [8] xs.length (fun k i W => ∃ j : Nat, j ≤ xs.length ∧ k = xs.length - j ∧ i = .int .i64 j ∧ (∀ m (_ : m < j) (h : m < xs.length), p xs[m] = false) ∧ Below w.heap.size w W)
  case atStart => exact ⟨0, by omega, by omega, rfl, fun m h => by omega, Below.refl _ _⟩
  case round =>
    obtain ⟨j, hj, rfl, rfl, hno, hWB⟩ := hrel
    have HN := hid hno; clear hno
    by_cases hlt : j < xs.length
    · obtain ⟨b, off, rfl, hb, hc⟩ := hx.resolve_left (by intro h; subst h; simp at hlt)
      obtain ⟨cs, h5, h5', h6⟩ := hc j hlt
      have hcall := hid (fun W hW => HP.out _ cs W h5 (List.getElem_mem hlt) hW)
      obtain ⟨es, rfl, _, hes⟩ := h5
      obtain ⟨e0, e1, e2, e3, rfl⟩ := len4 es (by simp only [List.length_append, List.length_cons, List.length_nil] at h5'; omega)
      clear h5' hes
      simp only [List.cons_append, List.nil_append] at hcall h6
      have k0 := (hWB.cell (p := ⟨b, off + j * 8 + 0, none⟩) hb).trans (h6 0 (by simp))
      have k1 := (hWB.cell (p := ⟨b, off + j * 8 + 1, none⟩) hb).trans (h6 1 (by simp))
      have k2 := (hWB.cell (p := ⟨b, off + j * 8 + 2, none⟩) hb).trans (h6 2 (by simp))
      have k3 := (hWB.cell (p := ⟨b, off + j * 8 + 3, none⟩) hb).trans (h6 3 (by simp))
      have k4 := (hWB.cell (p := ⟨b, off + j * 8 + 4, none⟩) hb).trans (h6 4 (by simp))
      have k5 := (hWB.cell (p := ⟨b, off + j * 8 + 5, none⟩) hb).trans (h6 5 (by simp))
      have k6 := (hWB.cell (p := ⟨b, off + j * 8 + 6, none⟩) hb).trans (h6 6 (by simp))
      have k7 := (hWB.cell (p := ⟨b, off + j * 8 + 7, none⟩) hb).trans (h6 7 (by simp))
      simp only [Nat.add_zero, List.getElem_cons_zero, List.getElem_cons_succ] at k0 k1 k2 k3 k4 k5 k6 k7
      clear hc h6
      cases hpx : p xs[j]
      · have HX := hid hpx
        go_wp2_with (go_at_call 39; refine (hcall.out _ (by repeat (first | with_reducible exact hWB | with_reducible refine below_drewN ?_ _ | with_reducible refine Below.drew ?_ | with_reducible refine Below.alloc ?_ (by have hszz := Below.size (hWB); first | omega | (simp; done) | (simp at hszz ⊢; omega)) _ | with_reducible refine Below.setCell ?_ (by have hszz := Below.size (hWB); first | omega | (simp; done) | (simp at hszz ⊢; omega)) _))).mono ?_; rintro e w2 ⟨rfl, hb2⟩)
        go_roundg (xs.length - (j + 1))
        case rel =>
          refine ⟨j + 1, by omega, rfl, by go_num, fun m hm h => ?_, bthen (w := w) (by repeat (first | with_reducible exact hWB | with_reducible refine below_drewN ?_ _ | with_reducible refine Below.drew ?_ | with_reducible refine Below.alloc ?_ (by have hszz := Below.size (hWB); first | omega | (simp; done) | (simp at hszz ⊢; omega)) _ | with_reducible refine Below.setCell ?_ (by have hszz := Below.size (hWB); first | omega | (simp; done) | (simp at hszz ⊢; omega)) _)) hb2⟩
          rcases Nat.lt_succ_iff_lt_or_eq.1 hm with h' | rfl
          · exact HN.out m h' h
          · exact HX.out
        case measure => omega
      · have HX := hid hpx
        go_wp2_with (go_at_call 39; refine (hcall.out _ (by repeat (first | with_reducible exact hWB | with_reducible refine below_drewN ?_ _ | with_reducible refine Below.drew ?_ | with_reducible refine Below.alloc ?_ (by have hszz := Below.size (hWB); first | omega | (simp; done) | (simp at hszz ⊢; omega)) _ | with_reducible refine Below.setCell ?_ (by have hszz := Below.size (hWB); first | omega | (simp; done) | (simp at hszz ⊢; omega)) _))).mono ?_; rintro e w2 ⟨rfl, hb2⟩)
        go_ret
        exact ⟨j, rfl, ⟨fun _ => List.any_eq_true.2 ⟨xs[j], List.getElem_mem hlt, HX.out⟩, fun _ => by omega⟩, bthen (w := w) (by repeat (first | with_reducible exact hWB | with_reducible refine below_drewN ?_ _ | with_reducible refine Below.drew ?_ | with_reducible refine Below.alloc ?_ (by have hszz := Below.size (hWB); first | omega | (simp; done) | (simp at hszz ⊢; omega)) _ | with_reducible refine Below.setCell ?_ (by have hszz := Below.size (hWB); first | omega | (simp; done) | (simp at hszz ⊢; omega)) _)) hb2⟩
    · go_wp2_with fail
      go_ret
      refine ⟨-1, rfl, ⟨fun h => by omega, fun h => ?_⟩, hWB⟩
      obtain ⟨x, hmx, hpx⟩ := List.any_eq_true.1 h
      obtain ⟨m, hm', rfl⟩ := List.getElem_of_mem hmx
      rw [HN.out m (by omega) hm'] at hpx
      exact absurd hpx (by simp)

theorem containsFuncFl (xs : List FlD) (p : FlD → Bool) (v : Value) (lb : Array Value) (w : World) (d : Nat) (hv : IsSl w.heap.size w 8 (IsFl w.heap.size w d) xs v)
    (hp : ∀ x cs W, (IsFl w.heap.size w d) x cs → x ∈ xs → Below w.heap.size w W → Calls Try.prog 39 (#[.agg cs.toArray] ++ lb) W (RetB (p x) W)) :
    Calls Try.prog 38 #[v, .func (.func 39) #[] lb] w (RetB (xs.any p) w) := by
  have HP := hid hp
  clear hp
  go_enter Try.func38, Try.ntmps38
  go_wp2_with (go_at_call 55; refine (indexFuncFl xs p v lb _ d hv HP.out).mono ?_; rintro e w2 ⟨k, rfl, hk, hb2⟩; have HK := hid hk; clear hk)
  go_ret
  exact ⟨ret_bool (by rw [Bool.eq_iff_iff]; simp only [decide_eq_true_eq]; exact HK.out), hb2⟩
end Go.Proofs.Ytmepdfipigdjhaa
