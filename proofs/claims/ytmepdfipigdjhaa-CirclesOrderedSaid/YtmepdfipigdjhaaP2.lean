/- Whether a program may be: progs.Check. -/
import Derived.Test.YtmepdfipigdjhaaP1
namespace Go.Proofs.Ytmepdfipigdjhaa
open Go.RowKit
set_option linter.unusedSimpArgs false
set_option linter.unusedVariables false
def minInt : Int := -9223372036854775808
def inOk (st : Int) (x : InD) : Bool := mayB st x.name x.ty x.st
def flOk (st : Int) (x : FlD) : Bool := mayB st x.name x.ty x.st && !decide (x.dflt = minInt) && x.body.check
def PgD.check (p : PgD) : Bool :=
  decide (1 ≤ p.st) && decide (p.st ≤ 8) && decide (p.ins.length ≤ 64) && decide (p.flows.length ≤ 128) && decide (p.outs.length ≤ p.ins.length + p.flows.length) &&
    p.ins.all (inOk p.st) && p.flows.all (flOk p.st) && p.outs.all nameB
theorem PgD.check_iff {p : PgD} : p.check = true ↔ 1 ≤ p.st ∧ p.st ≤ 8 ∧ p.ins.length ≤ 64 ∧ p.flows.length ≤ 128 ∧ p.outs.length ≤ p.ins.length + p.flows.length ∧ p.ins.all (inOk p.st) = true ∧ p.flows.all (flOk p.st) = true ∧ p.outs.all nameB = true := by
  simp only [PgD.check, Bool.and_eq_true, decide_eq_true_eq, and_assoc]
theorem minNo {n : Int} (h : (n == -9223372036854775808) = false) : ¬ n = minInt := by
  intro e; rw [e] at h; exact absurd h (by decide)
theorem minYes {n : Int} (h : (n == -9223372036854775808) = true) : n = minInt := eq_of_beq h
theorem IsEx.four {B d : Nat} {w : World} {x : Ex} {es : List Value} (h : IsEx B w d x es) : ∃ a b c e, es = [a, b, c, e] := by
  cases d with
  | zero => exact h.elim
  | succ d =>
    obtain ⟨op, n, s, args⟩ := x
    obtain ⟨u, rfl, _⟩ := h
    exact ⟨_, _, _, _, rfl⟩
theorem check1_any (bp : Nat) (st : Int) (x : InD) (cs : List Value) (w : World) (hx : IsIn x cs) (hp : w.cell? ⟨bp, 0, none⟩ = some (.int .i64 st)) (hlt : bp < w.heap.size) :
    Calls Try.prog 36 (#[.agg cs.toArray] ++ #[.pointer (some ⟨bp, 0, none⟩)]) w (RetB (!inOk st x) w) := by
  obtain ⟨rfl, hs⟩ := hx
  have hB := Below.refl w.heap.size w
  show Calls Try.prog 36 #[.agg #[.string x.name, .int .u8 x.ty, .int .i64 x.st], .pointer (some ⟨bp, 0, none⟩)] w _
  go_enter Try.func36, Try.ntmps36
  go_wp2_with (go_at_call 37; refine (may_any _ _ _ _ _ hs).mono ?_; rintro e w2 ⟨rfl, hb2⟩; replace hB := bthen (w := w) (by repeat (first | with_reducible exact hB | with_reducible refine below_drewN ?_ _ | with_reducible refine Below.drew ?_ | with_reducible refine Below.alloc ?_ (by have hszz := Below.size (hB); first | omega | (simp; done) | (simp at hszz ⊢; omega)) _ | with_reducible refine Below.setCell ?_ (by have hszz := Below.size (hB); first | omega | (simp; done) | (simp at hszz ⊢; omega)) _)) hb2; clear hb2)
  go_ret
  exact ⟨rfl, hB⟩
theorem check3_any (x : ByteArray) (cs : List Value) (w : World) (hx : IsStr x cs) :
    Calls Try.prog 42 (#[.string x] ++ #[]) w (RetB (!nameB x) w) := by
  obtain ⟨rfl, hs⟩ := hx
  have hB := Below.refl w.heap.size w
  show Calls Try.prog 42 #[.string x] w _
  go_enter Try.func42, Try.ntmps42
  go_wp2_with (go_at_call 43; refine (name_any _ _ hs).mono ?_; rintro e w2 ⟨rfl, hb2⟩; replace hB := bthen (w := w) (by repeat (first | with_reducible exact hB | with_reducible refine below_drewN ?_ _ | with_reducible refine Below.drew ?_ | with_reducible refine Below.alloc ?_ (by have hszz := Below.size (hB); first | omega | (simp; done) | (simp at hszz ⊢; omega)) _ | with_reducible refine Below.setCell ?_ (by have hszz := Below.size (hB); first | omega | (simp; done) | (simp at hszz ⊢; omega)) _)) hb2; clear hb2)
  go_ret
  exact ⟨rfl, hB⟩
set_option maxHeartbeats 1000000 in
theorem check2_any (d B bp : Nat) (st : Int) (x : FlD) (cs : List Value) (w : World) (hx : IsFl B w d x cs) (hB0 : B ≤ w.heap.size) (hp : w.cell? ⟨bp, 0, none⟩ = some (.int .i64 st)) (hlt : bp < w.heap.size) :
    Calls Try.prog 39 (#[.agg cs.toArray] ++ #[.pointer (some ⟨bp, 0, none⟩)]) w (RetB (!flOk st x) w) := by
  obtain ⟨es, rfl, hs, hex⟩ := hx
  have hB := Below.refl w.heap.size w
  obtain ⟨a, b, c, e, rfl⟩ := hex.four
  show Calls Try.prog 39 #[.agg #[.string x.name, .int .u8 x.ty, .int .i64 x.st, .int .i64 x.dflt, a, b, c, e], .pointer (some ⟨bp, 0, none⟩)] w _
  have HX := hid hex
  clear hex
  cases h1 : mayB st x.name x.ty x.st
  · have H1 := hid h1
    go_enter Try.func39, Try.ntmps39
    go_wp2_with (go_at_call 37; refine (may_any _ _ _ _ _ hs).mono ?_; rintro e w2 ⟨rfl, hb2⟩; replace hB := bthen (w := w) (by repeat (first | with_reducible exact hB | with_reducible refine below_drewN ?_ _ | with_reducible refine Below.drew ?_ | with_reducible refine Below.alloc ?_ (by have hszz := Below.size (hB); first | omega | (simp; done) | (simp at hszz ⊢; omega)) _ | with_reducible refine Below.setCell ?_ (by have hszz := Below.size (hB); first | omega | (simp; done) | (simp at hszz ⊢; omega)) _)) hb2; have hcc := (bcell hb2).1; have hss := hb2.size; (try simp only [World.size_alloc] at hss); (try (have hst : w.heap.size < w2.heap.size := (by omega))); clear hb2)
    go_ret
    exact ⟨ret_bool (by simp [flOk, H1.out]), hB⟩
  · have H1 := hid h1
    cases h2 : (x.dflt == -9223372036854775808)
    · have H2 := hid h2
      go_enter Try.func39, Try.ntmps39
      go_wp2_with (first | (go_at_call 37; refine (may_any _ _ _ _ _ hs).mono ?_; rintro e w2 ⟨rfl, hb2⟩; replace hB := bthen (w := w) (by repeat (first | with_reducible exact hB | with_reducible refine below_drewN ?_ _ | with_reducible refine Below.drew ?_ | with_reducible refine Below.alloc ?_ (by have hszz := Below.size (hB); first | omega | (simp; done) | (simp at hszz ⊢; omega)) _ | with_reducible refine Below.setCell ?_ (by have hszz := Below.size (hB); first | omega | (simp; done) | (simp at hszz ⊢; omega)) _)) hb2; have hcc := (bcell hb2).1; have hss := hb2.size; (try simp only [World.size_alloc] at hss); (try (have hst : w.heap.size < w2.heap.size := (by omega))); clear hb2) | (go_at_call 40; refine (exCheck_any d B x.body [a, b, c, e] _ (by exact IsEx.below (Below.mono (B := w.heap.size) (by repeat (first | with_reducible exact hB | with_reducible refine below_drewN ?_ _ | with_reducible refine Below.drew ?_ | with_reducible refine Below.alloc ?_ (by have hszz := Below.size (hB); first | omega | (simp; done) | (simp at hszz ⊢; omega)) _ | with_reducible refine Below.setCell ?_ (by have hszz := Below.size (hB); first | omega | (simp; done) | (simp at hszz ⊢; omega)) _)) hB0) HX.out) (by omega)).mono ?_; rintro e w2 ⟨rfl, hb2⟩; replace hB := bthen (w := w) (by repeat (first | with_reducible exact hB | with_reducible refine below_drewN ?_ _ | with_reducible refine Below.drew ?_ | with_reducible refine Below.alloc ?_ (by have hszz := Below.size (hB); first | omega | (simp; done) | (simp at hszz ⊢; omega)) _ | with_reducible refine Below.setCell ?_ (by have hszz := Below.size (hB); first | omega | (simp; done) | (simp at hszz ⊢; omega)) _)) hb2; have hcc := (bcell hb2).1; have hss := hb2.size; (try simp only [World.size_alloc] at hss); (try (have hst : w.heap.size < w2.heap.size := (by omega))); clear hb2))
      go_ret
      exact ⟨ret_bool (by simp [flOk, H1.out, minNo H2.out]), hB⟩
    · have H2 := hid h2
      go_enter Try.func39, Try.ntmps39
      go_wp2_with (go_at_call 37; refine (may_any _ _ _ _ _ hs).mono ?_; rintro e w2 ⟨rfl, hb2⟩; replace hB := bthen (w := w) (by repeat (first | with_reducible exact hB | with_reducible refine below_drewN ?_ _ | with_reducible refine Below.drew ?_ | with_reducible refine Below.alloc ?_ (by have hszz := Below.size (hB); first | omega | (simp; done) | (simp at hszz ⊢; omega)) _ | with_reducible refine Below.setCell ?_ (by have hszz := Below.size (hB); first | omega | (simp; done) | (simp at hszz ⊢; omega)) _)) hb2; have hcc := (bcell hb2).1; have hss := hb2.size; (try simp only [World.size_alloc] at hss); (try (have hst : w.heap.size < w2.heap.size := (by omega))); clear hb2)
      go_ret
      exact ⟨ret_bool (by simp [flOk, minYes H2.out]), hB⟩

set_option maxHeartbeats 2000000 in
theorem progCheck_any (d B : Nat) (p : PgD) (cs : List Value) (w : World) (hx : IsPg B w d p cs) (hB0 : B ≤ w.heap.size) :
    Calls Try.prog 21 #[.agg cs.toArray] w (RetB p.check w) := by
  obtain ⟨i, f, o, rfl, hi, hf, ho⟩ := hx
  have hB := Below.refl w.heap.size w
  have HI := hid hi
  have HF := hid hf
  have HO := hid ho
  obtain ⟨ia, ic, rfl, il, _⟩ := hi.at_
  obtain ⟨fa, fc, rfl, fl, _⟩ := hf.at_
  obtain ⟨oa, oc, rfl, ol, _⟩ := ho.at_
  unfold maxLen at il fl ol
  clear hi hf ho
  go_enter Try.func21, Try.ntmps21
  cases hin : p.ins.all (inOk p.st)
  · have HIN := hid hin
    have ha : (p.ins.any fun x => !inOk p.st x) = true := by rw [List.any_eq_not_all_not]; simp [hin]
    go_wp2_with (first | (go_at_call 35; refine (containsFuncIn p.ins (fun x => !inOk p.st x) _ _ _ (by exact HI.out.mono (fun _ _ _ h => h) (by simp; omega) (fun b o h => old_cell _ _ (by omega))) (fun x cs W h1 h2 h3 => by exact check1_any w.heap.size p.st x cs W h1 (((bcell h3).1 _ _ (by simp)).trans (by simp)) (by have := h3.size; simp at this; omega))).mono ?_; rintro e w2 ⟨rfl, hb2⟩; replace hB := bthen (w := w) (by repeat (first | with_reducible exact hB | with_reducible refine below_drewN ?_ _ | with_reducible refine Below.drew ?_ | with_reducible refine Below.alloc ?_ (by have hszz := Below.size (hB); first | omega | (simp; done) | (simp at hszz ⊢; omega)) _ | with_reducible refine Below.setCell ?_ (by have hszz := Below.size (hB); first | omega | (simp; done) | (simp at hszz ⊢; omega)) _)) hb2; have hcc := (bcell hb2).1; have hss := hb2.size; (try simp only [World.size_alloc] at hss); (try (have hst : w.heap.size < w2.heap.size := (by omega))); clear hb2))
    all_goals
      go_ret
      exact ⟨ret_bool (by symm; rw [← Bool.not_eq_true]; intro h; obtain ⟨q1, q2, q3, q4, q5, q6, q7, q8⟩ := PgD.check_iff.1 h; first | omega | (rw [HIN.out] at q6; exact absurd q6 (by simp))), (by repeat (first | with_reducible exact hB | with_reducible refine below_drewN ?_ _ | with_reducible refine Below.drew ?_ | with_reducible refine Below.alloc ?_ (by have hszz := Below.size (hB); first | omega | (simp; done) | (simp at hszz ⊢; omega)) _ | with_reducible refine Below.setCell ?_ (by have hszz := Below.size (hB); first | omega | (simp; done) | (simp at hszz ⊢; omega)) _))⟩
  · have HIN := hid hin
    have ha : (p.ins.any fun x => !inOk p.st x) = false := by rw [List.any_eq_not_all_not]; simp [hin]
    cases hfl : p.flows.all (flOk p.st)
    · have HFL := hid hfl
      have ha2 : (p.flows.any fun x => !flOk p.st x) = true := by rw [List.any_eq_not_all_not]; simp [hfl]
      clear hin hfl
      go_wp2_with (first | (go_at_call 35; refine (containsFuncIn p.ins (fun x => !inOk p.st x) _ _ _ (by exact HI.out.mono (fun _ _ _ h => h) (by simp; omega) (fun b o h => old_cell _ _ (by omega))) (fun x cs W h1 h2 h3 => by exact check1_any w.heap.size p.st x cs W h1 (((bcell h3).1 _ _ (by simp)).trans (by simp)) (by have := h3.size; simp at this; omega))).mono ?_; rintro e w2 ⟨rfl, hb2⟩; replace hB := bthen (w := w) (by repeat (first | with_reducible exact hB | with_reducible refine below_drewN ?_ _ | with_reducible refine Below.drew ?_ | with_reducible refine Below.alloc ?_ (by have hszz := Below.size (hB); first | omega | (simp; done) | (simp at hszz ⊢; omega)) _ | with_reducible refine Below.setCell ?_ (by have hszz := Below.size (hB); first | omega | (simp; done) | (simp at hszz ⊢; omega)) _)) hb2; have hcc := (bcell hb2).1; have hss := hb2.size; (try simp only [World.size_alloc] at hss); (try (have hst : w.heap.size < w2.heap.size := (by omega))); clear hb2) | (go_at_call 38; refine (containsFuncFl p.flows (fun x => !flOk p.st x) _ _ _ d (by exact HF.out.mono (fun _ _ _ h => h.mono (by omega) (fun b o h => (hcc _ _ (by simp; omega)).trans (old_cell _ _ (by omega)))) (by omega) (fun b o h => (hcc _ _ (by simp; omega)).trans (old_cell _ _ (by omega)))) (fun x cs W h1 h2 h3 => by exact check2_any d _ w.heap.size p.st x cs W (h1.mono (Nat.le_refl _) (bcell h3).1) h3.size (((bcell h3).1 _ _ (by omega)).trans ((hcc _ _ (by simp)).trans (by simp))) (by have := h3.size; omega))).mono ?_; rintro e w2 ⟨rfl, hb2⟩; replace hB := bthen (w := w) (by repeat (first | with_reducible exact hB | with_reducible refine below_drewN ?_ _ | with_reducible refine Below.drew ?_ | with_reducible refine Below.alloc ?_ (by have hszz := Below.size (hB); first | omega | (simp; done) | (simp at hszz ⊢; omega)) _ | with_reducible refine Below.setCell ?_ (by have hszz := Below.size (hB); first | omega | (simp; done) | (simp at hszz ⊢; omega)) _)) hb2; have hcc := (bcell hb2).1; have hss := hb2.size; (try simp only [World.size_alloc] at hss); (try (have hst : w.heap.size < w2.heap.size := (by omega))); clear hb2))
      all_goals
        go_ret
        exact ⟨ret_bool (by symm; rw [← Bool.not_eq_true]; intro h; obtain ⟨q1, q2, q3, q4, q5, q6, q7, q8⟩ := PgD.check_iff.1 h; first | omega | (rw [HFL.out] at q7; exact absurd q7 (by simp))), (by repeat (first | with_reducible exact hB | with_reducible refine below_drewN ?_ _ | with_reducible refine Below.drew ?_ | with_reducible refine Below.alloc ?_ (by have hszz := Below.size (hB); first | omega | (simp; done) | (simp at hszz ⊢; omega)) _ | with_reducible refine Below.setCell ?_ (by have hszz := Below.size (hB); first | omega | (simp; done) | (simp at hszz ⊢; omega)) _))⟩
    · have HFL := hid hfl
      have ha2 : (p.flows.any fun x => !flOk p.st x) = false := by rw [List.any_eq_not_all_not]; simp [hfl]
      cases hou : p.outs.all nameB
      · have HOU := hid hou
        have ha3 : (p.outs.any fun x => !nameB x) = true := by rw [List.any_eq_not_all_not]; simp [hou]
        clear hin hfl hou
        go_wp2_with (first | (go_at_call 35; refine (containsFuncIn p.ins (fun x => !inOk p.st x) _ _ _ (by exact HI.out.mono (fun _ _ _ h => h) (by simp; omega) (fun b o h => old_cell _ _ (by omega))) (fun x cs W h1 h2 h3 => by exact check1_any w.heap.size p.st x cs W h1 (((bcell h3).1 _ _ (by simp)).trans (by simp)) (by have := h3.size; simp at this; omega))).mono ?_; rintro e w2 ⟨rfl, hb2⟩; replace hB := bthen (w := w) (by repeat (first | with_reducible exact hB | with_reducible refine below_drewN ?_ _ | with_reducible refine Below.drew ?_ | with_reducible refine Below.alloc ?_ (by have hszz := Below.size (hB); first | omega | (simp; done) | (simp at hszz ⊢; omega)) _ | with_reducible refine Below.setCell ?_ (by have hszz := Below.size (hB); first | omega | (simp; done) | (simp at hszz ⊢; omega)) _)) hb2; have hcc := (bcell hb2).1; have hss := hb2.size; (try simp only [World.size_alloc] at hss); (try (have hst : w.heap.size < w2.heap.size := (by omega))); clear hb2) | (go_at_call 38; refine (containsFuncFl p.flows (fun x => !flOk p.st x) _ _ _ d (by exact HF.out.mono (fun _ _ _ h => h.mono (by omega) (fun b o h => (hcc _ _ (by simp; omega)).trans (old_cell _ _ (by omega)))) (by omega) (fun b o h => (hcc _ _ (by simp; omega)).trans (old_cell _ _ (by omega)))) (fun x cs W h1 h2 h3 => by exact check2_any d _ w.heap.size p.st x cs W (h1.mono (Nat.le_refl _) (bcell h3).1) h3.size (((bcell h3).1 _ _ (by omega)).trans ((hcc _ _ (by simp)).trans (by simp))) (by have := h3.size; omega))).mono ?_; rintro e w2 ⟨rfl, hb2⟩; replace hB := bthen (w := w) (by repeat (first | with_reducible exact hB | with_reducible refine below_drewN ?_ _ | with_reducible refine Below.drew ?_ | with_reducible refine Below.alloc ?_ (by have hszz := Below.size (hB); first | omega | (simp; done) | (simp at hszz ⊢; omega)) _ | with_reducible refine Below.setCell ?_ (by have hszz := Below.size (hB); first | omega | (simp; done) | (simp at hszz ⊢; omega)) _)) hb2; have hcc := (bcell hb2).1; have hss := hb2.size; (try simp only [World.size_alloc] at hss); (try (have hst : w.heap.size < w2.heap.size := (by omega))); clear hb2) | (go_at_call 41; refine (containsFuncStr p.outs (fun x => !nameB x) _ _ _ (by exact HO.out.mono (fun _ _ _ h => h) (by have := hB.size; omega) (fun b o h => (bcell hB).1 _ _ (by omega))) (fun x cs W h1 h2 h3 => by exact check3_any x cs W h1)).mono ?_; rintro e w2 ⟨rfl, hb2⟩; replace hB := bthen (w := w) (by repeat (first | with_reducible exact hB | with_reducible refine below_drewN ?_ _ | with_reducible refine Below.drew ?_ | with_reducible refine Below.alloc ?_ (by have hszz := Below.size (hB); first | omega | (simp; done) | (simp at hszz ⊢; omega)) _ | with_reducible refine Below.setCell ?_ (by have hszz := Below.size (hB); first | omega | (simp; done) | (simp at hszz ⊢; omega)) _)) hb2; have hcc := (bcell hb2).1; have hss := hb2.size; (try simp only [World.size_alloc] at hss); (try (have hst : w.heap.size < w2.heap.size := (by omega))); clear hb2))
        all_goals
          go_ret
          exact ⟨ret_bool (by symm; rw [← Bool.not_eq_true]; intro h; obtain ⟨q1, q2, q3, q4, q5, q6, q7, q8⟩ := PgD.check_iff.1 h; first | omega | (rw [HOU.out] at q8; exact absurd q8 (by simp))), (by repeat (first | with_reducible exact hB | with_reducible refine below_drewN ?_ _ | with_reducible refine Below.drew ?_ | with_reducible refine Below.alloc ?_ (by have hszz := Below.size (hB); first | omega | (simp; done) | (simp at hszz ⊢; omega)) _ | with_reducible refine Below.setCell ?_ (by have hszz := Below.size (hB); first | omega | (simp; done) | (simp at hszz ⊢; omega)) _))⟩
      · have HOU := hid hou
        have ha3 : (p.outs.any fun x => !nameB x) = false := by rw [List.any_eq_not_all_not]; simp [hou]
        clear hin hfl hou
        go_wp2_with (first | (go_at_call 35; refine (containsFuncIn p.ins (fun x => !inOk p.st x) _ _ _ (by exact HI.out.mono (fun _ _ _ h => h) (by simp; omega) (fun b o h => old_cell _ _ (by omega))) (fun x cs W h1 h2 h3 => by exact check1_any w.heap.size p.st x cs W h1 (((bcell h3).1 _ _ (by simp)).trans (by simp)) (by have := h3.size; simp at this; omega))).mono ?_; rintro e w2 ⟨rfl, hb2⟩; replace hB := bthen (w := w) (by repeat (first | with_reducible exact hB | with_reducible refine below_drewN ?_ _ | with_reducible refine Below.drew ?_ | with_reducible refine Below.alloc ?_ (by have hszz := Below.size (hB); first | omega | (simp; done) | (simp at hszz ⊢; omega)) _ | with_reducible refine Below.setCell ?_ (by have hszz := Below.size (hB); first | omega | (simp; done) | (simp at hszz ⊢; omega)) _)) hb2; have hcc := (bcell hb2).1; have hss := hb2.size; (try simp only [World.size_alloc] at hss); (try (have hst : w.heap.size < w2.heap.size := (by omega))); clear hb2) | (go_at_call 38; refine (containsFuncFl p.flows (fun x => !flOk p.st x) _ _ _ d (by exact HF.out.mono (fun _ _ _ h => h.mono (by omega) (fun b o h => (hcc _ _ (by simp; omega)).trans (old_cell _ _ (by omega)))) (by omega) (fun b o h => (hcc _ _ (by simp; omega)).trans (old_cell _ _ (by omega)))) (fun x cs W h1 h2 h3 => by exact check2_any d _ w.heap.size p.st x cs W (h1.mono (Nat.le_refl _) (bcell h3).1) h3.size (((bcell h3).1 _ _ (by omega)).trans ((hcc _ _ (by simp)).trans (by simp))) (by have := h3.size; omega))).mono ?_; rintro e w2 ⟨rfl, hb2⟩; replace hB := bthen (w := w) (by repeat (first | with_reducible exact hB | with_reducible refine below_drewN ?_ _ | with_reducible refine Below.drew ?_ | with_reducible refine Below.alloc ?_ (by have hszz := Below.size (hB); first | omega | (simp; done) | (simp at hszz ⊢; omega)) _ | with_reducible refine Below.setCell ?_ (by have hszz := Below.size (hB); first | omega | (simp; done) | (simp at hszz ⊢; omega)) _)) hb2; have hcc := (bcell hb2).1; have hss := hb2.size; (try simp only [World.size_alloc] at hss); (try (have hst : w.heap.size < w2.heap.size := (by omega))); clear hb2) | (go_at_call 41; refine (containsFuncStr p.outs (fun x => !nameB x) _ _ _ (by exact HO.out.mono (fun _ _ _ h => h) (by have := hB.size; omega) (fun b o h => (bcell hB).1 _ _ (by omega))) (fun x cs W h1 h2 h3 => by exact check3_any x cs W h1)).mono ?_; rintro e w2 ⟨rfl, hb2⟩; replace hB := bthen (w := w) (by repeat (first | with_reducible exact hB | with_reducible refine below_drewN ?_ _ | with_reducible refine Below.drew ?_ | with_reducible refine Below.alloc ?_ (by have hszz := Below.size (hB); first | omega | (simp; done) | (simp at hszz ⊢; omega)) _ | with_reducible refine Below.setCell ?_ (by have hszz := Below.size (hB); first | omega | (simp; done) | (simp at hszz ⊢; omega)) _)) hb2; have hcc := (bcell hb2).1; have hss := hb2.size; (try simp only [World.size_alloc] at hss); (try (have hst : w.heap.size < w2.heap.size := (by omega))); clear hb2))
        all_goals
          go_ret
          first
          | exact ⟨ret_bool (by rw [PgD.check_iff.2 ⟨by omega, by omega, by omega, by omega, by omega, HIN.out, HFL.out, HOU.out⟩]; simp; omega), (by repeat (first | with_reducible exact hB | with_reducible refine below_drewN ?_ _ | with_reducible refine Below.drew ?_ | with_reducible refine Below.alloc ?_ (by have hszz := Below.size (hB); first | omega | (simp; done) | (simp at hszz ⊢; omega)) _ | with_reducible refine Below.setCell ?_ (by have hszz := Below.size (hB); first | omega | (simp; done) | (simp at hszz ⊢; omega)) _))⟩
          | exact ⟨ret_bool (PgD.check_iff.2 ⟨by omega, by omega, by omega, by omega, by omega, HIN.out, HFL.out, HOU.out⟩).symm, (by repeat (first | with_reducible exact hB | with_reducible refine below_drewN ?_ _ | with_reducible refine Below.drew ?_ | with_reducible refine Below.alloc ?_ (by have hszz := Below.size (hB); first | omega | (simp; done) | (simp at hszz ⊢; omega)) _ | with_reducible refine Below.setCell ?_ (by have hszz := Below.size (hB); first | omega | (simp; done) | (simp at hszz ⊢; omega)) _))⟩
          | exact ⟨ret_bool (by symm; rw [← Bool.not_eq_true]; intro h; obtain ⟨q1, q2, q3, q4, q5, q6, q7, q8⟩ := PgD.check_iff.1 h; omega), (by repeat (first | with_reducible exact hB | with_reducible refine below_drewN ?_ _ | with_reducible refine Below.drew ?_ | with_reducible refine Below.alloc ?_ (by have hszz := Below.size (hB); first | omega | (simp; done) | (simp at hszz ⊢; omega)) _ | with_reducible refine Below.setCell ?_ (by have hszz := Below.size (hB); first | omega | (simp; done) | (simp at hszz ⊢; omega)) _))⟩
end Go.Proofs.Ytmepdfipigdjhaa
