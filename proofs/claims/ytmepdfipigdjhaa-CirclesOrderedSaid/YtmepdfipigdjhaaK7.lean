/- Plain facts: the four programs that are asked first. No program is walked here. -/
import Derived.Test.YtmepdfipigdjhaaK6
import Derived.Test.YtmepdfipigdjhaaC5
namespace Go.Proofs.Ytmepdfipigdjhaa
open Go.RowKit
set_option linter.unusedSimpArgs false
set_option linter.unusedVariables false
def pP : PgD := ofD [[1], [0]] []
def pQ : PgD := ofD [[1], [2], [1]] []
def pR : PgD := ofD [[]] [[0]]
def pS : PgD := ofD [[0]] []
theorem loop_of {p : PgD} (h : p.clash = 0) : p.loop = if p.circle = [] then 0 else 8 := by rw [PgD.loop, if_pos h]
theorem pP_eq : pP = ofD (ringNow 2) [] := rfl
theorem pS_eq : pS = ofD (ringNow 1) [] := rfl
theorem pR_eq : pR = ofD (cutNow 1 0) (cutAgo 1 0) := rfl
theorem pP_circle : pP.circle = [wordD 0, wordD 1] := by rw [pP_eq, ring_circle (by omega) (by omega)]; rfl
theorem pS_circle : pS.circle = [wordD 0] := by rw [pS_eq, ring_circle (by omega) (by omega)]; rfl
theorem pR_circle : pR.circle = [] := by rw [pR_eq, cut_circle (by omega) (by omega) (by omega)]
theorem pP_clash : pP.clash = 0 := by rw [pP_eq]; exact ring_clash (by omega) (by omega)
theorem pS_clash : pS.clash = 0 := by rw [pS_eq]; exact ring_clash (by omega) (by omega)
theorem pR_clash : pR.clash = 0 := by rw [pR_eq]; exact cut_clash (by omega) (by omega)
theorem pP_loop : pP.loop = 8 := by rw [loop_of pP_clash, if_neg (by rw [pP_circle]; simp)]
theorem pS_loop : pS.loop = 8 := by rw [loop_of pS_clash, if_neg (by rw [pS_circle]; simp)]
theorem pR_loop : pR.loop = 0 := by rw [loop_of pR_clash, if_pos pR_circle]
theorem q_lt : ∀ i, ∀ k ∈ ([[1], [2], [1]] : List (List Nat)).getD i [], 1 ≤ k ∧ k < ([[1], [2], [1]] : List (List Nat)).length := by
  intro i k hk
  match i with
  | 0 => simp at hk; subst hk; simp
  | 1 => simp at hk; subst hk; simp
  | 2 => simp at hk; subst hk; simp
  | i + 3 => simp at hk
theorem q_needs {i : Nat} {y : Int} : y ∈ pQ.needs i ↔ i < 3 ∧ ∃ x ∈ ([[1], [2], [1]] : List (List Nat)).getD i [], y = (x : Int) :=
  ofD_needs (now := [[1], [2], [1]]) (ago := []) (by simp) (fun i k hk => (q_lt i k hk).2)
theorem pQ_circle : pQ.circle = [wordD 1, wordD 2] := by
  have hl : pQ.flows.length = 3 := ofD_len _ _
  have n1 : ∀ y : Nat, (y : Int) ∈ pQ.needs 1 ↔ y = 2 := fun y => by rw [q_needs]; simp; omega
  have n2 : ∀ y : Nat, (y : Int) ∈ pQ.needs 2 ↔ y = 1 := fun y => by rw [q_needs]; simp; omega
  have hm : Mn pQ.needs 1 (1 + 1) 1 := by
    refine ⟨by omega, ⟨2, (n1 2).2 rfl, 1, (n2 1).2 rfl, rfl⟩, fun j h1 h2 h3 => ?_⟩
    have : j = 1 := by omega
    subst this
    obtain ⟨y, h4, h5⟩ := h3
    have h6 := (n1 y).1 h4
    have h7 : y = 1 := h5
    omega
  rw [circle_is pQ 1 1 (fun j => 1 + j) (by omega) rfl hm (fun y hy j hj hw => ?_) (fun j y hj hy _ => ?_)]
  · show [pQ.nameAt ((1 + 0 : Nat) : Int), pQ.nameAt ((1 + 1 : Nat) : Int)] = _
    rw [show pQ = ofD [[1], [2], [1]] [] from rfl, ofD_name _ _ (by simp), ofD_name _ _ (by simp)]
  · obtain ⟨z, hz⟩ := wk_last j y hj hw
    obtain ⟨_, x, h1, h2⟩ := q_needs.1 hz
    have := (q_lt z x h1).1
    omega
  · have : j = 0 := by omega
    subst this
    exact (n1 y).1 hy
theorem pQ_clash : pQ.clash = 0 :=
  ofD_clash (by simp) (fun i k hk => (q_lt i k hk).2) (fun i k hk => by simp at hk) (fun i => by
    match i with
    | 0 => simp
    | 1 => simp
    | 2 => simp
    | i + 3 => simp)
theorem of_small {now ago : List (List Nat)} (h : ∀ i, ∀ k ∈ now.getD i [], k < 1000) (i : Nat) (k : Nat) (hk : k ∈ now.getD i []) : k ≤ 1000000 := by have := h i k hk; omega
end Go.Proofs.Ytmepdfipigdjhaa
