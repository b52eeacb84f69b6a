/- Plain facts: rings, short ways, flows in order. No program is walked here. -/
import Derived.Test.YtmepdfipigdjhaaK5
namespace Go.Proofs.Ytmepdfipigdjhaa
open Go.RowKit
set_option linter.unusedSimpArgs false
set_option linter.unusedVariables false

theorem wk_falls {need : Nat → List Int} {φ : Nat → Nat} (h : ∀ x y : Nat, (y : Int) ∈ need x → φ y < φ x) (b : Nat) : ∀ (k x : Nat), Wk need b k x → φ b + k ≤ φ x
  | 0, x, hw => by
    have : x = b := hw
    subst this; omega
  | k + 1, x, ⟨y, h1, h2⟩ => by
    have h3 := wk_falls h b k y h2
    have h4 := h x y h1
    omega
theorem no_circle {p : PgD} {φ : Nat → Nat} (h : ∀ x y : Nat, (y : Int) ∈ p.needs x → φ y < φ x) : p.circle = [] := by
  rw [circle_iff]
  intro x k _ hk hw
  have := wk_falls h x k x hw
  omega
theorem wk_last {need : Nat → List Int} {b : Nat} : ∀ (k x : Nat), 1 ≤ k → Wk need b k x → ∃ z, (b : Int) ∈ need z
  | 0, x, h, _ => by omega
  | 1, x, _, ⟨y, h1, h2⟩ => by
    have : y = b := h2
    exact ⟨x, this ▸ h1⟩
  | k + 2, x, _, ⟨y, _, h2⟩ => wk_last (k + 1) y (by omega) h2
theorem wk_snoc {need : Nat → List Int} {b c : Nat} : ∀ (k x : Nat), Wk need b k x → (c : Int) ∈ need b → Wk need c (k + 1) x
  | 0, x, h, hc => by
    have : x = b := h
    subst this
    exact ⟨c, hc, rfl⟩
  | k + 1, x, ⟨y, h1, h2⟩, hc => ⟨y, h1, wk_snoc k y h2 hc⟩

/-! ### A ring -/
def ringNow (k : Nat) : List (List Nat) := (List.range k).map fun i => [(i + 1) % k]
def cutNow (k w : Nat) : List (List Nat) := (List.range k).map fun i => if i = w then [] else [(i + 1) % k]
def cutAgo (k w : Nat) : List (List Nat) := (List.range k).map fun i => if i = w then [(i + 1) % k] else []
theorem range_getD {α : Type} (f : Nat → α) (k i : Nat) (z : α) : ((List.range k).map f).getD i z = if i < k then f i else z := by
  rw [List.getD_eq_getElem?_getD, List.getElem?_map]
  by_cases h : i < k
  · rw [List.getElem?_range h, if_pos h]; rfl
  · rw [List.getElem?_eq_none (by simp; omega), if_neg h]; rfl
theorem ringNow_lt {k : Nat} (hk : 1 ≤ k) : ∀ i, ∀ x ∈ (ringNow k).getD i [], x < (ringNow k).length := by
  intro i x hx
  rw [ringNow, range_getD] at hx
  rw [ringNow, List.length_map, List.length_range]
  split at hx
  · rw [List.mem_singleton] at hx; subst hx; exact Nat.mod_lt _ (by omega)
  · simp at hx
theorem ring_needs {k : Nat} (hk : 1 ≤ k) (hk2 : k ≤ 60) {i : Nat} {y : Int} : y ∈ (ofD (ringNow k) []).needs i ↔ i < k ∧ y = (((i + 1) % k : Nat) : Int) := by
  rw [ofD_needs (by simp [ringNow]; omega) (ringNow_lt hk), ringNow, range_getD, List.length_map, List.length_range]
  constructor
  · rintro ⟨h, x, hx, rfl⟩
    rw [if_pos h, List.mem_singleton] at hx
    exact ⟨h, by rw [hx]⟩
  · rintro ⟨h, rfl⟩
    exact ⟨h, _, by rw [if_pos h, List.mem_singleton], rfl⟩
theorem ring_wk {k : Nat} (hk : 1 ≤ k) (hk2 : k ≤ 60) : ∀ (m x : Nat), x < k → (Wk (ofD (ringNow k) []).needs 0 m x ↔ (x + m) % k = 0)
  | 0, x, hx => by
    rw [Nat.add_zero, Nat.mod_eq_of_lt hx]; exact Iff.rfl
  | m + 1, x, hx => by
    have hlt : (x + 1) % k < k := Nat.mod_lt _ (by omega)
    have ih := ring_wk hk hk2 m ((x + 1) % k) hlt
    rw [Nat.mod_add_mod] at ih
    rw [show x + (m + 1) = x + 1 + m by omega, ← ih]
    constructor
    · rintro ⟨y, h1, h2⟩
      have h3 := ((ring_needs hk hk2).1 h1).2
      have : y = (x + 1) % k := by omega
      exact this ▸ h2
    · intro h
      exact ⟨_, (ring_needs hk hk2).2 ⟨hx, rfl⟩, h⟩
theorem ring_circle {k : Nat} (hk : 1 ≤ k) (hk2 : k ≤ 60) : (ofD (ringNow k) []).circle = (List.range k).map wordD := by
  have hl : (ofD (ringNow k) []).flows.length = k := by rw [ofD_len]; simp [ringNow]
  have hm : Mn (ofD (ringNow k) []).needs 0 (k - 1 + 1) 0 := by
    rw [show k - 1 + 1 = k by omega]
    refine ⟨hk, (ring_wk hk hk2 k 0 (by omega)).2 (by rw [Nat.zero_add, Nat.mod_self]), fun j h1 h2 h3 => ?_⟩
    have := (ring_wk hk hk2 j 0 (by omega)).1 h3
    rw [Nat.zero_add, Nat.mod_eq_of_lt h2] at this
    omega
  rw [circle_is (ofD (ringNow k) []) 0 (k - 1) id (by omega) rfl hm (fun y hy => by omega) (fun j y hj hy _ => ?_), show k - 1 + 1 = k by omega]
  · apply List.map_congr_left
    intro i hi
    exact ofD_name _ _ (by simp [ringNow]; simpa using hi)
  · have h3 := ((ring_needs hk hk2).1 hy).2
    rw [show (id j : Nat) = j from rfl, Nat.mod_eq_of_lt (by omega)] at h3
    show y = j + 1
    omega
theorem ring_clash {k : Nat} (hk : 1 ≤ k) (hk2 : k ≤ 60) : (ofD (ringNow k) []).clash = 0 :=
  ofD_clash (by simp [ringNow]; omega) (ringNow_lt hk) (fun i x hx => by simp at hx) (fun i => by
    rw [ringNow, range_getD]; split <;> simp)
theorem cutNow_lt {k w : Nat} (hk : 1 ≤ k) : ∀ i, ∀ x ∈ (cutNow k w).getD i [], x < (cutNow k w).length := by
  intro i x hx
  rw [cutNow, range_getD] at hx
  rw [cutNow, List.length_map, List.length_range]
  split at hx
  · split at hx
    · simp at hx
    · rw [List.mem_singleton] at hx; subst hx; exact Nat.mod_lt _ (by omega)
  · simp at hx
theorem cutAgo_lt {k w : Nat} (hk : 1 ≤ k) : ∀ i, ∀ x ∈ (cutAgo k w).getD i [], x < (cutNow k w).length := by
  intro i x hx
  rw [cutAgo, range_getD] at hx
  rw [cutNow, List.length_map, List.length_range]
  split at hx
  · split at hx
    · rw [List.mem_singleton] at hx; subst hx; exact Nat.mod_lt _ (by omega)
    · simp at hx
  · simp at hx
theorem cut_circle {k w : Nat} (hk : 1 ≤ k) (hk2 : k ≤ 60) (hw : w < k) : (ofD (cutNow k w) (cutAgo k w)).circle = [] := by
  refine no_circle (φ := fun i => if i ≤ w then w - i else w + k - i) fun x y h => ?_
  have hlen : (cutNow k w).length = k := by simp [cutNow]
  obtain ⟨h1, z, h2, h3⟩ := (ofD_needs (by omega) (cutNow_lt hk)).1 h
  rw [hlen] at h1
  rw [cutNow, range_getD, if_pos h1] at h2
  split at h2
  · simp at h2
  · rename_i hx
    rw [List.mem_singleton] at h2
    have hy : y = (x + 1) % k := by omega
    subst hy
    by_cases hxk : x + 1 = k
    · rw [hxk, Nat.mod_self]
      split <;> split <;> omega
    · rw [Nat.mod_eq_of_lt (by omega)]
      split <;> split <;> omega
theorem cut_clash {k w : Nat} (hk : 1 ≤ k) (hk2 : k ≤ 60) : (ofD (cutNow k w) (cutAgo k w)).clash = 0 :=
  ofD_clash (by simp [cutNow]; omega) (cutNow_lt hk) (cutAgo_lt hk) (fun i => by
    rw [cutNow, cutAgo, range_getD, range_getD]
    by_cases h : i < k
    · rw [if_pos h, if_pos h]; split <;> simp
    · rw [if_neg h, if_neg h]; simp)

/-! ### A short way through a ring -/
def shortRow (k at_ i : Nat) : List Nat := if i = at_ then [1 + (i + 1) % k, 1] else [1 + (i + 1) % k]
def shortNow (k at_ : Nat) : List (List Nat) := [1] :: (List.range k).map (shortRow k at_)
theorem short_get (k at_ i : Nat) : (shortNow k at_).getD (i + 1) [] = if i < k then shortRow k at_ i else [] := by
  rw [shortNow, List.getD_cons_succ, range_getD]
theorem short_len (k at_ : Nat) : (shortNow k at_).length = k + 1 := by simp [shortNow]
theorem mem_shortRow {k at_ i x : Nat} : x ∈ shortRow k at_ i ↔ x = 1 + (i + 1) % k ∨ i = at_ ∧ x = 1 := by
  rw [shortRow]
  split
  · rename_i h; simp [h]
  · rename_i h; simp [h]
theorem shortNow_lt {k at_ : Nat} (hk : 3 ≤ k) : ∀ i, ∀ x ∈ (shortNow k at_).getD i [], 1 ≤ x ∧ x < (shortNow k at_).length := by
  intro i x hx
  rw [short_len]
  cases i with
  | zero =>
    rw [shortNow, List.getD_cons_zero, List.mem_singleton] at hx
    omega
  | succ i =>
    rw [short_get] at hx
    split at hx
    · have := Nat.mod_lt (i + 1) (show k > 0 by omega)
      rcases mem_shortRow.1 hx with h | ⟨_, h⟩ <;> omega
    · simp at hx
theorem short_needs {k at_ : Nat} (hk : 3 ≤ k) (hk2 : k ≤ 60) {i : Nat} {y : Int} : y ∈ (ofD (shortNow k at_) []).needs i ↔ i < k + 1 ∧ ∃ x ∈ (shortNow k at_).getD i [], y = (x : Int) := by
  have h := ofD_needs (now := shortNow k at_) (ago := []) (i := i) (y := y) (by rw [short_len]; omega) (fun i x hx => (shortNow_lt hk i x hx).2)
  rw [short_len] at h
  exact h
theorem short_step {k at_ : Nat} (hk : 3 ≤ k) (hk2 : k ≤ 60) (hat : at_ < k - 1) {j y : Nat} (hj : j < at_) (h : (y : Int) ∈ (ofD (shortNow k at_) []).needs (1 + j)) : y = 1 + (j + 1) := by
  obtain ⟨_, x, h1, h2⟩ := (short_needs hk hk2).1 h
  rw [Nat.add_comm 1 j, short_get, if_pos (by omega)] at h1
  rcases mem_shortRow.1 h1 with h3 | ⟨h3, _⟩
  · rw [Nat.mod_eq_of_lt (by omega)] at h3; omega
  · omega
theorem short_least {k at_ : Nat} (hk : 3 ≤ k) (hk2 : k ≤ 60) (hat : at_ < k - 1) : ∀ (m j : Nat), j ≤ at_ → 1 ≤ m → Wk (ofD (shortNow k at_) []).needs 1 m (1 + j) → at_ + 1 - j ≤ m
  | 0, j, _, h, _ => by omega
  | m + 1, j, hj, _, ⟨y, h1, h2⟩ => by
    by_cases e : j = at_
    · omega
    · have hy := short_step hk hk2 hat (j := j) (by omega) h1
      subst hy
      cases m with
      | zero =>
        have h3 : 1 + (j + 1) = 1 := h2
        omega
      | succ m =>
        have := short_least hk hk2 hat (m + 1) (j + 1) (by omega) (by omega) h2
        omega
theorem short_goes {k at_ : Nat} (hk : 3 ≤ k) (hk2 : k ≤ 60) (hat : at_ < k - 1) : ∀ (m j : Nat), j + m = at_ → Wk (ofD (shortNow k at_) []).needs 1 (m + 1) (1 + j)
  | 0, j, hj => by
    refine ⟨1, (short_needs hk hk2).2 ⟨by omega, 1, ?_, rfl⟩, rfl⟩
    rw [Nat.add_comm 1 j, short_get, if_pos (by omega)]
    exact mem_shortRow.2 (.inr ⟨by omega, rfl⟩)
  | m + 1, j, hj => by
    refine ⟨1 + (j + 1), (short_needs hk hk2).2 ⟨by omega, 1 + (j + 1), ?_, rfl⟩, short_goes hk hk2 hat m (j + 1) (by omega)⟩
    rw [Nat.add_comm 1 j, short_get, if_pos (by omega)]
    exact mem_shortRow.2 (.inl (by rw [Nat.mod_eq_of_lt (by omega)]))
theorem short_circle {k at_ : Nat} (hk : 3 ≤ k) (hk2 : k ≤ 60) (hat : at_ < k - 1) : (ofD (shortNow k at_) []).circle = (List.range (at_ + 1)).map fun i => wordD (1 + i) := by
  have hl : (ofD (shortNow k at_) []).flows.length = k + 1 := by rw [ofD_len, short_len]
  have hm : Mn (ofD (shortNow k at_) []).needs 1 (at_ + 1) 1 := by
    refine ⟨by omega, short_goes hk hk2 hat at_ 0 (by omega), fun j h1 h2 h3 => ?_⟩
    have := short_least hk hk2 hat j 0 (by omega) h1 h3
    omega
  rw [circle_is (ofD (shortNow k at_) []) 1 at_ (fun j => 1 + j) (by omega) rfl hm (fun y hy j hj hw => ?_) (fun j y hj hy _ => short_step hk hk2 hat hj hy)]
  · apply List.map_congr_left
    intro i hi
    have := List.mem_range.1 hi
    exact ofD_name _ _ (by rw [short_len]; omega)
  · obtain ⟨z, hz⟩ := wk_last j y hj hw
    obtain ⟨_, x, h1, h2⟩ := (short_needs hk hk2).1 hz
    have := (shortNow_lt hk z x h1).1
    omega
theorem short_clash {k at_ : Nat} (hk : 3 ≤ k) (hk2 : k ≤ 60) : (ofD (shortNow k at_) []).clash = 0 :=
  ofD_clash (by rw [short_len]; omega) (fun i x hx => (shortNow_lt hk i x hx).2) (fun i x hx => by simp at hx) (fun i => by
    cases i with
    | zero => rw [shortNow, List.getD_cons_zero]; simp
    | succ i =>
      rw [short_get]; split
      · rw [shortRow]; split <;> simp
      · simp)

/-! ### Flows in order; and one more need that may close a circle -/
structure Falls (now : List (List Nat)) : Prop where
  lt : ∀ i, ∀ k ∈ now.getD i [], k < i
theorem falls_first {now : List (List Nat)} (h : Falls now) : now.getD 0 [] = [] := by
  cases hl : now.getD 0 [] with
  | nil => rfl
  | cons x r =>
    have := h.lt 0 x (by rw [hl]; simp)
    omega
theorem falls_len {now : List (List Nat)} (h : Falls now) : ∀ i, ∀ k ∈ now.getD i [], k < now.length := by
  intro i k hk
  have h1 := h.lt i k hk
  by_cases hi : i < now.length
  · omega
  · rw [List.getD_eq_getElem?_getD, List.getElem?_eq_none (by omega)] at hk; simp at hk
theorem falls_circle {now ago : List (List Nat)} (h : Falls now) (hl : now.length ≤ 676) : (ofD now ago).circle = [] := by
  refine no_circle (φ := id) fun x y hy => ?_
  obtain ⟨_, k, h1, h2⟩ := (ofD_needs hl (falls_len h)).1 hy
  have := h.lt x k h1
  show y < x
  omega
/-- From a flow to another one, by what is needed. -/
def Reach (now : List (List Nat)) (from_ : Nat) : Nat → Nat → Prop
  | 0, x => x = from_
  | m + 1, x => ∃ z, Reach now from_ m z ∧ x ∈ now.getD z []
def closeNow (now : List (List Nat)) (last : Nat) : List (List Nat) := now.set 0 [last]
theorem close_get {now : List (List Nat)} (hn : 0 < now.length) (last i : Nat) : (closeNow now last).getD i [] = if i = 0 then [last] else now.getD i [] := by
  rw [closeNow, List.getD_eq_getElem?_getD, List.getD_eq_getElem?_getD, List.getElem?_set]
  by_cases h : i = 0
  · subst h; simp [hn]
  · rw [if_neg (fun e => h e.symm), if_neg h]
theorem reach_lt {now : List (List Nat)} (h : Falls now) {from_ : Nat} : ∀ m x, Reach now from_ m x → x ≤ from_
  | 0, x, hx => by
    have : x = from_ := hx
    omega
  | m + 1, x, ⟨z, h1, h2⟩ => by
    have h3 := reach_lt h m z h1
    have h4 := h.lt z x h2
    omega
theorem close_lt {now : List (List Nat)} (h : Falls now) {last : Nat} (hl : last < now.length) : ∀ i, ∀ k ∈ (closeNow now last).getD i [], k < (closeNow now last).length := by
  intro i k hk
  rw [close_get (by omega)] at hk
  rw [closeNow, List.length_set]
  split at hk
  · rw [List.mem_singleton] at hk; omega
  · exact falls_len h i k hk
theorem close_circle {now ago : List (List Nat)} (h : Falls now) {last : Nat} (hlast : last < now.length) (hl : now.length ≤ 676) :
    (ofD (closeNow now last) ago).circle ≠ [] ↔ ∃ m, Reach now last m 0 := by
  have hcl : (closeNow now last).length = now.length := by rw [closeNow, List.length_set]
  have hne : ∀ (x y : Nat), (y : Int) ∈ (ofD (closeNow now last) ago).needs x ↔ x < now.length ∧ (if x = 0 then y = last else y ∈ now.getD x []) := by
    intro x y
    rw [ofD_needs (by omega) (close_lt h hlast), hcl, close_get (by omega)]
    constructor
    · rintro ⟨h1, k, h2, h3⟩
      have : y = k := by omega
      subst this
      refine ⟨h1, ?_⟩
      split at h2
      · rename_i e; rw [if_pos e]; simpa using h2
      · rename_i e; rw [if_neg e]; exact h2
    · rintro ⟨h1, h2⟩
      refine ⟨h1, y, ?_, rfl⟩
      split at h2
      · rename_i e; rw [if_pos e]; simpa using h2
      · rename_i e; rw [if_neg e]; exact h2
  constructor
  · intro hc
    refine Classical.byContradiction fun hno => hc ?_
    have hno2 : ∀ m, ¬ Reach now last m 0 := fun m hm => hno ⟨m, hm⟩
    have : ∃ S : Nat → Bool, ∀ x, S x = true ↔ ∃ m, Reach now last m x := ⟨fun x => @decide (∃ m, Reach now last m x) (Classical.propDecidable _), fun x => by simp⟩
    obtain ⟨S, hS⟩ := this
    have h0 : S 0 = false := by
      rw [← Bool.not_eq_true, hS]
      rintro ⟨m, hm⟩; exact hno2 m hm
    refine no_circle (φ := fun x => if S x = true then x else now.length + 1 + x) fun x y hy => ?_
    obtain ⟨h1, h2⟩ := (hne x y).1 hy
    by_cases hx : x = 0
    · subst hx
      rw [if_pos rfl] at h2
      subst h2
      rw [if_pos ((hS _).2 ⟨0, rfl⟩), if_neg (by rw [h0]; decide)]
      omega
    · rw [if_neg hx] at h2
      have h3 := h.lt x y h2
      by_cases hs : S x = true
      · obtain ⟨m, hm⟩ := (hS x).1 hs
        rw [if_pos hs, if_pos ((hS y).2 ⟨m + 1, x, hm, h2⟩)]
        exact h3
      · rw [if_neg hs]
        split <;> omega
  · rintro ⟨m, hm⟩ hc
    have hw : ∀ m x, Reach now last m x → m = 0 ∨ True → ∃ j, Wk (ofD (closeNow now last) ago).needs x j last := by
      intro m
      induction m with
      | zero => intro x hx _; exact ⟨0, Eq.symm hx⟩
      | succ m ih =>
        rintro x ⟨z, h1, h2⟩ _
        obtain ⟨j, hj⟩ := ih z h1 (.inr trivial)
        have hz : z ≠ 0 := by
          rintro rfl
          rw [falls_first h] at h2; simp at h2
        have hz2 := reach_lt h m z h1
        exact ⟨j + 1, wk_snoc j last hj ((hne z x).2 ⟨by omega, by rw [if_neg hz]; exact h2⟩)⟩
    obtain ⟨j, hj⟩ := hw m 0 hm (.inr trivial)
    rw [circle_iff] at hc
    refine hc 0 (j + 1) (by rw [ofD_len, hcl]; omega) (by omega) ⟨last, (hne 0 last).2 ⟨by omega, by rw [if_pos rfl]⟩, hj⟩
theorem falls_clash {now ago : List (List Nat)} (h : Falls now) (hl : now.length ≤ 128) (hago : ∀ i, ∀ k ∈ ago.getD i [], k < now.length) (hsz : ∀ i, (now.getD i []).length + (ago.getD i []).length ≤ 30) : (ofD now ago).clash = 0 :=
  ofD_clash hl (falls_len h) hago hsz
theorem close_clash {now ago : List (List Nat)} (h : Falls now) {last : Nat} (hlast : last < now.length) (hl : now.length ≤ 128) (hago : ∀ i, ∀ k ∈ ago.getD i [], k < now.length) (hsz : ∀ i, (now.getD i []).length + (ago.getD i []).length ≤ 29) : (ofD (closeNow now last) ago).clash = 0 := by
  refine ofD_clash (by rw [closeNow, List.length_set]; exact hl) (close_lt h hlast) (fun i k hk => by rw [closeNow, List.length_set]; exact hago i k hk) (fun i => ?_)
  rw [close_get (by omega)]
  have := hsz i
  split
  · rw [List.length_singleton]; omega
  · omega
end Go.Proofs.Ytmepdfipigdjhaa
