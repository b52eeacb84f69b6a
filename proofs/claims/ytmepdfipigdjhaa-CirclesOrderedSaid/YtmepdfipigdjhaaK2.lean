/- Plain facts: how far it is to a flow, and the circle that is told. No program is walked here. -/
import Derived.Test.YtmepdfipigdjhaaK1
namespace Go.Proofs.Ytmepdfipigdjhaa
open Go.RowKit
set_option linter.unusedSimpArgs false
set_option linter.unusedVariables false

/-- In so many steps from a flow to b. -/
def Wk (need : Nat → List Int) (b : Nat) : Nat → Nat → Prop
  | 0, x => x = b
  | k + 1, x => ∃ y : Nat, (y : Int) ∈ need x ∧ Wk need b k y
/-- The least number of steps, at least one. -/
def Mn (need : Nat → List Int) (b k x : Nat) : Prop := 1 ≤ k ∧ Wk need b k x ∧ ∀ j, 1 ≤ j → j < k → ¬ Wk need b j x
structure NeedOK (need : Nat → List Int) (many : Nat) : Prop where
  lo : ∀ x y, y ∈ need x → ∃ g : Nat, y = g ∧ g < many
  hi : ∀ x, many ≤ x → need x = []

theorem mn_of_wk {need : Nat → List Int} {b : Nat} : ∀ (n k x : Nat), k ≤ n → 1 ≤ k → Wk need b k x → ∃ j, j ≤ k ∧ Mn need b j x
  | 0, k, x, h0, h1, _ => by omega
  | n + 1, k, x, h0, h1, h => by
    by_cases hs : ∃ j, 1 ≤ j ∧ j < k ∧ Wk need b j x
    · obtain ⟨j, h2, h3, h4⟩ := hs
      obtain ⟨i, h5, h6⟩ := mn_of_wk n j x (by omega) h2 h4
      exact ⟨i, by omega, h6⟩
    · exact ⟨k, Nat.le_refl _, h1, h, fun j h2 h3 h4 => hs ⟨j, h2, h3, h4⟩⟩
theorem Mn.uniq {need : Nat → List Int} {b k j x : Nat} (h : Mn need b k x) (h2 : Mn need b j x) : k = j := by
  rcases Nat.lt_trichotomy k j with h3 | h3 | h3
  · exact absurd h.2.1 (h2.2.2 k h.1 h3)
  · exact h3
  · exact absurd h2.2.1 (h.2.2 j h2.1 h3)
/-- One step on. -/
theorem Mn.step {need : Nat → List Int} {b k x : Nat} (h : Mn need b (k + 1) x) (hk : 1 ≤ k) : ∃ y : Nat, (y : Int) ∈ need x ∧ Mn need b k y := by
  obtain ⟨_, ⟨y, h1, h2⟩, h3⟩ := h
  exact ⟨y, h1, hk, h2, fun j h4 h5 h6 => h3 (j + 1) (by omega) (by omega) ⟨y, h1, h6⟩⟩
theorem Mn.down {need : Nat → List Int} {b : Nat} : ∀ (d k x : Nat), Mn need b (k + d) x → 1 ≤ k → ∃ g, Mn need b k g
  | 0, k, x, h, _ => ⟨x, h⟩
  | d + 1, k, x, h, hk => by
    obtain ⟨y, _, h2⟩ := Mn.step (k := k + d) h (by omega)
    exact Mn.down d k y h2 hk
theorem Mn.lt {need : Nat → List Int} {many b k x : Nat} (hN : NeedOK need many) (h : Mn need b k x) : x < many := by
  obtain ⟨h1, h2, _⟩ := h
  obtain ⟨k, rfl⟩ : ∃ m, k = m + 1 := ⟨k - 1, by omega⟩
  obtain ⟨y, h3, _⟩ := h2
  by_cases hx : x < many
  · exact hx
  · rw [hN.hi x (by omega)] at h3; simp at h3

theorem newC_mn {need : Nat → List Int} {many b s : Nat} {seen : Nat → Bool} {edge : List Int} (hN : NeedOK need many) (hs0 : 1 ≤ s)
    (hs : ∀ f, f < many → (seen f = true ↔ ∃ j, 1 ≤ j ∧ j < s ∧ Wk need b j f))
    (he : ∀ y : Int, y ∈ edge ↔ ∃ g : Nat, y = g ∧ if s = 1 then g = b else Mn need b (s - 1) g) (f : Nat) :
    f ∈ newC need many seen edge ↔ Mn need b s f := by
  rw [newC_mem]
  constructor
  · rintro ⟨h1, h2, x, h3, h4⟩
    obtain ⟨g, rfl, h5⟩ := (he x).1 h4
    refine ⟨hs0, ?_, fun j hj1 hj2 hj3 => ?_⟩
    · by_cases e : s = 1
      · subst e
        rw [if_pos rfl] at h5
        exact ⟨g, h3, h5⟩
      · rw [if_neg e] at h5
        obtain ⟨m, rfl⟩ : ∃ m, s = m + 1 := ⟨s - 1, by omega⟩
        exact ⟨g, h3, h5.2.1⟩
    · have := (hs f h1).2 ⟨j, hj1, hj2, hj3⟩
      rw [h2] at this; cases this
  · intro h
    have hlt := h.lt hN
    have hseen : seen f = false := by
      rw [← Bool.not_eq_true]
      intro h1
      obtain ⟨j, h2, h3, h4⟩ := (hs f hlt).1 h1
      exact h.2.2 j h2 h3 h4
    refine ⟨hlt, hseen, ?_⟩
    by_cases e : s = 1
    · subst e
      obtain ⟨_, ⟨y, h1, h2⟩, _⟩ := h
      exact ⟨y, h1, (he y).2 ⟨y, rfl, by rw [if_pos rfl]; exact h2⟩⟩
    · obtain ⟨m, rfl⟩ : ∃ m, s = m + 1 := ⟨s - 1, by omega⟩
      obtain ⟨y, h1, h2⟩ := h.step (by omega)
      exact ⟨y, h1, (he y).2 ⟨y, rfl, by rw [if_neg e]; exact h2⟩⟩

theorem comeGo_full {need : Nat → List Int} {many b : Nat} (hN : NeedOK need many) : ∀ (fuel : Nat) (seen : Nat → Bool) (edge : List Int) (s : Nat), 1 ≤ s →
    (∀ f, f < many → (seen f = true ↔ ∃ j, 1 ≤ j ∧ j < s ∧ Wk need b j f)) →
    (∀ y : Int, y ∈ edge ↔ ∃ g : Nat, y = g ∧ if s = 1 then g = b else Mn need b (s - 1) g) →
    unseen many seen < fuel → ∀ (f : Nat) (z : Int), (f, z) ∈ comeGo need many fuel seen edge (s : Int) ↔ ∃ k : Nat, z = k ∧ s ≤ k ∧ Mn need b k f
  | 0, _, _, _, _, _, _, hu, _, _ => by omega
  | fuel + 1, seen, edge, s, hs0, hs, he, hu, f, z => by
    have hnew := newC_mn hN hs0 hs he
    have hnone : newC need many seen edge = [] → ∀ k, s ≤ k → ¬ Mn need b k f := fun h k hk hm => by
      obtain ⟨g, hg⟩ := Mn.down (k - s) s f (by rw [show s + (k - s) = k by omega]; exact hm) hs0
      have := (hnew g).2 hg
      rw [h] at this; simp at this
    by_cases hed : edge = []
    · subst hed
      rw [comeGo_stop]
      have hn : newC need many seen [] = [] := by simp [newC]
      constructor
      · intro h; simp at h
      · rintro ⟨k, _, h1, h2⟩; exact absurd h2 (hnone hn k h1)
    · rw [comeGo, if_neg hed, List.mem_append]
      have hfirst : (f, z) ∈ (newC need many seen edge).map (fun f => (f, (s : Int))) ↔ z = s ∧ Mn need b s f := by
        rw [List.mem_map]
        constructor
        · rintro ⟨g, hg, he2⟩
          simp only [Prod.mk.injEq] at he2
          obtain ⟨rfl, rfl⟩ := he2
          exact ⟨rfl, (hnew _).1 hg⟩
        · rintro ⟨rfl, h⟩; exact ⟨f, (hnew f).2 h, rfl⟩
      rw [hfirst]
      by_cases hn : newC need many seen edge = []
      · rw [hn, List.map_nil, comeGo_stop]
        constructor
        · rintro (⟨_, h⟩ | h)
          · exact absurd h (hnone hn s (Nat.le_refl _))
          · simp at h
        · rintro ⟨k, _, h1, h2⟩; exact absurd h2 (hnone hn k h1)
      · have hun := unseen_next need many seen edge
        have hpos := List.length_pos_iff.2 hn
        have ih := comeGo_full (b := b) hN fuel (fun f => seen f || (newC need many seen edge).contains f) ((newC need many seen edge).map Int.ofNat) (s + 1) (by omega) ?_ ?_ (by omega) f z
        · rw [show ((s : Int) + 1) = ((s + 1 : Nat) : Int) by push_cast; rfl, ih]
          constructor
          · rintro (⟨rfl, h⟩ | ⟨k, h1, h2, h3⟩)
            · exact ⟨s, rfl, Nat.le_refl _, h⟩
            · exact ⟨k, h1, by omega, h3⟩
          · rintro ⟨k, h1, h2, h3⟩
            by_cases e : k = s
            · subst e; exact .inl ⟨h1, h3⟩
            · exact .inr ⟨k, h1, by omega, h3⟩
        · intro g hg
          rw [Bool.or_eq_true, List.contains_iff_mem, hnew, hs g hg]
          constructor
          · rintro (⟨j, h1, h2, h3⟩ | h)
            · exact ⟨j, h1, by omega, h3⟩
            · exact ⟨s, hs0, by omega, h.2.1⟩
          · rintro ⟨j, h1, h2, h3⟩
            by_cases e : ∃ i, 1 ≤ i ∧ i < s ∧ Wk need b i g
            · exact .inl e
            · have hj : j = s := by
                rcases Nat.lt_or_ge j s with h | h
                · exact absurd ⟨j, h1, h, h3⟩ e
                · omega
              subst hj
              exact .inr ⟨h1, h3, fun i h4 h5 h6 => e ⟨i, h4, h5, h6⟩⟩
        · intro y
          rw [List.mem_map]
          constructor
          · rintro ⟨g, hg, rfl⟩
            exact ⟨g, rfl, by rw [if_neg (by omega), show s + 1 - 1 = s by omega]; exact (hnew g).1 hg⟩
          · rintro ⟨g, rfl, hg⟩
            rw [if_neg (by omega), show s + 1 - 1 = s by omega] at hg
            exact ⟨g, (hnew g).2 hg, rfl⟩
theorem unseen_le (many : Nat) (seen : Nat → Bool) : unseen many seen ≤ many := by
  have := List.length_filter_le (fun f => !seen f) (List.range many)
  rw [List.length_range] at this
  exact this
/-- What comes to a flow is just what does, in the least number of steps. -/
theorem comeC_mem {need : Nat → List Int} {many : Nat} (hN : NeedOK need many) (b f : Nat) (z : Int) : (f, z) ∈ comeC need many b ↔ ∃ k : Nat, z = k ∧ Mn need b k f := by
  have := comeGo_full (b := b) hN (many + 2) (fun _ => false) [(b : Int)] 1 (Nat.le_refl _) (fun f _ => ?_) (fun y => ?_) (by have := unseen_le many (fun _ => false); omega) f z
  · rw [comeC]
    refine this.trans ?_
    constructor
    · rintro ⟨k, h1, _, h2⟩; exact ⟨k, h1, h2⟩
    · rintro ⟨k, h1, h2⟩; exact ⟨k, h1, h2.1, h2⟩
  · constructor
    · intro h; cases h
    · rintro ⟨j, h1, h2, _⟩; omega
  · rw [List.mem_singleton]
    constructor
    · intro h; exact ⟨b, h, by rw [if_pos rfl]⟩
    · rintro ⟨g, h, h2⟩; rw [if_pos rfl] at h2; subst h2; exact h
theorem far_min {need : Nat → List Int} {many : Nat} (hN : NeedOK need many) {b k f : Nat} (h : Mn need b k f) : farOf (comeC need many b) f = k :=
  far_of_mem ((comeC_mem hN b f k).2 ⟨k, rfl, h⟩)
theorem far_mn {need : Nat → List Int} {many : Nat} (hN : NeedOK need many) {b f : Nat} (h : farOf (comeC need many b) f ≠ 0) : ∃ k : Nat, farOf (comeC need many b) f = k ∧ Mn need b k f :=
  (comeC_mem hN b f _).1 (farOf_mem h)
theorem far_eq {need : Nat → List Int} {many : Nat} (hN : NeedOK need many) {b k f : Nat} (hk : 1 ≤ k) : farOf (comeC need many b) f = k ↔ Mn need b k f := by
  constructor
  · intro h
    obtain ⟨j, h1, h2⟩ := far_mn hN (b := b) (f := f) (by omega)
    have : j = k := by omega
    exact this ▸ h2
  · exact far_min hN
theorem far_zero {need : Nat → List Int} {many : Nat} (hN : NeedOK need many) {b f : Nat} : farOf (comeC need many b) f = 0 ↔ ∀ k, 1 ≤ k → ¬ Wk need b k f := by
  constructor
  · intro h k hk hw
    obtain ⟨j, _, h1⟩ := mn_of_wk k k f (Nat.le_refl _) hk hw
    have h2 := far_min hN h1
    have := h1.1
    omega
  · intro h
    by_cases hz : farOf (comeC need many b) f = 0
    · exact hz
    · obtain ⟨k, _, h1⟩ := far_mn hN hz
      exact absurd h1.2.1 (h k h1.1)

/-- The way that is gone: each one needs the next one; the last one needs b. -/
theorem hop_chain {need : Nat → List Int} {many : Nat} (hN : NeedOK need many) (b : Nat) : ∀ (k x : Nat), Mn need b (k + 1) x →
    (hopC need (farOf (comeC need many b)) k x).length = k ∧ ∀ j, j < k + 1 → ∃ g : Nat, ((x : Int) :: hopC need (farOf (comeC need many b)) k x)[j]? = some (g : Int) ∧ Mn need b (k + 1 - j) g ∧ g < many ∧
      (j < k → ∃ g2 : Nat, ((x : Int) :: hopC need (farOf (comeC need many b)) k x)[j + 1]? = some (g2 : Int) ∧ (g2 : Int) ∈ need g) ∧ (j = k → (b : Int) ∈ need g)
  | 0, x, h => by
    refine ⟨rfl, fun j hj => ?_⟩
    have : j = 0 := by omega
    subst this
    refine ⟨x, rfl, h, h.lt hN, fun h => by omega, fun _ => ?_⟩
    obtain ⟨_, ⟨y, h1, h2⟩, _⟩ := h
    have : y = b := h2
    exact this ▸ h1
  | k + 1, x, h => by
    obtain ⟨y0, hy0, hm0⟩ := h.step (by omega)
    have hex : ∃ y ∈ need x, (fun z => decide (farOf (comeC need many b) z = ((k + 1 : Nat) : Int))) y = true := ⟨y0, hy0, by simp only [decide_eq_true_eq]; exact far_min hN hm0⟩
    obtain ⟨_, _, h3, h4⟩ := placeZ_get hex 0
    have hhop : hopC need (farOf (comeC need many b)) (k + 1) x = (need x).getD (placeZ (fun z => decide (farOf (comeC need many b) z = ((k + 1 : Nat) : Int))) (need x)).toNat 0 ::
        hopC need (farOf (comeC need many b)) k ((need x).getD (placeZ (fun z => decide (farOf (comeC need many b) z = ((k + 1 : Nat) : Int))) (need x)).toNat 0) := by
      rw [hopC, show ((x : Int)).toNat = x from Int.toNat_natCast _]
    generalize (need x).getD (placeZ (fun z => decide (farOf (comeC need many b) z = ((k + 1 : Nat) : Int))) (need x)).toNat 0 = y at h3 h4 hhop
    obtain ⟨g, rfl, hg⟩ := hN.lo x y h3
    simp only [decide_eq_true_eq] at h4
    have hmg := (far_eq hN (by omega)).1 h4
    obtain ⟨hlen, hall⟩ := hop_chain hN b k g hmg
    rw [hhop]
    refine ⟨by simp [hlen], fun j hj => ?_⟩
    cases j with
    | zero => exact ⟨x, rfl, h, h.lt hN, fun _ => ⟨g, rfl, h3⟩, fun h => by omega⟩
    | succ j =>
      obtain ⟨g3, h5, h6, h7, h8, h9⟩ := hall j (by omega)
      refine ⟨g3, ?_, ?_, h7, fun hj2 => ?_, fun hj2 => h9 (by omega)⟩
      · rw [List.getElem?_cons_succ]; exact h5
      · rw [show k + 1 + 1 - (j + 1) = k + 1 - j by omega]; exact h6
      · obtain ⟨g4, h10, h11⟩ := h8 (by omega)
        exact ⟨g4, by rw [List.getElem?_cons_succ]; exact h10, h11⟩
end Go.Proofs.Ytmepdfipigdjhaa
