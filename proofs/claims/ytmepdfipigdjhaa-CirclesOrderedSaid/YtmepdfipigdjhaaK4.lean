/- Plain facts: which circle is told of flows that need given ones; flows more behind all. No program is walked here. -/
import Derived.Test.YtmepdfipigdjhaaK3
namespace Go.Proofs.Ytmepdfipigdjhaa
open Go.RowKit
set_option linter.unusedSimpArgs false
set_option linter.unusedVariables false

/-- Two ways of needing that agree on the first flows go the same ways from these. -/
theorem wk_congr {need need2 : Nat → List Int} {n b : Nat} (hlo : ∀ x y, x < n → y ∈ need x → ∃ g : Nat, y = g ∧ g < n) (h : ∀ x, x < n → need2 x = need x) : ∀ (k x : Nat), x < n → (Wk need2 b k x ↔ Wk need b k x)
  | 0, x, _ => Iff.rfl
  | k + 1, x, hx => by
    constructor
    · rintro ⟨y, h1, h2⟩
      rw [h x hx] at h1
      obtain ⟨g, h3, h4⟩ := hlo x _ hx h1
      have : y = g := by omega
      subst this
      exact ⟨y, h1, (wk_congr hlo h k y h4).1 h2⟩
    · rintro ⟨y, h1, h2⟩
      obtain ⟨g, h3, h4⟩ := hlo x _ hx h1
      have : y = g := by omega
      subst this
      exact ⟨y, by rw [h x hx]; exact h1, (wk_congr hlo h k y h4).2 h2⟩
theorem mn_congr {need need2 : Nat → List Int} {n b : Nat} (hlo : ∀ x y, x < n → y ∈ need x → ∃ g : Nat, y = g ∧ g < n) (h : ∀ x, x < n → need2 x = need x) {k x : Nat} (hx : x < n) : Mn need2 b k x ↔ Mn need b k x := by
  constructor
  · rintro ⟨h1, h2, h3⟩
    exact ⟨h1, (wk_congr hlo h k x hx).1 h2, fun j h4 h5 h6 => h3 j h4 h5 ((wk_congr hlo h j x hx).2 h6)⟩
  · rintro ⟨h1, h2, h3⟩
    exact ⟨h1, (wk_congr hlo h k x hx).2 h2, fun j h4 h5 h6 => h3 j h4 h5 ((wk_congr hlo h j x hx).1 h6)⟩
theorem findIdx?_congr {α : Type} {p q : α → Bool} {l : List α} (h : ∀ x ∈ l, p x = q x) : l.findIdx? p = l.findIdx? q := by
  induction l with
  | nil => rfl
  | cons x r ih =>
    rw [List.findIdx?_cons, List.findIdx?_cons, h x (by simp), ih (fun y hy => h y (by simp [hy]))]
/-- The same way is gone where the distances agree. -/
theorem hop_congr {need need2 : Nat → List Int} {far far2 : Int → Int} {n : Nat} (hlo : ∀ x y, x < n → y ∈ need x → ∃ g : Nat, y = g ∧ g < n) (h : ∀ x, x < n → need2 x = need x)
    (hf : ∀ (x : Nat), x < n → far2 x = far x) : ∀ (k x : Nat), x < n → (∀ j, j < k → True) → (∀ y : Nat, y < n → (∀ m : Nat, 1 ≤ m → far y = (m : Int) + 1 → ∃ z ∈ need y, far z = m)) → far x = k + 1 → hopC need2 far2 k x = hopC need far k x
  | 0, x, _, _, _, _ => rfl
  | k + 1, x, hx, _, hp, hx2 => by
    rw [hopC, hopC, show ((x : Int)).toNat = x from Int.toNat_natCast _, h x hx]
    have hpl : placeZ (fun z => decide (far2 z = ((k + 1 : Nat) : Int))) (need x) = placeZ (fun z => decide (far z = ((k + 1 : Nat) : Int))) (need x) := by
      rw [placeZ, placeZ, findIdx?_congr]
      intro z hz
      obtain ⟨g, rfl, hg⟩ := hlo x z hx hz
      rw [hf g hg]
    rw [hpl]
    obtain ⟨z, hz1, hz2⟩ := hp x hx (k + 1) (by omega) (by rw [hx2])
    obtain ⟨_, _, h3, h4⟩ := placeZ_get (p := fun z => decide (far z = ((k + 1 : Nat) : Int))) (l := need x) ⟨z, hz1, by simpa using hz2⟩ 0
    generalize (need x).getD (placeZ (fun z => decide (far z = ((k + 1 : Nat) : Int))) (need x)).toNat 0 = y at h3 h4
    obtain ⟨g, rfl, hg⟩ := hlo x y hx h3
    simp only [decide_eq_true_eq] at h4
    rw [hop_congr hlo h hf k g hg (fun _ _ => trivial) hp (by rw [h4]; push_cast; rfl)]

/-- A way whose every step is given: it is the circle. -/
theorem hop_is {need : Nat → List Int} {many : Nat} (hN : NeedOK need many) (b : Nat) (f : Nat → Nat) (K : Nat) (hf : ∀ j (y : Nat), j < K → (y : Int) ∈ need (f j) → Mn need b (K - j) y → y = f (j + 1)) :
    ∀ (k j : Nat), j + k = K → Mn need b (k + 1) (f j) → hopC need (farOf (comeC need many b)) k (f j) = (List.range k).map fun i => ((f (j + 1 + i) : Nat) : Int)
  | 0, j, _, _ => rfl
  | k + 1, j, hj, hm => by
    obtain ⟨y0, hy0, hm0⟩ := hm.step (by omega)
    have hex : ∃ y ∈ need (f j), (fun z => decide (farOf (comeC need many b) z = ((k + 1 : Nat) : Int))) y = true := ⟨y0, hy0, by simp only [decide_eq_true_eq]; exact far_min hN hm0⟩
    obtain ⟨_, _, h3, h4⟩ := placeZ_get hex 0
    rw [hopC, show ((f j : Nat) : Int).toNat = f j from Int.toNat_natCast _]
    generalize (need (f j)).getD (placeZ (fun z => decide (farOf (comeC need many b) z = ((k + 1 : Nat) : Int))) (need (f j))).toNat 0 = y at h3 h4
    obtain ⟨g, rfl, hg⟩ := hN.lo _ y h3
    simp only [decide_eq_true_eq] at h4
    have hmg := (far_eq hN (by omega)).1 h4
    have hgf := hf j g (by omega) h3 (by rw [show K - j = k + 1 by omega]; exact hmg)
    subst hgf
    rw [hop_is hN b f K hf k (j + 1) (by omega) hmg, List.range_succ_eq_map, List.map_cons, List.map_map]
    congr 1
    apply List.map_congr_left
    intro i _
    show _ = ((f (j + 1 + (i + 1)) : Nat) : Int)
    rw [show j + 1 + (i + 1) = j + 1 + 1 + i by omega]
theorem circle_is (p : PgD) (a K : Nat) (f : Nat → Nat) (ha : a < p.flows.length) (hf0 : f 0 = a) (hm : Mn p.needs a (K + 1) a) (hno : ∀ y, y < a → ∀ j, 1 ≤ j → ¬ Wk p.needs y j y)
    (hf : ∀ j (y : Nat), j < K → (y : Int) ∈ p.needs (f j) → Mn p.needs a (K - j) y → y = f (j + 1)) : p.circle = (List.range (K + 1)).map fun i => p.nameAt (f i) := by
  have hN := needs_ok p
  rcases circle_cases p with ⟨_, h2⟩ | ⟨a2, k2, h1, h2, h3, h4⟩
  · exact absurd hm.2.1 (h2 a (K + 1) ha (by omega))
  · have haa : a2 = a := by
      rcases Nat.lt_trichotomy a2 a with h | h | h
      · exact absurd h2.2.1 (hno a2 h (k2 + 1) (by omega))
      · exact h
      · exact absurd hm.2.1 (h3 a h (K + 1) (by omega))
    subst haa
    have hk : k2 = K := by have := h2.uniq hm; omega
    subst hk
    rw [h4]
    have hh := hop_is hN a2 f k2 hf k2 0 (by omega) (by rw [hf0]; exact hm)
    rw [hf0] at hh
    rw [hh, List.range_succ_eq_map, List.map_cons, List.map_cons, List.map_map, List.map_map]
    rw [hf0]
    congr 1
    apply List.map_congr_left
    intro i _
    show p.nameAt ((f (0 + 1 + i) : Nat) : Int) = p.nameAt ((f (i + 1) : Nat) : Int)
    rw [show 0 + 1 + i = i + 1 by omega]

/-- Flows behind all that nobody asks for leave the circle as it is. -/
theorem circle_more {p q : PgD} (h : ∀ x, x < p.flows.length → q.needs x = p.needs x) (hq : q.flows.length = p.flows.length + 1) (hn : ∀ x, x < p.flows.length → q.nameAt x = p.nameAt x) :
    (p.circle ≠ [] → q.circle = p.circle) ∧ (p.circle = [] → (∀ k, 1 ≤ k → ¬ Wk q.needs p.flows.length k p.flows.length) → q.circle = []) := by
  have hP := needs_ok p
  have hQ := needs_ok q
  have hlo : ∀ x y, x < p.flows.length → y ∈ p.needs x → ∃ g : Nat, y = g ∧ g < p.flows.length := fun x y _ hy => hP.lo x y hy
  constructor
  · intro hne
    rcases circle_cases p with ⟨h1, _⟩ | ⟨a, k, h1, h2, h3, h4⟩
    · exact absurd h1 hne
    · have hm := (mn_congr (b := a) hlo h h1).2 h2
      rcases circle_cases q with ⟨_, h5⟩ | ⟨a2, k2, h5, h6, h7, h8⟩
      · exact absurd hm.2.1 (h5 a (k + 1) (by omega) (by omega))
      · have haa : a2 = a := by
          rcases Nat.lt_trichotomy a2 a with hh | hh | hh
          · exact absurd ((wk_congr (b := a2) hlo h (k2 + 1) a2 (by omega)).1 h6.2.1) (h3 a2 hh (k2 + 1) (by omega))
          · exact hh
          · exact absurd hm.2.1 (h7 a hh (k + 1) (by omega))
        subst haa
        have hk : k2 = k := by have := h6.uniq hm; omega
        subst hk
        have hfar : ∀ (x : Nat), x < p.flows.length → farOf (comeC q.needs q.flows.length a2) x = farOf (comeC p.needs p.flows.length a2) x := by
          intro x hx
          by_cases hz : farOf (comeC p.needs p.flows.length a2) x = 0
          · rw [hz, far_zero hQ]
            intro j hj hw
            exact (far_zero hP).1 hz j hj ((wk_congr hlo h j x hx).1 hw)
          · obtain ⟨j, h9, h10⟩ := far_mn hP hz
            rw [h9, far_min hQ ((mn_congr hlo h hx).2 h10)]
        have hhop : hopC q.needs (farOf (comeC q.needs q.flows.length a2)) k2 a2 = hopC p.needs (farOf (comeC p.needs p.flows.length a2)) k2 a2 := by
          refine hop_congr hlo h hfar k2 a2 h1 (fun _ _ => trivial) (fun y hy m hm1 hm2 => ?_) (by rw [far_min hP h2]; push_cast; rfl)
          obtain ⟨z, hz1, hz2⟩ := Mn.step ((far_eq hP (k := m + 1) (by omega)).1 (by rw [hm2]; push_cast; rfl)) hm1
          exact ⟨z, hz1, far_min hP hz2⟩
        rw [h8, h4, hhop]
        obtain ⟨hlen, hall⟩ := hop_chain hP a2 k2 a2 h2
        apply List.map_congr_left
        intro y hy
        obtain ⟨j, hj, rfl⟩ := List.getElem_of_mem hy
        have hj2 : j < k2 + 1 := by simpa [hlen] using hj
        obtain ⟨g, h9, _, h10, _⟩ := hall j hj2
        rw [List.getElem?_eq_getElem hj] at h9
        rw [Option.some.inj h9]
        exact hn g h10
  · intro he hno
    rw [circle_iff] at he ⊢
    intro x k hx hk hw
    by_cases hxl : x < p.flows.length
    · exact he x k hxl hk ((wk_congr hlo h k x hxl).1 hw)
    · have : x = p.flows.length := by omega
      subst this
      exact hno k hk hw
end Go.Proofs.Ytmepdfipigdjhaa
