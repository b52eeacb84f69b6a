/- Plain facts: what comes to a flow, step by step. No program is walked here. -/
import Derived.Test.YtmepdfipigdjhaaC3
namespace Go.Proofs.Ytmepdfipigdjhaa
open Go.RowKit
set_option linter.unusedSimpArgs false
set_option linter.unusedVariables false
section
variable (need : Nat → List Int) (many : Nat)

theorem newC_mem {seen : Nat → Bool} {edge : List Int} {f : Nat} : f ∈ newC need many seen edge ↔ f < many ∧ seen f = false ∧ ∃ x ∈ need f, x ∈ edge := by
  rw [newC, List.mem_filter, List.mem_range]
  simp only [Bool.and_eq_true, Bool.not_eq_true', List.any_eq_true, decide_eq_true_eq]
  constructor
  · rintro ⟨h1, h2, x, h3, y, h4, rfl⟩; exact ⟨h1, h2, y, h3, h4⟩
  · rintro ⟨h1, h2, x, h3, h4⟩; exact ⟨h1, h2, x, h3, x, h4, rfl⟩
theorem newC_nodup (seen : Nat → Bool) (edge : List Int) : (newC need many seen edge).Nodup := by
  rw [newC]; exact List.Nodup.sublist List.filter_sublist List.nodup_range

/-- Whatever comes is a flow that had not been seen, at this step or a later one. -/
theorem comeGo_mem : ∀ (fuel : Nat) (seen : Nat → Bool) (edge : List Int) (steps : Int) (f : Nat) (s : Int), (f, s) ∈ comeGo need many fuel seen edge steps → f < many ∧ seen f = false ∧ steps ≤ s
  | 0, _, _, _, _, _, h => by simp [comeGo] at h
  | fuel + 1, seen, edge, steps, f, s, h => by
    rw [comeGo] at h
    split at h
    · simp at h
    · rcases List.mem_append.1 h with h | h
      · simp only [List.mem_map, Prod.mk.injEq] at h
        obtain ⟨g, hg, rfl, rfl⟩ := h
        have := (newC_mem need many).1 hg
        exact ⟨this.1, this.2.1, Int.le_refl _⟩
      · have := comeGo_mem fuel _ _ _ f s h
        simp only [Bool.or_eq_false_iff] at this
        exact ⟨this.1, this.2.1.1, by omega⟩
/-- No flow comes twice. -/
theorem comeGo_nodup : ∀ (fuel : Nat) (seen : Nat → Bool) (edge : List Int) (steps : Int), ((comeGo need many fuel seen edge steps).map Prod.fst).Nodup
  | 0, _, _, _ => by simp [comeGo]
  | fuel + 1, seen, edge, steps => by
    rw [comeGo]
    split
    · simp
    · rw [List.map_append, List.map_map, List.nodup_append]
      refine ⟨?_, comeGo_nodup fuel _ _ _, ?_⟩
      · have : (Prod.fst ∘ fun f : Nat => (f, steps)) = id := rfl
        rw [this, List.map_id]; exact newC_nodup need many seen edge
      · intro a ha b hb hab
        subst hab
        have : (Prod.fst ∘ fun f : Nat => (f, steps)) = id := rfl
        rw [this, List.map_id] at ha
        simp only [List.mem_map] at hb
        obtain ⟨⟨f, s⟩, h1, rfl⟩ := hb
        have := (comeGo_mem need many fuel _ _ _ f s h1).2.1
        simp only [Bool.or_eq_false_iff] at this
        have h2 := this.2
        rw [Bool.eq_false_iff] at h2
        exact h2 (List.contains_iff_mem.2 ha)
/-- Whatever comes needs one that came a step ahead of it, or one of the edge. -/
theorem comeGo_pred : ∀ (fuel : Nat) (seen : Nat → Bool) (edge : List Int) (steps : Int) (f : Nat) (s : Int), (f, s) ∈ comeGo need many fuel seen edge steps →
    (s = steps ∧ ∃ x ∈ need f, x ∈ edge) ∨ (steps < s ∧ ∃ g : Nat, (g : Int) ∈ need f ∧ (g, s - 1) ∈ comeGo need many fuel seen edge steps)
  | 0, _, _, _, _, _, h => by simp [comeGo] at h
  | fuel + 1, seen, edge, steps, f, s, h => by
    rw [comeGo] at h ⊢
    split at h
    · simp at h
    · rename_i he
      rw [if_neg he]
      rcases List.mem_append.1 h with h | h
      · simp only [List.mem_map, Prod.mk.injEq] at h
        obtain ⟨g, hg, rfl, rfl⟩ := h
        exact .inl ⟨rfl, ((newC_mem need many).1 hg).2.2⟩
      · right
        rcases comeGo_pred fuel _ _ _ f s h with ⟨rfl, x, h1, h2⟩ | ⟨h1, g, h2, h3⟩
        · simp only [List.mem_map] at h2
          obtain ⟨g, hg, rfl⟩ := h2
          refine ⟨by omega, g, h1, List.mem_append.2 (.inl ?_)⟩
          rw [show steps + 1 - 1 = steps by omega]
          exact List.mem_map.2 ⟨g, hg, rfl⟩
        · exact ⟨by omega, g, h2, List.mem_append.2 (.inr h3)⟩
theorem comeGo_lt : ∀ (fuel : Nat) (seen : Nat → Bool) (edge : List Int) (steps : Int) (f : Nat) (s : Int), (f, s) ∈ comeGo need many fuel seen edge steps → s < steps + fuel
  | 0, _, _, _, _, _, h => by simp [comeGo] at h
  | fuel + 1, seen, edge, steps, f, s, h => by
    rw [comeGo] at h
    split at h
    · simp at h
    · rcases List.mem_append.1 h with h | h
      · simp only [List.mem_map, Prod.mk.injEq] at h
        obtain ⟨g, hg, rfl, rfl⟩ := h
        omega
      · have := comeGo_lt fuel _ _ _ f s h
        omega
end
theorem placeZ_get {α : Type} {p : α → Bool} {l : List α} (h : ∃ x ∈ l, p x = true) (z : α) : 0 ≤ placeZ p l ∧ (placeZ p l).toNat < l.length ∧ l.getD (placeZ p l).toNat z ∈ l ∧ p (l.getD (placeZ p l).toNat z) = true := by
  have h0 : l.any p = true := List.any_eq_true.2 h
  have h1 := placeZ_any.2 h0
  refine ⟨h1, ?_⟩
  rw [placeZ] at h1 ⊢
  cases hf : l.findIdx? p with
  | none => rw [hf] at h1; exact absurd h1 (by decide)
  | some k =>
    rw [List.findIdx?_eq_some_iff_getElem] at hf
    obtain ⟨hk, hp, _⟩ := hf
    simp only [Int.toNat_natCast]
    refine ⟨hk, ?_, ?_⟩
    · rw [List.getD_eq_getElem?_getD, List.getElem?_eq_getElem hk]; exact List.getElem_mem hk
    · rw [List.getD_eq_getElem?_getD, List.getElem?_eq_getElem hk]; exact hp
theorem farOf_some {l : List (Nat × Int)} (hn : (l.map Prod.fst).Nodup) {f : Nat} {s : Int} (h : (f, s) ∈ l) : farOf l f = s := by
  have : l.reverse.find? (fun p => decide ((p.1 : Int) = f)) = some (f, s) := by
    have hn2 : (l.reverse.map Prod.fst).Nodup := by rw [List.map_reverse]; exact List.pairwise_reverse.2 (List.Pairwise.imp (fun h => Ne.symm h) hn)
    have h2 : (f, s) ∈ l.reverse := List.mem_reverse.2 h
    generalize l.reverse = r at hn2 h2
    clear hn h
    induction r with
    | nil => simp at h2
    | cons p r ih =>
      rw [List.find?_cons]
      by_cases e : p.1 = f
      · rcases List.mem_cons.1 h2 with h3 | h3
        · rw [← h3]; simp
        · exfalso
          simp only [List.map_cons, List.nodup_cons] at hn2
          exact hn2.1 (List.mem_map.2 ⟨(f, s), h3, e.symm⟩)
      · have e2 : decide ((p.1 : Int) = f) = false := by simp; omega
        rw [e2]
        rcases List.mem_cons.1 h2 with h3 | h3
        · exact absurd (by rw [← h3]) e
        · exact ih (by simp only [List.map_cons, List.nodup_cons] at hn2; exact hn2.2) h3
  rw [farOf, this]
theorem farOf_mem {l : List (Nat × Int)} {f : Nat} (h : farOf l f ≠ 0) : (f, farOf l f) ∈ l := by
  rw [farOf] at h ⊢
  cases hf : l.reverse.find? fun p => decide ((p.1 : Int) = f) with
  | none => rw [hf] at h; exact absurd rfl h
  | some p =>
    have h1 := List.find?_some hf
    have h2 := List.mem_of_find?_eq_some hf
    simp only [decide_eq_true_eq] at h1
    have h3 : p.1 = f := by omega
    rw [← h3]
    exact List.mem_reverse.1 h2
theorem far_nat {need : Nat → List Int} {many : Nat} {a y : Int} (h : farOf (comeC need many a) y ≠ 0) : ∃ g : Nat, y = g ∧ g < many ∧ (g, farOf (comeC need many a) y) ∈ comeC need many a := by
  have hy : ∃ g : Nat, y = g := by
    rw [farOf] at h
    cases hf : (comeC need many a).reverse.find? fun p => decide ((p.1 : Int) = y) with
    | none => rw [hf] at h; exact absurd rfl h
    | some p =>
      have h1 := List.find?_some hf
      simp only [decide_eq_true_eq] at h1
      exact ⟨p.1, h1.symm⟩
  obtain ⟨g, rfl⟩ := hy
  have hm := farOf_mem h
  exact ⟨g, rfl, (comeGo_mem need many _ _ _ _ g _ hm).1, hm⟩
theorem far_of_mem {need : Nat → List Int} {many : Nat} {a : Int} {g : Nat} {s : Int} (h : (g, s) ∈ comeC need many a) : farOf (comeC need many a) g = s := farOf_some (comeGo_nodup need many _ _ _ _) h
theorem far_bound {need : Nat → List Int} {many : Nat} {a y : Int} (h : farOf (comeC need many a) y ≠ 0) : 1 ≤ farOf (comeC need many a) y ∧ farOf (comeC need many a) y < many + 3 := by
  obtain ⟨g, rfl, _, hm⟩ := far_nat h
  have h1 := (comeGo_mem need many _ _ _ _ _ _ hm).2.2
  have h2 := comeGo_lt need many _ _ _ _ _ _ hm
  exact ⟨h1, by push_cast at h2; omega⟩
theorem far_prev {need : Nat → List Int} {many : Nat} {a : Int} {x : Nat} {k : Int} (hk : 1 ≤ k) (h : farOf (comeC need many a) x = k + 1) : ∃ y ∈ need x, decide (farOf (comeC need many a) y = k) = true := by
  have hne : farOf (comeC need many a) x ≠ 0 := by rw [h]; omega
  have hm := farOf_mem hne
  rw [h] at hm
  rcases comeGo_pred need many _ _ _ _ _ _ hm with ⟨h1, _⟩ | ⟨_, g, h2, h3⟩
  · omega
  · refine ⟨(g : Int), h2, ?_⟩
    rw [show k + 1 - 1 = k by omega] at h3
    rw [far_of_mem h3]; simp
def PgD.far (p : PgD) (a : Int) : Int → Int := farOf (comeC p.needs p.flows.length a)
/-- From a flow on, each time to the first that it needs which is so far away. -/
def hopC (need : Nat → List Int) (far : Int → Int) : Nat → Int → List Int
  | 0, _ => []
  | k + 1, a => (need a.toNat).getD (placeZ (fun x => decide (far x = ((k + 1 : Nat) : Int))) (need a.toNat)).toNat 0 :: hopC need far k ((need a.toNat).getD (placeZ (fun x => decide (far x = ((k + 1 : Nat) : Int))) (need a.toNat)).toNat 0)
def PgD.ring (p : PgD) (a : Nat) : List Int := (a : Int) :: hopC p.needs (p.far a) (p.far a a - 1).toNat a
def PgD.nameAt (p : PgD) (a : Int) : ByteArray := match p.flows[a.toNat]? with | some x => x.name | none => ⟨#[]⟩
/-- The circle that is told, of the flows from a on. -/
def PgD.circleFrom (p : PgD) : Nat → Nat → List ByteArray
  | 0, _ => []
  | n + 1, a => if p.far a a = 0 then p.circleFrom n (a + 1) else (p.ring a).map p.nameAt
def PgD.circle (p : PgD) : List ByteArray := p.circleFrom p.flows.length 0
end Go.Proofs.Ytmepdfipigdjhaa
