/- Plain facts: the circle of a program is a circle. No program is walked here. -/
import Derived.Test.YtmepdfipigdjhaaK2
namespace Go.Proofs.Ytmepdfipigdjhaa
open Go.RowKit
set_option linter.unusedSimpArgs false
set_option linter.unusedVariables false

theorem mem_sortI {x : Int} {l : List Int} : x ∈ sortI l ↔ x ∈ l := (List.mergeSort_perm l _).mem_iff
theorem needs_mem {p : PgD} {i : Nat} {y : Int} : y ∈ p.needs i ↔ ∃ x, p.flows[i]? = some x ∧ ∃ r ∈ x.body.refs, needOf p.things r = some y := by
  rw [PgD.needs]
  cases h : p.flows[i]? with
  | none => simp
  | some x => simp [mem_sortI, needsL, List.mem_filterMap]
theorem needOf_some {th : List ThD} {r : RefD} {y : Int} : needOf th r = some y ↔ ∃ t, findTh th r.name = some t ∧ 0 ≤ t.fl ∧ r.ago = 0 ∧ y = t.fl := by
  rw [needOf]
  cases h : findTh th r.name with
  | none => simp
  | some t =>
    simp only [Option.some.injEq, exists_eq_left']
    split
    · rename_i hc
      simp only [Option.some.injEq]
      constructor
      · intro e; exact ⟨hc.1, hc.2, e.symm⟩
      · rintro ⟨_, _, e⟩; exact e.symm
    · rename_i hc
      constructor
      · intro e; cases e
      · rintro ⟨h1, h2, _⟩; exact absurd ⟨h1, h2⟩ hc
theorem findTh_mem {th : List ThD} {s : ByteArray} {t : ThD} (h : findTh th s = some t) : t ∈ th ∧ t.name = s := by
  rw [findTh] at h
  have h1 := List.find?_some h
  exact ⟨List.mem_of_find?_eq_some h, by simpa using h1⟩
theorem findTh_nodup {th : List ThD} (hn : (thNames th).Nodup) {t : ThD} (h : t ∈ th) : findTh th t.name = some t := by
  induction th with
  | nil => simp at h
  | cons x r ih =>
    rw [findTh, List.find?_cons]
    by_cases e : x.name = t.name
    · rcases List.mem_cons.1 h with h1 | h1
      · subst h1; simp
      · exfalso
        simp only [thNames, List.map_cons, List.nodup_cons] at hn
        exact hn.1 (List.mem_map.2 ⟨t, h1, e.symm⟩)
    · rw [decide_eq_false e]
      rcases List.mem_cons.1 h with h1 | h1
      · exact absurd (by rw [h1]) e
      · exact ih (by simp only [thNames, List.map_cons, List.nodup_cons] at hn; exact hn.2) h1
theorem mem_flThings {l : List FlD} {t : ThD} : t ∈ flThings l ↔ ∃ i, ∃ h : i < l.length, t = l[i].thing i := by
  constructor
  · intro h
    obtain ⟨i, hi, rfl⟩ := List.getElem_of_mem h
    have hi2 := hi
    rw [flThings_len] at hi2
    exact ⟨i, hi2, flThings_get l i hi2⟩
  · rintro ⟨i, hi, rfl⟩
    rw [← flThings_get l i hi]
    exact List.getElem_mem _
theorem mem_things {p : PgD} {t : ThD} (h : t ∈ p.things) (h0 : 0 ≤ t.fl) : ∃ i, ∃ h : i < p.flows.length, t = p.flows[i].thing i := by
  rw [PgD.things, List.mem_append] at h
  rcases h with h | h
  · obtain ⟨x, _, rfl⟩ := List.mem_map.1 h
    exact absurd h0 (by simp [InD.thing])
  · exact mem_flThings.1 h
theorem flow_thing {p : PgD} {i : Nat} (h : i < p.flows.length) : p.flows[i].thing i ∈ p.things := by
  rw [PgD.things, List.mem_append]
  exact .inr (mem_flThings.2 ⟨i, h, rfl⟩)
theorem needs_ok (p : PgD) : NeedOK p.needs p.flows.length where
  lo x y h := by
    obtain ⟨f, _, r, _, h2⟩ := needs_mem.1 h
    obtain ⟨t, h3, h4, _, rfl⟩ := needOf_some.1 h2
    obtain ⟨i, hi, rfl⟩ := mem_things (findTh_mem h3).1 h4
    exact ⟨i, rfl, hi⟩
  hi x h := by
    rw [PgD.needs, List.getElem?_eq_none h]

theorem circleFrom_cases (p : PgD) : ∀ (n a : Nat), (p.circleFrom n a = [] ∧ ∀ x, a ≤ x → x < a + n → p.far x x = 0) ∨
    ∃ x, a ≤ x ∧ x < a + n ∧ p.far x x ≠ 0 ∧ (∀ y, a ≤ y → y < x → p.far y y = 0) ∧ p.circleFrom n a = (p.ring x).map p.nameAt
  | 0, a => .inl ⟨rfl, fun x h1 h2 => by omega⟩
  | n + 1, a => by
    rw [PgD.circleFrom]
    by_cases h : p.far a a = 0
    · rw [if_pos h]
      rcases circleFrom_cases p n (a + 1) with ⟨h1, h2⟩ | ⟨x, h1, h2, h3, h4, h5⟩
      · refine .inl ⟨h1, fun x hx1 hx2 => ?_⟩
        rcases Nat.eq_or_lt_of_le hx1 with e | e
        · subst e; exact h
        · exact h2 x e (by omega)
      · refine .inr ⟨x, by omega, by omega, h3, fun y hy1 hy2 => ?_, h5⟩
        rcases Nat.eq_or_lt_of_le hy1 with e | e
        · subst e; exact h
        · exact h4 y e hy2
    · rw [if_neg h]
      exact .inr ⟨a, Nat.le_refl _, by omega, h, fun y h1 h2 => by omega, rfl⟩
/-- No flow comes to itself, or the circle begins at the first one that does, and goes a shortest way. -/
theorem circle_cases (p : PgD) : (p.circle = [] ∧ ∀ x k, x < p.flows.length → 1 ≤ k → ¬ Wk p.needs x k x) ∨
    ∃ a k, a < p.flows.length ∧ Mn p.needs a (k + 1) a ∧ (∀ y, y < a → ∀ j, 1 ≤ j → ¬ Wk p.needs y j y) ∧ p.circle = ((a : Int) :: hopC p.needs (farOf (comeC p.needs p.flows.length a)) k a).map p.nameAt := by
  have hN := needs_ok p
  rcases circleFrom_cases p p.flows.length 0 with ⟨h1, h2⟩ | ⟨x, h1, h2, h3, h4, h5⟩
  · exact .inl ⟨h1, fun x k hx hk => (far_zero hN).1 (h2 x (by omega) (by omega)) k hk⟩
  · obtain ⟨j, h6, h7⟩ := far_mn hN h3
    obtain ⟨k, rfl⟩ : ∃ k, j = k + 1 := ⟨j - 1, by have := h7.1; omega⟩
    refine .inr ⟨x, k, by omega, h7, fun y hy => (far_zero hN).1 (h4 y (by omega) hy), ?_⟩
    rw [PgD.circle, h5, PgD.ring, show p.far x x = ((k + 1 : Nat) : Int) from h6, show (((k + 1 : Nat) : Int) - 1).toNat = k by omega]
    rfl
theorem circle_iff (p : PgD) : p.circle = [] ↔ ∀ x k, x < p.flows.length → 1 ≤ k → ¬ Wk p.needs x k x := by
  rcases circle_cases p with ⟨h1, h2⟩ | ⟨a, k, h1, h2, _, h4⟩
  · exact ⟨fun _ => h2, fun _ => h1⟩
  · constructor
    · intro h; rw [h4] at h; simp at h
    · intro h; exact absurd h2.2.1 (h a (k + 1) h1 h2.1)

theorem clash_zero {p : PgD} (h : p.clash = 0) : p.check = true ∧ (thNames p.things).Nodup ∧ (p.asked.all fun s => memB s (thNames p.things)) = true ∧ p.outs.Nodup := by
  rw [PgD.clash] at h
  split at h
  · cases h
  · rename_i h1
    split at h
    · cases h
    · rename_i h2
      split at h
      · cases h
      · rename_i h3
        split at h
        · cases h
        · rename_i h4
          exact ⟨by simpa using h1, Decidable.not_not.1 h2, by simpa using h3, Decidable.not_not.1 h4⟩
/-- Does one flow need another one at once, by their names? -/
def PgD.needB (p : PgD) (a b : ByteArray) : Bool := match findTh p.things a, findTh p.things b with
  | some x, some y => decide (0 ≤ x.fl) && decide (0 ≤ y.fl) && (match p.flows[x.fl.toNat]? with | some f => f.body.refs.any fun r => decide (r.ago = 0) && decide (r.name = b) | none => false)
  | _, _ => false
theorem nameAt_nat {p : PgD} {g : Nat} (h : g < p.flows.length) : p.nameAt g = p.flows[g].name := by rw [PgD.nameAt]; simp [h]
theorem needB_of {p : PgD} (hn : (thNames p.things).Nodup) {g g2 : Nat} (hg : g < p.flows.length) (hg2 : g2 < p.flows.length) (h : (g2 : Int) ∈ p.needs g) : p.needB (p.nameAt g) (p.nameAt g2) = true := by
  obtain ⟨f, h1, r, h2, h3⟩ := needs_mem.1 h
  obtain ⟨t, h4, h5, h6, h7⟩ := needOf_some.1 h3
  obtain ⟨i, hi, rfl⟩ := mem_things (findTh_mem h4).1 h5
  have hig : g2 = i := by simp only [FlD.thing] at h7; omega
  subst hig
  have hname : p.flows[g2].name = r.name := (findTh_mem h4).2
  rw [PgD.needB, nameAt_nat hg, nameAt_nat hg2, show p.flows[g].name = (p.flows[g].thing g).name from rfl, findTh_nodup hn (flow_thing hg), show p.flows[g2].name = (p.flows[g2].thing g2).name from rfl, findTh_nodup hn (flow_thing hg2)]
  simp only [FlD.thing, Int.toNat_natCast, h1]
  simp only [Bool.and_eq_true, decide_eq_true_eq, List.any_eq_true]
  exact ⟨⟨by simp, by simp⟩, r, h2, by simpa using h6, by simp [hname]⟩
theorem name_inj {p : PgD} (hn : (thNames p.things).Nodup) {g g2 : Nat} (hg : g < p.flows.length) (hg2 : g2 < p.flows.length) (h : p.nameAt g = p.nameAt g2) : g = g2 := by
  rw [nameAt_nat hg, nameAt_nat hg2] at h
  have h1 := findTh_nodup hn (flow_thing hg)
  have h2 := findTh_nodup hn (flow_thing hg2)
  simp only [FlD.thing] at h1 h2
  rw [h, h2] at h1
  simp only [Option.some.injEq, ThD.mk.injEq] at h1
  omega
/-- The stage's theorem, plain: each flow of the circle needs the next one, the last one the first; none is there twice. -/
theorem circle_round {p : PgD} (hc : p.clash = 0) (i : Nat) (hi : i < p.circle.length) :
    p.needB p.circle[i] (p.circle[(i + 1) % p.circle.length]'(Nat.mod_lt _ (by omega))) = true ∧ ∀ k (hk : k < i), p.circle[k] ≠ p.circle[i] := by
  obtain ⟨_, hn, _, _⟩ := clash_zero hc
  have hN := needs_ok p
  rcases circle_cases p with ⟨h1, _⟩ | ⟨a, k, ha, hm, _, hcirc⟩
  · rw [h1] at hi; simp at hi
  · obtain ⟨hlen, hall⟩ := hop_chain hN a k a hm
    generalize hR : ((a : Int) :: hopC p.needs (farOf (comeC p.needs p.flows.length a)) k a) = R at hcirc hall
    have hRl : R.length = k + 1 := by rw [← hR]; simp [hlen]
    have hcl : p.circle.length = k + 1 := by rw [hcirc, List.length_map, hRl]
    have hget : ∀ j (hj : j < p.circle.length) (g : Nat), R[j]? = some (g : Int) → p.circle[j] = p.nameAt g := fun j hj g hg => by
      have h1 : p.circle[j]? = some (p.nameAt g) := by rw [hcirc, List.getElem?_map, hg]; rfl
      rw [List.getElem?_eq_getElem hj] at h1
      exact Option.some.inj h1
    have hR0 : R[0]? = some (a : Int) := by rw [← hR]; rfl
    obtain ⟨g, h1, h2, h3, h4, h5⟩ := hall i (by omega)
    refine ⟨?_, fun j hj => ?_⟩
    · rw [hget i hi g h1]
      by_cases e : i = k
      · have hz : (i + 1) % p.circle.length = 0 := by rw [hcl, e]; exact Nat.mod_self _
        rw [hget _ (by rw [hz]; omega) a (by rw [hz]; exact hR0)]
        exact needB_of hn h3 ha (h5 e)
      · obtain ⟨g2, h6, h7⟩ := h4 (by omega)
        have hz : (i + 1) % p.circle.length = i + 1 := Nat.mod_eq_of_lt (by omega)
        rw [hget _ (by rw [hz]; omega) g2 (by rw [hz]; exact h6)]
        obtain ⟨g3, h8, h9⟩ := hN.lo _ _ h7
        have : g2 = g3 := by omega
        exact needB_of hn h3 (by omega) h7
    · obtain ⟨g2, h6, h7, h8, _, _⟩ := hall j (by omega)
      rw [hget j (by omega) g2 h6, hget i hi g h1]
      intro e
      have hg := name_inj hn h8 h3 e
      subst hg
      have := h7.uniq h2
      omega
end Go.Proofs.Ytmepdfipigdjhaa
