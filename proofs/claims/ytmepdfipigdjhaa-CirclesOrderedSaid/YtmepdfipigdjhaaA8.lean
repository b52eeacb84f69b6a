/- Rows of numbers that the laws lay themselves, beside one another. -/
import Derived.Test.YtmepdfipigdjhaaA7
import Derived.Maps.AppendAt
namespace Go.Proofs.Ytmepdfipigdjhaa
open Go.RowKit
set_option linter.unusedSimpArgs false
set_option linter.unusedVariables false
theorem own_type {w : World} {base : Nat} {e : TypeId} {size n : Nat} {v : Value} {xs : List Value} (h : w.ownsRow base e size v n xs) (k : Nat) (hk : v.ownBlock = some k) : ∃ cells, w.heap[k]? = some (.cells cells e (0, 0)) := by
  rcases h.2 with ⟨rfl, _⟩ | ⟨g, cap, cur, rfl, hg, hh, r⟩
  · simp [Value.ownBlock] at hk
  · have : g = k := by simpa [Value.ownBlock] using hk
    subst this
    exact ⟨cur, hh⟩
theorem own_type_ne {w : World} {b b' : Nat} {e e' : TypeId} {s s' n n' : Nat} {v v' : Value} {xs xs' : List Value} (h : w.ownsRow b e s v n xs) (h' : w.ownsRow b' e' s' v' n' xs') (hne : e ≠ e') : v.ownBlock = none ∨ v.ownBlock ≠ v'.ownBlock := by
  cases hk : v.ownBlock with
  | none => exact .inl rfl
  | some k =>
    refine .inr fun hk' => ?_
    obtain ⟨c1, h1⟩ := own_type h k hk
    obtain ⟨c2, h2⟩ := own_type h' k hk'.symm
    rw [h1] at h2
    injection h2 with h2
    injection h2 with _ ht
    exact hne ht
theorem own_lit1 (W : World) (base : Nat) (T : TypeId) (x : Value) (hx : x.oneCell' = true) (hb : base ≤ W.heap.size) : (W.alloc (.cells #[x] T)).ownsRow base T 1 (.slice (some ⟨W.heap.size, 0, none⟩) 1 1) 1 [x] :=
  ⟨rfl, .inr ⟨W.heap.size, 1, #[x], rfl, hb, heap_alloc_new _ _, by simp, by decide, rfl, rfl⟩⟩
def intsOf (l : List Nat) : List Value := l.map fun (k : Nat) => Value.int .i64 (k : Int)
/-- A row of rows of numbers, all of them laid by the law itself. -/
def Rw (W : World) (base : Nat) (v : Value) (rows : List (List Nat)) : Prop :=
  ∃ vs : List Value, vs.length = rows.length ∧ W.ownsRow base 35 1 v rows.length vs ∧ (∀ u ∈ vs, u.oneCell' = true) ∧ ∀ i (h1 : i < rows.length) (h2 : i < vs.length), W.ownsRow base 3 1 vs[i] rows[i].length (intsOf rows[i])
theorem own_isNums {W : World} {base : Nat} {v : Value} {l : List Nat} (h : W.ownsRow base 3 1 v l.length (intsOf l)) : IsSl W.heap.size W 1 IsInt (l.map Int.ofNat) v := by
  have h1 := own_isSl' (xs := l.map Int.ofNat) (css := (l.map Int.ofNat).map fun x => [Value.int .i64 x]) (R := IsInt) (k := 1) (by
    have e1 : ((l.map Int.ofNat).map fun x => [Value.int .i64 x]).flatten = intsOf l := by
      rw [List.map_map, intsOf]
      clear h
      induction l with
      | nil => rfl
      | cons a r ih => simp only [List.map_cons, List.flatten_cons, List.cons_append, List.nil_append, Function.comp]; rw [← ih]; rfl
    rw [e1, List.length_map]; exact h) (by simp) (fun c hc => by obtain ⟨x, _, rfl⟩ := List.mem_map.1 hc; rfl) (fun i h1 h2 => by simp [IsInt])
  exact h1
theorem Rw.isSl {W : World} {base : Nat} {v : Value} {rows : List (List Nat)} (h : Rw W base v rows) : IsSl W.heap.size W 1 (IsNums W.heap.size W) rows v := by
  obtain ⟨vs, hl, ho, _, he⟩ := h
  refine own_isSl' (css := vs.map fun u => [u]) (by
    have : (vs.map fun u => [u]).flatten = vs := by
      clear hl ho he
      generalize vs = l
      induction l with
      | nil => rfl
      | cons a r ih => rw [List.map_cons, List.flatten_cons, ih]; rfl
    rw [this]; exact ho) (by simp [hl]) (fun c hc => by obtain ⟨x, _, rfl⟩ := List.mem_map.1 hc; rfl) (fun i h1 h2 => ?_)
  rw [List.getElem_map]
  exact ⟨_, rfl, own_isNums (he i h1 (by omega))⟩
theorem Rw.nil (W : World) (base : Nat) : Rw W base (.slice none 0 0) [] := ⟨[], rfl, World.ownsRow_nil _ _ _ _, by simp, fun i h => by simp at h⟩
theorem Rw.kept {W W' : World} {base : Nat} {v : Value} {rows : List (List Nat)} (h : Rw W base v rows) {row : Option Nat} (hg : W.grownBy W' row) (hne : v.ownBlock = none ∨ v.ownBlock ≠ row)
    (ht : ∀ g, row = some g → ∃ cells t, W.heap[g]? = some (.cells cells t (0, 0)) ∧ t ≠ 3) : Rw W' base v rows := by
  obtain ⟨vs, hl, ho, h1, he⟩ := h
  refine ⟨vs, hl, ho.kept hg hne, h1, fun i h1 h2 => (he i h1 h2).kept hg ?_⟩
  cases hk : vs[i].ownBlock with
  | none => exact .inl rfl
  | some k =>
    refine .inr fun e => ?_
    obtain ⟨c1, e1⟩ := own_type (he i h1 h2) k hk
    obtain ⟨c2, t, e2, e3⟩ := ht k e.symm
    rw [e1] at e2
    injection e2 with e2
    injection e2 with _ e4
    exact e3 e4.symm
theorem Rw.below {W W' : World} {base : Nat} {v : Value} {rows : List (List Nat)} (h : Rw W base v rows) (hb : Below W.heap.size W W') : Rw W' base v rows := by
  obtain ⟨vs, hl, ho, h1, he⟩ := h
  exact ⟨vs, hl, own_below ho hb, h1, fun i h1 h2 => own_below (he i h1 h2) hb⟩
theorem Rw.push {W W' : World} {base : Nat} {v v' u : Value} {rows : List (List Nat)} {r : List Nat} {vs : List Value} (hl : vs.length = rows.length) (h1 : ∀ u ∈ vs, u.oneCell' = true) (he : ∀ i (h1 : i < rows.length) (h2 : i < vs.length), W.ownsRow base 3 1 vs[i] rows[i].length (intsOf rows[i]))
    (hu : W.ownsRow base 3 1 u r.length (intsOf r)) (hu1 : u.oneCell' = true) (ho : W.ownsRow base 35 1 v rows.length vs) (hg : W.grownBy W' v.ownBlock) (ho' : W'.ownsRow base 35 1 v' (rows.length + 1) (vs ++ [u])) : Rw W' base v' (rows ++ [r]) := by
  have hk : ∀ {x : Value} {n : Nat} {xs : List Value}, W.ownsRow base 3 1 x n xs → W'.ownsRow base 3 1 x n xs := fun hx => hx.kept hg (own_type_ne hx ho (by decide))
  refine ⟨vs ++ [u], by simp [hl], by rw [List.length_append]; exact ho', fun x hx => ?_, fun i h2 h3 => ?_⟩
  · rcases List.mem_append.1 hx with hx | hx
    · exact h1 x hx
    · rw [List.mem_singleton] at hx; rw [hx]; exact hu1
  · by_cases hi : i < rows.length
    · rw [List.getElem_append_left (by omega), List.getElem_append_left hi]
      exact hk (he i hi (by omega))
    · have hi2 : i = rows.length := by simp at h2; omega
      have e1 : (vs ++ [u])[i] = u := by rw [List.getElem_append_right (by omega)]; simp
      have e2 : (rows ++ [r])[i] = r := by rw [List.getElem_append_right (by omega)]; simp
      rw [e1, e2]
      exact hk hu
/-- Two slices in no block together. -/
def Dis (a b : Value) : Prop := ∀ g, a.ownBlock = some g → b.ownBlock ≠ some g
theorem Dis.symm {a b : Value} (h : Dis a b) : Dis b a := fun g hg hg2 => h g hg2 hg
theorem Dis.ne {a b : Value} (h : Dis a b) : a.ownBlock = none ∨ a.ownBlock ≠ b.ownBlock := by
  cases hk : a.ownBlock with
  | none => exact .inl rfl
  | some k => exact .inr fun e => h k hk e.symm
theorem Dis.push {W : World} {a a' b : Value} (h : Dis a b) (hat : a'.ownBlock = a.ownBlock ∨ a'.ownBlock = some W.heap.size) (hb : ∀ g, b.ownBlock = some g → g < W.heap.size) : Dis a' b := fun g hg hg2 => by
  rcases hat with e | e
  · exact h g (e ▸ hg) hg2
  · have := hb g hg2
    rw [hg] at e
    injection e with e
    omega
theorem Dis.nil (b : Value) : Dis (.slice none 0 0) b := fun g hg => by simp [Value.ownBlock] at hg
theorem Rw.lt {W : World} {base : Nat} {v : Value} {rows : List (List Nat)} (h : Rw W base v rows) : ∀ g, v.ownBlock = some g → g < W.heap.size := by
  obtain ⟨vs, _, ho, _⟩ := h
  exact fun g hg => (ho.lt g hg).2
theorem Rw.typed {W : World} {base : Nat} {v : Value} {rows : List (List Nat)} (h : Rw W base v rows) : ∀ g, v.ownBlock = some g → ∃ cells t, W.heap[g]? = some (.cells cells t (0, 0)) ∧ t ≠ 3 := by
  obtain ⟨vs, _, ho, _⟩ := h
  intro g hg
  obtain ⟨c, hc⟩ := own_type ho g hg
  exact ⟨c, _, hc, by decide⟩
theorem Rw.val {W : World} {base : Nat} {v : Value} {rows : List (List Nat)} (h : Rw W base v rows) : ∃ a c, v = .slice a rows.length c := by
  obtain ⟨a, c, e, _⟩ := h.isSl.at_
  exact ⟨a, c, e⟩
structure RS (W : World) (base : Nat) (vN vC vA vW : Value) (rN rC rA : List (List Nat)) (ws : List ByteArray) : Prop where
  n : Rw W base vN rN
  c : Rw W base vC rC
  a : Rw W base vA rA
  w : W.ownsRow base 9 1 vW ws.length (ws.map Value.string)
  nc : Dis vN vC
  na : Dis vN vA
  ca : Dis vC vA
theorem Rw.neW {W : World} {base b : Nat} {v vW : Value} {rows : List (List Nat)} {n : Nat} {xs : List Value} (h : Rw W base v rows) (hw : W.ownsRow b 9 1 vW n xs) : v.ownBlock = none ∨ v.ownBlock ≠ vW.ownBlock := by
  obtain ⟨vs, _, ho, _⟩ := h
  exact own_type_ne ho hw (by decide)
theorem Rw.neW' {W : World} {base b : Nat} {v vW : Value} {rows : List (List Nat)} {n : Nat} {xs : List Value} (h : Rw W base v rows) (hw : W.ownsRow b 9 1 vW n xs) : vW.ownBlock = none ∨ vW.ownBlock ≠ v.ownBlock := by
  obtain ⟨vs, _, ho, _⟩ := h
  exact own_type_ne hw ho (by decide)
theorem typedW {W : World} {b : Nat} {vW : Value} {n : Nat} {xs : List Value} (hw : W.ownsRow b 9 1 vW n xs) : ∀ g, vW.ownBlock = some g → ∃ cells t, W.heap[g]? = some (.cells cells t (0, 0)) ∧ t ≠ 3 := fun g hg => by
  obtain ⟨c, hc⟩ := own_type hw g hg
  exact ⟨c, _, hc, by decide⟩
theorem RS.below {W W' : World} {base : Nat} {vN vC vA vW : Value} {rN rC rA : List (List Nat)} {ws : List ByteArray} (h : RS W base vN vC vA vW rN rC rA ws) (hb : Below W.heap.size W W') : RS W' base vN vC vA vW rN rC rA ws :=
  ⟨h.n.below hb, h.c.below hb, h.a.below hb, own_below h.w hb, h.nc, h.na, h.ca⟩
theorem RS.pushW {W W' : World} {base : Nat} {vN vC vA vW v' : Value} {rN rC rA : List (List Nat)} {ws : List ByteArray} {s : ByteArray} (h : RS W base vN vC vA vW rN rC rA ws) (hg : W.grownBy W' vW.ownBlock) (ho : W'.ownsRow base 9 1 v' (ws.length + 1) (ws.map Value.string ++ [.string s])) : RS W' base vN vC vA v' rN rC rA (ws ++ [s]) :=
  ⟨h.n.kept hg (h.n.neW h.w) (typedW h.w), h.c.kept hg (h.c.neW h.w) (typedW h.w), h.a.kept hg (h.a.neW h.w) (typedW h.w), by simpa using ho, h.nc, h.na, h.ca⟩
theorem RS.pushN {W W' : World} {base : Nat} {vN vC vA vW v' u : Value} {rN rC rA : List (List Nat)} {ws : List ByteArray} {r : List Nat} {vs : List Value} (h : RS W base vN vC vA vW rN rC rA ws) (hl : vs.length = rN.length) (h1 : ∀ u ∈ vs, u.oneCell' = true) (he : ∀ i (h1 : i < rN.length) (h2 : i < vs.length), W.ownsRow base 3 1 vs[i] rN[i].length (intsOf rN[i]))
    (hu : W.ownsRow base 3 1 u r.length (intsOf r)) (hu1 : u.oneCell' = true) (ho : W.ownsRow base 35 1 vN rN.length vs) (hg : W.grownBy W' vN.ownBlock) (ho' : W'.ownsRow base 35 1 v' (rN.length + 1) (vs ++ [u])) (hat : v'.ownBlock = vN.ownBlock ∨ v'.ownBlock = some W.heap.size) : RS W' base v' vC vA vW (rN ++ [r]) rC rA ws :=
  ⟨Rw.push hl h1 he hu hu1 ho hg ho', h.c.kept hg h.nc.symm.ne h.n.typed, h.a.kept hg h.na.symm.ne h.n.typed, h.w.kept hg (h.n.neW' h.w), h.nc.push hat h.c.lt, h.na.push hat h.a.lt, h.ca⟩
theorem RS.pushC {W W' : World} {base : Nat} {vN vC vA vW v' u : Value} {rN rC rA : List (List Nat)} {ws : List ByteArray} {r : List Nat} {vs : List Value} (h : RS W base vN vC vA vW rN rC rA ws) (hl : vs.length = rC.length) (h1 : ∀ u ∈ vs, u.oneCell' = true) (he : ∀ i (h1 : i < rC.length) (h2 : i < vs.length), W.ownsRow base 3 1 vs[i] rC[i].length (intsOf rC[i]))
    (hu : W.ownsRow base 3 1 u r.length (intsOf r)) (hu1 : u.oneCell' = true) (ho : W.ownsRow base 35 1 vC rC.length vs) (hg : W.grownBy W' vC.ownBlock) (ho' : W'.ownsRow base 35 1 v' (rC.length + 1) (vs ++ [u])) (hat : v'.ownBlock = vC.ownBlock ∨ v'.ownBlock = some W.heap.size) : RS W' base vN v' vA vW rN (rC ++ [r]) rA ws :=
  ⟨h.n.kept hg h.nc.ne h.c.typed, Rw.push hl h1 he hu hu1 ho hg ho', h.a.kept hg h.ca.symm.ne h.c.typed, h.w.kept hg (h.c.neW' h.w), (h.nc.symm.push hat h.n.lt).symm, h.na, h.ca.push hat h.a.lt⟩
theorem RS.pushA {W W' : World} {base : Nat} {vN vC vA vW v' u : Value} {rN rC rA : List (List Nat)} {ws : List ByteArray} {r : List Nat} {vs : List Value} (h : RS W base vN vC vA vW rN rC rA ws) (hl : vs.length = rA.length) (h1 : ∀ u ∈ vs, u.oneCell' = true) (he : ∀ i (h1 : i < rA.length) (h2 : i < vs.length), W.ownsRow base 3 1 vs[i] rA[i].length (intsOf rA[i]))
    (hu : W.ownsRow base 3 1 u r.length (intsOf r)) (hu1 : u.oneCell' = true) (ho : W.ownsRow base 35 1 vA rA.length vs) (hg : W.grownBy W' vA.ownBlock) (ho' : W'.ownsRow base 35 1 v' (rA.length + 1) (vs ++ [u])) (hat : v'.ownBlock = vA.ownBlock ∨ v'.ownBlock = some W.heap.size) : RS W' base vN vC v' vW rN rC (rA ++ [r]) ws :=
  ⟨h.n.kept hg h.na.ne h.a.typed, h.c.kept hg h.ca.ne h.a.typed, Rw.push hl h1 he hu hu1 ho hg ho', h.w.kept hg (h.a.neW' h.w), h.nc, (h.na.symm.push hat h.n.lt).symm, (h.ca.symm.push hat h.c.lt).symm⟩
/-- One's own row grew: all that was there below its base is as it was. -/
theorem grew_below {B : Nat} {W W' : World} {base : Nat} {e : TypeId} {size n : Nat} {v : Value} {xs : List Value} (ho : W.ownsRow base e size v n xs) (hg : W.grownBy W' v.ownBlock) (hB : B ≤ base) (hBW : B ≤ W.heap.size) : Below B W W' :=
  (Below.refl B W).grown hg hBW (fun k hk => Nat.le_trans hB (ho.lt k hk).1)
theorem infoRow : (Try.prog.info? 35).map (fun i => (i.zero, i.size, i.bytes)) = some (some (.slice none 0 0), 1, 24) := by kernel_rfl
end Go.Proofs.Ytmepdfipigdjhaa
