/- Trees that are laid in memory of one's own, and what they stand on. No program is named here but by its types. -/
import Derived.Test.YtmepdfipigdjhaaA1
import Derived.StillTailTactics
import Derived.Deep.RegionHeld3
import Derived.Deep.RegionLaw
import Derived.Deep.AppendLies
namespace Go.Proofs.Ytmepdfipigdjhaa
open Go.RowKit
set_option linter.unusedSimpArgs false
set_option linter.unusedVariables false

/-- It holds in whatever world the blocks in S that there were are as they were. -/
def Ft (S : Nat → Prop) (w : World) (P : World → Prop) : Prop := ∀ W : World, w.heap.size ≤ W.heap.size → (∀ b, S b → b < w.heap.size → W.heap[b]? = w.heap[b]?) → P W
theorem Ft.now {S : Nat → Prop} {w : World} {P : World → Prop} (h : Ft S w P) : P w := h w (Nat.le_refl _) (fun _ _ _ => rfl)
theorem Ft.step {S S1 : Nat → Prop} {w w1 : World} {P : World → Prop} (h : Ft S w P) (hs : w.heap.size ≤ w1.heap.size) (hb : ∀ b, S b → b < w.heap.size → w1.heap[b]? = w.heap[b]?) (hS : ∀ b, S b → b < w.heap.size → S1 b) : Ft S1 w1 P :=
  fun W h1 h2 => h W (Nat.le_trans hs h1) fun b h3 h4 => (h2 b (hS b h3 h4) (Nat.lt_of_lt_of_le h4 hs)).trans (hb b h3 h4)
theorem Ft.imp {S : Nat → Prop} {w : World} {P Q : World → Prop} (h : Ft S w P) (hq : ∀ W, P W → Q W) : Ft S w Q := fun W h1 h2 => hq W (h W h1 h2)
theorem IsEx.succ {B : Nat} {w : World} : ∀ (d : Nat) (x : Ex) (cs : List Value), IsEx B w d x cs → IsEx B w (d + 1) x cs
  | 0, _, _, h => h.elim
  | d + 1, .mk _ _ _ _, _, ⟨v, h1, h2, h3⟩ => ⟨v, h1, h2, h3.mono (fun x cs _ h => IsEx.succ d x cs h) (Nat.le_refl _) (fun _ _ _ => rfl)⟩
theorem IsEx.up {B : Nat} {w : World} {x : Ex} {cs : List Value} {d e : Nat} (hde : d ≤ e) (h : IsEx B w d x cs) : IsEx B w e x cs := by
  obtain ⟨k, rfl⟩ : ∃ k, e = d + k := ⟨e - d, by omega⟩
  induction k with
  | zero => exact h
  | succ k ih => exact IsEx.succ _ _ _ (ih (by omega))
/-- A tree by its cells, on blocks in S. -/
def FEx (S : Nat → Prop) (w : World) (d : Nat) (x : Ex) (cs : List Value) : Prop := Ft S w fun W => IsEx W.heap.size W d x cs
theorem FEx.up {S : Nat → Prop} {w : World} {x : Ex} {cs : List Value} {d e : Nat} (hde : d ≤ e) (h : FEx S w d x cs) : FEx S w e x cs := Ft.imp h fun _ h => h.up hde
theorem ex_leaf (B : Nat) (w : World) (d : Nat) (op n : Int) (s : ByteArray) (hs : s.size ≤ maxLen) : IsEx B w (d + 1) (.mk op n s []) [.int .u8 op, .int .i64 n, .string s, .slice none 0 0] :=
  ⟨_, rfl, hs, none, 0, rfl, Nat.le_refl _, Nat.zero_le _, .inl rfl⟩
theorem FEx.leaf (S : Nat → Prop) (w : World) (d : Nat) (op n : Int) (s : ByteArray) (hs : s.size ≤ maxLen) : FEx S w (d + 1) (.mk op n s []) [.int .u8 op, .int .i64 n, .string s, .slice none 0 0] :=
  fun _ _ _ => ex_leaf _ _ _ _ _ _ hs
theorem FEx.four {S : Nat → Prop} {w : World} {d : Nat} {x : Ex} {cs : List Value} (h : FEx S w d x cs) : cs.length = 4 := by
  obtain ⟨a, b, c, e, rfl⟩ := (Ft.now h).four
  rfl
/-- A node over a block of its own, that holds its parts' cells. -/
theorem FEx.node {S : Nat → Prop} {w : World} {d g : Nat} {t : TypeId} {xs : List Ex} {css : List (List Value)} (hl : xs.length = css.length) (hm : xs.length ≤ maxLen) (hg : w.heap[g]? = some (.cells css.flatten.toArray t (0, 0))) (hS : S g)
    (hx : ∀ i (h : i < xs.length) (h2 : i < css.length), FEx S w d xs[i] css[i]) (op n : Int) (s : ByteArray) (hs : s.size ≤ maxLen) {cap : Nat} (hc1 : xs.length ≤ cap) (hc2 : cap ≤ maxLen) :
    FEx S w (d + 1) (.mk op n s xs) [.int .u8 op, .int .i64 n, .string s, .slice (some ⟨g, 0, none⟩) xs.length cap] := by
  intro W h1 h2
  have hgl : g < w.heap.size := (Array.getElem?_eq_some_iff.1 hg).1
  have hgW : W.heap[g]? = some (.cells css.flatten.toArray t (0, 0)) := (h2 g hS hgl).trans hg
  refine ⟨_, rfl, hs, some ⟨g, 0, none⟩, cap, rfl, hc1, hc2, .inr ⟨g, 0, rfl, by omega, fun i hi => ?_⟩⟩
  have hi2 : i < css.length := by omega
  refine ⟨css[i], hx i hi hi2 W h1 h2, (hx i hi hi2).four, fun j hj => ?_⟩
  have h4 : ∀ c ∈ css, c.length = 4 := fun c hc => by
    obtain ⟨k, hk, rfl⟩ := List.getElem_of_mem hc
    exact (hx k (by omega) hk).four
  have := flat_get id 4 css h4 i hi2 j hj
  rw [List.flatMap_id] at this
  rw [World.cell?, hgW, Nat.zero_add]
  simpa using this
/-- A block of so many cells. -/
def Blk (w : World) (b : Nat) (cs : List Value) (t : TypeId) : Prop := w.heap[b]? = some (.cells cs.toArray t (0, 0))
theorem Blk.cell {w : World} {b : Nat} {cs : List Value} {t : TypeId} (h : Blk w b cs t) {i : Nat} {v : Value} (hv : cs[i]? = some v) : w.cell? ⟨b, i, none⟩ = some v := by
  unfold Blk at h; simp [World.cell?, h, hv]
theorem Blk.free {w : World} {b : Nat} {cs : List Value} {t : TypeId} (h : Blk w b cs t) (i : Nat) : w.frozen? ⟨b, i, none⟩ = false := by
  unfold Blk at h; simp [World.frozen?, h]
theorem Blk.lt {w : World} {b : Nat} {cs : List Value} {t : TypeId} (h : Blk w b cs t) : b < w.heap.size := (Array.getElem?_eq_some_iff.1 h).1
theorem Blk.same {w w' : World} {b : Nat} {cs : List Value} {t : TypeId} (h : Blk w b cs t) (hb : w'.heap[b]? = w.heap[b]?) : Blk w' b cs t := hb.trans h
theorem Blk.alloc {w : World} {b : Nat} {cs : List Value} {t : TypeId} (h : Blk w b cs t) (o : Obj) : Blk (w.alloc o) b cs t := h.same (Below.heap_alloc _ _ _ h.lt)
theorem Blk.drewN {w : World} {b : Nat} {cs : List Value} {t : TypeId} (h : Blk w b cs t) (n : Nat) : Blk (w.drewN n) b cs t := h
theorem Blk.below {w w' : World} {b : Nat} {cs : List Value} {t : TypeId} (h : Blk w b cs t) {B : Nat} (hb : Below B w w') (hB : b < B) : Blk w' b cs t := h.same (hb.block b hB)
theorem Blk.new (w : World) (cs : List Value) (t : TypeId) : Blk (w.alloc (.cells cs.toArray t)) w.heap.size cs t := by
  unfold Blk; show (w.heap.push _)[w.heap.size]? = _; simp
theorem Blk.new' (w : World) (cs : List Value) (t : TypeId) {n : Nat} (h : n = w.heap.size) : Blk (w.alloc (.cells cs.toArray t)) n cs t := by
  subst h; exact Blk.new w cs t
theorem Blk.set {w : World} {b : Nat} {cs : List Value} {t : TypeId} (h : Blk w b cs t) (i : Nat) (u : Value) : Blk (w.setCell ⟨b, i, none⟩ u) b (cs.set i u) t := by
  unfold Blk at *; simp [World.setCell, Array.getElem?_modify, h]
theorem Blk.other {w : World} {b c : Nat} {cs : List Value} {t : TypeId} (h : Blk w b cs t) (hc : b ≠ c) (i : Nat) (u : Value) : Blk (w.setCell ⟨c, i, none⟩ u) b cs t := by
  unfold Blk at *; rw [Below.heap_setCell _ _ _ _ (by exact hc)]; exact h
theorem Blk.but {w w' : World} {b q : Nat} {cs : List Value} {t : TypeId} (h : Blk w b cs t) (hb : But q w w') (hne : b ≠ q) : Blk w' b cs t := h.same (hb.block b h.lt hne)
theorem old_frozen (w : World) (o : Obj) {b i : Nat} (h : b < w.heap.size) : (w.alloc o).frozen? ⟨b, i, none⟩ = w.frozen? ⟨b, i, none⟩ :=
  (bcell ((Below.refl w.heap.size w).alloc (Nat.le_refl _) o)).2 b i h
theorem Blk.oldC {w : World} {b : Nat} {cs : List Value} {t : TypeId} (h : Blk w b cs t) : ∀ (q : Nat) (o : Obj) (i : Nat), ((w.drewN q).alloc o).cell? ⟨b, i, none⟩ = w.cell? ⟨b, i, none⟩ := fun q o i => old_cell (w.drewN q) o h.lt
theorem Blk.oldF {w : World} {b : Nat} {cs : List Value} {t : TypeId} (h : Blk w b cs t) : ∀ (q : Nat) (o : Obj) (i : Nat), ((w.drewN q).alloc o).frozen? ⟨b, i, none⟩ = false := fun q o i => (old_frozen (w.drewN q) o h.lt).trans (h.free i)
def set4 (W : World) (b : Nat) (u0 u1 u2 u3 : Value) : World := (((W.setCell ⟨b, 0, none⟩ u0).setCell ⟨b, 1, none⟩ u1).setCell ⟨b, 2, none⟩ u2).setCell ⟨b, 3, none⟩ u3
theorem set4_size (W : World) (b : Nat) (u0 u1 u2 u3 : Value) : (set4 W b u0 u1 u2 u3).heap.size = W.heap.size := by simp [set4, World.setCell]
theorem set4_other (W : World) {b c : Nat} (h : c ≠ b) (u0 u1 u2 u3 : Value) : (set4 W b u0 u1 u2 u3).heap[c]? = W.heap[c]? := by
  unfold set4
  rw [Below.heap_setCell _ _ _ _ (by exact h), Below.heap_setCell _ _ _ _ (by exact h), Below.heap_setCell _ _ _ _ (by exact h), Below.heap_setCell _ _ _ _ (by exact h)]
theorem set4_alloc (W : World) (o : Obj) {b : Nat} (h : b < W.heap.size) (u0 u1 u2 u3 : Value) : set4 (W.alloc o) b u0 u1 u2 u3 = (set4 W b u0 u1 u2 u3).alloc o := by
  unfold set4
  rw [World.setCell_alloc_past _ _ _ _ h, World.setCell_alloc_past _ _ _ _ (by simpa [World.setCell] using h), World.setCell_alloc_past _ _ _ _ (by simpa [World.setCell] using h), World.setCell_alloc_past _ _ _ _ (by simpa [World.setCell] using h)]
theorem set4_below (W : World) {B b : Nat} (h : B ≤ b) (u0 u1 u2 u3 : Value) : Below B W (set4 W b u0 u1 u2 u3) :=
  ((((Below.refl B W).setCell (p := ⟨b, 0, none⟩) h u0).setCell (p := ⟨b, 1, none⟩) h u1).setCell (p := ⟨b, 2, none⟩) h u2).setCell (p := ⟨b, 3, none⟩) h u3
theorem set4_blk {W : World} {b : Nat} {x0 x1 x2 x3 : Value} {t : TypeId} (h : Blk W b [x0, x1, x2, x3] t) (u0 u1 u2 u3 : Value) : Blk (set4 W b u0 u1 u2 u3) b [u0, u1, u2, u3] t := by
  have := (((h.set 0 u0).set 1 u1).set 2 u2).set 3 u3
  exact this
/-- A node over two parts is put together in a new block, and stored. -/
theorem add_node {bx : Nat} {wr w2 : World} {x0 x1 x2 x3 y0 y1 y2 y3 : Value} {t y : Ex} {d d2 : Nat} {T : TypeId} (hB : Blk wr bx [x0, x1, x2, x3] T) (hT : FEx (fun b => bx < b) wr d t [x0, x1, x2, x3])
    (hw : Below wr.heap.size wr w2) (hY : FEx (fun b => bx < b) w2 d2 y [y0, y1, y2, y3]) {g : Nat} (hg : g = w2.heap.size) {W : World}
    (hW : W = set4 (w2.alloc (.cells #[x0, x1, x2, x3, y0, y1, y2, y3] T)) bx (.int .u8 6) (.int .i64 0) (.string ⟨#[]⟩) (.slice (some ⟨g, 0, none⟩) 2 2)) :
    Blk W bx [.int .u8 6, .int .i64 0, .string ⟨#[]⟩, .slice (some ⟨g, 0, none⟩) 2 2] T ∧ FEx (fun b => bx < b) W (max d d2 + 1) (addEx t y) [.int .u8 6, .int .i64 0, .string ⟨#[]⟩, .slice (some ⟨g, 0, none⟩) 2 2] ∧ Below bx wr W := by
  subst hg
  have hlt := hB.lt
  have hs2 := hw.size
  have hBa : Blk (w2.alloc (.cells #[x0, x1, x2, x3, y0, y1, y2, y3] T)) bx [x0, x1, x2, x3] T := (hB.below hw hlt).alloc _
  have hbl : Below bx wr W := by
    rw [hW]
    exact ((hw.mono (by omega)).alloc (by omega) _).trans (set4_below _ (Nat.le_refl _) _ _ _ _)
  have hsz : W.heap.size = w2.heap.size + 1 := by rw [hW, set4_size, World.size_alloc]
  have hoth : ∀ c, c ≠ bx → c < w2.heap.size → W.heap[c]? = w2.heap[c]? := fun c hc hc2 => by
    rw [hW, set4_other _ hc, Below.heap_alloc _ _ _ hc2]
  have hnew : W.heap[w2.heap.size]? = some (.cells #[x0, x1, x2, x3, y0, y1, y2, y3] T (0, 0)) := by
    rw [hW, set4_other _ (by omega)]
    show (w2.heap.push _)[w2.heap.size]? = _
    simp
  refine ⟨by rw [hW]; exact set4_blk hBa _ _ _ _, ?_, hbl⟩
  have hx1 : FEx (fun b => bx < b) W (max d d2) t [x0, x1, x2, x3] := FEx.up (Nat.le_max_left _ _) (Ft.step hT (by omega) (fun b h1 h2 => (hoth b (by omega) (by omega)).trans (hw.block b h2)) (fun _ h _ => h))
  have hy1 : FEx (fun b => bx < b) W (max d d2) y [y0, y1, y2, y3] := FEx.up (Nat.le_max_right _ _) (Ft.step hY (by omega) (fun b h1 h2 => hoth b (by omega) h2) (fun _ h _ => h))
  refine FEx.node (xs := [t, y]) (css := [[x0, x1, x2, x3], [y0, y1, y2, y3]]) (S := fun b => bx < b) rfl (by unfold maxLen; simp) hnew (show bx < w2.heap.size by omega) (fun i h1 h2 => ?_) 6 0 ⟨#[]⟩ (by show (0 : Nat) ≤ maxLen; omega) (cap := 2) (by simp) (by unfold maxLen; omega)
  match i, h1 with
  | 0, _ => exact hx1
  | 1, _ => exact hy1
theorem Blk.oldC2 {w : World} {b : Nat} {cs : List Value} {t : TypeId} (h : Blk w b cs t) : ∀ (q : Nat) (o o2 : Obj) (i : Nat), (((w.drewN q).alloc o).alloc o2).cell? ⟨b, i, none⟩ = w.cell? ⟨b, i, none⟩ := fun q o o2 i => (old_cell _ o2 (by simp; have := h.lt; omega)).trans (h.oldC q o i)
theorem Blk.oldF2 {w : World} {b : Nat} {cs : List Value} {t : TypeId} (h : Blk w b cs t) : ∀ (q : Nat) (o o2 : Obj) (i : Nat), (((w.drewN q).alloc o).alloc o2).frozen? ⟨b, i, none⟩ = false := fun q o o2 i => (old_frozen _ o2 (by simp; have := h.lt; omega)).trans (h.oldF q o i)
theorem own_isSl' {α : Type} {w : World} {base : Nat} {e : TypeId} {k : Nat} {v : Value} {xs : List α} {css : List (List Value)} {R : α → List Value → Prop} (h : w.ownsRow base e k v xs.length css.flatten) (hl : css.length = xs.length) (hk : ∀ c ∈ css, c.length = k)
    (hR : ∀ i (h1 : i < xs.length) (h2 : i < css.length), R xs[i] css[i]) : IsSl w.heap.size w k R xs v := by
  have hlt := h.lt
  obtain ⟨h1, h2⟩ := h
  rcases h2 with ⟨rfl, h0⟩ | ⟨g, cap, cur, rfl, hb, hh, hc, hm, hsz, ht⟩
  · have : xs = [] := List.length_eq_zero_iff.1 h0
    subst this
    exact ⟨none, 0, rfl, Nat.le_refl _, Nat.zero_le _, .inl rfl⟩
  · refine ⟨_, cap, rfl, hc, hm, .inr ⟨g, 0, rfl, (hlt g rfl).2, fun i hi => ⟨css[i]'(by omega), hR i hi (by omega), hk _ (List.getElem_mem _), fun j hj => ?_⟩⟩⟩
    have hj' : j < k := by rw [hk _ (List.getElem_mem _)] at hj; exact hj
    have hb2 : i * k + j < xs.length * k := by
      have : (i + 1) * k ≤ xs.length * k := Nat.mul_le_mul_right k hi
      rw [Nat.succ_mul] at this; omega
    have hg := flat_get id k css hk i (by omega) j hj
    rw [List.flatMap_id, ← ht, List.getElem?_take_of_lt hb2] at hg
    rw [Nat.zero_add, World.cell?, hh]
    simpa using hg
theorem FEx.ones {S : Nat → Prop} {w : World} {d : Nat} {x : Ex} {cs : List Value} (h : FEx S w d x cs) : ∀ u ∈ cs, u.oneCell' = true := by
  have h1 : IsEx w.heap.size w d x cs := Ft.now h
  cases d with
  | zero => exact h1.elim
  | succ d =>
    obtain ⟨op, n, s, args⟩ := x
    obtain ⟨v, rfl, _, ⟨a, cap, rfl, _⟩⟩ := h1
    intro u hu
    simp only [List.mem_cons, List.not_mem_nil, or_false] at hu
    rcases hu with rfl | rfl | rfl | rfl <;> rfl
/-- Rows of numbers. -/
def IsNums (B : Nat) (w : World) (l : List Nat) (cs : List Value) : Prop := ∃ v, cs = [v] ∧ IsSl B w 1 IsInt (l.map Int.ofNat) v
theorem IsNums.mono {B B' : Nat} {w w' : World} (hB : B ≤ B') (hc : ∀ b o, b < B → w'.cell? ⟨b, o, none⟩ = w.cell? ⟨b, o, none⟩) {l : List Nat} {cs : List Value} (h : IsNums B w l cs) : IsNums B' w' l cs := by
  obtain ⟨v, h1, h2⟩ := h
  exact ⟨v, h1, h2.mono (fun _ _ _ h => h) hB hc⟩
theorem nums_mono {B B' : Nat} {w w' : World} (hB : B ≤ B') (hc : ∀ b o, b < B → w'.cell? ⟨b, o, none⟩ = w.cell? ⟨b, o, none⟩) {xs : List (List Nat)} {v : Value} (h : IsSl B w 1 (IsNums B w) xs v) : IsSl B' w' 1 (IsNums B' w') xs v :=
  h.mono (fun _ _ _ h => h.mono hB hc) hB hc
end Go.Proofs.Ytmepdfipigdjhaa
