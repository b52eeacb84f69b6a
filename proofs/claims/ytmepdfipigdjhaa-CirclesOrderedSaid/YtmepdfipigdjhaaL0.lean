/- The words of this claim's texts: trees of what is worked out, programs, and how they lie in memory; no program is named here. -/
import Derived.WalkKit
import Derived.WalkSpells
import Derived.WalkLawsBesides
import Derived.Deep.LoopGhost
namespace Go.Proofs.Ytmepdfipigdjhaa
open Go.RowKit
set_option linter.unusedSimpArgs false
set_option linter.unusedVariables false

/-- A call that answers v; all that was there is as it was. -/
def Ret (v : Value) (w : World) (e : Ending) (w' : World) : Prop := e = .returned v ∧ Below w.heap.size w w'
/-- A call that answers some whole number; all that was there is as it was. -/
def RetI (w : World) (e : Ending) (w' : World) : Prop := ∃ k : Int, e = .returned (.int .i64 k) ∧ Below w.heap.size w w'

theorem hid {p : Prop} (h : p) : Hid p := h
theorem ret_bool {a b : Bool} (h : a = b) : Ending.returned (.bool a) = .returned (.bool b) := by rw [h]
theorem ret_i64 {a b : Int} (h : a = b) : Ending.returned (.int .i64 a) = .returned (.int .i64 b) := by rw [h]

theorem bytes_ext {a b : ByteArray} (h : a.data.toList = b.data.toList) : a = b := ByteArray.ext (Array.ext' h)
instance instDecByteArray : DecidableEq ByteArray := fun a b => if h : a.data.toList = b.data.toList then isTrue (bytes_ext h) else isFalse (fun e => h (by rw [e]))
theorem str_eq {a b : ByteArray} : (a.toList == b.toList) = true ↔ a = b := by
  rw [beq_iff_eq, ByteArray.toList_eq, ByteArray.toList_eq]
  exact ⟨bytes_ext, fun h => by rw [h]⟩
theorem str_ne {a b : ByteArray} : (a.toList == b.toList) = false ↔ a ≠ b := by
  rw [← Bool.not_eq_true, str_eq]
theorem str_empty {a : ByteArray} : a.toList.isEmpty = true ↔ a.size = 0 := by
  rw [ByteArray.toList_eq, List.isEmpty_iff, ← List.length_eq_zero_iff, Array.length_toList]; rfl
theorem str_full {a : ByteArray} : a.toList.isEmpty = false ↔ a.size ≠ 0 := by
  rw [← Bool.not_eq_true, str_empty]
/-- A block that was laid with these cells. -/
theorem cell_new (w : World) (c : Array Value) (t : TypeId) (i : Nat) (h : i < c.size) : (w.alloc (.cells c t)).cell? ⟨w.heap.size, i, none⟩ = some c[i] := by
  simp [h]
theorem isEmpty_eq (s : ByteArray) : s.toList.isEmpty = decide (s.size = 0) := by
  rw [Bool.eq_iff_iff, str_empty]; simp
def memB (x : ByteArray) (l : List ByteArray) : Bool := l.any fun y => decide (y = x)
theorem memB_iff {x : ByteArray} {l : List ByteArray} : memB x l = true ↔ x ∈ l := by
  simp [memB]
theorem bcell {B : Nat} {W w1 : World} (hb : Below B W w1) : (∀ b o, b < B → w1.cell? ⟨b, o, none⟩ = W.cell? ⟨b, o, none⟩) ∧ (∀ b o, b < B → w1.frozen? ⟨b, o, none⟩ = W.frozen? ⟨b, o, none⟩) :=
  ⟨fun b o h => hb.cell (p := ⟨b, o, none⟩) h, fun b o h => hb.frozen (p := ⟨b, o, none⟩) h⟩

theorem below_drewN {B : Nat} {a w : World} (h : Below B a w) (n : Nat) : Below B a (w.drewN n) := h.trans ⟨rfl, rfl, rfl, Nat.le_refl _, fun _ _ => rfl⟩
theorem bthen {w w1 w2 : World} (h : Below w.heap.size w w1) (k : Below w1.heap.size w1 w2) : Below w.heap.size w w2 :=
  h.trans (k.mono h.size)

/-- Of what was there just block q may have turned. -/
structure But (q : Nat) (w w' : World) : Prop where
  os : w'.os = w.os
  tape : w'.tape = w.tape
  output : w'.output = w.output
  size : w.heap.size ≤ w'.heap.size
  block : ∀ k, k < w.heap.size → k ≠ q → w'.heap[k]? = w.heap[k]?
theorem But.refl (q : Nat) (w : World) : But q w w := ⟨rfl, rfl, rfl, Nat.le_refl _, fun _ _ _ => rfl⟩
theorem But.trans {q : Nat} {a b c : World} (h : But q a b) (k : But q b c) : But q a c :=
  ⟨k.os.trans h.os, k.tape.trans h.tape, k.output.trans h.output, Nat.le_trans h.size k.size, fun i hi hq => (k.block i (Nat.lt_of_lt_of_le hi h.size) hq).trans (h.block i hi hq)⟩
theorem But.of {q : Nat} {w w' : World} (h : Below w.heap.size w w') : But q w w' := ⟨h.os, h.tape, h.output, h.size, fun k hk _ => h.block k hk⟩
theorem But.below {q B : Nat} {w w' : World} (h : But q w w') (hq : B ≤ q) (hB : B ≤ w.heap.size) : Below B w w' := ⟨h.os, h.tape, h.output, h.size, fun k hk => h.block k (by omega) (by omega)⟩
theorem But.setCell {q : Nat} {a w : World} (h : But q a w) {p : Addr} (hp : p.block = q) (u : Value) : But q a (w.setCell p u) :=
  h.trans ⟨rfl, rfl, rfl, by simp [World.setCell], fun k _ hq => Below.heap_setCell _ _ _ _ (by omega)⟩
theorem But.set {q : Nat} {a w : World} (h : But q a w) (o : Nat) (u : Value) : But q a (w.setCell ⟨q, o, none⟩ u) := h.setCell rfl u
theorem But.alloc {q : Nat} {a w : World} (h : But q a w) (o : Obj) : But q a (w.alloc o) := h.trans (But.of ((Below.refl _ w).alloc (Nat.le_refl _) o))
theorem But.drew {q : Nat} {a w : World} (h : But q a w) : But q a w.drew := h.trans (But.of (Below.refl _ w).drew)
theorem But.bl {q : Nat} {a b c : World} (h : But q a b) (k : Below b.heap.size b c) : But q a c := h.trans (But.of k)
theorem But.drewN {q : Nat} {a w : World} (h : But q a w) (n : Nat) : But q a (w.drewN n) := h.trans ⟨rfl, rfl, rfl, Nat.le_refl _, fun _ _ _ => rfl⟩
/-- A block of one cell. -/
def One (w : World) (b : Nat) (v : Value) (t : TypeId) : Prop := w.heap[b]? = some (.cells #[v] t (0, 0))
theorem One.cell {w : World} {b : Nat} {v : Value} {t : TypeId} (h : One w b v t) : w.cell? ⟨b, 0, none⟩ = some v := by
  unfold One at h; simp [World.cell?, h]
theorem One.free {w : World} {b : Nat} {v : Value} {t : TypeId} (h : One w b v t) : w.frozen? ⟨b, 0, none⟩ = false := by
  unfold One at h; simp [World.frozen?, h]
theorem One.lt {w : World} {b : Nat} {v : Value} {t : TypeId} (h : One w b v t) : b < w.heap.size := by
  unfold One at h; exact (Array.getElem?_eq_some_iff.1 h).1
theorem One.set {w : World} {b : Nat} {v : Value} {t : TypeId} (h : One w b v t) (u : Value) : One (w.setCell ⟨b, 0, none⟩ u) b u t := by
  unfold One at *; simp [World.setCell, Array.getElem?_modify, h]
theorem One.alloc {w : World} {b : Nat} {v : Value} {t : TypeId} (h : One w b v t) (o : Obj) : One (w.alloc o) b v t := by
  have := h.lt
  unfold One at *; rw [Below.heap_alloc _ _ _ this]; exact h
theorem One.drew {w : World} {b : Nat} {v : Value} {t : TypeId} (h : One w b v t) : One w.drew b v t := h
theorem One.drewN {w : World} {b : Nat} {v : Value} {t : TypeId} (h : One w b v t) (n : Nat) : One (w.drewN n) b v t := h
theorem One.below {w w' : World} {b : Nat} {v : Value} {t : TypeId} (h : One w b v t) {B : Nat} (hb : Below B w w') (hB : b < B) : One w' b v t := by
  unfold One at *; rw [hb.block b hB]; exact h
theorem One.new (w : World) (v : Value) (t : TypeId) : One (w.alloc (.cells #[v] t)) w.heap.size v t := by
  unfold One; show (w.heap.push _)[w.heap.size]? = _; simp
theorem One.new' (w : World) (v : Value) (t : TypeId) {n : Nat} (h : n = w.heap.size) : One (w.alloc (.cells #[v] t)) n v t := by
  subst h; exact One.new w v t
theorem One.other {w : World} {b c : Nat} {v : Value} {t : TypeId} (h : One w b v t) (hc : b ≠ c) (o : Nat) (u : Value) : One (w.setCell ⟨c, o, none⟩ u) b v t := by
  unfold One at *; rw [Below.heap_setCell _ _ _ _ (by exact hc)]; exact h

/-- What is worked out, as a tree. -/
inductive Ex where
  | mk (op n : Int) (name : ByteArray) (args : List Ex)
def Ex.op : Ex → Int | .mk o _ _ _ => o
def Ex.n : Ex → Int | .mk _ n _ _ => n
def Ex.name : Ex → ByteArray | .mk _ _ s _ => s
def Ex.args : Ex → List Ex | .mk _ _ _ l => l

structure InD where
  name : ByteArray
  ty : Int
  st : Int
structure FlD where
  name : ByteArray
  ty : Int
  st : Int
  dflt : Int
  body : Ex
structure PgD where
  st : Int
  ins : List InD
  flows : List FlD
  outs : List ByteArray
structure RefD where
  name : ByteArray
  ago : Int
deriving DecidableEq

/-- A slice value whose elements, of k cells each, are so; its memory lies below block B. -/
def IsSl {α : Type} (B : Nat) (w : World) (k : Nat) (R : α → List Value → Prop) (xs : List α) (v : Value) : Prop :=
  ∃ a cap, v = .slice a xs.length cap ∧ xs.length ≤ cap ∧ cap ≤ maxLen ∧ (xs = [] ∨ ∃ b off, a = some ⟨b, off, none⟩ ∧ b < B ∧
    ∀ i (h : i < xs.length), ∃ cs, R xs[i] cs ∧ cs.length = k ∧ ∀ j (hj : j < cs.length), w.cell? ⟨b, off + i * k + j, none⟩ = some cs[j])

/-- How a tree lies in memory (at most d deep). -/
def IsEx (B : Nat) (w : World) : Nat → Ex → List Value → Prop
  | 0, _, _ => False
  | d + 1, .mk op n s args, cs => ∃ v, cs = [.int .u8 op, .int .i64 n, .string s, v] ∧ s.size ≤ maxLen ∧ IsSl B w 4 (IsEx B w d) args v
def IsStr (s : ByteArray) (cs : List Value) : Prop := cs = [.string s] ∧ s.size ≤ maxLen
def IsIn (x : InD) (cs : List Value) : Prop := cs = [.string x.name, .int .u8 x.ty, .int .i64 x.st] ∧ x.name.size ≤ maxLen
def IsFl (B : Nat) (w : World) (d : Nat) (x : FlD) (cs : List Value) : Prop :=
  ∃ es, cs = [.string x.name, .int .u8 x.ty, .int .i64 x.st, .int .i64 x.dflt] ++ es ∧ x.name.size ≤ maxLen ∧ IsEx B w d x.body es
def IsRef (x : RefD) (cs : List Value) : Prop := cs = [.string x.name, .int .i64 x.ago] ∧ x.name.size ≤ maxLen
def IsInt (n : Int) (cs : List Value) : Prop := cs = [.int .i64 n]
def IsPg (B : Nat) (w : World) (d : Nat) (p : PgD) (cs : List Value) : Prop :=
  ∃ i f o, cs = [.int .i64 p.st, i, f, o] ∧ IsSl B w 3 IsIn p.ins i ∧ IsSl B w 8 (IsFl B w d) p.flows f ∧ IsSl B w 1 IsStr p.outs o

theorem IsSl.mono {α : Type} {B B' : Nat} {w w' : World} {k : Nat} {R R' : α → List Value → Prop} {xs : List α} {v : Value}
    (h : IsSl B w k R xs v) (hR : ∀ x cs, x ∈ xs → R x cs → R' x cs) (hB : B ≤ B') (hc : ∀ b o, b < B → w'.cell? ⟨b, o, none⟩ = w.cell? ⟨b, o, none⟩) : IsSl B' w' k R' xs v := by
  obtain ⟨a, cap, rfl, h1, h2, h3⟩ := h
  refine ⟨a, cap, rfl, h1, h2, ?_⟩
  rcases h3 with h3 | ⟨b, off, rfl, hb, h4⟩
  · exact .inl h3
  · refine .inr ⟨b, off, rfl, by omega, fun i hi => ?_⟩
    obtain ⟨cs, h5, h6, h7⟩ := h4 i hi
    exact ⟨cs, hR _ _ (List.getElem_mem hi) h5, h6, fun j hj => by rw [hc _ _ hb]; exact h7 j hj⟩
theorem IsEx.mono {B B' : Nat} {w w' : World} (hB : B ≤ B') (hc : ∀ b o, b < B → w'.cell? ⟨b, o, none⟩ = w.cell? ⟨b, o, none⟩) :
    ∀ d x cs, IsEx B w d x cs → IsEx B' w' d x cs
  | 0, _, _, h => h.elim
  | d + 1, .mk _ _ _ _, _, ⟨v, h1, h2, h3⟩ => ⟨v, h1, h2, h3.mono (fun x cs _ h => IsEx.mono hB hc d x cs h) hB hc⟩
theorem IsEx.below {B : Nat} {w w' : World} (hb : Below B w w') {d : Nat} {x : Ex} {cs : List Value} (h : IsEx B w d x cs) : IsEx B w' d x cs :=
  IsEx.mono (Nat.le_refl _) (bcell hb).1 d x cs h
theorem exs_below {B d : Nat} {w w' : World} {xs : List Ex} {v : Value} (h : IsSl B w 4 (IsEx B w d) xs v) (hb : Below B w w') : IsSl B w' 4 (IsEx B w' d) xs v :=
  h.mono (fun _ _ _ h => IsEx.below hb h) (Nat.le_refl _) (bcell hb).1
theorem IsFl.mono {B B' : Nat} {w w' : World} (hB : B ≤ B') (hc : ∀ b o, b < B → w'.cell? ⟨b, o, none⟩ = w.cell? ⟨b, o, none⟩) {d : Nat} {x : FlD} {cs : List Value} (h : IsFl B w d x cs) : IsFl B' w' d x cs := by
  obtain ⟨es, h1, h2, h3⟩ := h
  exact ⟨es, h1, h2, IsEx.mono hB hc _ _ _ h3⟩
theorem IsPg.mono {B B' : Nat} {w w' : World} (hB : B ≤ B') (hc : ∀ b o, b < B → w'.cell? ⟨b, o, none⟩ = w.cell? ⟨b, o, none⟩) {d : Nat} {p : PgD} {cs : List Value} (h : IsPg B w d p cs) : IsPg B' w' d p cs := by
  obtain ⟨i, f, o, h1, h2, h3, h4⟩ := h
  exact ⟨i, f, o, h1, h2.mono (fun _ _ _ h => h) hB hc, h3.mono (fun _ _ _ h => h.mono hB hc) hB hc, h4.mono (fun _ _ _ h => h) hB hc⟩
theorem IsPg.below {B : Nat} {w w' : World} (hb : Below B w w') {d : Nat} {p : PgD} {cs : List Value} (h : IsPg B w d p cs) : IsPg B w' d p cs :=
  h.mono (Nat.le_refl _) (bcell hb).1

theorem flat_get {α β : Type} (f : α → List β) (k : Nat) (l : List α) (hk : ∀ x, x ∈ l → (f x).length = k) : ∀ (i : Nat) (hi : i < l.length) (j : Nat) (hj : j < (f l[i]).length), (l.flatMap f)[i * k + j]? = some (f l[i])[j] := by
  induction l with
  | nil => intro i hi; simp at hi
  | cons x r ih =>
    intro i hi j hj
    have hx := hk x (by simp)
    rw [List.flatMap_cons]
    cases i with
    | zero =>
      simp only [List.getElem_cons_zero] at hj ⊢
      rw [List.getElem?_append_left (by omega), Nat.zero_mul, Nat.zero_add, List.getElem?_eq_getElem hj]
    | succ i =>
      simp only [List.getElem_cons_succ] at hj ⊢
      have hi' : i < r.length := by simpa using hi
      rw [List.getElem?_append_right (by rw [Nat.succ_mul]; omega)]
      rw [show (i + 1) * k + j - (f x).length = i * k + j by rw [hx, Nat.succ_mul]; omega]
      exact ih (fun y hy => hk y (by simp [hy])) i hi' j hj

theorem new_cell (w : World) (c : Array Value) (t : TypeId) {n i : Nat} (hn : n = w.heap.size) (h : i < c.size) : (w.alloc (.cells c t)).cell? ⟨n, i, none⟩ = some c[i] := by
  subst hn; exact cell_new w c t i h
theorem old_cell (w : World) (o : Obj) {b i : Nat} (h : b < w.heap.size) : (w.alloc o).cell? ⟨b, i, none⟩ = w.cell? ⟨b, i, none⟩ := by
  have := (bcell ((Below.refl w.heap.size w).alloc (Nat.le_refl _) o)).1 b i h
  exact this
/-- A new block that holds a list's elements is a slice of them. -/
theorem IsSl.ofBlock {α : Type} (w : World) (xs : List α) (f : α → List Value) (k : Nat) (t : TypeId) (R : α → List Value → Prop) (hk : ∀ x, x ∈ xs → (f x).length = k) (hR : ∀ x, x ∈ xs → R x (f x)) (hl : xs.length ≤ maxLen) :
    IsSl (w.heap.size + 1) (w.alloc (.cells (xs.flatMap f).toArray t)) k R xs (.slice (some ⟨w.heap.size, 0, none⟩) xs.length xs.length) := by
  refine ⟨_, _, rfl, Nat.le_refl _, hl, .inr ⟨_, 0, rfl, by omega, fun i hi => ⟨f xs[i], hR _ (List.getElem_mem hi), hk _ (List.getElem_mem hi), fun j hj => ?_⟩⟩⟩
  rw [Nat.zero_add, World.cell?_alloc_new, List.getElem?_toArray]
  exact flat_get f k xs hk i hi j hj

end Go.Proofs.Ytmepdfipigdjhaa
