/- Maps that a call makes: what they hold as a list of keys and values; looking up, storing. No program is named here. -/
import Derived.Test.YtmepdfipigdjhaaL0
import Derived.OwnWalk
import Derived.Maps.OwnOps
import Derived.Laws.StructEq
namespace Go.Proofs.Ytmepdfipigdjhaa
open Go.RowKit
set_option linter.unusedSimpArgs false
set_option linter.unusedVariables false
section
variable {α : Type} [DecidableEq α]
def findA (x : α) : List (α × Value) → Nat → Option (Nat × Value)
  | [], _ => none
  | p :: r, i => if p.1 = x then some (i, p.2) else findA x r (i + 1)
def getA (x : α) : List (α × Value) → Option Value
  | [] => none
  | p :: r => if p.1 = x then some p.2 else getA x r
def putA (x : α) (v : Value) : List (α × Value) → List (α × Value)
  | [] => [(x, v)]
  | p :: r => if p.1 = x then (x, v) :: r else p :: putA x v r
theorem findA_get (x : α) (l : List (α × Value)) : ∀ i, (findA x l i).map (·.2) = getA x l := by
  induction l with
  | nil => intro i; rfl
  | cons p r ih => intro i; rw [findA, getA]; split <;> simp [ih]
theorem findA_none (x : α) (v : Value) (l : List (α × Value)) : ∀ i, findA x l i = none → putA x v l = l ++ [(x, v)] := by
  induction l with
  | nil => intro i _; rfl
  | cons p r ih =>
    intro i h
    rw [findA] at h
    rw [putA]
    split at h
    · cases h
    · rename_i he; rw [if_neg he, ih _ h]; rfl
theorem findA_some (x : α) (v : Value) (l : List (α × Value)) : ∀ i k u, findA x l i = some (k, u) → i ≤ k ∧ k - i < l.length ∧ (l[k - i]?.map (·.1)) = some x ∧ putA x v l = l.set (k - i) (x, v) := by
  induction l with
  | nil => intro i k u h; simp [findA] at h
  | cons p r ih =>
    intro i k u h
    rw [findA] at h
    rw [putA]
    split at h
    · rename_i he
      simp only [Option.some.injEq, Prod.mk.injEq] at h
      obtain ⟨rfl, rfl⟩ := h
      simp [he]
    · rename_i he
      obtain ⟨h1, h2, h3, h4⟩ := ih (i + 1) k u h
      have e : k - i = (k - (i + 1)) + 1 := by omega
      refine ⟨by omega, by simp; omega, ?_, ?_⟩
      · rw [e]; simpa using h3
      · rw [if_neg he, e, h4]; rfl
theorem getA_put_same (x : α) (v : Value) (l : List (α × Value)) : getA x (putA x v l) = some v := by
  induction l with
  | nil => simp [putA, getA]
  | cons p r ih => rw [putA]; split <;> simp_all [getA]
theorem getA_put_other (x y : α) (v : Value) (l : List (α × Value)) (h : x ≠ y) : getA y (putA x v l) = getA y l := by
  induction l with
  | nil => simp [putA, getA, h]
  | cons p r ih =>
    rw [putA]
    split
    · rename_i he; subst he; simp [getA, h]
    · simp [getA, ih]

/-- What the model must be told of a kind of keys. -/
structure KeyOK (P : Program) (T : TypeId) (enc : α → Value) : Prop where
  check : ∀ (emp : Bool) (x : α) (w : World), (Instr.checkKey emp 10000 T (enc x)).run P w = .ok () w
  find : ∀ (x : α) (es : List MapEntry) (ks : List (α × Value)) (w : World), es.map (fun e => (e.key, e.val)) = ks.map (fun p => (enc p.1, p.2)) → (Instr.findKey T (enc x) es).run P w = .ok (findA x ks 0) w
  same : ∀ x, Instr.sameBits 10000 (enc x) (enc x) = true

end
section
variable {α : Type}
/-- Block b is a map that holds these. -/
def MapAt (enc : α → Value) (w : World) (b : Nat) (ks : List (α × Value)) : Prop :=
  ∃ es clock, w.heap[b]? = some (.map es clock) ∧ es.toList.map (fun e => (e.key, e.val)) = ks.map (fun p => (enc p.1, p.2))
variable {enc : α → Value} {w : World} {b : Nat} {ks : List (α × Value)}
theorem MapAt.lt (h : MapAt enc w b ks) : b < w.heap.size := by
  obtain ⟨es, clock, h, _⟩ := h
  exact (Array.getElem?_eq_some_iff.1 h).1
theorem MapAt.same_ {w' : World} (h : MapAt enc w b ks) (hb : w'.heap[b]? = w.heap[b]?) : MapAt enc w' b ks := by
  obtain ⟨es, clock, h1, h2⟩ := h
  exact ⟨es, clock, hb.trans h1, h2⟩
theorem MapAt.alloc (h : MapAt enc w b ks) (o : Obj) : MapAt enc (w.alloc o) b ks := h.same_ (Below.heap_alloc _ _ _ h.lt)
theorem MapAt.drewN (h : MapAt enc w b ks) (n : Nat) : MapAt enc (w.drewN n) b ks := h
theorem MapAt.drew (h : MapAt enc w b ks) : MapAt enc w.drew b ks := h
theorem MapAt.below {w' : World} (h : MapAt enc w b ks) {B : Nat} (hb : Below B w w') (hB : b < B) : MapAt enc w' b ks := h.same_ (hb.block b hB)
theorem MapAt.other (h : MapAt enc w b ks) {p : Addr} (hc : b ≠ p.block) (u : Value) : MapAt enc (w.setCell p u) b ks := h.same_ (Below.heap_setCell _ _ _ _ hc)
theorem MapAt.made (enc : α → Value) (w : World) : MapAt enc (w.alloc (.map #[] 0)) w.heap.size [] :=
  ⟨#[], 0, by show (w.heap.push _)[w.heap.size]? = _; simp, rfl⟩

end
section
variable {α : Type} [DecidableEq α] {enc : α → Value} {w : World} {b : Nat} {ks : List (α × Value)}
variable {P : Program} {T E MT : TypeId}
theorem lookup_run (K : KeyOK P T enc) (hT : P.underlying MT = some (.map T E)) {z : Value} (hz : ∀ w, (zeroValue E).run P w = .ok z w) (h : MapAt enc w b ks) (x : α) (c : Bool) :
    (Instr.lookup MT (.map (some b)) (enc x) c).run P w = .ok (if c then .tuple #[(getA x ks).getD z, .bool (getA x ks).isSome] else (getA x ks).getD z) w := by
  obtain ⟨es, clock, h1, h2⟩ := h
  have hf := K.find x es.toList ks w h2
  have hg := findA_get x ks 0
  simp only [Instr.lookup, Sem.run_bind, run_underlying hT, Result.andThen_ok, getObj, Sem.run, h1, K.check, Sem.run_pure, hf]
  cases hfa : findA x ks 0 with
  | none =>
    rw [hfa] at hg
    simp only [Option.map_none] at hg
    rw [← hg]
    cases c <;> simp [hz, Result.andThen]
  | some p =>
    rw [hfa] at hg
    obtain ⟨i, v⟩ := p
    simp only [Option.map_some] at hg
    rw [← hg]
    cases c <;> simp [Result.andThen]

theorem update_run (K : KeyOK P T enc) (hT : P.underlying MT = some (.map T E)) (h : MapAt enc w b ks) (x : α) (v : Value) :
    ∃ w', (Instr.mapUpdate MT (.map (some b)) (enc x) v).run P w = .ok () w' ∧ MapAt enc w' b (putA x v ks) ∧ But b w w' := by
  obtain ⟨es, clock, h1, h2⟩ := h
  have hlt : b < w.heap.size := (Array.getElem?_eq_some_iff.1 h1).1
  have hf := K.find x es.toList ks w h2
  have hlen : es.size = ks.length := by simpa using congrArg List.length h2
  have hbut : ∀ o, But b w { w with heap := w.heap.setIfInBounds b o } := fun o => ⟨rfl, rfl, rfl, by simp, fun k _ hk => by
    show (w.heap.setIfInBounds b o)[k]? = _
    rw [Array.getElem?_setIfInBounds_ne (Ne.symm hk)]⟩
  have hat : ∀ o, ({ w with heap := w.heap.setIfInBounds b o } : World).heap[b]? = some o := fun o => by
    show (w.heap.setIfInBounds b o)[b]? = _
    rw [Array.getElem?_setIfInBounds_self_of_lt hlt]
  cases hfa : findA x ks 0 with
  | none =>
    refine ⟨{ w with heap := w.heap.setIfInBounds b (.map (es.push { key := enc x, val := v, born := clock }) (clock + 1)) }, ?_, ⟨_, _, hat _, ?_⟩, hbut _⟩
    · rw [hfa] at hf
      simp [Instr.mapUpdate, run_underlying hT, getObj, setObj, Sem.run, h1, K.check, hf]
    · rw [findA_none x v ks 0 hfa]; simp [h2]
  | some p =>
    obtain ⟨i, u⟩ := p
    obtain ⟨_, h3, h4, h5⟩ := findA_some x v ks 0 i u hfa
    rw [Nat.sub_zero] at h3 h4 h5
    have hi : i < es.size := by omega
    have hk : es[i].key = enc x := by
      have := congrArg (fun l => l[i]?.map (·.1)) h2
      simp only [List.getElem?_map, Option.map_map] at this
      rw [List.getElem?_eq_getElem (by simpa using hi)] at this
      simp only [Option.map_some, Function.comp] at this
      cases hks : ks[i]? with
      | none => rw [hks] at h4; simp at h4
      | some q => rw [hks] at h4 this; simp at h4 this; rw [this, h4]
    refine ⟨{ w with heap := w.heap.setIfInBounds b (.map (es.modify i fun e => { e with key := enc x, val := v }) clock) }, ?_, ⟨_, _, hat _, ?_⟩, hbut _⟩
    · rw [hfa] at hf
      have hks : ∀ w : World, (Instr.keyThatStays (((es[i]?).map (·.key)).getD (enc x)) (enc x)).run P w = .ok (enc x) w := fun w => by
        rw [Array.getElem?_eq_getElem hi]
        simp [Instr.keyThatStays, hk, K.same]
      simp [Instr.mapUpdate, run_underlying hT, getObj, setObj, Sem.run, h1, K.check, hf, hks]
    · rw [h5]
      apply List.ext_getElem?
      intro j
      have hj := congrArg (fun l => l[j]?) h2
      simp only [List.getElem?_map] at hj
      simp only [Array.toList_modify, List.getElem?_map, List.getElem?_modify, List.getElem?_set]
      by_cases e : i = j
      · subst e
        rw [List.getElem?_eq_getElem (by simpa using hi)]
        simp [h3]
      · simp [e]
        simpa using hj
end

theorem strKey {P : Program} {T : TypeId} (hT : P.underlying T = some .string) : KeyOK P T Value.string where
  check emp x w := by
    show (Instr.checkKey emp (9999 + 1) T _).run P w = _
    rw [Instr.checkKey, Sem.run_bind, run_underlying hT, Result.andThen_ok]; rfl
  same x := by show (x == x) = true; rw [beq_toListBytes, str_eq]
  find x es ks w h := by
    have key : ∀ (es : List MapEntry) (ks : List (ByteArray × Value)) i, es.map (fun e => (e.key, e.val)) = ks.map (fun p => (Value.string p.1, p.2)) → Instr.findNow .string (.string x) es i = some (findA x ks i) := by
      intro es
      induction es with
      | nil => intro ks i h; cases ks with
        | nil => rfl
        | cons p r => simp at h
      | cons e es ih =>
        intro ks i h
        cases ks with
        | nil => simp at h
        | cons p r =>
          simp only [List.map_cons, List.cons.injEq, Prod.mk.injEq] at h
          rw [Instr.findNow, h.1.1, findA]
          simp only [Instr.sameNow]
          by_cases e1 : p.1 = x
          · have : (x == p.1) = true := by rw [beq_toListBytes, str_eq]; exact e1.symm
            rw [this, if_pos e1, h.1.2]
          · have : (x == p.1) = false := by rw [beq_toListBytes, str_ne]; exact fun h => e1 h.symm
            rw [this, if_neg e1]
            exact ih r (i + 1) h.2
    simp [Instr.findKey, run_underlying hT, key es ks 0 h]
theorem intKey {P : Program} {T : TypeId} (hT : P.underlying T = some (.int .i64)) : KeyOK P T (Value.int .i64) where
  check emp x w := by
    show (Instr.checkKey emp (9999 + 1) T _).run P w = _
    rw [Instr.checkKey, Sem.run_bind, run_underlying hT, Result.andThen_ok]; rfl
  same x := by simp [Instr.sameBits]
  find x es ks w h := by
    have key : ∀ (es : List MapEntry) (ks : List (Int × Value)) i, es.map (fun e => (e.key, e.val)) = ks.map (fun p => (Value.int .i64 p.1, p.2)) → Instr.findNow (.int .i64) (.int .i64 x) es i = some (findA x ks i) := by
      intro es
      induction es with
      | nil => intro ks i h; cases ks with
        | nil => rfl
        | cons p r => simp at h
      | cons e es ih =>
        intro ks i h
        cases ks with
        | nil => simp at h
        | cons p r =>
          simp only [List.map_cons, List.cons.injEq, Prod.mk.injEq] at h
          rw [Instr.findNow, h.1.1, findA]
          simp only [Instr.sameNow]
          by_cases e1 : p.1 = x
          · subst e1; simp [h.1.2]
          · have : (x == p.1) = false := by simpa using fun h => e1 h.symm
            rw [this, if_neg e1]
            exact ih r (i + 1) h.2
    simp [Instr.findKey, run_underlying hT, key es ks 0 h]
/-- Keys of a struct type: by how the model compares two of them. -/
theorem aggKey {α : Type} [DecidableEq α] {P : Program} {T : TypeId} {enc : α → Value} {fs : Array Field} (hT : P.underlying T = some (.struct fs)) (hagg : ∀ x, ∃ cs, enc x = .agg cs)
    (hchk : ∀ (emp : Bool) (x : α) (w : World), (Instr.checkKey emp 10000 T (enc x)).run P w = .ok () w)
    (heq : ∀ (x y : α) (w : World), (Op.equal T (enc x) (enc y)).run P w = .ok (decide (x = y)) w) (hsame : ∀ x, Instr.sameBits 10000 (enc x) (enc x) = true) : KeyOK P T enc where
  check := hchk
  same := hsame
  find x es ks w h := by
    have asking : ∀ (es : List MapEntry) (ks : List (α × Value)) i, es.map (fun e => (e.key, e.val)) = ks.map (fun p => (enc p.1, p.2)) → (Instr.findAsking T (enc x) es i).run P w = .ok (findA x ks i) w := by
      intro es
      induction es with
      | nil => intro ks i h; cases ks with
        | nil => rfl
        | cons p r => simp at h
      | cons e es ih =>
        intro ks i h
        cases ks with
        | nil => simp at h
        | cons p r =>
          simp only [List.map_cons, List.cons.injEq, Prod.mk.injEq] at h
          rw [Instr.findAsking, h.1.1, findA, Sem.run_bind, heq]
          simp only [Result.andThen_ok]
          by_cases e1 : p.1 = x
          · simp [e1, h.1.2]
          · have e2 : ¬ x = p.1 := fun h => e1 h.symm
            simp only [e1, e2, decide_false, Bool.false_eq_true, if_false]
            exact ih r (i + 1) h.2
    cases es with
    | nil =>
      have := asking [] ks 0 h
      simp only [Instr.findAsking, Sem.run_pure] at this
      simp [Instr.findKey, run_underlying hT, Instr.findNow, this]
    | cons e es =>
      have := asking (e :: es) ks 0 h
      have hn : Instr.findNow (.struct fs) (enc x) (e :: es) 0 = none := by
        obtain ⟨cs, hc⟩ := hagg x
        rw [hc]; simp [Instr.findNow, Instr.sameNow]
      simp [Instr.findKey, run_underlying hT, hn, this]

/-- An operation whose run is known. -/
theorem wpList_run {P : Program} {w : World} {ops : Array Oper} {rest : List Oper} {o : Oper} {a : Act} {Q : Exit → Act → World → Prop}
    (hw : Region.wanted o (yielded ops a.tmps) = true) {v : Value} {w' : World} (hrun : (execOp a.eval o).run P w = .ok (.value v) w') (hK : wpList P ops Q rest (a.put o.dst v) w') : wpList P ops Q (o :: rest) a w := by
  refine wpList_step fun K' hK' => ?_
  rw [if_pos hw]
  unfold Oper.wp
  rw [hrun]
  exact hK' _ _ hK
theorem exec_lookup {P : Program} {w : World} {o : Oper} {a : Act} {t : TypeId} {m x : Operand} {c : Bool} {mv kv v : Value} (hop : o.op = .lookup t m x c) (hm : a.eval m = mv) (hx : a.eval x = kv)
    (h : (Instr.lookup t mv kv c).run P w = .ok v w) : (execOp a.eval o).run P w = .ok (.value v) w := by
  simp [execOp, hop, hm, hx, h, Result.andThen]
theorem wpList_update {P : Program} {w : World} {ops : Array Oper} {rest : List Oper} {o : Oper} {a : Act} {Q : Exit → Act → World → Prop} {t : TypeId} {m x v : Operand} {mv kv vv : Value} {w' : World}
    (hw : Region.wanted o (yielded ops a.tmps) = true) (hop : o.op = .mapUpdate t m x v) (hm : a.eval m = mv) (hx : a.eval x = kv) (hv : a.eval v = vv)
    (hrun : (Instr.mapUpdate t mv kv vv).run P w = .ok () w') (hK : wpList P ops Q rest (a.put o.dst undef) w') : wpList P ops Q (o :: rest) a w := by
  refine wpList_step fun K' hK' => ?_
  rw [if_pos hw]
  unfold Oper.wp
  simp [execOp, hop, hm, hx, hv, hrun, Result.andThen]
  exact hK' _ _ hK
theorem But.cell {q : Nat} {w w' : World} (h : But q w w') {b o : Nat} (hb : b < w.heap.size) (hne : b ≠ q) : w'.cell? ⟨b, o, none⟩ = w.cell? ⟨b, o, none⟩ := World.cell?_of_block (w := w) (h.block b hb hne)
theorem But.frozen {q : Nat} {w w' : World} (h : But q w w') {b o : Nat} (hb : b < w.heap.size) (hne : b ≠ q) : w'.frozen? ⟨b, o, none⟩ = w.frozen? ⟨b, o, none⟩ := World.frozen?_of_block (w := w) (h.block b hb hne)
theorem One.but {q b : Nat} {w w' : World} {v : Value} {t : TypeId} (h : One w b v t) (hb : But q w w') (hne : b ≠ q) : One w' b v t := by
  have := h.lt
  unfold One at *; rw [hb.block b this hne]; exact h
theorem MapAt.but {α : Type} {enc : α → Value} {q b : Nat} {w w' : World} {ks : List (α × Value)} (h : MapAt enc w b ks) (hb : But q w w') (hne : b ≠ q) : MapAt enc w' b ks := h.same_ (hb.block b h.lt hne)
theorem But.grown {q : Nat} {w w' : World} (h : But q w w') : w.grownBy w' (some q) := ⟨h.os, h.tape, h.output, h.size, fun k hk hne => h.block k hk (fun e => hne (by rw [e]))⟩
theorem One.grown {w w' : World} {row : Option Nat} {b : Nat} {v : Value} {t : TypeId} (h : One w b v t) (hg : w.grownBy w' row) (hne : some b ≠ row) : One w' b v t := by
  have := h.lt
  unfold One at *; rw [hg.block b this hne]; exact h
theorem MapAt.grown {α : Type} {enc : α → Value} {b : Nat} {w w' : World} {row : Option Nat} {ks : List (α × Value)} (h : MapAt enc w b ks) (hg : w.grownBy w' row) (hne : some b ≠ row) : MapAt enc w' b ks := h.same_ (hg.block b h.lt hne)
/-- A store into a map, for the walk. -/
theorem wpList_update_map {α : Type} [DecidableEq α] {enc : α → Value} {P : Program} {T E MT : TypeId} {w : World} {b : Nat} {ks : List (α × Value)} {ops : Array Oper} {rest : List Oper} {o : Oper} {a : Act} {Q : Exit → Act → World → Prop} {m x v : Operand} {vv : Value}
    (K : KeyOK P T enc) (hT : P.underlying MT = some (.map T E)) (hw : Region.wanted o (yielded ops a.tmps) = true) (hop : o.op = .mapUpdate MT m x v) (hm : a.eval m = .map (some b)) (h : MapAt enc w b ks) (k : α) (hx : a.eval x = enc k) (hv : a.eval v = vv)
    (hK : ∀ w', MapAt enc w' b (putA k vv ks) → But b w w' → wpList P ops Q rest (a.put o.dst undef) w') : wpList P ops Q (o :: rest) a w := by
  obtain ⟨w', hrun, h1, h2⟩ := update_run K hT h k vv
  exact wpList_update hw hop hm hx hv hrun (hK w' h1 h2)
theorem own_ne {w : World} {base : Nat} {e : TypeId} {size : Nat} {v : Value} {n q : Nat} {xs : List Value} (h : w.ownsRow base e size v n xs) (hq : q < base) : some q ≠ v.ownBlock := fun e => by
  have := (h.lt q e.symm).1; omega
theorem own_ne' {w : World} {base : Nat} {e : TypeId} {size : Nat} {v : Value} {n q : Nat} {xs : List Value} (h : w.ownsRow base e size v n xs) (hq : w.heap.size ≤ q) : some q ≠ v.ownBlock := fun e => by
  have := (h.lt q e.symm).2; omega
theorem MapAt.made' {α : Type} (enc : α → Value) (w : World) {n : Nat} (h : n = w.heap.size) : MapAt enc (w.alloc (.map #[] 0)) n [] := by
  subst h; exact MapAt.made enc w
theorem own_val {w : World} {base : Nat} {e : TypeId} {size : Nat} {v : Value} {n : Nat} {xs : List Value} (h : w.ownsRow base e size v n xs) : ∃ a m c, v = .slice a m c := by
  rcases h.2 with ⟨h, _⟩ | ⟨g, cap, _, h, _⟩
  · exact ⟨_, _, _, h⟩
  · exact ⟨_, _, _, h⟩
theorem own_slice {w : World} {base : Nat} {e : TypeId} {size : Nat} {v : Value} {n : Nat} {xs : List Value} (h : w.ownsRow base e size v (n + 1) xs) : ∃ g cap, v = .slice (some ⟨g, 0, none⟩) (n + 1) cap := by
  rcases h.2 with ⟨_, h⟩ | ⟨g, cap, _, h, _⟩
  · omega
  · exact ⟨g, cap, h⟩
end Go.Proofs.Ytmepdfipigdjhaa
