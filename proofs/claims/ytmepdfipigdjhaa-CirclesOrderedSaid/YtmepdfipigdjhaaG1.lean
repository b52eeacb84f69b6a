/- A range over an iterator that writes memory of its own between two rounds: the caller's word speaks of what lay before alone. -/
import Derived.Test.YtmepdfipigdjhaaL0
import Derived.RangeFuncNested
import Derived.RangeFuncBound
import Derived.RangeFuncCalls
import Derived.RangeFuncLeaves
namespace Go.Proofs.Ytmepdfipigdjhaa
open Go.RowKit
set_option linter.unusedSimpArgs false
set_option linter.unusedVariables false
section
variable {F : Fence} {n : Nat} {P : Program}

/-- It speaks of what lies below B alone. -/
def Low {β : Type} (B : Nat) (I : β → World → Prop) : Prop := ∀ s A A', I s A → Below B A A' → I s A'
theorem Low.mono {β : Type} {B B' : Nat} {I : β → World → Prop} (h : Low B I) (hB : B ≤ B') : Low B' I := fun s A A' hi hb => h s A A' hi (hb.mono hB)
theorem Low.and {β : Type} {B : Nat} {I J : β → World → Prop} (h : Low B I) (k : Low B J) : Low B (fun s W => I s W ∧ J s W) :=
  fun s A A' hi hb => ⟨h s A A' hi.1 hb, k s A A' hi.2 hb⟩
theorem Low.alloc {β : Type} {B : Nat} {I : β → World → Prop} (h : Low B I) {s : β} {W : World} (hs : I s W) (hB : B ≤ W.heap.size) (o : Obj) : I s (W.alloc o) :=
  h s _ _ hs ((Below.refl B W).alloc hB o)
theorem Low.put {β : Type} {B : Nat} {I : β → World → Prop} (h : Low B I) {s : β} {W : World} (hs : I s W) {l : Nat} (hl : B ≤ l) {o : Obj} (ho : W.heap[l]? = some o) (o' : Obj) : I s (W.putObj l o') :=
  h s _ _ hs ((Below.refl B W).grown (grownBy_putObj' W l o') (by have := (Array.getElem?_eq_some_iff.1 ho).1; omega) (fun k e => by cases e; omega))
theorem low_below {β : Type} {B : Nat} {w : World} {n0 : Nat} (hn : n0 ≤ B) : Low B (fun (_ : β) W => Below n0 w W) := fun _ _ _ h hb => h.trans (hb.mono hn)

/-- What cells there are lie as they lay; and so does whatever lay below n0, but for block q. -/
structure Kq (q n0 : Nat) (A A' : World) : Prop where
  size : A.heap.size ≤ A'.heap.size
  keep : ∀ b o, A.heap[b]? = some o → (o.isCells = true ∨ (b < n0 ∧ b ≠ q)) → A'.heap[b]? = some o
theorem Kq.refl (q n0 : Nat) (A : World) : Kq q n0 A A := ⟨Nat.le_refl _, fun _ _ h _ => h⟩
theorem Kq.trans {q n0 : Nat} {A B C : World} (h : Kq q n0 A B) (k : Kq q n0 B C) : Kq q n0 A C :=
  ⟨Nat.le_trans h.size k.size, fun b o h1 h2 => k.keep b o (h.keep b o h1 h2) h2⟩
theorem Kq.of {q n0 : Nat} {A B : World} (h : Below A.heap.size A B) : Kq q n0 A B :=
  ⟨h.size, fun b o h1 _ => (h.block b (Array.getElem?_eq_some_iff.1 h1).1).trans h1⟩
theorem Kq.put {q n0 : Nat} {w : World} (hn : n0 ≤ w.heap.size) (W : World) (l : Nat) (o o' : Obj) (hl : w.heap.size ≤ l) (h : W.heap[l]? = some o) (hc : o.isCells = false) (_ : o.isWalk = false) : Kq q n0 W (W.putObj l o') := by
  refine ⟨by simp [World.putObj], fun b o1 h1 h2 => ?_⟩
  have hb : b ≠ l := by
    rintro rfl
    rw [h] at h1; cases h1
    rcases h2 with h2 | h2
    · rw [hc] at h2; cases h2
    · omega
  exact (World.putObj_heap_other hb).trans h1
theorem Kq.cell {q n0 : Nat} {A B : World} (h : Kq q n0 A B) {p : Addr} {v : Value} (hc : A.cell? p = some v) : B.cell? p = some v := by
  have hp := hc
  unfold World.cell? at hp
  cases ho : A.heap[p.block]? with
  | none => rw [ho] at hp; simp at hp
  | some o =>
    have hcells : o.isCells = true := by
      rw [ho] at hp
      cases o <;> first | rfl | simp at hp
    rw [World.cell?_of_block ((h.keep _ o ho (.inl hcells)).trans ho.symm)]
    exact hc
theorem Kq.one {q n0 : Nat} {A B : World} (h : Kq q n0 A B) {b : Nat} {v : Value} {t : TypeId} (ho : One A b v t) : One B b v t := h.keep b _ ho (.inl rfl)
theorem Kq.but {q n0 : Nat} {A B : World} (h : But q A B) (hq : ∀ o, A.heap[q]? = some o → o.isCells = false) : Kq q n0 A B :=
  ⟨h.size, fun b o h1 h2 => by
    have hb : b ≠ q := by
      rintro rfl
      rcases h2 with h2 | h2
      · rw [hq o h1] at h2; cases h2
      · exact h2.2 rfl
    exact (h.block b (Array.getElem?_eq_some_iff.1 h1).1 hb).trans h1⟩

/-- An iterator's word: called at whatever loop's yield, in whatever later world, it hands out the elements of some list with S, one by one; or it was stopped. -/
def SeqLow {α : Type} (F : Fence) (n : Nat) (P : Program) (g : Nat) (lb : Array Value) (encs : α → Array Value) (Kp : World → World → Prop) (S Sp : List α → Prop) (N : Nat) (w : World) : Prop :=
  ∀ (l : Nat) (J Jx : List α → World → Prop) (W : World), Below w.heap.size w W → Low W.heap.size J → Low W.heap.size Jx →
    (∀ pre x W1, J pre W1 → pre.length < N → YieldAt F (n - 1) P l (encs x) W1 fun e W' =>
      (e = .returned (.bool true) ∧ J (pre ++ [x]) W' ∧ Kp W1 W') ∨ (e = .returned (.bool false) ∧ Jx (pre ++ [x]) W')) →
    J [] W →
    CallsIn F n P g (#[.func (.yield l) #[] #[]] ++ lb) W fun e W' => (∃ v, e = .returned v) ∧ ((∃ xs, S xs ∧ J xs W') ∨ (∃ pre, Sp pre ∧ Jx pre W'))

theorem wpIn_range_low {α : Type} {g : Operand} {ps : Array Tmp} {assign body : Code} {Q : Exit → Act → World → Prop} {a : Act} {w : World}
    (hro : F.round = none) (h1 : 1 ≤ n) {gf : Nat} {lb : Array Value} (hg : a.eval g = .func (.func gf) #[] lb) (hFg : F.fn gf) (eg : ∀ args w, (callFunc gf args).run P w = .ok (.enter gf args) w)
    {encs : α → Array Value} {Kp : World → World → Prop} {S Sp : List α → Prop} {N : Nat} {w0 : World} (hseq : SeqLow F (n - 1) P gf lb encs Kp S Sp N w0)
    (hKt : ∀ {A B C : World}, Kp A B → Kp B C → Kp A C) (hKb : ∀ (W : World) (l : Nat) (o o' : Obj), w.heap.size ≤ l → W.heap[l]? = some o → o.isCells = false → o.isWalk = false → Kp W (W.putObj l o'))
    (hb0 : Below w0.heap.size w0 w) (hps : ∀ x, (encs x).size = ps.size)
    (I : List α → World → Prop) (Ix : Code → List α → World → Prop) (hI : Low w.heap.size I) (hIx : ∀ c, Low w.heap.size (Ix c)) (h0 : I [] w)
    (Ax : α → Act → World → Prop) (hAx : ∀ x a', OwnFrom w.heap.size (fun (_ : Unit) W => Ax x a' W))
    (hassign : ∀ (l : Nat) (pre : List α) (x : α) (W : World) (K : Act → World → Prop), I pre W → w.heap.size ≤ W.heap.size → (∀ a' W', KeepsFrom w.heap.size W W' → Kp W W' → I pre W' → Ax x a' W' → K a' W') →
      assign.wpIn (F.inRound l) (n - 1 - 1) P (Exit.then K (fun _ _ _ => False)) { tmps := (ps.zip (encs x)).foldl (fun t (p, v) => t.setIfInBounds p v) a.tmps, defers := [] } W)
    (hbody : ∀ (l : Nat) (pre : List α) (x : α) (a' : Act) (W : World), w.heap.size ≤ l → (∃ r, W.heap[l]? = some (.loop r)) → w.heap.size ≤ W.heap.size → I pre W → Ax x a' W → pre.length < N →
      body.wpIn (F.inRound l) (n - 1 - 1) P (ownPostG w.heap.size Kp I Ix (pre ++ [x]) W) a' W)
    (hdone : ∀ (D : Nat) (xs : List α) (W : World), w.heap.size ≤ D → S xs → I xs W → W.heap[D]? = some (.deferred (some [])) → Q .normal { a with defers := { target := .collected D, args := #[] } :: a.defers } W)
    (hstop : ∀ (D : Nat) (c : Code) (pre : List α) (W : World), w.heap.size ≤ D → Sp pre → Ix c pre W → W.heap[D]? = some (.deferred (some [])) → c.wpIn F n P Q { a with defers := { target := .collected D, args := #[] } :: a.defers } W) :
    (Code.rangeFunc g ps assign body).wpIn F n P Q a w := by
  refine wpIn_rangeFunc ?_
  intro fn hfn
  rw [hro]
  -- the loop's record, in whatever state
  obtain ⟨rec, hrec⟩ : ∃ rec : LoopState → Option Code → Loop, rec = fun st pe => { state := st, pending := pe, fn, tmps := a.tmps, params := ps, assign, body, defers := w.heap.size } := ⟨_, rfl⟩
  obtain ⟨W1, hW1⟩ : ∃ W1, (w.alloc (.deferred (some []))).alloc (.loop (rec .ready none)) = W1 := ⟨_, rfl⟩
  have hs1 : W1.heap.size = w.heap.size + 2 := by rw [← hW1]; simp
  have hL1 : W1.heap[w.heap.size + 1]? = some (.loop (rec .ready none)) := by
    rw [← hW1]; have := World.alloc_heap_new (w.alloc (.deferred (some []))) (.loop (rec .ready none)); rwa [World.size_alloc] at this
  have hD1 : W1.heap[w.heap.size]? = some (.deferred (some [])) := by
    rw [← hW1]; exact (Below.heap_alloc _ _ _ (by simp)).trans (World.alloc_heap_new w _)
  have hB1 : Below w.heap.size w W1 := by rw [← hW1]; exact ((Below.refl _ w).alloc (Nat.le_refl _) _).alloc (by simp) _
  refine ⟨w.heap.size + 1, [{ target := .collected w.heap.size, args := #[] }], W1, { target := .fn (.func gf) lb, args := #[.func (.yield (w.heap.size + 1)) #[] #[]] }, W1, gf,
    #[.func (.yield (w.heap.size + 1)) #[] #[]] ++ lb, W1, ?_, ?_, ?_, ?_, fun _ => h1, ?_⟩
  · rw [← hW1, hrec]; exact run_enterLoop_outer _ _ _ _ _
  · simp only [resolve, hg]
    simp [go_sem]
  · intro f' hf'; simp [Target.leads] at hf'; subst hf'; exact hFg
  · simp [invoke, go_sem, eg]
  have hkeep : ∀ {A A' : World} {b : Nat} {o : Obj}, b < w.heap.size + 2 → Below W1.heap.size A A' → A.heap[b]? = some o → A'.heap[b]? = some o := fun hb h h2 => (h.block _ (by omega)).trans h2
  refine (hseq (w.heap.size + 1)
    (fun pre W => I pre W ∧ w.heap.size + 2 ≤ W.heap.size ∧ W.heap[w.heap.size + 1]? = some (.loop (rec .ready none)) ∧ W.heap[w.heap.size]? = some (.deferred (some [])))
    (fun pre W => ∃ c, Ix c pre W ∧ W.heap[w.heap.size + 1]? = some (.loop (rec .done (some c))) ∧ W.heap[w.heap.size]? = some (.deferred (some [])))
    W1 (hb0.trans (hB1.mono hb0.size))
    (fun s A A' hs hb => ⟨hI s A A' hs.1 (hb.mono (by omega)), Nat.le_trans hs.2.1 hb.size, hkeep (by omega) hb hs.2.2.1, hkeep (by omega) hb hs.2.2.2⟩)
    (fun s A A' hs hb => by
      obtain ⟨c, hc, hl, hk⟩ := hs
      exact ⟨c, hIx c s A A' hc (hb.mono (by omega)), hkeep (by omega) hb hl, hkeep (by omega) hb hk⟩)
    ?_ ⟨hI _ _ _ h0 hB1, by omega, hL1, hD1⟩).mono ?_
  · rintro pre x W ⟨hi, hsz, hl, hk⟩ hlen
    have hy := run_yield (P := P) (args := encs x) hl (by rw [hrec]; exact hps x)
    rw [hrec] at hy
    refine ⟨fn, _, assign, body, hy, roundIn_of_wpIn hfn (hassign _ pre x W _ hi (by omega) ?_)⟩
    clear hy
    intro a' Wa hkfa hkpa hia hax
    have hla := hkfa.same _ _ (by omega) hl rfl
    have hka := hkfa.same _ _ (Nat.le_refl _) hk rfl
    have hlt : w.heap.size + 1 < Wa.heap.size := (Array.getElem?_eq_some_iff.1 hla).1
    refine ⟨_, run_beginRound hla (by rw [hrec]), ?_⟩
    obtain ⟨busy, hbusy⟩ : ∃ r : Loop, { rec .ready none with state := .busy } = r := ⟨_, rfl⟩
    rw [hbusy]
    have hl2 : (Wa.putObj (w.heap.size + 1) (.loop busy)).heap[w.heap.size + 1]? = some (.loop busy) := World.putObj_heap_same hlt
    have hk2 : (Wa.putObj (w.heap.size + 1) (.loop busy)).heap[w.heap.size]? = some (.deferred (some [])) := (World.putObj_heap_other (by omega)).trans hka
    have hw2 : Kp Wa (Wa.putObj (w.heap.size + 1) (.loop busy)) := hKb _ _ _ _ (by omega) hla rfl rfl
    have hz2 : (Wa.putObj (w.heap.size + 1) (.loop busy)).heap.size = Wa.heap.size := by simp [World.putObj]
    refine wpIn_mono (hbody _ pre x a' _ (by omega) ⟨_, hl2⟩ (by omega) (hI.put hia (by omega) hla _) ((hAx x a').putObj (s := ()) _ hax (by omega) hla rfl) hlen) ?_
    have fin : ∀ (jump : Option Code) (W3 : World), KeepsFrom w.heap.size (Wa.putObj (w.heap.size + 1) (.loop busy)) W3 →
        (Instr.endRound (w.heap.size + 1) jump).run P W3 = .ok (.bool jump.isNone) (W3.putObj (w.heap.size + 1) (.loop (rec (if jump.isNone then .ready else .done) jump))) ∧
        W3.heap[w.heap.size + 1]? = some (.loop busy) ∧
        (W3.putObj (w.heap.size + 1) (.loop (rec (if jump.isNone then .ready else .done) jump))).heap[w.heap.size + 1]? = some (.loop (rec (if jump.isNone then .ready else .done) jump)) ∧
        (W3.putObj (w.heap.size + 1) (.loop (rec (if jump.isNone then .ready else .done) jump))).heap[w.heap.size]? = some (.deferred (some [])) ∧ w.heap.size + 2 ≤ W3.heap.size := fun jump W3 hk3 => by
      have hl3 := hk3.same _ _ (by omega) hl2 rfl
      have hr := run_endRound (P := P) jump hl3
      have hlt3 := (Array.getElem?_eq_some_iff.1 hl3).1
      rw [← hbusy, hrec] at hr
      rw [hrec] at ⊢
      exact ⟨hr, hl3, World.putObj_heap_same hlt3, (World.putObj_heap_other (by omega)).trans (hk3.same _ _ (Nat.le_refl _) hk2 rfl), by omega⟩
    rintro e a3 W3 hp
    cases e with
    | normal =>
      obtain ⟨hk3, hkp3, hi3⟩ := hp
      obtain ⟨hr, hl3, hl4, hk4, hz⟩ := fin none W3 hk3
      exact ⟨_, _, hr, .inl ⟨rfl, ⟨hI.put hi3 (by omega) hl3 _, by simp [World.putObj]; omega, hl4, hk4⟩, hKt hkpa (hKt (hKt hw2 hkp3) (hKb _ _ _ _ (by omega) hl3 (by rfl) (by rfl)))⟩⟩
    | ret =>
      obtain ⟨hr, hl3, hl4, hk4, _⟩ := fin (some .ret) W3 hp.1
      exact ⟨_, _, hr, .inr ⟨rfl, .ret, (hIx _).put hp.2 (by omega) hl3 _, hl4, hk4⟩⟩
    | exit id =>
      obtain ⟨hr, hl3, hl4, hk4, _⟩ := fin (some (.exit id)) W3 hp.1
      exact ⟨_, _, hr, .inr ⟨rfl, .exit id, (hIx _).put hp.2 (by omega) hl3 _, hl4, hk4⟩⟩
    | goto t =>
      obtain ⟨hr, hl3, hl4, hk4, _⟩ := fin (some (.goto t)) W3 hp.1
      exact ⟨_, _, hr, .inr ⟨rfl, .goto t, (hIx _).put hp.2 (by omega) hl3 _, hl4, hk4⟩⟩
    | panic ch => exact hp.elim
    | outgrown => exact hp.elim
  · rintro e W2 ⟨⟨v, rfl⟩, (⟨xs, hS, hi, hz, hl, hk⟩ | ⟨pre, hSp, c, hi, hl, hk⟩)⟩
    · have hr := run_endLoop (P := P) hl (by rw [hrec]; simp)
      rw [hrec] at hr
      exact ⟨none, _, hr, hdone _ xs _ (Nat.le_refl _) hS (hI.put hi (by omega) hl _) ((World.putObj_heap_other (by omega)).trans hk)⟩
    · have hr := run_endLoop (P := P) hl (by rw [hrec]; simp)
      rw [hrec] at hr
      exact ⟨some c, _, hr, hstop _ c pre _ (Nat.le_refl _) hSp ((hIx c).put hi (by omega) hl _) ((World.putObj_heap_other (by omega)).trans hk)⟩
end
/-- A function that held a range over an iterator leaves: the one mark among its deferred calls is taken up. -/
theorem leave_mark {F : Fence} {n : Nat} {P : Program} {fn : Func} {R : Ending → World → Prop} {tmps : Array Value} {D : Nat} {W : World} {v : Value} (hK : W.heap[D]? = some (.deferred (some [])))
    (hr : ∀ W', W' = W.putObj D (.deferred none) → (results fn tmps).run P W' = .ok v W') (hR : R (.returned v) (W.putObj D (.deferred none))) :
    LeavesInM F n P fn tmps R [{ target := .collected D, args := #[] }] .returning W :=
  ⟨by simp, .inl ⟨_, _, rfl, run_takeDeferred hK, _, hr _ rfl, hR⟩⟩
theorem leave_mark2 {F : Fence} {n : Nat} {P : Program} {fn : Func} {R : Ending → World → Prop} {tmps : Array Value} {D E : Nat} {W : World} {v : Value} (hne : E ≠ D) (hK : W.heap[D]? = some (.deferred (some []))) (hE : W.heap[E]? = some (.deferred (some [])))
    (hr : ∀ W', W' = (W.putObj D (.deferred none)).putObj E (.deferred none) → (results fn tmps).run P W' = .ok v W') (hR : R (.returned v) ((W.putObj D (.deferred none)).putObj E (.deferred none))) :
    LeavesInM F n P fn tmps R [{ target := .collected D, args := #[] }, { target := .collected E, args := #[] }] .returning W :=
  ⟨by simp, .inl ⟨_, _, rfl, run_takeDeferred hK, by simp, .inl ⟨_, _, rfl, run_takeDeferred ((World.putObj_heap_other hne).trans hE), _, hr _ rfl, hR⟩⟩⟩
theorem below_put {B l : Nat} {W : World} (hl : B ≤ l) (o : Obj) : Below B W (W.putObj l o) := by
  by_cases h : l < W.heap.size
  · exact (Below.refl B W).grown (grownBy_putObj' W l o) (by omega) (fun k e => by cases e; omega)
  · have : W.putObj l o = W := by
      unfold World.putObj
      rw [Array.setIfInBounds_eq_of_size_le (by omega)]
    rw [this]; exact Below.refl B W
theorem IsSl.keep {α : Type} {B : Nat} {w w' : World} {k : Nat} {R R' : α → List Value → Prop} {xs : List α} {v : Value}
    (h : IsSl B w k R xs v) (hR : ∀ x cs, x ∈ xs → R x cs → R' x cs) (hc : ∀ p u, w.cell? p = some u → w'.cell? p = some u) : IsSl B w' k R' xs v := by
  obtain ⟨a, cap, rfl, h1, h2, h3⟩ := h
  refine ⟨a, cap, rfl, h1, h2, ?_⟩
  rcases h3 with h3 | ⟨b, off, rfl, hb, h4⟩
  · exact .inl h3
  · refine .inr ⟨b, off, rfl, hb, fun i hi => ?_⟩
    obtain ⟨cs, h5, h6, h7⟩ := h4 i hi
    exact ⟨cs, hR _ _ (List.getElem_mem hi) h5, h6, fun j hj => hc _ _ (h7 j hj)⟩
theorem IsEx.keep {B : Nat} {w w' : World} (hc : ∀ p u, w.cell? p = some u → w'.cell? p = some u) : ∀ {d : Nat} {x : Ex} {cs : List Value}, IsEx B w d x cs → IsEx B w' d x cs
  | 0, _, _, h => h.elim
  | d + 1, .mk op n s args, cs, h => by
    obtain ⟨v, rfl, h1, h2⟩ := h
    exact ⟨v, rfl, h1, h2.keep (fun _ _ _ h => IsEx.keep hc h) hc⟩
theorem IsFl.keep {B d : Nat} {w w' : World} (hc : ∀ p u, w.cell? p = some u → w'.cell? p = some u) {x : FlD} {cs : List Value} (h : IsFl B w d x cs) : IsFl B w' d x cs := by
  obtain ⟨es, rfl, h1, h2⟩ := h
  exact ⟨es, rfl, h1, h2.keep hc⟩
end Go.Proofs.Ytmepdfipigdjhaa
