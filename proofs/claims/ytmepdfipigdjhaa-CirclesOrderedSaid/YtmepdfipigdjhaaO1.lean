/- A program that comes in, opened: its words. -/
import Derived.Test.YtmepdfipigdjhaaRows
import Derived.Test.YtmepdfipigdjhaaA2
import Derived.ProofKit
import Derived.Deep.Slices
namespace Go.Proofs.Ytmepdfipigdjhaa
open Go.RowKit
set_option linter.unusedSimpArgs false
set_option linter.unusedVariables false
open Go.ChangeShapes Go.WideShapes Go.ChangeAt
section
variable {H : Type} {enc : TypeId × Value → H} {w : World} {spare : Nat → Bool} {held : Bool}
theorem take1 {cs : List Value} {n k : Nat} {v : Value} (hl : cs.length = n) (h : (cs.drop k).take 1 = [v]) : cs[k]? = some v := by
  have := congrArg (fun l => l[0]?) h
  simpa [List.getElem?_take, List.getElem?_drop] using this
theorem four_of {cs : List Value} {a b c e : Value} (hl : cs.length = 4) (h0 : cs[0]? = some a) (h1 : cs[1]? = some b) (h2 : cs[2]? = some c) (h3 : cs[3]? = some e) : cs = [a, b, c, e] := by
  match cs, hl with
  | [_, _, _, _], _ => simp at h0 h1 h2 h3; simp [h0, h1, h2, h3]
/-- A slice that comes in, its elements by a law of theirs. -/
theorem open_sl {α : Type} {P : Program} {t e : TypeId} {k fuel : Nat} {cs : List Value} {x : DataW H × List MemPlace} (R : α → List Value → Prop) (ht : P.underlying t = some (.slice e)) (hk : P.cellsOf e = k) (hk0 : 0 < k)
    (h : DataW.trod enc P w 0 spare held fuel t cs = some x) (hR : ∀ n, n < fuel → ∀ cs' y, DataW.trod enc P w 0 spare held n e cs' = some y → ∃ a : α, R a cs') : ∃ (xs : List α) (v : Value), cs = [v] ∧ IsSl w.heap.size w k R xs v := by
  rcases DataW.trod_slice ht h with ⟨rfl, _⟩ | ⟨a, len, cap, elems, rest, n, rfl, rfl, _, _, hl, hm, hlen, hel, _, _⟩
  · exact ⟨[], _, rfl, none, 0, rfl, Nat.le_refl _, Nat.zero_le _, .inl rfl⟩
  · by_cases h0 : len = 0
    · subst h0
      exact ⟨[], _, rfl, some a, cap, rfl, Nat.zero_le _, hm, .inl rfl⟩
    · have each : ∀ i : Fin len, ∃ q : α, ∃ cs' : List Value, R q cs' ∧ w.cells? 0 (a.add (i.1 * k)) k = some cs' := by
        intro i
        have h1 := hel i.1 i.2
        rw [List.getElem?_eq_getElem (by rw [hlen]; exact i.2), hk] at h1
        obtain ⟨cs', h2, h3⟩ := Option.bind_eq_some_iff.1 h1
        obtain ⟨q, h4⟩ := hR n (by omega) cs' _ h3
        exact ⟨q, cs', h4, h2⟩
      obtain ⟨f, hf⟩ := Classical.axiomOfChoice each
      have hcell : ∀ i (hi : i < len), ∃ cs', R (f ⟨i, hi⟩) cs' ∧ cs'.length = k ∧ ∀ j, j < k → w.cell? ((a.add (i * k)).add j) = cs'[j]? := by
        intro i hi
        obtain ⟨cs', h2, h3⟩ := hf ⟨i, hi⟩
        obtain ⟨_, h4, h5⟩ := World.cells?_some h3
        exact ⟨cs', h2, h4, h5⟩
      obtain ⟨b, off, spot⟩ := a
      have hspot : spot = none ∧ b < w.heap.size := by
        obtain ⟨cs', _, h4, h5⟩ := hcell 0 (by omega)
        have h6 := h5 0 hk0
        rw [List.getElem?_eq_getElem (by omega)] at h6
        refine ⟨?_, ?_⟩
        · have := World.cell?_spot h6
          simpa [Addr.add] using this
        · have := World.block_lt_of_cell? w _ h6
          simpa [Addr.add] using this
      obtain ⟨rfl, hb⟩ := hspot
      refine ⟨List.ofFn f, _, rfl, some ⟨b, off, none⟩, cap, by rw [List.length_ofFn], by rw [List.length_ofFn]; exact hl, hm, .inr ⟨b, off, rfl, hb, fun i hi => ?_⟩⟩
      rw [List.length_ofFn] at hi
      obtain ⟨cs', h2, h4, h5⟩ := hcell i hi
      refine ⟨cs', by rw [List.getElem_ofFn]; exact h2, h4, fun j hj => ?_⟩
      have h6 := h5 j (by omega)
      rw [List.getElem?_eq_getElem hj] at h6
      rw [← h6]
      congr 1
      unfold Addr.add
      split <;> split <;> simp_all
theorem cellsEx : Try.prog.cellsOf 49 = 4 := by kernel_rfl
theorem cellsFl : Try.prog.cellsOf 51 = 8 := by kernel_rfl
theorem cellsIn : Try.prog.cellsOf 84 = 3 := by kernel_rfl
theorem cellsPg : Try.prog.cellsOf 26 = 4 := by kernel_rfl
theorem cellsStr : Try.prog.cellsOf 9 = 1 := by kernel_rfl
theorem cellsInt : Try.prog.cellsOf 3 = 1 := by kernel_rfl
theorem cellsI64 : Try.prog.cellsOf 2 = 1 := by kernel_rfl
theorem cellsTy : Try.prog.cellsOf 43 = 1 := by kernel_rfl
theorem cellsOp : Try.prog.cellsOf 46 = 1 := by kernel_rfl
theorem cellsSl47 : Try.prog.cellsOf 47 = 1 := by kernel_rfl
theorem cellsSl22 : Try.prog.cellsOf 22 = 1 := by kernel_rfl
theorem cellsSl23 : Try.prog.cellsOf 23 = 1 := by kernel_rfl
theorem cellsSl24 : Try.prog.cellsOf 24 = 1 := by kernel_rfl
set_option maxRecDepth 100000 in
theorem open_ex : ∀ (m fuel : Nat), fuel ≤ m → ∀ (cs : List Value) (y : DataW H × List MemPlace), DataW.trod enc Try.prog w 0 spare held fuel 49 cs = some y → ∃ x : Ex, IsEx w.heap.size w m x cs := by
  intro m
  induction m with
  | zero =>
    intro fuel hf cs y h
    have : fuel = 0 := by omega
    subst this
    simp [DataW.trod] at h
  | succ m ih =>
    intro fuel hf cs y h
    obtain ⟨xs, n, rfl, rfl, hl, hlen, hfd⟩ := DataW.trod_struct Try.underlying49 h
    rw [cellsEx] at hl
    match xs, hlen with
    | [y0, y1, y2, y3], _ =>
      have h0 : DataW.trod enc Try.prog w 0 spare held n 46 ((cs.drop 0).take (Try.prog.cellsOf 46)) = some y0 := hfd 0 _ rfl
      rw [cellsOp] at h0
      have h1 : DataW.trod enc Try.prog w 0 spare held n 2 ((cs.drop 1).take (Try.prog.cellsOf 2)) = some y1 := hfd 1 _ rfl
      rw [cellsI64] at h1
      have h2 : DataW.trod enc Try.prog w 0 spare held n 9 ((cs.drop 2).take (Try.prog.cellsOf 9)) = some y2 := hfd 2 _ rfl
      rw [cellsStr] at h2
      have h3 : DataW.trod enc Try.prog w 0 spare held n 47 ((cs.drop 3).take (Try.prog.cellsOf 47)) = some y3 := hfd 3 _ rfl
      rw [cellsSl47] at h3
      obtain ⟨op, e0, _, _⟩ := DataW.trod_int Try.underlying46 h0
      obtain ⟨k, e1, _, _⟩ := DataW.trod_int Try.underlying2 h1
      obtain ⟨s, e2, _, hs⟩ := DataW.trod_string Try.underlying9 h2
      obtain ⟨args, v, e3, hv⟩ := open_sl (IsEx w.heap.size w m) Try.underlying47 cellsEx (by omega) h3 (fun k hk cs' y' hy => ih k (by omega) cs' y' hy)
      exact ⟨.mk op k s args, v, four_of hl (take1 hl e0) (take1 hl e1) (take1 hl e2) (take1 hl e3), hs, hv⟩
theorem open_str {fuel : Nat} {cs : List Value} {y : DataW H × List MemPlace} (h : DataW.trod enc Try.prog w 0 spare held fuel 9 cs = some y) : ∃ s : ByteArray, IsStr s cs := by
  obtain ⟨s, e2, _, hs⟩ := DataW.trod_string Try.underlying9 h
  exact ⟨s, e2, hs⟩
set_option maxRecDepth 100000 in
theorem open_in {fuel : Nat} {cs : List Value} {y : DataW H × List MemPlace} (h : DataW.trod enc Try.prog w 0 spare held fuel 84 cs = some y) : ∃ x : InD, IsIn x cs := by
  obtain ⟨xs, n, rfl, rfl, hl, hlen, hfd⟩ := DataW.trod_struct Try.underlying84 h
  rw [cellsIn] at hl
  match xs, hlen with
  | [y0, y1, y2], _ =>
    have h0 : DataW.trod enc Try.prog w 0 spare held n 9 ((cs.drop 0).take (Try.prog.cellsOf 9)) = some y0 := hfd 0 _ rfl
    rw [cellsStr] at h0
    have h1 : DataW.trod enc Try.prog w 0 spare held n 43 ((cs.drop 1).take (Try.prog.cellsOf 43)) = some y1 := hfd 1 _ rfl
    rw [cellsTy] at h1
    have h2 : DataW.trod enc Try.prog w 0 spare held n 3 ((cs.drop 2).take (Try.prog.cellsOf 3)) = some y2 := hfd 2 _ rfl
    rw [cellsInt] at h2
    obtain ⟨s, e0, _, hs⟩ := DataW.trod_string Try.underlying9 h0
    obtain ⟨ty, e1, _, _⟩ := DataW.trod_int Try.underlying43 h1
    obtain ⟨st, e2, _, _⟩ := DataW.trod_int Try.underlying3 h2
    refine ⟨⟨s, ty, st⟩, ?_, hs⟩
    have g0 := take1 hl e0
    have g1 := take1 hl e1
    have g2 := take1 hl e2
    match cs, hl with
    | [_, _, _], _ => simp at g0 g1 g2; simp [g0, g1, g2]
set_option maxRecDepth 100000 in
theorem open_fl {m fuel : Nat} (hm : fuel ≤ m) {cs : List Value} {y : DataW H × List MemPlace} (h : DataW.trod enc Try.prog w 0 spare held fuel 51 cs = some y) : ∃ x : FlD, IsFl w.heap.size w m x cs := by
  obtain ⟨xs, n, rfl, rfl, hl, hlen, hfd⟩ := DataW.trod_struct Try.underlying51 h
  rw [cellsFl] at hl
  match xs, hlen with
  | [y0, y1, y2, y3, y4], _ =>
    have h0 : DataW.trod enc Try.prog w 0 spare held n 9 ((cs.drop 0).take (Try.prog.cellsOf 9)) = some y0 := hfd 0 _ rfl
    rw [cellsStr] at h0
    have h1 : DataW.trod enc Try.prog w 0 spare held n 43 ((cs.drop 1).take (Try.prog.cellsOf 43)) = some y1 := hfd 1 _ rfl
    rw [cellsTy] at h1
    have h2 : DataW.trod enc Try.prog w 0 spare held n 3 ((cs.drop 2).take (Try.prog.cellsOf 3)) = some y2 := hfd 2 _ rfl
    rw [cellsInt] at h2
    have h3 : DataW.trod enc Try.prog w 0 spare held n 2 ((cs.drop 3).take (Try.prog.cellsOf 2)) = some y3 := hfd 3 _ rfl
    rw [cellsI64] at h3
    have h4 : DataW.trod enc Try.prog w 0 spare held n 49 ((cs.drop 4).take (Try.prog.cellsOf 49)) = some y4 := hfd 4 _ rfl
    rw [cellsEx] at h4
    obtain ⟨s, e0, _, hs⟩ := DataW.trod_string Try.underlying9 h0
    obtain ⟨ty, e1, _, _⟩ := DataW.trod_int Try.underlying43 h1
    obtain ⟨st, e2, _, _⟩ := DataW.trod_int Try.underlying3 h2
    obtain ⟨df, e3, _, _⟩ := DataW.trod_int Try.underlying2 h3
    obtain ⟨x, hx⟩ := open_ex m n (by omega) _ _ h4
    refine ⟨⟨s, ty, st, df, x⟩, _, ?_, hs, hx⟩
    have g0 := take1 hl e0
    have g1 := take1 hl e1
    have g2 := take1 hl e2
    have g3 := take1 hl e3
    match cs, hl with
    | [_, _, _, _, _, _, _, _], _ => simp at g0 g1 g2 g3; simp [g0, g1, g2, g3]
set_option maxRecDepth 100000 in
/-- A program that comes in. -/
theorem open_pg {r : _root_.Go.Reach} {b0 : Nat} {v : Value} {d : DataW H} {p : List MemPlace} (hval : Value.okWide Try.prog w r b0 26 v) (h : DataW.Trod enc Try.prog w 0 spare held 26 v d p) :
    ∃ (cs : List Value) (m : Nat) (q : PgD), v = .agg cs.toArray ∧ IsPg w.heap.size w m q cs := by
  obtain ⟨cs0, rfl, _⟩ := okWide_struct Try.underlying26 hval
  obtain ⟨fuel, hf⟩ := h
  obtain ⟨xs, n, rfl, _, hl, hlen, hfd⟩ := DataW.trod_struct Try.underlying26 hf
  simp only [Value.cells] at hl hfd
  rw [cellsPg] at hl
  obtain ⟨cs, rfl⟩ : ∃ cs : List Value, cs0 = cs.toArray := ⟨cs0.toList, by simp⟩
  simp only [List.toList_toArray] at hl hfd
  refine ⟨cs, n, ?_⟩
  match xs, hlen with
  | [y0, y1, y2, y3], _ =>
    have h0 : DataW.trod enc Try.prog w 0 spare held n 3 ((cs.drop 0).take (Try.prog.cellsOf 3)) = some y0 := hfd 0 _ rfl
    rw [cellsInt] at h0
    have h1 : DataW.trod enc Try.prog w 0 spare held n 22 ((cs.drop 1).take (Try.prog.cellsOf 22)) = some y1 := hfd 1 _ rfl
    rw [cellsSl22] at h1
    have h2 : DataW.trod enc Try.prog w 0 spare held n 23 ((cs.drop 2).take (Try.prog.cellsOf 23)) = some y2 := hfd 2 _ rfl
    rw [cellsSl23] at h2
    have h3 : DataW.trod enc Try.prog w 0 spare held n 24 ((cs.drop 3).take (Try.prog.cellsOf 24)) = some y3 := hfd 3 _ rfl
    rw [cellsSl24] at h3
    obtain ⟨st, e0, _, _⟩ := DataW.trod_int Try.underlying3 h0
    obtain ⟨ins, v1, e1, hv1⟩ := open_sl IsIn Try.underlying22 cellsIn (by omega) h1 (fun k hk cs' y' hy => open_in hy)
    obtain ⟨fls, v2, e2, hv2⟩ := open_sl (IsFl w.heap.size w n) Try.underlying23 cellsFl (by omega) h2 (fun k hk cs' y' hy => open_fl (by omega) hy)
    obtain ⟨outs, v3, e3, hv3⟩ := open_sl IsStr Try.underlying24 cellsStr (by omega) h3 (fun k hk cs' y' hy => open_str hy)
    have hcs := four_of hl (take1 hl e0) (take1 hl e1) (take1 hl e2) (take1 hl e3)
    exact ⟨⟨st, ins, fls, outs⟩, rfl, _, _, _, hcs, hv1, hv2, hv3⟩
end
end Go.Proofs.Ytmepdfipigdjhaa
