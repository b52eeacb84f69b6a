/- The answers that the document fixes: alive. -/
import Derived.Test.YtmepdfipigdjhaaA4
import Derived.Test.YtmepdfipigdjhaaK7
namespace Go.Proofs.Ytmepdfipigdjhaa
open Go.RowKit
set_option linter.unusedSimpArgs false
set_option linter.unusedVariables false
/-- A block of one cell an element is a slice of them. -/
theorem sl_of_blk {α : Type} {W : World} {g : Nat} {cs : List Value} {T : TypeId} {R : α → List Value → Prop} {xs : List α} (h : Blk W g cs T) (hl : cs.length = xs.length) (hm : xs.length ≤ maxLen) (hR : ∀ i (h1 : i < xs.length) (h2 : i < cs.length), R xs[i] [cs[i]]) {n : Nat} (hn : n = xs.length) :
    IsSl W.heap.size W 1 R xs (.slice (some ⟨g, 0, none⟩) n n) := by
  subst hn
  refine ⟨_, _, rfl, Nat.le_refl _, hm, .inr ⟨g, 0, rfl, h.lt, fun i hi => ⟨[cs[i]'(by omega)], hR i hi (by omega), rfl, fun j hj => ?_⟩⟩⟩
  have hj0 : j = 0 := by simp at hj; omega
  subst hj0
  rw [show 0 + i * 1 + 0 = i by omega]
  exact h.cell (List.getElem?_eq_getElem (by omega))
theorem ints_of_blk {W : World} {g : Nat} {l : List Nat} {T : TypeId} (h : Blk W g (l.map fun (k : Nat) => Value.int .i64 (k : Int)) T) (hm : l.length ≤ maxLen) {n : Nat} (hn : n = l.length) : IsSl W.heap.size W 1 IsInt (l.map Int.ofNat) (.slice (some ⟨g, 0, none⟩) n n) :=
  sl_of_blk h (by simp) (by simpa using hm) (fun i h1 h2 => by simp [IsInt]) (by simpa using hn)
theorem strs_of_blk {W : World} {g : Nat} {l : List ByteArray} {T : TypeId} (h : Blk W g (l.map Value.string) T) (hm : l.length ≤ maxLen) (hs : ∀ s ∈ l, s.size ≤ maxLen) {n : Nat} (hn : n = l.length) : IsSl W.heap.size W 1 IsStr l (.slice (some ⟨g, 0, none⟩) n n) :=
  sl_of_blk h (by simp) hm (fun i h1 h2 => ⟨by simp, hs _ (List.getElem_mem h1)⟩) hn
theorem nil_sl {α : Type} (B : Nat) (W : World) (k : Nat) (R : α → List Value → Prop) : IsSl B W k R [] (.slice none 0 0) := ⟨none, 0, rfl, Nat.le_refl _, Nat.zero_le _, .inl rfl⟩
theorem IsPg.cells4 {B d : Nat} {w : World} {p : PgD} {cs : List Value} (h : IsPg B w d p cs) : ∃ ia ic fa fc oa oc, cs = [.int .i64 p.st, .slice ia p.ins.length ic, .slice fa p.flows.length fc, .slice oa p.outs.length oc] := by
  obtain ⟨i, f, o, rfl, hi, hf, ho⟩ := h
  obtain ⟨ia, ic, rfl, _⟩ := hi.at_
  obtain ⟨fa, fc, rfl, _⟩ := hf.at_
  obtain ⟨oa, oc, rfl, _⟩ := ho.at_
  exact ⟨_, _, _, _, _, _, rfl⟩
theorem one_row {W : World} {g : Nat} {k : Nat} {T : TypeId} (h : Blk W g [.int .i64 (k : Int)] T) : IsNums W.heap.size W [k] [.slice (some ⟨g, 0, none⟩) 1 1] := ⟨_, rfl, ints_of_blk (l := [k]) h (by unfold maxLen; simp) rfl⟩
theorem rows1 {W : World} {g a k : Nat} {T T2 : TypeId} (h : Blk W g [.slice (some ⟨a, 0, none⟩) 1 1] T) (ha : Blk W a [.int .i64 (k : Int)] T2) : IsSl W.heap.size W 1 (IsNums W.heap.size W) [[k]] (.slice (some ⟨g, 0, none⟩) 1 1) :=
  sl_of_blk (xs := [[k]]) (R := IsNums W.heap.size W) h rfl (by unfold maxLen; simp) (fun i h1 h2 => match i, h1 with | 0, _ => one_row ha) rfl
theorem rows2 {W : World} {g a b k m : Nat} {T T2 : TypeId} (h : Blk W g [.slice (some ⟨a, 0, none⟩) 1 1, .slice (some ⟨b, 0, none⟩) 1 1] T) (ha : Blk W a [.int .i64 (k : Int)] T2) (hb : Blk W b [.int .i64 (m : Int)] T2) : IsSl W.heap.size W 1 (IsNums W.heap.size W) [[k], [m]] (.slice (some ⟨g, 0, none⟩) 2 2) :=
  sl_of_blk (xs := [[k], [m]]) (R := IsNums W.heap.size W) h rfl (by unfold maxLen; simp) (fun i h1 h2 => match i, h1 with | 0, _ => one_row ha | 1, _ => one_row hb) rfl
theorem rows3 {W : World} {g a b c k m n : Nat} {T T2 : TypeId} (h : Blk W g [.slice (some ⟨a, 0, none⟩) 1 1, .slice (some ⟨b, 0, none⟩) 1 1, .slice (some ⟨c, 0, none⟩) 1 1] T) (ha : Blk W a [.int .i64 (k : Int)] T2) (hb : Blk W b [.int .i64 (m : Int)] T2) (hc : Blk W c [.int .i64 (n : Int)] T2) :
    IsSl W.heap.size W 1 (IsNums W.heap.size W) [[k], [m], [n]] (.slice (some ⟨g, 0, none⟩) 3 3) :=
  sl_of_blk (xs := [[k], [m], [n]]) (R := IsNums W.heap.size W) h rfl (by unfold maxLen; simp) (fun i h1 h2 => match i, h1 with | 0, _ => one_row ha | 1, _ => one_row hb | 2, _ => one_row hc) rfl
theorem small2 : ∀ i, ∀ k ∈ ([[1], [0]] : List (List Nat)).getD i [], k ≤ 1000000 := of_small (now := [[1], [0]]) (ago := []) (fun i k hk => by have := ringNow_lt (k := 2) (by omega) i k hk; simp [ringNow] at this; omega)
theorem small3 : ∀ i, ∀ k ∈ ([[1], [2], [1]] : List (List Nat)).getD i [], k ≤ 1000000 := of_small (now := [[1], [2], [1]]) (ago := []) (fun i k hk => by have := (q_lt i k hk).2; simp at this; omega)
theorem small1 : ∀ i, ∀ k ∈ ([[0]] : List (List Nat)).getD i [], k ≤ 1000000 := of_small (now := [[0]]) (ago := []) (fun i k hk => by have := ringNow_lt (k := 1) (by omega) i k hk; simp [ringNow] at this; omega)
theorem small0 : ∀ i, ∀ k ∈ ([] : List (List Nat)).getD i [], k ≤ 1000000 := fun i k hk => by simp at hk
theorem smallE : ∀ i, ∀ k ∈ ([[]] : List (List Nat)).getD i [], k ≤ 1000000 := fun i k hk => by
  cases i <;> simp at hk
theorem box_cells {W X : World} {g : Nat} {a b c e : Value} {T : TypeId} (h : Blk W g [a, b, c, e] T) (hB : Below W.heap.size W X) : X.cell? ⟨g, 0, none⟩ = some a ∧ X.cell? ⟨g, 1, none⟩ = some b ∧ X.cell? ⟨g, 2, none⟩ = some c ∧ X.cell? ⟨g, 3, none⟩ = some e ∧ g < X.heap.size :=
  have k := h.below hB h.lt
  ⟨k.cell rfl, k.cell rfl, k.cell rfl, k.cell rfl, k.lt⟩
theorem pg_at {B d : Nat} {W X : World} {p : PgD} {cs : List Value} (h : IsPg B W d p cs) (hB : B ≤ W.heap.size) (hX : Below W.heap.size W X) : IsPg B X d p cs ∧ B ≤ X.heap.size := ⟨h.below (hX.mono hB), Nat.le_trans hB hX.size⟩
theorem wordD_le (n : Nat) : (wordD n).size ≤ maxLen := by show 3 ≤ maxLen; unfold maxLen; omega
theorem emptyRow {W : World} {g a : Nat} {T : TypeId} (h : Blk W g [.slice (some ⟨a, 0, none⟩) 0 0] T) : IsSl W.heap.size W 1 (IsNums W.heap.size W) [[]] (.slice (some ⟨g, 0, none⟩) 1 1) :=
  sl_of_blk (xs := [[]]) (R := IsNums W.heap.size W) h rfl (by unfold maxLen; simp) (fun i h1 h2 => match i, h1 with | 0, _ => ⟨_, rfl, some ⟨a, 0, none⟩, 0, rfl, Nat.le_refl _, Nat.zero_le _, .inl rfl⟩) rfl
theorem word_lit0 (w : World) : Calls Try.prog 16 #[.int .i64 0] w (RetQ (.string (wordD 0)) w) := word_any 0 w (by omega)
theorem word_lit1 (w : World) : Calls Try.prog 16 #[.int .i64 1] w (RetQ (.string (wordD 1)) w) := word_any 1 w (by omega)
theorem word_lit2 (w : World) : Calls Try.prog 16 #[.int .i64 2] w (RetQ (.string (wordD 2)) w) := word_any 2 w (by omega)
theorem sameTexts_ret (xs ys : List ByteArray) (u v : Value) (w : World) (hu : IsSl w.heap.size w 1 IsStr xs u) (hv : IsSl w.heap.size w 1 IsStr ys v) :
    Calls Try.prog 17 #[u, v] w (Ret (.bool (sameB xs ys)) w) :=
  (sameTexts_any xs ys u v w hu hv).mono fun e w' ⟨h1, k, h2⟩ => ⟨h1, by rw [h2]; exact below_drewN (Below.refl _ _) k⟩
theorem sameB_self (l : List ByteArray) : sameB l l = true := by simp [sameB]
theorem str_at {w X : World} {xs : List ByteArray} {v : Value} (h : IsSl w.heap.size w 1 IsStr xs v) (hX : Below w.heap.size w X) : IsSl X.heap.size X 1 IsStr xs v :=
  h.mono (fun _ _ _ h => h) hX.size (bcell hX).1
def AliveEnd (w : World) (e : Ending) (w' : World) : Prop := e = .returned (.bool true) ∧ Below w.heap.size w w'
set_option maxRecDepth 100000 in
set_option maxHeartbeats 4000000 in
theorem alive_any (w : World) : Calls Try.prog 8 #[] w (AliveEnd w) := by
  go_enter Try.func8, Try.ntmps8
  go_wp2_with fail
  refine (of_any [[1], [0]] [] _ _ _ (rows2 (a := w.heap.size) (b := w.heap.size + 1) (g := w.heap.size + 1 + 1) (T := 35) (T2 := 3) (by repeat (first | (refine Blk.new' _ _ _ ?_; simp; done) | refine Blk.alloc ?_ _)) (by repeat (first | (refine Blk.new' _ _ _ ?_; simp; done) | refine Blk.alloc ?_ _)) (by repeat (first | (refine Blk.new' _ _ _ ?_; simp; done) | refine Blk.alloc ?_ _))) (nil_sl _ _ _ _) (by simp) small2 small0).mono ?_
  rintro e w1 ⟨⟨cs1, d1, rfl, hp1⟩, hb1⟩
  obtain ⟨ia1, ic1, fa1, fc1, oa1, oc1, rfl⟩ := hp1.cells4
  go_wp2_with fail
  refine (of_any [[1], [2], [1]] [] _ _ _ (rows3 (a := w1.heap.size + 1) (b := w1.heap.size + 1 + 1) (c := w1.heap.size + 1 + 1 + 1) (g := w1.heap.size + 1 + 1 + 1 + 1) (T := 35) (T2 := 3) (by repeat (first | (refine Blk.new' _ _ _ ?_; simp; done) | refine Blk.alloc ?_ _)) (by repeat (first | (refine Blk.new' _ _ _ ?_; simp; done) | refine Blk.alloc ?_ _)) (by repeat (first | (refine Blk.new' _ _ _ ?_; simp; done) | refine Blk.alloc ?_ _)) (by repeat (first | (refine Blk.new' _ _ _ ?_; simp; done) | refine Blk.alloc ?_ _))) (nil_sl _ _ _ _) (by simp) small3 small0).mono ?_
  rintro e w2 ⟨⟨cs2, d2, rfl, hp2⟩, hb2⟩
  obtain ⟨ia2, ic2, fa2, fc2, oa2, oc2, rfl⟩ := hp2.cells4
  go_wp2_with fail
  refine (of_any [[]] [[0]] _ _ _ (emptyRow (a := w2.heap.size + 1) (g := w2.heap.size + 1 + 1) (T := 35) (by repeat (first | (refine Blk.new' _ _ _ ?_; simp; done) | refine Blk.alloc ?_ _))) (rows1 (a := w2.heap.size + 1 + 1 + 1) (g := w2.heap.size + 1 + 1 + 1 + 1) (T := 35) (T2 := 3) (by repeat (first | (refine Blk.new' _ _ _ ?_; simp; done) | refine Blk.alloc ?_ _)) (by repeat (first | (refine Blk.new' _ _ _ ?_; simp; done) | refine Blk.alloc ?_ _))) (by simp) smallE small1).mono ?_
  rintro e w3 ⟨⟨cs3, d3, rfl, hp3⟩, hb3⟩
  obtain ⟨ia3, ic3, fa3, fc3, oa3, oc3, rfl⟩ := hp3.cells4
  go_wp2_with fail
  refine (of_any [[0]] [] _ _ _ (rows1 (a := w3.heap.size + 1) (g := w3.heap.size + 1 + 1) (T := 35) (T2 := 3) (by repeat (first | (refine Blk.new' _ _ _ ?_; simp; done) | refine Blk.alloc ?_ _)) (by repeat (first | (refine Blk.new' _ _ _ ?_; simp; done) | refine Blk.alloc ?_ _))) (nil_sl _ _ _ _) (by simp) small1 small0).mono ?_
  rintro e w4 ⟨⟨cs4, d4, rfl, hp4⟩, hb4⟩
  obtain ⟨ia4, ic4, fa4, fc4, oa4, oc4, rfl⟩ := hp4.cells4
  have z1 : w1.heap.size < w2.heap.size := (by have := hb2.size; simp at this; omega)
  have z2 : w2.heap.size < w3.heap.size := (by have := hb3.size; simp at this; omega)
  have z3 : w3.heap.size < w4.heap.size := (by have := hb4.size; simp at this; omega)
  obtain ⟨W4, hW4⟩ : ∃ W4 : World, W4 = w4.alloc (.cells #[.int .i64 (ofD [[0]] []).st, .slice ia4 (ofD [[0]] []).ins.length ic4, .slice fa4 (ofD [[0]] []).flows.length fc4, .slice oa4 (ofD [[0]] []).outs.length oc4] 26) := ⟨_, rfl⟩
  have k1 : Below w1.heap.size w1 W4 := by
    rw [hW4]
    have e1 : Below w1.heap.size w1 w2 := Below.trans (by repeat (first | with_reducible exact Below.refl w1.heap.size w1 | with_reducible refine below_drewN ?_ _ | with_reducible refine Below.drew ?_ | with_reducible refine Below.alloc ?_ (by have hszz := Below.size (Below.refl w1.heap.size w1); first | omega | (simp; done) | (simp at hszz ⊢; omega)) _ | with_reducible refine Below.setCell ?_ (by have hszz := Below.size (Below.refl w1.heap.size w1); first | omega | (simp; done) | (simp at hszz ⊢; omega)) _)) (hb2.mono (by simp; omega))
    have e2 : Below w1.heap.size w1 w3 := Below.trans (by repeat (first | with_reducible exact e1 | with_reducible refine below_drewN ?_ _ | with_reducible refine Below.drew ?_ | with_reducible refine Below.alloc ?_ (by have hszz := Below.size (e1); first | omega | (simp; done) | (simp at hszz ⊢; omega)) _ | with_reducible refine Below.setCell ?_ (by have hszz := Below.size (e1); first | omega | (simp; done) | (simp at hszz ⊢; omega)) _)) (hb3.mono (by simp; omega))
    have e3 : Below w1.heap.size w1 w4 := Below.trans (by repeat (first | with_reducible exact e2 | with_reducible refine below_drewN ?_ _ | with_reducible refine Below.drew ?_ | with_reducible refine Below.alloc ?_ (by have hszz := Below.size (e2); first | omega | (simp; done) | (simp at hszz ⊢; omega)) _ | with_reducible refine Below.setCell ?_ (by have hszz := Below.size (e2); first | omega | (simp; done) | (simp at hszz ⊢; omega)) _)) (hb4.mono (by simp; omega))
    exact (by repeat (first | with_reducible exact e3 | with_reducible refine below_drewN ?_ _ | with_reducible refine Below.drew ?_ | with_reducible refine Below.alloc ?_ (by have hszz := Below.size (e3); first | omega | (simp; done) | (simp at hszz ⊢; omega)) _ | with_reducible refine Below.setCell ?_ (by have hszz := Below.size (e3); first | omega | (simp; done) | (simp at hszz ⊢; omega)) _))
  have k2 : Below w2.heap.size w2 W4 := by
    rw [hW4]
    have e2 : Below w2.heap.size w2 w3 := Below.trans (by repeat (first | with_reducible exact Below.refl w2.heap.size w2 | with_reducible refine below_drewN ?_ _ | with_reducible refine Below.drew ?_ | with_reducible refine Below.alloc ?_ (by have hszz := Below.size (Below.refl w2.heap.size w2); first | omega | (simp; done) | (simp at hszz ⊢; omega)) _ | with_reducible refine Below.setCell ?_ (by have hszz := Below.size (Below.refl w2.heap.size w2); first | omega | (simp; done) | (simp at hszz ⊢; omega)) _)) (hb3.mono (by simp; omega))
    have e3 : Below w2.heap.size w2 w4 := Below.trans (by repeat (first | with_reducible exact e2 | with_reducible refine below_drewN ?_ _ | with_reducible refine Below.drew ?_ | with_reducible refine Below.alloc ?_ (by have hszz := Below.size (e2); first | omega | (simp; done) | (simp at hszz ⊢; omega)) _ | with_reducible refine Below.setCell ?_ (by have hszz := Below.size (e2); first | omega | (simp; done) | (simp at hszz ⊢; omega)) _)) (hb4.mono (by simp; omega))
    exact (by repeat (first | with_reducible exact e3 | with_reducible refine below_drewN ?_ _ | with_reducible refine Below.drew ?_ | with_reducible refine Below.alloc ?_ (by have hszz := Below.size (e3); first | omega | (simp; done) | (simp at hszz ⊢; omega)) _ | with_reducible refine Below.setCell ?_ (by have hszz := Below.size (e3); first | omega | (simp; done) | (simp at hszz ⊢; omega)) _))
  have k3 : Below w3.heap.size w3 W4 := by
    rw [hW4]
    have e3 : Below w3.heap.size w3 w4 := Below.trans (by repeat (first | with_reducible exact Below.refl w3.heap.size w3 | with_reducible refine below_drewN ?_ _ | with_reducible refine Below.drew ?_ | with_reducible refine Below.alloc ?_ (by have hszz := Below.size (Below.refl w3.heap.size w3); first | omega | (simp; done) | (simp at hszz ⊢; omega)) _ | with_reducible refine Below.setCell ?_ (by have hszz := Below.size (Below.refl w3.heap.size w3); first | omega | (simp; done) | (simp at hszz ⊢; omega)) _)) (hb4.mono (by simp; omega))
    exact (by repeat (first | with_reducible exact e3 | with_reducible refine below_drewN ?_ _ | with_reducible refine Below.drew ?_ | with_reducible refine Below.alloc ?_ (by have hszz := Below.size (e3); first | omega | (simp; done) | (simp at hszz ⊢; omega)) _ | with_reducible refine Below.setCell ?_ (by have hszz := Below.size (e3); first | omega | (simp; done) | (simp at hszz ⊢; omega)) _))
  have k4 : Below w4.heap.size w4 W4 := by
    rw [hW4]
    exact (by repeat (first | with_reducible exact Below.refl w4.heap.size w4 | with_reducible refine below_drewN ?_ _ | with_reducible refine Below.drew ?_ | with_reducible refine Below.alloc ?_ (by have hszz := Below.size (Below.refl w4.heap.size w4); first | omega | (simp; done) | (simp at hszz ⊢; omega)) _ | with_reducible refine Below.setCell ?_ (by have hszz := Below.size (Below.refl w4.heap.size w4); first | omega | (simp; done) | (simp at hszz ⊢; omega)) _))
  have b1 : Blk W4 w1.heap.size [.int .i64 (ofD [[1], [0]] []).st, .slice ia1 (ofD [[1], [0]] []).ins.length ic1, .slice fa1 (ofD [[1], [0]] []).flows.length fc1, .slice oa1 (ofD [[1], [0]] []).outs.length oc1] 26 := by
    rw [hW4]
    have e1 : Blk w2 w1.heap.size [.int .i64 (ofD [[1], [0]] []).st, .slice ia1 (ofD [[1], [0]] []).ins.length ic1, .slice fa1 (ofD [[1], [0]] []).flows.length fc1, .slice oa1 (ofD [[1], [0]] []).outs.length oc1] 26 := Blk.below (by exact (by repeat (first | (refine Blk.new' _ _ _ ?_; simp; done) | refine Blk.alloc ?_ _))) hb2 (by simp; omega)
    have e2 : Blk w3 w1.heap.size [.int .i64 (ofD [[1], [0]] []).st, .slice ia1 (ofD [[1], [0]] []).ins.length ic1, .slice fa1 (ofD [[1], [0]] []).flows.length fc1, .slice oa1 (ofD [[1], [0]] []).outs.length oc1] 26 := Blk.below (by repeat (first | exact e1 | refine Blk.alloc ?_ _)) hb3 (by simp; omega)
    have e3 : Blk w4 w1.heap.size [.int .i64 (ofD [[1], [0]] []).st, .slice ia1 (ofD [[1], [0]] []).ins.length ic1, .slice fa1 (ofD [[1], [0]] []).flows.length fc1, .slice oa1 (ofD [[1], [0]] []).outs.length oc1] 26 := Blk.below (by repeat (first | exact e2 | refine Blk.alloc ?_ _)) hb4 (by simp; omega)
    exact e3.alloc _
  have b2 : Blk W4 w2.heap.size [.int .i64 (ofD [[1], [2], [1]] []).st, .slice ia2 (ofD [[1], [2], [1]] []).ins.length ic2, .slice fa2 (ofD [[1], [2], [1]] []).flows.length fc2, .slice oa2 (ofD [[1], [2], [1]] []).outs.length oc2] 26 := by
    rw [hW4]
    have e2 : Blk w3 w2.heap.size [.int .i64 (ofD [[1], [2], [1]] []).st, .slice ia2 (ofD [[1], [2], [1]] []).ins.length ic2, .slice fa2 (ofD [[1], [2], [1]] []).flows.length fc2, .slice oa2 (ofD [[1], [2], [1]] []).outs.length oc2] 26 := Blk.below (by exact (by repeat (first | (refine Blk.new' _ _ _ ?_; simp; done) | refine Blk.alloc ?_ _))) hb3 (by simp; omega)
    have e3 : Blk w4 w2.heap.size [.int .i64 (ofD [[1], [2], [1]] []).st, .slice ia2 (ofD [[1], [2], [1]] []).ins.length ic2, .slice fa2 (ofD [[1], [2], [1]] []).flows.length fc2, .slice oa2 (ofD [[1], [2], [1]] []).outs.length oc2] 26 := Blk.below (by repeat (first | exact e2 | refine Blk.alloc ?_ _)) hb4 (by simp; omega)
    exact e3.alloc _
  have b3 : Blk W4 w3.heap.size [.int .i64 (ofD [[]] [[0]]).st, .slice ia3 (ofD [[]] [[0]]).ins.length ic3, .slice fa3 (ofD [[]] [[0]]).flows.length fc3, .slice oa3 (ofD [[]] [[0]]).outs.length oc3] 26 := by
    rw [hW4]
    have e3 : Blk w4 w3.heap.size [.int .i64 (ofD [[]] [[0]]).st, .slice ia3 (ofD [[]] [[0]]).ins.length ic3, .slice fa3 (ofD [[]] [[0]]).flows.length fc3, .slice oa3 (ofD [[]] [[0]]).outs.length oc3] 26 := Blk.below (by exact (by repeat (first | (refine Blk.new' _ _ _ ?_; simp; done) | refine Blk.alloc ?_ _))) hb4 (by simp; omega)
    exact e3.alloc _
  have b4 : Blk W4 w4.heap.size [.int .i64 (ofD [[0]] []).st, .slice ia4 (ofD [[0]] []).ins.length ic4, .slice fa4 (ofD [[0]] []).flows.length fc4, .slice oa4 (ofD [[0]] []).outs.length oc4] 26 := by
    rw [hW4]
    exact Blk.new' _ _ _ rfl
  have bw : Below w.heap.size w W4 := by
    have e1 : Below w.heap.size w w1 := Below.trans (by repeat (first | with_reducible exact Below.refl w.heap.size w | with_reducible refine below_drewN ?_ _ | with_reducible refine Below.drew ?_ | with_reducible refine Below.alloc ?_ (by have hszz := Below.size (Below.refl w.heap.size w); first | omega | (simp; done) | (simp at hszz ⊢; omega)) _ | with_reducible refine Below.setCell ?_ (by have hszz := Below.size (Below.refl w.heap.size w); first | omega | (simp; done) | (simp at hszz ⊢; omega)) _)) (hb1.mono (by simp; omega))
    exact e1.trans (k1.mono e1.size)
  have HP1 := hid (hp1.below k1)
  have HP2 := hid (hp2.below k2)
  have HP3 := hid (hp3.below k3)
  have HP4 := hid (hp4.below k4)
  have l1 := b1.lt
  have l2 := b2.lt
  have l3 := b3.lt
  have l4 := b4.lt
  have m0 := bw.size
  have m1 := k1.size
  have m2 := k2.size
  have m3 := k3.size
  have m4 := k4.size
  have HB1 := hid b1
  have HB2 := hid b2
  have HB3 := hid b3
  have HB4 := hid b4
  have HBW := hid bw
  have h41 := b1.cell (i := 0) rfl
  have h42 := b1.cell (i := 1) rfl
  have h43 := b1.cell (i := 2) rfl
  have h44 := b1.cell (i := 3) rfl
  clear hp1 hp2 hp3 hp4 hb1 hb2 hb3 hb4 k1 k2 k3 k4 b1 b2 b3 b4 bw
  have hW5 := hW4.symm
  clear hW4
  have hB5 : Below W4.heap.size W4 W4 := Below.refl _ _
  obtain ⟨j51, j52, j53, j54, j55⟩ := box_cells HB1.out hB5
  go_wp2_with fail
  refine (circleCheck_any (ofD [[1], [0]] []) [.int .i64 (ofD [[1], [0]] []).st, .slice ia1 (ofD [[1], [0]] []).ins.length ic1, .slice fa1 (ofD [[1], [0]] []).flows.length fc1, .slice oa1 (ofD [[1], [0]] []).outs.length oc1] d1 w1.heap.size _ (by exact (pg_at HP1.out m1 (by repeat (first | with_reducible exact hB5 | with_reducible refine below_drewN ?_ _ | with_reducible refine Below.drew ?_ | with_reducible refine Below.alloc ?_ (by have hszz := Below.size (hB5); first | omega | (simp; done) | (simp at hszz ⊢; omega)) _ | with_reducible refine Below.setCell ?_ (by have hszz := Below.size (hB5); first | omega | (simp; done) | (simp at hszz ⊢; omega)) _))).1) (by exact (pg_at HP1.out m1 (by repeat (first | with_reducible exact hB5 | with_reducible refine below_drewN ?_ _ | with_reducible refine Below.drew ?_ | with_reducible refine Below.alloc ?_ (by have hszz := Below.size (hB5); first | omega | (simp; done) | (simp at hszz ⊢; omega)) _ | with_reducible refine Below.setCell ?_ (by have hszz := Below.size (hB5); first | omega | (simp; done) | (simp at hszz ⊢; omega)) _))).2)).mono ?_
  rintro e v6 ⟨rfl, hb6⟩
  rw [show (ofD [[1], [0]] []).loop = 8 from pP_loop]
  have hB6 : Below W4.heap.size W4 v6 := Below.trans (by repeat (first | with_reducible exact hB5 | with_reducible refine below_drewN ?_ _ | with_reducible refine Below.drew ?_ | with_reducible refine Below.alloc ?_ (by have hszz := Below.size (hB5); first | omega | (simp; done) | (simp at hszz ⊢; omega)) _ | with_reducible refine Below.setCell ?_ (by have hszz := Below.size (hB5); first | omega | (simp; done) | (simp at hszz ⊢; omega)) _)) (hb6.mono (by exact (Below.size (by repeat (first | with_reducible exact hB5 | with_reducible refine below_drewN ?_ _ | with_reducible refine Below.drew ?_ | with_reducible refine Below.alloc ?_ (by have hszz := Below.size (hB5); first | omega | (simp; done) | (simp at hszz ⊢; omega)) _ | with_reducible refine Below.setCell ?_ (by have hszz := Below.size (hB5); first | omega | (simp; done) | (simp at hszz ⊢; omega)) _)))))
  clear hb6
  obtain ⟨j61, j62, j63, j64, j65⟩ := box_cells HB1.out hB6
  go_wp2_with fail
  refine (circleFind_sl (ofD [[1], [0]] []) [.int .i64 (ofD [[1], [0]] []).st, .slice ia1 (ofD [[1], [0]] []).ins.length ic1, .slice fa1 (ofD [[1], [0]] []).flows.length fc1, .slice oa1 (ofD [[1], [0]] []).outs.length oc1] d1 w1.heap.size _ (by exact (pg_at HP1.out m1 (by repeat (first | with_reducible exact hB6 | with_reducible refine below_drewN ?_ _ | with_reducible refine Below.drew ?_ | with_reducible refine Below.alloc ?_ (by have hszz := Below.size (hB6); first | omega | (simp; done) | (simp at hszz ⊢; omega)) _ | with_reducible refine Below.setCell ?_ (by have hszz := Below.size (hB6); first | omega | (simp; done) | (simp at hszz ⊢; omega)) _))).1) (by exact (pg_at HP1.out m1 (by repeat (first | with_reducible exact hB6 | with_reducible refine below_drewN ?_ _ | with_reducible refine Below.drew ?_ | with_reducible refine Below.alloc ?_ (by have hszz := Below.size (hB6); first | omega | (simp; done) | (simp at hszz ⊢; omega)) _ | with_reducible refine Below.setCell ?_ (by have hszz := Below.size (hB6); first | omega | (simp; done) | (simp at hszz ⊢; omega)) _))).2) (clash_small pP_clash).1 (clash_small pP_clash).2).mono ?_
  rintro e v7 ⟨⟨u7, rfl, hu7⟩, hb7⟩
  rw [show (ofD [[1], [0]] []).circle = [wordD 0, wordD 1] from pP_circle] at hu7
  obtain ⟨ua7, uc7, rfl, _⟩ := hu7.at_
  have HU7 := hid hu7
  clear hu7
  have hB7 : Below W4.heap.size W4 v7 := Below.trans (by repeat (first | with_reducible exact hB6 | with_reducible refine below_drewN ?_ _ | with_reducible refine Below.drew ?_ | with_reducible refine Below.alloc ?_ (by have hszz := Below.size (hB6); first | omega | (simp; done) | (simp at hszz ⊢; omega)) _ | with_reducible refine Below.setCell ?_ (by have hszz := Below.size (hB6); first | omega | (simp; done) | (simp at hszz ⊢; omega)) _)) (hb7.mono (by exact (Below.size (by repeat (first | with_reducible exact hB6 | with_reducible refine below_drewN ?_ _ | with_reducible refine Below.drew ?_ | with_reducible refine Below.alloc ?_ (by have hszz := Below.size (hB6); first | omega | (simp; done) | (simp at hszz ⊢; omega)) _ | with_reducible refine Below.setCell ?_ (by have hszz := Below.size (hB6); first | omega | (simp; done) | (simp at hszz ⊢; omega)) _)))))
  clear hb7
  go_wp2_with fail
  refine (word_lit0 _).mono ?_
  rintro e v ⟨rfl, q, rfl⟩
  go_wp2_with fail
  refine (word_lit1 _).mono ?_
  rintro e v ⟨rfl, q, rfl⟩
  go_wp2_with fail
  refine (sameTexts_ret [wordD 0, wordD 1] [wordD 0, wordD 1] _ _ _ (by exact str_at HU7.out (by repeat (first | with_reducible exact Below.refl v7.heap.size v7 | with_reducible refine below_drewN ?_ _ | with_reducible refine Below.drew ?_ | with_reducible refine Below.alloc ?_ (by have hszz := Below.size (Below.refl v7.heap.size v7); first | omega | (simp; done) | (simp at hszz ⊢; omega)) _ | with_reducible refine Below.setCell ?_ (by have hszz := Below.size (Below.refl v7.heap.size v7); first | omega | (simp; done) | (simp at hszz ⊢; omega)) _))) (by exact strs_of_blk (l := [wordD 0, wordD 1]) (T := 9) (by exact (by repeat (first | (refine Blk.new' _ _ _ ?_; simp; done) | refine Blk.alloc ?_ _))) (by unfold maxLen; simp) (fun s _ => by simp at *; first | (rename_i h; rcases h with rfl | rfl <;> exact wordD_le _) | (rename_i h; subst h; exact wordD_le _)) rfl)).mono ?_
  rintro e v8 ⟨rfl, hb8⟩
  rw [sameB_self]
  have hB8 : Below W4.heap.size W4 v8 := Below.trans (by repeat (first | with_reducible exact hB7 | with_reducible refine below_drewN ?_ _ | with_reducible refine Below.drew ?_ | with_reducible refine Below.alloc ?_ (by have hszz := Below.size (hB7); first | omega | (simp; done) | (simp at hszz ⊢; omega)) _ | with_reducible refine Below.setCell ?_ (by have hszz := Below.size (hB7); first | omega | (simp; done) | (simp at hszz ⊢; omega)) _)) (hb8.mono (by exact (Below.size (by repeat (first | with_reducible exact hB7 | with_reducible refine below_drewN ?_ _ | with_reducible refine Below.drew ?_ | with_reducible refine Below.alloc ?_ (by have hszz := Below.size (hB7); first | omega | (simp; done) | (simp at hszz ⊢; omega)) _ | with_reducible refine Below.setCell ?_ (by have hszz := Below.size (hB7); first | omega | (simp; done) | (simp at hszz ⊢; omega)) _)))))
  clear hb8
  obtain ⟨j81, j82, j83, j84, j85⟩ := box_cells HB2.out hB8
  go_wp2_with fail
  refine (circleFind_sl (ofD [[1], [2], [1]] []) [.int .i64 (ofD [[1], [2], [1]] []).st, .slice ia2 (ofD [[1], [2], [1]] []).ins.length ic2, .slice fa2 (ofD [[1], [2], [1]] []).flows.length fc2, .slice oa2 (ofD [[1], [2], [1]] []).outs.length oc2] d2 w2.heap.size _ (by exact (pg_at HP2.out m2 (by repeat (first | with_reducible exact hB8 | with_reducible refine below_drewN ?_ _ | with_reducible refine Below.drew ?_ | with_reducible refine Below.alloc ?_ (by have hszz := Below.size (hB8); first | omega | (simp; done) | (simp at hszz ⊢; omega)) _ | with_reducible refine Below.setCell ?_ (by have hszz := Below.size (hB8); first | omega | (simp; done) | (simp at hszz ⊢; omega)) _))).1) (by exact (pg_at HP2.out m2 (by repeat (first | with_reducible exact hB8 | with_reducible refine below_drewN ?_ _ | with_reducible refine Below.drew ?_ | with_reducible refine Below.alloc ?_ (by have hszz := Below.size (hB8); first | omega | (simp; done) | (simp at hszz ⊢; omega)) _ | with_reducible refine Below.setCell ?_ (by have hszz := Below.size (hB8); first | omega | (simp; done) | (simp at hszz ⊢; omega)) _))).2) (clash_small pQ_clash).1 (clash_small pQ_clash).2).mono ?_
  rintro e v9 ⟨⟨u9, rfl, hu9⟩, hb9⟩
  rw [show (ofD [[1], [2], [1]] []).circle = [wordD 1, wordD 2] from pQ_circle] at hu9
  obtain ⟨ua9, uc9, rfl, _⟩ := hu9.at_
  have HU9 := hid hu9
  clear hu9
  have hB9 : Below W4.heap.size W4 v9 := Below.trans (by repeat (first | with_reducible exact hB8 | with_reducible refine below_drewN ?_ _ | with_reducible refine Below.drew ?_ | with_reducible refine Below.alloc ?_ (by have hszz := Below.size (hB8); first | omega | (simp; done) | (simp at hszz ⊢; omega)) _ | with_reducible refine Below.setCell ?_ (by have hszz := Below.size (hB8); first | omega | (simp; done) | (simp at hszz ⊢; omega)) _)) (hb9.mono (by exact (Below.size (by repeat (first | with_reducible exact hB8 | with_reducible refine below_drewN ?_ _ | with_reducible refine Below.drew ?_ | with_reducible refine Below.alloc ?_ (by have hszz := Below.size (hB8); first | omega | (simp; done) | (simp at hszz ⊢; omega)) _ | with_reducible refine Below.setCell ?_ (by have hszz := Below.size (hB8); first | omega | (simp; done) | (simp at hszz ⊢; omega)) _)))))
  clear hb9
  go_wp2_with fail
  refine (word_lit1 _).mono ?_
  rintro e v ⟨rfl, q, rfl⟩
  go_wp2_with fail
  refine (word_lit2 _).mono ?_
  rintro e v ⟨rfl, q, rfl⟩
  go_wp2_with fail
  refine (sameTexts_ret [wordD 1, wordD 2] [wordD 1, wordD 2] _ _ _ (by exact str_at HU9.out (by repeat (first | with_reducible exact Below.refl v9.heap.size v9 | with_reducible refine below_drewN ?_ _ | with_reducible refine Below.drew ?_ | with_reducible refine Below.alloc ?_ (by have hszz := Below.size (Below.refl v9.heap.size v9); first | omega | (simp; done) | (simp at hszz ⊢; omega)) _ | with_reducible refine Below.setCell ?_ (by have hszz := Below.size (Below.refl v9.heap.size v9); first | omega | (simp; done) | (simp at hszz ⊢; omega)) _))) (by exact strs_of_blk (l := [wordD 1, wordD 2]) (T := 9) (by exact (by repeat (first | (refine Blk.new' _ _ _ ?_; simp; done) | refine Blk.alloc ?_ _))) (by unfold maxLen; simp) (fun s _ => by simp at *; first | (rename_i h; rcases h with rfl | rfl <;> exact wordD_le _) | (rename_i h; subst h; exact wordD_le _)) rfl)).mono ?_
  rintro e v10 ⟨rfl, hb10⟩
  rw [sameB_self]
  have hB10 : Below W4.heap.size W4 v10 := Below.trans (by repeat (first | with_reducible exact hB9 | with_reducible refine below_drewN ?_ _ | with_reducible refine Below.drew ?_ | with_reducible refine Below.alloc ?_ (by have hszz := Below.size (hB9); first | omega | (simp; done) | (simp at hszz ⊢; omega)) _ | with_reducible refine Below.setCell ?_ (by have hszz := Below.size (hB9); first | omega | (simp; done) | (simp at hszz ⊢; omega)) _)) (hb10.mono (by exact (Below.size (by repeat (first | with_reducible exact hB9 | with_reducible refine below_drewN ?_ _ | with_reducible refine Below.drew ?_ | with_reducible refine Below.alloc ?_ (by have hszz := Below.size (hB9); first | omega | (simp; done) | (simp at hszz ⊢; omega)) _ | with_reducible refine Below.setCell ?_ (by have hszz := Below.size (hB9); first | omega | (simp; done) | (simp at hszz ⊢; omega)) _)))))
  clear hb10
  obtain ⟨j101, j102, j103, j104, j105⟩ := box_cells HB3.out hB10
  go_wp2_with fail
  refine (circleCheck_any (ofD [[]] [[0]]) [.int .i64 (ofD [[]] [[0]]).st, .slice ia3 (ofD [[]] [[0]]).ins.length ic3, .slice fa3 (ofD [[]] [[0]]).flows.length fc3, .slice oa3 (ofD [[]] [[0]]).outs.length oc3] d3 w3.heap.size _ (by exact (pg_at HP3.out m3 (by repeat (first | with_reducible exact hB10 | with_reducible refine below_drewN ?_ _ | with_reducible refine Below.drew ?_ | with_reducible refine Below.alloc ?_ (by have hszz := Below.size (hB10); first | omega | (simp; done) | (simp at hszz ⊢; omega)) _ | with_reducible refine Below.setCell ?_ (by have hszz := Below.size (hB10); first | omega | (simp; done) | (simp at hszz ⊢; omega)) _))).1) (by exact (pg_at HP3.out m3 (by repeat (first | with_reducible exact hB10 | with_reducible refine below_drewN ?_ _ | with_reducible refine Below.drew ?_ | with_reducible refine Below.alloc ?_ (by have hszz := Below.size (hB10); first | omega | (simp; done) | (simp at hszz ⊢; omega)) _ | with_reducible refine Below.setCell ?_ (by have hszz := Below.size (hB10); first | omega | (simp; done) | (simp at hszz ⊢; omega)) _))).2)).mono ?_
  rintro e v11 ⟨rfl, hb11⟩
  rw [show (ofD [[]] [[0]]).loop = 0 from pR_loop]
  have hB11 : Below W4.heap.size W4 v11 := Below.trans (by repeat (first | with_reducible exact hB10 | with_reducible refine below_drewN ?_ _ | with_reducible refine Below.drew ?_ | with_reducible refine Below.alloc ?_ (by have hszz := Below.size (hB10); first | omega | (simp; done) | (simp at hszz ⊢; omega)) _ | with_reducible refine Below.setCell ?_ (by have hszz := Below.size (hB10); first | omega | (simp; done) | (simp at hszz ⊢; omega)) _)) (hb11.mono (by exact (Below.size (by repeat (first | with_reducible exact hB10 | with_reducible refine below_drewN ?_ _ | with_reducible refine Below.drew ?_ | with_reducible refine Below.alloc ?_ (by have hszz := Below.size (hB10); first | omega | (simp; done) | (simp at hszz ⊢; omega)) _ | with_reducible refine Below.setCell ?_ (by have hszz := Below.size (hB10); first | omega | (simp; done) | (simp at hszz ⊢; omega)) _)))))
  clear hb11
  obtain ⟨j111, j112, j113, j114, j115⟩ := box_cells HB3.out hB11
  go_wp2_with fail
  refine (circleFind_sl (ofD [[]] [[0]]) [.int .i64 (ofD [[]] [[0]]).st, .slice ia3 (ofD [[]] [[0]]).ins.length ic3, .slice fa3 (ofD [[]] [[0]]).flows.length fc3, .slice oa3 (ofD [[]] [[0]]).outs.length oc3] d3 w3.heap.size _ (by exact (pg_at HP3.out m3 (by repeat (first | with_reducible exact hB11 | with_reducible refine below_drewN ?_ _ | with_reducible refine Below.drew ?_ | with_reducible refine Below.alloc ?_ (by have hszz := Below.size (hB11); first | omega | (simp; done) | (simp at hszz ⊢; omega)) _ | with_reducible refine Below.setCell ?_ (by have hszz := Below.size (hB11); first | omega | (simp; done) | (simp at hszz ⊢; omega)) _))).1) (by exact (pg_at HP3.out m3 (by repeat (first | with_reducible exact hB11 | with_reducible refine below_drewN ?_ _ | with_reducible refine Below.drew ?_ | with_reducible refine Below.alloc ?_ (by have hszz := Below.size (hB11); first | omega | (simp; done) | (simp at hszz ⊢; omega)) _ | with_reducible refine Below.setCell ?_ (by have hszz := Below.size (hB11); first | omega | (simp; done) | (simp at hszz ⊢; omega)) _))).2) (clash_small pR_clash).1 (clash_small pR_clash).2).mono ?_
  rintro e v12 ⟨⟨u12, rfl, hu12⟩, hb12⟩
  rw [show (ofD [[]] [[0]]).circle = [] from pR_circle] at hu12
  obtain ⟨ua12, uc12, rfl, _⟩ := hu12.at_
  have HU12 := hid hu12
  clear hu12
  have hB12 : Below W4.heap.size W4 v12 := Below.trans (by repeat (first | with_reducible exact hB11 | with_reducible refine below_drewN ?_ _ | with_reducible refine Below.drew ?_ | with_reducible refine Below.alloc ?_ (by have hszz := Below.size (hB11); first | omega | (simp; done) | (simp at hszz ⊢; omega)) _ | with_reducible refine Below.setCell ?_ (by have hszz := Below.size (hB11); first | omega | (simp; done) | (simp at hszz ⊢; omega)) _)) (hb12.mono (by exact (Below.size (by repeat (first | with_reducible exact hB11 | with_reducible refine below_drewN ?_ _ | with_reducible refine Below.drew ?_ | with_reducible refine Below.alloc ?_ (by have hszz := Below.size (hB11); first | omega | (simp; done) | (simp at hszz ⊢; omega)) _ | with_reducible refine Below.setCell ?_ (by have hszz := Below.size (hB11); first | omega | (simp; done) | (simp at hszz ⊢; omega)) _)))))
  clear hb12
  obtain ⟨j121, j122, j123, j124, j125⟩ := box_cells HB4.out hB12
  go_wp2_with fail
  refine (circleCheck_any (ofD [[0]] []) [.int .i64 (ofD [[0]] []).st, .slice ia4 (ofD [[0]] []).ins.length ic4, .slice fa4 (ofD [[0]] []).flows.length fc4, .slice oa4 (ofD [[0]] []).outs.length oc4] d4 w4.heap.size _ (by exact (pg_at HP4.out m4 (by repeat (first | with_reducible exact hB12 | with_reducible refine below_drewN ?_ _ | with_reducible refine Below.drew ?_ | with_reducible refine Below.alloc ?_ (by have hszz := Below.size (hB12); first | omega | (simp; done) | (simp at hszz ⊢; omega)) _ | with_reducible refine Below.setCell ?_ (by have hszz := Below.size (hB12); first | omega | (simp; done) | (simp at hszz ⊢; omega)) _))).1) (by exact (pg_at HP4.out m4 (by repeat (first | with_reducible exact hB12 | with_reducible refine below_drewN ?_ _ | with_reducible refine Below.drew ?_ | with_reducible refine Below.alloc ?_ (by have hszz := Below.size (hB12); first | omega | (simp; done) | (simp at hszz ⊢; omega)) _ | with_reducible refine Below.setCell ?_ (by have hszz := Below.size (hB12); first | omega | (simp; done) | (simp at hszz ⊢; omega)) _))).2)).mono ?_
  rintro e v13 ⟨rfl, hb13⟩
  rw [show (ofD [[0]] []).loop = 8 from pS_loop]
  have hB13 : Below W4.heap.size W4 v13 := Below.trans (by repeat (first | with_reducible exact hB12 | with_reducible refine below_drewN ?_ _ | with_reducible refine Below.drew ?_ | with_reducible refine Below.alloc ?_ (by have hszz := Below.size (hB12); first | omega | (simp; done) | (simp at hszz ⊢; omega)) _ | with_reducible refine Below.setCell ?_ (by have hszz := Below.size (hB12); first | omega | (simp; done) | (simp at hszz ⊢; omega)) _)) (hb13.mono (by exact (Below.size (by repeat (first | with_reducible exact hB12 | with_reducible refine below_drewN ?_ _ | with_reducible refine Below.drew ?_ | with_reducible refine Below.alloc ?_ (by have hszz := Below.size (hB12); first | omega | (simp; done) | (simp at hszz ⊢; omega)) _ | with_reducible refine Below.setCell ?_ (by have hszz := Below.size (hB12); first | omega | (simp; done) | (simp at hszz ⊢; omega)) _)))))
  clear hb13
  obtain ⟨j131, j132, j133, j134, j135⟩ := box_cells HB4.out hB13
  go_wp2_with fail
  refine (circleFind_sl (ofD [[0]] []) [.int .i64 (ofD [[0]] []).st, .slice ia4 (ofD [[0]] []).ins.length ic4, .slice fa4 (ofD [[0]] []).flows.length fc4, .slice oa4 (ofD [[0]] []).outs.length oc4] d4 w4.heap.size _ (by exact (pg_at HP4.out m4 (by repeat (first | with_reducible exact hB13 | with_reducible refine below_drewN ?_ _ | with_reducible refine Below.drew ?_ | with_reducible refine Below.alloc ?_ (by have hszz := Below.size (hB13); first | omega | (simp; done) | (simp at hszz ⊢; omega)) _ | with_reducible refine Below.setCell ?_ (by have hszz := Below.size (hB13); first | omega | (simp; done) | (simp at hszz ⊢; omega)) _))).1) (by exact (pg_at HP4.out m4 (by repeat (first | with_reducible exact hB13 | with_reducible refine below_drewN ?_ _ | with_reducible refine Below.drew ?_ | with_reducible refine Below.alloc ?_ (by have hszz := Below.size (hB13); first | omega | (simp; done) | (simp at hszz ⊢; omega)) _ | with_reducible refine Below.setCell ?_ (by have hszz := Below.size (hB13); first | omega | (simp; done) | (simp at hszz ⊢; omega)) _))).2) (clash_small pS_clash).1 (clash_small pS_clash).2).mono ?_
  rintro e v14 ⟨⟨u14, rfl, hu14⟩, hb14⟩
  rw [show (ofD [[0]] []).circle = [wordD 0] from pS_circle] at hu14
  obtain ⟨ua14, uc14, rfl, _⟩ := hu14.at_
  have HU14 := hid hu14
  clear hu14
  have hB14 : Below W4.heap.size W4 v14 := Below.trans (by repeat (first | with_reducible exact hB13 | with_reducible refine below_drewN ?_ _ | with_reducible refine Below.drew ?_ | with_reducible refine Below.alloc ?_ (by have hszz := Below.size (hB13); first | omega | (simp; done) | (simp at hszz ⊢; omega)) _ | with_reducible refine Below.setCell ?_ (by have hszz := Below.size (hB13); first | omega | (simp; done) | (simp at hszz ⊢; omega)) _)) (hb14.mono (by exact (Below.size (by repeat (first | with_reducible exact hB13 | with_reducible refine below_drewN ?_ _ | with_reducible refine Below.drew ?_ | with_reducible refine Below.alloc ?_ (by have hszz := Below.size (hB13); first | omega | (simp; done) | (simp at hszz ⊢; omega)) _ | with_reducible refine Below.setCell ?_ (by have hszz := Below.size (hB13); first | omega | (simp; done) | (simp at hszz ⊢; omega)) _)))))
  clear hb14
  go_wp2_with fail
  refine (word_lit0 _).mono ?_
  rintro e v ⟨rfl, q, rfl⟩
  go_wp2_with fail
  refine (sameTexts_ret [wordD 0] [wordD 0] _ _ _ (by exact str_at HU14.out (by repeat (first | with_reducible exact Below.refl v14.heap.size v14 | with_reducible refine below_drewN ?_ _ | with_reducible refine Below.drew ?_ | with_reducible refine Below.alloc ?_ (by have hszz := Below.size (Below.refl v14.heap.size v14); first | omega | (simp; done) | (simp at hszz ⊢; omega)) _ | with_reducible refine Below.setCell ?_ (by have hszz := Below.size (Below.refl v14.heap.size v14); first | omega | (simp; done) | (simp at hszz ⊢; omega)) _))) (by exact strs_of_blk (l := [wordD 0]) (T := 9) (by exact (by repeat (first | (refine Blk.new' _ _ _ ?_; simp; done) | refine Blk.alloc ?_ _))) (by unfold maxLen; simp) (fun s _ => by simp at *; first | (rename_i h; rcases h with rfl | rfl <;> exact wordD_le _) | (rename_i h; subst h; exact wordD_le _)) rfl)).mono ?_
  rintro e v15 ⟨rfl, hb15⟩
  rw [sameB_self]
  have hB15 : Below W4.heap.size W4 v15 := Below.trans (by repeat (first | with_reducible exact hB14 | with_reducible refine below_drewN ?_ _ | with_reducible refine Below.drew ?_ | with_reducible refine Below.alloc ?_ (by have hszz := Below.size (hB14); first | omega | (simp; done) | (simp at hszz ⊢; omega)) _ | with_reducible refine Below.setCell ?_ (by have hszz := Below.size (hB14); first | omega | (simp; done) | (simp at hszz ⊢; omega)) _)) (hb15.mono (by exact (Below.size (by repeat (first | with_reducible exact hB14 | with_reducible refine below_drewN ?_ _ | with_reducible refine Below.drew ?_ | with_reducible refine Below.alloc ?_ (by have hszz := Below.size (hB14); first | omega | (simp; done) | (simp at hszz ⊢; omega)) _ | with_reducible refine Below.setCell ?_ (by have hszz := Below.size (hB14); first | omega | (simp; done) | (simp at hszz ⊢; omega)) _)))))
  clear hb15
  go_wp2_with fail
  go_ret
  exact ⟨rfl, HBW.out.trans (hB15.mono m0)⟩
end Go.Proofs.Ytmepdfipigdjhaa
