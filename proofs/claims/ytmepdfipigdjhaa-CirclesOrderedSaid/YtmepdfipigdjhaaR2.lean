/- What anything asks for: exprs.Refs. -/
import Derived.Test.YtmepdfipigdjhaaR1
namespace Go.Proofs.Ytmepdfipigdjhaa
open Go.RowKit
set_option linter.unusedSimpArgs false
set_option linter.unusedVariables false
/-- How exprs.Refs ends. -/
def RefsEnd (x : Ex) (w : World) (e : Ending) (w' : World) : Prop := (∃ v, e = .returned v ∧ IsSl w'.heap.size w' 2 (fun r cs => cs = refCells r) x.refs v) ∧ Below w.heap.size w w'
theorem own_isSl {α : Type} {w : World} {base : Nat} {e : TypeId} {k : Nat} {v : Value} {xs : List α} {f : α → List Value} (hk : ∀ x, (f x).length = k) (h : w.ownsRow base e k v xs.length (xs.flatMap f)) :
    IsSl w.heap.size w k (fun r cs => cs = f r) xs v := by
  have hlt := h.lt
  obtain ⟨h1, h2⟩ := h
  rcases h2 with ⟨rfl, h0⟩ | ⟨g, cap, cur, rfl, hb, hh, hc, hm, hsz, ht⟩
  · have : xs = [] := List.length_eq_zero_iff.1 h0
    subst this
    exact ⟨none, 0, rfl, Nat.le_refl _, Nat.zero_le _, .inl rfl⟩
  · refine ⟨_, cap, rfl, hc, hm, .inr ⟨g, 0, rfl, (hlt g rfl).2, fun i hi => ⟨f xs[i], rfl, hk _, fun j hj => ?_⟩⟩⟩
    have hj' : j < k := by rw [hk] at hj; exact hj
    have hb2 : i * k + j < xs.length * k := by
      have : (i + 1) * k ≤ xs.length * k := Nat.mul_le_mul_right k hi
      rw [Nat.succ_mul] at this; omega
    have hg := flat_get f k xs (fun x _ => hk x) i hi j hj
    rw [← ht, List.getElem?_take_of_lt hb2] at hg
    rw [Nat.zero_add, World.cell?, hh]
    simpa using hg
set_option maxRecDepth 100000 in
set_option maxHeartbeats 1000000 in
theorem refs_any (d B : Nat) (x : Ex) (cs : List Value) (w : World) (hx : IsEx B w d x cs) (hB : B ≤ w.heap.size) (hc : x.count ≤ 4398046511104) :
    Calls Try.prog 28 #[.agg cs.toArray] w (RefsEnd x w) := by
  cases d with
  | zero => exact hx.elim
  | succ d =>
    obtain ⟨op, n, s, args⟩ := x
    have HX := hid hx
    obtain ⟨u, rfl, hs, hsl⟩ := hx
    obtain ⟨a, cap, rfl, hsl⟩ := hsl
    clear hsl
    have hmm := @run_makeMap Try.prog
    go_enter Try.func28, Try.ntmps28
    go_wp2_with fail
    simp only [Nat.add_assoc, Nat.reduceAdd]
    refine (go1_any w.heap.size (d + 1) op n s args (.slice a args.length cap) B 0 [] _ ?_ hB ?_ (by simpa using hc)).mono ?_
    · exact IsEx.below (Below.mono (B := w.heap.size) (by repeat (first | with_reducible exact Below.refl w.heap.size w | with_reducible refine below_drewN ?_ _ | with_reducible refine Below.drew ?_ | with_reducible refine Below.alloc ?_ (by have hszz := Below.size (Below.refl w.heap.size w); first | omega | (simp; done) | (simp at hszz ⊢; omega)) _ | with_reducible refine Below.setCell ?_ (by have hszz := Below.size (Below.refl w.heap.size w); first | omega | (simp; done) | (simp at hszz ⊢; omega)) _)) hB) HX.out
    · refine ⟨(One.new' _ _ _ (by simp)).alloc _, One.new' _ _ _ (by simp), ((MapAt.made' _ _ (by simp)).alloc _).alloc _, _, (((One.new' _ _ _ (by simp)).alloc _).alloc _).alloc _, World.ownsRow_nil _ _ _ _⟩
    rintro e w3 ⟨rfl, hs3, hb3⟩
    obtain ⟨lv, ol, hown⟩ := hs3.tl
    have hl3 := hs3.lt
    have hr := own_isSl (f := refCells) (fun _ => rfl) hown
    obtain ⟨la, ln, lc, rfl⟩ := own_val hown
    have cl := ol.cell
    have fl := ol.free
    have hl4 : w.heap.size + 1 < w3.heap.size := by omega
    clear hs3 hown
    have HR := hid hr
    clear hr
    go_wp2_with fail
    refine bodyPost_ret (v := .slice la ln lc) (by simp [results, Try.results28, go_sem, cl]; done) rfl ⟨⟨_, rfl, ?_⟩, ?_⟩
    · have hsame : ∀ b o, b < w3.heap.size → (w3.setCell ⟨w.heap.size + 1, 0, none⟩ (.slice la ln lc)).cell? ⟨b, o, none⟩ = w3.cell? ⟨b, o, none⟩ := by
        intro b o hb
        by_cases e : b = w.heap.size + 1
        · subst e
          cases o with
          | zero => rw [cl]; exact (ol.set _).cell
          | succ o => rw [World.cell?, World.cell?, ol.set _, ol]
        · exact World.cell?_of_block (w := w3) (Below.heap_setCell _ _ _ _ e)
      exact HR.out.mono (fun _ _ _ h => h) (by simp [World.setCell]) hsame
    · have h1 : Below w.heap.size w w3 := Below.trans (by repeat (first | with_reducible exact Below.refl w.heap.size w | with_reducible refine below_drewN ?_ _ | with_reducible refine Below.drew ?_ | with_reducible refine Below.alloc ?_ (by have hszz := Below.size (Below.refl w.heap.size w); first | omega | (simp; done) | (simp at hszz ⊢; omega)) _ | with_reducible refine Below.setCell ?_ (by have hszz := Below.size (Below.refl w.heap.size w); first | omega | (simp; done) | (simp at hszz ⊢; omega)) _)) hb3
      exact h1.setCell (by show w.heap.size ≤ w.heap.size + 1; omega) _
end Go.Proofs.Ytmepdfipigdjhaa
