/- CirclesOrdered: for every two rows of rows of bytes the law answers yes: flows each of which needs at once such alone as were declared ahead of it do not hang on themselves, whatever they ask for longer ago; if the first one needs one more at once that comes to it, they do. No condition. -/
import Derived.Test.YtmepdfipigdjhaaRows
import Derived.Test.YtmepdfipigdjhaaAD
import Derived.Test.YtmepdfipigdjhaaO1
import Derived.ProofKit
import Derived.OpenShut
import Derived.ChangeOld
namespace Go.Proofs.Ytmepdfipigdjhaa
open Go.RowKit
set_option linter.unusedSimpArgs false
set_option linter.unusedVariables false
open Go.ChangeShapes Go.WideShapes Go.ChangeAt
namespace LawOrdered
theorem own : ownKnob Try.prog.godebug = none := by kernel_rfl
theorem laidOut : laidOutB Try.prog = true := by kernel_rfl
theorem cellsU8 : Try.prog.cellsOf 5 = 1 := by kernel_rfl
theorem cellsSlU8 : Try.prog.cellsOf 36 = 1 := by kernel_rfl
theorem byte_of {n : Int} (h : (Lit.int .u8 n).wf = true) : ∃ m : Nat, n = m ∧ m < 256 := by
  simp only [Lit.wf, Bool.and_eq_true, decide_eq_true_eq] at h
  have h1 : (IntKind.u8).min = 0 := by decide
  have h2 : (IntKind.u8).max = 255 := by decide
  rw [h1, h2] at h
  exact ⟨n.toNat, by omega, by omega⟩
set_option maxRecDepth 100000 in
theorem open_rows {H : Type} {enc : TypeId × Value → H} {w : World} {spare : Nat → Bool} {held : Bool} {r : _root_.Go.Reach} {b0 : Nat} {v : Value} {d : DataW H} {p : List MemPlace} (hval : Value.okWide Try.prog w r b0 33 v) (h : DataW.Trod enc Try.prog w 0 spare held 33 v d p) :
    ∃ rows : List (List Nat), IsSl w.heap.size w 1 (IsB8 w.heap.size w) rows v := by
  obtain ⟨a, len, cap, rfl⟩ := okWide_slice Try.underlying33 hval
  obtain ⟨fuel, hf⟩ := h
  obtain ⟨rows, v', e, hs⟩ := open_sl (IsB8 w.heap.size w) Try.underlying33 cellsSlU8 (by omega) hf (fun k hk cs' y' hy => by
    obtain ⟨l, v2, e2, hs2⟩ := open_sl IsByte Try.underlying36 cellsU8 (by omega) hy (fun k2 hk2 cs2 y2 hy2 => by
      obtain ⟨n, e3, _, wf⟩ := DataW.trod_int Try.underlying5 hy2
      obtain ⟨m, rfl, hm⟩ := byte_of wf
      exact ⟨m, e3, hm⟩)
    exact ⟨l, v2, e2, hs2⟩)
  simp only [Value.cells, List.cons.injEq, and_true] at e
  subst e
  exact ⟨rows, hs⟩
set_option maxRecDepth 100000 in
theorem lifted (os : Os) (started : os.Started) (H : Type) (enc : TypeId × Value → H) :
    ReturnsInHanded {} Try.checked os 4 .any (Rows.circlesOrderedSpec.pre6 enc Try.prog Try.f4 Rows.circlesOrderedRow.domain false) (Rows.circlesOrderedSpec.post enc Try.prog Try.f4 false true false false) := by
  refine returnsInHanded_of_change (C := Try.checked) own started (by kernel_rfl) Try.func4
    (ChangeSpec.witness6 (enc := enc) (C := Try.checked) false ⟨#[], #[.slice none 0 0, .slice none 0 0], []⟩ 8 (by kernel_rfl) (by kernel_rfl) (by kernel_rfl) (by kernel_rfl)) ?_
  intro W base args ds gs before hval0 hW hcnd _
  have hval : ∀ (j : Nat) t v, Try.f4.params[j]? = some t → args[j]? = some v → Value.okWide Try.prog W .any base t v := hval0
  have hW' := hW
  obtain ⟨p, q, hA0, hV, rfl, hfz, hnd⟩ := hW
  have hA : DataW.TrodAll enc Try.prog W 0 (fun _ => true) true Try.f4.params.toList args.toList ds p := hA0
  rw [Try.params4] at hA hval
  obtain ⟨v0, vs0, d0, ds0, p0, q0, hargs, rfl, rfl, h0, r0⟩ := trodAll_cons hA
  obtain ⟨v1, vs1, d1, ds1, p1, q1, rfl, rfl, rfl, h1, r1⟩ := trodAll_cons r0
  obtain ⟨rfl, rfl, rfl⟩ := trodAll_nil r1
  obtain rfl : args = #[v0, v1] := by cases args; simp_all
  obtain ⟨rfl, rfl⟩ := trodVars_none hV
  have k0 := h0
  have k1 := h1
  have lt0 : ∀ x ∈ p0, x.block < W.heap.size := by obtain ⟨m, hm⟩ := k0; exact DataW.trod_lt m _ _ _ hm
  have lt1 : ∀ x ∈ p1, x.block < W.heap.size := by obtain ⟨m, hm⟩ := k1; exact DataW.trod_lt m _ _ _ hm
  obtain ⟨now, hs0⟩ := open_rows (hval 0 33 v0 rfl rfl) h0
  obtain ⟨ago, hs1⟩ := open_rows (hval 1 33 v1 rfl rfl) h1
  clear hA0 hval0
  refine (ordered_any now ago v0 v1 W hs0 hs1).mono fun e W' ⟨he, bel⟩ => ?_
  subst he
  exact ⟨_, rfl, _, _, _, [], _, [], hW', trodAll_mk1 (shut_bool Try.underlying4 _), (trodAll_cons_mk (Below.trod laidOut (by kernel_rfl) (of_decide_eq_true (by kernel_rfl)) k0 bel lt0) (trodAll_cons_mk (Below.trod laidOut (by kernel_rfl) (of_decide_eq_true (by kernel_rfl)) k1 bel lt1) trodAll_mk0)), rfl, bel.frame _, fun h => by cases h⟩
theorem over : Rows.circlesOrderedRow.holds Try.pinned (OpenSpec.ofChange Rows.circlesOrderedSpec) :=
  OpenClaim.holds_of_wide 4 Try.f4 rfl rfl rfl rfl rfl rfl rfl ⟨rfl, rfl, rfl, rfl, rfl⟩ rfl rfl rfl rfl rfl (by kernel_rfl) Try.func4 (by kernel_rfl)
    (of_decide_eq_true (by kernel_rfl)) (by unfold Func.isWrapper; first | (rw [if_pos (by decide +kernel)]; kernel_rfl) | (rw [if_neg (by decide +kernel)]; exact ⟨rfl, rfl⟩))
    (fun os started H enc _ => lifted os started H enc)
end LawOrdered
theorem circlesOrdered_holds : Rows.CirclesOrderedSaid := LawOrdered.over
#print axioms circlesOrdered_holds
end Go.Proofs.Ytmepdfipigdjhaa
