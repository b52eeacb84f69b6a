/- Does one flow need another one at once: the law's own needs. -/
import Derived.Test.YtmepdfipigdjhaaA5
namespace Go.Proofs.Ytmepdfipigdjhaa
open Go.RowKit
set_option linter.unusedSimpArgs false
set_option linter.unusedVariables false
theorem thRes_form (p : PgD) (s : ByteArray) : ∃ (st ty fl : Int) (ok : Bool), thRes (findTh p.things s) = .tuple #[.int .i64 st, .int .u8 ty, .int .i64 fl, .bool ok] ∧
    (ok = true → ∃ x, findTh p.things s = some x ∧ x.fl = fl) ∧ (ok = false → findTh p.things s = none) := by
  cases h : findTh p.things s with
  | none => exact ⟨0, 0, 0, false, rfl, (fun e => by cases e), fun _ => rfl⟩
  | some x => exact ⟨x.st, x.ty, x.fl, true, rfl, (fun _ => ⟨x, rfl, rfl⟩), (fun e => by cases e)⟩
theorem refs_box {w : World} {r : RefD} {cs : List Value} (h : cs = refCells r) : cs = [.string r.name, .int .i64 r.ago] := h
set_option maxHeartbeats 2000000 in
theorem lawNeeds_any (p : PgD) (cs : List Value) (a b : ByteArray) (d B : Nat) (w : World) (hx : IsPg B w d p cs) (hB : B ≤ w.heap.size) (hcount : ∀ x ∈ p.flows, x.body.count ≤ 1000000) :
    Calls Try.prog 13 #[.agg cs.toArray, .string a, .string b] w (Ret (.bool (p.needB a b)) w) := by
  have HX := hid hx
  have HC := hid hcount
  obtain ⟨i, f, o, rfl, hi, hf, ho⟩ := hx
  have HF := hid hf
  obtain ⟨fa, fc, rfl, fl, hfx⟩ := hf.at_
  unfold maxLen at fl
  have HFX := hid hfx
  clear hi hf ho hfx hcount
  obtain ⟨st1, ty1, fl1, ok1, e1, g1, n1⟩ := thRes_form p a
  obtain ⟨st2, ty2, fl2, ok2, e2, g2, n2⟩ := thRes_form p b
  have E1 := hid e1
  have E2 := hid e2
  have G1 := hid g1
  have G2 := hid g2
  have N1 := hid n1
  have N2 := hid n2
  clear e1 e2 g1 g2 n1 n2
  have hcases : ok1 = false ∨ (ok1 = true ∧ ok2 = false) ∨ (ok1 = true ∧ ok2 = true ∧ fl1 < 0) ∨ (ok1 = true ∧ ok2 = true ∧ 0 ≤ fl1 ∧ fl2 < 0) ∨ (ok1 = true ∧ ok2 = true ∧ 0 ≤ fl1 ∧ 0 ≤ fl2) := by
    cases ok1 <;> cases ok2 <;> simp <;> omega
  have hno : (ok1 = false ∨ (ok1 = true ∧ ok2 = false) ∨ (ok1 = true ∧ ok2 = true ∧ fl1 < 0) ∨ (ok1 = true ∧ ok2 = true ∧ 0 ≤ fl1 ∧ fl2 < 0)) → p.needB a b = false := by
    intro h
    rw [PgD.needB]
    rcases h with h | ⟨_, h⟩ | ⟨h1, h2, h3⟩ | ⟨h1, h2, _, h3⟩
    · rw [N1.out h]
    · rw [N2.out h]; cases findTh p.things a <;> rfl
    · obtain ⟨x, hx1, hx2⟩ := G1.out h1
      obtain ⟨y, hy1, hy2⟩ := G2.out h2
      rw [hx1, hy1]
      simp only [show ¬ 0 ≤ x.fl by omega, decide_false, Bool.false_and]
    · obtain ⟨x, hx1, hx2⟩ := G1.out h1
      obtain ⟨y, hy1, hy2⟩ := G2.out h2
      rw [hx1, hy1]
      simp only [show ¬ 0 ≤ y.fl by omega, decide_false, Bool.and_false, Bool.false_and]
  have HNO := hid hno
  clear hno
  rcases hcases with h | ⟨h, h'⟩ | ⟨h, h', h3⟩ | ⟨h, h', h3, h4⟩ | ⟨h, h', h3, h4⟩
  case inr.inr.inr.inr =>
    subst h
    subst h'
    obtain ⟨x, hx1, hx2⟩ := G1.out rfl
    obtain ⟨y, hy1, hy2⟩ := G2.out rfl
    obtain ⟨g, hg, rfl⟩ := mem_things (findTh_mem hx1).1 (by omega)
    have hfl1 : fl1 = (g : Int) := by rw [← hx2]; rfl
    subst hfl1
    have hres : p.needB a b = (p.flows[g].body.refs.any fun r => decide (r.ago = 0) && decide (r.name = b)) := by
      have e0 : (p.flows[g].thing g).fl.toNat = g := Int.toNat_natCast g
      have e1 : 0 ≤ (p.flows[g].thing g).fl := Int.natCast_nonneg g
      have e2 : 0 ≤ y.fl := by rw [hy2]; exact h4
      rw [PgD.needB, hx1, hy1]
      simp only []
      rw [e0, List.getElem?_eq_getElem hg, decide_eq_true e1, decide_eq_true e2]
      rfl
    have HRES := hid hres
    have hcnt := HC.out _ (List.getElem_mem hg)
    obtain ⟨b0, off, rfl, hb0, hc⟩ := HFX.out.resolve_left (by intro h; rw [h] at hg; simp at hg)
    obtain ⟨cs, ⟨es, rfl, _, hex⟩, _, h6⟩ := hc g hg
    have HEX := hid hex
    obtain ⟨y0, y1, y2, y3, rfl⟩ := hex.four
    have q4 := h6 4 (by simp)
    have q5 := h6 5 (by simp)
    have q6 := h6 6 (by simp)
    have q7 := h6 7 (by simp)
    simp only [List.cons_append, List.nil_append, List.getElem_cons_zero, List.getElem_cons_succ] at q4 q5 q6 q7
    clear h6 hc hex hres hx1 hy1 hx2 hy2
    generalize p.flows[g].body = x at HRES hcnt HEX
    go_enter Try.func13, Try.ntmps13
    go_wp2_with fail
    refine (nameFind_any p _ a d B _ (by exact HX.out.mono (Nat.le_refl _) (fun b o' h => (bcell (B := w.heap.size) (by repeat (first | with_reducible exact Below.refl w.heap.size w | with_reducible refine below_drewN ?_ _ | with_reducible refine Below.drew ?_ | with_reducible refine Below.alloc ?_ (by have hszz := Below.size (Below.refl w.heap.size w); first | omega | (simp; done) | (simp at hszz ⊢; omega)) _ | with_reducible refine Below.setCell ?_ (by have hszz := Below.size (Below.refl w.heap.size w); first | omega | (simp; done) | (simp at hszz ⊢; omega)) _))).1 _ _ (by omega))) (by simp; omega)).mono ?_
    rintro e w1 ⟨rfl, hb1⟩
    rw [E1.out]
    have hs1 : w.heap.size < w1.heap.size := (by have := hb1.size; rw [World.size_alloc] at this; omega)
    have p0 := (hb1.cell (p := ⟨w.heap.size, 0, none⟩) (by simp)).trans (by simp : _ = some (Value.int .i64 p.st))
    have p1 := (hb1.cell (p := ⟨w.heap.size, 1, none⟩) (by simp)).trans (by simp : _ = some i)
    have p2 := (hb1.cell (p := ⟨w.heap.size, 2, none⟩) (by simp)).trans (by simp : _ = some (Value.slice (some ⟨b0, off, none⟩) p.flows.length fc))
    have p3 := (hb1.cell (p := ⟨w.heap.size, 3, none⟩) (by simp)).trans (by simp : _ = some o)
    have hB1 : Below w.heap.size w w1 := Below.trans (by repeat (first | with_reducible exact Below.refl w.heap.size w | with_reducible refine below_drewN ?_ _ | with_reducible refine Below.drew ?_ | with_reducible refine Below.alloc ?_ (by have hszz := Below.size (Below.refl w.heap.size w); first | omega | (simp; done) | (simp at hszz ⊢; omega)) _ | with_reducible refine Below.setCell ?_ (by have hszz := Below.size (Below.refl w.heap.size w); first | omega | (simp; done) | (simp at hszz ⊢; omega)) _)) (hb1.mono (by simp))
    clear hb1
    go_wp2_with fail
    refine (nameFind_any p _ b d B _ (by exact HX.out.mono (Nat.le_refl _) (fun b o' h => (bcell (B := w.heap.size) hB1).1 _ _ (by omega))) (by omega)).mono ?_
    rintro e w2 ⟨rfl, hb2⟩
    rw [E2.out]
    have hB2 : Below w.heap.size w w2 := hB1.trans (hb2.mono (by omega))
    have p2' := (hb2.cell (p := ⟨w.heap.size, 2, none⟩) hs1).trans p2
    have hs2 : w.heap.size < w2.heap.size := Nat.lt_of_lt_of_le hs1 hb2.size
    have r4 := (hB2.cell (p := ⟨b0, off + g * 8 + 4, none⟩) (by show b0 < w.heap.size; omega)).trans q4
    have r5 := (hB2.cell (p := ⟨b0, off + g * 8 + 5, none⟩) (by show b0 < w.heap.size; omega)).trans q5
    have r6 := (hB2.cell (p := ⟨b0, off + g * 8 + 6, none⟩) (by show b0 < w.heap.size; omega)).trans q6
    have r7 := (hB2.cell (p := ⟨b0, off + g * 8 + 7, none⟩) (by show b0 < w.heap.size; omega)).trans q7
    clear hb2 p0 p1 p2 p3 q4 q5 q6 q7
    go_wp2_with fail
    refine (refs_any d B x _ _ (by exact IsEx.mono (Nat.le_refl _) (fun b o' h => (bcell (B := w.heap.size) hB2).1 _ _ (by omega)) _ _ _ HEX.out) (by omega) (by omega)).mono ?_
    rintro e w3 ⟨⟨v, rfl, hv⟩, hb3⟩
    obtain ⟨ra, rc, rfl, rl, hrx⟩ := hv.at_
    unfold maxLen at rl
    have hB3 : Below w.heap.size w w3 := hB2.trans (hb3.mono (by omega))
    have HRX := hid hrx
    clear hv hrx hb3
    go_wp2_with fail
    go_loopg [16] x.refs.length (fun k i W => ∃ j : Nat, j ≤ x.refs.length ∧ k = x.refs.length - j ∧ i = .int .i64 j ∧ (∀ m (_ : m < j) (h : m < x.refs.length), (decide (x.refs[m].ago = 0) && decide (x.refs[m].name = b)) = false) ∧ W = w3)
    case atStart => exact ⟨0, by omega, by omega, rfl, fun m h => by omega, rfl⟩
    case round =>
      obtain ⟨j, hj, rfl, rfl, hn, rfl⟩ := hrel
      have HNn := hid hn
      clear hn
      by_cases hlt : j < x.refs.length
      · obtain ⟨b5, off5, rfl, hb5, hc5⟩ := HRX.out.resolve_left (by intro h; rw [h] at hlt; simp at hlt)
        obtain ⟨cs5, rfl, _, h65⟩ := hc5 j hlt
        have k0 := h65 0 (by simp [refCells])
        have k1 := h65 1 (by simp [refCells])
        simp only [refCells, Nat.add_zero, List.getElem_cons_zero, List.getElem_cons_succ] at k0 k1
        have hxm : x.refs[j] ∈ x.refs := List.getElem_mem hlt
        obtain ⟨r, hr⟩ : ∃ r, r = x.refs[j] := ⟨_, rfl⟩
        rw [← hr] at k0 k1 hxm
        have HR := hid hr
        clear hr hc5 h65
        by_cases hag : r.ago = 0
        · by_cases hnm : r.name = b
          · have e1 : (r.ago == 0) = true := by simp [hag]
            have e2 : (r.name.toList == b.toList) = true := str_eq.2 hnm
            have hyes : (x.refs.any fun r => decide (r.ago = 0) && decide (r.name = b)) = true := List.any_eq_true.2 ⟨r, hxm, by simp [hag, hnm]⟩
            have HY := hid hyes
            clear hag hnm hyes
            go_wp2_with fail
            go_ret
            exact ⟨ret_bool (by rw [HRES.out, HY.out]), hB3⟩
          · have e1 : (r.ago == 0) = true := by simp [hag]
            have e2 : (r.name.toList == b.toList) = false := str_ne.2 hnm
            have hf : (decide (r.ago = 0) && decide (r.name = b)) = false := by simp [hnm]
            have HF2 := hid hf
            clear hag hnm hf
            go_wp2_with fail
            go_roundg (x.refs.length - (j + 1))
            case rel =>
              refine ⟨j + 1, by omega, rfl, by go_num, fun m hm h => ?_, rfl⟩
              rcases Nat.lt_succ_iff_lt_or_eq.1 hm with h' | rfl
              · exact HNn.out m h' h
              · rw [← HR.out]; exact HF2.out
            case measure => omega
        · have e1 : (r.ago == 0) = false := by simp [hag]
          have hf : (decide (r.ago = 0) && decide (r.name = b)) = false := by simp [hag]
          have HF2 := hid hf
          clear hag hf
          go_wp2_with fail
          go_roundg (x.refs.length - (j + 1))
          case rel =>
            refine ⟨j + 1, by omega, rfl, by go_num, fun m hm h => ?_, rfl⟩
            rcases Nat.lt_succ_iff_lt_or_eq.1 hm with h' | rfl
            · exact HNn.out m h' h
            · rw [← HR.out]; exact HF2.out
          case measure => omega
      · have hf : (x.refs.any fun r => decide (r.ago = 0) && decide (r.name = b)) = false := by
          rw [← Bool.not_eq_true, List.any_eq_true]
          rintro ⟨r, hr, hr2⟩
          obtain ⟨m, hm, rfl⟩ := List.getElem_of_mem hr
          rw [HNn.out m (by omega) hm] at hr2
          cases hr2
        have HF2 := hid hf
        clear hf
        go_wp2_with fail
        go_ret
        exact ⟨ret_bool (by rw [HRES.out, HF2.out]), hB3⟩
  all_goals
    have HN := hid (HNO.out (by first | exact .inl h | exact .inr (.inl ⟨h, h'⟩) | exact .inr (.inr (.inl ⟨h, h', h3⟩)) | exact .inr (.inr (.inr ⟨h, h', h3, h4⟩))))
    (try subst h')
    subst h
    go_enter Try.func13, Try.ntmps13
    go_wp2_with fail
    refine (nameFind_any p _ a d B _ (by exact HX.out.mono (Nat.le_refl _) (fun b o' h => (bcell (B := w.heap.size) (by repeat (first | with_reducible exact Below.refl w.heap.size w | with_reducible refine below_drewN ?_ _ | with_reducible refine Below.drew ?_ | with_reducible refine Below.alloc ?_ (by have hszz := Below.size (Below.refl w.heap.size w); first | omega | (simp; done) | (simp at hszz ⊢; omega)) _ | with_reducible refine Below.setCell ?_ (by have hszz := Below.size (Below.refl w.heap.size w); first | omega | (simp; done) | (simp at hszz ⊢; omega)) _))).1 _ _ (by omega))) (by simp; omega)).mono ?_
    rintro e w1 ⟨rfl, hb1⟩
    rw [E1.out]
    have hs1 : w.heap.size < w1.heap.size := (by have := hb1.size; rw [World.size_alloc] at this; omega)
    have p0 := (hb1.cell (p := ⟨w.heap.size, 0, none⟩) (by simp)).trans (by simp : _ = some (Value.int .i64 p.st))
    have p1 := (hb1.cell (p := ⟨w.heap.size, 1, none⟩) (by simp)).trans (by simp : _ = some i)
    have p2 := (hb1.cell (p := ⟨w.heap.size, 2, none⟩) (by simp)).trans (by simp : _ = some (Value.slice fa p.flows.length fc))
    have p3 := (hb1.cell (p := ⟨w.heap.size, 3, none⟩) (by simp)).trans (by simp : _ = some o)
    have hB1 : Below w.heap.size w w1 := Below.trans (by repeat (first | with_reducible exact Below.refl w.heap.size w | with_reducible refine below_drewN ?_ _ | with_reducible refine Below.drew ?_ | with_reducible refine Below.alloc ?_ (by have hszz := Below.size (Below.refl w.heap.size w); first | omega | (simp; done) | (simp at hszz ⊢; omega)) _ | with_reducible refine Below.setCell ?_ (by have hszz := Below.size (Below.refl w.heap.size w); first | omega | (simp; done) | (simp at hszz ⊢; omega)) _)) (hb1.mono (by simp))
    clear hb1
    go_wp2_with fail
    refine (nameFind_any p _ b d B _ (by exact HX.out.mono (Nat.le_refl _) (fun b o' h => (bcell (B := w.heap.size) hB1).1 _ _ (by omega))) (by omega)).mono ?_
    rintro e w2 ⟨rfl, hb2⟩
    rw [E2.out]
    have hB2 : Below w.heap.size w w2 := hB1.trans (hb2.mono (by omega))
    go_wp2_with fail
    go_ret
    exact ⟨ret_bool HN.out.symm, hB2⟩
end Go.Proofs.Ytmepdfipigdjhaa
