/- Does a flow come to the first one: the law's own come. -/
import Derived.Test.YtmepdfipigdjhaaAB
namespace Go.Proofs.Ytmepdfipigdjhaa
open Go.RowKit
set_option linter.unusedSimpArgs false
set_option linter.unusedVariables false
/-- What has been seen, of what is needed from a flow on, all the flows above i being done. -/
structure SeenI (rows : List (List Nat)) (from_ i : Nat) (f : Nat → Bool) : Prop where
  only : ∀ x, f x = true → ∃ m, Reach rows from_ m x
  start : f from_ = true
  done : ∀ z, i < z → f z = true → ∀ x ∈ rows.getD z [], f x = true
theorem SeenI.all {rows : List (List Nat)} {from_ : Nat} {f : Nat → Bool} (h : SeenI rows from_ 0 f) (h0 : rows.getD 0 [] = []) : ∀ m x, Reach rows from_ m x → f x = true
  | 0, x, hx => by
    have : x = from_ := hx
    rw [this]; exact h.start
  | m + 1, x, ⟨z, h1, h2⟩ => by
    have h3 := SeenI.all h h0 m z h1
    by_cases hz : z = 0
    · subst hz; rw [h0] at h2; simp at h2
    · exact h.done z (by omega) h3 x h2
def ComeEnd (rows : List (List Nat)) (from_ : Nat) (w : World) (e : Ending) (w' : World) : Prop := ∃ b : Bool, e = .returned (.bool b) ∧ (b = true ↔ ∃ m, Reach rows from_ m 0) ∧ Below w.heap.size w w'
theorem infoBool' : (Try.prog.info? 4).map (fun i => (i.zero, i.size, i.bytes)) = some (some (.bool false), 1, 1) := by kernel_rfl
set_option maxRecDepth 100000 in
set_option maxHeartbeats 4000000 in
theorem lawCome_any (rows : List (List Nat)) (from_ : Nat) (v : Value) (w : World) (hv : IsSl w.heap.size w 1 (IsNums w.heap.size w) rows v) (hf : from_ < rows.length) (hF : Falls rows) (hl : rows.length ≤ 1000000) :
    Calls Try.prog 15 #[v, .int .i64 from_] w (ComeEnd rows from_ w) := by
  have HV := hid hv
  obtain ⟨a, cap, rfl, _, hx⟩ := hv.at_
  clear hv hx
  have hmake := fun w => run_make_row' (P := Try.prog) 75 4 (.bool false) 1 Try.underlying75 infoBool' rfl .i64 .i64 rows.length (by omega) (by omega) w
  obtain ⟨W0, hW0⟩ : ∃ W0, w.alloc (.cells (madeCells #[.bool false] rows.length) 4) = W0 := ⟨_, rfl⟩
  have hB0 : Below w.heap.size w W0 := by rw [← hW0]; exact (Below.refl _ _).alloc (Nat.le_refl _) _
  have hF0 : FlagsAt W0 w.heap.size rows.length (fun _ => false) := by
    rw [← hW0]
    exact ⟨madeCells #[.bool false] rows.length, heap_alloc_new _ _, by simp [madeCells], fun i hi => by simp [madeCells, hi, Nat.mod_one]⟩
  have hc0 := (hF0.cell hf).1
  have hf0 := (hF0.cell hf).2
  have hF1 : FlagsAt (W0.setCell ⟨w.heap.size, from_, none⟩ (.bool true)) w.heap.size rows.length (fun k => decide (k = from_)) := hF0.set (fun k => by by_cases h : k = from_ <;> simp [h])
  have HF1 := hid hF1
  have HB1 := hid (hB0.setCell (p := ⟨w.heap.size, from_, none⟩) (Nat.le_refl _) (.bool true))
  clear hF1 hF0 hB0
  go_enter Try.func15, Try.ntmps15
  go_wp2_with fail
  go_loopg [6] from_ (fun kk i6 W => ∃ (i : Nat) (f : Nat → Bool), i ≤ from_ ∧ i = kk ∧ i6 = .int .i64 i ∧ FlagsAt W w.heap.size rows.length f ∧ SeenI rows from_ i f ∧ Below w.heap.size w W)
  case atStart =>
    refine ⟨from_, _, Nat.le_refl _, rfl, rfl, HF1.out, ⟨fun x hx => ⟨0, show x = from_ by simpa using hx⟩, by simp, fun z hz hz2 => ?_⟩, HB1.out⟩
    simp at hz2
    omega
  case round =>
    obtain ⟨i, f, hi, rfl, rfl, hFl, hS, hW⟩ := hrel
    clear hmake hW0 hc0 hf0
    by_cases hpos : 0 < i
    · have hil : i < rows.length := by omega
      obtain ⟨b, off, ra, rc, rfl, hb, hc, hrl, hcm⟩ := row_at HV.out hil
      unfold maxLen at hrl
      have hrow := getD_at rows i hil
      generalize rows[i] = row at hc hrl hcm hrow
      have HROW := hid hrow
      have HCM := hid hcm
      have HS := hid hS
      have hlo := hFl.lt
      obtain ⟨wo, rfl⟩ : ∃ wo : World, wo = wr := ⟨_, rfl⟩
      have hpos2 : (0 : Int) < (i : Int) := by omega
      clear hrow hcm hS
      go_wp2_with fail
      go_loopg [7] row.length (fun kk k7 W => ∃ (t : Nat) (f2 : Nat → Bool), t ≤ row.length ∧ kk = row.length - t ∧ k7 = .int .i64 t ∧ FlagsAt W w.heap.size rows.length f2 ∧ SeenI rows from_ i f2 ∧ f2 i = f i ∧ (∀ m (_ : m < t) (h : m < row.length), f i = true → f2 row[m] = true) ∧ Below w.heap.size w W)
      case atStart => exact ⟨0, f, by omega, by omega, rfl, hFl, HS.out, rfl, fun m h => by omega, hW⟩
      case round =>
        obtain ⟨t, f2, ht, rfl, rfl, hFl2, hS2, hfi, hdn, hW2⟩ := hrel
        have HS2 := hid hS2
        have HDN := hid hdn
        have cI := (hFl2.cell hil).1
        rw [hfi] at cI
        have HFI := hid hfi
        have cR := (hW2.cell (p := ⟨b, off + i, none⟩) (by show b < w.heap.size; omega)).trans hc
        clear hS2 hdn hfi
        cases hfv : f i
        · rw [hfv] at cI
          have HFV := hid hfv
          clear hfv
          go_wp2_with fail
          go_roundg (i - 1)
          case rel =>
            refine ⟨i - 1, f2, by omega, by omega, by go_num, hFl2, ⟨HS2.out.only, HS2.out.start, fun z hz hz2 => ?_⟩, hW2⟩
            by_cases e : z = i
            · subst e; rw [HFI.out, HFV.out] at hz2; cases hz2
            · exact HS2.out.done z (by omega) hz2
          case measure => omega
        · rw [hfv] at cI
          have HFV := hid hfv
          clear hfv
          by_cases htl : t < row.length
          · obtain ⟨b2, off2, rfl, hb2, hc2⟩ := HCM.out t htl
            have cX := (hW2.cell (p := ⟨b2, off2 + t, none⟩) (by show b2 < w.heap.size; omega)).trans hc2
            have hmem : row[t] ∈ rows.getD i [] := by rw [HROW.out]; exact List.getElem_mem htl
            obtain ⟨x, hxe⟩ : ∃ x, x = row[t] := ⟨_, rfl⟩
            rw [← hxe] at cX hmem
            have hxi := hF.lt i x hmem
            have hxl : x < rows.length := by omega
            have cS := (hFl2.cell hxl).1
            have fS := (hFl2.cell hxl).2
            have HXE := hid hxe
            have HM := hid hmem
            clear hxe hmem hc2
            go_wp2_with fail
            go_roundg (row.length - (t + 1))
            case rel =>
              refine ⟨t + 1, fun k => if k = x then true else f2 k, by omega, rfl, by go_num, hFl2.set (fun _ => rfl), ⟨fun z hz => ?_, ?_, fun z hz hz2 y hy => ?_⟩, ?_, fun m hm h _ => ?_, hW2.setCell (Nat.le_refl _) _⟩
              · by_cases e : z = x
                · subst e
                  obtain ⟨m, hm⟩ := HS2.out.only i (by rw [HFI.out]; exact HFV.out)
                  exact ⟨m + 1, i, hm, HM.out⟩
                · simp only [if_neg e] at hz
                  exact HS2.out.only z hz
              · show (if from_ = x then true else f2 from_) = true
                split
                · rfl
                · exact HS2.out.start
              · simp only [if_neg (show ¬ z = x by omega)] at hz2
                have := HS2.out.done z hz hz2 y hy
                split
                · rfl
                · exact this
              · simp only [if_neg (show ¬ i = x by omega)]
                exact HFI.out
              · show (if row[m] = x then true else f2 row[m]) = true
                rcases Nat.lt_succ_iff_lt_or_eq.1 hm with h' | rfl
                · split
                  · rfl
                  · exact HDN.out m h' h HFV.out
                · rw [if_pos HXE.out.symm]
            case measure => omega
          · go_wp2_with fail
            go_roundg (i - 1)
            case rel =>
              refine ⟨i - 1, f2, by omega, by omega, by go_num, hFl2, ⟨HS2.out.only, HS2.out.start, fun z hz hz2 => ?_⟩, hW2⟩
              by_cases e : z = i
              · subst e
                intro y hy
                rw [HROW.out] at hy
                obtain ⟨m, hm, rfl⟩ := List.getElem_of_mem hy
                exact HDN.out m (by omega) hm HFV.out
              · exact HS2.out.done z (by omega) hz2
            case measure => omega
    · have hi0 : i = 0 := by omega
      subst hi0
      have h0 := (hFl.cell (show 0 < rows.length by omega)).1
      have HS := hid hS
      have HF := hid (falls_first hF)
      clear hS
      obtain ⟨z0, hz0⟩ : ∃ z0, z0 = f 0 := ⟨_, rfl⟩
      rw [← hz0] at h0
      have HZ := hid hz0
      clear hz0
      go_wp2_with fail
      go_ret
      refine ⟨z0, rfl, ⟨fun h => HS.out.only 0 (by rw [← HZ.out]; exact h), fun ⟨m, hm⟩ => by rw [HZ.out]; exact HS.out.all HF.out m 0 hm⟩, hW⟩
end Go.Proofs.Ytmepdfipigdjhaa
