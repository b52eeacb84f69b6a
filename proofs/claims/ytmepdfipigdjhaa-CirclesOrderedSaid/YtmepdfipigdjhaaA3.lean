/- A program of flows by what they need: of. -/
import Derived.Test.YtmepdfipigdjhaaA2
namespace Go.Proofs.Ytmepdfipigdjhaa
open Go.RowKit
set_option linter.unusedSimpArgs false
set_option linter.unusedVariables false
def OfEnd (p : PgD) (w : World) (e : Ending) (w' : World) : Prop := (∃ cs d, e = .returned (.agg cs.toArray) ∧ IsPg w'.heap.size w' d p cs) ∧ Below w.heap.size w w'
/-- The state at the head of a round: so many flows are laid. -/
structure OfRel (now ago : List (List Nat)) (w W : World) (j : Nat) (vF : Value) (css : List (List Value)) (d : Nat) : Prop where
  res : Blk W w.heap.size [.int .i64 0, .slice none 0 0, .slice none 0 0, .slice none 0 0] 26
  box : Blk W (w.heap.size + 1) [.int .i64 1, .slice none 0 0, vF, .slice none 0 0] 26
  len : css.length = j
  own : W.ownsRow (w.heap.size + 2) 51 8 vF j css.flatten
  tree : ∀ i (h : i < css.length), Ft (fun b => w.heap.size + 2 ≤ b ∧ some b ≠ vF.ownBlock) W fun A => IsFl A.heap.size A d (ofFl now ago i) css[i]
  below : Below w.heap.size w W
theorem row_at {B : Nat} {w : World} {xs : List (List Nat)} {a : Option Addr} {cap : Nat} (h : IsSl B w 1 (IsNums B w) xs (.slice a xs.length cap)) {j : Nat} (hj : j < xs.length) :
    ∃ b off ra rc, a = some ⟨b, off, none⟩ ∧ b < B ∧ w.cell? ⟨b, off + j, none⟩ = some (.slice ra xs[j].length rc) ∧ xs[j].length ≤ maxLen ∧ ∀ m (hm : m < xs[j].length), ∃ b2 off2, ra = some ⟨b2, off2, none⟩ ∧ b2 < B ∧ w.cell? ⟨b2, off2 + m, none⟩ = some (.int .i64 (xs[j][m] : Nat)) := by
  obtain ⟨a', cap', e, _, _, h3⟩ := h
  have e1 : a = a' := by injection e
  subst e1
  obtain ⟨b, off, rfl, hb, hc⟩ := h3.resolve_left (by intro h; rw [h] at hj; simp at hj)
  obtain ⟨cs, ⟨v, rfl, h5⟩, _, h6⟩ := hc j hj
  obtain ⟨ra, rc, rfl, h7, h8⟩ := h5.at_
  have h9 := h6 0 (by simp)
  simp only [Nat.mul_one, Nat.add_zero, List.getElem_cons_zero, List.length_map] at h9
  rw [List.length_map] at h7
  refine ⟨b, off, ra, rc, rfl, hb, h9, h7, fun m hm => ?_⟩
  obtain ⟨b2, off2, rfl, hb2, hc2⟩ := h8.resolve_left (by intro h; rw [List.map_eq_nil_iff] at h; rw [h] at hm; simp at hm)
  obtain ⟨cs2, h10, _, h11⟩ := hc2 m (by simpa using hm)
  have h12 : cs2 = [.int .i64 (xs[j][m] : Nat)] := by have := h10; simp only [IsInt, List.getElem_map] at this; exact this
  subst h12
  have h13 := h11 0 (by simp)
  simp only [Nat.mul_one, Nat.add_zero, List.getElem_cons_zero] at h13
  exact ⟨b2, off2, rfl, hb2, h13⟩
theorem nowEx_snoc (x : Ex) (l : List Nat) (m : Nat) (h : m < l.length) : nowEx x (l.take (m + 1)) = addEx (nowEx x (l.take m)) (atomEx (wordD l[m])) := by
  rw [List.take_succ_eq_append_getElem h, nowEx, List.foldl_append]; rfl
theorem agoEx_snoc (x : Ex) (l : List Nat) (m : Nat) (h : m < l.length) : agoEx x (l.take (m + 1)) = addEx (agoEx x (l.take m)) (preEx (atomEx (wordD l[m]))) := by
  rw [List.take_succ_eq_append_getElem h, agoEx, List.foldl_append]; rfl
theorem getD_at (xs : List (List Nat)) (j : Nat) (h : j < xs.length) : xs.getD j [] = xs[j] := by rw [List.getD_eq_getElem?_getD, List.getElem?_eq_getElem h]; rfl

theorem infoFlow : (Try.prog.info? 51).map (fun i => (i.zero, i.size, i.bytes)) = some (some (.agg #[(.string ⟨#[]⟩), (.int .u8 0), (.int .i64 0), (.int .i64 0), (.int .u8 0), (.int .i64 0), (.string ⟨#[]⟩), (.slice none 0 0)]), 8, 96) := by kernel_rfl
theorem IsFl.up {B : Nat} {w : World} {x : FlD} {cs : List Value} {d e : Nat} (hde : d ≤ e) (h : IsFl B w d x cs) : IsFl B w e x cs := by
  obtain ⟨es, h1, h2, h3⟩ := h
  exact ⟨es, h1, h2, h3.up hde⟩
/-- One flow more is laid. -/
theorem of_round {now ago : List (List Nat)} {w wo wr wd w1 W : World} {j d dx gg cap : Nat} {vF x0 x1 x2 x3 : Value} {css : List (List Value)} (hR : OfRel now ago w wo j vF css d) (hb : Below wo.heap.size wo wr)
    (hT : FEx (fun b => wo.heap.size < b) wr dx (bodyD (now.getD j []) (ago.getD j [])) [x0, x1, x2, x3]) (hd : Below wr.heap.size wr wd) (hds : wd.heap.size = wr.heap.size) (hbx : wo.heap.size < wr.heap.size)
    (hgrow : (wd.alloc (.cells #[.string (wordD j), .int .u8 1, .int .i64 1, .int .i64 0, x0, x1, x2, x3] 51)).grownBy w1 vF.ownBlock) (hat : vF.ownBlock = some gg ∨ gg = wr.heap.size + 1)
    (hown1 : w1.ownsRow (w.heap.size + 2) 51 8 (.slice (some ⟨gg, 0, none⟩) (j + 1) cap) (j + 1) (css.flatten ++ [.string (wordD j), .int .u8 1, .int .i64 1, .int .i64 0, x0, x1, x2, x3]))
    (hW : W = w1.setCell ⟨w.heap.size + 1, 2, none⟩ (.slice (some ⟨gg, 0, none⟩) (j + 1) cap)) :
    OfRel now ago w W (j + 1) (.slice (some ⟨gg, 0, none⟩) (j + 1) cap) (css ++ [[.string (wordD j), .int .u8 1, .int .i64 1, .int .i64 0, x0, x1, x2, x3]]) (max d dx) := by
  have hbox := hR.box.lt
  have hoL : ∀ g, vF.ownBlock = some g → w.heap.size + 2 ≤ g ∧ g < wo.heap.size := hR.own.lt
  have hs1 := hgrow.size
  rw [World.size_alloc] at hs1
  have hsW : W.heap.size = w1.heap.size := by rw [hW]; simp [World.setCell]
  have hwo : ∀ b, b < wo.heap.size → some b ≠ vF.ownBlock → w1.heap[b]? = wo.heap[b]? := fun b h1 h2 => by
    rw [hgrow.block b (by rw [World.size_alloc]; omega) h2, Below.heap_alloc _ _ _ (by omega), hd.block b (by omega)]
    exact hb.block b h1
  have hwr : ∀ b, wo.heap.size < b → b < wr.heap.size → w1.heap[b]? = wr.heap[b]? := fun b h1 h2 => by
    have : some b ≠ vF.ownBlock := fun e => by have := hoL b e.symm; omega
    rw [hgrow.block b (by rw [World.size_alloc]; omega) this, Below.heap_alloc _ _ _ (by omega)]
    exact hd.block b h2
  have hne0 : some w.heap.size ≠ vF.ownBlock := fun e => by have := hoL _ e.symm; omega
  have hne1 : some (w.heap.size + 1) ≠ vF.ownBlock := fun e => by have := hoL _ e.symm; omega
  have hset : ∀ b, b ≠ w.heap.size + 1 → W.heap[b]? = w1.heap[b]? := fun b h => by
    rw [hW, Below.heap_setCell _ _ _ _ (by exact h)]
  refine ⟨?_, ?_, by rw [List.length_append, hR.len]; rfl, ?_, fun i hi => ?_, ?_⟩
  · exact hR.res.same ((hset _ (by omega)).trans (hwo _ (by omega) hne0))
  · have h1 : Blk w1 (w.heap.size + 1) [.int .i64 1, .slice none 0 0, vF, .slice none 0 0] 26 := hR.box.same (hwo _ hbox hne1)
    rw [hW]
    exact h1.set 2 _
  · rw [List.flatten_append, List.flatten_singleton, hW]
    refine hown1.kept (row := some (w.heap.size + 1)) ?_ (.inr ?_)
    · refine ⟨rfl, rfl, rfl, by simp [World.setCell], fun k _ hk => Below.heap_setCell _ _ _ _ (fun e => hk (by rw [e]))⟩
    · intro e
      have := hown1.lt _ e
      omega
  · have hgn : ∀ b, w.heap.size + 2 ≤ b → (b < wo.heap.size ∧ some b ≠ vF.ownBlock) ∨ (wo.heap.size < b ∧ b < wr.heap.size) → some b ≠ (Value.slice (some ⟨gg, 0, none⟩) (j + 1) cap).ownBlock := fun b h0 h1 e => by
      have hgb : b = gg := by simpa [Value.ownBlock] using e
      subst hgb
      rcases hat with h2 | h2
      · rcases h1 with ⟨h3, h4⟩ | ⟨h3, h4⟩
        · exact h4 h2.symm
        · have := hoL _ h2; omega
      · omega
    rw [List.length_append, hR.len] at hi
    by_cases hij : i < j
    · have hi2 : i < css.length := by rw [hR.len]; exact hij
      rw [List.getElem_append_left hi2]
      refine Ft.imp (Ft.step (hR.tree i hi2) (by have := hb.size; omega) (fun b h1 h2 => (hset b (by omega)).trans (hwo b h2 h1.2)) (fun b h1 h2 => ⟨h1.1, hgn b h1.1 (.inl ⟨h2, h1.2⟩)⟩)) fun _ h => h.up (Nat.le_max_left _ _)
    · have hij2 : i = j := by simp at hi; omega
      subst hij2
      have e1 : (css ++ [[.string (wordD i), .int .u8 1, .int .i64 1, .int .i64 0, x0, x1, x2, x3]])[i]'(by rw [List.length_append, hR.len]; simp) = [Value.string (wordD i), .int .u8 1, .int .i64 1, .int .i64 0, x0, x1, x2, x3] := by
        rw [List.getElem_append_right (by rw [hR.len]; omega)]
        simp [hR.len]
      rw [e1]
      refine Ft.imp (Ft.step hT (by omega) (fun b h1 h2 => (hset b (by omega)).trans (hwr b h1 h2)) (fun b h1 h2 => ⟨by omega, hgn b (by omega) (.inr ⟨h1, h2⟩)⟩)) fun A h => ?_
      exact ⟨_, rfl, by show 3 ≤ maxLen; unfold maxLen; omega, h.up (Nat.le_max_right _ _)⟩
  · refine ⟨?_, ?_, ?_, by have := hR.below.size; have := hb.size; omega, fun b hbw => ?_⟩
    · rw [hW]; exact hgrow.os.trans (hd.os.trans (hb.os.trans hR.below.os))
    · rw [hW]; exact hgrow.tape.trans (hd.tape.trans (hb.tape.trans hR.below.tape))
    · rw [hW]; exact hgrow.output.trans (hd.output.trans (hb.output.trans hR.below.output))
    · exact ((hset b (by omega)).trans (hwo b (by omega) (fun e => by have := hoL b e.symm; omega))).trans (hR.below.block b hbw)
set_option maxRecDepth 100000 in
set_option maxHeartbeats 12000000 in
theorem of_any (now ago : List (List Nat)) (u v : Value) (w : World) (hu : IsSl w.heap.size w 1 (IsNums w.heap.size w) now u) (hv : IsSl w.heap.size w 1 (IsNums w.heap.size w) ago v)
    (hl : now.length ≤ 1000000) (hnow : ∀ i, ∀ k ∈ now.getD i [], k ≤ 1000000) (hago : ∀ i, ∀ k ∈ ago.getD i [], k ≤ 1000000) :
    Calls Try.prog 14 #[u, v] w (OfEnd (ofD now ago) w) := by
  have HU := hid hu
  have HV := hid hv
  obtain ⟨ua, uc, rfl, ul, hux⟩ := hu.at_
  obtain ⟨va, vc, rfl, vl, hvx⟩ := hv.at_
  unfold maxLen at ul vl
  clear hu hv
  have HUX := hid hux
  have HVX := hid hvx
  clear hux hvx
  go_enter Try.func14, Try.ntmps14
  go_wp2_with fail
  go_loopg [6] now.length (fun k i W => ∃ (j : Nat) (vF : Value) (css : List (List Value)) (d : Nat), j ≤ now.length ∧ k = now.length - j ∧ i = .int .i64 j ∧ OfRel now ago w W j vF css d)
  case atStart =>
    refine ⟨0, .slice none 0 0, [], 0, by omega, by omega, rfl, ?_, ?_, rfl, World.ownsRow_nil _ _ _ _, fun i h => by simp at h, (by repeat (first | with_reducible exact Below.refl w.heap.size w | with_reducible refine below_drewN ?_ _ | with_reducible refine Below.drew ?_ | with_reducible refine Below.alloc ?_ (by have hszz := Below.size (Below.refl w.heap.size w); first | omega | (simp; done) | (simp at hszz ⊢; omega)) _ | with_reducible refine Below.setCell ?_ (by have hszz := Below.size (Below.refl w.heap.size w); first | omega | (simp; done) | (simp at hszz ⊢; omega)) _))⟩
    · exact (Blk.new _ _ _).alloc _
    · have := Blk.new (w.alloc (.cells #[.int .i64 0, .slice none 0 0, .slice none 0 0, .slice none 0 0] 26)) [.int .i64 1, .slice none 0 0, .slice none 0 0, .slice none 0 0] 26
      rw [World.size_alloc] at this
      exact this
  case round =>
    obtain ⟨j, vF, css, d, hj, rfl, rfl, hR⟩ := hrel
    obtain ⟨wo, rfl⟩ : ∃ wo : World, wo = wr := ⟨_, rfl⟩
    have HR := hid hR
    by_cases hlt : j < now.length
    · obtain ⟨b, off, ra, rc, rfl, hb, hc, hrl, hcm⟩ := row_at HU.out hlt
      unfold maxLen at hrl
      have hc' := (hR.below.cell (p := ⟨b, off + j, none⟩) hb).trans hc
      have hrow := getD_at now j hlt
      generalize now[j] = row at hc' hrl hcm hrow hc
      have HROW := hid hrow
      have HCM := hid hcm
      have hsz := hR.below.size
      have hsz2 : w.heap.size + 1 < wo.heap.size := hR.box.lt
      clear hc hcm hrow hR
      go_wp2_with fail
      go_loopg [8] row.length (fun k i W => ∃ (m : Nat) (cs : List Value) (dx : Nat), m ≤ row.length ∧ k = row.length - m ∧ i = .int .i64 m ∧ Blk W wo.heap.size cs 49 ∧ FEx (fun b => wo.heap.size < b) W dx (nowEx (numEx 0) (row.take m)) cs ∧ Below wo.heap.size wo W)
      case atStart =>
        refine ⟨0, [.int .u8 1, .int .i64 0, .string ⟨#[]⟩, .slice none 0 0], 1, by omega, by omega, rfl, ?_, ?_, (by repeat (first | with_reducible exact Below.refl wo.heap.size wo | with_reducible refine below_drewN ?_ _ | with_reducible refine Below.drew ?_ | with_reducible refine Below.alloc ?_ (by have hszz := Below.size (Below.refl wo.heap.size wo); first | omega | (simp; done) | (simp at hszz ⊢; omega)) _ | with_reducible refine Below.setCell ?_ (by have hszz := Below.size (Below.refl wo.heap.size wo); first | omega | (simp; done) | (simp at hszz ⊢; omega)) _))⟩
        · exact Blk.new _ _ _
        · exact FEx.leaf _ _ _ _ _ _ (by show (0 : Nat) ≤ maxLen; omega)
      case round =>
        obtain ⟨m, cs, dx, hm, rfl, rfl, hB, hT, hW⟩ := hrel
        have HB := hid hB
        have HT := hid hT
        obtain ⟨x0, x1, x2, x3, rfl⟩ := len4 cs hT.four
        have y0 := hB.cell (i := 0) rfl
        have y1 := hB.cell (i := 1) rfl
        have y2 := hB.cell (i := 2) rfl
        have y3 := hB.cell (i := 3) rfl
        have f0 := hB.free 0
        have f1 := hB.free 1
        have f2 := hB.free 2
        have f3 := hB.free 3
        have lB := hB.lt
        have oC := hB.oldC
        have oF := hB.oldF
        have hcw := (hW.cell (p := ⟨b, off + j, none⟩) (by show b < wo.heap.size; omega)).trans hc'
        clear hB hT
        by_cases hlm : m < row.length
        · obtain ⟨b2, off2, rfl, hb2, hc2⟩ := HCM.out m hlm
          have hc3 := (hW.cell (p := ⟨b2, off2 + m, none⟩) (by show b2 < wo.heap.size; omega)).trans ((HR.out.below.cell (p := ⟨b2, off2 + m, none⟩) hb2).trans hc2)
          have hk : row[m] ≤ 1000000 := hnow j _ (by rw [HROW.out]; exact List.getElem_mem hlm)
          have HTK := hid (nowEx_snoc (numEx 0) row m hlm)
          have lb1 : b < wr.heap.size := Nat.lt_of_lt_of_le (Nat.lt_of_lt_of_le hb hsz) hW.size
          have lb2 : b2 < wr.heap.size := Nat.lt_of_lt_of_le (Nat.lt_of_lt_of_le hb2 hsz) hW.size
          clear hc2
          generalize row[m] = kk at hc3 hk HTK
          go_wp2_with fail
          go_region_law ((go_simp; go_at_call 16; refine (word_any _ _ hk).mono ?_; rintro e w2 ⟨rfl, q, rfl⟩))
          all_goals
            go_wp2_with fail
            go_roundg (row.length - (m + 1))
            case rel =>
              obtain ⟨r1, r2, r3⟩ := add_node HB.out HT.out (below_drewN (Below.refl wr.heap.size wr) (1 + q)) (FEx.leaf (fun b => wo.heap.size < b) (wr.drewN (1 + q)) 0 3 0 (wordD kk) (by show 3 ≤ maxLen; unfold maxLen; omega)) rfl rfl
              exact ⟨m + 1, _, _, by omega, rfl, by go_num, r1, by rw [HTK.out]; exact r2, hW.trans r3⟩
            case measure => omega
        · have hmm : m = row.length := by omega
          subst hmm
          rw [List.take_length] at HT
          go_wp2_with fail
          obtain ⟨w0, rfl⟩ : ∃ w0 : World, w0 = wr := ⟨_, rfl⟩
          obtain ⟨rowA, hrA⟩ : ∃ rowA, rowA = ago.getD j [] := ⟨_, rfl⟩
          have HRA := hid hrA
          have HB0 := HB
          have HW0 := hid hW
          clear hrA
          go_loopg [9] rowA.length (fun k i W => ∃ (m : Nat) (cs : List Value) (dx : Nat), m ≤ rowA.length ∧ k = rowA.length - m ∧ i = .int .i64 m ∧ Blk W wo.heap.size cs 49 ∧ FEx (fun b => wo.heap.size < b) W dx (agoEx (nowEx (numEx 0) row) (rowA.take m)) cs ∧ Below wo.heap.size wo W)
          case atStart => exact ⟨0, _, _, by omega, by omega, rfl, HB0.out, HT.out, hW⟩
          case round =>
            obtain ⟨m, cs, dx, hm, rfl, rfl, hB, hT, hW⟩ := hrel
            have HB := hid hB
            have HT := hid hT
            obtain ⟨x0, x1, x2, x3, rfl⟩ := len4 cs hT.four
            have y0 := hB.cell (i := 0) rfl
            have y1 := hB.cell (i := 1) rfl
            have y2 := hB.cell (i := 2) rfl
            have y3 := hB.cell (i := 3) rfl
            have f0 := hB.free 0
            have f1 := hB.free 1
            have f2 := hB.free 2
            have f3 := hB.free 3
            have lB := hB.lt
            have oC := hB.oldC
            have oF := hB.oldF
            clear hB hT
            by_cases hcont : j < ago.length ∧ m < rowA.length
            · obtain ⟨hja, hlm⟩ := hcont
              have oC2 := HB.out.oldC2
              have oF2 := HB.out.oldF2
              obtain ⟨b3, off3, ra3, rc3, rfl, hb3, hc3, hrl3, hcm3⟩ := row_at HV.out hja
              unfold maxLen at hrl3
              have hg3 := HRA.out
              rw [getD_at ago j hja] at hg3
              rw [← hg3] at hc3 hrl3
              obtain ⟨b4, off4, rfl, hb4, hc4⟩ := hcm3 m (by rw [← hg3]; exact hlm)
              have hk : ago[j][m]'(by rw [← hg3]; exact hlm) ≤ 1000000 := hago j _ (by rw [getD_at ago j hja]; exact List.getElem_mem _)
              have hval : rowA[m] = ago[j][m]'(by rw [← hg3]; exact hlm) := by simp [hg3]
              rw [← hval] at hc4 hk
              have HTK := hid (agoEx_snoc (nowEx (numEx 0) row) rowA m hlm)
              have k3 := (hW.cell (p := ⟨b3, off3 + j, none⟩) (by show b3 < wo.heap.size; omega)).trans ((HR.out.below.cell (p := ⟨b3, off3 + j, none⟩) hb3).trans hc3)
              have k4 := (hW.cell (p := ⟨b4, off4 + m, none⟩) (by show b4 < wo.heap.size; omega)).trans ((HR.out.below.cell (p := ⟨b4, off4 + m, none⟩) hb4).trans hc4)
              clear hc3 hc4 hcm3 hg3 hval
              generalize rowA[m] = kk at k4 hk HTK
              go_wp2_with fail
              go_region_law ((go_simp; go_at_call 16; refine (word_any _ _ hk).mono ?_; rintro e w2 ⟨rfl, q, rfl⟩))
              all_goals
                go_wp2_with fail
                go_roundg (rowA.length - (m + 1))
                case rel =>
                  have hnode : FEx (fun b => wo.heap.size < b) ((wr.drewN (1 + q)).alloc (.cells #[.int .u8 3, .int .i64 0, .string (wordD kk), .slice none 0 0] 49)) 2 (preEx (atomEx (wordD kk))) [.int .u8 19, .int .i64 0, .string ⟨#[]⟩, .slice (some ⟨wr.heap.size, 0, none⟩) 1 1] := by
                    refine FEx.node (xs := [atomEx (wordD kk)]) (css := [[.int .u8 3, .int .i64 0, .string (wordD kk), .slice none 0 0]]) (g := wr.heap.size) rfl (by unfold maxLen; simp) (heap_alloc_new _ _) lB (fun i h1 h2 => ?_) 19 0 ⟨#[]⟩ (by show (0 : Nat) ≤ maxLen; omega) (cap := 1) (by simp) (by unfold maxLen; omega)
                    match i, h1 with
                    | 0, _ => exact FEx.leaf _ _ _ _ _ _ (by show 3 ≤ maxLen; unfold maxLen; omega)
                  obtain ⟨WW, hWW⟩ : ∃ WW, WW = set4 (((wr.drewN (1 + q)).alloc (.cells #[.int .u8 3, .int .i64 0, .string (wordD kk), .slice none 0 0] 49)).alloc (.cells #[x0, x1, x2, x3, .int .u8 19, .int .i64 0, .string ⟨#[]⟩, .slice (some ⟨wr.heap.size, 0, none⟩) 1 1] 49)) wo.heap.size (.int .u8 6) (.int .i64 0) (.string ⟨#[]⟩) (.slice (some ⟨wr.heap.size + 1, 0, none⟩) 2 2) := ⟨_, rfl⟩
                  have hgoal := hWW
                  rw [set4_alloc _ _ (by simp; omega)] at hgoal
                  unfold set4 at hgoal
                  rw [← hgoal]
                  obtain ⟨r1, r2, r3⟩ := add_node HB.out HT.out ((below_drewN (Below.refl wr.heap.size wr) (1 + q)).alloc (by simp) _) hnode (g := wr.heap.size + 1) (by simp) hWW
                  clear hgoal hWW
                  exact ⟨m + 1, _, _, by omega, rfl, by go_num, r1, by rw [HTK.out]; exact r2, hW.trans r3⟩
                case measure => omega
            · have hno : j < ago.length → m = rowA.length := fun h => by
                have : ¬ m < rowA.length := fun h2 => hcont ⟨h, h2⟩
                omega
              have htake : rowA.take m = rowA := by
                by_cases h : j < ago.length
                · rw [hno h, List.take_length]
                · have : rowA = [] := by
                    rw [HRA.out, List.getD_eq_getElem?_getD, List.getElem?_eq_none (by omega)]; rfl
                  rw [this, List.take_nil]
              rw [htake] at HT
              have hT3 : FEx (fun b => wo.heap.size < b) wr dx (bodyD (now.getD j []) (ago.getD j [])) [x0, x1, x2, x3] := by
                rw [← HRA.out, HROW.out]; exact HT.out
              have HT3 := hid hT3
              have HO := hid hT3.ones
              have hbox := HR.out.box.below hW HR.out.box.lt
              have z2 := hbox.cell (i := 2) rfl
              have hown := own_below HR.out.own hW
              have lbo := hbox.lt
              have bC := hbox.oldC
              have hj1 : j ≤ 1000000 := by omega
              obtain ⟨va0, vn0, vc0, rfl⟩ := own_val hown
              obtain ⟨i0, hi0, hz0, hz1, hz2⟩ := info_parts infoFlow
              clear htake hT3 hcont
              by_cases hja : j < ago.length
              · obtain ⟨b3, off3, ra3, rc3, rfl, hb3, hc3, hrl3, _⟩ := row_at HV.out hja
                unfold maxLen at hrl3
                have hg3 := HRA.out
                rw [getD_at ago j hja] at hg3
                rw [← hg3] at hc3 hrl3
                have hml : ¬ m < rowA.length := by have := hno hja; omega
                have k3 := (hW.cell (p := ⟨b3, off3 + j, none⟩) (by show b3 < wo.heap.size; omega)).trans ((HR.out.below.cell (p := ⟨b3, off3 + j, none⟩) hb3).trans hc3)
                clear hc3 hg3 hno
                go_wp2_with fail
                go_region_law (first
                  | (refine step_append_lies _ (by rfl) _ _ _ (by rfl) (w.heap.size + 2) 51 i0 _ 8 96 Try.underlying23 hi0 hz0 hz1 hz2 rfl (by omega) (.slice va0 vn0 vc0) j css.flatten (by rfl) (hown.alloc _)
                      ⟨wr.heap.size, 0, none⟩ 1 1 [.string (wordD j), .int .u8 1, .int .i64 1, .int .i64 0, x0, x1, x2, x3] (by rfl) (by rfl) (World.news_of_block (cs := #[.string (wordD j), .int .u8 1, .int .i64 1, .int .i64 0, x0, x1, x2, x3]) (t := 51) (fr := (0, 0)) (heap_alloc_new _ _)) ?_
                      (by omega) (by unfold maxLen; omega) (by omega) (by simp; omega) (wr.heap.size + 1) (by simp) ?_
                     · intro u hu
                       simp only [List.mem_cons, List.not_mem_nil, or_false] at hu
                       rcases hu with rfl | rfl | rfl | rfl | rfl | rfl | rfl | rfl
                       · rfl
                       · rfl
                       · rfl
                       · rfl
                       all_goals exact HO.out _ (by simp)
                     intro gg cap w1 hown1 hgrow hat hlt1
                     have hbox1 : Blk w1 (w.heap.size + 1) [.int .i64 1, .slice none 0 0, .slice va0 vn0 vc0, .slice none 0 0] 26 := Blk.same (hbox.alloc _) (hgrow.block (w.heap.size + 1) (by simp; omega) (fun e => by have := (hown.lt _ e.symm).1; omega))
                     have v0 := hbox1.cell (i := 2) rfl
                     have v1 := hbox1.free 2)
                  | (go_simp; go_at_call 16; refine (word_any _ _ hj1).mono ?_; rintro e w2 ⟨rfl, q, rfl⟩))
                all_goals
                  go_wp2_with fail
                  go_roundg (now.length - (j + 1))
                  case rel => exact ⟨j + 1, _, _, _, by omega, rfl, by go_num, of_round HR.out hW HT3.out (below_drewN (Below.refl wr.heap.size wr) (1 + q)) rfl lB hgrow hat hown1 rfl⟩
                  case measure => omega
              · clear hno
                go_wp2_with fail
                go_region_law (first
                  | (refine step_append_lies _ (by rfl) _ _ _ (by rfl) (w.heap.size + 2) 51 i0 _ 8 96 Try.underlying23 hi0 hz0 hz1 hz2 rfl (by omega) (.slice va0 vn0 vc0) j css.flatten (by rfl) (hown.alloc _)
                      ⟨wr.heap.size, 0, none⟩ 1 1 [.string (wordD j), .int .u8 1, .int .i64 1, .int .i64 0, x0, x1, x2, x3] (by rfl) (by rfl) (World.news_of_block (cs := #[.string (wordD j), .int .u8 1, .int .i64 1, .int .i64 0, x0, x1, x2, x3]) (t := 51) (fr := (0, 0)) (heap_alloc_new _ _)) ?_
                      (by omega) (by unfold maxLen; omega) (by omega) (by simp; omega) (wr.heap.size + 1) (by simp) ?_
                     · intro u hu
                       simp only [List.mem_cons, List.not_mem_nil, or_false] at hu
                       rcases hu with rfl | rfl | rfl | rfl | rfl | rfl | rfl | rfl
                       · rfl
                       · rfl
                       · rfl
                       · rfl
                       all_goals exact HO.out _ (by simp)
                     intro gg cap w1 hown1 hgrow hat hlt1
                     have hbox1 : Blk w1 (w.heap.size + 1) [.int .i64 1, .slice none 0 0, .slice va0 vn0 vc0, .slice none 0 0] 26 := Blk.same (hbox.alloc _) (hgrow.block (w.heap.size + 1) (by simp; omega) (fun e => by have := (hown.lt _ e.symm).1; omega))
                     have v0 := hbox1.cell (i := 2) rfl
                     have v1 := hbox1.free 2)
                  | (go_simp; go_at_call 16; refine (word_any _ _ hj1).mono ?_; rintro e w2 ⟨rfl, q, rfl⟩))
                all_goals
                  go_wp2_with fail
                  go_roundg (now.length - (j + 1))
                  case rel => exact ⟨j + 1, _, _, _, by omega, rfl, by go_num, of_round HR.out hW HT3.out (below_drewN (Below.refl wr.heap.size wr) (1 + q)) rfl lB hgrow hat hown1 rfl⟩
                  case measure => omega
    · obtain ⟨fa, fn, fc, rfl⟩ := own_val hR.own
      have c0 := hR.box.cell (i := 0) rfl
      have c1 := hR.box.cell (i := 1) rfl
      have c2 := hR.box.cell (i := 2) rfl
      have c3 := hR.box.cell (i := 3) rfl
      have r0 := hR.res.cell (i := 0) rfl
      have r1 := hR.res.cell (i := 1) rfl
      have r2 := hR.res.cell (i := 2) rfl
      have r3 := hR.res.cell (i := 3) rfl
      have s0 := hR.res.free 0
      have s1 := hR.res.free 1
      have s2 := hR.res.free 2
      have s3 := hR.res.free 3
      have HR := hid hR
      clear hR
      go_wp2_with fail
      refine bodyPost_ret (v := .agg #[.int .i64 1, .slice none 0 0, .slice fa fn fc, .slice none 0 0]) (by simp [results, Try.results14, go_sem, r0, r1, r2, r3]) rfl ?_
      have hjl : j = now.length := by omega
      subst hjl
      have R := HR.out
      have hWW : Below w.heap.size wo (set4 wo w.heap.size (.int .i64 1) (.slice none 0 0) (.slice fa fn fc) (.slice none 0 0)) := set4_below wo (Nat.le_refl _) _ _ _ _
      refine ⟨⟨[.int .i64 1, .slice none 0 0, .slice fa fn fc, .slice none 0 0], d, rfl, ?_⟩, R.below.trans hWW⟩
      have hsz : (set4 wo w.heap.size (.int .i64 1) (.slice none 0 0) (.slice fa fn fc) (.slice none 0 0)).heap.size = wo.heap.size := set4_size _ _ _ _ _ _
      have hown : (set4 wo w.heap.size (.int .i64 1) (.slice none 0 0) (.slice fa fn fc) (.slice none 0 0)).ownsRow (w.heap.size + 2) 51 8 (.slice fa fn fc) (ofD now ago).flows.length css.flatten := by
        rw [ofD_len]
        refine R.own.kept (row := some w.heap.size) ⟨rfl, rfl, rfl, by rw [hsz]; exact Nat.le_refl _, fun k _ hk => set4_other _ (fun e => hk (by rw [e])) _ _ _ _⟩ (.inr fun e => ?_)
        have := (R.own.lt _ e).1
        omega
      refine ⟨.slice none 0 0, .slice fa fn fc, .slice none 0 0, rfl, ⟨none, 0, rfl, Nat.le_refl _, Nat.zero_le _, .inl rfl⟩, ?_, ⟨none, 0, rfl, Nat.le_refl _, Nat.zero_le _, .inl rfl⟩⟩
      have htree : ∀ i (h : i < css.length), IsFl (set4 wo w.heap.size (.int .i64 1) (.slice none 0 0) (.slice fa fn fc) (.slice none 0 0)).heap.size (set4 wo w.heap.size (.int .i64 1) (.slice none 0 0) (.slice fa fn fc) (.slice none 0 0)) d (ofFl now ago i) css[i] := fun i h =>
        R.tree i h _ (by rw [hsz]; exact Nat.le_refl _) (fun b h1 _ => set4_other _ (by omega) _ _ _ _)
      refine own_isSl' hown (by rw [ofD_len, R.len]) (fun c hc => ?_) (fun i h1 h2 => ?_)
      · obtain ⟨i, hi, rfl⟩ := List.getElem_of_mem hc
        obtain ⟨es, h1, _, h3⟩ := htree i hi
        obtain ⟨_, _, _, _, rfl⟩ := h3.four
        rw [h1]; rfl
      · have h3 : (ofD now ago).flows[i] = ofFl now ago i := by
          have := ofD_flow now ago (i := i) (by rw [ofD_len] at h1; exact h1)
          rw [List.getElem?_eq_getElem h1] at this
          exact Option.some.inj this
        rw [h3]
        exact htree i h2
end Go.Proofs.Ytmepdfipigdjhaa
