/- The stage's theorem, walked: CirclesRound. -/
import Derived.Test.YtmepdfipigdjhaaA6
namespace Go.Proofs.Ytmepdfipigdjhaa
open Go.RowKit
set_option linter.unusedSimpArgs false
set_option linter.unusedVariables false
theorem loop_eq {p : PgD} (h : p.clash = 0) (hc : p.circle = []) : p.loop = 0 := by rw [loop_of h, if_pos hc]
theorem loop_ne {p : PgD} (h : p.clash = 0) (hc : p.circle ≠ []) : p.loop = 8 := by rw [loop_of h, if_neg hc]
/-- The program's box, and the program, behind any world that grew from the box's. -/
structure BoxAt (w : World) (W0 : World) (B d : Nat) (p : PgD) (i f o : Value) : Prop where
  blk : Blk W0 w.heap.size [.int .i64 p.st, i, f, o] 26
  pg : IsPg B W0 d p [.int .i64 p.st, i, f, o]
  bel : Below w.heap.size w W0
  low : B ≤ W0.heap.size
theorem BoxAt.mk' {B d : Nat} {w : World} {p : PgD} {i f o : Value} (h : IsPg B w d p [.int .i64 p.st, i, f, o]) (hB : B ≤ w.heap.size) : BoxAt w (w.alloc (.cells #[.int .i64 p.st, i, f, o] 26)) B d p i f o where
  blk := Blk.new w [.int .i64 p.st, i, f, o] 26
  pg := h.below (((Below.refl w.heap.size w).alloc (Nat.le_refl _) _).mono hB)
  bel := (Below.refl w.heap.size w).alloc (Nat.le_refl _) _
  low := by rw [World.size_alloc]; omega
theorem BoxAt.cells {B d : Nat} {w W0 X : World} {p : PgD} {i f o : Value} (h : BoxAt w W0 B d p i f o) (hX : Below W0.heap.size W0 X) : X.cell? ⟨w.heap.size, 0, none⟩ = some (.int .i64 p.st) ∧ X.cell? ⟨w.heap.size, 1, none⟩ = some i ∧ X.cell? ⟨w.heap.size, 2, none⟩ = some f ∧ X.cell? ⟨w.heap.size, 3, none⟩ = some o ∧ w.heap.size < X.heap.size :=
  box_cells h.blk hX
theorem BoxAt.at_ {B d : Nat} {w W0 X : World} {p : PgD} {i f o : Value} (h : BoxAt w W0 B d p i f o) (hX : Below W0.heap.size W0 X) : IsPg B X d p [.int .i64 p.st, i, f, o] := (pg_at h.pg h.low hX).1
theorem BoxAt.le {B d : Nat} {w W0 X : World} {p : PgD} {i f o : Value} (h : BoxAt w W0 B d p i f o) (hX : Below W0.heap.size W0 X) : B ≤ X.heap.size := (pg_at h.pg h.low hX).2
theorem BoxAt.back {B d : Nat} {w W0 X : World} {p : PgD} {i f o : Value} (h : BoxAt w W0 B d p i f o) (hX : Below W0.heap.size W0 X) : Below w.heap.size w X := h.bel.trans (hX.mono h.bel.size)
theorem bel2 {W0 X Y : World} (h : Below W0.heap.size W0 X) (k : Below X.heap.size X Y) : Below W0.heap.size W0 Y := h.trans (k.mono h.size)

set_option maxRecDepth 100000 in
set_option maxHeartbeats 2000000 in
theorem round_no (p : PgD) (cs : List Value) (d B : Nat) (w : World) (hx : IsPg B w d p cs) (hB : B ≤ w.heap.size) (hc : p.clash ≠ 0) :
    Calls Try.prog 3 #[.agg cs.toArray] w (Ret (.bool true) w) := by
  obtain ⟨ia, ic, fa, fc, oa, oc, rfl⟩ := hx.cells4
  have HBx := hid (BoxAt.mk' hx hB)
  have h1 : (p.clash != 0) = true := by simp [hc]
  clear hx hc
  obtain ⟨W0, hW0⟩ : ∃ W0 : World, w.alloc (.cells #[.int .i64 p.st, .slice ia p.ins.length ic, .slice fa p.flows.length fc, .slice oa p.outs.length oc] 26) = W0 := ⟨_, rfl⟩
  rw [hW0] at HBx
  go_enter Try.func3, Try.ntmps3
  go_wp2_with fail
  refine (alive_any _).mono ?_
  rintro e w1 ⟨rfl, hb1⟩
  obtain ⟨c0, c1, c2, c3, c4⟩ := HBx.out.cells hb1
  clear hW0
  go_wp2_with fail
  refine (great_any p _ d B _ (HBx.out.at_ hb1) (HBx.out.le hb1)).mono ?_
  rintro e w2 ⟨b, rfl, hb2⟩
  have hB2 := bel2 hb1 hb2
  clear hb2
  obtain ⟨e0, e1, e2, e3, e4⟩ := HBx.out.cells hB2
  cases b
  · go_wp2_with fail
    refine (nameCheck_any p _ d B _ (HBx.out.at_ hB2) (HBx.out.le hB2)).mono ?_
    rintro e w3 ⟨rfl, hb3⟩
    have hB3 := bel2 hB2 hb3
    clear hb3
    go_wp2_with fail
    refine (alive_any _).mono ?_
    rintro e w4 ⟨rfl, hb4⟩
    go_wp2_with fail
    go_ret
    exact ⟨rfl, HBx.out.back (bel2 hB3 hb4)⟩
  · go_wp2_with fail
    refine (alive_any _).mono ?_
    rintro e w4 ⟨rfl, hb4⟩
    go_wp2_with fail
    go_ret
    exact ⟨rfl, HBx.out.back (bel2 hB2 hb4)⟩

set_option maxRecDepth 100000 in
set_option maxHeartbeats 4000000 in
theorem round_yes (p : PgD) (cs : List Value) (d B : Nat) (w : World) (hx : IsPg B w d p cs) (hB : B ≤ w.heap.size) (hc : p.clash = 0) :
    Calls Try.prog 3 #[.agg cs.toArray] w (Ret (.bool true) w) := by
  obtain ⟨ia, ic, fa, fc, oa, oc, rfl⟩ := hx.cells4
  have HBx := hid (BoxAt.mk' hx hB)
  have HC := hid hc
  have h1 : (p.clash != 0) = false := by simp [hc]
  have HR := hid (circle_round hc)
  obtain ⟨n, hn⟩ : ∃ n, n = p.circle.length := ⟨_, rfl⟩
  have HS := hid (clash_small hc)
  clear hx hc
  obtain ⟨W0, hW0⟩ : ∃ W0 : World, w.alloc (.cells #[.int .i64 p.st, .slice ia p.ins.length ic, .slice fa p.flows.length fc, .slice oa p.outs.length oc] 26) = W0 := ⟨_, rfl⟩
  rw [hW0] at HBx
  go_enter Try.func3, Try.ntmps3
  go_wp2_with fail
  refine (alive_any _).mono ?_
  rintro e w1 ⟨rfl, hb1⟩
  obtain ⟨c0, c1, c2, c3, c4⟩ := HBx.out.cells hb1
  clear hW0
  go_wp2_with fail
  refine (great_any p _ d B _ (HBx.out.at_ hb1) (HBx.out.le hb1)).mono ?_
  rintro e w2 ⟨b, rfl, hb2⟩
  have hB2 := bel2 hb1 hb2
  clear hb2
  obtain ⟨e0, e1, e2, e3, e4⟩ := HBx.out.cells hB2
  cases b
  · go_wp2_with fail
    refine (nameCheck_any p _ d B _ (HBx.out.at_ hB2) (HBx.out.le hB2)).mono ?_
    rintro e w3 ⟨rfl, hb3⟩
    have hB3 := bel2 hB2 hb3
    clear hb3
    obtain ⟨f0, f1, f2, f3, f4⟩ := HBx.out.cells hB3
    go_wp2_with fail
    refine (circleFind_sl p _ d B _ (HBx.out.at_ hB3) (HBx.out.le hB3) HS.out.1 HS.out.2).mono ?_
    rintro e w4 ⟨⟨v, rfl, hv⟩, hb4⟩
    have hB4 := bel2 hB3 hb4
    clear hb4
    obtain ⟨va, vc, rfl, vl, hvx⟩ := hv.strs
    unfold maxLen at vl
    have HV := hid hvx
    clear hvx hv
    obtain ⟨g0, g1, g2, g3, g4⟩ := HBx.out.cells hB4
    go_wp2_with fail
    refine (circleCheck_any p _ d B _ (HBx.out.at_ hB4) (HBx.out.le hB4)).mono ?_
    rintro e w5 ⟨rfl, hb5⟩
    have hB5 := bel2 hB4 hb5
    clear c0 c1 c2 c3 e0 e1 e2 e3 f0 f1 f2 f3 g0 g1 g2 g3
    by_cases hcc : p.circle = []
    · rw [loop_eq HC.out hcc]
      have hl0 : p.circle.length = 0 := by rw [hcc]; rfl
      have hl1 : decide (0 < p.circle.length) = false := by rw [hl0]; rfl
      have HL := hid hl0
      clear hl0 hcc hn
      go_wp2_with fail
      clear h1
      go_loopg [4] p.circle.length (fun k i W => ∃ j : Nat, j ≤ p.circle.length ∧ k = p.circle.length - j ∧ i = .int .i64 j ∧ Below w5.heap.size w5 W)
      case atStart => exact ⟨0, by omega, by omega, rfl, Below.refl _ _⟩
      case round =>
        obtain ⟨j, hj, rfl, rfl, hW⟩ := hrel
        obtain ⟨wo, rfl⟩ : ∃ wo : World, wo = wr := ⟨_, rfl⟩
        by_cases hlt : j < p.circle.length
        · obtain ⟨b0, off, rfl, hb0, hcell⟩ := HV.out.resolve_left (by intro h; rw [h] at hlt; simp at hlt)
          obtain ⟨m, hm⟩ : ∃ m, m = (j + 1) % p.circle.length := ⟨_, rfl⟩
          have hml : m < p.circle.length := by rw [hm]; exact Nat.mod_lt _ (by omega)
          have hR := HR.out j hlt
          have hWW : Below w4.heap.size w4 wo := hb5.trans (hW.mono hb5.size)
          have hBW := bel2 hB5 hW
          have q0 := (hWW.cell (p := ⟨b0, off + j, none⟩) hb0).trans (hcell j hlt).1
          have q1 := (hWW.cell (p := ⟨b0, off + m, none⟩) hb0).trans (hcell m hml).1
          obtain ⟨s0, hs0⟩ : ∃ s0, s0 = p.circle[j] := ⟨_, rfl⟩
          obtain ⟨s1, hs1⟩ : ∃ s1, s1 = p.circle[m] := ⟨_, rfl⟩
          rw [← hs0] at q0
          rw [← hs1] at q1
          have hnb : p.needB s0 s1 = true := by
            have := hR.1
            rw [hs0, hs1]
            simp only [hm]
            exact this
          have HNB := hid hnb
          have HNE := hid hR.2
          have HS0 := hid hs0
          have ht : Int.tmod ((j : Int) + 1) (p.circle.length : Int) = (m : Int) := by
            rw [hm, Int.tmod_eq_emod_of_nonneg (by omega)]; push_cast; rfl
          have he : ((j : Int) + 1) % (p.circle.length : Int) = (m : Int) := by rw [hm]; push_cast; rfl
          have hne : ((p.circle.length : Int) == 0) = false := by rw [beq_eq_false_iff_ne]; omega
          obtain ⟨z0, z1, z2, z3, z4⟩ := HBx.out.cells hBW
          have hj1 : (j : Int) + 1 ≤ 9223372036854775807 := by omega
          have hnz : ¬ (p.circle.length : Int) = 0 := by omega
          have hnz2 : ¬ p.circle.length = 0 := by omega
          have hw1 : IntKind.i64.wrap ((j : Int) + 1) = (j : Int) + 1 := IntWalk.i64_in _ (by omega)
          have hw2 : IntKind.i64.wrap (m : Int) = (m : Int) := IntWalk.i64_in _ (by omega)
          have hb0o : b0 < wo.heap.size := Nat.lt_of_lt_of_le hb0 hWW.size
          have HCELL := hid hcell
          clear hR hnb hs0 hs1 hm hcell
          go_wp2_with fail
          go_region_held3 (fun W => W.cell? ⟨w.heap.size, 0, none⟩ = some (.int .i64 p.st) ∧ W.cell? ⟨w.heap.size, 1, none⟩ = some (.slice ia p.ins.length ic) ∧ W.cell? ⟨w.heap.size, 2, none⟩ = some (.slice fa p.flows.length fc) ∧ W.cell? ⟨w.heap.size, 3, none⟩ = some (.slice oa p.outs.length oc) ∧ W.cell? ⟨b0, off + j, none⟩ = some (.string s0) ∧ W.cell? ⟨b0, off + m, none⟩ = some (.string s1) ∧ Below wo.heap.size wo W)
            (first | exact ⟨z0, z1, z2, z3, q0, q1, (Below.refl _ _).drew⟩ | exact ⟨(hb2.cell (p := ⟨w.heap.size, 0, none⟩) z4).trans z0, (hb2.cell (p := ⟨w.heap.size, 1, none⟩) z4).trans z1, (hb2.cell (p := ⟨w.heap.size, 2, none⟩) z4).trans z2, (hb2.cell (p := ⟨w.heap.size, 3, none⟩) z4).trans z3, (hb2.cell (p := ⟨b0, off + j, none⟩) hb0o).trans q0, (hb2.cell (p := ⟨b0, off + m, none⟩) hb0o).trans q1, ((Below.refl wo.heap.size wo).drew).trans hb2⟩)
            (first | (go_at_call 13; refine (lawNeeds_any p _ s0 s1 d B _ (HBx.out.at_ (by exact (by repeat (first | with_reducible exact hBW | with_reducible refine below_drewN ?_ _ | with_reducible refine Below.drew ?_ | with_reducible refine Below.alloc ?_ (by have hszz := Below.size (hBW); first | omega | (simp; done) | (simp at hszz ⊢; omega)) _ | with_reducible refine Below.setCell ?_ (by have hszz := Below.size (hBW); first | omega | (simp; done) | (simp at hszz ⊢; omega)) _)))) (HBx.out.le (by exact (by repeat (first | with_reducible exact hBW | with_reducible refine below_drewN ?_ _ | with_reducible refine Below.drew ?_ | with_reducible refine Below.alloc ?_ (by have hszz := Below.size (hBW); first | omega | (simp; done) | (simp at hszz ⊢; omega)) _ | with_reducible refine Below.setCell ?_ (by have hszz := Below.size (hBW); first | omega | (simp; done) | (simp at hszz ⊢; omega)) _)))) HS.out.1).mono ?_; rintro e w2 ⟨rfl, hb2⟩; rw [HNB.out]))
          rename_i hheld
          obtain ⟨_, _, _, _, k0, _, hB2w⟩ := hheld
          have hB6 : Below wo.heap.size wo w2 := hB2w
          clear z0 z1 z2 z3 q0 q1 hb2 hB2w ht he hne hnz hnz2 hw1 hw2
          go_wp2_with fail
          go_loopg [5] j (fun k i W => ∃ t : Nat, t ≤ j ∧ k = j - t ∧ i = .int .i64 t ∧ ∃ q, W = w2.drewN q)
          case atStart => exact ⟨0, by omega, by omega, rfl, 0, rfl⟩
          case round =>
            obtain ⟨t, htj, rfl, rfl, q, rfl⟩ := hrel
            by_cases htl : t < j
            · have htl2 : t < p.circle.length := by omega
              have q2 : w2.cell? ⟨b0, off + t, none⟩ = some (.string p.circle[t]) := ((hB6.cell (p := ⟨b0, off + t, none⟩) hb0o).trans (hWW.cell (p := ⟨b0, off + t, none⟩) hb0)).trans (HCELL.out t htl2).1
              have q3 : w2.cell? ⟨b0, off + j, none⟩ = some (.string s0) := k0
              have hne2 := HNE.out t htl
              rw [← HS0.out] at hne2
              generalize p.circle[t] = s2 at q2 hne2
              have he2 : (s2.toList == s0.toList) = false := str_ne.2 hne2
              clear hne2
              go_wp2_with fail
              go_quiet (fail)
              go_wp2_with fail
              go_roundg (j - (t + 1))
              case rel => exact ⟨t + 1, by omega, rfl, by go_num, _, rfl⟩
              case measure => omega
            · go_wp2_with fail
              go_roundg (p.circle.length - (j + 1))
              case rel => exact ⟨j + 1, by omega, rfl, by go_num, (hW.trans (hB6.mono hW.size)).trans (below_drewN (Below.refl _ _) q)⟩
              case measure => omega
        · go_wp2_with fail
          go_ret
          exact ⟨rfl, HBx.out.back (bel2 hB5 hW)⟩
    · rw [loop_ne HC.out hcc]
      have hl1 : decide (0 < p.circle.length) = true := by have := List.length_pos_iff.2 hcc; simpa using this
      have HCC := hid hcc
      clear hcc hn
      go_wp2_with fail
      clear h1
      go_loopg [4] p.circle.length (fun k i W => ∃ j : Nat, j ≤ p.circle.length ∧ k = p.circle.length - j ∧ i = .int .i64 j ∧ Below w5.heap.size w5 W)
      case atStart => exact ⟨0, by omega, by omega, rfl, Below.refl _ _⟩
      case round =>
        obtain ⟨j, hj, rfl, rfl, hW⟩ := hrel
        obtain ⟨wo, rfl⟩ : ∃ wo : World, wo = wr := ⟨_, rfl⟩
        by_cases hlt : j < p.circle.length
        · obtain ⟨b0, off, rfl, hb0, hcell⟩ := HV.out.resolve_left (by intro h; rw [h] at hlt; simp at hlt)
          obtain ⟨m, hm⟩ : ∃ m, m = (j + 1) % p.circle.length := ⟨_, rfl⟩
          have hml : m < p.circle.length := by rw [hm]; exact Nat.mod_lt _ (by omega)
          have hR := HR.out j hlt
          have hWW : Below w4.heap.size w4 wo := hb5.trans (hW.mono hb5.size)
          have hBW := bel2 hB5 hW
          have q0 := (hWW.cell (p := ⟨b0, off + j, none⟩) hb0).trans (hcell j hlt).1
          have q1 := (hWW.cell (p := ⟨b0, off + m, none⟩) hb0).trans (hcell m hml).1
          obtain ⟨s0, hs0⟩ : ∃ s0, s0 = p.circle[j] := ⟨_, rfl⟩
          obtain ⟨s1, hs1⟩ : ∃ s1, s1 = p.circle[m] := ⟨_, rfl⟩
          rw [← hs0] at q0
          rw [← hs1] at q1
          have hnb : p.needB s0 s1 = true := by
            have := hR.1
            rw [hs0, hs1]
            simp only [hm]
            exact this
          have HNB := hid hnb
          have HNE := hid hR.2
          have HS0 := hid hs0
          have ht : Int.tmod ((j : Int) + 1) (p.circle.length : Int) = (m : Int) := by
            rw [hm, Int.tmod_eq_emod_of_nonneg (by omega)]; push_cast; rfl
          have he : ((j : Int) + 1) % (p.circle.length : Int) = (m : Int) := by rw [hm]; push_cast; rfl
          have hne : ((p.circle.length : Int) == 0) = false := by rw [beq_eq_false_iff_ne]; omega
          obtain ⟨z0, z1, z2, z3, z4⟩ := HBx.out.cells hBW
          have hj1 : (j : Int) + 1 ≤ 9223372036854775807 := by omega
          have hnz : ¬ (p.circle.length : Int) = 0 := by omega
          have hnz2 : ¬ p.circle.length = 0 := by omega
          have hw1 : IntKind.i64.wrap ((j : Int) + 1) = (j : Int) + 1 := IntWalk.i64_in _ (by omega)
          have hw2 : IntKind.i64.wrap (m : Int) = (m : Int) := IntWalk.i64_in _ (by omega)
          have hb0o : b0 < wo.heap.size := Nat.lt_of_lt_of_le hb0 hWW.size
          have HCELL := hid hcell
          clear hR hnb hs0 hs1 hm hcell
          go_wp2_with fail
          go_region_held3 (fun W => W.cell? ⟨w.heap.size, 0, none⟩ = some (.int .i64 p.st) ∧ W.cell? ⟨w.heap.size, 1, none⟩ = some (.slice ia p.ins.length ic) ∧ W.cell? ⟨w.heap.size, 2, none⟩ = some (.slice fa p.flows.length fc) ∧ W.cell? ⟨w.heap.size, 3, none⟩ = some (.slice oa p.outs.length oc) ∧ W.cell? ⟨b0, off + j, none⟩ = some (.string s0) ∧ W.cell? ⟨b0, off + m, none⟩ = some (.string s1) ∧ Below wo.heap.size wo W)
            (first | exact ⟨z0, z1, z2, z3, q0, q1, (Below.refl _ _).drew⟩ | exact ⟨(hb2.cell (p := ⟨w.heap.size, 0, none⟩) z4).trans z0, (hb2.cell (p := ⟨w.heap.size, 1, none⟩) z4).trans z1, (hb2.cell (p := ⟨w.heap.size, 2, none⟩) z4).trans z2, (hb2.cell (p := ⟨w.heap.size, 3, none⟩) z4).trans z3, (hb2.cell (p := ⟨b0, off + j, none⟩) hb0o).trans q0, (hb2.cell (p := ⟨b0, off + m, none⟩) hb0o).trans q1, ((Below.refl wo.heap.size wo).drew).trans hb2⟩)
            (first | (go_at_call 13; refine (lawNeeds_any p _ s0 s1 d B _ (HBx.out.at_ (by exact (by repeat (first | with_reducible exact hBW | with_reducible refine below_drewN ?_ _ | with_reducible refine Below.drew ?_ | with_reducible refine Below.alloc ?_ (by have hszz := Below.size (hBW); first | omega | (simp; done) | (simp at hszz ⊢; omega)) _ | with_reducible refine Below.setCell ?_ (by have hszz := Below.size (hBW); first | omega | (simp; done) | (simp at hszz ⊢; omega)) _)))) (HBx.out.le (by exact (by repeat (first | with_reducible exact hBW | with_reducible refine below_drewN ?_ _ | with_reducible refine Below.drew ?_ | with_reducible refine Below.alloc ?_ (by have hszz := Below.size (hBW); first | omega | (simp; done) | (simp at hszz ⊢; omega)) _ | with_reducible refine Below.setCell ?_ (by have hszz := Below.size (hBW); first | omega | (simp; done) | (simp at hszz ⊢; omega)) _)))) HS.out.1).mono ?_; rintro e w2 ⟨rfl, hb2⟩; rw [HNB.out]))
          rename_i hheld
          obtain ⟨_, _, _, _, k0, _, hB2w⟩ := hheld
          have hB6 : Below wo.heap.size wo w2 := hB2w
          clear z0 z1 z2 z3 q0 q1 hb2 hB2w ht he hne hnz hnz2 hw1 hw2
          go_wp2_with fail
          go_loopg [5] j (fun k i W => ∃ t : Nat, t ≤ j ∧ k = j - t ∧ i = .int .i64 t ∧ ∃ q, W = w2.drewN q)
          case atStart => exact ⟨0, by omega, by omega, rfl, 0, rfl⟩
          case round =>
            obtain ⟨t, htj, rfl, rfl, q, rfl⟩ := hrel
            by_cases htl : t < j
            · have htl2 : t < p.circle.length := by omega
              have q2 : w2.cell? ⟨b0, off + t, none⟩ = some (.string p.circle[t]) := ((hB6.cell (p := ⟨b0, off + t, none⟩) hb0o).trans (hWW.cell (p := ⟨b0, off + t, none⟩) hb0)).trans (HCELL.out t htl2).1
              have q3 : w2.cell? ⟨b0, off + j, none⟩ = some (.string s0) := k0
              have hne2 := HNE.out t htl
              rw [← HS0.out] at hne2
              generalize p.circle[t] = s2 at q2 hne2
              have he2 : (s2.toList == s0.toList) = false := str_ne.2 hne2
              clear hne2
              go_wp2_with fail
              go_quiet (fail)
              go_wp2_with fail
              go_roundg (j - (t + 1))
              case rel => exact ⟨t + 1, by omega, rfl, by go_num, _, rfl⟩
              case measure => omega
            · go_wp2_with fail
              go_roundg (p.circle.length - (j + 1))
              case rel => exact ⟨j + 1, by omega, rfl, by go_num, (hW.trans (hB6.mono hW.size)).trans (below_drewN (Below.refl _ _) q)⟩
              case measure => omega
        · go_wp2_with fail
          go_ret
          exact ⟨rfl, HBx.out.back (bel2 hB5 hW)⟩
  · go_wp2_with fail
    refine (alive_any _).mono ?_
    rintro e w4 ⟨rfl, hb4⟩
    go_wp2_with fail
    go_ret
    exact ⟨rfl, HBx.out.back (bel2 hB2 hb4)⟩
/-- The stage's theorem: the call answers yes. -/
theorem round_any (p : PgD) (cs : List Value) (d B : Nat) (w : World) (hx : IsPg B w d p cs) (hB : B ≤ w.heap.size) :
    Calls Try.prog 3 #[.agg cs.toArray] w (Ret (.bool true) w) := by
  by_cases hc : p.clash = 0
  · exact round_yes p cs d B w hx hB hc
  · exact round_no p cs d B w hx hB hc
end Go.Proofs.Ytmepdfipigdjhaa
