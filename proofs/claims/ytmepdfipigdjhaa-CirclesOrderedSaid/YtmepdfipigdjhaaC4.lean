/- The circle that is told: circles.Find, circles.Check. -/
import Derived.Test.YtmepdfipigdjhaaK1
import Derived.Sort.LoopGhostIn
namespace Go.Proofs.Ytmepdfipigdjhaa
open Go.RowKit
set_option linter.unusedSimpArgs false
set_option linter.unusedVariables false
attribute [local go_sem] Oper.semAt_some

def strCells (s : ByteArray) : List Value := [.string s]
theorem infoStr : (Try.prog.info? 9).map (fun i => (i.zero, i.size, i.bytes)) = some (some (.string ⟨#[]⟩), 1, 16) := by kernel_rfl
def markOf (D : Nat) : Deferred := { target := .collected D, args := #[] }

theorem kq_mark {W : World} {l : Nat} {o o' : Obj} (h : W.heap[l]? = some o) (hc : o.isCells = false) : Kq 0 0 W (W.putObj l o') := by
  refine ⟨by simp [World.putObj], fun b o1 h1 h2 => ?_⟩
  have hb : b ≠ l := by
    rintro rfl
    rw [h] at h1; cases h1
    rcases h2 with h2 | h2
    · rw [hc] at h2; cases h2
    · omega
  exact (World.putObj_heap_other hb).trans h1
theorem leave_marks {F : Fence} {n : Nat} {P : Program} {fn : Func} {R : Ending → World → Prop} {tmps : Array Value} {v : Value} {B : Nat} : ∀ (ds : List Nat) (W : World), ds.Nodup → (∀ D ∈ ds, B ≤ D ∧ W.heap[D]? = some (.deferred (some []))) →
    (∀ W', Below B W W' → Kq 0 0 W W' → (results fn tmps).run P W' = .ok v W' ∧ R (.returned v) W') → LeavesInM F n P fn tmps R (ds.map markOf) .returning W
  | [], W, _, _, h => ⟨v, h W (Below.refl _ _) (Kq.refl _ _ _)⟩
  | D :: ds, W, hn, hd, h => by
    obtain ⟨h1, h2⟩ := hd D (by simp)
    refine ⟨by simp, .inl ⟨D, _, rfl, run_takeDeferred h2, ?_⟩⟩
    refine leave_marks ds _ (List.nodup_cons.1 hn).2 (fun E hE => ?_) (fun W' hb hk => h W' ((below_put h1 _).trans hb) ((kq_mark h2 rfl).trans hk))
    have hne : E ≠ D := fun e => (List.nodup_cons.1 hn).1 (e ▸ hE)
    exact ⟨(hd E (by simp [hE])).1, (World.putObj_heap_other hne).trans (hd E (by simp [hE])).2⟩

set_option maxRecDepth 100000 in
set_option maxHeartbeats 8000000 in
theorem circle_in (p : PgD) (cs : List Value) (d B : Nat) (w : World) (hx : IsPg B w d p cs) (hB : B ≤ w.heap.size) (hcount : ∀ x ∈ p.flows, x.body.count ≤ 1000000) (hmany : p.flows.length ≤ 1000000) :
    CallsIn Fence.wide 30 Try.prog 11 #[.agg cs.toArray] w fun e w' => ∃ v, e = .returned v ∧ w'.ownsRow w.heap.size 9 1 v p.circle.length (p.circle.flatMap strCells) ∧ Below w.heap.size w w' := by
  have HX := hid hx
  have HCount := hid hcount
  obtain ⟨i, f, o, rfl, hi, hf, ho⟩ := hx
  obtain ⟨fa, fc, rfl, fl, hfx⟩ := hf.at_
  unfold maxLen at fl
  have HF := hid hfx
  have hmm := @run_makeMap Try.prog
  clear hi hf ho hfx hcount
  refine callsIn_of_wp_marks Try.func11 rfl trivial ?_ rfl
  simp only [Try.ntmps11, List.size_toArray, List.length_cons, List.length_nil, Nat.reduceAdd, Nat.reduceSub, Array.replicate_succ, Array.replicate_zero, List.push_toArray, List.append_toArray, List.nil_append, List.cons_append]
  gi_wp2_with (refine ⟨trivial, ?_⟩; gi_at_call 24; refine (callsIn_wide.2 (needs_any p [.int .i64 p.st, i, .slice fa p.flows.length fc, o] d B _ ?_ ?_ HCount.out)).mono ?_; (exact HX.out.mono (Nat.le_refl _) (fun b o' h => (bcell (B := w.heap.size) (by repeat (first | with_reducible exact Below.refl w.heap.size w | with_reducible refine below_drewN ?_ _ | with_reducible refine Below.drew ?_ | with_reducible refine Below.alloc ?_ (by have hszz := Below.size (Below.refl w.heap.size w); first | omega | (simp; done) | (simp at hszz ⊢; omega)) _ | with_reducible refine Below.setCell ?_ (by have hszz := Below.size (Below.refl w.heap.size w); first | omega | (simp; done) | (simp at hszz ⊢; omega)) _))).1 _ _ (by omega))); (simp; omega); rintro e w1 ⟨bm, rfl, hbm, hall, hb1⟩; have p0 := (hb1.cell (p := ⟨w.heap.size, 0, none⟩) (by simp)).trans (by simp : _ = some (Value.int .i64 p.st)); have p1 := (hb1.cell (p := ⟨w.heap.size, 1, none⟩) (by simp)).trans (by simp : _ = some i); have p2 := (hb1.cell (p := ⟨w.heap.size, 2, none⟩) (by simp)).trans (by simp : _ = some (Value.slice fa p.flows.length fc)); have p3 := (hb1.cell (p := ⟨w.heap.size, 3, none⟩) (by simp)).trans (by simp : _ = some o); have hs1 : w.heap.size < w1.heap.size := (by have := hb1.size; rw [World.size_alloc] at this; omega); have hB1 : Below w.heap.size w w1 := Below.trans (by repeat (first | with_reducible exact Below.refl w.heap.size w | with_reducible refine below_drewN ?_ _ | with_reducible refine Below.drew ?_ | with_reducible refine Below.alloc ?_ (by have hszz := Below.size (Below.refl w.heap.size w); first | omega | (simp; done) | (simp at hszz ⊢; omega)) _ | with_reducible refine Below.setCell ?_ (by have hszz := Below.size (Below.refl w.heap.size w); first | omega | (simp; done) | (simp at hszz ⊢; omega)) _)) (hb1.mono (by simp)); clear hb1)
  refine wpIn_loop_ghost_k (fun k a W => ∃ (j : Nat) (ds : List Nat) (u4 u5 u6 u7 u8 u9 u10 u11 u18 u19 u20 u21 u22 u23 u24 u25 u26 u27 u28 u29 u30 u31 u32 u33 u34 u35 u36 u37 u38 u39 u40 u41 u42 u43 u44 u45 u46 u47 u48 u49 u50 u51 u52 u53 u54 u55 u56 u57 u58 u59 u60 u61 u62 u63 u64 u65 u66 u67 u68 u69 u70 u71 u72 u73 u74 : Value), a = { tmps := #[.agg #[.int .i64 p.st, i, .slice fa p.flows.length fc, o], .pointer (some ⟨w.heap.size, 0, none⟩), .slice none 0 0, .map (some bm), u4, u5, u6, u7, u8, u9, u10, u11, .agg #[.int .i64 p.st, i, .slice fa p.flows.length fc, o], .map (some bm), .pointer (some ⟨w.heap.size, 2, none⟩), .slice fa p.flows.length fc, .int .i64 p.flows.length, .int .i64 j, u18, u19, u20, u21, u22, u23, u24, u25, u26, u27, u28, u29, u30, u31, u32, u33, u34, u35, u36, u37, u38, u39, u40, u41, u42, u43, u44, u45, u46, u47, u48, u49, u50, u51, u52, u53, u54, u55, u56, u57, u58, u59, u60, u61, u62, u63, u64, u65, u66, u67, u68, u69, u70, u71, u72, u73, u74], defers := ds.map markOf } ∧ j ≤ p.flows.length ∧ k = p.flows.length - j ∧ p.circle = p.circleFrom (p.flows.length - j) j ∧ ds.Nodup ∧ (∀ D ∈ ds, w1.heap.size ≤ D ∧ W.heap[D]? = some (.deferred (some []))) ∧ Below w1.heap.size w1 W) p.flows.length ?start ?round
  case start => exact ⟨0, [], _, _, _, _, _, _, _, _, _, _, _, _, _, _, _, _, _, _, _, _, _, _, _, _, _, _, _, _, _, _, _, _, _, _, _, _, _, _, _, _, _, _, _, _, _, _, _, _, _, _, _, _, _, _, _, _, _, _, _, _, _, _, _, _, _, rfl, Nat.zero_le _, rfl, rfl, List.nodup_nil, by simp, Below.refl _ _⟩
  case round =>
    rintro k a W ⟨j, ds, u4, u5, u6, u7, u8, u9, u10, u11, u18, u19, u20, u21, u22, u23, u24, u25, u26, u27, u28, u29, u30, u31, u32, u33, u34, u35, u36, u37, u38, u39, u40, u41, u42, u43, u44, u45, u46, u47, u48, u49, u50, u51, u52, u53, u54, u55, u56, u57, u58, u59, u60, u61, u62, u63, u64, u65, u66, u67, u68, u69, u70, u71, u72, u73, u74, rfl, hj, rfl, hcir, hnd, hds, hW⟩ J K hJ hK
    have q0 := (hW.cell (p := ⟨w.heap.size, 0, none⟩) hs1).trans p0
    have q1 := (hW.cell (p := ⟨w.heap.size, 1, none⟩) hs1).trans p1
    have q2 := (hW.cell (p := ⟨w.heap.size, 2, none⟩) hs1).trans p2
    have q3 := (hW.cell (p := ⟨w.heap.size, 3, none⟩) hs1).trans p3
    have hsW := hW.size
    have hs1W : w.heap.size < W.heap.size := by omega
    have HDs := hid hds
    have HNd := hid hnd
    have HCir := hid hcir
    clear hds hnd hcir
    by_cases hlt : j < p.flows.length
    · gi_wp2_with (refine ⟨trivial, ?_⟩; gi_at_call 25; refine (callsIn_wide.2 (come_any bm p.flows.length j _)).mono ?_; rintro e w2 ⟨rfl, hww⟩)
      simp only [World.size_alloc, Nat.add_assoc, Nat.reduceAdd] at hww ⊢
      have hsz : w2.heap.size = W.heap.size + 5 := by rw [← hww]; simp
      have hB2 : Below W.heap.size W w2 := by rw [← hww]; exact (by repeat (first | with_reducible exact Below.refl W.heap.size W | with_reducible refine below_drewN ?_ _ | with_reducible refine Below.drew ?_ | with_reducible refine Below.alloc ?_ (by have hszz := Below.size (Below.refl W.heap.size W); first | omega | (simp; done) | (simp at hszz ⊢; omega)) _ | with_reducible refine Below.setCell ?_ (by have hszz := Below.size (Below.refl W.heap.size W); first | omega | (simp; done) | (simp at hszz ⊢; omega)) _))
      have oM : MapAt (Value.int .i64) w2 W.heap.size [] := by rw [← hww]; exact ((((MapAt.made' _ _ rfl).alloc _).alloc _).alloc _).alloc _
      have oF : One w2 (W.heap.size + 1) (.map (some W.heap.size)) 66 := by rw [← hww]; exact (by repeat (first | (refine One.new' _ _ _ ?_; simp; done) | refine One.alloc ?_ _))
      have o3 : One w2 (W.heap.size + 2) (.map (some bm)) 64 := by rw [← hww]; exact (by repeat (first | (refine One.new' _ _ _ ?_; simp; done) | refine One.alloc ?_ _))
      have o1 : One w2 (W.heap.size + 3) (.int .i64 p.flows.length) 3 := by rw [← hww]; exact (by repeat (first | (refine One.new' _ _ _ ?_; simp; done) | refine One.alloc ?_ _))
      have o2 : One w2 (W.heap.size + 4) (.int .i64 j) 3 := by rw [← hww]; exact (by repeat (first | (refine One.new' _ _ _ ?_; simp; done) | refine One.alloc ?_ _))
      clear hww
      have hallW : AllAt w2 bm p.flows.length p.needs := (hall.below hW).below hB2
      have hbmW : bm < W.heap.size := by omega
      refine wpIn_range_low rfl (by omega) (gf := 47) (lb := #[.pointer (some ⟨W.heap.size + 3, 0, none⟩), .pointer (some ⟨W.heap.size + 4, 0, none⟩), .pointer (some ⟨W.heap.size + 2, 0, none⟩)]) rfl trivial (enters_of Try.func47 (by kernel_rfl) rfl)
        (come_low _ (by omega) (W.heap.size + 5) W.heap.size bm (W.heap.size + 3) (W.heap.size + 4) (W.heap.size + 2) p.flows.length j p.needs hmany w2 (by omega) (by omega) (by omega) o1 o2 o3 hallW) Kq.trans (Kq.put (by omega)) (Below.refl _ _) (fun _ => rfl)
        (fun pre A => (((∃ ks, MapAt (Value.int .i64) A W.heap.size ks ∧ ∀ x, (getA x ks).getD (.int .i64 0) = .int .i64 (farOf pre x)) ∧ One A (W.heap.size + 1) (.map (some W.heap.size)) 66) ∧ ∀ D ∈ ds, w1.heap.size ≤ D ∧ A.heap[D]? = some (.deferred (some []))) ∧ Below W.heap.size W A)
        (fun c pre A => False)
        (Low.and (fun pre A A' hs hb => ⟨⟨by obtain ⟨ks, h1, h2⟩ := hs.1.1; exact ⟨ks, h1.below hb (by omega), h2⟩, hs.1.2.below hb (by omega)⟩, fun D hD => ⟨(hs.2 D hD).1, (hb.block D (by have := (Array.getElem?_eq_some_iff.1 (HDs.out D hD).2).1; omega)).trans (hs.2 D hD).2⟩⟩) (low_below (by omega)))
        (fun c => fun pre A A' hs hb => hs)
        ⟨⟨⟨⟨[], oM, fun x => rfl⟩, oF⟩, fun D hD => ⟨(HDs.out D hD).1, (hB2.block D (Array.getElem?_eq_some_iff.1 (HDs.out D hD).2).1).trans (HDs.out D hD).2⟩⟩, hB2⟩
        (fun x a' A => a' = { tmps := #[.agg #[.int .i64 p.st, i, .slice fa p.flows.length fc, o], .pointer (some ⟨w.heap.size, 0, none⟩), .slice none 0 0, .map (some bm), .int .i64 j, .pointer (some ⟨W.heap.size + 1, 0, none⟩), .int .i64 x.1, .int .i64 x.2, u8, u9, u10, u11, .agg #[.int .i64 p.st, i, .slice fa p.flows.length fc, o], .map (some bm), .pointer (some ⟨w.heap.size, 2, none⟩), .slice fa p.flows.length fc, .int .i64 p.flows.length, .int .i64 j, .bool true, .int .i64 j, .map (some W.heap.size), .map (some bm), .pointer (some ⟨w.heap.size, 2, none⟩), .slice fa p.flows.length fc, .int .i64 p.flows.length, .int .i64 j, .func (.func 47) #[] #[.pointer (some ⟨W.heap.size + 3, 0, none⟩), .pointer (some ⟨W.heap.size + 4, 0, none⟩), .pointer (some ⟨W.heap.size + 2, 0, none⟩)], .int .i64 x.1, .int .i64 x.2, u29, u30, u31, u32, u33, u34, u35, u36, u37, u38, u39, u40, u41, u42, u43, u44, u45, u46, u47, u48, u49, u50, u51, u52, u53, u54, u55, u56, u57, u58, u59, u60, u61, u62, u63, u64, u65, u66, u67, u68, u69, u70, u71, u72, u73, u74], defers := [] })
        (fun x a' _ X Y row hs hg hr => hs) ?assign ?body ?done ?stop
      case assign =>
        rintro l pre x A K2 ⟨⟨⟨hfar, oF4⟩, hK4⟩, hBW4⟩ hzz hK2
        simp only [encCome]
        gi_wp2
        exact hK2 _ _ (KeepsFrom.refl _ _) (Kq.refl _ _ _) ⟨⟨⟨hfar, oF4⟩, hK4⟩, hBW4⟩ rfl
      case stop => intro D c pre A hD hp hf; exact hf.elim
      case body =>
        rintro l pre x a' A hl ⟨r, hr⟩ hzz ⟨⟨⟨⟨ks, hm, hg⟩, oF4⟩, hK4⟩, hBW4⟩ rfl hlt2
        have cF := oF4.cell
        have HG := hid hg
        have HK4 := hid hK4
        clear hg hK4 hr
        gi_wp2_with (gi_at_mapUpdate
                     refine wpListIn_update_map (vv := .int .i64 x.2) (intKey Try.underlying3) Try.underlying66 (by rfl) (by rfl) (by rfl) hm (x.1 : Int) (by rfl) (by rfl) ?_
                     intro w5 hmp hbt)
        have hf5 := FarAt.put hmp HG.out
        refine ⟨hbt.keepsFrom (by omega), Kq.but hbt hm.isMap, ⟨⟨hf5, oF4.but hbt (by omega)⟩, fun D hD => ?_⟩, hBW4.trans (hbt.below (Nat.le_refl _) hBW4.size)⟩
        have h1 := (Array.getElem?_eq_some_iff.1 (HDs.out D hD).2).1
        have h2 := (HK4.out D hD).2
        exact ⟨(HK4.out D hD).1, (hbt.block D (Array.getElem?_eq_some_iff.1 h2).1 (by omega)).trans h2⟩
      case done =>
        rintro E xs A hE rfl ⟨⟨⟨⟨ks, hm, hg⟩, oF4⟩, hK4⟩, hBA⟩ hKE
        have hfA : FarAt A W.heap.size (p.far j) := ⟨ks, hm, hg⟩
        have hrun := lookup_far hfA (j : Int)
        have cF := oF4.cell
        have hlA : W.heap.size < A.heap.size := hfA.lt
        have hlA1 : W.heap.size + 1 < A.heap.size := oF4.lt
        have hlA0 : w.heap.size < A.heap.size := by omega
        have a0 := (hBA.cell (p := ⟨w.heap.size, 0, none⟩) hs1W).trans q0
        have a1 := (hBA.cell (p := ⟨w.heap.size, 1, none⟩) hs1W).trans q1
        have a2 := (hBA.cell (p := ⟨w.heap.size, 2, none⟩) hs1W).trans q2
        have a3 := (hBA.cell (p := ⟨w.heap.size, 3, none⟩) hs1W).trans q3
        have hEl : E < A.heap.size := (Array.getElem?_eq_some_iff.1 hKE).1
        have hnd2 : (E :: ds).Nodup := by
          refine List.nodup_cons.2 ⟨fun h => ?_, HNd.out⟩
          have := (Array.getElem?_eq_some_iff.1 (HDs.out E h).2).1
          omega
        have hds2 : ∀ D ∈ E :: ds, w1.heap.size ≤ D ∧ A.heap[D]? = some (.deferred (some [])) := by
          intro D hD
          rcases List.mem_cons.1 hD with rfl | hD
          · exact ⟨by omega, hKE⟩
          · exact hK4 D hD
        have HD2 := hid hds2
        have HN2 := hid hnd2
        clear hm hg hK4 hds2 hnd2 q0 q1 q2 q3
        by_cases hz : p.far j j = 0
        · have hz2 : (p.far j j == 0) = true := by simp [hz]
          have HZ := hid hz
          clear hz
          gi_wp2
          refine Handed.intro (p.flows.length - (j + 1)) (by omega) (hJ _ _ _ ?_)
          refine ⟨j + 1, E :: ds, _, _, _, _, _, _, _, _, _, _, _, _, _, _, _, _, _, _, _, _, _, _, _, _, _, _, _, _, _, _, _, _, _, _, _, _, _, _, _, _, _, _, _, _, _, _, _, _, _, _, _, _, _, _, _, _, _, _, _, _, _, _, _, _, _, rfl, by omega, rfl, ?_, HN2.out, HD2.out, hW.trans (hBA.mono hsW)⟩
          rw [HCir.out, show p.flows.length - j = (p.flows.length - (j + 1)) + 1 by omega, PgD.circleFrom, if_pos HZ.out]
        · have hz2 : (p.far j j == 0) = false := by simp [hz]
          have HZ := hid hz
          clear hz
          obtain ⟨b, off, rfl, hb, hc⟩ := HF.out.resolve_left (by intro h; rw [h] at hlt; simp at hlt)
          obtain ⟨cs, h5, _, h6⟩ := hc j hlt
          obtain ⟨op, n5, s5, a5, len5, cap5, rfl, _⟩ := h5.cells
          have hBall : Below w.heap.size w A := hB1.trans ((hW.mono (by omega)).trans (hBA.mono (by omega)))
          have k0 := (hBall.cell (p := ⟨b, off + j * 8 + 0, none⟩) (by show b < w.heap.size; omega)).trans (h6 0 (by simp))
          simp only [Nat.add_zero, List.getElem_cons_zero] at k0
          clear h6 h5
          have hrun2 := lookup_far (hfA.below ((Below.refl A.heap.size A).alloc (Nat.le_refl _) (.cells #[.string p.flows[j].name] 9)) hlA) (j : Int)
          have hnm : p.nameAt j = p.flows[j].name := by rw [PgD.nameAt]; simp [hlt]
          generalize p.flows[j].name = nm at k0 hrun2 hnm
          have hfb := far_bound HZ.out
          obtain ⟨kk0, hkk0⟩ : ∃ kk : Nat, p.far j j = (kk : Int) + 1 := ⟨(p.far j j - 1).toNat, by have := hfb.1; show p.far j j = _; change 1 ≤ p.far j j at this; omega⟩
          have hkb : kk0 ≤ 2000000 := by have h1 := hfb.2; change p.far j j < _ at h1; omega
          rw [hkk0] at hrun hrun2 hz2
          have hring : p.circle = (p.ring j).map p.nameAt := by
            rw [HCir.out, show p.flows.length - j = (p.flows.length - (j + 1)) + 1 by omega, PgD.circleFrom, if_neg HZ.out]
          have hring2 : p.circle = [nm] ++ (hopC p.needs (p.far j) kk0 j).map p.nameAt := by
            rw [hring, PgD.ring, List.map_cons, hnm, hkk0, show ((kk0 : Int) + 1 - 1).toNat = kk0 by omega]; rfl
          have HRing := hid hring2
          have HK0 := hid hkk0
          clear hring hring2 hfb hnm hkk0
          gi_wp2
          gi_loopg [8, 9, 10] kk0 (fun gh v8 v9 v10 W4 => ∃ (kk at_ : Nat) (lst : List ByteArray) (bk : Nat), kk = gh ∧ v9 = .int .i64 at_ ∧ v10 = .pointer (some ⟨bk, 0, none⟩) ∧ at_ < p.flows.length ∧ p.far j at_ = (kk : Int) + 1 ∧ kk ≤ kk0 ∧ p.circle = lst ++ (hopC p.needs (p.far j) kk at_).map p.nameAt ∧
            W4.ownsRow A.heap.size 9 1 v8 lst.length (lst.flatMap strCells) ∧ One W4 bk (.int .i64 kk) 3 ∧ A.heap.size ≤ bk ∧ some bk ≠ v8.ownBlock ∧ Below A.heap.size A W4 ∧ lst.length + kk ≤ 3000000)
          case atStart =>
            refine ⟨kk0, j, [nm], A.heap.size + 1, rfl, rfl, rfl, hlt, HK0.out, Nat.le_refl _, HRing.out, ?_, ?_, by omega, by simp [Value.ownBlock], ?_, by simp; omega⟩
            · refine World.ownsRow.alloc ⟨rfl, .inr ⟨A.heap.size, 1, #[.string nm], rfl, Nat.le_refl _, heap_alloc_new _ _, by simp, by decide, rfl, rfl⟩⟩ _
            · exact One.new' _ _ _ (by simp)
            · exact ((Below.refl _ A).alloc (Nat.le_refl _) _).alloc (by simp) _
          case round =>
            obtain ⟨kk, at_, lst, bk, rfl, rfl, rfl, hat, hfar, hkle, hcirc, hown, hone, hbk, hnb, hBW4, hlen⟩ := hrel
            have HCirc := hid hcirc
            have HFar := hid hfar
            have HNb := hid hnb
            clear hcirc hfar hnb
            obtain ⟨va, vn, vc, rfl⟩ := own_val hown
            have ck := hone.cell
            have fk := hone.free
            have lk := hone.lt
            by_cases hk0 : kk = 0
            · subst hk0
              gi_wp2
              refine leave_marks (E :: ds) _ HN2.out (fun D hD => ⟨(HD2.out D hD).1, (hBW4.block D (Array.getElem?_eq_some_iff.1 (HD2.out D hD).2).1).trans (HD2.out D hD).2⟩) (B := w1.heap.size) (v := .slice va vn vc) ?_
              intro W' hb hkq
              refine ⟨by simp [results, Try.results11, go_sem], _, rfl, ?_, ?_⟩
              · rw [HCirc.out, hopC, List.map_nil, List.append_nil]
                exact hkq.own (own_base hown (by omega))
              · exact hB1.trans (((hW.trans (hBA.mono hsW)).trans (hBW4.mono (by omega))).trans hb |>.mono (by omega))
            · obtain ⟨m, rfl⟩ : ∃ m, kk = m + 1 := ⟨kk - 1, by omega⟩
              have hprev := far_prev (need := p.needs) (many := p.flows.length) (a := j) (x := at_) (k := ((m + 1 : Nat) : Int)) (by omega) (by have := HFar.out; rw [PgD.far] at this; rw [this])
              obtain ⟨hz0, hz1, hz3, hz4⟩ := placeZ_get hprev 0
              obtain ⟨nn, hnn⟩ : ∃ nn : Nat, placeZ (fun x => decide (p.far j x = ((m + 1 : Nat) : Int))) (p.needs at_) = (nn : Int) := ⟨_, (Int.toNat_of_nonneg hz0).symm⟩
              have hnn2 := hnn
              rw [PgD.far] at hnn2
              rw [hnn2, Int.toNat_natCast] at hz1 hz3 hz4
              rw [hnn2] at hz0
              have hx5 : (p.needs at_).getD nn 0 = (p.needs at_)[nn] := by rw [List.getD_eq_getElem?_getD, List.getElem?_eq_getElem hz1]; rfl
              rw [hx5] at hz3 hz4
              have hz5 : farOf (comeC p.needs p.flows.length j) (p.needs at_)[nn] = ((m + 1 : Nat) : Int) := by simpa using hz4
              obtain ⟨g, hg1, hg2, _⟩ := far_nat (need := p.needs) (many := p.flows.length) (a := j) (y := (p.needs at_)[nn]) (by rw [hz5]; omega)
              have hfg : p.far j g = (m : Int) + 1 := by rw [PgD.far, ← hg1, hz5]; push_cast; rfl
              have hhop : hopC p.needs (p.far j) (m + 1) at_ = (g : Int) :: hopC p.needs (p.far j) m g := by
                rw [hopC]
                have h1 : ((at_ : Int)).toNat = at_ := Int.toNat_natCast _
                rw [h1, hnn, Int.toNat_natCast, hx5, hg1]
              have hAll : AllAt wr bm p.flows.length p.needs := ((hall.below hW).below hBA).below hBW4
              obtain ⟨ks2, hm2, hrows2, _⟩ := hAll
              have hrow := hrows2 at_
              obtain ⟨ra, rc, hrv, hrl, hrx⟩ := hrow.at_
              have hrunA := lookup_need hm2 (at_ : Int)
              rw [hrv] at hrunA hrow
              obtain ⟨b2, off2, hra, hb2l, hc2⟩ := hrx.resolve_left (by intro h; rw [h] at hz1; simp at hz1)
              subst hra
              obtain ⟨cs2, hcs2, _, h62⟩ := hc2 nn hz1
              rw [hg1] at hcs2
              have hcs3 : cs2 = [.int .i64 g] := hcs2
              subst hcs3
              have kx := h62 0 (by simp)
              simp only [Nat.add_zero, Nat.mul_one, List.getElem_cons_zero] at kx
              have HRow := hid hrow
              have HHop := hid hhop
              have HFg := hid hfg
              have hBw5 : Below w.heap.size w wr := hBall.trans (hBW4.mono hBall.size)
              obtain ⟨cs5, h5g, _, h6g⟩ := hc g hg2
              obtain ⟨op6, n6, s6, a6, len6, cap6, rfl, _⟩ := h5g.cells
              have kg := (hBw5.cell (p := ⟨b, off + g * 8 + 0, none⟩) (by show b < w.heap.size; omega)).trans (h6g 0 (by simp))
              simp only [Nat.add_zero, List.getElem_cons_zero] at kg
              have hnm2 : p.nameAt g = p.flows[g].name := by rw [PgD.nameAt]; simp [hg2]
              have HNm := hid hnm2
              generalize p.flows[g].name = nm2 at kg HNm
              have oFw := oF4.below hBW4 hlA1
              have hfw := hfA.below hBW4 hlA
              have z2 := (hBW4.cell (p := ⟨w.heap.size, 2, none⟩) hlA0).trans a2
              have hlw : W.heap.size < wr.heap.size := Nat.lt_of_lt_of_le hlA hBW4.size
              have hlw1 : w.heap.size < wr.heap.size := Nat.lt_of_lt_of_le hlA0 hBW4.size
              have hlen2 : lst.length ≤ 3000000 := by omega
              obtain ⟨i0, hi, hq0, hq1, hq2⟩ := info_parts infoStr
              clear hhop hfg hprev hz0 hz3 hz4 hz5 hnn2 hx5 hg1 hcs2 h62 hc2 hrx hrows2 hrow h6g h5g hnm2 hk0
              gi_wp2_with (first
                | (refine ⟨trivial, ?_⟩
                   gi_at_call 26
                   refine (callsIn_wide.2 (indexFuncFar (p.needs at_) (fun x => decide (p.far j x = ((m + 1 : Nat) : Int))) _ #[.pointer (some ⟨W.heap.size + 1, 0, none⟩), .pointer (some ⟨bk, 0, none⟩)] _ HRow.out ?_)).mono ?_
                   · intro x W5 hx5 hb5
                     exact find1_any _ _ _ _ _ _ _ (oFw.below hb5 (by omega)) (hone.below hb5 lk) (hfw.below hb5 hlw)
                   rintro e w5 ⟨rfl, hb5⟩
                   rw [hnn]
                   have hrunB := lookup_need (hm2.below hb5 hm2.lt) (at_ : Int)
                   rw [hrv] at hrunB
                   have kx5 := (hb5.cell (p := ⟨b2, off2 + nn, none⟩) hb2l).trans kx
                   have kg5 := (hb5.cell (p := ⟨b, off + g * 8, none⟩) (by show b < wr.heap.size; omega)).trans kg
                   have z25 := (hb5.cell (p := ⟨w.heap.size, 2, none⟩) hlw1).trans z2
                   have one5 := hone.below hb5 lk
                   have ck5 := one5.cell
                   have fk5 := one5.free
                   have lk5 := one5.lt
                   have hs5 := hb5.size
                   have hl5 : w.heap.size < w5.heap.size := Nat.lt_of_lt_of_le hlw1 hs5
                   have hown5 := own_below hown hb5)
                | (gi_at_builtin
                   go_loud (
                   refine wpListIn_append_own _ rfl _ _ 24 rfl A.heap.size 9 i0 _ 1 16 Try.underlying24 hi hq0 hq1 hq2 rfl (by decide) (.slice va vn vc) lst.length _ rfl (hown5.alloc _) ⟨w5.heap.size, 0, none⟩ 1 1 (strCells nm2) rfl rfl (World.news_of_block (cs := #[.string nm2]) (t := 9) (fr := (0, 0)) (alloc_new_at _ _ (by rfl))) ?_ ?_ ?_ ?_ ?_
                   · simp [strCells, Value.oneCell']
                   · unfold maxLen; omega
                   · omega
                   · simp; have := hBW4.size; omega
                   intro v' w6 hown6 hgrow _
                   obtain ⟨g', cap', rfl⟩ := own_slice hown6
                   have one6 := (one5.alloc (.cells #[.string nm2] 9)).grown hgrow HNb.out
                   have ck6 := one6.cell
                   have fk6 := one6.free
                   have lk6 := one6.lt)))
              have hA4 := hBW4.size
              have hg6 := hgrow.size
              simp only [World.size_alloc] at hg6
              gi_roundg m
              case rel =>
                refine ⟨m, g, lst ++ [nm2], w6.heap.size, rfl, rfl, rfl, hg2, HFg.out, by omega, ?_, ?_, One.new _ _ _, by omega, own_ne' hown6 (Nat.le_refl _), ?_, by simp; omega⟩
                · rw [HCirc.out, HHop.out, List.map_cons, HNm.out]; simp
                · have e1 : (lst ++ [nm2]).length = lst.length + 1 := by simp
                  have e2 : (lst ++ [nm2]).flatMap strCells = lst.flatMap strCells ++ strCells nm2 := by simp
                  rw [e1, e2]
                  exact hown6.alloc _
                · exact ((((hBW4.trans (hb5.mono hA4)).alloc (by omega) _).grown hgrow (by simp; omega) (fun k e => (hown5.lt k e).1)).alloc (by omega) _)
              case measure => omega
    · have hcl : p.circle = [] := by rw [HCir.out, show p.flows.length - j = 0 by omega, PgD.circleFrom]
      gi_wp2
      refine leave_marks ds W HNd.out HDs.out (B := w1.heap.size) (v := .slice none 0 0) ?_
      intro W' hb _
      refine ⟨by simp [results, Try.results11, go_sem], _, rfl, ?_, hB1.trans ((hW.trans hb).mono (by omega))⟩
      first | exact World.ownsRow_nil _ _ _ _ | (rw [hcl]; exact World.ownsRow_nil _ _ _ _)
theorem circleFind_any (p : PgD) (cs : List Value) (d B : Nat) (w : World) (hx : IsPg B w d p cs) (hB : B ≤ w.heap.size) (hcount : ∀ x ∈ p.flows, x.body.count ≤ 1000000) (hmany : p.flows.length ≤ 1000000) :
    Calls Try.prog 11 #[.agg cs.toArray] w fun e w' => ∃ v, e = .returned v ∧ w'.ownsRow w.heap.size 9 1 v p.circle.length (p.circle.flatMap strCells) ∧ Below w.heap.size w w' :=
  callsIn_wide.1 (circle_in p cs d B w hx hB hcount hmany)
end Go.Proofs.Ytmepdfipigdjhaa
