/- Whether flows hang on themselves: circles.Check. -/
import Derived.Test.YtmepdfipigdjhaaC4
import Derived.Test.YtmepdfipigdjhaaK3
namespace Go.Proofs.Ytmepdfipigdjhaa
open Go.RowKit
set_option linter.unusedSimpArgs false
set_option linter.unusedVariables false

/-- What circles.Check answers. -/
def PgD.loop (p : PgD) : Int := if p.clash = 0 then (if p.circle = [] then 0 else 8) else p.clash
theorem clash_small {p : PgD} (h : p.clash = 0) : (∀ x ∈ p.flows, x.body.count ≤ 1000000) ∧ p.flows.length ≤ 1000000 := by
  obtain ⟨h1, _⟩ := clash_zero h
  have h2 := PgD.check_iff.1 h1
  refine ⟨fun x hx => ?_, by have := h2.2.2.2.1; omega⟩
  have h3 := List.all_eq_true.1 h2.2.2.2.2.2.2.1 x hx
  simp only [flOk, Bool.and_eq_true] at h3
  have := check_count h3.2
  omega
/-- The circle that is told, as a slice of texts. -/
def FindEnd (p : PgD) (w : World) (e : Ending) (w' : World) : Prop := (∃ v, e = .returned v ∧ IsSl w'.heap.size w' 1 IsStr p.circle v) ∧ Below w.heap.size w w'
theorem circle_size {p : PgD} (h : ∀ x ∈ p.flows, x.name.size ≤ maxLen) : ∀ s ∈ p.circle, s.size ≤ maxLen := by
  have hn : ∀ a : Int, (p.nameAt a).size ≤ maxLen := fun a => by
    rw [PgD.nameAt]
    split
    · rename_i x hx; exact h x (List.mem_of_getElem? hx)
    · show (0 : Nat) ≤ maxLen; omega
  intro s hs
  rcases circle_cases p with ⟨h1, _⟩ | ⟨a, k, _, _, _, h1⟩
  · rw [h1] at hs; simp at hs
  · rw [h1] at hs
    obtain ⟨y, _, rfl⟩ := List.mem_map.1 hs
    exact hn y
theorem IsPg.names {B d : Nat} {w : World} {p : PgD} {cs : List Value} (h : IsPg B w d p cs) : ∀ x ∈ p.flows, x.name.size ≤ maxLen := by
  obtain ⟨_, f, _, _, _, ⟨a, cap, _, _, _, h3⟩, _⟩ := h
  intro x hx
  obtain ⟨i, hi, rfl⟩ := List.getElem_of_mem hx
  rcases h3 with h3 | ⟨b, off, _, _, h4⟩
  · rw [h3] at hi; simp at hi
  · obtain ⟨cs, ⟨es, _, h5, _⟩, _⟩ := h4 i hi
    exact h5
theorem circleFind_sl (p : PgD) (cs : List Value) (d B : Nat) (w : World) (hx : IsPg B w d p cs) (hB : B ≤ w.heap.size) (hcount : ∀ x ∈ p.flows, x.body.count ≤ 1000000) (hmany : p.flows.length ≤ 1000000) :
    Calls Try.prog 11 #[.agg cs.toArray] w (FindEnd p w) :=
  (circleFind_any p cs d B w hx hB hcount hmany).mono fun e w' ⟨v, h1, h2, h3⟩ => by
    refine ⟨⟨v, h1, ?_⟩, h3⟩
    have h4 := own_isSl (f := strCells) (fun _ => rfl) h2
    have hs := circle_size hx.names
    obtain ⟨a, cap, rfl, h5, h6, h7⟩ := h4
    refine ⟨a, cap, rfl, h5, h6, h7.imp id ?_⟩
    rintro ⟨b, off, rfl, h8, h9⟩
    refine ⟨b, off, rfl, h8, fun i hi => ?_⟩
    obtain ⟨cs, rfl, h10⟩ := h9 i hi
    exact ⟨_, ⟨rfl, hs _ (List.getElem_mem hi)⟩, h10⟩
set_option maxHeartbeats 1000000 in
theorem circleCheck_any (p : PgD) (cs : List Value) (d B : Nat) (w : World) (hx : IsPg B w d p cs) (hB : B ≤ w.heap.size) :
    Calls Try.prog 12 #[.agg cs.toArray] w (Ret (.int .i64 p.loop) w) := by
  have HX := hid hx
  obtain ⟨i, f, o, rfl, hi, hf, ho⟩ := hx
  clear hi hf ho
  by_cases hc : p.clash = 0
  · have HS := hid (clash_small hc)
    have HL := hid (show p.loop = if p.circle = [] then 0 else 8 by rw [PgD.loop, if_pos hc])
    have hc2 : (p.clash == 0) = true := by simp [hc]
    have hc3 : (p.clash != 0) = false := by simp [hc]
    clear hc
    by_cases hcc : p.circle = []
    all_goals
      have HCC := hid hcc
      have hlen : decide (0 < p.circle.length) = !decide (p.circle = []) := by simp [hcc, List.length_pos_iff]
      clear hcc
      go_enter Try.func12, Try.ntmps12
      go_wp2_with (first
        | (go_at_call 10; refine (nameCheck_any p _ d B _ (by exact HX.out.mono (Nat.le_refl _) (fun b o' h => (bcell (B := w.heap.size) (by repeat (first | with_reducible exact Below.refl w.heap.size w | with_reducible refine below_drewN ?_ _ | with_reducible refine Below.drew ?_ | with_reducible refine Below.alloc ?_ (by have hszz := Below.size (Below.refl w.heap.size w); first | omega | (simp; done) | (simp at hszz ⊢; omega)) _ | with_reducible refine Below.setCell ?_ (by have hszz := Below.size (Below.refl w.heap.size w); first | omega | (simp; done) | (simp at hszz ⊢; omega)) _))).1 _ _ (by omega))) (by simp; omega)).mono ?_; rintro e w1 ⟨rfl, hb1⟩; have hs1 : w.heap.size < w1.heap.size := (by have := hb1.size; rw [World.size_alloc] at this; omega); have p0 := (hb1.cell (p := ⟨w.heap.size, 0, none⟩) (by simp)).trans (by simp : _ = some (Value.int .i64 p.st)); have p1 := (hb1.cell (p := ⟨w.heap.size, 1, none⟩) (by simp)).trans (by simp : _ = some i); have p2 := (hb1.cell (p := ⟨w.heap.size, 2, none⟩) (by simp)).trans (by simp : _ = some f); have p3 := (hb1.cell (p := ⟨w.heap.size, 3, none⟩) (by simp)).trans (by simp : _ = some o); have hB1 : Below w.heap.size w w1 := Below.trans (by repeat (first | with_reducible exact Below.refl w.heap.size w | with_reducible refine below_drewN ?_ _ | with_reducible refine Below.drew ?_ | with_reducible refine Below.alloc ?_ (by have hszz := Below.size (Below.refl w.heap.size w); first | omega | (simp; done) | (simp at hszz ⊢; omega)) _ | with_reducible refine Below.setCell ?_ (by have hszz := Below.size (Below.refl w.heap.size w); first | omega | (simp; done) | (simp at hszz ⊢; omega)) _)) (hb1.mono (by simp)); clear hb1)
        | (go_at_call 11; refine (circleFind_sl p _ d B _ (by exact HX.out.mono (Nat.le_refl _) (fun b o' h => (bcell (B := w.heap.size) hB1).1 _ _ (by omega))) (by omega) HS.out.1 HS.out.2).mono ?_; rintro e w2 ⟨⟨v, rfl, hv⟩, hb2⟩; obtain ⟨va, vc, rfl, _⟩ := hv.at_))
      all_goals
        go_ret
        first
          | (exfalso; have := HCC.out; rename_i hx; simp [this] at hx; done)
          | exact ⟨by rw [HL.out, if_pos HCC.out]; rfl, hB1.trans (hb2.mono (by omega))⟩
          | exact ⟨by rw [HL.out, if_neg HCC.out]; rfl, hB1.trans (hb2.mono (by omega))⟩
  · have hc2 : (p.clash != 0) = true := by simp [hc]
    have HL := hid (show p.loop = p.clash by rw [PgD.loop, if_neg hc])
    clear hc
    go_enter Try.func12, Try.ntmps12
    go_wp2_with (go_at_call 10; refine (nameCheck_any p _ d B _ (by exact HX.out.mono (Nat.le_refl _) (fun b o' h => (bcell (B := w.heap.size) (by repeat (first | with_reducible exact Below.refl w.heap.size w | with_reducible refine below_drewN ?_ _ | with_reducible refine Below.drew ?_ | with_reducible refine Below.alloc ?_ (by have hszz := Below.size (Below.refl w.heap.size w); first | omega | (simp; done) | (simp at hszz ⊢; omega)) _ | with_reducible refine Below.setCell ?_ (by have hszz := Below.size (Below.refl w.heap.size w); first | omega | (simp; done) | (simp at hszz ⊢; omega)) _))).1 _ _ (by omega))) (by simp; omega)).mono ?_; rintro e w1 ⟨rfl, hb1⟩)
    go_ret
    exact ⟨by rw [HL.out]; rfl, Below.trans (by repeat (first | with_reducible exact Below.refl w.heap.size w | with_reducible refine below_drewN ?_ _ | with_reducible refine Below.drew ?_ | with_reducible refine Below.alloc ?_ (by have hszz := Below.size (Below.refl w.heap.size w); first | omega | (simp; done) | (simp at hszz ⊢; omega)) _ | with_reducible refine Below.setCell ?_ (by have hszz := Below.size (Below.refl w.heap.size w); first | omega | (simp; done) | (simp at hszz ⊢; omega)) _)) (hb1.mono (by simp))⟩
end Go.Proofs.Ytmepdfipigdjhaa
