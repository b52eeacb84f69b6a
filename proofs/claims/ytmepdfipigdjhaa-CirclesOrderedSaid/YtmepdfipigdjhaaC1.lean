/- Which flows each flow needs at once: circles.needs. -/
import Derived.Test.YtmepdfipigdjhaaN4
import Derived.Test.YtmepdfipigdjhaaS2
namespace Go.Proofs.Ytmepdfipigdjhaa
open Go.RowKit
set_option linter.unusedSimpArgs false
set_option linter.unusedVariables false
/-- Which flow a thing asked for stands for, where it is asked for at once. -/
def needOf (th : List ThD) (r : RefD) : Option Int := match findTh th r.name with
  | some x => if 0 ≤ x.fl ∧ r.ago = 0 then some x.fl else none
  | none => none
def needsL (th : List ThD) (x : FlD) : List Int := x.body.refs.filterMap (needOf th)
/-- The flows that flow i needs at once, ascending. -/
def PgD.needs (p : PgD) (i : Nat) : List Int := match p.flows[i]? with
  | some x => sortI (needsL p.things x)
  | none => []
def nilV : Value := .slice none 0 0
def intCells (x : Int) : List Value := [.int .i64 x]
theorem getA_put {α : Type} [DecidableEq α] (x y : α) (v : Value) (l : List (α × Value)) : getA y (putA x v l) = if x = y then some v else getA y l := by
  induction l with
  | nil => simp [putA, getA]
  | cons p r ih =>
    rw [putA]
    by_cases h : p.1 = x
    · subst h
      by_cases e : p.1 = y
      · simp [getA, e]
      · simp [getA, e]
    · rw [if_neg h]
      by_cases e : p.1 = y
      · subst e
        simp [getA, Ne.symm h]
      · simp [getA, e, ih]
theorem lookup_need {w : World} {ks : List (Int × Value)} {b : Nat} (h : MapAt (Value.int .i64) w b ks) (i : Int) :
    (Instr.lookup 64 (.map (some b)) (.int .i64 i) false).run Try.prog w = .ok ((getA i ks).getD nilV) w := by
  have := lookup_run (intKey Try.underlying3) Try.underlying64 (fun w => Try.zeroValue35 w) h i false
  rw [if_neg (by decide)] at this
  exact this
/-- A map from flows' numbers to rows of such: those from n on are not there. -/
def AllAt (w : World) (bm n : Nat) (L : Nat → List Int) : Prop :=
  ∃ ks, MapAt (Value.int .i64) w bm ks ∧ (∀ i : Nat, IsSl w.heap.size w 1 IsInt (L i) ((getA (i : Int) ks).getD nilV)) ∧ ∀ i : Nat, n ≤ i → getA (i : Int) ks = none
theorem isSl_nil {α : Type} {B k : Nat} {w : World} {R : α → List Value → Prop} : IsSl B w k R [] nilV := ⟨none, 0, rfl, Nat.le_refl _, Nat.zero_le _, .inl rfl⟩
theorem infoInt : (Try.prog.info? 3).map (fun i => (i.zero, i.size, i.bytes)) = some (some (.int .i64 0), 1, 8) := by kernel_rfl

/-- Of what lies below n just block q may have turned. -/
structure ButB (q n : Nat) (w w' : World) : Prop where
  os : w'.os = w.os
  tape : w'.tape = w.tape
  output : w'.output = w.output
  size : w.heap.size ≤ w'.heap.size
  block : ∀ k, k < n → k ≠ q → w'.heap[k]? = w.heap[k]?
theorem ButB.refl (q n : Nat) (w : World) : ButB q n w w := ⟨rfl, rfl, rfl, Nat.le_refl _, fun _ _ _ => rfl⟩
theorem ButB.trans {q n : Nat} {a b c : World} (h : ButB q n a b) (k : ButB q n b c) : ButB q n a c :=
  ⟨k.os.trans h.os, k.tape.trans h.tape, k.output.trans h.output, Nat.le_trans h.size k.size, fun i hi hq => (k.block i hi hq).trans (h.block i hi hq)⟩
theorem ButB.of {q n : Nat} {w w' : World} (h : Below n w w') : ButB q n w w' := ⟨h.os, h.tape, h.output, h.size, fun k hk _ => h.block k hk⟩
theorem ButB.but {q n : Nat} {w w' : World} (h : But q w w') (hn : n ≤ w.heap.size) : ButB q n w w' := ⟨h.os, h.tape, h.output, h.size, fun k hk hq => h.block k (by omega) hq⟩
theorem ButB.other {q g n : Nat} {w w' : World} (h : But g w w') (hn : n ≤ w.heap.size) (hg : n ≤ g) : ButB q n w w' := ⟨h.os, h.tape, h.output, h.size, fun k hk _ => h.block k (by omega) (by omega)⟩
theorem ButB.grown {q n : Nat} {w w' : World} {row : Option Nat} (h : w.grownBy w' row) (hn : n ≤ w.heap.size) (hr : ∀ g, row = some g → n ≤ g) : ButB q n w w' :=
  ⟨h.os, h.tape, h.output, h.size, fun k hk _ => h.block k (by omega) (fun e => by have := hr k e.symm; omega)⟩
theorem ButB.below {q n B : Nat} {w w' : World} (h : ButB q n w w') (hq : B ≤ q) (hB : B ≤ n) : Below B w w' := ⟨h.os, h.tape, h.output, h.size, fun k hk => h.block k (by omega) (by omega)⟩
theorem ButB.mono {q n m : Nat} {w w' : World} (h : ButB q n w w') (hm : m ≤ n) : ButB q m w w' := ⟨h.os, h.tape, h.output, h.size, fun k hk hq => h.block k (by omega) hq⟩
theorem MapAt.noCell {α : Type} {enc : α → Value} {w : World} {b : Nat} {ks : List (α × Value)} (h : MapAt enc w b ks) {p : Addr} (hp : p.block = b) : w.cell? p = none := by
  obtain ⟨es, clock, h1, _⟩ := h
  rw [World.cell?, hp, h1]
theorem ButB.keep {q n : Nat} {w w' : World} (h : ButB q n w w') {α : Type} {enc : α → Value} {ks : List (α × Value)} (hm : MapAt enc w q ks) {p : Addr} {u : Value} (hp : p.block < n) (hc : w.cell? p = some u) : w'.cell? p = some u := by
  have hne : p.block ≠ q := fun e => by rw [hm.noCell e] at hc; cases hc
  exact (World.cell?_of_block (w := w) (h.block _ hp hne)).trans hc
theorem cell_lt {w : World} {p : Addr} {u : Value} (h : w.cell? p = some u) : p.block < w.heap.size := by
  unfold World.cell? at h
  cases ho : w.heap[p.block]? with
  | none => rw [ho] at h; cases h
  | some o => exact (Array.getElem?_eq_some_iff.1 ho).1

theorem own_ints {w : World} {base : Nat} {e : TypeId} {v : Value} {xs : List Int} (h : w.ownsRow base e 1 v xs.length (xs.flatMap intCells)) :
    (xs = [] ∧ ∃ a c, v = .slice a 0 c ∧ c ≤ maxLen) ∨ ∃ g cap, v = .slice (some ⟨g, 0, none⟩) xs.length cap ∧ base ≤ g ∧ g < w.heap.size ∧ xs.length ≤ cap ∧ cap ≤ maxLen ∧
      (∀ j (h : j < xs.length), w.cell? ⟨g, j, none⟩ = some (.int .i64 xs[j])) ∧ ∀ j, j < xs.length → w.frozen? ⟨g, j, none⟩ = false := by
  have hlt := h.lt
  have hsl := own_isSl (f := intCells) (fun _ => rfl) h
  rcases h.2 with ⟨rfl, h0⟩ | ⟨g, cap, cur, rfl, hb, hh, hc, hm, hsz, ht⟩
  · exact .inl ⟨List.length_eq_zero_iff.1 h0, none, 0, rfl, Nat.zero_le _⟩
  · refine .inr ⟨g, cap, rfl, hb, (hlt g rfl).2, hc, hm, fun j hj => ?_, fun j hj => by simp [World.frozen?, hh]⟩
    obtain ⟨a2, c2, he, _, _, h5⟩ := hsl
    rcases h5 with h5 | ⟨b2, o2, rfl, _, h6⟩
    · rw [h5] at hj; simp at hj
    · simp only [Value.slice.injEq, Option.some.injEq, Addr.mk.injEq] at he
      obtain ⟨⟨rfl, rfl, _⟩, _, rfl⟩ := he
      obtain ⟨cs, rfl, _, h7⟩ := h6 j hj
      have := h7 0 (by simp [intCells])
      simpa [intCells] using this
theorem isSl_ints {w : World} {g cap : Nat} {xs : List Int} (hg : g < w.heap.size) (h1 : xs.length ≤ cap) (h2 : cap ≤ maxLen) (hc : ∀ j (h : j < xs.length), w.cell? ⟨g, j, none⟩ = some (.int .i64 xs[j])) {n : Nat} (hn : n = xs.length) :
    IsSl w.heap.size w 1 IsInt xs (.slice (some ⟨g, 0, none⟩) n cap) := by
  subst hn
  refine ⟨_, cap, rfl, h1, h2, .inr ⟨g, 0, rfl, hg, fun i hi => ⟨[.int .i64 xs[i]], rfl, rfl, fun j hj => ?_⟩⟩⟩
  have : j = 0 := by simp at hj; omega
  subst this
  have := hc i hi
  simpa using this
theorem IsSl.wide {α : Type} {B B' : Nat} {w : World} {k : Nat} {R : α → List Value → Prop} {xs : List α} {v : Value} (h : IsSl B w k R xs v) (hB : B ≤ B') : IsSl B' w k R xs v :=
  h.mono (fun _ _ _ h => h) hB fun _ _ _ => rfl

set_option maxRecDepth 100000 in
set_option maxHeartbeats 4000000 in
theorem needs_any (p : PgD) (cs : List Value) (d B : Nat) (w : World) (hx : IsPg B w d p cs) (hB : B ≤ w.heap.size) (hcount : ∀ x ∈ p.flows, x.body.count ≤ 1000000) :
    Calls Try.prog 24 #[.agg cs.toArray] w fun e w' => ∃ bm, e = .returned (.map (some bm)) ∧ bm < w'.heap.size ∧ AllAt w' bm p.flows.length p.needs ∧ Below w.heap.size w w' := by
  have HX := hid hx
  have HC := hid hcount
  obtain ⟨i, f, o, rfl, hi, hf, ho⟩ := hx
  obtain ⟨fa, fc, rfl, fl, hfx⟩ := hf.at_
  unfold maxLen at fl
  have HF := hid hfx
  have hmm := @run_makeMap Try.prog
  clear hi hf ho hfx hcount
  go_enter Try.func24, Try.ntmps24
  go_wp2_with fail
  go_loopg [16] p.flows.length (fun k ix wr => ∃ j : Nat, j ≤ p.flows.length ∧ k = p.flows.length - j ∧ ix = .int .i64 j ∧ AllAt wr (w.heap.size + 1) j (fun i => if i < j then p.needs i else []) ∧ Below (w.heap.size + 1) (w.alloc (.cells #[.int .i64 p.st, i, .slice fa p.flows.length fc, o] 26)) wr)
  case atStart =>
    refine ⟨0, Nat.zero_le _, rfl, rfl, ⟨[], MapAt.made' _ _ (by rw [World.size_alloc]), fun i => ?_, fun i _ => rfl⟩, (Below.refl _ _).alloc (by rw [World.size_alloc]; exact Nat.le_refl _) _⟩
    simp only [Nat.not_lt_zero, if_false]; exact isSl_nil
  case round =>
    obtain ⟨j, hj, rfl, rfl, hall, hWr⟩ := hrel
    have hsz := hWr.size
    rw [World.size_alloc] at hsz
    by_cases hlt : j < p.flows.length
    · obtain ⟨b, off, rfl, hb, hc⟩ := HF.out.resolve_left (by intro h; rw [h] at hlt; simp at hlt)
      obtain ⟨cs, h5, _, h6⟩ := hc j hlt
      obtain ⟨op, n5, s, a5, len5, cap5, rfl, hex⟩ := h5.cells
      have hcw : ∀ o', wr.cell? ⟨b, o', none⟩ = w.cell? ⟨b, o', none⟩ := fun o' => (hWr.cell (p := ⟨b, o', none⟩) (by show b < w.heap.size + 1; omega)).trans (old_cell _ _ (by omega))
      have k0 := (hcw _).trans (h6 0 (by simp))
      have k1 := (hcw _).trans (h6 1 (by simp))
      have k2 := (hcw _).trans (h6 2 (by simp))
      have k3 := (hcw _).trans (h6 3 (by simp))
      have k4 := (hcw _).trans (h6 4 (by simp))
      have k5 := (hcw _).trans (h6 5 (by simp))
      have k6 := (hcw _).trans (h6 6 (by simp))
      have k7 := (hcw _).trans (h6 7 (by simp))
      simp only [Nat.add_zero, List.getElem_cons_zero, List.getElem_cons_succ] at k0 k1 k2 k3 k4 k5 k6 k7
      have hneed : p.needs j = sortI (needsL p.things p.flows[j]) := by rw [PgD.needs, List.getElem?_eq_getElem hlt]
      have HN := hid hneed
      have hbody := hid (HC.out _ (List.getElem_mem hlt))
      have hexr : IsEx B wr d p.flows[j].body [.int .u8 op, .int .i64 n5, .string s, .slice a5 len5 cap5] := IsEx.mono (Nat.le_refl _) (fun b o h => (hWr.cell (p := ⟨b, o, none⟩) (by show b < w.heap.size + 1; omega)).trans (old_cell _ _ (by omega))) _ _ _ hex
      have HE := hid hexr
      clear hc h6 h5 hex hexr hcw hneed
      generalize p.flows[j] = x at k0 k1 k2 k3 HN hbody HE
      obtain ⟨ks0, hm0, hrows, hnone⟩ := hall
      have HR0 := hid hrows
      have HN0 := hid hnone
      clear hrows hnone
      go_wp2_with (go_at_call 28; refine (refs_any d B x.body [.int .u8 op, .int .i64 n5, .string s, .slice a5 len5 cap5] _ ?_ ?_ (Nat.le_trans hbody.out (by decide))).mono ?_; (exact IsEx.below (Below.mono (B := wr.heap.size) (by repeat (first | with_reducible exact Below.refl wr.heap.size wr | with_reducible refine below_drewN ?_ _ | with_reducible refine Below.drew ?_ | with_reducible refine Below.alloc ?_ (by have hszz := Below.size (Below.refl wr.heap.size wr); first | omega | (simp; done) | (simp at hszz ⊢; omega)) _ | with_reducible refine Below.setCell ?_ (by have hszz := Below.size (Below.refl wr.heap.size wr); first | omega | (simp; done) | (simp at hszz ⊢; omega)) _)) (by omega)) HE.out); (simp; omega); rintro e w2 ⟨⟨v, rfl, hsl⟩, hb2⟩; obtain ⟨ra, rc, rfl, rl, hrx⟩ := hsl.at_; unfold maxLen at rl; have HR := hid hrx; have hbw : Below wr.heap.size wr w2 := Below.trans (by repeat (first | with_reducible exact Below.refl wr.heap.size wr | with_reducible refine below_drewN ?_ _ | with_reducible refine Below.drew ?_ | with_reducible refine Below.alloc ?_ (by have hszz := Below.size (Below.refl wr.heap.size wr); first | omega | (simp; done) | (simp at hszz ⊢; omega)) _ | with_reducible refine Below.setCell ?_ (by have hszz := Below.size (Below.refl wr.heap.size wr); first | omega | (simp; done) | (simp at hszz ⊢; omega)) _)) (hb2.mono (by simp)); have hs2 := hb2.size; clear hsl hrx hb2)
      have hbm : w.heap.size + 1 < wr.heap.size := hm0.lt
      have hm2 : MapAt (Value.int .i64) w2 (w.heap.size + 1) ks0 := hm0.below hbw hbm
      have hpc : ∀ o' u, (w.alloc (.cells #[.int .i64 p.st, i, .slice (some ⟨b, off, none⟩) p.flows.length fc, o] 26)).cell? ⟨w.heap.size, o', none⟩ = some u → w2.cell? ⟨w.heap.size, o', none⟩ = some u := fun o' u h =>
        (hbw.cell (p := ⟨w.heap.size, o', none⟩) (by show w.heap.size < wr.heap.size; omega)).trans ((hWr.cell (p := ⟨w.heap.size, o', none⟩) (by show w.heap.size < w.heap.size + 1; omega)).trans h)
      have c0 : w2.cell? ⟨w.heap.size, 0, none⟩ = some (.int .i64 p.st) := hpc 0 _ (by simp)
      have c1 : w2.cell? ⟨w.heap.size, 1, none⟩ = some i := hpc 1 _ (by simp)
      have c2 : w2.cell? ⟨w.heap.size, 2, none⟩ = some (.slice (some ⟨b, off, none⟩) p.flows.length fc) := hpc 2 _ (by simp)
      have c3 : w2.cell? ⟨w.heap.size, 3, none⟩ = some o := hpc 3 _ (by simp)
      have hb1 : Below w.heap.size w w2 := (((Below.refl _ w).alloc (Nat.le_refl _) _).trans (hWr.mono (by omega))).trans (hbw.mono (by omega))
      have HP2 := hid (IsPg.below (hb1.mono hB) HX.out)
      have hw2s : wr.heap.size ≤ w2.heap.size := hbw.size
      clear hpc hs2
      obtain ⟨wo, rfl⟩ : ∃ wo : World, wo = w2 := ⟨_, rfl⟩
      obtain ⟨wa, rfl⟩ : ∃ wa : World, wa = wr := ⟨_, rfl⟩
      go_loopg [25] x.body.refs.length (fun k ix w3 => ∃ j2 : Nat, j2 ≤ x.body.refs.length ∧ k = x.body.refs.length - j2 ∧ ix = .int .i64 j2 ∧ ∃ ks v, MapAt (Value.int .i64) w3 (w.heap.size + 1) ks ∧ (∀ i : Nat, i ≠ j → getA (i : Int) ks = getA (i : Int) ks0) ∧ (getA (j : Int) ks).getD nilV = v ∧
        w3.ownsRow wo.heap.size 3 1 v ((x.body.refs.take j2).filterMap (needOf p.things)).length (((x.body.refs.take j2).filterMap (needOf p.things)).flatMap intCells) ∧ ButB (w.heap.size + 1) wo.heap.size wo w3)
      case atStart => exact ⟨0, Nat.zero_le _, rfl, rfl, ks0, nilV, hm2, fun _ _ => rfl, by rw [HN0.out j (Nat.le_refl _)]; rfl, World.ownsRow_nil _ _ _ _, ButB.refl _ _ _⟩
      case round =>
        obtain ⟨j2, hj2, rfl, rfl, ks, v, hmk, hoth, hv, hown, hbut⟩ := hrel
        have HOth := hid hoth
        have hl3 := hmk.lt
        have hb3 : Below (w.heap.size + 1) wo wr := hbut.below (Nat.le_refl _) (by omega)
        obtain ⟨va, vn, vc, rfl⟩ := own_val hown
        clear hoth
        by_cases hlt2 : j2 < x.body.refs.length
        · obtain ⟨rb, roff, rfl, hrb, hrc⟩ := HR.out.resolve_left (by intro h; rw [h] at hlt2; simp at hlt2)
          obtain ⟨cs, rfl, _, h6⟩ := hrc j2 hlt2
          have y0 := hbut.keep hm2 hrb (h6 0 (by simp [refCells]))
          have y1 := hbut.keep hm2 hrb (h6 1 (by simp [refCells]))
          simp only [Nat.add_zero, refCells, List.getElem_cons_zero, List.getElem_cons_succ] at y0 y1
          clear hrc h6
          have hsn := hid (show x.body.refs.take (j2 + 1) = x.body.refs.take j2 ++ [x.body.refs[j2]] by rw [List.take_succ_eq_append_getElem hlt2])
          generalize x.body.refs[j2] = r at y0 y1 hsn
          have q0 := hbut.keep hm2 (show w.heap.size < wo.heap.size by omega) c0
          have q1 := hbut.keep hm2 (show w.heap.size < wo.heap.size by omega) c1
          have q2 := hbut.keep hm2 (show w.heap.size < wo.heap.size by omega) c2
          have q3 := hbut.keep hm2 (show w.heap.size < wo.heap.size by omega) c3
          have hs1 : w.heap.size < wr.heap.size := by omega
          have hs3 := hbut.size
          obtain ⟨fr, hfr⟩ : ∃ fr, findTh p.things r.name = fr := ⟨_, rfl⟩
          have HFr := hid hfr
          have HV := hid hv
          clear hv
          cases fr with
          | none =>
            have hnd : needOf p.things r = none := by rw [needOf, hfr]
            have HND := hid hnd
            clear hnd
            go_wp2_with (go_at_call 18; refine (nameFind_any p [.int .i64 p.st, i, .slice (some ⟨b, off, none⟩) p.flows.length fc, o] r.name d B _ ?_ ?_).mono ?_; (exact IsPg.below (Below.mono (B := w.heap.size + 1) (hb3.alloc (by omega) _) (by omega)) HP2.out); (simp; omega); rintro e w4 ⟨rfl, hb4⟩; rw [hfr]; dsimp only [thRes]; have z1 := (hb4.cell (p := ⟨wr.heap.size, 1, none⟩) (by simp)).trans (by simp : _ = some (Value.int .i64 r.ago)); have hs4 := hb4.size; rw [World.size_alloc] at hs4; have hb4' : Below wr.heap.size wr w4 := Below.trans (by repeat (first | with_reducible exact Below.refl wr.heap.size wr | with_reducible refine below_drewN ?_ _ | with_reducible refine Below.drew ?_ | with_reducible refine Below.alloc ?_ (by have hszz := Below.size (Below.refl wr.heap.size wr); first | omega | (simp; done) | (simp at hszz ⊢; omega)) _ | with_reducible refine Below.setCell ?_ (by have hszz := Below.size (Below.refl wr.heap.size wr); first | omega | (simp; done) | (simp at hszz ⊢; omega)) _)) (hb4.mono (by simp)); have hm4 := hmk.below hb4' hl3; have hown4 := hown.kept ((But.of (q := wr.heap.size) hb4').grown) (.inr (Ne.symm (own_ne' hown (Nat.le_refl _)))); clear hb4)
            go_roundg (x.body.refs.length - (j2 + 1))
            case rel =>
              refine ⟨j2 + 1, by omega, rfl, by go_num, ks, _, hm4, HOth.out, HV.out, ?_, hbut.trans (ButB.of (hb4'.mono hs3))⟩
              rw [hsn.out, List.filterMap_append, List.filterMap_cons_none HND.out]
              simpa using hown4
            case measure => omega
          | some th =>
            by_cases h0 : 0 ≤ th.fl
            · by_cases h1 : r.ago = 0
              · have hnd : needOf p.things r = some th.fl := by rw [needOf, hfr]; exact if_pos ⟨h0, h1⟩
                have HND := hid hnd
                have t0 := decide_eq_true h0
                have t1 : (r.ago == 0) = true := by simp [h1]
                have hlen : ((x.body.refs.take j2).filterMap (needOf p.things)).length ≤ 1000000 := by
                  refine Nat.le_trans (List.length_filterMap_le _ _) (Nat.le_trans ?_ hbody.out)
                  have := gather_len x.body 0 []
                  rw [List.length_take]
                  rw [List.length_nil, Nat.zero_add] at this
                  exact Nat.le_trans (Nat.min_le_right _ _) this
                obtain ⟨i0, hi, hz0, hz1, hz2⟩ := info_parts infoInt
                generalize hxs : (x.body.refs.take j2).filterMap (needOf p.things) = xs at hown hlen
                clear hnd h1
                go_wp2_with (first
                  | (go_at_call 18; refine (nameFind_any p [.int .i64 p.st, i, .slice (some ⟨b, off, none⟩) p.flows.length fc, o] r.name d B _ ?_ ?_).mono ?_; (exact IsPg.below (Below.mono (B := w.heap.size + 1) (hb3.alloc (by omega) _) (by omega)) HP2.out); (simp; omega); rintro e w4 ⟨rfl, hb4⟩; rw [hfr]; dsimp only [thRes]; have z1 := (hb4.cell (p := ⟨wr.heap.size, 1, none⟩) (by simp)).trans (by simp : _ = some (Value.int .i64 r.ago)); have hs4 := hb4.size; rw [World.size_alloc] at hs4; have hb4' : Below wr.heap.size wr w4 := Below.trans (by repeat (first | with_reducible exact Below.refl wr.heap.size wr | with_reducible refine below_drewN ?_ _ | with_reducible refine Below.drew ?_ | with_reducible refine Below.alloc ?_ (by have hszz := Below.size (Below.refl wr.heap.size wr); first | omega | (simp; done) | (simp at hszz ⊢; omega)) _ | with_reducible refine Below.setCell ?_ (by have hszz := Below.size (Below.refl wr.heap.size wr); first | omega | (simp; done) | (simp at hszz ⊢; omega)) _)) (hb4.mono (by simp)); have hm4 := hmk.below hb4' hl3; have hown4 := hown.kept ((But.of (q := wr.heap.size) hb4').grown) (.inr (Ne.symm (own_ne' hown (Nat.le_refl _)))); clear hb4; have hrun := lookup_need hm4 (j : Int); rw [HV.out] at hrun)
                  | (at_builtin
                     refine wpList_append_own _ rfl _ _ 35 rfl wo.heap.size 3 i0 _ 1 8 Try.underlying35 hi hz0 hz1 hz2 rfl (by decide) (.slice va vn vc) xs.length _ rfl (hown4.alloc _) ⟨w4.heap.size, 0, none⟩ 1 1 (intCells th.fl) rfl rfl (World.news_of_block (cs := #[.int .i64 th.fl]) (t := 3) (fr := (0, 0)) (heap_alloc_new _ _)) ?_ ?_ ?_ ?_ ?_
                     · simp [intCells, Value.oneCell']
                     · unfold maxLen; omega
                     · omega
                     · simp; omega
                     intro v' w5 hown5 hgrow _
                     obtain ⟨g', cap', rfl⟩ := own_slice hown5
                     have hm5 := (hm4.alloc (.cells #[.int .i64 th.fl] 3)).grown hgrow (own_ne hown (by omega)))
                  | (at_mapUpdate
                     refine wpList_update_map (vv := .slice (some ⟨g', 0, none⟩) (xs.length + 1) cap') (intKey Try.underlying3) Try.underlying64 (by rfl) rfl rfl hm5 (j : Int) rfl rfl ?_
                     intro w6 hm6 hbt6))
                go_roundg (x.body.refs.length - (j2 + 1))
                case rel =>
                  refine ⟨j2 + 1, by omega, rfl, by go_num, _, _, hm6, fun i hi => ?_, rfl, ?_, ?_⟩
                  · rw [getA_put, if_neg (by omega)]; exact HOth.out i hi
                  · rw [getA_put, if_pos rfl, hsn.out, List.filterMap_append, hxs, List.filterMap_cons_some HND.out]
                    simp only [List.filterMap_nil, List.length_append, List.length_cons, List.length_nil, Nat.zero_add, List.flatMap_append, List.flatMap_cons, List.flatMap_nil, List.append_nil, Option.getD_some]
                    exact hown5.kept hbt6.grown (.inr (Ne.symm (own_ne hown5 (by omega))))
                  · refine hbut.trans ((ButB.of (hb4'.mono hs3)).trans ((ButB.of ((Below.refl _ w4).alloc (by omega) _)).trans ((ButB.grown hgrow (by simp; omega) (fun g e => (hown.lt g e).1)).trans (ButB.but hbt6 ?_))))
                    have := hgrow.size
                    simp at this; omega
                case measure => omega
              · have hnd : needOf p.things r = none := by rw [needOf, hfr]; exact if_neg fun h => h1 h.2
                have HND := hid hnd
                have t0 := decide_eq_true h0
                have t1 : (r.ago == 0) = false := by simp [h1]
                clear hnd h1
                go_wp2_with (go_at_call 18; refine (nameFind_any p [.int .i64 p.st, i, .slice (some ⟨b, off, none⟩) p.flows.length fc, o] r.name d B _ ?_ ?_).mono ?_; (exact IsPg.below (Below.mono (B := w.heap.size + 1) (hb3.alloc (by omega) _) (by omega)) HP2.out); (simp; omega); rintro e w4 ⟨rfl, hb4⟩; rw [hfr]; dsimp only [thRes]; have z1 := (hb4.cell (p := ⟨wr.heap.size, 1, none⟩) (by simp)).trans (by simp : _ = some (Value.int .i64 r.ago)); have hs4 := hb4.size; rw [World.size_alloc] at hs4; have hb4' : Below wr.heap.size wr w4 := Below.trans (by repeat (first | with_reducible exact Below.refl wr.heap.size wr | with_reducible refine below_drewN ?_ _ | with_reducible refine Below.drew ?_ | with_reducible refine Below.alloc ?_ (by have hszz := Below.size (Below.refl wr.heap.size wr); first | omega | (simp; done) | (simp at hszz ⊢; omega)) _ | with_reducible refine Below.setCell ?_ (by have hszz := Below.size (Below.refl wr.heap.size wr); first | omega | (simp; done) | (simp at hszz ⊢; omega)) _)) (hb4.mono (by simp)); have hm4 := hmk.below hb4' hl3; have hown4 := hown.kept ((But.of (q := wr.heap.size) hb4').grown) (.inr (Ne.symm (own_ne' hown (Nat.le_refl _)))); clear hb4)
                go_roundg (x.body.refs.length - (j2 + 1))
                case rel =>
                  refine ⟨j2 + 1, by omega, rfl, by go_num, ks, _, hm4, HOth.out, HV.out, ?_, hbut.trans (ButB.of (hb4'.mono hs3))⟩
                  rw [hsn.out, List.filterMap_append, List.filterMap_cons_none HND.out]
                  simpa using hown4
                case measure => omega
            · have hnd : needOf p.things r = none := by rw [needOf, hfr]; exact if_neg fun h => h0 h.1
              have HND := hid hnd
              have t0 := decide_eq_false h0
              clear hnd
              go_wp2_with (go_at_call 18; refine (nameFind_any p [.int .i64 p.st, i, .slice (some ⟨b, off, none⟩) p.flows.length fc, o] r.name d B _ ?_ ?_).mono ?_; (exact IsPg.below (Below.mono (B := w.heap.size + 1) (hb3.alloc (by omega) _) (by omega)) HP2.out); (simp; omega); rintro e w4 ⟨rfl, hb4⟩; rw [hfr]; dsimp only [thRes]; have z1 := (hb4.cell (p := ⟨wr.heap.size, 1, none⟩) (by simp)).trans (by simp : _ = some (Value.int .i64 r.ago)); have hs4 := hb4.size; rw [World.size_alloc] at hs4; have hb4' : Below wr.heap.size wr w4 := Below.trans (by repeat (first | with_reducible exact Below.refl wr.heap.size wr | with_reducible refine below_drewN ?_ _ | with_reducible refine Below.drew ?_ | with_reducible refine Below.alloc ?_ (by have hszz := Below.size (Below.refl wr.heap.size wr); first | omega | (simp; done) | (simp at hszz ⊢; omega)) _ | with_reducible refine Below.setCell ?_ (by have hszz := Below.size (Below.refl wr.heap.size wr); first | omega | (simp; done) | (simp at hszz ⊢; omega)) _)) (hb4.mono (by simp)); have hm4 := hmk.below hb4' hl3; have hown4 := hown.kept ((But.of (q := wr.heap.size) hb4').grown) (.inr (Ne.symm (own_ne' hown (Nat.le_refl _)))); clear hb4)
              go_roundg (x.body.refs.length - (j2 + 1))
              case rel =>
                refine ⟨j2 + 1, by omega, rfl, by go_num, ks, _, hm4, HOth.out, HV.out, ?_, hbut.trans (ButB.of (hb4'.mono hs3))⟩
                rw [hsn.out, List.filterMap_append, List.filterMap_cons_none HND.out]
                simpa using hown4
              case measure => omega
        · have hall2 : x.body.refs.take j2 = x.body.refs := List.take_of_length_le (by omega)
          rw [hall2] at hown
          have hrun := lookup_need hmk (j : Int)
          rw [hv] at hrun
          have HV := hid hv
          have hxs : (x.body.refs.filterMap (needOf p.things)) = needsL p.things x := rfl
          rw [hxs] at hown
          have hlen : (needsL p.things x).length ≤ 1000000 := by
            refine Nat.le_trans (List.length_filterMap_le _ _) (Nat.le_trans ?_ hbody.out)
            have := gather_len x.body 0 []
            rw [List.length_nil, Nat.zero_add] at this
            exact this
          generalize needsL p.things x = xs at hown HN hlen
          have hall3 : ∀ w7, MapAt (Value.int .i64) w7 (w.heap.size + 1) ks → ButB (w.heap.size + 1) wo.heap.size wo w7 → IsSl w7.heap.size w7 1 IsInt (sortI xs) (.slice va vn vc) → AllAt w7 (w.heap.size + 1) (j + 1) (fun i => if i < j + 1 then p.needs i else []) := by
            intro w7 hm7 hb7 hs7
            refine ⟨ks, hm7, fun i => ?_, fun i hi => by rw [HOth.out i (by omega)]; exact HN0.out i (by omega)⟩
            by_cases hij : i = j
            · subst hij
              simp only [Nat.lt_succ_self, if_true]
              rw [HV.out, HN.out]; exact hs7
            · dsimp only
              rw [HOth.out i hij]
              have h1 := HR0.out i
              have h2 : (if i < j + 1 then p.needs i else []) = (if i < j then p.needs i else []) := by
                by_cases h : i < j
                · rw [if_pos h, if_pos (by omega)]
                · rw [if_neg h, if_neg (by omega)]
              rw [h2]
              refine (h1.keep (fun _ _ _ h => h) fun q u hq => ?_).wide (Nat.le_trans hw2s hb7.size)
              have hl := cell_lt hq
              exact hb7.keep hm2 (by omega) ((World.cell?_of_block (w := wa) (hbw.block _ hl)).trans hq)
          clear hall2 hv hxs
          rcases own_ints hown with ⟨rfl, a, c, hvv, hcm⟩ | ⟨g, cap, hvv, hg1, hg2, hc1, hc2, hcell, hfrz⟩
          · cases hvv
            have HA := hid hall3
            clear hall3
            go_wp2_with (go_at_call 46; refine (sort_none _ _ _).mono ?_; rintro e w7 ⟨rfl, rfl⟩)
            go_roundg (p.flows.length - (j + 1))
            case rel =>
              refine ⟨j + 1, by omega, rfl, by go_num, HA.out _ hmk hbut ?_, (hWr.trans (hbw.mono (by omega))).trans hb3⟩
              exact ⟨va, vc, by simp [sortI], by simp [sortI], hcm, .inl (by simp [sortI])⟩
            case measure => omega
          · cases hvv
            have HA := hid hall3
            have HCell := hid hcell
            have HFrz := hid hfrz
            clear hall3 hcell hfrz
            go_wp2_with (go_at_call 46; refine (sort_any g vc xs _ HCell.out HFrz.out hg2 (by omega)).mono ?_; rintro e w7 ⟨rfl, hbg, hc7⟩; have HC7 := hid hc7; clear hc7)
            have hbb : ButB (w.heap.size + 1) wo.heap.size wo w7 := hbut.trans (ButB.other hbg hbut.size hg1)
            have hm7 := hmk.but hbg (by omega)
            go_roundg (p.flows.length - (j + 1))
            case rel =>
              refine ⟨j + 1, by omega, rfl, by go_num, HA.out _ hm7 hbb ?_, (hWr.trans (hbw.mono (by omega))).trans (hbb.below (Nat.le_refl _) (by omega))⟩
              exact isSl_ints (Nat.lt_of_lt_of_le hg2 hbg.size) (by rw [sortI_len]; exact hc1) hc2 (fun i h => HC7.out i (by rw [sortI_len] at h; exact h)) (sortI_len _).symm
            case measure => omega
    · go_wp2_with fail
      go_ret
      refine ⟨_, rfl, ?_, ?_, ((Below.refl _ w).alloc (Nat.le_refl _) _).trans (hWr.mono (by omega))⟩
      · obtain ⟨ks, hm, _⟩ := hall; exact hm.lt
      · obtain ⟨ks, hm, h1, h2⟩ := hall
        refine ⟨ks, hm, fun i => ?_, fun i hi => h2 i (by omega)⟩
        have := h1 i
        by_cases h : i < j
        · simpa [h] using this
        · have hn : p.needs i = [] := by rw [PgD.needs, List.getElem?_eq_none (by omega)]
          rw [hn]
          simpa [h] using this
end Go.Proofs.Ytmepdfipigdjhaa
