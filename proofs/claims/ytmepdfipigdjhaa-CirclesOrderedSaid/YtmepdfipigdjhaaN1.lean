/- Who is who: the iterator over a program's things. -/
import Derived.Test.YtmepdfipigdjhaaP2
import Derived.Test.YtmepdfipigdjhaaR2
import Derived.Test.YtmepdfipigdjhaaG1
import Derived.RangeFuncNested
import Derived.RangeFuncBound
import Derived.RangeFuncCalls
import Derived.RangeFuncLeaves
import Derived.Shelf.Abstract
import Derived.OwnWalkIn
import Derived.TacticsInMore
import Derived.LoopNIn
import Derived.LoopIn
import Derived.Sort.LoopGhostIn
namespace Go.Proofs.Ytmepdfipigdjhaa
open Go.RowKit
set_option linter.unusedSimpArgs false
set_option linter.unusedVariables false
attribute [local go_sem] Oper.semAt_some

/-- A thing that has a name. -/
structure ThD where
  name : ByteArray
  st : Int
  ty : Int
  fl : Int
def encTh (x : ThD) : Value := .agg #[.int .i64 x.st, .int .u8 x.ty, .int .i64 x.fl]
def encThs (x : ThD) : Array Value := #[.string x.name, .agg #[.int .i64 x.st, .int .u8 x.ty, .int .i64 x.fl]]
def InD.thing (x : InD) : ThD := ⟨x.name, x.st, x.ty, -1⟩
def FlD.thing (x : FlD) (i : Nat) : ThD := ⟨x.name, x.st, x.ty, i⟩
def flThings (l : List FlD) : List ThD := (List.range l.length).map fun i => match l[i]? with | some x => x.thing i | none => ⟨⟨#[]⟩, 0, 0, 0⟩
def PgD.things (p : PgD) : List ThD := p.ins.map InD.thing ++ flThings p.flows
theorem flThings_len (l : List FlD) : (flThings l).length = l.length := by simp [flThings]
theorem flThings_get (l : List FlD) (i : Nat) (h : i < l.length) : (flThings l)[i]'(by rw [flThings_len]; exact h) = l[i].thing i := by
  simp [flThings, h]
/-- A program's value in a block of its own. -/
def PgBox (n0 bp : Nat) (d : Nat) (p : PgD) (w : World) : Prop :=
  bp < n0 ∧ ∃ i f o, w.cell? ⟨bp, 0, none⟩ = some (.int .i64 p.st) ∧ w.cell? ⟨bp, 1, none⟩ = some i ∧ w.cell? ⟨bp, 2, none⟩ = some f ∧ w.cell? ⟨bp, 3, none⟩ = some o ∧
    IsSl n0 w 3 IsIn p.ins i ∧ IsSl n0 w 8 (IsFl n0 w d) p.flows f ∧ IsSl n0 w 1 IsStr p.outs o
theorem PgBox.below {n0 bp d : Nat} {p : PgD} {w w' : World} (h : PgBox n0 bp d p w) (hb : Below n0 w w') : PgBox n0 bp d p w' := by
  obtain ⟨h0, i, f, o, h1, h2, h3, h4, h5, h6, h7⟩ := h
  have hc := (bcell hb).1
  exact ⟨h0, i, f, o, (hc _ _ h0).trans h1, (hc _ _ h0).trans h2, (hc _ _ h0).trans h3, (hc _ _ h0).trans h4, h5.mono (fun _ _ _ h => h) (Nat.le_refl _) hc,
    h6.mono (fun _ _ _ h => h.mono (Nat.le_refl _) hc) (Nat.le_refl _) hc, h7.mono (fun _ _ _ h => h) (Nat.le_refl _) hc⟩
theorem PgBox.keep {n0 q bp d : Nat} {p : PgD} {w w' : World} (h : PgBox n0 bp d p w) (hb : Kq q n0 w w') : PgBox n0 bp d p w' := by
  obtain ⟨h0, i, f, o, h1, h2, h3, h4, h5, h6, h7⟩ := h
  have hc : ∀ p u, w.cell? p = some u → w'.cell? p = some u := fun p u h => hb.cell h
  exact ⟨h0, i, f, o, hc _ _ h1, hc _ _ h2, hc _ _ h3, hc _ _ h4, h5.keep (fun _ _ _ h => h) hc, h6.keep (fun _ _ _ h => h.keep hc) hc, h7.keep (fun _ _ _ h => h) hc⟩
theorem IsFl.cells {B d : Nat} {w : World} {x : FlD} {cs : List Value} (h : IsFl B w d x cs) : ∃ (op n : Int) (s : ByteArray) (a : Option Addr) (len cap : Nat),
    cs = [.string x.name, .int .u8 x.ty, .int .i64 x.st, .int .i64 x.dflt, .int .u8 op, .int .i64 n, .string s, .slice a len cap] ∧ IsEx B w d x.body [.int .u8 op, .int .i64 n, .string s, .slice a len cap] := by
  obtain ⟨es, rfl, _, hex⟩ := h
  cases d with
  | zero => exact hex.elim
  | succ d =>
    generalize x.body = y at hex
    obtain ⟨op, n, s, args⟩ := y
    obtain ⟨u, rfl, h1, h2⟩ := hex
    have h3 := h2
    obtain ⟨a, cap, rfl, _⟩ := h2
    exact ⟨op, n, s, a, _, cap, rfl, ⟨_, rfl, h1, h3⟩⟩

set_option maxRecDepth 100000 in
set_option maxHeartbeats 2000000 in
theorem things1_in (F : Fence) (n : Nat) (hF : F.fn 44) (hro : F.round = none) (hn : 1 ≤ n) (l n0 q bp d : Nat) (p : PgD) (J Jx : List ThD → World → Prop)
    (hY : ∀ pre x W, J pre W → pre.length < p.things.length → YieldAt F (n - 1) Try.prog l (encThs x) W fun e W' =>
      (e = .returned (.bool true) ∧ J (pre ++ [x]) W' ∧ Kq q n0 W W') ∨ (e = .returned (.bool false) ∧ Jx (pre ++ [x]) W'))
    (W : World) (hJ : Low W.heap.size J) (hW : n0 ≤ W.heap.size) (hp : PgBox n0 bp d p W) (h0 : J [] W) :
    CallsIn F n Try.prog 44 #[.func (.yield l) #[] #[], .pointer (some ⟨bp, 0, none⟩)] W fun e W' => (∃ v, e = .returned v) ∧
      ((∃ ys, ys = p.things ∧ J ys W') ∨ (∃ pre, pre <+: p.things ∧ Jx pre W')) := by
  have HP := hid hp
  have HJ := hid hJ
  have HY := hid hY
  obtain ⟨hbp, i, f, o, c0, c1, c2, c3, hi, hf, ho⟩ := hp
  obtain ⟨ia, ic, rfl, il, hix⟩ := hi.at_
  obtain ⟨fa, fc, rfl, fl, hfx⟩ := hf.at_
  unfold maxLen at il fl
  have HI := hid hix
  have HF := hid hfx
  clear hi hf ho hix hfx hJ hY c0 c3 c2
  refine callsIn_of_wp Try.func44 rfl hF ?_ hro
  simp only [Try.ntmps44, List.size_toArray, List.length_cons, List.length_nil, Nat.reduceAdd, Nat.reduceSub, Array.replicate_succ, Array.replicate_zero, List.push_toArray, List.append_toArray, List.nil_append, List.cons_append]
  gi_wp2
  gi_loopg [10] p.ins.length (fun k i wr => ∃ j : Nat, j ≤ p.ins.length ∧ k = p.ins.length - j ∧ i = .int .i64 j ∧ J ((p.ins.map InD.thing).take j) wr ∧ Kq q n0 W wr)
  case atStart => exact ⟨0, Nat.zero_le _, rfl, rfl, by simpa using h0, Kq.refl _ _ _⟩
  case round =>
    obtain ⟨j, hj, rfl, rfl, hJs, hWr⟩ := hrel
    have HS := hid hJs
    clear hJs
    have hsz := hWr.size
    by_cases hlt : j < p.ins.length
    · obtain ⟨b, off, rfl, hb, hc⟩ := HI.out.resolve_left (by intro h; rw [h] at hlt; simp at hlt)
      obtain ⟨cs, ⟨rfl, hs⟩, _, h6⟩ := hc j hlt
      have k0 := hWr.cell (h6 0 (by simp))
      have k1 := hWr.cell (h6 1 (by simp))
      have k2 := hWr.cell (h6 2 (by simp))
      simp only [Nat.add_zero, List.getElem_cons_zero, List.getElem_cons_succ] at k0 k1 k2
      clear hc h6
      have hsn := hid (show (p.ins.map InD.thing).take (j + 1) = (p.ins.map InD.thing).take j ++ [p.ins[j].thing] by
        rw [List.take_succ_eq_append_getElem (by simpa using hlt)]; simp)
      generalize p.ins[j] = x at k0 k1 k2 hsn hs
      obtain ⟨fn, tmps, assign, body, hy, hR⟩ := HY.out ((p.ins.map InD.thing).take j) x.thing (wr.alloc (.cells #[.string x.name, .int .u8 x.ty, .int .i64 x.st] 84)) (HJ.out.alloc HS.out hsz _) (by rw [PgD.things]; simp [flThings_len]; omega)
      dsimp only [encThs, InD.thing] at hy hR
      gi_wp2
      refine hR.mono ?_
      rintro e W3 (⟨rfl, hJ3, hk3⟩ | ⟨rfl, hJx3⟩)
      · have hJ3' := hid hJ3
        clear hJ3
        gi_wp2
        gi_roundg (p.ins.length - (j + 1))
        case rel => exact ⟨j + 1, by omega, rfl, by go_num, by rw [hsn.out]; exact hJ3'.out, (hWr.trans (Kq.of (Below.alloc (Below.refl _ _) (Nat.le_refl _) _))).trans hk3⟩
        case measure => omega
      · have hJ3' := hid hJx3
        clear hJx3
        gi_wp2
        refine bodyPost_ret (results_none rfl _ _ _) rfl ?_
        refine ⟨⟨_, rfl⟩, .inr ⟨_, ?_, hJ3'.out⟩⟩
        have h := hsn.out
        rw [InD.thing] at h
        rw [← h, PgD.things]
        exact (List.take_prefix _ _).trans (List.prefix_append _ _)
    · have hall : (p.ins.map InD.thing).take j = p.ins.map InD.thing := List.take_of_length_le (by simp; omega)
      rw [hall] at HS
      clear hall
      obtain ⟨_, i2, f2, o2, _, _, c2, _, _, hf2, _⟩ := HP.out.keep hWr
      obtain ⟨fa, fc, rfl, fl, hfx⟩ := hf2.at_
      unfold maxLen at fl
      have HF2 := hid hfx
      have hWrr := hid hWr
      clear hf2 hfx
      obtain ⟨wo, rfl⟩ : ∃ wo : World, wo = wr := ⟨_, rfl⟩
      gi_wp2
      gi_loopg [28] p.flows.length (fun k i w2 => ∃ j : Nat, j ≤ p.flows.length ∧ k = p.flows.length - j ∧ i = .int .i64 j ∧ J (p.ins.map InD.thing ++ (flThings p.flows).take j) w2 ∧ Kq q n0 wo w2)
      case atStart => exact ⟨0, Nat.zero_le _, rfl, rfl, by simpa using HS.out, Kq.refl _ _ _⟩
      case round =>
        obtain ⟨j2, hj2, rfl, rfl, hJs, hW2⟩ := hrel
        have HS2 := hid hJs
        clear hJs
        have hsz2 := hW2.size
        by_cases hlt2 : j2 < p.flows.length
        · obtain ⟨b, off, rfl, hb, hc⟩ := HF2.out.resolve_left (by intro h; rw [h] at hlt2; simp at hlt2)
          obtain ⟨cs, h5, _, h6⟩ := hc j2 hlt2
          obtain ⟨op, n5, s, a5, len5, cap5, rfl, _⟩ := h5.cells
          have k0 := hW2.cell (h6 0 (by simp))
          have k1 := hW2.cell (h6 1 (by simp))
          have k2 := hW2.cell (h6 2 (by simp))
          have k3 := hW2.cell (h6 3 (by simp))
          have k4 := hW2.cell (h6 4 (by simp))
          have k5 := hW2.cell (h6 5 (by simp))
          have k6 := hW2.cell (h6 6 (by simp))
          have k7 := hW2.cell (h6 7 (by simp))
          simp only [Nat.add_zero, List.getElem_cons_zero, List.getElem_cons_succ] at k0 k1 k2 k3 k4 k5 k6 k7
          clear hc h6 h5
          have hsn := hid (show (flThings p.flows).take (j2 + 1) = (flThings p.flows).take j2 ++ [p.flows[j2].thing j2] by
            rw [List.take_succ_eq_append_getElem (by rw [flThings_len]; exact hlt2), flThings_get _ _ hlt2])
          generalize p.flows[j2] = x at k0 k1 k2 k3 hsn
          obtain ⟨fn, tmps, assign, body, hy, hR⟩ := HY.out (p.ins.map InD.thing ++ (flThings p.flows).take j2) (x.thing j2)
            (wr.alloc (.cells #[.string x.name, .int .u8 x.ty, .int .i64 x.st, .int .i64 x.dflt, .int .u8 op, .int .i64 n5, .string s, .slice a5 len5 cap5] 51)) (HJ.out.alloc HS2.out (Nat.le_trans hWrr.out.size hsz2) _) (by rw [PgD.things]; simp [flThings_len]; omega)
          dsimp only [encThs, FlD.thing] at hy hR
          gi_wp2
          refine hR.mono ?_
          rintro e W3 (⟨rfl, hJ3, hk3⟩ | ⟨rfl, hJx3⟩)
          · have hJ3' := hid hJ3
            clear hJ3
            gi_wp2
            gi_roundg (p.flows.length - (j2 + 1))
            case rel => exact ⟨j2 + 1, by omega, rfl, by go_num, by rw [hsn.out, ← List.append_assoc]; exact hJ3'.out, (hW2.trans (Kq.of (Below.alloc (Below.refl _ _) (Nat.le_refl _) _))).trans hk3⟩
            case measure => omega
          · have hJ3' := hid hJx3
            clear hJx3
            gi_wp2
            refine bodyPost_ret (results_none rfl _ _ _) rfl ?_
            refine ⟨⟨_, rfl⟩, .inr ⟨_, ?_, hJ3'.out⟩⟩
            have h := hsn.out
            rw [FlD.thing] at h
            rw [List.append_assoc, ← h, PgD.things]
            exact (List.prefix_append_right_inj _).2 (List.take_prefix _ _)
        · have hall : (flThings p.flows).take j2 = flThings p.flows := List.take_of_length_le (by rw [flThings_len]; omega)
          rw [hall] at HS2
          clear hall
          gi_wp2
          go_end0
          exact ⟨⟨_, rfl⟩, .inl ⟨_, rfl, HS2.out⟩⟩
end Go.Proofs.Ytmepdfipigdjhaa
