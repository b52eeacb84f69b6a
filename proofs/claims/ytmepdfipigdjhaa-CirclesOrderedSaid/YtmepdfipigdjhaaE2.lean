/- What may be worked out: exprs.check and exprs.Check. -/
import Derived.Test.YtmepdfipigdjhaaE1
import Derived.Deep.QuietTactic
import Derived.BigQuiet
import Derived.Deep.RegionHeld3
namespace Go.Proofs.Ytmepdfipigdjhaa
open Go.RowKit
set_option linter.unusedSimpArgs false
set_option linter.unusedVariables false

mutual
/-- May it be, with so many parts left, so deep; and how many are left behind it. -/
def Ex.chk (deep left : Int) : Ex → Bool × Int
  | .mk op n s args =>
    if left - 1 < 0 ∨ deep < 1 ∨ partsZ op ≠ args.length then (false, left - 1)
    else if op = 1 then (decide (0 ≤ n) && decide (s.size = 0), left - 1)
    else if op = 2 then ((decide (n = 0) || decide (n = 1)) && decide (s.size = 0), left - 1)
    else if op = 3 then (decide (n = 0) && nameB s, left - 1)
    else if (Ex.chkL (deep - 1) (left - 1) args).1 then (decide (n = 0) && decide (s.size = 0), (Ex.chkL (deep - 1) (left - 1) args).2)
    else (false, (Ex.chkL (deep - 1) (left - 1) args).2)
def Ex.chkL (deep left : Int) : List Ex → Bool × Int
  | [] => (true, left)
  | x :: r => if (Ex.chk deep left x).1 then Ex.chkL deep (Ex.chk deep left x).2 r else (false, (Ex.chk deep left x).2)
end
def Ex.check (x : Ex) : Bool := (x.chk 32 200).1

theorem chk_early {deep left op n : Int} {s : ByteArray} {args : List Ex} (h : left - 1 < 0 ∨ deep < 1 ∨ partsZ op ≠ args.length) : (Ex.mk op n s args).chk deep left = (false, left - 1) := by
  rw [Ex.chk, if_pos h]
theorem chk_int {deep left n : Int} {s : ByteArray} {args : List Ex} (h : ¬ (left - 1 < 0 ∨ deep < 1 ∨ partsZ 1 ≠ args.length)) : (Ex.mk 1 n s args).chk deep left = (decide (0 ≤ n) && decide (s.size = 0), left - 1) := by
  rw [Ex.chk, if_neg h]; rfl
theorem chk_bool {deep left n : Int} {s : ByteArray} {args : List Ex} (h : ¬ (left - 1 < 0 ∨ deep < 1 ∨ partsZ 2 ≠ args.length)) : (Ex.mk 2 n s args).chk deep left = ((decide (n = 0) || decide (n = 1)) && decide (s.size = 0), left - 1) := by
  rw [Ex.chk, if_neg h]; rfl
theorem chk_name {deep left n : Int} {s : ByteArray} {args : List Ex} (h : ¬ (left - 1 < 0 ∨ deep < 1 ∨ partsZ 3 ≠ args.length)) : (Ex.mk 3 n s args).chk deep left = (decide (n = 0) && nameB s, left - 1) := by
  rw [Ex.chk, if_neg h]; rfl
theorem chk_op {deep left op n : Int} {s : ByteArray} {args : List Ex} (h : ¬ (left - 1 < 0 ∨ deep < 1 ∨ partsZ op ≠ args.length)) (h1 : op ≠ 1) (h2 : op ≠ 2) (h3 : op ≠ 3) :
    (Ex.mk op n s args).chk deep left = if (Ex.chkL (deep - 1) (left - 1) args).1 then (decide (n = 0) && decide (s.size = 0), (Ex.chkL (deep - 1) (left - 1) args).2) else (false, (Ex.chkL (deep - 1) (left - 1) args).2) := by
  rw [Ex.chk, if_neg h, if_neg h1, if_neg h2, if_neg h3]
mutual
theorem chk_left : ∀ (x : Ex) (deep left : Int), 0 ≤ left → -1 ≤ (x.chk deep left).2 ∧ (x.chk deep left).2 ≤ left ∧ ((x.chk deep left).1 = true → 0 ≤ (x.chk deep left).2)
  | .mk op n s args, deep, left, h0 => by
    rw [Ex.chk]
    split
    · simp; omega
    · rename_i h
      have hl : 0 ≤ left - 1 := by omega
      have := chkL_left args (deep - 1) (left - 1) hl
      repeat' split
      all_goals (refine ⟨?_, ?_, fun hh => ?_⟩ <;> dsimp only at * <;> first | omega | (simp_all; done) | (have := this.2.2 (by assumption); omega))
theorem chkL_left : ∀ (l : List Ex) (deep left : Int), 0 ≤ left → -1 ≤ (Ex.chkL deep left l).2 ∧ (Ex.chkL deep left l).2 ≤ left ∧ ((Ex.chkL deep left l).1 = true → 0 ≤ (Ex.chkL deep left l).2)
  | [], deep, left, h0 => by rw [Ex.chkL]; simp; omega
  | x :: r, deep, left, h0 => by
    rw [Ex.chkL]
    have h1 := chk_left x deep left h0
    split
    · rename_i h
      have h2 := chkL_left r deep _ (h1.2.2 h)
      exact ⟨h2.1, Int.le_trans h2.2.1 h1.2.1, h2.2.2⟩
    · exact ⟨h1.1, h1.2.1, fun h => by simp at h⟩
end

/-- How exprs.check ends: its answer; how many parts are left, in block q. -/
def ChkEnd (q : Nat) (r : Bool × Int) (w : World) (e : Ending) (w' : World) : Prop :=
  e = .returned (.bool r.1) ∧ One w' q (.int .i64 r.2) 3 ∧ But q w w'

theorem IsSl.exprs {B d : Nat} {w : World} {xs : List Ex} {v : Value} (h : IsSl B w 4 (IsEx B w d) xs v) :
    ∃ a cap, v = .slice a xs.length cap ∧ xs.length ≤ maxLen ∧ (xs = [] ∨ ∃ b off, a = some ⟨b, off, none⟩ ∧ b < B ∧ ∀ i (h : i < xs.length),
      ∃ u, w.cell? ⟨b, off + i * 4, none⟩ = some (.int .u8 xs[i].op) ∧ w.cell? ⟨b, off + i * 4 + 1, none⟩ = some (.int .i64 xs[i].n) ∧ w.cell? ⟨b, off + i * 4 + 2, none⟩ = some (.string xs[i].name) ∧ w.cell? ⟨b, off + i * 4 + 3, none⟩ = some u ∧
        IsEx B w d xs[i] [.int .u8 xs[i].op, .int .i64 xs[i].n, .string xs[i].name, u]) := by
  obtain ⟨a, cap, rfl, h1, h2, h3⟩ := h
  refine ⟨a, cap, rfl, by omega, h3.imp id ?_⟩
  rintro ⟨b, off, rfl, hb, h4⟩
  refine ⟨b, off, rfl, hb, fun i hi => ?_⟩
  obtain ⟨cs, h5, _, h6⟩ := h4 i hi
  cases d with
  | zero => exact h5.elim
  | succ d' =>
    generalize hx : xs[i] = x at h5
    obtain ⟨op, n, s, args⟩ := x
    obtain ⟨u, rfl, h7, h8⟩ := h5
    exact ⟨u, h6 0 (by simp), h6 1 (by simp), h6 2 (by simp), h6 3 (by simp), ⟨u, rfl, h7, h8⟩⟩

set_option maxHeartbeats 1000000 in
theorem check_any (d : Nat) : ∀ (op n : Int) (s : ByteArray) (args : List Ex) (v : Value) (B q : Nat) (left deep : Int) (w : World), s.size ≤ maxLen → IsSl B w 4 (IsEx B w d) args v → B ≤ q → One w q (.int .i64 left) 3 → 0 ≤ left → left ≤ 200 → -1 ≤ deep → deep ≤ 32 →
    Calls Try.prog 56 #[.agg #[.int .u8 op, .int .i64 n, .string s, v], .pointer (some ⟨q, 0, none⟩), .int .i64 deep] w (ChkEnd q ((Ex.mk op n s args).chk deep left) w) := by
  induction d using Nat.strongRecOn with
  | _ d ih =>
    intro op n s args v B q left deep w hs hv hq ho hl0 hl1 hd0 hd1
    obtain ⟨a, cap, rfl, hlen, hx⟩ := hv.exprs
    have hlen' := hlen
    unfold maxLen at hlen'
    have hc := ho.cell
    have hf := ho.free
    have hlt := ho.lt
    by_cases c1 : left - 1 < 0
    · have E := hid (chk_early (op := op) (n := n) (s := s) (args := args) (deep := deep) (.inl c1))
      go_enter Try.func56, Try.ntmps56
      go_wp2_with fail
      go_quiet (fail)
      go_wp2_with fail
      go_ret
      exact ⟨ret_bool (by rw [E.out]), by rw [E.out]; exact (by repeat (first | with_reducible exact ho | with_reducible refine One.drewN ?_ _ | with_reducible refine One.drew ?_ | with_reducible refine One.alloc ?_ _ | with_reducible refine One.set (ho) _ | with_reducible refine One.other ?_ (by first | omega | (simp; omega)) _ _)), (by repeat (first | with_reducible exact But.refl _ _ | with_reducible refine But.drewN ?_ _ | with_reducible refine But.drew ?_ | with_reducible refine But.alloc ?_ _ | with_reducible refine But.set ?_ _ _))⟩
    · by_cases c2 : deep < 1
      · have E := hid (chk_early (op := op) (n := n) (s := s) (args := args) (left := left) (.inr (.inl c2)))
        have g1 : decide (left - 1 < 0) = false := by simpa using c1
        go_enter Try.func56, Try.ntmps56
        go_wp2_with fail
        go_quiet (fail)
        go_wp2_with fail
        go_ret
        exact ⟨ret_bool (by rw [E.out]), by rw [E.out]; exact (by repeat (first | with_reducible exact ho | with_reducible refine One.drewN ?_ _ | with_reducible refine One.drew ?_ | with_reducible refine One.alloc ?_ _ | with_reducible refine One.set (ho) _ | with_reducible refine One.other ?_ (by first | omega | (simp; omega)) _ _)), (by repeat (first | with_reducible exact But.refl _ _ | with_reducible refine But.drewN ?_ _ | with_reducible refine But.drew ?_ | with_reducible refine But.alloc ?_ _ | with_reducible refine But.set ?_ _ _))⟩
      · have g1 : decide (left - 1 < 0) = false := by simpa using c1
        have g2 : decide (deep < 1) = false := by simpa using c2
        go_enter Try.func56, Try.ntmps56
        go_wp2_with fail
        generalize hW1 : ((w.setCell ⟨q, 0, none⟩ (.int .i64 (left - 1))).alloc (.cells #[.int .u8 op, .int .i64 n, .string s, .slice a args.length cap] 49)) = W1
        have o1 : One W1 q (.int .i64 (left - 1)) 3 := by rw [← hW1]; exact (by repeat (first | with_reducible exact ho | with_reducible refine One.drewN ?_ _ | with_reducible refine One.drew ?_ | with_reducible refine One.alloc ?_ _ | with_reducible refine One.set (ho) _ | with_reducible refine One.other ?_ (by first | omega | (simp; omega)) _ _))
        have b1 : But q w W1 := by rw [← hW1]; exact (by repeat (first | with_reducible exact But.refl _ _ | with_reducible refine But.drewN ?_ _ | with_reducible refine But.drew ?_ | with_reducible refine But.alloc ?_ _ | with_reducible refine But.set ?_ _ _))
        have s1 : w.heap.size < W1.heap.size := by rw [← hW1]; simp
        have k0 : W1.cell? ⟨w.heap.size, 0, none⟩ = some (.int .u8 op) := by rw [← hW1]; exact new_cell _ _ _ (by simp) (by simp)
        have k1 : W1.cell? ⟨w.heap.size, 1, none⟩ = some (.int .i64 n) := by rw [← hW1]; exact new_cell _ _ _ (by simp) (by simp)
        have k2 : W1.cell? ⟨w.heap.size, 2, none⟩ = some (.string s) := by rw [← hW1]; exact new_cell _ _ _ (by simp) (by simp)
        have k3 : W1.cell? ⟨w.heap.size, 3, none⟩ = some (.slice a args.length cap) := by rw [← hW1]; exact new_cell _ _ _ (by simp) (by simp)
        have hc1 := o1.cell
        clear hW1 hc hf
        have HX := hid hx; clear hx
        have HV := hid hv; clear hv
        go_region_held3 (fun W => W.cell? ⟨w.heap.size, 0, none⟩ = some (.int .u8 op) ∧ W.cell? ⟨w.heap.size, 1, none⟩ = some (.int .i64 n) ∧ W.cell? ⟨w.heap.size, 2, none⟩ = some (.string s) ∧ W.cell? ⟨w.heap.size, 3, none⟩ = some (.slice a args.length cap) ∧ W.cell? ⟨q, 0, none⟩ = some (.int .i64 (left - 1)) ∧ Below W1.heap.size W1 W)
          (first | exact ⟨k0, k1, k2, k3, hc1, (Below.refl _ _).drew⟩ | exact ⟨((bcell hb2).1 _ _ s1).trans k0, ((bcell hb2).1 _ _ s1).trans k1, ((bcell hb2).1 _ _ s1).trans k2, ((bcell hb2).1 _ _ s1).trans k3, ((bcell hb2).1 _ _ o1.lt).trans hc1, ((Below.refl _ W1).drew).trans hb2⟩)
          (first | (go_at_call 66; refine (parts_any _ _).mono ?_; rintro e w2 ⟨rfl, hb2⟩))
        rename_i hh
        obtain ⟨m0, m1, m2, m3, m4, hb⟩ := hh
        clear hb2 k0 k1 k2 k3 hc1
        have o2 := o1.below hb o1.lt
        have b2 := b1.bl hb
        have s2 : w.heap.size < w2.heap.size := Nat.lt_of_lt_of_le s1 hb.size
        have hf2 := o2.free
        by_cases c3 : partsZ op = args.length
        · have c3' : ((partsZ op) != (args.length : Int)) = false := by simpa using c3
          have C3 := hid (show ¬ (left - 1 < 0 ∨ deep < 1 ∨ partsZ op ≠ args.length) by intro h; rcases h with h | h | h <;> first | omega | exact h c3)
          clear c3
          by_cases e1 : op = 1
          · subst e1
            have E := hid (chk_int (n := n) (s := s) C3.out)
            go_wp2_with fail
            all_goals
              go_ret
              exact ⟨ret_bool (by rw [E.out, ← isEmpty_eq]; simp [*]; try omega), by rw [E.out]; exact (by repeat (first | with_reducible exact o2 | with_reducible refine One.drewN ?_ _ | with_reducible refine One.drew ?_ | with_reducible refine One.alloc ?_ _ | with_reducible refine One.set (o2) _ | with_reducible refine One.other ?_ (by first | omega | (simp; omega)) _ _)), (by repeat (first | with_reducible exact b2 | with_reducible refine But.drewN ?_ _ | with_reducible refine But.drew ?_ | with_reducible refine But.alloc ?_ _ | with_reducible refine But.set ?_ _ _))⟩
          · by_cases e2 : op = 2
            · subst e2
              have E := hid (chk_bool (n := n) (s := s) C3.out)
              go_wp2_with fail
              all_goals
                go_ret
                exact ⟨ret_bool (by rw [E.out, ← isEmpty_eq]; simp [*]; try omega), by rw [E.out]; exact (by repeat (first | with_reducible exact o2 | with_reducible refine One.drewN ?_ _ | with_reducible refine One.drew ?_ | with_reducible refine One.alloc ?_ _ | with_reducible refine One.set (o2) _ | with_reducible refine One.other ?_ (by first | omega | (simp; omega)) _ _)), (by repeat (first | with_reducible exact b2 | with_reducible refine But.drewN ?_ _ | with_reducible refine But.drew ?_ | with_reducible refine But.alloc ?_ _ | with_reducible refine But.set ?_ _ _))⟩
            · by_cases e3 : op = 3
              · subst e3
                have E := hid (chk_name (n := n) (s := s) C3.out)
                by_cases hn : n = 0
                · subst hn
                  go_wp2_with (go_at_call 43; refine (name_any _ _ hs).mono ?_; rintro e w3 ⟨rfl, hb3⟩)
                  go_ret
                  exact ⟨ret_bool (by rw [E.out]; simp), by rw [E.out]; exact o2.below hb3 o2.lt, b2.bl hb3⟩
                · have hn' : (n == 0) = false := by simpa using hn
                  go_wp2_with fail
                  go_ret
                  exact ⟨ret_bool (by rw [E.out]; simp [hn]), by rw [E.out]; exact (by repeat (first | with_reducible exact o2 | with_reducible refine One.drewN ?_ _ | with_reducible refine One.drew ?_ | with_reducible refine One.alloc ?_ _ | with_reducible refine One.set (o2) _ | with_reducible refine One.other ?_ (by first | omega | (simp; omega)) _ _)), (by repeat (first | with_reducible exact b2 | with_reducible refine But.drewN ?_ _ | with_reducible refine But.drew ?_ | with_reducible refine But.alloc ?_ _ | with_reducible refine But.set ?_ _ _))⟩
              · have E := hid (chk_op (n := n) (s := s) C3.out e1 e2 e3)
                have e1' : (op == 1) = false := by simpa using e1
                have e2' : (op == 2) = false := by simpa using e2
                have e3' : (op == 3) = false := by simpa using e3
                clear e1 e2 e3
                go_wp2_with fail
                simp only [c3']
                clear c3'
                go_loopg [71] args.length (fun k i W => ∃ j : Nat, ∃ l2 : Int, j ≤ args.length ∧ k = args.length - j ∧ i = .int .i64 j ∧ 0 ≤ l2 ∧ l2 ≤ 200 ∧ Ex.chkL (deep - 1) (left - 1) args = Ex.chkL (deep - 1) l2 (args.drop j) ∧ One W q (.int .i64 l2) 3 ∧ But q w2 W)
                case atStart => exact ⟨0, left - 1, by omega, by omega, rfl, by omega, by omega, by simp, o2, But.refl _ _⟩
                case round =>
                  obtain ⟨j, l2, hj, rfl, rfl, p0, p1, hch, oW, bW⟩ := hrel
                  have HC := hid hch; clear hch
                  have cW := oW.cell
                  have fW := oW.free
                  have lW := oW.lt
                  have hBB : Below B w wr := (b2.trans bW).below hq (by omega)
                  have bA := b2.trans bW
                  have sA := bW.size
                  by_cases hj2 : j < args.length
                  · obtain ⟨b, off, rfl, hbB, hcs⟩ := HX.out.resolve_left (by intro h; subst h; simp at hj2)
                    obtain ⟨u, h0, h1, h2, h3, hex⟩ := hcs j hj2
                    have hdr := hid (List.drop_eq_getElem_cons hj2)
                    clear hcs
                    generalize args[j] = xj at h0 h1 h2 h3 hex hdr
                    obtain ⟨op2, n2, s2, args2⟩ := xj
                    cases d with
                    | zero => exact hex.elim
                    | succ d' =>
                      obtain ⟨u2, he, hs2, hsl⟩ := hex
                      simp only [Ex.op, Ex.n, Ex.name, List.cons.injEq, and_true, true_and] at h0 h1 h2 he
                      subst he
                      have hslW := hid (exs_below hsl hBB)
                      obtain ⟨a2, cap2, rfl, hsl⟩ := hsl
                      have g0 := (hBB.cell (p := ⟨b, off + j * 4, none⟩) hbB).trans h0
                      have g1 := (hBB.cell (p := ⟨b, off + j * 4 + 1, none⟩) hbB).trans h1
                      have g2 := (hBB.cell (p := ⟨b, off + j * 4 + 2, none⟩) hbB).trans h2
                      have g3 := (hBB.cell (p := ⟨b, off + j * 4 + 3, none⟩) hbB).trans h3
                      clear h0 h1 h2 h3 hsl
                      have hl3 := hid (chk_left (.mk op2 n2 s2 args2) (deep - 1) l2 p0)
                      cases hb1 : ((Ex.mk op2 n2 s2 args2).chk (deep - 1) l2).1
                      · have hb1' := hid hb1
                        go_wp2_with (go_at_call 56; refine (ih d' (by omega) op2 n2 s2 args2 _ B q l2 (deep - 1) _ hs2 (by exact exs_below hslW.out (by repeat (first | with_reducible exact Below.refl B wr | with_reducible refine below_drewN ?_ _ | with_reducible refine Below.drew ?_ | with_reducible refine Below.alloc ?_ (by have hszz := Below.size (Below.refl B wr); first | omega | (simp; done) | (simp at hszz ⊢; omega)) _ | with_reducible refine Below.setCell ?_ (by have hszz := Below.size (Below.refl B wr); first | omega | (simp; done) | (simp at hszz ⊢; omega)) _))) hq (by exact oW.alloc _) p0 p1 (by omega) (by omega)).mono ?_; rintro e w3 ⟨rfl, o3, b3⟩)
                        go_ret
                        have E2 : (Ex.mk op n s args).chk deep left = (false, ((Ex.mk op2 n2 s2 args2).chk (deep - 1) l2).2) := by
                          rw [E.out, HC.out, hdr.out, Ex.chkL]; simp [hb1'.out]
                        exact ⟨ret_bool (by rw [E2]), by rw [E2]; exact o3, (bA.alloc _).trans b3⟩
                      · have hb1' := hid hb1
                        go_wp2_with (go_at_call 56; refine (ih d' (by omega) op2 n2 s2 args2 _ B q l2 (deep - 1) _ hs2 (by exact exs_below hslW.out (by repeat (first | with_reducible exact Below.refl B wr | with_reducible refine below_drewN ?_ _ | with_reducible refine Below.drew ?_ | with_reducible refine Below.alloc ?_ (by have hszz := Below.size (Below.refl B wr); first | omega | (simp; done) | (simp at hszz ⊢; omega)) _ | with_reducible refine Below.setCell ?_ (by have hszz := Below.size (Below.refl B wr); first | omega | (simp; done) | (simp at hszz ⊢; omega)) _))) hq (by exact oW.alloc _) p0 p1 (by omega) (by omega)).mono ?_; rintro e w3 ⟨rfl, o3, b3⟩)
                        go_roundg (args.length - (j + 1))
                        case rel => exact ⟨j + 1, _, by omega, rfl, by go_num, hl3.out.2.2 hb1'.out, by have := hl3.out.2.1; omega, by rw [HC.out, hdr.out, Ex.chkL, if_pos hb1'.out], o3, (bW.alloc _).trans b3⟩
                        case measure => omega
                  · have hdr : args.drop j = [] := List.drop_of_length_le (by omega)
                    have E2 := hid (show (Ex.mk op n s args).chk deep left = (decide (n = 0) && decide (s.size = 0), l2) by rw [E.out, HC.out, hdr, Ex.chkL]; simp)
                    clear hdr
                    have bZ : ∀ i, wr.cell? ⟨w.heap.size, i, none⟩ = w2.cell? ⟨w.heap.size, i, none⟩ := fun i => World.cell?_of_block (w := w2) (bW.block w.heap.size s2 (by omega))
                    have z1 := (bZ 1).trans m1
                    have z2 := (bZ 2).trans m2
                    clear bZ
                    go_wp2_with fail
                    all_goals
                      go_ret
                      exact ⟨ret_bool (by rw [E2.out, ← isEmpty_eq]; simp [*]), by rw [E2.out]; exact oW, bA⟩
        · have E := hid (chk_early (op := op) (n := n) (s := s) (args := args) (left := left) (deep := deep) (.inr (.inr c3)))
          have c3' : ((partsZ op) != (args.length : Int)) = true := by simpa using c3
          go_wp2_with fail
          go_ret
          exact ⟨ret_bool (by rw [E.out]), by rw [E.out]; exact (by repeat (first | with_reducible exact o2 | with_reducible refine One.drewN ?_ _ | with_reducible refine One.drew ?_ | with_reducible refine One.alloc ?_ _ | with_reducible refine One.set (o2) _ | with_reducible refine One.other ?_ (by first | omega | (simp; omega)) _ _)), (by repeat (first | with_reducible exact b2 | with_reducible refine But.drewN ?_ _ | with_reducible refine But.drew ?_ | with_reducible refine But.alloc ?_ _ | with_reducible refine But.set ?_ _ _))⟩
set_option maxHeartbeats 400000 in
theorem exCheck_any (d B : Nat) (x : Ex) (cs : List Value) (w : World) (hx : IsEx B w d x cs) (hB : B ≤ w.heap.size) :
    Calls Try.prog 40 #[.agg cs.toArray] w (RetB x.check w) := by
  cases d with
  | zero => exact hx.elim
  | succ d =>
    obtain ⟨op, n, s, args⟩ := x
    obtain ⟨u, rfl, hs, hsl⟩ := hx
    have HS := hid hsl
    obtain ⟨a, cap, rfl, hsl⟩ := hsl
    clear hsl
    go_enter Try.func40, Try.ntmps40
    go_wp2_with (go_at_call 56; refine (check_any d op n s args _ B (w.heap.size + 1) 200 32 _ hs (by exact exs_below HS.out (by repeat (first | with_reducible exact Below.refl B w | with_reducible refine below_drewN ?_ _ | with_reducible refine Below.drew ?_ | with_reducible refine Below.alloc ?_ (by have hszz := Below.size (Below.refl B w); first | omega | (simp; done) | (simp at hszz ⊢; omega)) _ | with_reducible refine Below.setCell ?_ (by have hszz := Below.size (Below.refl B w); first | omega | (simp; done) | (simp at hszz ⊢; omega)) _))) (by omega) (by exact One.new' _ _ _ (by simp)) (by omega) (by omega) (by omega) (by omega)).mono ?_; rintro e w3 ⟨rfl, o3, b3⟩)
    go_ret
    exact ⟨rfl, (((Below.refl _ w).alloc (Nat.le_refl _) _).alloc (by simp) _).trans (b3.below (by omega) (by simp; omega))⟩
end Go.Proofs.Ytmepdfipigdjhaa
