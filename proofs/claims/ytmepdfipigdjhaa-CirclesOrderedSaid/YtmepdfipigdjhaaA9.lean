/- Flows in a ring, walked: CirclesRing. -/
import Derived.Test.YtmepdfipigdjhaaA8
namespace Go.Proofs.Ytmepdfipigdjhaa
open Go.RowKit
set_option linter.unusedSimpArgs false
set_option linter.unusedVariables false
def ringRow (k i : Nat) : List Nat := [(i + 1) % k]
def cutRow (k x i : Nat) : List Nat := if i = x then [] else [(i + 1) % k]
def agoRow (k x i : Nat) : List Nat := if i = x then [(i + 1) % k] else []
def ringN (k j : Nat) : List (List Nat) := (List.range j).map (ringRow k)
def ringC (k x j : Nat) : List (List Nat) := (List.range j).map (cutRow k x)
def ringA (k x j : Nat) : List (List Nat) := (List.range j).map (agoRow k x)
def ringW (j : Nat) : List ByteArray := (List.range j).map wordD
theorem ringN_len (k j : Nat) : (ringN k j).length = j := by simp [ringN]
theorem ringC_len (k x j : Nat) : (ringC k x j).length = j := by simp [ringC]
theorem ringA_len (k x j : Nat) : (ringA k x j).length = j := by simp [ringA]
theorem ringW_len (j : Nat) : (ringW j).length = j := by simp [ringW]
theorem ringN_succ (k j : Nat) : ringN k (j + 1) = ringN k j ++ [[(j + 1) % k]] := by simp [ringN, List.range_succ, ringRow]
theorem ringC_succ (k x j : Nat) : ringC k x (j + 1) = ringC k x j ++ [if j = x then [] else [(j + 1) % k]] := by simp [ringC, List.range_succ, cutRow]
theorem ringA_succ (k x j : Nat) : ringA k x (j + 1) = ringA k x j ++ [if j = x then [(j + 1) % k] else []] := by simp [ringA, List.range_succ, agoRow]
theorem ringW_succ (j : Nat) : ringW (j + 1) = ringW j ++ [wordD j] := by simp [ringW, List.range_succ]
theorem RS.vals {W : World} {base : Nat} {vN vC vA vW : Value} {rN rC rA : List (List Nat)} {ws : List ByteArray} {j : Nat} (h : RS W base vN vC vA vW rN rC rA ws) (h1 : rN.length = j) (h2 : rC.length = j) (h3 : rA.length = j) (h4 : ws.length = j) :
    ∃ na nc ca cc aa ac wa wc, vN = .slice na j nc ∧ vC = .slice ca j cc ∧ vA = .slice aa j ac ∧ vW = .slice wa j wc := by
  obtain ⟨na, nc, e1⟩ := h.n.val
  obtain ⟨ca, cc, e2⟩ := h.c.val
  obtain ⟨aa, ac, e3⟩ := h.a.val
  have h5 := h.w.1
  obtain ⟨wa, wn, wc, e4⟩ := own_val h.w
  have e5 : wn = j := by
    rcases h.w.2 with ⟨e, e6⟩ | ⟨g, cap, cur, e, _⟩
    · rw [e4] at e; injection e with _ e7 _; omega
    · rw [e4] at e; injection e with _ e7 _; omega
  subst e5
  exact ⟨na, nc, ca, cc, aa, ac, wa, wc, by rw [e1, h1], by rw [e2, h2], by rw [e3, h3], e4⟩
theorem flat1 (l : List ByteArray) : (l.map fun s => [Value.string s]).flatten = l.map Value.string := by
  induction l with
  | nil => rfl
  | cons a r ih => rw [List.map_cons, List.flatten_cons, ih]; rfl
set_option maxRecDepth 100000 in
set_option maxHeartbeats 8000000 in
theorem ring_any (n x : Nat) (w : World) (hn : n < 256) (hx : x < 256) :
    Calls Try.prog 5 #[.int .u8 n, .int .u8 x] w (Ret (.bool true) w) := by
  obtain ⟨k, hk⟩ : ∃ k, k = n % 60 + 1 := ⟨_, rfl⟩
  have k1 : 1 ≤ k := by omega
  have k2 : k ≤ 60 := by omega
  have e1 : (n : Int) % 60 + 1 = (k : Int) := by omega
  obtain ⟨y, hy⟩ : ∃ y, y = x % k := ⟨_, rfl⟩
  have e2 : (x : Int) % (k : Int) = (y : Int) := by rw [hy]; push_cast; rfl
  have y1 : y < k := by rw [hy]; exact Nat.mod_lt _ (by omega)
  clear hk hy
  go_enter Try.func5, Try.ntmps5
  go_wp2_with fail
  go_loopg [6, 7, 8, 9, 10] k (fun kk vN vC vA vW i W => ∃ j : Nat, j ≤ k ∧ kk = k - j ∧ i = .int .i64 j ∧ RS W w.heap.size vN vC vA vW (ringN k j) (ringC k y j) (ringA k y j) (ringW j) ∧ Below w.heap.size w W)
  case atStart => exact ⟨0, by omega, by omega, rfl, ⟨Rw.nil _ _, Rw.nil _ _, Rw.nil _ _, World.ownsRow_nil _ _ _ _, Dis.nil _, Dis.nil _, Dis.nil _⟩, Below.refl _ _⟩
  case round =>
    obtain ⟨j, hj, rfl, rfl, hRS, hW⟩ := hrel
    obtain ⟨wo, rfl⟩ : ∃ wo : World, wo = wr := ⟨_, rfl⟩
    obtain ⟨na, nc, ca, cc, aa, ac, wa, wc, rfl, rfl, rfl, rfl⟩ := hRS.vals (ringN_len k j) (ringC_len k y j) (ringA_len k y j) (ringW_len j)
    have HS := hid hRS
    clear hRS
    by_cases hlt : j < k
    · obtain ⟨m, hm⟩ : ∃ m, m = (j + 1) % k := ⟨_, rfl⟩
      have e3 : ((j : Int) + 1) % (k : Int) = (m : Int) := by rw [hm]; push_cast; rfl
      have HM := hid hm
      have hnz : ¬ (k : Int) = 0 := by omega
      have hsz := hW.size
      have hj1 : j ≤ 1000000 := by omega
      obtain ⟨i0, hi0, hz0, hz1, hz2⟩ := info_parts infoRow
      obtain ⟨i1, hi1, hy0, hy1, hy2⟩ := info_parts infoStr
      clear hm
      by_cases hjy : j = y
      · have hje : ((j : Int) == (y : Int)) = true := by simp [hjy]
        have HJY := hid hjy
        clear hjy
        have tok1 : True := trivial
        go_wp2_with (first
         | (at_builtin
            have tk := tok1
            clear tk tok1
            have R0 : RS ((wo.alloc (.cells #[.int .i64 (m : Int)] 3)).alloc (.cells #[.slice (some ⟨wo.heap.size, 0, none⟩) 1 1] 35)) w.heap.size (.slice na j nc) (.slice ca j cc) (.slice aa j ac) (.slice wa j wc) (ringN k j) (ringC k y j) (ringA k y j) (ringW j) := HS.out.below (by exact (by repeat (first | with_reducible exact Below.refl wo.heap.size wo | with_reducible refine below_drewN ?_ _ | with_reducible refine Below.drew ?_ | with_reducible refine Below.alloc ?_ (by have hszz := Below.size (Below.refl wo.heap.size wo); first | omega | (simp; done) | (simp at hszz ⊢; omega)) _ | with_reducible refine Below.setCell ?_ (by have hszz := Below.size (Below.refl wo.heap.size wo); first | omega | (simp; done) | (simp at hszz ⊢; omega)) _)))
            have hU0 : (((wo.alloc (.cells #[.int .i64 (m : Int)] 3)).alloc (.cells #[.slice (some ⟨wo.heap.size, 0, none⟩) 1 1] 35))).ownsRow w.heap.size 3 1 (.slice (some ⟨wo.heap.size, 0, none⟩) 1 1) 1 (intsOf [m]) := (own_lit1 wo w.heap.size 3 (.int .i64 (m : Int)) rfl hsz).alloc _
            obtain ⟨vs, vl, vo, v1, ve⟩ := R0.n
            have vo2 : (((wo.alloc (.cells #[.int .i64 (m : Int)] 3)).alloc (.cells #[.slice (some ⟨wo.heap.size, 0, none⟩) 1 1] 35))).ownsRow w.heap.size 35 1 (.slice na j nc) j vs := by have := vo; rw [ringN_len] at this; exact this
            refine wpList_append_own_at _ rfl _ _ 34 rfl w.heap.size 35 i0 _ 1 24 Try.underlying34 hi0 hz0 hz1 hz2 rfl (by decide) (.slice na j nc) j vs rfl vo2 ⟨wo.heap.size + 1, 0, none⟩ 1 1 [.slice (some ⟨wo.heap.size, 0, none⟩) 1 1] rfl rfl (World.news_of_block (cs := #[.slice (some ⟨wo.heap.size, 0, none⟩) 1 1]) (t := 35) (fr := (0, 0)) (alloc_new_at _ _ (by simp))) ?_ (by unfold maxLen; omega) (by omega) (by simp; omega) ?_
            · intro u hu; rw [List.mem_singleton] at hu; subst hu; rfl
            intro vN w1 ho1 hg1 _ hat1
            have R1 := R0.pushN vl v1 ve hU0 rfl vo hg1 (by rw [ringN_len]; exact ho1) hat1
            have hU1 := hU0.kept hg1 (own_type_ne hU0 vo2 (by decide))
            have b1 : Below w.heap.size w w1 := (show Below w.heap.size w ((wo.alloc (.cells #[.int .i64 (m : Int)] 3)).alloc (.cells #[.slice (some ⟨wo.heap.size, 0, none⟩) 1 1] 35)) from (hW.alloc hsz _).alloc (by simp; omega) _).trans (grew_below vo2 hg1 (Nat.le_refl _) (by simp; omega))
            have s1 := b1.size
            clear R0 vl vo v1 ve ho1 hg1 hat1 hU0 vo2
            have tok2 : True := trivial)
         | (at_builtin
            have tk := tok2
            clear tk tok2
            have R2 : RS ((w1.drewN q).alloc (.cells #[.string (wordD j)] 9)) w.heap.size vN (.slice ca j cc) (.slice aa j ac) (.slice wa j wc) (ringN k j ++ [[m]]) (ringC k y j) (ringA k y j) (ringW j) := R1.below (by exact (by repeat (first | with_reducible exact Below.refl w1.heap.size w1 | with_reducible refine below_drewN ?_ _ | with_reducible refine Below.drew ?_ | with_reducible refine Below.alloc ?_ (by have hszz := Below.size (Below.refl w1.heap.size w1); first | omega | (simp; done) | (simp at hszz ⊢; omega)) _ | with_reducible refine Below.setCell ?_ (by have hszz := Below.size (Below.refl w1.heap.size w1); first | omega | (simp; done) | (simp at hszz ⊢; omega)) _)))
            have hU2 : (((w1.drewN q).alloc (.cells #[.string (wordD j)] 9))).ownsRow w.heap.size 3 1 (.slice (some ⟨wo.heap.size, 0, none⟩) 1 1) 1 (intsOf [m]) := own_below hU1 (by exact (by repeat (first | with_reducible exact Below.refl w1.heap.size w1 | with_reducible refine below_drewN ?_ _ | with_reducible refine Below.drew ?_ | with_reducible refine Below.alloc ?_ (by have hszz := Below.size (Below.refl w1.heap.size w1); first | omega | (simp; done) | (simp at hszz ⊢; omega)) _ | with_reducible refine Below.setCell ?_ (by have hszz := Below.size (Below.refl w1.heap.size w1); first | omega | (simp; done) | (simp at hszz ⊢; omega)) _)))
            have wo2 : (((w1.drewN q).alloc (.cells #[.string (wordD j)] 9))).ownsRow w.heap.size 9 1 (.slice wa j wc) j ((ringW j).map Value.string) := by have := R2.w; rw [ringW_len] at this; exact this
            refine wpList_append_own_at _ rfl _ _ 24 rfl w.heap.size 9 i1 _ 1 16 Try.underlying24 hi1 hy0 hy1 hy2 rfl (by decide) (.slice wa j wc) j ((ringW j).map Value.string) rfl wo2 ⟨w1.heap.size, 0, none⟩ 1 1 [.string (wordD j)] rfl rfl (World.news_of_block (cs := #[.string (wordD j)]) (t := 9) (fr := (0, 0)) (alloc_new_at _ _ (by simp))) ?_ (by unfold maxLen; omega) (by omega) (by simp; omega) ?_
            · intro u hu; rw [List.mem_singleton] at hu; subst hu; rfl
            intro vW w3 ho3 hg3 _ _
            have R3 := R2.pushW hg3 (by rw [ringW_len]; exact ho3)
            have hU3 := hU2.kept hg3 (own_type_ne hU2 wo2 (by decide))
            have b3 : Below w.heap.size w w3 := (show Below w.heap.size w ((w1.drewN q).alloc (.cells #[.string (wordD j)] 9)) from (below_drewN b1 q).alloc (by simp; omega) _).trans (grew_below wo2 hg3 (Nat.le_refl _) (by simp; omega))
            have s3 := b3.size
            clear R1 R2 hU1 hU2 wo2 ho3 hg3
            have tok3 : True := trivial)
         | (at_builtin
            have tk := tok3
            clear tk tok3
            have R4 : RS (w3.alloc (.cells #[.slice none 0 0] 35)) w.heap.size vN (.slice ca j cc) (.slice aa j ac) vW (ringN k j ++ [[m]]) (ringC k y j) (ringA k y j) (ringW j ++ [wordD j]) := R3.below (by exact (by repeat (first | with_reducible exact Below.refl w3.heap.size w3 | with_reducible refine below_drewN ?_ _ | with_reducible refine Below.drew ?_ | with_reducible refine Below.alloc ?_ (by have hszz := Below.size (Below.refl w3.heap.size w3); first | omega | (simp; done) | (simp at hszz ⊢; omega)) _ | with_reducible refine Below.setCell ?_ (by have hszz := Below.size (Below.refl w3.heap.size w3); first | omega | (simp; done) | (simp at hszz ⊢; omega)) _)))
            have hU4 : ((w3.alloc (.cells #[.slice none 0 0] 35))).ownsRow w.heap.size 3 1 (.slice (some ⟨wo.heap.size, 0, none⟩) 1 1) 1 (intsOf [m]) := own_below hU3 (by exact (by repeat (first | with_reducible exact Below.refl w3.heap.size w3 | with_reducible refine below_drewN ?_ _ | with_reducible refine Below.drew ?_ | with_reducible refine Below.alloc ?_ (by have hszz := Below.size (Below.refl w3.heap.size w3); first | omega | (simp; done) | (simp at hszz ⊢; omega)) _ | with_reducible refine Below.setCell ?_ (by have hszz := Below.size (Below.refl w3.heap.size w3); first | omega | (simp; done) | (simp at hszz ⊢; omega)) _)))
            obtain ⟨vs, vl, vo, v1, ve⟩ := R4.c
            have vo2 : ((w3.alloc (.cells #[.slice none 0 0] 35))).ownsRow w.heap.size 35 1 (.slice ca j cc) j vs := by have := vo; rw [ringC_len] at this; exact this
            refine wpList_append_own_at _ rfl _ _ 34 rfl w.heap.size 35 i0 _ 1 24 Try.underlying34 hi0 hz0 hz1 hz2 rfl (by decide) (.slice ca j cc) j vs rfl vo2 ⟨w3.heap.size, 0, none⟩ 1 1 [.slice none 0 0] rfl rfl (World.news_of_block (cs := #[.slice none 0 0]) (t := 35) (fr := (0, 0)) (alloc_new_at _ _ (by simp))) ?_ (by unfold maxLen; omega) (by omega) (by simp; omega) ?_
            · intro u hu; rw [List.mem_singleton] at hu; subst hu; rfl
            intro vC w5 ho5 hg5 _ hat5
            have R5 := R4.pushC (r := []) vl v1 ve (World.ownsRow_nil _ _ _ _) rfl vo hg5 (by rw [ringC_len]; exact ho5) hat5
            have hU5 := hU4.kept hg5 (own_type_ne hU4 vo2 (by decide))
            have b5 : Below w.heap.size w w5 := (show Below w.heap.size w (w3.alloc (.cells #[.slice none 0 0] 35)) from b3.alloc s3 _).trans (grew_below vo2 hg5 (Nat.le_refl _) (by simp; omega))
            have s5 := b5.size
            clear R3 R4 hU3 hU4 vl vo v1 ve ho5 hg5 hat5 vo2
            have tok4 : True := trivial)
         | (at_builtin
            have tk := tok4
            clear tk tok4
            have R6 : RS (w5.alloc (.cells #[.slice (some ⟨wo.heap.size, 0, none⟩) 1 1] 35)) w.heap.size vN vC (.slice aa j ac) vW (ringN k j ++ [[m]]) (ringC k y j ++ [[]]) (ringA k y j) (ringW j ++ [wordD j]) := R5.below (by exact (by repeat (first | with_reducible exact Below.refl w5.heap.size w5 | with_reducible refine below_drewN ?_ _ | with_reducible refine Below.drew ?_ | with_reducible refine Below.alloc ?_ (by have hszz := Below.size (Below.refl w5.heap.size w5); first | omega | (simp; done) | (simp at hszz ⊢; omega)) _ | with_reducible refine Below.setCell ?_ (by have hszz := Below.size (Below.refl w5.heap.size w5); first | omega | (simp; done) | (simp at hszz ⊢; omega)) _)))
            have hU6 : ((w5.alloc (.cells #[.slice (some ⟨wo.heap.size, 0, none⟩) 1 1] 35))).ownsRow w.heap.size 3 1 (.slice (some ⟨wo.heap.size, 0, none⟩) 1 1) 1 (intsOf [m]) := own_below hU5 (by exact (by repeat (first | with_reducible exact Below.refl w5.heap.size w5 | with_reducible refine below_drewN ?_ _ | with_reducible refine Below.drew ?_ | with_reducible refine Below.alloc ?_ (by have hszz := Below.size (Below.refl w5.heap.size w5); first | omega | (simp; done) | (simp at hszz ⊢; omega)) _ | with_reducible refine Below.setCell ?_ (by have hszz := Below.size (Below.refl w5.heap.size w5); first | omega | (simp; done) | (simp at hszz ⊢; omega)) _)))
            obtain ⟨vs, vl, vo, v1, ve⟩ := R6.a
            have vo2 : ((w5.alloc (.cells #[.slice (some ⟨wo.heap.size, 0, none⟩) 1 1] 35))).ownsRow w.heap.size 35 1 (.slice aa j ac) j vs := by have := vo; rw [ringA_len] at this; exact this
            refine wpList_append_own_at _ rfl _ _ 34 rfl w.heap.size 35 i0 _ 1 24 Try.underlying34 hi0 hz0 hz1 hz2 rfl (by decide) (.slice aa j ac) j vs rfl vo2 ⟨w5.heap.size, 0, none⟩ 1 1 [.slice (some ⟨wo.heap.size, 0, none⟩) 1 1] rfl rfl (World.news_of_block (cs := #[.slice (some ⟨wo.heap.size, 0, none⟩) 1 1]) (t := 35) (fr := (0, 0)) (alloc_new_at _ _ (by simp))) ?_ (by unfold maxLen; omega) (by omega) (by simp; omega) ?_
            · intro u hu; rw [List.mem_singleton] at hu; subst hu; rfl
            intro vA w7 ho7 hg7 _ hat7
            have R7 := R6.pushA (r := [m]) vl v1 ve (by exact hU6) rfl vo hg7 (by rw [ringA_len]; exact ho7) hat7
            have b7 : Below w.heap.size w w7 := (show Below w.heap.size w (w5.alloc (.cells #[.slice (some ⟨wo.heap.size, 0, none⟩) 1 1] 35)) from b5.alloc s5 _).trans (grew_below vo2 hg7 (Nat.le_refl _) (by simp; omega))
            clear R5 R6 hU5 hU6 vl vo v1 ve ho7 hg7 hat7 vo2)
         | (go_at_call 16; refine (word_any j _ hj1).mono ?_; rintro e w2 ⟨rfl, q, rfl⟩))
        go_roundg (k - (j + 1))
        case rel =>
          refine ⟨j + 1, by omega, rfl, by go_num, ?_, b7⟩
          rw [ringN_succ, ringC_succ, ringA_succ, ringW_succ, if_pos HJY.out, if_pos HJY.out, ← HM.out]
          exact R7
        case measure => omega
      · have hje : ((j : Int) == (y : Int)) = false := by rw [beq_eq_false_iff_ne]; omega
        have HJY := hid hjy
        clear hjy
        have tok1 : True := trivial
        go_wp2_with (first
         | (at_builtin
            have tk := tok1
            clear tk tok1
            have R0 : RS ((wo.alloc (.cells #[.int .i64 (m : Int)] 3)).alloc (.cells #[.slice (some ⟨wo.heap.size, 0, none⟩) 1 1] 35)) w.heap.size (.slice na j nc) (.slice ca j cc) (.slice aa j ac) (.slice wa j wc) (ringN k j) (ringC k y j) (ringA k y j) (ringW j) := HS.out.below (by exact (by repeat (first | with_reducible exact Below.refl wo.heap.size wo | with_reducible refine below_drewN ?_ _ | with_reducible refine Below.drew ?_ | with_reducible refine Below.alloc ?_ (by have hszz := Below.size (Below.refl wo.heap.size wo); first | omega | (simp; done) | (simp at hszz ⊢; omega)) _ | with_reducible refine Below.setCell ?_ (by have hszz := Below.size (Below.refl wo.heap.size wo); first | omega | (simp; done) | (simp at hszz ⊢; omega)) _)))
            have hU0 : (((wo.alloc (.cells #[.int .i64 (m : Int)] 3)).alloc (.cells #[.slice (some ⟨wo.heap.size, 0, none⟩) 1 1] 35))).ownsRow w.heap.size 3 1 (.slice (some ⟨wo.heap.size, 0, none⟩) 1 1) 1 (intsOf [m]) := (own_lit1 wo w.heap.size 3 (.int .i64 (m : Int)) rfl hsz).alloc _
            obtain ⟨vs, vl, vo, v1, ve⟩ := R0.n
            have vo2 : (((wo.alloc (.cells #[.int .i64 (m : Int)] 3)).alloc (.cells #[.slice (some ⟨wo.heap.size, 0, none⟩) 1 1] 35))).ownsRow w.heap.size 35 1 (.slice na j nc) j vs := by have := vo; rw [ringN_len] at this; exact this
            refine wpList_append_own_at _ rfl _ _ 34 rfl w.heap.size 35 i0 _ 1 24 Try.underlying34 hi0 hz0 hz1 hz2 rfl (by decide) (.slice na j nc) j vs rfl vo2 ⟨wo.heap.size + 1, 0, none⟩ 1 1 [.slice (some ⟨wo.heap.size, 0, none⟩) 1 1] rfl rfl (World.news_of_block (cs := #[.slice (some ⟨wo.heap.size, 0, none⟩) 1 1]) (t := 35) (fr := (0, 0)) (alloc_new_at _ _ (by simp))) ?_ (by unfold maxLen; omega) (by omega) (by simp; omega) ?_
            · intro u hu; rw [List.mem_singleton] at hu; subst hu; rfl
            intro vN w1 ho1 hg1 _ hat1
            have R1 := R0.pushN vl v1 ve hU0 rfl vo hg1 (by rw [ringN_len]; exact ho1) hat1
            have hU1 := hU0.kept hg1 (own_type_ne hU0 vo2 (by decide))
            have b1 : Below w.heap.size w w1 := (show Below w.heap.size w ((wo.alloc (.cells #[.int .i64 (m : Int)] 3)).alloc (.cells #[.slice (some ⟨wo.heap.size, 0, none⟩) 1 1] 35)) from (hW.alloc hsz _).alloc (by simp; omega) _).trans (grew_below vo2 hg1 (Nat.le_refl _) (by simp; omega))
            have s1 := b1.size
            clear R0 vl vo v1 ve ho1 hg1 hat1 hU0 vo2
            have tok2 : True := trivial)
         | (at_builtin
            have tk := tok2
            clear tk tok2
            have R2 : RS ((w1.drewN q).alloc (.cells #[.string (wordD j)] 9)) w.heap.size vN (.slice ca j cc) (.slice aa j ac) (.slice wa j wc) (ringN k j ++ [[m]]) (ringC k y j) (ringA k y j) (ringW j) := R1.below (by exact (by repeat (first | with_reducible exact Below.refl w1.heap.size w1 | with_reducible refine below_drewN ?_ _ | with_reducible refine Below.drew ?_ | with_reducible refine Below.alloc ?_ (by have hszz := Below.size (Below.refl w1.heap.size w1); first | omega | (simp; done) | (simp at hszz ⊢; omega)) _ | with_reducible refine Below.setCell ?_ (by have hszz := Below.size (Below.refl w1.heap.size w1); first | omega | (simp; done) | (simp at hszz ⊢; omega)) _)))
            have hU2 : (((w1.drewN q).alloc (.cells #[.string (wordD j)] 9))).ownsRow w.heap.size 3 1 (.slice (some ⟨wo.heap.size, 0, none⟩) 1 1) 1 (intsOf [m]) := own_below hU1 (by exact (by repeat (first | with_reducible exact Below.refl w1.heap.size w1 | with_reducible refine below_drewN ?_ _ | with_reducible refine Below.drew ?_ | with_reducible refine Below.alloc ?_ (by have hszz := Below.size (Below.refl w1.heap.size w1); first | omega | (simp; done) | (simp at hszz ⊢; omega)) _ | with_reducible refine Below.setCell ?_ (by have hszz := Below.size (Below.refl w1.heap.size w1); first | omega | (simp; done) | (simp at hszz ⊢; omega)) _)))
            have wo2 : (((w1.drewN q).alloc (.cells #[.string (wordD j)] 9))).ownsRow w.heap.size 9 1 (.slice wa j wc) j ((ringW j).map Value.string) := by have := R2.w; rw [ringW_len] at this; exact this
            refine wpList_append_own_at _ rfl _ _ 24 rfl w.heap.size 9 i1 _ 1 16 Try.underlying24 hi1 hy0 hy1 hy2 rfl (by decide) (.slice wa j wc) j ((ringW j).map Value.string) rfl wo2 ⟨w1.heap.size, 0, none⟩ 1 1 [.string (wordD j)] rfl rfl (World.news_of_block (cs := #[.string (wordD j)]) (t := 9) (fr := (0, 0)) (alloc_new_at _ _ (by simp))) ?_ (by unfold maxLen; omega) (by omega) (by simp; omega) ?_
            · intro u hu; rw [List.mem_singleton] at hu; subst hu; rfl
            intro vW w3 ho3 hg3 _ _
            have R3 := R2.pushW hg3 (by rw [ringW_len]; exact ho3)
            have hU3 := hU2.kept hg3 (own_type_ne hU2 wo2 (by decide))
            have b3 : Below w.heap.size w w3 := (show Below w.heap.size w ((w1.drewN q).alloc (.cells #[.string (wordD j)] 9)) from (below_drewN b1 q).alloc (by simp; omega) _).trans (grew_below wo2 hg3 (Nat.le_refl _) (by simp; omega))
            have s3 := b3.size
            clear R1 R2 hU1 hU2 wo2 ho3 hg3
            have tok3 : True := trivial)
         | (at_builtin
            have tk := tok3
            clear tk tok3
            have R4 : RS (w3.alloc (.cells #[.slice (some ⟨wo.heap.size, 0, none⟩) 1 1] 35)) w.heap.size vN (.slice ca j cc) (.slice aa j ac) vW (ringN k j ++ [[m]]) (ringC k y j) (ringA k y j) (ringW j ++ [wordD j]) := R3.below (by exact (by repeat (first | with_reducible exact Below.refl w3.heap.size w3 | with_reducible refine below_drewN ?_ _ | with_reducible refine Below.drew ?_ | with_reducible refine Below.alloc ?_ (by have hszz := Below.size (Below.refl w3.heap.size w3); first | omega | (simp; done) | (simp at hszz ⊢; omega)) _ | with_reducible refine Below.setCell ?_ (by have hszz := Below.size (Below.refl w3.heap.size w3); first | omega | (simp; done) | (simp at hszz ⊢; omega)) _)))
            have hU4 : ((w3.alloc (.cells #[.slice (some ⟨wo.heap.size, 0, none⟩) 1 1] 35))).ownsRow w.heap.size 3 1 (.slice (some ⟨wo.heap.size, 0, none⟩) 1 1) 1 (intsOf [m]) := own_below hU3 (by exact (by repeat (first | with_reducible exact Below.refl w3.heap.size w3 | with_reducible refine below_drewN ?_ _ | with_reducible refine Below.drew ?_ | with_reducible refine Below.alloc ?_ (by have hszz := Below.size (Below.refl w3.heap.size w3); first | omega | (simp; done) | (simp at hszz ⊢; omega)) _ | with_reducible refine Below.setCell ?_ (by have hszz := Below.size (Below.refl w3.heap.size w3); first | omega | (simp; done) | (simp at hszz ⊢; omega)) _)))
            obtain ⟨vs, vl, vo, v1, ve⟩ := R4.c
            have vo2 : ((w3.alloc (.cells #[.slice (some ⟨wo.heap.size, 0, none⟩) 1 1] 35))).ownsRow w.heap.size 35 1 (.slice ca j cc) j vs := by have := vo; rw [ringC_len] at this; exact this
            refine wpList_append_own_at _ rfl _ _ 34 rfl w.heap.size 35 i0 _ 1 24 Try.underlying34 hi0 hz0 hz1 hz2 rfl (by decide) (.slice ca j cc) j vs rfl vo2 ⟨w3.heap.size, 0, none⟩ 1 1 [.slice (some ⟨wo.heap.size, 0, none⟩) 1 1] rfl rfl (World.news_of_block (cs := #[.slice (some ⟨wo.heap.size, 0, none⟩) 1 1]) (t := 35) (fr := (0, 0)) (alloc_new_at _ _ (by simp))) ?_ (by unfold maxLen; omega) (by omega) (by simp; omega) ?_
            · intro u hu; rw [List.mem_singleton] at hu; subst hu; rfl
            intro vC w5 ho5 hg5 _ hat5
            have R5 := R4.pushC (r := [m]) vl v1 ve (by exact hU4) rfl vo hg5 (by rw [ringC_len]; exact ho5) hat5
            have hU5 := hU4.kept hg5 (own_type_ne hU4 vo2 (by decide))
            have b5 : Below w.heap.size w w5 := (show Below w.heap.size w (w3.alloc (.cells #[.slice (some ⟨wo.heap.size, 0, none⟩) 1 1] 35)) from b3.alloc s3 _).trans (grew_below vo2 hg5 (Nat.le_refl _) (by simp; omega))
            have s5 := b5.size
            clear R3 R4 hU3 hU4 vl vo v1 ve ho5 hg5 hat5 vo2
            have tok4 : True := trivial)
         | (at_builtin
            have tk := tok4
            clear tk tok4
            have R6 : RS (w5.alloc (.cells #[.slice none 0 0] 35)) w.heap.size vN vC (.slice aa j ac) vW (ringN k j ++ [[m]]) (ringC k y j ++ [[m]]) (ringA k y j) (ringW j ++ [wordD j]) := R5.below (by exact (by repeat (first | with_reducible exact Below.refl w5.heap.size w5 | with_reducible refine below_drewN ?_ _ | with_reducible refine Below.drew ?_ | with_reducible refine Below.alloc ?_ (by have hszz := Below.size (Below.refl w5.heap.size w5); first | omega | (simp; done) | (simp at hszz ⊢; omega)) _ | with_reducible refine Below.setCell ?_ (by have hszz := Below.size (Below.refl w5.heap.size w5); first | omega | (simp; done) | (simp at hszz ⊢; omega)) _)))
            have hU6 : ((w5.alloc (.cells #[.slice none 0 0] 35))).ownsRow w.heap.size 3 1 (.slice (some ⟨wo.heap.size, 0, none⟩) 1 1) 1 (intsOf [m]) := own_below hU5 (by exact (by repeat (first | with_reducible exact Below.refl w5.heap.size w5 | with_reducible refine below_drewN ?_ _ | with_reducible refine Below.drew ?_ | with_reducible refine Below.alloc ?_ (by have hszz := Below.size (Below.refl w5.heap.size w5); first | omega | (simp; done) | (simp at hszz ⊢; omega)) _ | with_reducible refine Below.setCell ?_ (by have hszz := Below.size (Below.refl w5.heap.size w5); first | omega | (simp; done) | (simp at hszz ⊢; omega)) _)))
            obtain ⟨vs, vl, vo, v1, ve⟩ := R6.a
            have vo2 : ((w5.alloc (.cells #[.slice none 0 0] 35))).ownsRow w.heap.size 35 1 (.slice aa j ac) j vs := by have := vo; rw [ringA_len] at this; exact this
            refine wpList_append_own_at _ rfl _ _ 34 rfl w.heap.size 35 i0 _ 1 24 Try.underlying34 hi0 hz0 hz1 hz2 rfl (by decide) (.slice aa j ac) j vs rfl vo2 ⟨w5.heap.size, 0, none⟩ 1 1 [.slice none 0 0] rfl rfl (World.news_of_block (cs := #[.slice none 0 0]) (t := 35) (fr := (0, 0)) (alloc_new_at _ _ (by simp))) ?_ (by unfold maxLen; omega) (by omega) (by simp; omega) ?_
            · intro u hu; rw [List.mem_singleton] at hu; subst hu; rfl
            intro vA w7 ho7 hg7 _ hat7
            have R7 := R6.pushA (r := []) vl v1 ve (World.ownsRow_nil _ _ _ _) rfl vo hg7 (by rw [ringA_len]; exact ho7) hat7
            have b7 : Below w.heap.size w w7 := (show Below w.heap.size w (w5.alloc (.cells #[.slice none 0 0] 35)) from b5.alloc s5 _).trans (grew_below vo2 hg7 (Nat.le_refl _) (by simp; omega))
            clear R5 R6 hU5 hU6 vl vo v1 ve ho7 hg7 hat7 vo2)
         | (go_at_call 16; refine (word_any j _ hj1).mono ?_; rintro e w2 ⟨rfl, q, rfl⟩))
        go_roundg (k - (j + 1))
        case rel =>
          refine ⟨j + 1, by omega, rfl, by go_num, ?_, b7⟩
          rw [ringN_succ, ringC_succ, ringA_succ, ringW_succ, if_neg HJY.out, if_neg HJY.out, ← HM.out]
          exact R7
        case measure => omega
    · have hjk : j = k := by omega
      subst hjk
      have hwant : IsSl wo.heap.size wo 1 IsStr (ringW j) (.slice wa j wc) := by
        have h1 : (ringW j).length = j := ringW_len j
        refine own_isSl' (css := (ringW j).map fun s => [Value.string s]) (by have := HS.out.w; rw [show (((ringW j).map fun s => [Value.string s]).flatten) = (ringW j).map Value.string from flat1 _]; exact this) (by simp) (fun c hc => by obtain ⟨x, _, rfl⟩ := List.mem_map.1 hc; rfl) (fun i h1 h2 => ⟨by simp, ?_⟩)
        have h2 := List.getElem_mem h1
        obtain ⟨z, _, hz⟩ := List.mem_map.1 h2
        rw [← hz]; exact wordD_le _
      have HWT := hid hwant
      clear hwant
      go_wp2_with fail
      refine (of_any (ringN j j) [] _ _ _ HS.out.n.isSl (nil_sl _ _ _ _) (by rw [ringN_len]; omega) (fun i z hz => by have := ringNow_lt k1 i z hz; rw [show (ringNow j).length = j from ringN_len j j] at this; omega) small0).mono ?_
      rintro e w1 ⟨⟨cs1, d1, rfl, hp1⟩, hb1⟩
      obtain ⟨ia1, ic1, fa1, fc1, oa1, oc1, rfl⟩ := hp1.cells4
      go_wp2_with fail
      refine (of_any (ringC j y j) (ringA j y j) _ _ _ (by exact (HS.out.c.below (by repeat (first | with_reducible exact hb1 | with_reducible refine below_drewN ?_ _ | with_reducible refine Below.drew ?_ | with_reducible refine Below.alloc ?_ (by have hszz := Below.size (hb1); first | omega | (simp; done) | (simp at hszz ⊢; omega)) _ | with_reducible refine Below.setCell ?_ (by have hszz := Below.size (hb1); first | omega | (simp; done) | (simp at hszz ⊢; omega)) _))).isSl) (by exact (HS.out.a.below (by repeat (first | with_reducible exact hb1 | with_reducible refine below_drewN ?_ _ | with_reducible refine Below.drew ?_ | with_reducible refine Below.alloc ?_ (by have hszz := Below.size (hb1); first | omega | (simp; done) | (simp at hszz ⊢; omega)) _ | with_reducible refine Below.setCell ?_ (by have hszz := Below.size (hb1); first | omega | (simp; done) | (simp at hszz ⊢; omega)) _))).isSl) (by rw [ringC_len]; omega) (fun i z hz => by have := cutNow_lt (w := y) k1 i z hz; rw [show (cutNow j y).length = j from ringC_len j y j] at this; omega) (fun i z hz => by have := cutAgo_lt (w := y) k1 i z hz; rw [show (cutNow j y).length = j from ringC_len j y j] at this; omega)).mono ?_
      rintro e w2 ⟨⟨cs2, d2, rfl, hp2⟩, hb2⟩
      obtain ⟨ia2, ic2, fa2, fc2, oa2, oc2, rfl⟩ := hp2.cells4
      have z1 : w1.heap.size < w2.heap.size := (by have := hb2.size; simp at this; omega)
      obtain ⟨W4, hW4⟩ : ∃ W4 : World, w2.alloc (.cells #[.int .i64 (ofD (ringC j y j) (ringA j y j)).st, .slice ia2 (ofD (ringC j y j) (ringA j y j)).ins.length ic2, .slice fa2 (ofD (ringC j y j) (ringA j y j)).flows.length fc2, .slice oa2 (ofD (ringC j y j) (ringA j y j)).outs.length oc2] 26) = W4 := ⟨_, rfl⟩
      have kk1 : Below w1.heap.size w1 W4 := by
        rw [← hW4]
        have e1 : Below w1.heap.size w1 w2 := Below.trans (by repeat (first | with_reducible exact Below.refl w1.heap.size w1 | with_reducible refine below_drewN ?_ _ | with_reducible refine Below.drew ?_ | with_reducible refine Below.alloc ?_ (by have hszz := Below.size (Below.refl w1.heap.size w1); first | omega | (simp; done) | (simp at hszz ⊢; omega)) _ | with_reducible refine Below.setCell ?_ (by have hszz := Below.size (Below.refl w1.heap.size w1); first | omega | (simp; done) | (simp at hszz ⊢; omega)) _)) (hb2.mono (by simp))
        exact (by repeat (first | with_reducible exact e1 | with_reducible refine below_drewN ?_ _ | with_reducible refine Below.drew ?_ | with_reducible refine Below.alloc ?_ (by have hszz := Below.size (e1); first | omega | (simp; done) | (simp at hszz ⊢; omega)) _ | with_reducible refine Below.setCell ?_ (by have hszz := Below.size (e1); first | omega | (simp; done) | (simp at hszz ⊢; omega)) _))
      have kk2 : Below w2.heap.size w2 W4 := by
        rw [← hW4]
        exact (by repeat (first | with_reducible exact Below.refl w2.heap.size w2 | with_reducible refine below_drewN ?_ _ | with_reducible refine Below.drew ?_ | with_reducible refine Below.alloc ?_ (by have hszz := Below.size (Below.refl w2.heap.size w2); first | omega | (simp; done) | (simp at hszz ⊢; omega)) _ | with_reducible refine Below.setCell ?_ (by have hszz := Below.size (Below.refl w2.heap.size w2); first | omega | (simp; done) | (simp at hszz ⊢; omega)) _))
      have b1 : Blk W4 w1.heap.size [.int .i64 (ofD (ringN j j) []).st, .slice ia1 (ofD (ringN j j) []).ins.length ic1, .slice fa1 (ofD (ringN j j) []).flows.length fc1, .slice oa1 (ofD (ringN j j) []).outs.length oc1] 26 := by
        rw [← hW4]
        have e1 : Blk w2 w1.heap.size [.int .i64 (ofD (ringN j j) []).st, .slice ia1 (ofD (ringN j j) []).ins.length ic1, .slice fa1 (ofD (ringN j j) []).flows.length fc1, .slice oa1 (ofD (ringN j j) []).outs.length oc1] 26 := Blk.below (by exact (by repeat (first | (refine Blk.new' _ _ _ ?_; simp; done) | refine Blk.alloc ?_ _))) hb2 (by simp)
        exact e1.alloc _
      have b2 : Blk W4 w2.heap.size [.int .i64 (ofD (ringC j y j) (ringA j y j)).st, .slice ia2 (ofD (ringC j y j) (ringA j y j)).ins.length ic2, .slice fa2 (ofD (ringC j y j) (ringA j y j)).flows.length fc2, .slice oa2 (ofD (ringC j y j) (ringA j y j)).outs.length oc2] 26 := by
        rw [← hW4]
        exact Blk.new' _ _ _ rfl
      have bw : Below wo.heap.size wo W4 := hb1.trans (kk1.mono hb1.size)
      have HP1 := hid (hp1.below kk1)
      have HP2 := hid (hp2.below kk2)
      have l1 := b1.lt
      have l2 := b2.lt
      have m0 := bw.size
      have m1 := kk1.size
      have m2 := kk2.size
      have HB1 := hid b1
      have HB2 := hid b2
      have HBW := hid bw
      have hB5 : Below W4.heap.size W4 W4 := Below.refl _ _
      clear hp1 hp2 hb1 hb2 b1 b2 bw
      go_wp2_with fail
      refine (alive_any _).mono ?_
      rintro e v6 ⟨rfl, hb6⟩
      have hB6 : Below W4.heap.size W4 v6 := Below.trans (by repeat (first | with_reducible exact hB5 | with_reducible refine below_drewN ?_ _ | with_reducible refine Below.drew ?_ | with_reducible refine Below.alloc ?_ (by have hszz := Below.size (hB5); first | omega | (simp; done) | (simp at hszz ⊢; omega)) _ | with_reducible refine Below.setCell ?_ (by have hszz := Below.size (hB5); first | omega | (simp; done) | (simp at hszz ⊢; omega)) _)) (hb6.mono (by exact (Below.size (by repeat (first | with_reducible exact hB5 | with_reducible refine below_drewN ?_ _ | with_reducible refine Below.drew ?_ | with_reducible refine Below.alloc ?_ (by have hszz := Below.size (hB5); first | omega | (simp; done) | (simp at hszz ⊢; omega)) _ | with_reducible refine Below.setCell ?_ (by have hszz := Below.size (hB5); first | omega | (simp; done) | (simp at hszz ⊢; omega)) _)))))
      clear hb6
      obtain ⟨j61, j62, j63, j64, j65⟩ := box_cells HB1.out hB6
      go_wp2_with fail
      refine (circleCheck_any (ofD (ringN j j) []) [.int .i64 (ofD (ringN j j) []).st, .slice ia1 (ofD (ringN j j) []).ins.length ic1, .slice fa1 (ofD (ringN j j) []).flows.length fc1, .slice oa1 (ofD (ringN j j) []).outs.length oc1] d1 w1.heap.size _ (by exact (pg_at HP1.out m1 (by repeat (first | with_reducible exact hB6 | with_reducible refine below_drewN ?_ _ | with_reducible refine Below.drew ?_ | with_reducible refine Below.alloc ?_ (by have hszz := Below.size (hB6); first | omega | (simp; done) | (simp at hszz ⊢; omega)) _ | with_reducible refine Below.setCell ?_ (by have hszz := Below.size (hB6); first | omega | (simp; done) | (simp at hszz ⊢; omega)) _))).1) (by exact (pg_at HP1.out m1 (by repeat (first | with_reducible exact hB6 | with_reducible refine below_drewN ?_ _ | with_reducible refine Below.drew ?_ | with_reducible refine Below.alloc ?_ (by have hszz := Below.size (hB6); first | omega | (simp; done) | (simp at hszz ⊢; omega)) _ | with_reducible refine Below.setCell ?_ (by have hszz := Below.size (hB6); first | omega | (simp; done) | (simp at hszz ⊢; omega)) _))).2)).mono ?_
      rintro e v7 ⟨rfl, hb7⟩
      rw [show (ofD (ringN j j) []).loop = _ from (loop_ne (ring_clash k1 k2) (by rw [show (ofD (ringN j j) []).circle = ringW j from ring_circle k1 k2]; intro h; have h2 := congrArg List.length h; rw [ringW_len] at h2; simp at h2; omega))]
      have hB7 : Below W4.heap.size W4 v7 := Below.trans (by repeat (first | with_reducible exact hB6 | with_reducible refine below_drewN ?_ _ | with_reducible refine Below.drew ?_ | with_reducible refine Below.alloc ?_ (by have hszz := Below.size (hB6); first | omega | (simp; done) | (simp at hszz ⊢; omega)) _ | with_reducible refine Below.setCell ?_ (by have hszz := Below.size (hB6); first | omega | (simp; done) | (simp at hszz ⊢; omega)) _)) (hb7.mono (by exact (Below.size (by repeat (first | with_reducible exact hB6 | with_reducible refine below_drewN ?_ _ | with_reducible refine Below.drew ?_ | with_reducible refine Below.alloc ?_ (by have hszz := Below.size (hB6); first | omega | (simp; done) | (simp at hszz ⊢; omega)) _ | with_reducible refine Below.setCell ?_ (by have hszz := Below.size (hB6); first | omega | (simp; done) | (simp at hszz ⊢; omega)) _)))))
      clear hb7
      obtain ⟨j71, j72, j73, j74, j75⟩ := box_cells HB1.out hB7
      go_wp2_with fail
      refine (circleFind_sl (ofD (ringN j j) []) [.int .i64 (ofD (ringN j j) []).st, .slice ia1 (ofD (ringN j j) []).ins.length ic1, .slice fa1 (ofD (ringN j j) []).flows.length fc1, .slice oa1 (ofD (ringN j j) []).outs.length oc1] d1 w1.heap.size _ (by exact (pg_at HP1.out m1 (by repeat (first | with_reducible exact hB7 | with_reducible refine below_drewN ?_ _ | with_reducible refine Below.drew ?_ | with_reducible refine Below.alloc ?_ (by have hszz := Below.size (hB7); first | omega | (simp; done) | (simp at hszz ⊢; omega)) _ | with_reducible refine Below.setCell ?_ (by have hszz := Below.size (hB7); first | omega | (simp; done) | (simp at hszz ⊢; omega)) _))).1) (by exact (pg_at HP1.out m1 (by repeat (first | with_reducible exact hB7 | with_reducible refine below_drewN ?_ _ | with_reducible refine Below.drew ?_ | with_reducible refine Below.alloc ?_ (by have hszz := Below.size (hB7); first | omega | (simp; done) | (simp at hszz ⊢; omega)) _ | with_reducible refine Below.setCell ?_ (by have hszz := Below.size (hB7); first | omega | (simp; done) | (simp at hszz ⊢; omega)) _))).2) (clash_small (ring_clash k1 k2)).1 (clash_small (ring_clash k1 k2)).2).mono ?_
      rintro e v8 ⟨⟨u8, rfl, hu8⟩, hb8⟩
      rw [show (ofD (ringN j j) []).circle = ringW j from ring_circle k1 k2] at hu8
      obtain ⟨ua8, uc8, rfl, ul8, _⟩ := hu8.at_
      have HU8 := hid hu8
      clear hu8 ul8
      have hB8 : Below W4.heap.size W4 v8 := Below.trans (by repeat (first | with_reducible exact hB7 | with_reducible refine below_drewN ?_ _ | with_reducible refine Below.drew ?_ | with_reducible refine Below.alloc ?_ (by have hszz := Below.size (hB7); first | omega | (simp; done) | (simp at hszz ⊢; omega)) _ | with_reducible refine Below.setCell ?_ (by have hszz := Below.size (hB7); first | omega | (simp; done) | (simp at hszz ⊢; omega)) _)) (hb8.mono (by exact (Below.size (by repeat (first | with_reducible exact hB7 | with_reducible refine below_drewN ?_ _ | with_reducible refine Below.drew ?_ | with_reducible refine Below.alloc ?_ (by have hszz := Below.size (hB7); first | omega | (simp; done) | (simp at hszz ⊢; omega)) _ | with_reducible refine Below.setCell ?_ (by have hszz := Below.size (hB7); first | omega | (simp; done) | (simp at hszz ⊢; omega)) _)))))
      clear hb8
      go_wp2_with fail
      refine (sameTexts_ret (ringW j) (ringW j) _ _ _ (by exact str_at HU8.out (by repeat (first | with_reducible exact Below.refl v8.heap.size v8 | with_reducible refine below_drewN ?_ _ | with_reducible refine Below.drew ?_ | with_reducible refine Below.alloc ?_ (by have hszz := Below.size (Below.refl v8.heap.size v8); first | omega | (simp; done) | (simp at hszz ⊢; omega)) _ | with_reducible refine Below.setCell ?_ (by have hszz := Below.size (Below.refl v8.heap.size v8); first | omega | (simp; done) | (simp at hszz ⊢; omega)) _))) (by exact str_at (str_at HWT.out HBW.out) (by repeat (first | with_reducible exact hB8 | with_reducible refine below_drewN ?_ _ | with_reducible refine Below.drew ?_ | with_reducible refine Below.alloc ?_ (by have hszz := Below.size (hB8); first | omega | (simp; done) | (simp at hszz ⊢; omega)) _ | with_reducible refine Below.setCell ?_ (by have hszz := Below.size (hB8); first | omega | (simp; done) | (simp at hszz ⊢; omega)) _)))).mono ?_
      rintro e v9 ⟨rfl, hb9⟩
      rw [sameB_self]
      have hB9 : Below W4.heap.size W4 v9 := Below.trans (by repeat (first | with_reducible exact hB8 | with_reducible refine below_drewN ?_ _ | with_reducible refine Below.drew ?_ | with_reducible refine Below.alloc ?_ (by have hszz := Below.size (hB8); first | omega | (simp; done) | (simp at hszz ⊢; omega)) _ | with_reducible refine Below.setCell ?_ (by have hszz := Below.size (hB8); first | omega | (simp; done) | (simp at hszz ⊢; omega)) _)) (hb9.mono (by exact (Below.size (by repeat (first | with_reducible exact hB8 | with_reducible refine below_drewN ?_ _ | with_reducible refine Below.drew ?_ | with_reducible refine Below.alloc ?_ (by have hszz := Below.size (hB8); first | omega | (simp; done) | (simp at hszz ⊢; omega)) _ | with_reducible refine Below.setCell ?_ (by have hszz := Below.size (hB8); first | omega | (simp; done) | (simp at hszz ⊢; omega)) _)))))
      clear hb9
      obtain ⟨j91, j92, j93, j94, j95⟩ := box_cells HB2.out hB9
      go_wp2_with fail
      refine (circleCheck_any (ofD (ringC j y j) (ringA j y j)) [.int .i64 (ofD (ringC j y j) (ringA j y j)).st, .slice ia2 (ofD (ringC j y j) (ringA j y j)).ins.length ic2, .slice fa2 (ofD (ringC j y j) (ringA j y j)).flows.length fc2, .slice oa2 (ofD (ringC j y j) (ringA j y j)).outs.length oc2] d2 w2.heap.size _ (by exact (pg_at HP2.out m2 (by repeat (first | with_reducible exact hB9 | with_reducible refine below_drewN ?_ _ | with_reducible refine Below.drew ?_ | with_reducible refine Below.alloc ?_ (by have hszz := Below.size (hB9); first | omega | (simp; done) | (simp at hszz ⊢; omega)) _ | with_reducible refine Below.setCell ?_ (by have hszz := Below.size (hB9); first | omega | (simp; done) | (simp at hszz ⊢; omega)) _))).1) (by exact (pg_at HP2.out m2 (by repeat (first | with_reducible exact hB9 | with_reducible refine below_drewN ?_ _ | with_reducible refine Below.drew ?_ | with_reducible refine Below.alloc ?_ (by have hszz := Below.size (hB9); first | omega | (simp; done) | (simp at hszz ⊢; omega)) _ | with_reducible refine Below.setCell ?_ (by have hszz := Below.size (hB9); first | omega | (simp; done) | (simp at hszz ⊢; omega)) _))).2)).mono ?_
      rintro e v10 ⟨rfl, hb10⟩
      rw [show (ofD (ringC j y j) (ringA j y j)).loop = _ from (loop_eq (cut_clash (w := y) k1 k2) (cut_circle k1 k2 y1))]
      have hB10 : Below W4.heap.size W4 v10 := Below.trans (by repeat (first | with_reducible exact hB9 | with_reducible refine below_drewN ?_ _ | with_reducible refine Below.drew ?_ | with_reducible refine Below.alloc ?_ (by have hszz := Below.size (hB9); first | omega | (simp; done) | (simp at hszz ⊢; omega)) _ | with_reducible refine Below.setCell ?_ (by have hszz := Below.size (hB9); first | omega | (simp; done) | (simp at hszz ⊢; omega)) _)) (hb10.mono (by exact (Below.size (by repeat (first | with_reducible exact hB9 | with_reducible refine below_drewN ?_ _ | with_reducible refine Below.drew ?_ | with_reducible refine Below.alloc ?_ (by have hszz := Below.size (hB9); first | omega | (simp; done) | (simp at hszz ⊢; omega)) _ | with_reducible refine Below.setCell ?_ (by have hszz := Below.size (hB9); first | omega | (simp; done) | (simp at hszz ⊢; omega)) _)))))
      clear hb10
      obtain ⟨j101, j102, j103, j104, j105⟩ := box_cells HB2.out hB10
      go_wp2_with fail
      refine (circleFind_sl (ofD (ringC j y j) (ringA j y j)) [.int .i64 (ofD (ringC j y j) (ringA j y j)).st, .slice ia2 (ofD (ringC j y j) (ringA j y j)).ins.length ic2, .slice fa2 (ofD (ringC j y j) (ringA j y j)).flows.length fc2, .slice oa2 (ofD (ringC j y j) (ringA j y j)).outs.length oc2] d2 w2.heap.size _ (by exact (pg_at HP2.out m2 (by repeat (first | with_reducible exact hB10 | with_reducible refine below_drewN ?_ _ | with_reducible refine Below.drew ?_ | with_reducible refine Below.alloc ?_ (by have hszz := Below.size (hB10); first | omega | (simp; done) | (simp at hszz ⊢; omega)) _ | with_reducible refine Below.setCell ?_ (by have hszz := Below.size (hB10); first | omega | (simp; done) | (simp at hszz ⊢; omega)) _))).1) (by exact (pg_at HP2.out m2 (by repeat (first | with_reducible exact hB10 | with_reducible refine below_drewN ?_ _ | with_reducible refine Below.drew ?_ | with_reducible refine Below.alloc ?_ (by have hszz := Below.size (hB10); first | omega | (simp; done) | (simp at hszz ⊢; omega)) _ | with_reducible refine Below.setCell ?_ (by have hszz := Below.size (hB10); first | omega | (simp; done) | (simp at hszz ⊢; omega)) _))).2) (clash_small (cut_clash (w := y) k1 k2)).1 (clash_small (cut_clash (w := y) k1 k2)).2).mono ?_
      rintro e v11 ⟨⟨u11, rfl, hu11⟩, hb11⟩
      rw [show (ofD (ringC j y j) (ringA j y j)).circle = [] from cut_circle k1 k2 y1] at hu11
      obtain ⟨ua11, uc11, rfl, ul11, _⟩ := hu11.at_
      have HU11 := hid hu11
      clear hu11 ul11
      have hB11 : Below W4.heap.size W4 v11 := Below.trans (by repeat (first | with_reducible exact hB10 | with_reducible refine below_drewN ?_ _ | with_reducible refine Below.drew ?_ | with_reducible refine Below.alloc ?_ (by have hszz := Below.size (hB10); first | omega | (simp; done) | (simp at hszz ⊢; omega)) _ | with_reducible refine Below.setCell ?_ (by have hszz := Below.size (hB10); first | omega | (simp; done) | (simp at hszz ⊢; omega)) _)) (hb11.mono (by exact (Below.size (by repeat (first | with_reducible exact hB10 | with_reducible refine below_drewN ?_ _ | with_reducible refine Below.drew ?_ | with_reducible refine Below.alloc ?_ (by have hszz := Below.size (hB10); first | omega | (simp; done) | (simp at hszz ⊢; omega)) _ | with_reducible refine Below.setCell ?_ (by have hszz := Below.size (hB10); first | omega | (simp; done) | (simp at hszz ⊢; omega)) _)))))
      clear hb11
      go_wp2_with fail
      go_ret
      exact ⟨rfl, (hW.trans (HBW.out.mono hW.size)).trans (hB11.mono (Nat.le_trans hW.size m0))⟩
end Go.Proofs.Ytmepdfipigdjhaa
