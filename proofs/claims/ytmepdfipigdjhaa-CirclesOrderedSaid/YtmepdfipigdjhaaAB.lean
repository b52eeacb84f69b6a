/- Of a ring with a short way through it, walked: CirclesShort. -/
import Derived.Test.YtmepdfipigdjhaaA9
namespace Go.Proofs.Ytmepdfipigdjhaa
open Go.RowKit
set_option linter.unusedSimpArgs false
set_option linter.unusedVariables false
def shortN (k x j : Nat) : List (List Nat) := [] :: (List.range j).map (shortRow k x)
def shortW (x j : Nat) : List ByteArray := (List.range (min j (x + 1))).map fun i => wordD (1 + i)
theorem shortN_len (k x j : Nat) : (shortN k x j).length = j + 1 := by simp [shortN]
theorem shortW_len (x j : Nat) : (shortW x j).length = min j (x + 1) := by simp [shortW]
theorem shortN_succ (k x j : Nat) : shortN k x (j + 1) = shortN k x j ++ [shortRow k x j] := by simp [shortN, List.range_succ]
theorem shortW_succ {x j : Nat} (h : j ≤ x) : shortW x (j + 1) = shortW x j ++ [wordD (1 + j)] := by
  rw [shortW, shortW, show min (j + 1) (x + 1) = j + 1 by omega, show min j (x + 1) = j by omega, List.range_succ]; simp
theorem shortW_same {x j : Nat} (h : x < j) : shortW x (j + 1) = shortW x j := by
  rw [shortW, shortW, show min (j + 1) (x + 1) = x + 1 by omega, show min j (x + 1) = x + 1 by omega]
theorem own_lit0 (W : World) (base : Nat) (T : TypeId) (hb : base ≤ W.heap.size) : (W.alloc (.cells #[] T)).ownsRow base T 1 (.slice (some ⟨W.heap.size, 0, none⟩) 0 0) 0 [] :=
  ⟨rfl, .inr ⟨W.heap.size, 0, #[], rfl, hb, heap_alloc_new _ _, by simp, by decide, rfl, rfl⟩⟩
/-- A cell of one's own row is written over. -/
theorem own_set {w : World} {base : Nat} {e : TypeId} {g n cap i : Nat} {xs : List Value} {u : Value} (h : w.ownsRow base e 1 (.slice (some ⟨g, 0, none⟩) n cap) n xs) (hi : i < n) : (w.setCell ⟨g, i, none⟩ u).ownsRow base e 1 (.slice (some ⟨g, 0, none⟩) n cap) n (xs.set i u) := by
  obtain ⟨h1, h2⟩ := h
  refine ⟨by simp [h1], ?_⟩
  rcases h2 with ⟨e1, _⟩ | ⟨g', cap', cur, e1, hb, hh, hc, hm, hs, ht⟩
  · cases e1
  · injection e1 with e2 e3 e4
    injection e2 with e2
    injection e2 with e2
    subst e2
    subst e4
    refine .inr ⟨g, cap, cur.setIfInBounds i u, rfl, hb, ?_, hc, hm, by simp [hs], ?_⟩
    · simp [World.setCell, Array.getElem?_modify, hh]
    · rw [Array.toList_setIfInBounds, ← ht, List.take_set]
theorem RS.valN {W : World} {base : Nat} {vN vC vA vW : Value} {rN rC rA : List (List Nat)} {ws : List ByteArray} {n : Nat} (h : RS W base vN vC vA vW rN rC rA ws) (hn : rN.length = n + 1) : ∃ g c, vN = .slice (some ⟨g, 0, none⟩) (n + 1) c := by
  obtain ⟨vs, _, ho, _⟩ := h.n
  rw [hn] at ho
  exact own_slice ho
theorem RS.valW {W : World} {base : Nat} {vN vC vA vW : Value} {rN rC rA : List (List Nat)} {ws : List ByteArray} (h : RS W base vN vC vA vW rN rC rA ws) : ∃ wa wn wc, vW = .slice wa wn wc ∧ wn = ws.length := by
  obtain ⟨wa, wn, wc, e⟩ := own_val h.w
  refine ⟨wa, wn, wc, e, ?_⟩
  rcases h.w.2 with ⟨e1, e6⟩ | ⟨g, cap, cur, e1, _⟩
  · rw [e] at e1; injection e1 with _ e7 _; omega
  · rw [e] at e1; injection e1 with _ e7 _
theorem set_grown (W : World) (g i : Nat) (u : Value) : W.grownBy (W.setCell ⟨g, i, none⟩ u) (some g) :=
  ⟨rfl, rfl, rfl, by simp [World.setCell], fun k _ hk => Below.heap_setCell _ _ _ _ (fun e => hk (by rw [e]))⟩
theorem Rw.set0 {W : World} {base g n cap : Nat} {rows : List (List Nat)} {u : Value} {r : List Nat} (h : Rw W base (.slice (some ⟨g, 0, none⟩) n cap) rows) (hn : n = rows.length) (hi : 0 < rows.length) (hu : W.ownsRow base 3 1 u r.length (intsOf r)) (hu1 : u.oneCell' = true) : Rw (W.setCell ⟨g, 0, none⟩ u) base (.slice (some ⟨g, 0, none⟩) n cap) (rows.set 0 r) := by
  subst hn
  obtain ⟨vs, hl, ho, h1, he⟩ := h
  have hk : ∀ {x : Value} {n : Nat} {xs : List Value}, W.ownsRow base 3 1 x n xs → (W.setCell ⟨g, 0, none⟩ u).ownsRow base 3 1 x n xs := fun hx => hx.kept (set_grown W g 0 u) (by
    have := own_type_ne hx ho (by decide)
    simpa [Value.ownBlock] using this)
  refine ⟨vs.set 0 u, by simp [hl], by rw [List.length_set]; exact own_set ho hi, fun x hx => ?_, fun i h2 h3 => ?_⟩
  · rcases List.mem_or_eq_of_mem_set hx with hx | hx
    · exact h1 x hx
    · rw [hx]; exact hu1
  · rw [List.length_set] at h2 h3
    rw [List.getElem_set, List.getElem_set]
    by_cases e : 0 = i
    · rw [if_pos e, if_pos e]; exact hk hu
    · rw [if_neg e, if_neg e]; exact hk (he i h2 h3)
set_option maxRecDepth 100000 in
set_option maxHeartbeats 8000000 in
theorem short_any (n f : Nat) (w : World) (hn : n < 256) (hf : f < 256) :
    Calls Try.prog 6 #[.int .u8 n, .int .u8 f] w (Ret (.bool true) w) := by
  obtain ⟨k, hk⟩ : ∃ k, k = n % 50 + 3 := ⟨_, rfl⟩
  have k1 : 3 ≤ k := by omega
  have k2 : k ≤ 60 := by omega
  have e1 : (n : Int) % 50 + 3 = (k : Int) := by omega
  obtain ⟨x, hx⟩ : ∃ x, x = f % (k - 1) := ⟨_, rfl⟩
  have e0 : (k : Int) - 1 = ((k - 1 : Nat) : Int) := by omega
  have e2 : (f : Int) % ((k : Int) - 1) = (x : Int) := by rw [hx, e0]; push_cast; rfl
  have e2' : Int.tmod (f : Int) ((k : Int) - 1) = (x : Int) := by rw [Int.tmod_eq_emod_of_nonneg (by omega)]; exact e2
  have hk0 : ¬ (k : Int) - 1 = 0 := by omega
  have x1 : x < k - 1 := by rw [hx]; exact Nat.mod_lt _ (by omega)
  clear hk hx e0
  go_enter Try.func6, Try.ntmps6
  go_wp2_with fail
  go_loopg [7, 8, 9] k (fun kk vN vW i W => ∃ j : Nat, j ≤ k ∧ kk = k - j ∧ i = .int .i64 j ∧ RS W w.heap.size vN (.slice none 0 0) (.slice none 0 0) vW (shortN k x j) [] [] (shortW x j) ∧ Below w.heap.size w W)
  case atStart =>
    refine ⟨0, by omega, by omega, rfl, ⟨⟨[.slice (some ⟨w.heap.size, 0, none⟩) 0 0], rfl, ?_, fun u hu => by rw [List.mem_singleton] at hu; subst hu; rfl, fun i h1 h2 => ?_⟩, Rw.nil _ _, Rw.nil _ _, World.ownsRow_nil _ _ _ _, fun g _ h => by simp [Value.ownBlock] at h, fun g _ h => by simp [Value.ownBlock] at h, Dis.nil _⟩, (by repeat (first | with_reducible exact Below.refl w.heap.size w | with_reducible refine below_drewN ?_ _ | with_reducible refine Below.drew ?_ | with_reducible refine Below.alloc ?_ (by have hszz := Below.size (Below.refl w.heap.size w); first | omega | (simp; done) | (simp at hszz ⊢; omega)) _ | with_reducible refine Below.setCell ?_ (by have hszz := Below.size (Below.refl w.heap.size w); first | omega | (simp; done) | (simp at hszz ⊢; omega)) _))⟩
    · have h1 := own_lit1 (w.alloc (.cells #[] 3)) w.heap.size 35 (.slice (some ⟨w.heap.size, 0, none⟩) 0 0) rfl (by simp)
      rw [World.size_alloc] at h1
      exact h1
    · have : i = 0 := by simp at h2; omega
      subst this
      exact (own_lit0 w w.heap.size 3 (Nat.le_refl _)).alloc _
  case round =>
    obtain ⟨j, hj, rfl, rfl, hRS, hW⟩ := hrel
    obtain ⟨wo, rfl⟩ : ∃ wo : World, wo = wr := ⟨_, rfl⟩
    obtain ⟨g, nc, rfl⟩ := hRS.valN (shortN_len k x j)
    obtain ⟨wa, wn, wc, rfl, hwn⟩ := hRS.valW
    have HS := hid hRS
    clear hRS
    by_cases hlt : j < k
    · obtain ⟨m, hm⟩ : ∃ m, m = (j + 1) % k := ⟨_, rfl⟩
      have e3 : ((j : Int) + 1) % (k : Int) = (m : Int) := by rw [hm]; push_cast; rfl
      obtain ⟨c0, hc0⟩ : ∃ c0, c0 = 1 + m := ⟨_, rfl⟩
      have e4 : (1 : Int) + (m : Int) = (c0 : Int) := by omega
      obtain ⟨j1, hj1⟩ : ∃ j1, j1 = 1 + j := ⟨_, rfl⟩
      have e5 : (1 : Int) + (j : Int) = (j1 : Int) := by omega
      have hmk : m < k := by rw [hm]; exact Nat.mod_lt _ (by omega)
      have HC := hid (show c0 = 1 + (j + 1) % k by rw [hc0, hm])
      have HJ := hid hj1
      have hj2 : j1 ≤ 1000000 := by omega
      have hnz : ¬ (k : Int) = 0 := by omega
      have hsz := hW.size
      obtain ⟨i0, hi0, hz0, hz1, hz2⟩ := info_parts infoRow
      obtain ⟨i1, hi1, hy0, hy1, hy2⟩ := info_parts infoStr
      obtain ⟨i2, hi2, hx0, hx1, hx2⟩ := info_parts infoInt
      clear hm hc0 hj1
      rcases Nat.lt_trichotomy j x with hcase | hcase | hcase
      · have hje : ((j : Int) == (x : Int)) = false := by rw [beq_eq_false_iff_ne]; omega
        have hjl : j ≤ x := by omega
        have HJX := hid (show ¬ j = x by omega)
        have hjd : decide (j ≤ x) = true := by simpa using hjl
        have hwl : wn ≤ 1000 := by rw [hwn, shortW_len]; omega
        have HWN := hid hwn
        have HX := hid hcase
        clear hcase hwn hjl
        have tok1 : True := trivial
        go_wp2_with (first
         | (at_builtin
            have tk := tok1
            clear tk tok1
            have R2 : RS ((wo.alloc (.cells #[.int .i64 (c0 : Int)] 3)).alloc (.cells #[.slice (some ⟨wo.heap.size, 0, none⟩) 1 1] 35)) w.heap.size (.slice (some ⟨g, 0, none⟩) (j + 1) nc) (.slice none 0 0) (.slice none 0 0) (.slice wa wn wc) (shortN k x j) [] [] (shortW x j) := HS.out.below (by exact (by repeat (first | with_reducible exact Below.refl wo.heap.size wo | with_reducible refine below_drewN ?_ _ | with_reducible refine Below.drew ?_ | with_reducible refine Below.alloc ?_ (by have hszz := Below.size (Below.refl wo.heap.size wo); first | omega | (simp; done) | (simp at hszz ⊢; omega)) _ | with_reducible refine Below.setCell ?_ (by have hszz := Below.size (Below.refl wo.heap.size wo); first | omega | (simp; done) | (simp at hszz ⊢; omega)) _)))
            have hU2 : (((wo.alloc (.cells #[.int .i64 (c0 : Int)] 3)).alloc (.cells #[.slice (some ⟨wo.heap.size, 0, none⟩) 1 1] 35))).ownsRow w.heap.size 3 1 (.slice (some ⟨wo.heap.size, 0, none⟩) 1 1) 1 (intsOf [c0]) := (own_lit1 wo w.heap.size 3 (.int .i64 (c0 : Int)) rfl hsz).alloc _
            obtain ⟨vs, vl, vo, v1, ve⟩ := R2.n
            have vo2 : (((wo.alloc (.cells #[.int .i64 (c0 : Int)] 3)).alloc (.cells #[.slice (some ⟨wo.heap.size, 0, none⟩) 1 1] 35))).ownsRow w.heap.size 35 1 (.slice (some ⟨g, 0, none⟩) (j + 1) nc) (j + 1) vs := by have := vo; rw [shortN_len] at this; exact this
            refine wpList_append_own_at _ rfl _ _ 34 rfl w.heap.size 35 i0 _ 1 24 Try.underlying34 hi0 hz0 hz1 hz2 rfl (by decide) (.slice (some ⟨g, 0, none⟩) (j + 1) nc) (j + 1) vs rfl vo2 ⟨wo.heap.size + 1, 0, none⟩ 1 1 [.slice (some ⟨wo.heap.size, 0, none⟩) 1 1] rfl rfl (World.news_of_block (cs := #[.slice (some ⟨wo.heap.size, 0, none⟩) 1 1]) (t := 35) (fr := (0, 0)) (alloc_new_at _ _ (by simp))) ?_ (by unfold maxLen; omega) (by omega) (by simp; omega) ?_
            · intro u hu; rw [List.mem_singleton] at hu; subst hu; rfl
            intro vN w3 ho3 hg3 _ hat3
            have R3 := R2.pushN (r := [c0]) vl v1 ve hU2 rfl vo hg3 (by rw [shortN_len]; exact ho3) hat3
            have b3 : Below w.heap.size w w3 := (show Below w.heap.size w ((wo.alloc (.cells #[.int .i64 (c0 : Int)] 3)).alloc (.cells #[.slice (some ⟨wo.heap.size, 0, none⟩) 1 1] 35)) from (hW.alloc hsz _).alloc (by simp; omega) _).trans (grew_below vo2 hg3 (Nat.le_refl _) (by simp; omega))
            have s3 := b3.size
            clear R2 vl vo v1 ve ho3 hg3 hat3 hU2 vo2
            have tok2 : True := trivial)
         | (at_builtin
            have tk := tok2
            clear tk tok2
            have R4 : RS ((w3.drewN q).alloc (.cells #[.string (wordD j1)] 9)) w.heap.size vN (.slice none 0 0) (.slice none 0 0) (.slice wa wn wc) (shortN k x j ++ [[c0]]) [] [] (shortW x j) := R3.below (by exact (by repeat (first | with_reducible exact Below.refl w3.heap.size w3 | with_reducible refine below_drewN ?_ _ | with_reducible refine Below.drew ?_ | with_reducible refine Below.alloc ?_ (by have hszz := Below.size (Below.refl w3.heap.size w3); first | omega | (simp; done) | (simp at hszz ⊢; omega)) _ | with_reducible refine Below.setCell ?_ (by have hszz := Below.size (Below.refl w3.heap.size w3); first | omega | (simp; done) | (simp at hszz ⊢; omega)) _)))
            have wo2 : (((w3.drewN q).alloc (.cells #[.string (wordD j1)] 9))).ownsRow w.heap.size 9 1 (.slice wa wn wc) wn ((shortW x j).map Value.string) := by have := R4.w; rw [← HWN.out] at this; exact this
            refine wpList_append_own_at _ rfl _ _ 24 rfl w.heap.size 9 i1 _ 1 16 Try.underlying24 hi1 hy0 hy1 hy2 rfl (by decide) (.slice wa wn wc) wn ((shortW x j).map Value.string) rfl wo2 ⟨w3.heap.size, 0, none⟩ 1 1 [.string (wordD j1)] rfl rfl (World.news_of_block (cs := #[.string (wordD j1)]) (t := 9) (fr := (0, 0)) (alloc_new_at _ _ (by simp))) ?_ (by unfold maxLen; omega) (by omega) (by simp; omega) ?_
            · intro u hu; rw [List.mem_singleton] at hu; subst hu; rfl
            intro vW w5 ho5 hg5 _ _
            have R5 := R4.pushW hg5 (by rw [← HWN.out]; exact ho5)
            have b5 : Below w.heap.size w w5 := (show Below w.heap.size w ((w3.drewN q).alloc (.cells #[.string (wordD j1)] 9)) from (below_drewN b3 q).alloc (by simp; omega) _).trans (grew_below wo2 hg5 (Nat.le_refl _) (by simp; omega))
            clear R3 R4 wo2 ho5 hg5)
         | (go_at_call 16; refine (word_any j1 _ hj2).mono ?_; rintro e w2 ⟨rfl, q, rfl⟩))
        go_roundg (k - (j + 1))
        case rel =>
          have hx3 := HX.out
          refine ⟨j + 1, by omega, rfl, by go_num, ?_, b5⟩
          rw [shortN_succ, show shortRow k x j = [c0] by rw [shortRow, if_neg HJX.out, HC.out], shortW_succ (by omega), ← HJ.out]
          exact R5
        case measure => omega
      · have hje : ((j : Int) == (x : Int)) = true := by rw [beq_iff_eq]; omega
        have hjl : j ≤ x := by omega
        have HJX := hid (show j = x by omega)
        have hjd : decide (j ≤ x) = true := by simpa using hjl
        have hwl : wn ≤ 1000 := by rw [hwn, shortW_len]; omega
        have HWN := hid hwn
        have HX := hid hcase
        clear hcase hwn hjl
        have tok0 : True := trivial
        go_wp2_with (first
         | (at_builtin
            have tk := tok0
            clear tk tok0
            have hUl : (((wo.alloc (.cells #[.int .i64 (c0 : Int)] 3)).alloc (.cells #[.int .i64 1] 3))).ownsRow wo.heap.size 3 1 (.slice (some ⟨wo.heap.size, 0, none⟩) 1 1) 1 [.int .i64 (c0 : Int)] := (own_lit1 wo wo.heap.size 3 (.int .i64 (c0 : Int)) rfl (Nat.le_refl _)).alloc _
            refine wpList_append_own_at _ rfl _ _ 35 rfl wo.heap.size 3 i2 _ 1 8 Try.underlying35 hi2 hx0 hx1 hx2 rfl (by decide) (.slice (some ⟨wo.heap.size, 0, none⟩) 1 1) 1 [.int .i64 (c0 : Int)] rfl hUl ⟨wo.heap.size + 1, 0, none⟩ 1 1 [.int .i64 1] rfl rfl (World.news_of_block (cs := #[.int .i64 1]) (t := 3) (fr := (0, 0)) (alloc_new_at _ _ (by simp))) ?_ (by unfold maxLen; omega) (by omega) (by simp; omega) ?_
            · intro u hu; rw [List.mem_singleton] at hu; subst hu; rfl
            intro vR w1 ho1 hg1 _ _
            obtain ⟨gR, cR, rfl⟩ := own_slice ho1
            have hB1 : Below wo.heap.size wo w1 := (show Below wo.heap.size wo ((wo.alloc (.cells #[.int .i64 (c0 : Int)] 3)).alloc (.cells #[.int .i64 1] 3)) from ((Below.refl wo.heap.size wo).alloc (Nat.le_refl _) _).alloc (by simp) _).trans (grew_below hUl hg1 (Nat.le_refl _) (by simp; omega))
            have R1 := HS.out.below hB1
            have hU1 : w1.ownsRow w.heap.size 3 1 (.slice (some ⟨gR, 0, none⟩) (1 + 1) cR) 2 (intsOf [c0, 1]) := own_base ho1 hsz
            have b1 : Below w.heap.size w w1 := hW.trans (hB1.mono hsz)
            have s1 := b1.size
            clear hUl ho1 hg1 hB1
            have tok1 : True := trivial)
         | (at_builtin
            have tk := tok1
            clear tk tok1
            have R2 : RS (w1.alloc (.cells #[.slice (some ⟨gR, 0, none⟩) (1 + 1) cR] 35)) w.heap.size (.slice (some ⟨g, 0, none⟩) (j + 1) nc) (.slice none 0 0) (.slice none 0 0) (.slice wa wn wc) (shortN k x j) [] [] (shortW x j) := R1.below (by exact (by repeat (first | with_reducible exact Below.refl w1.heap.size w1 | with_reducible refine below_drewN ?_ _ | with_reducible refine Below.drew ?_ | with_reducible refine Below.alloc ?_ (by have hszz := Below.size (Below.refl w1.heap.size w1); first | omega | (simp; done) | (simp at hszz ⊢; omega)) _ | with_reducible refine Below.setCell ?_ (by have hszz := Below.size (Below.refl w1.heap.size w1); first | omega | (simp; done) | (simp at hszz ⊢; omega)) _)))
            have hU2 : ((w1.alloc (.cells #[.slice (some ⟨gR, 0, none⟩) (1 + 1) cR] 35))).ownsRow w.heap.size 3 1 (.slice (some ⟨gR, 0, none⟩) (1 + 1) cR) 2 (intsOf [c0, 1]) := own_below hU1 (by exact (by repeat (first | with_reducible exact Below.refl w1.heap.size w1 | with_reducible refine below_drewN ?_ _ | with_reducible refine Below.drew ?_ | with_reducible refine Below.alloc ?_ (by have hszz := Below.size (Below.refl w1.heap.size w1); first | omega | (simp; done) | (simp at hszz ⊢; omega)) _ | with_reducible refine Below.setCell ?_ (by have hszz := Below.size (Below.refl w1.heap.size w1); first | omega | (simp; done) | (simp at hszz ⊢; omega)) _)))
            obtain ⟨vs, vl, vo, v1, ve⟩ := R2.n
            have vo2 : ((w1.alloc (.cells #[.slice (some ⟨gR, 0, none⟩) (1 + 1) cR] 35))).ownsRow w.heap.size 35 1 (.slice (some ⟨g, 0, none⟩) (j + 1) nc) (j + 1) vs := by have := vo; rw [shortN_len] at this; exact this
            refine wpList_append_own_at _ rfl _ _ 34 rfl w.heap.size 35 i0 _ 1 24 Try.underlying34 hi0 hz0 hz1 hz2 rfl (by decide) (.slice (some ⟨g, 0, none⟩) (j + 1) nc) (j + 1) vs rfl vo2 ⟨w1.heap.size, 0, none⟩ 1 1 [.slice (some ⟨gR, 0, none⟩) (1 + 1) cR] rfl rfl (World.news_of_block (cs := #[.slice (some ⟨gR, 0, none⟩) (1 + 1) cR]) (t := 35) (fr := (0, 0)) (alloc_new_at _ _ (by simp))) ?_ (by unfold maxLen; omega) (by omega) (by simp; omega) ?_
            · intro u hu; rw [List.mem_singleton] at hu; subst hu; rfl
            intro vN w3 ho3 hg3 _ hat3
            have R3 := R2.pushN (r := [c0, 1]) vl v1 ve hU2 rfl vo hg3 (by rw [shortN_len]; exact ho3) hat3
            have b3 : Below w.heap.size w w3 := (show Below w.heap.size w (w1.alloc (.cells #[.slice (some ⟨gR, 0, none⟩) (1 + 1) cR] 35)) from b1.alloc s1 _).trans (grew_below vo2 hg3 (Nat.le_refl _) (by simp; omega))
            have s3 := b3.size
            clear R2 vl vo v1 ve ho3 hg3 hat3 hU2 vo2
            have tok2 : True := trivial)
         | (at_builtin
            have tk := tok2
            clear tk tok2
            have R4 : RS ((w3.drewN q).alloc (.cells #[.string (wordD j1)] 9)) w.heap.size vN (.slice none 0 0) (.slice none 0 0) (.slice wa wn wc) (shortN k x j ++ [[c0, 1]]) [] [] (shortW x j) := R3.below (by exact (by repeat (first | with_reducible exact Below.refl w3.heap.size w3 | with_reducible refine below_drewN ?_ _ | with_reducible refine Below.drew ?_ | with_reducible refine Below.alloc ?_ (by have hszz := Below.size (Below.refl w3.heap.size w3); first | omega | (simp; done) | (simp at hszz ⊢; omega)) _ | with_reducible refine Below.setCell ?_ (by have hszz := Below.size (Below.refl w3.heap.size w3); first | omega | (simp; done) | (simp at hszz ⊢; omega)) _)))
            have wo2 : (((w3.drewN q).alloc (.cells #[.string (wordD j1)] 9))).ownsRow w.heap.size 9 1 (.slice wa wn wc) wn ((shortW x j).map Value.string) := by have := R4.w; rw [← HWN.out] at this; exact this
            refine wpList_append_own_at _ rfl _ _ 24 rfl w.heap.size 9 i1 _ 1 16 Try.underlying24 hi1 hy0 hy1 hy2 rfl (by decide) (.slice wa wn wc) wn ((shortW x j).map Value.string) rfl wo2 ⟨w3.heap.size, 0, none⟩ 1 1 [.string (wordD j1)] rfl rfl (World.news_of_block (cs := #[.string (wordD j1)]) (t := 9) (fr := (0, 0)) (alloc_new_at _ _ (by simp))) ?_ (by unfold maxLen; omega) (by omega) (by simp; omega) ?_
            · intro u hu; rw [List.mem_singleton] at hu; subst hu; rfl
            intro vW w5 ho5 hg5 _ _
            have R5 := R4.pushW hg5 (by rw [← HWN.out]; exact ho5)
            have b5 : Below w.heap.size w w5 := (show Below w.heap.size w ((w3.drewN q).alloc (.cells #[.string (wordD j1)] 9)) from (below_drewN b3 q).alloc (by simp; omega) _).trans (grew_below wo2 hg5 (Nat.le_refl _) (by simp; omega))
            clear R3 R4 wo2 ho5 hg5)
         | (go_at_call 16; refine (word_any j1 _ hj2).mono ?_; rintro e w2 ⟨rfl, q, rfl⟩))
        go_roundg (k - (j + 1))
        case rel =>
          have hx3 := HX.out
          refine ⟨j + 1, by omega, rfl, by go_num, ?_, b5⟩
          rw [shortN_succ, show shortRow k x j = [c0, 1] by rw [shortRow, if_pos HJX.out, HC.out], shortW_succ (by omega), ← HJ.out]
          exact R5
        case measure => omega
      · have hje : ((j : Int) == (x : Int)) = false := by rw [beq_eq_false_iff_ne]; omega
        have hjl : ¬ j ≤ x := by omega
        have HJX := hid (show ¬ j = x by omega)
        have hjd : decide (j ≤ x) = false := by simpa using hjl
        have hwl : wn ≤ 1000 := by rw [hwn, shortW_len]; omega
        have HWN := hid hwn
        have HX := hid hcase
        clear hcase hwn hjl
        have tok1 : True := trivial
        go_wp2_with (first
         | (at_builtin
            have tk := tok1
            clear tk tok1
            have R2 : RS ((wo.alloc (.cells #[.int .i64 (c0 : Int)] 3)).alloc (.cells #[.slice (some ⟨wo.heap.size, 0, none⟩) 1 1] 35)) w.heap.size (.slice (some ⟨g, 0, none⟩) (j + 1) nc) (.slice none 0 0) (.slice none 0 0) (.slice wa wn wc) (shortN k x j) [] [] (shortW x j) := HS.out.below (by exact (by repeat (first | with_reducible exact Below.refl wo.heap.size wo | with_reducible refine below_drewN ?_ _ | with_reducible refine Below.drew ?_ | with_reducible refine Below.alloc ?_ (by have hszz := Below.size (Below.refl wo.heap.size wo); first | omega | (simp; done) | (simp at hszz ⊢; omega)) _ | with_reducible refine Below.setCell ?_ (by have hszz := Below.size (Below.refl wo.heap.size wo); first | omega | (simp; done) | (simp at hszz ⊢; omega)) _)))
            have hU2 : (((wo.alloc (.cells #[.int .i64 (c0 : Int)] 3)).alloc (.cells #[.slice (some ⟨wo.heap.size, 0, none⟩) 1 1] 35))).ownsRow w.heap.size 3 1 (.slice (some ⟨wo.heap.size, 0, none⟩) 1 1) 1 (intsOf [c0]) := (own_lit1 wo w.heap.size 3 (.int .i64 (c0 : Int)) rfl hsz).alloc _
            obtain ⟨vs, vl, vo, v1, ve⟩ := R2.n
            have vo2 : (((wo.alloc (.cells #[.int .i64 (c0 : Int)] 3)).alloc (.cells #[.slice (some ⟨wo.heap.size, 0, none⟩) 1 1] 35))).ownsRow w.heap.size 35 1 (.slice (some ⟨g, 0, none⟩) (j + 1) nc) (j + 1) vs := by have := vo; rw [shortN_len] at this; exact this
            refine wpList_append_own_at _ rfl _ _ 34 rfl w.heap.size 35 i0 _ 1 24 Try.underlying34 hi0 hz0 hz1 hz2 rfl (by decide) (.slice (some ⟨g, 0, none⟩) (j + 1) nc) (j + 1) vs rfl vo2 ⟨wo.heap.size + 1, 0, none⟩ 1 1 [.slice (some ⟨wo.heap.size, 0, none⟩) 1 1] rfl rfl (World.news_of_block (cs := #[.slice (some ⟨wo.heap.size, 0, none⟩) 1 1]) (t := 35) (fr := (0, 0)) (alloc_new_at _ _ (by simp))) ?_ (by unfold maxLen; omega) (by omega) (by simp; omega) ?_
            · intro u hu; rw [List.mem_singleton] at hu; subst hu; rfl
            intro vN w3 ho3 hg3 _ hat3
            have R3 := R2.pushN (r := [c0]) vl v1 ve hU2 rfl vo hg3 (by rw [shortN_len]; exact ho3) hat3
            have b3 : Below w.heap.size w w3 := (show Below w.heap.size w ((wo.alloc (.cells #[.int .i64 (c0 : Int)] 3)).alloc (.cells #[.slice (some ⟨wo.heap.size, 0, none⟩) 1 1] 35)) from (hW.alloc hsz _).alloc (by simp; omega) _).trans (grew_below vo2 hg3 (Nat.le_refl _) (by simp; omega))
            have s3 := b3.size
            clear R2 vl vo v1 ve ho3 hg3 hat3 hU2 vo2
            have tok2 : True := trivial)
         | (go_at_call 16; refine (word_any j1 _ hj2).mono ?_; rintro e w2 ⟨rfl, q, rfl⟩))
        go_roundg (k - (j + 1))
        case rel =>
          have hx3 := HX.out
          refine ⟨j + 1, by omega, rfl, by go_num, ?_, b3⟩
          rw [shortN_succ, show shortRow k x j = [c0] by rw [shortRow, if_neg HJX.out, HC.out], shortW_same (by omega)]
          exact R3
        case measure => omega
    · have hjk : j = k := by omega
      subst hjk
      have hwant : IsSl wo.heap.size wo 1 IsStr (shortW x j) (.slice wa wn wc) := by
        refine own_isSl' (css := (shortW x j).map fun s => [Value.string s]) (by have := HS.out.w; rw [show (((shortW x j).map fun s => [Value.string s]).flatten) = (shortW x j).map Value.string from flat1 _]; exact this) (by simp) (fun c hc => by obtain ⟨x, _, rfl⟩ := List.mem_map.1 hc; rfl) (fun i h1 h2 => ⟨by simp, ?_⟩)
        have h2 := List.getElem_mem h1
        obtain ⟨z, _, hz⟩ := List.mem_map.1 h2
        rw [← hz]; exact wordD_le _
      have HWT := hid hwant
      obtain ⟨W1, hW1⟩ : ∃ W1 : World, wo.alloc (.cells #[.int .i64 1] 3) = W1 := ⟨_, rfl⟩
      have hBW1 : Below wo.heap.size wo W1 := by rw [← hW1]; exact (Below.refl wo.heap.size wo).alloc (Nat.le_refl _) _
      have hu1 : W1.ownsRow w.heap.size 3 1 (.slice (some ⟨wo.heap.size, 0, none⟩) 1 1) 1 (intsOf [1]) := by rw [← hW1]; exact own_lit1 wo w.heap.size 3 (.int .i64 1) rfl hW.size
      have hR1 : Rw W1 w.heap.size (.slice (some ⟨g, 0, none⟩) (j + 1) nc) (shortN j x j) := HS.out.n.below hBW1
      have hg : w.heap.size ≤ g ∧ g < wo.heap.size := by
        obtain ⟨vs, _, ho, _⟩ := HS.out.n
        exact ho.lt g rfl
      have hcell : ∃ u, W1.cell? ⟨g, 0, none⟩ = some u ∧ W1.frozen? ⟨g, 0, none⟩ = false := by
        obtain ⟨vs, hl, ho, _⟩ := hR1
        rw [shortN_len] at hl
        have h1 := ho.cells (g := g) rfl 0 (vs[0]'(by omega)) (List.getElem?_eq_getElem (by omega))
        obtain ⟨cur, h2⟩ := own_type ho g rfl
        refine ⟨vs[0]'(by omega), ?_, by simp [World.frozen?, h2]⟩
        simpa [Addr.add] using h1
      obtain ⟨u0, q0, q1⟩ := hcell
      have hR2 : Rw (W1.setCell ⟨g, 0, none⟩ (.slice (some ⟨wo.heap.size, 0, none⟩) 1 1)) w.heap.size (.slice (some ⟨g, 0, none⟩) (j + 1) nc) (shortNow j x) :=
        Rw.set0 (r := [1]) hR1 (by rw [shortN_len]) (by rw [shortN_len]; omega) hu1 rfl
      have hBW2 : Below w.heap.size w (W1.setCell ⟨g, 0, none⟩ (.slice (some ⟨wo.heap.size, 0, none⟩) 1 1)) := (hW.trans (hBW1.mono hW.size)).setCell (by exact hg.1) _
      have hwant2 : IsSl (W1.setCell ⟨g, 0, none⟩ (.slice (some ⟨wo.heap.size, 0, none⟩) 1 1)).heap.size (W1.setCell ⟨g, 0, none⟩ (.slice (some ⟨wo.heap.size, 0, none⟩) 1 1)) 1 IsStr (shortW x j) (.slice wa wn wc) := by
        have h3 := (HS.out.below hBW1)
        have h4 := h3.w.kept (set_grown W1 g 0 (.slice (some ⟨wo.heap.size, 0, none⟩) 1 1)) (by have := h3.n.neW' h3.w; simpa [Value.ownBlock] using this)
        refine own_isSl' (css := (shortW x j).map fun s => [Value.string s]) (by rw [show (((shortW x j).map fun s => [Value.string s]).flatten) = (shortW x j).map Value.string from flat1 _]; exact h4) (by simp) (fun c hc => by obtain ⟨x, _, rfl⟩ := List.mem_map.1 hc; rfl) (fun i h1 h2 => ⟨by simp, ?_⟩)
        have h2 := List.getElem_mem h1
        obtain ⟨z, _, hz⟩ := List.mem_map.1 h2
        rw [← hz]; exact wordD_le _
      have HR2 := hid hR2
      have HB2 := hid hBW2
      have HW2 := hid hwant2
      obtain ⟨W2, hW2⟩ : ∃ W2 : World, W1.setCell ⟨g, 0, none⟩ (.slice (some ⟨wo.heap.size, 0, none⟩) 1 1) = W2 := ⟨_, rfl⟩
      rw [hW2] at HR2 HB2 HW2
      clear hR1 hR2 hBW2 hwant2 hBW1 hu1 hwant hwn
      go_wp2_with fail
      refine (alive_any _).mono ?_
      rintro e v3 ⟨rfl, hb3⟩
      clear hW1 hW2
      go_wp2_with fail
      refine (of_any (shortNow j x) [] _ _ _ (HR2.out.below hb3).isSl (nil_sl _ _ _ _) (by rw [short_len]; omega) (fun i z hz => by have := (shortNow_lt k1 i z hz).2; rw [short_len] at this; omega) small0).mono ?_
      rintro e v4 ⟨⟨cs1, d1, rfl, hp1⟩, hb4⟩
      have HP1 := hid hp1
      obtain ⟨ia1, ic1, fa1, fc1, oa1, oc1, rfl⟩ := hp1.cells4
      clear hp1
      go_wp2_with fail
      refine (circleFind_sl (ofD (shortNow j x) []) _ d1 v4.heap.size _ HP1.out (Nat.le_refl _) (clash_small (short_clash k1 k2)).1 (clash_small (short_clash k1 k2)).2).mono ?_
      rintro e v5 ⟨⟨u5, rfl, hu5⟩, hb5⟩
      rw [show (ofD (shortNow j x) []).circle = shortW x j by rw [short_circle k1 k2 x1, shortW, show min j (x + 1) = x + 1 by omega]] at hu5
      have hB : Below W2.heap.size W2 v5 := bel2 (bel2 hb3 hb4) hb5
      go_wp2_with fail
      refine (sameTexts_ret (shortW x j) (shortW x j) _ _ _ hu5 (str_at HW2.out hB)).mono ?_
      rintro e v6 ⟨rfl, hb6⟩
      rw [sameB_self]
      have hB6 := bel2 hB hb6
      clear hu5 hb3 hb4 hb5 hb6
      go_wp2_with fail
      go_ret
      exact ⟨rfl, HB2.out.trans (hB6.mono HB2.out.size)⟩
end Go.Proofs.Ytmepdfipigdjhaa
