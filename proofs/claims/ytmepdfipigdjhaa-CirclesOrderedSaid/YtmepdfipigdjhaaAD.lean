/- Flows in order, walked: CirclesOrdered. -/
import Derived.Test.YtmepdfipigdjhaaAC
namespace Go.Proofs.Ytmepdfipigdjhaa
open Go.RowKit
set_option linter.unusedSimpArgs false
set_option linter.unusedVariables false
def IsByte (n : Nat) (cs : List Value) : Prop := cs = [.int .u8 (n : Int)] ∧ n < 256
def IsB8 (B : Nat) (w : World) (l : List Nat) (cs : List Value) : Prop := ∃ v, cs = [v] ∧ IsSl B w 1 IsByte l v
theorem byte_at {B : Nat} {w : World} {xs : List (List Nat)} {a : Option Addr} {cap : Nat} (h : IsSl B w 1 (IsB8 B w) xs (.slice a xs.length cap)) {j : Nat} (hj : j < xs.length) :
    ∃ b off ra rc, a = some ⟨b, off, none⟩ ∧ b < B ∧ w.cell? ⟨b, off + j, none⟩ = some (.slice ra xs[j].length rc) ∧ xs[j].length ≤ maxLen ∧ ∀ m (hm : m < xs[j].length), ∃ b2 off2, ra = some ⟨b2, off2, none⟩ ∧ b2 < B ∧ xs[j][m] < 256 ∧ w.cell? ⟨b2, off2 + m, none⟩ = some (.int .u8 (xs[j][m] : Nat)) := by
  obtain ⟨a', cap', e, _, _, h3⟩ := h
  have e1 : a = a' := by injection e
  subst e1
  obtain ⟨b, off, rfl, hb, hc⟩ := h3.resolve_left (by intro h; rw [h] at hj; simp at hj)
  obtain ⟨cs, ⟨v, rfl, h5⟩, _, h6⟩ := hc j hj
  obtain ⟨ra, rc, rfl, h7, h8⟩ := h5.at_
  have h9 := h6 0 (by simp)
  simp only [Nat.mul_one, Nat.add_zero, List.getElem_cons_zero] at h9
  refine ⟨b, off, ra, rc, rfl, hb, h9, h7, fun m hm => ?_⟩
  obtain ⟨b2, off2, rfl, hb2, hc2⟩ := h8.resolve_left (by intro h; rw [h] at hm; simp at hm)
  obtain ⟨cs2, ⟨h10, h12⟩, _, h11⟩ := hc2 m hm
  subst h10
  have h13 := h11 0 (by simp)
  simp only [Nat.mul_one, Nat.add_zero, List.getElem_cons_zero] at h13
  exact ⟨b2, off2, rfl, hb2, h12, h13⟩
def rowA (now : List (List Nat)) (i : Nat) : List Nat := if i = 0 then [] else ((now.getD i []).take 10).map fun k => k % i
def rowB (ago : List (List Nat)) (n i : Nat) : List Nat := ((ago.getD i []).take 10).map fun k => k % n
def ordA (now : List (List Nat)) (j : Nat) : List (List Nat) := (List.range j).map (rowA now)
def ordB (ago : List (List Nat)) (n j : Nat) : List (List Nat) := (List.range j).map (rowB ago n)
theorem ordA_len (now : List (List Nat)) (j : Nat) : (ordA now j).length = j := by simp [ordA]
theorem ordB_len (ago : List (List Nat)) (n j : Nat) : (ordB ago n j).length = j := by simp [ordB]
theorem ordA_succ (now : List (List Nat)) (j : Nat) : ordA now (j + 1) = ordA now j ++ [rowA now j] := by simp [ordA, List.range_succ]
theorem ordB_succ (ago : List (List Nat)) (n j : Nat) : ordB ago n (j + 1) = ordB ago n j ++ [rowB ago n j] := by simp [ordB, List.range_succ]
theorem ordA_falls (now : List (List Nat)) (n : Nat) : Falls (ordA now n) where
  lt i k hk := by
    rw [ordA, range_getD] at hk
    split at hk
    · rw [rowA] at hk
      split at hk
      · simp at hk
      · obtain ⟨x, _, rfl⟩ := List.mem_map.1 hk
        exact Nat.mod_lt _ (by omega)
    · simp at hk
theorem ordB_lt (now ago : List (List Nat)) {n : Nat} (hn : 0 < n) : ∀ i, ∀ k ∈ (ordB ago n n).getD i [], k < (ordA now n).length := by
  intro i k hk
  rw [ordA_len]
  rw [ordB, range_getD] at hk
  split at hk
  · obtain ⟨x, _, rfl⟩ := List.mem_map.1 hk
    exact Nat.mod_lt _ hn
  · simp at hk
theorem ord_sz (now ago : List (List Nat)) (n : Nat) : ∀ i, ((ordA now n).getD i []).length + ((ordB ago n n).getD i []).length ≤ 29 := by
  intro i
  rw [ordA, ordB, range_getD, range_getD]
  split
  · have h1 : (rowA now i).length ≤ 10 := by
      rw [rowA]; split
      · simp
      · simp; omega
    have h2 : (rowB ago n i).length ≤ 10 := by rw [rowB]; simp; omega
    omega
  · simp
theorem rowA_get {now : List (List Nat)} {i t : Nat} (h0 : 0 < i) (hl : t < (now.getD i []).length) (ht : t < 10) : (rowA now i)[t]? = some ((now.getD i [])[t] % i) := by
  rw [rowA, if_neg (by omega), List.getElem?_map, List.getElem?_take, if_pos ht, List.getElem?_eq_getElem hl]; rfl
theorem rowB_get {ago : List (List Nat)} {n i t : Nat} (hl : t < (ago.getD i []).length) (ht : t < 10) : (rowB ago n i)[t]? = some ((ago.getD i [])[t] % n) := by
  rw [rowB, List.getElem?_map, List.getElem?_take, if_pos ht, List.getElem?_eq_getElem hl]; rfl
theorem rowA_len (now : List (List Nat)) (i : Nat) : (rowA now i).length = if i = 0 then 0 else min 10 (now.getD i []).length := by
  rw [rowA]; split <;> simp
theorem rowB_len (ago : List (List Nat)) (n i : Nat) : (rowB ago n i).length = min 10 (ago.getD i []).length := by rw [rowB]; simp
theorem take_snoc' {l : List Nat} {t c : Nat} (h : l[t]? = some c) : intsOf (l.take t) ++ [.int .i64 (c : Int)] = intsOf (l.take (t + 1)) := by
  obtain ⟨h1, h2⟩ := List.getElem?_eq_some_iff.1 h
  rw [List.take_succ_eq_append_getElem h1, h2, intsOf, intsOf, List.map_append]; rfl
theorem own_uniq {w : World} {b b' : Nat} {e : TypeId} {size n : Nat} {v : Value} {xs ys : List Value} (h : w.ownsRow b e size v n xs) (k : w.ownsRow b' e size v n ys) : xs = ys := by
  rcases h.2 with ⟨e1, e2⟩ | ⟨g, cap, cur, e1, _, h1, _, _, _, h2⟩
  · have h3 := h.1; have h4 := k.1
    subst e2
    rw [Nat.zero_mul] at h3 h4
    rw [List.eq_nil_of_length_eq_zero h3, List.eq_nil_of_length_eq_zero h4]
  · rcases k.2 with ⟨e3, _⟩ | ⟨g2, cap2, cur2, e3, _, h3, _, _, _, h4⟩
    · rw [e1] at e3; cases e3
    · rw [e1] at e3
      injection e3 with e4 _ _
      injection e4 with e4
      injection e4 with e4
      subst e4
      rw [h1] at h3
      injection h3 with h3
      injection h3 with h3 _
      subst h3
      rw [← h2, ← h4]
/-- The first row is nil. -/
def Zr (W : World) (base : Nat) (v : Value) (n : Nat) : Prop := ∃ vs, W.ownsRow base 35 1 v n vs ∧ (0 < n → vs[0]? = some (.slice none 0 0))
theorem Zr.below {W W' : World} {base n : Nat} {v : Value} (h : Zr W base v n) (hb : Below W.heap.size W W') : Zr W' base v n := by
  obtain ⟨vs, h1, h2⟩ := h
  exact ⟨vs, own_below h1 hb, h2⟩
theorem Zr.kept {W W' : World} {base n : Nat} {v : Value} (h : Zr W base v n) {row : Option Nat} (hg : W.grownBy W' row) (hne : v.ownBlock = none ∨ v.ownBlock ≠ row) : Zr W' base v n := by
  obtain ⟨vs, h1, h2⟩ := h
  exact ⟨vs, h1.kept hg hne, h2⟩
theorem Zr.push {W W' : World} {base n : Nat} {v v' u : Value} {vs : List Value} (h : Zr W base v n) (ho : W.ownsRow base 35 1 v n vs) (ho' : W'.ownsRow base 35 1 v' (n + 1) (vs ++ [u])) (hu : n = 0 → u = .slice none 0 0) : Zr W' base v' (n + 1) := by
  obtain ⟨ws, h1, h2⟩ := h
  have e := own_uniq h1 ho
  subst e
  refine ⟨_, ho', fun _ => ?_⟩
  have hl := ho.1
  by_cases hn : n = 0
  · have : ws = [] := List.eq_nil_of_length_eq_zero (by omega)
    rw [this, hu hn]; rfl
  · rw [List.getElem?_append_left (by omega)]
    exact h2 (by omega)
set_option maxRecDepth 100000 in
set_option maxHeartbeats 2000000 in
theorem ordered_no (now ago : List (List Nat)) (u v : Value) (w : World) (hu : IsSl w.heap.size w 1 (IsB8 w.heap.size w) now u) (hv : IsSl w.heap.size w 1 (IsB8 w.heap.size w) ago v) (hbig : 60 < now.length ∨ now.length = 0 ∨ 60 < ago.length) :
    Calls Try.prog 4 #[u, v] w (Ret (.bool true) w) := by
  obtain ⟨ua, uc, rfl, ul, _⟩ := hu.at_
  obtain ⟨va, vc, rfl, vl, _⟩ := hv.at_
  unfold maxLen at ul vl
  clear hu hv
  by_cases h1 : 60 < now.length
  · clear hbig
    go_enter Try.func4, Try.ntmps4
    go_wp2_with fail
    refine (alive_any _).mono ?_
    rintro e w1 ⟨rfl, hb1⟩
    go_wp2_with fail
    refine (alive_any _).mono ?_
    rintro e w2 ⟨rfl, hb2⟩
    go_wp2_with fail
    go_ret
    exact ⟨rfl, bel2 hb1 hb2⟩
  · by_cases h2 : now.length = 0
    · have h3 : ((now.length : Int) == 0) = true := by simp [h2]
      have H2 := hid h2
      clear hbig h2
      go_enter Try.func4, Try.ntmps4
      go_wp2_with fail
      refine (alive_any _).mono ?_
      rintro e w1 ⟨rfl, hb1⟩
      go_wp2_with fail
      refine (alive_any _).mono ?_
      rintro e w2 ⟨rfl, hb2⟩
      go_wp2_with fail
      go_ret
      exact ⟨rfl, bel2 hb1 hb2⟩
    · have h3 : ((now.length : Int) == 0) = false := by rw [beq_eq_false_iff_ne]; omega
      have h4 : 60 < ago.length := by omega
      have H2 := hid h2
      clear hbig h2
      go_enter Try.func4, Try.ntmps4
      go_wp2_with fail
      refine (alive_any _).mono ?_
      rintro e w1 ⟨rfl, hb1⟩
      go_wp2_with fail
      refine (alive_any _).mono ?_
      rintro e w2 ⟨rfl, hb2⟩
      go_wp2_with fail
      go_ret
      exact ⟨rfl, bel2 hb1 hb2⟩
theorem RS.valN0 {W : World} {base : Nat} {vN vC vA vW : Value} {rN rC rA : List (List Nat)} {ws : List ByteArray} {n : Nat} (h : RS W base vN vC vA vW rN rC rA ws) (hn : rN.length = n) : ∃ a c, vN = .slice a n c := by
  obtain ⟨a, c, e⟩ := h.n.val
  exact ⟨a, c, by rw [e, hn]⟩
theorem RS.valC0 {W : World} {base : Nat} {vN vC vA vW : Value} {rN rC rA : List (List Nat)} {ws : List ByteArray} {n : Nat} (h : RS W base vN vC vA vW rN rC rA ws) (hn : rC.length = n) : ∃ a c, vC = .slice a n c := by
  obtain ⟨a, c, e⟩ := h.c.val
  exact ⟨a, c, by rw [e, hn]⟩
theorem own_vals {w : World} {base : Nat} {e : TypeId} {size n : Nat} {v : Value} {xs : List Value} (h : w.ownsRow base e size v n xs) : ∃ a c, v = .slice a n c := by
  rcases h.2 with ⟨rfl, rfl⟩ | ⟨g, cap, cur, rfl, _⟩
  · exact ⟨_, _, rfl⟩
  · exact ⟨_, _, rfl⟩
set_option maxRecDepth 100000 in
set_option maxHeartbeats 16000000 in
theorem ordered_yes (now ago : List (List Nat)) (u v : Value) (w : World) (hu : IsSl w.heap.size w 1 (IsB8 w.heap.size w) now u) (hv : IsSl w.heap.size w 1 (IsB8 w.heap.size w) ago v) (hn1 : now.length ≤ 60) (hn0 : 0 < now.length) (ha1 : ago.length ≤ 60) :
    Calls Try.prog 4 #[u, v] w (Ret (.bool true) w) := by
  have HU := hid hu
  have HV := hid hv
  obtain ⟨ua, uc, rfl, _, _⟩ := hu.at_
  obtain ⟨va, vc, rfl, _, _⟩ := hv.at_
  clear hu hv
  have q1 : ¬ 60 < now.length := by omega
  have q2 : ((now.length : Int) == 0) = false := by rw [beq_eq_false_iff_ne]; omega
  have q3 : ¬ 60 < ago.length := by omega
  obtain ⟨i0, hi0, hz0, hz1, hz2⟩ := info_parts infoRow
  obtain ⟨i2, hi2, hx0, hx1, hx2⟩ := info_parts infoInt
  go_enter Try.func4, Try.ntmps4
  go_wp2_with fail
  refine (alive_any _).mono ?_
  rintro e w0 ⟨rfl, hb0⟩
  have HB0 := hid hb0
  clear hb0
  go_wp2_with fail
  go_loopg [5, 6, 7] now.length (fun kk vN vC i W => ∃ j : Nat, j ≤ now.length ∧ kk = now.length - j ∧ i = .int .i64 j ∧ RS W w.heap.size vN vC (.slice none 0 0) (.slice none 0 0) (ordA now j) (ordB ago now.length j) [] [] ∧ Zr W w.heap.size vN j ∧ Below w.heap.size w W)
  case atStart => exact ⟨0, by omega, by omega, rfl, ⟨Rw.nil _ _, Rw.nil _ _, Rw.nil _ _, World.ownsRow_nil _ _ _ _, Dis.nil _, Dis.nil _, Dis.nil _⟩, ⟨[], World.ownsRow_nil _ _ _ _, fun h => by omega⟩, HB0.out⟩
  case round =>
    obtain ⟨j, hj, rfl, rfl, hRS, hZ, hW⟩ := hrel
    obtain ⟨wo, rfl⟩ : ∃ wo : World, wo = wr := ⟨_, rfl⟩
    obtain ⟨na, nc, rfl⟩ := hRS.valN0 (ordA_len now j)
    obtain ⟨ca, cc, rfl⟩ := hRS.valC0 (ordB_len ago now.length j)
    have HS := hid hRS
    have HZ := hid hZ
    clear hRS hZ
    by_cases hlt : j < now.length
    · have hsz := hW.size
      obtain ⟨b, off, ra, rc, rfl, hb, hc, hrl, hcm⟩ := byte_at HU.out hlt
      unfold maxLen at hrl
      have hc' := (hW.cell (p := ⟨b, off + j, none⟩) hb).trans hc
      have hrow := getD_at now j hlt
      generalize now[j] = row at hc' hrl hcm hrow hc
      have HROW := hid hrow
      have HCM := hid hcm
      have hlim := rowA_len now j
      rw [hrow] at hlim
      have HLIM := hid hlim
      have hbo : b < wo.heap.size := Nat.lt_of_lt_of_le hb hsz
      clear hc hcm hrow hlim
      go_wp2_with fail
      go_loopg [8, 10] (rowA now j).length (fun kk v8 i W => ∃ t : Nat, t ≤ (rowA now j).length ∧ kk = (rowA now j).length - t ∧ i = .int .i64 t ∧ W.ownsRow wo.heap.size 3 1 v8 t (intsOf ((rowA now j).take t)) ∧ (t = 0 → v8 = .slice none 0 0) ∧ Below wo.heap.size wo W)
      case atStart => exact ⟨0, by omega, by omega, rfl, World.ownsRow_nil _ _ _ _, fun _ => rfl, Below.refl _ _⟩
      case round =>
        obtain ⟨t, ht, rfl, rfl, ho8, hn8, hW1⟩ := hrel
        obtain ⟨e8, d8, rfl⟩ := own_vals ho8
        have HN8 := hid hn8
        have hs1 := hW1.size
        have cR := (hW1.cell (p := ⟨b, off + j, none⟩) hbo).trans hc'
        clear hn8
        by_cases htl : t < (rowA now j).length
        · have hL := HLIM.out
          have hj0 : 0 < j := by
            by_cases e : j = 0
            · rw [if_pos e] at hL; omega
            · omega
          rw [if_neg (by omega)] at hL
          have ht1 : t < row.length := by omega
          have ht2 : t < 10 := by omega
          obtain ⟨b2, off2, rfl, hb2, hlt8, hc2⟩ := HCM.out t ht1
          have cX := (hW1.cell (p := ⟨b2, off2 + t, none⟩) (by show b2 < wo.heap.size; omega)).trans ((hW.cell (p := ⟨b2, off2 + t, none⟩) hb2).trans hc2)
          have hget := rowA_get (now := now) hj0 (by rw [HROW.out]; exact ht1) ht2
          have hx : (now.getD j [])[t]'(by rw [HROW.out]; exact ht1) = row[t] := by simp only [HROW.out]
          rw [hx] at hget
          generalize row[t] = x at cX hget hlt8
          obtain ⟨c, hcx⟩ : ∃ c, c = x % j := ⟨_, rfl⟩
          have e1 : (x : Int) % (j : Int) = (c : Int) := by rw [hcx]; push_cast; rfl
          rw [← hcx] at hget
          have HG := hid hget
          have hnz : ¬ (j : Int) = 0 := by omega
          have tok1 : True := trivial
          clear hget hcx hx hc2 hL
          go_wp2_with (first
           | (at_builtin
              have tk := tok1
              clear tk tok1
              have ho8' : (wr.alloc (.cells #[.int .i64 (c : Int)] 3)).ownsRow wo.heap.size 3 1 (.slice e8 t d8) t (intsOf ((rowA now j).take t)) := ho8.alloc _
              refine wpList_append_own_at _ rfl _ _ 35 rfl wo.heap.size 3 i2 _ 1 8 Try.underlying35 hi2 hx0 hx1 hx2 rfl (by decide) (.slice e8 t d8) t (intsOf ((rowA now j).take t)) rfl ho8' ⟨wr.heap.size, 0, none⟩ 1 1 [.int .i64 (c : Int)] rfl rfl (World.news_of_block (cs := #[.int .i64 (c : Int)]) (t := 3) (fr := (0, 0)) (alloc_new_at _ _ (by simp))) ?_ (by unfold maxLen; omega) (by omega) (by simp; omega) ?_
              · intro u hu; rw [List.mem_singleton] at hu; subst hu; rfl
              intro v9 w3 ho9 hg9 _ _
              have b9 : Below wo.heap.size wo w3 := (show Below wo.heap.size wo (wr.alloc (.cells #[.int .i64 (c : Int)] 3)) from hW1.alloc hs1 _).trans (grew_below ho8' hg9 (Nat.le_refl _) (by simp; omega))
              clear ho8')
           | fail)
          go_roundg ((rowA now j).length - (t + 1))
          case rel => exact ⟨t + 1, by omega, rfl, by go_num, by rw [← take_snoc' HG.out]; exact ho9, fun h => by omega, b9⟩
          case measure => omega
        · have hte : t = (rowA now j).length := by omega
          have hcase : row.length ≤ t ∨ j = 0 ∨ 10 ≤ t := by
            have hL := HLIM.out
            by_cases e : j = 0
            · exact .inr (.inl e)
            · rw [if_neg e] at hL; omega
          obtain ⟨w1, rfl⟩ : ∃ w1 : World, w1 = wr := ⟨_, rfl⟩
          have h8 : w1.ownsRow w.heap.size 3 1 (.slice e8 t d8) (rowA now j).length (intsOf (rowA now j)) := by
            have := own_base ho8 hsz
            rw [hte, List.take_length] at this
            rw [hte]; exact this
          have H8 := hid h8
          have HN0 := hid (show j = 0 → Value.slice e8 t d8 = .slice none 0 0 from fun e => HN8.out (by have hL := HLIM.out; rw [if_pos e] at hL; omega))
          have hB1 : b < w1.heap.size := Nat.lt_of_lt_of_le hbo hs1
          have hlimB := rowB_len ago now.length j
          have HLB := hid hlimB
          have hcase3 : row.length ≤ t ∨ (t < row.length ∧ ¬ 0 < j) ∨ (t < row.length ∧ 0 < j ∧ 10 ≤ t) := by omega
          clear ho8 h8 hlimB hcase hte
          rcases hcase3 with h1 | ⟨h1, h2⟩ | ⟨h1, h2, h3⟩
          all_goals
            go_wp2_with fail
            go_loopg [9, 11] (rowB ago now.length j).length (fun kk v9 i W => ∃ t2 : Nat, t2 ≤ (rowB ago now.length j).length ∧ kk = (rowB ago now.length j).length - t2 ∧ i = .int .i64 t2 ∧ W.ownsRow w1.heap.size 3 1 v9 t2 (intsOf ((rowB ago now.length j).take t2)) ∧ Below w1.heap.size w1 W)
            case atStart => exact ⟨0, by omega, by omega, rfl, World.ownsRow_nil _ _ _ _, Below.refl _ _⟩
            case round =>
              obtain ⟨t2, ht2, rfl, rfl, ho9, hW2⟩ := hrel
              obtain ⟨e9, d9, rfl⟩ := own_vals ho9
              have hs2 := hW2.size
              by_cases htl2 : t2 < (rowB ago now.length j).length
              · have hL := HLB.out
                have hja : j < ago.length := by
                  by_cases e : j < ago.length
                  · exact e
                  · rw [List.getD_eq_getElem?_getD, List.getElem?_eq_none (by omega)] at hL; have hz : ((none : Option (List Nat)).getD []).length = 0 := rfl; omega
                obtain ⟨b3, off3, ra3, rc3, rfl, hb3, hc3, hrl3, hcm3⟩ := byte_at HV.out hja
                unfold maxLen at hrl3
                have hrow3 := getD_at ago j hja
                rw [hrow3] at hL
                have ht3 : t2 < ago[j].length := by omega
                have ht4 : t2 < 10 := by omega
                obtain ⟨b4, off4, rfl, hb4, hlt8, hc4⟩ := hcm3 t2 ht3
                have hbel : Below w.heap.size w wr := hW.trans ((hW1.trans (hW2.mono hs1)).mono hsz)
                have k3 := (hbel.cell (p := ⟨b3, off3 + j, none⟩) hb3).trans hc3
                have k4 := (hbel.cell (p := ⟨b4, off4 + t2, none⟩) hb4).trans hc4
                have hget := rowB_get (ago := ago) (n := now.length) (i := j) (by rw [hrow3]; exact ht3) ht4
                have hx : (ago.getD j [])[t2]'(by rw [hrow3]; exact ht3) = ago[j][t2] := by simp only [hrow3]
                rw [hx] at hget
                clear hcm3 hc3 hc4 hrow3 hL hx
                generalize ago[j][t2] = x at k4 hget hlt8
                obtain ⟨row3, hr3⟩ : ∃ r, r = ago[j] := ⟨_, rfl⟩
                rw [← hr3] at k3 ht3 hrl3
                obtain ⟨c, hcx⟩ : ∃ c, c = x % now.length := ⟨_, rfl⟩
                have e1 : (x : Int) % (now.length : Int) = (c : Int) := by rw [hcx]; push_cast; rfl
                rw [← hcx] at hget
                have HG := hid hget
                have hnz : ¬ (now.length : Int) = 0 := by omega
                have tok1 : True := trivial
                clear hget hcx hr3
                go_wp2_with (first
                 | (at_builtin
                    have tk := tok1
                    clear tk tok1
                    have ho8' : (wr.alloc (.cells #[.int .i64 (c : Int)] 3)).ownsRow w1.heap.size 3 1 (.slice e9 t2 d9) t2 (intsOf ((rowB ago now.length j).take t2)) := ho9.alloc _
                    refine wpList_append_own_at _ rfl _ _ 35 rfl w1.heap.size 3 i2 _ 1 8 Try.underlying35 hi2 hx0 hx1 hx2 rfl (by decide) (.slice e9 t2 d9) t2 (intsOf ((rowB ago now.length j).take t2)) rfl ho8' ⟨wr.heap.size, 0, none⟩ 1 1 [.int .i64 (c : Int)] rfl rfl (World.news_of_block (cs := #[.int .i64 (c : Int)]) (t := 3) (fr := (0, 0)) (alloc_new_at _ _ (by simp))) ?_ (by unfold maxLen; omega) (by omega) (by simp; omega) ?_
                    · intro u hu; rw [List.mem_singleton] at hu; subst hu; rfl
                    intro v9 w3 ho9b hg9 _ _
                    have b9 : Below w1.heap.size w1 w3 := (show Below w1.heap.size w1 (wr.alloc (.cells #[.int .i64 (c : Int)] 3)) from hW2.alloc hs2 _).trans (grew_below ho8' hg9 (Nat.le_refl _) (by simp; omega))
                    clear ho8')
                 | fail)
                go_roundg ((rowB ago now.length j).length - (t2 + 1))
                case rel => exact ⟨t2 + 1, by omega, rfl, by go_num, by rw [← take_snoc' HG.out]; exact ho9b, b9⟩
                case measure => omega
              · have hte2 : t2 = (rowB ago now.length j).length := by omega
                obtain ⟨w4, rfl⟩ : ∃ w4 : World, w4 = wr := ⟨_, rfl⟩
                have h9 : w4.ownsRow w.heap.size 3 1 (.slice e9 t2 d9) (rowB ago now.length j).length (intsOf (rowB ago now.length j)) := by
                  have := own_base ho9 (show w.heap.size ≤ w1.heap.size by omega)
                  rw [hte2, List.take_length] at this
                  rw [hte2]; exact this
                have H9 := hid h9
                have H8 := hid (own_below H8.out hW2)
                have b4o : Below wo.heap.size wo w4 := hW1.trans (hW2.mono hs1)
                have hbel : Below w.heap.size w w4 := hW.trans (b4o.mono hsz)
                clear ho9 h9 hte2
                by_cases hja : j < ago.length
                · obtain ⟨b3, off3, ra3, rc3, rfl, hb3, hc3, hrl3, hcm3⟩ := byte_at HV.out hja
                  unfold maxLen at hrl3
                  have hrow3 := getD_at ago j hja
                  have hL := HLB.out
                  rw [hrow3] at hL
                  have k3 := (hbel.cell (p := ⟨b3, off3 + j, none⟩) hb3).trans hc3
                  clear hcm3 hc3 hrow3
                  obtain ⟨row3, hr3⟩ : ∃ r, r = ago[j] := ⟨_, rfl⟩
                  rw [← hr3] at k3 hrl3 hL
                  clear hr3
                  by_cases ht5 : t2 < row3.length
                  · have ht6 : ¬ t2 < 10 := by omega
                    clear hL
                    have tokN : True := trivial
                    go_wp2_with (first
                     | (at_builtin
                        have tk := tokN
                        clear tk tokN
                        have R2 : RS (w4.alloc (.cells #[.slice e8 t d8] 35)) w.heap.size (.slice na j nc) (.slice ca j cc) (.slice none 0 0) (.slice none 0 0) (ordA now j) (ordB ago now.length j) [] [] := HS.out.below (by exact (b4o.alloc (by omega) _))
                        have hU2 : ((w4.alloc (.cells #[.slice e8 t d8] 35))).ownsRow w.heap.size 3 1 (.slice e8 t d8) (rowA now j).length (intsOf (rowA now j)) := (H8.out).alloc _
                        obtain ⟨vs, vl, vo, v1, ve⟩ := R2.n
                        have vo2 : ((w4.alloc (.cells #[.slice e8 t d8] 35))).ownsRow w.heap.size 35 1 (.slice na j nc) j vs := by have := vo; rw [ordA_len] at this; exact this
                        refine wpList_append_own_at _ rfl _ _ 34 rfl w.heap.size 35 i0 _ 1 24 Try.underlying34 hi0 hz0 hz1 hz2 rfl (by decide) (.slice na j nc) j vs rfl vo2 ⟨w4.heap.size, 0, none⟩ 1 1 [.slice e8 t d8] rfl rfl (World.news_of_block (cs := #[.slice e8 t d8]) (t := 35) (fr := (0, 0)) (alloc_new_at _ _ (by simp))) ?_ (by unfold maxLen; omega) (by omega) (by simp; omega) ?_
                        · intro u hu; rw [List.mem_singleton] at hu; subst hu; rfl
                        intro vN w5 ho5 hg5 _ hat5
                        have R5 := R2.pushN (r := rowA now j) vl v1 ve hU2 rfl vo hg5 (by rw [ordA_len]; exact ho5) hat5
                        have Z5 := Zr.push (HZ.out.below (show Below wo.heap.size wo (w4.alloc (.cells #[.slice e8 t d8] 35)) from (b4o.alloc (by omega) _))) vo2 ho5 (fun h => HN0.out h)
                        have h95 := (H9.out.alloc (.cells #[.slice e8 t d8] 35)).kept hg5 (own_type_ne (H9.out.alloc (.cells #[.slice e8 t d8] 35)) vo2 (by decide))
                        have b5 : Below w.heap.size w w5 := (show Below w.heap.size w (w4.alloc (.cells #[.slice e8 t d8] 35)) from (hW.trans (b4o.mono hsz)).alloc (by omega) _).trans (grew_below vo2 hg5 (Nat.le_refl _) (by simp; omega))
                        have s5 := b5.size
                        clear R2 hU2 vl vo v1 ve ho5 hg5 hat5 vo2
                        have tokC : True := trivial)
                     | (at_builtin
                        have tk := tokC
                        clear tk tokC
                        have R6 : RS (w5.alloc (.cells #[.slice e9 t2 d9] 35)) w.heap.size vN (.slice ca j cc) (.slice none 0 0) (.slice none 0 0) (ordA now j ++ [rowA now j]) (ordB ago now.length j) [] [] := R5.below (by exact (by repeat (first | with_reducible exact Below.refl w5.heap.size w5 | with_reducible refine below_drewN ?_ _ | with_reducible refine Below.drew ?_ | with_reducible refine Below.alloc ?_ (by have hszz := Below.size (Below.refl w5.heap.size w5); first | omega | (simp; done) | (simp at hszz ⊢; omega)) _ | with_reducible refine Below.setCell ?_ (by have hszz := Below.size (Below.refl w5.heap.size w5); first | omega | (simp; done) | (simp at hszz ⊢; omega)) _)))
                        have hU6 : ((w5.alloc (.cells #[.slice e9 t2 d9] 35))).ownsRow w.heap.size 3 1 (.slice e9 t2 d9) (rowB ago now.length j).length (intsOf (rowB ago now.length j)) := h95.alloc _
                        obtain ⟨vs, vl, vo, v1, ve⟩ := R6.c
                        have vo2 : ((w5.alloc (.cells #[.slice e9 t2 d9] 35))).ownsRow w.heap.size 35 1 (.slice ca j cc) j vs := by have := vo; rw [ordB_len] at this; exact this
                        refine wpList_append_own_at _ rfl _ _ 34 rfl w.heap.size 35 i0 _ 1 24 Try.underlying34 hi0 hz0 hz1 hz2 rfl (by decide) (.slice ca j cc) j vs rfl vo2 ⟨w5.heap.size, 0, none⟩ 1 1 [.slice e9 t2 d9] rfl rfl (World.news_of_block (cs := #[.slice e9 t2 d9]) (t := 35) (fr := (0, 0)) (alloc_new_at _ _ (by simp))) ?_ (by unfold maxLen; omega) (by omega) (by simp; omega) ?_
                        · intro u hu; rw [List.mem_singleton] at hu; subst hu; rfl
                        intro vC w7 ho7 hg7 _ hat7
                        have R7 := R6.pushC (r := rowB ago now.length j) vl v1 ve hU6 rfl vo hg7 (by rw [ordB_len]; exact ho7) hat7
                        have Z7 : Zr w7 w.heap.size vN (j + 1) := (Z5.below (show Below w5.heap.size w5 (w5.alloc (.cells #[.slice e9 t2 d9] 35)) from (by repeat (first | with_reducible exact Below.refl w5.heap.size w5 | with_reducible refine below_drewN ?_ _ | with_reducible refine Below.drew ?_ | with_reducible refine Below.alloc ?_ (by have hszz := Below.size (Below.refl w5.heap.size w5); first | omega | (simp; done) | (simp at hszz ⊢; omega)) _ | with_reducible refine Below.setCell ?_ (by have hszz := Below.size (Below.refl w5.heap.size w5); first | omega | (simp; done) | (simp at hszz ⊢; omega)) _)))).kept hg7 R6.nc.ne
                        have b7 : Below w.heap.size w w7 := (show Below w.heap.size w (w5.alloc (.cells #[.slice e9 t2 d9] 35)) from b5.alloc s5 _).trans (grew_below vo2 hg7 (Nat.le_refl _) (by simp; omega))
                        clear R5 R6 hU6 vl vo v1 ve ho7 hg7 hat7 vo2 Z5 h95)
                     | fail)
                    go_roundg (now.length - (j + 1))
                    case rel => exact ⟨j + 1, by omega, rfl, by go_num, by rw [ordA_succ, ordB_succ]; exact R7, Z7, b7⟩
                    case measure => omega
                  · clear hL
                    have tokN : True := trivial
                    go_wp2_with (first
                     | (at_builtin
                        have tk := tokN
                        clear tk tokN
                        have R2 : RS (w4.alloc (.cells #[.slice e8 t d8] 35)) w.heap.size (.slice na j nc) (.slice ca j cc) (.slice none 0 0) (.slice none 0 0) (ordA now j) (ordB ago now.length j) [] [] := HS.out.below (by exact (b4o.alloc (by omega) _))
                        have hU2 : ((w4.alloc (.cells #[.slice e8 t d8] 35))).ownsRow w.heap.size 3 1 (.slice e8 t d8) (rowA now j).length (intsOf (rowA now j)) := (H8.out).alloc _
                        obtain ⟨vs, vl, vo, v1, ve⟩ := R2.n
                        have vo2 : ((w4.alloc (.cells #[.slice e8 t d8] 35))).ownsRow w.heap.size 35 1 (.slice na j nc) j vs := by have := vo; rw [ordA_len] at this; exact this
                        refine wpList_append_own_at _ rfl _ _ 34 rfl w.heap.size 35 i0 _ 1 24 Try.underlying34 hi0 hz0 hz1 hz2 rfl (by decide) (.slice na j nc) j vs rfl vo2 ⟨w4.heap.size, 0, none⟩ 1 1 [.slice e8 t d8] rfl rfl (World.news_of_block (cs := #[.slice e8 t d8]) (t := 35) (fr := (0, 0)) (alloc_new_at _ _ (by simp))) ?_ (by unfold maxLen; omega) (by omega) (by simp; omega) ?_
                        · intro u hu; rw [List.mem_singleton] at hu; subst hu; rfl
                        intro vN w5 ho5 hg5 _ hat5
                        have R5 := R2.pushN (r := rowA now j) vl v1 ve hU2 rfl vo hg5 (by rw [ordA_len]; exact ho5) hat5
                        have Z5 := Zr.push (HZ.out.below (show Below wo.heap.size wo (w4.alloc (.cells #[.slice e8 t d8] 35)) from (b4o.alloc (by omega) _))) vo2 ho5 (fun h => HN0.out h)
                        have h95 := (H9.out.alloc (.cells #[.slice e8 t d8] 35)).kept hg5 (own_type_ne (H9.out.alloc (.cells #[.slice e8 t d8] 35)) vo2 (by decide))
                        have b5 : Below w.heap.size w w5 := (show Below w.heap.size w (w4.alloc (.cells #[.slice e8 t d8] 35)) from (hW.trans (b4o.mono hsz)).alloc (by omega) _).trans (grew_below vo2 hg5 (Nat.le_refl _) (by simp; omega))
                        have s5 := b5.size
                        clear R2 hU2 vl vo v1 ve ho5 hg5 hat5 vo2
                        have tokC : True := trivial)
                     | (at_builtin
                        have tk := tokC
                        clear tk tokC
                        have R6 : RS (w5.alloc (.cells #[.slice e9 t2 d9] 35)) w.heap.size vN (.slice ca j cc) (.slice none 0 0) (.slice none 0 0) (ordA now j ++ [rowA now j]) (ordB ago now.length j) [] [] := R5.below (by exact (by repeat (first | with_reducible exact Below.refl w5.heap.size w5 | with_reducible refine below_drewN ?_ _ | with_reducible refine Below.drew ?_ | with_reducible refine Below.alloc ?_ (by have hszz := Below.size (Below.refl w5.heap.size w5); first | omega | (simp; done) | (simp at hszz ⊢; omega)) _ | with_reducible refine Below.setCell ?_ (by have hszz := Below.size (Below.refl w5.heap.size w5); first | omega | (simp; done) | (simp at hszz ⊢; omega)) _)))
                        have hU6 : ((w5.alloc (.cells #[.slice e9 t2 d9] 35))).ownsRow w.heap.size 3 1 (.slice e9 t2 d9) (rowB ago now.length j).length (intsOf (rowB ago now.length j)) := h95.alloc _
                        obtain ⟨vs, vl, vo, v1, ve⟩ := R6.c
                        have vo2 : ((w5.alloc (.cells #[.slice e9 t2 d9] 35))).ownsRow w.heap.size 35 1 (.slice ca j cc) j vs := by have := vo; rw [ordB_len] at this; exact this
                        refine wpList_append_own_at _ rfl _ _ 34 rfl w.heap.size 35 i0 _ 1 24 Try.underlying34 hi0 hz0 hz1 hz2 rfl (by decide) (.slice ca j cc) j vs rfl vo2 ⟨w5.heap.size, 0, none⟩ 1 1 [.slice e9 t2 d9] rfl rfl (World.news_of_block (cs := #[.slice e9 t2 d9]) (t := 35) (fr := (0, 0)) (alloc_new_at _ _ (by simp))) ?_ (by unfold maxLen; omega) (by omega) (by simp; omega) ?_
                        · intro u hu; rw [List.mem_singleton] at hu; subst hu; rfl
                        intro vC w7 ho7 hg7 _ hat7
                        have R7 := R6.pushC (r := rowB ago now.length j) vl v1 ve hU6 rfl vo hg7 (by rw [ordB_len]; exact ho7) hat7
                        have Z7 : Zr w7 w.heap.size vN (j + 1) := (Z5.below (show Below w5.heap.size w5 (w5.alloc (.cells #[.slice e9 t2 d9] 35)) from (by repeat (first | with_reducible exact Below.refl w5.heap.size w5 | with_reducible refine below_drewN ?_ _ | with_reducible refine Below.drew ?_ | with_reducible refine Below.alloc ?_ (by have hszz := Below.size (Below.refl w5.heap.size w5); first | omega | (simp; done) | (simp at hszz ⊢; omega)) _ | with_reducible refine Below.setCell ?_ (by have hszz := Below.size (Below.refl w5.heap.size w5); first | omega | (simp; done) | (simp at hszz ⊢; omega)) _)))).kept hg7 R6.nc.ne
                        have b7 : Below w.heap.size w w7 := (show Below w.heap.size w (w5.alloc (.cells #[.slice e9 t2 d9] 35)) from b5.alloc s5 _).trans (grew_below vo2 hg7 (Nat.le_refl _) (by simp; omega))
                        clear R5 R6 hU6 vl vo v1 ve ho7 hg7 hat7 vo2 Z5 h95)
                     | fail)
                    go_roundg (now.length - (j + 1))
                    case rel => exact ⟨j + 1, by omega, rfl, by go_num, by rw [ordA_succ, ordB_succ]; exact R7, Z7, b7⟩
                    case measure => omega
                · have tokN : True := trivial
                  go_wp2_with (first
                   | (at_builtin
                      have tk := tokN
                      clear tk tokN
                      have R2 : RS (w4.alloc (.cells #[.slice e8 t d8] 35)) w.heap.size (.slice na j nc) (.slice ca j cc) (.slice none 0 0) (.slice none 0 0) (ordA now j) (ordB ago now.length j) [] [] := HS.out.below (by exact (b4o.alloc (by omega) _))
                      have hU2 : ((w4.alloc (.cells #[.slice e8 t d8] 35))).ownsRow w.heap.size 3 1 (.slice e8 t d8) (rowA now j).length (intsOf (rowA now j)) := (H8.out).alloc _
                      obtain ⟨vs, vl, vo, v1, ve⟩ := R2.n
                      have vo2 : ((w4.alloc (.cells #[.slice e8 t d8] 35))).ownsRow w.heap.size 35 1 (.slice na j nc) j vs := by have := vo; rw [ordA_len] at this; exact this
                      refine wpList_append_own_at _ rfl _ _ 34 rfl w.heap.size 35 i0 _ 1 24 Try.underlying34 hi0 hz0 hz1 hz2 rfl (by decide) (.slice na j nc) j vs rfl vo2 ⟨w4.heap.size, 0, none⟩ 1 1 [.slice e8 t d8] rfl rfl (World.news_of_block (cs := #[.slice e8 t d8]) (t := 35) (fr := (0, 0)) (alloc_new_at _ _ (by simp))) ?_ (by unfold maxLen; omega) (by omega) (by simp; omega) ?_
                      · intro u hu; rw [List.mem_singleton] at hu; subst hu; rfl
                      intro vN w5 ho5 hg5 _ hat5
                      have R5 := R2.pushN (r := rowA now j) vl v1 ve hU2 rfl vo hg5 (by rw [ordA_len]; exact ho5) hat5
                      have Z5 := Zr.push (HZ.out.below (show Below wo.heap.size wo (w4.alloc (.cells #[.slice e8 t d8] 35)) from (b4o.alloc (by omega) _))) vo2 ho5 (fun h => HN0.out h)
                      have h95 := (H9.out.alloc (.cells #[.slice e8 t d8] 35)).kept hg5 (own_type_ne (H9.out.alloc (.cells #[.slice e8 t d8] 35)) vo2 (by decide))
                      have b5 : Below w.heap.size w w5 := (show Below w.heap.size w (w4.alloc (.cells #[.slice e8 t d8] 35)) from (hW.trans (b4o.mono hsz)).alloc (by omega) _).trans (grew_below vo2 hg5 (Nat.le_refl _) (by simp; omega))
                      have s5 := b5.size
                      clear R2 hU2 vl vo v1 ve ho5 hg5 hat5 vo2
                      have tokC : True := trivial)
                   | (at_builtin
                      have tk := tokC
                      clear tk tokC
                      have R6 : RS (w5.alloc (.cells #[.slice e9 t2 d9] 35)) w.heap.size vN (.slice ca j cc) (.slice none 0 0) (.slice none 0 0) (ordA now j ++ [rowA now j]) (ordB ago now.length j) [] [] := R5.below (by exact (by repeat (first | with_reducible exact Below.refl w5.heap.size w5 | with_reducible refine below_drewN ?_ _ | with_reducible refine Below.drew ?_ | with_reducible refine Below.alloc ?_ (by have hszz := Below.size (Below.refl w5.heap.size w5); first | omega | (simp; done) | (simp at hszz ⊢; omega)) _ | with_reducible refine Below.setCell ?_ (by have hszz := Below.size (Below.refl w5.heap.size w5); first | omega | (simp; done) | (simp at hszz ⊢; omega)) _)))
                      have hU6 : ((w5.alloc (.cells #[.slice e9 t2 d9] 35))).ownsRow w.heap.size 3 1 (.slice e9 t2 d9) (rowB ago now.length j).length (intsOf (rowB ago now.length j)) := h95.alloc _
                      obtain ⟨vs, vl, vo, v1, ve⟩ := R6.c
                      have vo2 : ((w5.alloc (.cells #[.slice e9 t2 d9] 35))).ownsRow w.heap.size 35 1 (.slice ca j cc) j vs := by have := vo; rw [ordB_len] at this; exact this
                      refine wpList_append_own_at _ rfl _ _ 34 rfl w.heap.size 35 i0 _ 1 24 Try.underlying34 hi0 hz0 hz1 hz2 rfl (by decide) (.slice ca j cc) j vs rfl vo2 ⟨w5.heap.size, 0, none⟩ 1 1 [.slice e9 t2 d9] rfl rfl (World.news_of_block (cs := #[.slice e9 t2 d9]) (t := 35) (fr := (0, 0)) (alloc_new_at _ _ (by simp))) ?_ (by unfold maxLen; omega) (by omega) (by simp; omega) ?_
                      · intro u hu; rw [List.mem_singleton] at hu; subst hu; rfl
                      intro vC w7 ho7 hg7 _ hat7
                      have R7 := R6.pushC (r := rowB ago now.length j) vl v1 ve hU6 rfl vo hg7 (by rw [ordB_len]; exact ho7) hat7
                      have Z7 : Zr w7 w.heap.size vN (j + 1) := (Z5.below (show Below w5.heap.size w5 (w5.alloc (.cells #[.slice e9 t2 d9] 35)) from (by repeat (first | with_reducible exact Below.refl w5.heap.size w5 | with_reducible refine below_drewN ?_ _ | with_reducible refine Below.drew ?_ | with_reducible refine Below.alloc ?_ (by have hszz := Below.size (Below.refl w5.heap.size w5); first | omega | (simp; done) | (simp at hszz ⊢; omega)) _ | with_reducible refine Below.setCell ?_ (by have hszz := Below.size (Below.refl w5.heap.size w5); first | omega | (simp; done) | (simp at hszz ⊢; omega)) _)))).kept hg7 R6.nc.ne
                      have b7 : Below w.heap.size w w7 := (show Below w.heap.size w (w5.alloc (.cells #[.slice e9 t2 d9] 35)) from b5.alloc s5 _).trans (grew_below vo2 hg7 (Nat.le_refl _) (by simp; omega))
                      clear R5 R6 hU6 vl vo v1 ve ho7 hg7 hat7 vo2 Z5 h95)
                   | fail)
                  go_roundg (now.length - (j + 1))
                  case rel => exact ⟨j + 1, by omega, rfl, by go_num, by rw [ordA_succ, ordB_succ]; exact R7, Z7, b7⟩
                  case measure => omega
    · have hjk : j = now.length := by omega
      subst hjk
      have hF := ordA_falls now now.length
      have hFl : (ordA now now.length).length = now.length := ordA_len now now.length
      have hclP := falls_clash (ago := ordB ago now.length now.length) hF (by omega) (ordB_lt now ago hn0) (fun i => by have := ord_sz now ago now.length i; omega)
      have hciP := falls_circle (ago := ordB ago now.length now.length) hF (by omega)
      have hclQ := close_clash (ago := ordB ago now.length now.length) hF (last := now.length - 1) (by omega) (by omega) (ordB_lt now ago hn0) (ord_sz now ago now.length)
      have hciQ := close_circle (ago := ordB ago now.length now.length) hF (last := now.length - 1) (by omega) (by omega)
      obtain ⟨g, hg⟩ : ∃ g, na = some ⟨g, 0, none⟩ := by
        obtain ⟨g, c', hv⟩ := HS.out.valN (n := now.length - 1) (by rw [ordA_len]; omega)
        injection hv with h1 _ _
        exact ⟨g, h1⟩
      subst hg
      have hgl : w.heap.size ≤ g ∧ g < wo.heap.size := by
        obtain ⟨vs, _, ho, _⟩ := HS.out.n
        exact ho.lt g rfl
      have HF := hid hF
      have HCP := hid hclP
      have HIP := hid hciP
      have HCQ := hid hclQ
      have HIQ := hid hciQ
      have hsmA : ∀ i, ∀ k ∈ (ordA now now.length).getD i [], k ≤ 1000000 := fun i k hk => by have := falls_len hF i k hk; omega
      have hsmB : ∀ i, ∀ k ∈ (ordB ago now.length now.length).getD i [], k ≤ 1000000 := fun i k hk => by have := ordB_lt now ago hn0 i k hk; omega
      have hsmQ : ∀ i, ∀ k ∈ (closeNow (ordA now now.length) (now.length - 1)).getD i [], k ≤ 1000000 := fun i k hk => by have := close_lt hF (last := now.length - 1) (by omega) i k hk; rw [closeNow, List.length_set] at this; omega
      have HSA := hid hsmA
      have HSB := hid hsmB
      have HSQ := hid hsmQ
      have HFL := hid hFl
      have e9 : (now.length : Int) - 1 = ((now.length - 1 : Nat) : Int) := by omega
      clear hF hFl hclP hciP hclQ hciQ hsmA hsmB hsmQ
      go_wp2_with fail
      refine (of_any (ordA now now.length) (ordB ago now.length now.length) _ _ _ HS.out.n.isSl HS.out.c.isSl (by rw [HFL.out]; omega) HSA.out HSB.out).mono ?_
      rintro e w1 ⟨⟨cs1, d1, rfl, hp1⟩, hb1⟩
      obtain ⟨ia1, ic1, fa1, fc1, oa1, oc1, rfl⟩ := hp1.cells4
      obtain ⟨W4, hW4⟩ : ∃ W4 : World, w1.alloc (.cells #[.int .i64 (ofD (ordA now now.length) (ordB ago now.length now.length)).st, .slice ia1 (ofD (ordA now now.length) (ordB ago now.length now.length)).ins.length ic1, .slice fa1 (ofD (ordA now now.length) (ordB ago now.length now.length)).flows.length fc1, .slice oa1 (ofD (ordA now now.length) (ordB ago now.length now.length)).outs.length oc1] 26) = W4 := ⟨_, rfl⟩
      have kk1 : Below w1.heap.size w1 W4 := by rw [← hW4]; exact (by repeat (first | with_reducible exact Below.refl w1.heap.size w1 | with_reducible refine below_drewN ?_ _ | with_reducible refine Below.drew ?_ | with_reducible refine Below.alloc ?_ (by have hszz := Below.size (Below.refl w1.heap.size w1); first | omega | (simp; done) | (simp at hszz ⊢; omega)) _ | with_reducible refine Below.setCell ?_ (by have hszz := Below.size (Below.refl w1.heap.size w1); first | omega | (simp; done) | (simp at hszz ⊢; omega)) _))
      have b1 : Blk W4 w1.heap.size [.int .i64 (ofD (ordA now now.length) (ordB ago now.length now.length)).st, .slice ia1 (ofD (ordA now now.length) (ordB ago now.length now.length)).ins.length ic1, .slice fa1 (ofD (ordA now now.length) (ordB ago now.length now.length)).flows.length fc1, .slice oa1 (ofD (ordA now now.length) (ordB ago now.length now.length)).outs.length oc1] 26 := by rw [← hW4]; exact Blk.new' _ _ _ rfl
      have bw : Below wo.heap.size wo W4 := hb1.trans (kk1.mono hb1.size)
      have HP1 := hid (hp1.below kk1)
      have HB1 := hid b1
      have m1 := kk1.size
      have HBW := hid bw
      obtain ⟨j51, j52, j53, j54, j55⟩ := box_cells b1 (Below.refl W4.heap.size W4)
      clear hp1 hb1 kk1 b1 bw
      go_wp2_with fail
      refine (circleCheck_any (ofD (ordA now now.length) (ordB ago now.length now.length)) [.int .i64 (ofD (ordA now now.length) (ordB ago now.length now.length)).st, .slice ia1 (ofD (ordA now now.length) (ordB ago now.length now.length)).ins.length ic1, .slice fa1 (ofD (ordA now now.length) (ordB ago now.length now.length)).flows.length fc1, .slice oa1 (ofD (ordA now now.length) (ordB ago now.length now.length)).outs.length oc1] d1 w1.heap.size _ (by exact HP1.out) (by exact m1)).mono ?_
      rintro e v6 ⟨rfl, hb6⟩
      rw [loop_eq HCP.out HIP.out]
      obtain ⟨j61, j62, j63, j64, j65⟩ := box_cells HB1.out hb6
      clear hW4
      go_wp2_with fail
      refine (circleFind_sl (ofD (ordA now now.length) (ordB ago now.length now.length)) [.int .i64 (ofD (ordA now now.length) (ordB ago now.length now.length)).st, .slice ia1 (ofD (ordA now now.length) (ordB ago now.length now.length)).ins.length ic1, .slice fa1 (ofD (ordA now now.length) (ordB ago now.length now.length)).flows.length fc1, .slice oa1 (ofD (ordA now now.length) (ordB ago now.length now.length)).outs.length oc1] d1 w1.heap.size _ (by exact (pg_at HP1.out m1 hb6).1) (by exact (pg_at HP1.out m1 hb6).2) (clash_small HCP.out).1 (clash_small HCP.out).2).mono ?_
      rintro e v7 ⟨⟨u7, rfl, hu7⟩, hb7⟩
      rw [HIP.out] at hu7
      obtain ⟨ua7, uc7, rfl, _, _⟩ := hu7.at_
      have hB7 := bel2 hb6 hb7
      have hBo7 : Below wo.heap.size wo v7 := HBW.out.trans (hB7.mono HBW.out.size)
      clear hu7 hb6 hb7
      go_wp2_with fail
      refine (lawCome_any (ordA now now.length) (now.length - 1) _ _ (by exact (HS.out.below hBo7).n.isSl) (by rw [HFL.out]; omega) HF.out (by rw [HFL.out]; omega)).mono ?_
      rintro e v8 ⟨bC, rfl, hbC, hb8⟩
      have hBo8 : Below wo.heap.size wo v8 := hBo7.trans (hb8.mono hBo7.size)
      have hR8 := HS.out.below hBo8
      have hcell : v8.cell? ⟨g, 0, none⟩ = some (.slice none 0 0) ∧ v8.frozen? ⟨g, 0, none⟩ = false := by
        obtain ⟨vs, ho, hz⟩ := HZ.out.below hBo8
        have h1 := ho.cells (g := g) rfl 0 _ (hz hn0)
        obtain ⟨cur, h2⟩ := own_type ho g rfl
        exact ⟨by simpa [Addr.add] using h1, by simp [World.frozen?, h2]⟩
      obtain ⟨z0, z1⟩ := hcell
      have hg8 : g < v8.heap.size := Nat.lt_of_lt_of_le hgl.2 hBo8.size
      have HR8 := hid hR8
      have HBC := hid hbC
      clear hR8 hbC
      have hw8 : w.heap.size ≤ v8.heap.size := by omega
      have tok1 : True := trivial
      go_wp2_with (first
       | (at_builtin
          have tk := tok1
          clear tk tok1
          refine wpList_append_own_at _ rfl _ _ 35 rfl v8.heap.size 3 i2 _ 1 8 Try.underlying35 hi2 hx0 hx1 hx2 rfl (by decide) (.slice none 0 0) 0 [] rfl (World.ownsRow_nil _ _ _ _) ⟨v8.heap.size, 0, none⟩ 1 1 [.int .i64 ((now.length - 1 : Nat) : Int)] rfl rfl (World.news_of_block (cs := #[.int .i64 ((now.length - 1 : Nat) : Int)]) (t := 3) (fr := (0, 0)) (alloc_new_at _ _ (by simp))) ?_ (by unfold maxLen; omega) (by omega) (by simp) ?_
          · intro u hu; rw [List.mem_singleton] at hu; subst hu; rfl
          intro vR w9 ho9 hg9 _ _
          obtain ⟨gR, cR, rfl⟩ := own_slice ho9
          have hb9 : Below v8.heap.size v8 w9 := (show Below v8.heap.size v8 (v8.alloc (.cells #[.int .i64 ((now.length - 1 : Nat) : Int)] 3)) from (Below.refl v8.heap.size v8).alloc (Nat.le_refl _) _).trans (grew_below (World.ownsRow_nil _ v8.heap.size 3 1) hg9 (Nat.le_refl _) (by simp))
          have q9 := (hb9.cell (p := ⟨g, 0, none⟩) hg8).trans z0
          have f9 := (hb9.frozen (p := ⟨g, 0, none⟩) hg8).trans z1)
       | fail)
      have hR9 := HR8.out.below hb9
      have hra : Rw (w9.setCell ⟨g, 0, none⟩ (.slice (some ⟨gR, 0, none⟩) 1 cR)) w.heap.size (.slice (some ⟨g, 0, none⟩) now.length nc) (closeNow (ordA now now.length) (now.length - 1)) :=
        Rw.set0 (r := [now.length - 1]) hR9.n (by rw [HFL.out]) (by rw [HFL.out]; omega) (own_base ho9 hw8) rfl
      have hrb : Rw (w9.setCell ⟨g, 0, none⟩ (.slice (some ⟨gR, 0, none⟩) 1 cR)) w.heap.size (.slice ca now.length cc) (ordB ago now.length now.length) :=
        hR9.c.kept (set_grown w9 g 0 _) (by have := hR9.nc.symm.ne; simpa [Value.ownBlock] using this) (fun g' hg' => by injection hg' with hg'; subst hg'; exact hR9.n.typed g rfl)
      have hbs : Below w.heap.size w (w9.setCell ⟨g, 0, none⟩ (.slice (some ⟨gR, 0, none⟩) 1 cR)) := ((hW.trans (hBo8.mono hW.size)).trans (hb9.mono hw8)).setCell (by exact hgl.1) _
      have HRA := hid hra
      have HRB := hid hrb
      have HBS := hid hbs
      clear hra hrb hbs hR9
      refine (of_any (closeNow (ordA now now.length) (now.length - 1)) (ordB ago now.length now.length) _ _ _ (by exact HRA.out.isSl) (by exact HRB.out.isSl) (by rw [closeNow, List.length_set, HFL.out]; omega) HSQ.out HSB.out).mono ?_
      rintro e w2 ⟨⟨cs2, d2, rfl, hp2⟩, hb2⟩
      obtain ⟨ia2, ic2, fa2, fc2, oa2, oc2, rfl⟩ := hp2.cells4
      obtain ⟨W5, hW5⟩ : ∃ W5 : World, w2.alloc (.cells #[.int .i64 (ofD (closeNow (ordA now now.length) (now.length - 1)) (ordB ago now.length now.length)).st, .slice ia2 (ofD (closeNow (ordA now now.length) (now.length - 1)) (ordB ago now.length now.length)).ins.length ic2, .slice fa2 (ofD (closeNow (ordA now now.length) (now.length - 1)) (ordB ago now.length now.length)).flows.length fc2, .slice oa2 (ofD (closeNow (ordA now now.length) (now.length - 1)) (ordB ago now.length now.length)).outs.length oc2] 26) = W5 := ⟨_, rfl⟩
      have kk2 : Below w2.heap.size w2 W5 := by rw [← hW5]; exact (by repeat (first | with_reducible exact Below.refl w2.heap.size w2 | with_reducible refine below_drewN ?_ _ | with_reducible refine Below.drew ?_ | with_reducible refine Below.alloc ?_ (by have hszz := Below.size (Below.refl w2.heap.size w2); first | omega | (simp; done) | (simp at hszz ⊢; omega)) _ | with_reducible refine Below.setCell ?_ (by have hszz := Below.size (Below.refl w2.heap.size w2); first | omega | (simp; done) | (simp at hszz ⊢; omega)) _))
      have b2 : Blk W5 w2.heap.size [.int .i64 (ofD (closeNow (ordA now now.length) (now.length - 1)) (ordB ago now.length now.length)).st, .slice ia2 (ofD (closeNow (ordA now now.length) (now.length - 1)) (ordB ago now.length now.length)).ins.length ic2, .slice fa2 (ofD (closeNow (ordA now now.length) (now.length - 1)) (ordB ago now.length now.length)).flows.length fc2, .slice oa2 (ofD (closeNow (ordA now now.length) (now.length - 1)) (ordB ago now.length now.length)).outs.length oc2] 26 := by rw [← hW5]; exact Blk.new' _ _ _ rfl
      have HP2 := hid (hp2.below kk2)
      have HB2 := hid b2
      have m2 := kk2.size
      have HBW5 := hid (HBS.out.trans ((hb2.trans (kk2.mono hb2.size)).mono HBS.out.size))
      obtain ⟨k51, k52, k53, k54, k55⟩ := box_cells b2 (Below.refl W5.heap.size W5)
      clear hp2 hb2 kk2 b2
      go_wp2_with fail
      refine (circleCheck_any (ofD (closeNow (ordA now now.length) (now.length - 1)) (ordB ago now.length now.length)) [.int .i64 (ofD (closeNow (ordA now now.length) (now.length - 1)) (ordB ago now.length now.length)).st, .slice ia2 (ofD (closeNow (ordA now now.length) (now.length - 1)) (ordB ago now.length now.length)).ins.length ic2, .slice fa2 (ofD (closeNow (ordA now now.length) (now.length - 1)) (ordB ago now.length now.length)).flows.length fc2, .slice oa2 (ofD (closeNow (ordA now now.length) (now.length - 1)) (ordB ago now.length now.length)).outs.length oc2] d2 w2.heap.size _ (by exact HP2.out) (by exact m2)).mono ?_
      rintro e v11 ⟨rfl, hb11⟩
      obtain ⟨k61, k62, k63, k64, k65⟩ := box_cells HB2.out hb11
      clear hW5
      cases bC
      · have hno : (ofD (closeNow (ordA now now.length) (now.length - 1)) (ordB ago now.length now.length)).circle = [] := by
          refine Decidable.byContradiction fun h => ?_
          have := HBC.out.2 (HIQ.out.1 h)
          cases this
        rw [loop_eq HCQ.out hno]
        have HNO := hid hno
        clear hno
        go_wp2_with fail
        refine (circleFind_sl (ofD (closeNow (ordA now now.length) (now.length - 1)) (ordB ago now.length now.length)) [.int .i64 (ofD (closeNow (ordA now now.length) (now.length - 1)) (ordB ago now.length now.length)).st, .slice ia2 (ofD (closeNow (ordA now now.length) (now.length - 1)) (ordB ago now.length now.length)).ins.length ic2, .slice fa2 (ofD (closeNow (ordA now now.length) (now.length - 1)) (ordB ago now.length now.length)).flows.length fc2, .slice oa2 (ofD (closeNow (ordA now now.length) (now.length - 1)) (ordB ago now.length now.length)).outs.length oc2] d2 w2.heap.size _ (by exact (pg_at HP2.out m2 hb11).1) (by exact (pg_at HP2.out m2 hb11).2) (clash_small HCQ.out).1 (clash_small HCQ.out).2).mono ?_
        rintro e v12 ⟨⟨u12, rfl, hu12⟩, hb12⟩
        rw [HNO.out] at hu12
        obtain ⟨ua12, uc12, rfl, _, _⟩ := hu12.at_
        have hB12 := bel2 hb11 hb12
        clear hu12 hb11 hb12
        go_wp2_with fail
        go_ret
        exact ⟨rfl, HBW5.out.trans (hB12.mono HBW5.out.size)⟩
      · have hne : (ofD (closeNow (ordA now now.length) (now.length - 1)) (ordB ago now.length now.length)).circle ≠ [] := HIQ.out.2 (HBC.out.1 rfl)
        rw [loop_ne HCQ.out hne]
        obtain ⟨cN, hcN⟩ : ∃ c, c = (ofD (closeNow (ordA now now.length) (now.length - 1)) (ordB ago now.length now.length)).circle := ⟨_, rfl⟩
        have hpos : 0 < cN.length := by rw [hcN]; exact List.length_pos_iff.2 hne
        have HNO := hid hcN
        clear hne hcN
        go_wp2_with fail
        refine (circleFind_sl (ofD (closeNow (ordA now now.length) (now.length - 1)) (ordB ago now.length now.length)) [.int .i64 (ofD (closeNow (ordA now now.length) (now.length - 1)) (ordB ago now.length now.length)).st, .slice ia2 (ofD (closeNow (ordA now now.length) (now.length - 1)) (ordB ago now.length now.length)).ins.length ic2, .slice fa2 (ofD (closeNow (ordA now now.length) (now.length - 1)) (ordB ago now.length now.length)).flows.length fc2, .slice oa2 (ofD (closeNow (ordA now now.length) (now.length - 1)) (ordB ago now.length now.length)).outs.length oc2] d2 w2.heap.size _ (by exact (pg_at HP2.out m2 hb11).1) (by exact (pg_at HP2.out m2 hb11).2) (clash_small HCQ.out).1 (clash_small HCQ.out).2).mono ?_
        rintro e v12 ⟨⟨u12, rfl, hu12⟩, hb12⟩
        rw [← HNO.out] at hu12
        obtain ⟨ua12, uc12, rfl, _, _⟩ := hu12.at_
        have hB12 := bel2 hb11 hb12
        have hpd : decide (0 < cN.length) = true := by simpa using hpos
        clear hu12 hb11 hb12
        go_wp2_with fail
        go_ret
        exact ⟨rfl, HBW5.out.trans (hB12.mono HBW5.out.size)⟩
/-- The call answers yes. -/
theorem ordered_any (now ago : List (List Nat)) (u v : Value) (w : World) (hu : IsSl w.heap.size w 1 (IsB8 w.heap.size w) now u) (hv : IsSl w.heap.size w 1 (IsB8 w.heap.size w) ago v) :
    Calls Try.prog 4 #[u, v] w (Ret (.bool true) w) := by
  by_cases hbig : 60 < now.length ∨ now.length = 0 ∨ 60 < ago.length
  · exact ordered_no now ago u v w hu hv hbig
  · exact ordered_yes now ago u v w hu hv (by omega) (by omega) (by omega)
end Go.Proofs.Ytmepdfipigdjhaa
