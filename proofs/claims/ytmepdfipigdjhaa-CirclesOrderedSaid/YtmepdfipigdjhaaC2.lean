/- What comes to a flow, step by step: circles.come. -/
import Derived.Test.YtmepdfipigdjhaaC1
import Derived.Deep.OwnRows
namespace Go.Proofs.Ytmepdfipigdjhaa
open Go.RowKit
set_option linter.unusedSimpArgs false
set_option linter.unusedVariables false
attribute [local go_sem] Oper.semAt_some

theorem Kq.low {q n0 : Nat} {A B C : World} (h : Kq q n0 A B) (k : Below A.heap.size B C) : Kq q n0 A C :=
  ⟨Nat.le_trans h.size k.size, fun b o h1 h2 => (k.block b (Array.getElem?_eq_some_iff.1 h1).1).trans (h.keep b o h1 h2)⟩
theorem Kq.own {q n0 : Nat} {A B : World} (h : Kq q n0 A B) {base : Nat} {e : TypeId} {size n : Nat} {v : Value} {xs : List Value} (ho : A.ownsRow base e size v n xs) : B.ownsRow base e size v n xs := by
  refine ⟨ho.1, ?_⟩
  rcases ho.2 with h1 | ⟨g, cap, cur, h2, h3, h4, h5⟩
  · exact .inl h1
  · exact .inr ⟨g, cap, cur, h2, h3, h.keep g _ h4 (.inl rfl), h5⟩
theorem Kq.map {q n0 : Nat} {A B : World} (h : Kq q n0 A B) {α : Type} {enc : α → Value} {b : Nat} {ks : List (α × Value)} (hm : MapAt enc A b ks) (hb : b < n0) (hq : b ≠ q) : MapAt enc B b ks := by
  obtain ⟨es, clock, h1, h2⟩ := hm
  exact ⟨es, clock, h.keep b _ h1 (.inr ⟨hb, hq⟩), h2⟩
/-- A row of flags. -/
def FlagsAt (w : World) (b n : Nat) (f : Nat → Bool) : Prop := ∃ cur, w.heap[b]? = some (.cells cur 4 (0, 0)) ∧ cur.size = n ∧ ∀ i, i < n → cur[i]? = some (.bool (f i))
theorem FlagsAt.cell {w : World} {b n : Nat} {f : Nat → Bool} (h : FlagsAt w b n f) {i : Nat} (hi : i < n) : w.cell? ⟨b, i, none⟩ = some (.bool (f i)) ∧ w.frozen? ⟨b, i, none⟩ = false := by
  obtain ⟨cur, h1, h2, h3⟩ := h
  exact ⟨by rw [World.cell?, h1]; simpa using h3 i hi, by simp [World.frozen?, h1]⟩
theorem FlagsAt.lt {w : World} {b n : Nat} {f : Nat → Bool} (h : FlagsAt w b n f) : b < w.heap.size := by
  obtain ⟨cur, h1, _⟩ := h
  exact (Array.getElem?_eq_some_iff.1 h1).1
theorem FlagsAt.same {w w' : World} {b n : Nat} {f : Nat → Bool} (h : FlagsAt w b n f) (hb : w'.heap[b]? = w.heap[b]?) : FlagsAt w' b n f := by
  obtain ⟨cur, h1, h2⟩ := h
  exact ⟨cur, hb.trans h1, h2⟩
theorem FlagsAt.kq {q n0 : Nat} {A B : World} (hk : Kq q n0 A B) {b n : Nat} {f : Nat → Bool} (h : FlagsAt A b n f) : FlagsAt B b n f := by
  obtain ⟨cur, h1, h2⟩ := h
  exact ⟨cur, hk.keep b _ h1 (.inl rfl), h2⟩
theorem FlagsAt.set {w : World} {b n : Nat} {f : Nat → Bool} (h : FlagsAt w b n f) {i : Nat} {g : Nat → Bool} (hg : ∀ k, g k = if k = i then true else f k) : FlagsAt (w.setCell ⟨b, i, none⟩ (.bool true)) b n g := by
  obtain ⟨cur, h1, h2, h3⟩ := h
  refine ⟨cur.setIfInBounds i (.bool true), ?_, by simp [h2], fun k hk => ?_⟩
  · simp [World.setCell, Array.getElem?_modify, h1]
  · rw [hg, Array.getElem?_setIfInBounds]
    by_cases e : i = k
    · subst e; simp [h2, hk]
    · rw [if_neg e, if_neg (fun h => e h.symm)]; exact h3 k hk

/-- Which flows come next: those not seen yet that need one of the edge at once. -/
def newC (need : Nat → List Int) (many : Nat) (seen : Nat → Bool) (edge : List Int) : List Nat := (List.range many).filter fun f => !seen f && (need f).any fun x => edge.any fun y => decide (y = x)
def comeGo (need : Nat → List Int) (many : Nat) : Nat → (Nat → Bool) → List Int → Int → List (Nat × Int)
  | 0, _, _, _ => []
  | fuel + 1, seen, edge, steps => if edge = [] then [] else
    (newC need many seen edge).map (fun f => (f, steps)) ++ comeGo need many fuel (fun f => seen f || (newC need many seen edge).contains f) ((newC need many seen edge).map Int.ofNat) (steps + 1)
/-- What comes to a flow: in how many steps each. -/
def comeC (need : Nat → List Int) (many : Nat) (to : Int) : List (Nat × Int) := comeGo need many (many + 2) (fun _ => false) [to] 1
def encCome (x : Nat × Int) : Array Value := #[.int .i64 x.1, .int .i64 x.2]

theorem edge1_any (be : Nat) (edge : List Int) (v : Value) (x : Int) (w : World) (ho : One w be v 35) (hs : IsSl w.heap.size w 1 IsInt edge v) :
    Calls Try.prog 49 #[.int .i64 x, .pointer (some ⟨be, 0, none⟩)] w (RetB (edge.any fun y => decide (y = x)) w) := by
  have HS := hid hs
  obtain ⟨a, cap, rfl, _⟩ := hs.at_
  have ce := ho.cell
  clear hs
  go_enter Try.func49, Try.ntmps49
  go_wp2_with (go_at_call 50; refine (containsInt_any edge _ x _ HS.out).mono ?_; rintro e w2 ⟨rfl, hb2⟩)
  go_ret
  exact ⟨rfl, hb2⟩
theorem come_any (bm : Nat) (many to : Int) (w : World) :
    Calls Try.prog 25 #[.map (some bm), .int .i64 many, .int .i64 to] w fun e w' => e = .returned (.func (.func 47) #[] #[.pointer (some ⟨w.heap.size + 1, 0, none⟩), .pointer (some ⟨w.heap.size + 2, 0, none⟩), .pointer (some ⟨w.heap.size, 0, none⟩)]) ∧
      ((w.alloc (.cells #[.map (some bm)] 64)).alloc (.cells #[.int .i64 many] 3)).alloc (.cells #[.int .i64 to] 3) = w' := by
  go_enter Try.func25, Try.ntmps25
  go_wp2_with fail
  go_ret
  exact ⟨rfl, rfl⟩

theorem filter_split {α : Type} (a b : α → Bool) (l : List α) : (l.filter fun x => a x && b x).length + (l.filter fun x => a x && !b x).length = (l.filter a).length := by
  induction l with
  | nil => rfl
  | cons x r ih =>
    cases ha : a x <;> cases hb : b x <;> simp [List.filter_cons, ha, hb] <;> omega
def unseen (many : Nat) (seen : Nat → Bool) : Nat := ((List.range many).filter fun f => !seen f).length
theorem newC_has {need : Nat → List Int} {many : Nat} {seen : Nat → Bool} {edge : List Int} {f : Nat} (hf : f < many) :
    (newC need many seen edge).contains f = (!seen f && (need f).any fun x => edge.any fun y => decide (y = x)) := by
  rw [Bool.eq_iff_iff, List.contains_iff_mem, newC, List.mem_filter]
  simp [hf]
theorem unseen_next (need : Nat → List Int) (many : Nat) (seen : Nat → Bool) (edge : List Int) :
    unseen many (fun f => seen f || (newC need many seen edge).contains f) + (newC need many seen edge).length = unseen many seen := by
  have h := filter_split (fun f => !seen f) (fun f => (need f).any fun x => edge.any fun y => decide (y = x)) (List.range many)
  rw [unseen, unseen, newC, ← h, Nat.add_comm]
  congr 1
  congr 1
  apply List.filter_congr
  intro f hf
  have hf2 : f < many := by simpa using hf
  have := newC_has (need := need) (seen := seen) (edge := edge) hf2
  rw [newC] at this
  rw [this]
  cases seen f <;> simp
theorem comeGo_stop (need : Nat → List Int) (many fuel : Nat) (seen : Nat → Bool) (steps : Int) : comeGo need many fuel seen [] steps = [] := by
  cases fuel <;> simp [comeGo]
theorem own_base {w : World} {base base' : Nat} {e : TypeId} {size n : Nat} {v : Value} {xs : List Value} (h : w.ownsRow base e size v n xs) (hb : base' ≤ base) : w.ownsRow base' e size v n xs := by
  refine ⟨h.1, ?_⟩
  rcases h.2 with h1 | ⟨g, cap, cur, h2, h3, h4⟩
  · exact .inl h1
  · exact .inr ⟨g, cap, cur, h2, Nat.le_trans hb h3, h4⟩
theorem own_but {w w' : World} {base : Nat} {e : TypeId} {size n : Nat} {v : Value} {xs : List Value} (h : w.ownsRow base e size v n xs) {q : Nat} (hb : But q w w') (hq : some q ≠ v.ownBlock) : w'.ownsRow base e size v n xs :=
  h.kept hb.grown (.inr (Ne.symm hq))
theorem own_below {w w' : World} {base : Nat} {e : TypeId} {size n : Nat} {v : Value} {xs : List Value} (h : w.ownsRow base e size v n xs) (hb : Below w.heap.size w w') : w'.ownsRow base e size v n xs :=
  h.kept (But.of (q := w.heap.size) hb).grown (.inr (Ne.symm (own_ne' h (Nat.le_refl _))))
theorem own_isInt {w : World} {base : Nat} {e : TypeId} {v : Value} {xs : List Int} (h : w.ownsRow base e 1 v xs.length (xs.flatMap intCells)) : IsSl w.heap.size w 1 IsInt xs v := own_isSl (f := intCells) (fun _ => rfl) h
theorem FlagsAt.congr {w : World} {b n : Nat} {f g : Nat → Bool} (h : FlagsAt w b n f) (hg : ∀ i, i < n → g i = f i) : FlagsAt w b n g := by
  obtain ⟨cur, h1, h2, h3⟩ := h
  exact ⟨cur, h1, h2, fun i hi => by rw [hg i hi]; exact h3 i hi⟩
theorem range_filter_no {fit : Nat → Bool} {t : Nat} (h : fit t = false) : (List.range (t + 1)).filter fit = (List.range t).filter fit := by
  rw [List.range_succ, List.filter_append, List.filter_cons_of_neg (by rw [h]; decide)]; simp
theorem range_filter_yes {fit : Nat → Bool} {t : Nat} (h : fit t = true) : (List.range (t + 1)).filter fit = (List.range t).filter fit ++ [t] := by
  rw [List.range_succ, List.filter_append, List.filter_cons_of_pos h]; simp
theorem flag_no {seen fit : Nat → Bool} {t : Nat} (h : fit t = false) (k : Nat) : (seen k || (decide (k < t + 1) && fit k)) = (seen k || (decide (k < t) && fit k)) := by
  by_cases e : k = t
  · subst e; rw [h]; simp
  · have : decide (k < t + 1) = decide (k < t) := by
      by_cases h2 : k < t
      · simp [h2]; omega
      · simp [h2]; omega
    rw [this]
theorem flag_yes {seen fit : Nat → Bool} {t : Nat} (h : fit t = true) (k : Nat) : (seen k || (decide (k < t + 1) && fit k)) = if k = t then true else (seen k || (decide (k < t) && fit k)) := by
  by_cases e : k = t
  · subst e; rw [h]; simp
  · rw [if_neg e]
    have : decide (k < t + 1) = decide (k < t) := by
      by_cases h2 : k < t
      · simp [h2]; omega
      · simp [h2]; omega
    rw [this]
theorem own_low {w w' : World} {base B : Nat} {e : TypeId} {size n : Nat} {v : Value} {xs : List Value} (h : w.ownsRow base e size v n xs) (hb : Below B w w') (hv : ∀ k, v.ownBlock = some k → k < B) : w'.ownsRow base e size v n xs := by
  refine ⟨h.1, ?_⟩
  rcases h.2 with h1 | ⟨g, cap, cur, rfl, h3, h4, h5⟩
  · exact .inl h1
  · exact .inr ⟨g, cap, cur, rfl, h3, (hb.block g (hv g rfl)).trans h4, h5⟩
theorem alloc_new_at (w : World) (o : Obj) {n : Nat} (h : n = w.heap.size) : (w.alloc o).heap[n]? = some o := by
  subst h; exact heap_alloc_new _ _
theorem infoBool : (Try.prog.info? 4).map (fun i => (i.zero, i.size, i.bytes)) = some (some (.bool false), 1, 1) := by kernel_rfl

set_option maxRecDepth 100000 in
set_option maxHeartbeats 4000000 in
theorem come1_in (n : Nat) (hn : 1 ≤ n) (l n0 q bm b1 b2 b3 many : Nat) (to : Int) (need : Nat → List Int) (hmany : many ≤ 1000000) (J Jx : List (Nat × Int) → World → Prop)
    (hY : ∀ pre x W, J pre W → pre.length < (comeC need many to).length → YieldAt Fence.wide (n - 1) Try.prog l (encCome x) W fun e W' =>
      (e = .returned (.bool true) ∧ J (pre ++ [x]) W' ∧ Kq q n0 W W') ∨ (e = .returned (.bool false) ∧ Jx (pre ++ [x]) W'))
    (W : World) (hJ : Low W.heap.size J) (hW : n0 ≤ W.heap.size) (hbm : bm < n0) (hbq : bm ≠ q)
    (ho1 : One W b1 (.int .i64 many) 3) (ho2 : One W b2 (.int .i64 to) 3) (ho3 : One W b3 (.map (some bm)) 64) (hall : AllAt W bm many need) (h0 : J [] W) :
    CallsIn Fence.wide n Try.prog 47 #[.func (.yield l) #[] #[], .pointer (some ⟨b1, 0, none⟩), .pointer (some ⟨b2, 0, none⟩), .pointer (some ⟨b3, 0, none⟩)] W fun e W' => (∃ v, e = .returned v) ∧
      ((∃ ys, ys = comeC need many to ∧ J ys W') ∨ (∃ pre, pre <+: comeC need many to ∧ Jx pre W')) := by
  have HJ := hid hJ
  have HY := hid hY
  have HA := hid hall
  have c1 := ho1.cell
  have c2 := ho2.cell
  have c3 := ho3.cell
  have l1 := ho1.lt
  have l2 := ho2.lt
  have l3 := ho3.lt
  clear hJ hY hall
  refine callsIn_of_wp Try.func47 rfl trivial ?_ rfl
  simp only [Try.ntmps47, List.size_toArray, List.length_cons, List.length_nil, Nat.reduceAdd, Nat.reduceSub, Array.replicate_succ, Array.replicate_zero, List.push_toArray, List.append_toArray, List.nil_append, List.cons_append]
  have hmake := fun w => run_make_row' (P := Try.prog) 75 4 (.bool false) 1 Try.underlying75 infoBool rfl .i64 .i64 many (by omega) (by omega) w
  gi_wp2
  obtain ⟨wi, hwi⟩ : ∃ wi, ((W.alloc (.cells (madeCells #[.bool false] many) 4)).alloc (.cells #[.int .i64 to] 3)).alloc (.cells #[.slice (some ⟨W.heap.size + 1, 0, none⟩) 1 1] 35) = wi := ⟨_, rfl⟩
  have hBi : Below W.heap.size W wi := by rw [← hwi]; exact (by repeat (first | with_reducible exact Below.refl W.heap.size W | with_reducible refine below_drewN ?_ _ | with_reducible refine Below.drew ?_ | with_reducible refine Below.alloc ?_ (by have hszz := Below.size (Below.refl W.heap.size W); first | omega | (simp; done) | (simp at hszz ⊢; omega)) _ | with_reducible refine Below.setCell ?_ (by have hszz := Below.size (Below.refl W.heap.size W); first | omega | (simp; done) | (simp at hszz ⊢; omega)) _))
  have hF0 : FlagsAt wi W.heap.size many (fun _ => false) := by
    rw [← hwi]
    refine FlagsAt.same (w := W.alloc (.cells (madeCells #[.bool false] many) 4)) ⟨madeCells #[.bool false] many, heap_alloc_new _ _, by simp [madeCells], fun i hi => by simp [madeCells, hi, Nat.mod_one]⟩ ?_
    rw [Below.heap_alloc _ _ _ (by simp; omega), Below.heap_alloc _ _ _ (by simp)]
  have hE0 : wi.ownsRow (W.heap.size + 1) 3 1 (.slice (some ⟨W.heap.size + 1, 0, none⟩) 1 1) [to].length ([to].flatMap intCells) := by
    rw [← hwi]
    refine World.ownsRow.alloc ⟨rfl, .inr ⟨W.heap.size + 1, 1, #[.int .i64 to], rfl, Nat.le_refl _, ?_, by simp, by decide, rfl, rfl⟩⟩ _
    have := heap_alloc_new (W.alloc (.cells (madeCells #[.bool false] many) 4)) (.cells #[.int .i64 to] 3)
    rw [World.size_alloc] at this
    exact this
  have hO0 : One wi (W.heap.size + 2) (.slice (some ⟨W.heap.size + 1, 0, none⟩) 1 1) 35 := by rw [← hwi]; exact (by repeat (first | (refine One.new' _ _ _ ?_; simp; done) | refine One.alloc ?_ _))
  have hJ0 := hid (HJ.out _ _ _ h0 hBi)
  simp only [Nat.add_assoc, Nat.reduceAdd, World.size_alloc] at hwi ⊢
  rw [hwi]
  clear hwi h0
  gi_loopg [7] (many + 1) (fun k st wr => ∃ (fuel : Nat) (seen : Nat → Bool) (edge : List Int) (pre : List (Nat × Int)) (steps : Nat) (ve : Value), st = .int .i64 steps ∧ k = unseen many seen + (if edge = [] then 0 else 1) ∧ k + 1 ≤ fuel ∧ steps ≤ 2000000 - k ∧ k ≤ many + 1 ∧
    comeC need many to = pre ++ comeGo need many fuel seen edge steps ∧ J pre wr ∧ FlagsAt wr W.heap.size many seen ∧ One wr (W.heap.size + 2) ve 35 ∧ wr.ownsRow (W.heap.size + 1) 3 1 ve edge.length (edge.flatMap intCells) ∧ Kq q n0 W wr)
  case atStart =>
    refine ⟨many + 2, fun _ => false, [to], [], 1, _, rfl, by rw [unseen, List.filter_eq_self.2 (by simp)]; simp, by omega, by omega, by omega, rfl, hJ0.out, hF0, hO0, hE0, Kq.of hBi⟩
  case round =>
    obtain ⟨fuel, seen, edge, pre, steps, ve, rfl, hk, hfu, hst, hkm, hcome, hJw, hfl, hoe, hown, hkw⟩ := hrel
    have HJw := hid hJw
    have HC := hid hcome
    clear hJw hcome
    have d1 := hkw.cell c1
    have d3 := hkw.cell c3
    have ce := hoe.cell
    have fe := hoe.free
    have le := hoe.lt
    by_cases he : edge = []
    · subst he
      have hv : ∃ a c, ve = .slice a 0 c := by
        rcases own_ints hown with ⟨_, a, c, hv, _⟩ | ⟨g, cap, hv, _⟩
        · exact ⟨a, c, hv⟩
        · exact ⟨_, _, hv⟩
      obtain ⟨a, c, rfl⟩ := hv
      rw [comeGo_stop, List.append_nil] at HC
      gi_wp2
      go_end0
      exact ⟨⟨_, rfl⟩, .inl (by rw [HC.out]; exact HJw.out)⟩
    · obtain ⟨g, cap, hve, hg1, hg2, hc1, hc2, hcell, hfrz⟩ := (own_ints hown).resolve_left (fun h => he h.1)
      have hpos : 0 < edge.length := List.length_pos_iff.2 he
      have hp2 : decide (0 < (edge.length : Int)) = true := by simp; omega
      cases hve
      have HK := hid hk
      rw [if_neg he] at hk
      clear hcell hfrz he
      gi_wp2
      obtain ⟨wo, rfl⟩ : ∃ wo : World, wo = wr := ⟨_, rfl⟩
      obtain ⟨fit, hfit⟩ : ∃ fit : Nat → Bool, (fun f => !seen f && (need f).any fun x => edge.any fun y => decide (y = x)) = fit := ⟨_, rfl⟩
      have hnew : newC need many seen edge = (List.range many).filter fit := by rw [newC, hfit]
      have HNew := hid hnew
      clear hnew
      gi_loopg [8, 20] many (fun k v8 ix w3 => ∃ t : Nat, t ≤ many ∧ k = many - t ∧ ix = .int .i64 t ∧ J (pre ++ ((List.range t).filter fit).map (fun f => (f, (steps : Int)))) w3 ∧ FlagsAt w3 W.heap.size many (fun f => seen f || (decide (f < t) && fit f)) ∧
        One w3 (W.heap.size + 2) (.slice (some ⟨g, 0, none⟩) edge.length cap) 35 ∧ w3.ownsRow (W.heap.size + 1) 3 1 (.slice (some ⟨g, 0, none⟩) edge.length cap) edge.length (edge.flatMap intCells) ∧
        w3.ownsRow wo.heap.size 3 1 v8 (((List.range t).filter fit).map Int.ofNat).length ((((List.range t).filter fit).map Int.ofNat).flatMap intCells) ∧ Kq q n0 W w3 ∧ wo.heap.size ≤ w3.heap.size)
      case atStart =>
        refine ⟨0, Nat.zero_le _, by omega, rfl, by simpa using HJw.out, ?_, hoe, hown, World.ownsRow_nil _ _ _ _, hkw, Nat.le_refl _⟩
        simpa using hfl
      case round =>
        obtain ⟨t, ht, rfl, rfl, hJt, hflt, hoet, hownt, hnx, hkt, hszt⟩ := hrel
        have HJt := hid hJt
        obtain ⟨na, nn, nc, rfl⟩ := own_val hnx
        have e1 := hkt.cell c1
        have e3 := hkt.cell c3
        have ce2 := hoet.cell
        have fe2 := hoet.free
        have le2 := hoet.lt
        clear hJt
        by_cases hlt : t < many
        · obtain ⟨ks, hmap0, hneed0, _⟩ := HA.out
          have hmapt := hkt.map hmap0 hbm hbq
          have hneedt := (hneed0 t).keep (fun _ _ _ h => h) fun _ _ h => hkt.cell h
          obtain ⟨va, vc, hva, hvl, _⟩ := hneedt.at_
          have hrun := lookup_need hmapt (t : Int)
          rw [hva] at hrun hneedt
          have HNeed := hid hneedt
          have hft := (hflt.cell hlt).1
          have hff := (hflt.cell hlt).2
          have hlf := hflt.lt
          simp only [Nat.lt_irrefl, decide_false, Bool.false_and, Bool.or_false] at hft
          clear hneed0 hneedt hmap0
          cases hs : seen t
          · rw [hs] at hft
            cases hany : (need t).any fun x => edge.any fun y => decide (y = x)
            · have hno : fit t = false := by rw [← hfit]; simp only [hs, hany]; rfl
              have HNo := hid hno
              clear hno
              gi_wp2_with (refine ⟨trivial, ?_⟩; gi_at_call 48; refine (callsIn_wide.2 (containsFuncEdge (need t) (fun x => edge.any fun y => decide (y = x)) _ #[.pointer (some ⟨W.heap.size + 2, 0, none⟩)] _ (HNeed.out.wide hkt.size) ?_)).mono ?_; (intro x W5 hx hb5; exact edge1_any _ edge _ x W5 (hoet.below hb5 le2) (own_isInt (own_below hownt hb5))); rintro e w4 ⟨rfl, hb4⟩; rw [hany])
              gi_roundg (many - (t + 1))
              case rel =>
                refine ⟨t + 1, by omega, rfl, by go_num, ?_, (FlagsAt.same hflt (hb4.block _ hlf)).congr fun k _ => flag_no HNo.out k, hoet.below hb4 le2, own_below hownt hb4, ?_, hkt.trans (Kq.of hb4), Nat.le_trans hszt hb4.size⟩
                · rw [range_filter_no HNo.out]; exact HJ.out _ _ _ HJt.out (hb4.mono hkt.size)
                · rw [range_filter_no HNo.out]; exact own_below hnx hb4
              case measure => omega
            · have hyes : fit t = true := by rw [← hfit]; simp only [hs, hany]; rfl
              have HYes := hid hyes
              clear hyes
              obtain ⟨i0, hi, hz0, hz1, hz2⟩ := info_parts infoInt
              have hlen : (((List.range t).filter fit).map Int.ofNat).length ≤ 1000000 := by
                rw [List.length_map]
                refine Nat.le_trans (List.length_filter_le _ _) ?_
                simp; omega
              have hpre : (pre ++ ((List.range t).filter fit).map (fun f => (f, (steps : Int)))) ++ [(t, (steps : Int))] <+: comeC need many to := by
                rw [HC.out]
                obtain ⟨f', rfl⟩ : ∃ f', fuel = f' + 1 := ⟨fuel - 1, by omega⟩
                rw [comeGo, if_neg (by intro h; rw [h] at hpos; simp at hpos), HNew.out, List.append_assoc]
                refine (List.prefix_append_right_inj _).2 (List.IsPrefix.trans ?_ (List.prefix_append _ _))
                have h1 := range_filter_yes HYes.out
                have h2 : ((List.range t).filter fit).map (fun f => (f, (steps : Int))) ++ [(t, (steps : Int))] = ((List.range (t + 1)).filter fit).map (fun f => (f, (steps : Int))) := by rw [h1]; simp
                rw [h2]
                have h3 : List.range (t + 1) <+: List.range many := by
                  have := List.take_prefix (t + 1) (List.range many)
                  rwa [List.take_range, Nat.min_eq_left (by omega)] at this
                obtain ⟨r, hr⟩ := h3
                rw [← hr, List.filter_append, List.map_append]
                exact List.prefix_append _ _
              have HPre := hid hpre
              have HLt := hid (prefix_lt hpre)
              clear hpre
              gi_wp2_with (first
                | (refine ⟨trivial, ?_⟩; gi_at_call 48; refine (callsIn_wide.2 (containsFuncEdge (need t) (fun x => edge.any fun y => decide (y = x)) _ #[.pointer (some ⟨W.heap.size + 2, 0, none⟩)] _ (HNeed.out.wide hkt.size) ?_)).mono ?_; (intro x W5 hx hb5; exact edge1_any _ edge _ x W5 (hoet.below hb5 le2) (own_isInt (own_below hownt hb5))); rintro e w4 ⟨rfl, hb4⟩; rw [hany]; have hfl4 := FlagsAt.same hflt (hb4.block _ hlf); have g1 : w4.cell? ⟨W.heap.size, t, none⟩ = some (.bool false) := (hb4.cell (p := ⟨W.heap.size, t, none⟩) hlf).trans hft; have g2 := (hfl4.cell hlt).2; have hs4 := hb4.size; have ce4 := (hoet.below hb4 le2).cell; have hown5 := ownsRow_setCell_below (own_below hnx hb4) (a := ⟨W.heap.size, t, none⟩) (show W.heap.size < wo.heap.size by omega) (.bool true))
                | (gi_at_builtin
                   refine wpListIn_append_own _ rfl _ _ 35 rfl wo.heap.size 3 i0 _ 1 8 Try.underlying35 hi hz0 hz1 hz2 rfl (by decide) (.slice na nn nc) (((List.range t).filter fit).map Int.ofNat).length _ rfl (hown5.alloc _) ⟨w4.heap.size, 0, none⟩ 1 1 (intCells (t : Int)) rfl rfl (World.news_of_block (cs := #[.int .i64 (t : Int)]) (t := 3) (fr := (0, 0)) (alloc_new_at _ _ (by simp [World.setCell]))) ?_ ?_ ?_ ?_ ?_
                   · simp [intCells, Value.oneCell']
                   · unfold maxLen; omega
                   · omega
                   · simp [World.setCell]; omega
                   intro v' w6 hown6 hgrow _
                   obtain ⟨g', cap', rfl⟩ := own_slice hown6
                   have hB6 : Below wo.heap.size (w4.setCell ⟨W.heap.size, t, none⟩ (.bool true)) w6 := (((Below.refl _ _).alloc (by simp [World.setCell]; omega) _).grown hgrow (by simp [World.setCell]; omega) (fun k e => (hnx.lt k e).1))
                   have hJ6 := HJ.out _ _ _ HJt.out (((hb4.mono hkt.size).setCell (by exact Nat.le_refl _) _).trans (hB6.mono (by omega)))
                   obtain ⟨fn, tmps, assign, body, hy, hR⟩ := HY.out _ (t, (steps : Int)) w6 hJ6 HLt.out
                   dsimp only [encCome] at hy hR))
              refine hR.mono ?_
              have hfl6 := FlagsAt.same (hfl4.set (i := t) (g := fun k => seen k || (decide (k < t + 1) && fit k)) (fun k => flag_yes HYes.out k)) (hB6.block W.heap.size (by omega))
              have hoe6 := ((hoet.below hb4 le2).other (show W.heap.size + 2 ≠ W.heap.size by omega) t (.bool true)).below hB6 le
              have hed6 := own_low (ownsRow_setCell_below (own_below hownt hb4) (a := ⟨W.heap.size, t, none⟩) (show W.heap.size < W.heap.size + 1 by omega) (.bool true)) hB6 (fun k e => by cases e; exact hg2)
              have hkq6 := (hkt.trans (Kq.of hb4)).low (((Below.refl W.heap.size w4).setCell (p := ⟨W.heap.size, t, none⟩) (Nat.le_refl _) (.bool true)).trans (hB6.mono (by omega)))
              have hsz6 : wo.heap.size ≤ w6.heap.size := by
                have := hB6.size
                simp [World.setCell] at this; omega
              have hown6' : w6.ownsRow wo.heap.size 3 1 (.slice (some ⟨g', 0, none⟩) ((((List.range t).filter fit).map Int.ofNat).length + 1) cap') (((List.range (t + 1)).filter fit).map Int.ofNat).length ((((List.range (t + 1)).filter fit).map Int.ofNat).flatMap intCells) := by
                rw [range_filter_yes HYes.out]
                simpa [intCells] using hown6
              clear hown6 hy
              rintro e W7 (⟨rfl, hJ7, hk7⟩ | ⟨rfl, hJx7⟩)
              · have HJ7 := hid hJ7
                have HO7 := hid (hk7.own hown6')
                clear hJ7 hown6'
                gi_wp2
                gi_roundg (many - (t + 1))
                case rel =>
                  refine ⟨t + 1, by omega, rfl, by go_num, ?_, FlagsAt.kq hk7 hfl6, hk7.one hoe6, hk7.own hed6, ?_, hkq6.trans hk7, Nat.le_trans hsz6 hk7.size⟩
                  · have h := HJ7.out
                    rw [range_filter_yes HYes.out, List.map_append, ← List.append_assoc]
                    exact h
                  · simpa using HO7.out
                case measure => omega
              · have HJ7 := hid hJx7
                clear hJx7 hown6'
                gi_wp2
                refine bodyPost_ret (results_none rfl _ _ _) rfl ?_
                exact ⟨⟨_, rfl⟩, .inr ⟨_, HPre.out, HJ7.out⟩⟩
          · rw [hs] at hft
            have hno : fit t = false := by rw [← hfit]; simp only [hs]; rfl
            have HNo := hid hno
            clear hno
            gi_wp2_with (refine ⟨trivial, ?_⟩)
            gi_roundg (many - (t + 1))
            case rel =>
              refine ⟨t + 1, by omega, rfl, by go_num, ?_, hflt.congr fun k _ => flag_no HNo.out k, hoet, hownt, ?_, hkt, hszt⟩
              · rw [range_filter_no HNo.out]; exact HJt.out
              · rw [range_filter_no HNo.out]; exact hnx
            case measure => omega
        · have htm : t = many := by omega
          subst htm
          have hun := unseen_next need t seen edge
          obtain ⟨f', rfl⟩ : ∃ f', fuel = f' + 1 := ⟨fuel - 1, by omega⟩
          have hgo : comeGo need t (f' + 1) seen edge steps = (newC need t seen edge).map (fun f => (f, (steps : Int))) ++ comeGo need t f' (fun f => seen f || (newC need t seen edge).contains f) ((newC need t seen edge).map Int.ofNat) (steps + 1) := by
            rw [comeGo, if_neg (by intro h; rw [h] at hpos; simp at hpos)]
          have hfl9 : FlagsAt wr W.heap.size t (fun f => seen f || (newC need t seen edge).contains f) := hflt.congr fun i hi => by
            rw [newC_has hi, ← hfit]
            simp only [hi, decide_true, Bool.true_and]
          rw [← HNew.out] at hnx HJt
          have HGo := hid hgo
          have HUn := hid hun
          clear hgo hun
          generalize newC need t seen edge = new at hnx HJt HGo HUn hfl9
          gi_wp2
          gi_roundg (unseen t (fun f => seen f || new.contains f) + (if new.map Int.ofNat = [] then 0 else 1))
          case rel =>
            have hu := HUn.out
            refine ⟨f', _, new.map Int.ofNat, pre ++ new.map (fun f => (f, (steps : Int))), steps + 1, _, by go_num, rfl, ?_, ?_, ?_, ?_, ?_, ?_, hoet.set _, ?_, ?_⟩
            · generalize unseen t (fun f => seen f || new.contains f) = u' at hu ⊢; cases new <;> simp at hu ⊢ <;> omega
            · generalize unseen t (fun f => seen f || new.contains f) = u' at hu ⊢; cases new <;> simp at hu ⊢ <;> omega
            · generalize unseen t (fun f => seen f || new.contains f) = u' at hu ⊢; cases new <;> simp at hu ⊢ <;> omega
            · rw [HC.out, HGo.out, List.append_assoc]; rfl
            · exact HJ.out _ _ _ HJt.out ((Below.refl _ _).setCell (by show W.heap.size ≤ W.heap.size + 2; omega) _)
            · exact hfl9.same (Below.heap_setCell _ _ _ _ (by show W.heap.size ≠ W.heap.size + 2; omega))
            · exact own_base (ownsRow_setCell_below hnx (a := ⟨W.heap.size + 2, 0, none⟩) (show W.heap.size + 2 < wo.heap.size from le) _) (by omega)
            · exact hkt.low ((Below.refl _ _).setCell (by show W.heap.size ≤ W.heap.size + 2; omega) _)
          case measure =>
            have hu := HUn.out
            generalize unseen t (fun f => seen f || new.contains f) = u' at hu ⊢
            cases new <;> simp at hu ⊢ <;> omega
end Go.Proofs.Ytmepdfipigdjhaa
