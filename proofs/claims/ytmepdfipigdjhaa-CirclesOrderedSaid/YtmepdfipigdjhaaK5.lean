/- Plain facts: programs of flows, each of which adds up flows by their numbers. No program is walked here. -/
import Derived.Test.YtmepdfipigdjhaaK4
namespace Go.Proofs.Ytmepdfipigdjhaa
open Go.RowKit
set_option linter.unusedSimpArgs false
set_option linter.unusedVariables false

mutual
/-- What a tree asks for, in its order, doubles and all. -/
def Ex.asks (ago : Int) : Ex → List RefD
  | .mk op _ s args => (if op = 3 then [⟨s, ago⟩] else []) ++ Ex.asksL (if op = 19 then wrap64 (ago + 1) else ago) args
def Ex.asksL (ago : Int) : List Ex → List RefD
  | [] => []
  | x :: r => Ex.asks ago x ++ Ex.asksL ago r
end
mutual
theorem mem_gather : ∀ (x : Ex) (ago : Int) (l : List RefD) (r : RefD), r ∈ x.gather ago l ↔ r ∈ l ∨ r ∈ x.asks ago
  | .mk op n s args, ago, l, r => by
    rw [Ex.gather, Ex.asks, mem_gatherL args, List.mem_append, ← or_assoc]
    refine or_congr ?_ Iff.rfl
    by_cases h : op = 3
    · by_cases h2 : (⟨s, ago⟩ : RefD) ∈ l
      · rw [if_neg (fun hh => hh.2 h2), if_pos h, List.mem_singleton]
        exact ⟨.inl, fun hh => hh.elim id fun e => e ▸ h2⟩
      · rw [if_pos ⟨h, h2⟩, if_pos h, List.mem_append]
    · rw [if_neg (fun hh => h hh.1), if_neg h]; simp
theorem mem_gatherL : ∀ (xs : List Ex) (ago : Int) (l : List RefD) (r : RefD), r ∈ Ex.gatherL ago l xs ↔ r ∈ l ∨ r ∈ Ex.asksL ago xs
  | [], ago, l, r => by simp [Ex.gatherL, Ex.asksL]
  | x :: xs, ago, l, r => by
    rw [Ex.gatherL, Ex.asksL, mem_gatherL xs, mem_gather x, List.mem_append, or_assoc]
end
theorem mem_refs {x : Ex} {r : RefD} : r ∈ x.refs ↔ r ∈ x.asks 0 := by rw [Ex.refs, mem_gather]; simp

mutual
/-- May it be, but for how great it is? -/
def Ex.fine : Ex → Bool
  | .mk op n s args => decide (partsZ op = args.length) && (if op = 1 then decide (0 ≤ n) && decide (s.size = 0) else if op = 2 then (decide (n = 0) || decide (n = 1)) && decide (s.size = 0) else if op = 3 then decide (n = 0) && nameB s else decide (n = 0) && decide (s.size = 0)) && Ex.fineL args
def Ex.fineL : List Ex → Bool
  | [] => true
  | x :: r => Ex.fine x && Ex.fineL r
end
mutual
def Ex.depth : Ex → Nat
  | .mk _ _ _ args => Ex.depthL args + 1
def Ex.depthL : List Ex → Nat
  | [] => 0
  | x :: r => max (Ex.depth x) (Ex.depthL r)
end
mutual
theorem chk_fine : ∀ (x : Ex) (deep left : Int), x.fine = true → (x.depth : Int) ≤ deep → (x.count : Int) ≤ left → x.chk deep left = (true, left - x.count)
  | .mk op n s args, deep, left, h, hd, hl => by
    simp only [Ex.fine, Bool.and_eq_true, decide_eq_true_eq] at h
    obtain ⟨⟨h1, h2⟩, h3⟩ := h
    rw [Ex.depth] at hd
    rw [Ex.count] at hl ⊢
    push_cast at hd hl ⊢
    rw [Ex.chk, if_neg (by intro hh; rcases hh with hh | hh | hh <;> first | omega | exact hh h1)]
    have hz : op = 1 ∨ op = 2 ∨ op = 3 → args = [] := fun ho => by
      have : partsZ op = 0 := by rw [partsZ, if_pos ho]
      exact List.eq_nil_of_length_eq_zero (by omega)
    by_cases e1 : op = 1
    · rw [if_pos e1] at h2 ⊢
      rw [hz (.inl e1), Ex.countL]
      simp only [Bool.and_eq_true, decide_eq_true_eq] at h2
      simp [h2]
    · rw [if_neg e1] at h2 ⊢
      by_cases e2 : op = 2
      · rw [if_pos e2] at h2 ⊢
        rw [hz (.inr (.inl e2)), Ex.countL]
        rw [h2]; simp
      · rw [if_neg e2] at h2 ⊢
        by_cases e3 : op = 3
        · rw [if_pos e3] at h2 ⊢
          rw [hz (.inr (.inr e3)), Ex.countL]
          rw [h2]; simp
        · rw [if_neg e3] at h2 ⊢
          have hr := chkL_fine args (deep - 1) (left - 1) h3 (by omega) (by omega)
          rw [hr, if_pos rfl, h2]
          show (true, left - 1 - (Ex.countL args : Int)) = (true, left - ((Ex.countL args : Int) + 1))
          rw [show left - 1 - (Ex.countL args : Int) = left - ((Ex.countL args : Int) + 1) by omega]
theorem chkL_fine : ∀ (l : List Ex) (deep left : Int), Ex.fineL l = true → (Ex.depthL l : Int) ≤ deep → (Ex.countL l : Int) ≤ left → Ex.chkL deep left l = (true, left - Ex.countL l)
  | [], deep, left, _, _, _ => by rw [Ex.chkL, Ex.countL]; simp
  | x :: r, deep, left, h, hd, hl => by
    rw [Ex.fineL, Bool.and_eq_true] at h
    rw [Ex.depthL] at hd
    rw [Ex.countL] at hl ⊢
    push_cast at hl ⊢
    have h1 := chk_fine x deep left h.1 (by omega) (by omega)
    rw [Ex.chkL, h1, if_pos rfl, chkL_fine r deep _ h.2 (by omega) (by omega)]
    show (true, left - (x.count : Int) - (Ex.countL r : Int)) = (true, left - ((x.count : Int) + (Ex.countL r : Int)))
    rw [show left - (x.count : Int) - (Ex.countL r : Int) = left - ((x.count : Int) + (Ex.countL r : Int)) by omega]
end
theorem check_fine {x : Ex} (h : x.fine = true) (hd : x.depth ≤ 32) (hc : x.count ≤ 200) : x.check = true := by
  rw [Ex.check, chk_fine x 32 200 h (by omega) (by omega)]

def noB : ByteArray := ⟨#[]⟩
/-- The name of a flow by its number. -/
def wordD (n : Nat) : ByteArray := ⟨#[102, UInt8.ofNat (97 + n % 26), UInt8.ofNat (97 + n / 26 % 26)]⟩
def atomEx (s : ByteArray) : Ex := .mk 3 0 s []
def preEx (x : Ex) : Ex := .mk 19 0 noB [x]
def addEx (x y : Ex) : Ex := .mk 6 0 noB [x, y]
def numEx (n : Int) : Ex := .mk 1 n noB []
def nowEx (x : Ex) (l : List Nat) : Ex := l.foldl (fun x k => addEx x (atomEx (wordD k))) x
def agoEx (x : Ex) (l : List Nat) : Ex := l.foldl (fun x k => addEx x (preEx (atomEx (wordD k)))) x
def bodyD (now ago : List Nat) : Ex := agoEx (nowEx (numEx 0) now) ago
def ofFl (now ago : List (List Nat)) (i : Nat) : FlD := ⟨wordD i, 1, 1, 0, bodyD (now.getD i []) (ago.getD i [])⟩
def ofD (now ago : List (List Nat)) : PgD := ⟨1, [], (List.range now.length).map (ofFl now ago), []⟩

theorem wordD_size (n : Nat) : (wordD n).size = 3 := rfl
theorem u8_inj {a b : Nat} (ha : a < 256) (hb : b < 256) (h : UInt8.ofNat a = UInt8.ofNat b) : a = b := by
  have := congrArg UInt8.toNat h
  simp only [UInt8.toNat_ofNat'] at this
  omega
theorem wordD_inj {m n : Nat} (hm : m < 676) (hn : n < 676) (h : wordD m = wordD n) : m = n := by
  have h1 : (wordD m).data.toList = (wordD n).data.toList := by rw [h]
  simp only [wordD, List.cons.injEq, and_true, true_and] at h1
  have h2 := u8_inj (by omega) (by omega) h1.1
  have h3 := u8_inj (by omega) (by omega) h1.2
  omega
theorem wordD_name (n : Nat) : nameB (wordD n) = true := by
  have hw : wordLen (wordD n) = 3 := by
    have hl : ∀ k (m : Nat), m < 26 → wordB k ((UInt8.ofNat (97 + m)).toNat : Int) = true := fun k m hm => by
      have : (UInt8.ofNat (97 + m)).toNat = 97 + m := by simp only [UInt8.toNat_ofNat']; omega
      rw [this]
      simp only [wordB, letterB, Bool.or_eq_true, Bool.and_eq_true, decide_eq_true_eq]
      omega
    show wordGo 0 [102, UInt8.ofNat (97 + n % 26), UInt8.ofNat (97 + n / 26 % 26)] = 3
    rw [wordGo, if_pos (by decide), wordGo, if_pos (hl _ _ (Nat.mod_lt _ (by decide))), wordGo, if_pos (hl _ _ (Nat.mod_lt _ (by decide))), wordGo]
  have hno : memB (wordD n) theWords = false := by
    rw [← Bool.not_eq_true, memB_iff]
    intro h
    have h3 : ∀ s ∈ theWords, s.size = 3 → s.data.toList.head? ≠ some 102 := by decide
    exact h3 _ h (wordD_size n) rfl
  rw [nameB, hw, hno, wordD_size]; rfl

theorem fine_atom {s : ByteArray} (h : nameB s = true) : (atomEx s).fine = true := by
  rw [atomEx, Ex.fine]
  simp [Ex.fineL, h, partsZ]
theorem fine_num {n : Int} (h : 0 ≤ n) : (numEx n).fine = true := by
  rw [numEx, Ex.fine]
  simp [Ex.fineL, h, partsZ, noB]; rfl
theorem fine_pre {x : Ex} (h : x.fine = true) : (preEx x).fine = true := by
  rw [preEx, Ex.fine, Ex.fineL, Ex.fineL, h, if_neg (by decide), if_neg (by decide), if_neg (by decide)]
  rfl
theorem fine_add {x y : Ex} (h : x.fine = true) (k : y.fine = true) : (addEx x y).fine = true := by
  rw [addEx, Ex.fine, Ex.fineL, Ex.fineL, Ex.fineL, h, k, if_neg (by decide), if_neg (by decide), if_neg (by decide)]
  rfl
theorem depth_atom (s : ByteArray) : (atomEx s).depth = 1 := by rw [atomEx, Ex.depth, Ex.depthL]
theorem depth_num (n : Int) : (numEx n).depth = 1 := by rw [numEx, Ex.depth, Ex.depthL]
theorem depth_pre (x : Ex) : (preEx x).depth = x.depth + 1 := by rw [preEx, Ex.depth, Ex.depthL, Ex.depthL]; try omega
theorem depth_add (x y : Ex) : (addEx x y).depth = max x.depth y.depth + 1 := by rw [addEx, Ex.depth, Ex.depthL, Ex.depthL, Ex.depthL]; try omega
theorem count_atom (s : ByteArray) : (atomEx s).count = 1 := by rw [atomEx, Ex.count, Ex.countL]
theorem count_num (n : Int) : (numEx n).count = 1 := by rw [numEx, Ex.count, Ex.countL]
theorem count_pre (x : Ex) : (preEx x).count = x.count + 1 := by rw [preEx, Ex.count, Ex.countL, Ex.countL]; try omega
theorem count_add (x y : Ex) : (addEx x y).count = x.count + y.count + 1 := by rw [addEx, Ex.count, Ex.countL, Ex.countL, Ex.countL]; try omega
theorem asks_atom (s : ByteArray) (ago : Int) : (atomEx s).asks ago = [⟨s, ago⟩] := by rw [atomEx, Ex.asks, Ex.asksL, if_pos rfl]; rfl
theorem asks_num (n : Int) (ago : Int) : (numEx n).asks ago = [] := by rw [numEx, Ex.asks, Ex.asksL, if_neg (by decide)]; rfl
theorem asks_pre (x : Ex) : (preEx x).asks 0 = x.asks 1 := by
  rw [preEx, Ex.asks, Ex.asksL, Ex.asksL, if_neg (by decide), if_pos rfl, List.append_nil, show wrap64 (0 + 1) = 1 by unfold wrap64; omega]; rfl
theorem asks_add (x y : Ex) (ago : Int) : (addEx x y).asks ago = x.asks ago ++ y.asks ago := by
  rw [addEx, Ex.asks, Ex.asksL, Ex.asksL, Ex.asksL, if_neg (by decide), if_neg (by decide), List.append_nil]; rfl

theorem nowEx_fine (l : List Nat) : ∀ x : Ex, x.fine = true → (nowEx x l).fine = true := by
  induction l with
  | nil => exact fun x h => h
  | cons k l ih => exact fun x h => ih _ (fine_add h (fine_atom (wordD_name k)))
theorem agoEx_fine (l : List Nat) : ∀ x : Ex, x.fine = true → (agoEx x l).fine = true := by
  induction l with
  | nil => exact fun x h => h
  | cons k l ih => exact fun x h => ih _ (fine_add h (fine_pre (fine_atom (wordD_name k))))
theorem nowEx_depth (l : List Nat) : ∀ x : Ex, (nowEx x l).depth ≤ max x.depth 2 + l.length := by
  induction l with
  | nil => intro x; show x.depth ≤ _; simp only [List.length_nil]; omega
  | cons k l ih =>
    intro x
    have := ih (addEx x (atomEx (wordD k)))
    rw [depth_add, depth_atom] at this
    refine Nat.le_trans this ?_
    rw [List.length_cons]; omega
theorem agoEx_depth (l : List Nat) : ∀ x : Ex, (agoEx x l).depth ≤ max x.depth 2 + l.length := by
  induction l with
  | nil => intro x; show x.depth ≤ _; simp only [List.length_nil]; omega
  | cons k l ih =>
    intro x
    have := ih (addEx x (preEx (atomEx (wordD k))))
    rw [depth_add, depth_pre, depth_atom] at this
    refine Nat.le_trans this ?_
    rw [List.length_cons]; omega
theorem nowEx_count (l : List Nat) : ∀ x : Ex, (nowEx x l).count = x.count + 2 * l.length := by
  induction l with
  | nil => intro x; rfl
  | cons k l ih =>
    intro x
    refine (ih (addEx x (atomEx (wordD k)))).trans ?_
    rw [count_add, count_atom, List.length_cons]; omega
theorem agoEx_count (l : List Nat) : ∀ x : Ex, (agoEx x l).count = x.count + 3 * l.length := by
  induction l with
  | nil => intro x; rfl
  | cons k l ih =>
    intro x
    refine (ih (addEx x (preEx (atomEx (wordD k))))).trans ?_
    rw [count_add, count_pre, count_atom, List.length_cons]; omega
theorem nowEx_asks (l : List Nat) : ∀ x : Ex, (nowEx x l).asks 0 = x.asks 0 ++ l.map fun k => ⟨wordD k, 0⟩ := by
  induction l with
  | nil => intro x; rw [List.map_nil, List.append_nil]; rfl
  | cons k l ih =>
    intro x
    refine (ih (addEx x (atomEx (wordD k)))).trans ?_
    rw [asks_add, asks_atom, List.map_cons, List.append_assoc]; rfl
theorem agoEx_asks (l : List Nat) : ∀ x : Ex, (agoEx x l).asks 0 = x.asks 0 ++ l.map fun k => ⟨wordD k, 1⟩ := by
  induction l with
  | nil => intro x; rw [List.map_nil, List.append_nil]; rfl
  | cons k l ih =>
    intro x
    refine (ih (addEx x (preEx (atomEx (wordD k))))).trans ?_
    rw [asks_add, asks_pre, asks_atom, List.map_cons, List.append_assoc]; rfl
theorem bodyD_check {now ago : List Nat} (h : now.length + ago.length ≤ 30) : (bodyD now ago).check = true := by
  refine check_fine (agoEx_fine ago _ (nowEx_fine now _ (fine_num (Int.le_refl 0)))) ?_ ?_
  · have h1 := agoEx_depth ago (nowEx (numEx 0) now)
    have h2 := nowEx_depth now (numEx 0)
    rw [depth_num] at h2
    show (agoEx (nowEx (numEx 0) now) ago).depth ≤ 32
    omega
  · show (agoEx (nowEx (numEx 0) now) ago).count ≤ 200
    rw [agoEx_count, nowEx_count, count_num]; omega
theorem bodyD_count (now ago : List Nat) : (bodyD now ago).count = 1 + 2 * now.length + 3 * ago.length := by
  show (agoEx (nowEx (numEx 0) now) ago).count = _
  rw [agoEx_count, nowEx_count, count_num]
theorem bodyD_refs {now ago : List Nat} {r : RefD} : r ∈ (bodyD now ago).refs ↔ (∃ k ∈ now, r = ⟨wordD k, 0⟩) ∨ ∃ k ∈ ago, r = ⟨wordD k, 1⟩ := by
  rw [mem_refs, show (bodyD now ago).asks 0 = _ from agoEx_asks ago _, nowEx_asks, asks_num, List.nil_append, List.mem_append, List.mem_map, List.mem_map]
  constructor
  · rintro (⟨k, h1, rfl⟩ | ⟨k, h1, rfl⟩)
    · exact .inl ⟨k, h1, rfl⟩
    · exact .inr ⟨k, h1, rfl⟩
  · rintro (⟨k, h1, rfl⟩ | ⟨k, h1, rfl⟩)
    · exact .inl ⟨k, h1, rfl⟩
    · exact .inr ⟨k, h1, rfl⟩

theorem ofD_len (now ago : List (List Nat)) : (ofD now ago).flows.length = now.length := by simp [ofD]
theorem ofD_flow (now ago : List (List Nat)) {i : Nat} (h : i < now.length) : (ofD now ago).flows[i]? = some (ofFl now ago i) := by
  simp [ofD, List.getElem?_map, h]
theorem ofD_name (now ago : List (List Nat)) {i : Nat} (h : i < now.length) : (ofD now ago).nameAt i = wordD i := by
  rw [PgD.nameAt, Int.toNat_natCast, ofD_flow now ago h]; rfl
theorem ofD_names (now ago : List (List Nat)) : thNames (ofD now ago).things = (List.range now.length).map wordD := by
  apply List.ext_getElem?
  intro i
  rw [thNames, PgD.things, show (ofD now ago).ins = [] from rfl, List.map_nil, List.nil_append, List.getElem?_map, List.getElem?_map]
  by_cases h : i < now.length
  · have h1 : i < (ofD now ago).flows.length := by rw [ofD_len]; exact h
    have h2 : (flThings (ofD now ago).flows)[i]? = some ((ofD now ago).flows[i].thing i) := by
      rw [← flThings_get _ i h1]; exact List.getElem?_eq_getElem _
    have h3 := ofD_flow now ago h
    rw [List.getElem?_eq_getElem h1] at h3
    rw [h2, List.getElem?_range h, Option.map_some, Option.map_some, Option.some.inj h3]; rfl
  · have h1 : (flThings (ofD now ago).flows).length ≤ i := by rw [flThings_len, ofD_len]; omega
    rw [List.getElem?_eq_none h1, List.getElem?_eq_none (by simp; omega)]; rfl
theorem ofD_nodup (now ago : List (List Nat)) (hl : now.length ≤ 676) : (thNames (ofD now ago).things).Nodup := by
  rw [ofD_names]
  refine List.pairwise_map.2 (List.Pairwise.imp_of_mem (fun {a b} ha hb hab e => ?_) (List.nodup_range (n := now.length)))
  have h1 := List.mem_range.1 ha
  have h2 := List.mem_range.1 hb
  exact hab (wordD_inj (by omega) (by omega) e)
theorem ofD_find {now ago : List (List Nat)} (hl : now.length ≤ 676) {k : Nat} (h : k < now.length) : findTh (ofD now ago).things (wordD k) = some ((ofFl now ago k).thing k) := by
  have h1 : k < (ofD now ago).flows.length := by rw [ofD_len]; exact h
  have h3 := ofD_flow now ago h
  rw [List.getElem?_eq_getElem h1] at h3
  have h2 := findTh_nodup (ofD_nodup now ago hl) (flow_thing h1)
  rw [Option.some.inj h3] at h2
  exact h2
theorem ofD_needs {now ago : List (List Nat)} (hl : now.length ≤ 676) (hnow : ∀ i, ∀ k ∈ now.getD i [], k < now.length) {i : Nat} {y : Int} : y ∈ (ofD now ago).needs i ↔ i < now.length ∧ ∃ k ∈ now.getD i [], y = (k : Int) := by
  rw [needs_mem]
  constructor
  · rintro ⟨x, h1, r, h2, h3⟩
    have hi : i < now.length := by
      have := (List.getElem?_eq_some_iff.1 h1).1
      rw [ofD_len] at this; exact this
    rw [ofD_flow now ago hi] at h1
    have h1 := Option.some.inj h1
    subst h1
    obtain ⟨t, h4, h5, h6, rfl⟩ := needOf_some.1 h3
    rcases bodyD_refs.1 h2 with ⟨k, hk, rfl⟩ | ⟨k, hk, rfl⟩
    · have hk2 := hnow i k hk
      rw [ofD_find hl hk2] at h4
      have h4 := Option.some.inj h4
      subst h4
      exact ⟨hi, k, hk, rfl⟩
    · exact absurd h6 (show ¬ ((1 : Int) = 0) by decide)
  · rintro ⟨hi, k, hk, rfl⟩
    refine ⟨_, ofD_flow now ago hi, ⟨wordD k, 0⟩, bodyD_refs.2 (.inl ⟨k, hk, rfl⟩), needOf_some.2 ⟨_, ofD_find hl (hnow i k hk), ?_, rfl, rfl⟩⟩
    exact Int.natCast_nonneg k
theorem ofD_clash {now ago : List (List Nat)} (hl : now.length ≤ 128) (hnow : ∀ i, ∀ k ∈ now.getD i [], k < now.length) (hago : ∀ i, ∀ k ∈ ago.getD i [], k < now.length) (hsz : ∀ i, (now.getD i []).length + (ago.getD i []).length ≤ 30) : (ofD now ago).clash = 0 := by
  have hc : (ofD now ago).check = true := by
    rw [PgD.check_iff]
    refine ⟨by show (1 : Int) ≤ 1; decide, by show (1 : Int) ≤ 8; decide, by show 0 ≤ 64; decide, by rw [ofD_len]; exact hl, by show 0 ≤ _; omega, rfl, ?_, rfl⟩
    rw [List.all_eq_true]
    intro x hx
    obtain ⟨i, _, rfl⟩ := List.mem_map.1 hx
    simp only [flOk, ofFl, mayB, wordD_name, bodyD_check (hsz i), show (ofD now ago).st = 1 from rfl]
    rfl
  have hask : ((ofD now ago).asked.all fun s => memB s (thNames (ofD now ago).things)) = true := by
    rw [List.all_eq_true]
    intro s hs
    rw [memB_iff, ofD_names]
    rw [PgD.asked, show (ofD now ago).outs = [] from rfl, List.append_nil, askOf, List.mem_flatMap] at hs
    obtain ⟨x, hx, hs⟩ := hs
    obtain ⟨i, _, rfl⟩ := List.mem_map.1 hx
    obtain ⟨r, hr, rfl⟩ := List.mem_map.1 hs
    rcases bodyD_refs.1 hr with ⟨k, hk, rfl⟩ | ⟨k, hk, rfl⟩
    · exact List.mem_map.2 ⟨k, List.mem_range.2 (hnow i k hk), rfl⟩
    · exact List.mem_map.2 ⟨k, List.mem_range.2 (hago i k hk), rfl⟩
  rw [PgD.clash, if_neg (by rw [hc]; decide), if_neg (fun h => h (ofD_nodup now ago (by omega))), if_neg (by rw [hask]; decide), if_neg (fun h => h List.nodup_nil)]
end Go.Proofs.Ytmepdfipigdjhaa
