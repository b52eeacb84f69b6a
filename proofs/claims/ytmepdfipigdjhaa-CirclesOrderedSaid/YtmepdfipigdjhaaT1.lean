/- What a name is: tokens.Name and all that it calls, and the library's Index and Contains at texts. -/
import Derived.Test.YtmepdfipigdjhaaRows
import Derived.Test.YtmepdfipigdjhaaL0

namespace Go.Proofs.Ytmepdfipigdjhaa
open Go.RowKit
set_option linter.unusedSimpArgs false
set_option linter.unusedVariables false
def letterB (c : Int) : Bool := (decide (97 ≤ c) && decide (c ≤ 122)) || (decide (65 ≤ c) && decide (c ≤ 90))
def digitB (c : Int) : Bool := decide (48 ≤ c) && decide (c ≤ 57)
def wordB (at_ : Int) (c : Int) : Bool := letterB c || (decide (0 < at_) && (digitB c || decide (c = 95)))
theorem letter_any (c : Int) (w : World) :
    Calls Try.prog 69 #[.int .i32 c] w fun e w' => e = .returned (.bool (letterB c)) ∧ w = w' := by
  go_enter Try.func69, Try.ntmps69
  go_wp2_with fail
  all_goals
    go_ret
    exact ⟨ret_bool (by rw [Bool.eq_iff_iff]; simp [letterB]; try omega), rfl⟩
theorem digit_any (c : Int) (w : World) :
    Calls Try.prog 70 #[.int .i32 c] w fun e w' => e = .returned (.bool (digitB c)) ∧ w = w' := by
  go_enter Try.func70, Try.ntmps70
  go_wp2_with fail
  all_goals
    go_ret
    exact ⟨ret_bool (by rw [Bool.eq_iff_iff]; simp [digitB]; try omega), rfl⟩
theorem ofWord1_any (a c : Int) (w : World) :
    Calls Try.prog 68 #[.int .i64 a, .int .i32 c] w fun e w' => e = .returned (.bool (wordB a c)) ∧ w = w' := by
  cases hl : letterB c <;> cases hd : digitB c
  all_goals
    go_enter Try.func68, Try.ntmps68
    go_wp2_with (first | (go_at_call 69; refine (letter_any _ _).mono ?_; rintro e w' ⟨rfl, rfl⟩) | (go_at_call 70; refine (digit_any _ _).mono ?_; rintro e w' ⟨rfl, rfl⟩))
    all_goals
      go_ret
      exact ⟨ret_bool (by rw [Bool.eq_iff_iff]; simp [wordB, *]; try omega), rfl⟩

/-- How many bytes of a text are a word's, from a place on. -/
def wordGo : Nat → List UInt8 → Nat
  | k, [] => k
  | k, c :: r => if wordB k c.toNat then wordGo (k + 1) r else k
def wordLen (s : ByteArray) : Nat := wordGo 0 s.data.toList

theorem wordB_high (a c : Int) (h : 128 ≤ c) : wordB a c = false := by
  simp [wordB, letterB, digitB]; omega
theorem drop_at (s : ByteArray) (k : Nat) (h : k < s.size) : s.data.toList.drop k = s[k] :: s.data.toList.drop (k + 1) := by
  rw [List.drop_eq_getElem_cons (by simpa using h)]; rfl
theorem wordGo_yes (s : ByteArray) (k : Nat) (h : k < s.size) (hw : wordB k (s[k]).toNat = true) : wordGo k (s.data.toList.drop k) = wordGo (k + 1) (s.data.toList.drop (k + 1)) := by
  rw [drop_at s k h, wordGo, if_pos hw]
theorem wordGo_no (s : ByteArray) (k : Nat) (h : k < s.size) (hw : wordB k (s[k]).toNat = false) : wordGo k (s.data.toList.drop k) = k := by
  rw [drop_at s k h, wordGo, if_neg (by simp [hw])]
theorem wordGo_end (s : ByteArray) (k : Nat) (h : ¬ k < s.size) : wordGo k (s.data.toList.drop k) = k := by
  rw [List.drop_of_length_le (by simpa using h), wordGo]
theorem wordGo_le (k : Nat) (l : List UInt8) : k ≤ wordGo k l ∧ wordGo k l ≤ k + l.length := by
  induction l generalizing k with
  | nil => simp [wordGo]
  | cons c r ih =>
    rw [wordGo]; split
    · have := ih (k + 1); simp only [List.length_cons]; omega
    · simp

set_option maxHeartbeats 400000 in
theorem run_any (s : ByteArray) (w : World) (hs : s.size ≤ maxLen) :
    Calls Try.prog 67 #[.string s, .func (.func 68) #[] #[]] w (Ret (.int .i64 (wordLen s)) w) := by
  unfold maxLen at hs
  go_enter Try.func67, Try.ntmps67
  go_wp2_with fail
  go_loopg [] s.size (fun k W => ∃ pos : Nat, pos ≤ s.size ∧ k = s.size - pos ∧ W = w.iter s pos ∧ wordGo pos (s.data.toList.drop pos) = wordLen s)
  case atStart => exact ⟨0, by omega, by omega, rfl, by rw [wordLen]; rfl⟩
  case round =>
    obtain ⟨pos, hp, rfl, rfl, hw⟩ := hrel
    have HW := hid hw; clear hw
    by_cases hlt : pos < s.size
    · by_cases ha : (s[pos]).toNat < 128
      · have hn := fun ty => run_next_ascii (P := Try.prog) w s pos ty hlt ha
        cases hb : wordB pos (s[pos]).toNat
        · have HB := hid (wordGo_no s pos hlt hb)
          go_wp2_with (go_at_call 68; refine (ofWord1_any _ _ _).mono ?_; rintro e w' ⟨rfl, rfl⟩)
          go_ret
          exact ⟨ret_i64 (by rw [← HW.out, HB.out]), (Below.refl _ _).alloc (Nat.le_refl _) _⟩
        · have HB := hid (wordGo_yes s pos hlt hb)
          go_wp2_with (go_at_call 68; refine (ofWord1_any _ _ _).mono ?_; rintro e w' ⟨rfl, rfl⟩)
          go_roundg (s.size - (pos + 1))
          case rel => exact ⟨pos + 1, by omega, rfl, rfl, by rw [← HB.out, HW.out]⟩
          case measure => omega
      · have hn := fun ty => run_next_any (P := Try.prog) w s pos ty hlt
        have hd := (decode_high s pos hlt (by omega)).1
        have HB := hid (wordGo_no s pos hlt (wordB_high _ _ (by omega)))
        have hb := wordB_high (pos : Int) ((Utf8.decode s pos).1 : Int) (by omega)
        clear ha
        go_wp2_with (go_at_call 68; refine (ofWord1_any _ _ _).mono ?_; rintro e w' ⟨rfl, rfl⟩)
        go_ret
        exact ⟨ret_i64 (by rw [← HW.out, HB.out]), (Below.refl _ _).alloc (Nat.le_refl _) _⟩
    · have hn := fun ty => run_next_end (P := Try.prog) w s pos ty hlt
      have HB := hid (wordGo_end s pos hlt)
      go_wp2_with fail
      go_ret
      exact ⟨ret_i64 (by rw [← HW.out, HB.out]; omega), (Below.refl _ _).alloc (Nat.le_refl _) _⟩

theorem ofWord_any (s : ByteArray) (w : World) (hs : s.size ≤ maxLen) :
    Calls Try.prog 58 #[.string s] w (Ret (.int .i64 (wordLen s)) w) := by
  go_enter Try.func58, Try.ntmps58
  go_wp2_with (go_at_call 67; refine (run_any s _ hs).mono ?_; rintro e w' ⟨rfl, hb⟩)
  go_ret
  exact ⟨rfl, hb⟩

theorem IsSl.strs {B : Nat} {w : World} {xs : List ByteArray} {v : Value} (h : IsSl B w 1 IsStr xs v) :
    ∃ a cap, v = .slice a xs.length cap ∧ xs.length ≤ maxLen ∧ (xs = [] ∨ ∃ b off, a = some ⟨b, off, none⟩ ∧ b < B ∧ ∀ i (h : i < xs.length), w.cell? ⟨b, off + i, none⟩ = some (.string xs[i]) ∧ xs[i].size ≤ maxLen) := by
  obtain ⟨a, cap, rfl, h1, h2, h3⟩ := h
  refine ⟨a, cap, rfl, by omega, h3.imp id ?_⟩
  rintro ⟨b, off, rfl, hb, h4⟩
  refine ⟨b, off, rfl, hb, fun i hi => ?_⟩
  obtain ⟨cs, ⟨rfl, h5⟩, _, h6⟩ := h4 i hi
  have := h6 0 (by simp)
  simp at this
  exact ⟨this, h5⟩

/-- A call that answers whether a place was found. -/
def Found (P : Prop) (w : World) (e : Ending) (w' : World) : Prop := ∃ k : Int, e = .returned (.int .i64 k) ∧ (0 ≤ k ↔ P) ∧ Below w.heap.size w w'

set_option maxHeartbeats 400000 in
theorem indexStr_any (xs : List ByteArray) (v : Value) (x : ByteArray) (w : World) (hv : IsSl w.heap.size w 1 IsStr xs v) :
    Calls Try.prog 71 #[v, .string x] w (Found (x ∈ xs) w) := by
  obtain ⟨a, cap, rfl, hl, hx⟩ := hv.strs
  unfold maxLen at hl
  go_enter Try.func71, Try.ntmps71
  go_wp2_with fail
  go_loopg [8] xs.length (fun k i W => ∃ j : Nat, j ≤ xs.length ∧ k = xs.length - j ∧ i = .int .i64 j ∧ (∀ m (_ : m < j) (h : m < xs.length), xs[m] ≠ x) ∧ W = w)
  case atStart => exact ⟨0, by omega, by omega, rfl, fun m h => by omega, rfl⟩
  case round =>
    obtain ⟨j, hj, rfl, rfl, hno, rfl⟩ := hrel
    have HN := hid hno; clear hno
    by_cases hlt : j < xs.length
    · obtain ⟨b, off, rfl, hb, hc⟩ := hx.resolve_left (by intro h; subst h; simp at hlt)
      have hcell := (hc j hlt).1
      clear hc
      go_wp2_with fail
      · have he := str_eq.1 (by assumption : (x.toList == xs[j].toList) = true)
        go_ret
        exact ⟨j, rfl, by simp [he], Below.refl _ _⟩
      · have he := str_ne.1 (by assumption : (x.toList == xs[j].toList) = false)
        go_roundg (xs.length - (j + 1))
        case rel =>
          refine ⟨j + 1, by omega, rfl, by go_num, fun m hm h => ?_, rfl⟩
          rcases Nat.lt_succ_iff_lt_or_eq.1 hm with h' | rfl
          · exact HN.out m h' h
          · exact fun e => he e.symm
        case measure => omega
    · go_wp2_with fail
      go_ret
      refine ⟨-1, rfl, ⟨fun h => by omega, fun h => ?_⟩, Below.refl _ _⟩
      obtain ⟨m, hm, rfl⟩ := List.getElem_of_mem h
      exact absurd rfl (HN.out m (by omega) hm)

/-- A call that answers yes just if P; all that was there is as it was. -/
def RetB (b : Bool) (w : World) (e : Ending) (w' : World) : Prop := e = .returned (.bool b) ∧ Below w.heap.size w w'

theorem containsStr_any (xs : List ByteArray) (v : Value) (x : ByteArray) (w : World) (hv : IsSl w.heap.size w 1 IsStr xs v) :
    Calls Try.prog 59 #[v, .string x] w (RetB (memB x xs) w) := by
  go_enter Try.func59, Try.ntmps59
  go_wp2_with (go_at_call 71; refine (indexStr_any xs v x _ hv).mono ?_; rintro e w' ⟨k, rfl, hk, hb⟩)
  go_ret
  exact ⟨ret_bool (by rw [Bool.eq_iff_iff]; simp [hk, memB_iff]), hb⟩

def theWords : List ByteArray := [⟨#[115, 116, 97, 116, 105, 111, 110, 115]⟩, ⟨#[105, 110]⟩, ⟨#[97, 116]⟩, ⟨#[102, 108, 111, 119]⟩, ⟨#[100, 101, 102, 97, 117, 108, 116]⟩, ⟨#[111, 117, 116]⟩, ⟨#[105, 102]⟩, ⟨#[116, 104, 101, 110]⟩, ⟨#[101, 108, 115, 101]⟩, ⟨#[112, 114, 101]⟩, ⟨#[97, 110, 100]⟩, ⟨#[111, 114]⟩, ⟨#[110, 111, 116]⟩, ⟨#[116, 114, 117, 101]⟩, ⟨#[102, 97, 108, 115, 101]⟩, ⟨#[105, 110, 116]⟩, ⟨#[98, 111, 111, 108]⟩]
theorem words_any (w : World) :
    Calls Try.prog 60 #[] w fun e w' => (∃ v, e = .returned v ∧ IsSl w'.heap.size w' 1 IsStr theWords v) ∧ Below w.heap.size w w' := by
  go_enter Try.func60, Try.ntmps60
  go_wp2_with fail
  go_ret
  refine ⟨⟨_, rfl, some ⟨w.heap.size, 0, none⟩, 17, rfl, by decide, by unfold maxLen; omega, .inr ⟨w.heap.size, 0, rfl, by simp, fun i hi => ?_⟩⟩, (Below.refl _ _).alloc (Nat.le_refl _) _⟩
  refine ⟨[.string theWords[i]], ⟨rfl, ?_⟩, rfl, fun j hj => ?_⟩
  · have : ∀ s ∈ theWords, s.size ≤ 8 := by decide
    have := this _ (List.getElem_mem hi)
    unfold maxLen; omega
  · have hj0 : j = 0 := by simp at hj; omega
    subst hj0
    show (w.alloc (.cells (theWords.map Value.string).toArray 9)).cell? _ = _
    rw [show (0 + i * 1 + 0) = i by omega, cell_new _ _ _ i (by simpa using hi)]
    simp

def nameB (s : ByteArray) : Bool := decide (s.size ≠ 0) && decide (s.size ≤ 40) && decide (wordLen s = s.size) && !memB s theWords
theorem wordLen_le (s : ByteArray) : wordLen s ≤ s.size := by
  have := (wordGo_le 0 s.data.toList).2
  simpa [wordLen] using this
theorem name_any (s : ByteArray) (w : World) (hs : s.size ≤ maxLen) :
    Calls Try.prog 43 #[.string s] w (RetB (nameB s) w) := by
  have hs' := hs
  unfold maxLen at hs'
  cases h0 : s.toList.isEmpty
  · by_cases h1 : s.size ≤ 40
    · by_cases h2 : wordLen s = s.size
      · have h2' : ((wordLen s : Int) == (s.size : Int)) = true := by rw [beq_iff_eq]; omega
        have H2 := hid h2; clear h2
        go_enter Try.func43, Try.ntmps43
        go_wp2_with (go_at_call 58; refine (ofWord_any s _ hs).mono ?_; rintro e w' ⟨rfl, hb⟩)
        refine (words_any _).mono ?_
        rintro e w2 ⟨⟨v, rfl, hv⟩, hb2⟩
        go_wp2_with (go_at_call 59; refine (containsStr_any theWords v s _ hv).mono ?_; rintro e w' ⟨rfl, hb3⟩)
        go_ret
        exact ⟨ret_bool (by simp [nameB, H2.out, h1, str_full.1 h0]), bthen (bthen hb hb2) hb3⟩
      · have h2' : ((wordLen s : Int) == (s.size : Int)) = false := by rw [beq_eq_false_iff_ne]; omega
        have H2 := hid h2; clear h2
        go_enter Try.func43, Try.ntmps43
        go_wp2_with (go_at_call 58; refine (ofWord_any s _ hs).mono ?_; rintro e w' ⟨rfl, hb⟩)
        go_ret
        exact ⟨ret_bool (by simp [nameB, H2.out]), hb⟩
    · go_enter Try.func43, Try.ntmps43
      go_wp2_with fail
      go_ret
      exact ⟨ret_bool (by simp [nameB]; omega), Below.refl _ _⟩
  · go_enter Try.func43, Try.ntmps43
    go_wp2_with fail
    go_ret
    exact ⟨ret_bool (by simp [nameB, str_empty.1 h0]), Below.refl _ _⟩
end Go.Proofs.Ytmepdfipigdjhaa
