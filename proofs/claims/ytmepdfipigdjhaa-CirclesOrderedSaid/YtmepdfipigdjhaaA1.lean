/- The laws' own small functions: word, SameTexts. -/
import Derived.Test.YtmepdfipigdjhaaC5
import Derived.Test.YtmepdfipigdjhaaK6
import Derived.IntWalk
import Derived.Deep.QuietTactic
import Derived.BigQuiet
namespace Go.Proofs.Ytmepdfipigdjhaa
open Go.RowKit
set_option linter.unusedSimpArgs false
set_option linter.unusedVariables false

def abc : ByteArray := ⟨#[97, 98, 99, 100, 101, 102, 103, 104, 105, 106, 107, 108, 109, 110, 111, 112, 113, 114, 115, 116, 117, 118, 119, 120, 121, 122]⟩
theorem abc_at (m : Nat) (h : m < 26) : abc.extract m (m + 1) = ⟨#[UInt8.ofNat (97 + m)]⟩ := by
  have : ∀ m, m < 26 → abc.extract m (m + 1) = ⟨#[UInt8.ofNat (97 + m)]⟩ := by decide
  exact this m h
theorem three (x y z : UInt8) : ((⟨#[x]⟩ : ByteArray) ++ ⟨#[y]⟩) ++ ⟨#[z]⟩ = ⟨#[x, y, z]⟩ := by
  apply ByteArray.ext; simp
theorem word_eq (n : Nat) : ((⟨#[102]⟩ : ByteArray) ++ abc.extract (n % 26) (n % 26 + 1)) ++ abc.extract (n / 26 % 26) (n / 26 % 26 + 1) = wordD n := by
  rw [abc_at _ (Nat.mod_lt _ (by decide)), abc_at _ (Nat.mod_lt _ (by decide)), three]; rfl
/-- What is returned; the world is as it was, but for orders drawn. -/
def RetQ (v : Value) (w : World) (e : Ending) (w' : World) : Prop := e = .returned v ∧ ∃ k, w' = w.drewN k
theorem ret_str {a b : ByteArray} (h : a = b) : Ending.returned (.string a) = .returned (.string b) := by rw [h]
set_option maxHeartbeats 1000000 in
theorem word_any (n : Nat) (w : World) (hn : n ≤ 1000000) :
    Calls Try.prog 16 #[.int .i64 n] w (RetQ (.string (wordD n)) w) := by
  go_enter Try.func16, Try.ntmps16
  go_wp2_with fail
  go_quiet (fail)
  go_wp2_with fail
  go_ret
  exact ⟨ret_str (word_eq n), _, rfl⟩

def sameB (a b : List ByteArray) : Bool := decide (a = b)
theorem str_eq' {a b : ByteArray} : (a.toList == b.toList) = true ↔ a = b := str_eq
set_option maxHeartbeats 1000000 in
theorem sameTexts_any (xs ys : List ByteArray) (u v : Value) (w : World) (hu : IsSl w.heap.size w 1 IsStr xs u) (hv : IsSl w.heap.size w 1 IsStr ys v) :
    Calls Try.prog 17 #[u, v] w (RetQ (.bool (sameB xs ys)) w) := by
  obtain ⟨a, cap, rfl, hl, hx⟩ := hu.strs
  obtain ⟨a2, cap2, rfl, hl2, hy⟩ := hv.strs
  unfold maxLen at hl hl2
  by_cases hlen : xs.length = ys.length
  · have h1 : ((xs.length : Int) != (ys.length : Int)) = false := by simp [hlen]
    have HL := hid hlen
    clear hlen
    go_enter Try.func17, Try.ntmps17
    go_wp2_with fail
    go_loopg [5] xs.length (fun k i W => ∃ j : Nat, j ≤ xs.length ∧ k = xs.length - j ∧ i = .int .i64 j ∧ (∀ m (_ : m < j), xs[m]? = ys[m]?) ∧ ∃ q, W = w.drewN q)
    case atStart => exact ⟨0, by omega, by omega, rfl, fun m h => by omega, 0, rfl⟩
    case round =>
      obtain ⟨j, hj, rfl, rfl, hno, q, rfl⟩ := hrel
      have HN := hid hno; clear hno
      by_cases hlt : j < xs.length
      · have hlt2 : j < ys.length := by have := HL.out; omega
        obtain ⟨b, off, rfl, hb, hc⟩ := hx.resolve_left (by intro h; subst h; simp at hlt)
        obtain ⟨b2, off2, rfl, hb2, hc2⟩ := hy.resolve_left (by intro h; subst h; simp at hlt2)
        have hcell := (hc j hlt).1
        have hcell2 := (hc2 j hlt2).1
        clear hc hc2 hx hy
        have hgx : xs[j]? = some xs[j] := List.getElem?_eq_getElem hlt
        have hgy : ys[j]? = some ys[j] := List.getElem?_eq_getElem hlt2
        have HX := hid hgx
        have HY := hid hgy
        clear hgx hgy
        generalize xs[j] = x at hcell HX
        generalize ys[j] = y at hcell2 HY
        by_cases hxy : x = y
        · subst hxy
          have he : (x.toList == x.toList) = true := by simp
          go_wp2_with fail
          go_quiet (fail)
          go_wp2_with fail
          go_roundg (xs.length - (j + 1))
          case rel =>
            refine ⟨j + 1, by omega, rfl, by go_num, fun m hm => ?_, _, rfl⟩
            rcases Nat.lt_succ_iff_lt_or_eq.1 hm with h' | rfl
            · exact HN.out m h'
            · rw [HX.out, HY.out]
          case measure => omega
        · have he : (x.toList == y.toList) = false := str_ne.2 hxy
          have HE := hid hxy
          clear hxy
          go_wp2_with fail
          go_quiet (fail)
          go_wp2_with fail
          go_ret
          refine ⟨ret_bool ?_, _, World.drewN_drewN ..⟩
          rw [sameB]
          symm
          rw [decide_eq_false_iff_not]
          intro h
          have h1 := HX.out
          rw [h, HY.out] at h1
          exact HE.out (Option.some.inj h1).symm
      · have hall : xs = ys := List.ext_getElem? fun m => by
          by_cases hm : m < j
          · exact HN.out m hm
          · rw [List.getElem?_eq_none (by omega), List.getElem?_eq_none (by have := HL.out; omega)]
        have HA := hid hall
        clear hall
        go_wp2_with fail
        go_ret
        exact ⟨ret_bool (by rw [sameB, decide_eq_true HA.out]), q, rfl⟩
  · have h1 : ((xs.length : Int) != (ys.length : Int)) = true := by rw [bne_iff_ne]; omega
    have HL := hid hlen
    clear hlen hx hy
    go_enter Try.func17, Try.ntmps17
    go_wp2_with fail
    go_ret
    exact ⟨ret_bool (by rw [sameB, decide_eq_false]; intro h; exact HL.out (by rw [h])), 0, rfl⟩
end Go.Proofs.Ytmepdfipigdjhaa
