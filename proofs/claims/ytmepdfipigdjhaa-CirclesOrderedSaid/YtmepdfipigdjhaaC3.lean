/- The circle that is told: circles.Find. -/
import Derived.Test.YtmepdfipigdjhaaC2
namespace Go.Proofs.Ytmepdfipigdjhaa
open Go.RowKit
set_option linter.unusedSimpArgs false
set_option linter.unusedVariables false
attribute [local go_sem] Oper.semAt_some

theorem AllAt.below {w w' : World} {bm n : Nat} {L : Nat → List Int} (h : AllAt w bm n L) (hb : Below w.heap.size w w') : AllAt w' bm n L := by
  obtain ⟨ks, h1, h2, h3⟩ := h
  exact ⟨ks, h1.below hb h1.lt, fun i => ((h2 i).keep (fun _ _ _ h => h) fun p u hp => (hb.cell (cell_lt hp)).trans hp).wide hb.size, h3⟩
theorem AllAt.kq {w w' : World} {bm n q n0 : Nat} {L : Nat → List Int} (h : AllAt w bm n L) (hk : Kq q n0 w w') (hb : bm < n0) (hq : bm ≠ q) : AllAt w' bm n L := by
  obtain ⟨ks, h1, h2, h3⟩ := h
  exact ⟨ks, hk.map h1 hb hq, fun i => ((h2 i).keep (fun _ _ _ h => h) fun p u hp => hk.cell hp).wide hk.size, h3⟩
theorem come_low (n : Nat) (hn : 1 ≤ n) (n0 q bm b1 b2 b3 many : Nat) (to : Int) (need : Nat → List Int) (hmany : many ≤ 1000000) (w : World) (hW : n0 ≤ w.heap.size) (hbm : bm < n0) (hbq : bm ≠ q)
    (ho1 : One w b1 (.int .i64 many) 3) (ho2 : One w b2 (.int .i64 to) 3) (ho3 : One w b3 (.map (some bm)) 64) (hall : AllAt w bm many need) :
    SeqLow Fence.wide n Try.prog 47 #[.pointer (some ⟨b1, 0, none⟩), .pointer (some ⟨b2, 0, none⟩), .pointer (some ⟨b3, 0, none⟩)] encCome (Kq q n0) (fun ys => ys = comeC need many to) (fun pre => pre <+: comeC need many to) (comeC need many to).length w := fun l J Jx W hWb hJ _ hY h0 =>
  come1_in n hn l n0 q bm b1 b2 b3 many to need hmany J Jx hY W hJ (Nat.le_trans hW hWb.size) hbm hbq (ho1.below hWb ho1.lt) (ho2.below hWb ho2.lt) (ho3.below hWb ho3.lt) (hall.below hWb) h0

/-- How far each flow is, as told by what came: the last word counts. -/
def farOf (l : List (Nat × Int)) (x : Int) : Int := match l.reverse.find? fun p => decide ((p.1 : Int) = x) with | some p => p.2 | none => 0
/-- A map from numbers to numbers. -/
def FarAt (w : World) (b : Nat) (f : Int → Int) : Prop := ∃ ks, MapAt (Value.int .i64) w b ks ∧ ∀ x, (getA x ks).getD (.int .i64 0) = .int .i64 (f x)
theorem FarAt.lt {w : World} {b : Nat} {f : Int → Int} (h : FarAt w b f) : b < w.heap.size := by obtain ⟨ks, h1, _⟩ := h; exact h1.lt
theorem FarAt.below {w w' : World} {b B : Nat} {f : Int → Int} (h : FarAt w b f) (hb : Below B w w') (hB : b < B) : FarAt w' b f := by
  obtain ⟨ks, h1, h2⟩ := h
  exact ⟨ks, h1.below hb hB, h2⟩
theorem FarAt.isMap {w : World} {b : Nat} {f : Int → Int} (h : FarAt w b f) : ∀ o, w.heap[b]? = some o → o.isCells = false := by obtain ⟨ks, h1, _⟩ := h; exact h1.isMap
theorem lookup_far {w : World} {b : Nat} {f : Int → Int} (h : FarAt w b f) (x : Int) :
    (Instr.lookup 66 (.map (some b)) (.int .i64 x) false).run Try.prog w = .ok (.int .i64 (f x)) w := by
  obtain ⟨ks, h1, h2⟩ := h
  have := lookup_run (intKey Try.underlying3) Try.underlying66 (fun w => Try.zeroValue3 w) h1 x false
  rw [if_neg (by decide), h2] at this
  exact this
theorem farOf_snoc (l : List (Nat × Int)) (p : Nat × Int) (x : Int) : farOf (l ++ [p]) x = if (p.1 : Int) = x then p.2 else farOf l x := by
  rw [farOf, List.reverse_append, List.reverse_singleton, List.singleton_append, List.find?_cons]
  by_cases h : (p.1 : Int) = x
  · simp [h]
  · simp [h, farOf]
theorem FarAt.put {w : World} {b : Nat} {ks : List (Int × Value)} {l : List (Nat × Int)} {p : Nat × Int} (h : MapAt (Value.int .i64) w b (putA (p.1 : Int) (.int .i64 p.2) ks)) (hk : ∀ x, (getA x ks).getD (.int .i64 0) = .int .i64 (farOf l x)) : FarAt w b (farOf (l ++ [p])) := by
  refine ⟨_, h, fun x => ?_⟩
  rw [getA_put, farOf_snoc]
  by_cases e : (p.1 : Int) = x
  · rw [if_pos e, if_pos e]; rfl
  · rw [if_neg e, if_neg e]; exact hk x

theorem find1_any (bf bk bmap : Nat) (f : Int → Int) (k x : Int) (w : World) (ho1 : One w bf (.map (some bmap)) 66) (ho2 : One w bk (.int .i64 k) 3) (hm : FarAt w bmap f) :
    Calls Try.prog 27 #[.int .i64 x, .pointer (some ⟨bf, 0, none⟩), .pointer (some ⟨bk, 0, none⟩)] w (RetB (decide (f x = k)) w) := by
  have hrun := lookup_far hm x
  have c1 := ho1.cell
  have c2 := ho2.cell
  go_enter Try.func27, Try.ntmps27
  go_wp2_with fail
  go_ret
  exact ⟨rfl, Below.refl _ _⟩
end Go.Proofs.Ytmepdfipigdjhaa
