/- What may be worked out: exprs.Check and all that it calls. -/
import Derived.Test.YtmepdfipigdjhaaT1
namespace Go.Proofs.Ytmepdfipigdjhaa
open Go.RowKit
set_option linter.unusedSimpArgs false
set_option linter.unusedVariables false
structure FormD where
  op : Int
  rank : Int
  kind : Int
  text : ByteArray
def FormD.cells (f : FormD) : List Value := [.int .u8 f.op, .int .i64 f.rank, .int .u8 f.kind, .string f.text]
def IsForm (f : FormD) (cs : List Value) : Prop := cs = f.cells
def thePairs : List FormD := [⟨18, 0, 3, ⟨#[45, 62]⟩⟩, ⟨16, 1, 1, ⟨#[111, 114]⟩⟩, ⟨15, 2, 1, ⟨#[97, 110, 100]⟩⟩, ⟨11, 3, 3, ⟨#[61, 61]⟩⟩, ⟨12, 3, 3, ⟨#[33, 61]⟩⟩, ⟨13, 3, 3, ⟨#[60]⟩⟩, ⟨14, 3, 3, ⟨#[60, 61]⟩⟩,
  ⟨6, 4, 3, ⟨#[43]⟩⟩, ⟨7, 4, 3, ⟨#[45]⟩⟩, ⟨8, 5, 3, ⟨#[42]⟩⟩, ⟨9, 5, 3, ⟨#[47]⟩⟩, ⟨10, 5, 3, ⟨#[37]⟩⟩]
def thePrefixes : List FormD := [⟨4, 6, 3, ⟨#[45]⟩⟩, ⟨5, 6, 1, ⟨#[110, 111, 116]⟩⟩, ⟨19, 6, 1, ⟨#[112, 114, 101]⟩⟩]
def RetSl {α : Type} (k : Nat) (R : α → List Value → Prop) (xs : List α) (w : World) (e : Ending) (w' : World) : Prop := (∃ v, e = .returned v ∧ IsSl w'.heap.size w' k R xs v) ∧ Below w.heap.size w w'
set_option maxHeartbeats 2000000 in
theorem pairs_any (w : World) : Calls Try.prog 86 #[] w (RetSl 4 IsForm thePairs w) := by
  go_enter Try.func86, Try.ntmps86
  go_wp2_with fail
  go_ret
  refine ⟨⟨_, rfl, ?_⟩, (Below.refl _ _).alloc (Nat.le_refl _) _⟩
  rw [World.size_alloc]
  exact IsSl.ofBlock w thePairs FormD.cells 4 135 IsForm (fun _ _ => rfl) (fun _ _ => rfl) (by unfold maxLen; decide)
theorem prefixes_any (w : World) : Calls Try.prog 87 #[] w (RetSl 4 IsForm thePrefixes w) := by
  go_enter Try.func87, Try.ntmps87
  go_wp2_with fail
  go_ret
  refine ⟨⟨_, rfl, ?_⟩, (Below.refl _ _).alloc (Nat.le_refl _) _⟩
  rw [World.size_alloc]
  exact IsSl.ofBlock w thePrefixes FormD.cells 4 135 IsForm (fun _ _ => rfl) (fun _ _ => rfl) (by unfold maxLen; decide)

/-- The first form of an operator, or one of rank 7 alone. -/
def findD (l : List FormD) (o : Int) : FormD := match l.find? fun f => decide (f.op = o) with | some f => f | none => ⟨0, 7, 0, ⟨#[]⟩⟩
def hasD (l : List FormD) (o : Int) : Bool := l.any fun f => decide (f.op = o)
def RetFind (l : List FormD) (o : Int) (w : World) (e : Ending) (w' : World) : Prop :=
  e = .returned (.tuple #[.agg #[.int .u8 (findD l o).op, .int .i64 (findD l o).rank, .int .u8 (findD l o).kind, .string (findD l o).text], .bool (hasD l o)]) ∧ Below w.heap.size w w'

theorem IsSl.forms {B : Nat} {w : World} {xs : List FormD} {v : Value} (h : IsSl B w 4 IsForm xs v) :
    ∃ a cap, v = .slice a xs.length cap ∧ xs.length ≤ maxLen ∧ (xs = [] ∨ ∃ b off, a = some ⟨b, off, none⟩ ∧ b < B ∧ ∀ i (h : i < xs.length),
      w.cell? ⟨b, off + i * 4, none⟩ = some (.int .u8 xs[i].op) ∧ w.cell? ⟨b, off + i * 4 + 1, none⟩ = some (.int .i64 xs[i].rank) ∧ w.cell? ⟨b, off + i * 4 + 2, none⟩ = some (.int .u8 xs[i].kind) ∧ w.cell? ⟨b, off + i * 4 + 3, none⟩ = some (.string xs[i].text)) := by
  obtain ⟨a, cap, rfl, h1, h2, h3⟩ := h
  refine ⟨a, cap, rfl, by omega, h3.imp id ?_⟩
  rintro ⟨b, off, rfl, hb, h4⟩
  refine ⟨b, off, rfl, hb, fun i hi => ?_⟩
  obtain ⟨cs, rfl, _, h6⟩ := h4 i hi
  exact ⟨h6 0 (by simp [FormD.cells]), h6 1 (by simp [FormD.cells]), h6 2 (by simp [FormD.cells]), h6 3 (by simp [FormD.cells])⟩

theorem findD_at (l : List FormD) (o : Int) (j : Nat) (hj : j < l.length) (h : l[j].op = o) (hno : ∀ m (_ : m < j) (h : m < l.length), l[m].op ≠ o) : findD l o = l[j] ∧ hasD l o = true := by
  constructor
  · have : l.find? (fun f => decide (f.op = o)) = some l[j] := by
      rw [List.find?_eq_some_iff_getElem]
      exact ⟨by simp [h], j, hj, rfl, fun m hm => by simpa using hno m hm (by omega)⟩
    rw [findD, this]
  · rw [hasD, List.any_eq_true]
    exact ⟨l[j], List.getElem_mem hj, by simp [h]⟩
theorem findD_none (l : List FormD) (o : Int) (hno : ∀ m (h : m < l.length), l[m].op ≠ o) : findD l o = ⟨0, 7, 0, ⟨#[]⟩⟩ ∧ hasD l o = false := by
  have h : ∀ f, f ∈ l → f.op ≠ o := fun f hf => by
    obtain ⟨m, hm, rfl⟩ := List.getElem_of_mem hf
    exact hno m hm
  constructor
  · have : l.find? (fun f => decide (f.op = o)) = none := by
      rw [List.find?_eq_none]
      intro f hf; simpa using h f hf
    rw [findD, this]
  · rw [hasD, List.any_eq_false]
    intro f hf; simpa using h f hf
set_option maxHeartbeats 400000 in
theorem find_any (l : List FormD) (v : Value) (o : Int) (w : World) (hv : IsSl w.heap.size w 4 IsForm l v) :
    Calls Try.prog 85 #[v, .int .u8 o] w (RetFind l o w) := by
  obtain ⟨a, cap, rfl, hl, hx⟩ := hv.forms
  unfold maxLen at hl
  go_enter Try.func85, Try.ntmps85
  go_wp2_with fail
  go_loopg [10] l.length (fun k i W => ∃ j : Nat, j ≤ l.length ∧ k = l.length - j ∧ i = .int .i64 j ∧ (∀ m (_ : m < j) (h : m < l.length), l[m].op ≠ o) ∧ Below (w.heap.size + 1) (w.alloc (.cells #[.int .u8 0, .int .i64 0, .int .u8 0, .string ⟨#[]⟩] 135)) W)
  case atStart => exact ⟨0, by omega, by omega, rfl, fun m h => by omega, Below.refl _ _⟩
  case round =>
    obtain ⟨j, hj, rfl, rfl, hno, hb⟩ := hrel
    have HN := hid hno; clear hno
    have hsz := hb.size
    rw [World.size_alloc] at hsz
    have hsz : w.heap.size < wr.heap.size := hsz
    obtain ⟨hc, hf⟩ := bcell hb
    have HB := hid hb; clear hb
    have z0 : wr.cell? ⟨w.heap.size, 0, none⟩ = some (.int .u8 0) := by rw [hc _ _ (by omega)]; simp
    have z1 : wr.cell? ⟨w.heap.size, 1, none⟩ = some (.int .i64 0) := by rw [hc _ _ (by omega)]; simp
    have z2 : wr.cell? ⟨w.heap.size, 2, none⟩ = some (.int .u8 0) := by rw [hc _ _ (by omega)]; simp
    have z3 : wr.cell? ⟨w.heap.size, 3, none⟩ = some (.string ⟨#[]⟩) := by rw [hc _ _ (by omega)]; simp
    have zf : ∀ i, wr.frozen? ⟨w.heap.size, i, none⟩ = false := fun i => by rw [hf _ _ (by omega)]; simp
    have HW := hid (((Below.refl _ w).alloc (Nat.le_refl _) _).trans (HB.out.mono (Nat.le_succ _)))
    by_cases hlt : j < l.length
    · obtain ⟨b, off, rfl, hb, hcs⟩ := hx.resolve_left (by intro h; subst h; simp at hlt)
      obtain ⟨h0, h1, h2, h3⟩ := hcs j hlt
      have k0 : ∀ i, wr.cell? ⟨b, i, none⟩ = w.cell? ⟨b, i, none⟩ := fun i => (hc _ _ (by omega)).trans (old_cell _ _ hb)
      rw [← k0] at h0 h1 h2 h3
      clear hcs hc hf k0
      go_wp2_with fail
      · have he : l[j].op = o := by simpa using (by assumption : (l[j].op == o) = true)
        obtain ⟨e1, e2⟩ := findD_at l o j hlt he HN.out
        refine bodyPost_ret (v := .tuple #[.agg #[.int .u8 l[j].op, .int .i64 l[j].rank, .int .u8 l[j].kind, .string l[j].text], .bool true]) (by simp [results, Try.results85, go_sem, hsz, z0, z1, z2, z3]; done) rfl ⟨by rw [e1, e2], (by repeat (first | with_reducible exact HW.out | with_reducible refine below_drewN ?_ _ | with_reducible refine Below.drew ?_ | with_reducible refine Below.alloc ?_ (by have hszz := Below.size (HW.out); first | omega | (simp; done) | (simp at hszz ⊢; omega)) _ | with_reducible refine Below.setCell ?_ (by have hszz := Below.size (HW.out); first | omega | (simp; done) | (simp at hszz ⊢; omega)) _))⟩
      · have he : l[j].op ≠ o := by simpa using (by assumption : (l[j].op == o) = false)
        go_roundg (l.length - (j + 1))
        case rel =>
          refine ⟨j + 1, by omega, rfl, by go_num, fun m hm h => ?_, ?_⟩
          · rcases Nat.lt_succ_iff_lt_or_eq.1 hm with h' | rfl
            · exact HN.out m h' h
            · exact he
          · exact HB.out.alloc (by omega) _
        case measure => omega
    · clear hc hf
      go_wp2_with fail
      obtain ⟨e1, e2⟩ := findD_none l o (fun m h => HN.out m (by omega) h)
      refine bodyPost_ret (v := .tuple #[.agg #[.int .u8 0, .int .i64 7, .int .u8 0, .string ⟨#[]⟩], .bool false]) (by simp [results, Try.results85, go_sem, z0, z1, z2, z3]; done) rfl ⟨by rw [e1, e2], (by repeat (first | with_reducible exact HW.out | with_reducible refine below_drewN ?_ _ | with_reducible refine Below.drew ?_ | with_reducible refine Below.alloc ?_ (by have hszz := Below.size (HW.out); first | omega | (simp; done) | (simp at hszz ⊢; omega)) _ | with_reducible refine Below.setCell ?_ (by have hszz := Below.size (HW.out); first | omega | (simp; done) | (simp at hszz ⊢; omega)) _))⟩
/-- How many parts an operator has. -/
def partsZ (o : Int) : Int := if o = 1 ∨ o = 2 ∨ o = 3 then 0 else if o = 17 then 3 else if hasD thePairs o then 2 else if hasD thePrefixes o then 1 else -1

set_option maxHeartbeats 400000 in
theorem parts_any (o : Int) (w : World) : Calls Try.prog 66 #[.int .u8 o] w (Ret (.int .i64 (partsZ o)) w) := by
  by_cases h1 : o = 1 ∨ o = 2 ∨ o = 3
  · have e : partsZ o = 0 := by rw [partsZ, if_pos h1]
    rcases h1 with rfl | rfl | rfl
    all_goals
      go_enter Try.func66, Try.ntmps66
      go_wp2_with fail
      go_ret
      exact ⟨ret_i64 (by decide), Below.refl _ _⟩
  · have n1 : (o == 1) = false := by simpa using fun e => h1 (.inl e)
    have n2 : (o == 2) = false := by simpa using fun e => h1 (.inr (.inl e))
    have n3 : (o == 3) = false := by simpa using fun e => h1 (.inr (.inr e))
    by_cases h2 : o = 17
    · subst h2
      go_enter Try.func66, Try.ntmps66
      go_wp2_with fail
      go_ret
      exact ⟨ret_i64 (by decide), Below.refl _ _⟩
    · have n4 : (o == 17) = false := by simpa using h2
      cases h3 : hasD thePairs o
      · cases h4 : hasD thePrefixes o
        · have E := hid (show partsZ o = -1 by rw [partsZ, if_neg h1, if_neg h2, h3, h4]; rfl)
          have hB := Below.refl w.heap.size w
          go_enter Try.func66, Try.ntmps66
          go_wp2_with (first | (go_at_call 86; refine (pairs_any _).mono ?_; rintro e w2 ⟨⟨v, rfl, hv⟩, hb2⟩; replace hB := bthen (w := w) (by repeat (first | with_reducible exact hB | with_reducible refine below_drewN ?_ _ | with_reducible refine Below.drew ?_ | with_reducible refine Below.alloc ?_ (by have hszz := Below.size (hB); first | omega | (simp; done) | (simp at hszz ⊢; omega)) _ | with_reducible refine Below.setCell ?_ (by have hszz := Below.size (hB); first | omega | (simp; done) | (simp at hszz ⊢; omega)) _)) hb2; clear hb2) | (go_at_call 85; refine (find_any _ _ _ _ (by assumption)).mono ?_; rintro e w2 ⟨rfl, hb2⟩; replace hB := bthen (w := w) (by repeat (first | with_reducible exact hB | with_reducible refine below_drewN ?_ _ | with_reducible refine Below.drew ?_ | with_reducible refine Below.alloc ?_ (by have hszz := Below.size (hB); first | omega | (simp; done) | (simp at hszz ⊢; omega)) _ | with_reducible refine Below.setCell ?_ (by have hszz := Below.size (hB); first | omega | (simp; done) | (simp at hszz ⊢; omega)) _)) hb2; clear hb2) | (go_at_call 87; refine (prefixes_any _).mono ?_; rintro e w2 ⟨⟨v, rfl, hv⟩, hb2⟩; replace hB := bthen (w := w) (by repeat (first | with_reducible exact hB | with_reducible refine below_drewN ?_ _ | with_reducible refine Below.drew ?_ | with_reducible refine Below.alloc ?_ (by have hszz := Below.size (hB); first | omega | (simp; done) | (simp at hszz ⊢; omega)) _ | with_reducible refine Below.setCell ?_ (by have hszz := Below.size (hB); first | omega | (simp; done) | (simp at hszz ⊢; omega)) _)) hb2; clear hb2))
          go_ret
          exact ⟨ret_i64 E.out.symm, (by repeat (first | with_reducible exact hB | with_reducible refine below_drewN ?_ _ | with_reducible refine Below.drew ?_ | with_reducible refine Below.alloc ?_ (by have hszz := Below.size (hB); first | omega | (simp; done) | (simp at hszz ⊢; omega)) _ | with_reducible refine Below.setCell ?_ (by have hszz := Below.size (hB); first | omega | (simp; done) | (simp at hszz ⊢; omega)) _))⟩
        · have E := hid (show partsZ o = 1 by rw [partsZ, if_neg h1, if_neg h2, h3, h4]; rfl)
          have hB := Below.refl w.heap.size w
          go_enter Try.func66, Try.ntmps66
          go_wp2_with (first | (go_at_call 86; refine (pairs_any _).mono ?_; rintro e w2 ⟨⟨v, rfl, hv⟩, hb2⟩; replace hB := bthen (w := w) (by repeat (first | with_reducible exact hB | with_reducible refine below_drewN ?_ _ | with_reducible refine Below.drew ?_ | with_reducible refine Below.alloc ?_ (by have hszz := Below.size (hB); first | omega | (simp; done) | (simp at hszz ⊢; omega)) _ | with_reducible refine Below.setCell ?_ (by have hszz := Below.size (hB); first | omega | (simp; done) | (simp at hszz ⊢; omega)) _)) hb2; clear hb2) | (go_at_call 85; refine (find_any _ _ _ _ (by assumption)).mono ?_; rintro e w2 ⟨rfl, hb2⟩; replace hB := bthen (w := w) (by repeat (first | with_reducible exact hB | with_reducible refine below_drewN ?_ _ | with_reducible refine Below.drew ?_ | with_reducible refine Below.alloc ?_ (by have hszz := Below.size (hB); first | omega | (simp; done) | (simp at hszz ⊢; omega)) _ | with_reducible refine Below.setCell ?_ (by have hszz := Below.size (hB); first | omega | (simp; done) | (simp at hszz ⊢; omega)) _)) hb2; clear hb2) | (go_at_call 87; refine (prefixes_any _).mono ?_; rintro e w2 ⟨⟨v, rfl, hv⟩, hb2⟩; replace hB := bthen (w := w) (by repeat (first | with_reducible exact hB | with_reducible refine below_drewN ?_ _ | with_reducible refine Below.drew ?_ | with_reducible refine Below.alloc ?_ (by have hszz := Below.size (hB); first | omega | (simp; done) | (simp at hszz ⊢; omega)) _ | with_reducible refine Below.setCell ?_ (by have hszz := Below.size (hB); first | omega | (simp; done) | (simp at hszz ⊢; omega)) _)) hb2; clear hb2))
          go_ret
          exact ⟨ret_i64 E.out.symm, (by repeat (first | with_reducible exact hB | with_reducible refine below_drewN ?_ _ | with_reducible refine Below.drew ?_ | with_reducible refine Below.alloc ?_ (by have hszz := Below.size (hB); first | omega | (simp; done) | (simp at hszz ⊢; omega)) _ | with_reducible refine Below.setCell ?_ (by have hszz := Below.size (hB); first | omega | (simp; done) | (simp at hszz ⊢; omega)) _))⟩
      · have E := hid (show partsZ o = 2 by rw [partsZ, if_neg h1, if_neg h2, h3]; rfl)
        have hB := Below.refl w.heap.size w
        go_enter Try.func66, Try.ntmps66
        go_wp2_with (first | (go_at_call 86; refine (pairs_any _).mono ?_; rintro e w2 ⟨⟨v, rfl, hv⟩, hb2⟩; replace hB := bthen (w := w) (by repeat (first | with_reducible exact hB | with_reducible refine below_drewN ?_ _ | with_reducible refine Below.drew ?_ | with_reducible refine Below.alloc ?_ (by have hszz := Below.size (hB); first | omega | (simp; done) | (simp at hszz ⊢; omega)) _ | with_reducible refine Below.setCell ?_ (by have hszz := Below.size (hB); first | omega | (simp; done) | (simp at hszz ⊢; omega)) _)) hb2; clear hb2) | (go_at_call 85; refine (find_any _ _ _ _ (by assumption)).mono ?_; rintro e w2 ⟨rfl, hb2⟩; replace hB := bthen (w := w) (by repeat (first | with_reducible exact hB | with_reducible refine below_drewN ?_ _ | with_reducible refine Below.drew ?_ | with_reducible refine Below.alloc ?_ (by have hszz := Below.size (hB); first | omega | (simp; done) | (simp at hszz ⊢; omega)) _ | with_reducible refine Below.setCell ?_ (by have hszz := Below.size (hB); first | omega | (simp; done) | (simp at hszz ⊢; omega)) _)) hb2; clear hb2))
        go_ret
        exact ⟨ret_i64 E.out.symm, (by repeat (first | with_reducible exact hB | with_reducible refine below_drewN ?_ _ | with_reducible refine Below.drew ?_ | with_reducible refine Below.alloc ?_ (by have hszz := Below.size (hB); first | omega | (simp; done) | (simp at hszz ⊢; omega)) _ | with_reducible refine Below.setCell ?_ (by have hszz := Below.size (hB); first | omega | (simp; done) | (simp at hszz ⊢; omega)) _))⟩
end Go.Proofs.Ytmepdfipigdjhaa
