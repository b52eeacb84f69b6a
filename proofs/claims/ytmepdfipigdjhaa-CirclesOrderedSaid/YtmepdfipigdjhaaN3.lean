/- Who is asked: the iterator over what a program's flows and outputs ask for. -/
import Derived.Test.YtmepdfipigdjhaaN1
namespace Go.Proofs.Ytmepdfipigdjhaa
open Go.RowKit
set_option linter.unusedSimpArgs false
set_option linter.unusedVariables false
attribute [local go_sem] Oper.semAt_some

/-- A store into a map, for the walk inside a fence. -/
theorem wpListIn_update_map {α : Type} [DecidableEq α] {enc : α → Value} {F : Fence} {n : Nat} {P : Program} {T E MT : TypeId} {w : World} {b : Nat} {ks : List (α × Value)} {ops : Array Oper} {rest : List Oper} {o : Oper} {a : Act} {Q : Exit → Act → World → Prop} {m x v : Operand} {vv : Value}
    (K : KeyOK P T enc) (hT : P.underlying MT = some (.map T E)) (hg : o.guard = none) (hop : o.op = .mapUpdate MT m x v) (hm : a.eval m = .map (some b)) (h : MapAt enc w b ks) (k : α) (hx : a.eval x = enc k) (hv : a.eval v = vv)
    (hK : ∀ w', MapAt enc w' b (putA k vv ks) → But b w w' → wpListIn F n P ops Q rest (a.put o.dst undef) w') : wpListIn F n P ops Q (o :: rest) a w := by
  obtain ⟨w', hrun, h1, h2⟩ := update_run K hT h k vv
  refine wpListIn_plain hg fun K hK' => ?_
  unfold Oper.wpIn
  refine ⟨?_, ?_⟩
  · simp [Oper.about, hop]
  · rw [Oper.semAt_plain F _ _ (by rw [hop]; intro c hc'; cases hc')]
    simp [execOp, hop, hm, hx, hv, hrun, Result.andThen]
    exact hK' _ _ (hK w' h1 h2)

/-- What flows ask for. -/
def askOf (l : List FlD) : List ByteArray := l.flatMap fun x => x.body.refs.map RefD.name
def PgD.asked (p : PgD) : List ByteArray := askOf p.flows ++ p.outs
theorem askOf_succ (l : List FlD) (j : Nat) (h : j < l.length) : askOf (l.take (j + 1)) = askOf (l.take j) ++ l[j].body.refs.map RefD.name := by
  rw [List.take_succ_eq_append_getElem h, askOf, List.flatMap_append]; simp [askOf]
theorem askOf_prefix (l : List FlD) (j : Nat) : askOf (l.take j) <+: askOf l := by
  conv => rhs; rw [← List.take_append_drop j l, askOf, List.flatMap_append]
  exact List.prefix_append _ _
theorem prefix_lt {α : Type} {a l : List α} {x : α} (h : a ++ [x] <+: l) : a.length < l.length := by
  have := h.length_le; simp at this; omega
def encStr (s : ByteArray) : Array Value := #[.string s]

set_option maxRecDepth 100000 in
set_option maxHeartbeats 2000000 in
theorem asked1_in (n : Nat) (hn : 1 ≤ n) (l n0 q bp d : Nat) (p : PgD) (hcount : ∀ x ∈ p.flows, x.body.count ≤ 4398046511104) (J Jx : List ByteArray → World → Prop)
    (hY : ∀ pre x W, J pre W → pre.length < p.asked.length → YieldAt Fence.wide (n - 1) Try.prog l (encStr x) W fun e W' =>
      (e = .returned (.bool true) ∧ J (pre ++ [x]) W' ∧ Kq q n0 W W') ∨ (e = .returned (.bool false) ∧ Jx (pre ++ [x]) W'))
    (W : World) (hJ : Low W.heap.size J) (hW : n0 ≤ W.heap.size) (hp : PgBox n0 bp d p W) (h0 : J [] W) :
    CallsIn Fence.wide n Try.prog 45 #[.func (.yield l) #[] #[], .pointer (some ⟨bp, 0, none⟩)] W fun e W' => (∃ v, e = .returned v) ∧
      ((∃ ys, ys = p.asked ∧ J ys W') ∨ (∃ pre, pre <+: p.asked ∧ Jx pre W')) := by
  have HP := hid hp
  have HJ := hid hJ
  have HY := hid hY
  have HC := hid hcount
  obtain ⟨hbp, i, f, o, c0, c1, c2, c3, hi, hf, ho⟩ := hp
  obtain ⟨fa, fc, rfl, fl, hfx⟩ := hf.at_
  unfold maxLen at fl
  have HF := hid hfx
  clear hi hf ho hfx hJ hY c0 c3 c1 hcount
  refine callsIn_of_wp Try.func45 rfl trivial ?_ rfl
  simp only [Try.ntmps45, List.size_toArray, List.length_cons, List.length_nil, Nat.reduceAdd, Nat.reduceSub, Array.replicate_succ, Array.replicate_zero, List.push_toArray, List.append_toArray, List.nil_append, List.cons_append]
  gi_wp2
  gi_loopg [12] p.flows.length (fun k i wr => ∃ j : Nat, j ≤ p.flows.length ∧ k = p.flows.length - j ∧ i = .int .i64 j ∧ J (askOf (p.flows.take j)) wr ∧ Kq q n0 W wr)
  case atStart => exact ⟨0, Nat.zero_le _, rfl, rfl, by simpa [askOf] using h0, Kq.refl _ _ _⟩
  case round =>
    obtain ⟨j, hj, rfl, rfl, hJs, hWr⟩ := hrel
    have HS := hid hJs
    clear hJs
    have hsz := hWr.size
    by_cases hlt : j < p.flows.length
    · obtain ⟨b, off, rfl, hb, hc⟩ := HF.out.resolve_left (by intro h; rw [h] at hlt; simp at hlt)
      obtain ⟨cs, h5, _, h6⟩ := hc j hlt
      obtain ⟨op, n5, s, a5, len5, cap5, rfl, hex⟩ := h5.cells
      have k0 := hWr.cell (h6 0 (by simp))
      have k1 := hWr.cell (h6 1 (by simp))
      have k2 := hWr.cell (h6 2 (by simp))
      have k3 := hWr.cell (h6 3 (by simp))
      have k4 := hWr.cell (h6 4 (by simp))
      have k5 := hWr.cell (h6 5 (by simp))
      have k6 := hWr.cell (h6 6 (by simp))
      have k7 := hWr.cell (h6 7 (by simp))
      simp only [Nat.add_zero, List.getElem_cons_zero, List.getElem_cons_succ] at k0 k1 k2 k3 k4 k5 k6 k7
      have hsn := hid (askOf_succ p.flows j hlt)
      have hbody := hid (HC.out _ (List.getElem_mem hlt))
      have hexr : IsEx n0 wr d p.flows[j].body [.int .u8 op, .int .i64 n5, .string s, .slice a5 len5 cap5] := hex.keep fun _ _ h => hWr.cell h
      have HE := hid hexr
      clear hc h6 h5 hex hexr
      generalize p.flows[j] = x at k0 k1 k2 k3 hsn hbody HE
      gi_wp2_with (refine ⟨trivial, ?_⟩; gi_at_call 28; refine (callsIn_wide.2 (refs_any d n0 x.body [.int .u8 op, .int .i64 n5, .string s, .slice a5 len5 cap5] _ ?_ ?_ hbody.out)).mono ?_; (exact HE.out.keep fun _ _ h => (Kq.of (q := q) (n0 := n0) (Below.alloc (Below.refl _ _) (Nat.le_refl _) _)).cell h); (simp; omega); rintro e w2 ⟨⟨v, rfl, hsl⟩, hb2⟩; obtain ⟨ra, rc, rfl, rl, hrx⟩ := hsl.at_; unfold maxLen at rl; have HR := hid hrx; have hk2 : Kq q n0 wr w2 := (Kq.of (Below.alloc (Below.refl _ _) (Nat.le_refl _) _)).trans (Kq.of hb2); have hJ2 := hid (HJ.out _ _ _ (HJ.out.alloc HS.out hsz _) (hb2.mono (by simp; omega))); clear hsl hrx hb2)
      have hn2 : n0 ≤ w2.heap.size := Nat.le_trans hW (hWr.trans hk2).size
      have hw2s : W.heap.size ≤ w2.heap.size := (hWr.trans hk2).size
      obtain ⟨wo, rfl⟩ : ∃ wo : World, wo = w2 := ⟨_, rfl⟩
      gi_loopg [20] x.body.refs.length (fun k i w3 => ∃ j2 : Nat, j2 ≤ x.body.refs.length ∧ k = x.body.refs.length - j2 ∧ i = .int .i64 j2 ∧ J (askOf (p.flows.take j) ++ (x.body.refs.map RefD.name).take j2) w3 ∧ Kq q n0 wo w3)
      case atStart => exact ⟨0, Nat.zero_le _, rfl, rfl, by simpa using hJ2.out, Kq.refl _ _ _⟩
      case round =>
        obtain ⟨j2, hj2, rfl, rfl, hJs, hW3⟩ := hrel
        have HS2 := hid hJs
        clear hJs
        have hsz2 := hW3.size
        by_cases hlt2 : j2 < x.body.refs.length
        · obtain ⟨rb, roff, rfl, hrb, hrc⟩ := HR.out.resolve_left (by intro h; rw [h] at hlt2; simp at hlt2)
          obtain ⟨cs, rfl, _, h6⟩ := hrc j2 hlt2
          have y0 := hW3.cell (h6 0 (by simp [refCells]))
          have y1 := hW3.cell (h6 1 (by simp [refCells]))
          simp only [Nat.add_zero, refCells, List.getElem_cons_zero, List.getElem_cons_succ] at y0 y1
          clear hrc h6
          have hsn2 := hid (show (x.body.refs.map RefD.name).take (j2 + 1) = (x.body.refs.map RefD.name).take j2 ++ [x.body.refs[j2].name] by
            rw [List.take_succ_eq_append_getElem (by simpa using hlt2)]; simp)
          generalize x.body.refs[j2] = r at y0 y1 hsn2
          have hpre : (askOf (p.flows.take j) ++ (x.body.refs.map RefD.name).take j2) ++ [r.name] <+: p.asked := by
            rw [List.append_assoc, ← hsn2.out]
            refine List.IsPrefix.trans ((List.prefix_append_right_inj _).2 (List.take_prefix _ _)) ?_
            rw [← hsn.out]
            exact (askOf_prefix _ _).trans (List.prefix_append _ _)
          have HPre := hid hpre
          clear hpre
          obtain ⟨fn, tmps, assign, body, hy, hR⟩ := HY.out (askOf (p.flows.take j) ++ (x.body.refs.map RefD.name).take j2) r.name
            (wr.alloc (.cells #[.string r.name, .int .i64 r.ago] 74)) (HJ.out.alloc HS2.out (Nat.le_trans hw2s hsz2) _) (prefix_lt HPre.out)
          dsimp only [encStr] at hy hR
          gi_wp2
          refine hR.mono ?_
          rintro e W3 (⟨rfl, hJ3, hk3⟩ | ⟨rfl, hJx3⟩)
          · have hJ3' := hid hJ3
            clear hJ3
            gi_wp2
            gi_roundg (x.body.refs.length - (j2 + 1))
            case rel => exact ⟨j2 + 1, by omega, rfl, by go_num, by rw [hsn2.out, ← List.append_assoc]; exact hJ3'.out, (hW3.trans (Kq.of (Below.alloc (Below.refl _ _) (Nat.le_refl _) _))).trans hk3⟩
            case measure => omega
          · have hJ3' := hid hJx3
            clear hJx3
            gi_wp2
            refine bodyPost_ret (results_none rfl _ _ _) rfl ?_
            exact ⟨⟨_, rfl⟩, .inr ⟨_, HPre.out, hJ3'.out⟩⟩
        · have hall : (x.body.refs.map RefD.name).take j2 = x.body.refs.map RefD.name := List.take_of_length_le (by simp; omega)
          rw [hall, ← hsn.out] at HS2
          clear hall
          gi_wp2
          gi_roundg (p.flows.length - (j + 1))
          case rel => exact ⟨j + 1, by omega, rfl, by go_num, HS2.out, (hWr.trans hk2).trans hW3⟩
          case measure => omega
    · have hall : askOf (p.flows.take j) = askOf p.flows := by rw [List.take_of_length_le (by omega)]
      rw [hall] at HS
      clear hall
      obtain ⟨_, i2, f2, o2, _, _, _, c3, _, _, ho2⟩ := HP.out.keep hWr
      obtain ⟨oa, oc, rfl, ol, hox⟩ := ho2.at_
      unfold maxLen at ol
      have HO := hid hox
      have hWrr := hid hWr
      clear ho2 hox
      obtain ⟨wo, rfl⟩ : ∃ wo : World, wo = wr := ⟨_, rfl⟩
      gi_wp2
      gi_loopg [34] p.outs.length (fun k i w2 => ∃ j : Nat, j ≤ p.outs.length ∧ k = p.outs.length - j ∧ i = .int .i64 j ∧ J (askOf p.flows ++ p.outs.take j) w2 ∧ Kq q n0 wo w2)
      case atStart => exact ⟨0, Nat.zero_le _, rfl, rfl, by simpa using HS.out, Kq.refl _ _ _⟩
      case round =>
        obtain ⟨j2, hj2, rfl, rfl, hJs, hW2⟩ := hrel
        have HS2 := hid hJs
        clear hJs
        have hsz2 := hW2.size
        by_cases hlt2 : j2 < p.outs.length
        · obtain ⟨b, off, rfl, hb, hc⟩ := HO.out.resolve_left (by intro h; rw [h] at hlt2; simp at hlt2)
          obtain ⟨cs, ⟨rfl, hs5⟩, _, h6⟩ := hc j2 hlt2
          have k0 := hW2.cell (h6 0 (by simp))
          simp only [Nat.add_zero, Nat.mul_one, List.getElem_cons_zero] at k0
          clear hc h6
          have hsn := hid (show p.outs.take (j2 + 1) = p.outs.take j2 ++ [p.outs[j2]] by rw [List.take_succ_eq_append_getElem hlt2])
          generalize p.outs[j2] = s at k0 hsn hs5
          have hpre : (askOf p.flows ++ p.outs.take j2) ++ [s] <+: p.asked := by
            rw [List.append_assoc, ← hsn.out]
            exact (List.prefix_append_right_inj _).2 (List.take_prefix _ _)
          have HPre := hid hpre
          clear hpre
          obtain ⟨fn, tmps, assign, body, hy, hR⟩ := HY.out (askOf p.flows ++ p.outs.take j2) s wr HS2.out (prefix_lt HPre.out)
          dsimp only [encStr] at hy hR
          gi_wp2
          refine hR.mono ?_
          rintro e W3 (⟨rfl, hJ3, hk3⟩ | ⟨rfl, hJx3⟩)
          · have hJ3' := hid hJ3
            clear hJ3
            gi_wp2
            gi_roundg (p.outs.length - (j2 + 1))
            case rel => exact ⟨j2 + 1, by omega, rfl, by go_num, by rw [hsn.out, ← List.append_assoc]; exact hJ3'.out, hW2.trans hk3⟩
            case measure => omega
          · have hJ3' := hid hJx3
            clear hJx3
            gi_wp2
            refine bodyPost_ret (results_none rfl _ _ _) rfl ?_
            exact ⟨⟨_, rfl⟩, .inr ⟨_, HPre.out, hJ3'.out⟩⟩
        · have hall : p.outs.take j2 = p.outs := List.take_of_length_le (by omega)
          rw [hall] at HS2
          clear hall
          gi_wp2
          go_end0
          exact ⟨⟨_, rfl⟩, .inl ⟨_, rfl, HS2.out⟩⟩
theorem asked_low (n : Nat) (hn : 1 ≤ n) (n0 q bp d : Nat) (p : PgD) (hcount : ∀ x ∈ p.flows, x.body.count ≤ 4398046511104) (w : World) (hW : n0 ≤ w.heap.size) (hp : PgBox n0 bp d p w) :
    SeqLow Fence.wide n Try.prog 45 #[.pointer (some ⟨bp, 0, none⟩)] encStr (Kq q n0) (fun ys => ys = p.asked) (fun pre => pre <+: p.asked) p.asked.length w := fun l J Jx W hWb hJ _ hY h0 =>
  asked1_in n hn l n0 q bp d p hcount J Jx hY W hJ (Nat.le_trans hW hWb.size) (hp.below (hWb.mono hW)) h0
theorem asked_any (p : PgD) (cs : List Value) (d B : Nat) (w : World) (hx : IsPg B w d p cs) (hB : B ≤ w.heap.size) :
    Calls Try.prog 23 #[.agg cs.toArray] w fun e w' => e = .returned (.func (.func 45) #[] #[.pointer (some ⟨w.heap.size, 0, none⟩)]) ∧ PgBox (w.heap.size + 1) w.heap.size d p w' ∧ w.alloc (.cells cs.toArray 26) = w' := by
  have HX := hid hx
  obtain ⟨i, f, o, rfl, hi, hf, ho⟩ := hx
  clear hi hf ho
  go_enter Try.func23, Try.ntmps23
  go_wp2_with fail
  go_ret
  refine ⟨rfl, ?_, rfl⟩
  obtain ⟨i2, f2, o2, he, hi, hf, ho⟩ := HX.out
  simp only [List.cons.injEq, and_true, true_and] at he
  obtain ⟨rfl, rfl, rfl⟩ := he
  have hc : ∀ b o', b < B → (w.alloc (.cells #[.int .i64 p.st, i, f, o] 26)).cell? ⟨b, o', none⟩ = w.cell? ⟨b, o', none⟩ := fun b o' h => old_cell _ _ (by omega)
  exact ⟨Nat.lt_succ_self _, i, f, o, by simp, by simp, by simp, by simp, hi.mono (fun _ _ _ h => h) (by omega) hc, hf.mono (fun _ _ _ h => h.mono (by omega) hc) (by omega) hc, ho.mono (fun _ _ _ h => h) (by omega) hc⟩
end Go.Proofs.Ytmepdfipigdjhaa
