/-
  Proved: whatever numbers come in, lavabolaw7.SchedTurns returns true and changes nothing that was there. No conditions beyond the given statement's.
-/
import Derived.Test.YtakkkibaaipmcaaRows
import Derived.Test.YtakkkibaaipmcaaSched1
import Derived.Test.YtakkkibaaipmcaaSched2
import Derived.Test.YtakkkibaaipmcaaSched3
import Derived.WalkKit
import Derived.ProofKit
import Derived.OpenShut
import Derived.Below
import Derived.ShutString
set_option maxRecDepth 100000
set_option linter.unusedSimpArgs false
namespace Lav
open Go (IntKind)
theorem schedTurns (t a b on : Int) : good (evCallT table 28 200 9 10 [.c (.int .i64 t), .c (.int .i64 a), .c (.int .i64 b), .c (.int .i64 on)] Heap.empty) = true := by
  obtain ⟨k, hk, ek⟩ := few (a := t) (m := 10) (by omega) (by omega)
  have ek' : IntKind.i64.wrap (Int.tmod (IntKind.u64.wrap t) 10) = (k : Int) := ek
  obtain ⟨x, hx, ex⟩ := few (a := a) (m := 1000) (by omega) (by omega)
  have ex' : IntKind.i64.wrap (Int.tmod (IntKind.u64.wrap a) 1000) = (x : Int) := ex
  obtain ⟨y, hy, ey⟩ := few (a := b) (m := 1000) (by omega) (by omega)
  have ey' : IntKind.i64.wrap (Int.tmod (IntKind.u64.wrap b) 1000) = (y : Int) := ey
  obtain ⟨w, hw, ew⟩ := few (a := on) (m := 1000) (by omega) (by omega)
  have ew' : IntKind.i64.wrap (Int.tmod (IntKind.u64.wrap on) 1000) = (w : Int) := ew
  obtain ⟨p, q, h0, e0, s0⟩ := new10
  rw [← one_idle hk] at s0
  have ln : ∀ z, (one 10 k z).length = 10 := fun z => one_len
  have kl : ∀ z, k < (one 10 k z).length := fun z => by rw [ln]; exact hk
  have wake : ∀ (h : Heap) (z : Tk), SB h p q (one 10 k z) → (z.st = 0 ∨ z.st = 3) → evCallT table 28 200 8 29 [.c (.ptr p 0), .c (.int .i64 (k : Int)), .c (.int .i64 (x : Int))] h = some (.c (.bool true), h.put q (.cells (tksC (one 10 k ⟨1, x, -1⟩)))) := fun h z s hz => by
    have := wake_ok (N := 200) (d := 5) s (kl z) x
    rw [one_at hk, if_pos hz, one_set] at this; exact this
  have wake' : ∀ (h : Heap) (z : Tk), SB h p q (one 10 k z) → ¬ (z.st = 0 ∨ z.st = 3) → evCallT table 28 200 8 29 [.c (.ptr p 0), .c (.int .i64 (k : Int)), .c (.int .i64 (x : Int))] h = some (.c (.bool false), h) := fun h z s hz => by
    have := wake_ok (N := 200) (d := 5) s (kl z) x
    rw [one_at hk, if_neg hz] at this; exact this
  have go : ∀ (h : Heap) (z : Tk) (v : Nat), SB h p q (one 10 k z) → z.st = 1 → evCallT table 28 200 8 31 [.c (.ptr p 0), .c (.int .i64 (k : Int)), .c (.int .i64 (v : Int))] h = some (.c (.bool true), h.put q (.cells (tksC (one 10 k { z with pc := v })))) := fun h z v s hz => by
    have := go_ok (N := 200) (d := 5) s (kl z) v
    rw [one_at hk, if_pos hz, one_set] at this; exact this
  have go' : ∀ (h : Heap) (z : Tk) (v : Nat), SB h p q (one 10 k z) → z.st ≠ 1 → evCallT table 28 200 8 31 [.c (.ptr p 0), .c (.int .i64 (k : Int)), .c (.int .i64 (v : Int))] h = some (.c (.bool false), h) := fun h z v s hz => by
    have := go_ok (N := 200) (d := 5) s (kl z) v
    rw [one_at hk, if_neg hz] at this; exact this
  have done : ∀ (h : Heap) (z : Tk), SB h p q (one 10 k z) → z.st = 1 → evCallT table 28 200 8 35 [.c (.ptr p 0), .c (.int .i64 (k : Int))] h = some (.c (.bool true), h.put q (.cells (tksC (one 10 k { z with st := 3 })))) := fun h z s hz => by
    have := done_ok (N := 200) (d := 5) s (kl z)
    rw [one_at hk, if_pos hz, one_set] at this; exact this
  have done' : ∀ (h : Heap) (z : Tk), SB h p q (one 10 k z) → z.st ≠ 1 → evCallT table 28 200 8 35 [.c (.ptr p 0), .c (.int .i64 (k : Int))] h = some (.c (.bool false), h) := fun h z s hz => by
    have := done_ok (N := 200) (d := 5) s (kl z)
    rw [one_at hk, if_neg hz] at this; exact this
  have e1 := wake h0 tk0 s0 (.inl rfl)
  have s1 : SB (h0.put q (.cells (tksC (one 10 k ⟨1, x, -1⟩)))) p q (one 10 k ⟨1, x, -1⟩) := s0.put (by rw [ln, ln])
  generalize h0.put q (.cells (tksC (one 10 k ⟨1, x, -1⟩))) = h1 at *
  have e2 := wake' h1 _ s1 (by simp)
  have e3 := go h1 _ y s1 rfl
  have s3 : SB (h1.put q (.cells (tksC (one 10 k ⟨1, y, -1⟩)))) p q (one 10 k ⟨1, y, -1⟩) := s1.put (by rw [ln, ln])
  have e3' : evCallT table 28 200 8 31 [.c (.ptr p 0), .c (.int .i64 (k : Int)), .c (.int .i64 (y : Int))] h1 = some (.c (.bool true), h1.put q (.cells (tksC (one 10 k ⟨1, y, -1⟩)))) := e3
  generalize h1.put q (.cells (tksC (one 10 k ⟨1, y, -1⟩))) = h3 at *
  have e4 : evCallT table 28 200 8 33 [.c (.ptr p 0), .c (.int .i64 (k : Int)), .c (.int .i64 (w : Int))] h3 = some (.c (.bool true), (h3.put q (.cells (tksC (one 10 k ⟨2, y, -1⟩)))).put q (.cells (tksC (one 10 k ⟨2, y, w⟩)))) := by
    have := block_ok (N := 200) (d := 5) s3 (kl _) w
    simp only [one_at hk, if_true, one_set] at this; exact this
  have s4' : SB (h3.put q (.cells (tksC (one 10 k ⟨2, y, -1⟩)))) p q (one 10 k ⟨2, y, -1⟩) := s3.put (by rw [ln, ln])
  have s4 : SB ((h3.put q (.cells (tksC (one 10 k ⟨2, y, -1⟩)))).put q (.cells (tksC (one 10 k ⟨2, y, w⟩)))) p q (one 10 k ⟨2, y, w⟩) := s4'.put (by rw [ln, ln])
  generalize (h3.put q (.cells (tksC (one 10 k ⟨2, y, -1⟩)))).put q (.cells (tksC (one 10 k ⟨2, y, w⟩))) = h4 at *
  have e5 := go' h4 _ x s4 (by simp)
  have e6 := done' h4 _ s4 (by simp)
  obtain ⟨h5, e7, x5⟩ := task_ok (N := 200) (d := 6) s4 (kl _)
  rw [one_at hk] at e7
  have s5 := s4.ext (x5.b []) (by simp) (by simp)
  obtain ⟨y1, h6, e8, m8, s6, x6⟩ := free_ok (N := 200) (d := 7) s5 (w + 1) (by rw [ln]; omega) (by rw [ln]; omega)
  rw [one_idx _ (by simp [waitsOn, tk0]) hk, if_neg (by simp [waitsOn]; omega)] at m8
  rw [one_freed, show freed ((w + 1 : Nat) : Int) ⟨2, y, w⟩ = ⟨2, y, w⟩ by simp [freed, waitsOn]; omega] at s6
  obtain ⟨y2, h7, e9, m9, s7, x7⟩ := free_ok (N := 200) (d := 7) s6 w (by rw [ln]; omega) (by rw [ln]; omega)
  rw [one_idx _ (by simp [waitsOn, tk0]) hk, if_pos (by simp [waitsOn])] at m9
  rw [one_freed, show freed (w : Int) ⟨2, y, w⟩ = ⟨1, y, -1⟩ by simp [freed, waitsOn]] at s7
  have l8 : ∀ (loc vals : List AV) (h : Heap), evPure loc (.c y1 :: vals) h (.len .sl (.val 0)) = some (.c (.int .i64 0)) := fun _ _ _ => m8.len rfl
  have l9 : ∀ (loc vals : List AV) (h : Heap), evPure loc (.c y2 :: vals) h (.len .sl (.val 0)) = some (.c (.int .i64 1)) := fun _ _ _ => m9.len rfl
  have e10 := done h7 _ s7 rfl
  have s8 : SB (h7.put q (.cells (tksC (one 10 k ⟨3, y, -1⟩)))) p q (one 10 k ⟨3, y, -1⟩) := s7.put (by rw [ln, ln])
  have e10' : evCallT table 28 200 8 35 [.c (.ptr p 0), .c (.int .i64 (k : Int))] h7 = some (.c (.bool true), h7.put q (.cells (tksC (one 10 k ⟨3, y, -1⟩)))) := e10
  generalize h7.put q (.cells (tksC (one 10 k ⟨3, y, -1⟩))) = h8 at *
  have e11 := go' h8 _ x s8 (by simp)
  have e12 := wake h8 _ s8 (.inr rfl)
  have s9 : SB (h8.put q (.cells (tksC (one 10 k ⟨1, x, -1⟩)))) p q (one 10 k ⟨1, x, -1⟩) := s8.put (by rw [ln, ln])
  generalize h8.put q (.cells (tksC (one 10 k ⟨1, x, -1⟩))) = h9 at *
  obtain ⟨h10, e13, x10⟩ := task_ok (N := 200) (d := 6) s9 (kl _)
  rw [one_at hk] at e13
  have s10 := s9.ext (x10.b []) (by simp) (by simp)
  have hready : readyM (one 10 k ⟨1, x, -1⟩) = [k] := by
    unfold readyM
    rw [ready_idx, one_idx _ (by simp [tk0]) hk, if_pos (by simp)]
  obtain ⟨h11, i, hi, e14, _, _⟩ := pick_some (N := 200) (d := 6) s10 t (by rw [hready]; simp) (by rw [ln]; omega) (by rw [ln]; omega)
  have hki : (readyM (one 10 k ⟨1, x, -1⟩))[i] = k := by
    have : i = 0 := by rw [hready] at hi; simp at hi; exact hi
    subst this
    simp [hready]
  rw [hki] at e14
  have e8' : evCallT table 28 200 8 37 [.c (.ptr p 0), .c (.int .i64 ((w + 1 : Nat) : Int))] h5 = some (.c y1, h6) := e8
  have e9' : evCallT table 28 200 8 37 [.c (.ptr p 0), .c (.int .i64 (w : Int))] h6 = some (.c y2, h7) := e9
  have e7' : evCallT table 28 200 8 45 [.c (.ptr p 0), .c (.int .i64 (k : Int))] h4 = some (.agg [.int .i64 2, .int .i64 (y : Int), .int .i64 (w : Int)], h5) := e7
  have e13' : evCallT table 28 200 8 45 [.c (.ptr p 0), .c (.int .i64 (k : Int))] h9 = some (.agg [.int .i64 1, .int .i64 (x : Int), .int .i64 (-1)], h10) := e13
  have e14' : evCallT table 28 200 8 39 [.c (.ptr p 0), .c (.int .i64 t)] h10 = some (.c (.int .i64 (k : Int)), h11) := e14
  have w1 := succI (i := w) (by omega)
  have eqq : ∀ a : Int, (a == a) = true := fun a => by simp
  have bneI : ∀ {a b : Int}, (a != b) = !(a == b) := rfl
  rw [evCallT_eq (F := ir10) rfl rfl rfl]
  unfold ir10
  rw [bodyK_eq]
  simp only [enter_eq, ev_seq, seqK_norm, seqK_exit, seqK_ret, ev_reg, ev_cond, condK_true, condK_false, ev_block, blockK_norm, blockK_ret, blockK_exit, ev_loop, ev_skip, ev_exit, ev_ret, regK_cons, regK_nil, guard_none, guard_some, regG_true, regG_false, regO_some, op_mov, op_conv, op_bin, op_bsl, op_box, op_mks, op_s2b, op_pick, op_un, op_eq, op_len, op_ext, op_load, op_iaddr, op_slice, op_b2s, op_idxS, op_mx, op_mn, op_call, op_store, op_app, op_copy, args_eq, result_one', rv_loc, finish_norm, finish_ret, outK_some, keep_true, keep_false, keep_nil, p_bin, p_pick, p_un, p_eq, p_conv, evNew, pureK_some, newK_some, X.eval, set_none, set_some, List.map_cons, List.map_nil, List.getD_cons_zero, List.getD_cons_succ, List.getD_nil, List.set_cons_zero, List.set_cons_succ, binCV, unCV, isShift, intArithF_eq, shiftF_eq, wrapF_eq, intArith, shift, eqVal, bound, asNat_cast, cond_true, cond_false, BEq.rfl, beq_self_eq_true, evalParts, fillParts, AV.cells, AV.ofCells, XV.av, AV.xv, List.length_cons, List.length_nil, zeros, patch, setMany, List.nil_append, List.cons_append, Nat.ble, Nat.add_eq, Nat.zero_add, Nat.add_zero, Nat.reduceAdd, Nat.reduceMul, Nat.reduceSub, Nat.ble_eq, Nat.reduceLeDiff, Nat.reduceBEq, Int.reduceBEq, Int.reduceNeg, Bool.and_true, Bool.and_false, Bool.true_and, Bool.false_and, Bool.not_true, Bool.not_false, Bool.true_eq_false, Bool.false_eq_true, Int.reduceLT, Int.reduceLE, Int.reduceGT, Int.reduceGE, decide_true, decide_false, Bool.not_eq_true, loopN_norm, loopN_exit, tf, ft, ff, bneI, op_build, p_build', eqCells, ek', ex', ey', ew', e0, e1, e2, e3', e4, e5, e6, e7', e8', e9', e10', e11, e12, e13', e14', l8, l9, w1, eqq, evCallT_told]
  rfl

end Lav

namespace Go.Proofs.Ytakkkibaaipmcaa.schedTurns
open Go.ChangeShapes Go.WideShapes Go.ChangeAt Go.RowKit
open Go.ChangeMaps (open_string shut_string)
set_option linter.unusedVariables false      -- a walk need not use every 'w<i>' (that an integer argument fits its kind)

theorem own : ownKnob Try.prog.godebug = none := by kernel_rfl

/-! ### STEP 1: THE WALK: the Go text returns true. 'Below w.heap.size w w'': the world has at most new blocks (Derived/RowKit3.lean). Part the cases AHEAD of 'go_enter' where a test parts the walk; take each callee by a contract of your own. -/
theorem walk (a0 : Int) (a1 : Int) (a2 : Int) (a3 : Int) (w0 : (Lit.int .i64 a0).wf = true) (w1 : (Lit.int .i64 a1).wf = true) (w2 : (Lit.int .i64 a2).wf = true) (w3 : (Lit.int .i64 a3).wf = true) (w : World) :
    Calls Try.prog 10 #[.int .i64 a0, .int .i64 a1, .int .i64 a2, .int .i64 a3] w fun e w' => e = .returned (.bool true) ∧ Below w.heap.size w w' := by
  exact Lav.walk_of (Lav.evCallT_sound Lav.mixed Lav.table_ok Lav.tld7 200 9) (Lav.Init.empty w) (args := [.c (.int .i64 a0), .c (.int .i64 a1), .c (.int .i64 a2), .c (.int .i64 a3)]) (vs := [.int .i64 a0, .int .i64 a1, .int .i64 a2, .int .i64 a3]) ⟨rfl, rfl, rfl, rfl, trivial⟩ (Lav.schedTurns a0 a1 a2 a3)

/-! ### THE ROW's STEP: WRITTEN OUT: LEAVE IT -/
set_option maxRecDepth 100000 in
theorem lifted (os : Os) (started : os.Started) (H : Type) (enc : TypeId × Value → H) :
    ReturnsInHanded {} Try.checked os 10 .any (Rows.schedTurnsSpec.pre6 enc Try.prog Try.f10 Rows.schedTurnsRow.domain false) (Rows.schedTurnsSpec.post enc Try.prog Try.f10 false true false false) := by
  refine returnsInHanded_of_change (C := Try.checked) own started (by kernel_rfl) Try.func10
    (ChangeSpec.witness6 (enc := enc) (C := Try.checked) false ⟨#[], #[.int .i64 0, .int .i64 0, .int .i64 0, .int .i64 0], []⟩ 8 (by kernel_rfl) (by kernel_rfl) (by kernel_rfl) (by kernel_rfl)) ?_
  intro W base args ds gs before hval0 hW hcnd _
  have hval : ∀ (j : Nat) t v, Try.f10.params[j]? = some t → args[j]? = some v → Value.okWide Try.prog W .any base t v := hval0
  have hW' := hW
  obtain ⟨p, q, hA0, hV, rfl, hfz, hnd⟩ := hW
  have hA : DataW.TrodAll enc Try.prog W 0 (fun _ => true) true Try.f10.params.toList args.toList ds p := hA0
  rw [Try.params10] at hA hval
  obtain ⟨v0, vs0, d0, ds0, p0, q0, hargs, rfl, rfl, h0, r0⟩ := trodAll_cons hA
  obtain ⟨v1, vs1, d1, ds1, p1, q1, rfl, rfl, rfl, h1, r1⟩ := trodAll_cons r0
  obtain ⟨v2, vs2, d2, ds2, p2, q2, rfl, rfl, rfl, h2, r2⟩ := trodAll_cons r1
  obtain ⟨v3, vs3, d3, ds3, p3, q3, rfl, rfl, rfl, h3, r3⟩ := trodAll_cons r2
  obtain ⟨rfl, rfl, rfl⟩ := trodAll_nil r3
  obtain rfl : args = #[v0, v1, v2, v3] := by cases args; simp_all
  obtain ⟨rfl, rfl⟩ := trodVars_none hV
  obtain ⟨a0, rfl, rfl, rfl, w0⟩ := open_int Try.underlying3 (hval 0 3 v0 rfl rfl) h0
  obtain ⟨a1, rfl, rfl, rfl, w1⟩ := open_int Try.underlying3 (hval 1 3 v1 rfl rfl) h1
  obtain ⟨a2, rfl, rfl, rfl, w2⟩ := open_int Try.underlying3 (hval 2 3 v2 rfl rfl) h2
  obtain ⟨a3, rfl, rfl, rfl, w3⟩ := open_int Try.underlying3 (hval 3 3 v3 rfl rfl) h3
  clear hA0 hval0
  refine (walk a0 a1 a2 a3 w0 w1 w2 w3 W).mono fun e W' ⟨he, hg⟩ => ?_
  subst he
  exact ⟨_, rfl, _, _, _, [], _, [], hW', trodAll_mk1 (shut_bool Try.underlying4 _), (trodAll_cons_mk (shut_int Try.underlying3 w0) (trodAll_cons_mk (shut_int Try.underlying3 w1) (trodAll_cons_mk (shut_int Try.underlying3 w2) (trodAll_cons_mk (shut_int Try.underlying3 w3) trodAll_mk0)))), rfl, hg.frame _, fun h => by cases h⟩

theorem over : Rows.schedTurnsRow.holds Try.pinned (OpenSpec.ofChange Rows.schedTurnsSpec) :=
  OpenClaim.holds_of_wide 10 Try.f10 rfl rfl rfl rfl rfl rfl rfl ⟨rfl, rfl, rfl, rfl, rfl⟩ rfl rfl rfl rfl rfl (by kernel_rfl) Try.func10 (by kernel_rfl)
    (of_decide_eq_true (by kernel_rfl)) (by unfold Func.isWrapper; first | (rw [if_pos (by decide +kernel)]; kernel_rfl) | (rw [if_neg (by decide +kernel)]; exact ⟨rfl, rfl⟩))
    (fun os started H enc _ => lifted os started H enc)

/-- ████ THE STATEMENT ████ -/
theorem proved : Rows.SchedTurnsSaid :=
  over
end Go.Proofs.Ytakkkibaaipmcaa.schedTurns
