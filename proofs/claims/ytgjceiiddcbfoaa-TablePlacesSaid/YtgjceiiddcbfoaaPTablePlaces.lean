/-
  Proved: whatever numbers come in, lavabolaw5.TablePlaces returns true and changes nothing that was there. No conditions beyond the given statement's.
-/
import Derived.Test.YtgjceiiddcbfoaaRows
import Derived.Test.YtgjceiiddcbfoaaTable1
import Derived.WalkKit
import Derived.ProofKit
import Derived.OpenShut
import Derived.Below
import Derived.ShutString
set_option maxRecDepth 100000
set_option linter.unusedSimpArgs false
namespace Lav
open Go (IntKind)
theorem tablePlaces (key size : Int) : good (evCallT table 25 200 9 6 [.c (.int .i64 key), .c (.int .i64 size)] Heap.empty) = true := by
  have eqq : ∀ a : Int, (a == a) = true := fun a => by simp
  rw [evCallT_eq (F := ir6) rfl rfl rfl]
  unfold ir6
  rw [bodyK_eq]
  by_cases c1 : size ≥ 1
  · by_cases c2 : size ≤ 1024
    · by_cases c3 : key ≥ 0
      · obtain ⟨b1, b2, _⟩ := place_bounds c1 c2 c3
        have d1 : decide (placeM key size ≥ 0) = true := decide_eq_true b1
        simp only [enter_eq, ev_seq, seqK_norm, seqK_exit, seqK_ret, ev_reg, ev_cond, condK_true, condK_false, ev_block, blockK_norm, blockK_ret, blockK_exit, ev_loop, ev_skip, ev_exit, ev_ret, regK_cons, regK_nil, guard_none, guard_some, regG_true, regG_false, regO_some, op_mov, op_conv, op_bin, op_bsl, op_box, op_mks, op_s2b, op_pick, op_un, op_eq, op_len, op_ext, op_load, op_iaddr, op_slice, op_b2s, op_idxS, op_mx, op_mn, op_call, op_store, op_app, op_copy, args_eq, result_one', rv_loc, finish_norm, finish_ret, outK_some, keep_true, keep_false, keep_nil, p_bin, p_pick, p_un, p_eq, p_conv, evNew, pureK_some, newK_some, X.eval, set_none, set_some, List.map_cons, List.map_nil, List.getD_cons_zero, List.getD_cons_succ, List.getD_nil, List.set_cons_zero, List.set_cons_succ, binCV, unCV, isShift, intArithF_eq, shiftF_eq, wrapF_eq, intArith, shift, eqVal, bound, asNat_cast, cond_true, cond_false, BEq.rfl, beq_self_eq_true, evalParts, fillParts, AV.cells, AV.ofCells, XV.av, AV.xv, List.length_cons, List.length_nil, zeros, patch, setMany, List.nil_append, List.cons_append, Nat.ble, Nat.add_eq, Nat.zero_add, Nat.add_zero, Nat.reduceAdd, Nat.reduceMul, Nat.reduceSub, Nat.ble_eq, Nat.reduceLeDiff, Nat.reduceBEq, Int.reduceBEq, Int.reduceNeg, Bool.and_true, Bool.and_false, Bool.true_and, Bool.false_and, Bool.not_true, Bool.not_false, Bool.true_eq_false, Bool.false_eq_true, Int.reduceLT, Int.reduceLE, Int.reduceGT, Int.reduceGE, decide_true, decide_false, Bool.not_eq_true, loopN_norm, loopN_exit, tf, ft, ff, place_ok, rplace_ok, evCallT_told, decide_eq_true c1, decide_eq_true c2, decide_eq_true c3, d1, eqq, decide_eq_true b2]
        rfl
      · have e : placeM key size = -1 := if_pos (by omega)
        simp only [enter_eq, ev_seq, seqK_norm, seqK_exit, seqK_ret, ev_reg, ev_cond, condK_true, condK_false, ev_block, blockK_norm, blockK_ret, blockK_exit, ev_loop, ev_skip, ev_exit, ev_ret, regK_cons, regK_nil, guard_none, guard_some, regG_true, regG_false, regO_some, op_mov, op_conv, op_bin, op_bsl, op_box, op_mks, op_s2b, op_pick, op_un, op_eq, op_len, op_ext, op_load, op_iaddr, op_slice, op_b2s, op_idxS, op_mx, op_mn, op_call, op_store, op_app, op_copy, args_eq, result_one', rv_loc, finish_norm, finish_ret, outK_some, keep_true, keep_false, keep_nil, p_bin, p_pick, p_un, p_eq, p_conv, evNew, pureK_some, newK_some, X.eval, set_none, set_some, List.map_cons, List.map_nil, List.getD_cons_zero, List.getD_cons_succ, List.getD_nil, List.set_cons_zero, List.set_cons_succ, binCV, unCV, isShift, intArithF_eq, shiftF_eq, wrapF_eq, intArith, shift, eqVal, bound, asNat_cast, cond_true, cond_false, BEq.rfl, beq_self_eq_true, evalParts, fillParts, AV.cells, AV.ofCells, XV.av, AV.xv, List.length_cons, List.length_nil, zeros, patch, setMany, List.nil_append, List.cons_append, Nat.ble, Nat.add_eq, Nat.zero_add, Nat.add_zero, Nat.reduceAdd, Nat.reduceMul, Nat.reduceSub, Nat.ble_eq, Nat.reduceLeDiff, Nat.reduceBEq, Int.reduceBEq, Int.reduceNeg, Bool.and_true, Bool.and_false, Bool.true_and, Bool.false_and, Bool.not_true, Bool.not_false, Bool.true_eq_false, Bool.false_eq_true, Int.reduceLT, Int.reduceLE, Int.reduceGT, Int.reduceGE, decide_true, decide_false, Bool.not_eq_true, loopN_norm, loopN_exit, tf, ft, ff, place_ok, rplace_ok, evCallT_told, decide_eq_true c1, decide_eq_true c2, decide_eq_false c3, e, eqq]
        rfl
    · have e : placeM key size = -1 := if_pos (by omega)
      simp only [enter_eq, ev_seq, seqK_norm, seqK_exit, seqK_ret, ev_reg, ev_cond, condK_true, condK_false, ev_block, blockK_norm, blockK_ret, blockK_exit, ev_loop, ev_skip, ev_exit, ev_ret, regK_cons, regK_nil, guard_none, guard_some, regG_true, regG_false, regO_some, op_mov, op_conv, op_bin, op_bsl, op_box, op_mks, op_s2b, op_pick, op_un, op_eq, op_len, op_ext, op_load, op_iaddr, op_slice, op_b2s, op_idxS, op_mx, op_mn, op_call, op_store, op_app, op_copy, args_eq, result_one', rv_loc, finish_norm, finish_ret, outK_some, keep_true, keep_false, keep_nil, p_bin, p_pick, p_un, p_eq, p_conv, evNew, pureK_some, newK_some, X.eval, set_none, set_some, List.map_cons, List.map_nil, List.getD_cons_zero, List.getD_cons_succ, List.getD_nil, List.set_cons_zero, List.set_cons_succ, binCV, unCV, isShift, intArithF_eq, shiftF_eq, wrapF_eq, intArith, shift, eqVal, bound, asNat_cast, cond_true, cond_false, BEq.rfl, beq_self_eq_true, evalParts, fillParts, AV.cells, AV.ofCells, XV.av, AV.xv, List.length_cons, List.length_nil, zeros, patch, setMany, List.nil_append, List.cons_append, Nat.ble, Nat.add_eq, Nat.zero_add, Nat.add_zero, Nat.reduceAdd, Nat.reduceMul, Nat.reduceSub, Nat.ble_eq, Nat.reduceLeDiff, Nat.reduceBEq, Int.reduceBEq, Int.reduceNeg, Bool.and_true, Bool.and_false, Bool.true_and, Bool.false_and, Bool.not_true, Bool.not_false, Bool.true_eq_false, Bool.false_eq_true, Int.reduceLT, Int.reduceLE, Int.reduceGT, Int.reduceGE, decide_true, decide_false, Bool.not_eq_true, loopN_norm, loopN_exit, tf, ft, ff, place_ok, rplace_ok, evCallT_told, decide_eq_true c1, decide_eq_false c2, e, eqq]
      rfl
  · have e : placeM key size = -1 := if_pos (by omega)
    simp only [enter_eq, ev_seq, seqK_norm, seqK_exit, seqK_ret, ev_reg, ev_cond, condK_true, condK_false, ev_block, blockK_norm, blockK_ret, blockK_exit, ev_loop, ev_skip, ev_exit, ev_ret, regK_cons, regK_nil, guard_none, guard_some, regG_true, regG_false, regO_some, op_mov, op_conv, op_bin, op_bsl, op_box, op_mks, op_s2b, op_pick, op_un, op_eq, op_len, op_ext, op_load, op_iaddr, op_slice, op_b2s, op_idxS, op_mx, op_mn, op_call, op_store, op_app, op_copy, args_eq, result_one', rv_loc, finish_norm, finish_ret, outK_some, keep_true, keep_false, keep_nil, p_bin, p_pick, p_un, p_eq, p_conv, evNew, pureK_some, newK_some, X.eval, set_none, set_some, List.map_cons, List.map_nil, List.getD_cons_zero, List.getD_cons_succ, List.getD_nil, List.set_cons_zero, List.set_cons_succ, binCV, unCV, isShift, intArithF_eq, shiftF_eq, wrapF_eq, intArith, shift, eqVal, bound, asNat_cast, cond_true, cond_false, BEq.rfl, beq_self_eq_true, evalParts, fillParts, AV.cells, AV.ofCells, XV.av, AV.xv, List.length_cons, List.length_nil, zeros, patch, setMany, List.nil_append, List.cons_append, Nat.ble, Nat.add_eq, Nat.zero_add, Nat.add_zero, Nat.reduceAdd, Nat.reduceMul, Nat.reduceSub, Nat.ble_eq, Nat.reduceLeDiff, Nat.reduceBEq, Int.reduceBEq, Int.reduceNeg, Bool.and_true, Bool.and_false, Bool.true_and, Bool.false_and, Bool.not_true, Bool.not_false, Bool.true_eq_false, Bool.false_eq_true, Int.reduceLT, Int.reduceLE, Int.reduceGT, Int.reduceGE, decide_true, decide_false, Bool.not_eq_true, loopN_norm, loopN_exit, tf, ft, ff, place_ok, rplace_ok, evCallT_told, decide_eq_false c1, e, eqq]
    rfl

end Lav

namespace Go.Proofs.Ytgjceiiddcbfoaa.tablePlaces
open Go.ChangeShapes Go.WideShapes Go.ChangeAt Go.RowKit
open Go.ChangeMaps (open_string shut_string)
set_option linter.unusedVariables false      -- a walk need not use every 'w<i>' (that an integer argument fits its kind)

theorem own : ownKnob Try.prog.godebug = none := by kernel_rfl

/-! ### STEP 1: THE WALK: the Go text returns true. 'Below w.heap.size w w'': the world has at most new blocks (Derived/RowKit3.lean). Part the cases AHEAD of 'go_enter' where a test parts the walk; take each callee by a contract of your own. -/
theorem walk (a0 : Int) (a1 : Int) (w0 : (Lit.int .i64 a0).wf = true) (w1 : (Lit.int .i64 a1).wf = true) (w : World) :
    Calls Try.prog 6 #[.int .i64 a0, .int .i64 a1] w fun e w' => e = .returned (.bool true) ∧ Below w.heap.size w w' := by
  exact Lav.walk_of (Lav.evCallT_sound Lav.mixed Lav.table_ok Lav.tld5 200 9) (Lav.Init.empty w) (args := [.c (.int .i64 a0), .c (.int .i64 a1)]) (vs := [.int .i64 a0, .int .i64 a1]) ⟨rfl, rfl, trivial⟩ (Lav.tablePlaces a0 a1)

/-! ### THE ROW's STEP: WRITTEN OUT: LEAVE IT -/
set_option maxRecDepth 100000 in
theorem lifted (os : Os) (started : os.Started) (H : Type) (enc : TypeId × Value → H) :
    ReturnsInHanded {} Try.checked os 6 .any (Rows.tablePlacesSpec.pre6 enc Try.prog Try.f6 Rows.tablePlacesRow.domain false) (Rows.tablePlacesSpec.post enc Try.prog Try.f6 false true false false) := by
  refine returnsInHanded_of_change (C := Try.checked) own started (by kernel_rfl) Try.func6
    (ChangeSpec.witness6 (enc := enc) (C := Try.checked) false ⟨#[], #[.int .i64 0, .int .i64 0], []⟩ 8 (by kernel_rfl) (by kernel_rfl) (by kernel_rfl) (by kernel_rfl)) ?_
  intro W base args ds gs before hval0 hW hcnd _
  have hval : ∀ (j : Nat) t v, Try.f6.params[j]? = some t → args[j]? = some v → Value.okWide Try.prog W .any base t v := hval0
  have hW' := hW
  obtain ⟨p, q, hA0, hV, rfl, hfz, hnd⟩ := hW
  have hA : DataW.TrodAll enc Try.prog W 0 (fun _ => true) true Try.f6.params.toList args.toList ds p := hA0
  rw [Try.params6] at hA hval
  obtain ⟨v0, vs0, d0, ds0, p0, q0, hargs, rfl, rfl, h0, r0⟩ := trodAll_cons hA
  obtain ⟨v1, vs1, d1, ds1, p1, q1, rfl, rfl, rfl, h1, r1⟩ := trodAll_cons r0
  obtain ⟨rfl, rfl, rfl⟩ := trodAll_nil r1
  obtain rfl : args = #[v0, v1] := by cases args; simp_all
  obtain ⟨rfl, rfl⟩ := trodVars_none hV
  obtain ⟨a0, rfl, rfl, rfl, w0⟩ := open_int Try.underlying3 (hval 0 3 v0 rfl rfl) h0
  obtain ⟨a1, rfl, rfl, rfl, w1⟩ := open_int Try.underlying3 (hval 1 3 v1 rfl rfl) h1
  clear hA0 hval0
  refine (walk a0 a1 w0 w1 W).mono fun e W' ⟨he, hg⟩ => ?_
  subst he
  exact ⟨_, rfl, _, _, _, [], _, [], hW', trodAll_mk1 (shut_bool Try.underlying4 _), (trodAll_cons_mk (shut_int Try.underlying3 w0) (trodAll_cons_mk (shut_int Try.underlying3 w1) trodAll_mk0)), rfl, hg.frame _, fun h => by cases h⟩

theorem over : Rows.tablePlacesRow.holds Try.pinned (OpenSpec.ofChange Rows.tablePlacesSpec) :=
  OpenClaim.holds_of_wide 6 Try.f6 rfl rfl rfl rfl rfl rfl rfl ⟨rfl, rfl, rfl, rfl, rfl⟩ rfl rfl rfl rfl rfl (by kernel_rfl) Try.func6 (by kernel_rfl)
    (of_decide_eq_true (by kernel_rfl)) (by unfold Func.isWrapper; first | (rw [if_pos (by decide +kernel)]; kernel_rfl) | (rw [if_neg (by decide +kernel)]; exact ⟨rfl, rfl⟩))
    (fun os started H enc _ => lifted os started H enc)

/-- ████ THE STATEMENT ████ -/
theorem proved : Rows.TablePlacesSaid :=
  over
end Go.Proofs.Ytgjceiiddcbfoaa.tablePlaces
