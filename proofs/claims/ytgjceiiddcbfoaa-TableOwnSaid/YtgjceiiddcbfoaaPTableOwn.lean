/-
  Proved: whatever numbers come in, lavabolaw5.TableOwn returns true and changes nothing that was there. No conditions beyond the given statement's.
-/
import Derived.Test.YtgjceiiddcbfoaaRows
import Derived.Test.YtgjceiiddcbfoaaTable1
import Derived.Test.YtgjceiiddcbfoaaTable2
import Derived.Test.YtgjceiiddcbfoaaTable3
import Derived.WalkKit
import Derived.ProofKit
import Derived.OpenShut
import Derived.Below
import Derived.ShutString
set_option maxRecDepth 100000
set_option linter.unusedSimpArgs false
namespace Lav
open Go (IntKind)
theorem bneI {a b : Int} : (a != b) = !(a == b) := rfl

theorem slots_ok {N d : Nat} {h : Heap} {p b : Nat} {ss : Slots} {c : Int} (t : TB h p b ss c) {m : Nat} (hm : ss.length = m + 1) (hm2 : m < 1000) :
    ∃ j h', evCallT table 25 N (d + 2) 32 [.c (.ptr p 0)] h = some (.c (.sl j 0 (m + 1) (.dy 2)), h') ∧ h'.get j = some (.cells (slotC ss)) ∧ Ext h h' ∧ h.next ≤ j ∧ j < h'.next := by
  have r0 := t.r0
  have hs : source (h.new (.cells [])) 2 (.c (.sl b 0 ss.length (.ex ss.length))) = some (m + 1, slotC ss) := by
    rw [hm]; exact source_new ((get_new_old t.bn).trans t.slots) (by rw [slotC_len, hm])
  obtain ⟨h', a1, ⟨a2, a3⟩, a4, a5⟩ := app_new (sz := 2) (h0 := h) (h := h.new (.cells [])) (i := h.next) get_new_at (Nat.le_succ _) hs (by rw [slotC_len, hm]) (by omega)
  have e1 : evCallT table 25 N (d + 1) 46 [.c (.sl b 0 ss.length (.ex ss.length))] h = some (.c (.sl (h.next + 1) 0 (m + 1) (.dy 2)), h') := by
    rw [evCallT_eq (F := ir46) rfl rfl rfl]
    unfold ir46
    rw [bodyK_eq]
    have a1' : evApp (h.new (.cells [])) 2 (.c (.sl h.next 0 0 (.ex 0))) (.c (.sl b 0 ss.length (.ex ss.length))) = some (.c (.sl (h.next + 1) 0 (m + 1) (.dy 2)), h') := a1
    simp only [enter_eq, ev_seq, seqK_norm, seqK_exit, seqK_ret, ev_reg, ev_cond, condK_true, condK_false, ev_block, blockK_norm, blockK_ret, blockK_exit, ev_loop, ev_skip, ev_exit, ev_ret, regK_cons, regK_nil, guard_none, guard_some, regG_true, regG_false, regO_some, op_mov, op_conv, op_bin, op_bsl, op_box, op_mks, op_s2b, op_pick, op_un, op_eq, op_len, op_ext, op_load, op_iaddr, op_slice, op_b2s, op_idxS, op_mx, op_mn, op_call, op_store, op_app, op_copy, args_eq, result_one', rv_loc, finish_norm, finish_ret, outK_some, keep_true, keep_false, keep_nil, p_bin, p_pick, p_un, p_eq, p_conv, evNew, pureK_some, newK_some, X.eval, set_none, set_some, List.map_cons, List.map_nil, List.getD_cons_zero, List.getD_cons_succ, List.getD_nil, List.set_cons_zero, List.set_cons_succ, binCV, unCV, isShift, intArithF_eq, shiftF_eq, wrapF_eq, intArith, shift, eqVal, bound, asNat_cast, cond_true, cond_false, BEq.rfl, beq_self_eq_true, evalParts, fillParts, AV.cells, AV.ofCells, XV.av, AV.xv, List.length_cons, List.length_nil, zeros, patch, setMany, List.nil_append, List.cons_append, Nat.ble, Nat.add_eq, Nat.zero_add, Nat.add_zero, Nat.reduceAdd, Nat.reduceMul, Nat.reduceSub, Nat.ble_eq, Nat.reduceLeDiff, Nat.reduceBEq, Int.reduceBEq, Int.reduceNeg, Bool.and_true, Bool.and_false, Bool.true_and, Bool.false_and, Bool.not_true, Bool.not_false, Bool.true_eq_false, Bool.false_eq_true, Int.reduceLT, Int.reduceLE, Int.reduceGT, Int.reduceGE, decide_true, decide_false, Bool.not_eq_true, loopN_norm, loopN_exit, tf, ft, ff, a1']
  rcases a3 with ⟨hc, _⟩ | ⟨j, hj, hg, hj1, hj2⟩
  · cases hc
  have hj' : j = h.next + 1 := by cases hj; rfl
  subst hj'
  rw [evCallT_eq (F := ir32) rfl rfl rfl]
  unfold ir32
  rw [bodyK_eq]
  simp only [enter_eq, ev_seq, seqK_norm, seqK_exit, seqK_ret, ev_reg, ev_cond, condK_true, condK_false, ev_block, blockK_norm, blockK_ret, blockK_exit, ev_loop, ev_skip, ev_exit, ev_ret, regK_cons, regK_nil, guard_none, guard_some, regG_true, regG_false, regO_some, op_mov, op_conv, op_bin, op_bsl, op_box, op_mks, op_s2b, op_pick, op_un, op_eq, op_len, op_ext, op_load, op_iaddr, op_slice, op_b2s, op_idxS, op_mx, op_mn, op_call, op_store, op_app, op_copy, args_eq, result_one', rv_loc, finish_norm, finish_ret, outK_some, keep_true, keep_false, keep_nil, p_bin, p_pick, p_un, p_eq, p_conv, evNew, pureK_some, newK_some, X.eval, set_none, set_some, List.map_cons, List.map_nil, List.getD_cons_zero, List.getD_cons_succ, List.getD_nil, List.set_cons_zero, List.set_cons_succ, binCV, unCV, isShift, intArithF_eq, shiftF_eq, wrapF_eq, intArith, shift, eqVal, bound, asNat_cast, cond_true, cond_false, BEq.rfl, beq_self_eq_true, evalParts, fillParts, AV.cells, AV.ofCells, XV.av, AV.xv, List.length_cons, List.length_nil, zeros, patch, setMany, List.nil_append, List.cons_append, Nat.ble, Nat.add_eq, Nat.zero_add, Nat.add_zero, Nat.reduceAdd, Nat.reduceMul, Nat.reduceSub, Nat.ble_eq, Nat.reduceLeDiff, Nat.reduceBEq, Int.reduceBEq, Int.reduceNeg, Bool.and_true, Bool.and_false, Bool.true_and, Bool.false_and, Bool.not_true, Bool.not_false, Bool.true_eq_false, Bool.false_eq_true, Int.reduceLT, Int.reduceLE, Int.reduceGT, Int.reduceGE, decide_true, decide_false, Bool.not_eq_true, loopN_norm, loopN_exit, tf, ft, ff, op_nilchk, p_nilchk, op_faddr, p_faddr, p_load, r0, AV.ofCells, e1]
  exact ⟨_, _, rfl, hg, ⟨by rw [a4]; show h.next ≤ h.next + 1 + 1; omega, fun i hi => by rw [a5 i (Nat.lt_succ_of_lt hi), get_new_old hi]⟩, hj1, hj2⟩

theorem tableOwn (key value : Int) : good (evCallT table 25 200 9 9 [.c (.int .i64 key), .c (.int .i64 value)] Heap.empty) = true := by
  obtain ⟨k, hk, ek⟩ := few (a := key) (m := 1000) (by omega) (by omega)
  have ek' : IntKind.i64.wrap (Int.tmod (IntKind.u64.wrap key) 1000) = (k : Int) := ek
  obtain ⟨p, b, h1, e1, t1, x1, hp1, hb1, hpn, hbn⟩ : ∃ p b h', evCallT table 25 200 8 27 [.c (.int .i64 8)] Heap.empty = some (.c (.ptr p 0), h') ∧ DT h' p b 8 (fun _ => none) 0 ∧ Ext Heap.empty h' ∧ Heap.empty.next ≤ p ∧ Heap.empty.next ≤ b ∧ p < h'.next ∧ b < h'.next := DT.new (N := 200) (d := 6) 8 Heap.empty (by omega) (by omega) (by omega)
  obtain ⟨h2, e2, t2, x2⟩ : ∃ h', evCallT table 25 200 8 28 [.c (.ptr p 0), .c (.int .i64 (k : Int)), .c (.int .i64 value)] h1 = some (.c (.int .i64 0), h') ∧ DT h' p b 8 (fun j => if j = k then some value else none) 1 ∧ ExtB [p, b] h1 h' := t1.put_new (N := 200) (d := 5) rfl value (by omega) (by omega)
  have t2' := t2
  obtain ⟨⟨ss, hl, tb, _⟩, _⟩ := t2
  obtain ⟨j, h3, e3, g3, x3, hj1, hj2⟩ : ∃ j h', evCallT table 25 200 8 32 [.c (.ptr p 0)] h2 = some (.c (.sl j 0 8 (.dy 2)), h') ∧ h'.get j = some (.cells (slotC ss)) ∧ Ext h2 h' ∧ h2.next ≤ j ∧ j < h'.next := slots_ok (N := 200) (d := 6) tb (m := 7) hl (by omega)
  have hjp : j ≠ p ∧ j ≠ b := by have := tb.pn; have := tb.bn; omega
  have t3 : DT h3 p b 8 (fun j => if j = k then some value else none) 1 := t2'.ext (x3.b []) (by simp) (by simp)
  rw [evCallT_eq (F := ir9) rfl rfl rfl]
  unfold ir9
  rw [bodyK_eq]
  have L : ∀ loc, keepOnly ir9_k0 loc = [.junk, .c (.int .i64 value), .junk, .c (.ptr p 0), .c (.int .i64 (k : Int)), .c (.sl j 0 8 (.dy 2)), .c (.int .i64 0), .junk, .junk] →
      ∃ r, loopK (evCallT table 25 200 8) 200 ir9_k0 ir9_l0 200 loc h3 = some r ∧ ∃ l h', r = (.exit 0, .junk :: .c (.int .i64 value) :: .junk :: .c (.ptr p 0) :: .c (.int .i64 (k : Int)) :: l, h') ∧ DT h' p b 8 (fun j => if j = k then some value else none) 1 := by
    intro loc hloc
    refine loop_inv (n := 8) (fun i loc h' => DT h' p b 8 (fun j => if j = k then some value else none) 1 ∧ (∃ l, h'.get j = some (.cells l) ∧ l.length = 16) ∧ loc = [.junk, .c (.int .i64 value), .junk, .c (.ptr p 0), .c (.int .i64 (k : Int)), .c (.sl j 0 8 (.dy 2)), .c (.int .i64 (i : Int)), .junk, .junk]) _ ?_ ⟨t3, ⟨_, g3, by rw [slotC_len, hl]⟩, hloc⟩ (by omega)
    rintro i loc h' hi ⟨t, ⟨l, hg, hll⟩, rfl⟩
    unfold ir9_l0
    by_cases hlt : i < 8
    · left
      refine ⟨hlt, ?_⟩
      have v1 : decide ((i : Int) < 8) = true := ltNat (n := 8) hlt
      have v2 := succI (i := i) (by omega)
      have m1 : Nat.blt i 8 = true := bltT hlt
      have ll : ∀ loc vals h', evPure loc (.c (.sl j 0 8 (.dy 2)) :: vals) h' (.len .sl (.val 0)) = some (.c (.int .i64 8)) := fun _ _ _ => rfl
      have W := write_many (vs := [.int .i64 5000, .int .i64 1]) (o := i * 2) hg (by simp; omega)
      simp only [enter_eq, ev_seq, seqK_norm, seqK_exit, seqK_ret, ev_reg, ev_cond, condK_true, condK_false, ev_block, blockK_norm, blockK_ret, blockK_exit, ev_loop, ev_skip, ev_exit, ev_ret, regK_cons, regK_nil, guard_none, guard_some, regG_true, regG_false, regO_some, op_mov, op_conv, op_bin, op_bsl, op_box, op_mks, op_s2b, op_pick, op_un, op_eq, op_len, op_ext, op_load, op_iaddr, op_slice, op_b2s, op_idxS, op_mx, op_mn, op_call, op_store, op_app, op_copy, args_eq, result_one', rv_loc, finish_norm, finish_ret, outK_some, keep_true, keep_false, keep_nil, p_bin, p_pick, p_un, p_eq, p_conv, evNew, pureK_some, newK_some, X.eval, set_none, set_some, List.map_cons, List.map_nil, List.getD_cons_zero, List.getD_cons_succ, List.getD_nil, List.set_cons_zero, List.set_cons_succ, binCV, unCV, isShift, intArithF_eq, shiftF_eq, wrapF_eq, intArith, shift, eqVal, bound, asNat_cast, cond_true, cond_false, BEq.rfl, beq_self_eq_true, evalParts, fillParts, AV.cells, AV.ofCells, XV.av, AV.xv, List.length_cons, List.length_nil, zeros, patch, setMany, List.nil_append, List.cons_append, Nat.ble, Nat.add_eq, Nat.zero_add, Nat.add_zero, Nat.reduceAdd, Nat.reduceMul, Nat.reduceSub, Nat.ble_eq, Nat.reduceLeDiff, Nat.reduceBEq, Int.reduceBEq, Int.reduceNeg, Bool.and_true, Bool.and_false, Bool.true_and, Bool.false_and, Bool.not_true, Bool.not_false, Bool.true_eq_false, Bool.false_eq_true, Int.reduceLT, Int.reduceLE, Int.reduceGT, Int.reduceGE, decide_true, decide_false, Bool.not_eq_true, loopN_norm, loopN_exit, tf, ft, ff, ll, v1, v2, op_build, p_build', p_iaddr, m1, evEff, W]
      refine ⟨_, _, rfl, t.ext (S := [j]) ((ExtB.refl _ _).put (.inr (by simp)) _) (by simpa using hjp.1.symm) (by simpa using hjp.2.symm), ⟨_, get_put_at, by simp; omega⟩, rfl⟩
    · right
      have hi8 : i = 8 := by omega
      subst hi8
      simp only [enter_eq, ev_seq, seqK_norm, seqK_exit, seqK_ret, ev_reg, ev_cond, condK_true, condK_false, ev_block, blockK_norm, blockK_ret, blockK_exit, ev_loop, ev_skip, ev_exit, ev_ret, regK_cons, regK_nil, guard_none, guard_some, regG_true, regG_false, regO_some, op_mov, op_conv, op_bin, op_bsl, op_box, op_mks, op_s2b, op_pick, op_un, op_eq, op_len, op_ext, op_load, op_iaddr, op_slice, op_b2s, op_idxS, op_mx, op_mn, op_call, op_store, op_app, op_copy, args_eq, result_one', rv_loc, finish_norm, finish_ret, outK_some, keep_true, keep_false, keep_nil, p_bin, p_pick, p_un, p_eq, p_conv, evNew, pureK_some, newK_some, X.eval, set_none, set_some, List.map_cons, List.map_nil, List.getD_cons_zero, List.getD_cons_succ, List.getD_nil, List.set_cons_zero, List.set_cons_succ, binCV, unCV, isShift, intArithF_eq, shiftF_eq, wrapF_eq, intArith, shift, eqVal, bound, asNat_cast, cond_true, cond_false, BEq.rfl, beq_self_eq_true, evalParts, fillParts, AV.cells, AV.ofCells, XV.av, AV.xv, List.length_cons, List.length_nil, zeros, patch, setMany, List.nil_append, List.cons_append, Nat.ble, Nat.add_eq, Nat.zero_add, Nat.add_zero, Nat.reduceAdd, Nat.reduceMul, Nat.reduceSub, Nat.ble_eq, Nat.reduceLeDiff, Nat.reduceBEq, Int.reduceBEq, Int.reduceNeg, Bool.and_true, Bool.and_false, Bool.true_and, Bool.false_and, Bool.not_true, Bool.not_false, Bool.true_eq_false, Bool.false_eq_true, Int.reduceLT, Int.reduceLE, Int.reduceGT, Int.reduceGE, decide_true, decide_false, Bool.not_eq_true, loopN_norm, loopN_exit, tf, ft, ff]
      exact ⟨_, rfl, by simp, _, h', rfl, t⟩
  obtain ⟨r, hr, l, h', rfl, t⟩ := L [.c (.int .i64 key), .c (.int .i64 value), .c (.bool false), .c (.ptr p 0), .c (.int .i64 (k : Int)), .c (.sl j 0 8 (.dy 2)), .c (.int .i64 0), .c (.bool false), .tup []] rfl
  have ga : evCallT table 25 200 8 30 [.c (.ptr p 0), .c (.int .i64 (k : Int))] h' = some (.c (.int .i64 value), h') := by
    have := t.get (N := 200) (d := 5) k (by omega)
    rw [if_pos rfl] at this; exact this
  have gb : evCallT table 25 200 8 30 [.c (.ptr p 0), .c (.int .i64 5000)] h' = some (.c (.int .i64 (-1)), h') := by
    have := t.get (N := 200) (d := 5) 5000 (by omega)
    rw [if_neg (by omega)] at this; exact this
  have gl : evCallT table 25 200 8 31 [.c (.ptr p 0)] h' = some (.c (.int .i64 1), h') := t.len (N := 200) (d := 7)
  have eqq : ∀ a : Int, (a == a) = true := fun a => by simp
  simp only [enter_eq, ev_seq, seqK_norm, seqK_exit, seqK_ret, ev_reg, ev_cond, condK_true, condK_false, ev_block, blockK_norm, blockK_ret, blockK_exit, ev_loop, ev_skip, ev_exit, ev_ret, regK_cons, regK_nil, guard_none, guard_some, regG_true, regG_false, regO_some, op_mov, op_conv, op_bin, op_bsl, op_box, op_mks, op_s2b, op_pick, op_un, op_eq, op_len, op_ext, op_load, op_iaddr, op_slice, op_b2s, op_idxS, op_mx, op_mn, op_call, op_store, op_app, op_copy, args_eq, result_one', rv_loc, finish_norm, finish_ret, outK_some, keep_true, keep_false, keep_nil, p_bin, p_pick, p_un, p_eq, p_conv, evNew, pureK_some, newK_some, X.eval, set_none, set_some, List.map_cons, List.map_nil, List.getD_cons_zero, List.getD_cons_succ, List.getD_nil, List.set_cons_zero, List.set_cons_succ, binCV, unCV, isShift, intArithF_eq, shiftF_eq, wrapF_eq, intArith, shift, eqVal, bound, asNat_cast, cond_true, cond_false, BEq.rfl, beq_self_eq_true, evalParts, fillParts, AV.cells, AV.ofCells, XV.av, AV.xv, List.length_cons, List.length_nil, zeros, patch, setMany, List.nil_append, List.cons_append, Nat.ble, Nat.add_eq, Nat.zero_add, Nat.add_zero, Nat.reduceAdd, Nat.reduceMul, Nat.reduceSub, Nat.ble_eq, Nat.reduceLeDiff, Nat.reduceBEq, Int.reduceBEq, Int.reduceNeg, Bool.and_true, Bool.and_false, Bool.true_and, Bool.false_and, Bool.not_true, Bool.not_false, Bool.true_eq_false, Bool.false_eq_true, Int.reduceLT, Int.reduceLE, Int.reduceGT, Int.reduceGE, decide_true, decide_false, Bool.not_eq_true, loopN_norm, loopN_exit, tf, ft, ff, bneI, ek', e1, e2, e3, hr, blockK_exit_eq, evCallT_told, ga, gb, gl, eqq]
  rfl

end Lav

namespace Go.Proofs.Ytgjceiiddcbfoaa.tableOwn
open Go.ChangeShapes Go.WideShapes Go.ChangeAt Go.RowKit
open Go.ChangeMaps (open_string shut_string)
set_option linter.unusedVariables false      -- a walk need not use every 'w<i>' (that an integer argument fits its kind)

theorem own : ownKnob Try.prog.godebug = none := by kernel_rfl

/-! ### STEP 1: THE WALK: the Go text returns true. 'Below w.heap.size w w'': the world has at most new blocks (Derived/RowKit3.lean). Part the cases AHEAD of 'go_enter' where a test parts the walk; take each callee by a contract of your own. -/
theorem walk (a0 : Int) (a1 : Int) (w0 : (Lit.int .i64 a0).wf = true) (w1 : (Lit.int .i64 a1).wf = true) (w : World) :
    Calls Try.prog 9 #[.int .i64 a0, .int .i64 a1] w fun e w' => e = .returned (.bool true) ∧ Below w.heap.size w w' := by
  exact Lav.walk_of (Lav.evCallT_sound Lav.mixed Lav.table_ok Lav.tld5 200 9) (Lav.Init.empty w) (args := [.c (.int .i64 a0), .c (.int .i64 a1)]) (vs := [.int .i64 a0, .int .i64 a1]) ⟨rfl, rfl, trivial⟩ (Lav.tableOwn a0 a1)

/-! ### THE ROW's STEP: WRITTEN OUT: LEAVE IT -/
set_option maxRecDepth 100000 in
theorem lifted (os : Os) (started : os.Started) (H : Type) (enc : TypeId × Value → H) :
    ReturnsInHanded {} Try.checked os 9 .any (Rows.tableOwnSpec.pre6 enc Try.prog Try.f9 Rows.tableOwnRow.domain false) (Rows.tableOwnSpec.post enc Try.prog Try.f9 false true false false) := by
  refine returnsInHanded_of_change (C := Try.checked) own started (by kernel_rfl) Try.func9
    (ChangeSpec.witness6 (enc := enc) (C := Try.checked) false ⟨#[], #[.int .i64 0, .int .i64 0], []⟩ 8 (by kernel_rfl) (by kernel_rfl) (by kernel_rfl) (by kernel_rfl)) ?_
  intro W base args ds gs before hval0 hW hcnd _
  have hval : ∀ (j : Nat) t v, Try.f9.params[j]? = some t → args[j]? = some v → Value.okWide Try.prog W .any base t v := hval0
  have hW' := hW
  obtain ⟨p, q, hA0, hV, rfl, hfz, hnd⟩ := hW
  have hA : DataW.TrodAll enc Try.prog W 0 (fun _ => true) true Try.f9.params.toList args.toList ds p := hA0
  rw [Try.params9] at hA hval
  obtain ⟨v0, vs0, d0, ds0, p0, q0, hargs, rfl, rfl, h0, r0⟩ := trodAll_cons hA
  obtain ⟨v1, vs1, d1, ds1, p1, q1, rfl, rfl, rfl, h1, r1⟩ := trodAll_cons r0
  obtain ⟨rfl, rfl, rfl⟩ := trodAll_nil r1
  obtain rfl : args = #[v0, v1] := by cases args; simp_all
  obtain ⟨rfl, rfl⟩ := trodVars_none hV
  obtain ⟨a0, rfl, rfl, rfl, w0⟩ := open_int Try.underlying3 (hval 0 3 v0 rfl rfl) h0
  obtain ⟨a1, rfl, rfl, rfl, w1⟩ := open_int Try.underlying3 (hval 1 3 v1 rfl rfl) h1
  clear hA0 hval0
  refine (walk a0 a1 w0 w1 W).mono fun e W' ⟨he, hg⟩ => ?_
  subst he
  exact ⟨_, rfl, _, _, _, [], _, [], hW', trodAll_mk1 (shut_bool Try.underlying4 _), (trodAll_cons_mk (shut_int Try.underlying3 w0) (trodAll_cons_mk (shut_int Try.underlying3 w1) trodAll_mk0)), rfl, hg.frame _, fun h => by cases h⟩

theorem over : Rows.tableOwnRow.holds Try.pinned (OpenSpec.ofChange Rows.tableOwnSpec) :=
  OpenClaim.holds_of_wide 9 Try.f9 rfl rfl rfl rfl rfl rfl rfl ⟨rfl, rfl, rfl, rfl, rfl⟩ rfl rfl rfl rfl rfl (by kernel_rfl) Try.func9 (by kernel_rfl)
    (of_decide_eq_true (by kernel_rfl)) (by unfold Func.isWrapper; first | (rw [if_pos (by decide +kernel)]; kernel_rfl) | (rw [if_neg (by decide +kernel)]; exact ⟨rfl, rfl⟩))
    (fun os started H enc _ => lifted os started H enc)

/-- ████ THE STATEMENT ████ -/
theorem proved : Rows.TableOwnSaid :=
  over
end Go.Proofs.Ytgjceiiddcbfoaa.tableOwn
