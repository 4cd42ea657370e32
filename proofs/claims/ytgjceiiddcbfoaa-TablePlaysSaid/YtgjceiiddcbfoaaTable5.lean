/-
  Layer 5: a step of the table and of the document's own, side by side.
-/
import Derived.Test.YtgjceiiddcbfoaaTable4
set_option maxRecDepth 100000
set_option linter.unusedSimpArgs false
namespace Lav
open Go (IntKind)

theorem findGo_key (ss : Slots) (key : Int) (hn : 0 < ss.length) : ∀ (c a : Nat) (room : Int), a < ss.length → ∀ r : Nat, (findGo ss key c a room).1 = (r : Int) → (ss.getD r (0, 0)).1 = key
  | 0, a, room, _, r, hr => by
    have hr : (-1 : Int) = (r : Int) := hr
    omega
  | c + 1, a, room, ha, r, hr => by
    unfold findGo at hr
    split at hr
    · rename_i h; have hr : (a : Int) = (r : Int) := hr; have e : a = r := by omega
      rw [← e]; exact h
    · split at hr
      · split at hr
        · have hr : (-1 : Int) = (r : Int) := hr; omega
        · have hr : (-1 : Int) = (r : Int) := hr; omega
      · exact findGo_key ss key hn c _ _ (Nat.mod_lt _ hn) r hr
theorem findGo_room (ss : Slots) (key : Int) (hn : 0 < ss.length) : ∀ (c a : Nat) (room : Int), a < ss.length → (∀ r : Nat, room = (r : Int) → (ss.getD r (0, 0)).1 < 0) → ∀ r : Nat, (findGo ss key c a room).2 = (r : Int) → (ss.getD r (0, 0)).1 < 0
  | 0, a, room, _, hroom, r, hr => hroom r hr
  | c + 1, a, room, ha, hroom, r, hr => by
    unfold findGo at hr
    split at hr
    · exact hroom r hr
    · split at hr
      · rename_i h
        split at hr
        · have hr : (a : Int) = (r : Int) := hr; have e : a = r := by omega
          rw [← e, h]; decide
        · exact hroom r hr
      · refine findGo_room ss key hn c _ _ (Nat.mod_lt _ hn) ?_ r hr
        intro r' hr'
        split at hr'
        · rename_i h; have e : a = r' := by omega
          rw [← e, h.1]; decide
        · exact hroom r' hr'
theorem findM_key (ss : Slots) {key : Int} (hk : 0 ≤ key) (h1 : 1 ≤ ss.length) (h2 : ss.length ≤ 1024) {r : Nat} (hr : r < ss.length) (hf : (findM ss key).1 = (r : Int)) : ss[r].1 = key := by
  obtain ⟨pb1, pb2, _⟩ := place_bounds (key := key) (size := (ss.length : Int)) (by omega) (by omega) hk
  have := findGo_key ss key h1 _ _ _ (by omega) r hf
  rwa [getD_slot hr] at this
theorem findM_room (ss : Slots) {key : Int} (hk : 0 ≤ key) (h1 : 1 ≤ ss.length) (h2 : ss.length ≤ 1024) {r : Nat} (hr : r < ss.length) (hf : (findM ss key).2 = (r : Int)) : ss[r].1 < 0 := by
  obtain ⟨pb1, pb2, _⟩ := place_bounds (key := key) (size := (ss.length : Int)) (by omega) (by omega) hk
  have := findGo_room ss key h1 _ _ _ (by omega) (fun r hr => by omega) r hf
  rwa [getD_slot hr] at this

section
variable {N d : Nat} {h : Heap} {p q b : Nat} {ss : Slots}

theorem put_all (t : TB h p b ss (cnt ss)) (key v : Int) (hN : ss.length + 2 ≤ N) (h1 : 1 ≤ ss.length) (h2 : ss.length ≤ 1024) :
    ∃ h', evCallT table 25 N (d + 3) 28 [.c (.ptr p 0), .c (.int .i64 key), .c (.int .i64 v)] h = some (.c (.int .i64 (putM ss key v).1), h') ∧ TB h' p b (putM ss key v).2 (cnt (putM ss key v).2) ∧ ExtB [p, b] h h' := by
  unfold putM
  by_cases c1 : key < 0
  · simp only [if_pos c1]
    refine ⟨h, ?_, t, ExtB.refl _ _⟩
    rw [evCallT_eq (F := ir28) rfl rfl rfl]
    unfold ir28
    rw [bodyK_eq]
    simp only [enter_eq, ev_seq, seqK_norm, seqK_exit, seqK_ret, ev_reg, ev_cond, condK_true, condK_false, ev_block, blockK_norm, blockK_ret, blockK_exit, ev_loop, ev_skip, ev_exit, ev_ret, regK_cons, regK_nil, guard_none, guard_some, regG_true, regG_false, regO_some, op_mov, op_conv, op_bin, op_bsl, op_box, op_mks, op_s2b, op_pick, op_un, op_eq, op_len, op_ext, op_load, op_iaddr, op_slice, op_b2s, op_idxS, op_mx, op_mn, op_call, op_store, op_app, op_copy, args_eq, result_one', rv_loc, finish_norm, finish_ret, outK_some, keep_true, keep_false, keep_nil, p_bin, p_pick, p_un, p_eq, p_conv, evNew, pureK_some, newK_some, X.eval, set_none, set_some, List.map_cons, List.map_nil, List.getD_cons_zero, List.getD_cons_succ, List.getD_nil, List.set_cons_zero, List.set_cons_succ, binCV, unCV, isShift, intArithF_eq, shiftF_eq, wrapF_eq, intArith, shift, eqVal, bound, asNat_cast, cond_true, cond_false, BEq.rfl, beq_self_eq_true, evalParts, fillParts, AV.cells, AV.ofCells, XV.av, AV.xv, List.length_cons, List.length_nil, zeros, patch, setMany, List.nil_append, List.cons_append, Nat.ble, Nat.add_eq, Nat.zero_add, Nat.add_zero, Nat.reduceAdd, Nat.reduceMul, Nat.reduceSub, Nat.ble_eq, Nat.reduceLeDiff, Nat.reduceBEq, Int.reduceBEq, Int.reduceNeg, Bool.and_true, Bool.and_false, Bool.true_and, Bool.false_and, Bool.not_true, Bool.not_false, Bool.true_eq_false, Bool.false_eq_true, Int.reduceLT, Int.reduceLE, Int.reduceGT, Int.reduceGE, decide_true, decide_false, Bool.not_eq_true, loopN_norm, loopN_exit, tf, ft, ff, decide_eq_true c1]
  obtain ⟨hf1, hf2⟩ := findM_lt ss (key := key) (by omega) h1 h2
  by_cases c2 : 0 ≤ (findM ss key).1
  · simp only [if_neg c1, if_pos c2]
    exact ⟨h, put_held t key v (by omega) c2 hN h1 h2, t, ExtB.refl _ _⟩
  have c2' : ¬ (findM ss key).1 ≥ 0 := c2
  by_cases c3 : (findM ss key).2 < 0
  · simp only [if_neg c1, if_neg c2, if_pos c3]
    refine ⟨h, ?_, t, ExtB.refl _ _⟩
    have e1 := find_ok (N := N) (d := d) t key (by omega) hN h1 h2
    rw [evCallT_eq (F := ir28) rfl rfl rfl]
    unfold ir28
    rw [bodyK_eq]
    simp only [enter_eq, ev_seq, seqK_norm, seqK_exit, seqK_ret, ev_reg, ev_cond, condK_true, condK_false, ev_block, blockK_norm, blockK_ret, blockK_exit, ev_loop, ev_skip, ev_exit, ev_ret, regK_cons, regK_nil, guard_none, guard_some, regG_true, regG_false, regO_some, op_mov, op_conv, op_bin, op_bsl, op_box, op_mks, op_s2b, op_pick, op_un, op_eq, op_len, op_ext, op_load, op_iaddr, op_slice, op_b2s, op_idxS, op_mx, op_mn, op_call, op_store, op_app, op_copy, args_eq, result_one', rv_loc, finish_norm, finish_ret, outK_some, keep_true, keep_false, keep_nil, p_bin, p_pick, p_un, p_eq, p_conv, evNew, pureK_some, newK_some, X.eval, set_none, set_some, List.map_cons, List.map_nil, List.getD_cons_zero, List.getD_cons_succ, List.getD_nil, List.set_cons_zero, List.set_cons_succ, binCV, unCV, isShift, intArithF_eq, shiftF_eq, wrapF_eq, intArith, shift, eqVal, bound, asNat_cast, cond_true, cond_false, BEq.rfl, beq_self_eq_true, evalParts, fillParts, AV.cells, AV.ofCells, XV.av, AV.xv, List.length_cons, List.length_nil, zeros, patch, setMany, List.nil_append, List.cons_append, Nat.ble, Nat.add_eq, Nat.zero_add, Nat.add_zero, Nat.reduceAdd, Nat.reduceMul, Nat.reduceSub, Nat.ble_eq, Nat.reduceLeDiff, Nat.reduceBEq, Int.reduceBEq, Int.reduceNeg, Bool.and_true, Bool.and_false, Bool.true_and, Bool.false_and, Bool.not_true, Bool.not_false, Bool.true_eq_false, Bool.false_eq_true, Int.reduceLT, Int.reduceLE, Int.reduceGT, Int.reduceGE, decide_true, decide_false, Bool.not_eq_true, loopN_norm, loopN_exit, tf, ft, ff, decide_eq_false c1, decide_eq_false c2', decide_eq_true c3, e1, p_ext, List.getElem?_cons_zero, List.getElem?_cons_succ]
  obtain ⟨r, hr, hrl⟩ : ∃ r : Nat, (findM ss key).2 = (r : Int) ∧ r < ss.length := by
    rcases hf2 with hf2 | hf2
    · omega
    · exact hf2
  have hm : (findM ss key).1 = -1 := by
    rcases hf1 with hf1 | ⟨r, hf1, _⟩ <;> omega
  have hroom := findM_room ss (by omega) h1 h2 hrl hr
  have hc := cnt_set ss r hrl (key, v)
  rw [if_neg (by omega), if_pos (show 0 ≤ (key, v).1 by show 0 ≤ key; omega)] at hc
  have hle := cnt_le ss
  obtain ⟨h', e, t', x⟩ := put_new (N := N) (d := d) t key v (by omega) hrl (by rw [← hm, ← hr]) (by omega) hN h1 h2
  simp only [if_neg c1, if_neg c2, hr, if_neg (show ¬ ((r : Int) < 0) by omega), Int.toNat_natCast]
  refine ⟨h', e, ?_, x⟩
  rw [show ((cnt (ss.set r (key, v)) : Nat) : Int) = (cnt ss : Int) + 1 by omega]
  exact t'

theorem out_all (t : TB h p b ss (cnt ss)) (key : Int) (hN : ss.length + 2 ≤ N) (h1 : 1 ≤ ss.length) (h2 : ss.length ≤ 1024) :
    ∃ h', evCallT table 25 N (d + 3) 29 [.c (.ptr p 0), .c (.int .i64 key)] h = some (.c (.int .i64 (outM ss key).1), h') ∧ TB h' p b (outM ss key).2 (cnt (outM ss key).2) ∧ ExtB [p, b] h h' := by
  unfold outM
  by_cases c1 : key < 0
  · simp only [if_pos c1]
    refine ⟨h, ?_, t, ExtB.refl _ _⟩
    rw [evCallT_eq (F := ir29) rfl rfl rfl]
    unfold ir29
    rw [bodyK_eq]
    simp only [enter_eq, ev_seq, seqK_norm, seqK_exit, seqK_ret, ev_reg, ev_cond, condK_true, condK_false, ev_block, blockK_norm, blockK_ret, blockK_exit, ev_loop, ev_skip, ev_exit, ev_ret, regK_cons, regK_nil, guard_none, guard_some, regG_true, regG_false, regO_some, op_mov, op_conv, op_bin, op_bsl, op_box, op_mks, op_s2b, op_pick, op_un, op_eq, op_len, op_ext, op_load, op_iaddr, op_slice, op_b2s, op_idxS, op_mx, op_mn, op_call, op_store, op_app, op_copy, args_eq, result_one', rv_loc, finish_norm, finish_ret, outK_some, keep_true, keep_false, keep_nil, p_bin, p_pick, p_un, p_eq, p_conv, evNew, pureK_some, newK_some, X.eval, set_none, set_some, List.map_cons, List.map_nil, List.getD_cons_zero, List.getD_cons_succ, List.getD_nil, List.set_cons_zero, List.set_cons_succ, binCV, unCV, isShift, intArithF_eq, shiftF_eq, wrapF_eq, intArith, shift, eqVal, bound, asNat_cast, cond_true, cond_false, BEq.rfl, beq_self_eq_true, evalParts, fillParts, AV.cells, AV.ofCells, XV.av, AV.xv, List.length_cons, List.length_nil, zeros, patch, setMany, List.nil_append, List.cons_append, Nat.ble, Nat.add_eq, Nat.zero_add, Nat.add_zero, Nat.reduceAdd, Nat.reduceMul, Nat.reduceSub, Nat.ble_eq, Nat.reduceLeDiff, Nat.reduceBEq, Int.reduceBEq, Int.reduceNeg, Bool.and_true, Bool.and_false, Bool.true_and, Bool.false_and, Bool.not_true, Bool.not_false, Bool.true_eq_false, Bool.false_eq_true, Int.reduceLT, Int.reduceLE, Int.reduceGT, Int.reduceGE, decide_true, decide_false, Bool.not_eq_true, loopN_norm, loopN_exit, tf, ft, ff, decide_eq_true c1]
  obtain ⟨hf1, _⟩ := findM_lt ss (key := key) (by omega) h1 h2
  by_cases c2 : (findM ss key).1 < 0
  · simp only [if_neg c1, if_pos c2]
    exact ⟨h, out_none t key (by omega) c2 hN h1 h2, t, ExtB.refl _ _⟩
  obtain ⟨r, hr, hrl⟩ : ∃ r : Nat, (findM ss key).1 = (r : Int) ∧ r < ss.length := by
    rcases hf1 with hf1 | hf1
    · omega
    · exact hf1
  have hkey := findM_key ss (by omega) h1 h2 hrl hr
  have hc := cnt_set ss r hrl (-2, 0)
  rw [if_pos (by omega), if_neg (by decide)] at hc
  have hle := cnt_le ss
  obtain ⟨h', e, t', x⟩ := out_some (N := N) (d := d) t key (by omega) hrl hr (by omega) hN h1 h2
  simp only [if_neg c1, hr, if_neg (show ¬ ((r : Int) < 0) by omega), Int.toNat_natCast, getD_slot hrl]
  refine ⟨h', e, ?_, x⟩
  by_cases hz : cnt (ss.set r (-2, 0)) = 0
  · rw [if_pos (by omega)] at t'
    rw [if_pos hz, cnt_rep]
    rw [show ((0 : Nat) : Int) = (cnt ss : Int) - 1 by omega]
    exact t'
  · rw [if_neg (by omega)] at t'
    rw [if_neg hz]
    rw [show ((cnt (ss.set r (-2, 0)) : Nat) : Int) = (cnt ss : Int) - 1 by omega]
    exact t'

theorem new_no (size : Int) (hs : size < 1 ∨ size > 1024) : evCallT table 25 N (d + 1) 27 [.c (.int .i64 size)] h = some (.c .nilp, h) := by
  rw [evCallT_eq (F := ir27) rfl rfl rfl]
  unfold ir27
  rw [bodyK_eq]
  by_cases c1 : size < 1
  · simp only [enter_eq, ev_seq, seqK_norm, seqK_exit, seqK_ret, ev_reg, ev_cond, condK_true, condK_false, ev_block, blockK_norm, blockK_ret, blockK_exit, ev_loop, ev_skip, ev_exit, ev_ret, regK_cons, regK_nil, guard_none, guard_some, regG_true, regG_false, regO_some, op_mov, op_conv, op_bin, op_bsl, op_box, op_mks, op_s2b, op_pick, op_un, op_eq, op_len, op_ext, op_load, op_iaddr, op_slice, op_b2s, op_idxS, op_mx, op_mn, op_call, op_store, op_app, op_copy, args_eq, result_one', rv_loc, finish_norm, finish_ret, outK_some, keep_true, keep_false, keep_nil, p_bin, p_pick, p_un, p_eq, p_conv, evNew, pureK_some, newK_some, X.eval, set_none, set_some, List.map_cons, List.map_nil, List.getD_cons_zero, List.getD_cons_succ, List.getD_nil, List.set_cons_zero, List.set_cons_succ, binCV, unCV, isShift, intArithF_eq, shiftF_eq, wrapF_eq, intArith, shift, eqVal, bound, asNat_cast, cond_true, cond_false, BEq.rfl, beq_self_eq_true, evalParts, fillParts, AV.cells, AV.ofCells, XV.av, AV.xv, List.length_cons, List.length_nil, zeros, patch, setMany, List.nil_append, List.cons_append, Nat.ble, Nat.add_eq, Nat.zero_add, Nat.add_zero, Nat.reduceAdd, Nat.reduceMul, Nat.reduceSub, Nat.ble_eq, Nat.reduceLeDiff, Nat.reduceBEq, Int.reduceBEq, Int.reduceNeg, Bool.and_true, Bool.and_false, Bool.true_and, Bool.false_and, Bool.not_true, Bool.not_false, Bool.true_eq_false, Bool.false_eq_true, Int.reduceLT, Int.reduceLE, Int.reduceGT, Int.reduceGE, decide_true, decide_false, Bool.not_eq_true, loopN_norm, loopN_exit, tf, ft, ff, decide_eq_true c1]
  · simp only [enter_eq, ev_seq, seqK_norm, seqK_exit, seqK_ret, ev_reg, ev_cond, condK_true, condK_false, ev_block, blockK_norm, blockK_ret, blockK_exit, ev_loop, ev_skip, ev_exit, ev_ret, regK_cons, regK_nil, guard_none, guard_some, regG_true, regG_false, regO_some, op_mov, op_conv, op_bin, op_bsl, op_box, op_mks, op_s2b, op_pick, op_un, op_eq, op_len, op_ext, op_load, op_iaddr, op_slice, op_b2s, op_idxS, op_mx, op_mn, op_call, op_store, op_app, op_copy, args_eq, result_one', rv_loc, finish_norm, finish_ret, outK_some, keep_true, keep_false, keep_nil, p_bin, p_pick, p_un, p_eq, p_conv, evNew, pureK_some, newK_some, X.eval, set_none, set_some, List.map_cons, List.map_nil, List.getD_cons_zero, List.getD_cons_succ, List.getD_nil, List.set_cons_zero, List.set_cons_succ, binCV, unCV, isShift, intArithF_eq, shiftF_eq, wrapF_eq, intArith, shift, eqVal, bound, asNat_cast, cond_true, cond_false, BEq.rfl, beq_self_eq_true, evalParts, fillParts, AV.cells, AV.ofCells, XV.av, AV.xv, List.length_cons, List.length_nil, zeros, patch, setMany, List.nil_append, List.cons_append, Nat.ble, Nat.add_eq, Nat.zero_add, Nat.add_zero, Nat.reduceAdd, Nat.reduceMul, Nat.reduceSub, Nat.ble_eq, Nat.reduceLeDiff, Nat.reduceBEq, Int.reduceBEq, Int.reduceNeg, Bool.and_true, Bool.and_false, Bool.true_and, Bool.false_and, Bool.not_true, Bool.not_false, Bool.true_eq_false, Bool.false_eq_true, Int.reduceLT, Int.reduceLE, Int.reduceGT, Int.reduceGE, decide_true, decide_false, Bool.not_eq_true, loopN_norm, loopN_exit, tf, ft, ff, decide_eq_false c1, decide_eq_true (show size > 1024 by omega)]
theorem rnew_no (size : Int) (hs : size < 1 ∨ size > 1024) : evCallT table 25 N (d + 1) 33 [.c (.int .i64 size)] h = some (.c .nilp, h) := by
  rw [evCallT_eq (F := ir33) rfl rfl rfl]
  unfold ir33
  rw [bodyK_eq]
  by_cases c1 : size < 1
  · simp only [enter_eq, ev_seq, seqK_norm, seqK_exit, seqK_ret, ev_reg, ev_cond, condK_true, condK_false, ev_block, blockK_norm, blockK_ret, blockK_exit, ev_loop, ev_skip, ev_exit, ev_ret, regK_cons, regK_nil, guard_none, guard_some, regG_true, regG_false, regO_some, op_mov, op_conv, op_bin, op_bsl, op_box, op_mks, op_s2b, op_pick, op_un, op_eq, op_len, op_ext, op_load, op_iaddr, op_slice, op_b2s, op_idxS, op_mx, op_mn, op_call, op_store, op_app, op_copy, args_eq, result_one', rv_loc, finish_norm, finish_ret, outK_some, keep_true, keep_false, keep_nil, p_bin, p_pick, p_un, p_eq, p_conv, evNew, pureK_some, newK_some, X.eval, set_none, set_some, List.map_cons, List.map_nil, List.getD_cons_zero, List.getD_cons_succ, List.getD_nil, List.set_cons_zero, List.set_cons_succ, binCV, unCV, isShift, intArithF_eq, shiftF_eq, wrapF_eq, intArith, shift, eqVal, bound, asNat_cast, cond_true, cond_false, BEq.rfl, beq_self_eq_true, evalParts, fillParts, AV.cells, AV.ofCells, XV.av, AV.xv, List.length_cons, List.length_nil, zeros, patch, setMany, List.nil_append, List.cons_append, Nat.ble, Nat.add_eq, Nat.zero_add, Nat.add_zero, Nat.reduceAdd, Nat.reduceMul, Nat.reduceSub, Nat.ble_eq, Nat.reduceLeDiff, Nat.reduceBEq, Int.reduceBEq, Int.reduceNeg, Bool.and_true, Bool.and_false, Bool.true_and, Bool.false_and, Bool.not_true, Bool.not_false, Bool.true_eq_false, Bool.false_eq_true, Int.reduceLT, Int.reduceLE, Int.reduceGT, Int.reduceGE, decide_true, decide_false, Bool.not_eq_true, loopN_norm, loopN_exit, tf, ft, ff, decide_eq_true c1]
  · simp only [enter_eq, ev_seq, seqK_norm, seqK_exit, seqK_ret, ev_reg, ev_cond, condK_true, condK_false, ev_block, blockK_norm, blockK_ret, blockK_exit, ev_loop, ev_skip, ev_exit, ev_ret, regK_cons, regK_nil, guard_none, guard_some, regG_true, regG_false, regO_some, op_mov, op_conv, op_bin, op_bsl, op_box, op_mks, op_s2b, op_pick, op_un, op_eq, op_len, op_ext, op_load, op_iaddr, op_slice, op_b2s, op_idxS, op_mx, op_mn, op_call, op_store, op_app, op_copy, args_eq, result_one', rv_loc, finish_norm, finish_ret, outK_some, keep_true, keep_false, keep_nil, p_bin, p_pick, p_un, p_eq, p_conv, evNew, pureK_some, newK_some, X.eval, set_none, set_some, List.map_cons, List.map_nil, List.getD_cons_zero, List.getD_cons_succ, List.getD_nil, List.set_cons_zero, List.set_cons_succ, binCV, unCV, isShift, intArithF_eq, shiftF_eq, wrapF_eq, intArith, shift, eqVal, bound, asNat_cast, cond_true, cond_false, BEq.rfl, beq_self_eq_true, evalParts, fillParts, AV.cells, AV.ofCells, XV.av, AV.xv, List.length_cons, List.length_nil, zeros, patch, setMany, List.nil_append, List.cons_append, Nat.ble, Nat.add_eq, Nat.zero_add, Nat.add_zero, Nat.reduceAdd, Nat.reduceMul, Nat.reduceSub, Nat.ble_eq, Nat.reduceLeDiff, Nat.reduceBEq, Int.reduceBEq, Int.reduceNeg, Bool.and_true, Bool.and_false, Bool.true_and, Bool.false_and, Bool.not_true, Bool.not_false, Bool.true_eq_false, Bool.false_eq_true, Int.reduceLT, Int.reduceLE, Int.reduceGT, Int.reduceGE, decide_true, decide_false, Bool.not_eq_true, loopN_norm, loopN_exit, tf, ft, ff, decide_eq_false c1, decide_eq_true (show size > 1024 by omega)]

theorem slotC_rep (i : Nat) : slotC (List.replicate i (-1, 0)) ++ [icell (-1), icell 0] = slotC (List.replicate (i + 1) (-1, 0)) := by
  induction i with
  | zero => rfl
  | succ i ih => rw [List.replicate_succ]; show _ :: _ :: (slotC _ ++ _) = _; rw [ih]; rfl

theorem rnew_ok (n : Nat) (h : Heap) (h1 : 1 ≤ n) (h2 : n ≤ 1024) (hN : n + 2 ≤ N) :
    ∃ q b h', evCallT table 25 N (d + 1) 33 [.c (.int .i64 (n : Int))] h = some (.c (.ptr q 0), h') ∧ RT h' q b (List.replicate n (-1, 0)) ∧ Ext h h' ∧ h.next ≤ q ∧ h.next ≤ b := by
  have c1 : decide ((n : Int) < 1) = false := decide_eq_false (by omega)
  have c2 : decide ((n : Int) > 1024) = false := decide_eq_false (by omega)
  rw [evCallT_eq (F := ir33) rfl rfl rfl]
  unfold ir33
  rw [bodyK_eq]
  have L : ∀ loc, keepOnly ir33_k0 loc = [.c (.int .i64 (n : Int)), .junk, .c (.ptr h.next 0), .c (.int .i64 0), .junk, .junk] →
      ∃ r, loopK (evCallT table 25 N d) N ir33_k0 ir33_l0 N loc (h.new (.cells [.nils])) = some r ∧ ∃ c0 c1 l h' x, r = (.exit 0, c0 :: c1 :: .c (.ptr h.next 0) :: l, h') ∧ Mine 2 (h.new (.cells [.nils])) h' x n (slotC (List.replicate n (-1, 0))) ∧ h'.get h.next = some (.cells [x]) ∧ Ext h h' ∧ h.next < h'.next := by
    intro loc hloc
    refine loop_inv (n := n) (fun i loc h' => ∃ x, Mine 2 (h.new (.cells [.nils])) h' x i (slotC (List.replicate i (-1, 0))) ∧ h'.get h.next = some (.cells [x]) ∧ Ext h h' ∧ h.next < h'.next ∧ loc = [.c (.int .i64 (n : Int)), .junk, .c (.ptr h.next 0), .c (.int .i64 (i : Int)), .junk, .junk]) _ ?_ ⟨.nils, Mine.nil, get_new_at, (Ext.refl _).new _, Nat.lt_succ_self _, hloc⟩ (by omega)
    rintro i loc h' hi ⟨x, hx, g, he, hq, rfl⟩
    unfold ir33_l0
    by_cases hlt : i < n
    · left
      refine ⟨hlt, ?_⟩
      have v1 : decide ((i : Int) < (n : Int)) = true := ltNat hlt
      have v2 := succI (i := i) (by omega)
      have r0 : h'.read h.next 0 1 = some [x] := read_cells g rfl
      obtain ⟨h3, a1, a2, a3, a4⟩ := app_mine (m := 0) (y := .c (.sl h'.next 0 1 (.ex 1))) (hx.new (.cells [icell (-1), icell 0])) (by show h.next + 1 ≤ h'.next + 1; omega) (source_new get_new_at rfl) rfl (by omega)
      rw [slotC_rep] at a2
      simp only [icell] at a1
      have hne : blk x ≠ some h.next := fun e => by
        obtain ⟨_, ⟨rfl, _⟩ | ⟨k, rfl, _, hk, _⟩⟩ := hx
        · cases e
        · simp [blk] at e; have : h.next + 1 ≤ k := hk; omega
      have g3 : h3.get h.next = some (.cells [x]) := by rw [a4 _ (Nat.lt_succ_of_lt hq) hne, get_new_old hq]; exact g
      have S : h3.write h.next 0 [.sl (h'.new (.cells [icell (-1), icell 0])).next 0 (i + (0 + 1)) (.dy 2)] = some (h3.put h.next (.cells [.sl (h'.new (.cells [icell (-1), icell 0])).next 0 (i + (0 + 1)) (.dy 2)])) := write_one (v := .sl _ 0 _ _) g3 (show 0 < [x].length by simp)
      simp only [icell] at S
      simp only [enter_eq, ev_seq, seqK_norm, seqK_exit, seqK_ret, ev_reg, ev_cond, condK_true, condK_false, ev_block, blockK_norm, blockK_ret, blockK_exit, ev_loop, ev_skip, ev_exit, ev_ret, regK_cons, regK_nil, guard_none, guard_some, regG_true, regG_false, regO_some, op_mov, op_conv, op_bin, op_bsl, op_box, op_mks, op_s2b, op_pick, op_un, op_eq, op_len, op_ext, op_load, op_iaddr, op_slice, op_b2s, op_idxS, op_mx, op_mn, op_call, op_store, op_app, op_copy, args_eq, result_one', rv_loc, finish_norm, finish_ret, outK_some, keep_true, keep_false, keep_nil, p_bin, p_pick, p_un, p_eq, p_conv, evNew, pureK_some, newK_some, X.eval, set_none, set_some, List.map_cons, List.map_nil, List.getD_cons_zero, List.getD_cons_succ, List.getD_nil, List.set_cons_zero, List.set_cons_succ, binCV, unCV, isShift, intArithF_eq, shiftF_eq, wrapF_eq, intArith, shift, eqVal, bound, asNat_cast, cond_true, cond_false, BEq.rfl, beq_self_eq_true, evalParts, fillParts, AV.cells, AV.ofCells, XV.av, AV.xv, List.length_cons, List.length_nil, zeros, patch, setMany, List.nil_append, List.cons_append, Nat.ble, Nat.add_eq, Nat.zero_add, Nat.add_zero, Nat.reduceAdd, Nat.reduceMul, Nat.reduceSub, Nat.ble_eq, Nat.reduceLeDiff, Nat.reduceBEq, Int.reduceBEq, Int.reduceNeg, Bool.and_true, Bool.and_false, Bool.true_and, Bool.false_and, Bool.not_true, Bool.not_false, Bool.true_eq_false, Bool.false_eq_true, Int.reduceLT, Int.reduceLE, Int.reduceGT, Int.reduceGE, decide_true, decide_false, Bool.not_eq_true, loopN_norm, loopN_exit, tf, ft, ff, v1, v2, op_nilchk, p_nilchk, op_faddr, p_faddr, op_build, p_build', p_load, r0, AV.ofCells, a1, evEff, S]
      refine ⟨_, _, rfl, _, ?_, get_put_at, ?_, ?_, rfl⟩
      · refine a2.keep (Nat.le_refl _) fun k hk hb => get_put_ne ?_
        simp [blk] at hb; rw [← hb]; show h'.next + 1 ≠ h.next; omega
      · refine Ext.put ⟨by rw [a3]; show h.next ≤ h'.next + 1 + 1; omega, fun k hk => ?_⟩ (Nat.le_refl _) _
        have hk' := Nat.lt_of_lt_of_le hk he.1
        rw [a4 k (Nat.lt_succ_of_lt hk') (fun e => by have := hx.young k e; have : h.next + 1 ≤ k := this; omega), get_new_old hk']
        exact he.2 k hk
      · rw [next_put, a3]; show h.next < h'.next + 1 + 1; omega
    · right
      have hin : i = n := by omega
      subst hin
      have v1 : decide ((i : Int) < (i : Int)) = false := geNat (Nat.le_refl _)
      simp only [enter_eq, ev_seq, seqK_norm, seqK_exit, seqK_ret, ev_reg, ev_cond, condK_true, condK_false, ev_block, blockK_norm, blockK_ret, blockK_exit, ev_loop, ev_skip, ev_exit, ev_ret, regK_cons, regK_nil, guard_none, guard_some, regG_true, regG_false, regO_some, op_mov, op_conv, op_bin, op_bsl, op_box, op_mks, op_s2b, op_pick, op_un, op_eq, op_len, op_ext, op_load, op_iaddr, op_slice, op_b2s, op_idxS, op_mx, op_mn, op_call, op_store, op_app, op_copy, args_eq, result_one', rv_loc, finish_norm, finish_ret, outK_some, keep_true, keep_false, keep_nil, p_bin, p_pick, p_un, p_eq, p_conv, evNew, pureK_some, newK_some, X.eval, set_none, set_some, List.map_cons, List.map_nil, List.getD_cons_zero, List.getD_cons_succ, List.getD_nil, List.set_cons_zero, List.set_cons_succ, binCV, unCV, isShift, intArithF_eq, shiftF_eq, wrapF_eq, intArith, shift, eqVal, bound, asNat_cast, cond_true, cond_false, BEq.rfl, beq_self_eq_true, evalParts, fillParts, AV.cells, AV.ofCells, XV.av, AV.xv, List.length_cons, List.length_nil, zeros, patch, setMany, List.nil_append, List.cons_append, Nat.ble, Nat.add_eq, Nat.zero_add, Nat.add_zero, Nat.reduceAdd, Nat.reduceMul, Nat.reduceSub, Nat.ble_eq, Nat.reduceLeDiff, Nat.reduceBEq, Int.reduceBEq, Int.reduceNeg, Bool.and_true, Bool.and_false, Bool.true_and, Bool.false_and, Bool.not_true, Bool.not_false, Bool.true_eq_false, Bool.false_eq_true, Int.reduceLT, Int.reduceLE, Int.reduceGT, Int.reduceGE, decide_true, decide_false, Bool.not_eq_true, loopN_norm, loopN_exit, tf, ft, ff, v1]
      exact ⟨_, rfl, by simp, _, _, _, h', x, rfl, hx, g, he, hq⟩
  obtain ⟨r, hr, c0, c3, l, h', x, rfl, hx, g, he, hq⟩ := L [.c (.int .i64 (n : Int)), .c .nilp, .c (.ptr h.next 0), .c (.int .i64 0), .c (.bool false), .tup []] rfl
  obtain ⟨_, ⟨_, hn⟩ | ⟨k, rfl, hk, hk1, hk2⟩⟩ := hx
  · omega
  have hk1' : h.next + 1 ≤ k := hk1
  simp only [enter_eq, ev_seq, seqK_norm, seqK_exit, seqK_ret, ev_reg, ev_cond, condK_true, condK_false, ev_block, blockK_norm, blockK_ret, blockK_exit, ev_loop, ev_skip, ev_exit, ev_ret, regK_cons, regK_nil, guard_none, guard_some, regG_true, regG_false, regO_some, op_mov, op_conv, op_bin, op_bsl, op_box, op_mks, op_s2b, op_pick, op_un, op_eq, op_len, op_ext, op_load, op_iaddr, op_slice, op_b2s, op_idxS, op_mx, op_mn, op_call, op_store, op_app, op_copy, args_eq, result_one', rv_loc, finish_norm, finish_ret, outK_some, keep_true, keep_false, keep_nil, p_bin, p_pick, p_un, p_eq, p_conv, evNew, pureK_some, newK_some, X.eval, set_none, set_some, List.map_cons, List.map_nil, List.getD_cons_zero, List.getD_cons_succ, List.getD_nil, List.set_cons_zero, List.set_cons_succ, binCV, unCV, isShift, intArithF_eq, shiftF_eq, wrapF_eq, intArith, shift, eqVal, bound, asNat_cast, cond_true, cond_false, BEq.rfl, beq_self_eq_true, evalParts, fillParts, AV.cells, AV.ofCells, XV.av, AV.xv, List.length_cons, List.length_nil, zeros, patch, setMany, List.nil_append, List.cons_append, Nat.ble, Nat.add_eq, Nat.zero_add, Nat.add_zero, Nat.reduceAdd, Nat.reduceMul, Nat.reduceSub, Nat.ble_eq, Nat.reduceLeDiff, Nat.reduceBEq, Int.reduceBEq, Int.reduceNeg, Bool.and_true, Bool.and_false, Bool.true_and, Bool.false_and, Bool.not_true, Bool.not_false, Bool.true_eq_false, Bool.false_eq_true, Int.reduceLT, Int.reduceLE, Int.reduceGT, Int.reduceGE, decide_true, decide_false, Bool.not_eq_true, loopN_norm, loopN_exit, tf, ft, ff, c1, c2, op_build, p_build', hr, blockK_exit_eq]
  exact ⟨h.next, k, h', rfl, ⟨⟨_, by rw [List.length_replicate]; exact g⟩, hk, by omega, hq, hk2⟩, he, Nat.le_refl _, by omega⟩

theorem slots_ok {c : Int} (t : TB h p b ss c) {m : Nat} (hm : ss.length = m + 1) (hm2 : m < 1024) :
    ∃ j h', evCallT table 25 N (d + 2) 32 [.c (.ptr p 0)] h = some (.c (.sl j 0 (m + 1) (.dy 2)), h') ∧ h'.get j = some (.cells (slotC ss)) ∧ Ext h h' ∧ h.next ≤ j ∧ j < h'.next := by
  have r0 := t.r0
  have hs : source (h.new (.cells [])) 2 (.c (.sl b 0 ss.length (.ex ss.length))) = some (m + 1, slotC ss) := by
    rw [hm]; exact source_new ((get_new_old t.bn).trans t.slots) (by rw [slotC_len, hm])
  obtain ⟨h', a1, ⟨a2, a3⟩, a4, a5⟩ := app_new (sz := 2) (h0 := h) (h := h.new (.cells [])) (i := h.next) get_new_at (Nat.le_succ _) hs (by rw [slotC_len, hm]) (by omega)
  have e1 : evCallT table 25 N (d + 1) 46 [.c (.sl b 0 ss.length (.ex ss.length))] h = some (.c (.sl (h.next + 1) 0 (m + 1) (.dy 2)), h') := by
    rw [evCallT_eq (F := ir46) rfl rfl rfl]
    unfold ir46
    rw [bodyK_eq]
    have a1' : evApp (h.new (.cells [])) 2 (.c (.sl h.next 0 0 (.ex 0))) (.c (.sl b 0 ss.length (.ex ss.length))) = some (.c (.sl (h.next + 1) 0 (m + 1) (.dy 2)), h') := a1
    simp only [enter_eq, ev_seq, seqK_norm, seqK_exit, seqK_ret, ev_reg, ev_cond, condK_true, condK_false, ev_block, blockK_norm, blockK_ret, blockK_exit, ev_loop, ev_skip, ev_exit, ev_ret, regK_cons, regK_nil, guard_none, guard_some, regG_true, regG_false, regO_some, op_mov, op_conv, op_bin, op_bsl, op_box, op_mks, op_s2b, op_pick, op_un, op_eq, op_len, op_ext, op_load, op_iaddr, op_slice, op_b2s, op_idxS, op_mx, op_mn, op_call, op_store, op_app, op_copy, args_eq, result_one', rv_loc, finish_norm, finish_ret, outK_some, keep_true, keep_false, keep_nil, p_bin, p_pick, p_un, p_eq, p_conv, evNew, pureK_some, newK_some, X.eval, set_none, set_some, List.map_cons, List.map_nil, List.getD_cons_zero, List.getD_cons_succ, List.getD_nil, List.set_cons_zero, List.set_cons_succ, binCV, unCV, isShift, intArithF_eq, shiftF_eq, wrapF_eq, intArith, shift, eqVal, bound, asNat_cast, cond_true, cond_false, BEq.rfl, beq_self_eq_true, evalParts, fillParts, AV.cells, AV.ofCells, XV.av, AV.xv, List.length_cons, List.length_nil, zeros, patch, setMany, List.nil_append, List.cons_append, Nat.ble, Nat.add_eq, Nat.zero_add, Nat.add_zero, Nat.reduceAdd, Nat.reduceMul, Nat.reduceSub, Nat.ble_eq, Nat.reduceLeDiff, Nat.reduceBEq, Int.reduceBEq, Int.reduceNeg, Bool.and_true, Bool.and_false, Bool.true_and, Bool.false_and, Bool.not_true, Bool.not_false, Bool.true_eq_false, Bool.false_eq_true, Int.reduceLT, Int.reduceLE, Int.reduceGT, Int.reduceGE, decide_true, decide_false, Bool.not_eq_true, loopN_norm, loopN_exit, tf, ft, ff, a1']
  rcases a3 with ⟨hc, _⟩ | ⟨j, hj, hg, hj1, hj2⟩
  · cases hc
  have hj' : j = h.next + 1 := by cases hj; rfl
  subst hj'
  rw [evCallT_eq (F := ir32) rfl rfl rfl]
  unfold ir32
  rw [bodyK_eq]
  simp only [enter_eq, ev_seq, seqK_norm, seqK_exit, seqK_ret, ev_reg, ev_cond, condK_true, condK_false, ev_block, blockK_norm, blockK_ret, blockK_exit, ev_loop, ev_skip, ev_exit, ev_ret, regK_cons, regK_nil, guard_none, guard_some, regG_true, regG_false, regO_some, op_mov, op_conv, op_bin, op_bsl, op_box, op_mks, op_s2b, op_pick, op_un, op_eq, op_len, op_ext, op_load, op_iaddr, op_slice, op_b2s, op_idxS, op_mx, op_mn, op_call, op_store, op_app, op_copy, args_eq, result_one', rv_loc, finish_norm, finish_ret, outK_some, keep_true, keep_false, keep_nil, p_bin, p_pick, p_un, p_eq, p_conv, evNew, pureK_some, newK_some, X.eval, set_none, set_some, List.map_cons, List.map_nil, List.getD_cons_zero, List.getD_cons_succ, List.getD_nil, List.set_cons_zero, List.set_cons_succ, binCV, unCV, isShift, intArithF_eq, shiftF_eq, wrapF_eq, intArith, shift, eqVal, bound, asNat_cast, cond_true, cond_false, BEq.rfl, beq_self_eq_true, evalParts, fillParts, AV.cells, AV.ofCells, XV.av, AV.xv, List.length_cons, List.length_nil, zeros, patch, setMany, List.nil_append, List.cons_append, Nat.ble, Nat.add_eq, Nat.zero_add, Nat.add_zero, Nat.reduceAdd, Nat.reduceMul, Nat.reduceSub, Nat.ble_eq, Nat.reduceLeDiff, Nat.reduceBEq, Int.reduceBEq, Int.reduceNeg, Bool.and_true, Bool.and_false, Bool.true_and, Bool.false_and, Bool.not_true, Bool.not_false, Bool.true_eq_false, Bool.false_eq_true, Int.reduceLT, Int.reduceLE, Int.reduceGT, Int.reduceGE, decide_true, decide_false, Bool.not_eq_true, loopN_norm, loopN_exit, tf, ft, ff, op_nilchk, p_nilchk, op_faddr, p_faddr, p_load, r0, AV.ofCells, e1]
  exact ⟨_, _, rfl, hg, ⟨by rw [a4]; show h.next ≤ h.next + 1 + 1; omega, fun i hi => by rw [a5 i (Nat.lt_succ_of_lt hi), get_new_old hi]⟩, hj1, hj2⟩

theorem slotC_two : ∀ (ss : Slots) (i : Nat) (hi : i < ss.length), ((slotC ss).drop (i * 2)).take 2 = [icell ss[i].1, icell ss[i].2]
  | s :: ss, 0, _ => rfl
  | s :: ss, i + 1, h => by
    rw [show (i + 1) * 2 = i * 2 + 1 + 1 by omega]
    exact slotC_two ss i (by simpa using h)
theorem read_two {j : Nat} (g : h.get j = some (.cells (slotC ss))) {i : Nat} (hi : i < ss.length) : h.read j (i * 2) 2 = some [.int .i64 ss[i].1, .int .i64 ss[i].2] := by
  rw [read_part g (by rw [slotC_len]; omega), slotC_two ss i hi]; rfl
theorem eq_two (a b : Int) : eqCells [true, true] [.int .i64 a, .int .i64 b] [.int .i64 a, .int .i64 b] = some true := by simp [eqCells]

theorem same_ok {i j : Nat} {c c' : Cap} (gi : h.get i = some (.cells (slotC ss))) (gj : h.get j = some (.cells (slotC ss))) (hN : ss.length + 2 ≤ N) (h2 : ss.length ≤ 1024) :
    evCallT table 25 N (d + 1) 38 [.c (.sl i 0 ss.length c), .c (.sl j 0 ss.length c')] h = some (.c (.bool true), h) := by
  have bneI : ∀ {a b : Int}, (a != b) = !(a == b) := rfl
  have l1 : ∀ loc vals h', evPure loc (.c (.sl i 0 ss.length c) :: vals) h' (.len .sl (.val 0)) = some (.c (.int .i64 (ss.length : Int))) := fun _ _ _ => rfl
  have l2 : ∀ loc a vals h', evPure loc (a :: .c (.sl j 0 ss.length c') :: vals) h' (.len .sl (.val 1)) = some (.c (.int .i64 (ss.length : Int))) := fun _ _ _ _ => rfl
  have l3 : ∀ loc vals h', evPure loc (.c (.sl j 0 ss.length c') :: vals) h' (.len .sl (.val 0)) = some (.c (.int .i64 (ss.length : Int))) := fun _ _ _ => rfl
  rw [evCallT_eq (F := ir38) rfl rfl rfl]
  unfold ir38
  rw [bodyK_eq]
  have L : ∀ loc, keepOnly ir38_k0 loc = [.c (.sl i 0 ss.length c), .c (.sl j 0 ss.length c'), .junk, .c (.int .i64 0), .junk, .junk, .junk] →
      ∃ r, loopK (evCallT table 25 N d) N ir38_k0 ir38_l0 N loc h = some r ∧ ∃ c0 c1 c2 l, r = (.exit 0, c0 :: c1 :: c2 :: l, h) := by
    intro loc hloc
    refine loop_inv (n := ss.length) (fun k loc h' => h' = h ∧ loc = [.c (.sl i 0 ss.length c), .c (.sl j 0 ss.length c'), .junk, .c (.int .i64 (k : Int)), .junk, .junk, .junk]) _ ?_ ⟨rfl, hloc⟩ (by omega)
    rintro k loc h' hk ⟨rfl, rfl⟩
    unfold ir38_l0
    by_cases hlt : k < ss.length
    · left
      refine ⟨hlt, ?_⟩
      have v1 : decide ((k : Int) < (ss.length : Int)) = true := ltNat hlt
      have v2 := succI (i := k) (by omega)
      have m1 : Nat.blt k ss.length = true := bltT hlt
      have r1 := read_two gi hlt
      have r2 := read_two gj hlt
      simp only [enter_eq, ev_seq, seqK_norm, seqK_exit, seqK_ret, ev_reg, ev_cond, condK_true, condK_false, ev_block, blockK_norm, blockK_ret, blockK_exit, ev_loop, ev_skip, ev_exit, ev_ret, regK_cons, regK_nil, guard_none, guard_some, regG_true, regG_false, regO_some, op_mov, op_conv, op_bin, op_bsl, op_box, op_mks, op_s2b, op_pick, op_un, op_eq, op_len, op_ext, op_load, op_iaddr, op_slice, op_b2s, op_idxS, op_mx, op_mn, op_call, op_store, op_app, op_copy, args_eq, result_one', rv_loc, finish_norm, finish_ret, outK_some, keep_true, keep_false, keep_nil, p_bin, p_pick, p_un, p_eq, p_conv, evNew, pureK_some, newK_some, X.eval, set_none, set_some, List.map_cons, List.map_nil, List.getD_cons_zero, List.getD_cons_succ, List.getD_nil, List.set_cons_zero, List.set_cons_succ, binCV, unCV, isShift, intArithF_eq, shiftF_eq, wrapF_eq, intArith, shift, eqVal, bound, asNat_cast, cond_true, cond_false, BEq.rfl, beq_self_eq_true, evalParts, fillParts, AV.cells, AV.ofCells, XV.av, AV.xv, List.length_cons, List.length_nil, zeros, patch, setMany, List.nil_append, List.cons_append, Nat.ble, Nat.add_eq, Nat.zero_add, Nat.add_zero, Nat.reduceAdd, Nat.reduceMul, Nat.reduceSub, Nat.ble_eq, Nat.reduceLeDiff, Nat.reduceBEq, Int.reduceBEq, Int.reduceNeg, Bool.and_true, Bool.and_false, Bool.true_and, Bool.false_and, Bool.not_true, Bool.not_false, Bool.true_eq_false, Bool.false_eq_true, Int.reduceLT, Int.reduceLE, Int.reduceGT, Int.reduceGE, decide_true, decide_false, Bool.not_eq_true, loopN_norm, loopN_exit, tf, ft, ff, ev_dreg, dregK_nil, dregK_cons, dregE_true, dregP_some, dregX_some, d_mov, d_bin, d_eq, d_pick, d_un, d_conv, d_b2s, d_len, d_load, d_iaddr, d_slice, d_ext, d_call, d_store, chk_done, chk_none, chk_some, chkG_true, chkG_false, chkOne_nil, chkOne_cons, chkH_some, chkV_same, stage_none, stage_some, look_hit, look_miss, news_nil, wb_cons, wb_nil, skip0, List.reverse_cons, List.reverse_nil, l1, v1, v2, p_iaddr, m1, p_load, AV.ofCells, r1, r2, eq_two]
      exact ⟨_, _, rfl, rfl, rfl⟩
    · right
      have hin : k = ss.length := by omega
      subst hin
      have v1 : decide ((ss.length : Int) < (ss.length : Int)) = false := geNat (Nat.le_refl _)
      simp only [enter_eq, ev_seq, seqK_norm, seqK_exit, seqK_ret, ev_reg, ev_cond, condK_true, condK_false, ev_block, blockK_norm, blockK_ret, blockK_exit, ev_loop, ev_skip, ev_exit, ev_ret, regK_cons, regK_nil, guard_none, guard_some, regG_true, regG_false, regO_some, op_mov, op_conv, op_bin, op_bsl, op_box, op_mks, op_s2b, op_pick, op_un, op_eq, op_len, op_ext, op_load, op_iaddr, op_slice, op_b2s, op_idxS, op_mx, op_mn, op_call, op_store, op_app, op_copy, args_eq, result_one', rv_loc, finish_norm, finish_ret, outK_some, keep_true, keep_false, keep_nil, p_bin, p_pick, p_un, p_eq, p_conv, evNew, pureK_some, newK_some, X.eval, set_none, set_some, List.map_cons, List.map_nil, List.getD_cons_zero, List.getD_cons_succ, List.getD_nil, List.set_cons_zero, List.set_cons_succ, binCV, unCV, isShift, intArithF_eq, shiftF_eq, wrapF_eq, intArith, shift, eqVal, bound, asNat_cast, cond_true, cond_false, BEq.rfl, beq_self_eq_true, evalParts, fillParts, AV.cells, AV.ofCells, XV.av, AV.xv, List.length_cons, List.length_nil, zeros, patch, setMany, List.nil_append, List.cons_append, Nat.ble, Nat.add_eq, Nat.zero_add, Nat.add_zero, Nat.reduceAdd, Nat.reduceMul, Nat.reduceSub, Nat.ble_eq, Nat.reduceLeDiff, Nat.reduceBEq, Int.reduceBEq, Int.reduceNeg, Bool.and_true, Bool.and_false, Bool.true_and, Bool.false_and, Bool.not_true, Bool.not_false, Bool.true_eq_false, Bool.false_eq_true, Int.reduceLT, Int.reduceLE, Int.reduceGT, Int.reduceGE, decide_true, decide_false, Bool.not_eq_true, loopN_norm, loopN_exit, tf, ft, ff, l1, v1]
      exact ⟨_, rfl, by simp, _, _, _, _, rfl⟩
  obtain ⟨r, hr, c0, c1, c2, l, rfl⟩ := L [.c (.sl i 0 ss.length c), .c (.sl j 0 ss.length c'), .c (.bool false), .c (.int .i64 0), .c (.bool false), .tup [], .tup []] rfl
  have eqq : ∀ a : Int, (a == a) = true := fun a => by simp
  simp only [enter_eq, ev_seq, seqK_norm, seqK_exit, seqK_ret, ev_reg, ev_cond, condK_true, condK_false, ev_block, blockK_norm, blockK_ret, blockK_exit, ev_loop, ev_skip, ev_exit, ev_ret, regK_cons, regK_nil, guard_none, guard_some, regG_true, regG_false, regO_some, op_mov, op_conv, op_bin, op_bsl, op_box, op_mks, op_s2b, op_pick, op_un, op_eq, op_len, op_ext, op_load, op_iaddr, op_slice, op_b2s, op_idxS, op_mx, op_mn, op_call, op_store, op_app, op_copy, args_eq, result_one', rv_loc, finish_norm, finish_ret, outK_some, keep_true, keep_false, keep_nil, p_bin, p_pick, p_un, p_eq, p_conv, evNew, pureK_some, newK_some, X.eval, set_none, set_some, List.map_cons, List.map_nil, List.getD_cons_zero, List.getD_cons_succ, List.getD_nil, List.set_cons_zero, List.set_cons_succ, binCV, unCV, isShift, intArithF_eq, shiftF_eq, wrapF_eq, intArith, shift, eqVal, bound, asNat_cast, cond_true, cond_false, BEq.rfl, beq_self_eq_true, evalParts, fillParts, AV.cells, AV.ofCells, XV.av, AV.xv, List.length_cons, List.length_nil, zeros, patch, setMany, List.nil_append, List.cons_append, Nat.ble, Nat.add_eq, Nat.zero_add, Nat.add_zero, Nat.reduceAdd, Nat.reduceMul, Nat.reduceSub, Nat.ble_eq, Nat.reduceLeDiff, Nat.reduceBEq, Int.reduceBEq, Int.reduceNeg, Bool.and_true, Bool.and_false, Bool.true_and, Bool.false_and, Bool.not_true, Bool.not_false, Bool.true_eq_false, Bool.false_eq_true, Int.reduceLT, Int.reduceLE, Int.reduceGT, Int.reduceGE, decide_true, decide_false, Bool.not_eq_true, loopN_norm, loopN_exit, tf, ft, ff, bneI, l1, l2, l3, eqq, hr, blockK_exit_eq]
end
end Lav
