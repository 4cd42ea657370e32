/-
  Layer 10: frames that are added, taken, dropped, retired.
-/
import Derived.Test.YtdilhnnbfkiacaaAre1
set_option maxRecDepth 100000
set_option linter.unusedSimpArgs false
namespace Lav
open Go (IntKind)

def retIdx (fs : List Fm) : Nat := fs.findIdx (fun f => f.st == 4)
abbrev frZ : Fm := ⟨0, -1, 0, false, .nils⟩
abbrev frO : Fm := ⟨0, 0, 0, false, .nils⟩
theorem frZ_ok : Okf frZ := ⟨.inl rfl, fun h => absurd h (by decide), fun _ => ⟨rfl, rfl, rfl⟩⟩

section
variable {N d : Nat} {h : Heap} {p : Nat} {a : AP} {fs : List Fm} {o : List Int} {M : Nat → Option Int} {c : Nat}

theorem afind_ok (A : Ra h p a fs o M c) (k : Nat) (hN : 100 ≤ N) : evCallT table 18 N (d + 4) 9 [.c (.ptr p 0), .c (.int .i64 (k : Int))] h = some (.c (.int .i64 ((M k).getD (-1))), h) := by
  have r2 := A.r2
  have e1 := A.dt.get (N := N) (d := d) k (by omega)
  rw [evCallT_eq (F := ir9) rfl rfl rfl]
  unfold ir9
  rw [bodyK_eq]
  simp only [enter_eq, ev_seq, seqK_norm, seqK_exit, seqK_ret, ev_reg, ev_cond, condK_true, condK_false, ev_block, blockK_norm, blockK_ret, blockK_exit, ev_loop, ev_skip, ev_exit, ev_ret, regK_cons, regK_nil, guard_none, guard_some, regG_true, regG_false, regO_some, op_mov, op_conv, op_bin, op_bsl, op_box, op_mks, op_s2b, op_pick, op_un, op_eq, op_len, op_ext, op_load, op_iaddr, op_slice, op_b2s, op_idxS, op_mx, op_mn, op_call, op_store, op_app, op_copy, args_eq, result_one', rv_loc, finish_norm, finish_ret, outK_some, keep_true, keep_false, keep_nil, p_bin, p_pick, p_un, p_eq, p_conv, evNew, pureK_some, newK_some, X.eval, set_none, set_some, List.map_cons, List.map_nil, List.getD_cons_zero, List.getD_cons_succ, List.getD_nil, List.set_cons_zero, List.set_cons_succ, binCV, unCV, isShift, intArithF_eq, shiftF_eq, wrapF_eq, intArith, shift, eqVal, bound, asNat_cast, cond_true, cond_false, BEq.rfl, beq_self_eq_true, evalParts, fillParts, AV.cells, AV.ofCells, XV.av, AV.xv, List.length_cons, List.length_nil, zeros, patch, setMany, List.nil_append, List.cons_append, Nat.ble, Nat.add_eq, Nat.zero_add, Nat.add_zero, Nat.reduceAdd, Nat.reduceMul, Nat.reduceSub, Nat.ble_eq, Nat.reduceLeDiff, Nat.reduceBEq, Int.reduceBEq, Int.reduceNeg, Bool.and_true, Bool.and_false, Bool.true_and, Bool.false_and, Bool.not_true, Bool.not_false, Bool.true_eq_false, Bool.false_eq_true, Int.reduceLT, Int.reduceLE, Int.reduceGT, Int.reduceGE, decide_true, decide_false, Bool.not_eq_true, loopN_norm, loopN_exit, tf, ft, ff, op_nilchk, p_nilchk, op_faddr, p_faddr, p_load, r2, AV.ofCells, e1]
theorem find_neg (A : Ra h p a fs o M c) {k : Int} (hk : k < 0) (hN : 100 ≤ N) : evCallT table 18 N (d + 4) 9 [.c (.ptr p 0), .c (.int .i64 k)] h = some (.c (.int .i64 (-1)), h) := by
  have r2 := A.r2
  obtain ⟨⟨ss, hl, tb, _⟩, h1, h2⟩ := A.dt
  have e1 := get_ok (N := N) (d := d) tb k (by omega) (by omega) (by omega)
  unfold getM at e1
  rw [if_pos (.inl hk)] at e1
  rw [evCallT_eq (F := ir9) rfl rfl rfl]
  unfold ir9
  rw [bodyK_eq]
  simp only [enter_eq, ev_seq, seqK_norm, seqK_exit, seqK_ret, ev_reg, ev_cond, condK_true, condK_false, ev_block, blockK_norm, blockK_ret, blockK_exit, ev_loop, ev_skip, ev_exit, ev_ret, regK_cons, regK_nil, guard_none, guard_some, regG_true, regG_false, regO_some, op_mov, op_conv, op_bin, op_bsl, op_box, op_mks, op_s2b, op_pick, op_un, op_eq, op_len, op_ext, op_load, op_iaddr, op_slice, op_b2s, op_idxS, op_mx, op_mn, op_call, op_store, op_app, op_copy, args_eq, result_one', rv_loc, finish_norm, finish_ret, outK_some, keep_true, keep_false, keep_nil, p_bin, p_pick, p_un, p_eq, p_conv, evNew, pureK_some, newK_some, X.eval, set_none, set_some, List.map_cons, List.map_nil, List.getD_cons_zero, List.getD_cons_succ, List.getD_nil, List.set_cons_zero, List.set_cons_succ, binCV, unCV, isShift, intArithF_eq, shiftF_eq, wrapF_eq, intArith, shift, eqVal, bound, asNat_cast, cond_true, cond_false, BEq.rfl, beq_self_eq_true, evalParts, fillParts, AV.cells, AV.ofCells, XV.av, AV.xv, List.length_cons, List.length_nil, zeros, patch, setMany, List.nil_append, List.cons_append, Nat.ble, Nat.add_eq, Nat.zero_add, Nat.add_zero, Nat.reduceAdd, Nat.reduceMul, Nat.reduceSub, Nat.ble_eq, Nat.reduceLeDiff, Nat.reduceBEq, Int.reduceBEq, Int.reduceNeg, Bool.and_true, Bool.and_false, Bool.true_and, Bool.false_and, Bool.not_true, Bool.not_false, Bool.true_eq_false, Bool.false_eq_true, Int.reduceLT, Int.reduceLE, Int.reduceGT, Int.reduceGE, decide_true, decide_false, Bool.not_eq_true, loopN_norm, loopN_exit, tf, ft, ff, op_nilchk, p_nilchk, op_faddr, p_faddr, p_load, r2, AV.ofCells, e1]
theorem free_ok (A : Ra h p a fs o M c) : evCallT table 18 N (d + 2) 10 [.c (.ptr p 0)] h = some (.c (.int .i64 (o.length : Int)), h) := by
  have r1 := A.r1
  have e1 := len_ok' (N := N) (d := d) A.ll
  rw [evCallT_eq (F := ir10) rfl rfl rfl]
  unfold ir10
  rw [bodyK_eq]
  simp only [enter_eq, ev_seq, seqK_norm, seqK_exit, seqK_ret, ev_reg, ev_cond, condK_true, condK_false, ev_block, blockK_norm, blockK_ret, blockK_exit, ev_loop, ev_skip, ev_exit, ev_ret, regK_cons, regK_nil, guard_none, guard_some, regG_true, regG_false, regO_some, op_mov, op_conv, op_bin, op_bsl, op_box, op_mks, op_s2b, op_pick, op_un, op_eq, op_len, op_ext, op_load, op_iaddr, op_slice, op_b2s, op_idxS, op_mx, op_mn, op_call, op_store, op_app, op_copy, args_eq, result_one', rv_loc, finish_norm, finish_ret, outK_some, keep_true, keep_false, keep_nil, p_bin, p_pick, p_un, p_eq, p_conv, evNew, pureK_some, newK_some, X.eval, set_none, set_some, List.map_cons, List.map_nil, List.getD_cons_zero, List.getD_cons_succ, List.getD_nil, List.set_cons_zero, List.set_cons_succ, binCV, unCV, isShift, intArithF_eq, shiftF_eq, wrapF_eq, intArith, shift, eqVal, bound, asNat_cast, cond_true, cond_false, BEq.rfl, beq_self_eq_true, evalParts, fillParts, AV.cells, AV.ofCells, XV.av, AV.xv, List.length_cons, List.length_nil, zeros, patch, setMany, List.nil_append, List.cons_append, Nat.ble, Nat.add_eq, Nat.zero_add, Nat.add_zero, Nat.reduceAdd, Nat.reduceMul, Nat.reduceSub, Nat.ble_eq, Nat.reduceLeDiff, Nat.reduceBEq, Int.reduceBEq, Int.reduceNeg, Bool.and_true, Bool.and_false, Bool.true_and, Bool.false_and, Bool.not_true, Bool.not_false, Bool.true_eq_false, Bool.false_eq_true, Int.reduceLT, Int.reduceLE, Int.reduceGT, Int.reduceGE, decide_true, decide_false, Bool.not_eq_true, loopN_norm, loopN_exit, tf, ft, ff, op_nilchk, p_nilchk, op_faddr, p_faddr, p_load, r1, AV.ofCells, e1]

theorem retire_no (A : Ra h p a fs [] M c) : evCallT table 18 N (d + 3) 16 [.c (.ptr p 0)] h = some (.c (.int .i64 (-1)), h) := by
  have r1 := A.r1
  have e1 := first_ok (N := N) (d := d + 1) A.ll
  have e1' : evCallT table 18 N (d + 1 + 1) 37 [.c (.ptr a.q 0)] h = some (.c (.int .i64 (-1)), h) := e1
  rw [evCallT_eq (F := ir16) rfl rfl rfl]
  unfold ir16
  rw [bodyK_eq]
  simp only [enter_eq, ev_seq, seqK_norm, seqK_exit, seqK_ret, ev_reg, ev_cond, condK_true, condK_false, ev_block, blockK_norm, blockK_ret, blockK_exit, ev_loop, ev_skip, ev_exit, ev_ret, regK_cons, regK_nil, guard_none, guard_some, regG_true, regG_false, regO_some, op_mov, op_conv, op_bin, op_bsl, op_box, op_mks, op_s2b, op_pick, op_un, op_eq, op_len, op_ext, op_load, op_iaddr, op_slice, op_b2s, op_idxS, op_mx, op_mn, op_call, op_store, op_app, op_copy, args_eq, result_one', rv_loc, finish_norm, finish_ret, outK_some, keep_true, keep_false, keep_nil, p_bin, p_pick, p_un, p_eq, p_conv, evNew, pureK_some, newK_some, X.eval, set_none, set_some, List.map_cons, List.map_nil, List.getD_cons_zero, List.getD_cons_succ, List.getD_nil, List.set_cons_zero, List.set_cons_succ, binCV, unCV, isShift, intArithF_eq, shiftF_eq, wrapF_eq, intArith, shift, eqVal, bound, asNat_cast, cond_true, cond_false, BEq.rfl, beq_self_eq_true, evalParts, fillParts, AV.cells, AV.ofCells, XV.av, AV.xv, List.length_cons, List.length_nil, zeros, patch, setMany, List.nil_append, List.cons_append, Nat.ble, Nat.add_eq, Nat.zero_add, Nat.add_zero, Nat.reduceAdd, Nat.reduceMul, Nat.reduceSub, Nat.ble_eq, Nat.reduceLeDiff, Nat.reduceBEq, Int.reduceBEq, Int.reduceNeg, Bool.and_true, Bool.and_false, Bool.true_and, Bool.false_and, Bool.not_true, Bool.not_false, Bool.true_eq_false, Bool.false_eq_true, Int.reduceLT, Int.reduceLE, Int.reduceGT, Int.reduceGE, decide_true, decide_false, Bool.not_eq_true, loopN_norm, loopN_exit, tf, ft, ff, op_nilchk, p_nilchk, op_faddr, p_faddr, p_load, r1, AV.ofCells, e1']
theorem retire_ar {i : Nat} {o' : List Int} (A : Ra h p a fs ((i : Int) :: o') M c) (hi : i < fs.length) (hl : o'.length < 1000) :
    ∃ h', evCallT table 18 N (d + 3) 16 [.c (.ptr p 0)] h = some (.c (.int .i64 (i : Int)), h') ∧ Ra h' p a (fs.set i ⟨4, fs[i].pg, fs[i].pn, fs[i].dt, fs[i].y⟩) o' M c ∧ ExtB (own p a) h h' := by
  have r1 := A.r1
  have e1 : evCallT table 18 N (d + 1 + 1) 37 [.c (.ptr a.q 0)] h = some (.c (.int .i64 (i : Int)), h) := first_ok (N := N) (d := d + 1) A.ll
  obtain ⟨h1, e2, l1, x1⟩ := out_ok (N := N) (d := d) (x := (i : Int)) A.ll (by simp) (by simp; omega)
  rw [List.erase_cons_head] at l1
  obtain ⟨A1, y1⟩ := A.list l1 x1
  obtain ⟨fb, hx, hf, hg⟩ := A1.at_ hi
  obtain ⟨h2, w, A2, y2, n2⟩ := A1.poke hi hx (k := 0) (v := .int .i64 4) (g := ⟨4, fs[i].pg, fs[i].pn, fs[i].dt, fs[i].y⟩) (by omega) rfl
  rw [Nat.add_zero] at w
  have q0 := A1.r0
  rw [hx] at q0
  have m1 : Nat.blt i fs.length = true := bltT hi
  have v1 : decide ((i : Int) ≥ 0) = true := decide_eq_true (by omega)
  rw [evCallT_eq (F := ir16) rfl rfl rfl]
  unfold ir16
  rw [bodyK_eq]
  simp only [enter_eq, ev_seq, seqK_norm, seqK_exit, seqK_ret, ev_reg, ev_cond, condK_true, condK_false, ev_block, blockK_norm, blockK_ret, blockK_exit, ev_loop, ev_skip, ev_exit, ev_ret, regK_cons, regK_nil, guard_none, guard_some, regG_true, regG_false, regO_some, op_mov, op_conv, op_bin, op_bsl, op_box, op_mks, op_s2b, op_pick, op_un, op_eq, op_len, op_ext, op_load, op_iaddr, op_slice, op_b2s, op_idxS, op_mx, op_mn, op_call, op_store, op_app, op_copy, args_eq, result_one', rv_loc, finish_norm, finish_ret, outK_some, keep_true, keep_false, keep_nil, p_bin, p_pick, p_un, p_eq, p_conv, evNew, pureK_some, newK_some, X.eval, set_none, set_some, List.map_cons, List.map_nil, List.getD_cons_zero, List.getD_cons_succ, List.getD_nil, List.set_cons_zero, List.set_cons_succ, binCV, unCV, isShift, intArithF_eq, shiftF_eq, wrapF_eq, intArith, shift, eqVal, bound, asNat_cast, cond_true, cond_false, BEq.rfl, beq_self_eq_true, evalParts, fillParts, AV.cells, AV.ofCells, XV.av, AV.xv, List.length_cons, List.length_nil, zeros, patch, setMany, List.nil_append, List.cons_append, Nat.ble, Nat.add_eq, Nat.zero_add, Nat.add_zero, Nat.reduceAdd, Nat.reduceMul, Nat.reduceSub, Nat.ble_eq, Nat.reduceLeDiff, Nat.reduceBEq, Int.reduceBEq, Int.reduceNeg, Bool.and_true, Bool.and_false, Bool.true_and, Bool.false_and, Bool.not_true, Bool.not_false, Bool.true_eq_false, Bool.false_eq_true, Int.reduceLT, Int.reduceLE, Int.reduceGT, Int.reduceGE, decide_true, decide_false, Bool.not_eq_true, loopN_norm, loopN_exit, tf, ft, ff, op_nilchk, p_nilchk, op_faddr, p_faddr, p_load, r1, AV.ofCells, e1, v1, e2, q0, p_iaddr, m1, evEff, w]
  exact ⟨_, rfl, A2, y1.trans y2⟩

theorem drop_pins (A : Ra h p a fs o M c) {i : Nat} (hi : i < fs.length) (h1 : fs[i].st = 1) (h2 : 0 < fs[i].pn) : evCallT table 18 N (d + 2) 14 [.c (.ptr p 0), .c (.int .i64 (i : Int))] h = some (.c (.int .i64 7), h) := by
  have e1 := used_yes (N := N) (d := d) A hi h1
  obtain ⟨fb, hx, hf, hg⟩ := A.at_ hi
  have a1 := (at_of hg hi).n
  have m1 : Nat.blt i fs.length = true := bltT hi
  have r0 := A.r0
  rw [hx] at r0
  have v1 : decide (fs[i].pn > 0) = true := decide_eq_true (by omega)
  rw [evCallT_eq (F := ir14) rfl rfl rfl]
  unfold ir14
  rw [bodyK_eq]
  simp only [enter_eq, ev_seq, seqK_norm, seqK_exit, seqK_ret, ev_reg, ev_cond, condK_true, condK_false, ev_block, blockK_norm, blockK_ret, blockK_exit, ev_loop, ev_skip, ev_exit, ev_ret, regK_cons, regK_nil, guard_none, guard_some, regG_true, regG_false, regO_some, op_mov, op_conv, op_bin, op_bsl, op_box, op_mks, op_s2b, op_pick, op_un, op_eq, op_len, op_ext, op_load, op_iaddr, op_slice, op_b2s, op_idxS, op_mx, op_mn, op_call, op_store, op_app, op_copy, args_eq, result_one', rv_loc, finish_norm, finish_ret, outK_some, keep_true, keep_false, keep_nil, p_bin, p_pick, p_un, p_eq, p_conv, evNew, pureK_some, newK_some, X.eval, set_none, set_some, List.map_cons, List.map_nil, List.getD_cons_zero, List.getD_cons_succ, List.getD_nil, List.set_cons_zero, List.set_cons_succ, binCV, unCV, isShift, intArithF_eq, shiftF_eq, wrapF_eq, intArith, shift, eqVal, bound, asNat_cast, cond_true, cond_false, BEq.rfl, beq_self_eq_true, evalParts, fillParts, AV.cells, AV.ofCells, XV.av, AV.xv, List.length_cons, List.length_nil, zeros, patch, setMany, List.nil_append, List.cons_append, Nat.ble, Nat.add_eq, Nat.zero_add, Nat.add_zero, Nat.reduceAdd, Nat.reduceMul, Nat.reduceSub, Nat.ble_eq, Nat.reduceLeDiff, Nat.reduceBEq, Int.reduceBEq, Int.reduceNeg, Bool.and_true, Bool.and_false, Bool.true_and, Bool.false_and, Bool.not_true, Bool.not_false, Bool.true_eq_false, Bool.false_eq_true, Int.reduceLT, Int.reduceLE, Int.reduceGT, Int.reduceGE, decide_true, decide_false, Bool.not_eq_true, loopN_norm, loopN_exit, tf, ft, ff, e1, bneI, op_nilchk, p_nilchk, op_faddr, p_faddr, p_load, r0, AV.ofCells, p_iaddr, m1, a1, v1, Nat.zero_add]
theorem drop_ar (A : Ra h p a fs o M c) {i q : Nat} (hi : i < fs.length) (h1 : fs[i].st = 1) (h2 : fs[i].pn = 0) (hq : fs[i].pg = (q : Int)) {v : Int} (hm : M q = some v) (h32 : i < 32) (ho : (i : Int) ∉ o) (hl : o.length < 1000) (hc : c < 1000) (hN : 100 ≤ N) :
    ∃ h', evCallT table 18 N (d + 4) 14 [.c (.ptr p 0), .c (.int .i64 (i : Int))] h = some (.c (.int .i64 0), h') ∧ Ra h' p a (fs.set i frZ) (o ++ [(i : Int)]) (fun j => if j = q then none else M j) (c - 1) ∧ ExtB (own p a) h h' ∧ 1 ≤ c := by
  have e1 := used_yes (N := N) (d := d + 2) A hi h1
  obtain ⟨fb, hx, hf, hg⟩ := A.at_ hi
  have a1 := (at_of hg hi).n
  have a2 := (at_of hg hi).g
  rw [hq] at a2
  have m1 : Nat.blt i fs.length = true := bltT hi
  have r0 := A.r0
  have r2 := A.r2
  rw [hx] at r0
  rw [h2] at a1
  obtain ⟨H1, e2, t1, x1, c1⟩ := A.dt.out_some (N := N) (d := d) hm (by omega) (by omega)
  obtain ⟨A1, y1⟩ := A.tab t1 x1
  have s0 := A1.r0
  rw [hx] at s0
  obtain ⟨H2, w, A2, y2, n2⟩ := A1.store hi hx frZ
  have s1 := A2.r1
  obtain ⟨H3, e3, l3, x3⟩ := back_ok (N := N) (d := d + 1) (x := (i : Int)) A2.ll (by omega) (by omega) ho (by omega)
  obtain ⟨A3, y3⟩ := A2.list l3 x3
  rw [evCallT_eq (F := ir14) rfl rfl rfl]
  unfold ir14
  rw [bodyK_eq]
  simp only [enter_eq, ev_seq, seqK_norm, seqK_exit, seqK_ret, ev_reg, ev_cond, condK_true, condK_false, ev_block, blockK_norm, blockK_ret, blockK_exit, ev_loop, ev_skip, ev_exit, ev_ret, regK_cons, regK_nil, guard_none, guard_some, regG_true, regG_false, regO_some, op_mov, op_conv, op_bin, op_bsl, op_box, op_mks, op_s2b, op_pick, op_un, op_eq, op_len, op_ext, op_load, op_iaddr, op_slice, op_b2s, op_idxS, op_mx, op_mn, op_call, op_store, op_app, op_copy, args_eq, result_one', rv_loc, finish_norm, finish_ret, outK_some, keep_true, keep_false, keep_nil, p_bin, p_pick, p_un, p_eq, p_conv, evNew, pureK_some, newK_some, X.eval, set_none, set_some, List.map_cons, List.map_nil, List.getD_cons_zero, List.getD_cons_succ, List.getD_nil, List.set_cons_zero, List.set_cons_succ, binCV, unCV, isShift, intArithF_eq, shiftF_eq, wrapF_eq, intArith, shift, eqVal, bound, asNat_cast, cond_true, cond_false, BEq.rfl, beq_self_eq_true, evalParts, fillParts, AV.cells, AV.ofCells, XV.av, AV.xv, List.length_cons, List.length_nil, zeros, patch, setMany, List.nil_append, List.cons_append, Nat.ble, Nat.add_eq, Nat.zero_add, Nat.add_zero, Nat.reduceAdd, Nat.reduceMul, Nat.reduceSub, Nat.ble_eq, Nat.reduceLeDiff, Nat.reduceBEq, Int.reduceBEq, Int.reduceNeg, Bool.and_true, Bool.and_false, Bool.true_and, Bool.false_and, Bool.not_true, Bool.not_false, Bool.true_eq_false, Bool.false_eq_true, Int.reduceLT, Int.reduceLE, Int.reduceGT, Int.reduceGE, decide_true, decide_false, Bool.not_eq_true, loopN_norm, loopN_exit, tf, ft, ff, ev_dreg, dregK_nil, dregK_cons, dregE_true, dregP_some, dregX_some, d_mov, d_bin, d_eq, d_pick, d_un, d_conv, d_b2s, d_len, d_load, d_iaddr, d_slice, d_ext, d_call, d_store, chk_done, chk_none, chk_some, chkG_true, chkG_false, chkOne_nil, chkOne_cons, chkH_some, chkV_same, stage_none, stage_some, look_hit, look_miss, news_nil, wb_cons, wb_nil, skip0, List.reverse_cons, List.reverse_nil, e1, bneI, op_nilchk, p_nilchk, d_nilchk, d_faddr, op_faddr, p_faddr, p_load, r0, r2, AV.ofCells, p_iaddr, m1, a1, a2, e2, Nat.zero_add, s0, op_build, p_build', evEff, w, s1, e3]
  exact ⟨_, rfl, A3, (y1.trans y2).trans y3, c1⟩

theorem take_bad {g : Int} (hg : g < 0 ∨ g ≥ 48) : evCallT table 18 N (d + 1) 11 [.c (.ptr p 0), .c (.int .i64 g)] h = some (.c (.int .i64 (-1)), h) := by
  rw [evCallT_eq (F := ir11) rfl rfl rfl]
  unfold ir11
  rw [bodyK_eq]
  by_cases c1 : g < 0
  · have v1 : decide (g < 0) = true := decide_eq_true c1
    simp only [enter_eq, ev_seq, seqK_norm, seqK_exit, seqK_ret, ev_reg, ev_cond, condK_true, condK_false, ev_block, blockK_norm, blockK_ret, blockK_exit, ev_loop, ev_skip, ev_exit, ev_ret, regK_cons, regK_nil, guard_none, guard_some, regG_true, regG_false, regO_some, op_mov, op_conv, op_bin, op_bsl, op_box, op_mks, op_s2b, op_pick, op_un, op_eq, op_len, op_ext, op_load, op_iaddr, op_slice, op_b2s, op_idxS, op_mx, op_mn, op_call, op_store, op_app, op_copy, args_eq, result_one', rv_loc, finish_norm, finish_ret, outK_some, keep_true, keep_false, keep_nil, p_bin, p_pick, p_un, p_eq, p_conv, evNew, pureK_some, newK_some, X.eval, set_none, set_some, List.map_cons, List.map_nil, List.getD_cons_zero, List.getD_cons_succ, List.getD_nil, List.set_cons_zero, List.set_cons_succ, binCV, unCV, isShift, intArithF_eq, shiftF_eq, wrapF_eq, intArith, shift, eqVal, bound, asNat_cast, cond_true, cond_false, BEq.rfl, beq_self_eq_true, evalParts, fillParts, AV.cells, AV.ofCells, XV.av, AV.xv, List.length_cons, List.length_nil, zeros, patch, setMany, List.nil_append, List.cons_append, Nat.ble, Nat.add_eq, Nat.zero_add, Nat.add_zero, Nat.reduceAdd, Nat.reduceMul, Nat.reduceSub, Nat.ble_eq, Nat.reduceLeDiff, Nat.reduceBEq, Int.reduceBEq, Int.reduceNeg, Bool.and_true, Bool.and_false, Bool.true_and, Bool.false_and, Bool.not_true, Bool.not_false, Bool.true_eq_false, Bool.false_eq_true, Int.reduceLT, Int.reduceLE, Int.reduceGT, Int.reduceGE, decide_true, decide_false, Bool.not_eq_true, loopN_norm, loopN_exit, tf, ft, ff, v1]
  · have v1 : decide (g < 0) = false := decide_eq_false c1
    have v2 : decide (g ≥ 48) = true := decide_eq_true (by omega)
    simp only [enter_eq, ev_seq, seqK_norm, seqK_exit, seqK_ret, ev_reg, ev_cond, condK_true, condK_false, ev_block, blockK_norm, blockK_ret, blockK_exit, ev_loop, ev_skip, ev_exit, ev_ret, regK_cons, regK_nil, guard_none, guard_some, regG_true, regG_false, regO_some, op_mov, op_conv, op_bin, op_bsl, op_box, op_mks, op_s2b, op_pick, op_un, op_eq, op_len, op_ext, op_load, op_iaddr, op_slice, op_b2s, op_idxS, op_mx, op_mn, op_call, op_store, op_app, op_copy, args_eq, result_one', rv_loc, finish_norm, finish_ret, outK_some, keep_true, keep_false, keep_nil, p_bin, p_pick, p_un, p_eq, p_conv, evNew, pureK_some, newK_some, X.eval, set_none, set_some, List.map_cons, List.map_nil, List.getD_cons_zero, List.getD_cons_succ, List.getD_nil, List.set_cons_zero, List.set_cons_succ, binCV, unCV, isShift, intArithF_eq, shiftF_eq, wrapF_eq, intArith, shift, eqVal, bound, asNat_cast, cond_true, cond_false, BEq.rfl, beq_self_eq_true, evalParts, fillParts, AV.cells, AV.ofCells, XV.av, AV.xv, List.length_cons, List.length_nil, zeros, patch, setMany, List.nil_append, List.cons_append, Nat.ble, Nat.add_eq, Nat.zero_add, Nat.add_zero, Nat.reduceAdd, Nat.reduceMul, Nat.reduceSub, Nat.ble_eq, Nat.reduceLeDiff, Nat.reduceBEq, Int.reduceBEq, Int.reduceNeg, Bool.and_true, Bool.and_false, Bool.true_and, Bool.false_and, Bool.not_true, Bool.not_false, Bool.true_eq_false, Bool.false_eq_true, Int.reduceLT, Int.reduceLE, Int.reduceGT, Int.reduceGE, decide_true, decide_false, Bool.not_eq_true, loopN_norm, loopN_exit, tf, ft, ff, v1, v2]
theorem take_held (A : Ra h p a fs o M c) {g : Nat} (hg : g < 48) {v : Int} (hv : 0 ≤ v) (hm : M g = some v) (hN : 100 ≤ N) : evCallT table 18 N (d + 5) 11 [.c (.ptr p 0), .c (.int .i64 (g : Int))] h = some (.c (.int .i64 (-1)), h) := by
  have e1 := afind_ok (N := N) (d := d) A g hN
  rw [hm] at e1
  have e1' : evCallT table 18 N (d + 4) 9 [.c (.ptr p 0), .c (.int .i64 (g : Int))] h = some (.c (.int .i64 v), h) := e1
  have v1 : decide ((g : Int) < 0) = false := decide_eq_false (by omega)
  have v2 : decide ((g : Int) ≥ 48) = false := decide_eq_false (by omega)
  have v3 : decide (v ≥ 0) = true := decide_eq_true hv
  rw [evCallT_eq (F := ir11) rfl rfl rfl]
  unfold ir11
  rw [bodyK_eq]
  simp only [enter_eq, ev_seq, seqK_norm, seqK_exit, seqK_ret, ev_reg, ev_cond, condK_true, condK_false, ev_block, blockK_norm, blockK_ret, blockK_exit, ev_loop, ev_skip, ev_exit, ev_ret, regK_cons, regK_nil, guard_none, guard_some, regG_true, regG_false, regO_some, op_mov, op_conv, op_bin, op_bsl, op_box, op_mks, op_s2b, op_pick, op_un, op_eq, op_len, op_ext, op_load, op_iaddr, op_slice, op_b2s, op_idxS, op_mx, op_mn, op_call, op_store, op_app, op_copy, args_eq, result_one', rv_loc, finish_norm, finish_ret, outK_some, keep_true, keep_false, keep_nil, p_bin, p_pick, p_un, p_eq, p_conv, evNew, pureK_some, newK_some, X.eval, set_none, set_some, List.map_cons, List.map_nil, List.getD_cons_zero, List.getD_cons_succ, List.getD_nil, List.set_cons_zero, List.set_cons_succ, binCV, unCV, isShift, intArithF_eq, shiftF_eq, wrapF_eq, intArith, shift, eqVal, bound, asNat_cast, cond_true, cond_false, BEq.rfl, beq_self_eq_true, evalParts, fillParts, AV.cells, AV.ofCells, XV.av, AV.xv, List.length_cons, List.length_nil, zeros, patch, setMany, List.nil_append, List.cons_append, Nat.ble, Nat.add_eq, Nat.zero_add, Nat.add_zero, Nat.reduceAdd, Nat.reduceMul, Nat.reduceSub, Nat.ble_eq, Nat.reduceLeDiff, Nat.reduceBEq, Int.reduceBEq, Int.reduceNeg, Bool.and_true, Bool.and_false, Bool.true_and, Bool.false_and, Bool.not_true, Bool.not_false, Bool.true_eq_false, Bool.false_eq_true, Int.reduceLT, Int.reduceLE, Int.reduceGT, Int.reduceGE, decide_true, decide_false, Bool.not_eq_true, loopN_norm, loopN_exit, tf, ft, ff, v1, v2, v3, e1']
theorem take_none (A : Ra h p a fs [] M c) {g : Nat} (hg : g < 48) (hm : M g = none) (hN : 100 ≤ N) : evCallT table 18 N (d + 5) 11 [.c (.ptr p 0), .c (.int .i64 (g : Int))] h = some (.c (.int .i64 (-1)), h) := by
  have e1 := afind_ok (N := N) (d := d) A g hN
  rw [hm] at e1
  have e1' : evCallT table 18 N (d + 4) 9 [.c (.ptr p 0), .c (.int .i64 (g : Int))] h = some (.c (.int .i64 (-1)), h) := e1
  have e2 : evCallT table 18 N (d + 3 + 1) 37 [.c (.ptr a.q 0)] h = some (.c (.int .i64 (-1)), h) := first_ok (N := N) (d := d + 3) A.ll
  have v1 : decide ((g : Int) < 0) = false := decide_eq_false (by omega)
  have v2 : decide ((g : Int) ≥ 48) = false := decide_eq_false (by omega)
  have r1 := A.r1
  rw [evCallT_eq (F := ir11) rfl rfl rfl]
  unfold ir11
  rw [bodyK_eq]
  simp only [enter_eq, ev_seq, seqK_norm, seqK_exit, seqK_ret, ev_reg, ev_cond, condK_true, condK_false, ev_block, blockK_norm, blockK_ret, blockK_exit, ev_loop, ev_skip, ev_exit, ev_ret, regK_cons, regK_nil, guard_none, guard_some, regG_true, regG_false, regO_some, op_mov, op_conv, op_bin, op_bsl, op_box, op_mks, op_s2b, op_pick, op_un, op_eq, op_len, op_ext, op_load, op_iaddr, op_slice, op_b2s, op_idxS, op_mx, op_mn, op_call, op_store, op_app, op_copy, args_eq, result_one', rv_loc, finish_norm, finish_ret, outK_some, keep_true, keep_false, keep_nil, p_bin, p_pick, p_un, p_eq, p_conv, evNew, pureK_some, newK_some, X.eval, set_none, set_some, List.map_cons, List.map_nil, List.getD_cons_zero, List.getD_cons_succ, List.getD_nil, List.set_cons_zero, List.set_cons_succ, binCV, unCV, isShift, intArithF_eq, shiftF_eq, wrapF_eq, intArith, shift, eqVal, bound, asNat_cast, cond_true, cond_false, BEq.rfl, beq_self_eq_true, evalParts, fillParts, AV.cells, AV.ofCells, XV.av, AV.xv, List.length_cons, List.length_nil, zeros, patch, setMany, List.nil_append, List.cons_append, Nat.ble, Nat.add_eq, Nat.zero_add, Nat.add_zero, Nat.reduceAdd, Nat.reduceMul, Nat.reduceSub, Nat.ble_eq, Nat.reduceLeDiff, Nat.reduceBEq, Int.reduceBEq, Int.reduceNeg, Bool.and_true, Bool.and_false, Bool.true_and, Bool.false_and, Bool.not_true, Bool.not_false, Bool.true_eq_false, Bool.false_eq_true, Int.reduceLT, Int.reduceLE, Int.reduceGT, Int.reduceGE, decide_true, decide_false, Bool.not_eq_true, loopN_norm, loopN_exit, tf, ft, ff, v1, v2, e1', op_nilchk, p_nilchk, op_faddr, p_faddr, p_load, r1, AV.ofCells, e2]
theorem take_ar {i g : Nat} {o' : List Int} (A : Ra h p a fs ((i : Int) :: o') M c) (hi : i < fs.length) (hg : g < 48) (hm : M g = none) (hl : o'.length < 1000) (hc : c < 96) (hN : 100 ≤ N) :
    ∃ b h', evCallT table 18 N (d + 5) 11 [.c (.ptr p 0), .c (.int .i64 (g : Int))] h = some (.c (.int .i64 (i : Int)), h') ∧ Ra h' p a (fs.set i ⟨1, (g : Int), 0, false, .sl b 0 16 (.ex 16)⟩) o' (fun j => if j = g then some (i : Int) else M j) (c + 1) ∧ ExtB (own p a) h h' ∧ h.next ≤ b ∧ b < h'.next ∧ h'.get b = some (.cells (zeros 16 [.int .u8 0])) := by
  have e1 := afind_ok (N := N) (d := d) A g hN
  rw [hm] at e1
  have e1' : evCallT table 18 N (d + 4) 9 [.c (.ptr p 0), .c (.int .i64 (g : Int))] h = some (.c (.int .i64 (-1)), h) := e1
  have e2 : evCallT table 18 N (d + 3 + 1) 37 [.c (.ptr a.q 0)] h = some (.c (.int .i64 (i : Int)), h) := first_ok (N := N) (d := d + 3) A.ll
  have v1 : decide ((g : Int) < 0) = false := decide_eq_false (by omega)
  have v2 : decide ((g : Int) ≥ 48) = false := decide_eq_false (by omega)
  have v3 : decide ((i : Int) < 0) = false := decide_eq_false (by omega)
  have r1 := A.r1
  obtain ⟨H1, e3, l1, x1⟩ := out_ok (N := N) (d := d + 2) (x := (i : Int)) A.ll (by simp) (by simp; omega)
  rw [List.erase_cons_head] at l1
  obtain ⟨A1, y1⟩ := A.list l1 x1
  have r2 := A1.r2
  obtain ⟨H2, e4, t2, x2⟩ := A1.dt.put_new (N := N) (d := d + 1) hm (i : Int) hc (by omega)
  obtain ⟨A2, y2⟩ := A1.tab t2 x2
  obtain ⟨H3, hH3⟩ : ∃ H, H = (H2.skip 1).put H2.next (.cells (zeros 16 [.int .u8 0])) := ⟨_, rfl⟩
  have x3 : Ext H2 H3 := by rw [hH3]; exact ((Ext.refl _).skip 1).put (Nat.le_refl _) _
  have n3 : H3.next = H2.next + 1 := by rw [hH3]; rfl
  have A3 := A2.ext' x3
  obtain ⟨fb, hx, hf, hgt⟩ := A3.at_ hi
  have r0 := (A2.ext' ((Ext.refl H2).skip 1)).r0
  have r0' := A3.r0
  rw [hx] at r0 r0'
  obtain ⟨H4, w, A4, y4, n4⟩ := A3.store hi hx ⟨1, (g : Int), 0, false, .sl H2.next 0 16 (.ex 16)⟩
  have r0'' := A4.r0
  rw [hx] at r0''
  have m1 : Nat.blt i fs.length = true := bltT hi
  have zz : zeros 16 [CV.int .u8 0] = [.int .u8 0, .int .u8 0, .int .u8 0, .int .u8 0, .int .u8 0, .int .u8 0, .int .u8 0, .int .u8 0, .int .u8 0, .int .u8 0, .int .u8 0, .int .u8 0, .int .u8 0, .int .u8 0, .int .u8 0, .int .u8 0] := rfl
  have a16 : asNat (.c (.int .i64 16)) = some 16 := rfl
  have b16 : Nat.ble 16 1073741824 = true := rfl
  have hH3' := hH3
  rw [zz] at hH3'
  have yy := (y1.trans y2).trans ((x3.b _).trans y4)
  have hb : H2.next ∉ own p a := fun hm => by have := A2.old _ hm; omega
  have hn := yy.1
  have hn1 := (y1.trans y2).1
  rw [evCallT_eq (F := ir11) rfl rfl rfl]
  unfold ir11
  rw [bodyK_eq]
  simp only [enter_eq, ev_seq, seqK_norm, seqK_exit, seqK_ret, ev_reg, ev_cond, condK_true, condK_false, regK_cons, regK_nil, enter_eq, ev_seq, seqK_norm, seqK_exit, seqK_ret, ev_reg, ev_cond, condK_true, condK_false, ev_block, blockK_norm, blockK_ret, blockK_exit, ev_loop, ev_skip, ev_exit, ev_ret, regK_cons, regK_nil, guard_none, guard_some, regG_true, regG_false, regO_some, op_mov, op_conv, op_bin, op_bsl, op_box, op_mks, op_s2b, op_pick, op_un, op_eq, op_len, op_ext, op_load, op_iaddr, op_slice, op_b2s, op_idxS, op_mx, op_mn, op_call, op_store, op_app, op_copy, args_eq, result_one', rv_loc, finish_norm, finish_ret, outK_some, keep_true, keep_false, keep_nil, p_bin, p_pick, p_un, p_eq, p_conv, evNew, pureK_some, newK_some, X.eval, set_none, set_some, List.map_cons, List.map_nil, List.getD_cons_zero, List.getD_cons_succ, List.getD_nil, List.set_cons_zero, List.set_cons_succ, binCV, unCV, isShift, intArithF_eq, shiftF_eq, wrapF_eq, intArith, shift, eqVal, bound, asNat_cast, cond_true, cond_false, BEq.rfl, beq_self_eq_true, evalParts, fillParts, AV.cells, AV.ofCells, XV.av, AV.xv, List.length_cons, List.length_nil, zeros, patch, setMany, List.nil_append, List.cons_append, Nat.ble, Nat.add_eq, Nat.zero_add, Nat.add_zero, Nat.reduceAdd, Nat.reduceMul, Nat.reduceSub, Nat.ble_eq, Nat.reduceLeDiff, Nat.reduceBEq, Int.reduceBEq, Int.reduceNeg, Bool.and_true, Bool.and_false, Bool.true_and, Bool.false_and, Bool.not_true, Bool.not_false, Bool.true_eq_false, Bool.false_eq_true, Int.reduceLT, Int.reduceLE, Int.reduceGT, Int.reduceGE, decide_true, decide_false, Bool.not_eq_true, loopN_norm, loopN_exit, tf, ft, ff, ev_dreg, dregK_nil, dregK_cons, dregE_true, dregP_some, dregX_some, d_mov, d_bin, d_eq, d_pick, d_un, d_conv, d_b2s, d_len, d_load, d_iaddr, d_slice, d_ext, d_call, d_store, chk_done, chk_none, chk_some, chkG_true, chkG_false, chkOne_nil, chkOne_cons, chkH_some, chkV_same, stage_none, stage_some, look_hit, look_miss, news_nil, wb_cons, wb_nil, skip0, List.reverse_cons, List.reverse_nil, v1, v2, v3, e1', op_nilchk, p_nilchk, d_nilchk, d_faddr, op_faddr, p_faddr, p_load, r1, AV.ofCells, e2, e3, r2, e4, p_iaddr, m1, r0, r0', r0'', d_mks, a16, b16, dregW_some, ← hH3',  d_build, p_build', evEff, Nat.zero_add, w]
  exact ⟨_, _, rfl, A4, yy, hn1, by omega, y4.at_ (by rw [hH3]; exact get_put_at) (by omega) hb⟩
end
end Lav
