/-
  Layer 10: the document's arena: adding; a new one; a body's text; both alike. Layer 10: the program's arena and the document's, side by side. Layer 10: what both have behind a step.
-/
import Derived.Test.YtdilhnnbfkiacaaRar4
set_option maxRecDepth 100000
set_option linter.unusedSimpArgs false
namespace Lav
open Go (IntKind)

section
variable {N d : Nat} {h : Heap} {p : Nat} {x y v : CV} {fs : List Fm} {o : List Int} {S : List (List Nat)} {B : Nat → List (BitVec 8)}

theorem radd_ok (A : RA h p x y v fs o S) (sm : fs.length ≤ 32) (hl : o.length < 1000) (hN : 100 ≤ N) :
    ∃ x' y' v' S' h', evCallT table 18 N (d + 1) 29 [.c (.ptr p 0)] h = some (.c (.int .i64 (addF fs o).1), h') ∧ RA h' p x' y' v' (addF fs o).2.1 (addF fs o).2.2 S' ∧ ExtB (rown p x y v) h h' ∧ YoungR h p x y v x' y' v' ∧ (∀ i, i < fs.length → S'.getD i [] = S.getD i []) := by
  have same : ∀ k ∈ rown p x y v, k ∈ rown p x y v ∨ h.next ≤ k := fun k hk => .inl hk
  obtain ⟨r, ⟨a1, a3, a4, a5, rfl⟩, hr⟩ := loop_any (radd_loop A sm hN (call := evCallT table 18 N d)) rfl
  have hle := retIdx_le fs
  have r0 := A.r0
  have lx := A.lx
  rw [evCallT_eq (F := ir29) rfl rfl rfl]
  unfold ir29
  rw [bodyK_eq]
  unfold addF
  by_cases h32 : retIdx fs = 32
  · have v1 : decide ((retIdx fs : Int) ≥ 32) = true := decide_eq_true (by omega)
    rw [if_pos h32]
    simp only [enter_eq, ev_seq, seqK_norm, seqK_exit, seqK_ret, ev_reg, ev_cond, condK_true, condK_false, ev_block, blockK_norm, blockK_ret, blockK_exit, ev_loop, ev_skip, ev_exit, ev_ret, regK_cons, regK_nil, guard_none, guard_some, regG_true, regG_false, regO_some, op_mov, op_conv, op_bin, op_bsl, op_box, op_mks, op_s2b, op_pick, op_un, op_eq, op_len, op_ext, op_load, op_iaddr, op_slice, op_b2s, op_idxS, op_mx, op_mn, op_call, op_store, op_app, op_copy, args_eq, result_one', rv_loc, finish_norm, finish_ret, outK_some, keep_true, keep_false, keep_nil, p_bin, p_pick, p_un, p_eq, p_conv, evNew, pureK_some, newK_some, X.eval, set_none, set_some, List.map_cons, List.map_nil, List.getD_cons_zero, List.getD_cons_succ, List.getD_nil, List.set_cons_zero, List.set_cons_succ, binCV, unCV, isShift, intArithF_eq, shiftF_eq, wrapF_eq, intArith, shift, eqVal, bound, asNat_cast, cond_true, cond_false, BEq.rfl, beq_self_eq_true, evalParts, fillParts, AV.cells, AV.ofCells, XV.av, AV.xv, List.length_cons, List.length_nil, zeros, patch, setMany, List.nil_append, List.cons_append, Nat.ble, Nat.add_eq, Nat.zero_add, Nat.add_zero, Nat.reduceAdd, Nat.reduceMul, Nat.reduceSub, Nat.ble_eq, Nat.reduceLeDiff, Nat.reduceBEq, Int.reduceBEq, Int.reduceNeg, Bool.and_true, Bool.and_false, Bool.true_and, Bool.false_and, Bool.not_true, Bool.not_false, Bool.true_eq_false, Bool.false_eq_true, Int.reduceLT, Int.reduceLE, Int.reduceGT, Int.reduceGE, decide_true, decide_false, Bool.not_eq_true, loopN_norm, loopN_exit, tf, ft, ff]
    rw [hr _ rfl]
    simp only [enter_eq, ev_seq, seqK_norm, seqK_exit, seqK_ret, ev_reg, ev_cond, condK_true, condK_false, ev_block, blockK_norm, blockK_ret, blockK_exit, ev_loop, ev_skip, ev_exit, ev_ret, regK_cons, regK_nil, guard_none, guard_some, regG_true, regG_false, regO_some, op_mov, op_conv, op_bin, op_bsl, op_box, op_mks, op_s2b, op_pick, op_un, op_eq, op_len, op_ext, op_load, op_iaddr, op_slice, op_b2s, op_idxS, op_mx, op_mn, op_call, op_store, op_app, op_copy, args_eq, result_one', rv_loc, finish_norm, finish_ret, outK_some, keep_true, keep_false, keep_nil, p_bin, p_pick, p_un, p_eq, p_conv, evNew, pureK_some, newK_some, X.eval, set_none, set_some, List.map_cons, List.map_nil, List.getD_cons_zero, List.getD_cons_succ, List.getD_nil, List.set_cons_zero, List.set_cons_succ, binCV, unCV, isShift, intArithF_eq, shiftF_eq, wrapF_eq, intArith, shift, eqVal, bound, asNat_cast, cond_true, cond_false, BEq.rfl, beq_self_eq_true, evalParts, fillParts, AV.cells, AV.ofCells, XV.av, AV.xv, List.length_cons, List.length_nil, zeros, patch, setMany, List.nil_append, List.cons_append, Nat.ble, Nat.add_eq, Nat.zero_add, Nat.add_zero, Nat.reduceAdd, Nat.reduceMul, Nat.reduceSub, Nat.ble_eq, Nat.reduceLeDiff, Nat.reduceBEq, Int.reduceBEq, Int.reduceNeg, Bool.and_true, Bool.and_false, Bool.true_and, Bool.false_and, Bool.not_true, Bool.not_false, Bool.true_eq_false, Bool.false_eq_true, Int.reduceLT, Int.reduceLE, Int.reduceGT, Int.reduceGE, decide_true, decide_false, Bool.not_eq_true, loopN_norm, loopN_exit, tf, ft, ff, blockK_exit_eq, v1]
    exact ⟨x, y, v, S, h, rfl, A, ExtB.refl _ _, same, fun _ _ => rfl⟩
  have v1 : decide ((retIdx fs : Int) ≥ 32) = false := decide_eq_false (by omega)
  rw [if_neg h32]
  by_cases h2 : retIdx fs < fs.length
  · rw [if_pos h2]
    have v2 : ((retIdx fs : Int) == (fs.length : Int)) = false := by simp only [beq_eq_false_iff_ne, ne_eq]; omega
    generalize hi : retIdx fs = i at *
    obtain ⟨fb, rfl, _, _, T⟩ := A.at_ h2
    have m1 : Nat.blt i fs.length = true := bltT h2
    obtain ⟨h1', w1, A1, x1, n1⟩ := A.store h2 rfl frZ
    have q2 := A1.r2
    obtain ⟨c1, h2', c2, h4, h5, a1', a2', q0, w5, A5, x5, y5⟩ := A1.behind (i : Int) hl A1.lv
    have q2' : (h1'.new (.cells [])).read p 2 1 = some [v] := (((Ext.refl h1').new (.cells [])).read A1.pn).trans q2
    simp only [enter_eq, ev_seq, seqK_norm, seqK_exit, seqK_ret, ev_reg, ev_cond, condK_true, condK_false, ev_block, blockK_norm, blockK_ret, blockK_exit, ev_loop, ev_skip, ev_exit, ev_ret, regK_cons, regK_nil, guard_none, guard_some, regG_true, regG_false, regO_some, op_mov, op_conv, op_bin, op_bsl, op_box, op_mks, op_s2b, op_pick, op_un, op_eq, op_len, op_ext, op_load, op_iaddr, op_slice, op_b2s, op_idxS, op_mx, op_mn, op_call, op_store, op_app, op_copy, args_eq, result_one', rv_loc, finish_norm, finish_ret, outK_some, keep_true, keep_false, keep_nil, p_bin, p_pick, p_un, p_eq, p_conv, evNew, pureK_some, newK_some, X.eval, set_none, set_some, List.map_cons, List.map_nil, List.getD_cons_zero, List.getD_cons_succ, List.getD_nil, List.set_cons_zero, List.set_cons_succ, binCV, unCV, isShift, intArithF_eq, shiftF_eq, wrapF_eq, intArith, shift, eqVal, bound, asNat_cast, cond_true, cond_false, BEq.rfl, beq_self_eq_true, evalParts, fillParts, AV.cells, AV.ofCells, XV.av, AV.xv, List.length_cons, List.length_nil, zeros, patch, setMany, List.nil_append, List.cons_append, Nat.ble, Nat.add_eq, Nat.zero_add, Nat.add_zero, Nat.reduceAdd, Nat.reduceMul, Nat.reduceSub, Nat.ble_eq, Nat.reduceLeDiff, Nat.reduceBEq, Int.reduceBEq, Int.reduceNeg, Bool.and_true, Bool.and_false, Bool.true_and, Bool.false_and, Bool.not_true, Bool.not_false, Bool.true_eq_false, Bool.false_eq_true, Int.reduceLT, Int.reduceLE, Int.reduceGT, Int.reduceGE, decide_true, decide_false, Bool.not_eq_true, loopN_norm, loopN_exit, tf, ft, ff]
    rw [hr _ rfl]
    simp only [enter_eq, ev_seq, seqK_norm, seqK_exit, seqK_ret, ev_reg, ev_cond, condK_true, condK_false, ev_block, blockK_norm, blockK_ret, blockK_exit, ev_loop, ev_skip, ev_exit, ev_ret, regK_cons, regK_nil, guard_none, guard_some, regG_true, regG_false, regO_some, op_mov, op_conv, op_bin, op_bsl, op_box, op_mks, op_s2b, op_pick, op_un, op_eq, op_len, op_ext, op_load, op_iaddr, op_slice, op_b2s, op_idxS, op_mx, op_mn, op_call, op_store, op_app, op_copy, args_eq, result_one', rv_loc, finish_norm, finish_ret, outK_some, keep_true, keep_false, keep_nil, p_bin, p_pick, p_un, p_eq, p_conv, evNew, pureK_some, newK_some, X.eval, set_none, set_some, List.map_cons, List.map_nil, List.getD_cons_zero, List.getD_cons_succ, List.getD_nil, List.set_cons_zero, List.set_cons_succ, binCV, unCV, isShift, intArithF_eq, shiftF_eq, wrapF_eq, intArith, shift, eqVal, bound, asNat_cast, cond_true, cond_false, BEq.rfl, beq_self_eq_true, evalParts, fillParts, AV.cells, AV.ofCells, XV.av, AV.xv, List.length_cons, List.length_nil, zeros, patch, setMany, List.nil_append, List.cons_append, Nat.ble, Nat.add_eq, Nat.zero_add, Nat.add_zero, Nat.reduceAdd, Nat.reduceMul, Nat.reduceSub, Nat.ble_eq, Nat.reduceLeDiff, Nat.reduceBEq, Int.reduceBEq, Int.reduceNeg, Bool.and_true, Bool.and_false, Bool.true_and, Bool.false_and, Bool.not_true, Bool.not_false, Bool.true_eq_false, Bool.false_eq_true, Int.reduceLT, Int.reduceLE, Int.reduceGT, Int.reduceGE, decide_true, decide_false, Bool.not_eq_true, loopN_norm, loopN_exit, tf, ft, ff, blockK_exit_eq, v1, v2, op_nilchk, p_nilchk, op_faddr, p_faddr, p_load, r0, AV.ofCells, lx, p_iaddr, m1, op_build, p_build', evEff, Nat.zero_add, w1, q2', a1', a2', w5]
    exact ⟨_, _, _, S, h5, rfl, A5, x1.trans x5, fun k hk => (y5 k hk).imp id fun h => by have := x1.1; omega, fun _ _ => rfl⟩
  · rw [if_neg h2]
    have hi : retIdx fs = fs.length := by omega
    rw [hi] at hr v1
    have v2 : ((fs.length : Int) == (fs.length : Int)) = true := eqq _
    obtain ⟨C1, hC1⟩ : ∃ c, c = (h.skip 2).put h.next (.cells (apC frO)) := ⟨_, rfl⟩
    obtain ⟨x', H1, y', H2, H3, H4, g0, g1, g2, g3, g4, g5, g6, g7, A4, x4, y4⟩ := A.grow sm hC1
    have hC1' : C1 = (h.skip 2).put h.next (.cells [.int .i64 0, .int .i64 0, .int .i64 0, .int .i64 0, .bool false]) := hC1
    have hlt : fs.length < (fs ++ [frO]).length := by simp
    have es : (fs ++ [frO]).set fs.length frZ = fs ++ [frZ] := by rw [List.set_append_right _ _ (Nat.le_refl _), Nat.sub_self]; rfl
    obtain ⟨fb, hx', _, _, T⟩ := A4.at_ hlt
    obtain ⟨H5, w5, A5, x5, n5⟩ := A4.store hlt hx' frZ
    rw [es] at A5
    have f0 := A4.r0
    rw [hx'] at f0
    have m1 : Nat.blt fs.length (fs ++ [frO]).length = true := bltT hlt
    have q2 := A5.r2
    obtain ⟨c1, h2', c2, h4, h5, a1', a2', q0, w9, A9, x9, y9⟩ := A5.behind (fs.length : Int) hl A5.lv
    have q2' : (H5.new (.cells [])).read p 2 1 = some [v] := (((Ext.refl H5).new (.cells [])).read A5.pn).trans q2
    have sub4 : ∀ k, k < h.next → k ∉ rown p x y v → k ∉ rown p x' y' v := fun k hk hn hm => (y4 k hm).elim hn fun h => by omega
    have sub9 : ∀ k ∈ rown p x' y' c2, k ∈ rown p x y v ∨ h.next ≤ k := fun k hk => by
      rcases y9 k hk with h1 | h1
      · exact y4 k h1
      · right; have := x4.1; have := x5.1; omega
    simp only [enter_eq, ev_seq, seqK_norm, seqK_exit, seqK_ret, ev_reg, ev_cond, condK_true, condK_false, ev_block, blockK_norm, blockK_ret, blockK_exit, ev_loop, ev_skip, ev_exit, ev_ret, regK_cons, regK_nil, guard_none, guard_some, regG_true, regG_false, regO_some, op_mov, op_conv, op_bin, op_bsl, op_box, op_mks, op_s2b, op_pick, op_un, op_eq, op_len, op_ext, op_load, op_iaddr, op_slice, op_b2s, op_idxS, op_mx, op_mn, op_call, op_store, op_app, op_copy, args_eq, result_one', rv_loc, finish_norm, finish_ret, outK_some, keep_true, keep_false, keep_nil, p_bin, p_pick, p_un, p_eq, p_conv, evNew, pureK_some, newK_some, X.eval, set_none, set_some, List.map_cons, List.map_nil, List.getD_cons_zero, List.getD_cons_succ, List.getD_nil, List.set_cons_zero, List.set_cons_succ, binCV, unCV, isShift, intArithF_eq, shiftF_eq, wrapF_eq, intArith, shift, eqVal, bound, asNat_cast, cond_true, cond_false, BEq.rfl, beq_self_eq_true, evalParts, fillParts, AV.cells, AV.ofCells, XV.av, AV.xv, List.length_cons, List.length_nil, zeros, patch, setMany, List.nil_append, List.cons_append, Nat.ble, Nat.add_eq, Nat.zero_add, Nat.add_zero, Nat.reduceAdd, Nat.reduceMul, Nat.reduceSub, Nat.ble_eq, Nat.reduceLeDiff, Nat.reduceBEq, Int.reduceBEq, Int.reduceNeg, Bool.and_true, Bool.and_false, Bool.true_and, Bool.false_and, Bool.not_true, Bool.not_false, Bool.true_eq_false, Bool.false_eq_true, Int.reduceLT, Int.reduceLE, Int.reduceGT, Int.reduceGE, decide_true, decide_false, Bool.not_eq_true, loopN_norm, loopN_exit, tf, ft, ff]
    rw [hr _ rfl]
    simp only [enter_eq, ev_seq, seqK_norm, seqK_exit, seqK_ret, ev_reg, ev_cond, condK_true, condK_false, ev_block, blockK_norm, blockK_ret, blockK_exit, ev_loop, ev_skip, ev_exit, ev_ret, regK_cons, regK_nil, guard_none, guard_some, regG_true, regG_false, regO_some, op_mov, op_conv, op_bin, op_bsl, op_box, op_mks, op_s2b, op_pick, op_un, op_eq, op_len, op_ext, op_load, op_iaddr, op_slice, op_b2s, op_idxS, op_mx, op_mn, op_call, op_store, op_app, op_copy, args_eq, result_one', rv_loc, finish_norm, finish_ret, outK_some, keep_true, keep_false, keep_nil, p_bin, p_pick, p_un, p_eq, p_conv, evNew, pureK_some, newK_some, X.eval, set_none, set_some, List.map_cons, List.map_nil, List.getD_cons_zero, List.getD_cons_succ, List.getD_nil, List.set_cons_zero, List.set_cons_succ, binCV, unCV, isShift, intArithF_eq, shiftF_eq, wrapF_eq, intArith, shift, eqVal, bound, asNat_cast, cond_true, cond_false, BEq.rfl, beq_self_eq_true, evalParts, fillParts, AV.cells, AV.ofCells, XV.av, AV.xv, List.length_cons, List.length_nil, zeros, patch, setMany, List.nil_append, List.cons_append, Nat.ble, Nat.add_eq, Nat.zero_add, Nat.add_zero, Nat.reduceAdd, Nat.reduceMul, Nat.reduceSub, Nat.ble_eq, Nat.reduceLeDiff, Nat.reduceBEq, Int.reduceBEq, Int.reduceNeg, Bool.and_true, Bool.and_false, Bool.true_and, Bool.false_and, Bool.not_true, Bool.not_false, Bool.true_eq_false, Bool.false_eq_true, Int.reduceLT, Int.reduceLE, Int.reduceGT, Int.reduceGE, decide_true, decide_false, Bool.not_eq_true, loopN_norm, loopN_exit, tf, ft, ff, ev_dreg, dregK_nil, dregK_cons, dregE_true, dregP_some, dregX_some, d_mov, d_bin, d_eq, d_pick, d_un, d_conv, d_b2s, d_len, d_load, d_iaddr, d_slice, d_ext, d_call, d_store, chk_done, chk_none, chk_some, chkG_true, chkG_false, chkOne_nil, chkOne_cons, chkH_some, chkV_same, stage_none, stage_some, look_hit, look_miss, news_nil, wb_cons, wb_nil, skip0, List.reverse_cons, List.reverse_nil, blockK_exit_eq, v1, v2, op_nilchk, p_nilchk, d_nilchk, d_faddr, op_faddr, p_faddr, p_load, r0, AV.ofCells, lx, g0, g1, g2, d_build, p_build', dregW_some, d_bsl, ← hC1', d_app, g3, g4, g5, evEff, g6, g7, withNews, f0, p_iaddr, m1, op_build, Nat.zero_add, w5, q2', a1', a2', w9]
    refine ⟨x', y', _, S ++ [[]], h5, rfl, A9, ?_, sub9, fun i hi => ?_⟩
    · have e5 : ExtB (rown p x y v) H4 h5 → True := fun _ => trivial
      refine ⟨by have := x4.1; have := x5.1; have := x9.1; omega, fun k hk hn => ?_⟩
      have hk4 : k < H4.next := by have := x4.1; omega
      have hk5 : k < H5.next := by have := x5.1; omega
      exact (x9.2 k hk5 (sub4 k hk hn)).trans ((x5.2 k hk4 (sub4 k hk hn)).trans (x4.2 k hk hn))
    · rw [List.getD_eq_getElem?_getD, List.getElem?_append_left (by rw [A.sl]; exact hi), ← List.getD_eq_getElem?_getD]

theorem rnew_no {n : Int} (hn : n < 0 ∨ n > 32) : evCallT table 18 N (d + 1) 21 [.c (.int .i64 n)] h = some (.c .nilp, h) := by
  rw [evCallT_eq (F := ir21) rfl rfl rfl]
  unfold ir21
  rw [bodyK_eq]
  by_cases c1 : n < 0
  · have v1 : decide (n < 0) = true := decide_eq_true c1
    simp only [enter_eq, ev_seq, seqK_norm, seqK_exit, seqK_ret, ev_reg, ev_cond, condK_true, condK_false, ev_block, blockK_norm, blockK_ret, blockK_exit, ev_loop, ev_skip, ev_exit, ev_ret, regK_cons, regK_nil, guard_none, guard_some, regG_true, regG_false, regO_some, op_mov, op_conv, op_bin, op_bsl, op_box, op_mks, op_s2b, op_pick, op_un, op_eq, op_len, op_ext, op_load, op_iaddr, op_slice, op_b2s, op_idxS, op_mx, op_mn, op_call, op_store, op_app, op_copy, args_eq, result_one', rv_loc, finish_norm, finish_ret, outK_some, keep_true, keep_false, keep_nil, p_bin, p_pick, p_un, p_eq, p_conv, evNew, pureK_some, newK_some, X.eval, set_none, set_some, List.map_cons, List.map_nil, List.getD_cons_zero, List.getD_cons_succ, List.getD_nil, List.set_cons_zero, List.set_cons_succ, binCV, unCV, isShift, intArithF_eq, shiftF_eq, wrapF_eq, intArith, shift, eqVal, bound, asNat_cast, cond_true, cond_false, BEq.rfl, beq_self_eq_true, evalParts, fillParts, AV.cells, AV.ofCells, XV.av, AV.xv, List.length_cons, List.length_nil, zeros, patch, setMany, List.nil_append, List.cons_append, Nat.ble, Nat.add_eq, Nat.zero_add, Nat.add_zero, Nat.reduceAdd, Nat.reduceMul, Nat.reduceSub, Nat.ble_eq, Nat.reduceLeDiff, Nat.reduceBEq, Int.reduceBEq, Int.reduceNeg, Bool.and_true, Bool.and_false, Bool.true_and, Bool.false_and, Bool.not_true, Bool.not_false, Bool.true_eq_false, Bool.false_eq_true, Int.reduceLT, Int.reduceLE, Int.reduceGT, Int.reduceGE, decide_true, decide_false, Bool.not_eq_true, loopN_norm, loopN_exit, tf, ft, ff, v1]
  · have v1 : decide (n < 0) = false := decide_eq_false c1
    have v2 : decide (n > 32) = true := decide_eq_true (by omega)
    simp only [enter_eq, ev_seq, seqK_norm, seqK_exit, seqK_ret, ev_reg, ev_cond, condK_true, condK_false, ev_block, blockK_norm, blockK_ret, blockK_exit, ev_loop, ev_skip, ev_exit, ev_ret, regK_cons, regK_nil, guard_none, guard_some, regG_true, regG_false, regO_some, op_mov, op_conv, op_bin, op_bsl, op_box, op_mks, op_s2b, op_pick, op_un, op_eq, op_len, op_ext, op_load, op_iaddr, op_slice, op_b2s, op_idxS, op_mx, op_mn, op_call, op_store, op_app, op_copy, args_eq, result_one', rv_loc, finish_norm, finish_ret, outK_some, keep_true, keep_false, keep_nil, p_bin, p_pick, p_un, p_eq, p_conv, evNew, pureK_some, newK_some, X.eval, set_none, set_some, List.map_cons, List.map_nil, List.getD_cons_zero, List.getD_cons_succ, List.getD_nil, List.set_cons_zero, List.set_cons_succ, binCV, unCV, isShift, intArithF_eq, shiftF_eq, wrapF_eq, intArith, shift, eqVal, bound, asNat_cast, cond_true, cond_false, BEq.rfl, beq_self_eq_true, evalParts, fillParts, AV.cells, AV.ofCells, XV.av, AV.xv, List.length_cons, List.length_nil, zeros, patch, setMany, List.nil_append, List.cons_append, Nat.ble, Nat.add_eq, Nat.zero_add, Nat.add_zero, Nat.reduceAdd, Nat.reduceMul, Nat.reduceSub, Nat.ble_eq, Nat.reduceLeDiff, Nat.reduceBEq, Int.reduceBEq, Int.reduceNeg, Bool.and_true, Bool.and_false, Bool.true_and, Bool.false_and, Bool.not_true, Bool.not_false, Bool.true_eq_false, Bool.false_eq_true, Int.reduceLT, Int.reduceLE, Int.reduceGT, Int.reduceGE, decide_true, decide_false, Bool.not_eq_true, loopN_norm, loopN_exit, tf, ft, ff, v1, v2]
theorem rnew_ok (n : Nat) (hn : n ≤ 32) (hN : 100 ≤ N) : ∃ p x y v S h', evCallT table 18 N (d + 2) 21 [.c (.int .i64 (n : Int))] h = some (.c (.ptr p 0), h') ∧ RA h' p x y v (List.replicate n frZ) (ints n) S ∧ Ext h h' ∧ ∀ k ∈ rown p x y v, h.next ≤ k := by
  have v1 : decide ((n : Int) < 0) = false := decide_eq_false (by omega)
  have v2 : decide ((n : Int) > 32) = false := decide_eq_false (by omega)
  obtain ⟨H0, hH0⟩ : ∃ H, H = h.new (.cells [.nils, .nils, .nils]) := ⟨_, rfl⟩
  have x0 : Ext h H0 := by rw [hH0]; exact (Ext.refl _).new _
  have n0 : H0.next = h.next + 1 := by rw [hH0]; rfl
  have A0 : RA H0 h.next .nils .nils .nils [] [] [] := ⟨by rw [hH0]; exact get_new_at, by omega, Mine.nil, Mine.nil, rfl, .inl ⟨rfl, rfl⟩, .inl rfl, fun k hk => (by cases hk), fun k hk => (by cases hk), fun h => (by cases h)⟩
  have L : ∀ loc, keepOnly ir21_k0 loc = [.c (.int .i64 (n : Int)), .junk, .c (.ptr h.next 0), .c (.int .i64 0), .junk, .junk] →
      ∃ r, loopK (evCallT table 18 N (d + 1)) N ir21_k0 ir21_l0 N loc H0 = some r ∧ ∃ a0 a1 a3 a4 a5 x y v S G, r = (.exit 0, [a0, a1, .c (.ptr h.next 0), a3, a4, a5], G) ∧ RA G h.next x y v (List.replicate n frZ) (ints n) S ∧ Ext h G ∧ ∀ k ∈ rown h.next x y v, h.next ≤ k := by
    intro loc hloc
    refine loop_inv (n := n) (fun i loc G => i ≤ n ∧ (∃ x y v S, RA G h.next x y v (List.replicate i frZ) (ints i) S ∧ ∀ k ∈ rown h.next x y v, h.next ≤ k) ∧ Ext h G ∧ loc = [.c (.int .i64 (n : Int)), .junk, .c (.ptr h.next 0), .c (.int .i64 (i : Int)), .junk, .junk]) _ ?_ ⟨Nat.zero_le _, ⟨_, _, _, _, A0, fun k hk => by rcases mem_rown.1 hk with e | e | e | e <;> first | omega | cases e⟩, x0, hloc⟩ (by omega)
    rintro i loc G hi ⟨hin, ⟨x, y, v, S, A, yo⟩, xg, rfl⟩
    unfold ir21_l0
    by_cases hlt : i < n
    · left
      refine ⟨hlt, ?_⟩
      have w1 : decide ((i : Int) < (n : Int)) = true := ltNat hlt
      have w2 := succI (i := i) (by omega)
      obtain ⟨x', y', v', S', G', e, A', x1, y1, _⟩ := radd_ok (N := N) (d := d) A (by simp; omega) (by rw [ints_len]; omega) hN
      have er : addF (List.replicate i frZ) (ints i) = ((i : Int), List.replicate (i + 1) frZ, ints (i + 1)) := by
        unfold addF
        rw [retIdx_rep, if_neg (by omega), List.length_replicate, if_neg (by omega), rep_succ, ints_succ]
      rw [er] at e A'
      simp only [enter_eq, ev_seq, seqK_norm, seqK_exit, seqK_ret, ev_reg, ev_cond, condK_true, condK_false, ev_block, blockK_norm, blockK_ret, blockK_exit, ev_loop, ev_skip, ev_exit, ev_ret, regK_cons, regK_nil, guard_none, guard_some, regG_true, regG_false, regO_some, op_mov, op_conv, op_bin, op_bsl, op_box, op_mks, op_s2b, op_pick, op_un, op_eq, op_len, op_ext, op_load, op_iaddr, op_slice, op_b2s, op_idxS, op_mx, op_mn, op_call, op_store, op_app, op_copy, args_eq, result_one', rv_loc, finish_norm, finish_ret, outK_some, keep_true, keep_false, keep_nil, p_bin, p_pick, p_un, p_eq, p_conv, evNew, pureK_some, newK_some, X.eval, set_none, set_some, List.map_cons, List.map_nil, List.getD_cons_zero, List.getD_cons_succ, List.getD_nil, List.set_cons_zero, List.set_cons_succ, binCV, unCV, isShift, intArithF_eq, shiftF_eq, wrapF_eq, intArith, shift, eqVal, bound, asNat_cast, cond_true, cond_false, BEq.rfl, beq_self_eq_true, evalParts, fillParts, AV.cells, AV.ofCells, XV.av, AV.xv, List.length_cons, List.length_nil, zeros, patch, setMany, List.nil_append, List.cons_append, Nat.ble, Nat.add_eq, Nat.zero_add, Nat.add_zero, Nat.reduceAdd, Nat.reduceMul, Nat.reduceSub, Nat.ble_eq, Nat.reduceLeDiff, Nat.reduceBEq, Int.reduceBEq, Int.reduceNeg, Bool.and_true, Bool.and_false, Bool.true_and, Bool.false_and, Bool.not_true, Bool.not_false, Bool.true_eq_false, Bool.false_eq_true, Int.reduceLT, Int.reduceLE, Int.reduceGT, Int.reduceGE, decide_true, decide_false, Bool.not_eq_true, loopN_norm, loopN_exit, tf, ft, ff, w1, w2, e]
      exact ⟨_, _, rfl, by omega, ⟨x', y', v', S', A', fun k hk => (y1 k hk).elim (yo k) fun h => by have := xg.1; omega⟩, xg.own x1 yo, rfl⟩
    · right
      have hin' : i = n := by omega
      subst hin'
      have w1 : decide ((i : Int) < (i : Int)) = false := geNat (Nat.le_refl _)
      simp only [enter_eq, ev_seq, seqK_norm, seqK_exit, seqK_ret, ev_reg, ev_cond, condK_true, condK_false, ev_block, blockK_norm, blockK_ret, blockK_exit, ev_loop, ev_skip, ev_exit, ev_ret, regK_cons, regK_nil, guard_none, guard_some, regG_true, regG_false, regO_some, op_mov, op_conv, op_bin, op_bsl, op_box, op_mks, op_s2b, op_pick, op_un, op_eq, op_len, op_ext, op_load, op_iaddr, op_slice, op_b2s, op_idxS, op_mx, op_mn, op_call, op_store, op_app, op_copy, args_eq, result_one', rv_loc, finish_norm, finish_ret, outK_some, keep_true, keep_false, keep_nil, p_bin, p_pick, p_un, p_eq, p_conv, evNew, pureK_some, newK_some, X.eval, set_none, set_some, List.map_cons, List.map_nil, List.getD_cons_zero, List.getD_cons_succ, List.getD_nil, List.set_cons_zero, List.set_cons_succ, binCV, unCV, isShift, intArithF_eq, shiftF_eq, wrapF_eq, intArith, shift, eqVal, bound, asNat_cast, cond_true, cond_false, BEq.rfl, beq_self_eq_true, evalParts, fillParts, AV.cells, AV.ofCells, XV.av, AV.xv, List.length_cons, List.length_nil, zeros, patch, setMany, List.nil_append, List.cons_append, Nat.ble, Nat.add_eq, Nat.zero_add, Nat.add_zero, Nat.reduceAdd, Nat.reduceMul, Nat.reduceSub, Nat.ble_eq, Nat.reduceLeDiff, Nat.reduceBEq, Int.reduceBEq, Int.reduceNeg, Bool.and_true, Bool.and_false, Bool.true_and, Bool.false_and, Bool.not_true, Bool.not_false, Bool.true_eq_false, Bool.false_eq_true, Int.reduceLT, Int.reduceLE, Int.reduceGT, Int.reduceGE, decide_true, decide_false, Bool.not_eq_true, loopN_norm, loopN_exit, tf, ft, ff, w1]
      exact ⟨_, rfl, by simp, _, _, _, _, _, x, y, v, S, G, rfl, A, xg, yo⟩
  obtain ⟨r, ⟨a0, a1, a3, a4, a5, x, y, v, S, G, rfl, A, xg, yo⟩, hr⟩ := loop_any L rfl
  rw [evCallT_eq (F := ir21) rfl rfl rfl]
  unfold ir21
  rw [bodyK_eq]
  simp only [enter_eq, ev_seq, seqK_norm, seqK_exit, seqK_ret, ev_reg, ev_cond, condK_true, condK_false, ev_block, blockK_norm, blockK_ret, blockK_exit, ev_loop, ev_skip, ev_exit, ev_ret, regK_cons, regK_nil, guard_none, guard_some, regG_true, regG_false, regO_some, op_mov, op_conv, op_bin, op_bsl, op_box, op_mks, op_s2b, op_pick, op_un, op_eq, op_len, op_ext, op_load, op_iaddr, op_slice, op_b2s, op_idxS, op_mx, op_mn, op_call, op_store, op_app, op_copy, args_eq, result_one', rv_loc, finish_norm, finish_ret, outK_some, keep_true, keep_false, keep_nil, p_bin, p_pick, p_un, p_eq, p_conv, evNew, pureK_some, newK_some, X.eval, set_none, set_some, List.map_cons, List.map_nil, List.getD_cons_zero, List.getD_cons_succ, List.getD_nil, List.set_cons_zero, List.set_cons_succ, binCV, unCV, isShift, intArithF_eq, shiftF_eq, wrapF_eq, intArith, shift, eqVal, bound, asNat_cast, cond_true, cond_false, BEq.rfl, beq_self_eq_true, evalParts, fillParts, AV.cells, AV.ofCells, XV.av, AV.xv, List.length_cons, List.length_nil, zeros, patch, setMany, List.nil_append, List.cons_append, Nat.ble, Nat.add_eq, Nat.zero_add, Nat.add_zero, Nat.reduceAdd, Nat.reduceMul, Nat.reduceSub, Nat.ble_eq, Nat.reduceLeDiff, Nat.reduceBEq, Int.reduceBEq, Int.reduceNeg, Bool.and_true, Bool.and_false, Bool.true_and, Bool.false_and, Bool.not_true, Bool.not_false, Bool.true_eq_false, Bool.false_eq_true, Int.reduceLT, Int.reduceLE, Int.reduceGT, Int.reduceGE, decide_true, decide_false, Bool.not_eq_true, loopN_norm, loopN_exit, tf, ft, ff, v1, v2, op_build, p_build', ← hH0]
  rw [hr _ rfl]
  simp only [enter_eq, ev_seq, seqK_norm, seqK_exit, seqK_ret, ev_reg, ev_cond, condK_true, condK_false, ev_block, blockK_norm, blockK_ret, blockK_exit, ev_loop, ev_skip, ev_exit, ev_ret, regK_cons, regK_nil, guard_none, guard_some, regG_true, regG_false, regO_some, op_mov, op_conv, op_bin, op_bsl, op_box, op_mks, op_s2b, op_pick, op_un, op_eq, op_len, op_ext, op_load, op_iaddr, op_slice, op_b2s, op_idxS, op_mx, op_mn, op_call, op_store, op_app, op_copy, args_eq, result_one', rv_loc, finish_norm, finish_ret, outK_some, keep_true, keep_false, keep_nil, p_bin, p_pick, p_un, p_eq, p_conv, evNew, pureK_some, newK_some, X.eval, set_none, set_some, List.map_cons, List.map_nil, List.getD_cons_zero, List.getD_cons_succ, List.getD_nil, List.set_cons_zero, List.set_cons_succ, binCV, unCV, isShift, intArithF_eq, shiftF_eq, wrapF_eq, intArith, shift, eqVal, bound, asNat_cast, cond_true, cond_false, BEq.rfl, beq_self_eq_true, evalParts, fillParts, AV.cells, AV.ofCells, XV.av, AV.xv, List.length_cons, List.length_nil, zeros, patch, setMany, List.nil_append, List.cons_append, Nat.ble, Nat.add_eq, Nat.zero_add, Nat.add_zero, Nat.reduceAdd, Nat.reduceMul, Nat.reduceSub, Nat.ble_eq, Nat.reduceLeDiff, Nat.reduceBEq, Int.reduceBEq, Int.reduceNeg, Bool.and_true, Bool.and_false, Bool.true_and, Bool.false_and, Bool.not_true, Bool.not_false, Bool.true_eq_false, Bool.false_eq_true, Int.reduceLT, Int.reduceLE, Int.reduceGT, Int.reduceGE, decide_true, decide_false, Bool.not_eq_true, loopN_norm, loopN_exit, tf, ft, ff, blockK_exit_eq]
  exact ⟨h.next, x, y, v, S, G, rfl, A, xg, yo⟩

theorem rbody_ok (A : RA h p x y v fs o S) {i : Nat} (hi : i < fs.length) : evCallT table 18 N (d + 1) 46 [.c (.ptr p 0), .c (.int .i64 (i : Int))] h = some (.c (.str (if fs[i].st = 1 then S.getD i [] else [])), h) := by
  obtain ⟨fb, rfl, _, _, T⟩ := A.at_ hi
  have r0 := A.r0
  have r1 := A.r1
  have m1 : Nat.blt i fs.length = true := bltT hi
  have s1 := T.s
  obtain ⟨sb, rfl, m2, rS, _⟩ := A.body hi
  rw [evCallT_eq (F := ir46) rfl rfl rfl]
  unfold ir46
  rw [bodyK_eq]
  by_cases h1 : fs[i].st = 1
  · rw [h1] at s1
    rw [if_pos h1]
    simp only [enter_eq, ev_seq, seqK_norm, seqK_exit, seqK_ret, ev_reg, ev_cond, condK_true, condK_false, ev_block, blockK_norm, blockK_ret, blockK_exit, ev_loop, ev_skip, ev_exit, ev_ret, regK_cons, regK_nil, guard_none, guard_some, regG_true, regG_false, regO_some, op_mov, op_conv, op_bin, op_bsl, op_box, op_mks, op_s2b, op_pick, op_un, op_eq, op_len, op_ext, op_load, op_iaddr, op_slice, op_b2s, op_idxS, op_mx, op_mn, op_call, op_store, op_app, op_copy, args_eq, result_one', rv_loc, finish_norm, finish_ret, outK_some, keep_true, keep_false, keep_nil, p_bin, p_pick, p_un, p_eq, p_conv, evNew, pureK_some, newK_some, X.eval, set_none, set_some, List.map_cons, List.map_nil, List.getD_cons_zero, List.getD_cons_succ, List.getD_nil, List.set_cons_zero, List.set_cons_succ, binCV, unCV, isShift, intArithF_eq, shiftF_eq, wrapF_eq, intArith, shift, eqVal, bound, asNat_cast, cond_true, cond_false, BEq.rfl, beq_self_eq_true, evalParts, fillParts, AV.cells, AV.ofCells, XV.av, AV.xv, List.length_cons, List.length_nil, zeros, patch, setMany, List.nil_append, List.cons_append, Nat.ble, Nat.add_eq, Nat.zero_add, Nat.add_zero, Nat.reduceAdd, Nat.reduceMul, Nat.reduceSub, Nat.ble_eq, Nat.reduceLeDiff, Nat.reduceBEq, Int.reduceBEq, Int.reduceNeg, Bool.and_true, Bool.and_false, Bool.true_and, Bool.false_and, Bool.not_true, Bool.not_false, Bool.true_eq_false, Bool.false_eq_true, Int.reduceLT, Int.reduceLE, Int.reduceGT, Int.reduceGE, decide_true, decide_false, Bool.not_eq_true, loopN_norm, loopN_exit, tf, ft, ff, op_nilchk, p_nilchk, op_faddr, p_faddr, p_load, r0, r1, AV.ofCells, p_iaddr, m1, s1, bneI, m2, rS, Nat.mul_one, Nat.zero_add]
  · have v1 : (fs[i].st == 1) = false := by simp only [beq_eq_false_iff_ne, ne_eq]; exact h1
    rw [if_neg h1]
    simp only [enter_eq, ev_seq, seqK_norm, seqK_exit, seqK_ret, ev_reg, ev_cond, condK_true, condK_false, ev_block, blockK_norm, blockK_ret, blockK_exit, ev_loop, ev_skip, ev_exit, ev_ret, regK_cons, regK_nil, guard_none, guard_some, regG_true, regG_false, regO_some, op_mov, op_conv, op_bin, op_bsl, op_box, op_mks, op_s2b, op_pick, op_un, op_eq, op_len, op_ext, op_load, op_iaddr, op_slice, op_b2s, op_idxS, op_mx, op_mn, op_call, op_store, op_app, op_copy, args_eq, result_one', rv_loc, finish_norm, finish_ret, outK_some, keep_true, keep_false, keep_nil, p_bin, p_pick, p_un, p_eq, p_conv, evNew, pureK_some, newK_some, X.eval, set_none, set_some, List.map_cons, List.map_nil, List.getD_cons_zero, List.getD_cons_succ, List.getD_nil, List.set_cons_zero, List.set_cons_succ, binCV, unCV, isShift, intArithF_eq, shiftF_eq, wrapF_eq, intArith, shift, eqVal, bound, asNat_cast, cond_true, cond_false, BEq.rfl, beq_self_eq_true, evalParts, fillParts, AV.cells, AV.ofCells, XV.av, AV.xv, List.length_cons, List.length_nil, zeros, patch, setMany, List.nil_append, List.cons_append, Nat.ble, Nat.add_eq, Nat.zero_add, Nat.add_zero, Nat.reduceAdd, Nat.reduceMul, Nat.reduceSub, Nat.ble_eq, Nat.reduceLeDiff, Nat.reduceBEq, Int.reduceBEq, Int.reduceNeg, Bool.and_true, Bool.and_false, Bool.true_and, Bool.false_and, Bool.not_true, Bool.not_false, Bool.true_eq_false, Bool.false_eq_true, Int.reduceLT, Int.reduceLE, Int.reduceGT, Int.reduceGE, decide_true, decide_false, Bool.not_eq_true, loopN_norm, loopN_exit, tf, ft, ff, op_nilchk, p_nilchk, op_faddr, p_faddr, p_load, r0, AV.ofCells, p_iaddr, m1, s1, bneI, v1]
end
end Lav

set_option maxRecDepth 100000
set_option linter.unusedSimpArgs false
namespace Lav
open Go (IntKind)

/-- Both, each with blocks of its own. -/
structure Two (h0 G : Heap) (p : Nat) (a : AP) (fs : List Fm) (o : List Int) (M : Nat → Option Int) (B : Nat → List (BitVec 8)) (q : Nat) (x y v : CV) (S : List (List Nat)) : Prop where
  ab : AB G p a fs o M B
  r : RA G q x y v fs o S
  sb : SB fs S B
  dis : ∀ k ∈ all p a fs, k ∉ rown q x y v
  ya : ∀ k ∈ all p a fs, h0.next ≤ k
  yr : ∀ k ∈ rown q x y v, h0.next ≤ k

section
variable {N d : Nat} {h0 G G1 G2 : Heap} {p q : Nat} {a a' : AP} {fs fs' : List Fm} {o o' : List Int} {M M' : Nat → Option Int} {B B' : Nat → List (BitVec 8)} {x y v x' y' v' : CV} {S S' : List (List Nat)}
theorem Two.r1 (T : Two h0 G p a fs o M B q x y v S) (e : ExtB (all p a fs) G G1) : RA G1 q x y v fs o S := T.r.ext e fun k hk hm => T.dis k hm hk
theorem Two.ext' (T : Two h0 G p a fs o M B q x y v S) (e : Ext G G1) : Two h0 G1 p a fs o M B q x y v S := ⟨T.ab.ext' e, T.r.ext' e, T.sb, T.dis, T.ya, T.yr⟩
theorem Two.step (T : Two h0 G p a fs o M B q x y v S) (hG : h0.next ≤ G.next) (A' : AB G1 p a' fs' o' M' B') (eA : ExtB (all p a fs) G G1) (yA : YoungB G p a fs a' fs') (R' : RA G2 q x' y' v' fs' o' S') (eR : ExtB (rown q x y v) G1 G2) (yR : YoungR G1 q x y v x' y' v') (sb' : SB fs' S' B') :
    Two h0 G2 p a' fs' o' M' B' q x' y' v' S' ∧ ExtB (all p a fs ++ rown q x y v) G G2 := by
  have oldR := T.r.old
  have oldA := A'.old
  refine ⟨⟨A'.ext eR fun k hk hm => ?_, R', sb', fun k hk hm => ?_, fun k hk => ?_, fun k hk => ?_⟩, ⟨Nat.le_trans eA.1 eR.1, fun k hk hn => ?_⟩⟩
  · rcases yA k hk with h | h
    · exact T.dis k h hm
    · have := oldR k hm; omega
  · rcases yR k hm with h | h
    · rcases yA k hk with h' | h'
      · exact T.dis k h' h
      · have := oldR k h; omega
    · have := oldA k hk; omega
  · exact (yA k hk).elim (T.ya k) fun h => by omega
  · exact (yR k hk).elim (T.yr k) fun h => by have := eA.1; omega
  · rw [List.mem_append, not_or] at hn
    exact (eR.2 k (Nat.lt_of_lt_of_le hk eA.1) hn.2).trans (eA.2 k hk hn.1)
theorem eqC (a b c : Int) (d : Bool) : eqCells [true, true, true, true, false] [.int .i64 a, .int .i64 b, .int .i64 c, .int .i64 0, .bool d] [.int .i64 a, .int .i64 b, .int .i64 c, .int .i64 0, .bool d] = some true := by
  simp [eqCells]
theorem strBne {a b : List Nat} : (a != b) = !(a == b) := rfl
theorem bodyM_at {i : Nat} (hi : i < fs.length) : bodyM fs B (i : Int) = if fs[i].st = 1 then B i else [] := by
  unfold bodyM usedF
  rw [if_neg (by omega), Int.toNat_natCast, List.getElem?_eq_getElem hi]
  by_cases h1 : fs[i].st = 1
  · simp only [if_pos h1]
  · simp only [if_neg h1]

/-- They are told alike. -/
theorem same_ok (T : Two h0 G p a fs o M B q x y v S) (hN : 100 ≤ N) : ∃ h', evCallT table 18 N (d + 3) 32 [.c (.ptr p 0), .c (.ptr q 0)] G = some (.c (.bool true), h') ∧ Ext G h' := by
  have sm := T.ab.ah.sm
  obtain ⟨w, H1, e1, W, x1⟩ : ∃ y h', evCallT table 18 N (d + 2) 17 [.c (.ptr p 0)] G = some (.c y, h') ∧ Tells G h' y fs ∧ Ext G h' := frames_ok (N := N) (d := d + 1) T.ab.ah.ar sm hN
  have T1 := T.ext' x1
  have e2 := free_ok (N := N) (d := d) T1.ab.ah.ar
  have lw := W.len
  have q0 := T1.r.r0
  have q2 := T1.r.r2
  have lx := T1.r.lx
  have lv := T1.r.lv
  have L : ∀ loc, keepOnly ir32_k0 loc = [.c (.ptr p 0), .c (.ptr q 0), .junk, .c w, .c (.int .i64 0), .junk, .junk, .junk] →
      ∃ r, loopK (evCallT table 18 N (d + 2)) N ir32_k0 ir32_l0 N loc H1 = some r ∧ ∃ a0 a1 a2 a3 a4 a5 a6 a7 h', r = (.exit 0, [a0, a1, a2, a3, a4, a5, a6, a7], h') ∧ Ext H1 h' := by
    intro loc hloc
    refine loop_inv (n := fs.length) (fun i loc K => i ≤ fs.length ∧ Ext H1 K ∧ loc = [.c (.ptr p 0), .c (.ptr q 0), .junk, .c w, .c (.int .i64 (i : Int)), .junk, .junk, .junk]) _ ?_ ⟨Nat.zero_le _, Ext.refl _, hloc⟩ (by omega)
    rintro i loc K hi ⟨hin, xk, rfl⟩
    unfold ir32_l0
    by_cases hlt : i < fs.length
    · left
      refine ⟨hlt, ?_⟩
      have v1 : decide ((i : Int) < (fs.length : Int)) = true := ltNat hlt
      have v2 := succI (i := i) (by omega)
      have m1 : Nat.blt i fs.length = true := bltT hlt
      have TK := T1.ext' xk
      have WK : Tells G K w fs := Mine.keepB W (xk.b []) (by simp)
      obtain ⟨fb, rfl, _, F⟩ := WK.at_ hlt
      have r1 := F.all
      obtain ⟨fr, rfl, _, _, F2⟩ := TK.r.at_ hlt
      have k0 := TK.r.r0
      have r2 := F2.all
      obtain ⟨z, K1, e3, hz, x3⟩ := TK.ab.body (N := N) (d := d) (i : Int)
      have TK1 := TK.ext' x3
      have e4 := rbody_ok (N := N) (d := d + 1) TK1.r hlt
      rw [bodyM_at hlt] at hz
      have sb := T.sb i fs[i] (List.getElem?_eq_getElem hlt)
      have tz : ∀ loc vals, evPure loc (.c z :: vals) K1 (.b2s (.val 0)) = some (.c (.str (if fs[i].st = 1 then S.getD i [] else []))) := fun loc vals => by
        rcases hz with ⟨rfl, hb⟩ | ⟨b, rfl, hg, hl, _, _⟩
        · by_cases h1 : fs[i].st = 1
          · rw [if_pos h1] at hb
            have := (sb h1).2
            rw [hb] at this
            simp at this
          · rw [if_neg h1]; rfl
        · by_cases h1 : fs[i].st = 1
          · rw [if_pos h1] at hg hl ⊢
            rw [(sb h1).1]
            exact b2s_at rfl (read_u8 (o := 0) hg (by omega))
          · rw [if_neg h1] at hl; simp at hl
      generalize (if fs[i].st = 1 then S.getD i [] else []) = tt at *
      have stt : (tt == tt) = true := by simp
      simp only [enter_eq, ev_seq, seqK_norm, seqK_exit, seqK_ret, ev_reg, ev_cond, condK_true, condK_false, ev_block, blockK_norm, blockK_ret, blockK_exit, ev_loop, ev_skip, ev_exit, ev_ret, regK_cons, regK_nil, guard_none, guard_some, regG_true, regG_false, regO_some, op_mov, op_conv, op_bin, op_bsl, op_box, op_mks, op_s2b, op_pick, op_un, op_eq, op_len, op_ext, op_load, op_iaddr, op_slice, op_b2s, op_idxS, op_mx, op_mn, op_call, op_store, op_app, op_copy, args_eq, result_one', rv_loc, finish_norm, finish_ret, outK_some, keep_true, keep_false, keep_nil, p_bin, p_pick, p_un, p_eq, p_conv, evNew, pureK_some, newK_some, X.eval, set_none, set_some, List.map_cons, List.map_nil, List.getD_cons_zero, List.getD_cons_succ, List.getD_nil, List.set_cons_zero, List.set_cons_succ, binCV, unCV, isShift, intArithF_eq, shiftF_eq, wrapF_eq, intArith, shift, eqVal, bound, asNat_cast, cond_true, cond_false, BEq.rfl, beq_self_eq_true, evalParts, fillParts, AV.cells, AV.ofCells, XV.av, AV.xv, List.length_cons, List.length_nil, zeros, patch, setMany, List.nil_append, List.cons_append, Nat.ble, Nat.add_eq, Nat.zero_add, Nat.add_zero, Nat.reduceAdd, Nat.reduceMul, Nat.reduceSub, Nat.ble_eq, Nat.reduceLeDiff, Nat.reduceBEq, Int.reduceBEq, Int.reduceNeg, Bool.and_true, Bool.and_false, Bool.true_and, Bool.false_and, Bool.not_true, Bool.not_false, Bool.true_eq_false, Bool.false_eq_true, Int.reduceLT, Int.reduceLE, Int.reduceGT, Int.reduceGE, decide_true, decide_false, Bool.not_eq_true, loopN_norm, loopN_exit, tf, ft, ff, ev_dreg, dregK_nil, dregK_cons, dregE_true, dregP_some, dregX_some, d_mov, d_bin, d_eq, d_pick, d_un, d_conv, d_b2s, d_len, d_load, d_iaddr, d_slice, d_ext, d_call, d_store, chk_done, chk_none, chk_some, chkG_true, chkG_false, chkOne_nil, chkOne_cons, chkH_some, chkV_same, stage_none, stage_some, look_hit, look_miss, news_nil, wb_cons, wb_nil, skip0, List.reverse_cons, List.reverse_nil, lw, v1, v2, p_iaddr, m1, p_load, AV.ofCells, r1, d_nilchk, p_nilchk, d_faddr, p_faddr, k0, r2, e3, tz, e4, stt, eqC, strBne, Nat.zero_add]
      exact ⟨_, _, rfl, by omega, xk.trans x3, rfl⟩
    · right
      have v1 : decide ((i : Int) < (fs.length : Int)) = false := geNat (by omega)
      simp only [enter_eq, ev_seq, seqK_norm, seqK_exit, seqK_ret, ev_reg, ev_cond, condK_true, condK_false, ev_block, blockK_norm, blockK_ret, blockK_exit, ev_loop, ev_skip, ev_exit, ev_ret, regK_cons, regK_nil, guard_none, guard_some, regG_true, regG_false, regO_some, op_mov, op_conv, op_bin, op_bsl, op_box, op_mks, op_s2b, op_pick, op_un, op_eq, op_len, op_ext, op_load, op_iaddr, op_slice, op_b2s, op_idxS, op_mx, op_mn, op_call, op_store, op_app, op_copy, args_eq, result_one', rv_loc, finish_norm, finish_ret, outK_some, keep_true, keep_false, keep_nil, p_bin, p_pick, p_un, p_eq, p_conv, evNew, pureK_some, newK_some, X.eval, set_none, set_some, List.map_cons, List.map_nil, List.getD_cons_zero, List.getD_cons_succ, List.getD_nil, List.set_cons_zero, List.set_cons_succ, binCV, unCV, isShift, intArithF_eq, shiftF_eq, wrapF_eq, intArith, shift, eqVal, bound, asNat_cast, cond_true, cond_false, BEq.rfl, beq_self_eq_true, evalParts, fillParts, AV.cells, AV.ofCells, XV.av, AV.xv, List.length_cons, List.length_nil, zeros, patch, setMany, List.nil_append, List.cons_append, Nat.ble, Nat.add_eq, Nat.zero_add, Nat.add_zero, Nat.reduceAdd, Nat.reduceMul, Nat.reduceSub, Nat.ble_eq, Nat.reduceLeDiff, Nat.reduceBEq, Int.reduceBEq, Int.reduceNeg, Bool.and_true, Bool.and_false, Bool.true_and, Bool.false_and, Bool.not_true, Bool.not_false, Bool.true_eq_false, Bool.false_eq_true, Int.reduceLT, Int.reduceLE, Int.reduceGT, Int.reduceGE, decide_true, decide_false, Bool.not_eq_true, loopN_norm, loopN_exit, tf, ft, ff, lw, v1]
      exact ⟨_, rfl, by simp, _, _, _, _, _, _, _, _, K, rfl, xk⟩
  obtain ⟨r, ⟨a0, a1, a2, a3, a4, a5, a6, a7, K, rfl, xk⟩, hr⟩ := loop_any L rfl
  rw [evCallT_eq (F := ir32) rfl rfl rfl]
  unfold ir32
  rw [bodyK_eq]
  simp only [enter_eq, ev_seq, seqK_norm, seqK_exit, seqK_ret, ev_reg, ev_cond, condK_true, condK_false, ev_block, blockK_norm, blockK_ret, blockK_exit, ev_loop, ev_skip, ev_exit, ev_ret, regK_cons, regK_nil, guard_none, guard_some, regG_true, regG_false, regO_some, op_mov, op_conv, op_bin, op_bsl, op_box, op_mks, op_s2b, op_pick, op_un, op_eq, op_len, op_ext, op_load, op_iaddr, op_slice, op_b2s, op_idxS, op_mx, op_mn, op_call, op_store, op_app, op_copy, args_eq, result_one', rv_loc, finish_norm, finish_ret, outK_some, keep_true, keep_false, keep_nil, p_bin, p_pick, p_un, p_eq, p_conv, evNew, pureK_some, newK_some, X.eval, set_none, set_some, List.map_cons, List.map_nil, List.getD_cons_zero, List.getD_cons_succ, List.getD_nil, List.set_cons_zero, List.set_cons_succ, binCV, unCV, isShift, intArithF_eq, shiftF_eq, wrapF_eq, intArith, shift, eqVal, bound, asNat_cast, cond_true, cond_false, BEq.rfl, beq_self_eq_true, evalParts, fillParts, AV.cells, AV.ofCells, XV.av, AV.xv, List.length_cons, List.length_nil, zeros, patch, setMany, List.nil_append, List.cons_append, Nat.ble, Nat.add_eq, Nat.zero_add, Nat.add_zero, Nat.reduceAdd, Nat.reduceMul, Nat.reduceSub, Nat.ble_eq, Nat.reduceLeDiff, Nat.reduceBEq, Int.reduceBEq, Int.reduceNeg, Bool.and_true, Bool.and_false, Bool.true_and, Bool.false_and, Bool.not_true, Bool.not_false, Bool.true_eq_false, Bool.false_eq_true, Int.reduceLT, Int.reduceLE, Int.reduceGT, Int.reduceGE, decide_true, decide_false, Bool.not_eq_true, loopN_norm, loopN_exit, tf, ft, ff, ev_dreg, dregK_nil, dregK_cons, dregE_true, dregP_some, dregX_some, d_mov, d_bin, d_eq, d_pick, d_un, d_conv, d_b2s, d_len, d_load, d_iaddr, d_slice, d_ext, d_call, d_store, chk_done, chk_none, chk_some, chkG_true, chkG_false, chkOne_nil, chkOne_cons, chkH_some, chkV_same, stage_none, stage_some, look_hit, look_miss, news_nil, wb_cons, wb_nil, skip0, List.reverse_cons, List.reverse_nil, e1, lw, d_nilchk, p_nilchk, d_faddr, p_faddr, p_load, AV.ofCells, q0, q2, lx, lv, e2, bneI, eqq]
  rw [hr _ rfl]
  simp only [enter_eq, ev_seq, seqK_norm, seqK_exit, seqK_ret, ev_reg, ev_cond, condK_true, condK_false, ev_block, blockK_norm, blockK_ret, blockK_exit, ev_loop, ev_skip, ev_exit, ev_ret, regK_cons, regK_nil, guard_none, guard_some, regG_true, regG_false, regO_some, op_mov, op_conv, op_bin, op_bsl, op_box, op_mks, op_s2b, op_pick, op_un, op_eq, op_len, op_ext, op_load, op_iaddr, op_slice, op_b2s, op_idxS, op_mx, op_mn, op_call, op_store, op_app, op_copy, args_eq, result_one', rv_loc, finish_norm, finish_ret, outK_some, keep_true, keep_false, keep_nil, p_bin, p_pick, p_un, p_eq, p_conv, evNew, pureK_some, newK_some, X.eval, set_none, set_some, List.map_cons, List.map_nil, List.getD_cons_zero, List.getD_cons_succ, List.getD_nil, List.set_cons_zero, List.set_cons_succ, binCV, unCV, isShift, intArithF_eq, shiftF_eq, wrapF_eq, intArith, shift, eqVal, bound, asNat_cast, cond_true, cond_false, BEq.rfl, beq_self_eq_true, evalParts, fillParts, AV.cells, AV.ofCells, XV.av, AV.xv, List.length_cons, List.length_nil, zeros, patch, setMany, List.nil_append, List.cons_append, Nat.ble, Nat.add_eq, Nat.zero_add, Nat.add_zero, Nat.reduceAdd, Nat.reduceMul, Nat.reduceSub, Nat.ble_eq, Nat.reduceLeDiff, Nat.reduceBEq, Int.reduceBEq, Int.reduceNeg, Bool.and_true, Bool.and_false, Bool.true_and, Bool.false_and, Bool.not_true, Bool.not_false, Bool.true_eq_false, Bool.false_eq_true, Int.reduceLT, Int.reduceLE, Int.reduceGT, Int.reduceGE, decide_true, decide_false, Bool.not_eq_true, loopN_norm, loopN_exit, tf, ft, ff, blockK_exit_eq]
  exact ⟨K, rfl, x1.trans xk⟩
end
end Lav

set_option maxRecDepth 100000
set_option linter.unusedSimpArgs false
namespace Lav
open Go (IntKind)

/-- Who is used was used. -/
def SubU (fs fs' : List Fm) : Prop := ∀ (i : Nat) (g : Fm), fs'[i]? = some g → g.st = 1 → ∃ f, fs[i]? = some f ∧ f.st = 1
theorem SubU.refl (fs : List Fm) : SubU fs fs := fun _ g hg hs => ⟨g, hg, hs⟩
theorem SubU.set {fs : List Fm} {i : Nat} {g : Fm} (hi : i < fs.length) (h : g.st = 1 → fs[i].st = 1) : SubU fs (fs.set i g) := by
  intro j x hx hs
  rcases (set_at hi).1 hx with ⟨rfl, rfl⟩ | ⟨_, h'⟩
  · exact ⟨fs[j], List.getElem?_eq_getElem hi, h hs⟩
  · exact ⟨x, h', hs⟩
theorem SB.sub {fs fs' : List Fm} {S : List (List Nat)} {B : Nat → List (BitVec 8)} (sb : SB fs S B) (h : SubU fs fs') : SB fs' S B := fun i g hg hs => let ⟨f, hf, h1⟩ := h i g hg hs; sb i f hf h1
theorem pinF_sub (fs : List Fm) (f : Int) : SubU fs (pinF fs f).2 := by
  unfold pinF
  cases e : usedF fs f with
  | none => exact SubU.refl fs
  | some x =>
    obtain ⟨i, g⟩ := x
    obtain ⟨rfl, hi, rfl, h1⟩ := usedF_some e
    simp only
    split
    · exact SubU.refl fs
    · exact SubU.set hi id
theorem unpinF_sub (fs : List Fm) (f : Int) : SubU fs (unpinF fs f).2 := by
  unfold unpinF
  cases e : usedF fs f with
  | none => exact SubU.refl fs
  | some x =>
    obtain ⟨i, g⟩ := x
    obtain ⟨rfl, hi, rfl, h1⟩ := usedF_some e
    simp only
    split
    · exact SubU.refl fs
    · exact SubU.set hi id
theorem markF_sub (fs : List Fm) (f : Int) (b : Bool) : SubU fs (markF fs f b).2 := by
  unfold markF
  cases e : usedF fs f with
  | none => exact SubU.refl fs
  | some x =>
    obtain ⟨i, g⟩ := x
    obtain ⟨rfl, hi, rfl, h1⟩ := usedF_some e
    exact SubU.set hi id
theorem dropF_sub (fs : List Fm) (o : List Int) (f : Int) : SubU fs (dropF fs o f).2.1 := by
  unfold dropF
  cases e : usedF fs f with
  | none => exact SubU.refl fs
  | some x =>
    obtain ⟨i, g⟩ := x
    obtain ⟨rfl, hi, rfl, h1⟩ := usedF_some e
    simp only
    split
    · exact SubU.refl fs
    · exact SubU.set hi fun h => absurd h (by decide)
theorem retireF_sub {fs : List Fm} {o : List Int} (fo : FO fs o) : SubU fs (retireF fs o).2.1 := by
  cases o with
  | nil => exact SubU.refl fs
  | cons f o' =>
    obtain ⟨i, hi, rfl, h0⟩ := fo.lt (x := f) (by simp)
    unfold retireF
    simp only [Int.toNat_natCast, List.getElem?_eq_getElem hi]
    exact SubU.set hi fun h => absurd h (by show ¬ (4 : Int) = 1; decide)
theorem addF_sub (fs : List Fm) (o : List Int) : SubU fs (addF fs o).2.1 := by
  unfold addF
  split
  · exact SubU.refl fs
  · split
    · rename_i h; exact SubU.set h fun h => absurd h (by decide)
    · intro i g hg hs
      rcases app_at.1 hg with ⟨_, rfl⟩ | h'
      · cases hs
      · exact ⟨g, h', hs⟩
theorem SB.take {fs : List Fm} {o : List Int} {S : List (List Nat)} {B : Nat → List (BitVec 8)} (sb : SB fs S B) (hl : S.length = fs.length) (fo : FO fs o) (g : Int) (z : CV) :
    SB (takeF fs o g z).2.1 (if g < 0 ∨ g ≥ 48 ∨ 0 ≤ findF fs g ∨ o = [] then S else S.set (o.headD 0).toNat (strOf (List.replicate 16 0#8))) (if g < 0 ∨ g ≥ 48 ∨ 0 ≤ findF fs g ∨ o = [] then B else fun j => if (j : Int) = o.headD 0 then List.replicate 16 0#8 else B j) := by
  unfold takeF
  by_cases h1 : g < 0 ∨ g ≥ 48 ∨ 0 ≤ findF fs g
  · have h2 : g < 0 ∨ g ≥ 48 ∨ 0 ≤ findF fs g ∨ o = [] := h1.elim .inl fun h => .inr (h.elim .inl fun h => .inr (.inl h))
    rw [if_pos h1, if_pos h2, if_pos h2]
    exact sb
  · rw [if_neg h1]
    cases o with
    | nil =>
      have h2 : g < 0 ∨ g ≥ 48 ∨ 0 ≤ findF fs g ∨ ([] : List Int) = [] := .inr (.inr (.inr rfl))
      rw [if_pos h2, if_pos h2]
      exact sb
    | cons f o' =>
      have h2 : ¬ (g < 0 ∨ g ≥ 48 ∨ 0 ≤ findF fs g ∨ f :: o' = []) := fun h => h1 (by
        rcases h with h | h | h | h
        · exact .inl h
        · exact .inr (.inl h)
        · exact .inr (.inr h)
        · cases h)
      rw [if_neg h2, if_neg h2]
      obtain ⟨i, hi, rfl, h0⟩ := fo.lt (x := f) (by simp)
      simp only [Int.toNat_natCast, List.headD_cons]
      intro j x hx hs
      rcases (set_at hi).1 hx with ⟨rfl, rfl⟩ | ⟨hne, h'⟩
      · show (S.set j (strOf (List.replicate 16 0#8))).getD j [] = strOf (if (j : Int) = (j : Int) then List.replicate 16 0#8 else B j) ∧ (if (j : Int) = (j : Int) then List.replicate 16 0#8 else B j).length = 16
        rw [if_pos rfl]
        exact ⟨by simp [List.getD_eq_getElem?_getD, hl, hi], by simp⟩
      · show (S.set i (strOf (List.replicate 16 0#8))).getD j [] = strOf (if (j : Int) = (i : Int) then List.replicate 16 0#8 else B j) ∧ (if (j : Int) = (i : Int) then List.replicate 16 0#8 else B j).length = 16
        rw [if_neg (show ¬ (j : Int) = (i : Int) by omega)]
        have := sb j x h' hs
        refine ⟨?_, this.2⟩
        rw [List.getD_eq_getElem?_getD, List.getElem?_set_ne (fun e => hne e.symm), ← List.getD_eq_getElem?_getD]
        exact this.1
abbrev ks5 : List CK := [.int, .int, .int, .bool, .bytes]
/-- A step that came in. -/
theorem Mix.op5 {h : Heap} {x : CV} {m : Nat} {cs : List CV} (r : Mix ks5 h x m cs) {b i : Nat} (hg : h.get b = some (.ro cs)) (hi : i < m) :
    ∃ (kd pp qf : Int) (db : Bool) (c : CV) (l : List Int), h.read b (i * 5) 5 = some [.int .i64 kd, .int .i64 pp, .int .i64 qf, .bool db, c] ∧ ByteRow h c l := by
  obtain ⟨c0, e0, k0, rfl, _⟩ := r.2.2 i 0 .int hi rfl
  obtain ⟨c1, e1, k1, rfl, _⟩ := r.2.2 i 1 .int hi rfl
  obtain ⟨c2, e2, k2, rfl, _⟩ := r.2.2 i 2 .int hi rfl
  obtain ⟨c3, e3, k3, rfl⟩ := r.2.2 i 3 .bool hi rfl
  obtain ⟨c4, e4, l, hl⟩ := r.2.2 i 4 .bytes hi rfl
  have hlen : cs.length = m * 5 := r.1
  have hle : (i + 1) * 5 ≤ m * 5 := Nat.mul_le_mul_right _ hi
  refine ⟨k0, k1, k2, k3, c4, l, ?_, hl⟩
  rw [read_part_ro hg (by omega)]
  congr 1
  apply List.ext_getElem?
  intro j
  match j with
  | 0 => simpa using e0
  | 1 => simpa [List.getElem?_take, List.getElem?_drop] using e1
  | 2 => simpa [List.getElem?_take, List.getElem?_drop] using e2
  | 3 => simpa [List.getElem?_take, List.getElem?_drop] using e3
  | 4 => simpa [List.getElem?_take, List.getElem?_drop] using e4
  | j + 5 => rw [List.getElem?_eq_none (by simp; omega), List.getElem?_eq_none (by simp)]
end Lav
