/-
  Layer 7: whether tasks are stuck.
-/
import Derived.Test.YtakkkibaaipmcaaSched3
set_option maxRecDepth 100000
set_option linter.unusedSimpArgs false
namespace Lav
open Go (IntKind)

theorem new8_none : ∃ p h', evCallT table 28 200 8 26 [.c (.int .i64 8)] Heap.empty = some (.c (.ptr p 0), h') :=
  ⟨2, heapOf (evCallT table 28 200 8 26 [.c (.int .i64 8)] Heap.empty), by kernel_rfl⟩
theorem new8_skip : ∃ p h', evCallT table 28 200 8 26 [.c (.int .i64 8)] (Heap.empty.skip 1) = some (.c (.ptr p 0), h') :=
  ⟨3, heapOf (evCallT table 28 200 8 26 [.c (.int .i64 8)] (Heap.empty.skip 1)), by kernel_rfl⟩

theorem idx_count (P : Tk → Bool) : ∀ (l : Tks) (i : Nat), (idxGo P i l).length = l.countP P
  | [], _ => rfl
  | t :: l, i => by
    have := idx_count P l (i + 1)
    simp only [idxGo, List.countP_cons]
    split <;> simp [this, *]

theorem p_field' {loc vals : List AV} {h : Heap} {off n : Nat} {g : Bool} {x : X} : evPure loc vals h (.field off n g x) = (match x.eval loc vals with
    | .agg l => match cut l off n with
      | some r => AV.ofCells g r
      | none => none
    | _ => none) := rfl

section
variable {N d : Nat} {h : Heap} {p b : Nat} {ts : Tks}

theorem stuckf_ok (s q o : Int) (h : Heap) : ∃ h', evCallT table 28 N (d + 1) 56 [.agg [.int .i64 s, .int .i64 q, .int .i64 o]] h = some (.c (.bool (s == 2)), h') ∧ Ext h h' := by
  have r0 : (h.new (.cells [.int .i64 s, .int .i64 q, .int .i64 o])).read h.next 0 1 = some [.int .i64 s] := read_cells get_new_at rfl
  rw [evCallT_eq (F := ir56) rfl rfl rfl]
  unfold ir56
  rw [bodyK_eq]
  simp only [enter_eq, ev_seq, seqK_norm, seqK_exit, seqK_ret, ev_reg, ev_cond, condK_true, condK_false, ev_block, blockK_norm, blockK_ret, blockK_exit, ev_loop, ev_skip, ev_exit, ev_ret, regK_cons, regK_nil, guard_none, guard_some, regG_true, regG_false, regO_some, op_mov, op_conv, op_bin, op_bsl, op_box, op_mks, op_s2b, op_pick, op_un, op_eq, op_len, op_ext, op_load, op_iaddr, op_slice, op_b2s, op_idxS, op_mx, op_mn, op_call, op_store, op_app, op_copy, args_eq, result_one', rv_loc, finish_norm, finish_ret, outK_some, keep_true, keep_false, keep_nil, p_bin, p_pick, p_un, p_eq, p_conv, evNew, pureK_some, newK_some, X.eval, set_none, set_some, List.map_cons, List.map_nil, List.getD_cons_zero, List.getD_cons_succ, List.getD_nil, List.set_cons_zero, List.set_cons_succ, binCV, unCV, isShift, intArithF_eq, shiftF_eq, wrapF_eq, intArith, shift, eqVal, bound, asNat_cast, cond_true, cond_false, BEq.rfl, beq_self_eq_true, evalParts, fillParts, AV.cells, AV.ofCells, XV.av, AV.xv, List.length_cons, List.length_nil, zeros, patch, setMany, List.nil_append, List.cons_append, Nat.ble, Nat.add_eq, Nat.zero_add, Nat.add_zero, Nat.reduceAdd, Nat.reduceMul, Nat.reduceSub, Nat.ble_eq, Nat.reduceLeDiff, Nat.reduceBEq, Int.reduceBEq, Int.reduceNeg, Bool.and_true, Bool.and_false, Bool.true_and, Bool.false_and, Bool.not_true, Bool.not_false, Bool.true_eq_false, Bool.false_eq_true, Int.reduceLT, Int.reduceLE, Int.reduceGT, Int.reduceGE, decide_true, decide_false, Bool.not_eq_true, loopN_norm, loopN_exit, tf, ft, ff, op_faddr, p_faddr, p_load, r0, AV.ofCells]
  exact ⟨_, rfl, (Ext.refl h).new _⟩

theorem cont_ok (s : SB h p b ts) (h0 : 0 < ts.length) (h2 : ts[0].st = 2) (hN : 5 ≤ N) :
    ∃ h', evCallT table 28 N (d + 3) 55 [.c (.sl b 0 ts.length (.ex ts.length)), .c (.fn 56 [])] h = some (.c (.bool true), h') ∧ Ext h h' := by
  have ll : ∀ loc vals h', evPure loc (.c (.sl b 0 ts.length (.ex ts.length)) :: vals) h' (.len .sl (.val 0)) = some (.c (.int .i64 (ts.length : Int))) := fun _ _ _ => rfl
  obtain ⟨h', e1, x1⟩ := stuckf_ok (N := N) (d := d) ts[0].st ts[0].pc ts[0].on h
  have q1 : (ts[0].st == 2) = true := by simp [h2]
  rw [q1] at e1
  have e2 : ∃ h', evCallT table 28 N (d + 2) 59 [.c (.sl b 0 ts.length (.ex ts.length)), .c (.fn 56 [])] h = some (.c (.int .i64 0), h') ∧ Ext h h' := by
    have v1 : decide ((0 : Int) < (ts.length : Int)) = true := decide_eq_true (by omega)
    have m1 : Nat.blt 0 ts.length = true := bltT h0
    have rt := s.rt h0
    rw [Nat.zero_mul] at rt
    obtain ⟨m, rfl⟩ : ∃ m, N = m + 1 := ⟨N - 1, by omega⟩
    rw [evCallT_eq (F := ir59) rfl rfl rfl]
    unfold ir59
    rw [bodyK_eq]
    have hb : ∀ loc, keepOnly ir59_k0 loc = [.c (.sl b 0 ts.length (.ex ts.length)), .c (.fn 56 []), .junk, .junk, .c (.int .i64 (ts.length : Int)), .c (.int .i64 0), .junk, .junk] →
        ∃ l, loopK (evCallT table 28 (m + 1) (d + 1)) (m + 1) ir59_k0 ir59_l0 (m + 1) loc h = some (.ret, .c (.sl b 0 ts.length (.ex ts.length)) :: .c (.fn 56 []) :: .c (.int .i64 0) :: l, h') := by
      intro loc hloc
      rw [loopK_succ, hloc]
      unfold ir59_l0
      simp only [enter_eq, ev_seq, seqK_norm, seqK_exit, seqK_ret, ev_reg, ev_cond, condK_true, condK_false, ev_block, blockK_norm, blockK_ret, blockK_exit, ev_loop, ev_skip, ev_exit, ev_ret, regK_cons, regK_nil, guard_none, guard_some, regG_true, regG_false, regO_some, op_mov, op_conv, op_bin, op_bsl, op_box, op_mks, op_s2b, op_pick, op_un, op_eq, op_len, op_ext, op_load, op_iaddr, op_slice, op_b2s, op_idxS, op_mx, op_mn, op_call, op_store, op_app, op_copy, args_eq, result_one', rv_loc, finish_norm, finish_ret, outK_some, keep_true, keep_false, keep_nil, p_bin, p_pick, p_un, p_eq, p_conv, evNew, pureK_some, newK_some, X.eval, set_none, set_some, List.map_cons, List.map_nil, List.getD_cons_zero, List.getD_cons_succ, List.getD_nil, List.set_cons_zero, List.set_cons_succ, binCV, unCV, isShift, intArithF_eq, shiftF_eq, wrapF_eq, intArith, shift, eqVal, bound, asNat_cast, cond_true, cond_false, BEq.rfl, beq_self_eq_true, evalParts, fillParts, AV.cells, AV.ofCells, XV.av, AV.xv, List.length_cons, List.length_nil, zeros, patch, setMany, List.nil_append, List.cons_append, Nat.ble, Nat.add_eq, Nat.zero_add, Nat.add_zero, Nat.reduceAdd, Nat.reduceMul, Nat.reduceSub, Nat.ble_eq, Nat.reduceLeDiff, Nat.reduceBEq, Int.reduceBEq, Int.reduceNeg, Bool.and_true, Bool.and_false, Bool.true_and, Bool.false_and, Bool.not_true, Bool.not_false, Bool.true_eq_false, Bool.false_eq_true, Int.reduceLT, Int.reduceLE, Int.reduceGT, Int.reduceGE, decide_true, decide_false, Bool.not_eq_true, loopN_norm, loopN_exit, tf, ft, ff, v1, p_iaddr, p_load, asNat, m1, Nat.zero_mul, rt, AV.ofCells, op_callv, capVals, List.append_nil, e1]
      exact ⟨_, rfl⟩
    obtain ⟨l, hr⟩ := hb [.c (.sl b 0 ts.length (.ex ts.length)), .c (.fn 56 []), .c (.int .i64 0), .tup [], .c (.int .i64 (ts.length : Int)), .c (.int .i64 0), .tup [], .tup []] rfl
    simp only [enter_eq, ev_seq, seqK_norm, seqK_exit, seqK_ret, ev_reg, ev_cond, condK_true, condK_false, ev_block, blockK_norm, blockK_ret, blockK_exit, ev_loop, ev_skip, ev_exit, ev_ret, regK_cons, regK_nil, guard_none, guard_some, regG_true, regG_false, regO_some, op_mov, op_conv, op_bin, op_bsl, op_box, op_mks, op_s2b, op_pick, op_un, op_eq, op_len, op_ext, op_load, op_iaddr, op_slice, op_b2s, op_idxS, op_mx, op_mn, op_call, op_store, op_app, op_copy, args_eq, result_one', rv_loc, finish_norm, finish_ret, outK_some, keep_true, keep_false, keep_nil, p_bin, p_pick, p_un, p_eq, p_conv, evNew, pureK_some, newK_some, X.eval, set_none, set_some, List.map_cons, List.map_nil, List.getD_cons_zero, List.getD_cons_succ, List.getD_nil, List.set_cons_zero, List.set_cons_succ, binCV, unCV, isShift, intArithF_eq, shiftF_eq, wrapF_eq, intArith, shift, eqVal, bound, asNat_cast, cond_true, cond_false, BEq.rfl, beq_self_eq_true, evalParts, fillParts, AV.cells, AV.ofCells, XV.av, AV.xv, List.length_cons, List.length_nil, zeros, patch, setMany, List.nil_append, List.cons_append, Nat.ble, Nat.add_eq, Nat.zero_add, Nat.add_zero, Nat.reduceAdd, Nat.reduceMul, Nat.reduceSub, Nat.ble_eq, Nat.reduceLeDiff, Nat.reduceBEq, Int.reduceBEq, Int.reduceNeg, Bool.and_true, Bool.and_false, Bool.true_and, Bool.false_and, Bool.not_true, Bool.not_false, Bool.true_eq_false, Bool.false_eq_true, Int.reduceLT, Int.reduceLE, Int.reduceGT, Int.reduceGE, decide_true, decide_false, Bool.not_eq_true, loopN_norm, loopN_exit, tf, ft, ff, ll, hr, blockK_ret]
    exact ⟨_, rfl, x1⟩
  obtain ⟨h3, e3, x3⟩ := e2
  rw [evCallT_eq (F := ir55) rfl rfl rfl]
  unfold ir55
  rw [bodyK_eq]
  simp only [enter_eq, ev_seq, seqK_norm, seqK_exit, seqK_ret, ev_reg, ev_cond, condK_true, condK_false, ev_block, blockK_norm, blockK_ret, blockK_exit, ev_loop, ev_skip, ev_exit, ev_ret, regK_cons, regK_nil, guard_none, guard_some, regG_true, regG_false, regO_some, op_mov, op_conv, op_bin, op_bsl, op_box, op_mks, op_s2b, op_pick, op_un, op_eq, op_len, op_ext, op_load, op_iaddr, op_slice, op_b2s, op_idxS, op_mx, op_mn, op_call, op_store, op_app, op_copy, args_eq, result_one', rv_loc, finish_norm, finish_ret, outK_some, keep_true, keep_false, keep_nil, p_bin, p_pick, p_un, p_eq, p_conv, evNew, pureK_some, newK_some, X.eval, set_none, set_some, List.map_cons, List.map_nil, List.getD_cons_zero, List.getD_cons_succ, List.getD_nil, List.set_cons_zero, List.set_cons_succ, binCV, unCV, isShift, intArithF_eq, shiftF_eq, wrapF_eq, intArith, shift, eqVal, bound, asNat_cast, cond_true, cond_false, BEq.rfl, beq_self_eq_true, evalParts, fillParts, AV.cells, AV.ofCells, XV.av, AV.xv, List.length_cons, List.length_nil, zeros, patch, setMany, List.nil_append, List.cons_append, Nat.ble, Nat.add_eq, Nat.zero_add, Nat.add_zero, Nat.reduceAdd, Nat.reduceMul, Nat.reduceSub, Nat.ble_eq, Nat.reduceLeDiff, Nat.reduceBEq, Int.reduceBEq, Int.reduceNeg, Bool.and_true, Bool.and_false, Bool.true_and, Bool.false_and, Bool.not_true, Bool.not_false, Bool.true_eq_false, Bool.false_eq_true, Int.reduceLT, Int.reduceLE, Int.reduceGT, Int.reduceGE, decide_true, decide_false, Bool.not_eq_true, loopN_norm, loopN_exit, tf, ft, ff, e3]
  exact ⟨_, rfl, x3⟩

theorem stuck_true (s : SB h p b ts) (hr : readyM ts = []) (h0 : 0 < ts.length) (h2 : ts[0].st = 2) (hN : ts.length + 5 ≤ N) (hn : ts.length ≤ 64) :
    ∃ h', evCallT table 28 N (d + 4) 43 [.c (.ptr p 0)] h = some (.c (.bool true), h') ∧ Ext h h' := by
  obtain ⟨y, h1, e1, my, x1⟩ := ready_ok (N := N) (d := d + 2) s (by omega) hn
  rw [hr] at my
  have ly : ∀ (loc vals : List AV) (h : Heap), evPure loc (.c y :: vals) h (.len .sl (.val 0)) = some (.c (.int .i64 0)) := fun _ _ _ => my.len rfl
  have s1 := s.ext (x1.b []) (by simp) (by simp)
  obtain ⟨h3, e3, x3⟩ := cont_ok (N := N) (d := d) s1 h0 h2 (by omega)
  rw [evCallT_eq (F := ir43) rfl rfl rfl]
  unfold ir43
  rw [bodyK_eq]
  simp only [enter_eq, ev_seq, seqK_norm, seqK_exit, seqK_ret, ev_reg, ev_cond, condK_true, condK_false, ev_block, blockK_norm, blockK_ret, blockK_exit, ev_loop, ev_skip, ev_exit, ev_ret, regK_cons, regK_nil, guard_none, guard_some, regG_true, regG_false, regO_some, op_mov, op_conv, op_bin, op_bsl, op_box, op_mks, op_s2b, op_pick, op_un, op_eq, op_len, op_ext, op_load, op_iaddr, op_slice, op_b2s, op_idxS, op_mx, op_mn, op_call, op_store, op_app, op_copy, args_eq, result_one', rv_loc, finish_norm, finish_ret, outK_some, keep_true, keep_false, keep_nil, p_bin, p_pick, p_un, p_eq, p_conv, evNew, pureK_some, newK_some, X.eval, set_none, set_some, List.map_cons, List.map_nil, List.getD_cons_zero, List.getD_cons_succ, List.getD_nil, List.set_cons_zero, List.set_cons_succ, binCV, unCV, isShift, intArithF_eq, shiftF_eq, wrapF_eq, intArith, shift, eqVal, bound, asNat_cast, cond_true, cond_false, BEq.rfl, beq_self_eq_true, evalParts, fillParts, AV.cells, AV.ofCells, XV.av, AV.xv, List.length_cons, List.length_nil, zeros, patch, setMany, List.nil_append, List.cons_append, Nat.ble, Nat.add_eq, Nat.zero_add, Nat.add_zero, Nat.reduceAdd, Nat.reduceMul, Nat.reduceSub, Nat.ble_eq, Nat.reduceLeDiff, Nat.reduceBEq, Int.reduceBEq, Int.reduceNeg, Bool.and_true, Bool.and_false, Bool.true_and, Bool.false_and, Bool.not_true, Bool.not_false, Bool.true_eq_false, Bool.false_eq_true, Int.reduceLT, Int.reduceLE, Int.reduceGT, Int.reduceGE, decide_true, decide_false, Bool.not_eq_true, loopN_norm, loopN_exit, tf, ft, ff, op_nilchk, p_nilchk, op_faddr, p_faddr, p_load, s1.r, AV.ofCells, op_mkfn, e1, ly, e3]
  exact ⟨_, rfl, x1.trans x3⟩

theorem stuck_false (s : SB h p b ts) (hr : 0 < (readyM ts).length) (hN : ts.length + 5 ≤ N) (hn : ts.length ≤ 64) :
    ∃ h', evCallT table 28 N (d + 4) 43 [.c (.ptr p 0)] h = some (.c (.bool false), h') ∧ Ext h h' := by
  obtain ⟨y, h1, e1, my, x1⟩ := ready_ok (N := N) (d := d + 2) s (by omega) hn
  have hnl : (natL (readyM ts)).length = (readyM ts).length := by simp [natL]
  have ly : ∀ (loc vals : List AV) (h : Heap), evPure loc (.c y :: vals) h (.len .sl (.val 0)) = some (.c (.int .i64 ((readyM ts).length : Int))) := fun _ _ _ => by rw [← hnl]; exact my.len rfl
  have c1 : (((readyM ts).length : Int) == 0) = false := by simp only [beq_eq_false_iff_ne, ne_eq]; omega
  rw [evCallT_eq (F := ir43) rfl rfl rfl]
  unfold ir43
  rw [bodyK_eq]
  simp only [enter_eq, ev_seq, seqK_norm, seqK_exit, seqK_ret, ev_reg, ev_cond, condK_true, condK_false, ev_block, blockK_norm, blockK_ret, blockK_exit, ev_loop, ev_skip, ev_exit, ev_ret, regK_cons, regK_nil, guard_none, guard_some, regG_true, regG_false, regO_some, op_mov, op_conv, op_bin, op_bsl, op_box, op_mks, op_s2b, op_pick, op_un, op_eq, op_len, op_ext, op_load, op_iaddr, op_slice, op_b2s, op_idxS, op_mx, op_mn, op_call, op_store, op_app, op_copy, args_eq, result_one', rv_loc, finish_norm, finish_ret, outK_some, keep_true, keep_false, keep_nil, p_bin, p_pick, p_un, p_eq, p_conv, evNew, pureK_some, newK_some, X.eval, set_none, set_some, List.map_cons, List.map_nil, List.getD_cons_zero, List.getD_cons_succ, List.getD_nil, List.set_cons_zero, List.set_cons_succ, binCV, unCV, isShift, intArithF_eq, shiftF_eq, wrapF_eq, intArith, shift, eqVal, bound, asNat_cast, cond_true, cond_false, BEq.rfl, beq_self_eq_true, evalParts, fillParts, AV.cells, AV.ofCells, XV.av, AV.xv, List.length_cons, List.length_nil, zeros, patch, setMany, List.nil_append, List.cons_append, Nat.ble, Nat.add_eq, Nat.zero_add, Nat.add_zero, Nat.reduceAdd, Nat.reduceMul, Nat.reduceSub, Nat.ble_eq, Nat.reduceLeDiff, Nat.reduceBEq, Int.reduceBEq, Int.reduceNeg, Bool.and_true, Bool.and_false, Bool.true_and, Bool.false_and, Bool.not_true, Bool.not_false, Bool.true_eq_false, Bool.false_eq_true, Int.reduceLT, Int.reduceLE, Int.reduceGT, Int.reduceGE, decide_true, decide_false, Bool.not_eq_true, loopN_norm, loopN_exit, tf, ft, ff, e1, ly, c1]
  exact ⟨_, rfl, x1⟩
end
end Lav
