/-
  Layer 8: touches that put a list right.
-/
import Derived.Test.YtdcjiljegffalaaCRing1
set_option maxRecDepth 100000
set_option linter.unusedSimpArgs false
namespace Lav
open Go (IntKind)

theorem LL.le {h : Heap} {p b n : Nat} {o : List Int} (t : LL h p b n o) : o.length ≤ n := nodup_le n o t.nd t.lt
theorem Ints.keepB {S : List Nat} {h h' : Heap} {x : CV} {xs : List Int} (hx : Ints h x xs) (e : ExtB S h h') (hs : ∀ k, blk x = some k → k ∉ S) : Ints h' x xs := by
  rcases hx with h1 | ⟨i, o, c, rfl, h2, h3⟩
  · exact .inl h1
  · refine .inr ⟨i, o, c, rfl, Nat.lt_of_lt_of_le h2 e.1, fun j v hj => ?_⟩
    have := e.2 i h2 (hs i rfl)
    have h4 := h3 j v hj
    simp only [Heap.read] at h4 ⊢
    rw [this]; exact h4
def applyM (o : List Int) (x : Int) : List Int := if x ∈ o then x :: o.erase x else o
theorem applyM_mem {o : List Int} {x y : Int} : y ∈ applyM o x ↔ y ∈ o := by
  unfold applyM
  split
  · rename_i h
    by_cases e : y = x
    · subst e; simp [h]
    · simp [e, List.mem_erase_of_ne e]
  · rfl
theorem applyM_all {ts : List Int} : ∀ {o : List Int} {y : Int}, y ∈ ts.foldl applyM o ↔ y ∈ o := by
  induction ts with
  | nil => intro o y; rfl
  | cons t ts ih => intro o y; rw [List.foldl_cons, ih, applyM_mem]

section
variable {N d n : Nat} {h : Heap} {p b q : Nat} {o ts : List Int} {bad : List Nat}

/-- One touch. -/
theorem one_ok (t : LL h p b n o) (hn : n < 100000) {x : Int} (hx : x ∈ o) :
    ∃ h1 h2, evCallT table 15 N (d + 2) 26 [.c (.ptr p 0), .c (.int .i64 x)] h = some (.c (.bool true), h1) ∧ evCallT table 15 N (d + 2) 29 [.c (.ptr p 0), .c (.int .i64 x)] h1 = some (.c (.bool true), h2) ∧ LL h2 p b n (x :: o.erase x) ∧ ExtB [p, b] h h1 ∧ ExtB [p, b] h h2 := by
  have hl := t.le
  have hb := t.lt x hx
  obtain ⟨h1, e1, t1, x1⟩ := out_ok (N := N) (d := d) t hx (by omega)
  have hl1 := t1.le
  obtain ⟨h2, e2, t2, x2⟩ := front_ok (N := N) (d := d) t1 hb.1 hb.2 (fun h => ((t.nd.mem_erase_iff).1 h).1 rfl) (by omega)
  exact ⟨h1, h2, e1, e2, t2, x1, x1.trans x2⟩

theorem apply_ok (t : LL h p b n o) (hn : n < 100000) {y : CV} (hy : Ints h y ts) (hyb : ∀ k, blk y = some k → k ∉ [p, b]) (hN : ts.length + 2 ≤ N) (hts : ts.length < 100000) :
    ∃ h', evCallT table 15 N (d + 3) 22 [.c (.ptr p 0), .c y] h = some (.tup [], h') ∧ LL h' p b n (ts.foldl applyM o) ∧ ExtB [p, b] h h' := by
  have ly : ∀ (loc vals : List AV) (h : Heap), evPure loc (.c y :: vals) h (.len .sl (.val 0)) = some (.c (.int .i64 (ts.length : Int))) := fun _ _ _ => hy.len rfl
  rw [evCallT_eq (F := ir22) rfl rfl rfl]
  unfold ir22
  rw [bodyK_eq]
  have L : ∀ loc, keepOnly ir22_k0 loc = [.c (.ptr p 0), .junk, .junk, .c y, .c (.int .i64 (ts.length : Int)), .c (.int .i64 0), .junk, .junk] →
      ∃ r, loopK (evCallT table 15 N (d + 2)) N ir22_k0 ir22_l0 N loc h = some r ∧ ∃ l h', r = (.exit 0, l, h') ∧ LL h' p b n (ts.foldl applyM o) ∧ ExtB [p, b] h h' := by
    intro loc hloc
    refine loop_inv (n := ts.length) (fun i loc h' => LL h' p b n ((ts.take i).foldl applyM o) ∧ ExtB [p, b] h h' ∧ loc = [.c (.ptr p 0), .junk, .junk, .c y, .c (.int .i64 (ts.length : Int)), .c (.int .i64 (i : Int)), .junk, .junk]) _ ?_ ⟨t, ExtB.refl _ _, hloc⟩ (by omega)
    rintro i loc h' hi ⟨t', xe, rfl⟩
    unfold ir22_l0
    by_cases hlt : i < ts.length
    · left
      refine ⟨hlt, ?_⟩
      have v1 : decide ((i : Int) < (ts.length : Int)) = true := ltNat hlt
      have v2 := succI (i := i) (by omega)
      obtain ⟨by_, oy, cy, rfl, _, ry⟩ := (hy.keepB xe hyb).sl (by omega)
      have k1 := ry i hlt
      have m1 : Nat.blt i ts.length = true := bltT hlt
      rw [List.take_succ_eq_append_getElem hlt, List.foldl_append, List.foldl_cons, List.foldl_nil]
      generalize (ts.take i).foldl applyM o = O at *
      by_cases hx : ts[i] ∈ O
      · obtain ⟨h1, h2, e1, e2, t2, _, x2⟩ := one_ok (N := N) (d := d) t' hn hx
        simp only [enter_eq, ev_seq, seqK_norm, seqK_exit, seqK_ret, ev_reg, ev_cond, condK_true, condK_false, ev_block, blockK_norm, blockK_ret, blockK_exit, ev_loop, ev_skip, ev_exit, ev_ret, regK_cons, regK_nil, guard_none, guard_some, regG_true, regG_false, regO_some, op_mov, op_conv, op_bin, op_bsl, op_box, op_mks, op_s2b, op_pick, op_un, op_eq, op_len, op_ext, op_load, op_iaddr, op_slice, op_b2s, op_idxS, op_mx, op_mn, op_call, op_store, op_app, op_copy, args_eq, result_one', rv_loc, finish_norm, finish_ret, outK_some, keep_true, keep_false, keep_nil, p_bin, p_pick, p_un, p_eq, p_conv, evNew, pureK_some, newK_some, X.eval, set_none, set_some, List.map_cons, List.map_nil, List.getD_cons_zero, List.getD_cons_succ, List.getD_nil, List.set_cons_zero, List.set_cons_succ, binCV, unCV, isShift, intArithF_eq, shiftF_eq, wrapF_eq, intArith, shift, eqVal, bound, asNat_cast, cond_true, cond_false, BEq.rfl, beq_self_eq_true, evalParts, fillParts, AV.cells, AV.ofCells, XV.av, AV.xv, List.length_cons, List.length_nil, zeros, patch, setMany, List.nil_append, List.cons_append, Nat.ble, Nat.add_eq, Nat.zero_add, Nat.add_zero, Nat.reduceAdd, Nat.reduceMul, Nat.reduceSub, Nat.ble_eq, Nat.reduceLeDiff, Nat.reduceBEq, Int.reduceBEq, Int.reduceNeg, Bool.and_true, Bool.and_false, Bool.true_and, Bool.false_and, Bool.not_true, Bool.not_false, Bool.true_eq_false, Bool.false_eq_true, Int.reduceLT, Int.reduceLE, Int.reduceGT, Int.reduceGE, decide_true, decide_false, Bool.not_eq_true, loopN_norm, loopN_exit, tf, ft, ff, v1, v2, p_iaddr, p_load, AV.ofCells, m1, Nat.mul_one, k1, e1, e2]
        exact ⟨_, _, rfl, by unfold applyM; rw [if_pos hx]; exact t2, xe.trans x2, rfl⟩
      · have e1 := out_no (N := N) (d := d) t' hx
        simp only [enter_eq, ev_seq, seqK_norm, seqK_exit, seqK_ret, ev_reg, ev_cond, condK_true, condK_false, ev_block, blockK_norm, blockK_ret, blockK_exit, ev_loop, ev_skip, ev_exit, ev_ret, regK_cons, regK_nil, guard_none, guard_some, regG_true, regG_false, regO_some, op_mov, op_conv, op_bin, op_bsl, op_box, op_mks, op_s2b, op_pick, op_un, op_eq, op_len, op_ext, op_load, op_iaddr, op_slice, op_b2s, op_idxS, op_mx, op_mn, op_call, op_store, op_app, op_copy, args_eq, result_one', rv_loc, finish_norm, finish_ret, outK_some, keep_true, keep_false, keep_nil, p_bin, p_pick, p_un, p_eq, p_conv, evNew, pureK_some, newK_some, X.eval, set_none, set_some, List.map_cons, List.map_nil, List.getD_cons_zero, List.getD_cons_succ, List.getD_nil, List.set_cons_zero, List.set_cons_succ, binCV, unCV, isShift, intArithF_eq, shiftF_eq, wrapF_eq, intArith, shift, eqVal, bound, asNat_cast, cond_true, cond_false, BEq.rfl, beq_self_eq_true, evalParts, fillParts, AV.cells, AV.ofCells, XV.av, AV.xv, List.length_cons, List.length_nil, zeros, patch, setMany, List.nil_append, List.cons_append, Nat.ble, Nat.add_eq, Nat.zero_add, Nat.add_zero, Nat.reduceAdd, Nat.reduceMul, Nat.reduceSub, Nat.ble_eq, Nat.reduceLeDiff, Nat.reduceBEq, Int.reduceBEq, Int.reduceNeg, Bool.and_true, Bool.and_false, Bool.true_and, Bool.false_and, Bool.not_true, Bool.not_false, Bool.true_eq_false, Bool.false_eq_true, Int.reduceLT, Int.reduceLE, Int.reduceGT, Int.reduceGE, decide_true, decide_false, Bool.not_eq_true, loopN_norm, loopN_exit, tf, ft, ff, v1, v2, p_iaddr, p_load, AV.ofCells, m1, Nat.mul_one, k1, e1]
        exact ⟨_, _, rfl, by unfold applyM; rw [if_neg hx]; exact t', xe, rfl⟩
    · right
      have hin : i = ts.length := by omega
      subst hin
      have v1 : decide ((ts.length : Int) < (ts.length : Int)) = false := geNat (Nat.le_refl _)
      rw [List.take_length] at t'
      simp only [enter_eq, ev_seq, seqK_norm, seqK_exit, seqK_ret, ev_reg, ev_cond, condK_true, condK_false, ev_block, blockK_norm, blockK_ret, blockK_exit, ev_loop, ev_skip, ev_exit, ev_ret, regK_cons, regK_nil, guard_none, guard_some, regG_true, regG_false, regO_some, op_mov, op_conv, op_bin, op_bsl, op_box, op_mks, op_s2b, op_pick, op_un, op_eq, op_len, op_ext, op_load, op_iaddr, op_slice, op_b2s, op_idxS, op_mx, op_mn, op_call, op_store, op_app, op_copy, args_eq, result_one', rv_loc, finish_norm, finish_ret, outK_some, keep_true, keep_false, keep_nil, p_bin, p_pick, p_un, p_eq, p_conv, evNew, pureK_some, newK_some, X.eval, set_none, set_some, List.map_cons, List.map_nil, List.getD_cons_zero, List.getD_cons_succ, List.getD_nil, List.set_cons_zero, List.set_cons_succ, binCV, unCV, isShift, intArithF_eq, shiftF_eq, wrapF_eq, intArith, shift, eqVal, bound, asNat_cast, cond_true, cond_false, BEq.rfl, beq_self_eq_true, evalParts, fillParts, AV.cells, AV.ofCells, XV.av, AV.xv, List.length_cons, List.length_nil, zeros, patch, setMany, List.nil_append, List.cons_append, Nat.ble, Nat.add_eq, Nat.zero_add, Nat.add_zero, Nat.reduceAdd, Nat.reduceMul, Nat.reduceSub, Nat.ble_eq, Nat.reduceLeDiff, Nat.reduceBEq, Int.reduceBEq, Int.reduceNeg, Bool.and_true, Bool.and_false, Bool.true_and, Bool.false_and, Bool.not_true, Bool.not_false, Bool.true_eq_false, Bool.false_eq_true, Int.reduceLT, Int.reduceLE, Int.reduceGT, Int.reduceGE, decide_true, decide_false, Bool.not_eq_true, loopN_norm, loopN_exit, tf, ft, ff, v1]
      exact ⟨_, rfl, by simp, _, h', rfl, t', xe⟩
  obtain ⟨r, hr, l, h', rfl, t', x'⟩ := L [.c (.ptr p 0), .c y, .tup [], .c y, .c (.int .i64 (ts.length : Int)), .c (.int .i64 0), .tup [], .tup []] rfl
  simp only [enter_eq, ev_seq, seqK_norm, seqK_exit, seqK_ret, ev_reg, ev_cond, condK_true, condK_false, ev_block, blockK_norm, blockK_ret, blockK_exit, ev_loop, ev_skip, ev_exit, ev_ret, regK_cons, regK_nil, guard_none, guard_some, regG_true, regG_false, regO_some, op_mov, op_conv, op_bin, op_bsl, op_box, op_mks, op_s2b, op_pick, op_un, op_eq, op_len, op_ext, op_load, op_iaddr, op_slice, op_b2s, op_idxS, op_mx, op_mn, op_call, op_store, op_app, op_copy, args_eq, result_one', rv_loc, finish_norm, finish_ret, outK_some, keep_true, keep_false, keep_nil, p_bin, p_pick, p_un, p_eq, p_conv, evNew, pureK_some, newK_some, X.eval, set_none, set_some, List.map_cons, List.map_nil, List.getD_cons_zero, List.getD_cons_succ, List.getD_nil, List.set_cons_zero, List.set_cons_succ, binCV, unCV, isShift, intArithF_eq, shiftF_eq, wrapF_eq, intArith, shift, eqVal, bound, asNat_cast, cond_true, cond_false, BEq.rfl, beq_self_eq_true, evalParts, fillParts, AV.cells, AV.ofCells, XV.av, AV.xv, List.length_cons, List.length_nil, zeros, patch, setMany, List.nil_append, List.cons_append, Nat.ble, Nat.add_eq, Nat.zero_add, Nat.add_zero, Nat.reduceAdd, Nat.reduceMul, Nat.reduceSub, Nat.ble_eq, Nat.reduceLeDiff, Nat.reduceBEq, Int.reduceBEq, Int.reduceNeg, Bool.and_true, Bool.and_false, Bool.true_and, Bool.false_and, Bool.not_true, Bool.not_false, Bool.true_eq_false, Bool.false_eq_true, Int.reduceLT, Int.reduceLE, Int.reduceGT, Int.reduceGE, decide_true, decide_false, Bool.not_eq_true, loopN_norm, loopN_exit, tf, ft, ff, ly, hr, blockK_exit_eq, result, evResults]
  exact ⟨_, rfl, t', x'⟩

end
end Lav
