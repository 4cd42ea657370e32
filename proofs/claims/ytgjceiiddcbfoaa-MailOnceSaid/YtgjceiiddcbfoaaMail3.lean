/-
  Layer 9: what the document's own box does.
-/
import Derived.Test.YtgjceiiddcbfoaaMail2
set_option maxRecDepth 100000
set_option linter.unusedSimpArgs false
namespace Lav
open Go (IntKind)

/-- The same; where the new one lies. -/
theorem app_ints2 {h0 h : Heap} {x y : CV} {vs ws : List Int} (m : Sole h0 h x vs) (he : h0.next ≤ h.next) (hy : Ints h y ws) (hb : vs.length + ws.length ≤ 1000000) :
    ∃ z h', evApp h 1 (.c x) (.c y) = some (.c z, h') ∧ Sole h0 h' z (vs ++ ws) ∧ h.next ≤ h'.next ∧ (∀ k, k < h0.next → h'.get k = h.get k) ∧ (z = x ∨ ∃ n c, z = .sl h.next 0 n c) := by
  have hs := hy.source
  by_cases hw : ws = []
  · subst hw
    refine ⟨x, h, app_none ?_ hs, by simpa using m, Nat.le_refl _, fun _ _ => rfl, .inl rfl⟩
    rcases m with ⟨rfl, _⟩ | ⟨i, c, rfl, _⟩
    · exact .inl rfl
    · exact .inr ⟨_, _, _, _, rfl⟩
  · obtain ⟨k, hk⟩ : ∃ k, ws.length = k + 1 := ⟨ws.length - 1, by have := List.length_pos_iff.2 hw; omega⟩
    rw [hk] at hs
    rcases m with ⟨rfl, rfl⟩ | ⟨i, c, rfl, hc, hg, h1, h2⟩
    · have b1 : Nat.ble (k + 1) 1073741824 = true := Nat.ble_eq_true_of_le (by omega)
      refine ⟨.sl h.next 0 (k + 1) (.dy 1), h.new (.cells (ws.map icell)), ?_, .inr ⟨h.next, .dy 1, by simp [hk], .inl rfl, get_new_at, he, Nat.lt_succ_self _⟩, Nat.le_succ _, fun j hj => get_new_old (Nat.lt_of_lt_of_le hj he), .inr ⟨_, _, rfl⟩⟩
      unfold evApp
      simp only [hs, b1, cond_true]
    · have b1 : Nat.ble (vs.length + (k + 1)) 1073741824 = true := Nat.ble_eq_true_of_le (by omega)
      have hz : (CV.sl h.next 0 (vs.length + (k + 1)) (.dy 1)) = .sl h.next 0 (vs ++ ws).length (.dy 1) := by rw [List.length_append, hk]
      rcases hc with rfl | rfl
      · have b2 : ((1 : Nat) == 1 && 0 + vs.length * 1 == (vs.map icell).length) = true := by simp
        refine ⟨.sl h.next 0 (vs.length + (k + 1)) (.dy 1), (h.kill i).new (.cells ((vs ++ ws).map icell)), ?_, .inr ⟨h.next, .dy 1, hz, .inl rfl, get_new_at, he, Nat.lt_succ_self _⟩, Nat.le_succ _, fun j hj => ?_, .inr ⟨_, _, rfl⟩⟩
        · unfold evApp
          simp only [hs, b1, hg, b2, cond_true, List.drop_zero, List.map_append]
        · rw [get_new_old (h := h.kill i) (Nat.lt_of_lt_of_le hj he), get_kill_ne (by omega)]
      · have b2 : Nat.ble (vs.length + (k + 1)) vs.length = false := by
          cases hb : Nat.ble (vs.length + (k + 1)) vs.length with
          | false => rfl
          | true => have := Nat.le_of_ble_eq_true hb; omega
        have hr : h.read i 0 (vs.length * 1) = some (vs.map icell) := by
          rw [Nat.mul_one, read_part hg (by simp), List.drop_zero, List.take_of_length_le (by simp)]
        refine ⟨.sl h.next 0 (vs.length + (k + 1)) (.dy 1), h.new (.cells ((vs ++ ws).map icell)), ?_, .inr ⟨h.next, .dy 1, hz, .inl rfl, get_new_at, he, Nat.lt_succ_self _⟩, Nat.le_succ _, fun j hj => get_new_old (Nat.lt_of_lt_of_le hj he), .inr ⟨_, _, rfl⟩⟩
        unfold evApp
        simp only [hs, b1, b2, hr, cond_true, cond_false, List.map_append]

theorem place_ge (l : List Int) (x : Int) : decide (placeOf l x ≥ 0) = decide (x ∈ l) := by
  by_cases h : x ∈ l
  · obtain ⟨k, hk, _⟩ := placeOf_mem h
    rw [decide_eq_true h, hk]; exact decide_eq_true (by omega)
  · rw [decide_eq_false h, placeOf_not h]; rfl

/-- To an empty slice all records of one, and one record more. -/
theorem app_two {n : Nat} {h : Heap} {x : CV} {l : List Int} (hx : Recs 2 h x n l) (k v : Int) (hn : n < 900000) :
    ∃ z1 h2, evApp (h.new (.cells [])) 2 (.c (.sl h.next 0 0 (.ex 0))) (.c x) = some (.c z1, h2) ∧
      ∃ z h4, evApp (h2.new (.cells [.int .i64 k, .int .i64 v])) 2 (.c z1) (.c (.sl h2.next 0 1 (.ex 1))) = some (.c z, h4) ∧ SoleR 2 h h4 z (n + 1) (l ++ [k, v]) ∧ Ext h h4 := by
  have e0 : Ext h (h.new (.cells [])) := (Ext.refl _).new _
  obtain ⟨z1, h2, a1, a2, a3, a4⟩ := app_recs (sz := 2) (h0 := h) (h := h.new (.cells [])) (x := .sl h.next 0 0 (.ex 0)) (y := x) (n := 0) (l := []) (by omega) ⟨rfl, .inr ⟨h.next, .ex 0, rfl, .inr rfl, get_new_at, Nat.le_refl _, Nat.lt_succ_self _⟩⟩ (Nat.le_succ _) (hx.ext e0) (by omega)
  rw [List.nil_append, Nat.zero_add] at a2
  have hle : h.next ≤ h2.next := Nat.le_trans (Nat.le_succ _) a3
  have x2 : Ext h h2 := ⟨hle, fun j hj => by rw [a4 j (Nat.lt_succ_of_lt hj) (fun e => by simp [blk] at e; omega), get_new_old hj]⟩
  obtain ⟨z, h4, b1, b2, b3, b4⟩ := app_recs (sz := 2) (h0 := h) (h := h2.new (.cells [.int .i64 k, .int .i64 v])) (x := z1) (y := .sl h2.next 0 1 (.ex 1)) (m := 1) (k := [k, v]) (by omega) (a2.keep (Nat.le_succ _) fun j hj _ => get_new_old hj) (Nat.le_succ_of_le hle)
    ⟨rfl, .inr ⟨h2.next, 0, _, rfl, Nat.lt_succ_self _, fun q u hq => by
      rw [Nat.zero_add]
      exact read_cells get_new_at (by match q, hq with
                                      | 0, hq => simpa [icell] using hq
                                      | 1, hq => simpa [icell] using hq)⟩⟩ (by omega)
  refine ⟨z1, h2, a1, z, h4, b1, b2, ⟨Nat.le_trans hle (Nat.le_trans (Nat.le_succ _) b3), fun j hj => ?_⟩⟩
  rw [b4 j (by rw [next_new]; omega) (fun e => by have := a2.young j e; omega), get_new_old (by omega)]
  exact x2.2 j hj

section
variable {N d : Nat} {h : Heap} {q B : Nat} {ws an : Wd} {op : List Int} {x1 x2 x3 : CV}

theorem rpost_arg {k : Int} (v : Int) (hk : ¬ (0 ≤ k ∧ k < 64)) : evCallT table 13 N (d + 2) 15 [.c (.ptr q 0), .c (.int .i64 k), .c (.int .i64 v)] h = some (.c (.int .i64 1), h) := by
  have e1 := task_ok (N := N) (d := d) (h := h) k
  rw [decide_eq_false hk] at e1
  rw [evCallT_eq (F := ir15) rfl rfl rfl]
  unfold ir15
  rw [bodyK_eq]
  simp only [enter_eq, ev_seq, seqK_norm, seqK_exit, seqK_ret, ev_reg, ev_cond, condK_true, condK_false, ev_block, blockK_norm, blockK_ret, blockK_exit, ev_loop, ev_skip, ev_exit, ev_ret, regK_cons, regK_nil, guard_none, guard_some, regG_true, regG_false, regO_some, op_mov, op_conv, op_bin, op_bsl, op_box, op_mks, op_s2b, op_pick, op_un, op_eq, op_len, op_ext, op_load, op_iaddr, op_slice, op_b2s, op_idxS, op_mx, op_mn, op_call, op_store, op_app, op_copy, args_eq, result_one', rv_loc, finish_norm, finish_ret, outK_some, keep_true, keep_false, keep_nil, p_bin, p_pick, p_un, p_eq, p_conv, evNew, pureK_some, newK_some, X.eval, set_none, set_some, List.map_cons, List.map_nil, List.getD_cons_zero, List.getD_cons_succ, List.getD_nil, List.set_cons_zero, List.set_cons_succ, binCV, unCV, isShift, intArithF_eq, shiftF_eq, wrapF_eq, intArith, shift, eqVal, bound, asNat_cast, cond_true, cond_false, BEq.rfl, beq_self_eq_true, evalParts, fillParts, AV.cells, AV.ofCells, XV.av, AV.xv, List.length_cons, List.length_nil, zeros, patch, setMany, List.nil_append, List.cons_append, Nat.ble, Nat.add_eq, Nat.zero_add, Nat.add_zero, Nat.reduceAdd, Nat.reduceMul, Nat.reduceSub, Nat.ble_eq, Nat.reduceLeDiff, Nat.reduceBEq, Int.reduceBEq, Int.reduceNeg, Bool.and_true, Bool.and_false, Bool.true_and, Bool.false_and, Bool.not_true, Bool.not_false, Bool.true_eq_false, Bool.false_eq_true, Int.reduceLT, Int.reduceLE, Int.reduceGT, Int.reduceGE, decide_true, decide_false, Bool.not_eq_true, loopN_norm, loopN_exit, tf, ft, ff, e1]

theorem rpost_held (r : RB h q B ws an op x1 x2 x3) {k : Int} (v : Int) (hk : 0 ≤ k ∧ k < 64) (hh : k ∈ keys ws ∨ k ∈ keys an ∨ k ∈ op) (h1 : ws.length + 2 ≤ N) (h2 : an.length + 2 ≤ N) (h3 : op.length + 2 ≤ N) (hN : N ≤ 1000) :
    evCallT table 13 N (d + 2) 15 [.c (.ptr q 0), .c (.int .i64 k), .c (.int .i64 v)] h = some (.c (.int .i64 13), h) := by
  have e1 := task_ok (N := N) (d := d) (h := h) k
  rw [decide_eq_true hk] at e1
  have a1 := at_ok (N := N) (d := d) r.r1 k h1 (by omega)
  have a2 := at_ok (N := N) (d := d) r.r2 k h2 (by omega)
  have a3 := place_ok (N := N) (d := d) r.r3 k h3 (by omega)
  have g1 := place_ge (keys ws) k
  have g2 := place_ge (keys an) k
  have g3 := place_ge op k
  rw [evCallT_eq (F := ir15) rfl rfl rfl]
  unfold ir15
  rw [bodyK_eq]
  by_cases c1 : k ∈ keys ws
  · rw [decide_eq_true c1] at g1
    simp only [enter_eq, ev_seq, seqK_norm, seqK_exit, seqK_ret, ev_reg, ev_cond, condK_true, condK_false, ev_block, blockK_norm, blockK_ret, blockK_exit, ev_loop, ev_skip, ev_exit, ev_ret, regK_cons, regK_nil, guard_none, guard_some, regG_true, regG_false, regO_some, op_mov, op_conv, op_bin, op_bsl, op_box, op_mks, op_s2b, op_pick, op_un, op_eq, op_len, op_ext, op_load, op_iaddr, op_slice, op_b2s, op_idxS, op_mx, op_mn, op_call, op_store, op_app, op_copy, args_eq, result_one', rv_loc, finish_norm, finish_ret, outK_some, keep_true, keep_false, keep_nil, p_bin, p_pick, p_un, p_eq, p_conv, evNew, pureK_some, newK_some, X.eval, set_none, set_some, List.map_cons, List.map_nil, List.getD_cons_zero, List.getD_cons_succ, List.getD_nil, List.set_cons_zero, List.set_cons_succ, binCV, unCV, isShift, intArithF_eq, shiftF_eq, wrapF_eq, intArith, shift, eqVal, bound, asNat_cast, cond_true, cond_false, BEq.rfl, beq_self_eq_true, evalParts, fillParts, AV.cells, AV.ofCells, XV.av, AV.xv, List.length_cons, List.length_nil, zeros, patch, setMany, List.nil_append, List.cons_append, Nat.ble, Nat.add_eq, Nat.zero_add, Nat.add_zero, Nat.reduceAdd, Nat.reduceMul, Nat.reduceSub, Nat.ble_eq, Nat.reduceLeDiff, Nat.reduceBEq, Int.reduceBEq, Int.reduceNeg, Bool.and_true, Bool.and_false, Bool.true_and, Bool.false_and, Bool.not_true, Bool.not_false, Bool.true_eq_false, Bool.false_eq_true, Int.reduceLT, Int.reduceLE, Int.reduceGT, Int.reduceGE, decide_true, decide_false, Bool.not_eq_true, loopN_norm, loopN_exit, tf, ft, ff, e1, op_nilchk, p_nilchk, op_faddr, p_faddr, p_load, r.c0, AV.ofCells, a1, g1]
  rw [decide_eq_false c1] at g1
  by_cases c2 : k ∈ keys an
  · rw [decide_eq_true c2] at g2
    simp only [enter_eq, ev_seq, seqK_norm, seqK_exit, seqK_ret, ev_reg, ev_cond, condK_true, condK_false, ev_block, blockK_norm, blockK_ret, blockK_exit, ev_loop, ev_skip, ev_exit, ev_ret, regK_cons, regK_nil, guard_none, guard_some, regG_true, regG_false, regO_some, op_mov, op_conv, op_bin, op_bsl, op_box, op_mks, op_s2b, op_pick, op_un, op_eq, op_len, op_ext, op_load, op_iaddr, op_slice, op_b2s, op_idxS, op_mx, op_mn, op_call, op_store, op_app, op_copy, args_eq, result_one', rv_loc, finish_norm, finish_ret, outK_some, keep_true, keep_false, keep_nil, p_bin, p_pick, p_un, p_eq, p_conv, evNew, pureK_some, newK_some, X.eval, set_none, set_some, List.map_cons, List.map_nil, List.getD_cons_zero, List.getD_cons_succ, List.getD_nil, List.set_cons_zero, List.set_cons_succ, binCV, unCV, isShift, intArithF_eq, shiftF_eq, wrapF_eq, intArith, shift, eqVal, bound, asNat_cast, cond_true, cond_false, BEq.rfl, beq_self_eq_true, evalParts, fillParts, AV.cells, AV.ofCells, XV.av, AV.xv, List.length_cons, List.length_nil, zeros, patch, setMany, List.nil_append, List.cons_append, Nat.ble, Nat.add_eq, Nat.zero_add, Nat.add_zero, Nat.reduceAdd, Nat.reduceMul, Nat.reduceSub, Nat.ble_eq, Nat.reduceLeDiff, Nat.reduceBEq, Int.reduceBEq, Int.reduceNeg, Bool.and_true, Bool.and_false, Bool.true_and, Bool.false_and, Bool.not_true, Bool.not_false, Bool.true_eq_false, Bool.false_eq_true, Int.reduceLT, Int.reduceLE, Int.reduceGT, Int.reduceGE, decide_true, decide_false, Bool.not_eq_true, loopN_norm, loopN_exit, tf, ft, ff, e1, op_nilchk, p_nilchk, op_faddr, p_faddr, p_load, r.c0, r.c1, AV.ofCells, a1, g1, a2, g2]
  rw [decide_eq_false c2] at g2
  have c3 : k ∈ op := hh.elim (fun e => absurd e c1) fun e => e.elim (fun e => absurd e c2) id
  rw [decide_eq_true c3] at g3
  simp only [enter_eq, ev_seq, seqK_norm, seqK_exit, seqK_ret, ev_reg, ev_cond, condK_true, condK_false, ev_block, blockK_norm, blockK_ret, blockK_exit, ev_loop, ev_skip, ev_exit, ev_ret, regK_cons, regK_nil, guard_none, guard_some, regG_true, regG_false, regO_some, op_mov, op_conv, op_bin, op_bsl, op_box, op_mks, op_s2b, op_pick, op_un, op_eq, op_len, op_ext, op_load, op_iaddr, op_slice, op_b2s, op_idxS, op_mx, op_mn, op_call, op_store, op_app, op_copy, args_eq, result_one', rv_loc, finish_norm, finish_ret, outK_some, keep_true, keep_false, keep_nil, p_bin, p_pick, p_un, p_eq, p_conv, evNew, pureK_some, newK_some, X.eval, set_none, set_some, List.map_cons, List.map_nil, List.getD_cons_zero, List.getD_cons_succ, List.getD_nil, List.set_cons_zero, List.set_cons_succ, binCV, unCV, isShift, intArithF_eq, shiftF_eq, wrapF_eq, intArith, shift, eqVal, bound, asNat_cast, cond_true, cond_false, BEq.rfl, beq_self_eq_true, evalParts, fillParts, AV.cells, AV.ofCells, XV.av, AV.xv, List.length_cons, List.length_nil, zeros, patch, setMany, List.nil_append, List.cons_append, Nat.ble, Nat.add_eq, Nat.zero_add, Nat.add_zero, Nat.reduceAdd, Nat.reduceMul, Nat.reduceSub, Nat.ble_eq, Nat.reduceLeDiff, Nat.reduceBEq, Int.reduceBEq, Int.reduceNeg, Bool.and_true, Bool.and_false, Bool.true_and, Bool.false_and, Bool.not_true, Bool.not_false, Bool.true_eq_false, Bool.false_eq_true, Int.reduceLT, Int.reduceLE, Int.reduceGT, Int.reduceGE, decide_true, decide_false, Bool.not_eq_true, loopN_norm, loopN_exit, tf, ft, ff, e1, op_nilchk, p_nilchk, op_faddr, p_faddr, p_load, r.c0, r.c1, r.c2, AV.ofCells, a1, g1, a2, g2, a3, g3]

theorem rpost_ok (r : RB h q B ws an op x1 x2 x3) (hB : B ≤ h.next) {k : Int} (v : Int) (hk : 0 ≤ k ∧ k < 64) (hh : ¬ (k ∈ keys ws ∨ k ∈ keys an ∨ k ∈ op)) (h1 : ws.length + 2 ≤ N) (h2 : an.length + 2 ≤ N) (h3 : op.length + 2 ≤ N) (hN : N ≤ 1000) :
    ∃ y1 h', evCallT table 13 N (d + 2) 15 [.c (.ptr q 0), .c (.int .i64 k), .c (.int .i64 v)] h = some (.c (.int .i64 (if ws.length < 8 then 0 else 8)), h') ∧ RB h' q B (if ws.length < 8 then ws ++ [(k, v)] else ws) an op y1 x2 x3 ∧ ExtB [q] h h' := by
  have e1 := task_ok (N := N) (d := d) (h := h) k
  rw [decide_eq_true hk] at e1
  have a1 := at_ok (N := N) (d := d) r.r1 k h1 (by omega)
  have a2 := at_ok (N := N) (d := d) r.r2 k h2 (by omega)
  have a3 := place_ok (N := N) (d := d) r.r3 k h3 (by omega)
  have g1 := place_ge (keys ws) k
  have g2 := place_ge (keys an) k
  have g3 := place_ge op k
  rw [decide_eq_false fun e => hh (.inl e)] at g1
  rw [decide_eq_false fun e => hh (.inr (.inl e))] at g2
  rw [decide_eq_false fun e => hh (.inr (.inr e))] at g3
  have lx : ∀ (loc vals : List AV) (h : Heap), evPure loc (.c x1 :: vals) h (.len .sl (.val 0)) = some (.c (.int .i64 (ws.length : Int))) := fun _ _ _ => r.r1.len rfl
  rw [evCallT_eq (F := ir15) rfl rfl rfl]
  unfold ir15
  rw [bodyK_eq]
  by_cases h8 : ws.length < 8
  · rw [if_pos h8, if_pos h8]
    have v1 : decide ((ws.length : Int) ≥ 8) = false := decide_eq_false (by omega)
    obtain ⟨z1, h2, b1, z, h4, b2, b3, b4⟩ := app_two r.r1 k v (by omega)
    have b3' : Recs 2 h4 z (ws ++ [(k, v)]).length (flat (ws ++ [(k, v)])) := by rw [flat_app, List.length_append]; exact b3.recs
    obtain ⟨W, r', x'⟩ := r.put1 b4 b3' (fun k hk => by have := b3.young k hk; omega) b3.shape
    have r0' := (r.ext (S := []) (((Ext.refl h).new (.cells [])).b _) (by simp) (by simp)).c0
    simp only [enter_eq, ev_seq, seqK_norm, seqK_exit, seqK_ret, ev_reg, ev_cond, condK_true, condK_false, ev_block, blockK_norm, blockK_ret, blockK_exit, ev_loop, ev_skip, ev_exit, ev_ret, regK_cons, regK_nil, guard_none, guard_some, regG_true, regG_false, regO_some, op_mov, op_conv, op_bin, op_bsl, op_box, op_mks, op_s2b, op_pick, op_un, op_eq, op_len, op_ext, op_load, op_iaddr, op_slice, op_b2s, op_idxS, op_mx, op_mn, op_call, op_store, op_app, op_copy, args_eq, result_one', rv_loc, finish_norm, finish_ret, outK_some, keep_true, keep_false, keep_nil, p_bin, p_pick, p_un, p_eq, p_conv, evNew, pureK_some, newK_some, X.eval, set_none, set_some, List.map_cons, List.map_nil, List.getD_cons_zero, List.getD_cons_succ, List.getD_nil, List.set_cons_zero, List.set_cons_succ, binCV, unCV, isShift, intArithF_eq, shiftF_eq, wrapF_eq, intArith, shift, eqVal, bound, asNat_cast, cond_true, cond_false, BEq.rfl, beq_self_eq_true, evalParts, fillParts, AV.cells, AV.ofCells, XV.av, AV.xv, List.length_cons, List.length_nil, zeros, patch, setMany, List.nil_append, List.cons_append, Nat.ble, Nat.add_eq, Nat.zero_add, Nat.add_zero, Nat.reduceAdd, Nat.reduceMul, Nat.reduceSub, Nat.ble_eq, Nat.reduceLeDiff, Nat.reduceBEq, Int.reduceBEq, Int.reduceNeg, Bool.and_true, Bool.and_false, Bool.true_and, Bool.false_and, Bool.not_true, Bool.not_false, Bool.true_eq_false, Bool.false_eq_true, Int.reduceLT, Int.reduceLE, Int.reduceGT, Int.reduceGE, decide_true, decide_false, Bool.not_eq_true, loopN_norm, loopN_exit, tf, ft, ff, e1, op_nilchk, p_nilchk, op_faddr, p_faddr, p_load, r.c0, r.c1, r.c2, AV.ofCells, a1, g1, a2, g2, a3, g3, lx, v1, r0', b1, op_build, p_build', b2, evEff, W]
    exact ⟨_, _, rfl, r', x'⟩
  · rw [if_neg h8, if_neg h8]
    have v1 : decide ((ws.length : Int) ≥ 8) = true := decide_eq_true (by omega)
    simp only [enter_eq, ev_seq, seqK_norm, seqK_exit, seqK_ret, ev_reg, ev_cond, condK_true, condK_false, ev_block, blockK_norm, blockK_ret, blockK_exit, ev_loop, ev_skip, ev_exit, ev_ret, regK_cons, regK_nil, guard_none, guard_some, regG_true, regG_false, regO_some, op_mov, op_conv, op_bin, op_bsl, op_box, op_mks, op_s2b, op_pick, op_un, op_eq, op_len, op_ext, op_load, op_iaddr, op_slice, op_b2s, op_idxS, op_mx, op_mn, op_call, op_store, op_app, op_copy, args_eq, result_one', rv_loc, finish_norm, finish_ret, outK_some, keep_true, keep_false, keep_nil, p_bin, p_pick, p_un, p_eq, p_conv, evNew, pureK_some, newK_some, X.eval, set_none, set_some, List.map_cons, List.map_nil, List.getD_cons_zero, List.getD_cons_succ, List.getD_nil, List.set_cons_zero, List.set_cons_succ, binCV, unCV, isShift, intArithF_eq, shiftF_eq, wrapF_eq, intArith, shift, eqVal, bound, asNat_cast, cond_true, cond_false, BEq.rfl, beq_self_eq_true, evalParts, fillParts, AV.cells, AV.ofCells, XV.av, AV.xv, List.length_cons, List.length_nil, zeros, patch, setMany, List.nil_append, List.cons_append, Nat.ble, Nat.add_eq, Nat.zero_add, Nat.add_zero, Nat.reduceAdd, Nat.reduceMul, Nat.reduceSub, Nat.ble_eq, Nat.reduceLeDiff, Nat.reduceBEq, Int.reduceBEq, Int.reduceNeg, Bool.and_true, Bool.and_false, Bool.true_and, Bool.false_and, Bool.not_true, Bool.not_false, Bool.true_eq_false, Bool.false_eq_true, Int.reduceLT, Int.reduceLE, Int.reduceGT, Int.reduceGE, decide_true, decide_false, Bool.not_eq_true, loopN_norm, loopN_exit, tf, ft, ff, e1, op_nilchk, p_nilchk, op_faddr, p_faddr, p_load, r.c0, r.c1, r.c2, AV.ofCells, a1, g1, a2, g2, a3, g3, lx, v1]
    exact ⟨_, _, rfl, r, ExtB.refl _ _⟩

theorem ranswer_no (r : RB h q B ws an op x1 x2 x3) {k : Int} (v : Int) (hh : k ∉ op) (h3 : op.length + 2 ≤ N) (hN : N ≤ 1000) :
    evCallT table 13 N (d + 2) 20 [.c (.ptr q 0), .c (.int .i64 k), .c (.int .i64 v)] h = some (.c (.int .i64 2), h) := by
  have a3 := place_ok (N := N) (d := d) r.r3 k h3 (by omega)
  rw [placeOf_not hh] at a3
  rw [evCallT_eq (F := ir20) rfl rfl rfl]
  unfold ir20
  rw [bodyK_eq]
  simp only [enter_eq, ev_seq, seqK_norm, seqK_exit, seqK_ret, ev_reg, ev_cond, condK_true, condK_false, ev_block, blockK_norm, blockK_ret, blockK_exit, ev_loop, ev_skip, ev_exit, ev_ret, regK_cons, regK_nil, guard_none, guard_some, regG_true, regG_false, regO_some, op_mov, op_conv, op_bin, op_bsl, op_box, op_mks, op_s2b, op_pick, op_un, op_eq, op_len, op_ext, op_load, op_iaddr, op_slice, op_b2s, op_idxS, op_mx, op_mn, op_call, op_store, op_app, op_copy, args_eq, result_one', rv_loc, finish_norm, finish_ret, outK_some, keep_true, keep_false, keep_nil, p_bin, p_pick, p_un, p_eq, p_conv, evNew, pureK_some, newK_some, X.eval, set_none, set_some, List.map_cons, List.map_nil, List.getD_cons_zero, List.getD_cons_succ, List.getD_nil, List.set_cons_zero, List.set_cons_succ, binCV, unCV, isShift, intArithF_eq, shiftF_eq, wrapF_eq, intArith, shift, eqVal, bound, asNat_cast, cond_true, cond_false, BEq.rfl, beq_self_eq_true, evalParts, fillParts, AV.cells, AV.ofCells, XV.av, AV.xv, List.length_cons, List.length_nil, zeros, patch, setMany, List.nil_append, List.cons_append, Nat.ble, Nat.add_eq, Nat.zero_add, Nat.add_zero, Nat.reduceAdd, Nat.reduceMul, Nat.reduceSub, Nat.ble_eq, Nat.reduceLeDiff, Nat.reduceBEq, Int.reduceBEq, Int.reduceNeg, Bool.and_true, Bool.and_false, Bool.true_and, Bool.false_and, Bool.not_true, Bool.not_false, Bool.true_eq_false, Bool.false_eq_true, Int.reduceLT, Int.reduceLE, Int.reduceGT, Int.reduceGE, decide_true, decide_false, Bool.not_eq_true, loopN_norm, loopN_exit, tf, ft, ff, op_nilchk, p_nilchk, op_faddr, p_faddr, p_load, r.c2, AV.ofCells, a3]

theorem ranswer_ok (r : RB h q B ws an op x1 x2 x3) (hB : B ≤ h.next) {k : Int} (v : Int) (hh : k ∈ op) (h2 : an.length + 2 ≤ N) (h3 : op.length + 2 ≤ N) (hN : N ≤ 1000) :
    ∃ y2 y3 h', evCallT table 13 N (d + 2) 20 [.c (.ptr q 0), .c (.int .i64 k), .c (.int .i64 v)] h = some (.c (.int .i64 0), h') ∧ RB h' q B ws (an ++ [(k, v)]) (op.erase k) x1 y2 y3 ∧ ExtB [q] h h' := by
  have a3 := place_ok (N := N) (d := d) r.r3 k h3 (by omega)
  obtain ⟨j, hp, hj, hje, hno⟩ := placeOf_mem hh
  rw [hp] at a3
  have v1 : decide ((j : Int) < 0) = false := decide_eq_false (by omega)
  obtain ⟨i, o', c, e3, _, _⟩ := r.r3.sl (by omega)
  have s3 := r.s3 i o' _ c e3
  subst e3
  obtain ⟨z, h1, e1, e2, e3, e4⟩ := without_ok (N := N) (d := d) r.r3 s3 hj (by omega)
  rw [← erase_place hj hje hno] at e2
  have x1' : Ext h h1 := ⟨e3, e4⟩
  obtain ⟨W1, r1, x1''⟩ := r.put3 x1' e2.ints (fun k hk => by have := e2.young k hk; omega) e2.shape
  have hB1 : B ≤ (h1.put q (.cells [x1, x2, z])).next := Nat.le_trans hB x1''.1
  obtain ⟨z1, h2, b1, z', h4, b2, b3, b4⟩ := app_two r1.r2 k v (by omega)
  have b3' : Recs 2 h4 z' (an ++ [(k, v)]).length (flat (an ++ [(k, v)])) := by rw [flat_app, List.length_append]; exact b3.recs
  obtain ⟨W, r', x'⟩ := r1.put2 b4 b3' (fun k hk => by have := b3.young k hk; omega) b3.shape
  have r1' := (r1.ext (S := []) (((Ext.refl _).new (.cells [])).b _) (by simp) (by simp)).c1
  rw [evCallT_eq (F := ir20) rfl rfl rfl]
  unfold ir20
  rw [bodyK_eq]
  simp only [enter_eq, ev_seq, seqK_norm, seqK_exit, seqK_ret, ev_reg, ev_cond, condK_true, condK_false, ev_block, blockK_norm, blockK_ret, blockK_exit, ev_loop, ev_skip, ev_exit, ev_ret, regK_cons, regK_nil, guard_none, guard_some, regG_true, regG_false, regO_some, op_mov, op_conv, op_bin, op_bsl, op_box, op_mks, op_s2b, op_pick, op_un, op_eq, op_len, op_ext, op_load, op_iaddr, op_slice, op_b2s, op_idxS, op_mx, op_mn, op_call, op_store, op_app, op_copy, args_eq, result_one', rv_loc, finish_norm, finish_ret, outK_some, keep_true, keep_false, keep_nil, p_bin, p_pick, p_un, p_eq, p_conv, evNew, pureK_some, newK_some, X.eval, set_none, set_some, List.map_cons, List.map_nil, List.getD_cons_zero, List.getD_cons_succ, List.getD_nil, List.set_cons_zero, List.set_cons_succ, binCV, unCV, isShift, intArithF_eq, shiftF_eq, wrapF_eq, intArith, shift, eqVal, bound, asNat_cast, cond_true, cond_false, BEq.rfl, beq_self_eq_true, evalParts, fillParts, AV.cells, AV.ofCells, XV.av, AV.xv, List.length_cons, List.length_nil, zeros, patch, setMany, List.nil_append, List.cons_append, Nat.ble, Nat.add_eq, Nat.zero_add, Nat.add_zero, Nat.reduceAdd, Nat.reduceMul, Nat.reduceSub, Nat.ble_eq, Nat.reduceLeDiff, Nat.reduceBEq, Int.reduceBEq, Int.reduceNeg, Bool.and_true, Bool.and_false, Bool.true_and, Bool.false_and, Bool.not_true, Bool.not_false, Bool.true_eq_false, Bool.false_eq_true, Int.reduceLT, Int.reduceLE, Int.reduceGT, Int.reduceGE, decide_true, decide_false, Bool.not_eq_true, loopN_norm, loopN_exit, tf, ft, ff, op_nilchk, p_nilchk, op_faddr, p_faddr, p_load, r.c2, AV.ofCells, a3, v1, e1, evEff, W1, r1', b1, op_build, p_build', b2, W]
  exact ⟨_, _, _, rfl, r', x1''.trans x'⟩

theorem rhear_no (r : RB h q B ws an op x1 x2 x3) {k : Int} (hh : k ∉ keys an) (h2 : an.length + 2 ≤ N) (hN : N ≤ 1000) :
    evCallT table 13 N (d + 2) 22 [.c (.ptr q 0), .c (.int .i64 k)] h = some (.tup [.c (.int .i64 0), .c (.bool false)], h) := by
  have a2 := at_ok (N := N) (d := d) r.r2 k h2 (by omega)
  rw [placeOf_not hh] at a2
  rw [evCallT_eq (F := ir22) rfl rfl rfl]
  unfold ir22
  rw [bodyK_eq]
  simp only [enter_eq, ev_seq, seqK_norm, seqK_exit, seqK_ret, ev_reg, ev_cond, condK_true, condK_false, ev_block, blockK_norm, blockK_ret, blockK_exit, ev_loop, ev_skip, ev_exit, ev_ret, regK_cons, regK_nil, guard_none, guard_some, regG_true, regG_false, regO_some, op_mov, op_conv, op_bin, op_bsl, op_box, op_mks, op_s2b, op_pick, op_un, op_eq, op_len, op_ext, op_load, op_iaddr, op_slice, op_b2s, op_idxS, op_mx, op_mn, op_call, op_store, op_app, op_copy, args_eq, result_one', rv_loc, finish_norm, finish_ret, outK_some, keep_true, keep_false, keep_nil, p_bin, p_pick, p_un, p_eq, p_conv, evNew, pureK_some, newK_some, X.eval, set_none, set_some, List.map_cons, List.map_nil, List.getD_cons_zero, List.getD_cons_succ, List.getD_nil, List.set_cons_zero, List.set_cons_succ, binCV, unCV, isShift, intArithF_eq, shiftF_eq, wrapF_eq, intArith, shift, eqVal, bound, asNat_cast, cond_true, cond_false, BEq.rfl, beq_self_eq_true, evalParts, fillParts, AV.cells, AV.ofCells, XV.av, AV.xv, List.length_cons, List.length_nil, zeros, patch, setMany, List.nil_append, List.cons_append, Nat.ble, Nat.add_eq, Nat.zero_add, Nat.add_zero, Nat.reduceAdd, Nat.reduceMul, Nat.reduceSub, Nat.ble_eq, Nat.reduceLeDiff, Nat.reduceBEq, Int.reduceBEq, Int.reduceNeg, Bool.and_true, Bool.and_false, Bool.true_and, Bool.false_and, Bool.not_true, Bool.not_false, Bool.true_eq_false, Bool.false_eq_true, Int.reduceLT, Int.reduceLE, Int.reduceGT, Int.reduceGE, decide_true, decide_false, Bool.not_eq_true, loopN_norm, loopN_exit, tf, ft, ff, op_nilchk, p_nilchk, op_faddr, p_faddr, p_load, r.c1, AV.ofCells, a2]
  rfl
theorem app_without {n : Nat} {h : Heap} {i o : Nat} {c : Cap} {l : List Int} (hx : Recs 2 h (.sl i o n c) n l) {k : Nat} (hk : k < n) (hn : n < 900000) (c1 c2 : Cap) :
    ∃ z1 h1, evApp ((h.skip 1).put h.next (.cells [])) 2 (.c (.sl h.next 0 0 (.ex 0))) (.c (.sl i (o + 0 * 2) (k - 0) c1)) = some (.c z1, h1) ∧ Ext h h1 ∧
      ∃ z h', evApp h1 2 (.c z1) (.c (.sl i (o + (k + 1) * 2) (n - (k + 1)) c2)) = some (.c z, h') ∧ SoleR 2 h h' z (n - 1) (l.take (k * 2) ++ l.drop ((k + 1) * 2)) ∧ Ext h h' := by
  have e0 : Ext h ((h.skip 1).put h.next (.cells [])) := ((Ext.refl _).skip 1).put (Nat.le_refl _) _
  have p1 := (hx.ext e0).part 0 k (by omega) c1
  rw [Nat.zero_mul, List.drop_zero] at p1
  obtain ⟨z1, h1, a1, a2, a3, a4⟩ := app_recs (sz := 2) (h0 := h) (h := (h.skip 1).put h.next (.cells [])) (x := .sl h.next 0 0 (.ex 0)) (n := 0) (l := []) (by omega) ⟨rfl, .inr ⟨h.next, .ex 0, rfl, .inr rfl, get_put_at, Nat.le_refl _, Nat.lt_succ_self _⟩⟩ (Nat.le_succ _) p1 (by omega)
  rw [List.nil_append, Nat.zero_add] at a2
  have hle : h.next ≤ h1.next := Nat.le_trans (Nat.le_succ _) a3
  have ext1 : Ext h h1 := ⟨hle, fun j hj => by rw [a4 j (Nat.lt_succ_of_lt hj) (fun e => by simp [blk] at e; omega)]; exact e0.2 j hj⟩
  have p2 := (hx.ext ext1).part (k + 1) (n - (k + 1)) (by omega) c2
  rw [List.take_of_length_le (by rw [List.length_drop, hx.1]; omega)] at p2
  obtain ⟨z, h', b1, b2, b3, b4⟩ := app_recs (sz := 2) (h0 := h) (by omega) a2 hle p2 (by omega)
  refine ⟨z1, h1, by rw [Nat.zero_mul, Nat.sub_zero]; exact a1, ext1, z, h', b1, ?_, ⟨Nat.le_trans hle b3, fun j hj => ?_⟩⟩
  · rw [show k + (n - (k + 1)) = n - 1 by omega] at b2; exact b2
  · rw [b4 j (by omega) (fun e => by have := a2.young j e; omega)]; exact ext1.2 j hj

theorem rhear_ok (r : RB h q B ws an op x1 x2 x3) (hB : B ≤ h.next) {k : Int} {j : Nat} (hp : placeOf (keys an) k = (j : Int)) (hj : j < an.length) (h2 : an.length + 2 ≤ N) (hN : N ≤ 1000) :
    ∃ y2 h', evCallT table 13 N (d + 2) 22 [.c (.ptr q 0), .c (.int .i64 k)] h = some (.tup [.c (.int .i64 an[j].2), .c (.bool true)], h') ∧ RB h' q B ws (an.take j ++ an.drop (j + 1)) op x1 y2 x3 ∧ ExtB [q] h h' := by
  have a2 := at_ok (N := N) (d := d) r.r2 k h2 (by omega)
  rw [hp] at a2
  have v1 : decide ((j : Int) < 0) = false := decide_eq_false (by omega)
  have v2 := succI (i := j) (by omega)
  obtain ⟨i, o, c, e3, _, rx⟩ := r.r2.sl (by omega)
  have s2 := r.s2 i o _ c e3
  subst e3
  have k1 := rx j 1 hj (by omega)
  rw [(flat_at an hj).2] at k1
  have m1 : Nat.blt j an.length = true := bltT hj
  have m2 : Nat.blt 1 2 = true := rfl
  have a1 : asNat (.c (.int .i64 1)) = some 1 := rfl
  have b1 : Nat.ble j an.length = true := Nat.ble_eq_true_of_le (by omega)
  have b2 : Nat.ble (j + 1) an.length = true := Nat.ble_eq_true_of_le (by omega)
  have b3 : Nat.ble an.length an.length = true := Nat.ble_eq_true_of_le (Nat.le_refl _)
  have fl : flat (an.take j ++ an.drop (j + 1)) = (flat an).take (j * 2) ++ (flat an).drop ((j + 1) * 2) := by rw [flat_app, flat_take, flat_drop]
  have ll : (an.take j ++ an.drop (j + 1)).length = an.length - 1 := by simp; omega
  have c0' := (r.ext (S := []) (((Ext.refl h).skip 1).put (Nat.le_refl _) (.cells []) |>.b _) (by simp) (by simp)).c1
  have c0s := (r.ext (S := []) (((Ext.refl h).skip 1).b _) (by simp) (by simp)).c1
  have key : ∀ c1 c2, ∃ z1 h1, evApp ((h.skip 1).put h.next (.cells [])) 2 (.c (.sl h.next 0 0 (.ex 0))) (.c (.sl i (o + 0 * 2) (j - 0) c1)) = some (.c z1, h1) ∧ h1.read q 1 1 = some [.sl i o an.length c] ∧
      ∃ z h', evApp h1 2 (.c z1) (.c (.sl i (o + (j + 1) * 2) (an.length - (j + 1)) c2)) = some (.c z, h') ∧ h'.write q 1 [z] = some (h'.put q (.cells [x1, z, x3])) ∧ RB (h'.put q (.cells [x1, z, x3])) q B ws (an.take j ++ an.drop (j + 1)) op x1 z x3 ∧ ExtB [q] h (h'.put q (.cells [x1, z, x3])) := fun c1 c2 => by
    obtain ⟨z1, h1, d1, d2, z, h', d3, d4, d5⟩ := app_without r.r2 hj (by omega) c1 c2
    rw [← fl, ← ll] at d4
    obtain ⟨W, r', x'⟩ := r.put2 d5 d4.recs (fun k hk => by have := d4.young k hk; omega) d4.shape
    exact ⟨z1, h1, d1, (r.ext (S := []) (d2.b _) (by simp) (by simp)).c1, z, h', d3, W, r', x'⟩
  rw [evCallT_eq (F := ir22) rfl rfl rfl]
  unfold ir22
  rw [bodyK_eq]
  rcases s2 with rfl | rfl
  · obtain ⟨z1, h1, d1, d2, z, h', d3, W, r', x'⟩ := key (.dy 2) (.dy 2)
    simp only [Nat.zero_mul, Nat.add_zero, Nat.sub_zero] at d1 d3
    simp only [enter_eq, ev_seq, seqK_norm, seqK_exit, seqK_ret, ev_reg, ev_cond, condK_true, condK_false, ev_block, blockK_norm, blockK_ret, blockK_exit, ev_loop, ev_skip, ev_exit, ev_ret, regK_cons, regK_nil, guard_none, guard_some, regG_true, regG_false, regO_some, op_mov, op_conv, op_bin, op_bsl, op_box, op_mks, op_s2b, op_pick, op_un, op_eq, op_len, op_ext, op_load, op_iaddr, op_slice, op_b2s, op_idxS, op_mx, op_mn, op_call, op_store, op_app, op_copy, args_eq, result_one', rv_loc, finish_norm, finish_ret, outK_some, keep_true, keep_false, keep_nil, evPure, evNew, pureK_some, newK_some, X.eval, set_none, set_some, List.map_cons, List.map_nil, List.getD_cons_zero, List.getD_cons_succ, List.getD_nil, List.set_cons_zero, List.set_cons_succ, binCV, unCV, isShift, intArithF_eq, shiftF_eq, wrapF_eq, intArith, shift, eqVal, bound, asNat_cast, cond_true, cond_false, BEq.rfl, beq_self_eq_true, evalParts, fillParts, AV.cells, AV.ofCells, XV.av, AV.xv, List.length_cons, List.length_nil, zeros, patch, setMany, List.nil_append, List.cons_append, Nat.ble, Nat.add_eq, Nat.zero_add, Nat.add_zero, Nat.reduceAdd, Nat.reduceMul, Nat.reduceSub, Nat.ble_eq, Nat.reduceLeDiff, Nat.reduceBEq, Int.reduceBEq, Int.reduceNeg, Bool.and_true, Bool.and_false, Bool.true_and, Bool.false_and, Bool.not_true, Bool.not_false, Bool.true_eq_false, Bool.false_eq_true, Int.reduceLT, Int.reduceLE, Int.reduceGT, Int.reduceGE, decide_true, decide_false, Bool.not_eq_true, loopN_norm, loopN_exit, tf, ft, ff, ev_dreg, dregK_nil, dregK_cons, dregE_true, dregP_some, dregX_some, d_mov, d_bin, d_eq, d_pick, d_un, d_conv, d_b2s, d_len, d_load, d_iaddr, d_slice, d_ext, d_call, d_store, chk_done, chk_none, chk_some, chkG_true, chkG_false, chkOne_nil, chkOne_cons, chkH_some, chkV_same, stage_none, stage_some, look_hit, look_miss, news_nil, wb_cons, wb_nil, skip0, List.reverse_cons, List.reverse_nil, op_nilchk, op_faddr, op_iaddrA, r.c1, a2, v1, m1, m2, a1, Nat.one_mul, Nat.mul_one, k1, d_bsl, d_nilchk, d_faddr, d_app, dregW_some, c0', c0s, b1, b2, b3, v2, Nat.zero_mul, Nat.sub_zero, d1, d2, d3, evEff, W]
    exact ⟨_, _, rfl, r', x'⟩
  · obtain ⟨z1, h1, d1, d2, z, h', d3, W, r', x'⟩ := key (.ex an.length) (.ex (an.length - (j + 1)))
    simp only [Nat.zero_mul, Nat.add_zero, Nat.sub_zero] at d1 d3
    simp only [enter_eq, ev_seq, seqK_norm, seqK_exit, seqK_ret, ev_reg, ev_cond, condK_true, condK_false, ev_block, blockK_norm, blockK_ret, blockK_exit, ev_loop, ev_skip, ev_exit, ev_ret, regK_cons, regK_nil, guard_none, guard_some, regG_true, regG_false, regO_some, op_mov, op_conv, op_bin, op_bsl, op_box, op_mks, op_s2b, op_pick, op_un, op_eq, op_len, op_ext, op_load, op_iaddr, op_slice, op_b2s, op_idxS, op_mx, op_mn, op_call, op_store, op_app, op_copy, args_eq, result_one', rv_loc, finish_norm, finish_ret, outK_some, keep_true, keep_false, keep_nil, evPure, evNew, pureK_some, newK_some, X.eval, set_none, set_some, List.map_cons, List.map_nil, List.getD_cons_zero, List.getD_cons_succ, List.getD_nil, List.set_cons_zero, List.set_cons_succ, binCV, unCV, isShift, intArithF_eq, shiftF_eq, wrapF_eq, intArith, shift, eqVal, bound, asNat_cast, cond_true, cond_false, BEq.rfl, beq_self_eq_true, evalParts, fillParts, AV.cells, AV.ofCells, XV.av, AV.xv, List.length_cons, List.length_nil, zeros, patch, setMany, List.nil_append, List.cons_append, Nat.ble, Nat.add_eq, Nat.zero_add, Nat.add_zero, Nat.reduceAdd, Nat.reduceMul, Nat.reduceSub, Nat.ble_eq, Nat.reduceLeDiff, Nat.reduceBEq, Int.reduceBEq, Int.reduceNeg, Bool.and_true, Bool.and_false, Bool.true_and, Bool.false_and, Bool.not_true, Bool.not_false, Bool.true_eq_false, Bool.false_eq_true, Int.reduceLT, Int.reduceLE, Int.reduceGT, Int.reduceGE, decide_true, decide_false, Bool.not_eq_true, loopN_norm, loopN_exit, tf, ft, ff, ev_dreg, dregK_nil, dregK_cons, dregE_true, dregP_some, dregX_some, d_mov, d_bin, d_eq, d_pick, d_un, d_conv, d_b2s, d_len, d_load, d_iaddr, d_slice, d_ext, d_call, d_store, chk_done, chk_none, chk_some, chkG_true, chkG_false, chkOne_nil, chkOne_cons, chkH_some, chkV_same, stage_none, stage_some, look_hit, look_miss, news_nil, wb_cons, wb_nil, skip0, List.reverse_cons, List.reverse_nil, op_nilchk, op_faddr, op_iaddrA, r.c1, a2, v1, m1, m2, a1, Nat.one_mul, Nat.mul_one, k1, d_bsl, d_nilchk, d_faddr, d_app, dregW_some, c0', c0s, b1, b2, b3, v2, Nat.zero_mul, Nat.sub_zero, d1, d2, d3, evEff, W]
    exact ⟨_, _, rfl, r', x'⟩

theorem eq_two (a b : Int) : eqCells [true, true] [.int .i64 a, .int .i64 b] [.int .i64 a, .int .i64 b] = some true := by simp [eqCells]

theorem pairs_ok {x y : CV} {l : Wd} (hx : Recs 2 h x l.length (flat l)) (hy : Recs 2 h y l.length (flat l)) (hN : l.length + 2 ≤ N) (h2 : l.length ≤ 1000) :
    evCallT table 13 N (d + 1) 16 [.c x, .c y] h = some (.c (.bool true), h) := by
  have bneI : ∀ {a b : Int}, (a != b) = !(a == b) := rfl
  have l1 : ∀ (loc vals : List AV) h', evPure loc (.c x :: vals) h' (.len .sl (.val 0)) = some (.c (.int .i64 (l.length : Int))) := fun _ _ _ => hx.len rfl
  have l2 : ∀ (loc : List AV) a (vals : List AV) h', evPure loc (a :: .c y :: vals) h' (.len .sl (.val 1)) = some (.c (.int .i64 (l.length : Int))) := fun _ _ _ _ => hy.len rfl
  have l3 : ∀ (loc vals : List AV) h', evPure loc (.c y :: vals) h' (.len .sl (.val 0)) = some (.c (.int .i64 (l.length : Int))) := fun _ _ _ => hy.len rfl
  rw [evCallT_eq (F := ir16) rfl rfl rfl]
  unfold ir16
  rw [bodyK_eq]
  have L : ∀ loc, keepOnly ir16_k0 loc = [.c x, .c y, .junk, .c (.int .i64 0), .junk, .junk, .junk] →
      ∃ r, loopK (evCallT table 13 N d) N ir16_k0 ir16_l0 N loc h = some r ∧ ∃ c0 c1 c2 l, r = (.exit 0, c0 :: c1 :: c2 :: l, h) := by
    intro loc hloc
    refine loop_inv (n := l.length) (fun k loc h' => h' = h ∧ loc = [.c x, .c y, .junk, .c (.int .i64 (k : Int)), .junk, .junk, .junk]) _ ?_ ⟨rfl, hloc⟩ (by omega)
    rintro k loc h' hk ⟨rfl, rfl⟩
    unfold ir16_l0
    by_cases hlt : k < l.length
    · left
      refine ⟨hlt, ?_⟩
      have v1 : decide ((k : Int) < (l.length : Int)) = true := ltNat hlt
      have v2 := succI (i := k) (by omega)
      have m1 : Nat.blt k l.length = true := bltT hlt
      have rd : ∀ {z : CV} {i o : Nat}, h'.read i o (l.length * 2) = some ((flat l).map icell) → h'.read i (o + k * 2) 2 = some [.int .i64 l[k].1, .int .i64 l[k].2] := fun {z i o} hr => by
        rw [read_sub hr (b := k * 2) (c := 2) (by omega), ← List.map_drop, ← List.map_take, flat_drop, List.drop_eq_getElem_cons hlt]; rfl
      obtain ⟨i, o, c, rfl, _, rx⟩ := hx.whole (by omega) (by omega)
      obtain ⟨i', o', c', rfl, _, ry⟩ := hy.whole (by omega) (by omega)
      have k1 := rd (z := .nils) rx
      have k2 := rd (z := .nils) ry
      simp only [enter_eq, ev_seq, seqK_norm, seqK_exit, seqK_ret, ev_reg, ev_cond, condK_true, condK_false, ev_block, blockK_norm, blockK_ret, blockK_exit, ev_loop, ev_skip, ev_exit, ev_ret, regK_cons, regK_nil, guard_none, guard_some, regG_true, regG_false, regO_some, op_mov, op_conv, op_bin, op_bsl, op_box, op_mks, op_s2b, op_pick, op_un, op_eq, op_len, op_ext, op_load, op_iaddr, op_slice, op_b2s, op_idxS, op_mx, op_mn, op_call, op_store, op_app, op_copy, args_eq, result_one', rv_loc, finish_norm, finish_ret, outK_some, keep_true, keep_false, keep_nil, p_bin, p_pick, p_un, p_eq, p_conv, evNew, pureK_some, newK_some, X.eval, set_none, set_some, List.map_cons, List.map_nil, List.getD_cons_zero, List.getD_cons_succ, List.getD_nil, List.set_cons_zero, List.set_cons_succ, binCV, unCV, isShift, intArithF_eq, shiftF_eq, wrapF_eq, intArith, shift, eqVal, bound, asNat_cast, cond_true, cond_false, BEq.rfl, beq_self_eq_true, evalParts, fillParts, AV.cells, AV.ofCells, XV.av, AV.xv, List.length_cons, List.length_nil, zeros, patch, setMany, List.nil_append, List.cons_append, Nat.ble, Nat.add_eq, Nat.zero_add, Nat.add_zero, Nat.reduceAdd, Nat.reduceMul, Nat.reduceSub, Nat.ble_eq, Nat.reduceLeDiff, Nat.reduceBEq, Int.reduceBEq, Int.reduceNeg, Bool.and_true, Bool.and_false, Bool.true_and, Bool.false_and, Bool.not_true, Bool.not_false, Bool.true_eq_false, Bool.false_eq_true, Int.reduceLT, Int.reduceLE, Int.reduceGT, Int.reduceGE, decide_true, decide_false, Bool.not_eq_true, loopN_norm, loopN_exit, tf, ft, ff, ev_dreg, dregK_nil, dregK_cons, dregE_true, dregP_some, dregX_some, d_mov, d_bin, d_eq, d_pick, d_un, d_conv, d_b2s, d_len, d_load, d_iaddr, d_slice, d_ext, d_call, d_store, chk_done, chk_none, chk_some, chkG_true, chkG_false, chkOne_nil, chkOne_cons, chkH_some, chkV_same, stage_none, stage_some, look_hit, look_miss, news_nil, wb_cons, wb_nil, skip0, List.reverse_cons, List.reverse_nil, l1, v1, v2, p_iaddr, p_load, m1, k1, k2, AV.ofCells, eq_two]
      exact ⟨_, _, rfl, rfl, rfl⟩
    · right
      have hin : k = l.length := by omega
      subst hin
      have v1 : decide ((l.length : Int) < (l.length : Int)) = false := geNat (Nat.le_refl _)
      simp only [enter_eq, ev_seq, seqK_norm, seqK_exit, seqK_ret, ev_reg, ev_cond, condK_true, condK_false, ev_block, blockK_norm, blockK_ret, blockK_exit, ev_loop, ev_skip, ev_exit, ev_ret, regK_cons, regK_nil, guard_none, guard_some, regG_true, regG_false, regO_some, op_mov, op_conv, op_bin, op_bsl, op_box, op_mks, op_s2b, op_pick, op_un, op_eq, op_len, op_ext, op_load, op_iaddr, op_slice, op_b2s, op_idxS, op_mx, op_mn, op_call, op_store, op_app, op_copy, args_eq, result_one', rv_loc, finish_norm, finish_ret, outK_some, keep_true, keep_false, keep_nil, p_bin, p_pick, p_un, p_eq, p_conv, evNew, pureK_some, newK_some, X.eval, set_none, set_some, List.map_cons, List.map_nil, List.getD_cons_zero, List.getD_cons_succ, List.getD_nil, List.set_cons_zero, List.set_cons_succ, binCV, unCV, isShift, intArithF_eq, shiftF_eq, wrapF_eq, intArith, shift, eqVal, bound, asNat_cast, cond_true, cond_false, BEq.rfl, beq_self_eq_true, evalParts, fillParts, AV.cells, AV.ofCells, XV.av, AV.xv, List.length_cons, List.length_nil, zeros, patch, setMany, List.nil_append, List.cons_append, Nat.ble, Nat.add_eq, Nat.zero_add, Nat.add_zero, Nat.reduceAdd, Nat.reduceMul, Nat.reduceSub, Nat.ble_eq, Nat.reduceLeDiff, Nat.reduceBEq, Int.reduceBEq, Int.reduceNeg, Bool.and_true, Bool.and_false, Bool.true_and, Bool.false_and, Bool.not_true, Bool.not_false, Bool.true_eq_false, Bool.false_eq_true, Int.reduceLT, Int.reduceLE, Int.reduceGT, Int.reduceGE, decide_true, decide_false, Bool.not_eq_true, loopN_norm, loopN_exit, tf, ft, ff, l1, v1]
      exact ⟨_, rfl, by simp, _, _, _, _, rfl⟩
  have q1 : ((l.length : Int) == (l.length : Int)) = true := by simp
  obtain ⟨r, hr, c0, c1, c2, ll, rfl⟩ := L [.c x, .c y, .c (.bool false), .c (.int .i64 0), .c (.bool false), .tup [], .tup []] rfl
  simp only [enter_eq, ev_seq, seqK_norm, seqK_exit, seqK_ret, ev_reg, ev_cond, condK_true, condK_false, ev_block, blockK_norm, blockK_ret, blockK_exit, ev_loop, ev_skip, ev_exit, ev_ret, regK_cons, regK_nil, guard_none, guard_some, regG_true, regG_false, regO_some, op_mov, op_conv, op_bin, op_bsl, op_box, op_mks, op_s2b, op_pick, op_un, op_eq, op_len, op_ext, op_load, op_iaddr, op_slice, op_b2s, op_idxS, op_mx, op_mn, op_call, op_store, op_app, op_copy, args_eq, result_one', rv_loc, finish_norm, finish_ret, outK_some, keep_true, keep_false, keep_nil, p_bin, p_pick, p_un, p_eq, p_conv, evNew, pureK_some, newK_some, X.eval, set_none, set_some, List.map_cons, List.map_nil, List.getD_cons_zero, List.getD_cons_succ, List.getD_nil, List.set_cons_zero, List.set_cons_succ, binCV, unCV, isShift, intArithF_eq, shiftF_eq, wrapF_eq, intArith, shift, eqVal, bound, asNat_cast, cond_true, cond_false, BEq.rfl, beq_self_eq_true, evalParts, fillParts, AV.cells, AV.ofCells, XV.av, AV.xv, List.length_cons, List.length_nil, zeros, patch, setMany, List.nil_append, List.cons_append, Nat.ble, Nat.add_eq, Nat.zero_add, Nat.add_zero, Nat.reduceAdd, Nat.reduceMul, Nat.reduceSub, Nat.ble_eq, Nat.reduceLeDiff, Nat.reduceBEq, Int.reduceBEq, Int.reduceNeg, Bool.and_true, Bool.and_false, Bool.true_and, Bool.false_and, Bool.not_true, Bool.not_false, Bool.true_eq_false, Bool.false_eq_true, Int.reduceLT, Int.reduceLE, Int.reduceGT, Int.reduceGE, decide_true, decide_false, Bool.not_eq_true, loopN_norm, loopN_exit, tf, ft, ff, l1, l2, l3, bneI, q1, hr, blockK_exit_eq]
theorem rtake_loop (r : RB h q B ws an op x1 x2 x3) (hB : B ≤ h.next) {l : Wd} {y : CV} (hy : Recs 2 h y l.length (flat l)) (yb : ∀ k, blk y = some k → B ≤ k) (hN : l.length + 2 ≤ N) (hl : l.length + op.length ≤ 1000) :
    ∀ loc, keepOnly ir18_k0 loc = [.c (.ptr q 0), .junk, .junk, .c (.int .i64 (l.length : Int)), .c y, .c (.int .i64 0), .junk] →
      ∃ rr, loopK (evCallT table 13 N d) N ir18_k0 ir18_l0 N loc h = some rr ∧ ∃ y3 h' a0 a1 a2 a3 ll, rr = (.exit 0, a0 :: a1 :: a2 :: a3 :: .c y :: ll, h') ∧ RB h' q B ws an (op ++ keys l) x1 x2 y3 ∧ ExtB [q] h h' := by
  intro loc hloc
  refine loop_inv (n := l.length) (fun i loc h' => ∃ y3, RB h' q B ws an (op ++ keys (l.take i)) x1 x2 y3 ∧ ExtB [q] h h' ∧ loc = [.c (.ptr q 0), .junk, .junk, .c (.int .i64 (l.length : Int)), .c y, .c (.int .i64 (i : Int)), .junk]) _ ?_ ⟨x3, by simpa [keys] using r, ExtB.refl _ _, hloc⟩ (by omega)
  rintro i loc h' hi ⟨y3, r', he, rfl⟩
  unfold ir18_l0
  by_cases hlt : i < l.length
  · left
    refine ⟨hlt, ?_⟩
    have v1 : decide ((i : Int) < (l.length : Int)) = true := ltNat hlt
    have v2 := succI (i := i) (by omega)
    have m1 : Nat.blt i l.length = true := bltT hlt
    have m2 : Nat.blt 0 2 = true := rfl
    have a0 : asNat (.c (.int .i64 0)) = some 0 := rfl
    have qB := r.qB
    have hy' : Recs 2 h' y l.length (flat l) := hy.extB he fun k hk hn => by have := yb k hk; simp at hn; omega
    obtain ⟨b, o', c, rfl, hbn, rx⟩ := hy'.sl (by omega)
    have k1 : ∀ {H : Heap}, Ext h' H → H.read b (o' + i * 2) 1 = some [.int .i64 l[i].1] := fun {H} e => by
      have := rx i 0 hlt (by omega)
      rw [Nat.add_zero, Nat.add_zero, (flat_at l hlt).1] at this
      rw [e.read hbn]; exact this
    have ks : ∀ {H : Heap}, Ext h' H → H.read q 2 1 = some [y3] := fun {H} e => (r'.ext (S := []) (e.b _) (by simp) (by simp)).c2
    have es : Ext h' (h'.skip 2) := (Ext.refl _).skip 2
    have e0 : Ext h' ((h'.skip 2).put h'.next (.cells [])) := ((Ext.refl _).skip 2).put (Nat.le_refl _) _
    have hB' := he.1
    have kl : (keys (l.take i)).length ≤ i := by simp [keys]; omega
    obtain ⟨z1, h1, d1, d2, d3, d4, d5⟩ := app_ints2 (h0 := h') (h := (h'.skip 2).put h'.next (.cells [])) (x := .sl h'.next 0 0 (.ex 0)) (vs := []) (.inr ⟨h'.next, .ex 0, rfl, .inr rfl, get_put_at, Nat.le_refl _, by show h'.next < h'.next + 2; omega⟩) (by show h'.next ≤ h'.next + 2; omega) (r'.r3.ext e0) (by simp; omega)
    rw [List.nil_append] at d2
    have nn : ((h'.skip 2).put h'.next (.cells [])).next = h'.next + 2 := rfl
    rw [nn] at d3 d5
    have x1' : Ext h' h1 := ⟨by omega, fun j hj => by rw [d4 j hj]; exact e0.2 j hj⟩
    have zb : ∀ j, blk z1 = some j → j ≠ h'.next + 1 := fun j hj => by
      rcases d5 with rfl | ⟨n, c, rfl⟩ <;> simp [blk] at hj <;> omega
    have x2' : Ext h' (h1.put (h'.next + 1) (.cells [icell l[i].1])) := x1'.put (by omega) _
    have d2' : Sole h' (h1.put (h'.next + 1) (.cells [icell l[i].1])) z1 (op ++ keys (l.take i)) := by
      rcases d2 with h2 | ⟨i', c', rfl, h3, h4, h5, h6⟩
      · exact .inl h2
      · exact .inr ⟨i', c', rfl, h3, by rw [get_put_ne (zb i' rfl)]; exact h4, h5, h6⟩
    obtain ⟨z, h3, f1, f2, f3, f4⟩ := app_ints (h0 := h') (h := h1.put (h'.next + 1) (.cells [icell l[i].1])) (x := z1) (y := .sl (h'.next + 1) 0 1 (.ex 1)) (ws := [l[i].1]) d2' (by rw [next_put]; omega)
      (ints_cells (h := h1.put (h'.next + 1) (.cells [icell l[i].1])) (i := h'.next + 1) (xs := [l[i].1]) (c := .ex 1) (by rw [next_put]; omega) get_put_at) (by simp; omega)
    rw [next_put] at f3
    have x3' : Ext h' h3 := ⟨by omega, fun j hj => by rw [f4 j hj]; exact x2'.2 j hj⟩
    have ek : op ++ keys (l.take (i + 1)) = op ++ keys (l.take i) ++ [l[i].1] := by unfold keys; rw [List.take_succ_eq_append_getElem hlt, List.map_append, List.append_assoc]; rfl
    rw [← ek] at f2
    obtain ⟨W, r3, x3''⟩ := r'.put3 x3' f2.ints (fun k hk => by have := f2.young k hk; omega) f2.shape
    simp only [icell] at f1
    simp only [enter_eq, ev_seq, seqK_norm, seqK_exit, seqK_ret, ev_reg, ev_cond, condK_true, condK_false, ev_block, blockK_norm, blockK_ret, blockK_exit, ev_loop, ev_skip, ev_exit, ev_ret, regK_cons, regK_nil, guard_none, guard_some, regG_true, regG_false, regO_some, op_mov, op_conv, op_bin, op_bsl, op_box, op_mks, op_s2b, op_pick, op_un, op_eq, op_len, op_ext, op_load, op_iaddr, op_slice, op_b2s, op_idxS, op_mx, op_mn, op_call, op_store, op_app, op_copy, args_eq, result_one', rv_loc, finish_norm, finish_ret, outK_some, keep_true, keep_false, keep_nil, p_bin, p_pick, p_un, p_eq, p_conv, evNew, pureK_some, newK_some, X.eval, set_none, set_some, List.map_cons, List.map_nil, List.getD_cons_zero, List.getD_cons_succ, List.getD_nil, List.set_cons_zero, List.set_cons_succ, binCV, unCV, isShift, intArithF_eq, shiftF_eq, wrapF_eq, intArith, shift, eqVal, bound, asNat_cast, cond_true, cond_false, BEq.rfl, beq_self_eq_true, evalParts, fillParts, AV.cells, AV.ofCells, XV.av, AV.xv, List.length_cons, List.length_nil, zeros, patch, setMany, List.nil_append, List.cons_append, Nat.ble, Nat.add_eq, Nat.zero_add, Nat.add_zero, Nat.reduceAdd, Nat.reduceMul, Nat.reduceSub, Nat.ble_eq, Nat.reduceLeDiff, Nat.reduceBEq, Int.reduceBEq, Int.reduceNeg, Bool.and_true, Bool.and_false, Bool.true_and, Bool.false_and, Bool.not_true, Bool.not_false, Bool.true_eq_false, Bool.false_eq_true, Int.reduceLT, Int.reduceLE, Int.reduceGT, Int.reduceGE, decide_true, decide_false, Bool.not_eq_true, loopN_norm, loopN_exit, tf, ft, ff, ev_dreg, dregK_nil, dregK_cons, dregE_true, dregP_some, dregX_some, d_mov, d_bin, d_eq, d_pick, d_un, d_conv, d_b2s, d_len, d_load, d_iaddr, d_slice, d_ext, d_call, d_store, chk_done, chk_none, chk_some, chkG_true, chkG_false, chkOne_nil, chkOne_cons, chkH_some, chkV_same, stage_none, stage_some, look_hit, look_miss, news_nil, wb_cons, wb_nil, skip0, List.reverse_cons, List.reverse_nil, v1, v2, d_bsl, d_nilchk, p_nilchk, d_faddr, p_faddr, d_app, dregW_some, p_load, AV.ofCells, ks e0, ks x1', ks es, k1 es, d1, p_iaddr, d_iaddrA, p_iaddrA, m1, m2, a0, k1 x1', f1, evEff, W]
    exact ⟨_, _, rfl, _, r3, he.trans x3'', rfl⟩
  · right
    have hin : i = l.length := by omega
    subst hin
    have v1 : decide ((l.length : Int) < (l.length : Int)) = false := geNat (Nat.le_refl _)
    rw [List.take_length] at r'
    simp only [enter_eq, ev_seq, seqK_norm, seqK_exit, seqK_ret, ev_reg, ev_cond, condK_true, condK_false, ev_block, blockK_norm, blockK_ret, blockK_exit, ev_loop, ev_skip, ev_exit, ev_ret, regK_cons, regK_nil, guard_none, guard_some, regG_true, regG_false, regO_some, op_mov, op_conv, op_bin, op_bsl, op_box, op_mks, op_s2b, op_pick, op_un, op_eq, op_len, op_ext, op_load, op_iaddr, op_slice, op_b2s, op_idxS, op_mx, op_mn, op_call, op_store, op_app, op_copy, args_eq, result_one', rv_loc, finish_norm, finish_ret, outK_some, keep_true, keep_false, keep_nil, p_bin, p_pick, p_un, p_eq, p_conv, evNew, pureK_some, newK_some, X.eval, set_none, set_some, List.map_cons, List.map_nil, List.getD_cons_zero, List.getD_cons_succ, List.getD_nil, List.set_cons_zero, List.set_cons_succ, binCV, unCV, isShift, intArithF_eq, shiftF_eq, wrapF_eq, intArith, shift, eqVal, bound, asNat_cast, cond_true, cond_false, BEq.rfl, beq_self_eq_true, evalParts, fillParts, AV.cells, AV.ofCells, XV.av, AV.xv, List.length_cons, List.length_nil, zeros, patch, setMany, List.nil_append, List.cons_append, Nat.ble, Nat.add_eq, Nat.zero_add, Nat.add_zero, Nat.reduceAdd, Nat.reduceMul, Nat.reduceSub, Nat.ble_eq, Nat.reduceLeDiff, Nat.reduceBEq, Int.reduceBEq, Int.reduceNeg, Bool.and_true, Bool.and_false, Bool.true_and, Bool.false_and, Bool.not_true, Bool.not_false, Bool.true_eq_false, Bool.false_eq_true, Int.reduceLT, Int.reduceLE, Int.reduceGT, Int.reduceGE, decide_true, decide_false, Bool.not_eq_true, loopN_norm, loopN_exit, tf, ft, ff, v1]
    exact ⟨_, rfl, by simp, y3, h', _, _, _, _, _, rfl, r', he⟩
theorem rtake_ok (r : RB h q B ws an op x1 x2 x3) (hB : B ≤ h.next) (n : Int) (hw : ws.length ≤ 8) (hN : 12 ≤ N) (hl : op.length ≤ 900) :
    ∃ y y1 y3 h', evCallT table 13 N (d + 1) 18 [.c (.ptr q 0), .c (.int .i64 n)] h = some (.c y, h') ∧ Recs 2 h' y (ws.take n.toNat).length (flat (ws.take n.toNat)) ∧ (∀ k, blk y = some k → B ≤ k) ∧ RB h' q B (ws.drop n.toNat) an (op ++ keys (ws.take n.toNat)) y1 x2 y3 ∧ ExtB [q] h h' := by
  obtain ⟨m, hm⟩ : ∃ m : Nat, m = min n.toNat ws.length := ⟨_, rfl⟩
  have ht : ws.take n.toNat = ws.take m := by rw [hm, List.take_eq_take_iff]; omega
  have hd : ws.drop n.toNat = ws.drop m := by
    by_cases hl : n.toNat ≤ ws.length
    · rw [hm, Nat.min_eq_left hl]
    · rw [List.drop_of_length_le (by omega), List.drop_of_length_le (by omega)]
  have hml : m ≤ ws.length := by omega
  have lm : (ws.take m).length = m := by rw [List.length_take]; omega
  have lx : ∀ (loc vals : List AV) (h : Heap), evPure loc (.c x1 :: vals) h (.len .sl (.val 0)) = some (.c (.int .i64 (ws.length : Int))) := fun _ _ _ => r.r1.len rfl
  have mnE : (if (ws.length : Int) < n then (ws.length : Int) else n) = min n ws.length := by split <;> omega
  have mxE : (if min n (ws.length : Int) > 0 then min n (ws.length : Int) else 0) = (m : Int) := by split <;> omega
  rw [ht, hd]
  rw [evCallT_eq (F := ir18) rfl rfl rfl]
  unfold ir18
  rw [bodyK_eq]
  have qB := r.qB
  rcases r.r1.2 with ⟨rfl, h0⟩ | ⟨i, o, c, rfl, hi, _⟩
  · have hws : ws = [] := List.eq_nil_of_length_eq_zero h0
    have hm0 : m = 0 := by omega
    subst hws
    subst hm0
    have e : Ext h h := Ext.refl h
    obtain ⟨W, r', x'⟩ := r.put1 (x := .nils) (ws' := []) e ⟨rfl, .inl ⟨rfl, rfl⟩⟩ (fun k hk => by cases hk) (fun i o n c hc => by cases hc)
    obtain ⟨rr, hr, y3, h', a0, a1, a2, a3, ll, rfl, r3, xx⟩ := rtake_loop (N := N) (d := d) r' (Nat.le_trans hB x'.1) (l := []) (y := .nils) ⟨rfl, .inl ⟨rfl, rfl⟩⟩ (fun k hk => by cases hk) (by simp; omega) (by simp; omega) [.c (.ptr q 0), .c (.int .i64 n), .c .nils, .c (.int .i64 0), .c .nils, .c (.int .i64 0), .tup []] rfl
    have z0 : ((0 : Nat) : Int) = 0 := rfl
    have a0 : asNat (.c (.int .i64 0)) = some 0 := rfl
    simp only [List.length_nil, z0] at mnE mxE
    simp only [enter_eq, ev_seq, seqK_norm, seqK_exit, seqK_ret, ev_reg, ev_cond, condK_true, condK_false, ev_block, blockK_norm, blockK_ret, blockK_exit, ev_loop, ev_skip, ev_exit, ev_ret, regK_cons, regK_nil, guard_none, guard_some, regG_true, regG_false, regO_some, op_mov, op_conv, op_bin, op_bsl, op_box, op_mks, op_s2b, op_pick, op_un, op_eq, op_len, op_ext, op_load, op_iaddr, op_slice, op_b2s, op_idxS, op_mx, op_mn, op_call, op_store, op_app, op_copy, args_eq, result_one', rv_loc, finish_norm, finish_ret, outK_some, keep_true, keep_false, keep_nil, evPure, evNew, pureK_some, newK_some, X.eval, set_none, set_some, List.map_cons, List.map_nil, List.getD_cons_zero, List.getD_cons_succ, List.getD_nil, List.set_cons_zero, List.set_cons_succ, binCV, unCV, isShift, intArithF_eq, shiftF_eq, wrapF_eq, intArith, shift, eqVal, bound, asNat_cast, cond_true, cond_false, BEq.rfl, beq_self_eq_true, evalParts, fillParts, AV.cells, AV.ofCells, XV.av, AV.xv, List.length_cons, List.length_nil, zeros, patch, setMany, List.nil_append, List.cons_append, Nat.ble, Nat.add_eq, Nat.zero_add, Nat.add_zero, Nat.reduceAdd, Nat.reduceMul, Nat.reduceSub, Nat.ble_eq, Nat.reduceLeDiff, Nat.reduceBEq, Int.reduceBEq, Int.reduceNeg, Bool.and_true, Bool.and_false, Bool.true_and, Bool.false_and, Bool.not_true, Bool.not_false, Bool.true_eq_false, Bool.false_eq_true, Int.reduceLT, Int.reduceLE, Int.reduceGT, Int.reduceGE, decide_true, decide_false, Bool.not_eq_true, loopN_norm, loopN_exit, tf, ft, ff, op_nilchk, op_faddr, r.c0, lx, foldInt, mnE, mxE, a0, evEff, W, hr, blockK_exit_eq]
    exact ⟨.nils, _, _, _, rfl, ⟨rfl, .inl ⟨rfl, rfl⟩⟩, (fun k hk => by cases hk), r3, x'.trans xx⟩
  · have b1 := r.b1 i rfl
    have b2 : Nat.ble m ws.length = true := Nat.ble_eq_true_of_le hml
    have b3 : Nat.ble ws.length ws.length = true := Nat.ble_eq_true_of_le (Nat.le_refl _)
    have b4 : Nat.ble m m = true := Nat.ble_eq_true_of_le (Nat.le_refl _)
    have p1 : ∀ c', Recs 2 h (.sl i o m c') (ws.take m).length (flat (ws.take m)) := fun c' => by
      have := r.r1.part 0 m (by omega) c'
      rw [Nat.zero_mul, List.drop_zero, Nat.add_zero, flat_take] at this
      rw [lm]; exact this
    have p2 : ∀ c', Recs 2 h (.sl i (o + m * 2) (ws.length - m) c') (ws.drop m).length (flat (ws.drop m)) := fun c' => by
      have := r.r1.part m (ws.length - m) (by omega) c'
      rw [List.take_of_length_le (by rw [List.length_drop, flat_len]; omega), flat_drop] at this
      rw [List.length_drop]; exact this
    have key : ∀ c', c' = .dy 2 ∨ c' = .ex (ws.length - m) → h.write q 0 [.sl i (o + m * 2) (ws.length - m) c'] = some (h.put q (.cells [.sl i (o + m * 2) (ws.length - m) c', x2, x3])) ∧
        ∃ rr, loopK (evCallT table 13 N d) N ir18_k0 ir18_l0 N [.c (.ptr q 0), .c (.int .i64 n), .c .nils, .c (.int .i64 (m : Int)), .c (.sl i o m (.ex m)), .c (.int .i64 0), .tup []] (h.put q (.cells [.sl i (o + m * 2) (ws.length - m) c', x2, x3])) = some rr ∧
          ∃ y3 h' a0 a1 a2 a3 ll, rr = (.exit 0, a0 :: a1 :: a2 :: a3 :: .c (.sl i o m (.ex m)) :: ll, h') ∧ RB h' q B (ws.drop m) an (op ++ keys (ws.take m)) (.sl i (o + m * 2) (ws.length - m) c') x2 y3 ∧ ExtB [q] h h' := fun c' hc' => by
      obtain ⟨W, r', x'⟩ := r.put1 (Ext.refl h) (p2 c') (fun k hk => by simp [blk] at hk; omega) (fun i' o' n' c'' e => by cases e; exact hc')
      obtain ⟨rr, hr, y3, h', a0, a1, a2, a3, ll, e, r3, xx⟩ := rtake_loop (N := N) (d := d) r' (Nat.le_trans hB x'.1) (l := ws.take m) (y := .sl i o m (.ex m)) ((p1 _).extB x' (fun k hk => by simp [blk] at hk; simp; omega)) (fun k hk => by simp [blk] at hk; omega) (by rw [lm]; omega) (by rw [lm]; omega) [.c (.ptr q 0), .c (.int .i64 n), .c .nils, .c (.int .i64 (m : Int)), .c (.sl i o m (.ex m)), .c (.int .i64 0), .tup []] (by rw [lm]; rfl)
      exact ⟨W, rr, hr, y3, h', a0, a1, a2, a3, ll, e, r3, x'.trans xx⟩
    rcases r.s1 i o _ c rfl with rfl | rfl
    · obtain ⟨W, rr, hr, y3, h', a0, a1, a2, a3, ll, rfl, r3, xx⟩ := key (.dy 2) (.inl rfl)
      simp only [enter_eq, ev_seq, seqK_norm, seqK_exit, seqK_ret, ev_reg, ev_cond, condK_true, condK_false, ev_block, blockK_norm, blockK_ret, blockK_exit, ev_loop, ev_skip, ev_exit, ev_ret, regK_cons, regK_nil, guard_none, guard_some, regG_true, regG_false, regO_some, op_mov, op_conv, op_bin, op_bsl, op_box, op_mks, op_s2b, op_pick, op_un, op_eq, op_len, op_ext, op_load, op_iaddr, op_slice, op_b2s, op_idxS, op_mx, op_mn, op_call, op_store, op_app, op_copy, args_eq, result_one', rv_loc, finish_norm, finish_ret, outK_some, keep_true, keep_false, keep_nil, evPure, evNew, pureK_some, newK_some, X.eval, set_none, set_some, List.map_cons, List.map_nil, List.getD_cons_zero, List.getD_cons_succ, List.getD_nil, List.set_cons_zero, List.set_cons_succ, binCV, unCV, isShift, intArithF_eq, shiftF_eq, wrapF_eq, intArith, shift, eqVal, bound, asNat_cast, cond_true, cond_false, BEq.rfl, beq_self_eq_true, evalParts, fillParts, AV.cells, AV.ofCells, XV.av, AV.xv, List.length_cons, List.length_nil, zeros, patch, setMany, List.nil_append, List.cons_append, Nat.ble, Nat.add_eq, Nat.zero_add, Nat.add_zero, Nat.reduceAdd, Nat.reduceMul, Nat.reduceSub, Nat.ble_eq, Nat.reduceLeDiff, Nat.reduceBEq, Int.reduceBEq, Int.reduceNeg, Bool.and_true, Bool.and_false, Bool.true_and, Bool.false_and, Bool.not_true, Bool.not_false, Bool.true_eq_false, Bool.false_eq_true, Int.reduceLT, Int.reduceLE, Int.reduceGT, Int.reduceGE, decide_true, decide_false, Bool.not_eq_true, loopN_norm, loopN_exit, tf, ft, ff, op_nilchk, op_faddr, r.c0, lx, foldInt, Int.ofNat_eq_natCast, mnE, mxE, b2, b3, b4, Nat.zero_mul, Nat.sub_zero, evEff, W, hr, blockK_exit_eq]
      exact ⟨_, _, _, _, rfl, (p1 _).extB xx (fun k hk => by simp [blk] at hk; simp; omega), fun k hk => by simp [blk] at hk; omega, r3, xx⟩
    · obtain ⟨W, rr, hr, y3, h', a0, a1, a2, a3, ll, rfl, r3, xx⟩ := key (.ex (ws.length - m)) (.inr rfl)
      simp only [enter_eq, ev_seq, seqK_norm, seqK_exit, seqK_ret, ev_reg, ev_cond, condK_true, condK_false, ev_block, blockK_norm, blockK_ret, blockK_exit, ev_loop, ev_skip, ev_exit, ev_ret, regK_cons, regK_nil, guard_none, guard_some, regG_true, regG_false, regO_some, op_mov, op_conv, op_bin, op_bsl, op_box, op_mks, op_s2b, op_pick, op_un, op_eq, op_len, op_ext, op_load, op_iaddr, op_slice, op_b2s, op_idxS, op_mx, op_mn, op_call, op_store, op_app, op_copy, args_eq, result_one', rv_loc, finish_norm, finish_ret, outK_some, keep_true, keep_false, keep_nil, evPure, evNew, pureK_some, newK_some, X.eval, set_none, set_some, List.map_cons, List.map_nil, List.getD_cons_zero, List.getD_cons_succ, List.getD_nil, List.set_cons_zero, List.set_cons_succ, binCV, unCV, isShift, intArithF_eq, shiftF_eq, wrapF_eq, intArith, shift, eqVal, bound, asNat_cast, cond_true, cond_false, BEq.rfl, beq_self_eq_true, evalParts, fillParts, AV.cells, AV.ofCells, XV.av, AV.xv, List.length_cons, List.length_nil, zeros, patch, setMany, List.nil_append, List.cons_append, Nat.ble, Nat.add_eq, Nat.zero_add, Nat.add_zero, Nat.reduceAdd, Nat.reduceMul, Nat.reduceSub, Nat.ble_eq, Nat.reduceLeDiff, Nat.reduceBEq, Int.reduceBEq, Int.reduceNeg, Bool.and_true, Bool.and_false, Bool.true_and, Bool.false_and, Bool.not_true, Bool.not_false, Bool.true_eq_false, Bool.false_eq_true, Int.reduceLT, Int.reduceLE, Int.reduceGT, Int.reduceGE, decide_true, decide_false, Bool.not_eq_true, loopN_norm, loopN_exit, tf, ft, ff, op_nilchk, op_faddr, r.c0, lx, foldInt, Int.ofNat_eq_natCast, mnE, mxE, b2, b3, b4, Nat.zero_mul, Nat.sub_zero, evEff, W, hr, blockK_exit_eq]
      exact ⟨_, _, _, _, rfl, (p1 _).extB xx (fun k hk => by simp [blk] at hk; simp; omega), fun k hk => by simp [blk] at hk; omega, r3, xx⟩
end
end Lav
