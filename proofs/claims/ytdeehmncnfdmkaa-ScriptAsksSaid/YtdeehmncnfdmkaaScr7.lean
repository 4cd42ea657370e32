/-
  Layer 15: two steps that are the same.
-/
import Derived.Test.YtdeehmncnfdmkaaScr6
set_option maxRecDepth 100000
set_option linter.unusedSimpArgs false
namespace Lav
open Go (IntKind)

section
variable {N d : Nat} {h : Heap}

theorem sameop_ok {o : Clp} {x y : CV} (tx : Txt h x o.data) (ty : Txt h y o.data) : ∃ h', evCallX table 21 37 N (d + 1) 25 [.agg (clC o x), .agg (clC o y)] h = some (.c (.bool true), h') ∧ Ext h h' := by
  obtain ⟨H, hH⟩ : ∃ H, H = (h.new (.cells (clC o x))).new (.cells (clC o y)) := ⟨_, rfl⟩
  have x1 : Ext h H := by rw [hH]; exact ((Ext.refl _).new _).new _
  have g1 : H.get h.next = some (.cells (clC o x)) := by rw [hH, get_new_old (Nat.lt_succ_self _)]; exact get_new_at
  have g2 : H.get (h.next + 1) = some (.cells (clC o y)) := by rw [hH]; exact get_new_at
  have a0 : H.read h.next 0 1 = some [.int .i64 o.kind] := read_cells g1 rfl
  have a1 : H.read h.next 1 1 = some [.int .i64 o.page] := read_cells g1 rfl
  have a2 : H.read h.next 2 1 = some [.int .i64 o.handle] := read_cells g1 rfl
  have a3 : H.read h.next 3 1 = some [.int .i64 o.off] := read_cells g1 rfl
  have a4 : H.read h.next 4 1 = some [.int .i64 o.n] := read_cells g1 rfl
  have a5 : H.read h.next 5 1 = some [x] := read_cells g1 rfl
  have b0 : H.read (h.next + 1) 0 1 = some [.int .i64 o.kind] := read_cells g2 rfl
  have b1 : H.read (h.next + 1) 1 1 = some [.int .i64 o.page] := read_cells g2 rfl
  have b2 : H.read (h.next + 1) 2 1 = some [.int .i64 o.handle] := read_cells g2 rfl
  have b3 : H.read (h.next + 1) 3 1 = some [.int .i64 o.off] := read_cells g2 rfl
  have b4 : H.read (h.next + 1) 4 1 = some [.int .i64 o.n] := read_cells g2 rfl
  have b5 : H.read (h.next + 1) 5 1 = some [y] := read_cells g2 rfl
  have s1 : ∀ loc vals, evPure loc (.c x :: vals) H (.b2s (.val 0)) = some (.c (.str o.data)) := fun _ _ => tx.text x1 rfl
  have s2 : ∀ loc vals, evPure loc (.c y :: vals) H (.b2s (.val 0)) = some (.c (.str o.data)) := fun _ _ => ty.text x1 rfl
  have c1 : AV.cells (.agg (clC o x)) = some (clC o x) := rfl
  have c2 : AV.cells (.agg (clC o y)) = some (clC o y) := rfl
  rw [evCallX_eq (F := ir25) rfl rfl rfl rfl]
  unfold ir25
  rw [bodyK_eq]
  simp only [enter_eq, ev_seq, seqK_norm, seqK_exit, seqK_ret, ev_reg, ev_cond, condK_true, condK_false, ev_block, blockK_norm, blockK_ret, blockK_exit, ev_loop, ev_skip, ev_exit, ev_ret, regK_cons, regK_nil, guard_none, guard_some, regG_true, regG_false, regO_some, op_mov, op_conv, op_bin, op_bsl, op_box, op_mks, op_s2b, op_pick, op_un, op_eq, op_len, op_ext, op_load, op_iaddr, op_slice, op_b2s, op_idxS, op_mx, op_mn, op_call, op_store, op_app, op_copy, args_eq, result_one', rv_loc, finish_norm, finish_ret, outK_some, keep_true, keep_false, keep_nil, p_bin, p_pick, p_un, p_eq, p_conv, evNew, pureK_some, newK_some, X.eval, set_none, set_some, List.map_cons, List.map_nil, List.getD_cons_zero, List.getD_cons_succ, List.getD_nil, List.set_cons_zero, List.set_cons_succ, binCV, unCV, isShift, intArithF_eq, shiftF_eq, wrapF_eq, intArith, shift, eqVal, bound, asNat_cast, cond_true, cond_false, BEq.rfl, beq_self_eq_true, evalParts, fillParts, AV.cells, AV.ofCells, XV.av, AV.xv, List.length_cons, List.length_nil, zeros, patch, setMany, List.nil_append, List.cons_append, Nat.ble, Nat.add_eq, Nat.zero_add, Nat.add_zero, Nat.reduceAdd, Nat.reduceMul, Nat.reduceSub, Nat.ble_eq, Nat.reduceLeDiff, Nat.reduceBEq, Int.reduceBEq, Int.reduceNeg, Bool.and_true, Bool.and_false, Bool.true_and, Bool.false_and, Bool.not_true, Bool.not_false, Bool.true_eq_false, Bool.false_eq_true, Int.reduceLT, Int.reduceLE, Int.reduceGT, Int.reduceGE, decide_true, decide_false, Bool.not_eq_true, loopN_norm, loopN_exit, tf, ft, ff, c1, c2, next_new, ← hH, op_faddr, p_faddr, p_load, AV.ofCells, a0, a1, a2, a3, a4, a5, b0, b1, b2, b3, b4, b5, s1, s2]
  exact ⟨_, rfl, x1⟩

theorem same_ok {s : Stp} {x y x' y' : CV} (tx : Txt h x s.op.data) (ty : Txt h y s.bits) (tx' : Txt h x' s.op.data) (ty' : Txt h y' s.bits) : ∃ h', evCallX table 21 37 N (d + 2) 24 [.agg (stC s x y), .agg (stC s x' y')] h = some (.c (.bool true), h') ∧ Ext h h' := by
  obtain ⟨H, hH⟩ : ∃ H, H = (h.new (.cells (stC s x y))).new (.cells (stC s x' y')) := ⟨_, rfl⟩
  have x1 : Ext h H := by rw [hH]; exact ((Ext.refl _).new _).new _
  have n1 : H.next = h.next + 2 := by rw [hH]; rfl
  have g1 : H.get h.next = some (.cells (stC s x y)) := by rw [hH, get_new_old (Nat.lt_succ_self _)]; exact get_new_at
  have g2 : H.get (h.next + 1) = some (.cells (stC s x' y')) := by rw [hH]; exact get_new_at
  obtain ⟨H2, e1, x2⟩ := sameop_ok (N := N) (d := d) (h := H) (o := s.op) (tx.ext x1) (tx'.ext x1)
  have a0 : H.read h.next 0 1 = some [.int .i64 s.kind] := read_cells g1 rfl
  have a1 : H.read h.next 1 1 = some [.int .i64 s.client] := read_cells g1 rfl
  have a2 : H.read h.next 2 1 = some [.int .i64 s.n] := read_cells g1 rfl
  have a3 : H.read h.next 3 1 = some [.int .i64 s.to] := read_cells g1 rfl
  have a4 : H.read h.next 4 6 = some (clC s.op x) := (read_part g1 (by simp)).trans rfl
  have a5 : H2.read h.next 10 1 = some [y] := read_cells (x2.at_ g1 (by omega)) rfl
  have b0 : H.read (h.next + 1) 0 1 = some [.int .i64 s.kind] := read_cells g2 rfl
  have b1 : H.read (h.next + 1) 1 1 = some [.int .i64 s.client] := read_cells g2 rfl
  have b2 : H.read (h.next + 1) 2 1 = some [.int .i64 s.n] := read_cells g2 rfl
  have b3 : H.read (h.next + 1) 3 1 = some [.int .i64 s.to] := read_cells g2 rfl
  have b4 : H.read (h.next + 1) 4 6 = some (clC s.op x') := (read_part g2 (by simp)).trans rfl
  have b5 : H2.read (h.next + 1) 10 1 = some [y'] := read_cells (x2.at_ g2 (by omega)) rfl
  have s1 : ∀ loc vals, evPure loc (.c y :: vals) H2 (.b2s (.val 0)) = some (.c (.str s.bits)) := fun _ _ => ty.text (x1.trans x2) rfl
  have s2 : ∀ loc vals, evPure loc (.c y' :: vals) H2 (.b2s (.val 0)) = some (.c (.str s.bits)) := fun _ _ => ty'.text (x1.trans x2) rfl
  have c1 : AV.cells (.agg (stC s x y)) = some (stC s x y) := rfl
  have c2 : AV.cells (.agg (stC s x' y')) = some (stC s x' y') := rfl
  rw [evCallX_eq (F := ir24) rfl rfl rfl rfl]
  unfold ir24
  rw [bodyK_eq]
  simp only [enter_eq, ev_seq, seqK_norm, seqK_exit, seqK_ret, ev_reg, ev_cond, condK_true, condK_false, ev_block, blockK_norm, blockK_ret, blockK_exit, ev_loop, ev_skip, ev_exit, ev_ret, regK_cons, regK_nil, guard_none, guard_some, regG_true, regG_false, regO_some, op_mov, op_conv, op_bin, op_bsl, op_box, op_mks, op_s2b, op_pick, op_un, op_eq, op_len, op_ext, op_load, op_iaddr, op_slice, op_b2s, op_idxS, op_mx, op_mn, op_call, op_store, op_app, op_copy, args_eq, result_one', rv_loc, finish_norm, finish_ret, outK_some, keep_true, keep_false, keep_nil, p_bin, p_pick, p_un, p_eq, p_conv, evNew, pureK_some, newK_some, X.eval, set_none, set_some, List.map_cons, List.map_nil, List.getD_cons_zero, List.getD_cons_succ, List.getD_nil, List.set_cons_zero, List.set_cons_succ, binCV, unCV, isShift, intArithF_eq, shiftF_eq, wrapF_eq, intArith, shift, eqVal, bound, asNat_cast, cond_true, cond_false, BEq.rfl, beq_self_eq_true, evalParts, fillParts, AV.cells, AV.ofCells, XV.av, AV.xv, List.length_cons, List.length_nil, zeros, patch, setMany, List.nil_append, List.cons_append, Nat.ble, Nat.add_eq, Nat.zero_add, Nat.add_zero, Nat.reduceAdd, Nat.reduceMul, Nat.reduceSub, Nat.ble_eq, Nat.reduceLeDiff, Nat.reduceBEq, Int.reduceBEq, Int.reduceNeg, Bool.and_true, Bool.and_false, Bool.true_and, Bool.false_and, Bool.not_true, Bool.not_false, Bool.true_eq_false, Bool.false_eq_true, Int.reduceLT, Int.reduceLE, Int.reduceGT, Int.reduceGE, decide_true, decide_false, Bool.not_eq_true, loopN_norm, loopN_exit, tf, ft, ff, c1, c2, next_new, ← hH, op_faddr, p_faddr, p_load, AV.ofCells, a0, a1, a2, a3, a4, a5, b0, b1, b2, b3, b4, b5, e1, s1, s2]
  exact ⟨_, rfl, x1.trans x2⟩
end
end Lav
