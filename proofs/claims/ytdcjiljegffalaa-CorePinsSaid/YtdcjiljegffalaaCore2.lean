/-
  Layer 11: frames that are hit, let, looked for.
-/
import Derived.Test.YtdcjiljegffalaaCore1
set_option maxRecDepth 100000
set_option linter.unusedSimpArgs false
namespace Lav
open Go (IntKind)

/-- Frames that are alike but for their pins. -/
def Alike (fs fs' : List Fm) : Prop := fs'.length = fs.length ∧ ∀ (i : Nat) (g : Fm), fs'[i]? = some g → ∃ g0, fs[i]? = some g0 ∧ g.st = g0.st ∧ g.pg = g0.pg ∧ g.dt = g0.dt
theorem Alike.refl (fs : List Fm) : Alike fs fs := ⟨rfl, fun _ g hg => ⟨g, hg, rfl, rfl, rfl⟩⟩
theorem Alike.set {fs : List Fm} {i : Nat} (hi : i < fs.length) {n : Int} : Alike fs (fs.set i ⟨fs[i].st, fs[i].pg, n, fs[i].dt, fs[i].y⟩) := by
  refine ⟨by simp, fun j g hg => ?_⟩
  rcases (set_at hi).1 hg with ⟨rfl, rfl⟩ | ⟨_, h⟩
  · exact ⟨fs[j], List.getElem?_eq_getElem hi, rfl, rfl, rfl⟩
  · exact ⟨g, h, rfl, rfl, rfl⟩
theorem pinF_alike (fs : List Fm) (f : Int) : Alike fs (pinF fs f).2 := by
  unfold pinF
  cases e : usedF fs f with
  | none => exact Alike.refl fs
  | some x =>
    obtain ⟨i, g⟩ := x
    obtain ⟨rfl, hi, rfl, h1⟩ := usedF_some e
    simp only
    split
    · exact Alike.refl fs
    · exact Alike.set hi
theorem unpinF_alike (fs : List Fm) (f : Int) : Alike fs (unpinF fs f).2 := by
  unfold unpinF
  cases e : usedF fs f with
  | none => exact Alike.refl fs
  | some x =>
    obtain ⟨i, g⟩ := x
    obtain ⟨rfl, hi, rfl, h1⟩ := usedF_some e
    simp only
    split
    · exact Alike.refl fs
    · exact Alike.set hi
theorem usedF_eq {fs : List Fm} {i : Nat} (hi : i < fs.length) (h1 : fs[i].st = 1) : usedF fs (i : Int) = some (i, fs[i]) := by
  unfold usedF
  rw [if_neg (by omega), Int.toNat_natCast, List.getElem?_eq_getElem hi]
  simp only [if_pos h1]
theorem findF_some {fs : List Fm} {k : Int} (h : 0 ≤ findF fs k) : ∃ (i : Nat) (hi : i < fs.length), findF fs k = (i : Int) ∧ fs[i].st = 1 ∧ fs[i].pg = k := by
  unfold findF at h ⊢
  cases hf : fs.findIdx? (fun f => f.st == 1 && f.pg == k) with
  | none => rw [hf] at h; simp at h
  | some i =>
    obtain ⟨hi, hp, _⟩ := List.findIdx?_eq_some_iff_getElem.1 hf
    rw [Bool.and_eq_true] at hp
    exact ⟨i, hi, rfl, eq_of_beq hp.1, eq_of_beq hp.2⟩

section
variable {N d : Nat} {h : Heap} {k : Nat} {z : CP} {fs : List Fm} {o : List Int} {M : Nat → Option Int} {od ts : List Int}

theorem CH.like {h' : Heap} {fs' : List Fm} {M' : Nat → Option Int} {o' : List Int} (C : CH h k z fs o M od ts) (l : AH h' z.p z.a fs' o' M') (e : ExtB (Lav.own z.p z.a) h h') (a : Alike fs fs') : CH h' k z fs' o' M' od ts ∧ ExtB (z.own k) h h' :=
  C.arena l e (fun x hx => let ⟨i, h1, h2⟩ := C.lo x hx; ⟨i, h1, by rw [a.1]; exact h2⟩) fun i f hf hs => let ⟨g0, h1, h2, _⟩ := a.2 i f hf; C.hi i g0 h1 (by rw [← h2]; exact hs)

theorem let_ok (C : CH h k z fs o M od ts) (f : Int) : ∃ h', evCallT table 15 N (d + 3) 13 [.c (.ptr k 0), .c (.int .i64 f)] h = some (.c (.int .i64 (unpinF fs f).1), h') ∧ CH h' k z (unpinF fs f).2 o M od ts ∧ ExtB (z.own k) h h' := by
  have r0 := C.r0
  obtain ⟨h', e, A, x⟩ := C.ah.unpin (N := N) (d := d) f
  obtain ⟨C', x'⟩ := C.like A x (unpinF_alike fs f)
  rw [evCallT_eq (F := ir13) rfl rfl rfl]
  unfold ir13
  rw [bodyK_eq]
  simp only [enter_eq, ev_seq, seqK_norm, seqK_exit, seqK_ret, ev_reg, ev_cond, condK_true, condK_false, ev_block, blockK_norm, blockK_ret, blockK_exit, ev_loop, ev_skip, ev_exit, ev_ret, regK_cons, regK_nil, guard_none, guard_some, regG_true, regG_false, regO_some, op_mov, op_conv, op_bin, op_bsl, op_box, op_mks, op_s2b, op_pick, op_un, op_eq, op_len, op_ext, op_load, op_iaddr, op_slice, op_b2s, op_idxS, op_mx, op_mn, op_call, op_store, op_app, op_copy, args_eq, result_one', rv_loc, finish_norm, finish_ret, outK_some, keep_true, keep_false, keep_nil, p_bin, p_pick, p_un, p_eq, p_conv, evNew, pureK_some, newK_some, X.eval, set_none, set_some, List.map_cons, List.map_nil, List.getD_cons_zero, List.getD_cons_succ, List.getD_nil, List.set_cons_zero, List.set_cons_succ, binCV, unCV, isShift, intArithF_eq, shiftF_eq, wrapF_eq, intArith, shift, eqVal, bound, asNat_cast, cond_true, cond_false, BEq.rfl, beq_self_eq_true, evalParts, fillParts, AV.cells, AV.ofCells, XV.av, AV.xv, List.length_cons, List.length_nil, zeros, patch, setMany, List.nil_append, List.cons_append, Nat.ble, Nat.add_eq, Nat.zero_add, Nat.add_zero, Nat.reduceAdd, Nat.reduceMul, Nat.reduceSub, Nat.ble_eq, Nat.reduceLeDiff, Nat.reduceBEq, Int.reduceBEq, Int.reduceNeg, Bool.and_true, Bool.and_false, Bool.true_and, Bool.false_and, Bool.not_true, Bool.not_false, Bool.true_eq_false, Bool.false_eq_true, Int.reduceLT, Int.reduceLE, Int.reduceGT, Int.reduceGE, decide_true, decide_false, Bool.not_eq_true, loopN_norm, loopN_exit, tf, ft, ff, op_faddr, p_faddr, op_nilchk, p_nilchk, p_load, AV.ofCells, r0, e]
  exact ⟨h', rfl, C', x'⟩
theorem arena_ok (C : CH h k z fs o M od ts) : evCallT table 15 N (d + 1) 8 [.c (.ptr k 0)] h = some (.c (.ptr z.p 0), h) := by
  have r0 := C.r0
  rw [evCallT_eq (F := ir8) rfl rfl rfl]
  unfold ir8
  rw [bodyK_eq]
  simp only [enter_eq, ev_seq, seqK_norm, seqK_exit, seqK_ret, ev_reg, ev_cond, condK_true, condK_false, ev_block, blockK_norm, blockK_ret, blockK_exit, ev_loop, ev_skip, ev_exit, ev_ret, regK_cons, regK_nil, guard_none, guard_some, regG_true, regG_false, regO_some, op_mov, op_conv, op_bin, op_bsl, op_box, op_mks, op_s2b, op_pick, op_un, op_eq, op_len, op_ext, op_load, op_iaddr, op_slice, op_b2s, op_idxS, op_mx, op_mn, op_call, op_store, op_app, op_copy, args_eq, result_one', rv_loc, finish_norm, finish_ret, outK_some, keep_true, keep_false, keep_nil, p_bin, p_pick, p_un, p_eq, p_conv, evNew, pureK_some, newK_some, X.eval, set_none, set_some, List.map_cons, List.map_nil, List.getD_cons_zero, List.getD_cons_succ, List.getD_nil, List.set_cons_zero, List.set_cons_succ, binCV, unCV, isShift, intArithF_eq, shiftF_eq, wrapF_eq, intArith, shift, eqVal, bound, asNat_cast, cond_true, cond_false, BEq.rfl, beq_self_eq_true, evalParts, fillParts, AV.cells, AV.ofCells, XV.av, AV.xv, List.length_cons, List.length_nil, zeros, patch, setMany, List.nil_append, List.cons_append, Nat.ble, Nat.add_eq, Nat.zero_add, Nat.add_zero, Nat.reduceAdd, Nat.reduceMul, Nat.reduceSub, Nat.ble_eq, Nat.reduceLeDiff, Nat.reduceBEq, Int.reduceBEq, Int.reduceNeg, Bool.and_true, Bool.and_false, Bool.true_and, Bool.false_and, Bool.not_true, Bool.not_false, Bool.true_eq_false, Bool.false_eq_true, Int.reduceLT, Int.reduceLE, Int.reduceGT, Int.reduceGE, decide_true, decide_false, Bool.not_eq_true, loopN_norm, loopN_exit, tf, ft, ff, op_faddr, p_faddr, op_nilchk, p_nilchk, p_load, AV.ofCells, r0]
theorem order_ok (C : CH h k z fs o M od ts) (hN : 100 ≤ N) : ∃ y h', evCallT table 15 N (d + 6) 16 [.c (.ptr k 0)] h = some (.c y, h') ∧ CH h' k z fs o M (od.filter (usedB fs)) ts ∧ Ints h' y (od.filter (usedB fs)) ∧ ExtB (z.own k) h h' := by
  obtain ⟨h1, e1, C1, x1⟩ := tidy_ok (N := N) (d := d) C hN
  have r1 := C1.r1
  have hl := C1.len
  obtain ⟨w, h2, e2, W, x2⟩ : ∃ x h', evCallT table 15 N (d + 5) 33 [.c (.ptr z.q 0)] h1 = some (.c x, h') ∧ Made h1 h' x (od.filter (usedB fs)) ∧ Ext h1 h' := all_ok (N := N) (d := d + 2) C1.ll (by omega) (by omega)
  rw [evCallT_eq (F := ir16) rfl rfl rfl]
  unfold ir16
  rw [bodyK_eq]
  simp only [enter_eq, ev_seq, seqK_norm, seqK_exit, seqK_ret, ev_reg, ev_cond, condK_true, condK_false, ev_block, blockK_norm, blockK_ret, blockK_exit, ev_loop, ev_skip, ev_exit, ev_ret, regK_cons, regK_nil, guard_none, guard_some, regG_true, regG_false, regO_some, op_mov, op_conv, op_bin, op_bsl, op_box, op_mks, op_s2b, op_pick, op_un, op_eq, op_len, op_ext, op_load, op_iaddr, op_slice, op_b2s, op_idxS, op_mx, op_mn, op_call, op_store, op_app, op_copy, args_eq, result_one', rv_loc, finish_norm, finish_ret, outK_some, keep_true, keep_false, keep_nil, p_bin, p_pick, p_un, p_eq, p_conv, evNew, pureK_some, newK_some, X.eval, set_none, set_some, List.map_cons, List.map_nil, List.getD_cons_zero, List.getD_cons_succ, List.getD_nil, List.set_cons_zero, List.set_cons_succ, binCV, unCV, isShift, intArithF_eq, shiftF_eq, wrapF_eq, intArith, shift, eqVal, bound, asNat_cast, cond_true, cond_false, BEq.rfl, beq_self_eq_true, evalParts, fillParts, AV.cells, AV.ofCells, XV.av, AV.xv, List.length_cons, List.length_nil, zeros, patch, setMany, List.nil_append, List.cons_append, Nat.ble, Nat.add_eq, Nat.zero_add, Nat.add_zero, Nat.reduceAdd, Nat.reduceMul, Nat.reduceSub, Nat.ble_eq, Nat.reduceLeDiff, Nat.reduceBEq, Int.reduceBEq, Int.reduceNeg, Bool.and_true, Bool.and_false, Bool.true_and, Bool.false_and, Bool.not_true, Bool.not_false, Bool.true_eq_false, Bool.false_eq_true, Int.reduceLT, Int.reduceLE, Int.reduceGT, Int.reduceGE, decide_true, decide_false, Bool.not_eq_true, loopN_norm, loopN_exit, tf, ft, ff, op_faddr, p_faddr, op_nilchk, p_nilchk, p_load, AV.ofCells, e1, r1, e2]
  exact ⟨w, h2, rfl, C1.ext' x2, W.ints, x1.trans (x2.b _)⟩

theorem hit_no (C : CH h k z fs o M od ts) {g : Int} (hf : findF fs g < 0) (hN : 100 ≤ N) : ∃ h', evCallT table 15 N (d + 6) 10 [.c (.ptr k 0), .c (.int .i64 g)] h = some (.c (.int .i64 (-1)), h') ∧ CH h' k z fs o M (od.filter (usedB fs)) ts ∧ ExtB (z.own k) h h' := by
  obtain ⟨h1, e1, C1, x1⟩ := tidy_ok (N := N) (d := d) C hN
  have r0 := C1.r0
  have e2 := C1.ah.find (N := N) (d := d + 1) g hN
  have v1 : decide (findF fs g < 0) = true := decide_eq_true hf
  rw [evCallT_eq (F := ir10) rfl rfl rfl]
  unfold ir10
  rw [bodyK_eq]
  simp only [enter_eq, ev_seq, seqK_norm, seqK_exit, seqK_ret, ev_reg, ev_cond, condK_true, condK_false, ev_block, blockK_norm, blockK_ret, blockK_exit, ev_loop, ev_skip, ev_exit, ev_ret, regK_cons, regK_nil, guard_none, guard_some, regG_true, regG_false, regO_some, op_mov, op_conv, op_bin, op_bsl, op_box, op_mks, op_s2b, op_pick, op_un, op_eq, op_len, op_ext, op_load, op_iaddr, op_slice, op_b2s, op_idxS, op_mx, op_mn, op_call, op_store, op_app, op_copy, args_eq, result_one', rv_loc, finish_norm, finish_ret, outK_some, keep_true, keep_false, keep_nil, p_bin, p_pick, p_un, p_eq, p_conv, evNew, pureK_some, newK_some, X.eval, set_none, set_some, List.map_cons, List.map_nil, List.getD_cons_zero, List.getD_cons_succ, List.getD_nil, List.set_cons_zero, List.set_cons_succ, binCV, unCV, isShift, intArithF_eq, shiftF_eq, wrapF_eq, intArith, shift, eqVal, bound, asNat_cast, cond_true, cond_false, BEq.rfl, beq_self_eq_true, evalParts, fillParts, AV.cells, AV.ofCells, XV.av, AV.xv, List.length_cons, List.length_nil, zeros, patch, setMany, List.nil_append, List.cons_append, Nat.ble, Nat.add_eq, Nat.zero_add, Nat.add_zero, Nat.reduceAdd, Nat.reduceMul, Nat.reduceSub, Nat.ble_eq, Nat.reduceLeDiff, Nat.reduceBEq, Int.reduceBEq, Int.reduceNeg, Bool.and_true, Bool.and_false, Bool.true_and, Bool.false_and, Bool.not_true, Bool.not_false, Bool.true_eq_false, Bool.false_eq_true, Int.reduceLT, Int.reduceLE, Int.reduceGT, Int.reduceGE, decide_true, decide_false, Bool.not_eq_true, loopN_norm, loopN_exit, tf, ft, ff, op_faddr, p_faddr, op_nilchk, p_nilchk, p_load, AV.ofCells, e1, r0, e2, v1, bneI]
  exact ⟨h1, rfl, C1, x1⟩

/-- What the ring tells at a touch. -/
def toldT (ts : List Int) (f : Int) : List Int := if ts.length + 1 < 8 then [] else ts ++ [f]
def keptT (ts : List Int) (f : Int) : List Int := if ts.length + 1 < 8 then ts ++ [f] else []

theorem hit_yes (C : CH h k z fs o M od ts) {g : Int} {i : Nat} (hf : findF fs g = (i : Int)) (hi : i < fs.length) (h1 : fs[i].st = 1) (hp : fs[i].pn < 1000) (hN : 100 ≤ N) :
    ∃ h', evCallT table 15 N (d + 6) 10 [.c (.ptr k 0), .c (.int .i64 g)] h = some (.c (.int .i64 (i : Int)), h') ∧
      CH h' k z (fs.set i ⟨fs[i].st, fs[i].pg, fs[i].pn + 1, fs[i].dt, fs[i].y⟩) o M ((toldT ts i).foldl applyM (od.filter (usedB fs))) (keptT ts i) ∧ ExtB (z.own k) h h' := by
  obtain ⟨H1, e1, C1, x1⟩ := tidy_ok (N := N) (d := d) C hN
  have r0 := C1.r0
  have sm := C.ah.sm
  have e2 := C1.ah.find (N := N) (d := d + 1) g hN
  obtain ⟨H2, e3, A2, x2⟩ := C1.ah.pin (N := N) (d := d + 3) (i : Int)
  have ep : pinF fs (i : Int) = (0, fs.set i ⟨fs[i].st, fs[i].pg, fs[i].pn + 1, fs[i].dt, fs[i].y⟩) := by
    unfold pinF
    rw [usedF_eq hi h1]
    simp only [if_neg (show ¬ fs[i].pn = 1000 by omega)]
  have al := pinF_alike fs (i : Int)
  rw [ep] at e3 A2 al
  obtain ⟨C2, y2⟩ := C1.like A2 x2 al
  have q1 := C2.r1
  have q2 := C2.r2
  obtain ⟨y, H3, e4, g3, W, x3⟩ := touch_ok (N := N) (d := d + 3) C2.rg (i : Int) (by omega) (by omega) C2.few (by omega)
  have few : (keptT ts (i : Int)).length < 8 := by
    unfold keptT
    split
    · simp; omega
    · simp
  obtain ⟨C3, y3⟩ := C2.ring (ts' := keptT ts (i : Int)) g3 x3 few
  have q3 := C3.r1
  have q4 := C3.r2
  have W' : Made H2 H3 y (toldT ts (i : Int)) := W
  have ynew : ∀ j, blk y = some j → j ∉ [z.q, z.b] := fun j hj hm => by
    have := W.young j hj
    have hq := C2.ll.pn
    have hb := C2.ll.bn
    simp at hm
    rcases hm with rfl | rfl <;> omega
  have tl : (toldT ts (i : Int)).length ≤ 8 := by
    have := C.few
    unfold toldT
    split
    · simp
    · simp; omega
  obtain ⟨H4, e5, l4, x4⟩ := apply_ok (N := N) (d := d + 2) C3.ll (by omega) W'.ints ynew (by omega) (by omega)
  obtain ⟨C4, y4⟩ := C3.list l4 x4 (fun x hx => C3.lo x (applyM_all.1 hx)) (fun j f hf hs => applyM_all.2 (C3.hi j f hf hs))
  have v1 : decide ((i : Int) < 0) = false := decide_eq_false (by omega)
  have e3' : evCallT table 15 N (d + 5) 21 [.c (.ptr z.p 0), .c (.int .i64 (i : Int))] H1 = some (.c (.int .i64 0), H2) := e3
  rw [evCallT_eq (F := ir10) rfl rfl rfl]
  unfold ir10
  rw [bodyK_eq]
  simp only [enter_eq, ev_seq, seqK_norm, seqK_exit, seqK_ret, ev_reg, ev_cond, condK_true, condK_false, ev_block, blockK_norm, blockK_ret, blockK_exit, ev_loop, ev_skip, ev_exit, ev_ret, regK_cons, regK_nil, guard_none, guard_some, regG_true, regG_false, regO_some, op_mov, op_conv, op_bin, op_bsl, op_box, op_mks, op_s2b, op_pick, op_un, op_eq, op_len, op_ext, op_load, op_iaddr, op_slice, op_b2s, op_idxS, op_mx, op_mn, op_call, op_store, op_app, op_copy, args_eq, result_one', rv_loc, finish_norm, finish_ret, outK_some, keep_true, keep_false, keep_nil, p_bin, p_pick, p_un, p_eq, p_conv, evNew, pureK_some, newK_some, X.eval, set_none, set_some, List.map_cons, List.map_nil, List.getD_cons_zero, List.getD_cons_succ, List.getD_nil, List.set_cons_zero, List.set_cons_succ, binCV, unCV, isShift, intArithF_eq, shiftF_eq, wrapF_eq, intArith, shift, eqVal, bound, asNat_cast, cond_true, cond_false, BEq.rfl, beq_self_eq_true, evalParts, fillParts, AV.cells, AV.ofCells, XV.av, AV.xv, List.length_cons, List.length_nil, zeros, patch, setMany, List.nil_append, List.cons_append, Nat.ble, Nat.add_eq, Nat.zero_add, Nat.add_zero, Nat.reduceAdd, Nat.reduceMul, Nat.reduceSub, Nat.ble_eq, Nat.reduceLeDiff, Nat.reduceBEq, Int.reduceBEq, Int.reduceNeg, Bool.and_true, Bool.and_false, Bool.true_and, Bool.false_and, Bool.not_true, Bool.not_false, Bool.true_eq_false, Bool.false_eq_true, Int.reduceLT, Int.reduceLE, Int.reduceGT, Int.reduceGE, decide_true, decide_false, Bool.not_eq_true, loopN_norm, loopN_exit, tf, ft, ff, ev_dreg, dregK_nil, dregK_cons, dregE_true, dregP_some, dregX_some, d_mov, d_bin, d_eq, d_pick, d_un, d_conv, d_b2s, d_len, d_load, d_iaddr, d_slice, d_ext, d_call, d_store, chk_done, chk_none, chk_some, chkG_true, chkG_false, chkOne_nil, chkOne_cons, chkH_some, chkV_same, stage_none, stage_some, look_hit, look_miss, news_nil, wb_cons, wb_nil, skip0, List.reverse_cons, List.reverse_nil, op_faddr, p_faddr, op_nilchk, p_nilchk, d_nilchk, d_faddr, p_load, AV.ofCells, e1, r0, e2, hf, v1, bneI, e3', q1, q2, e4, q3, q4, e5]
  exact ⟨H4, rfl, C4, ((x1.trans y2).trans y3).trans y4⟩
end
end Lav
