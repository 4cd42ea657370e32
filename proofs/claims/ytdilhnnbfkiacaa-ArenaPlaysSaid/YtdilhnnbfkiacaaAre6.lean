/-
  Layer 10: a frame's mark.
-/
import Derived.Test.YtdilhnnbfkiacaaAre5
set_option maxRecDepth 100000
set_option linter.unusedSimpArgs false
namespace Lav
open Go (IntKind)

def markF (fs : List Fm) (f : Int) (b : Bool) : Int × List Fm := match usedF fs f with
  | none => (2, fs)
  | some (i, g) => (0, fs.set i ⟨g.st, g.pg, g.pn, b, g.y⟩)
section
variable {N d : Nat} {h : Heap} {p : Nat} {a : AP} {fs : List Fm} {o : List Int} {M : Nat → Option Int} {c : Nat}
theorem AH.mark (A : AH h p a fs o M) (f : Int) (b : Bool) : ∃ h', evCallT table 18 N (d + 2) 25 [.c (.ptr p 0), .c (.int .i64 f), .c (.bool b)] h = some (.c (.int .i64 (markF fs f b).1), h') ∧ AH h' p a (markF fs f b).2 o M ∧ ExtB (own p a) h h' := by
  unfold markF
  cases e : usedF fs f with
  | none =>
    have e1 := used_no (N := N) (d := d) A.ar (usedF_none e)
    rw [evCallT_eq (F := ir25) rfl rfl rfl]
    unfold ir25
    rw [bodyK_eq]
    simp only [enter_eq, ev_seq, seqK_norm, seqK_exit, seqK_ret, ev_reg, ev_cond, condK_true, condK_false, ev_block, blockK_norm, blockK_ret, blockK_exit, ev_loop, ev_skip, ev_exit, ev_ret, regK_cons, regK_nil, guard_none, guard_some, regG_true, regG_false, regO_some, op_mov, op_conv, op_bin, op_bsl, op_box, op_mks, op_s2b, op_pick, op_un, op_eq, op_len, op_ext, op_load, op_iaddr, op_slice, op_b2s, op_idxS, op_mx, op_mn, op_call, op_store, op_app, op_copy, args_eq, result_one', rv_loc, finish_norm, finish_ret, outK_some, keep_true, keep_false, keep_nil, p_bin, p_pick, p_un, p_eq, p_conv, evNew, pureK_some, newK_some, X.eval, set_none, set_some, List.map_cons, List.map_nil, List.getD_cons_zero, List.getD_cons_succ, List.getD_nil, List.set_cons_zero, List.set_cons_succ, binCV, unCV, isShift, intArithF_eq, shiftF_eq, wrapF_eq, intArith, shift, eqVal, bound, asNat_cast, cond_true, cond_false, BEq.rfl, beq_self_eq_true, evalParts, fillParts, AV.cells, AV.ofCells, XV.av, AV.xv, List.length_cons, List.length_nil, zeros, patch, setMany, List.nil_append, List.cons_append, Nat.ble, Nat.add_eq, Nat.zero_add, Nat.add_zero, Nat.reduceAdd, Nat.reduceMul, Nat.reduceSub, Nat.ble_eq, Nat.reduceLeDiff, Nat.reduceBEq, Int.reduceBEq, Int.reduceNeg, Bool.and_true, Bool.and_false, Bool.true_and, Bool.false_and, Bool.not_true, Bool.not_false, Bool.true_eq_false, Bool.false_eq_true, Int.reduceLT, Int.reduceLE, Int.reduceGT, Int.reduceGE, decide_true, decide_false, Bool.not_eq_true, loopN_norm, loopN_exit, tf, ft, ff, e1]
    exact ⟨h, rfl, A, ExtB.refl _ _⟩
  | some x =>
    obtain ⟨i, g⟩ := x
    obtain ⟨rfl, hi, rfl, h1⟩ := usedF_some e
    have k := A.ok i fs[i] (List.getElem?_eq_getElem hi)
    have e1 := used_yes (N := N) (d := d) A.ar hi h1
    obtain ⟨fb, hx, hf, hg⟩ := A.ar.at_ hi
    have m1 : Nat.blt i fs.length = true := bltT hi
    have r0 := A.ar.r0
    rw [hx] at r0
    obtain ⟨h', w, A', e', n'⟩ := A.ar.poke hi hx (k := 3) (v := .bool b) (g := ⟨fs[i].st, fs[i].pg, fs[i].pn, b, fs[i].y⟩) (by omega) rfl
    rw [evCallT_eq (F := ir25) rfl rfl rfl]
    unfold ir25
    rw [bodyK_eq]
    simp only [enter_eq, ev_seq, seqK_norm, seqK_exit, seqK_ret, ev_reg, ev_cond, condK_true, condK_false, ev_block, blockK_norm, blockK_ret, blockK_exit, ev_loop, ev_skip, ev_exit, ev_ret, regK_cons, regK_nil, guard_none, guard_some, regG_true, regG_false, regO_some, op_mov, op_conv, op_bin, op_bsl, op_box, op_mks, op_s2b, op_pick, op_un, op_eq, op_len, op_ext, op_load, op_iaddr, op_slice, op_b2s, op_idxS, op_mx, op_mn, op_call, op_store, op_app, op_copy, args_eq, result_one', rv_loc, finish_norm, finish_ret, outK_some, keep_true, keep_false, keep_nil, p_bin, p_pick, p_un, p_eq, p_conv, evNew, pureK_some, newK_some, X.eval, set_none, set_some, List.map_cons, List.map_nil, List.getD_cons_zero, List.getD_cons_succ, List.getD_nil, List.set_cons_zero, List.set_cons_succ, binCV, unCV, isShift, intArithF_eq, shiftF_eq, wrapF_eq, intArith, shift, eqVal, bound, asNat_cast, cond_true, cond_false, BEq.rfl, beq_self_eq_true, evalParts, fillParts, AV.cells, AV.ofCells, XV.av, AV.xv, List.length_cons, List.length_nil, zeros, patch, setMany, List.nil_append, List.cons_append, Nat.ble, Nat.add_eq, Nat.zero_add, Nat.add_zero, Nat.reduceAdd, Nat.reduceMul, Nat.reduceSub, Nat.ble_eq, Nat.reduceLeDiff, Nat.reduceBEq, Int.reduceBEq, Int.reduceNeg, Bool.and_true, Bool.and_false, Bool.true_and, Bool.false_and, Bool.not_true, Bool.not_false, Bool.true_eq_false, Bool.false_eq_true, Int.reduceLT, Int.reduceLE, Int.reduceGT, Int.reduceGE, decide_true, decide_false, Bool.not_eq_true, loopN_norm, loopN_exit, tf, ft, ff, e1, op_nilchk, p_nilchk, op_faddr, p_faddr, p_load, r0, AV.ofCells, p_iaddr, m1, evEff, w, Nat.zero_add]
    refine ⟨h', rfl, ⟨?_, by rw [List.length_set]; exact A.sm, A.fo.keep hi (by omega) (by show fs[i].st ≠ 0; omega), A.fm.keep hi Iff.rfl (fun _ => rfl), A.ok.set hi ⟨k.s, k.u, fun h => absurd h1 h⟩⟩, e'⟩
    rw [cu_same hi (g := ⟨fs[i].st, fs[i].pg, fs[i].pn, b, fs[i].y⟩) Iff.rfl]
    exact A'
end
end Lav
