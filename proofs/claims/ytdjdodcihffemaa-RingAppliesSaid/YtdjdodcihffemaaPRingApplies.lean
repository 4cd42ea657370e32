/-
  Proved: whatever members and touches come in, lavabolaw8.RingApplies returns true and changes nothing that was there. No conditions beyond the given statement's.
-/
import Derived.Test.YtdjdodcihffemaaRows
import Derived.Test.YtdjdodcihffemaaInts0
import Derived.Test.YtdjdodcihffemaaRing1
import Derived.Test.YtdjdodcihffemaaLisR1
import Derived.Test.YtdjdodcihffemaaLisR2
import Derived.Test.YtdjdodcihffemaaLisR3
import Derived.Test.YtdjdodcihffemaaLisR4
import Derived.Test.YtdjdodcihffemaaLisR5
import Derived.Test.YtdjdodcihffemaaApply1
import Derived.WalkKit
import Derived.ProofKit
import Derived.OpenShut
import Derived.ShutString
import Derived.ChangeOld
import Derived.Below
set_option maxRecDepth 100000
set_option linter.unusedSimpArgs false
namespace Lav
open Go (IntKind)
theorem ringApplies {x y : CV} {h : Heap} {xs ts : List Int} (hx : Ints h x xs) (hy : Ints h y ts) : good (evCallT table 16 300 9 10 [.c x, .c y] h) = true := by
  have lx : ∀ (loc vals : List AV) (h : Heap), evPure loc (.c x :: vals) h (.len .sl (.val 0)) = some (.c (.int .i64 (xs.length : Int))) := fun _ _ _ => hx.len rfl
  have ly : ∀ (loc vals : List AV) (h : Heap), evPure loc (.c y :: vals) h (.len .sl (.val 0)) = some (.c (.int .i64 (ts.length : Int))) := fun _ _ _ => hy.len rfl
  obtain ⟨p, b, h1, e1, t1, x1, hp, hb⟩ : ∃ p b h', evCallT table 16 300 8 22 [.c (.int .i64 32)] h = some (.c (.ptr p 0), h') ∧ LL h' p b 32 [] ∧ Ext h h' ∧ h.next ≤ p ∧ h.next ≤ b := new_ok' (N := 300) (d := 7) 32 h (by omega)
  have hpn := t1.pn
  have hbn := t1.bn
  have x2 : Ext h1 (h1.new (.cells [.int .i64 32, .nils])) := (Ext.refl _).new _
  obtain ⟨q, hq⟩ : ∃ q, q = h1.next := ⟨_, rfl⟩
  obtain ⟨h2, hh2⟩ : ∃ H, H = h1.new (.cells [.int .i64 32, .nils]) := ⟨_, rfl⟩
  rw [← hh2] at x2
  have t2 : LL h2 p b 32 [] := t1.ext (x2.b []) (by simp) (by simp)
  have r2 : RL h2 q [p, b, q] 32 [] := ⟨.nils, by rw [hh2, hq]; exact get_new_at, .inl ⟨rfl, rfl⟩, by rw [hh2, hq]; exact Nat.lt_succ_self _, by simp [blk], by simp⟩
  have hlt2 : ∀ k ∈ [p, b, q], k < h2.next := by rw [hh2, hq]; simp [next_new]; omega
  have hne : p ≠ q ∧ b ≠ q := by omega
  have young : ∀ {z : CV} {zs : List Int}, Ints h z zs → ∀ k, blk z = some k → k ∉ [p, b, q] := fun {z zs} hz k hk => by
    rcases hz with ⟨rfl, _⟩ | ⟨i, o, c, rfl, hi, _⟩
    · cases hk
    · simp [blk] at hk; have := x1.1; simp; omega
  rw [evCallT_eq (F := ir10) rfl rfl rfl]
  unfold ir10
  rw [bodyK_eq]
  by_cases hts : ts.length ≤ 60
  · have v0 : decide ((ts.length : Int) > 60) = false := by simp; omega
    have L : ∀ loc, keepOnly ir10_k0 loc = [.c x, .c y, .junk, .c (.ptr p 0), .c (.ptr q 0), .c (.int .i64 0), .junk, .junk, .junk, .junk] →
        ∃ r, loopK (evCallT table 16 300 8) 300 ir10_k0 ir10_l0 300 loc h2 = some r ∧ ∃ a5 a9 h' o, r = (.exit 0, [.c x, .c y, .junk, .c (.ptr p 0), .c (.ptr q 0), a5, .junk, .junk, .junk, a9], h') ∧ LL h' p b 32 o ∧ RL h' q [p, b, q] 32 o ∧ ExtB [p, b, q] h2 h' := by
      intro loc hloc
      refine loop_inv (n := min xs.length 32) (fun i loc h' => ∃ o, LL h' p b 32 o ∧ RL h' q [p, b, q] 32 o ∧ ExtB [p, b, q] h2 h' ∧ loc = [.c x, .c y, .junk, .c (.ptr p 0), .c (.ptr q 0), .c (.int .i64 (i : Int)), .junk, .junk, .junk, .junk]) _ ?_ ⟨[], t2, r2, ExtB.refl _ _, hloc⟩ (by omega)
      rintro i loc h' hi ⟨o, t, r, xe, rfl⟩
      unfold ir10_l0
      by_cases hlt : i < min xs.length 32
      · left
        refine ⟨hlt, ?_⟩
        have v1 : decide ((i : Int) < (xs.length : Int)) = true := ltNat (by omega)
        have v4 : decide ((i : Int) < 32) = true := ltNat (n := 32) (by omega)
        have v2 := succI (i := i) (by omega)
        have hx' : Ints h' x xs := ((hx.ext x1).ext x2).keepB xe (young hx)
        have hl := t.le
        have hlt' : ∀ k ∈ [p, b, q], k < h'.next := fun k hk => Nat.lt_of_lt_of_le (hlt2 k hk) xe.1
        obtain ⟨bx, ox, cx, rfl, _, rx⟩ := hx'.sl (by omega)
        have k1 := rx i (by omega)
        have m1 : Nat.blt i xs.length = true := bltT (by omega)
        obtain ⟨k, hk, ek⟩ := few (a := xs[i]'(by omega)) (m := 32) (by omega) (by omega)
        have ek' : IntKind.i64.wrap (Int.tmod (IntKind.u64.wrap (xs[i]'(by omega))) 32) = (k : Int) := ek
        by_cases hm : (k : Int) ∈ o
        · have e2 : evCallT table 16 300 8 26 [.c (.ptr p 0), .c (.int .i64 (k : Int))] h' = _ := back_no (N := 300) (d := 6) t (fun h => h.2.2 hm)
          have e3 : evCallT table 16 300 8 27 [.c (.ptr q 0), .c (.int .i64 (k : Int))] h' = _ := rback_no (N := 300) (d := 6) r (fun h => h.2.2 hm) (by omega) (by omega)
          simp only [enter_eq, ev_seq, seqK_norm, seqK_exit, seqK_ret, ev_reg, ev_cond, condK_true, condK_false, ev_block, blockK_norm, blockK_ret, blockK_exit, ev_loop, ev_skip, ev_exit, ev_ret, regK_cons, regK_nil, guard_none, guard_some, regG_true, regG_false, regO_some, op_mov, op_conv, op_bin, op_bsl, op_box, op_mks, op_s2b, op_pick, op_un, op_eq, op_len, op_ext, op_load, op_iaddr, op_slice, op_b2s, op_idxS, op_mx, op_mn, op_call, op_store, op_app, op_copy, args_eq, result_one', rv_loc, finish_norm, finish_ret, outK_some, keep_true, keep_false, keep_nil, p_bin, p_pick, p_un, p_eq, p_conv, evNew, pureK_some, newK_some, X.eval, set_none, set_some, List.map_cons, List.map_nil, List.getD_cons_zero, List.getD_cons_succ, List.getD_nil, List.set_cons_zero, List.set_cons_succ, binCV, unCV, isShift, intArithF_eq, shiftF_eq, wrapF_eq, intArith, shift, eqVal, bound, asNat_cast, cond_true, cond_false, BEq.rfl, beq_self_eq_true, evalParts, fillParts, AV.cells, AV.ofCells, XV.av, AV.xv, List.length_cons, List.length_nil, zeros, patch, setMany, List.nil_append, List.cons_append, Nat.ble, Nat.add_eq, Nat.zero_add, Nat.add_zero, Nat.reduceAdd, Nat.reduceMul, Nat.reduceSub, Nat.ble_eq, Nat.reduceLeDiff, Nat.reduceBEq, Int.reduceBEq, Int.reduceNeg, Bool.and_true, Bool.and_false, Bool.true_and, Bool.false_and, Bool.not_true, Bool.not_false, Bool.true_eq_false, Bool.false_eq_true, Int.reduceLT, Int.reduceLE, Int.reduceGT, Int.reduceGE, decide_true, decide_false, Bool.not_eq_true, loopN_norm, loopN_exit, tf, ft, ff, lx, v1, v2, v4, p_iaddr, p_load, AV.ofCells, m1, Nat.mul_one, k1, ek', e2, e3]
          exact ⟨_, _, rfl, o, t, r, xe, rfl⟩
        · obtain ⟨h3, e2, t3, x3⟩ : ∃ h'', evCallT table 16 300 8 26 [.c (.ptr p 0), .c (.int .i64 (k : Int))] h' = some (.c (.bool true), h'') ∧ LL h'' p b 32 (o ++ [(k : Int)]) ∧ ExtB [p, b] h' h'' := back_ok (N := 300) (d := 6) t (by omega) (by omega) hm (by omega)
          have r3 : RL h3 q [p, b, q] 32 o := r.ext x3 (by simp; omega) (by simp +contextual)
          obtain ⟨h4, e3, r4, x4⟩ : ∃ h'', evCallT table 16 300 8 27 [.c (.ptr q 0), .c (.int .i64 (k : Int))] h3 = some (.c (.bool true), h'') ∧ RL h'' q [p, b, q] 32 (o ++ [(k : Int)]) ∧ ExtB [q] h3 h'' := rback_ok (N := 300) (d := 6) r3 (fun k hk => Nat.lt_of_lt_of_le (hlt' k hk) x3.1) (by omega) (by omega) hm (by omega) (by omega)
          simp only [enter_eq, ev_seq, seqK_norm, seqK_exit, seqK_ret, ev_reg, ev_cond, condK_true, condK_false, ev_block, blockK_norm, blockK_ret, blockK_exit, ev_loop, ev_skip, ev_exit, ev_ret, regK_cons, regK_nil, guard_none, guard_some, regG_true, regG_false, regO_some, op_mov, op_conv, op_bin, op_bsl, op_box, op_mks, op_s2b, op_pick, op_un, op_eq, op_len, op_ext, op_load, op_iaddr, op_slice, op_b2s, op_idxS, op_mx, op_mn, op_call, op_store, op_app, op_copy, args_eq, result_one', rv_loc, finish_norm, finish_ret, outK_some, keep_true, keep_false, keep_nil, p_bin, p_pick, p_un, p_eq, p_conv, evNew, pureK_some, newK_some, X.eval, set_none, set_some, List.map_cons, List.map_nil, List.getD_cons_zero, List.getD_cons_succ, List.getD_nil, List.set_cons_zero, List.set_cons_succ, binCV, unCV, isShift, intArithF_eq, shiftF_eq, wrapF_eq, intArith, shift, eqVal, bound, asNat_cast, cond_true, cond_false, BEq.rfl, beq_self_eq_true, evalParts, fillParts, AV.cells, AV.ofCells, XV.av, AV.xv, List.length_cons, List.length_nil, zeros, patch, setMany, List.nil_append, List.cons_append, Nat.ble, Nat.add_eq, Nat.zero_add, Nat.add_zero, Nat.reduceAdd, Nat.reduceMul, Nat.reduceSub, Nat.ble_eq, Nat.reduceLeDiff, Nat.reduceBEq, Int.reduceBEq, Int.reduceNeg, Bool.and_true, Bool.and_false, Bool.true_and, Bool.false_and, Bool.not_true, Bool.not_false, Bool.true_eq_false, Bool.false_eq_true, Int.reduceLT, Int.reduceLE, Int.reduceGT, Int.reduceGE, decide_true, decide_false, Bool.not_eq_true, loopN_norm, loopN_exit, tf, ft, ff, lx, v1, v2, v4, p_iaddr, p_load, AV.ofCells, m1, Nat.mul_one, k1, ek', e2, e3]
          exact ⟨_, _, rfl, _, t3.ext x4 (by simp; exact hne.1) (by simp; exact hne.2), r4, (xe.trans (x3.mono (by simp +contextual))).trans (x4.mono (by simp +contextual)), rfl⟩
      · right
        by_cases h3 : i < xs.length
        · have v1 : decide ((i : Int) < (xs.length : Int)) = true := ltNat h3
          have v4 : decide ((i : Int) < 32) = false := geNat (n := 32) (by omega)
          simp only [enter_eq, ev_seq, seqK_norm, seqK_exit, seqK_ret, ev_reg, ev_cond, condK_true, condK_false, ev_block, blockK_norm, blockK_ret, blockK_exit, ev_loop, ev_skip, ev_exit, ev_ret, regK_cons, regK_nil, guard_none, guard_some, regG_true, regG_false, regO_some, op_mov, op_conv, op_bin, op_bsl, op_box, op_mks, op_s2b, op_pick, op_un, op_eq, op_len, op_ext, op_load, op_iaddr, op_slice, op_b2s, op_idxS, op_mx, op_mn, op_call, op_store, op_app, op_copy, args_eq, result_one', rv_loc, finish_norm, finish_ret, outK_some, keep_true, keep_false, keep_nil, p_bin, p_pick, p_un, p_eq, p_conv, evNew, pureK_some, newK_some, X.eval, set_none, set_some, List.map_cons, List.map_nil, List.getD_cons_zero, List.getD_cons_succ, List.getD_nil, List.set_cons_zero, List.set_cons_succ, binCV, unCV, isShift, intArithF_eq, shiftF_eq, wrapF_eq, intArith, shift, eqVal, bound, asNat_cast, cond_true, cond_false, BEq.rfl, beq_self_eq_true, evalParts, fillParts, AV.cells, AV.ofCells, XV.av, AV.xv, List.length_cons, List.length_nil, zeros, patch, setMany, List.nil_append, List.cons_append, Nat.ble, Nat.add_eq, Nat.zero_add, Nat.add_zero, Nat.reduceAdd, Nat.reduceMul, Nat.reduceSub, Nat.ble_eq, Nat.reduceLeDiff, Nat.reduceBEq, Int.reduceBEq, Int.reduceNeg, Bool.and_true, Bool.and_false, Bool.true_and, Bool.false_and, Bool.not_true, Bool.not_false, Bool.true_eq_false, Bool.false_eq_true, Int.reduceLT, Int.reduceLE, Int.reduceGT, Int.reduceGE, decide_true, decide_false, Bool.not_eq_true, loopN_norm, loopN_exit, tf, ft, ff, lx, v1, v4]
          exact ⟨_, rfl, by simp, _, _, h', o, rfl, t, r, xe⟩
        · have v1 : decide ((i : Int) < (xs.length : Int)) = false := geNat (by omega)
          simp only [enter_eq, ev_seq, seqK_norm, seqK_exit, seqK_ret, ev_reg, ev_cond, condK_true, condK_false, ev_block, blockK_norm, blockK_ret, blockK_exit, ev_loop, ev_skip, ev_exit, ev_ret, regK_cons, regK_nil, guard_none, guard_some, regG_true, regG_false, regO_some, op_mov, op_conv, op_bin, op_bsl, op_box, op_mks, op_s2b, op_pick, op_un, op_eq, op_len, op_ext, op_load, op_iaddr, op_slice, op_b2s, op_idxS, op_mx, op_mn, op_call, op_store, op_app, op_copy, args_eq, result_one', rv_loc, finish_norm, finish_ret, outK_some, keep_true, keep_false, keep_nil, p_bin, p_pick, p_un, p_eq, p_conv, evNew, pureK_some, newK_some, X.eval, set_none, set_some, List.map_cons, List.map_nil, List.getD_cons_zero, List.getD_cons_succ, List.getD_nil, List.set_cons_zero, List.set_cons_succ, binCV, unCV, isShift, intArithF_eq, shiftF_eq, wrapF_eq, intArith, shift, eqVal, bound, asNat_cast, cond_true, cond_false, BEq.rfl, beq_self_eq_true, evalParts, fillParts, AV.cells, AV.ofCells, XV.av, AV.xv, List.length_cons, List.length_nil, zeros, patch, setMany, List.nil_append, List.cons_append, Nat.ble, Nat.add_eq, Nat.zero_add, Nat.add_zero, Nat.reduceAdd, Nat.reduceMul, Nat.reduceSub, Nat.ble_eq, Nat.reduceLeDiff, Nat.reduceBEq, Int.reduceBEq, Int.reduceNeg, Bool.and_true, Bool.and_false, Bool.true_and, Bool.false_and, Bool.not_true, Bool.not_false, Bool.true_eq_false, Bool.false_eq_true, Int.reduceLT, Int.reduceLE, Int.reduceGT, Int.reduceGE, decide_true, decide_false, Bool.not_eq_true, loopN_norm, loopN_exit, tf, ft, ff, lx, v1]
          exact ⟨_, rfl, by simp, _, _, h', o, rfl, t, r, xe⟩
    obtain ⟨r, hr, a5, a9, h3, o, rfl, t3, r3, x3⟩ := L [.c x, .c y, .c (.bool false), .c (.ptr p 0), .c (.ptr q 0), .c (.int .i64 0), .tup [], .c (.bool false), .c (.bool false), .tup []] rfl
    have hlt3 : ∀ k ∈ [p, b, q], k < h3.next := fun k hk => Nat.lt_of_lt_of_le (hlt2 k hk) x3.1
    have hyb := young hy
    have hy3 : Ints h3 y ts := ((hy.ext x1).ext x2).keepB x3 hyb
    obtain ⟨h4, e4, t4, x4⟩ : ∃ h', evCallT table 16 300 8 39 [.c (.ptr p 0), .c y] h3 = some (.tup [], h') ∧ LL h' p b 32 (ts.foldl applyM o) ∧ ExtB [p, b] h3 h' := apply_ok (N := 300) (d := 5) t3 (by omega) hy3 (fun k hk hm => hyb k hk (by simp at hm ⊢; omega)) (by omega) (by omega)
    have r4 : RL h4 q [p, b, q] 32 o := r3.ext x4 (by simp; omega) (by simp +contextual)
    have hy4 : Ints h4 y ts := hy3.keepB x4 (fun k hk hm => hyb k hk (by simp at hm ⊢; omega))
    obtain ⟨h5, e5, r5, x5⟩ : ∃ h', evCallT table 16 300 8 40 [.c (.ptr q 0), .c y] h4 = some (.tup [], h') ∧ RL h' q [p, b, q] ((32 : Nat) : Int) (ts.foldl applyM o) ∧ ExtB [q] h4 h' := rapply_ok (n := 32) (N := 300) (d := 5) r4 t3.nd t3.lt (fun k hk => Nat.lt_of_lt_of_le (hlt3 k hk) x4.1) (by omega) hy4 (fun k hk e => hyb k hk (by simp [e])) (by omega) (by omega)
    have t5 : LL h5 p b 32 (ts.foldl applyM o) := t4.ext x5 (by simp; exact hne.1) (by simp; exact hne.2)
    have hl5 := t5.le
    obtain ⟨z, h6, e6, mz, x6⟩ : ∃ x h', evCallT table 16 300 8 38 [.c (.ptr p 0)] h5 = some (.c x, h') ∧ Made h5 h' x (ts.foldl applyM o) ∧ Ext h5 h' := all_ok (N := 300) (d := 5) t5 (by omega) (by omega)
    obtain ⟨w, w1, w2, w3, _⟩ := r5
    have k5 : h5.read q 1 1 = some [w] := read_cells w1 rfl
    have k6 : h6.read q 1 1 = some [w] := read_cells (x6.at_ w1 w3) rfl
    have e7 : evCallT table 16 300 8 17 [.c z, .c w] h6 = some (.c (.bool true), h6) := by
      have := ints_ok (T := 16) (N := 300) (d := 7) rfl mz.ints (w2.ext x6) (by omega) (by omega)
      rw [decide_eq_true rfl] at this; exact this
    rw [hh2] at hr
    rw [hq] at hr e5 k5 k6
    simp only [enter_eq, ev_seq, seqK_norm, seqK_exit, seqK_ret, ev_reg, ev_cond, condK_true, condK_false, ev_block, blockK_norm, blockK_ret, blockK_exit, ev_loop, ev_skip, ev_exit, ev_ret, regK_cons, regK_nil, guard_none, guard_some, regG_true, regG_false, regO_some, op_mov, op_conv, op_bin, op_bsl, op_box, op_mks, op_s2b, op_pick, op_un, op_eq, op_len, op_ext, op_load, op_iaddr, op_slice, op_b2s, op_idxS, op_mx, op_mn, op_call, op_store, op_app, op_copy, args_eq, result_one', rv_loc, finish_norm, finish_ret, outK_some, keep_true, keep_false, keep_nil, p_bin, p_pick, p_un, p_eq, p_conv, evNew, pureK_some, newK_some, X.eval, set_none, set_some, List.map_cons, List.map_nil, List.getD_cons_zero, List.getD_cons_succ, List.getD_nil, List.set_cons_zero, List.set_cons_succ, binCV, unCV, isShift, intArithF_eq, shiftF_eq, wrapF_eq, intArith, shift, eqVal, bound, asNat_cast, cond_true, cond_false, BEq.rfl, beq_self_eq_true, evalParts, fillParts, AV.cells, AV.ofCells, XV.av, AV.xv, List.length_cons, List.length_nil, zeros, patch, setMany, List.nil_append, List.cons_append, Nat.ble, Nat.add_eq, Nat.zero_add, Nat.add_zero, Nat.reduceAdd, Nat.reduceMul, Nat.reduceSub, Nat.ble_eq, Nat.reduceLeDiff, Nat.reduceBEq, Int.reduceBEq, Int.reduceNeg, Bool.and_true, Bool.and_false, Bool.true_and, Bool.false_and, Bool.not_true, Bool.not_false, Bool.true_eq_false, Bool.false_eq_true, Int.reduceLT, Int.reduceLE, Int.reduceGT, Int.reduceGE, decide_true, decide_false, Bool.not_eq_true, loopN_norm, loopN_exit, tf, ft, ff, ev_dreg, dregK_nil, dregK_cons, dregE_true, dregP_some, dregX_some, d_mov, d_bin, d_eq, d_pick, d_un, d_conv, d_b2s, d_len, d_load, d_iaddr, d_slice, d_ext, d_call, d_store, chk_done, chk_none, chk_some, chkG_true, chkG_false, chkOne_nil, chkOne_cons, chkH_some, chkV_same, stage_none, stage_some, look_hit, look_miss, news_nil, wb_cons, wb_nil, skip0, List.reverse_cons, List.reverse_nil, e1, op_build, p_build', ly, v0, hr, blockK_exit_eq, e4, e5, e6, evCallT_told, op_nilchk, p_nilchk, op_faddr, p_faddr, d_nilchk, d_faddr, p_load, AV.ofCells, k5, k6, e7]
    rfl
  · have v0 : decide ((ts.length : Int) > 60) = true := by simp; omega
    simp only [enter_eq, ev_seq, seqK_norm, seqK_exit, seqK_ret, ev_reg, ev_cond, condK_true, condK_false, ev_block, blockK_norm, blockK_ret, blockK_exit, ev_loop, ev_skip, ev_exit, ev_ret, regK_cons, regK_nil, guard_none, guard_some, regG_true, regG_false, regO_some, op_mov, op_conv, op_bin, op_bsl, op_box, op_mks, op_s2b, op_pick, op_un, op_eq, op_len, op_ext, op_load, op_iaddr, op_slice, op_b2s, op_idxS, op_mx, op_mn, op_call, op_store, op_app, op_copy, args_eq, result_one', rv_loc, finish_norm, finish_ret, outK_some, keep_true, keep_false, keep_nil, p_bin, p_pick, p_un, p_eq, p_conv, evNew, pureK_some, newK_some, X.eval, set_none, set_some, List.map_cons, List.map_nil, List.getD_cons_zero, List.getD_cons_succ, List.getD_nil, List.set_cons_zero, List.set_cons_succ, binCV, unCV, isShift, intArithF_eq, shiftF_eq, wrapF_eq, intArith, shift, eqVal, bound, asNat_cast, cond_true, cond_false, BEq.rfl, beq_self_eq_true, evalParts, fillParts, AV.cells, AV.ofCells, XV.av, AV.xv, List.length_cons, List.length_nil, zeros, patch, setMany, List.nil_append, List.cons_append, Nat.ble, Nat.add_eq, Nat.zero_add, Nat.add_zero, Nat.reduceAdd, Nat.reduceMul, Nat.reduceSub, Nat.ble_eq, Nat.reduceLeDiff, Nat.reduceBEq, Int.reduceBEq, Int.reduceNeg, Bool.and_true, Bool.and_false, Bool.true_and, Bool.false_and, Bool.not_true, Bool.not_false, Bool.true_eq_false, Bool.false_eq_true, Int.reduceLT, Int.reduceLE, Int.reduceGT, Int.reduceGE, decide_true, decide_false, Bool.not_eq_true, loopN_norm, loopN_exit, tf, ft, ff, e1, op_build, p_build', ly, v0, evCallT_told]
    rfl

end Lav

namespace Go.Proofs.Ytdjdodcihffemaa.ringApplies
open Go.ChangeShapes Go.WideShapes Go.ChangeAt Go.RowKit
open Go.ChangeMaps (open_string shut_string)
set_option linter.unusedVariables false

theorem own : ownKnob Try.prog.godebug = none := by kernel_rfl
theorem laidOut : laidOutB Try.prog = true := by kernel_rfl

/-- WHAT THE WALK IS TOLD OF A SLICE OF INTEGERS THAT CAME IN: it is nil; or it leads to a row of 'cap' cells, the numbers 'zs' (the first 'len' are its elements, the rest its spare room), each fitting its kind. -/
def IsRow (k : IntKind) (w : World) (a : Option Addr) (len cap : Nat) (zs : List Int) : Prop :=
  (a = none ∧ len = 0 ∧ cap = 0 ∧ zs = []) ∨
  ∃ x, a = some x ∧ len ≤ cap ∧ cap ≤ maxLen ∧ zs.length = cap ∧ (∀ i, i < zs.length → w.cell? (x.add i) = some (.int k (zs.getD i 0))) ∧ ∀ n ∈ zs, (Lit.int k n).wf = true

/-! ### STEP 1: THE WALK: the Go text returns true, AND WRITES NOTHING THAT WAS THERE: 'Below w.heap.size w w'' (Derived/Below.lean: '.refl', '.alloc', '.drew', '.setCell' at a new block, '.trans'). Open each 'IsRow' by 'rcases' AHEAD of 'go_enter'; part every test ahead of the walk. -/
theorem walk (a0 : Option Addr) (len0 cap0 : Nat) (z0 : List Int) (a1 : Option Addr) (len1 cap1 : Nat) (z1 : List Int) (w : World) (w0 : IsRow .i64 w a0 len0 cap0 z0) (w1 : IsRow .i64 w a1 len1 cap1 z1) :
    Calls Try.prog 10 #[.slice a0 len0 cap0, .slice a1 len1 cap1] w fun e w' => e = .returned (.bool true) ∧ Below w.heap.size w w' := by
  obtain ⟨ι, h, x, I, hle, hx, hr⟩ := (Lav.Init.empty w).slice w0
  obtain ⟨ι2, h2, y, I2, hle2, hy, hr2⟩ := I.slice w1
  exact Lav.walk_of (Lav.evCallT_sound Lav.mixed Lav.table_ok Lav.tld8 300 9) I2 (args := [.c x, .c y]) (vs := [.slice a0 len0 cap0, .slice a1 len1 cap1]) ⟨hx.mono hle2, hy, trivial⟩ (Lav.ringApplies ((Lav.ints_of hr).ext hr2.ext) (Lav.ints_of hr2))

/-! ### THE ROW's STEP: WRITTEN OUT: LEAVE IT -/
set_option maxRecDepth 100000 in
theorem lifted (os : Os) (started : os.Started) (H : Type) (enc : TypeId × Value → H) :
    ReturnsInHanded {} Try.checked os 10 .any (Rows.ringAppliesSpec.pre6 enc Try.prog Try.f10 Rows.ringAppliesRow.domain false) (Rows.ringAppliesSpec.post enc Try.prog Try.f10 false true false false) := by
  refine returnsInHanded_of_change (C := Try.checked) own started (by kernel_rfl) Try.func10
    (ChangeSpec.witness6 (enc := enc) (C := Try.checked) false ⟨#[], #[.slice none 0 0, .slice none 0 0], []⟩ 8 (by kernel_rfl) (by kernel_rfl) (by kernel_rfl) (by kernel_rfl)) ?_
  intro W base args ds gs before hval0 hW hcnd _
  have hval : ∀ (j : Nat) t v, Try.f10.params[j]? = some t → args[j]? = some v → Value.okWide Try.prog W .any base t v := hval0
  have hW' := hW
  obtain ⟨p, q, hA0, hV, rfl, hfz, hnd⟩ := hW
  have hA : DataW.TrodAll enc Try.prog W 0 (fun _ => true) true Try.f10.params.toList args.toList ds p := hA0
  rw [Try.params10] at hA hval
  obtain ⟨v0, vs0, d0, ds0, p0, q0, hargs, rfl, rfl, h0, r0⟩ := trodAll_cons hA
  obtain ⟨v1, vs1, d1, ds1, p1, q1, rfl, rfl, rfl, h1, r1⟩ := trodAll_cons r0
  obtain ⟨rfl, rfl, rfl⟩ := trodAll_nil r1
  obtain rfl : args = #[v0, v1] := by cases args; simp_all
  obtain ⟨rfl, rfl⟩ := trodVars_none hV
  obtain ⟨a0, len0, cap0, rfl⟩ := okWide_slice Try.underlying22 (hval 0 22 v0 rfl rfl)
  have k0 := h0
  have lt0 : ∀ x ∈ p0, x.block < W.heap.size := by obtain ⟨m, hm⟩ := k0; exact DataW.trod_lt m _ _ _ hm
  obtain ⟨z0, w0⟩ : ∃ zs, IsRow .i64 W a0 len0 cap0 zs := by
    obtain ⟨fuel, hf⟩ := h0
    rcases open_ints Try.underlying22 Try.underlying3 (by kernel_rfl) hf with ⟨hcs, _⟩ | ⟨x, l, c, zs, hcs, _, hl, hm, hz, _, hcell, hwz⟩
    · simp [Value.cells] at hcs
      obtain ⟨rfl, rfl, rfl⟩ := hcs
      exact ⟨[], .inl ⟨rfl, rfl, rfl, rfl⟩⟩
    · simp [Value.cells] at hcs
      obtain ⟨rfl, rfl, rfl⟩ := hcs
      exact ⟨zs, .inr ⟨_, rfl, hl, hm, by simpa using hz, hcell, hwz⟩⟩
  obtain ⟨a1, len1, cap1, rfl⟩ := okWide_slice Try.underlying22 (hval 1 22 v1 rfl rfl)
  have k1 := h1
  have lt1 : ∀ x ∈ p1, x.block < W.heap.size := by obtain ⟨m, hm⟩ := k1; exact DataW.trod_lt m _ _ _ hm
  obtain ⟨z1, w1⟩ : ∃ zs, IsRow .i64 W a1 len1 cap1 zs := by
    obtain ⟨fuel, hf⟩ := h1
    rcases open_ints Try.underlying22 Try.underlying3 (by kernel_rfl) hf with ⟨hcs, _⟩ | ⟨x, l, c, zs, hcs, _, hl, hm, hz, _, hcell, hwz⟩
    · simp [Value.cells] at hcs
      obtain ⟨rfl, rfl, rfl⟩ := hcs
      exact ⟨[], .inl ⟨rfl, rfl, rfl, rfl⟩⟩
    · simp [Value.cells] at hcs
      obtain ⟨rfl, rfl, rfl⟩ := hcs
      exact ⟨zs, .inr ⟨_, rfl, hl, hm, by simpa using hz, hcell, hwz⟩⟩
  clear hA0 hval0
  refine (walk a0 len0 cap0 z0 a1 len1 cap1 z1 W w0 w1).mono fun e W' ⟨he, bel⟩ => ?_
  subst he
  exact ⟨_, rfl, _, _, _, [], _, [], hW', trodAll_mk1 (shut_bool Try.underlying4 _), (trodAll_cons_mk (Below.trod laidOut (by kernel_rfl) (of_decide_eq_true (by kernel_rfl)) k0 bel lt0) (trodAll_cons_mk (Below.trod laidOut (by kernel_rfl) (of_decide_eq_true (by kernel_rfl)) k1 bel lt1) trodAll_mk0)), rfl, bel.frame _, fun h => by cases h⟩

theorem over : Rows.ringAppliesRow.holds Try.pinned (OpenSpec.ofChange Rows.ringAppliesSpec) :=
  OpenClaim.holds_of_wide 10 Try.f10 rfl rfl rfl rfl rfl rfl rfl ⟨rfl, rfl, rfl, rfl, rfl⟩ rfl rfl rfl rfl rfl (by kernel_rfl) Try.func10 (by kernel_rfl)
    (of_decide_eq_true (by kernel_rfl)) (by unfold Func.isWrapper; first | (rw [if_pos (by decide +kernel)]; kernel_rfl) | (rw [if_neg (by decide +kernel)]; exact ⟨rfl, rfl⟩))
    (fun os started H enc _ => lifted os started H enc)

/-- ████ THE STATEMENT ████ -/
theorem proved : Rows.RingAppliesSaid := over
end Go.Proofs.Ytdjdodcihffemaa.ringApplies
