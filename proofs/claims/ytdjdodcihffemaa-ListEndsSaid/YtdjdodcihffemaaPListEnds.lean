/-
  Proved: whatever numbers come in, lavabolaw4.ListEnds returns true and changes nothing that was there. No conditions beyond the given statement's.
-/
import Derived.Test.YtdjdodcihffemaaRows
import Derived.Test.YtdjdodcihffemaaList1
import Derived.Test.YtdjdodcihffemaaList2
import Derived.Test.YtdjdodcihffemaaList3
import Derived.Test.YtdjdodcihffemaaList4
import Derived.WalkKit
import Derived.ProofKit
import Derived.OpenShut
import Derived.Below
import Derived.ShutString
set_option maxRecDepth 100000
set_option linter.unusedSimpArgs false
namespace Lav
open Go (IntKind)
theorem listEnds (a m : Int) : good (evCallT table 23 200 9 9 [.c (.int .i64 a), .c (.int .i64 m)] Heap.empty) = true := by
  obtain ⟨s, hs, es⟩ := few (a := a) (m := 41) (by omega) (by omega)
  have es' : IntKind.i64.wrap (Int.tmod (IntKind.u64.wrap a) 41) = (s : Int) := es
  obtain ⟨p, b, h1, e1, t1, x1, hp, hb⟩ : ∃ p b h', evCallT table 23 200 8 22 [.c (.int .i64 40)] Heap.empty = some (.c (.ptr p 0), h') ∧ LL h' p b 40 [] ∧ Ext Heap.empty h' ∧ Heap.empty.next ≤ p ∧ Heap.empty.next ≤ b := new_ok' (N := 200) (d := 7) 40 Heap.empty (by omega)
  rw [evCallT_eq (F := ir9) rfl rfl rfl]
  unfold ir9
  rw [bodyK_eq]
  have L1 : ∀ loc, keepOnly ir9_k1 loc = [.junk, .c (.int .i64 m), .junk, .c (.int .i64 (s : Int)), .c (.ptr p 0), .c (.int .i64 0), .junk, .junk, .junk, .junk, .junk, .junk, .junk, .junk, .junk, .junk] →
      ∃ r, loopK (evCallT table 23 200 8) 200 ir9_k1 ir9_l1 200 loc h1 = some r ∧ ∃ a0 a1 a2 a5 l h' o, r = (.exit 0, a0 :: a1 :: a2 :: .c (.int .i64 (s : Int)) :: .c (.ptr p 0) :: a5 :: l, h') ∧ l.length = 10 ∧ LL h' p b 40 o ∧ o.length = s := by
    intro loc hloc
    refine loop_inv (n := s) (fun i loc h' => ∃ o : List Int, LL h' p b 40 o ∧ o.length = i ∧ (∀ x ∈ o, x < (i : Int)) ∧ loc = [.junk, .c (.int .i64 m), .junk, .c (.int .i64 (s : Int)), .c (.ptr p 0), .c (.int .i64 (i : Int)), .junk, .junk, .junk, .junk, .junk, .junk, .junk, .junk, .junk, .junk]) _ ?_ ⟨[], t1, rfl, by simp, hloc⟩ (by omega)
    rintro i loc h' hi ⟨o, t, hl, hlt', rfl⟩
    unfold ir9_l1
    by_cases hlt : i < s
    · left
      refine ⟨hlt, ?_⟩
      have v1 : decide ((i : Int) < (s : Int)) = true := ltNat hlt
      have v2 := succI (i := i) (by omega)
      obtain ⟨k, hk, ek⟩ := and_low (i : Int) 31 (by omega)
      have ek' : IntKind.i64.wrap ((BitVec.ofInt IntKind.i64.bits (i : Int) &&& BitVec.ofInt IntKind.i64.bits 31).toNat : Int) = (k : Int) := ek
      have w1 : IntKind.u64.wrap (k : Int) = (k : Int) := wrapUNat (by omega)
      have w2 : decide ((k : Int) < 0) = false := decide_eq_false (by omega)
      have hni : (i : Int) ∉ o := fun h => by have := hlt' _ h; omega
      have w3 : ((o.length : Int) == ((i + 1 : Nat) : Int)) = false := by simp only [beq_eq_false_iff_ne, ne_eq]; omega
      cases hb1 : (IntKind.i64.wrap ((BitVec.ofInt IntKind.i64.bits (m.fdiv (2 ^ (min (Int.toNat (k : Int)) IntKind.i64.bits))) &&& BitVec.ofInt IntKind.i64.bits 1).toNat : Int) == 1) with
      | true =>
        obtain ⟨h2, e2, t2, x2⟩ : ∃ h'', evCallT table 23 200 8 24 [.c (.ptr p 0), .c (.int .i64 (i : Int))] h' = some (.c (.bool true), h'') ∧ LL h'' p b 40 ((i : Int) :: o) ∧ ExtB [p, b] h' h'' := front_ok (N := 200) (d := 6) t (by omega) (by omega) hni (by omega)
        have e3 : evCallT table 23 200 8 31 [.c (.ptr p 0)] h2 = some (.c (.int .i64 (i : Int)), h2) := first_ok (N := 200) (d := 7) t2
        have e4 : evCallT table 23 200 8 30 [.c (.ptr p 0)] h2 = some (.c (.int .i64 ((i + 1 : Nat) : Int)), h2) := by rw [← hl]; exact len_ok' (N := 200) (d := 7) t2
        simp only [enter_eq, ev_seq, seqK_norm, seqK_exit, seqK_ret, ev_reg, ev_cond, condK_true, condK_false, ev_block, blockK_norm, blockK_ret, blockK_exit, ev_loop, ev_skip, ev_exit, ev_ret, regK_cons, regK_nil, guard_none, guard_some, regG_true, regG_false, regO_some, op_mov, op_conv, op_bin, op_bsl, op_box, op_mks, op_s2b, op_pick, op_un, op_eq, op_len, op_ext, op_load, op_iaddr, op_slice, op_b2s, op_idxS, op_mx, op_mn, op_call, op_store, op_app, op_copy, args_eq, result_one', rv_loc, finish_norm, finish_ret, outK_some, keep_true, keep_false, keep_nil, p_bin, p_pick, p_un, p_eq, p_conv, evNew, pureK_some, newK_some, X.eval, set_none, set_some, List.map_cons, List.map_nil, List.getD_cons_zero, List.getD_cons_succ, List.getD_nil, List.set_cons_zero, List.set_cons_succ, binCV, unCV, isShift, intArithF_eq, shiftF_eq, wrapF_eq, intArith, shift, eqVal, bound, asNat_cast, cond_true, cond_false, BEq.rfl, beq_self_eq_true, evalParts, fillParts, AV.cells, AV.ofCells, XV.av, AV.xv, List.length_cons, List.length_nil, zeros, patch, setMany, List.nil_append, List.cons_append, Nat.ble, Nat.add_eq, Nat.zero_add, Nat.add_zero, Nat.reduceAdd, Nat.reduceMul, Nat.reduceSub, Nat.ble_eq, Nat.reduceLeDiff, Nat.reduceBEq, Int.reduceBEq, Int.reduceNeg, Bool.and_true, Bool.and_false, Bool.true_and, Bool.false_and, Bool.not_true, Bool.not_false, Bool.true_eq_false, Bool.false_eq_true, Int.reduceLT, Int.reduceLE, Int.reduceGT, Int.reduceGE, decide_true, decide_false, Bool.not_eq_true, loopN_norm, loopN_exit, tf, ft, ff, bneI, v1, v2, ek', w1, w2, hb1, e2, e3, e4, eqq]
        refine ⟨_, _, rfl, _, t2, by simp [hl], fun x hx => ?_, rfl⟩
        simp at hx
        rcases hx with rfl | hx
        · omega
        · have := hlt' x hx; omega
      | false =>
        obtain ⟨h2, e2, t2, x2⟩ : ∃ h'', evCallT table 23 200 8 26 [.c (.ptr p 0), .c (.int .i64 (i : Int))] h' = some (.c (.bool true), h'') ∧ LL h'' p b 40 (o ++ [(i : Int)]) ∧ ExtB [p, b] h' h'' := back_ok (N := 200) (d := 6) t (by omega) (by omega) hni (by omega)
        have e3 : evCallT table 23 200 8 33 [.c (.ptr p 0)] h2 = some (.c (.int .i64 (i : Int)), h2) := by
          have := last_ok (N := 200) (d := 7) t2
          rwa [show (o ++ [(i : Int)]).getLastD (-1) = (i : Int) by rw [List.getLastD_eq_getLast?]; simp] at this
        have e4 : evCallT table 23 200 8 30 [.c (.ptr p 0)] h2 = some (.c (.int .i64 ((i + 1 : Nat) : Int)), h2) := by
          have := len_ok' (N := 200) (d := 7) t2
          rwa [List.length_append, List.length_singleton, hl] at this
        simp only [enter_eq, ev_seq, seqK_norm, seqK_exit, seqK_ret, ev_reg, ev_cond, condK_true, condK_false, ev_block, blockK_norm, blockK_ret, blockK_exit, ev_loop, ev_skip, ev_exit, ev_ret, regK_cons, regK_nil, guard_none, guard_some, regG_true, regG_false, regO_some, op_mov, op_conv, op_bin, op_bsl, op_box, op_mks, op_s2b, op_pick, op_un, op_eq, op_len, op_ext, op_load, op_iaddr, op_slice, op_b2s, op_idxS, op_mx, op_mn, op_call, op_store, op_app, op_copy, args_eq, result_one', rv_loc, finish_norm, finish_ret, outK_some, keep_true, keep_false, keep_nil, p_bin, p_pick, p_un, p_eq, p_conv, evNew, pureK_some, newK_some, X.eval, set_none, set_some, List.map_cons, List.map_nil, List.getD_cons_zero, List.getD_cons_succ, List.getD_nil, List.set_cons_zero, List.set_cons_succ, binCV, unCV, isShift, intArithF_eq, shiftF_eq, wrapF_eq, intArith, shift, eqVal, bound, asNat_cast, cond_true, cond_false, BEq.rfl, beq_self_eq_true, evalParts, fillParts, AV.cells, AV.ofCells, XV.av, AV.xv, List.length_cons, List.length_nil, zeros, patch, setMany, List.nil_append, List.cons_append, Nat.ble, Nat.add_eq, Nat.zero_add, Nat.add_zero, Nat.reduceAdd, Nat.reduceMul, Nat.reduceSub, Nat.ble_eq, Nat.reduceLeDiff, Nat.reduceBEq, Int.reduceBEq, Int.reduceNeg, Bool.and_true, Bool.and_false, Bool.true_and, Bool.false_and, Bool.not_true, Bool.not_false, Bool.true_eq_false, Bool.false_eq_true, Int.reduceLT, Int.reduceLE, Int.reduceGT, Int.reduceGE, decide_true, decide_false, Bool.not_eq_true, loopN_norm, loopN_exit, tf, ft, ff, bneI, v1, v2, ek', w1, w2, hb1, e2, e3, e4, eqq]
        refine ⟨_, _, rfl, _, t2, by simp [hl], fun x hx => ?_, rfl⟩
        simp at hx
        rcases hx with hx | rfl
        · have := hlt' x hx; omega
        · omega
    · right
      have hin : i = s := by omega
      subst hin
      have v1 : decide ((i : Int) < (i : Int)) = false := geNat (Nat.le_refl _)
      simp only [enter_eq, ev_seq, seqK_norm, seqK_exit, seqK_ret, ev_reg, ev_cond, condK_true, condK_false, ev_block, blockK_norm, blockK_ret, blockK_exit, ev_loop, ev_skip, ev_exit, ev_ret, regK_cons, regK_nil, guard_none, guard_some, regG_true, regG_false, regO_some, op_mov, op_conv, op_bin, op_bsl, op_box, op_mks, op_s2b, op_pick, op_un, op_eq, op_len, op_ext, op_load, op_iaddr, op_slice, op_b2s, op_idxS, op_mx, op_mn, op_call, op_store, op_app, op_copy, args_eq, result_one', rv_loc, finish_norm, finish_ret, outK_some, keep_true, keep_false, keep_nil, p_bin, p_pick, p_un, p_eq, p_conv, evNew, pureK_some, newK_some, X.eval, set_none, set_some, List.map_cons, List.map_nil, List.getD_cons_zero, List.getD_cons_succ, List.getD_nil, List.set_cons_zero, List.set_cons_succ, binCV, unCV, isShift, intArithF_eq, shiftF_eq, wrapF_eq, intArith, shift, eqVal, bound, asNat_cast, cond_true, cond_false, BEq.rfl, beq_self_eq_true, evalParts, fillParts, AV.cells, AV.ofCells, XV.av, AV.xv, List.length_cons, List.length_nil, zeros, patch, setMany, List.nil_append, List.cons_append, Nat.ble, Nat.add_eq, Nat.zero_add, Nat.add_zero, Nat.reduceAdd, Nat.reduceMul, Nat.reduceSub, Nat.ble_eq, Nat.reduceLeDiff, Nat.reduceBEq, Int.reduceBEq, Int.reduceNeg, Bool.and_true, Bool.and_false, Bool.true_and, Bool.false_and, Bool.not_true, Bool.not_false, Bool.true_eq_false, Bool.false_eq_true, Int.reduceLT, Int.reduceLE, Int.reduceGT, Int.reduceGE, decide_true, decide_false, Bool.not_eq_true, loopN_norm, loopN_exit, tf, ft, ff, v1]
      exact ⟨_, rfl, by simp, _, _, _, _, _, h', o, rfl, rfl, t, hl⟩
  obtain ⟨r, hr1, a0, a1, a2, a5, l, h2, o, rfl, hl10, t2, hol⟩ := L1 [.c (.int .i64 a), .c (.int .i64 m), .c (.bool false), .c (.int .i64 (s : Int)), .c (.ptr p 0), .c (.int .i64 0), .tup [], .tup [], .tup [], .c (.bool false), .tup [], .tup [], .tup [], .tup [], .tup [], .tup []] rfl
  match l, hl10 with
  | [b0, b1, b2, b3, b4, b5, b6, b7, b8, b9], _ =>
  have L0 : ∀ loc, keepOnly ir9_k0 loc = [.junk, .junk, .junk, .junk, .c (.ptr p 0), .junk, .junk, .c (.int .i64 (s : Int)), .junk, .junk, .junk, .junk, .junk, .junk, .junk, .junk] →
      ∃ r, loopK (evCallT table 23 200 8) 200 ir9_k0 ir9_l0 200 loc h2 = some r ∧ ∃ a0 a1 a2 a3 l h', r = (.exit 2, a0 :: a1 :: a2 :: a3 :: .c (.ptr p 0) :: l, h') ∧ LL h' p b 40 [] := by
    intro loc hloc
    refine loop_inv (n := s) (fun i loc h' => ∃ o : List Int, LL h' p b 40 o ∧ o.length = s - i ∧ loc = [.junk, .junk, .junk, .junk, .c (.ptr p 0), .junk, .junk, .c (.int .i64 ((s - i : Nat) : Int)), .junk, .junk, .junk, .junk, .junk, .junk, .junk, .junk]) _ ?_ ⟨o, t2, by simpa using hol, hloc⟩ (by omega)
    rintro i loc h' hi ⟨o, t, hl, rfl⟩
    unfold ir9_l0
    by_cases hlt : i < s
    · left
      refine ⟨hlt, ?_⟩
      obtain ⟨j, hj⟩ : ∃ j, s - i = j + 1 := ⟨s - i - 1, by omega⟩
      have hj' : s - (i + 1) = j := by omega
      rw [hj] at hl ⊢
      rw [hj']
      have v1 : decide (((j + 1 : Nat) : Int) > 0) = true := decide_eq_true (by omega)
      have v2 : IntKind.i64.wrap (((j + 1 : Nat) : Int) - 1) = (j : Int) := by rw [wrapI (by omega) (by omega)]; omega
      -- whom the loop takes out
      have take : ∀ x ∈ o, ∃ h'', evCallT table 23 200 8 37 [.c (.ptr p 0), .c (.int .i64 x)] h' = some (.c (.bool true), h') ∧ evCallT table 23 200 8 28 [.c (.ptr p 0), .c (.int .i64 x)] h' = some (.c (.bool true), h'') ∧ evCallT table 23 200 8 30 [.c (.ptr p 0)] h'' = some (.c (.int .i64 (j : Int)), h'') ∧ LL h'' p b 40 (o.erase x) ∧ (o.erase x).length = j := fun x hx => by
        have f1 : evCallT table 23 200 8 37 [.c (.ptr p 0), .c (.int .i64 x)] h' = _ := has_ok (N := 200) (d := 7) t x
        rw [decide_eq_true hx] at f1
        obtain ⟨h3, f2, t3, x3⟩ : ∃ h'', evCallT table 23 200 8 28 [.c (.ptr p 0), .c (.int .i64 x)] h' = some (.c (.bool true), h'') ∧ LL h'' p b 40 (o.erase x) ∧ ExtB [p, b] h' h'' := out_ok (N := 200) (d := 6) t hx (by omega)
        have hle : (o.erase x).length = j := by rw [List.length_erase_of_mem hx]; omega
        have f3 : evCallT table 23 200 8 30 [.c (.ptr p 0)] h3 = _ := len_ok' (N := 200) (d := 7) t3
        rw [hle] at f3
        exact ⟨h3, f1, f2, f3, t3, hle⟩
      have f0 : evCallT table 23 200 8 31 [.c (.ptr p 0)] h' = _ := first_ok (N := 200) (d := 7) t
      have f9 : evCallT table 23 200 8 33 [.c (.ptr p 0)] h' = _ := last_ok (N := 200) (d := 7) t
      have hne : o ≠ [] := fun e => by rw [e] at hl; simp at hl
      cases hb1 : (IntKind.i64.wrap ((BitVec.ofInt IntKind.i64.bits ((j + 1 : Nat) : Int) &&& BitVec.ofInt IntKind.i64.bits 1).toNat : Int) == 1) with
      | true =>
        have hm : o.getLastD (-1) ∈ o := by
          rw [List.getLastD_eq_getLast?, List.getLast?_eq_some_getLast hne]; exact List.getLast_mem _
        obtain ⟨h3, f1, f2, f3, t3, hle⟩ := take _ hm
        simp only [enter_eq, ev_seq, seqK_norm, seqK_exit, seqK_ret, ev_reg, ev_cond, condK_true, condK_false, ev_block, blockK_norm, blockK_ret, blockK_exit, ev_loop, ev_skip, ev_exit, ev_ret, regK_cons, regK_nil, guard_none, guard_some, regG_true, regG_false, regO_some, op_mov, op_conv, op_bin, op_bsl, op_box, op_mks, op_s2b, op_pick, op_un, op_eq, op_len, op_ext, op_load, op_iaddr, op_slice, op_b2s, op_idxS, op_mx, op_mn, op_call, op_store, op_app, op_copy, args_eq, result_one', rv_loc, finish_norm, finish_ret, outK_some, keep_true, keep_false, keep_nil, p_bin, p_pick, p_un, p_eq, p_conv, evNew, pureK_some, newK_some, X.eval, set_none, set_some, List.map_cons, List.map_nil, List.getD_cons_zero, List.getD_cons_succ, List.getD_nil, List.set_cons_zero, List.set_cons_succ, binCV, unCV, isShift, intArithF_eq, shiftF_eq, wrapF_eq, intArith, shift, eqVal, bound, asNat_cast, cond_true, cond_false, BEq.rfl, beq_self_eq_true, evalParts, fillParts, AV.cells, AV.ofCells, XV.av, AV.xv, List.length_cons, List.length_nil, zeros, patch, setMany, List.nil_append, List.cons_append, Nat.ble, Nat.add_eq, Nat.zero_add, Nat.add_zero, Nat.reduceAdd, Nat.reduceMul, Nat.reduceSub, Nat.ble_eq, Nat.reduceLeDiff, Nat.reduceBEq, Int.reduceBEq, Int.reduceNeg, Bool.and_true, Bool.and_false, Bool.true_and, Bool.false_and, Bool.not_true, Bool.not_false, Bool.true_eq_false, Bool.false_eq_true, Int.reduceLT, Int.reduceLE, Int.reduceGT, Int.reduceGE, decide_true, decide_false, Bool.not_eq_true, loopN_norm, loopN_exit, tf, ft, ff, bneI, v1, v2, hb1, f0, f9, f1, f2, f3, eqq]
        exact ⟨_, _, rfl, _, t3, hle, rfl⟩
      | false =>
        have hm : o.headD (-1) ∈ o := by
          cases o with
          | nil => exact absurd rfl hne
          | cons c l => simp
        obtain ⟨h3, f1, f2, f3, t3, hle⟩ := take _ hm
        simp only [enter_eq, ev_seq, seqK_norm, seqK_exit, seqK_ret, ev_reg, ev_cond, condK_true, condK_false, ev_block, blockK_norm, blockK_ret, blockK_exit, ev_loop, ev_skip, ev_exit, ev_ret, regK_cons, regK_nil, guard_none, guard_some, regG_true, regG_false, regO_some, op_mov, op_conv, op_bin, op_bsl, op_box, op_mks, op_s2b, op_pick, op_un, op_eq, op_len, op_ext, op_load, op_iaddr, op_slice, op_b2s, op_idxS, op_mx, op_mn, op_call, op_store, op_app, op_copy, args_eq, result_one', rv_loc, finish_norm, finish_ret, outK_some, keep_true, keep_false, keep_nil, p_bin, p_pick, p_un, p_eq, p_conv, evNew, pureK_some, newK_some, X.eval, set_none, set_some, List.map_cons, List.map_nil, List.getD_cons_zero, List.getD_cons_succ, List.getD_nil, List.set_cons_zero, List.set_cons_succ, binCV, unCV, isShift, intArithF_eq, shiftF_eq, wrapF_eq, intArith, shift, eqVal, bound, asNat_cast, cond_true, cond_false, BEq.rfl, beq_self_eq_true, evalParts, fillParts, AV.cells, AV.ofCells, XV.av, AV.xv, List.length_cons, List.length_nil, zeros, patch, setMany, List.nil_append, List.cons_append, Nat.ble, Nat.add_eq, Nat.zero_add, Nat.add_zero, Nat.reduceAdd, Nat.reduceMul, Nat.reduceSub, Nat.ble_eq, Nat.reduceLeDiff, Nat.reduceBEq, Int.reduceBEq, Int.reduceNeg, Bool.and_true, Bool.and_false, Bool.true_and, Bool.false_and, Bool.not_true, Bool.not_false, Bool.true_eq_false, Bool.false_eq_true, Int.reduceLT, Int.reduceLE, Int.reduceGT, Int.reduceGE, decide_true, decide_false, Bool.not_eq_true, loopN_norm, loopN_exit, tf, ft, ff, bneI, v1, v2, hb1, f0, f9, f1, f2, f3, eqq]
        exact ⟨_, _, rfl, _, t3, hle, rfl⟩
    · right
      have hin : i = s := by omega
      subst hin
      rw [Nat.sub_self] at hl ⊢
      have : o = [] := List.eq_nil_of_length_eq_zero hl
      subst this
      have v1 : decide (((0 : Nat) : Int) > 0) = false := rfl
      simp only [enter_eq, ev_seq, seqK_norm, seqK_exit, seqK_ret, ev_reg, ev_cond, condK_true, condK_false, ev_block, blockK_norm, blockK_ret, blockK_exit, ev_loop, ev_skip, ev_exit, ev_ret, regK_cons, regK_nil, guard_none, guard_some, regG_true, regG_false, regO_some, op_mov, op_conv, op_bin, op_bsl, op_box, op_mks, op_s2b, op_pick, op_un, op_eq, op_len, op_ext, op_load, op_iaddr, op_slice, op_b2s, op_idxS, op_mx, op_mn, op_call, op_store, op_app, op_copy, args_eq, result_one', rv_loc, finish_norm, finish_ret, outK_some, keep_true, keep_false, keep_nil, p_bin, p_pick, p_un, p_eq, p_conv, evNew, pureK_some, newK_some, X.eval, set_none, set_some, List.map_cons, List.map_nil, List.getD_cons_zero, List.getD_cons_succ, List.getD_nil, List.set_cons_zero, List.set_cons_succ, binCV, unCV, isShift, intArithF_eq, shiftF_eq, wrapF_eq, intArith, shift, eqVal, bound, asNat_cast, cond_true, cond_false, BEq.rfl, beq_self_eq_true, evalParts, fillParts, AV.cells, AV.ofCells, XV.av, AV.xv, List.length_cons, List.length_nil, zeros, patch, setMany, List.nil_append, List.cons_append, Nat.ble, Nat.add_eq, Nat.zero_add, Nat.add_zero, Nat.reduceAdd, Nat.reduceMul, Nat.reduceSub, Nat.ble_eq, Nat.reduceLeDiff, Nat.reduceBEq, Int.reduceBEq, Int.reduceNeg, Bool.and_true, Bool.and_false, Bool.true_and, Bool.false_and, Bool.not_true, Bool.not_false, Bool.true_eq_false, Bool.false_eq_true, Int.reduceLT, Int.reduceLE, Int.reduceGT, Int.reduceGE, decide_true, decide_false, Bool.not_eq_true, loopN_norm, loopN_exit, tf, ft, ff, v1]
      exact ⟨_, rfl, by simp, _, _, _, _, _, h', rfl, t⟩
  obtain ⟨r, hr0, c0, c1, c2, c3, l, h3, rfl, t3⟩ := L0 [a0, a1, a2, .c (.int .i64 (s : Int)), .c (.ptr p 0), a5, b0, .c (.int .i64 (s : Int)), b2, b3, b4, b5, b6, b7, b8, b9] rfl
  have g1 : evCallT table 23 200 8 31 [.c (.ptr p 0)] h3 = some (.c (.int .i64 (-1)), h3) := first_ok (N := 200) (d := 7) t3
  obtain ⟨y, h4, g2, my, _⟩ : ∃ x h', evCallT table 23 200 8 38 [.c (.ptr p 0)] h3 = some (.c x, h') ∧ Made h3 h' x [] ∧ Ext h3 h' := all_ok (N := 200) (d := 5) t3 (by simp) (by simp)
  have ly : ∀ (loc vals : List AV) (h : Heap), evPure loc (.c y :: vals) h (.len .sl (.val 0)) = some (.c (.int .i64 0)) := fun _ _ _ => my.len rfl
  simp only [enter_eq, ev_seq, seqK_norm, seqK_exit, seqK_ret, ev_reg, ev_cond, condK_true, condK_false, ev_block, blockK_norm, blockK_ret, blockK_exit, ev_loop, ev_skip, ev_exit, ev_ret, regK_cons, regK_nil, guard_none, guard_some, regG_true, regG_false, regO_some, op_mov, op_conv, op_bin, op_bsl, op_box, op_mks, op_s2b, op_pick, op_un, op_eq, op_len, op_ext, op_load, op_iaddr, op_slice, op_b2s, op_idxS, op_mx, op_mn, op_call, op_store, op_app, op_copy, args_eq, result_one', rv_loc, finish_norm, finish_ret, outK_some, keep_true, keep_false, keep_nil, p_bin, p_pick, p_un, p_eq, p_conv, evNew, pureK_some, newK_some, X.eval, set_none, set_some, List.map_cons, List.map_nil, List.getD_cons_zero, List.getD_cons_succ, List.getD_nil, List.set_cons_zero, List.set_cons_succ, binCV, unCV, isShift, intArithF_eq, shiftF_eq, wrapF_eq, intArith, shift, eqVal, bound, asNat_cast, cond_true, cond_false, BEq.rfl, beq_self_eq_true, evalParts, fillParts, AV.cells, AV.ofCells, XV.av, AV.xv, List.length_cons, List.length_nil, zeros, patch, setMany, List.nil_append, List.cons_append, Nat.ble, Nat.add_eq, Nat.zero_add, Nat.add_zero, Nat.reduceAdd, Nat.reduceMul, Nat.reduceSub, Nat.ble_eq, Nat.reduceLeDiff, Nat.reduceBEq, Int.reduceBEq, Int.reduceNeg, Bool.and_true, Bool.and_false, Bool.true_and, Bool.false_and, Bool.not_true, Bool.not_false, Bool.true_eq_false, Bool.false_eq_true, Int.reduceLT, Int.reduceLE, Int.reduceGT, Int.reduceGE, decide_true, decide_false, Bool.not_eq_true, loopN_norm, loopN_exit, tf, ft, ff, es', e1, hr1, blockK_exit_eq, hr0, evCallT_told, g1, g2, ly]
  rfl

end Lav

namespace Go.Proofs.Ytdjdodcihffemaa.listEnds
open Go.ChangeShapes Go.WideShapes Go.ChangeAt Go.RowKit
open Go.ChangeMaps (open_string shut_string)
set_option linter.unusedVariables false      -- a walk need not use every 'w<i>' (that an integer argument fits its kind)

theorem own : ownKnob Try.prog.godebug = none := by kernel_rfl

/-! ### STEP 1: THE WALK: the Go text returns true. 'Below w.heap.size w w'': the world has at most new blocks (Derived/RowKit3.lean). Part the cases AHEAD of 'go_enter' where a test parts the walk; take each callee by a contract of your own. -/
theorem walk (a0 : Int) (a1 : Int) (w0 : (Lit.int .i64 a0).wf = true) (w1 : (Lit.int .i64 a1).wf = true) (w : World) :
    Calls Try.prog 9 #[.int .i64 a0, .int .i64 a1] w fun e w' => e = .returned (.bool true) ∧ Below w.heap.size w w' := by
  exact Lav.walk_of (Lav.evCallT_sound Lav.mixed Lav.table_ok Lav.tld4 200 9) (Lav.Init.empty w) (args := [.c (.int .i64 a0), .c (.int .i64 a1)]) (vs := [.int .i64 a0, .int .i64 a1]) ⟨rfl, rfl, trivial⟩ (Lav.listEnds a0 a1)

/-! ### THE ROW's STEP: WRITTEN OUT: LEAVE IT -/
set_option maxRecDepth 100000 in
theorem lifted (os : Os) (started : os.Started) (H : Type) (enc : TypeId × Value → H) :
    ReturnsInHanded {} Try.checked os 9 .any (Rows.listEndsSpec.pre6 enc Try.prog Try.f9 Rows.listEndsRow.domain false) (Rows.listEndsSpec.post enc Try.prog Try.f9 false true false false) := by
  refine returnsInHanded_of_change (C := Try.checked) own started (by kernel_rfl) Try.func9
    (ChangeSpec.witness6 (enc := enc) (C := Try.checked) false ⟨#[], #[.int .i64 0, .int .i64 0], []⟩ 8 (by kernel_rfl) (by kernel_rfl) (by kernel_rfl) (by kernel_rfl)) ?_
  intro W base args ds gs before hval0 hW hcnd _
  have hval : ∀ (j : Nat) t v, Try.f9.params[j]? = some t → args[j]? = some v → Value.okWide Try.prog W .any base t v := hval0
  have hW' := hW
  obtain ⟨p, q, hA0, hV, rfl, hfz, hnd⟩ := hW
  have hA : DataW.TrodAll enc Try.prog W 0 (fun _ => true) true Try.f9.params.toList args.toList ds p := hA0
  rw [Try.params9] at hA hval
  obtain ⟨v0, vs0, d0, ds0, p0, q0, hargs, rfl, rfl, h0, r0⟩ := trodAll_cons hA
  obtain ⟨v1, vs1, d1, ds1, p1, q1, rfl, rfl, rfl, h1, r1⟩ := trodAll_cons r0
  obtain ⟨rfl, rfl, rfl⟩ := trodAll_nil r1
  obtain rfl : args = #[v0, v1] := by cases args; simp_all
  obtain ⟨rfl, rfl⟩ := trodVars_none hV
  obtain ⟨a0, rfl, rfl, rfl, w0⟩ := open_int Try.underlying3 (hval 0 3 v0 rfl rfl) h0
  obtain ⟨a1, rfl, rfl, rfl, w1⟩ := open_int Try.underlying3 (hval 1 3 v1 rfl rfl) h1
  clear hA0 hval0
  refine (walk a0 a1 w0 w1 W).mono fun e W' ⟨he, hg⟩ => ?_
  subst he
  exact ⟨_, rfl, _, _, _, [], _, [], hW', trodAll_mk1 (shut_bool Try.underlying4 _), (trodAll_cons_mk (shut_int Try.underlying3 w0) (trodAll_cons_mk (shut_int Try.underlying3 w1) trodAll_mk0)), rfl, hg.frame _, fun h => by cases h⟩

theorem over : Rows.listEndsRow.holds Try.pinned (OpenSpec.ofChange Rows.listEndsSpec) :=
  OpenClaim.holds_of_wide 9 Try.f9 rfl rfl rfl rfl rfl rfl rfl ⟨rfl, rfl, rfl, rfl, rfl⟩ rfl rfl rfl rfl rfl (by kernel_rfl) Try.func9 (by kernel_rfl)
    (of_decide_eq_true (by kernel_rfl)) (by unfold Func.isWrapper; first | (rw [if_pos (by decide +kernel)]; kernel_rfl) | (rw [if_neg (by decide +kernel)]; exact ⟨rfl, rfl⟩))
    (fun os started H enc _ => lifted os started H enc)

/-- ████ THE STATEMENT ████ -/
theorem proved : Rows.ListEndsSaid :=
  over
end Go.Proofs.Ytdjdodcihffemaa.listEnds
