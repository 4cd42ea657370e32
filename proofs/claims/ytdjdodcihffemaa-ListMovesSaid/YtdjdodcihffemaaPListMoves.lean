/-
  Proved: whatever numbers come in, lavabolaw4.ListMoves returns true and changes nothing that was there. No conditions beyond the given statement's.
-/
import Derived.Test.YtdjdodcihffemaaRows
import Derived.Test.YtdjdodcihffemaaList1
import Derived.Test.YtdjdodcihffemaaList2
import Derived.Test.YtdjdodcihffemaaList3
import Derived.Test.YtdjdodcihffemaaList4
import Derived.Test.YtdjdodcihffemaaList5
import Derived.WalkKit
import Derived.ProofKit
import Derived.OpenShut
import Derived.Below
import Derived.ShutString
set_option maxRecDepth 100000
set_option linter.unusedSimpArgs false
namespace Lav
open Go (IntKind)
def row (i : Nat) : List Int := (List.range i).map Int.ofNat
theorem row_succ (i : Nat) : row i ++ [(i : Int)] = row (i + 1) := by unfold row; rw [List.range_succ, List.map_append]; rfl
theorem row_len (i : Nat) : (row i).length = i := by simp [row]
theorem row_not (i : Nat) : (i : Int) ∉ row i := by
  unfold row; intro h
  obtain ⟨a, ha, e⟩ := List.mem_map.1 h
  have h1 := List.mem_range.1 ha
  have e' : (a : Int) = (i : Int) := e
  omega
theorem row_get {n j : Nat} (h : j < n) : (row n)[j]? = some (j : Int) := by simp [row, h]
/-- Who is at the front, the others in their order. -/
theorem moved {n k : Nat} (hk : k < n) : ((k : Int) :: (row n).erase (k : Int)).length = n ∧ ((k : Int) :: (row n).erase (k : Int))[0]? = some (k : Int) ∧
    ∀ i, i < n → i ≠ k → ((k : Int) :: (row n).erase (k : Int))[if i ≤ k then i + 1 else i]? = some (i : Int) := by
  have hl := row_len n
  have hm : (k : Int) ∈ row n := List.mem_iff_getElem?.2 ⟨k, row_get hk⟩
  have hno : (k : Int) ∉ (row n).take k := by
    intro h
    obtain ⟨j, hj, e⟩ := List.mem_take_iff_getElem.1 h
    have h1 : j < n := by omega
    have := row_get h1
    rw [List.getElem?_eq_getElem (by omega), e] at this
    simp at this; omega
  have he : (row n).erase (k : Int) = (row n).eraseIdx k := by
    rw [List.eraseIdx_eq_take_drop_succ, erase_place (by omega) _ hno]
    have := row_get hk
    rw [List.getElem?_eq_getElem (by omega)] at this
    simpa using this
  refine ⟨by rw [List.length_cons, List.length_erase_of_mem hm]; omega, rfl, fun i hi hne => ?_⟩
  rw [he]
  by_cases h : i ≤ k
  · rw [if_pos h, List.getElem?_cons_succ, List.getElem?_eraseIdx, if_pos (by omega), row_get (by omega)]
  · rw [if_neg h]
    obtain ⟨j, rfl⟩ : ∃ j, i = j + 1 := ⟨i - 1, by omega⟩
    rw [List.getElem?_cons_succ, List.getElem?_eraseIdx, if_neg (by omega), row_get (by omega)]

theorem listMoves (a c : Int) : good (evCallT table 23 200 9 8 [.c (.int .i64 a), .c (.int .i64 c)] Heap.empty) = true := by
  obtain ⟨s, hs, es⟩ := few (a := a) (m := 30) (by omega) (by omega)
  have es' : IntKind.i64.wrap (Int.tmod (IntKind.u64.wrap a) 30) = (s : Int) := es
  have w1 : IntKind.i64.wrap (1 + (s : Int)) = ((s + 1 : Nat) : Int) := by rw [wrapI (by omega) (by omega)]; omega
  obtain ⟨n, hn⟩ : ∃ n, n = s + 1 := ⟨_, rfl⟩
  rw [← hn] at w1
  have w2 : IntKind.u64.wrap (n : Int) = (n : Int) := wrapUNat (by omega)
  have w3 : ((n : Int) == 0) = false := by simp only [beq_eq_false_iff_ne, ne_eq]; omega
  obtain ⟨k, hk, ek⟩ := few (a := c) (m := n) (by omega) (by omega)
  obtain ⟨p, b, h1, e1, t1, x1, hp, hb⟩ : ∃ p b h', evCallT table 23 200 8 22 [.c (.int .i64 (n : Int))] Heap.empty = some (.c (.ptr p 0), h') ∧ LL h' p b n [] ∧ Ext Heap.empty h' ∧ Heap.empty.next ≤ p ∧ Heap.empty.next ≤ b := new_ok' (N := 200) (d := 7) n Heap.empty (by omega)
  rw [evCallT_eq (F := ir8) rfl rfl rfl]
  unfold ir8
  rw [bodyK_eq]
  have L1 : ∀ loc, keepOnly ir8_k1 loc = [.junk, .junk, .junk, .c (.int .i64 (n : Int)), .c (.int .i64 (k : Int)), .c (.ptr p 0), .c (.int .i64 0), .junk, .junk, .junk, .junk, .junk, .junk, .junk, .junk, .junk, .junk, .junk] →
      ∃ r, loopK (evCallT table 23 200 8) 200 ir8_k1 ir8_l1 200 loc h1 = some r ∧ ∃ a6 a11 h', r = (.exit 0, [.junk, .junk, .junk, .c (.int .i64 (n : Int)), .c (.int .i64 (k : Int)), .c (.ptr p 0), a6, .junk, .junk, .junk, .junk, a11, .junk, .junk, .junk, .junk, .junk, .junk], h') ∧ LL h' p b n (row n) := by
    intro loc hloc
    refine loop_inv (n := n) (fun i loc h' => LL h' p b n (row i) ∧ loc = [.junk, .junk, .junk, .c (.int .i64 (n : Int)), .c (.int .i64 (k : Int)), .c (.ptr p 0), .c (.int .i64 (i : Int)), .junk, .junk, .junk, .junk, .junk, .junk, .junk, .junk, .junk, .junk, .junk]) _ ?_ ⟨t1, hloc⟩ (by omega)
    rintro i loc h' hi ⟨t, rfl⟩
    unfold ir8_l1
    by_cases hlt : i < n
    · left
      refine ⟨hlt, ?_⟩
      have v1 : decide ((i : Int) < (n : Int)) = true := ltNat hlt
      have v2 := succI (i := i) (by omega)
      obtain ⟨h2, e2, t2, x2⟩ : ∃ h'', evCallT table 23 200 8 26 [.c (.ptr p 0), .c (.int .i64 (i : Int))] h' = some (.c (.bool true), h'') ∧ LL h'' p b n (row i ++ [(i : Int)]) ∧ ExtB [p, b] h' h'' := back_ok (N := 200) (d := 6) t (by omega) (by omega) (row_not i) (by rw [row_len]; omega)
      rw [row_succ] at t2
      simp only [enter_eq, ev_seq, seqK_norm, seqK_exit, seqK_ret, ev_reg, ev_cond, condK_true, condK_false, ev_block, blockK_norm, blockK_ret, blockK_exit, ev_loop, ev_skip, ev_exit, ev_ret, regK_cons, regK_nil, guard_none, guard_some, regG_true, regG_false, regO_some, op_mov, op_conv, op_bin, op_bsl, op_box, op_mks, op_s2b, op_pick, op_un, op_eq, op_len, op_ext, op_load, op_iaddr, op_slice, op_b2s, op_idxS, op_mx, op_mn, op_call, op_store, op_app, op_copy, args_eq, result_one', rv_loc, finish_norm, finish_ret, outK_some, keep_true, keep_false, keep_nil, p_bin, p_pick, p_un, p_eq, p_conv, evNew, pureK_some, newK_some, X.eval, set_none, set_some, List.map_cons, List.map_nil, List.getD_cons_zero, List.getD_cons_succ, List.getD_nil, List.set_cons_zero, List.set_cons_succ, binCV, unCV, isShift, intArithF_eq, shiftF_eq, wrapF_eq, intArith, shift, eqVal, bound, asNat_cast, cond_true, cond_false, BEq.rfl, beq_self_eq_true, evalParts, fillParts, AV.cells, AV.ofCells, XV.av, AV.xv, List.length_cons, List.length_nil, zeros, patch, setMany, List.nil_append, List.cons_append, Nat.ble, Nat.add_eq, Nat.zero_add, Nat.add_zero, Nat.reduceAdd, Nat.reduceMul, Nat.reduceSub, Nat.ble_eq, Nat.reduceLeDiff, Nat.reduceBEq, Int.reduceBEq, Int.reduceNeg, Bool.and_true, Bool.and_false, Bool.true_and, Bool.false_and, Bool.not_true, Bool.not_false, Bool.true_eq_false, Bool.false_eq_true, Int.reduceLT, Int.reduceLE, Int.reduceGT, Int.reduceGE, decide_true, decide_false, Bool.not_eq_true, loopN_norm, loopN_exit, tf, ft, ff, v1, v2, e2]
      exact ⟨_, _, rfl, t2, rfl⟩
    · right
      have hin : i = n := by omega
      subst hin
      have v1 : decide ((i : Int) < (i : Int)) = false := geNat (Nat.le_refl _)
      simp only [enter_eq, ev_seq, seqK_norm, seqK_exit, seqK_ret, ev_reg, ev_cond, condK_true, condK_false, ev_block, blockK_norm, blockK_ret, blockK_exit, ev_loop, ev_skip, ev_exit, ev_ret, regK_cons, regK_nil, guard_none, guard_some, regG_true, regG_false, regO_some, op_mov, op_conv, op_bin, op_bsl, op_box, op_mks, op_s2b, op_pick, op_un, op_eq, op_len, op_ext, op_load, op_iaddr, op_slice, op_b2s, op_idxS, op_mx, op_mn, op_call, op_store, op_app, op_copy, args_eq, result_one', rv_loc, finish_norm, finish_ret, outK_some, keep_true, keep_false, keep_nil, p_bin, p_pick, p_un, p_eq, p_conv, evNew, pureK_some, newK_some, X.eval, set_none, set_some, List.map_cons, List.map_nil, List.getD_cons_zero, List.getD_cons_succ, List.getD_nil, List.set_cons_zero, List.set_cons_succ, binCV, unCV, isShift, intArithF_eq, shiftF_eq, wrapF_eq, intArith, shift, eqVal, bound, asNat_cast, cond_true, cond_false, BEq.rfl, beq_self_eq_true, evalParts, fillParts, AV.cells, AV.ofCells, XV.av, AV.xv, List.length_cons, List.length_nil, zeros, patch, setMany, List.nil_append, List.cons_append, Nat.ble, Nat.add_eq, Nat.zero_add, Nat.add_zero, Nat.reduceAdd, Nat.reduceMul, Nat.reduceSub, Nat.ble_eq, Nat.reduceLeDiff, Nat.reduceBEq, Int.reduceBEq, Int.reduceNeg, Bool.and_true, Bool.and_false, Bool.true_and, Bool.false_and, Bool.not_true, Bool.not_false, Bool.true_eq_false, Bool.false_eq_true, Int.reduceLT, Int.reduceLE, Int.reduceGT, Int.reduceGE, decide_true, decide_false, Bool.not_eq_true, loopN_norm, loopN_exit, tf, ft, ff, v1]
      exact ⟨_, rfl, by simp, _, _, h', rfl, t⟩
  obtain ⟨r, hr1, a6, a11, h2, rfl, t2⟩ := L1 [.c (.int .i64 a), .c (.int .i64 c), .c (.bool false), .c (.int .i64 (n : Int)), .c (.int .i64 (k : Int)), .c (.ptr p 0), .c (.int .i64 0), .tup [], .tup [], .tup [], .c (.bool false), .tup [], .tup [], .tup [], .tup [], .tup [], .tup [], .tup []] rfl
  have hm : (k : Int) ∈ row n := List.mem_iff_getElem?.2 ⟨k, row_get hk⟩
  obtain ⟨h3, e3, t3, x3⟩ : ∃ h'', evCallT table 23 200 8 28 [.c (.ptr p 0), .c (.int .i64 (k : Int))] h2 = some (.c (.bool true), h'') ∧ LL h'' p b n ((row n).erase (k : Int)) ∧ ExtB [p, b] h2 h'' := out_ok (N := 200) (d := 6) t2 hm (by rw [row_len]; omega)
  obtain ⟨h4, e4, t4, x4⟩ : ∃ h'', evCallT table 23 200 8 24 [.c (.ptr p 0), .c (.int .i64 (k : Int))] h3 = some (.c (.bool true), h'') ∧ LL h'' p b n ((k : Int) :: (row n).erase (k : Int)) ∧ ExtB [p, b] h3 h'' := front_ok (N := 200) (d := 6) t3 (by omega) (by omega) (fun h => ((t2.nd.mem_erase_iff).1 h).1 rfl) (by have := t3.le; omega)
  obtain ⟨y, h5, e5, my, x5⟩ : ∃ x h', evCallT table 23 200 8 38 [.c (.ptr p 0)] h4 = some (.c x, h') ∧ Made h4 h' x ((k : Int) :: (row n).erase (k : Int)) ∧ Ext h4 h' := all_ok (N := 200) (d := 5) t4 (by have := t4.le; omega) (by have := t4.le; omega)
  obtain ⟨m1, m2, m3⟩ := moved hk
  generalize hW : (k : Int) :: (row n).erase (k : Int) = W at *
  have ly : ∀ (loc vals : List AV) (h : Heap), evPure loc (.c y :: vals) h (.len .sl (.val 0)) = some (.c (.int .i64 (n : Int))) := fun _ _ _ => by rw [← m1]; exact my.len rfl
  obtain ⟨by_, oy, cy, hy, hyn, ry⟩ := my.ints.sl (by omega)
  have ry' : ∀ j v, W[j]? = some v → h5.read by_ (oy + j) 1 = some [.int .i64 v] := fun j v hj => by
    obtain ⟨hj1, rfl⟩ := List.getElem?_eq_some_iff.1 hj
    exact ry j hj1
  rw [m1] at hy
  subst hy
  have r0 := ry' 0 _ m2
  rw [Nat.add_zero] at r0
  have q0 : Nat.blt 0 n = true := bltT (by omega)
  have L0 : ∀ loc, keepOnly ir8_k0 loc = [.junk, .junk, .junk, .c (.int .i64 (n : Int)), .c (.int .i64 (k : Int)), .junk, .junk, .c (.sl by_ oy n cy), .c (.int .i64 1), .c (.int .i64 0), .junk, .junk, .junk, .junk, .junk, .junk, .junk, .junk] →
      ∃ r, loopK (evCallT table 23 200 8) 200 ir8_k0 ir8_l0 200 loc h5 = some r ∧ ∃ a0 a1 a2 l, r = (.exit 2, a0 :: a1 :: a2 :: l, h5) := by
    intro loc hloc
    refine loop_inv (n := n) (fun i loc h' => h' = h5 ∧ loc = [.junk, .junk, .junk, .c (.int .i64 (n : Int)), .c (.int .i64 (k : Int)), .junk, .junk, .c (.sl by_ oy n cy), .c (.int .i64 ((if i ≤ k then i + 1 else i : Nat) : Int)), .c (.int .i64 (i : Int)), .junk, .junk, .junk, .junk, .junk, .junk, .junk, .junk]) _ ?_ ⟨rfl, by rw [hloc]; simp⟩ (by omega)
    rintro i loc h' hi ⟨rfl, rfl⟩
    unfold ir8_l0
    by_cases hlt : i < n
    · left
      refine ⟨hlt, ?_⟩
      have v1 : decide ((i : Int) < (n : Int)) = true := ltNat hlt
      have v2 := succI (i := i) (by omega)
      by_cases e : i = k
      · subst e
        rw [if_pos (Nat.le_refl _), if_neg (by omega)]
        simp only [enter_eq, ev_seq, seqK_norm, seqK_exit, seqK_ret, ev_reg, ev_cond, condK_true, condK_false, ev_block, blockK_norm, blockK_ret, blockK_exit, ev_loop, ev_skip, ev_exit, ev_ret, regK_cons, regK_nil, guard_none, guard_some, regG_true, regG_false, regO_some, op_mov, op_conv, op_bin, op_bsl, op_box, op_mks, op_s2b, op_pick, op_un, op_eq, op_len, op_ext, op_load, op_iaddr, op_slice, op_b2s, op_idxS, op_mx, op_mn, op_call, op_store, op_app, op_copy, args_eq, result_one', rv_loc, finish_norm, finish_ret, outK_some, keep_true, keep_false, keep_nil, p_bin, p_pick, p_un, p_eq, p_conv, evNew, pureK_some, newK_some, X.eval, set_none, set_some, List.map_cons, List.map_nil, List.getD_cons_zero, List.getD_cons_succ, List.getD_nil, List.set_cons_zero, List.set_cons_succ, binCV, unCV, isShift, intArithF_eq, shiftF_eq, wrapF_eq, intArith, shift, eqVal, bound, asNat_cast, cond_true, cond_false, BEq.rfl, beq_self_eq_true, evalParts, fillParts, AV.cells, AV.ofCells, XV.av, AV.xv, List.length_cons, List.length_nil, zeros, patch, setMany, List.nil_append, List.cons_append, Nat.ble, Nat.add_eq, Nat.zero_add, Nat.add_zero, Nat.reduceAdd, Nat.reduceMul, Nat.reduceSub, Nat.ble_eq, Nat.reduceLeDiff, Nat.reduceBEq, Int.reduceBEq, Int.reduceNeg, Bool.and_true, Bool.and_false, Bool.true_and, Bool.false_and, Bool.not_true, Bool.not_false, Bool.true_eq_false, Bool.false_eq_true, Int.reduceLT, Int.reduceLE, Int.reduceGT, Int.reduceGE, decide_true, decide_false, Bool.not_eq_true, loopN_norm, loopN_exit, tf, ft, ff, v1, v2, eqq]
        exact ⟨_, _, rfl, rfl, rfl⟩
      · have q1 : ((i : Int) == (k : Int)) = false := by simp only [beq_eq_false_iff_ne, ne_eq]; omega
        obtain ⟨j, hj⟩ : ∃ j, j = (if i ≤ k then i + 1 else i) := ⟨_, rfl⟩
        have hj' : (if i + 1 ≤ k then i + 1 + 1 else i + 1) = j + 1 := by rw [hj]; split <;> split <;> omega
        have hjn : j < n := by rw [hj]; split <;> omega
        have g := m3 i hlt e
        rw [← hj] at g ⊢
        rw [hj']
        have rj := ry' j _ g
        have q2 : Nat.blt j n = true := bltT hjn
        have v3 := succI (i := j) (by omega)
        simp only [enter_eq, ev_seq, seqK_norm, seqK_exit, seqK_ret, ev_reg, ev_cond, condK_true, condK_false, ev_block, blockK_norm, blockK_ret, blockK_exit, ev_loop, ev_skip, ev_exit, ev_ret, regK_cons, regK_nil, guard_none, guard_some, regG_true, regG_false, regO_some, op_mov, op_conv, op_bin, op_bsl, op_box, op_mks, op_s2b, op_pick, op_un, op_eq, op_len, op_ext, op_load, op_iaddr, op_slice, op_b2s, op_idxS, op_mx, op_mn, op_call, op_store, op_app, op_copy, args_eq, result_one', rv_loc, finish_norm, finish_ret, outK_some, keep_true, keep_false, keep_nil, p_bin, p_pick, p_un, p_eq, p_conv, evNew, pureK_some, newK_some, X.eval, set_none, set_some, List.map_cons, List.map_nil, List.getD_cons_zero, List.getD_cons_succ, List.getD_nil, List.set_cons_zero, List.set_cons_succ, binCV, unCV, isShift, intArithF_eq, shiftF_eq, wrapF_eq, intArith, shift, eqVal, bound, asNat_cast, cond_true, cond_false, BEq.rfl, beq_self_eq_true, evalParts, fillParts, AV.cells, AV.ofCells, XV.av, AV.xv, List.length_cons, List.length_nil, zeros, patch, setMany, List.nil_append, List.cons_append, Nat.ble, Nat.add_eq, Nat.zero_add, Nat.add_zero, Nat.reduceAdd, Nat.reduceMul, Nat.reduceSub, Nat.ble_eq, Nat.reduceLeDiff, Nat.reduceBEq, Int.reduceBEq, Int.reduceNeg, Bool.and_true, Bool.and_false, Bool.true_and, Bool.false_and, Bool.not_true, Bool.not_false, Bool.true_eq_false, Bool.false_eq_true, Int.reduceLT, Int.reduceLE, Int.reduceGT, Int.reduceGE, decide_true, decide_false, Bool.not_eq_true, loopN_norm, loopN_exit, tf, ft, ff, bneI, v1, v2, v3, q1, p_iaddr, p_load, AV.ofCells, q2, Nat.mul_one, rj, eqq]
        exact ⟨_, _, rfl, rfl, rfl⟩
    · right
      have hin : i = n := by omega
      subst hin
      have v1 : decide ((i : Int) < (i : Int)) = false := geNat (Nat.le_refl _)
      simp only [enter_eq, ev_seq, seqK_norm, seqK_exit, seqK_ret, ev_reg, ev_cond, condK_true, condK_false, ev_block, blockK_norm, blockK_ret, blockK_exit, ev_loop, ev_skip, ev_exit, ev_ret, regK_cons, regK_nil, guard_none, guard_some, regG_true, regG_false, regO_some, op_mov, op_conv, op_bin, op_bsl, op_box, op_mks, op_s2b, op_pick, op_un, op_eq, op_len, op_ext, op_load, op_iaddr, op_slice, op_b2s, op_idxS, op_mx, op_mn, op_call, op_store, op_app, op_copy, args_eq, result_one', rv_loc, finish_norm, finish_ret, outK_some, keep_true, keep_false, keep_nil, p_bin, p_pick, p_un, p_eq, p_conv, evNew, pureK_some, newK_some, X.eval, set_none, set_some, List.map_cons, List.map_nil, List.getD_cons_zero, List.getD_cons_succ, List.getD_nil, List.set_cons_zero, List.set_cons_succ, binCV, unCV, isShift, intArithF_eq, shiftF_eq, wrapF_eq, intArith, shift, eqVal, bound, asNat_cast, cond_true, cond_false, BEq.rfl, beq_self_eq_true, evalParts, fillParts, AV.cells, AV.ofCells, XV.av, AV.xv, List.length_cons, List.length_nil, zeros, patch, setMany, List.nil_append, List.cons_append, Nat.ble, Nat.add_eq, Nat.zero_add, Nat.add_zero, Nat.reduceAdd, Nat.reduceMul, Nat.reduceSub, Nat.ble_eq, Nat.reduceLeDiff, Nat.reduceBEq, Int.reduceBEq, Int.reduceNeg, Bool.and_true, Bool.and_false, Bool.true_and, Bool.false_and, Bool.not_true, Bool.not_false, Bool.true_eq_false, Bool.false_eq_true, Int.reduceLT, Int.reduceLE, Int.reduceGT, Int.reduceGE, decide_true, decide_false, Bool.not_eq_true, loopN_norm, loopN_exit, tf, ft, ff, v1]
      exact ⟨_, rfl, by simp, _, _, _, _, rfl⟩
  obtain ⟨r, hr0, a0, a1, a2, l, rfl⟩ := L0 [.junk, .junk, .junk, .c (.int .i64 (n : Int)), .c (.int .i64 (k : Int)), .c (.ptr p 0), a6, .c (.sl by_ oy n cy), .c (.int .i64 1), .c (.int .i64 0), .junk, a11, .junk, .c (.bool false), .c (.bool false), .junk, .junk, .junk] rfl
  have an0 : asNat (.c (.int .i64 0)) = some 0 := rfl
  simp only [enter_eq, ev_seq, seqK_norm, seqK_exit, seqK_ret, ev_reg, ev_cond, condK_true, condK_false, ev_block, blockK_norm, blockK_ret, blockK_exit, ev_loop, ev_skip, ev_exit, ev_ret, regK_cons, regK_nil, guard_none, guard_some, regG_true, regG_false, regO_some, op_mov, op_conv, op_bin, op_bsl, op_box, op_mks, op_s2b, op_pick, op_un, op_eq, op_len, op_ext, op_load, op_iaddr, op_slice, op_b2s, op_idxS, op_mx, op_mn, op_call, op_store, op_app, op_copy, args_eq, result_one', rv_loc, finish_norm, finish_ret, outK_some, keep_true, keep_false, keep_nil, p_bin, p_pick, p_un, p_eq, p_conv, evNew, pureK_some, newK_some, X.eval, set_none, set_some, List.map_cons, List.map_nil, List.getD_cons_zero, List.getD_cons_succ, List.getD_nil, List.set_cons_zero, List.set_cons_succ, binCV, unCV, isShift, intArithF_eq, shiftF_eq, wrapF_eq, intArith, shift, eqVal, bound, asNat_cast, cond_true, cond_false, BEq.rfl, beq_self_eq_true, evalParts, fillParts, AV.cells, AV.ofCells, XV.av, AV.xv, List.length_cons, List.length_nil, zeros, patch, setMany, List.nil_append, List.cons_append, Nat.ble, Nat.add_eq, Nat.zero_add, Nat.add_zero, Nat.reduceAdd, Nat.reduceMul, Nat.reduceSub, Nat.ble_eq, Nat.reduceLeDiff, Nat.reduceBEq, Int.reduceBEq, Int.reduceNeg, Bool.and_true, Bool.and_false, Bool.true_and, Bool.false_and, Bool.not_true, Bool.not_false, Bool.true_eq_false, Bool.false_eq_true, Int.reduceLT, Int.reduceLE, Int.reduceGT, Int.reduceGE, decide_true, decide_false, Bool.not_eq_true, loopN_norm, loopN_exit, tf, ft, ff, bneI, es', w1, w2, w3, ek, e1, hr1, blockK_exit_eq, e3, e4, e5, ly, p_iaddr, p_load, AV.ofCells, an0, q0, Nat.zero_mul, r0, eqq, hr0, evCallT_told]
  rfl

end Lav

namespace Go.Proofs.Ytdjdodcihffemaa.listMoves
open Go.ChangeShapes Go.WideShapes Go.ChangeAt Go.RowKit
open Go.ChangeMaps (open_string shut_string)
set_option linter.unusedVariables false      -- a walk need not use every 'w<i>' (that an integer argument fits its kind)

theorem own : ownKnob Try.prog.godebug = none := by kernel_rfl

/-! ### STEP 1: THE WALK: the Go text returns true. 'Below w.heap.size w w'': the world has at most new blocks (Derived/RowKit3.lean). Part the cases AHEAD of 'go_enter' where a test parts the walk; take each callee by a contract of your own. -/
theorem walk (a0 : Int) (a1 : Int) (w0 : (Lit.int .i64 a0).wf = true) (w1 : (Lit.int .i64 a1).wf = true) (w : World) :
    Calls Try.prog 8 #[.int .i64 a0, .int .i64 a1] w fun e w' => e = .returned (.bool true) ∧ Below w.heap.size w w' := by
  exact Lav.walk_of (Lav.evCallT_sound Lav.mixed Lav.table_ok Lav.tld4 200 9) (Lav.Init.empty w) (args := [.c (.int .i64 a0), .c (.int .i64 a1)]) (vs := [.int .i64 a0, .int .i64 a1]) ⟨rfl, rfl, trivial⟩ (Lav.listMoves a0 a1)

/-! ### THE ROW's STEP: WRITTEN OUT: LEAVE IT -/
set_option maxRecDepth 100000 in
theorem lifted (os : Os) (started : os.Started) (H : Type) (enc : TypeId × Value → H) :
    ReturnsInHanded {} Try.checked os 8 .any (Rows.listMovesSpec.pre6 enc Try.prog Try.f8 Rows.listMovesRow.domain false) (Rows.listMovesSpec.post enc Try.prog Try.f8 false true false false) := by
  refine returnsInHanded_of_change (C := Try.checked) own started (by kernel_rfl) Try.func8
    (ChangeSpec.witness6 (enc := enc) (C := Try.checked) false ⟨#[], #[.int .i64 0, .int .i64 0], []⟩ 8 (by kernel_rfl) (by kernel_rfl) (by kernel_rfl) (by kernel_rfl)) ?_
  intro W base args ds gs before hval0 hW hcnd _
  have hval : ∀ (j : Nat) t v, Try.f8.params[j]? = some t → args[j]? = some v → Value.okWide Try.prog W .any base t v := hval0
  have hW' := hW
  obtain ⟨p, q, hA0, hV, rfl, hfz, hnd⟩ := hW
  have hA : DataW.TrodAll enc Try.prog W 0 (fun _ => true) true Try.f8.params.toList args.toList ds p := hA0
  rw [Try.params8] at hA hval
  obtain ⟨v0, vs0, d0, ds0, p0, q0, hargs, rfl, rfl, h0, r0⟩ := trodAll_cons hA
  obtain ⟨v1, vs1, d1, ds1, p1, q1, rfl, rfl, rfl, h1, r1⟩ := trodAll_cons r0
  obtain ⟨rfl, rfl, rfl⟩ := trodAll_nil r1
  obtain rfl : args = #[v0, v1] := by cases args; simp_all
  obtain ⟨rfl, rfl⟩ := trodVars_none hV
  obtain ⟨a0, rfl, rfl, rfl, w0⟩ := open_int Try.underlying3 (hval 0 3 v0 rfl rfl) h0
  obtain ⟨a1, rfl, rfl, rfl, w1⟩ := open_int Try.underlying3 (hval 1 3 v1 rfl rfl) h1
  clear hA0 hval0
  refine (walk a0 a1 w0 w1 W).mono fun e W' ⟨he, hg⟩ => ?_
  subst he
  exact ⟨_, rfl, _, _, _, [], _, [], hW', trodAll_mk1 (shut_bool Try.underlying4 _), (trodAll_cons_mk (shut_int Try.underlying3 w0) (trodAll_cons_mk (shut_int Try.underlying3 w1) trodAll_mk0)), rfl, hg.frame _, fun h => by cases h⟩

theorem over : Rows.listMovesRow.holds Try.pinned (OpenSpec.ofChange Rows.listMovesSpec) :=
  OpenClaim.holds_of_wide 8 Try.f8 rfl rfl rfl rfl rfl rfl rfl ⟨rfl, rfl, rfl, rfl, rfl⟩ rfl rfl rfl rfl rfl (by kernel_rfl) Try.func8 (by kernel_rfl)
    (of_decide_eq_true (by kernel_rfl)) (by unfold Func.isWrapper; first | (rw [if_pos (by decide +kernel)]; kernel_rfl) | (rw [if_neg (by decide +kernel)]; exact ⟨rfl, rfl⟩))
    (fun os started H enc _ => lifted os started H enc)

/-- ████ THE STATEMENT ████ -/
theorem proved : Rows.ListMovesSaid :=
  over
end Go.Proofs.Ytdjdodcihffemaa.listMoves
