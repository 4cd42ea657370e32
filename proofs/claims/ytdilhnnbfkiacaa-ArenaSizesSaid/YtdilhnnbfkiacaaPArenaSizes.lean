/-
  Proved: whatever numbers come in, lavabolaw10.ArenaSizes returns true and changes nothing that was there. No conditions beyond the given statement's.
-/
import Derived.Test.YtdilhnnbfkiacaaRows
import Derived.Test.YtdilhnnbfkiacaaAre5
import Derived.WalkKit
import Derived.ProofKit
import Derived.OpenShut
import Derived.Below
import Derived.ShutString
set_option maxRecDepth 100000
set_option linter.unusedSimpArgs false
namespace Lav
open Go (IntKind)
abbrev frR : Fm := ⟨4, -1, 0, false, .nils⟩
theorem retIdx_one (a : Nat) (l : List Fm) : retIdx (List.replicate a frZ ++ frR :: l) = a := by
  unfold retIdx
  rw [List.findIdx_append, if_neg]
  · rw [List.findIdx_cons, List.length_replicate]
    simp
  · rw [List.length_replicate]
    have := retIdx_rep a
    unfold retIdx at this
    omega
theorem rep_set (a : Nat) (l : List Fm) (g : Fm) (z : Fm) : (List.replicate a z ++ g :: l).set a z = List.replicate (a + 1) z ++ l := by
  rw [List.set_append_right _ _ (by simp), List.length_replicate, Nat.sub_self, List.set_cons_zero, List.replicate_succ', List.append_assoc]
  rfl
def Sz (a b c : Nat) : List Fm := List.replicate a frZ ++ (List.replicate b frR ++ List.replicate c frZ)
theorem Sz_len (a b c : Nat) : (Sz a b c).length = a + (b + c) := by simp [Sz]
/-- One is retired. -/
theorem retire_Sz {k i : Nat} (h : i < k) : retireF (Sz 0 i (k - i)) ((ints k).drop i) = ((i : Int), Sz 0 (i + 1) (k - (i + 1)), (ints k).drop (i + 1)) := by
  rw [ints_drop h]
  obtain ⟨c, hc⟩ : ∃ c, k - i = c + 1 := ⟨k - i - 1, by omega⟩
  have e : Sz 0 i (k - i) = List.replicate i frR ++ frZ :: List.replicate c frZ := by
    rw [hc]; simp [Sz, List.replicate_succ]
  have g : (List.replicate i frR ++ frZ :: List.replicate c frZ)[i]? = some frZ := by
    rw [List.getElem?_append_right (by simp), List.length_replicate, Nat.sub_self]; rfl
  unfold retireF
  simp only [Int.toNat_natCast, e, g]
  have s : (List.replicate i frR ++ frZ :: List.replicate c frZ).set i frR = Sz 0 (i + 1) (k - (i + 1)) := by
    rw [rep_set, show k - (i + 1) = c by omega]; simp [Sz]
  rw [← s]
/-- One comes back. -/
theorem add_back_Sz {i b c : Nat} (h : i + (b + 1 + c) ≤ 32) (o : List Int) : addF (Sz i (b + 1) c) o = ((i : Int), Sz (i + 1) b c, o ++ [(i : Int)]) := by
  have e : Sz i (b + 1) c = List.replicate i frZ ++ frR :: (List.replicate b frR ++ List.replicate c frZ) := by simp [Sz, List.replicate_succ]
  have hl := Sz_len i (b + 1) c
  rw [e] at hl
  unfold addF
  rw [e, retIdx_one, if_neg (by omega), if_pos (by omega), rep_set]
  rfl
theorem Sz_all (a c : Nat) : Sz a 0 c = List.replicate (a + c) frZ := by simp [Sz, List.replicate_append_replicate]
theorem add_new_rep {n : Nat} (o : List Int) : addF (List.replicate n frZ) o = if n = 32 then (-1, List.replicate n frZ, o) else ((n : Int), List.replicate (n + 1) frZ, o ++ [(n : Int)]) := by
  unfold addF
  rw [retIdx_rep]
  by_cases h : n = 32
  · rw [if_pos h, if_pos h]
  · rw [if_neg h, if_neg h, List.length_replicate, if_neg (by omega), rep_succ]

theorem arenaSizes (n out in_ : Int) : good (evCallT table 18 200 9 6 [.c (.int .i64 n), .c (.int .i64 out), .c (.int .i64 in_)] Heap.empty) = true := by
  obtain ⟨k, hk, e1⟩ : ∃ k : Nat, k < 33 ∧ IntKind.i64.wrap (Int.tmod (IntKind.u64.wrap n) 33) = k := few (by omega) (by omega)
  obtain ⟨m, hm, e2⟩ : ∃ k : Nat, k < 40 ∧ IntKind.i64.wrap (Int.tmod (IntKind.u64.wrap out) 40) = k := few (by omega) (by omega)
  obtain ⟨j, hj, e3⟩ : ∃ k : Nat, k < 40 ∧ IntKind.i64.wrap (Int.tmod (IntKind.u64.wrap in_) 40) = k := few (by omega) (by omega)
  obtain ⟨p, a, H0, e4, A0, x0, y0⟩ := new_ar (N := 200) (d := 4) (h := Heap.empty) k (by omega) (by omega)
  have L1 : ∀ loc, keepOnly ir6_k1 loc = [.junk, .junk, .junk, .junk, .c (.int .i64 (k : Int)), .c (.int .i64 (m : Int)), .c (.int .i64 (j : Int)), .c (.ptr p 0), .c (.int .i64 0), .junk, .junk, .junk, .junk, .junk, .junk, .junk, .junk, .junk, .junk, .junk, .junk] →
      ∃ r, loopK (evCallT table 18 200 8) 200 ir6_k1 ir6_l1 200 loc H0 = some r ∧ ∃ a0 a1 a2 a3 a8 a9 a10 a11 a12 a13 a14 a15 a16 a17 a18 a19 a20 G, r = (.exit 0, [a0, a1, a2, a3, .c (.int .i64 (k : Int)), .c (.int .i64 (m : Int)), .c (.int .i64 (j : Int)), .c (.ptr p 0), a8, a9, a10, a11, a12, a13, a14, a15, a16, a17, a18, a19, a20], G) ∧ AH G p a (Sz 0 (min k m) (k - min k m)) ((ints k).drop (min k m)) (fun _ => none) := by
    intro loc hloc
    refine loop_inv (n := m) (fun i loc G => i ≤ m ∧ AH G p a (Sz 0 (min k i) (k - min k i)) ((ints k).drop (min k i)) (fun _ => none) ∧ loc = [.junk, .junk, .junk, .junk, .c (.int .i64 (k : Int)), .c (.int .i64 (m : Int)), .c (.int .i64 (j : Int)), .c (.ptr p 0), .c (.int .i64 (i : Int)), .junk, .junk, .junk, .junk, .junk, .junk, .junk, .junk, .junk, .junk, .junk, .junk]) _ ?_ ⟨Nat.zero_le _, ?_, hloc⟩ (by omega)
    · rintro i loc G hi ⟨him, A, rfl⟩
      unfold ir6_l1
      by_cases hlt : i < m
      · left
        refine ⟨hlt, ?_⟩
        have v1 : decide ((i : Int) < (m : Int)) = true := ltNat hlt
        have v2 := succI (i := i) (by omega)
        obtain ⟨G', e, A', x'⟩ := A.retire (N := 200) (d := 5)
        by_cases hik : i < k
        · rw [show min k i = i by omega, retire_Sz hik] at e A'
          have v3 : decide ((i : Int) < 0) = false := decide_eq_false (by omega)
          have v4 : decide ((i : Int) ≥ (k : Int)) = false := decide_eq_false (by omega)
          have v5 : decide ((i : Int) ≥ 0) = true := decide_eq_true (by omega)
          simp only [enter_eq, ev_seq, seqK_norm, seqK_exit, seqK_ret, ev_reg, ev_cond, condK_true, condK_false, ev_block, blockK_norm, blockK_ret, blockK_exit, ev_loop, ev_skip, ev_exit, ev_ret, regK_cons, regK_nil, guard_none, guard_some, regG_true, regG_false, regO_some, op_mov, op_conv, op_bin, op_bsl, op_box, op_mks, op_s2b, op_pick, op_un, op_eq, op_len, op_ext, op_load, op_iaddr, op_slice, op_b2s, op_idxS, op_mx, op_mn, op_call, op_store, op_app, op_copy, args_eq, result_one', rv_loc, finish_norm, finish_ret, outK_some, keep_true, keep_false, keep_nil, p_bin, p_pick, p_un, p_eq, p_conv, evNew, pureK_some, newK_some, X.eval, set_none, set_some, List.map_cons, List.map_nil, List.getD_cons_zero, List.getD_cons_succ, List.getD_nil, List.set_cons_zero, List.set_cons_succ, binCV, unCV, isShift, intArithF_eq, shiftF_eq, wrapF_eq, intArith, shift, eqVal, bound, asNat_cast, cond_true, cond_false, BEq.rfl, beq_self_eq_true, evalParts, fillParts, AV.cells, AV.ofCells, XV.av, AV.xv, List.length_cons, List.length_nil, zeros, patch, setMany, List.nil_append, List.cons_append, Nat.ble, Nat.add_eq, Nat.zero_add, Nat.add_zero, Nat.reduceAdd, Nat.reduceMul, Nat.reduceSub, Nat.ble_eq, Nat.reduceLeDiff, Nat.reduceBEq, Int.reduceBEq, Int.reduceNeg, Bool.and_true, Bool.and_false, Bool.true_and, Bool.false_and, Bool.not_true, Bool.not_false, Bool.true_eq_false, Bool.false_eq_true, Int.reduceLT, Int.reduceLE, Int.reduceGT, Int.reduceGE, decide_true, decide_false, Bool.not_eq_true, loopN_norm, loopN_exit, tf, ft, ff, v1, v2, e, v3, v4, v5, bneI]
          refine ⟨_, _, rfl, by omega, ?_, rfl⟩
          rw [show min k (i + 1) = i + 1 by omega]
          exact A'
        · have hd : (ints k).drop (min k i) = [] := List.drop_of_length_le (by rw [ints_len]; omega)
          rw [hd] at e A'
          have v4 : decide ((i : Int) ≥ (k : Int)) = true := decide_eq_true (by omega)
          have e' : evCallT table 18 200 8 16 [.c (.ptr p 0)] G = some (.c (.int .i64 (-1)), G') := e
          simp only [enter_eq, ev_seq, seqK_norm, seqK_exit, seqK_ret, ev_reg, ev_cond, condK_true, condK_false, ev_block, blockK_norm, blockK_ret, blockK_exit, ev_loop, ev_skip, ev_exit, ev_ret, regK_cons, regK_nil, guard_none, guard_some, regG_true, regG_false, regO_some, op_mov, op_conv, op_bin, op_bsl, op_box, op_mks, op_s2b, op_pick, op_un, op_eq, op_len, op_ext, op_load, op_iaddr, op_slice, op_b2s, op_idxS, op_mx, op_mn, op_call, op_store, op_app, op_copy, args_eq, result_one', rv_loc, finish_norm, finish_ret, outK_some, keep_true, keep_false, keep_nil, p_bin, p_pick, p_un, p_eq, p_conv, evNew, pureK_some, newK_some, X.eval, set_none, set_some, List.map_cons, List.map_nil, List.getD_cons_zero, List.getD_cons_succ, List.getD_nil, List.set_cons_zero, List.set_cons_succ, binCV, unCV, isShift, intArithF_eq, shiftF_eq, wrapF_eq, intArith, shift, eqVal, bound, asNat_cast, cond_true, cond_false, BEq.rfl, beq_self_eq_true, evalParts, fillParts, AV.cells, AV.ofCells, XV.av, AV.xv, List.length_cons, List.length_nil, zeros, patch, setMany, List.nil_append, List.cons_append, Nat.ble, Nat.add_eq, Nat.zero_add, Nat.add_zero, Nat.reduceAdd, Nat.reduceMul, Nat.reduceSub, Nat.ble_eq, Nat.reduceLeDiff, Nat.reduceBEq, Int.reduceBEq, Int.reduceNeg, Bool.and_true, Bool.and_false, Bool.true_and, Bool.false_and, Bool.not_true, Bool.not_false, Bool.true_eq_false, Bool.false_eq_true, Int.reduceLT, Int.reduceLE, Int.reduceGT, Int.reduceGE, decide_true, decide_false, Bool.not_eq_true, loopN_norm, loopN_exit, tf, ft, ff, v1, v2, e', v4, bneI]
          refine ⟨_, _, rfl, by omega, ?_, rfl⟩
          rw [show min k (i + 1) = min k i by omega, hd]
          exact A'
      · right
        have him' : i = m := by omega
        subst him'
        have v1 : decide ((i : Int) < (i : Int)) = false := geNat (Nat.le_refl _)
        simp only [enter_eq, ev_seq, seqK_norm, seqK_exit, seqK_ret, ev_reg, ev_cond, condK_true, condK_false, ev_block, blockK_norm, blockK_ret, blockK_exit, ev_loop, ev_skip, ev_exit, ev_ret, regK_cons, regK_nil, guard_none, guard_some, regG_true, regG_false, regO_some, op_mov, op_conv, op_bin, op_bsl, op_box, op_mks, op_s2b, op_pick, op_un, op_eq, op_len, op_ext, op_load, op_iaddr, op_slice, op_b2s, op_idxS, op_mx, op_mn, op_call, op_store, op_app, op_copy, args_eq, result_one', rv_loc, finish_norm, finish_ret, outK_some, keep_true, keep_false, keep_nil, p_bin, p_pick, p_un, p_eq, p_conv, evNew, pureK_some, newK_some, X.eval, set_none, set_some, List.map_cons, List.map_nil, List.getD_cons_zero, List.getD_cons_succ, List.getD_nil, List.set_cons_zero, List.set_cons_succ, binCV, unCV, isShift, intArithF_eq, shiftF_eq, wrapF_eq, intArith, shift, eqVal, bound, asNat_cast, cond_true, cond_false, BEq.rfl, beq_self_eq_true, evalParts, fillParts, AV.cells, AV.ofCells, XV.av, AV.xv, List.length_cons, List.length_nil, zeros, patch, setMany, List.nil_append, List.cons_append, Nat.ble, Nat.add_eq, Nat.zero_add, Nat.add_zero, Nat.reduceAdd, Nat.reduceMul, Nat.reduceSub, Nat.ble_eq, Nat.reduceLeDiff, Nat.reduceBEq, Int.reduceBEq, Int.reduceNeg, Bool.and_true, Bool.and_false, Bool.true_and, Bool.false_and, Bool.not_true, Bool.not_false, Bool.true_eq_false, Bool.false_eq_true, Int.reduceLT, Int.reduceLE, Int.reduceGT, Int.reduceGE, decide_true, decide_false, Bool.not_eq_true, loopN_norm, loopN_exit, tf, ft, ff, v1]
        exact ⟨_, rfl, by simp, _, _, _, _, _, _, _, _, _, _, _, _, _, _, _, _, _, G, rfl, A⟩
    · have : Sz 0 (min k 0) (k - min k 0) = List.replicate k frZ := by
        rw [show min k 0 = 0 by omega]; simp [Sz]
      rw [this, show min k 0 = 0 by omega, List.drop_zero]
      exact A0
  obtain ⟨r1, hr1, a0, a1, a2, a3, a8, a9, a10, a11, a12, a13, a14, a15, a16, a17, a18, a19, a20, G1, rfl, A1⟩ := L1 [.c (.int .i64 n), .c (.int .i64 out), .c (.int .i64 in_), .c (.bool false), .c (.int .i64 (k : Int)), .c (.int .i64 (m : Int)), .c (.int .i64 (j : Int)), .c (.ptr p 0), .c (.int .i64 0), .tup [], .tup [], .tup [], .tup [], .tup [], .c (.bool false), .tup [], .tup [], .tup [], .tup [], .tup [], .tup []] rfl
  obtain ⟨gone, hg⟩ : ∃ g, g = min k m := ⟨_, rfl⟩
  rw [← hg] at A1
  have mn : (if (m : Int) < (k : Int) then (m : Int) else (k : Int)) = (gone : Int) := by split <;> omega
  have L2 : ∀ loc, keepOnly ir6_k0 loc = [.junk, .junk, .junk, .junk, .c (.int .i64 (k : Int)), .junk, .c (.int .i64 (j : Int)), .c (.ptr p 0), .junk, .junk, .c (.int .i64 (gone : Int)), .c (.int .i64 0), .junk, .junk, .junk, .junk, .junk, .junk, .junk, .junk, .junk] →
      ∃ r, loopK (evCallT table 18 200 8) 200 ir6_k0 ir6_l0 200 loc G1 = some r ∧ ∃ a0 a1 a2 a3 a5 a8 a9 l a G fs o, r = (.exit 2, a0 :: a1 :: a2 :: a3 :: .c (.int .i64 (k : Int)) :: a5 :: .c (.int .i64 (j : Int)) :: .c (.ptr p 0) :: a8 :: a9 :: .c (.int .i64 (gone : Int)) :: l, G) ∧ AH G p a fs o (fun _ => none) ∧ o.length = min (32 - (gone - j)) (k - gone + j) := by
    intro loc hloc
    refine loop_inv (n := j) (fun i loc G => i ≤ j ∧ (∃ a o, AH G p a (if i ≤ gone then Sz i (gone - i) (k - gone) else List.replicate (min 32 (k + i - gone)) frZ) o (fun _ => none) ∧ o.length = (if i ≤ gone then k - gone + i else min 32 (k + i - gone))) ∧ loc = [.junk, .junk, .junk, .junk, .c (.int .i64 (k : Int)), .junk, .c (.int .i64 (j : Int)), .c (.ptr p 0), .junk, .junk, .c (.int .i64 (gone : Int)), .c (.int .i64 (i : Int)), .junk, .junk, .junk, .junk, .junk, .junk, .junk, .junk, .junk]) _ ?_ ⟨Nat.zero_le _, ⟨a, (ints k).drop gone, ?_, ?_⟩, hloc⟩ (by omega)
    · rintro i loc G hi ⟨hij, ⟨a, o, A, hol⟩, rfl⟩
      unfold ir6_l0
      by_cases hlt : i < j
      · left
        refine ⟨hlt, ?_⟩
        have v1 : decide ((i : Int) < (j : Int)) = true := ltNat hlt
        have v2 := succI (i := i) (by omega)
        have u1 : IntKind.i64.wrap ((k : Int) + (i : Int)) = ((k + i : Nat) : Int) := by rw [wrapI (by omega) (by omega)]; omega
        have u2 : IntKind.i64.wrap (((k + i : Nat) : Int) - (gone : Int)) = ((k + i - gone : Nat) : Int) := by rw [wrapI (by omega) (by omega)]; omega
        obtain ⟨a', G', e, A', x', y'⟩ := A.add (N := 200) (d := 5) (by omega)
        by_cases hig : i < gone
        · rw [if_pos (by omega)] at hol
          obtain ⟨b, hb⟩ : ∃ b, gone - i = b + 1 := ⟨gone - i - 1, by omega⟩
          rw [if_pos (by omega), hb, add_back_Sz (by omega)] at e A'
          have v3 : decide ((i : Int) < (gone : Int)) = true := ltNat hig
          have v4 : decide ((i : Int) ≥ 32) = false := decide_eq_false (by omega)
          simp only [enter_eq, ev_seq, seqK_norm, seqK_exit, seqK_ret, ev_reg, ev_cond, condK_true, condK_false, ev_block, blockK_norm, blockK_ret, blockK_exit, ev_loop, ev_skip, ev_exit, ev_ret, regK_cons, regK_nil, guard_none, guard_some, regG_true, regG_false, regO_some, op_mov, op_conv, op_bin, op_bsl, op_box, op_mks, op_s2b, op_pick, op_un, op_eq, op_len, op_ext, op_load, op_iaddr, op_slice, op_b2s, op_idxS, op_mx, op_mn, op_call, op_store, op_app, op_copy, args_eq, result_one', rv_loc, finish_norm, finish_ret, outK_some, keep_true, keep_false, keep_nil, p_bin, p_pick, p_un, p_eq, p_conv, evNew, pureK_some, newK_some, X.eval, set_none, set_some, List.map_cons, List.map_nil, List.getD_cons_zero, List.getD_cons_succ, List.getD_nil, List.set_cons_zero, List.set_cons_succ, binCV, unCV, isShift, intArithF_eq, shiftF_eq, wrapF_eq, intArith, shift, eqVal, bound, asNat_cast, cond_true, cond_false, BEq.rfl, beq_self_eq_true, evalParts, fillParts, AV.cells, AV.ofCells, XV.av, AV.xv, List.length_cons, List.length_nil, zeros, patch, setMany, List.nil_append, List.cons_append, Nat.ble, Nat.add_eq, Nat.zero_add, Nat.add_zero, Nat.reduceAdd, Nat.reduceMul, Nat.reduceSub, Nat.ble_eq, Nat.reduceLeDiff, Nat.reduceBEq, Int.reduceBEq, Int.reduceNeg, Bool.and_true, Bool.and_false, Bool.true_and, Bool.false_and, Bool.not_true, Bool.not_false, Bool.true_eq_false, Bool.false_eq_true, Int.reduceLT, Int.reduceLE, Int.reduceGT, Int.reduceGE, decide_true, decide_false, Bool.not_eq_true, loopN_norm, loopN_exit, tf, ft, ff, v1, v2, u1, u2, e, v3, v4, bneI]
          refine ⟨_, _, rfl, by omega, ⟨a', o ++ [(i : Int)], ?_, ?_⟩, rfl⟩
          · rw [if_pos (by omega), show gone - (i + 1) = b by omega]; exact A'
          · rw [if_pos (by omega), List.length_append, List.length_singleton]; omega
        · have ef : (if i ≤ gone then Sz i (gone - i) (k - gone) else List.replicate (min 32 (k + i - gone)) frZ) = List.replicate (min 32 (k + i - gone)) frZ := by
            split
            · rw [show gone - i = 0 by omega, Sz_all]; congr 1; omega
            · rfl
          rw [ef, add_new_rep] at e A'
          have v3 : decide ((i : Int) < (gone : Int)) = false := geNat (by omega)
          have hol' : o.length = min 32 (k + i - gone) := by rw [hol]; split <;> omega
          by_cases h32 : 32 ≤ k + i - gone
          · rw [if_pos (by omega)] at e A'
            have v4 : decide (((k + i - gone : Nat) : Int) ≥ 32) = true := decide_eq_true (by omega)
            simp only [enter_eq, ev_seq, seqK_norm, seqK_exit, seqK_ret, ev_reg, ev_cond, condK_true, condK_false, ev_block, blockK_norm, blockK_ret, blockK_exit, ev_loop, ev_skip, ev_exit, ev_ret, regK_cons, regK_nil, guard_none, guard_some, regG_true, regG_false, regO_some, op_mov, op_conv, op_bin, op_bsl, op_box, op_mks, op_s2b, op_pick, op_un, op_eq, op_len, op_ext, op_load, op_iaddr, op_slice, op_b2s, op_idxS, op_mx, op_mn, op_call, op_store, op_app, op_copy, args_eq, result_one', rv_loc, finish_norm, finish_ret, outK_some, keep_true, keep_false, keep_nil, p_bin, p_pick, p_un, p_eq, p_conv, evNew, pureK_some, newK_some, X.eval, set_none, set_some, List.map_cons, List.map_nil, List.getD_cons_zero, List.getD_cons_succ, List.getD_nil, List.set_cons_zero, List.set_cons_succ, binCV, unCV, isShift, intArithF_eq, shiftF_eq, wrapF_eq, intArith, shift, eqVal, bound, asNat_cast, cond_true, cond_false, BEq.rfl, beq_self_eq_true, evalParts, fillParts, AV.cells, AV.ofCells, XV.av, AV.xv, List.length_cons, List.length_nil, zeros, patch, setMany, List.nil_append, List.cons_append, Nat.ble, Nat.add_eq, Nat.zero_add, Nat.add_zero, Nat.reduceAdd, Nat.reduceMul, Nat.reduceSub, Nat.ble_eq, Nat.reduceLeDiff, Nat.reduceBEq, Int.reduceBEq, Int.reduceNeg, Bool.and_true, Bool.and_false, Bool.true_and, Bool.false_and, Bool.not_true, Bool.not_false, Bool.true_eq_false, Bool.false_eq_true, Int.reduceLT, Int.reduceLE, Int.reduceGT, Int.reduceGE, decide_true, decide_false, Bool.not_eq_true, loopN_norm, loopN_exit, tf, ft, ff, v1, v2, u1, u2, e, v3, v4, bneI]
            refine ⟨_, _, rfl, by omega, ⟨a', o, ?_, ?_⟩, rfl⟩
            · rw [if_neg (by omega), show min 32 (k + (i + 1) - gone) = min 32 (k + i - gone) by omega]; exact A'
            · rw [if_neg (by omega), hol']; omega
          · rw [if_neg (by omega), show min 32 (k + i - gone) = k + i - gone by omega] at e A'
            have v4 : decide (((k + i - gone : Nat) : Int) ≥ 32) = false := decide_eq_false (by omega)
            simp only [enter_eq, ev_seq, seqK_norm, seqK_exit, seqK_ret, ev_reg, ev_cond, condK_true, condK_false, ev_block, blockK_norm, blockK_ret, blockK_exit, ev_loop, ev_skip, ev_exit, ev_ret, regK_cons, regK_nil, guard_none, guard_some, regG_true, regG_false, regO_some, op_mov, op_conv, op_bin, op_bsl, op_box, op_mks, op_s2b, op_pick, op_un, op_eq, op_len, op_ext, op_load, op_iaddr, op_slice, op_b2s, op_idxS, op_mx, op_mn, op_call, op_store, op_app, op_copy, args_eq, result_one', rv_loc, finish_norm, finish_ret, outK_some, keep_true, keep_false, keep_nil, p_bin, p_pick, p_un, p_eq, p_conv, evNew, pureK_some, newK_some, X.eval, set_none, set_some, List.map_cons, List.map_nil, List.getD_cons_zero, List.getD_cons_succ, List.getD_nil, List.set_cons_zero, List.set_cons_succ, binCV, unCV, isShift, intArithF_eq, shiftF_eq, wrapF_eq, intArith, shift, eqVal, bound, asNat_cast, cond_true, cond_false, BEq.rfl, beq_self_eq_true, evalParts, fillParts, AV.cells, AV.ofCells, XV.av, AV.xv, List.length_cons, List.length_nil, zeros, patch, setMany, List.nil_append, List.cons_append, Nat.ble, Nat.add_eq, Nat.zero_add, Nat.add_zero, Nat.reduceAdd, Nat.reduceMul, Nat.reduceSub, Nat.ble_eq, Nat.reduceLeDiff, Nat.reduceBEq, Int.reduceBEq, Int.reduceNeg, Bool.and_true, Bool.and_false, Bool.true_and, Bool.false_and, Bool.not_true, Bool.not_false, Bool.true_eq_false, Bool.false_eq_true, Int.reduceLT, Int.reduceLE, Int.reduceGT, Int.reduceGE, decide_true, decide_false, Bool.not_eq_true, loopN_norm, loopN_exit, tf, ft, ff, v1, v2, u1, u2, e, v3, v4, bneI]
            refine ⟨_, _, rfl, by omega, ⟨a', o ++ [((k + i - gone : Nat) : Int)], ?_, ?_⟩, rfl⟩
            · rw [if_neg (by omega), show min 32 (k + (i + 1) - gone) = k + i - gone + 1 by omega]; exact A'
            · rw [if_neg (by omega), List.length_append, List.length_singleton, hol']; omega
      · right
        have hij' : i = j := by omega
        subst hij'
        have v1 : decide ((i : Int) < (i : Int)) = false := geNat (Nat.le_refl _)
        simp only [enter_eq, ev_seq, seqK_norm, seqK_exit, seqK_ret, ev_reg, ev_cond, condK_true, condK_false, ev_block, blockK_norm, blockK_ret, blockK_exit, ev_loop, ev_skip, ev_exit, ev_ret, regK_cons, regK_nil, guard_none, guard_some, regG_true, regG_false, regO_some, op_mov, op_conv, op_bin, op_bsl, op_box, op_mks, op_s2b, op_pick, op_un, op_eq, op_len, op_ext, op_load, op_iaddr, op_slice, op_b2s, op_idxS, op_mx, op_mn, op_call, op_store, op_app, op_copy, args_eq, result_one', rv_loc, finish_norm, finish_ret, outK_some, keep_true, keep_false, keep_nil, p_bin, p_pick, p_un, p_eq, p_conv, evNew, pureK_some, newK_some, X.eval, set_none, set_some, List.map_cons, List.map_nil, List.getD_cons_zero, List.getD_cons_succ, List.getD_nil, List.set_cons_zero, List.set_cons_succ, binCV, unCV, isShift, intArithF_eq, shiftF_eq, wrapF_eq, intArith, shift, eqVal, bound, asNat_cast, cond_true, cond_false, BEq.rfl, beq_self_eq_true, evalParts, fillParts, AV.cells, AV.ofCells, XV.av, AV.xv, List.length_cons, List.length_nil, zeros, patch, setMany, List.nil_append, List.cons_append, Nat.ble, Nat.add_eq, Nat.zero_add, Nat.add_zero, Nat.reduceAdd, Nat.reduceMul, Nat.reduceSub, Nat.ble_eq, Nat.reduceLeDiff, Nat.reduceBEq, Int.reduceBEq, Int.reduceNeg, Bool.and_true, Bool.and_false, Bool.true_and, Bool.false_and, Bool.not_true, Bool.not_false, Bool.true_eq_false, Bool.false_eq_true, Int.reduceLT, Int.reduceLE, Int.reduceGT, Int.reduceGE, decide_true, decide_false, Bool.not_eq_true, loopN_norm, loopN_exit, tf, ft, ff, v1]
        refine ⟨_, rfl, by simp, _, _, _, _, _, _, _, _, a, G, _, o, rfl, A, ?_⟩
        rw [hol]; split <;> omega
    · rw [if_pos (by omega)]; exact A1
    · rw [if_pos (by omega), List.length_drop, ints_len]; omega
  obtain ⟨r2, hr2, b0, b1, b2, b3, b5, b8, b9, l, a', G2, fs, o, rfl, A2, ho⟩ := L2 [a0, a1, a2, a3, .c (.int .i64 (k : Int)), .c (.int .i64 (m : Int)), .c (.int .i64 (j : Int)), .c (.ptr p 0), a8, a9, .c (.int .i64 (gone : Int)), .c (.int .i64 0), a12, a13, a14, a15, a16, a17, a18, a19, a20] rfl
  have e5 := free_ok (N := 200) (d := 6) A2.ar
  rw [ho] at e5
  have z1 : IntKind.i64.wrap ((gone : Int) - (j : Int)) = (gone : Int) - (j : Int) := wrapI (by omega) (by omega)
  have z2 : (if (gone : Int) - (j : Int) > 0 then (gone : Int) - (j : Int) else 0) = ((gone - j : Nat) : Int) := by split <;> omega
  have z3 : IntKind.i64.wrap (32 - ((gone - j : Nat) : Int)) = ((32 - (gone - j) : Nat) : Int) := by rw [wrapI (by omega) (by omega)]; omega
  have z4 : IntKind.i64.wrap ((k : Int) - (gone : Int)) = ((k - gone : Nat) : Int) := by rw [wrapI (by omega) (by omega)]; omega
  have z5 : IntKind.i64.wrap (((k - gone : Nat) : Int) + (j : Int)) = ((k - gone + j : Nat) : Int) := by rw [wrapI (by omega) (by omega)]; omega
  have z6 : (if ((k - gone + j : Nat) : Int) < ((32 - (gone - j) : Nat) : Int) then ((k - gone + j : Nat) : Int) else ((32 - (gone - j) : Nat) : Int)) = ((min (32 - (gone - j)) (k - gone + j) : Nat) : Int) := by split <;> omega
  rw [evCallT_eq (F := ir6) rfl rfl rfl]
  unfold ir6
  rw [bodyK_eq]
  simp only [enter_eq, ev_seq, seqK_norm, seqK_exit, seqK_ret, ev_reg, ev_cond, condK_true, condK_false, ev_block, blockK_norm, blockK_ret, blockK_exit, ev_loop, ev_skip, ev_exit, ev_ret, regK_cons, regK_nil, guard_none, guard_some, regG_true, regG_false, regO_some, op_mov, op_conv, op_bin, op_bsl, op_box, op_mks, op_s2b, op_pick, op_un, op_eq, op_len, op_ext, op_load, op_iaddr, op_slice, op_b2s, op_idxS, op_mx, op_mn, op_call, op_store, op_app, op_copy, args_eq, result_one', rv_loc, finish_norm, finish_ret, outK_some, keep_true, keep_false, keep_nil, p_bin, p_pick, p_un, p_eq, p_conv, evNew, pureK_some, newK_some, X.eval, set_none, set_some, List.map_cons, List.map_nil, List.getD_cons_zero, List.getD_cons_succ, List.getD_nil, List.set_cons_zero, List.set_cons_succ, binCV, unCV, isShift, intArithF_eq, shiftF_eq, wrapF_eq, intArith, shift, eqVal, bound, asNat_cast, cond_true, cond_false, BEq.rfl, beq_self_eq_true, evalParts, fillParts, AV.cells, AV.ofCells, XV.av, AV.xv, List.length_cons, List.length_nil, zeros, patch, setMany, List.nil_append, List.cons_append, Nat.ble, Nat.add_eq, Nat.zero_add, Nat.add_zero, Nat.reduceAdd, Nat.reduceMul, Nat.reduceSub, Nat.ble_eq, Nat.reduceLeDiff, Nat.reduceBEq, Int.reduceBEq, Int.reduceNeg, Bool.and_true, Bool.and_false, Bool.true_and, Bool.false_and, Bool.not_true, Bool.not_false, Bool.true_eq_false, Bool.false_eq_true, Int.reduceLT, Int.reduceLE, Int.reduceGT, Int.reduceGE, decide_true, decide_false, Bool.not_eq_true, loopN_norm, loopN_exit, tf, ft, ff, e1, e2, e3, e4, hr1, blockK_exit_eq, p_mn, p_mx, foldInt, mn, hr2, evCallT_told, e5, z1, z2, z3, z4, z5, z6]
  rfl
end Lav

namespace Go.Proofs.Ytdilhnnbfkiacaa.arenaSizes
open Go.ChangeShapes Go.WideShapes Go.ChangeAt Go.RowKit
open Go.ChangeMaps (open_string shut_string)
set_option linter.unusedVariables false      -- a walk need not use every 'w<i>' (that an integer argument fits its kind)

theorem own : ownKnob Try.prog.godebug = none := by kernel_rfl

/-! ### STEP 1: THE WALK: the Go text returns true. 'Below w.heap.size w w'': the world has at most new blocks (Derived/RowKit3.lean). Part the cases AHEAD of 'go_enter' where a test parts the walk; take each callee by a contract of your own. -/
theorem walk (a0 : Int) (a1 : Int) (a2 : Int) (w0 : (Lit.int .i64 a0).wf = true) (w1 : (Lit.int .i64 a1).wf = true) (w2 : (Lit.int .i64 a2).wf = true) (w : World) :
    Calls Try.prog 6 #[.int .i64 a0, .int .i64 a1, .int .i64 a2] w fun e w' => e = .returned (.bool true) ∧ Below w.heap.size w w' := by
  exact Lav.walk_of (Lav.evCallT_sound Lav.mixed Lav.table_ok Lav.tld10 200 9) (Lav.Init.empty w) (args := [.c (.int .i64 a0), .c (.int .i64 a1), .c (.int .i64 a2)]) (vs := [.int .i64 a0, .int .i64 a1, .int .i64 a2]) ⟨rfl, rfl, rfl, trivial⟩ (Lav.arenaSizes a0 a1 a2)

/-! ### THE ROW's STEP: WRITTEN OUT: LEAVE IT -/
set_option maxRecDepth 100000 in
theorem lifted (os : Os) (started : os.Started) (H : Type) (enc : TypeId × Value → H) :
    ReturnsInHanded {} Try.checked os 6 .any (Rows.arenaSizesSpec.pre6 enc Try.prog Try.f6 Rows.arenaSizesRow.domain false) (Rows.arenaSizesSpec.post enc Try.prog Try.f6 false true false false) := by
  refine returnsInHanded_of_change (C := Try.checked) own started (by kernel_rfl) Try.func6
    (ChangeSpec.witness6 (enc := enc) (C := Try.checked) false ⟨#[], #[.int .i64 0, .int .i64 0, .int .i64 0], []⟩ 8 (by kernel_rfl) (by kernel_rfl) (by kernel_rfl) (by kernel_rfl)) ?_
  intro W base args ds gs before hval0 hW hcnd _
  have hval : ∀ (j : Nat) t v, Try.f6.params[j]? = some t → args[j]? = some v → Value.okWide Try.prog W .any base t v := hval0
  have hW' := hW
  obtain ⟨p, q, hA0, hV, rfl, hfz, hnd⟩ := hW
  have hA : DataW.TrodAll enc Try.prog W 0 (fun _ => true) true Try.f6.params.toList args.toList ds p := hA0
  rw [Try.params6] at hA hval
  obtain ⟨v0, vs0, d0, ds0, p0, q0, hargs, rfl, rfl, h0, r0⟩ := trodAll_cons hA
  obtain ⟨v1, vs1, d1, ds1, p1, q1, rfl, rfl, rfl, h1, r1⟩ := trodAll_cons r0
  obtain ⟨v2, vs2, d2, ds2, p2, q2, rfl, rfl, rfl, h2, r2⟩ := trodAll_cons r1
  obtain ⟨rfl, rfl, rfl⟩ := trodAll_nil r2
  obtain rfl : args = #[v0, v1, v2] := by cases args; simp_all
  obtain ⟨rfl, rfl⟩ := trodVars_none hV
  obtain ⟨a0, rfl, rfl, rfl, w0⟩ := open_int Try.underlying3 (hval 0 3 v0 rfl rfl) h0
  obtain ⟨a1, rfl, rfl, rfl, w1⟩ := open_int Try.underlying3 (hval 1 3 v1 rfl rfl) h1
  obtain ⟨a2, rfl, rfl, rfl, w2⟩ := open_int Try.underlying3 (hval 2 3 v2 rfl rfl) h2
  clear hA0 hval0
  refine (walk a0 a1 a2 w0 w1 w2 W).mono fun e W' ⟨he, hg⟩ => ?_
  subst he
  exact ⟨_, rfl, _, _, _, [], _, [], hW', trodAll_mk1 (shut_bool Try.underlying4 _), (trodAll_cons_mk (shut_int Try.underlying3 w0) (trodAll_cons_mk (shut_int Try.underlying3 w1) (trodAll_cons_mk (shut_int Try.underlying3 w2) trodAll_mk0))), rfl, hg.frame _, fun h => by cases h⟩

theorem over : Rows.arenaSizesRow.holds Try.pinned (OpenSpec.ofChange Rows.arenaSizesSpec) :=
  OpenClaim.holds_of_wide 6 Try.f6 rfl rfl rfl rfl rfl rfl rfl ⟨rfl, rfl, rfl, rfl, rfl⟩ rfl rfl rfl rfl rfl (by kernel_rfl) Try.func6 (by kernel_rfl)
    (of_decide_eq_true (by kernel_rfl)) (by unfold Func.isWrapper; first | (rw [if_pos (by decide +kernel)]; kernel_rfl) | (rw [if_neg (by decide +kernel)]; exact ⟨rfl, rfl⟩))
    (fun os started H enc _ => lifted os started H enc)

/-- ████ THE STATEMENT ████ -/
theorem proved : Rows.ArenaSizesSaid :=
  over
end Go.Proofs.Ytdilhnnbfkiacaa.arenaSizes
