/-
  Layer 10: a new arena.
-/
import Derived.Test.YtdilhnnbfkiacaaAre4
set_option maxRecDepth 100000
set_option linter.unusedSimpArgs false
namespace Lav
open Go (IntKind)

def ints (k : Nat) : List Int := (List.range k).map fun j : Nat => (j : Int)
theorem ints_succ (k : Nat) : ints (k + 1) = ints k ++ [(k : Int)] := by simp [ints, List.range_succ]
theorem ints_len (k : Nat) : (ints k).length = k := by simp [ints]
theorem ints_drop {k i : Nat} (h : i < k) : (ints k).drop i = (i : Int) :: (ints k).drop (i + 1) := by
  rw [List.drop_eq_getElem_cons (by rw [ints_len]; exact h)]
  congr 1
  simp [ints]
theorem retIdx_rep (k : Nat) : retIdx (List.replicate k frZ) = k := by
  have : (List.replicate k frZ).findIdx (fun f => f.st == 4) = (List.replicate k frZ).length := List.findIdx_eq_length.2 fun x hx => by rw [List.eq_of_mem_replicate hx]; rfl
  rw [List.length_replicate] at this
  exact this
theorem rep_succ (k : Nat) : List.replicate k frZ ++ [frZ] = List.replicate (k + 1) frZ := by rw [List.replicate_succ']

section
variable {N d : Nat} {h : Heap}

theorem LL.qb {h : Heap} {p b n : Nat} {o : List Int} (t : LL h p b n o) : p ≠ b := by obtain ⟨st, t, _⟩ := t; exact t.ne
theorem DT.qb {h : Heap} {p b n : Nat} {M : Nat → Option Int} {c : Nat} (t : DT h p b n M c) : p ≠ b := by obtain ⟨⟨ss, _, t, _⟩, _⟩ := t; exact t.ne

theorem new_none {n : Int} (hn : n < 0 ∨ n > 32) : evCallT table 18 N (d + 1) 8 [.c (.int .i64 n)] h = some (.c .nilp, h) := by
  rw [evCallT_eq (F := ir8) rfl rfl rfl]
  unfold ir8
  rw [bodyK_eq]
  by_cases c1 : n < 0
  · have v1 : decide (n < 0) = true := decide_eq_true c1
    simp only [enter_eq, ev_seq, seqK_norm, seqK_exit, seqK_ret, ev_reg, ev_cond, condK_true, condK_false, ev_block, blockK_norm, blockK_ret, blockK_exit, ev_loop, ev_skip, ev_exit, ev_ret, regK_cons, regK_nil, guard_none, guard_some, regG_true, regG_false, regO_some, op_mov, op_conv, op_bin, op_bsl, op_box, op_mks, op_s2b, op_pick, op_un, op_eq, op_len, op_ext, op_load, op_iaddr, op_slice, op_b2s, op_idxS, op_mx, op_mn, op_call, op_store, op_app, op_copy, args_eq, result_one', rv_loc, finish_norm, finish_ret, outK_some, keep_true, keep_false, keep_nil, p_bin, p_pick, p_un, p_eq, p_conv, evNew, pureK_some, newK_some, X.eval, set_none, set_some, List.map_cons, List.map_nil, List.getD_cons_zero, List.getD_cons_succ, List.getD_nil, List.set_cons_zero, List.set_cons_succ, binCV, unCV, isShift, intArithF_eq, shiftF_eq, wrapF_eq, intArith, shift, eqVal, bound, asNat_cast, cond_true, cond_false, BEq.rfl, beq_self_eq_true, evalParts, fillParts, AV.cells, AV.ofCells, XV.av, AV.xv, List.length_cons, List.length_nil, zeros, patch, setMany, List.nil_append, List.cons_append, Nat.ble, Nat.add_eq, Nat.zero_add, Nat.add_zero, Nat.reduceAdd, Nat.reduceMul, Nat.reduceSub, Nat.ble_eq, Nat.reduceLeDiff, Nat.reduceBEq, Int.reduceBEq, Int.reduceNeg, Bool.and_true, Bool.and_false, Bool.true_and, Bool.false_and, Bool.not_true, Bool.not_false, Bool.true_eq_false, Bool.false_eq_true, Int.reduceLT, Int.reduceLE, Int.reduceGT, Int.reduceGE, decide_true, decide_false, Bool.not_eq_true, loopN_norm, loopN_exit, tf, ft, ff, v1]
  · have v1 : decide (n < 0) = false := decide_eq_false c1
    have v2 : decide (n > 32) = true := decide_eq_true (by omega)
    simp only [enter_eq, ev_seq, seqK_norm, seqK_exit, seqK_ret, ev_reg, ev_cond, condK_true, condK_false, ev_block, blockK_norm, blockK_ret, blockK_exit, ev_loop, ev_skip, ev_exit, ev_ret, regK_cons, regK_nil, guard_none, guard_some, regG_true, regG_false, regO_some, op_mov, op_conv, op_bin, op_bsl, op_box, op_mks, op_s2b, op_pick, op_un, op_eq, op_len, op_ext, op_load, op_iaddr, op_slice, op_b2s, op_idxS, op_mx, op_mn, op_call, op_store, op_app, op_copy, args_eq, result_one', rv_loc, finish_norm, finish_ret, outK_some, keep_true, keep_false, keep_nil, p_bin, p_pick, p_un, p_eq, p_conv, evNew, pureK_some, newK_some, X.eval, set_none, set_some, List.map_cons, List.map_nil, List.getD_cons_zero, List.getD_cons_succ, List.getD_nil, List.set_cons_zero, List.set_cons_succ, binCV, unCV, isShift, intArithF_eq, shiftF_eq, wrapF_eq, intArith, shift, eqVal, bound, asNat_cast, cond_true, cond_false, BEq.rfl, beq_self_eq_true, evalParts, fillParts, AV.cells, AV.ofCells, XV.av, AV.xv, List.length_cons, List.length_nil, zeros, patch, setMany, List.nil_append, List.cons_append, Nat.ble, Nat.add_eq, Nat.zero_add, Nat.add_zero, Nat.reduceAdd, Nat.reduceMul, Nat.reduceSub, Nat.ble_eq, Nat.reduceLeDiff, Nat.reduceBEq, Int.reduceBEq, Int.reduceNeg, Bool.and_true, Bool.and_false, Bool.true_and, Bool.false_and, Bool.not_true, Bool.not_false, Bool.true_eq_false, Bool.false_eq_true, Int.reduceLT, Int.reduceLE, Int.reduceGT, Int.reduceGE, decide_true, decide_false, Bool.not_eq_true, loopN_norm, loopN_exit, tf, ft, ff, v1, v2]

theorem new_ar (n : Nat) (hn : n ≤ 32) (hN : 100 ≤ N) : ∃ p a h', evCallT table 18 N (d + 4) 8 [.c (.int .i64 (n : Int))] h = some (.c (.ptr p 0), h') ∧ AH h' p a (List.replicate n frZ) (ints n) (fun _ => none) ∧ Ext h h' ∧ ∀ k ∈ own p a, h.next ≤ k := by
  have v1 : decide ((n : Int) < 0) = false := decide_eq_false (by omega)
  have v2 : decide ((n : Int) > 32) = false := decide_eq_false (by omega)
  obtain ⟨q, lb, H1, e1, l1, x1, q1, b1⟩ := new_ok' (N := N) (d := d + 2) 32 h (by omega)
  have e1' : evCallT table 18 N (d + 3) 33 [.c (.int .i64 32)] h = some (.c (.ptr q 0), H1) := e1
  obtain ⟨r, tb, H2, e2, t2, x2, r1, b2, r2, b3⟩ := DT.new (N := N) (d := d + 1) 96 H1 (by omega) (by omega) (by omega)
  have e2' : evCallT table 18 N (d + 3) 34 [.c (.int .i64 96)] H1 = some (.c (.ptr r 0), H2) := e2
  have hq := l1.pn
  have hlb := l1.bn
  have nq := l1.qb
  have nr := t2.qb
  have l2 := l1.ext (x2.b []) (by simp) (by simp)
  obtain ⟨H3, hH3⟩ : ∃ H, H = H2.new (.cells [.nils, .ptr q 0, .ptr r 0]) := ⟨_, rfl⟩
  have x3 : Ext H2 H3 := by rw [hH3]; exact (Ext.refl _).new _
  have n3 : H3.next = H2.next + 1 := by rw [hH3]; rfl
  have A0 : AH H3 H2.next ⟨.nils, q, lb, r, tb⟩ [] [] (fun _ => none) := by
    refine ⟨⟨by rw [hH3]; exact get_new_at, by omega, Mine.nil, l2.ext (x3.b []) (by simp) (by simp), t2.ext (x3.b []) (by simp) (by simp), ?_, fun k hk => by cases hk⟩, by simp, ?_, ?_, fun i f hf => by simp at hf⟩
    · have := x2.1
      simp
      omega
    · intro x; simp
    · intro g v; simp
  have L : ∀ loc, keepOnly ir8_k0 loc = [.junk, .junk, .c (.ptr H2.next 0), .junk, .c (.int .i64 (n : Int)), .c (.int .i64 0), .junk] →
      ∃ r, loopK (evCallT table 18 N (d + 3)) N ir8_k0 ir8_l0 N loc H3 = some r ∧ ∃ a0 a1 l a G, r = (.exit 0, a0 :: a1 :: .c (.ptr H2.next 0) :: l, G) ∧ AH G H2.next a (List.replicate n frZ) (ints n) (fun _ => none) ∧ Ext h G ∧ ∀ k ∈ own H2.next a, h.next ≤ k := by
    intro loc hloc
    refine loop_inv (n := n) (fun i loc G => i ≤ n ∧ ∃ a, AH G H2.next a (List.replicate i frZ) (ints i) (fun _ => none) ∧ Ext h G ∧ (∀ k ∈ own H2.next a, h.next ≤ k) ∧ loc = [.junk, .junk, .c (.ptr H2.next 0), .junk, .c (.int .i64 (n : Int)), .c (.int .i64 (i : Int)), .junk]) _ ?_ ⟨Nat.zero_le _, ⟨.nils, q, lb, r, tb⟩, A0, (x1.trans x2).trans x3, ?_, hloc⟩ (by omega)
    · rintro i loc G hi ⟨hin, a, A, xg, yg, rfl⟩
      unfold ir8_l0
      by_cases hlt : i < n
      · left
        refine ⟨hlt, ?_⟩
        have w1 : decide ((i : Int) < (n : Int)) = true := ltNat hlt
        have w2 := succI (i := i) (by omega)
        obtain ⟨a', G', e, A', x', y'⟩ := A.add (N := N) (d := d) hN
        have er : addF (List.replicate i frZ) (ints i) = ((i : Int), List.replicate (i + 1) frZ, ints (i + 1)) := by
          unfold addF
          rw [retIdx_rep, if_neg (by omega), List.length_replicate, if_neg (by omega), rep_succ, ints_succ]
        rw [er] at e A'
        simp only [enter_eq, ev_seq, seqK_norm, seqK_exit, seqK_ret, ev_reg, ev_cond, condK_true, condK_false, ev_block, blockK_norm, blockK_ret, blockK_exit, ev_loop, ev_skip, ev_exit, ev_ret, regK_cons, regK_nil, guard_none, guard_some, regG_true, regG_false, regO_some, op_mov, op_conv, op_bin, op_bsl, op_box, op_mks, op_s2b, op_pick, op_un, op_eq, op_len, op_ext, op_load, op_iaddr, op_slice, op_b2s, op_idxS, op_mx, op_mn, op_call, op_store, op_app, op_copy, args_eq, result_one', rv_loc, finish_norm, finish_ret, outK_some, keep_true, keep_false, keep_nil, p_bin, p_pick, p_un, p_eq, p_conv, evNew, pureK_some, newK_some, X.eval, set_none, set_some, List.map_cons, List.map_nil, List.getD_cons_zero, List.getD_cons_succ, List.getD_nil, List.set_cons_zero, List.set_cons_succ, binCV, unCV, isShift, intArithF_eq, shiftF_eq, wrapF_eq, intArith, shift, eqVal, bound, asNat_cast, cond_true, cond_false, BEq.rfl, beq_self_eq_true, evalParts, fillParts, AV.cells, AV.ofCells, XV.av, AV.xv, List.length_cons, List.length_nil, zeros, patch, setMany, List.nil_append, List.cons_append, Nat.ble, Nat.add_eq, Nat.zero_add, Nat.add_zero, Nat.reduceAdd, Nat.reduceMul, Nat.reduceSub, Nat.ble_eq, Nat.reduceLeDiff, Nat.reduceBEq, Int.reduceBEq, Int.reduceNeg, Bool.and_true, Bool.and_false, Bool.true_and, Bool.false_and, Bool.not_true, Bool.not_false, Bool.true_eq_false, Bool.false_eq_true, Int.reduceLT, Int.reduceLE, Int.reduceGT, Int.reduceGE, decide_true, decide_false, Bool.not_eq_true, loopN_norm, loopN_exit, tf, ft, ff, w1, w2, e]
        refine ⟨_, _, rfl, by omega, a', A', ⟨by have := x'.1; have := xg.1; omega, fun k hk => (x'.2 k (by have := xg.1; omega) fun hm => by have := yg k hm; omega).trans (xg.2 k hk)⟩, fun k hk => ?_, rfl⟩
        rcases y' k hk with h | h
        · exact yg k h
        · have := xg.1; omega
      · right
        have hin' : i = n := by omega
        subst hin'
        have w1 : decide ((i : Int) < (i : Int)) = false := geNat (Nat.le_refl _)
        simp only [enter_eq, ev_seq, seqK_norm, seqK_exit, seqK_ret, ev_reg, ev_cond, condK_true, condK_false, ev_block, blockK_norm, blockK_ret, blockK_exit, ev_loop, ev_skip, ev_exit, ev_ret, regK_cons, regK_nil, guard_none, guard_some, regG_true, regG_false, regO_some, op_mov, op_conv, op_bin, op_bsl, op_box, op_mks, op_s2b, op_pick, op_un, op_eq, op_len, op_ext, op_load, op_iaddr, op_slice, op_b2s, op_idxS, op_mx, op_mn, op_call, op_store, op_app, op_copy, args_eq, result_one', rv_loc, finish_norm, finish_ret, outK_some, keep_true, keep_false, keep_nil, p_bin, p_pick, p_un, p_eq, p_conv, evNew, pureK_some, newK_some, X.eval, set_none, set_some, List.map_cons, List.map_nil, List.getD_cons_zero, List.getD_cons_succ, List.getD_nil, List.set_cons_zero, List.set_cons_succ, binCV, unCV, isShift, intArithF_eq, shiftF_eq, wrapF_eq, intArith, shift, eqVal, bound, asNat_cast, cond_true, cond_false, BEq.rfl, beq_self_eq_true, evalParts, fillParts, AV.cells, AV.ofCells, XV.av, AV.xv, List.length_cons, List.length_nil, zeros, patch, setMany, List.nil_append, List.cons_append, Nat.ble, Nat.add_eq, Nat.zero_add, Nat.add_zero, Nat.reduceAdd, Nat.reduceMul, Nat.reduceSub, Nat.ble_eq, Nat.reduceLeDiff, Nat.reduceBEq, Int.reduceBEq, Int.reduceNeg, Bool.and_true, Bool.and_false, Bool.true_and, Bool.false_and, Bool.not_true, Bool.not_false, Bool.true_eq_false, Bool.false_eq_true, Int.reduceLT, Int.reduceLE, Int.reduceGT, Int.reduceGE, decide_true, decide_false, Bool.not_eq_true, loopN_norm, loopN_exit, tf, ft, ff, w1]
        exact ⟨_, rfl, by simp, _, _, _, a, G, rfl, A, xg, yg⟩
    · intro k hk
      have h1 := x1.1
      have h2 := x2.1
      rcases mem_own.1 hk with h | h | h | h | h | h
      · omega
      · simp only at h; omega
      · simp only at h; omega
      · simp only at h; omega
      · simp only at h; omega
      · cases h
  obtain ⟨rr, hr, a0, a1, l, a, G, rfl, A, xg, yg⟩ := L [.c (.int .i64 (n : Int)), .c .nilp, .c (.ptr H2.next 0), .c (.bool false), .c (.int .i64 (n : Int)), .c (.int .i64 0), .tup []] rfl
  rw [evCallT_eq (F := ir8) rfl rfl rfl]
  unfold ir8
  rw [bodyK_eq]
  simp only [enter_eq, ev_seq, seqK_norm, seqK_exit, seqK_ret, ev_reg, ev_cond, condK_true, condK_false, ev_block, blockK_norm, blockK_ret, blockK_exit, ev_loop, ev_skip, ev_exit, ev_ret, regK_cons, regK_nil, guard_none, guard_some, regG_true, regG_false, regO_some, op_mov, op_conv, op_bin, op_bsl, op_box, op_mks, op_s2b, op_pick, op_un, op_eq, op_len, op_ext, op_load, op_iaddr, op_slice, op_b2s, op_idxS, op_mx, op_mn, op_call, op_store, op_app, op_copy, args_eq, result_one', rv_loc, finish_norm, finish_ret, outK_some, keep_true, keep_false, keep_nil, p_bin, p_pick, p_un, p_eq, p_conv, evNew, pureK_some, newK_some, X.eval, set_none, set_some, List.map_cons, List.map_nil, List.getD_cons_zero, List.getD_cons_succ, List.getD_nil, List.set_cons_zero, List.set_cons_succ, binCV, unCV, isShift, intArithF_eq, shiftF_eq, wrapF_eq, intArith, shift, eqVal, bound, asNat_cast, cond_true, cond_false, BEq.rfl, beq_self_eq_true, evalParts, fillParts, AV.cells, AV.ofCells, XV.av, AV.xv, List.length_cons, List.length_nil, zeros, patch, setMany, List.nil_append, List.cons_append, Nat.ble, Nat.add_eq, Nat.zero_add, Nat.add_zero, Nat.reduceAdd, Nat.reduceMul, Nat.reduceSub, Nat.ble_eq, Nat.reduceLeDiff, Nat.reduceBEq, Int.reduceBEq, Int.reduceNeg, Bool.and_true, Bool.and_false, Bool.true_and, Bool.false_and, Bool.not_true, Bool.not_false, Bool.true_eq_false, Bool.false_eq_true, Int.reduceLT, Int.reduceLE, Int.reduceGT, Int.reduceGE, decide_true, decide_false, Bool.not_eq_true, loopN_norm, loopN_exit, tf, ft, ff, v1, v2, e1', e2', op_build, p_build', ← hH3, hr, blockK_exit_eq]
  exact ⟨_, a, G, rfl, A, xg, yg⟩
end
end Lav
