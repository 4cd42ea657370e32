/-
  Layer 17: what give.most and give.From find.
-/
import Derived.Test.YtnjfpdkdafdfdaaInts1
import Derived.Test.YtnjfpdkdafdfdaaFwN
set_option maxRecDepth 100000
set_option linter.unusedSimpArgs false
namespace Lav
open Go (IntKind)

/-- The place but one of a greatest number, if there is one above 0, among the first so many. -/
def MostP (l : List Int) (but : Int) (i : Nat) (g : Int) : Prop :=
  (g = -1 ∧ ∀ j (_ : j < l.length), j < i → (j : Int) ≠ but → l[j] = 0) ∨
  ∃ j, ∃ hj : j < l.length, j < i ∧ g = (j : Int) ∧ (j : Int) ≠ but ∧ l[j] > 0 ∧ ∀ k (_ : k < l.length), k < i → (k : Int) ≠ but → l[k] ≤ l[j]

theorem bneI {a b : Int} : (a != b) = !(a == b) := rfl

section
variable {N d : Nat} {h : Heap}

theorem most_ok {x : CV} {l : List Int} (but : Int) (hx : Ints h x l) (hpos : ∀ v ∈ l, 0 ≤ v) (hn : l.length ≤ 8) (hN : 10 ≤ N) :
    ∃ g : Int, evCallT table 22 N (d + 1) 37 [.c x, .c (.int .i64 but)] h = some (.c (.int .i64 g), h) ∧ MostP l but l.length g := by
  have lx : ∀ (loc vals : List AV) (h : Heap), evPure loc (.c x :: vals) h (.len .sl (.val 0)) = some (.c (.int .i64 (l.length : Int))) := fun _ _ _ => hx.len rfl
  rw [evCallT_eq (F := ir37) rfl rfl rfl]
  unfold ir37
  rw [bodyK_eq]
  have L : ∀ loc, keepOnly ir37_k0 loc = [.c x, .c (.int .i64 but), .junk, .c (.int .i64 (-1)), .junk, .junk, .c x, .c (.int .i64 (l.length : Int)), .c (.int .i64 0), .junk, .junk] →
      ∃ r, loopK (evCallT table 22 N d) N ir37_k0 ir37_l0 N loc h = some r ∧ ∃ (g : Int), MostP l but l.length g ∧ ∃ a0 a1 a2 r', r = (.exit 0, a0 :: a1 :: a2 :: .c (.int .i64 g) :: r', h) := by
    intro loc hloc
    refine loop_inv (n := l.length) (fun i loc h' => h' = h ∧ ∃ g : Int, MostP l but i g ∧ loc = [.c x, .c (.int .i64 but), .junk, .c (.int .i64 g), .junk, .junk, .c x, .c (.int .i64 (l.length : Int)), .c (.int .i64 (i : Int)), .junk, .junk]) _ ?_ ⟨rfl, -1, .inl ⟨rfl, fun _ _ hj => absurd hj (by omega)⟩, hloc⟩ (by omega)
    rintro i loc h' hi ⟨rfl, g, hg, rfl⟩
    unfold ir37_l0
    by_cases hlt : i < l.length
    · left
      refine ⟨hlt, ?_⟩
      have v1 : decide ((i : Int) < (l.length : Int)) = true := ltNat hlt
      have v2 := succI (i := i) (by omega)
      obtain ⟨b, o, c, rfl, _, rx⟩ := hx.sl (by omega)
      have k1 := rx i hlt
      have m1 : Nat.blt i l.length = true := bltT hlt
      have hpi := hpos l[i] (List.getElem_mem _)
      -- stays
      have stay : ((i : Int) = but ∨ l[i] = 0 ∨ ∃ j, ∃ hj : j < l.length, g = (j : Int) ∧ l[i] ≤ l[j]) → MostP l but (i + 1) g := by
        intro hs
        rcases hg with ⟨rfl, h0⟩ | ⟨j, hj, hji, rfl, hjb, hjp, hm⟩
        · refine .inl ⟨rfl, fun k hk hki hkb => ?_⟩
          by_cases e : k = i
          · subst e
            rcases hs with h1 | h1 | ⟨j, hj, h1, _⟩
            · exact absurd h1 hkb
            · exact h1
            · omega
          · exact h0 k hk (by omega) hkb
        · refine .inr ⟨j, hj, by omega, rfl, hjb, hjp, fun k hk hki hkb => ?_⟩
          by_cases e : k = i
          · subst e
            rcases hs with h1 | h1 | ⟨j', hj', h1, h2⟩
            · exact absurd h1 hkb
            · omega
            · have : j' = j := by omega
              subst this; exact h2
          · exact hm k hk (by omega) hkb
      by_cases c1 : (i : Int) = but
      · have q1 : ((i : Int) == but) = true := by simp [c1]
        simp only [enter_eq, ev_seq, seqK_norm, seqK_exit, seqK_ret, ev_reg, ev_cond, condK_true, condK_false, ev_block, blockK_norm, blockK_ret, blockK_exit, ev_loop, ev_skip, ev_exit, ev_ret, regK_cons, regK_nil, guard_none, guard_some, regG_true, regG_false, regO_some, op_mov, op_conv, op_bin, op_bsl, op_box, op_mks, op_s2b, op_pick, op_un, op_eq, op_len, op_ext, op_load, op_iaddr, op_slice, op_b2s, op_idxS, op_mx, op_mn, op_call, op_store, op_app, op_copy, args_eq, result_one', rv_loc, finish_norm, finish_ret, outK_some, keep_true, keep_false, keep_nil, p_bin, p_pick, p_un, p_eq, p_conv, evNew, pureK_some, newK_some, X.eval, set_none, set_some, List.map_cons, List.map_nil, List.getD_cons_zero, List.getD_cons_succ, List.getD_nil, List.set_cons_zero, List.set_cons_succ, binCV, unCV, isShift, intArithF_eq, shiftF_eq, wrapF_eq, intArith, shift, eqVal, bound, asNat_cast, cond_true, cond_false, BEq.rfl, beq_self_eq_true, evalParts, fillParts, AV.cells, AV.ofCells, XV.av, AV.xv, List.length_cons, List.length_nil, zeros, patch, setMany, List.nil_append, List.cons_append, Nat.ble, Nat.add_eq, Nat.zero_add, Nat.add_zero, Nat.reduceAdd, Nat.reduceMul, Nat.reduceSub, Nat.ble_eq, Nat.reduceLeDiff, Nat.reduceBEq, Int.reduceBEq, Int.reduceNeg, Bool.and_true, Bool.and_false, Bool.true_and, Bool.false_and, Bool.not_true, Bool.not_false, Bool.true_eq_false, Bool.false_eq_true, Int.reduceLT, Int.reduceLE, Int.reduceGT, Int.reduceGE, decide_true, decide_false, Bool.not_eq_true, loopN_norm, loopN_exit, tf, ft, ff, v1, v2, p_iaddr, p_load, m1, Nat.mul_one, k1, q1]
        exact ⟨_, _, rfl, rfl, g, stay (.inl c1), rfl⟩
      have q1 : ((i : Int) == but) = false := by simp [c1]
      by_cases c2 : l[i] = 0
      · have q2 : (l[i] == 0) = true := by simp [c2]
        simp only [enter_eq, ev_seq, seqK_norm, seqK_exit, seqK_ret, ev_reg, ev_cond, condK_true, condK_false, ev_block, blockK_norm, blockK_ret, blockK_exit, ev_loop, ev_skip, ev_exit, ev_ret, regK_cons, regK_nil, guard_none, guard_some, regG_true, regG_false, regO_some, op_mov, op_conv, op_bin, op_bsl, op_box, op_mks, op_s2b, op_pick, op_un, op_eq, op_len, op_ext, op_load, op_iaddr, op_slice, op_b2s, op_idxS, op_mx, op_mn, op_call, op_store, op_app, op_copy, args_eq, result_one', rv_loc, finish_norm, finish_ret, outK_some, keep_true, keep_false, keep_nil, p_bin, p_pick, p_un, p_eq, p_conv, evNew, pureK_some, newK_some, X.eval, set_none, set_some, List.map_cons, List.map_nil, List.getD_cons_zero, List.getD_cons_succ, List.getD_nil, List.set_cons_zero, List.set_cons_succ, binCV, unCV, isShift, intArithF_eq, shiftF_eq, wrapF_eq, intArith, shift, eqVal, bound, asNat_cast, cond_true, cond_false, BEq.rfl, beq_self_eq_true, evalParts, fillParts, AV.cells, AV.ofCells, XV.av, AV.xv, List.length_cons, List.length_nil, zeros, patch, setMany, List.nil_append, List.cons_append, Nat.ble, Nat.add_eq, Nat.zero_add, Nat.add_zero, Nat.reduceAdd, Nat.reduceMul, Nat.reduceSub, Nat.ble_eq, Nat.reduceLeDiff, Nat.reduceBEq, Int.reduceBEq, Int.reduceNeg, Bool.and_true, Bool.and_false, Bool.true_and, Bool.false_and, Bool.not_true, Bool.not_false, Bool.true_eq_false, Bool.false_eq_true, Int.reduceLT, Int.reduceLE, Int.reduceGT, Int.reduceGE, decide_true, decide_false, Bool.not_eq_true, loopN_norm, loopN_exit, tf, ft, ff, v1, v2, p_iaddr, p_load, m1, Nat.mul_one, k1, q1, q2]
        exact ⟨_, _, rfl, rfl, g, stay (.inr (.inl c2)), rfl⟩
      have q2 : (l[i] == 0) = false := by simp [c2]
      rcases hg with ⟨rfl, h0⟩ | ⟨j, hj, hji, rfl, hjb, hjp, hm⟩
      · have q3 : decide ((-1 : Int) ≥ 0) = false := rfl
        simp only [enter_eq, ev_seq, seqK_norm, seqK_exit, seqK_ret, ev_reg, ev_cond, condK_true, condK_false, ev_block, blockK_norm, blockK_ret, blockK_exit, ev_loop, ev_skip, ev_exit, ev_ret, regK_cons, regK_nil, guard_none, guard_some, regG_true, regG_false, regO_some, op_mov, op_conv, op_bin, op_bsl, op_box, op_mks, op_s2b, op_pick, op_un, op_eq, op_len, op_ext, op_load, op_iaddr, op_slice, op_b2s, op_idxS, op_mx, op_mn, op_call, op_store, op_app, op_copy, args_eq, result_one', rv_loc, finish_norm, finish_ret, outK_some, keep_true, keep_false, keep_nil, p_bin, p_pick, p_un, p_eq, p_conv, evNew, pureK_some, newK_some, X.eval, set_none, set_some, List.map_cons, List.map_nil, List.getD_cons_zero, List.getD_cons_succ, List.getD_nil, List.set_cons_zero, List.set_cons_succ, binCV, unCV, isShift, intArithF_eq, shiftF_eq, wrapF_eq, intArith, shift, eqVal, bound, asNat_cast, cond_true, cond_false, BEq.rfl, beq_self_eq_true, evalParts, fillParts, AV.cells, AV.ofCells, XV.av, AV.xv, List.length_cons, List.length_nil, zeros, patch, setMany, List.nil_append, List.cons_append, Nat.ble, Nat.add_eq, Nat.zero_add, Nat.add_zero, Nat.reduceAdd, Nat.reduceMul, Nat.reduceSub, Nat.ble_eq, Nat.reduceLeDiff, Nat.reduceBEq, Int.reduceBEq, Int.reduceNeg, Bool.and_true, Bool.and_false, Bool.true_and, Bool.false_and, Bool.not_true, Bool.not_false, Bool.true_eq_false, Bool.false_eq_true, Int.reduceLT, Int.reduceLE, Int.reduceGT, Int.reduceGE, decide_true, decide_false, Bool.not_eq_true, loopN_norm, loopN_exit, tf, ft, ff, v1, v2, p_iaddr, p_load, m1, Nat.mul_one, k1, q1, q2, q3]
        refine ⟨_, _, rfl, rfl, (i : Int), .inr ⟨i, hlt, by omega, rfl, c1, by omega, fun k hk hki hkb => ?_⟩, rfl⟩
        by_cases e : k = i
        · subst e; exact Int.le_refl _
        · rw [h0 k hk (by omega) hkb]; omega
      · have q3 : decide ((j : Int) ≥ 0) = true := decide_eq_true (by omega)
        have k2 := rx j hj
        have m2 : Nat.blt j l.length = true := bltT hj
        by_cases c3 : l[i] ≤ l[j]
        · have q4 := decide_eq_true c3
          simp only [enter_eq, ev_seq, seqK_norm, seqK_exit, seqK_ret, ev_reg, ev_cond, condK_true, condK_false, ev_block, blockK_norm, blockK_ret, blockK_exit, ev_loop, ev_skip, ev_exit, ev_ret, regK_cons, regK_nil, guard_none, guard_some, regG_true, regG_false, regO_some, op_mov, op_conv, op_bin, op_bsl, op_box, op_mks, op_s2b, op_pick, op_un, op_eq, op_len, op_ext, op_load, op_iaddr, op_slice, op_b2s, op_idxS, op_mx, op_mn, op_call, op_store, op_app, op_copy, args_eq, result_one', rv_loc, finish_norm, finish_ret, outK_some, keep_true, keep_false, keep_nil, p_bin, p_pick, p_un, p_eq, p_conv, evNew, pureK_some, newK_some, X.eval, set_none, set_some, List.map_cons, List.map_nil, List.getD_cons_zero, List.getD_cons_succ, List.getD_nil, List.set_cons_zero, List.set_cons_succ, binCV, unCV, isShift, intArithF_eq, shiftF_eq, wrapF_eq, intArith, shift, eqVal, bound, asNat_cast, cond_true, cond_false, BEq.rfl, beq_self_eq_true, evalParts, fillParts, AV.cells, AV.ofCells, XV.av, AV.xv, List.length_cons, List.length_nil, zeros, patch, setMany, List.nil_append, List.cons_append, Nat.ble, Nat.add_eq, Nat.zero_add, Nat.add_zero, Nat.reduceAdd, Nat.reduceMul, Nat.reduceSub, Nat.ble_eq, Nat.reduceLeDiff, Nat.reduceBEq, Int.reduceBEq, Int.reduceNeg, Bool.and_true, Bool.and_false, Bool.true_and, Bool.false_and, Bool.not_true, Bool.not_false, Bool.true_eq_false, Bool.false_eq_true, Int.reduceLT, Int.reduceLE, Int.reduceGT, Int.reduceGE, decide_true, decide_false, Bool.not_eq_true, loopN_norm, loopN_exit, tf, ft, ff, v1, v2, p_iaddr, p_load, m1, m2, Nat.mul_one, k1, k2, q1, q2, q3, q4]
          exact ⟨_, _, rfl, rfl, (j : Int), stay (.inr (.inr ⟨j, hj, rfl, c3⟩)), rfl⟩
        · have q4 := decide_eq_false c3
          simp only [enter_eq, ev_seq, seqK_norm, seqK_exit, seqK_ret, ev_reg, ev_cond, condK_true, condK_false, ev_block, blockK_norm, blockK_ret, blockK_exit, ev_loop, ev_skip, ev_exit, ev_ret, regK_cons, regK_nil, guard_none, guard_some, regG_true, regG_false, regO_some, op_mov, op_conv, op_bin, op_bsl, op_box, op_mks, op_s2b, op_pick, op_un, op_eq, op_len, op_ext, op_load, op_iaddr, op_slice, op_b2s, op_idxS, op_mx, op_mn, op_call, op_store, op_app, op_copy, args_eq, result_one', rv_loc, finish_norm, finish_ret, outK_some, keep_true, keep_false, keep_nil, p_bin, p_pick, p_un, p_eq, p_conv, evNew, pureK_some, newK_some, X.eval, set_none, set_some, List.map_cons, List.map_nil, List.getD_cons_zero, List.getD_cons_succ, List.getD_nil, List.set_cons_zero, List.set_cons_succ, binCV, unCV, isShift, intArithF_eq, shiftF_eq, wrapF_eq, intArith, shift, eqVal, bound, asNat_cast, cond_true, cond_false, BEq.rfl, beq_self_eq_true, evalParts, fillParts, AV.cells, AV.ofCells, XV.av, AV.xv, List.length_cons, List.length_nil, zeros, patch, setMany, List.nil_append, List.cons_append, Nat.ble, Nat.add_eq, Nat.zero_add, Nat.add_zero, Nat.reduceAdd, Nat.reduceMul, Nat.reduceSub, Nat.ble_eq, Nat.reduceLeDiff, Nat.reduceBEq, Int.reduceBEq, Int.reduceNeg, Bool.and_true, Bool.and_false, Bool.true_and, Bool.false_and, Bool.not_true, Bool.not_false, Bool.true_eq_false, Bool.false_eq_true, Int.reduceLT, Int.reduceLE, Int.reduceGT, Int.reduceGE, decide_true, decide_false, Bool.not_eq_true, loopN_norm, loopN_exit, tf, ft, ff, v1, v2, p_iaddr, p_load, m1, m2, Nat.mul_one, k1, k2, q1, q2, q3, q4]
          refine ⟨_, _, rfl, rfl, (i : Int), .inr ⟨i, hlt, by omega, rfl, c1, by omega, fun k hk hki hkb => ?_⟩, rfl⟩
          by_cases e : k = i
          · subst e; exact Int.le_refl _
          · have := hm k hk (by omega) hkb; omega
    · right
      have hin : i = l.length := by omega
      subst hin
      have v1 : decide ((l.length : Int) < (l.length : Int)) = false := geNat (Nat.le_refl _)
      simp only [enter_eq, ev_seq, seqK_norm, seqK_exit, seqK_ret, ev_reg, ev_cond, condK_true, condK_false, ev_block, blockK_norm, blockK_ret, blockK_exit, ev_loop, ev_skip, ev_exit, ev_ret, regK_cons, regK_nil, guard_none, guard_some, regG_true, regG_false, regO_some, op_mov, op_conv, op_bin, op_bsl, op_box, op_mks, op_s2b, op_pick, op_un, op_eq, op_len, op_ext, op_load, op_iaddr, op_slice, op_b2s, op_idxS, op_mx, op_mn, op_call, op_store, op_app, op_copy, args_eq, result_one', rv_loc, finish_norm, finish_ret, outK_some, keep_true, keep_false, keep_nil, p_bin, p_pick, p_un, p_eq, p_conv, evNew, pureK_some, newK_some, X.eval, set_none, set_some, List.map_cons, List.map_nil, List.getD_cons_zero, List.getD_cons_succ, List.getD_nil, List.set_cons_zero, List.set_cons_succ, binCV, unCV, isShift, intArithF_eq, shiftF_eq, wrapF_eq, intArith, shift, eqVal, bound, asNat_cast, cond_true, cond_false, BEq.rfl, beq_self_eq_true, evalParts, fillParts, AV.cells, AV.ofCells, XV.av, AV.xv, List.length_cons, List.length_nil, zeros, patch, setMany, List.nil_append, List.cons_append, Nat.ble, Nat.add_eq, Nat.zero_add, Nat.add_zero, Nat.reduceAdd, Nat.reduceMul, Nat.reduceSub, Nat.ble_eq, Nat.reduceLeDiff, Nat.reduceBEq, Int.reduceBEq, Int.reduceNeg, Bool.and_true, Bool.and_false, Bool.true_and, Bool.false_and, Bool.not_true, Bool.not_false, Bool.true_eq_false, Bool.false_eq_true, Int.reduceLT, Int.reduceLE, Int.reduceGT, Int.reduceGE, decide_true, decide_false, Bool.not_eq_true, loopN_norm, loopN_exit, tf, ft, ff, v1]
      exact ⟨_, rfl, by simp, g, hg, _, _, _, _, rfl⟩
  obtain ⟨r, hr, g, hg, a0, a1, a2, r', rfl⟩ := L [.c x, .c (.int .i64 but), .c (.int .i64 0), .c (.int .i64 (-1)), .tup [], .tup [], .c x, .c (.int .i64 (l.length : Int)), .c (.int .i64 0), .tup [], .tup []] rfl
  simp only [enter_eq, ev_seq, seqK_norm, seqK_exit, seqK_ret, ev_reg, ev_cond, condK_true, condK_false, ev_block, blockK_norm, blockK_ret, blockK_exit, ev_loop, ev_skip, ev_exit, ev_ret, regK_cons, regK_nil, guard_none, guard_some, regG_true, regG_false, regO_some, op_mov, op_conv, op_bin, op_bsl, op_box, op_mks, op_s2b, op_pick, op_un, op_eq, op_len, op_ext, op_load, op_iaddr, op_slice, op_b2s, op_idxS, op_mx, op_mn, op_call, op_store, op_app, op_copy, args_eq, result_one', rv_loc, finish_norm, finish_ret, outK_some, keep_true, keep_false, keep_nil, p_bin, p_pick, p_un, p_eq, p_conv, evNew, pureK_some, newK_some, X.eval, set_none, set_some, List.map_cons, List.map_nil, List.getD_cons_zero, List.getD_cons_succ, List.getD_nil, List.set_cons_zero, List.set_cons_succ, binCV, unCV, isShift, intArithF_eq, shiftF_eq, wrapF_eq, intArith, shift, eqVal, bound, asNat_cast, cond_true, cond_false, BEq.rfl, beq_self_eq_true, evalParts, fillParts, AV.cells, AV.ofCells, XV.av, AV.xv, List.length_cons, List.length_nil, zeros, patch, setMany, List.nil_append, List.cons_append, Nat.ble, Nat.add_eq, Nat.zero_add, Nat.add_zero, Nat.reduceAdd, Nat.reduceMul, Nat.reduceSub, Nat.ble_eq, Nat.reduceLeDiff, Nat.reduceBEq, Int.reduceBEq, Int.reduceNeg, Bool.and_true, Bool.and_false, Bool.true_and, Bool.false_and, Bool.not_true, Bool.not_false, Bool.true_eq_false, Bool.false_eq_true, Int.reduceLT, Int.reduceLE, Int.reduceGT, Int.reduceGE, decide_true, decide_false, Bool.not_eq_true, loopN_norm, loopN_exit, tf, ft, ff, lx, hr, blockK_exit_eq]
  exact ⟨g, rfl, hg⟩

theorem negf_ok (v : Int) (h : Heap) : evCallT table 22 N (d + 1) 36 [.c (.int .i64 v)] h = some (.c (.bool (decide (v < 0))), h) := by
  rw [evCallT_eq (F := ir36) rfl rfl rfl]
  unfold ir36
  rw [bodyK_eq]
  simp only [enter_eq, ev_seq, seqK_norm, seqK_exit, seqK_ret, ev_reg, ev_cond, condK_true, condK_false, ev_block, blockK_norm, blockK_ret, blockK_exit, ev_loop, ev_skip, ev_exit, ev_ret, regK_cons, regK_nil, guard_none, guard_some, regG_true, regG_false, regO_some, op_mov, op_conv, op_bin, op_bsl, op_box, op_mks, op_s2b, op_pick, op_un, op_eq, op_len, op_ext, op_load, op_iaddr, op_slice, op_b2s, op_idxS, op_mx, op_mn, op_call, op_store, op_app, op_copy, args_eq, result_one', rv_loc, finish_norm, finish_ret, outK_some, keep_true, keep_false, keep_nil, p_bin, p_pick, p_un, p_eq, p_conv, evNew, pureK_some, newK_some, X.eval, set_none, set_some, List.map_cons, List.map_nil, List.getD_cons_zero, List.getD_cons_succ, List.getD_nil, List.set_cons_zero, List.set_cons_succ, binCV, unCV, isShift, intArithF_eq, shiftF_eq, wrapF_eq, intArith, shift, eqVal, bound, asNat_cast, cond_true, cond_false, BEq.rfl, beq_self_eq_true, evalParts, fillParts, AV.cells, AV.ofCells, XV.av, AV.xv, List.length_cons, List.length_nil, zeros, patch, setMany, List.nil_append, List.cons_append, Nat.ble, Nat.add_eq, Nat.zero_add, Nat.add_zero, Nat.reduceAdd, Nat.reduceMul, Nat.reduceSub, Nat.ble_eq, Nat.reduceLeDiff, Nat.reduceBEq, Int.reduceBEq, Int.reduceNeg, Bool.and_true, Bool.and_false, Bool.true_and, Bool.false_and, Bool.not_true, Bool.not_false, Bool.true_eq_false, Bool.false_eq_true, Int.reduceLT, Int.reduceLE, Int.reduceGT, Int.reduceGE, decide_true, decide_false, Bool.not_eq_true, loopN_norm, loopN_exit, tf, ft, ff]

/-- Who gives: of the free ones, if there is one; else of the idle ones. -/
def GiveP (a b : List Int) (need : Int) (g : Int) : Prop :=
  (MostP a need a.length g ∧ 0 ≤ g) ∨ (MostP a need a.length (-1) ∧ MostP b need b.length g)

theorem from_ok {x y : CV} {a b : List Int} (need : Nat) (hx : Ints h x a) (hy : Ints h y b) (ha : ∀ v ∈ a, 0 ≤ v) (hb : ∀ v ∈ b, 0 ≤ v) (h1 : a.length = 4) (h2 : b.length = 4) (hneed : need < 4) (hN : 10 ≤ N) :
    ∃ g : Int, evCallT table 22 N (d + 4) 23 [.c x, .c y, .c (.int .i64 (need : Int))] h = some (.c (.int .i64 g), h) ∧ GiveP a b need g := by
  have lx : ∀ (loc vals : List AV) (h : Heap), evPure loc (.c x :: vals) h (.len .sl (.val 0)) = some (.c (.int .i64 4)) := fun _ _ _ => by have := hx.len (h := h) (loc := []) (vals := [.c x]) (X := .val 0) rfl; rw [h1] at this; exact hx.len rfl |>.trans (by rw [h1]; rfl)
  have ly : ∀ (loc vals : List AV) (h : Heap), evPure loc (.c y :: vals) h (.len .sl (.val 0)) = some (.c (.int .i64 4)) := fun _ _ _ => (hy.len rfl).trans (by rw [h2]; rfl)
  have e1 := neg_ok (T := 22) (N := N) (d := d) (G := 36) rfl rfl hx (by omega) (by omega) (fun v h => negf_ok v h)
  have e2 := neg_ok (T := 22) (N := N) (d := d) (G := 36) rfl rfl hy (by omega) (by omega) (fun v h => negf_ok v h)
  have n1 : (a.any fun v => decide (v < 0)) = false := by
    rw [List.any_eq_false]; intro v hv; have := ha v hv; simp; omega
  have n2 : (b.any fun v => decide (v < 0)) = false := by
    rw [List.any_eq_false]; intro v hv; have := hb v hv; simp; omega
  rw [n1] at e1; rw [n2] at e2
  obtain ⟨g, e3, p3⟩ := most_ok (N := N) (d := d + 2) (need : Int) hx ha (by omega) hN
  obtain ⟨g', e4, p4⟩ := most_ok (N := N) (d := d + 2) (need : Int) hy hb (by omega) hN
  have c1 : decide ((need : Int) < 0) = false := decide_eq_false (by omega)
  have c2 : decide ((need : Int) ≥ 4) = false := decide_eq_false (by omega)
  have c3 : decide ((4 : Int) < 1) = false := rfl
  have c4 : decide ((4 : Int) > 4) = false := rfl
  have c5 : ((4 : Int) == 4) = true := rfl
  rw [evCallT_eq (F := ir23) rfl rfl rfl]
  unfold ir23
  rw [bodyK_eq]
  by_cases hg : g ≥ 0
  · have c6 := decide_eq_true hg
    simp only [enter_eq, ev_seq, seqK_norm, seqK_exit, seqK_ret, ev_reg, ev_cond, condK_true, condK_false, ev_block, blockK_norm, blockK_ret, blockK_exit, ev_loop, ev_skip, ev_exit, ev_ret, regK_cons, regK_nil, guard_none, guard_some, regG_true, regG_false, regO_some, op_mov, op_conv, op_bin, op_bsl, op_box, op_mks, op_s2b, op_pick, op_un, op_eq, op_len, op_ext, op_load, op_iaddr, op_slice, op_b2s, op_idxS, op_mx, op_mn, op_call, op_store, op_app, op_copy, args_eq, result_one', rv_loc, finish_norm, finish_ret, outK_some, keep_true, keep_false, keep_nil, p_bin, p_pick, p_un, p_eq, p_conv, evNew, pureK_some, newK_some, X.eval, set_none, set_some, List.map_cons, List.map_nil, List.getD_cons_zero, List.getD_cons_succ, List.getD_nil, List.set_cons_zero, List.set_cons_succ, binCV, unCV, isShift, intArithF_eq, shiftF_eq, wrapF_eq, intArith, shift, eqVal, bound, asNat_cast, cond_true, cond_false, BEq.rfl, beq_self_eq_true, evalParts, fillParts, AV.cells, AV.ofCells, XV.av, AV.xv, List.length_cons, List.length_nil, zeros, patch, setMany, List.nil_append, List.cons_append, Nat.ble, Nat.add_eq, Nat.zero_add, Nat.add_zero, Nat.reduceAdd, Nat.reduceMul, Nat.reduceSub, Nat.ble_eq, Nat.reduceLeDiff, Nat.reduceBEq, Int.reduceBEq, Int.reduceNeg, Bool.and_true, Bool.and_false, Bool.true_and, Bool.false_and, Bool.not_true, Bool.not_false, Bool.true_eq_false, Bool.false_eq_true, Int.reduceLT, Int.reduceLE, Int.reduceGT, Int.reduceGE, decide_true, decide_false, Bool.not_eq_true, loopN_norm, loopN_exit, tf, ft, ff, bneI, op_mkfn, lx, ly, c1, c2, c3, c4, c5, e1, e2, e3, c6]
    exact ⟨g, rfl, .inl ⟨p3, hg⟩⟩
  · have c6 := decide_eq_false hg
    simp only [enter_eq, ev_seq, seqK_norm, seqK_exit, seqK_ret, ev_reg, ev_cond, condK_true, condK_false, ev_block, blockK_norm, blockK_ret, blockK_exit, ev_loop, ev_skip, ev_exit, ev_ret, regK_cons, regK_nil, guard_none, guard_some, regG_true, regG_false, regO_some, op_mov, op_conv, op_bin, op_bsl, op_box, op_mks, op_s2b, op_pick, op_un, op_eq, op_len, op_ext, op_load, op_iaddr, op_slice, op_b2s, op_idxS, op_mx, op_mn, op_call, op_store, op_app, op_copy, args_eq, result_one', rv_loc, finish_norm, finish_ret, outK_some, keep_true, keep_false, keep_nil, p_bin, p_pick, p_un, p_eq, p_conv, evNew, pureK_some, newK_some, X.eval, set_none, set_some, List.map_cons, List.map_nil, List.getD_cons_zero, List.getD_cons_succ, List.getD_nil, List.set_cons_zero, List.set_cons_succ, binCV, unCV, isShift, intArithF_eq, shiftF_eq, wrapF_eq, intArith, shift, eqVal, bound, asNat_cast, cond_true, cond_false, BEq.rfl, beq_self_eq_true, evalParts, fillParts, AV.cells, AV.ofCells, XV.av, AV.xv, List.length_cons, List.length_nil, zeros, patch, setMany, List.nil_append, List.cons_append, Nat.ble, Nat.add_eq, Nat.zero_add, Nat.add_zero, Nat.reduceAdd, Nat.reduceMul, Nat.reduceSub, Nat.ble_eq, Nat.reduceLeDiff, Nat.reduceBEq, Int.reduceBEq, Int.reduceNeg, Bool.and_true, Bool.and_false, Bool.true_and, Bool.false_and, Bool.not_true, Bool.not_false, Bool.true_eq_false, Bool.false_eq_true, Int.reduceLT, Int.reduceLE, Int.reduceGT, Int.reduceGE, decide_true, decide_false, Bool.not_eq_true, loopN_norm, loopN_exit, tf, ft, ff, bneI, op_mkfn, lx, ly, c1, c2, c3, c4, c5, e1, e2, e3, c6, e4]
    refine ⟨g', rfl, .inr ⟨?_, p4⟩⟩
    rcases p3 with ⟨rfl, h0⟩ | ⟨j, hj, _, rfl, _⟩
    · exact .inl ⟨rfl, h0⟩
    · omega
end
theorem tld17 : ToldOK Go.Proofs.Try.prog 22 := told_of (calls_okF 100 9) (by kernel_rfl)
end Lav
