/-
  Proved: whatever number and steps come in, lavabolaw11.CorePins returns true and changes nothing that was there. No conditions beyond the given statement's.
-/
import Derived.Test.YtdcjiljegffalaaRows
import Derived.Test.YtdcjiljegffalaaCore8
import Derived.WalkKit
import Derived.ProofKit
import Derived.OpenShut
import Derived.ShutString
import Derived.ChangeOld
import Derived.Below
set_option maxRecDepth 100000
set_option linter.unusedSimpArgs false
namespace Lav
open Go (IntKind)
abbrev ks4 : List CK := [.int, .int, .int, .bool]
/-- Frames that are pinned stand as they stood. -/
def Stay (fs gs : List Fm) : Prop := gs.length = fs.length ∧ ∀ (j : Nat) (f g : Fm), fs[j]? = some f → gs[j]? = some g → f.pn > 0 → apC f = apC g
theorem eqC (a b c : Int) (d : Bool) : eqCells [true, true, true, true, false] [.int .i64 a, .int .i64 b, .int .i64 c, .int .i64 0, .bool d] [.int .i64 a, .int .i64 b, .int .i64 c, .int .i64 0, .bool d] = some true := by
  simp [eqCells]
/-- The frames are looked at. -/
theorem coreLooks {ha hb h : Heap} {q i : Nat} {pp : Nat} {fs gs : List Fm} {x w v : CV} {e g old : Int} (T : Tells ha h w fs) (T' : Tells hb h v gs) (st : Stay fs gs) (sm : fs.length ≤ 32) :
    ∀ loc, keepOnly ir3_k0 loc = [.junk, .c x, .junk, .c (.ptr q 0), .c (.int .i64 (i : Int)), .c (.int .i64 (pp : Int)), .junk, .c w, .junk, .c (.int .i64 e), .c (.int .i64 g), .c (.int .i64 old), .c v, .c (.int .i64 0), .c (.int .i64 0), .c (.int .i64 0), .junk, .junk, .junk, .junk, .junk, .junk, .junk, .junk, .junk, .junk, .junk, .junk, .junk, .junk, .junk, .junk, .junk, .junk] →
      ∃ r, loopK (evCallT table 15 200 8) 200 ir3_k0 ir3_l0 200 loc h = some r ∧ ∃ a0 a2 a6 a8 a15 l, r = (.exit 3, a0 :: .c x :: a2 :: .c (.ptr q 0) :: .c (.int .i64 (i : Int)) :: .c (.int .i64 (pp : Int)) :: a6 :: .c w :: a8 :: .c (.int .i64 e) :: .c (.int .i64 g) :: .c (.int .i64 old) :: .c v :: .c (.int .i64 (cp fs : Int)) :: .c (.int .i64 (cz fs : Int)) :: a15 :: l, h) ∧ l.length = 18 := by
  intro loc hloc
  have lw := T.len
  have lv := T'.len
  rw [st.1] at lv
  refine loop_inv (n := fs.length) (fun j loc G => G = h ∧ j ≤ fs.length ∧ loc = [.junk, .c x, .junk, .c (.ptr q 0), .c (.int .i64 (i : Int)), .c (.int .i64 (pp : Int)), .junk, .c w, .junk, .c (.int .i64 e), .c (.int .i64 g), .c (.int .i64 old), .c v, .c (.int .i64 (cp (fs.take j) : Int)), .c (.int .i64 (cz (fs.take j) : Int)), .c (.int .i64 (j : Int)), .junk, .junk, .junk, .junk, .junk, .junk, .junk, .junk, .junk, .junk, .junk, .junk, .junk, .junk, .junk, .junk, .junk, .junk]) _ ?_ ⟨rfl, Nat.zero_le _, hloc⟩ (by omega)
  rintro j loc G hj ⟨rfl, hjn, rfl⟩
  unfold ir3_l0
  by_cases hlt : j < fs.length
  · left
    refine ⟨hlt, ?_⟩
    obtain ⟨wb, rfl, hwb, W⟩ := T.at_ hlt
    have hlt' : j < gs.length := by rw [st.1]; exact hlt
    obtain ⟨vb, rfl, hvb, V⟩ := T'.at_ hlt'
    rw [st.1] at lv ⊢
    have v1 : decide ((j : Int) < (fs.length : Int)) = true := ltNat hlt
    have v2 := succI (i := j) (by omega)
    have m1 : Nat.blt j fs.length = true := bltT hlt
    have hcp := cp_take hlt
    have hcz := cz_take hlt
    have l1 := cp_le (fs.take j)
    have l2 := cz_le (fs.take j)
    rw [List.length_take] at l1 l2
    have u1 := succI (i := cp (fs.take j)) (by omega)
    have u2 := succI (i := cz (fs.take j)) (by omega)
    have r1 := W.s
    have r2 := W.n
    have r3 := W.all
    have s3 := V.all
    have hst := st.2 j fs[j] gs[j] (List.getElem?_eq_getElem hlt) (List.getElem?_eq_getElem hlt')
    generalize fs[j] = f at *
    generalize gs[j] = f' at *
    by_cases hp : f.pn > 0
    · have v3 : decide (f.pn > 0) = true := decide_eq_true hp
      rw [← hst hp] at s3
      rw [if_pos hp] at hcp
      rw [hcp]
      by_cases h0 : f.st = 0
      · rw [h0] at r1
        rw [if_pos h0] at hcz
        rw [hcz]
        simp only [enter_eq, ev_seq, seqK_norm, seqK_exit, seqK_ret, ev_reg, ev_cond, condK_true, condK_false, ev_block, blockK_norm, blockK_ret, blockK_exit, ev_loop, ev_skip, ev_exit, ev_ret, regK_cons, regK_nil, guard_none, guard_some, regG_true, regG_false, regO_some, op_mov, op_conv, op_bin, op_bsl, op_box, op_mks, op_s2b, op_pick, op_un, op_eq, op_len, op_ext, op_load, op_iaddr, op_slice, op_b2s, op_idxS, op_mx, op_mn, op_call, op_store, op_app, op_copy, args_eq, result_one', rv_loc, finish_norm, finish_ret, outK_some, keep_true, keep_false, keep_nil, p_bin, p_pick, p_un, p_eq, p_conv, evNew, pureK_some, newK_some, X.eval, set_none, set_some, List.map_cons, List.map_nil, List.getD_cons_zero, List.getD_cons_succ, List.getD_nil, List.set_cons_zero, List.set_cons_succ, binCV, unCV, isShift, intArithF_eq, shiftF_eq, wrapF_eq, intArith, shift, eqVal, bound, asNat_cast, cond_true, cond_false, BEq.rfl, beq_self_eq_true, evalParts, fillParts, AV.cells, AV.ofCells, XV.av, AV.xv, List.length_cons, List.length_nil, zeros, patch, setMany, List.nil_append, List.cons_append, Nat.ble, Nat.add_eq, Nat.zero_add, Nat.add_zero, Nat.reduceAdd, Nat.reduceMul, Nat.reduceSub, Nat.ble_eq, Nat.reduceLeDiff, Nat.reduceBEq, Int.reduceBEq, Int.reduceNeg, Bool.and_true, Bool.and_false, Bool.true_and, Bool.false_and, Bool.not_true, Bool.not_false, Bool.true_eq_false, Bool.false_eq_true, Int.reduceLT, Int.reduceLE, Int.reduceGT, Int.reduceGE, decide_true, decide_false, Bool.not_eq_true, loopN_norm, loopN_exit, tf, ft, ff, ev_dreg, dregK_nil, dregK_cons, dregE_true, dregP_some, dregX_some, d_mov, d_bin, d_eq, d_pick, d_un, d_conv, d_b2s, d_len, d_load, d_iaddr, d_slice, d_ext, d_call, d_store, chk_done, chk_none, chk_some, chkG_true, chkG_false, chkOne_nil, chkOne_cons, chkH_some, chkV_same, stage_none, stage_some, look_hit, look_miss, news_nil, wb_cons, wb_nil, skip0, List.reverse_cons, List.reverse_nil, lw, lv, v1, v2, v3, p_iaddr, d_faddr, op_faddr, p_faddr, m1, p_load, AV.ofCells, r1, r2, r3, s3, u1, u2, eqC]
        exact ⟨_, _, rfl, rfl, by omega, rfl⟩
      · have v4 : (f.st == 0) = false := by simp only [beq_eq_false_iff_ne, ne_eq]; exact h0
        rw [if_neg h0, Nat.add_zero] at hcz
        rw [hcz]
        simp only [enter_eq, ev_seq, seqK_norm, seqK_exit, seqK_ret, ev_reg, ev_cond, condK_true, condK_false, ev_block, blockK_norm, blockK_ret, blockK_exit, ev_loop, ev_skip, ev_exit, ev_ret, regK_cons, regK_nil, guard_none, guard_some, regG_true, regG_false, regO_some, op_mov, op_conv, op_bin, op_bsl, op_box, op_mks, op_s2b, op_pick, op_un, op_eq, op_len, op_ext, op_load, op_iaddr, op_slice, op_b2s, op_idxS, op_mx, op_mn, op_call, op_store, op_app, op_copy, args_eq, result_one', rv_loc, finish_norm, finish_ret, outK_some, keep_true, keep_false, keep_nil, p_bin, p_pick, p_un, p_eq, p_conv, evNew, pureK_some, newK_some, X.eval, set_none, set_some, List.map_cons, List.map_nil, List.getD_cons_zero, List.getD_cons_succ, List.getD_nil, List.set_cons_zero, List.set_cons_succ, binCV, unCV, isShift, intArithF_eq, shiftF_eq, wrapF_eq, intArith, shift, eqVal, bound, asNat_cast, cond_true, cond_false, BEq.rfl, beq_self_eq_true, evalParts, fillParts, AV.cells, AV.ofCells, XV.av, AV.xv, List.length_cons, List.length_nil, zeros, patch, setMany, List.nil_append, List.cons_append, Nat.ble, Nat.add_eq, Nat.zero_add, Nat.add_zero, Nat.reduceAdd, Nat.reduceMul, Nat.reduceSub, Nat.ble_eq, Nat.reduceLeDiff, Nat.reduceBEq, Int.reduceBEq, Int.reduceNeg, Bool.and_true, Bool.and_false, Bool.true_and, Bool.false_and, Bool.not_true, Bool.not_false, Bool.true_eq_false, Bool.false_eq_true, Int.reduceLT, Int.reduceLE, Int.reduceGT, Int.reduceGE, decide_true, decide_false, Bool.not_eq_true, loopN_norm, loopN_exit, tf, ft, ff, ev_dreg, dregK_nil, dregK_cons, dregE_true, dregP_some, dregX_some, d_mov, d_bin, d_eq, d_pick, d_un, d_conv, d_b2s, d_len, d_load, d_iaddr, d_slice, d_ext, d_call, d_store, chk_done, chk_none, chk_some, chkG_true, chkG_false, chkOne_nil, chkOne_cons, chkH_some, chkV_same, stage_none, stage_some, look_hit, look_miss, news_nil, wb_cons, wb_nil, skip0, List.reverse_cons, List.reverse_nil, lw, lv, v1, v2, v3, v4, p_iaddr, d_faddr, op_faddr, p_faddr, m1, p_load, AV.ofCells, r1, r2, r3, s3, u1, eqC]
        exact ⟨_, _, rfl, rfl, by omega, rfl⟩
    · have v3 : decide (f.pn > 0) = false := decide_eq_false hp
      rw [if_neg hp, Nat.add_zero] at hcp
      rw [hcp]
      by_cases h0 : f.st = 0
      · rw [h0] at r1
        rw [if_pos h0] at hcz
        rw [hcz]
        simp only [enter_eq, ev_seq, seqK_norm, seqK_exit, seqK_ret, ev_reg, ev_cond, condK_true, condK_false, ev_block, blockK_norm, blockK_ret, blockK_exit, ev_loop, ev_skip, ev_exit, ev_ret, regK_cons, regK_nil, guard_none, guard_some, regG_true, regG_false, regO_some, op_mov, op_conv, op_bin, op_bsl, op_box, op_mks, op_s2b, op_pick, op_un, op_eq, op_len, op_ext, op_load, op_iaddr, op_slice, op_b2s, op_idxS, op_mx, op_mn, op_call, op_store, op_app, op_copy, args_eq, result_one', rv_loc, finish_norm, finish_ret, outK_some, keep_true, keep_false, keep_nil, p_bin, p_pick, p_un, p_eq, p_conv, evNew, pureK_some, newK_some, X.eval, set_none, set_some, List.map_cons, List.map_nil, List.getD_cons_zero, List.getD_cons_succ, List.getD_nil, List.set_cons_zero, List.set_cons_succ, binCV, unCV, isShift, intArithF_eq, shiftF_eq, wrapF_eq, intArith, shift, eqVal, bound, asNat_cast, cond_true, cond_false, BEq.rfl, beq_self_eq_true, evalParts, fillParts, AV.cells, AV.ofCells, XV.av, AV.xv, List.length_cons, List.length_nil, zeros, patch, setMany, List.nil_append, List.cons_append, Nat.ble, Nat.add_eq, Nat.zero_add, Nat.add_zero, Nat.reduceAdd, Nat.reduceMul, Nat.reduceSub, Nat.ble_eq, Nat.reduceLeDiff, Nat.reduceBEq, Int.reduceBEq, Int.reduceNeg, Bool.and_true, Bool.and_false, Bool.true_and, Bool.false_and, Bool.not_true, Bool.not_false, Bool.true_eq_false, Bool.false_eq_true, Int.reduceLT, Int.reduceLE, Int.reduceGT, Int.reduceGE, decide_true, decide_false, Bool.not_eq_true, loopN_norm, loopN_exit, tf, ft, ff, ev_dreg, dregK_nil, dregK_cons, dregE_true, dregP_some, dregX_some, d_mov, d_bin, d_eq, d_pick, d_un, d_conv, d_b2s, d_len, d_load, d_iaddr, d_slice, d_ext, d_call, d_store, chk_done, chk_none, chk_some, chkG_true, chkG_false, chkOne_nil, chkOne_cons, chkH_some, chkV_same, stage_none, stage_some, look_hit, look_miss, news_nil, wb_cons, wb_nil, skip0, List.reverse_cons, List.reverse_nil, d_mov_not, d_iaddr_not, d_load_not, d_eq_not, lw, lv, v1, v2, v3, p_iaddr, d_faddr, op_faddr, p_faddr, m1, p_load, AV.ofCells, r1, r2, r3, s3, u1, u2]
        exact ⟨_, _, rfl, rfl, by omega, rfl⟩
      · have v4 : (f.st == 0) = false := by simp only [beq_eq_false_iff_ne, ne_eq]; exact h0
        rw [if_neg h0, Nat.add_zero] at hcz
        rw [hcz]
        simp only [enter_eq, ev_seq, seqK_norm, seqK_exit, seqK_ret, ev_reg, ev_cond, condK_true, condK_false, ev_block, blockK_norm, blockK_ret, blockK_exit, ev_loop, ev_skip, ev_exit, ev_ret, regK_cons, regK_nil, guard_none, guard_some, regG_true, regG_false, regO_some, op_mov, op_conv, op_bin, op_bsl, op_box, op_mks, op_s2b, op_pick, op_un, op_eq, op_len, op_ext, op_load, op_iaddr, op_slice, op_b2s, op_idxS, op_mx, op_mn, op_call, op_store, op_app, op_copy, args_eq, result_one', rv_loc, finish_norm, finish_ret, outK_some, keep_true, keep_false, keep_nil, p_bin, p_pick, p_un, p_eq, p_conv, evNew, pureK_some, newK_some, X.eval, set_none, set_some, List.map_cons, List.map_nil, List.getD_cons_zero, List.getD_cons_succ, List.getD_nil, List.set_cons_zero, List.set_cons_succ, binCV, unCV, isShift, intArithF_eq, shiftF_eq, wrapF_eq, intArith, shift, eqVal, bound, asNat_cast, cond_true, cond_false, BEq.rfl, beq_self_eq_true, evalParts, fillParts, AV.cells, AV.ofCells, XV.av, AV.xv, List.length_cons, List.length_nil, zeros, patch, setMany, List.nil_append, List.cons_append, Nat.ble, Nat.add_eq, Nat.zero_add, Nat.add_zero, Nat.reduceAdd, Nat.reduceMul, Nat.reduceSub, Nat.ble_eq, Nat.reduceLeDiff, Nat.reduceBEq, Int.reduceBEq, Int.reduceNeg, Bool.and_true, Bool.and_false, Bool.true_and, Bool.false_and, Bool.not_true, Bool.not_false, Bool.true_eq_false, Bool.false_eq_true, Int.reduceLT, Int.reduceLE, Int.reduceGT, Int.reduceGE, decide_true, decide_false, Bool.not_eq_true, loopN_norm, loopN_exit, tf, ft, ff, ev_dreg, dregK_nil, dregK_cons, dregE_true, dregP_some, dregX_some, d_mov, d_bin, d_eq, d_pick, d_un, d_conv, d_b2s, d_len, d_load, d_iaddr, d_slice, d_ext, d_call, d_store, chk_done, chk_none, chk_some, chkG_true, chkG_false, chkOne_nil, chkOne_cons, chkH_some, chkV_same, stage_none, stage_some, look_hit, look_miss, news_nil, wb_cons, wb_nil, skip0, List.reverse_cons, List.reverse_nil, d_mov_not, d_iaddr_not, d_load_not, d_eq_not, lw, lv, v1, v2, v3, v4, p_iaddr, d_faddr, op_faddr, p_faddr, m1, p_load, AV.ofCells, r1, r2, r3, s3, u1]
        exact ⟨_, _, rfl, rfl, by omega, rfl⟩
  · right
    have hjn' : j = fs.length := by omega
    subst hjn'
    have v1 : decide ((fs.length : Int) < (fs.length : Int)) = false := geNat (Nat.le_refl _)
    rw [List.take_length]
    simp only [enter_eq, ev_seq, seqK_norm, seqK_exit, seqK_ret, ev_reg, ev_cond, condK_true, condK_false, ev_block, blockK_norm, blockK_ret, blockK_exit, ev_loop, ev_skip, ev_exit, ev_ret, regK_cons, regK_nil, guard_none, guard_some, regG_true, regG_false, regO_some, op_mov, op_conv, op_bin, op_bsl, op_box, op_mks, op_s2b, op_pick, op_un, op_eq, op_len, op_ext, op_load, op_iaddr, op_slice, op_b2s, op_idxS, op_mx, op_mn, op_call, op_store, op_app, op_copy, args_eq, result_one', rv_loc, finish_norm, finish_ret, outK_some, keep_true, keep_false, keep_nil, p_bin, p_pick, p_un, p_eq, p_conv, evNew, pureK_some, newK_some, X.eval, set_none, set_some, List.map_cons, List.map_nil, List.getD_cons_zero, List.getD_cons_succ, List.getD_nil, List.set_cons_zero, List.set_cons_succ, binCV, unCV, isShift, intArithF_eq, shiftF_eq, wrapF_eq, intArith, shift, eqVal, bound, asNat_cast, cond_true, cond_false, BEq.rfl, beq_self_eq_true, evalParts, fillParts, AV.cells, AV.ofCells, XV.av, AV.xv, List.length_cons, List.length_nil, zeros, patch, setMany, List.nil_append, List.cons_append, Nat.ble, Nat.add_eq, Nat.zero_add, Nat.add_zero, Nat.reduceAdd, Nat.reduceMul, Nat.reduceSub, Nat.ble_eq, Nat.reduceLeDiff, Nat.reduceBEq, Int.reduceBEq, Int.reduceNeg, Bool.and_true, Bool.and_false, Bool.true_and, Bool.false_and, Bool.not_true, Bool.not_false, Bool.true_eq_false, Bool.false_eq_true, Int.reduceLT, Int.reduceLE, Int.reduceGT, Int.reduceGE, decide_true, decide_false, Bool.not_eq_true, loopN_norm, loopN_exit, tf, ft, ff, lw, lv, v1]
    exact ⟨_, rfl, by simp, _, _, _, _, _, _, rfl, rfl⟩
theorem J_set {fs : List Fm} {i : Nat} {g : Fm} {n : Int} (hi : i < fs.length) (h : ∀ (j : Nat) (f : Fm), fs[j]? = some f → f.st ≠ 4 ∧ f.pn ≤ n) (h1 : g.st ≠ 4) (h2 : g.pn ≤ n + 1) : ∀ (j : Nat) (f : Fm), (fs.set i g)[j]? = some f → f.st ≠ 4 ∧ f.pn ≤ n + 1 := by
  intro j f hf
  rcases (set_at hi).1 hf with ⟨rfl, rfl⟩ | ⟨_, h'⟩
  · exact ⟨h1, h2⟩
  · have := h j f h'
    exact ⟨this.1, by omega⟩
theorem stay_set {fs : List Fm} {i : Nat} {g : Fm} (hi : i < fs.length) (h0 : ¬ fs[i].pn > 0) : Stay fs (fs.set i g) := by
  refine ⟨by simp, fun j f f' hf hf' hp => ?_⟩
  rcases (set_at hi).1 hf' with ⟨rfl, rfl⟩ | ⟨_, h'⟩
  · rw [List.getElem?_eq_getElem hi] at hf
    simp only [Option.some.injEq] at hf
    subst hf
    exact absurd hp h0
  · rw [hf] at h'
    simp only [Option.some.injEq] at h'
    subst h'
    rfl
theorem corePins {h : Heap} {x : CV} {m : Nat} {cs : List CV} (n : Int) (hx : Mix ks4 h x m cs) : good (evCallT table 15 200 9 3 [.c (.int .i64 n), .c x] h) = true := by
  obtain ⟨k0, hk0, e1⟩ : ∃ k : Nat, k < 8 ∧ IntKind.i64.wrap (Int.tmod (IntKind.u64.wrap n) 8) = k := few (by omega) (by omega)
  have w1 : IntKind.i64.wrap (1 + (k0 : Int)) = ((k0 + 1 : Nat) : Int) := by rw [wrapI (by omega) (by omega)]; omega
  obtain ⟨q, z, H0, e3, C0, x0, yz⟩ := core_new (N := 200) (d := 3) (h := h) (k0 + 1) (by omega) (by omega)
  have e3' : evCallT table 15 200 8 7 [.c (.int .i64 ((k0 + 1 : Nat) : Int))] h = some (.c (.ptr q 0), H0) := e3
  have a0 : evCallT table 15 200 8 8 [.c (.ptr q 0)] H0 = some (.c (.ptr z.p 0), H0) := arena_ok (N := 200) (d := 7) C0
  have L : ∀ loc, keepOnly ir3_k1 loc = [.junk, .c x, .junk, .c (.ptr q 0), .c (.int .i64 0), .junk, .junk, .junk, .junk, .junk, .junk, .junk, .junk, .junk, .junk, .junk, .junk, .junk, .junk, .junk, .junk, .junk, .junk, .junk, .junk, .junk, .junk, .junk, .junk, .junk, .junk, .junk, .junk, .junk] →
      ∃ r, loopK (evCallT table 15 200 8) 200 ir3_k1 ir3_l1 200 loc H0 = some r ∧ ∃ a0 a1 a2 l G, r = (.exit 0, a0 :: a1 :: a2 :: l, G) := by
    intro loc hloc
    refine loop_inv (n := min 120 m) (fun i loc G => i ≤ min 120 m ∧ (∃ fs o M od ts, CH G q z fs o M od ts ∧ ∀ (j : Nat) (f : Fm), fs[j]? = some f → f.st ≠ 4 ∧ f.pn ≤ (i : Int)) ∧ Ext h G ∧ loc = [.junk, .c x, .junk, .c (.ptr q 0), .c (.int .i64 (i : Int)), .junk, .junk, .junk, .junk, .junk, .junk, .junk, .junk, .junk, .junk, .junk, .junk, .junk, .junk, .junk, .junk, .junk, .junk, .junk, .junk, .junk, .junk, .junk, .junk, .junk, .junk, .junk, .junk, .junk]) _ ?_ ⟨Nat.zero_le _, ⟨_, _, _, _, _, C0, fun j f hf => by
      have : f = frZ := List.eq_of_mem_replicate (List.mem_of_getElem? hf)
      subst this
      exact ⟨by decide, Int.le_refl _⟩⟩, x0, hloc⟩ (by omega)
    rintro i loc G hi ⟨hin, ⟨fs, o, M, od, ts, C, J⟩, xg, rfl⟩
    have lx : ∀ (loc vals : List AV) (h : Heap), evPure loc (.c x :: vals) h (.len .sl (.val 0)) = some (.c (.int .i64 (m : Int))) := fun _ _ _ => hx.len rfl
    unfold ir3_l1
    by_cases hlt : i < min 120 m
    · left
      refine ⟨hlt, ?_⟩
      have v1 : decide ((i : Int) < (m : Int)) = true := ltNat (by omega)
      have v3 : decide ((i : Int) < 120) = true := decide_eq_true (by omega)
      have v2 := succI (i := i) (by omega)
      have m1 : Nat.blt i m = true := bltT (by omega)
      have hxg := hx.ext xg
      obtain ⟨bx, rfl, hb, hg⟩ : ∃ b, x = .sl b 0 m (.dy 4) ∧ b < G.next ∧ G.get b = some (.ro cs) := hxg.sl (by omega)
      obtain ⟨pp, r1⟩ : ∃ v : Int, G.read bx (i * 4 + 1) 1 = some [.int .i64 v] := hxg.int (j := 1) hg (by omega) rfl
      obtain ⟨qf, r2⟩ : ∃ v : Int, G.read bx (i * 4 + 2) 1 = some [.int .i64 v] := hxg.int (j := 2) hg (by omega) rfl
      obtain ⟨p, hp, ep⟩ : ∃ k : Nat, k < 16 ∧ IntKind.i64.wrap (Int.tmod (IntKind.u64.wrap pp) 16) = k := few (by omega) (by omega)
      obtain ⟨f, hf, ef⟩ : ∃ k : Nat, k < 8 ∧ IntKind.i64.wrap (Int.tmod (IntKind.u64.wrap qf) 8) = k := few (by omega) (by omega)
      have sm := C.ah.sm
      have a1 : evCallT table 15 200 8 8 [.c (.ptr q 0)] G = some (.c (.ptr z.p 0), G) := arena_ok (N := 200) (d := 7) C
      obtain ⟨w, G1, eF, T, C1, x1⟩ : ∃ y h', evCallT table 15 200 8 9 [.c (.ptr z.p 0)] G = some (.c y, h') ∧ Tells G h' y fs ∧ CH h' q z fs o M od ts ∧ Ext G h' := C.frames (N := 200) (d := 7) (by omega)
      have xgw := xg.trans x1
      have hx1 := hx.ext xgw
      have hg1 := x1.at_ hg hb
      obtain ⟨kd, r0⟩ : ∃ v : Int, G1.read bx (i * 4) 1 = some [.int .i64 v] := hx1.int (j := 0) hg1 (by omega) rfl
      obtain ⟨db, r3⟩ : ∃ v : Bool, G1.read bx (i * 4 + 3) 1 = some [.bool v] := hx1.bool (j := 3) hg1 (by omega) rfl
      obtain ⟨K, hK, ek⟩ : ∃ k : Nat, k < 8 ∧ Int.tmod (IntKind.i64.wrap (Int.tmod kd 8 + 8)) 8 = (k : Int) := kindM (m := 8) (by omega) (by omega) kd
      have hcast : ((i + 1 : Nat) : Int) = (i : Int) + 1 := by omega
      have stF : Stay fs fs := ⟨rfl, fun j f f' hf hf' _ => by rw [hf] at hf'; simp only [Option.some.injEq] at hf'; rw [hf']⟩
      have J1 : ∀ (j : Nat) (f : Fm), fs[j]? = some f → f.st ≠ 4 ∧ f.pn ≤ ((i + 1 : Nat) : Int) := fun j f hf => by have := J j f hf; exact ⟨this.1, by omega⟩
      have Jal : ∀ {fs' : List Fm}, fs'.length = fs.length → (∀ (j : Nat) (g : Fm), fs'[j]? = some g → ∃ g0, fs[j]? = some g0 ∧ g.st = g0.st ∧ g.pn ≤ g0.pn) → ∀ (j : Nat) (f : Fm), fs'[j]? = some f → f.st ≠ 4 ∧ f.pn ≤ ((i + 1 : Nat) : Int) := fun _ h j f hf => by
        obtain ⟨g0, h1, h2, h3⟩ := h j f hf
        have := J j g0 h1
        exact ⟨by rw [h2]; exact this.1, by omega⟩
      by_cases c2 : K < 2
      · have u1 : decide ((K : Int) < 2) = true := decide_eq_true (by omega)
        by_cases hfn : findF fs (p : Int) < 0
        · obtain ⟨G2, e4, C2, x2⟩ := hit_no (N := 200) (d := 2) C1 (g := (p : Int)) hfn (by omega)
          simp only [enter_eq, ev_seq, seqK_norm, seqK_exit, seqK_ret, ev_reg, ev_cond, condK_true, condK_false, ev_block, blockK_norm, blockK_ret, blockK_exit, ev_loop, ev_skip, ev_exit, ev_ret, regK_cons, regK_nil, guard_none, guard_some, regG_true, regG_false, regO_some, op_mov, op_conv, op_bin, op_bsl, op_box, op_mks, op_s2b, op_pick, op_un, op_eq, op_len, op_ext, op_load, op_iaddr, op_slice, op_b2s, op_idxS, op_mx, op_mn, op_call, op_store, op_app, op_copy, args_eq, result_one', rv_loc, finish_norm, finish_ret, outK_some, keep_true, keep_false, keep_nil, p_bin, p_pick, p_un, p_eq, p_conv, evNew, pureK_some, newK_some, X.eval, set_none, set_some, List.map_cons, List.map_nil, List.getD_cons_zero, List.getD_cons_succ, List.getD_nil, List.set_cons_zero, List.set_cons_succ, binCV, unCV, isShift, intArithF_eq, shiftF_eq, wrapF_eq, intArith, shift, eqVal, bound, asNat_cast, cond_true, cond_false, BEq.rfl, beq_self_eq_true, evalParts, fillParts, AV.cells, AV.ofCells, XV.av, AV.xv, List.length_cons, List.length_nil, zeros, patch, setMany, List.nil_append, List.cons_append, Nat.ble, Nat.add_eq, Nat.zero_add, Nat.add_zero, Nat.reduceAdd, Nat.reduceMul, Nat.reduceSub, Nat.ble_eq, Nat.reduceLeDiff, Nat.reduceBEq, Int.reduceBEq, Int.reduceNeg, Bool.and_true, Bool.and_false, Bool.true_and, Bool.false_and, Bool.not_true, Bool.not_false, Bool.true_eq_false, Bool.false_eq_true, Int.reduceLT, Int.reduceLE, Int.reduceGT, Int.reduceGE, decide_true, decide_false, Bool.not_eq_true, loopN_norm, loopN_exit, tf, ft, ff, ev_dreg, dregK_nil, dregK_cons, dregE_true, dregP_some, dregX_some, d_mov, d_bin, d_eq, d_pick, d_un, d_conv, d_b2s, d_len, d_load, d_iaddr, d_slice, d_ext, d_call, d_store, chk_done, chk_none, chk_some, chkG_true, chkG_false, chkOne_nil, chkOne_cons, chkH_some, chkV_same, stage_none, stage_some, look_hit, look_miss, news_nil, wb_cons, wb_nil, skip0, List.reverse_cons, List.reverse_nil, lx, v1, v3, m1, p_iaddr, d_faddr, op_faddr, p_faddr, p_load, AV.ofCells, r1, r2, ep, ef, a1, eF, r0, ek, u1, e4, v2]
          exact ⟨_, _, rfl, by omega, ⟨_, _, _, _, _, C2, J1⟩, xgw.own x2 yz, rfl⟩
        · obtain ⟨j, hj, ej, hs, hpg⟩ := findF_some (fs := fs) (k := (p : Int)) (by omega)
          have hJ := J j fs[j] (List.getElem?_eq_getElem hj)
          obtain ⟨G2, e4, C2, x2⟩ := hit_yes (N := 200) (d := 2) C1 ej hj hs (by omega) (by omega)
          simp only [enter_eq, ev_seq, seqK_norm, seqK_exit, seqK_ret, ev_reg, ev_cond, condK_true, condK_false, ev_block, blockK_norm, blockK_ret, blockK_exit, ev_loop, ev_skip, ev_exit, ev_ret, regK_cons, regK_nil, guard_none, guard_some, regG_true, regG_false, regO_some, op_mov, op_conv, op_bin, op_bsl, op_box, op_mks, op_s2b, op_pick, op_un, op_eq, op_len, op_ext, op_load, op_iaddr, op_slice, op_b2s, op_idxS, op_mx, op_mn, op_call, op_store, op_app, op_copy, args_eq, result_one', rv_loc, finish_norm, finish_ret, outK_some, keep_true, keep_false, keep_nil, p_bin, p_pick, p_un, p_eq, p_conv, evNew, pureK_some, newK_some, X.eval, set_none, set_some, List.map_cons, List.map_nil, List.getD_cons_zero, List.getD_cons_succ, List.getD_nil, List.set_cons_zero, List.set_cons_succ, binCV, unCV, isShift, intArithF_eq, shiftF_eq, wrapF_eq, intArith, shift, eqVal, bound, asNat_cast, cond_true, cond_false, BEq.rfl, beq_self_eq_true, evalParts, fillParts, AV.cells, AV.ofCells, XV.av, AV.xv, List.length_cons, List.length_nil, zeros, patch, setMany, List.nil_append, List.cons_append, Nat.ble, Nat.add_eq, Nat.zero_add, Nat.add_zero, Nat.reduceAdd, Nat.reduceMul, Nat.reduceSub, Nat.ble_eq, Nat.reduceLeDiff, Nat.reduceBEq, Int.reduceBEq, Int.reduceNeg, Bool.and_true, Bool.and_false, Bool.true_and, Bool.false_and, Bool.not_true, Bool.not_false, Bool.true_eq_false, Bool.false_eq_true, Int.reduceLT, Int.reduceLE, Int.reduceGT, Int.reduceGE, decide_true, decide_false, Bool.not_eq_true, loopN_norm, loopN_exit, tf, ft, ff, ev_dreg, dregK_nil, dregK_cons, dregE_true, dregP_some, dregX_some, d_mov, d_bin, d_eq, d_pick, d_un, d_conv, d_b2s, d_len, d_load, d_iaddr, d_slice, d_ext, d_call, d_store, chk_done, chk_none, chk_some, chkG_true, chkG_false, chkOne_nil, chkOne_cons, chkH_some, chkV_same, stage_none, stage_some, look_hit, look_miss, news_nil, wb_cons, wb_nil, skip0, List.reverse_cons, List.reverse_nil, lx, v1, v3, m1, p_iaddr, d_faddr, op_faddr, p_faddr, p_load, AV.ofCells, r1, r2, ep, ef, a1, eF, r0, ek, u1, e4, v2]
          exact ⟨_, _, rfl, by omega, ⟨_, _, _, _, _, C2, by rw [hcast]; exact J_set hj J hJ.1 (by show fs[j].pn + 1 ≤ _; omega)⟩, xgw.own x2 yz, rfl⟩
      have u1 : decide ((K : Int) < 2) = false := decide_eq_false (by omega)
      by_cases c5 : K < 5
      · have u2 : decide ((K : Int) < 5) = true := decide_eq_true (by omega)
        by_cases hfn : 0 ≤ findF fs (p : Int)
        · -- it is held
          obtain ⟨gs, hgs⟩ : ∃ g, g = fs := ⟨_, rfl⟩
          obtain ⟨G2, eR, C2, xR⟩ : ∃ h', evCallT table 15 200 8 11 [.c (.ptr q 0), .c (.int .i64 (p : Int))] G1 = some (.tup [.c (.int .i64 13), .c (.int .i64 (-1)), .c (.int .i64 (-1))], h') ∧ CH h' q z fs o M _ _ ∧ ExtB (z.own q) G1 h' := room_held (N := 200) (d := 1) C1 (by omega) (by omega) hfn (by omega)
          rw [← hgs] at C2
          have st : Stay fs gs := hgs ▸ stF
          have hJ : ∀ (j : Nat) (f : Fm), gs[j]? = some f → f.st ≠ 4 ∧ f.pn ≤ ((i + 1 : Nat) : Int) := hgs ▸ J1
          have a2 : evCallT table 15 200 8 8 [.c (.ptr q 0)] G2 = some (.c (.ptr z.p 0), G2) := arena_ok (N := 200) (d := 7) C2
          obtain ⟨v, G3, eF2, T', C3, x3⟩ : ∃ y h', evCallT table 15 200 8 9 [.c (.ptr z.p 0)] G2 = some (.c y, h') ∧ Tells G2 h' y gs ∧ CH h' q z gs _ _ _ _ ∧ Ext G2 h' := C2.frames (N := 200) (d := 7) (by omega)
          have T3 : Tells G G3 w fs := (show Tells G G2 w fs from Mine.keepB T xR fun j hj hm => by have := Mine.young T j hj; have := C.old j hm; omega).keepB (x3.b []) (by simp)
          obtain ⟨r, ⟨a0, a2_, a6, a8, a15, l, rfl, hl18⟩, hr⟩ := loop_any (coreLooks (i := i) (q := q) (pp := p) (x := .sl bx 0 m (.dy 4)) (e := 13) (g := (-1)) (old := (-1)) T3 T' st sm) rfl
          obtain ⟨l00, l01, l02, l03, l04, l05, l06, l07, l08, l09, l10, l11, l12, l13, l14, l15, l16, l17, rfl⟩ : ∃ a0 a1 a2 a3 a4 a5 a6 a7 a8 a9 b0 b1 b2 b3 b4 b5 b6 b7, l = [a0, a1, a2, a3, a4, a5, a6, a7, a8, a9, b0, b1, b2, b3, b4, b5, b6, b7] := by
            match l, hl18 with
            | [a0, a1, a2, a3, a4, a5, a6, a7, a8, a9, b0, b1, b2, b3, b4, b5, b6, b7], _ => exact ⟨a0, a1, a2, a3, a4, a5, a6, a7, a8, a9, b0, b1, b2, b3, b4, b5, b6, b7, rfl⟩
          have lw := T3.len
          have lv := T'.len
          have hgl := st.1
          have a3 : evCallT table 15 200 8 8 [.c (.ptr q 0)] G3 = some (.c (.ptr z.p 0), G3) := arena_ok (N := 200) (d := 7) C3
          have eW : evCallT table 15 200 8 12 [.c (.ptr z.p 0), .c (.int .i64 (p : Int))] G3 = some (.c (.int .i64 (findF gs (p : Int))), G3) := C3.ah.find (N := 200) (d := 4) (p : Int) (by omega)
          have b1 : decide (findF gs (p : Int) < 0) = false := decide_eq_false (by rw [hgs]; omega)
          simp only [enter_eq, ev_seq, seqK_norm, seqK_exit, seqK_ret, ev_reg, ev_cond, condK_true, condK_false, ev_block, blockK_norm, blockK_ret, blockK_exit, ev_loop, ev_skip, ev_exit, ev_ret, regK_cons, regK_nil, guard_none, guard_some, regG_true, regG_false, regO_some, op_mov, op_conv, op_bin, op_bsl, op_box, op_mks, op_s2b, op_pick, op_un, op_eq, op_len, op_ext, op_load, op_iaddr, op_slice, op_b2s, op_idxS, op_mx, op_mn, op_call, op_store, op_app, op_copy, args_eq, result_one', rv_loc, finish_norm, finish_ret, outK_some, keep_true, keep_false, keep_nil, p_bin, p_pick, p_un, p_eq, p_conv, evNew, pureK_some, newK_some, X.eval, set_none, set_some, List.map_cons, List.map_nil, List.getD_cons_zero, List.getD_cons_succ, List.getD_nil, List.set_cons_zero, List.set_cons_succ, binCV, unCV, isShift, intArithF_eq, shiftF_eq, wrapF_eq, intArith, shift, eqVal, bound, asNat_cast, cond_true, cond_false, BEq.rfl, beq_self_eq_true, evalParts, fillParts, AV.cells, AV.ofCells, XV.av, AV.xv, List.length_cons, List.length_nil, zeros, patch, setMany, List.nil_append, List.cons_append, Nat.ble, Nat.add_eq, Nat.zero_add, Nat.add_zero, Nat.reduceAdd, Nat.reduceMul, Nat.reduceSub, Nat.ble_eq, Nat.reduceLeDiff, Nat.reduceBEq, Int.reduceBEq, Int.reduceNeg, Bool.and_true, Bool.and_false, Bool.true_and, Bool.false_and, Bool.not_true, Bool.not_false, Bool.true_eq_false, Bool.false_eq_true, Int.reduceLT, Int.reduceLE, Int.reduceGT, Int.reduceGE, decide_true, decide_false, Bool.not_eq_true, loopN_norm, loopN_exit, tf, ft, ff, ev_dreg, dregK_nil, dregK_cons, dregE_true, dregP_some, dregX_some, d_mov, d_bin, d_eq, d_pick, d_un, d_conv, d_b2s, d_len, d_load, d_iaddr, d_slice, d_ext, d_call, d_store, chk_done, chk_none, chk_some, chkG_true, chkG_false, chkOne_nil, chkOne_cons, chkH_some, chkV_same, stage_none, stage_some, look_hit, look_miss, news_nil, wb_cons, wb_nil, skip0, List.reverse_cons, List.reverse_nil, lx, v1, v3, m1, p_iaddr, d_faddr, op_faddr, p_faddr, p_load, AV.ofCells, r1, r2, ep, ef, a1, eF, r0, ek, u1, u2, eR, p_ext, List.getElem?_cons_zero, List.getElem?_cons_succ, a2, eF2]
          rw [hr _ rfl]
          simp only [enter_eq, ev_seq, seqK_norm, seqK_exit, seqK_ret, ev_reg, ev_cond, condK_true, condK_false, ev_block, blockK_norm, blockK_ret, blockK_exit, ev_loop, ev_skip, ev_exit, ev_ret, regK_cons, regK_nil, guard_none, guard_some, regG_true, regG_false, regO_some, op_mov, op_conv, op_bin, op_bsl, op_box, op_mks, op_s2b, op_pick, op_un, op_eq, op_len, op_ext, op_load, op_iaddr, op_slice, op_b2s, op_idxS, op_mx, op_mn, op_call, op_store, op_app, op_copy, args_eq, result_one', rv_loc, finish_norm, finish_ret, outK_some, keep_true, keep_false, keep_nil, p_bin, p_pick, p_un, p_eq, p_conv, evNew, pureK_some, newK_some, X.eval, set_none, set_some, List.map_cons, List.map_nil, List.getD_cons_zero, List.getD_cons_succ, List.getD_nil, List.set_cons_zero, List.set_cons_succ, binCV, unCV, isShift, intArithF_eq, shiftF_eq, wrapF_eq, intArith, shift, eqVal, bound, asNat_cast, cond_true, cond_false, BEq.rfl, beq_self_eq_true, evalParts, fillParts, AV.cells, AV.ofCells, XV.av, AV.xv, List.length_cons, List.length_nil, zeros, patch, setMany, List.nil_append, List.cons_append, Nat.ble, Nat.add_eq, Nat.zero_add, Nat.add_zero, Nat.reduceAdd, Nat.reduceMul, Nat.reduceSub, Nat.ble_eq, Nat.reduceLeDiff, Nat.reduceBEq, Int.reduceBEq, Int.reduceNeg, Bool.and_true, Bool.and_false, Bool.true_and, Bool.false_and, Bool.not_true, Bool.not_false, Bool.true_eq_false, Bool.false_eq_true, Int.reduceLT, Int.reduceLE, Int.reduceGT, Int.reduceGE, decide_true, decide_false, Bool.not_eq_true, loopN_norm, loopN_exit, tf, ft, ff, ev_dreg, dregK_nil, dregK_cons, dregE_true, dregP_some, dregX_some, d_mov, d_bin, d_eq, d_pick, d_un, d_conv, d_b2s, d_len, d_load, d_iaddr, d_slice, d_ext, d_call, d_store, chk_done, chk_none, chk_some, chkG_true, chkG_false, chkOne_nil, chkOne_cons, chkH_some, chkV_same, stage_none, stage_some, look_hit, look_miss, news_nil, wb_cons, wb_nil, skip0, List.reverse_cons, List.reverse_nil, blockK_exit_eq, p_iaddr, op_faddr, p_faddr, p_load, AV.ofCells, bneI, eqq, lw, lv, hgl, v2, a3, eW, b1]
          exact ⟨_, _, rfl, by omega, ⟨_, _, _, _, _, C3, hJ⟩, (xgw.own xR yz).trans x3, rfl⟩
        have hfn' : findF fs (p : Int) < 0 := by omega
        have hlo : o.length = cz fs := C.ah.free
        cases o with
        | cons f0 o' =>
          obtain ⟨k, hk, rfl, hk0⟩ := C.ah.fo.lt (x := f0) (by simp)
          obtain ⟨y, M2, G2, eR, C2, xR, _⟩ : ∃ y M' h', evCallT table 15 200 8 11 [.c (.ptr q 0), .c (.int .i64 (p : Int))] G1 = some (.tup [.c (.int .i64 0), .c (.int .i64 (k : Int)), .c (.int .i64 (-1))], h') ∧ CH h' q z (fs.set k ⟨1, (p : Int), 1, false, y⟩) o' M' ((k : Int) :: od.filter (usedB fs)) ts ∧ ExtB (z.own q) G1 h' ∧ k < fs.length := room_free (N := 200) (d := 1) C1 (by omega) hfn' (by omega)
          have kn := (C.ah.ok k fs[k] (List.getElem?_eq_getElem hk)).n (by omega)
          have st : Stay fs (fs.set k ⟨1, (p : Int), 1, false, y⟩) := stay_set hk (by rw [kn.2.1]; decide)
          have hJ : ∀ (j : Nat) (f : Fm), (fs.set k ⟨1, (p : Int), 1, false, y⟩)[j]? = some f → f.st ≠ 4 ∧ f.pn ≤ ((i + 1 : Nat) : Int) := by rw [hcast]; exact J_set hk J (by show (1 : Int) ≠ 4; decide) (by show (1 : Int) ≤ (i : Int) + 1; omega)
          have hgk : (fs.set k ⟨1, (p : Int), 1, false, y⟩)[k]? = some ⟨1, (p : Int), 1, false, y⟩ := (set_at hk).2 (.inl ⟨rfl, rfl⟩)
          obtain ⟨gs, hgs⟩ : ∃ g, g = fs.set k ⟨1, (p : Int), 1, false, y⟩ := ⟨_, rfl⟩
          rw [← hgs] at C2 st hJ hgk
          have a2 : evCallT table 15 200 8 8 [.c (.ptr q 0)] G2 = some (.c (.ptr z.p 0), G2) := arena_ok (N := 200) (d := 7) C2
          obtain ⟨v, G3, eF2, T', C3, x3⟩ : ∃ y h', evCallT table 15 200 8 9 [.c (.ptr z.p 0)] G2 = some (.c y, h') ∧ Tells G2 h' y gs ∧ CH h' q z gs _ _ _ _ ∧ Ext G2 h' := C2.frames (N := 200) (d := 7) (by omega)
          have T3 : Tells G G3 w fs := (show Tells G G2 w fs from Mine.keepB T xR fun j hj hm => by have := Mine.young T j hj; have := C.old j hm; omega).keepB (x3.b []) (by simp)
          obtain ⟨r, ⟨a0, a2_, a6, a8, a15, l, rfl, hl18⟩, hr⟩ := loop_any (coreLooks (i := i) (q := q) (pp := p) (x := .sl bx 0 m (.dy 4)) (e := 0) (g := (k : Int)) (old := (-1)) T3 T' st sm) rfl
          obtain ⟨l00, l01, l02, l03, l04, l05, l06, l07, l08, l09, l10, l11, l12, l13, l14, l15, l16, l17, rfl⟩ : ∃ a0 a1 a2 a3 a4 a5 a6 a7 a8 a9 b0 b1 b2 b3 b4 b5 b6 b7, l = [a0, a1, a2, a3, a4, a5, a6, a7, a8, a9, b0, b1, b2, b3, b4, b5, b6, b7] := by
            match l, hl18 with
            | [a0, a1, a2, a3, a4, a5, a6, a7, a8, a9, b0, b1, b2, b3, b4, b5, b6, b7], _ => exact ⟨a0, a1, a2, a3, a4, a5, a6, a7, a8, a9, b0, b1, b2, b3, b4, b5, b6, b7, rfl⟩
          have lw := T3.len
          have lv := T'.len
          have hgl := st.1
          have hkg : k < gs.length := by rw [hgl]; exact hk
          obtain ⟨vb, rfl, hvb, V⟩ := T'.at_ hkg
          rw [hgl] at lv
          have s1 := V.g
          have s2 := V.n
          rw [List.getElem?_eq_getElem hkg] at hgk
          simp only [Option.some.injEq] at hgk
          rw [hgk] at s1 s2
          have b1 : decide ((k : Int) < 0) = false := decide_eq_false (by omega)
          have b2 : decide ((k : Int) ≥ (fs.length : Int)) = false := decide_eq_false (by omega)
          have m2 : Nat.blt k fs.length = true := bltT hk
          simp only [enter_eq, ev_seq, seqK_norm, seqK_exit, seqK_ret, ev_reg, ev_cond, condK_true, condK_false, ev_block, blockK_norm, blockK_ret, blockK_exit, ev_loop, ev_skip, ev_exit, ev_ret, regK_cons, regK_nil, guard_none, guard_some, regG_true, regG_false, regO_some, op_mov, op_conv, op_bin, op_bsl, op_box, op_mks, op_s2b, op_pick, op_un, op_eq, op_len, op_ext, op_load, op_iaddr, op_slice, op_b2s, op_idxS, op_mx, op_mn, op_call, op_store, op_app, op_copy, args_eq, result_one', rv_loc, finish_norm, finish_ret, outK_some, keep_true, keep_false, keep_nil, p_bin, p_pick, p_un, p_eq, p_conv, evNew, pureK_some, newK_some, X.eval, set_none, set_some, List.map_cons, List.map_nil, List.getD_cons_zero, List.getD_cons_succ, List.getD_nil, List.set_cons_zero, List.set_cons_succ, binCV, unCV, isShift, intArithF_eq, shiftF_eq, wrapF_eq, intArith, shift, eqVal, bound, asNat_cast, cond_true, cond_false, BEq.rfl, beq_self_eq_true, evalParts, fillParts, AV.cells, AV.ofCells, XV.av, AV.xv, List.length_cons, List.length_nil, zeros, patch, setMany, List.nil_append, List.cons_append, Nat.ble, Nat.add_eq, Nat.zero_add, Nat.add_zero, Nat.reduceAdd, Nat.reduceMul, Nat.reduceSub, Nat.ble_eq, Nat.reduceLeDiff, Nat.reduceBEq, Int.reduceBEq, Int.reduceNeg, Bool.and_true, Bool.and_false, Bool.true_and, Bool.false_and, Bool.not_true, Bool.not_false, Bool.true_eq_false, Bool.false_eq_true, Int.reduceLT, Int.reduceLE, Int.reduceGT, Int.reduceGE, decide_true, decide_false, Bool.not_eq_true, loopN_norm, loopN_exit, tf, ft, ff, ev_dreg, dregK_nil, dregK_cons, dregE_true, dregP_some, dregX_some, d_mov, d_bin, d_eq, d_pick, d_un, d_conv, d_b2s, d_len, d_load, d_iaddr, d_slice, d_ext, d_call, d_store, chk_done, chk_none, chk_some, chkG_true, chkG_false, chkOne_nil, chkOne_cons, chkH_some, chkV_same, stage_none, stage_some, look_hit, look_miss, news_nil, wb_cons, wb_nil, skip0, List.reverse_cons, List.reverse_nil, lx, v1, v3, m1, p_iaddr, d_faddr, op_faddr, p_faddr, p_load, AV.ofCells, r1, r2, ep, ef, a1, eF, r0, ek, u1, u2, eR, p_ext, List.getElem?_cons_zero, List.getElem?_cons_succ, a2, eF2]
          rw [hr _ rfl]
          simp only [enter_eq, ev_seq, seqK_norm, seqK_exit, seqK_ret, ev_reg, ev_cond, condK_true, condK_false, ev_block, blockK_norm, blockK_ret, blockK_exit, ev_loop, ev_skip, ev_exit, ev_ret, regK_cons, regK_nil, guard_none, guard_some, regG_true, regG_false, regO_some, op_mov, op_conv, op_bin, op_bsl, op_box, op_mks, op_s2b, op_pick, op_un, op_eq, op_len, op_ext, op_load, op_iaddr, op_slice, op_b2s, op_idxS, op_mx, op_mn, op_call, op_store, op_app, op_copy, args_eq, result_one', rv_loc, finish_norm, finish_ret, outK_some, keep_true, keep_false, keep_nil, p_bin, p_pick, p_un, p_eq, p_conv, evNew, pureK_some, newK_some, X.eval, set_none, set_some, List.map_cons, List.map_nil, List.getD_cons_zero, List.getD_cons_succ, List.getD_nil, List.set_cons_zero, List.set_cons_succ, binCV, unCV, isShift, intArithF_eq, shiftF_eq, wrapF_eq, intArith, shift, eqVal, bound, asNat_cast, cond_true, cond_false, BEq.rfl, beq_self_eq_true, evalParts, fillParts, AV.cells, AV.ofCells, XV.av, AV.xv, List.length_cons, List.length_nil, zeros, patch, setMany, List.nil_append, List.cons_append, Nat.ble, Nat.add_eq, Nat.zero_add, Nat.add_zero, Nat.reduceAdd, Nat.reduceMul, Nat.reduceSub, Nat.ble_eq, Nat.reduceLeDiff, Nat.reduceBEq, Int.reduceBEq, Int.reduceNeg, Bool.and_true, Bool.and_false, Bool.true_and, Bool.false_and, Bool.not_true, Bool.not_false, Bool.true_eq_false, Bool.false_eq_true, Int.reduceLT, Int.reduceLE, Int.reduceGT, Int.reduceGE, decide_true, decide_false, Bool.not_eq_true, loopN_norm, loopN_exit, tf, ft, ff, ev_dreg, dregK_nil, dregK_cons, dregE_true, dregP_some, dregX_some, d_mov, d_bin, d_eq, d_pick, d_un, d_conv, d_b2s, d_len, d_load, d_iaddr, d_slice, d_ext, d_call, d_store, chk_done, chk_none, chk_some, chkG_true, chkG_false, chkOne_nil, chkOne_cons, chkH_some, chkV_same, stage_none, stage_some, look_hit, look_miss, news_nil, wb_cons, wb_nil, skip0, List.reverse_cons, List.reverse_nil, blockK_exit_eq, p_iaddr, op_faddr, p_faddr, p_load, AV.ofCells, bneI, eqq, lw, lv, hgl, v2, b1, b2, m2, s1, s2]
          exact ⟨_, _, rfl, by omega, ⟨_, _, _, _, _, C3, hJ⟩, (xgw.own xR yz).trans x3, rfl⟩
        | nil =>
          have czf : (cz fs : Int) = 0 := by rw [← hlo]; rfl
          obtain ⟨O, hO⟩ : ∃ O, O = ts.foldl applyM (od.filter (usedB fs)) := ⟨_, rfl⟩
          have hOu : ∀ x ∈ O, ∃ j : Nat, x = (j : Int) ∧ ∃ hj : j < fs.length, fs[j].st = 1 := fun x hx => by
            rw [hO] at hx
            have := List.mem_filter.1 (applyM_all.1 hx)
            obtain ⟨j, rfl, hj⟩ := C.lo x this.1
            refine ⟨j, rfl, hj, ?_⟩
            have hu := this.2
            rw [usedB_eq hj] at hu
            exact eq_of_beq hu
          by_cases hS : (spareF fs O).1 = 0
          · obtain ⟨xx, old, hSe⟩ : ∃ x old, spareF fs O = (0, x, old) := ⟨(spareF fs O).2.1, (spareF fs O).2.2, by rw [← hS]⟩
            obtain ⟨hx', hpn, hdt, hpg⟩ := spareF_some hSe
            obtain ⟨k, rfl, hk, hks⟩ := hOu xx hx'
            obtain ⟨y, M2, G2, eR, C2, xR, _, _, hk0, hkd, hkp⟩ : ∃ y M' h', evCallT table 15 200 8 11 [.c (.ptr q 0), .c (.int .i64 (p : Int))] G1 = some (.tup [.c (.int .i64 0), .c (.int .i64 (k : Int)), .c (.int .i64 old)], h') ∧ CH h' q z (fs.set k ⟨1, (p : Int), 1, false, y⟩) [] M' _ _ ∧ ExtB (z.own q) G1 h' ∧ ∃ hi : k < fs.length, fs[k].st = 1 ∧ fs[k].pn = 0 ∧ fs[k].dt = false ∧ fs[k].pg = old := room_go (N := 200) (d := 1) C1 (by omega) hfn' (by rw [← hO]; exact hSe) (by omega)
            have kk := (C.ah.ok k fs[k] (List.getElem?_eq_getElem hk)).u hks
            have st : Stay fs (fs.set k ⟨1, (p : Int), 1, false, y⟩) := stay_set hk (by rw [hk0]; decide)
            have hJ : ∀ (j : Nat) (f : Fm), (fs.set k ⟨1, (p : Int), 1, false, y⟩)[j]? = some f → f.st ≠ 4 ∧ f.pn ≤ ((i + 1 : Nat) : Int) := by rw [hcast]; exact J_set hk J (by show (1 : Int) ≠ 4; decide) (by show (1 : Int) ≤ (i : Int) + 1; omega)
            have hgk : (fs.set k ⟨1, (p : Int), 1, false, y⟩)[k]? = some ⟨1, (p : Int), 1, false, y⟩ := (set_at hk).2 (.inl ⟨rfl, rfl⟩)
            obtain ⟨gs, hgs⟩ : ∃ g, g = fs.set k ⟨1, (p : Int), 1, false, y⟩ := ⟨_, rfl⟩
            rw [← hgs] at C2 st hJ hgk
            have a2 : evCallT table 15 200 8 8 [.c (.ptr q 0)] G2 = some (.c (.ptr z.p 0), G2) := arena_ok (N := 200) (d := 7) C2
            obtain ⟨v, G3, eF2, T', C3, x3⟩ : ∃ y h', evCallT table 15 200 8 9 [.c (.ptr z.p 0)] G2 = some (.c y, h') ∧ Tells G2 h' y gs ∧ CH h' q z gs _ _ _ _ ∧ Ext G2 h' := C2.frames (N := 200) (d := 7) (by omega)
            have T3 : Tells G G3 w fs := (show Tells G G2 w fs from Mine.keepB T xR fun j hj hm => by have := Mine.young T j hj; have := C.old j hm; omega).keepB (x3.b []) (by simp)
            obtain ⟨r, ⟨a0, a2_, a6, a8, a15, l, rfl, hl18⟩, hr⟩ := loop_any (coreLooks (i := i) (q := q) (pp := p) (x := .sl bx 0 m (.dy 4)) (e := 0) (g := (k : Int)) (old := old) T3 T' st sm) rfl
            obtain ⟨l00, l01, l02, l03, l04, l05, l06, l07, l08, l09, l10, l11, l12, l13, l14, l15, l16, l17, rfl⟩ : ∃ a0 a1 a2 a3 a4 a5 a6 a7 a8 a9 b0 b1 b2 b3 b4 b5 b6 b7, l = [a0, a1, a2, a3, a4, a5, a6, a7, a8, a9, b0, b1, b2, b3, b4, b5, b6, b7] := by
              match l, hl18 with
              | [a0, a1, a2, a3, a4, a5, a6, a7, a8, a9, b0, b1, b2, b3, b4, b5, b6, b7], _ => exact ⟨a0, a1, a2, a3, a4, a5, a6, a7, a8, a9, b0, b1, b2, b3, b4, b5, b6, b7, rfl⟩
            have lw := T3.len
            have lv := T'.len
            have hgl := st.1
            have hkg : k < gs.length := by rw [hgl]; exact hk
            obtain ⟨vb, rfl, hvb, V⟩ := T'.at_ hkg
            rw [hgl] at lv
            obtain ⟨wb, rfl, hwb, W⟩ := T3.at_ hk
            have s1 := V.g
            have s2 := V.n
            have s3 := W.g
            have s4 := W.n
            have s5 := W.d
            rw [hkp] at s3
            rw [hk0] at s4
            rw [hkd] at s5
            rw [List.getElem?_eq_getElem hkg] at hgk
            simp only [Option.some.injEq] at hgk
            rw [hgk] at s1 s2
            have b1 : decide ((k : Int) < 0) = false := decide_eq_false (by omega)
            have b2 : decide ((k : Int) ≥ (fs.length : Int)) = false := decide_eq_false (by omega)
            have b3 : decide (old ≥ 0) = true := decide_eq_true (by omega)
            have m2 : Nat.blt k fs.length = true := bltT hk
            simp only [enter_eq, ev_seq, seqK_norm, seqK_exit, seqK_ret, ev_reg, ev_cond, condK_true, condK_false, ev_block, blockK_norm, blockK_ret, blockK_exit, ev_loop, ev_skip, ev_exit, ev_ret, regK_cons, regK_nil, guard_none, guard_some, regG_true, regG_false, regO_some, op_mov, op_conv, op_bin, op_bsl, op_box, op_mks, op_s2b, op_pick, op_un, op_eq, op_len, op_ext, op_load, op_iaddr, op_slice, op_b2s, op_idxS, op_mx, op_mn, op_call, op_store, op_app, op_copy, args_eq, result_one', rv_loc, finish_norm, finish_ret, outK_some, keep_true, keep_false, keep_nil, p_bin, p_pick, p_un, p_eq, p_conv, evNew, pureK_some, newK_some, X.eval, set_none, set_some, List.map_cons, List.map_nil, List.getD_cons_zero, List.getD_cons_succ, List.getD_nil, List.set_cons_zero, List.set_cons_succ, binCV, unCV, isShift, intArithF_eq, shiftF_eq, wrapF_eq, intArith, shift, eqVal, bound, asNat_cast, cond_true, cond_false, BEq.rfl, beq_self_eq_true, evalParts, fillParts, AV.cells, AV.ofCells, XV.av, AV.xv, List.length_cons, List.length_nil, zeros, patch, setMany, List.nil_append, List.cons_append, Nat.ble, Nat.add_eq, Nat.zero_add, Nat.add_zero, Nat.reduceAdd, Nat.reduceMul, Nat.reduceSub, Nat.ble_eq, Nat.reduceLeDiff, Nat.reduceBEq, Int.reduceBEq, Int.reduceNeg, Bool.and_true, Bool.and_false, Bool.true_and, Bool.false_and, Bool.not_true, Bool.not_false, Bool.true_eq_false, Bool.false_eq_true, Int.reduceLT, Int.reduceLE, Int.reduceGT, Int.reduceGE, decide_true, decide_false, Bool.not_eq_true, loopN_norm, loopN_exit, tf, ft, ff, ev_dreg, dregK_nil, dregK_cons, dregE_true, dregP_some, dregX_some, d_mov, d_bin, d_eq, d_pick, d_un, d_conv, d_b2s, d_len, d_load, d_iaddr, d_slice, d_ext, d_call, d_store, chk_done, chk_none, chk_some, chkG_true, chkG_false, chkOne_nil, chkOne_cons, chkH_some, chkV_same, stage_none, stage_some, look_hit, look_miss, news_nil, wb_cons, wb_nil, skip0, List.reverse_cons, List.reverse_nil, lx, v1, v3, m1, p_iaddr, d_faddr, op_faddr, p_faddr, p_load, AV.ofCells, r1, r2, ep, ef, a1, eF, r0, ek, u1, u2, eR, p_ext, List.getElem?_cons_zero, List.getElem?_cons_succ, a2, eF2]
            rw [hr _ rfl]
            simp only [enter_eq, ev_seq, seqK_norm, seqK_exit, seqK_ret, ev_reg, ev_cond, condK_true, condK_false, ev_block, blockK_norm, blockK_ret, blockK_exit, ev_loop, ev_skip, ev_exit, ev_ret, regK_cons, regK_nil, guard_none, guard_some, regG_true, regG_false, regO_some, op_mov, op_conv, op_bin, op_bsl, op_box, op_mks, op_s2b, op_pick, op_un, op_eq, op_len, op_ext, op_load, op_iaddr, op_slice, op_b2s, op_idxS, op_mx, op_mn, op_call, op_store, op_app, op_copy, args_eq, result_one', rv_loc, finish_norm, finish_ret, outK_some, keep_true, keep_false, keep_nil, p_bin, p_pick, p_un, p_eq, p_conv, evNew, pureK_some, newK_some, X.eval, set_none, set_some, List.map_cons, List.map_nil, List.getD_cons_zero, List.getD_cons_succ, List.getD_nil, List.set_cons_zero, List.set_cons_succ, binCV, unCV, isShift, intArithF_eq, shiftF_eq, wrapF_eq, intArith, shift, eqVal, bound, asNat_cast, cond_true, cond_false, BEq.rfl, beq_self_eq_true, evalParts, fillParts, AV.cells, AV.ofCells, XV.av, AV.xv, List.length_cons, List.length_nil, zeros, patch, setMany, List.nil_append, List.cons_append, Nat.ble, Nat.add_eq, Nat.zero_add, Nat.add_zero, Nat.reduceAdd, Nat.reduceMul, Nat.reduceSub, Nat.ble_eq, Nat.reduceLeDiff, Nat.reduceBEq, Int.reduceBEq, Int.reduceNeg, Bool.and_true, Bool.and_false, Bool.true_and, Bool.false_and, Bool.not_true, Bool.not_false, Bool.true_eq_false, Bool.false_eq_true, Int.reduceLT, Int.reduceLE, Int.reduceGT, Int.reduceGE, decide_true, decide_false, Bool.not_eq_true, loopN_norm, loopN_exit, tf, ft, ff, ev_dreg, dregK_nil, dregK_cons, dregE_true, dregP_some, dregX_some, d_mov, d_bin, d_eq, d_pick, d_un, d_conv, d_b2s, d_len, d_load, d_iaddr, d_slice, d_ext, d_call, d_store, chk_done, chk_none, chk_some, chkG_true, chkG_false, chkOne_nil, chkOne_cons, chkH_some, chkV_same, stage_none, stage_some, look_hit, look_miss, news_nil, wb_cons, wb_nil, skip0, List.reverse_cons, List.reverse_nil, blockK_exit_eq, p_iaddr, op_faddr, p_faddr, p_load, AV.ofCells, bneI, eqq, lw, lv, hgl, v2, b1, b2, b3, m2, s1, s2, s3, s4, s5, czf]
            exact ⟨_, _, rfl, by omega, ⟨_, _, _, _, _, C3, hJ⟩, (xgw.own xR yz).trans x3, rfl⟩
          · obtain ⟨gs, hgs⟩ : ∃ g, g = fs := ⟨_, rfl⟩
            obtain ⟨G2, eR0, C2, xR⟩ := room_stay (N := 200) (d := 1) C1 (by omega) hfn' (by rw [← hO]; exact hS) (by omega)
            rw [← hO] at eR0
            rw [← hgs] at C2
            have st : Stay fs gs := hgs ▸ stF
            have hJ : ∀ (j : Nat) (f : Fm), gs[j]? = some f → f.st ≠ 4 ∧ f.pn ≤ ((i + 1 : Nat) : Int) := hgs ▸ J1
            cases hfd : O.reverse.find? (idleB fs) with
            | none =>
              have hSe : spareF fs O = (8, -1, -1) := by unfold spareF; rw [hfd]
              rw [hSe] at eR0
              have eR : evCallT table 15 200 8 11 [.c (.ptr q 0), .c (.int .i64 (p : Int))] G1 = some (.tup [.c (.int .i64 8), .c (.int .i64 (-1)), .c (.int .i64 (-1))], G2) := eR0
              have cpf : (cp fs : Int) = (fs.length : Int) := by
                rw [cp_all fs fun f hf => by
                  obtain ⟨j, hj⟩ := List.getElem?_of_mem hf
                  have hjl := (List.getElem?_eq_some_iff.1 hj).1
                  have s := (C.ah.ok j f hj).s
                  have n4 := (J j f hj).1
                  have n0 : f.st ≠ 0 := fun h0 => by
                    have := (C.ah.fo (j : Int)).2 ⟨j, f, rfl, hj, h0⟩
                    cases this
                  have h1 : f.st = 1 := by omega
                  have hm : (j : Int) ∈ O := by
                    rw [hO, applyM_all, List.mem_filter]
                    refine ⟨C.hi j f hj h1, ?_⟩
                    rw [usedB_eq hjl]
                    have : fs[j] = f := (List.getElem?_eq_some_iff.1 hj).2
                    rw [this, h1]; rfl
                  have := (List.find?_eq_none.1 hfd) (j : Int) (by simpa using hm)
                  unfold idleB at this
                  rw [frm_eq hjl, (List.getElem?_eq_some_iff.1 hj).2] at this
                  simpa using this]
              have a2 : evCallT table 15 200 8 8 [.c (.ptr q 0)] G2 = some (.c (.ptr z.p 0), G2) := arena_ok (N := 200) (d := 7) C2
              obtain ⟨v, G3, eF2, T', C3, x3⟩ : ∃ y h', evCallT table 15 200 8 9 [.c (.ptr z.p 0)] G2 = some (.c y, h') ∧ Tells G2 h' y gs ∧ CH h' q z gs _ _ _ _ ∧ Ext G2 h' := C2.frames (N := 200) (d := 7) (by omega)
              have T3 : Tells G G3 w fs := (show Tells G G2 w fs from Mine.keepB T xR fun j hj hm => by have := Mine.young T j hj; have := C.old j hm; omega).keepB (x3.b []) (by simp)
              obtain ⟨r, ⟨a0, a2_, a6, a8, a15, l, rfl, hl18⟩, hr⟩ := loop_any (coreLooks (i := i) (q := q) (pp := p) (x := .sl bx 0 m (.dy 4)) (e := 8) (g := (-1)) (old := (-1)) T3 T' st sm) rfl
              obtain ⟨l00, l01, l02, l03, l04, l05, l06, l07, l08, l09, l10, l11, l12, l13, l14, l15, l16, l17, rfl⟩ : ∃ a0 a1 a2 a3 a4 a5 a6 a7 a8 a9 b0 b1 b2 b3 b4 b5 b6 b7, l = [a0, a1, a2, a3, a4, a5, a6, a7, a8, a9, b0, b1, b2, b3, b4, b5, b6, b7] := by
                match l, hl18 with
                | [a0, a1, a2, a3, a4, a5, a6, a7, a8, a9, b0, b1, b2, b3, b4, b5, b6, b7], _ => exact ⟨a0, a1, a2, a3, a4, a5, a6, a7, a8, a9, b0, b1, b2, b3, b4, b5, b6, b7, rfl⟩
              have lw := T3.len
              have lv := T'.len
              have hgl := st.1
              simp only [enter_eq, ev_seq, seqK_norm, seqK_exit, seqK_ret, ev_reg, ev_cond, condK_true, condK_false, ev_block, blockK_norm, blockK_ret, blockK_exit, ev_loop, ev_skip, ev_exit, ev_ret, regK_cons, regK_nil, guard_none, guard_some, regG_true, regG_false, regO_some, op_mov, op_conv, op_bin, op_bsl, op_box, op_mks, op_s2b, op_pick, op_un, op_eq, op_len, op_ext, op_load, op_iaddr, op_slice, op_b2s, op_idxS, op_mx, op_mn, op_call, op_store, op_app, op_copy, args_eq, result_one', rv_loc, finish_norm, finish_ret, outK_some, keep_true, keep_false, keep_nil, p_bin, p_pick, p_un, p_eq, p_conv, evNew, pureK_some, newK_some, X.eval, set_none, set_some, List.map_cons, List.map_nil, List.getD_cons_zero, List.getD_cons_succ, List.getD_nil, List.set_cons_zero, List.set_cons_succ, binCV, unCV, isShift, intArithF_eq, shiftF_eq, wrapF_eq, intArith, shift, eqVal, bound, asNat_cast, cond_true, cond_false, BEq.rfl, beq_self_eq_true, evalParts, fillParts, AV.cells, AV.ofCells, XV.av, AV.xv, List.length_cons, List.length_nil, zeros, patch, setMany, List.nil_append, List.cons_append, Nat.ble, Nat.add_eq, Nat.zero_add, Nat.add_zero, Nat.reduceAdd, Nat.reduceMul, Nat.reduceSub, Nat.ble_eq, Nat.reduceLeDiff, Nat.reduceBEq, Int.reduceBEq, Int.reduceNeg, Bool.and_true, Bool.and_false, Bool.true_and, Bool.false_and, Bool.not_true, Bool.not_false, Bool.true_eq_false, Bool.false_eq_true, Int.reduceLT, Int.reduceLE, Int.reduceGT, Int.reduceGE, decide_true, decide_false, Bool.not_eq_true, loopN_norm, loopN_exit, tf, ft, ff, ev_dreg, dregK_nil, dregK_cons, dregE_true, dregP_some, dregX_some, d_mov, d_bin, d_eq, d_pick, d_un, d_conv, d_b2s, d_len, d_load, d_iaddr, d_slice, d_ext, d_call, d_store, chk_done, chk_none, chk_some, chkG_true, chkG_false, chkOne_nil, chkOne_cons, chkH_some, chkV_same, stage_none, stage_some, look_hit, look_miss, news_nil, wb_cons, wb_nil, skip0, List.reverse_cons, List.reverse_nil, lx, v1, v3, m1, p_iaddr, d_faddr, op_faddr, p_faddr, p_load, AV.ofCells, r1, r2, ep, ef, a1, eF, r0, ek, u1, u2, eR, p_ext, List.getElem?_cons_zero, List.getElem?_cons_succ, a2, eF2]
              rw [hr _ rfl]
              simp only [enter_eq, ev_seq, seqK_norm, seqK_exit, seqK_ret, ev_reg, ev_cond, condK_true, condK_false, ev_block, blockK_norm, blockK_ret, blockK_exit, ev_loop, ev_skip, ev_exit, ev_ret, regK_cons, regK_nil, guard_none, guard_some, regG_true, regG_false, regO_some, op_mov, op_conv, op_bin, op_bsl, op_box, op_mks, op_s2b, op_pick, op_un, op_eq, op_len, op_ext, op_load, op_iaddr, op_slice, op_b2s, op_idxS, op_mx, op_mn, op_call, op_store, op_app, op_copy, args_eq, result_one', rv_loc, finish_norm, finish_ret, outK_some, keep_true, keep_false, keep_nil, p_bin, p_pick, p_un, p_eq, p_conv, evNew, pureK_some, newK_some, X.eval, set_none, set_some, List.map_cons, List.map_nil, List.getD_cons_zero, List.getD_cons_succ, List.getD_nil, List.set_cons_zero, List.set_cons_succ, binCV, unCV, isShift, intArithF_eq, shiftF_eq, wrapF_eq, intArith, shift, eqVal, bound, asNat_cast, cond_true, cond_false, BEq.rfl, beq_self_eq_true, evalParts, fillParts, AV.cells, AV.ofCells, XV.av, AV.xv, List.length_cons, List.length_nil, zeros, patch, setMany, List.nil_append, List.cons_append, Nat.ble, Nat.add_eq, Nat.zero_add, Nat.add_zero, Nat.reduceAdd, Nat.reduceMul, Nat.reduceSub, Nat.ble_eq, Nat.reduceLeDiff, Nat.reduceBEq, Int.reduceBEq, Int.reduceNeg, Bool.and_true, Bool.and_false, Bool.true_and, Bool.false_and, Bool.not_true, Bool.not_false, Bool.true_eq_false, Bool.false_eq_true, Int.reduceLT, Int.reduceLE, Int.reduceGT, Int.reduceGE, decide_true, decide_false, Bool.not_eq_true, loopN_norm, loopN_exit, tf, ft, ff, ev_dreg, dregK_nil, dregK_cons, dregE_true, dregP_some, dregX_some, d_mov, d_bin, d_eq, d_pick, d_un, d_conv, d_b2s, d_len, d_load, d_iaddr, d_slice, d_ext, d_call, d_store, chk_done, chk_none, chk_some, chkG_true, chkG_false, chkOne_nil, chkOne_cons, chkH_some, chkV_same, stage_none, stage_some, look_hit, look_miss, news_nil, wb_cons, wb_nil, skip0, List.reverse_cons, List.reverse_nil, blockK_exit_eq, p_iaddr, op_faddr, p_faddr, p_load, AV.ofCells, bneI, eqq, lw, lv, hgl, v2, czf, cpf]
              exact ⟨_, _, rfl, by omega, ⟨_, _, _, _, _, C3, hJ⟩, (xgw.own xR yz).trans x3, rfl⟩
            | some xx =>
              have hid := List.find?_some hfd
              obtain ⟨k, rfl, hk, hks⟩ := hOu xx (by have := List.mem_of_find?_eq_some hfd; simpa using this)
              have hfr := frm_eq hk
              have hSe : spareF fs O = ((if fs[k].dt then 12 else 0), (k : Int), fs[k].pg) := by unfold spareF; rw [hfd]; simp only [hfr]
              have hdt : fs[k].dt = true := by
                cases hd : fs[k].dt with
                | true => rfl
                | false => rw [hd] at hSe; rw [hSe] at hS; simp at hS
              rw [hdt] at hSe
              rw [hSe] at eR0
              obtain ⟨old, hold⟩ : ∃ v, v = fs[k].pg := ⟨_, rfl⟩
              rw [← hold] at eR0
              have eR : evCallT table 15 200 8 11 [.c (.ptr q 0), .c (.int .i64 (p : Int))] G1 = some (.tup [.c (.int .i64 12), .c (.int .i64 (k : Int)), .c (.int .i64 old)], G2) := eR0
              have hpn : ¬ fs[k].pn > 0 := by unfold idleB at hid; rw [hfr] at hid; simpa using hid
              have a2 : evCallT table 15 200 8 8 [.c (.ptr q 0)] G2 = some (.c (.ptr z.p 0), G2) := arena_ok (N := 200) (d := 7) C2
              obtain ⟨v, G3, eF2, T', C3, x3⟩ : ∃ y h', evCallT table 15 200 8 9 [.c (.ptr z.p 0)] G2 = some (.c y, h') ∧ Tells G2 h' y gs ∧ CH h' q z gs _ _ _ _ ∧ Ext G2 h' := C2.frames (N := 200) (d := 7) (by omega)
              have T3 : Tells G G3 w fs := (show Tells G G2 w fs from Mine.keepB T xR fun j hj hm => by have := Mine.young T j hj; have := C.old j hm; omega).keepB (x3.b []) (by simp)
              obtain ⟨r, ⟨a0, a2_, a6, a8, a15, l, rfl, hl18⟩, hr⟩ := loop_any (coreLooks (i := i) (q := q) (pp := p) (x := .sl bx 0 m (.dy 4)) (e := 12) (g := (k : Int)) (old := old) T3 T' st sm) rfl
              obtain ⟨l00, l01, l02, l03, l04, l05, l06, l07, l08, l09, l10, l11, l12, l13, l14, l15, l16, l17, rfl⟩ : ∃ a0 a1 a2 a3 a4 a5 a6 a7 a8 a9 b0 b1 b2 b3 b4 b5 b6 b7, l = [a0, a1, a2, a3, a4, a5, a6, a7, a8, a9, b0, b1, b2, b3, b4, b5, b6, b7] := by
                match l, hl18 with
                | [a0, a1, a2, a3, a4, a5, a6, a7, a8, a9, b0, b1, b2, b3, b4, b5, b6, b7], _ => exact ⟨a0, a1, a2, a3, a4, a5, a6, a7, a8, a9, b0, b1, b2, b3, b4, b5, b6, b7, rfl⟩
              have lw := T3.len
              have lv := T'.len
              have hgl := st.1
              obtain ⟨wb, rfl, hwb, W⟩ := T3.at_ hk
              have s3 := W.g
              have s4 := W.n
              have s5 := W.d
              rw [hdt] at s5
              rw [← hold] at s3
              have b1 : decide ((k : Int) < 0) = false := decide_eq_false (by omega)
              have b2 : decide ((k : Int) ≥ (fs.length : Int)) = false := decide_eq_false (by omega)
              have b4 : decide (fs[k].pn > 0) = false := decide_eq_false hpn
              have m2 : Nat.blt k fs.length = true := bltT hk
              simp only [enter_eq, ev_seq, seqK_norm, seqK_exit, seqK_ret, ev_reg, ev_cond, condK_true, condK_false, ev_block, blockK_norm, blockK_ret, blockK_exit, ev_loop, ev_skip, ev_exit, ev_ret, regK_cons, regK_nil, guard_none, guard_some, regG_true, regG_false, regO_some, op_mov, op_conv, op_bin, op_bsl, op_box, op_mks, op_s2b, op_pick, op_un, op_eq, op_len, op_ext, op_load, op_iaddr, op_slice, op_b2s, op_idxS, op_mx, op_mn, op_call, op_store, op_app, op_copy, args_eq, result_one', rv_loc, finish_norm, finish_ret, outK_some, keep_true, keep_false, keep_nil, p_bin, p_pick, p_un, p_eq, p_conv, evNew, pureK_some, newK_some, X.eval, set_none, set_some, List.map_cons, List.map_nil, List.getD_cons_zero, List.getD_cons_succ, List.getD_nil, List.set_cons_zero, List.set_cons_succ, binCV, unCV, isShift, intArithF_eq, shiftF_eq, wrapF_eq, intArith, shift, eqVal, bound, asNat_cast, cond_true, cond_false, BEq.rfl, beq_self_eq_true, evalParts, fillParts, AV.cells, AV.ofCells, XV.av, AV.xv, List.length_cons, List.length_nil, zeros, patch, setMany, List.nil_append, List.cons_append, Nat.ble, Nat.add_eq, Nat.zero_add, Nat.add_zero, Nat.reduceAdd, Nat.reduceMul, Nat.reduceSub, Nat.ble_eq, Nat.reduceLeDiff, Nat.reduceBEq, Int.reduceBEq, Int.reduceNeg, Bool.and_true, Bool.and_false, Bool.true_and, Bool.false_and, Bool.not_true, Bool.not_false, Bool.true_eq_false, Bool.false_eq_true, Int.reduceLT, Int.reduceLE, Int.reduceGT, Int.reduceGE, decide_true, decide_false, Bool.not_eq_true, loopN_norm, loopN_exit, tf, ft, ff, ev_dreg, dregK_nil, dregK_cons, dregE_true, dregP_some, dregX_some, d_mov, d_bin, d_eq, d_pick, d_un, d_conv, d_b2s, d_len, d_load, d_iaddr, d_slice, d_ext, d_call, d_store, chk_done, chk_none, chk_some, chkG_true, chkG_false, chkOne_nil, chkOne_cons, chkH_some, chkV_same, stage_none, stage_some, look_hit, look_miss, news_nil, wb_cons, wb_nil, skip0, List.reverse_cons, List.reverse_nil, lx, v1, v3, m1, p_iaddr, d_faddr, op_faddr, p_faddr, p_load, AV.ofCells, r1, r2, ep, ef, a1, eF, r0, ek, u1, u2, eR, p_ext, List.getElem?_cons_zero, List.getElem?_cons_succ, a2, eF2]
              rw [hr _ rfl]
              simp only [enter_eq, ev_seq, seqK_norm, seqK_exit, seqK_ret, ev_reg, ev_cond, condK_true, condK_false, ev_block, blockK_norm, blockK_ret, blockK_exit, ev_loop, ev_skip, ev_exit, ev_ret, regK_cons, regK_nil, guard_none, guard_some, regG_true, regG_false, regO_some, op_mov, op_conv, op_bin, op_bsl, op_box, op_mks, op_s2b, op_pick, op_un, op_eq, op_len, op_ext, op_load, op_iaddr, op_slice, op_b2s, op_idxS, op_mx, op_mn, op_call, op_store, op_app, op_copy, args_eq, result_one', rv_loc, finish_norm, finish_ret, outK_some, keep_true, keep_false, keep_nil, p_bin, p_pick, p_un, p_eq, p_conv, evNew, pureK_some, newK_some, X.eval, set_none, set_some, List.map_cons, List.map_nil, List.getD_cons_zero, List.getD_cons_succ, List.getD_nil, List.set_cons_zero, List.set_cons_succ, binCV, unCV, isShift, intArithF_eq, shiftF_eq, wrapF_eq, intArith, shift, eqVal, bound, asNat_cast, cond_true, cond_false, BEq.rfl, beq_self_eq_true, evalParts, fillParts, AV.cells, AV.ofCells, XV.av, AV.xv, List.length_cons, List.length_nil, zeros, patch, setMany, List.nil_append, List.cons_append, Nat.ble, Nat.add_eq, Nat.zero_add, Nat.add_zero, Nat.reduceAdd, Nat.reduceMul, Nat.reduceSub, Nat.ble_eq, Nat.reduceLeDiff, Nat.reduceBEq, Int.reduceBEq, Int.reduceNeg, Bool.and_true, Bool.and_false, Bool.true_and, Bool.false_and, Bool.not_true, Bool.not_false, Bool.true_eq_false, Bool.false_eq_true, Int.reduceLT, Int.reduceLE, Int.reduceGT, Int.reduceGE, decide_true, decide_false, Bool.not_eq_true, loopN_norm, loopN_exit, tf, ft, ff, ev_dreg, dregK_nil, dregK_cons, dregE_true, dregP_some, dregX_some, d_mov, d_bin, d_eq, d_pick, d_un, d_conv, d_b2s, d_len, d_load, d_iaddr, d_slice, d_ext, d_call, d_store, chk_done, chk_none, chk_some, chkG_true, chkG_false, chkOne_nil, chkOne_cons, chkH_some, chkV_same, stage_none, stage_some, look_hit, look_miss, news_nil, wb_cons, wb_nil, skip0, List.reverse_cons, List.reverse_nil, blockK_exit_eq, p_iaddr, op_faddr, p_faddr, p_load, AV.ofCells, bneI, eqq, lw, lv, hgl, v2, b1, b2, b4, m2, s3, s4, s5, czf]
              exact ⟨_, _, rfl, by omega, ⟨_, _, _, _, _, C3, hJ⟩, (xgw.own xR yz).trans x3, rfl⟩
      have u2 : decide ((K : Int) < 5) = false := decide_eq_false (by omega)
      by_cases c7 : K < 7
      · have u3 : decide ((K : Int) < 7) = true := decide_eq_true (by omega)
        obtain ⟨G2, e4, C2, x2⟩ := let_ok (N := 200) (d := 5) C1 (f : Int)
        have al := unpinF_alike fs (f : Int)
        have hJ : ∀ (j : Nat) (g : Fm), (unpinF fs (f : Int)).2[j]? = some g → g.st ≠ 4 ∧ g.pn ≤ ((i + 1 : Nat) : Int) := by
          intro j g hg
          unfold unpinF at hg
          cases eu : usedF fs (f : Int) with
          | none => rw [eu] at hg; exact J1 j g hg
          | some qq =>
            obtain ⟨a, b⟩ := qq
            obtain ⟨ea, ha, rfl, hs⟩ := usedF_some eu
            rw [eu] at hg
            simp only at hg
            split at hg
            · exact J1 j g hg
            · rcases (set_at ha).1 hg with ⟨rfl, rfl⟩ | ⟨_, h'⟩
              · have := J j fs[j] (List.getElem?_eq_getElem ha)
                exact ⟨this.1, by show fs[j].pn - 1 ≤ _; omega⟩
              · exact J1 j g h'
        simp only [enter_eq, ev_seq, seqK_norm, seqK_exit, seqK_ret, ev_reg, ev_cond, condK_true, condK_false, ev_block, blockK_norm, blockK_ret, blockK_exit, ev_loop, ev_skip, ev_exit, ev_ret, regK_cons, regK_nil, guard_none, guard_some, regG_true, regG_false, regO_some, op_mov, op_conv, op_bin, op_bsl, op_box, op_mks, op_s2b, op_pick, op_un, op_eq, op_len, op_ext, op_load, op_iaddr, op_slice, op_b2s, op_idxS, op_mx, op_mn, op_call, op_store, op_app, op_copy, args_eq, result_one', rv_loc, finish_norm, finish_ret, outK_some, keep_true, keep_false, keep_nil, p_bin, p_pick, p_un, p_eq, p_conv, evNew, pureK_some, newK_some, X.eval, set_none, set_some, List.map_cons, List.map_nil, List.getD_cons_zero, List.getD_cons_succ, List.getD_nil, List.set_cons_zero, List.set_cons_succ, binCV, unCV, isShift, intArithF_eq, shiftF_eq, wrapF_eq, intArith, shift, eqVal, bound, asNat_cast, cond_true, cond_false, BEq.rfl, beq_self_eq_true, evalParts, fillParts, AV.cells, AV.ofCells, XV.av, AV.xv, List.length_cons, List.length_nil, zeros, patch, setMany, List.nil_append, List.cons_append, Nat.ble, Nat.add_eq, Nat.zero_add, Nat.add_zero, Nat.reduceAdd, Nat.reduceMul, Nat.reduceSub, Nat.ble_eq, Nat.reduceLeDiff, Nat.reduceBEq, Int.reduceBEq, Int.reduceNeg, Bool.and_true, Bool.and_false, Bool.true_and, Bool.false_and, Bool.not_true, Bool.not_false, Bool.true_eq_false, Bool.false_eq_true, Int.reduceLT, Int.reduceLE, Int.reduceGT, Int.reduceGE, decide_true, decide_false, Bool.not_eq_true, loopN_norm, loopN_exit, tf, ft, ff, ev_dreg, dregK_nil, dregK_cons, dregE_true, dregP_some, dregX_some, d_mov, d_bin, d_eq, d_pick, d_un, d_conv, d_b2s, d_len, d_load, d_iaddr, d_slice, d_ext, d_call, d_store, chk_done, chk_none, chk_some, chkG_true, chkG_false, chkOne_nil, chkOne_cons, chkH_some, chkV_same, stage_none, stage_some, look_hit, look_miss, news_nil, wb_cons, wb_nil, skip0, List.reverse_cons, List.reverse_nil, lx, v1, v3, m1, p_iaddr, d_faddr, op_faddr, p_faddr, p_load, AV.ofCells, r1, r2, ep, ef, a1, eF, r0, ek, u1, u2, u3, e4, v2]
        exact ⟨_, _, rfl, by omega, ⟨_, _, _, _, _, C2, hJ⟩, xgw.own x2 yz, rfl⟩
      · have u3 : decide ((K : Int) < 7) = false := decide_eq_false (by omega)
        have a2 : evCallT table 15 200 8 8 [.c (.ptr q 0)] G1 = some (.c (.ptr z.p 0), G1) := arena_ok (N := 200) (d := 7) C1
        obtain ⟨G2, e4, C2, x2⟩ := C1.mark (N := 200) (d := 6) (f : Int) db
        have hJ : ∀ (j : Nat) (g : Fm), (markF fs (f : Int) db).2[j]? = some g → g.st ≠ 4 ∧ g.pn ≤ ((i + 1 : Nat) : Int) := by
          intro j g hg
          obtain ⟨g0, h1, h2, _, h3⟩ := (markF_st fs (f : Int) db).2 j g hg
          have := J1 j g0 h1
          exact ⟨by rw [h2]; exact this.1, by rw [h3]; exact this.2⟩
        simp only [enter_eq, ev_seq, seqK_norm, seqK_exit, seqK_ret, ev_reg, ev_cond, condK_true, condK_false, ev_block, blockK_norm, blockK_ret, blockK_exit, ev_loop, ev_skip, ev_exit, ev_ret, regK_cons, regK_nil, guard_none, guard_some, regG_true, regG_false, regO_some, op_mov, op_conv, op_bin, op_bsl, op_box, op_mks, op_s2b, op_pick, op_un, op_eq, op_len, op_ext, op_load, op_iaddr, op_slice, op_b2s, op_idxS, op_mx, op_mn, op_call, op_store, op_app, op_copy, args_eq, result_one', rv_loc, finish_norm, finish_ret, outK_some, keep_true, keep_false, keep_nil, p_bin, p_pick, p_un, p_eq, p_conv, evNew, pureK_some, newK_some, X.eval, set_none, set_some, List.map_cons, List.map_nil, List.getD_cons_zero, List.getD_cons_succ, List.getD_nil, List.set_cons_zero, List.set_cons_succ, binCV, unCV, isShift, intArithF_eq, shiftF_eq, wrapF_eq, intArith, shift, eqVal, bound, asNat_cast, cond_true, cond_false, BEq.rfl, beq_self_eq_true, evalParts, fillParts, AV.cells, AV.ofCells, XV.av, AV.xv, List.length_cons, List.length_nil, zeros, patch, setMany, List.nil_append, List.cons_append, Nat.ble, Nat.add_eq, Nat.zero_add, Nat.add_zero, Nat.reduceAdd, Nat.reduceMul, Nat.reduceSub, Nat.ble_eq, Nat.reduceLeDiff, Nat.reduceBEq, Int.reduceBEq, Int.reduceNeg, Bool.and_true, Bool.and_false, Bool.true_and, Bool.false_and, Bool.not_true, Bool.not_false, Bool.true_eq_false, Bool.false_eq_true, Int.reduceLT, Int.reduceLE, Int.reduceGT, Int.reduceGE, decide_true, decide_false, Bool.not_eq_true, loopN_norm, loopN_exit, tf, ft, ff, ev_dreg, dregK_nil, dregK_cons, dregE_true, dregP_some, dregX_some, d_mov, d_bin, d_eq, d_pick, d_un, d_conv, d_b2s, d_len, d_load, d_iaddr, d_slice, d_ext, d_call, d_store, chk_done, chk_none, chk_some, chkG_true, chkG_false, chkOne_nil, chkOne_cons, chkH_some, chkV_same, stage_none, stage_some, look_hit, look_miss, news_nil, wb_cons, wb_nil, skip0, List.reverse_cons, List.reverse_nil, lx, v1, v3, m1, p_iaddr, d_faddr, op_faddr, p_faddr, p_load, AV.ofCells, r1, r2, r3, ep, ef, a1, a2, eF, r0, ek, u1, u2, u3, e4, v2]
        exact ⟨_, _, rfl, by omega, ⟨_, _, _, _, _, C2, hJ⟩, xgw.own x2 yz, rfl⟩
    · right
      have v2 : decide ((i : Int) < (m : Int)) = true ∧ decide ((i : Int) < 120) = false ∨ decide ((i : Int) < (m : Int)) = false := by
        by_cases h : i < m
        · exact .inl ⟨ltNat h, decide_eq_false (by omega)⟩
        · exact .inr (geNat (by omega))
      rcases v2 with ⟨v1, v2⟩ | v1
      · simp only [enter_eq, ev_seq, seqK_norm, seqK_exit, seqK_ret, ev_reg, ev_cond, condK_true, condK_false, ev_block, blockK_norm, blockK_ret, blockK_exit, ev_loop, ev_skip, ev_exit, ev_ret, regK_cons, regK_nil, guard_none, guard_some, regG_true, regG_false, regO_some, op_mov, op_conv, op_bin, op_bsl, op_box, op_mks, op_s2b, op_pick, op_un, op_eq, op_len, op_ext, op_load, op_iaddr, op_slice, op_b2s, op_idxS, op_mx, op_mn, op_call, op_store, op_app, op_copy, args_eq, result_one', rv_loc, finish_norm, finish_ret, outK_some, keep_true, keep_false, keep_nil, p_bin, p_pick, p_un, p_eq, p_conv, evNew, pureK_some, newK_some, X.eval, set_none, set_some, List.map_cons, List.map_nil, List.getD_cons_zero, List.getD_cons_succ, List.getD_nil, List.set_cons_zero, List.set_cons_succ, binCV, unCV, isShift, intArithF_eq, shiftF_eq, wrapF_eq, intArith, shift, eqVal, bound, asNat_cast, cond_true, cond_false, BEq.rfl, beq_self_eq_true, evalParts, fillParts, AV.cells, AV.ofCells, XV.av, AV.xv, List.length_cons, List.length_nil, zeros, patch, setMany, List.nil_append, List.cons_append, Nat.ble, Nat.add_eq, Nat.zero_add, Nat.add_zero, Nat.reduceAdd, Nat.reduceMul, Nat.reduceSub, Nat.ble_eq, Nat.reduceLeDiff, Nat.reduceBEq, Int.reduceBEq, Int.reduceNeg, Bool.and_true, Bool.and_false, Bool.true_and, Bool.false_and, Bool.not_true, Bool.not_false, Bool.true_eq_false, Bool.false_eq_true, Int.reduceLT, Int.reduceLE, Int.reduceGT, Int.reduceGE, decide_true, decide_false, Bool.not_eq_true, loopN_norm, loopN_exit, tf, ft, ff, lx, v1, v2]
        exact ⟨_, rfl, by simp, _, _, _, _, _, rfl⟩
      · simp only [enter_eq, ev_seq, seqK_norm, seqK_exit, seqK_ret, ev_reg, ev_cond, condK_true, condK_false, ev_block, blockK_norm, blockK_ret, blockK_exit, ev_loop, ev_skip, ev_exit, ev_ret, regK_cons, regK_nil, guard_none, guard_some, regG_true, regG_false, regO_some, op_mov, op_conv, op_bin, op_bsl, op_box, op_mks, op_s2b, op_pick, op_un, op_eq, op_len, op_ext, op_load, op_iaddr, op_slice, op_b2s, op_idxS, op_mx, op_mn, op_call, op_store, op_app, op_copy, args_eq, result_one', rv_loc, finish_norm, finish_ret, outK_some, keep_true, keep_false, keep_nil, p_bin, p_pick, p_un, p_eq, p_conv, evNew, pureK_some, newK_some, X.eval, set_none, set_some, List.map_cons, List.map_nil, List.getD_cons_zero, List.getD_cons_succ, List.getD_nil, List.set_cons_zero, List.set_cons_succ, binCV, unCV, isShift, intArithF_eq, shiftF_eq, wrapF_eq, intArith, shift, eqVal, bound, asNat_cast, cond_true, cond_false, BEq.rfl, beq_self_eq_true, evalParts, fillParts, AV.cells, AV.ofCells, XV.av, AV.xv, List.length_cons, List.length_nil, zeros, patch, setMany, List.nil_append, List.cons_append, Nat.ble, Nat.add_eq, Nat.zero_add, Nat.add_zero, Nat.reduceAdd, Nat.reduceMul, Nat.reduceSub, Nat.ble_eq, Nat.reduceLeDiff, Nat.reduceBEq, Int.reduceBEq, Int.reduceNeg, Bool.and_true, Bool.and_false, Bool.true_and, Bool.false_and, Bool.not_true, Bool.not_false, Bool.true_eq_false, Bool.false_eq_true, Int.reduceLT, Int.reduceLE, Int.reduceGT, Int.reduceGE, decide_true, decide_false, Bool.not_eq_true, loopN_norm, loopN_exit, tf, ft, ff, lx, v1]
        exact ⟨_, rfl, by simp, _, _, _, _, _, rfl⟩
  obtain ⟨r, ⟨b0, b1, b2, l, G, rfl⟩, hr⟩ := loop_any L rfl
  rw [evCallT_eq (F := ir3) rfl rfl rfl]
  unfold ir3
  rw [bodyK_eq]
  simp only [enter_eq, ev_seq, seqK_norm, seqK_exit, seqK_ret, ev_reg, ev_cond, condK_true, condK_false, ev_block, blockK_norm, blockK_ret, blockK_exit, ev_loop, ev_skip, ev_exit, ev_ret, regK_cons, regK_nil, guard_none, guard_some, regG_true, regG_false, regO_some, op_mov, op_conv, op_bin, op_bsl, op_box, op_mks, op_s2b, op_pick, op_un, op_eq, op_len, op_ext, op_load, op_iaddr, op_slice, op_b2s, op_idxS, op_mx, op_mn, op_call, op_store, op_app, op_copy, args_eq, result_one', rv_loc, finish_norm, finish_ret, outK_some, keep_true, keep_false, keep_nil, p_bin, p_pick, p_un, p_eq, p_conv, evNew, pureK_some, newK_some, X.eval, set_none, set_some, List.map_cons, List.map_nil, List.getD_cons_zero, List.getD_cons_succ, List.getD_nil, List.set_cons_zero, List.set_cons_succ, binCV, unCV, isShift, intArithF_eq, shiftF_eq, wrapF_eq, intArith, shift, eqVal, bound, asNat_cast, cond_true, cond_false, BEq.rfl, beq_self_eq_true, evalParts, fillParts, AV.cells, AV.ofCells, XV.av, AV.xv, List.length_cons, List.length_nil, zeros, patch, setMany, List.nil_append, List.cons_append, Nat.ble, Nat.add_eq, Nat.zero_add, Nat.add_zero, Nat.reduceAdd, Nat.reduceMul, Nat.reduceSub, Nat.ble_eq, Nat.reduceLeDiff, Nat.reduceBEq, Int.reduceBEq, Int.reduceNeg, Bool.and_true, Bool.and_false, Bool.true_and, Bool.false_and, Bool.not_true, Bool.not_false, Bool.true_eq_false, Bool.false_eq_true, Int.reduceLT, Int.reduceLE, Int.reduceGT, Int.reduceGE, decide_true, decide_false, Bool.not_eq_true, loopN_norm, loopN_exit, tf, ft, ff, e1, w1, e3', a0]
  rw [hr _ rfl]
  simp only [enter_eq, ev_seq, seqK_norm, seqK_exit, seqK_ret, ev_reg, ev_cond, condK_true, condK_false, ev_block, blockK_norm, blockK_ret, blockK_exit, ev_loop, ev_skip, ev_exit, ev_ret, regK_cons, regK_nil, guard_none, guard_some, regG_true, regG_false, regO_some, op_mov, op_conv, op_bin, op_bsl, op_box, op_mks, op_s2b, op_pick, op_un, op_eq, op_len, op_ext, op_load, op_iaddr, op_slice, op_b2s, op_idxS, op_mx, op_mn, op_call, op_store, op_app, op_copy, args_eq, result_one', rv_loc, finish_norm, finish_ret, outK_some, keep_true, keep_false, keep_nil, p_bin, p_pick, p_un, p_eq, p_conv, evNew, pureK_some, newK_some, X.eval, set_none, set_some, List.map_cons, List.map_nil, List.getD_cons_zero, List.getD_cons_succ, List.getD_nil, List.set_cons_zero, List.set_cons_succ, binCV, unCV, isShift, intArithF_eq, shiftF_eq, wrapF_eq, intArith, shift, eqVal, bound, asNat_cast, cond_true, cond_false, BEq.rfl, beq_self_eq_true, evalParts, fillParts, AV.cells, AV.ofCells, XV.av, AV.xv, List.length_cons, List.length_nil, zeros, patch, setMany, List.nil_append, List.cons_append, Nat.ble, Nat.add_eq, Nat.zero_add, Nat.add_zero, Nat.reduceAdd, Nat.reduceMul, Nat.reduceSub, Nat.ble_eq, Nat.reduceLeDiff, Nat.reduceBEq, Int.reduceBEq, Int.reduceNeg, Bool.and_true, Bool.and_false, Bool.true_and, Bool.false_and, Bool.not_true, Bool.not_false, Bool.true_eq_false, Bool.false_eq_true, Int.reduceLT, Int.reduceLE, Int.reduceGT, Int.reduceGE, decide_true, decide_false, Bool.not_eq_true, loopN_norm, loopN_exit, tf, ft, ff, blockK_exit_eq, evCallT_told]
  rfl
end Lav

namespace Go.Proofs.Ytdcjiljegffalaa.corePins
open Go.ChangeShapes Go.WideShapes Go.ChangeAt Go.RowKit
open Go.ChangeMaps (open_string shut_string)
set_option linter.unusedVariables false

theorem own : ownKnob Try.prog.godebug = none := by kernel_rfl
theorem laidOut : laidOutB Try.prog = true := by kernel_rfl

/-- What the walk is told of a slice of ints that came in. -/
def IsRow (k : IntKind) (w : World) (a : Option Addr) (len cap : Nat) (zs : List Int) : Prop :=
  (a = none ∧ len = 0 ∧ cap = 0 ∧ zs = []) ∨
  ∃ x, a = some x ∧ len ≤ cap ∧ cap ≤ maxLen ∧ zs.length = cap ∧ (∀ i, i < zs.length → w.cell? (x.add i) = some (.int k (zs.getD i 0))) ∧ ∀ n ∈ zs, (Lit.int k n).wf = true

/-- What the walk is told of a slice of records of ints that came in: it is nil; or it leads to a row of 'cap' records, 'sz' cells each. -/
def IsRecs (sz : Nat) (w : World) (a : Option Addr) (len cap : Nat) (zs : List Int) : Prop :=
  (a = none ∧ len = 0 ∧ cap = 0 ∧ zs = []) ∨
  ∃ x, a = some x ∧ len ≤ cap ∧ cap ≤ maxLen ∧ zs.length = cap * sz ∧ (∀ i, i < zs.length → w.cell? (x.add i) = some (.int .i64 (zs.getD i 0))) ∧ ∀ n ∈ zs, (Lit.int .i64 n).wf = true

theorem walk (a0 : Int) (a1 : Option Addr) (len1 cap1 : Nat) (w : World) (w0 : (Lit.int .i64 a0).wf = true) (w1 : Lav.MixIs [.int, .int, .int, .bool] w a1 len1 cap1) :
    Calls Try.prog 3 #[.int .i64 a0, .slice a1 len1 cap1] w fun e w' => e = .returned (.bool true) ∧ Below w.heap.size w w' := by
  obtain ⟨ι, h, x, cs, I, hle, _, hx, hr⟩ := (Lav.Init.empty w).mix (by decide) w1
  exact Lav.walk_of (Lav.evCallT_sound Lav.mixed Lav.table_ok Lav.tld11 200 9) I (args := [.c (.int .i64 a0), .c x]) (vs := [.int .i64 a0, .slice a1 len1 cap1]) ⟨rfl, hx, trivial⟩ (Lav.corePins a0 hr)

set_option maxRecDepth 100000 in
theorem lifted (os : Os) (started : os.Started) (H : Type) (enc : TypeId × Value → H) :
    ReturnsInHanded {} Try.checked os 3 .any (Rows.corePinsSpec.pre6 enc Try.prog Try.f3 Rows.corePinsRow.domain false) (Rows.corePinsSpec.post enc Try.prog Try.f3 false true false false) := by
  refine returnsInHanded_of_change (C := Try.checked) own started (by kernel_rfl) Try.func3
    (ChangeSpec.witness6 (enc := enc) (C := Try.checked) false ⟨#[], #[.int .i64 0, .slice none 0 0], []⟩ 8 (by kernel_rfl) (by kernel_rfl) (by kernel_rfl) (by kernel_rfl)) ?_
  intro W base args ds gs before hval0 hW hcnd _
  have hval : ∀ (j : Nat) t v, Try.f3.params[j]? = some t → args[j]? = some v → Value.okWide Try.prog W .any base t v := hval0
  have hW' := hW
  obtain ⟨p, q, hA0, hV, rfl, hfz, hnd⟩ := hW
  have hA : DataW.TrodAll enc Try.prog W 0 (fun _ => true) true Try.f3.params.toList args.toList ds p := hA0
  rw [Try.params3] at hA hval
  obtain ⟨v0, vs0, d0, ds0, p0, q0, hargs, rfl, rfl, h0, r0⟩ := trodAll_cons hA
  obtain ⟨v1, vs1, d1, ds1, p1, q1, rfl, rfl, rfl, h1, r1⟩ := trodAll_cons r0
  obtain ⟨rfl, rfl, rfl⟩ := trodAll_nil r1
  obtain rfl : args = #[v0, v1] := by cases args; simp_all
  obtain ⟨rfl, rfl⟩ := trodVars_none hV
  obtain ⟨a0, rfl, rfl, rfl, w0⟩ := open_int Try.underlying3 (hval 0 3 v0 rfl rfl) h0
  obtain ⟨a1, len1, cap1, rfl⟩ := okWide_slice Try.underlying22 (hval 1 22 v1 rfl rfl)
  have k1 := h1
  have lt1 : ∀ x ∈ p1, x.block < W.heap.size := by obtain ⟨m, hm⟩ := k1; exact DataW.trod_lt m _ _ _ hm
  have w1 : Lav.MixIs [.int, .int, .int, .bool] W a1 len1 cap1 := by
    obtain ⟨fuel, hf⟩ := h1
    obtain ⟨x, l, c, hcs, hw⟩ := Lav.open_mix (d := 1) (ks := [.int, .int, .int, .bool]) Try.underlying22 (by kernel_rfl) (.inr ⟨_, Try.underlying29, by kernel_rfl, by
        intro j k hj
        match j, hj with
        | 0, hj => exact ⟨0, _, 0, [.int], rfl, rfl, by kernel_rfl, hj, (Lav.Flat.int Try.underlying3)⟩
        | 1, hj => exact ⟨1, _, 0, [.int], rfl, rfl, by kernel_rfl, hj, (Lav.Flat.int Try.underlying3)⟩
        | 2, hj => exact ⟨2, _, 0, [.int], rfl, rfl, by kernel_rfl, hj, (Lav.Flat.int Try.underlying3)⟩
        | 3, hj => exact ⟨3, _, 0, [.bool], rfl, rfl, by kernel_rfl, hj, (Lav.Flat.bool Try.underlying4)⟩
        | j + 4, hj => cases hj⟩) hf
    simp [Value.cells] at hcs
    obtain ⟨rfl, rfl, rfl⟩ := hcs
    exact hw
  clear hA0 hval0
  refine (walk a0 a1 len1 cap1 W w0 w1).mono fun e W' ⟨he, bel⟩ => ?_
  subst he
  exact ⟨_, rfl, _, _, _, [], _, [], hW', trodAll_mk1 (shut_bool Try.underlying4 _), (trodAll_cons_mk (shut_int Try.underlying3 w0) (trodAll_cons_mk (Below.trod laidOut (by kernel_rfl) (of_decide_eq_true (by kernel_rfl)) k1 bel lt1) trodAll_mk0)), rfl, bel.frame _, fun h => by cases h⟩

theorem over : Rows.corePinsRow.holds Try.pinned (OpenSpec.ofChange Rows.corePinsSpec) :=
  OpenClaim.holds_of_wide 3 Try.f3 rfl rfl rfl rfl rfl rfl rfl ⟨rfl, rfl, rfl, rfl, rfl⟩ rfl rfl rfl rfl rfl (by kernel_rfl) Try.func3 (by kernel_rfl)
    (of_decide_eq_true (by kernel_rfl)) (by unfold Func.isWrapper; first | (rw [if_pos (by decide +kernel)]; kernel_rfl) | (rw [if_neg (by decide +kernel)]; exact ⟨rfl, rfl⟩))
    (fun os started H enc _ => lifted os started H enc)

theorem proved : Rows.CorePinsSaid := over
end Go.Proofs.Ytdcjiljegffalaa.corePins
