/-
  Proved: whatever bytes, cut and pool come in, lavabolaw15.ScriptParts returns true and changes nothing that was there. No conditions beyond the given statement's.
-/
import Derived.Test.YtdeehmncnfdmkaaRows
import Derived.Test.YtdeehmncnfdmkaaScr8
import Derived.WalkKit
import Derived.ProofKit
import Derived.OpenShut
import Derived.ShutString
import Derived.ChangeOld
import Derived.Below
set_option maxRecDepth 100000
set_option linter.unusedSimpArgs false
namespace Lav
open Go (IntKind)
theorem scriptParts {h : Heap} {s : List Nat} {b : CV} (c : Cf) (t : Txt h b s) (sh : b = .nils ∨ ∃ i o, b = .sl i o s.length (.dy 1)) (cut : Int) :
    good (evCallX table 21 37 200 10 9 [.c b, .c (.int .i64 cut), .agg (cfC c)] h) = true := by
  obtain ⟨H0, hH0⟩ : ∃ H, H = h.new (.cells (cfC c)) := ⟨_, rfl⟩
  have x0 : Ext h H0 := by rw [hH0]; exact (Ext.refl _).new _
  have n0 : H0.next = h.next + 1 := by rw [hH0]; rfl
  have g0 : H0.get h.next = some (.cells (cfC c)) := by rw [hH0]; exact get_new_at
  have q0 : H0.read h.next 0 4 = some (cfC c) := read_all g0 rfl
  have bx : AV.cells (.agg (cfC c)) = some (cfC c) := rfl
  have lb : ∀ loc vals H, evPure loc (.c b :: vals) H (.len .sl (.val 0)) = some (.c (.int .i64 (s.length : Int))) := fun _ _ _ => t.len rfl
  rw [evCallX_eq (F := ir9) rfl rfl rfl rfl]
  unfold ir9
  rw [bodyK_eq]
  by_cases c1 : s.length > 200
  · have v1 : decide ((s.length : Int) > 200) = true := decide_eq_true (by omega)
    simp only [enter_eq, ev_seq, seqK_norm, seqK_exit, seqK_ret, ev_reg, ev_cond, condK_true, condK_false, ev_block, blockK_norm, blockK_ret, blockK_exit, ev_loop, ev_skip, ev_exit, ev_ret, regK_cons, regK_nil, guard_none, guard_some, regG_true, regG_false, regO_some, op_mov, op_conv, op_bin, op_bsl, op_box, op_mks, op_s2b, op_pick, op_un, op_eq, op_len, op_ext, op_load, op_iaddr, op_slice, op_b2s, op_idxS, op_mx, op_mn, op_call, op_store, op_app, op_copy, args_eq, result_one', rv_loc, finish_norm, finish_ret, outK_some, keep_true, keep_false, keep_nil, p_bin, p_pick, p_un, p_eq, p_conv, evNew, pureK_some, newK_some, X.eval, set_none, set_some, List.map_cons, List.map_nil, List.getD_cons_zero, List.getD_cons_succ, List.getD_nil, List.set_cons_zero, List.set_cons_succ, binCV, unCV, isShift, intArithF_eq, shiftF_eq, wrapF_eq, intArith, shift, eqVal, bound, asNat_cast, cond_true, cond_false, BEq.rfl, beq_self_eq_true, evalParts, fillParts, AV.cells, AV.ofCells, XV.av, AV.xv, List.length_cons, List.length_nil, zeros, patch, setMany, List.nil_append, List.cons_append, Nat.ble, Nat.add_eq, Nat.zero_add, Nat.add_zero, Nat.reduceAdd, Nat.reduceMul, Nat.reduceSub, Nat.ble_eq, Nat.reduceLeDiff, Nat.reduceBEq, Int.reduceBEq, Int.reduceNeg, Bool.and_true, Bool.and_false, Bool.true_and, Bool.false_and, Bool.not_true, Bool.not_false, Bool.true_eq_false, Bool.false_eq_true, Int.reduceLT, Int.reduceLE, Int.reduceGT, Int.reduceGE, decide_true, decide_false, Bool.not_eq_true, loopN_norm, loopN_exit, tf, ft, ff, bx, ← hH0, lb, v1, evCallX_told]
    rfl
  have v1 : decide ((s.length : Int) > 200) = false := decide_eq_false (by omega)
  have w1 : IntKind.i64.wrap (Int.tdiv (s.length : Int) 4) = ((s.length / 4 : Nat) : Int) := by
    have : Int.tdiv (s.length : Int) 4 = ((s.length / 4 : Nat) : Int) := tdivN s.length 4
    rw [this]; exact wrapNat (by omega)
  have w2 : IntKind.i64.wrap (((s.length / 4 : Nat) : Int) + 1) = ((s.length / 4 + 1 : Nat) : Int) := succI (by omega)
  have w3 : IntKind.u64.wrap ((s.length / 4 + 1 : Nat) : Int) = ((s.length / 4 + 1 : Nat) : Int) := wrapUNat (by omega)
  obtain ⟨k, hk, e1⟩ := few (a := cut) (m := s.length / 4 + 1) (by omega) (by omega)
  have w4 : IntKind.i64.wrap ((k : Int) * 4) = ((4 * k : Nat) : Int) := by rw [wrapI (by omega) (by omega)]; omega
  have w5 : (((s.length / 4 + 1 : Nat) : Int) == 0) = false := by simp only [beq_eq_false_iff_ne, ne_eq]; omega
  obtain ⟨b1, b2, S1, S2, T1, sh1, T2, sh2⟩ := parts_ok t sh (k := 4 * k) (by omega)
  obtain ⟨z1, H1, e2, R1, x1⟩ := all_any (N := 200) (d := 2) (h := H0) c (T1.ext x0) sh1 (by simp; omega) (by omega)
  obtain ⟨z2, H2, e3, R2, x2⟩ := all_any (N := 200) (d := 2) (h := H1) c (T2.ext (x0.trans x1)) sh2 (by simp; omega) (by omega)
  obtain ⟨z3, H3, e4, R3, x3⟩ := all_any (N := 200) (d := 2) (h := H2) c (t.ext ((x0.trans x1).trans x2)) sh (by omega) (by omega)
  have hn0 := x1.1
  have hn1 := x2.1
  have q1 : H1.read h.next 0 4 = some (cfC c) := read_all (x1.at_ g0 (by omega)) rfl
  have q2 : H2.read h.next 0 4 = some (cfC c) := read_all (x2.at_ (x1.at_ g0 (by omega)) (by omega)) rfl
  have q3 : H3.read h.next 0 4 = some (cfC c) := read_all ((x2.trans x3).at_ (x1.at_ g0 (by omega)) (by omega)) rfl
  obtain ⟨n1, n2, n3, hn, hl, R1, R2, R3⟩ : ∃ n1 n2 n3, n3 = n1 + n2 ∧ n3 ≤ 50 ∧ Rows H0 H3 z1 n1 (stp c s) ∧ Rows H1 H3 z2 n2 (fun j => stp c s (n1 + j)) ∧ Rows H2 H3 z3 n3 (stp c s) := by
    have l1 : (s.take (4 * k)).length / 4 = k := by simp; omega
    have l2 : (s.drop (4 * k)).length / 4 = s.length / 4 - k := by simp; omega
    rw [l1] at R1
    rw [l2] at R2
    cases hc : c.ok with
    | true =>
      rw [hc, if_pos rfl] at R1 R2 R3
      exact ⟨k, s.length / 4 - k, s.length / 4, by omega, by omega, (R1.ext (x2.trans x3)).congr fun j hj => stp_take hj, (R2.ext x3).congr fun j hj => stp_drop, R3⟩
    | false =>
      rw [hc, if_neg (by simp)] at R1 R2 R3
      exact ⟨0, 0, 0, rfl, by omega, (R1.ext (x2.trans x3)).congr fun j hj => by omega, (R2.ext x3).congr fun j hj => by omega, R3⟩
  have y1 : ∀ loc vals H, evPure loc (.c z1 :: vals) H (.len .sl (.val 0)) = some (.c (.int .i64 (n1 : Int))) := fun _ _ _ => R1.len rfl
  have y2 : ∀ loc vals H, evPure loc (.c z2 :: vals) H (.len .sl (.val 0)) = some (.c (.int .i64 (n2 : Int))) := fun _ _ _ => R2.len rfl
  have y3 : ∀ loc vals H, evPure loc (.c z3 :: vals) H (.len .sl (.val 0)) = some (.c (.int .i64 (n3 : Int))) := fun _ _ _ => R3.len rfl
  have w6 : IntKind.i64.wrap ((n1 : Int) + (n2 : Int)) = (n3 : Int) := by rw [wrapI (by omega) (by omega)]; omega
  have bneI : ∀ {a b : Int}, (a != b) = !(a == b) := rfl
  have L : ∀ loc, keepOnly ir9_k0 loc = [.junk, .junk, .junk, .junk, .junk, .junk, .c z1, .c z2, .c z3, .c (.int .i64 0), .junk, .junk, .junk, .junk] →
      ∃ r, loopK (evCallX table 21 37 200 9) 200 ir9_k0 ir9_l0 200 loc H3 = some r ∧ ∃ a0 a1 a2 a3 a4 l G, r = (.exit 0, a0 :: a1 :: a2 :: a3 :: a4 :: l, G) := by
    intro loc hloc
    refine loop_inv (n := n3) (fun i loc G => i ≤ n3 ∧ Ext H3 G ∧ loc = [.junk, .junk, .junk, .junk, .junk, .junk, .c z1, .c z2, .c z3, .c (.int .i64 (i : Int)), .junk, .junk, .junk, .junk]) _ ?_ ⟨Nat.zero_le _, Ext.refl _, hloc⟩ (by omega)
    rintro i loc G hi ⟨hin, xg, rfl⟩
    unfold ir9_l0
    by_cases hlt : i < n3
    · left
      refine ⟨hlt, ?_⟩
      have v3 : decide ((i : Int) < (n3 : Int)) = true := ltNat hlt
      have v4 := succI (i := i) (by omega)
      obtain ⟨a3, x3, x3', rfl, _, r3, t3, t3'⟩ := (R3.ext xg).at_ hlt
      have m3 : Nat.blt i n3 = true := bltT hlt
      by_cases h1 : i < n1
      · obtain ⟨a1, x1, x1', rfl, _, r1, t1, t1'⟩ := (R1.ext xg).at_ h1
        have m1 : Nat.blt i n1 = true := bltT h1
        have v5 : decide ((i : Int) < (n1 : Int)) = true := ltNat h1
        have v6 : decide ((i : Int) ≥ (n1 : Int)) = false := decide_eq_false (by omega)
        obtain ⟨G', e5, xg'⟩ := same_ok (N := 200) (d := 7) t1 t1' t3 t3'
        simp only [enter_eq, ev_seq, seqK_norm, seqK_exit, seqK_ret, ev_reg, ev_cond, condK_true, condK_false, ev_block, blockK_norm, blockK_ret, blockK_exit, ev_loop, ev_skip, ev_exit, ev_ret, regK_cons, regK_nil, guard_none, guard_some, regG_true, regG_false, regO_some, op_mov, op_conv, op_bin, op_bsl, op_box, op_mks, op_s2b, op_pick, op_un, op_eq, op_len, op_ext, op_load, op_iaddr, op_slice, op_b2s, op_idxS, op_mx, op_mn, op_call, op_store, op_app, op_copy, args_eq, result_one', rv_loc, finish_norm, finish_ret, outK_some, keep_true, keep_false, keep_nil, p_bin, p_pick, p_un, p_eq, p_conv, evNew, pureK_some, newK_some, X.eval, set_none, set_some, List.map_cons, List.map_nil, List.getD_cons_zero, List.getD_cons_succ, List.getD_nil, List.set_cons_zero, List.set_cons_succ, binCV, unCV, isShift, intArithF_eq, shiftF_eq, wrapF_eq, intArith, shift, eqVal, bound, asNat_cast, cond_true, cond_false, BEq.rfl, beq_self_eq_true, evalParts, fillParts, AV.cells, AV.ofCells, XV.av, AV.xv, List.length_cons, List.length_nil, zeros, patch, setMany, List.nil_append, List.cons_append, Nat.ble, Nat.add_eq, Nat.zero_add, Nat.add_zero, Nat.reduceAdd, Nat.reduceMul, Nat.reduceSub, Nat.ble_eq, Nat.reduceLeDiff, Nat.reduceBEq, Int.reduceBEq, Int.reduceNeg, Bool.and_true, Bool.and_false, Bool.true_and, Bool.false_and, Bool.not_true, Bool.not_false, Bool.true_eq_false, Bool.false_eq_true, Int.reduceLT, Int.reduceLE, Int.reduceGT, Int.reduceGE, decide_true, decide_false, Bool.not_eq_true, loopN_norm, loopN_exit, tf, ft, ff, ev_dreg, dregK_nil, dregK_cons, dregE_true, dregP_some, dregX_some, d_mov, d_bin, d_eq, d_pick, d_un, d_conv, d_b2s, d_len, d_load, d_iaddr, d_slice, d_ext, d_call, d_store, chk_done, chk_none, chk_some, chkG_true, chkG_false, chkOne_nil, chkOne_cons, chkH_some, chkV_same, stage_none, stage_some, look_hit, look_miss, news_nil, wb_cons, wb_nil, skip0, List.reverse_cons, List.reverse_nil, y1, y2, y3, v3, v4, v5, v6, p_iaddr, m1, m3, r1, r3, p_load, AV.ofCells, Nat.zero_add, e5, d_mov_not, d_call_not, d_bin_not, d_eq_not, d_un_not, d_pick_not, d_load_not, d_len_not, d_faddr_not, d_nilchk_not, d_iaddr_not]
        exact ⟨_, _, rfl, by omega, xg.trans xg', rfl⟩
      · obtain ⟨a2, x2, x2', rfl, _, r2, t2, t2'⟩ := (R2.ext xg).at_ (j := i - n1) (by omega)
        rw [show n1 + (i - n1) = i by omega] at r2 t2 t2'
        have m2 : Nat.blt (i - n1) n2 = true := bltT (by omega)
        have v5 : decide ((i : Int) < (n1 : Int)) = false := geNat (by omega)
        have v6 : decide ((i : Int) ≥ (n1 : Int)) = true := decide_eq_true (by omega)
        have v7 : IntKind.i64.wrap ((i : Int) - (n1 : Int)) = ((i - n1 : Nat) : Int) := by rw [wrapI (by omega) (by omega)]; omega
        obtain ⟨G', e5, xg'⟩ := same_ok (N := 200) (d := 7) t2 t2' t3 t3'
        simp only [enter_eq, ev_seq, seqK_norm, seqK_exit, seqK_ret, ev_reg, ev_cond, condK_true, condK_false, ev_block, blockK_norm, blockK_ret, blockK_exit, ev_loop, ev_skip, ev_exit, ev_ret, regK_cons, regK_nil, guard_none, guard_some, regG_true, regG_false, regO_some, op_mov, op_conv, op_bin, op_bsl, op_box, op_mks, op_s2b, op_pick, op_un, op_eq, op_len, op_ext, op_load, op_iaddr, op_slice, op_b2s, op_idxS, op_mx, op_mn, op_call, op_store, op_app, op_copy, args_eq, result_one', rv_loc, finish_norm, finish_ret, outK_some, keep_true, keep_false, keep_nil, p_bin, p_pick, p_un, p_eq, p_conv, evNew, pureK_some, newK_some, X.eval, set_none, set_some, List.map_cons, List.map_nil, List.getD_cons_zero, List.getD_cons_succ, List.getD_nil, List.set_cons_zero, List.set_cons_succ, binCV, unCV, isShift, intArithF_eq, shiftF_eq, wrapF_eq, intArith, shift, eqVal, bound, asNat_cast, cond_true, cond_false, BEq.rfl, beq_self_eq_true, evalParts, fillParts, AV.cells, AV.ofCells, XV.av, AV.xv, List.length_cons, List.length_nil, zeros, patch, setMany, List.nil_append, List.cons_append, Nat.ble, Nat.add_eq, Nat.zero_add, Nat.add_zero, Nat.reduceAdd, Nat.reduceMul, Nat.reduceSub, Nat.ble_eq, Nat.reduceLeDiff, Nat.reduceBEq, Int.reduceBEq, Int.reduceNeg, Bool.and_true, Bool.and_false, Bool.true_and, Bool.false_and, Bool.not_true, Bool.not_false, Bool.true_eq_false, Bool.false_eq_true, Int.reduceLT, Int.reduceLE, Int.reduceGT, Int.reduceGE, decide_true, decide_false, Bool.not_eq_true, loopN_norm, loopN_exit, tf, ft, ff, ev_dreg, dregK_nil, dregK_cons, dregE_true, dregP_some, dregX_some, d_mov, d_bin, d_eq, d_pick, d_un, d_conv, d_b2s, d_len, d_load, d_iaddr, d_slice, d_ext, d_call, d_store, chk_done, chk_none, chk_some, chkG_true, chkG_false, chkOne_nil, chkOne_cons, chkH_some, chkV_same, stage_none, stage_some, look_hit, look_miss, news_nil, wb_cons, wb_nil, skip0, List.reverse_cons, List.reverse_nil, y1, y2, y3, v3, v4, v5, v6, v7, p_iaddr, m2, m3, r2, r3, p_load, AV.ofCells, Nat.zero_add, e5, d_mov_not, d_call_not, d_bin_not, d_eq_not, d_un_not, d_pick_not, d_load_not, d_len_not, d_faddr_not, d_nilchk_not, d_iaddr_not]
        exact ⟨_, _, rfl, by omega, xg.trans xg', rfl⟩
    · right
      have hin' : i = n3 := by omega
      subst hin'
      have v3 : decide ((i : Int) < (i : Int)) = false := geNat (Nat.le_refl _)
      simp only [enter_eq, ev_seq, seqK_norm, seqK_exit, seqK_ret, ev_reg, ev_cond, condK_true, condK_false, ev_block, blockK_norm, blockK_ret, blockK_exit, ev_loop, ev_skip, ev_exit, ev_ret, regK_cons, regK_nil, guard_none, guard_some, regG_true, regG_false, regO_some, op_mov, op_conv, op_bin, op_bsl, op_box, op_mks, op_s2b, op_pick, op_un, op_eq, op_len, op_ext, op_load, op_iaddr, op_slice, op_b2s, op_idxS, op_mx, op_mn, op_call, op_store, op_app, op_copy, args_eq, result_one', rv_loc, finish_norm, finish_ret, outK_some, keep_true, keep_false, keep_nil, p_bin, p_pick, p_un, p_eq, p_conv, evNew, pureK_some, newK_some, X.eval, set_none, set_some, List.map_cons, List.map_nil, List.getD_cons_zero, List.getD_cons_succ, List.getD_nil, List.set_cons_zero, List.set_cons_succ, binCV, unCV, isShift, intArithF_eq, shiftF_eq, wrapF_eq, intArith, shift, eqVal, bound, asNat_cast, cond_true, cond_false, BEq.rfl, beq_self_eq_true, evalParts, fillParts, AV.cells, AV.ofCells, XV.av, AV.xv, List.length_cons, List.length_nil, zeros, patch, setMany, List.nil_append, List.cons_append, Nat.ble, Nat.add_eq, Nat.zero_add, Nat.add_zero, Nat.reduceAdd, Nat.reduceMul, Nat.reduceSub, Nat.ble_eq, Nat.reduceLeDiff, Nat.reduceBEq, Int.reduceBEq, Int.reduceNeg, Bool.and_true, Bool.and_false, Bool.true_and, Bool.false_and, Bool.not_true, Bool.not_false, Bool.true_eq_false, Bool.false_eq_true, Int.reduceLT, Int.reduceLE, Int.reduceGT, Int.reduceGE, decide_true, decide_false, Bool.not_eq_true, loopN_norm, loopN_exit, tf, ft, ff, y3, v3]
      exact ⟨_, rfl, by simp, _, _, _, _, _, _, _, rfl⟩
  obtain ⟨r, hr, a0, a1, a2, a3, a4, l, G, rfl⟩ := L [.c b, .c (.int .i64 cut), .agg (cfC c), .c (.ptr h.next 0), .c (.bool false), .c (.int .i64 ((4 * k : Nat) : Int)), .c z1, .c z2, .c z3, .c (.int .i64 0), .c (.bool false), .c (.bool false), .tup [], .tup []] rfl
  simp only [enter_eq, ev_seq, seqK_norm, seqK_exit, seqK_ret, ev_reg, ev_cond, condK_true, condK_false, ev_block, blockK_norm, blockK_ret, blockK_exit, ev_loop, ev_skip, ev_exit, ev_ret, regK_cons, regK_nil, guard_none, guard_some, regG_true, regG_false, regO_some, op_mov, op_conv, op_bin, op_bsl, op_box, op_mks, op_s2b, op_pick, op_un, op_eq, op_len, op_ext, op_load, op_iaddr, op_slice, op_b2s, op_idxS, op_mx, op_mn, op_call, op_store, op_app, op_copy, args_eq, result_one', rv_loc, finish_norm, finish_ret, outK_some, keep_true, keep_false, keep_nil, p_bin, p_pick, p_un, p_eq, p_conv, evNew, pureK_some, newK_some, X.eval, set_none, set_some, List.map_cons, List.map_nil, List.getD_cons_zero, List.getD_cons_succ, List.getD_nil, List.set_cons_zero, List.set_cons_succ, binCV, unCV, isShift, intArithF_eq, shiftF_eq, wrapF_eq, intArith, shift, eqVal, bound, asNat_cast, cond_true, cond_false, BEq.rfl, beq_self_eq_true, evalParts, fillParts, AV.cells, AV.ofCells, XV.av, AV.xv, List.length_cons, List.length_nil, zeros, patch, setMany, List.nil_append, List.cons_append, Nat.ble, Nat.add_eq, Nat.zero_add, Nat.add_zero, Nat.reduceAdd, Nat.reduceMul, Nat.reduceSub, Nat.ble_eq, Nat.reduceLeDiff, Nat.reduceBEq, Int.reduceBEq, Int.reduceNeg, Bool.and_true, Bool.and_false, Bool.true_and, Bool.false_and, Bool.not_true, Bool.not_false, Bool.true_eq_false, Bool.false_eq_true, Int.reduceLT, Int.reduceLE, Int.reduceGT, Int.reduceGE, decide_true, decide_false, Bool.not_eq_true, loopN_norm, loopN_exit, tf, ft, ff, ev_dreg, dregK_nil, dregK_cons, dregE_true, dregP_some, dregX_some, d_mov, d_bin, d_eq, d_pick, d_un, d_conv, d_b2s, d_len, d_load, d_iaddr, d_slice, d_ext, d_call, d_store, chk_done, chk_none, chk_some, chkG_true, chkG_false, chkOne_nil, chkOne_cons, chkH_some, chkV_same, stage_none, stage_some, look_hit, look_miss, news_nil, wb_cons, wb_nil, skip0, List.reverse_cons, List.reverse_nil, bx, ← hH0, lb, v1, w1, w2, w3, e1, w4, w5, S1, S2, p_load, AV.ofCells, q0, q1, q2, q3, e2, e3, e4, y1, y2, y3, w6, bneI, hr, blockK_exit_eq, evCallX_told]
  rfl
end Lav

namespace Go.Proofs.Ytdeehmncnfdmkaa.scriptParts
open Go.ChangeShapes Go.WideShapes Go.ChangeAt Go.RowKit
open Go.ChangeMaps (open_string shut_string)
set_option linter.unusedVariables false

theorem own : ownKnob Try.prog.godebug = none := by kernel_rfl
theorem laidOut : laidOutB Try.prog = true := by kernel_rfl

/-- What the walk is told of a slice of ints that came in. -/
def IsRow (k : IntKind) (w : World) (a : Option Addr) (len cap : Nat) (zs : List Int) : Prop :=
  (a = none ∧ len = 0 ∧ cap = 0 ∧ zs = []) ∨
  ∃ x, a = some x ∧ len ≤ cap ∧ cap ≤ maxLen ∧ zs.length = cap ∧ (∀ i, i < zs.length → w.cell? (x.add i) = some (.int k (zs.getD i 0))) ∧ ∀ n ∈ zs, (Lit.int k n).wf = true

/-- What the walk is told of a slice of records of ints that came in: it is nil; or it leads to a row of 'cap' records, 'sz' cells each. -/
def IsRecs (sz : Nat) (w : World) (a : Option Addr) (len cap : Nat) (zs : List Int) : Prop :=
  (a = none ∧ len = 0 ∧ cap = 0 ∧ zs = []) ∨
  ∃ x, a = some x ∧ len ≤ cap ∧ cap ≤ maxLen ∧ zs.length = cap * sz ∧ (∀ i, i < zs.length → w.cell? (x.add i) = some (.int .i64 (zs.getD i 0))) ∧ ∀ n ∈ zs, (Lit.int .i64 n).wf = true

theorem walk (a0 : Option Addr) (len0 cap0 : Nat) (z0 : List Int) (a1 : Int) (z2 : List Int) (w : World) (w0 : IsRow .u8 w a0 len0 cap0 z0) (w1 : (Lit.int .i64 a1).wf = true) (w2 : z2.length = 4 ∧ ∀ n ∈ z2, (Lit.int .i64 n).wf = true) :
    Calls Try.prog 9 #[.slice a0 len0 cap0, .int .i64 a1, .agg (z2.map (Value.int .i64)).toArray] w fun e w' => e = .returned (.bool true) ∧ Below w.heap.size w w' := by
  obtain ⟨p, f, s, c, rfl⟩ : ∃ p f s c, z2 = [p, f, s, c] := by
    obtain ⟨h4, _⟩ := w2
    match z2, h4 with
    | [p, f, s, c], _ => exact ⟨p, f, s, c, rfl⟩
  obtain ⟨ι, h, x, I, hle, hx, hr⟩ := (Lav.Init.empty w).slice w0
  obtain ⟨b, tb, sh⟩ := Lav.txt_of hr
  exact Lav.walk_of (Lav.topX_sound Lav.mixed Lav.table_ok Lav.tld15 Lav.mnz_ok 200 9) I (args := [.c x, .c (.int .i64 a1), .agg (Lav.cfC ⟨p, f, s, c⟩)]) (vs := [.slice a0 len0 cap0, .int .i64 a1, .agg ([p, f, s, c].map (Value.int .i64)).toArray]) ⟨hx, rfl, Lav.ar_ints, trivial⟩ (Lav.good_top rfl rfl (Lav.scriptParts ⟨p, f, s, c⟩ tb sh a1))

set_option maxRecDepth 100000 in
theorem lifted (os : Os) (started : os.Started) (H : Type) (enc : TypeId × Value → H) :
    ReturnsInHanded {} Try.checked os 9 .any (Rows.scriptPartsSpec.pre6 enc Try.prog Try.f9 Rows.scriptPartsRow.domain false) (Rows.scriptPartsSpec.post enc Try.prog Try.f9 false true false false) := by
  refine returnsInHanded_of_change (C := Try.checked) own started (by kernel_rfl) Try.func9
    (ChangeSpec.witness6 (enc := enc) (C := Try.checked) false ⟨#[], #[.slice none 0 0, .int .i64 0, .agg #[.int .i64 0, .int .i64 0, .int .i64 0, .int .i64 0]], []⟩ 8 (by kernel_rfl) (by kernel_rfl) (by kernel_rfl) (by kernel_rfl)) ?_
  intro W base args ds gs before hval0 hW hcnd _
  have hval : ∀ (j : Nat) t v, Try.f9.params[j]? = some t → args[j]? = some v → Value.okWide Try.prog W .any base t v := hval0
  have hW' := hW
  obtain ⟨p, q, hA0, hV, rfl, hfz, hnd⟩ := hW
  have hA : DataW.TrodAll enc Try.prog W 0 (fun _ => true) true Try.f9.params.toList args.toList ds p := hA0
  rw [Try.params9] at hA hval
  obtain ⟨v0, vs0, d0, ds0, p0, q0, hargs, rfl, rfl, h0, r0⟩ := trodAll_cons hA
  obtain ⟨v1, vs1, d1, ds1, p1, q1, rfl, rfl, rfl, h1, r1⟩ := trodAll_cons r0
  obtain ⟨v2, vs2, d2, ds2, p2, q2, rfl, rfl, rfl, h2, r2⟩ := trodAll_cons r1
  obtain ⟨rfl, rfl, rfl⟩ := trodAll_nil r2
  obtain rfl : args = #[v0, v1, v2] := by cases args; simp_all
  obtain ⟨rfl, rfl⟩ := trodVars_none hV
  obtain ⟨a0, len0, cap0, rfl⟩ := okWide_slice Try.underlying39 (hval 0 39 v0 rfl rfl)
  have k0 := h0
  have lt0 : ∀ x ∈ p0, x.block < W.heap.size := by obtain ⟨m, hm⟩ := k0; exact DataW.trod_lt m _ _ _ hm
  obtain ⟨z0, w0⟩ : ∃ zs, IsRow .u8 W a0 len0 cap0 zs := by
    obtain ⟨fuel, hf⟩ := h0
    rcases open_ints Try.underlying39 Try.underlying5 (by kernel_rfl) hf with ⟨hcs, _⟩ | ⟨x, l, c, zs, hcs, _, hl, hm, hz, _, hcell, hwz⟩
    · simp [Value.cells] at hcs
      obtain ⟨rfl, rfl, rfl⟩ := hcs
      exact ⟨[], .inl ⟨rfl, rfl, rfl, rfl⟩⟩
    · simp [Value.cells] at hcs
      obtain ⟨rfl, rfl, rfl⟩ := hcs
      exact ⟨zs, .inr ⟨_, rfl, hl, hm, by simpa using hz, hcell, hwz⟩⟩
  obtain ⟨a1, rfl, rfl, rfl, w1⟩ := open_int Try.underlying3 (hval 1 3 v1 rfl rfl) h1
  obtain ⟨cs2, rfl, hs2⟩ := okWide_struct Try.underlying41 (hval 2 41 v2 rfl rfl)
  have k2 := h2
  have lt2 : ∀ x ∈ p2, x.block < W.heap.size := by obtain ⟨m, hm⟩ := k2; exact DataW.trod_lt m _ _ _ hm
  have hc2 : Try.prog.cellsOf 41 = 4 := by kernel_rfl
  rw [hc2] at hs2
  obtain ⟨z2, rfl, w2⟩ := Lav.open_struct Try.underlying41 hs2 (by
    intro j hj
    match j, hj with
    | 0, _ => exact ⟨0, _, rfl, rfl, Try.underlying3, by kernel_rfl⟩
    | 1, _ => exact ⟨1, _, rfl, rfl, Try.underlying3, by kernel_rfl⟩
    | 2, _ => exact ⟨2, _, rfl, rfl, Try.underlying3, by kernel_rfl⟩
    | 3, _ => exact ⟨3, _, rfl, rfl, Try.underlying3, by kernel_rfl⟩
    | j + 4, hj => omega) h2
  clear hA0 hval0
  refine (walk a0 len0 cap0 z0 a1 z2 W w0 w1 w2).mono fun e W' ⟨he, bel⟩ => ?_
  subst he
  exact ⟨_, rfl, _, _, _, [], _, [], hW', trodAll_mk1 (shut_bool Try.underlying4 _), (trodAll_cons_mk (Below.trod laidOut (by kernel_rfl) (of_decide_eq_true (by kernel_rfl)) k0 bel lt0) (trodAll_cons_mk (shut_int Try.underlying3 w1) (trodAll_cons_mk (Below.trod laidOut (by kernel_rfl) (of_decide_eq_true (by kernel_rfl)) k2 bel lt2) trodAll_mk0))), rfl, bel.frame _, fun h => by cases h⟩

theorem over : Rows.scriptPartsRow.holds Try.pinned (OpenSpec.ofChange Rows.scriptPartsSpec) :=
  OpenClaim.holds_of_wide 9 Try.f9 rfl rfl rfl rfl rfl rfl rfl ⟨rfl, rfl, rfl, rfl, rfl⟩ rfl rfl rfl rfl rfl (by kernel_rfl) Try.func9 (by kernel_rfl)
    (of_decide_eq_true (by kernel_rfl)) (by unfold Func.isWrapper; first | (rw [if_pos (by decide +kernel)]; kernel_rfl) | (rw [if_neg (by decide +kernel)]; exact ⟨rfl, rfl⟩))
    (fun os started H enc _ => lifted os started H enc)

theorem proved : Rows.ScriptPartsSaid := over
end Go.Proofs.Ytdeehmncnfdmkaa.scriptParts
