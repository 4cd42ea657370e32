/-
  Proved: whatever bytes and pool come in, lavabolaw15.ScriptMay returns true and changes nothing that was there. No conditions beyond the given statement's.
-/
import Derived.Test.YtdeehmncnfdmkaaRows
import Derived.Test.YtdeehmncnfdmkaaScr9
import Derived.WalkKit
import Derived.ProofKit
import Derived.OpenShut
import Derived.ShutString
import Derived.ChangeOld
import Derived.Below
set_option maxRecDepth 100000
set_option linter.unusedSimpArgs false
namespace Lav
open Go (IntKind)
abbrev J16 : List AV := [.junk, .junk, .junk, .junk, .junk, .junk, .junk, .junk, .junk, .junk, .junk, .junk, .junk, .junk, .junk, .junk]
theorem scriptMay {h : Heap} {s : List Nat} {b : CV} (c : Cf) (t : Txt h b s) (sh : b = .nils ∨ ∃ i o, b = .sl i o s.length (.dy 1)) :
    good (evCallX table 21 37 200 10 8 [.c b, .agg (cfC c)] h) = true := by
  obtain ⟨H0, hH0⟩ : ∃ H, H = h.new (.cells (cfC c)) := ⟨_, rfl⟩
  have x0 : Ext h H0 := by rw [hH0]; exact (Ext.refl _).new _
  have n0 : H0.next = h.next + 1 := by rw [hH0]; rfl
  have g0 : H0.get h.next = some (.cells (cfC c)) := by rw [hH0]; exact get_new_at
  have q0 : H0.read h.next 0 4 = some (cfC c) := read_all g0 rfl
  have bx : AV.cells (.agg (cfC c)) = some (cfC c) := rfl
  have lb : ∀ loc vals H, evPure loc (.c b :: vals) H (.len .sl (.val 0)) = some (.c (.int .i64 (s.length : Int))) := fun _ _ _ => t.len rfl
  rw [evCallX_eq (F := ir8) rfl rfl rfl rfl]
  unfold ir8
  rw [bodyK_eq]
  by_cases c1 : s.length > 300
  · have v1 : decide ((s.length : Int) > 300) = true := decide_eq_true (by omega)
    simp only [enter_eq, ev_seq, seqK_norm, seqK_exit, seqK_ret, ev_reg, ev_cond, condK_true, condK_false, ev_block, blockK_norm, blockK_ret, blockK_exit, ev_loop, ev_skip, ev_exit, ev_ret, regK_cons, regK_nil, guard_none, guard_some, regG_true, regG_false, regO_some, op_mov, op_conv, op_bin, op_bsl, op_box, op_mks, op_s2b, op_pick, op_un, op_eq, op_len, op_ext, op_load, op_iaddr, op_slice, op_b2s, op_idxS, op_mx, op_mn, op_call, op_store, op_app, op_copy, args_eq, result_one', rv_loc, finish_norm, finish_ret, outK_some, keep_true, keep_false, keep_nil, p_bin, p_pick, p_un, p_eq, p_conv, evNew, pureK_some, newK_some, X.eval, set_none, set_some, List.map_cons, List.map_nil, List.getD_cons_zero, List.getD_cons_succ, List.getD_nil, List.set_cons_zero, List.set_cons_succ, binCV, unCV, isShift, intArithF_eq, shiftF_eq, wrapF_eq, intArith, shift, eqVal, bound, asNat_cast, cond_true, cond_false, BEq.rfl, beq_self_eq_true, evalParts, fillParts, AV.cells, AV.ofCells, XV.av, AV.xv, List.length_cons, List.length_nil, zeros, patch, setMany, List.nil_append, List.cons_append, Nat.ble, Nat.add_eq, Nat.zero_add, Nat.add_zero, Nat.reduceAdd, Nat.reduceMul, Nat.reduceSub, Nat.ble_eq, Nat.reduceLeDiff, Nat.reduceBEq, Int.reduceBEq, Int.reduceNeg, Bool.and_true, Bool.and_false, Bool.true_and, Bool.false_and, Bool.not_true, Bool.not_false, Bool.true_eq_false, Bool.false_eq_true, Int.reduceLT, Int.reduceLE, Int.reduceGT, Int.reduceGE, decide_true, decide_false, Bool.not_eq_true, loopN_norm, loopN_exit, tf, ft, ff, bx, ← hH0, lb, v1, evCallX_told]
    rfl
  have v1 : decide ((s.length : Int) > 300) = false := decide_eq_false (by omega)
  obtain ⟨H1, e1, x1⟩ := conf_all (N := 200) (d := 8) (h := H0) c
  have hn0 := x1.1
  cases hc : c.ok with
  | false =>
    rw [hc] at e1
    simp only [enter_eq, ev_seq, seqK_norm, seqK_exit, seqK_ret, ev_reg, ev_cond, condK_true, condK_false, ev_block, blockK_norm, blockK_ret, blockK_exit, ev_loop, ev_skip, ev_exit, ev_ret, regK_cons, regK_nil, guard_none, guard_some, regG_true, regG_false, regO_some, op_mov, op_conv, op_bin, op_bsl, op_box, op_mks, op_s2b, op_pick, op_un, op_eq, op_len, op_ext, op_load, op_iaddr, op_slice, op_b2s, op_idxS, op_mx, op_mn, op_call, op_store, op_app, op_copy, args_eq, result_one', rv_loc, finish_norm, finish_ret, outK_some, keep_true, keep_false, keep_nil, p_bin, p_pick, p_un, p_eq, p_conv, evNew, pureK_some, newK_some, X.eval, set_none, set_some, List.map_cons, List.map_nil, List.getD_cons_zero, List.getD_cons_succ, List.getD_nil, List.set_cons_zero, List.set_cons_succ, binCV, unCV, isShift, intArithF_eq, shiftF_eq, wrapF_eq, intArith, shift, eqVal, bound, asNat_cast, cond_true, cond_false, BEq.rfl, beq_self_eq_true, evalParts, fillParts, AV.cells, AV.ofCells, XV.av, AV.xv, List.length_cons, List.length_nil, zeros, patch, setMany, List.nil_append, List.cons_append, Nat.ble, Nat.add_eq, Nat.zero_add, Nat.add_zero, Nat.reduceAdd, Nat.reduceMul, Nat.reduceSub, Nat.ble_eq, Nat.reduceLeDiff, Nat.reduceBEq, Int.reduceBEq, Int.reduceNeg, Bool.and_true, Bool.and_false, Bool.true_and, Bool.false_and, Bool.not_true, Bool.not_false, Bool.true_eq_false, Bool.false_eq_true, Int.reduceLT, Int.reduceLE, Int.reduceGT, Int.reduceGE, decide_true, decide_false, Bool.not_eq_true, loopN_norm, loopN_exit, tf, ft, ff, bx, ← hH0, lb, v1, p_load, AV.ofCells, q0, e1, evCallX_told]
    rfl
  | true =>
  rw [hc] at e1
  have ok := Cf.ok_iff.1 hc
  have q1 : H1.read h.next 0 4 = some (cfC c) := read_all (x1.at_ g0 (by omega)) rfl
  obtain ⟨z, H2, e2, R, x2⟩ := all_ok (N := 200) (d := 2) (h := H1) c hc (t.ext (x0.trans x1)) sh (by omega) (by omega)
  have hn1 := x2.1
  have lz : ∀ loc vals H, evPure loc (.c z :: vals) H (.len .sl (.val 0)) = some (.c (.int .i64 ((s.length / 4 : Nat) : Int))) := fun _ _ _ => R.len rfl
  have w1 : IntKind.i64.wrap (Int.tdiv (s.length : Int) 4) = ((s.length / 4 : Nat) : Int) := by
    have : Int.tdiv (s.length : Int) 4 = ((s.length / 4 : Nat) : Int) := tdivN s.length 4
    rw [this]; exact wrapNat (by omega)
  have bneI : ∀ {a b : Int}, (a != b) = !(a == b) := rfl
  have L : ∀ loc, keepOnly ir8_k0 loc = .c b :: .junk :: .c (.ptr h.next 0) :: .junk :: .c z :: .c (.int .i64 0) :: J16 →
      ∃ r, loopK (evCallX table 21 37 200 9) 200 ir8_k0 ir8_l0 200 loc H2 = some r ∧ ∃ a1 a2 a3 l G, r = (.exit 0, .c b :: a1 :: a2 :: a3 :: .c z :: l, G) := by
    intro loc hloc
    refine loop_inv (n := s.length / 4) (fun i loc G => i ≤ s.length / 4 ∧ Ext H2 G ∧ loc = .c b :: .junk :: .c (.ptr h.next 0) :: .junk :: .c z :: .c (.int .i64 (i : Int)) :: J16) _ ?_ ⟨Nat.zero_le _, Ext.refl _, hloc⟩ (by omega)
    rintro i loc G hi ⟨hin, xg, rfl⟩
    unfold ir8_l0
    by_cases hlt : i < s.length / 4
    · left
      refine ⟨hlt, ?_⟩
      have v3 : decide ((i : Int) < ((s.length / 4 : Nat) : Int)) = true := ltNat hlt
      have v4 := succI (i := i) (by omega)
      obtain ⟨a3, x, y, rfl, _, r3, tx, ty⟩ := (R.ext xg).at_ hlt
      have m3 : Nat.blt i (s.length / 4) = true := bltT hlt
      have sm : StMay c (stp c s i) := st_may hc (t.small _) (t.small _) (t.small _)
      obtain ⟨st, hst⟩ : ∃ st, st = stp c s i := ⟨_, rfl⟩
      rw [← hst] at r3 tx ty sm
      obtain ⟨G1, e3, g1, xg1, ng1⟩ := box_store (h := G) (z := stZ) (v := stC st x y) rfl
      have gc : G1.get h.next = some (.cells (cfC c)) := ((x1.trans x2).trans (xg.trans xg1)).at_ g0 (by omega)
      have qa : G1.read h.next 0 1 = some [.int .i64 c.pages] := read_cells gc rfl
      have qb : G1.read h.next 2 1 = some [.int .i64 c.shards] := read_cells gc rfl
      have qc : G1.read h.next 3 1 = some [.int .i64 c.clients] := read_cells gc rfl
      have s0 : G1.read G.next 0 1 = some [.int .i64 st.kind] := read_cells g1 rfl
      have s1 : G1.read G.next 1 1 = some [.int .i64 st.client] := read_cells g1 rfl
      have s2 : G1.read G.next 2 1 = some [.int .i64 st.n] := read_cells g1 rfl
      have s3 : G1.read G.next 3 1 = some [.int .i64 st.to] := read_cells g1 rfl
      have s4 : G1.read G.next 4 1 = some [.int .i64 st.op.kind] := read_cells g1 rfl
      have s5 : G1.read G.next 5 1 = some [.int .i64 st.op.page] := read_cells g1 rfl
      have s6 : G1.read G.next 6 1 = some [.int .i64 st.op.handle] := read_cells g1 rfl
      have s7 : G1.read G.next 7 1 = some [.int .i64 st.op.off] := read_cells g1 rfl
      have s8 : G1.read G.next 8 1 = some [.int .i64 st.op.n] := read_cells g1 rfl
      have s9 : G1.read G.next 9 1 = some [x] := read_cells g1 rfl
      have s10 : G1.read G.next 10 1 = some [y] := read_cells g1 rfl
      have lx : ∀ loc vals H, evPure loc (.c x :: vals) H (.len .sl (.val 0)) = some (.c (.int .i64 (st.op.data.length : Int))) := fun _ _ _ => tx.len rfl
      have ly : ∀ loc vals H, evPure loc (.c y :: vals) H (.len .sl (.val 0)) = some (.c (.int .i64 (st.bits.length : Int))) := fun _ _ _ => ty.len rfl
      rcases sm with ⟨k, m1, m2, om⟩ | ⟨k, m1, m2⟩ | ⟨k, m1, m2⟩ | ⟨k, m1, m2⟩ | ⟨k, m1, m2, m4, m5⟩ | ⟨k, m1⟩
      · rw [k] at s0
        have ⟨k1, k2, p1, p2, h1, h2, f2, n2, d2⟩ := om
        have d1 : decide (st.client < 0) = false := decide_eq_false (by omega)
        have d2' : decide (st.client ≥ c.clients) = false := decide_eq_false (by omega)
        have d3 : decide (st.op.kind < 1) = false := decide_eq_false (by omega)
        have d4 : decide (st.op.kind > 8) = false := decide_eq_false (by omega)
        have d5 : decide (st.op.page < 0) = false := decide_eq_false (by omega)
        have d6 : decide (st.op.page > c.pages) = false := decide_eq_false (by omega)
        have d7 : decide (st.op.handle < 0) = false := decide_eq_false (by omega)
        have d8 : decide (st.op.handle > 6) = false := decide_eq_false (by omega)
        have d9 : decide (st.op.off > 15) = false := decide_eq_false (by omega)
        have d10 : decide (st.op.n > 15) = false := decide_eq_false (by omega)
        have d11 : decide ((st.op.data.length : Int) > 15) = false := decide_eq_false (by omega)
        simp only [enter_eq, ev_seq, seqK_norm, seqK_exit, seqK_ret, ev_reg, ev_cond, condK_true, condK_false, ev_block, blockK_norm, blockK_ret, blockK_exit, ev_loop, ev_skip, ev_exit, ev_ret, regK_cons, regK_nil, guard_none, guard_some, regG_true, regG_false, regO_some, op_mov, op_conv, op_bin, op_bsl, op_box, op_mks, op_s2b, op_pick, op_un, op_eq, op_len, op_ext, op_load, op_iaddr, op_slice, op_b2s, op_idxS, op_mx, op_mn, op_call, op_store, op_app, op_copy, args_eq, result_one', rv_loc, finish_norm, finish_ret, outK_some, keep_true, keep_false, keep_nil, p_bin, p_pick, p_un, p_eq, p_conv, evNew, pureK_some, newK_some, X.eval, set_none, set_some, List.map_cons, List.map_nil, List.getD_cons_zero, List.getD_cons_succ, List.getD_nil, List.set_cons_zero, List.set_cons_succ, binCV, unCV, isShift, intArithF_eq, shiftF_eq, wrapF_eq, intArith, shift, eqVal, bound, asNat_cast, cond_true, cond_false, BEq.rfl, beq_self_eq_true, evalParts, fillParts, AV.cells, AV.ofCells, XV.av, AV.xv, List.length_cons, List.length_nil, zeros, patch, setMany, List.nil_append, List.cons_append, Nat.ble, Nat.add_eq, Nat.zero_add, Nat.add_zero, Nat.reduceAdd, Nat.reduceMul, Nat.reduceSub, Nat.ble_eq, Nat.reduceLeDiff, Nat.reduceBEq, Int.reduceBEq, Int.reduceNeg, Bool.and_true, Bool.and_false, Bool.true_and, Bool.false_and, Bool.not_true, Bool.not_false, Bool.true_eq_false, Bool.false_eq_true, Int.reduceLT, Int.reduceLE, Int.reduceGT, Int.reduceGE, decide_true, decide_false, Bool.not_eq_true, loopN_norm, loopN_exit, tf, ft, ff, lz, v3, v4, p_iaddr, m3, r3, p_load, AV.ofCells, Nat.zero_add, evEff, e3, op_faddr, p_faddr, qa, qb, qc, s0, s1, s2, s3, s4, s5, s6, s7, s8, s9, s10, lx, ly, d1, d2', d3, d4, d5, d6, d7, d8, d9, d10, d11]
        exact ⟨_, _, rfl, by omega, xg.trans xg1, rfl⟩
      · rw [k] at s0
        have d1 : decide (st.n < 0) = false := decide_eq_false (by omega)
        have d2 : decide (st.n > 65535) = false := decide_eq_false (by omega)
        simp only [enter_eq, ev_seq, seqK_norm, seqK_exit, seqK_ret, ev_reg, ev_cond, condK_true, condK_false, ev_block, blockK_norm, blockK_ret, blockK_exit, ev_loop, ev_skip, ev_exit, ev_ret, regK_cons, regK_nil, guard_none, guard_some, regG_true, regG_false, regO_some, op_mov, op_conv, op_bin, op_bsl, op_box, op_mks, op_s2b, op_pick, op_un, op_eq, op_len, op_ext, op_load, op_iaddr, op_slice, op_b2s, op_idxS, op_mx, op_mn, op_call, op_store, op_app, op_copy, args_eq, result_one', rv_loc, finish_norm, finish_ret, outK_some, keep_true, keep_false, keep_nil, p_bin, p_pick, p_un, p_eq, p_conv, evNew, pureK_some, newK_some, X.eval, set_none, set_some, List.map_cons, List.map_nil, List.getD_cons_zero, List.getD_cons_succ, List.getD_nil, List.set_cons_zero, List.set_cons_succ, binCV, unCV, isShift, intArithF_eq, shiftF_eq, wrapF_eq, intArith, shift, eqVal, bound, asNat_cast, cond_true, cond_false, BEq.rfl, beq_self_eq_true, evalParts, fillParts, AV.cells, AV.ofCells, XV.av, AV.xv, List.length_cons, List.length_nil, zeros, patch, setMany, List.nil_append, List.cons_append, Nat.ble, Nat.add_eq, Nat.zero_add, Nat.add_zero, Nat.reduceAdd, Nat.reduceMul, Nat.reduceSub, Nat.ble_eq, Nat.reduceLeDiff, Nat.reduceBEq, Int.reduceBEq, Int.reduceNeg, Bool.and_true, Bool.and_false, Bool.true_and, Bool.false_and, Bool.not_true, Bool.not_false, Bool.true_eq_false, Bool.false_eq_true, Int.reduceLT, Int.reduceLE, Int.reduceGT, Int.reduceGE, decide_true, decide_false, Bool.not_eq_true, loopN_norm, loopN_exit, tf, ft, ff, lz, v3, v4, p_iaddr, m3, r3, p_load, AV.ofCells, Nat.zero_add, evEff, e3, op_faddr, p_faddr, qa, qb, qc, s0, s1, s2, s3, s4, s5, s6, s7, s8, s9, s10, lx, ly, d1, d2]
        exact ⟨_, _, rfl, by omega, xg.trans xg1, rfl⟩
      · rw [k] at s0
        have d1 : decide (st.n < 0) = false := decide_eq_false (by omega)
        have d2 : decide (st.n > 15) = false := decide_eq_false (by omega)
        simp only [enter_eq, ev_seq, seqK_norm, seqK_exit, seqK_ret, ev_reg, ev_cond, condK_true, condK_false, ev_block, blockK_norm, blockK_ret, blockK_exit, ev_loop, ev_skip, ev_exit, ev_ret, regK_cons, regK_nil, guard_none, guard_some, regG_true, regG_false, regO_some, op_mov, op_conv, op_bin, op_bsl, op_box, op_mks, op_s2b, op_pick, op_un, op_eq, op_len, op_ext, op_load, op_iaddr, op_slice, op_b2s, op_idxS, op_mx, op_mn, op_call, op_store, op_app, op_copy, args_eq, result_one', rv_loc, finish_norm, finish_ret, outK_some, keep_true, keep_false, keep_nil, p_bin, p_pick, p_un, p_eq, p_conv, evNew, pureK_some, newK_some, X.eval, set_none, set_some, List.map_cons, List.map_nil, List.getD_cons_zero, List.getD_cons_succ, List.getD_nil, List.set_cons_zero, List.set_cons_succ, binCV, unCV, isShift, intArithF_eq, shiftF_eq, wrapF_eq, intArith, shift, eqVal, bound, asNat_cast, cond_true, cond_false, BEq.rfl, beq_self_eq_true, evalParts, fillParts, AV.cells, AV.ofCells, XV.av, AV.xv, List.length_cons, List.length_nil, zeros, patch, setMany, List.nil_append, List.cons_append, Nat.ble, Nat.add_eq, Nat.zero_add, Nat.add_zero, Nat.reduceAdd, Nat.reduceMul, Nat.reduceSub, Nat.ble_eq, Nat.reduceLeDiff, Nat.reduceBEq, Int.reduceBEq, Int.reduceNeg, Bool.and_true, Bool.and_false, Bool.true_and, Bool.false_and, Bool.not_true, Bool.not_false, Bool.true_eq_false, Bool.false_eq_true, Int.reduceLT, Int.reduceLE, Int.reduceGT, Int.reduceGE, decide_true, decide_false, Bool.not_eq_true, loopN_norm, loopN_exit, tf, ft, ff, lz, v3, v4, p_iaddr, m3, r3, p_load, AV.ofCells, Nat.zero_add, evEff, e3, op_faddr, p_faddr, qa, qb, qc, s0, s1, s2, s3, s4, s5, s6, s7, s8, s9, s10, lx, ly, d1, d2]
        exact ⟨_, _, rfl, by omega, xg.trans xg1, rfl⟩
      · rw [k] at s0
        have d1 : decide (st.n < c.shards) = false := decide_eq_false (by omega)
        have d2 : decide (st.n > 32) = false := decide_eq_false (by omega)
        simp only [enter_eq, ev_seq, seqK_norm, seqK_exit, seqK_ret, ev_reg, ev_cond, condK_true, condK_false, ev_block, blockK_norm, blockK_ret, blockK_exit, ev_loop, ev_skip, ev_exit, ev_ret, regK_cons, regK_nil, guard_none, guard_some, regG_true, regG_false, regO_some, op_mov, op_conv, op_bin, op_bsl, op_box, op_mks, op_s2b, op_pick, op_un, op_eq, op_len, op_ext, op_load, op_iaddr, op_slice, op_b2s, op_idxS, op_mx, op_mn, op_call, op_store, op_app, op_copy, args_eq, result_one', rv_loc, finish_norm, finish_ret, outK_some, keep_true, keep_false, keep_nil, p_bin, p_pick, p_un, p_eq, p_conv, evNew, pureK_some, newK_some, X.eval, set_none, set_some, List.map_cons, List.map_nil, List.getD_cons_zero, List.getD_cons_succ, List.getD_nil, List.set_cons_zero, List.set_cons_succ, binCV, unCV, isShift, intArithF_eq, shiftF_eq, wrapF_eq, intArith, shift, eqVal, bound, asNat_cast, cond_true, cond_false, BEq.rfl, beq_self_eq_true, evalParts, fillParts, AV.cells, AV.ofCells, XV.av, AV.xv, List.length_cons, List.length_nil, zeros, patch, setMany, List.nil_append, List.cons_append, Nat.ble, Nat.add_eq, Nat.zero_add, Nat.add_zero, Nat.reduceAdd, Nat.reduceMul, Nat.reduceSub, Nat.ble_eq, Nat.reduceLeDiff, Nat.reduceBEq, Int.reduceBEq, Int.reduceNeg, Bool.and_true, Bool.and_false, Bool.true_and, Bool.false_and, Bool.not_true, Bool.not_false, Bool.true_eq_false, Bool.false_eq_true, Int.reduceLT, Int.reduceLE, Int.reduceGT, Int.reduceGE, decide_true, decide_false, Bool.not_eq_true, loopN_norm, loopN_exit, tf, ft, ff, lz, v3, v4, p_iaddr, m3, r3, p_load, AV.ofCells, Nat.zero_add, evEff, e3, op_faddr, p_faddr, qa, qb, qc, s0, s1, s2, s3, s4, s5, s6, s7, s8, s9, s10, lx, ly, d1, d2]
        exact ⟨_, _, rfl, by omega, xg.trans xg1, rfl⟩
      · rw [k] at s0
        have d1 : decide (st.n < 0) = false := decide_eq_false (by omega)
        have d2 : decide (st.n ≥ 16) = false := decide_eq_false (by omega)
        have d3 : decide (st.to < 0) = false := decide_eq_false (by omega)
        have d4 : decide (st.to ≥ c.shards) = false := decide_eq_false (by omega)
        simp only [enter_eq, ev_seq, seqK_norm, seqK_exit, seqK_ret, ev_reg, ev_cond, condK_true, condK_false, ev_block, blockK_norm, blockK_ret, blockK_exit, ev_loop, ev_skip, ev_exit, ev_ret, regK_cons, regK_nil, guard_none, guard_some, regG_true, regG_false, regO_some, op_mov, op_conv, op_bin, op_bsl, op_box, op_mks, op_s2b, op_pick, op_un, op_eq, op_len, op_ext, op_load, op_iaddr, op_slice, op_b2s, op_idxS, op_mx, op_mn, op_call, op_store, op_app, op_copy, args_eq, result_one', rv_loc, finish_norm, finish_ret, outK_some, keep_true, keep_false, keep_nil, p_bin, p_pick, p_un, p_eq, p_conv, evNew, pureK_some, newK_some, X.eval, set_none, set_some, List.map_cons, List.map_nil, List.getD_cons_zero, List.getD_cons_succ, List.getD_nil, List.set_cons_zero, List.set_cons_succ, binCV, unCV, isShift, intArithF_eq, shiftF_eq, wrapF_eq, intArith, shift, eqVal, bound, asNat_cast, cond_true, cond_false, BEq.rfl, beq_self_eq_true, evalParts, fillParts, AV.cells, AV.ofCells, XV.av, AV.xv, List.length_cons, List.length_nil, zeros, patch, setMany, List.nil_append, List.cons_append, Nat.ble, Nat.add_eq, Nat.zero_add, Nat.add_zero, Nat.reduceAdd, Nat.reduceMul, Nat.reduceSub, Nat.ble_eq, Nat.reduceLeDiff, Nat.reduceBEq, Int.reduceBEq, Int.reduceNeg, Bool.and_true, Bool.and_false, Bool.true_and, Bool.false_and, Bool.not_true, Bool.not_false, Bool.true_eq_false, Bool.false_eq_true, Int.reduceLT, Int.reduceLE, Int.reduceGT, Int.reduceGE, decide_true, decide_false, Bool.not_eq_true, loopN_norm, loopN_exit, tf, ft, ff, lz, v3, v4, p_iaddr, m3, r3, p_load, AV.ofCells, Nat.zero_add, evEff, e3, op_faddr, p_faddr, qa, qb, qc, s0, s1, s2, s3, s4, s5, s6, s7, s8, s9, s10, lx, ly, d1, d2, d3, d4]
        exact ⟨_, _, rfl, by omega, xg.trans xg1, rfl⟩
      · rw [k] at s0
        have d1 : ((st.bits.length : Int) == 2) = true := by rw [m1]; rfl
        simp only [enter_eq, ev_seq, seqK_norm, seqK_exit, seqK_ret, ev_reg, ev_cond, condK_true, condK_false, ev_block, blockK_norm, blockK_ret, blockK_exit, ev_loop, ev_skip, ev_exit, ev_ret, regK_cons, regK_nil, guard_none, guard_some, regG_true, regG_false, regO_some, op_mov, op_conv, op_bin, op_bsl, op_box, op_mks, op_s2b, op_pick, op_un, op_eq, op_len, op_ext, op_load, op_iaddr, op_slice, op_b2s, op_idxS, op_mx, op_mn, op_call, op_store, op_app, op_copy, args_eq, result_one', rv_loc, finish_norm, finish_ret, outK_some, keep_true, keep_false, keep_nil, p_bin, p_pick, p_un, p_eq, p_conv, evNew, pureK_some, newK_some, X.eval, set_none, set_some, List.map_cons, List.map_nil, List.getD_cons_zero, List.getD_cons_succ, List.getD_nil, List.set_cons_zero, List.set_cons_succ, binCV, unCV, isShift, intArithF_eq, shiftF_eq, wrapF_eq, intArith, shift, eqVal, bound, asNat_cast, cond_true, cond_false, BEq.rfl, beq_self_eq_true, evalParts, fillParts, AV.cells, AV.ofCells, XV.av, AV.xv, List.length_cons, List.length_nil, zeros, patch, setMany, List.nil_append, List.cons_append, Nat.ble, Nat.add_eq, Nat.zero_add, Nat.add_zero, Nat.reduceAdd, Nat.reduceMul, Nat.reduceSub, Nat.ble_eq, Nat.reduceLeDiff, Nat.reduceBEq, Int.reduceBEq, Int.reduceNeg, Bool.and_true, Bool.and_false, Bool.true_and, Bool.false_and, Bool.not_true, Bool.not_false, Bool.true_eq_false, Bool.false_eq_true, Int.reduceLT, Int.reduceLE, Int.reduceGT, Int.reduceGE, decide_true, decide_false, Bool.not_eq_true, loopN_norm, loopN_exit, tf, ft, ff, lz, v3, v4, p_iaddr, m3, r3, p_load, AV.ofCells, Nat.zero_add, evEff, e3, op_faddr, p_faddr, qa, qb, qc, s0, s1, s2, s3, s4, s5, s6, s7, s8, s9, s10, lx, ly, bneI, d1]
        exact ⟨_, _, rfl, by omega, xg.trans xg1, rfl⟩
    · right
      have hin' : i = s.length / 4 := by omega
      subst hin'
      have v3 : decide (((s.length / 4 : Nat) : Int) < ((s.length / 4 : Nat) : Int)) = false := geNat (Nat.le_refl _)
      simp only [enter_eq, ev_seq, seqK_norm, seqK_exit, seqK_ret, ev_reg, ev_cond, condK_true, condK_false, ev_block, blockK_norm, blockK_ret, blockK_exit, ev_loop, ev_skip, ev_exit, ev_ret, regK_cons, regK_nil, guard_none, guard_some, regG_true, regG_false, regO_some, op_mov, op_conv, op_bin, op_bsl, op_box, op_mks, op_s2b, op_pick, op_un, op_eq, op_len, op_ext, op_load, op_iaddr, op_slice, op_b2s, op_idxS, op_mx, op_mn, op_call, op_store, op_app, op_copy, args_eq, result_one', rv_loc, finish_norm, finish_ret, outK_some, keep_true, keep_false, keep_nil, p_bin, p_pick, p_un, p_eq, p_conv, evNew, pureK_some, newK_some, X.eval, set_none, set_some, List.map_cons, List.map_nil, List.getD_cons_zero, List.getD_cons_succ, List.getD_nil, List.set_cons_zero, List.set_cons_succ, binCV, unCV, isShift, intArithF_eq, shiftF_eq, wrapF_eq, intArith, shift, eqVal, bound, asNat_cast, cond_true, cond_false, BEq.rfl, beq_self_eq_true, evalParts, fillParts, AV.cells, AV.ofCells, XV.av, AV.xv, List.length_cons, List.length_nil, zeros, patch, setMany, List.nil_append, List.cons_append, Nat.ble, Nat.add_eq, Nat.zero_add, Nat.add_zero, Nat.reduceAdd, Nat.reduceMul, Nat.reduceSub, Nat.ble_eq, Nat.reduceLeDiff, Nat.reduceBEq, Int.reduceBEq, Int.reduceNeg, Bool.and_true, Bool.and_false, Bool.true_and, Bool.false_and, Bool.not_true, Bool.not_false, Bool.true_eq_false, Bool.false_eq_true, Int.reduceLT, Int.reduceLE, Int.reduceGT, Int.reduceGE, decide_true, decide_false, Bool.not_eq_true, loopN_norm, loopN_exit, tf, ft, ff, lz, v3]
      exact ⟨_, rfl, by simp, _, _, _, _, _, rfl⟩
  obtain ⟨r, hr, a1, a2, a3, l, G, rfl⟩ := L [.c b, .agg (cfC c), .c (.ptr h.next 0), .c (.bool false), .c z, .c (.int .i64 0), .tup [], .c (.bool false), .tup [], .tup [], .tup [], .tup [], .tup [], .tup [], .tup [], .tup [], .tup [], .tup [], .tup [], .tup [], .tup [], .tup []] rfl
  simp only [enter_eq, ev_seq, seqK_norm, seqK_exit, seqK_ret, ev_reg, ev_cond, condK_true, condK_false, ev_block, blockK_norm, blockK_ret, blockK_exit, ev_loop, ev_skip, ev_exit, ev_ret, regK_cons, regK_nil, guard_none, guard_some, regG_true, regG_false, regO_some, op_mov, op_conv, op_bin, op_bsl, op_box, op_mks, op_s2b, op_pick, op_un, op_eq, op_len, op_ext, op_load, op_iaddr, op_slice, op_b2s, op_idxS, op_mx, op_mn, op_call, op_store, op_app, op_copy, args_eq, result_one', rv_loc, finish_norm, finish_ret, outK_some, keep_true, keep_false, keep_nil, p_bin, p_pick, p_un, p_eq, p_conv, evNew, pureK_some, newK_some, X.eval, set_none, set_some, List.map_cons, List.map_nil, List.getD_cons_zero, List.getD_cons_succ, List.getD_nil, List.set_cons_zero, List.set_cons_succ, binCV, unCV, isShift, intArithF_eq, shiftF_eq, wrapF_eq, intArith, shift, eqVal, bound, asNat_cast, cond_true, cond_false, BEq.rfl, beq_self_eq_true, evalParts, fillParts, AV.cells, AV.ofCells, XV.av, AV.xv, List.length_cons, List.length_nil, zeros, patch, setMany, List.nil_append, List.cons_append, Nat.ble, Nat.add_eq, Nat.zero_add, Nat.add_zero, Nat.reduceAdd, Nat.reduceMul, Nat.reduceSub, Nat.ble_eq, Nat.reduceLeDiff, Nat.reduceBEq, Int.reduceBEq, Int.reduceNeg, Bool.and_true, Bool.and_false, Bool.true_and, Bool.false_and, Bool.not_true, Bool.not_false, Bool.true_eq_false, Bool.false_eq_true, Int.reduceLT, Int.reduceLE, Int.reduceGT, Int.reduceGE, decide_true, decide_false, Bool.not_eq_true, loopN_norm, loopN_exit, tf, ft, ff, bx, ← hH0, lb, lz, v1, p_load, AV.ofCells, q0, q1, e1, e2, hr, blockK_exit_eq, evCallX_told, w1]
  rfl
end Lav

namespace Go.Proofs.Ytdeehmncnfdmkaa.scriptMay
open Go.ChangeShapes Go.WideShapes Go.ChangeAt Go.RowKit
open Go.ChangeMaps (open_string shut_string)
set_option linter.unusedVariables false

theorem own : ownKnob Try.prog.godebug = none := by kernel_rfl
theorem laidOut : laidOutB Try.prog = true := by kernel_rfl

/-- What the walk is told of a slice of ints that came in. -/
def IsRow (k : IntKind) (w : World) (a : Option Addr) (len cap : Nat) (zs : List Int) : Prop :=
  (a = none ∧ len = 0 ∧ cap = 0 ∧ zs = []) ∨
  ∃ x, a = some x ∧ len ≤ cap ∧ cap ≤ maxLen ∧ zs.length = cap ∧ (∀ i, i < zs.length → w.cell? (x.add i) = some (.int k (zs.getD i 0))) ∧ ∀ n ∈ zs, (Lit.int k n).wf = true

/-- What the walk is told of a slice of records of ints that came in: it is nil; or it leads to a row of 'cap' records, 'sz' cells each. -/
def IsRecs (sz : Nat) (w : World) (a : Option Addr) (len cap : Nat) (zs : List Int) : Prop :=
  (a = none ∧ len = 0 ∧ cap = 0 ∧ zs = []) ∨
  ∃ x, a = some x ∧ len ≤ cap ∧ cap ≤ maxLen ∧ zs.length = cap * sz ∧ (∀ i, i < zs.length → w.cell? (x.add i) = some (.int .i64 (zs.getD i 0))) ∧ ∀ n ∈ zs, (Lit.int .i64 n).wf = true

theorem walk (a0 : Option Addr) (len0 cap0 : Nat) (z0 : List Int) (z1 : List Int) (w : World) (w0 : IsRow .u8 w a0 len0 cap0 z0) (w1 : z1.length = 4 ∧ ∀ n ∈ z1, (Lit.int .i64 n).wf = true) :
    Calls Try.prog 8 #[.slice a0 len0 cap0, .agg (z1.map (Value.int .i64)).toArray] w fun e w' => e = .returned (.bool true) ∧ Below w.heap.size w w' := by
  obtain ⟨p, f, s, c, rfl⟩ : ∃ p f s c, z1 = [p, f, s, c] := by
    obtain ⟨h4, _⟩ := w1
    match z1, h4 with
    | [p, f, s, c], _ => exact ⟨p, f, s, c, rfl⟩
  obtain ⟨ι, h, x, I, hle, hx, hr⟩ := (Lav.Init.empty w).slice w0
  obtain ⟨b, tb, sh⟩ := Lav.txt_of hr
  exact Lav.walk_of (Lav.topX_sound Lav.mixed Lav.table_ok Lav.tld15 Lav.mnz_ok 200 9) I (args := [.c x, .agg (Lav.cfC ⟨p, f, s, c⟩)]) (vs := [.slice a0 len0 cap0, .agg ([p, f, s, c].map (Value.int .i64)).toArray]) ⟨hx, Lav.ar_ints, trivial⟩ (Lav.good_top rfl rfl (Lav.scriptMay ⟨p, f, s, c⟩ tb sh))

set_option maxRecDepth 100000 in
theorem lifted (os : Os) (started : os.Started) (H : Type) (enc : TypeId × Value → H) :
    ReturnsInHanded {} Try.checked os 8 .any (Rows.scriptMaySpec.pre6 enc Try.prog Try.f8 Rows.scriptMayRow.domain false) (Rows.scriptMaySpec.post enc Try.prog Try.f8 false true false false) := by
  refine returnsInHanded_of_change (C := Try.checked) own started (by kernel_rfl) Try.func8
    (ChangeSpec.witness6 (enc := enc) (C := Try.checked) false ⟨#[], #[.slice none 0 0, .agg #[.int .i64 0, .int .i64 0, .int .i64 0, .int .i64 0]], []⟩ 8 (by kernel_rfl) (by kernel_rfl) (by kernel_rfl) (by kernel_rfl)) ?_
  intro W base args ds gs before hval0 hW hcnd _
  have hval : ∀ (j : Nat) t v, Try.f8.params[j]? = some t → args[j]? = some v → Value.okWide Try.prog W .any base t v := hval0
  have hW' := hW
  obtain ⟨p, q, hA0, hV, rfl, hfz, hnd⟩ := hW
  have hA : DataW.TrodAll enc Try.prog W 0 (fun _ => true) true Try.f8.params.toList args.toList ds p := hA0
  rw [Try.params8] at hA hval
  obtain ⟨v0, vs0, d0, ds0, p0, q0, hargs, rfl, rfl, h0, r0⟩ := trodAll_cons hA
  obtain ⟨v1, vs1, d1, ds1, p1, q1, rfl, rfl, rfl, h1, r1⟩ := trodAll_cons r0
  obtain ⟨rfl, rfl, rfl⟩ := trodAll_nil r1
  obtain rfl : args = #[v0, v1] := by cases args; simp_all
  obtain ⟨rfl, rfl⟩ := trodVars_none hV
  obtain ⟨a0, len0, cap0, rfl⟩ := okWide_slice Try.underlying39 (hval 0 39 v0 rfl rfl)
  have k0 := h0
  have lt0 : ∀ x ∈ p0, x.block < W.heap.size := by obtain ⟨m, hm⟩ := k0; exact DataW.trod_lt m _ _ _ hm
  obtain ⟨z0, w0⟩ : ∃ zs, IsRow .u8 W a0 len0 cap0 zs := by
    obtain ⟨fuel, hf⟩ := h0
    rcases open_ints Try.underlying39 Try.underlying5 (by kernel_rfl) hf with ⟨hcs, _⟩ | ⟨x, l, c, zs, hcs, _, hl, hm, hz, _, hcell, hwz⟩
    · simp [Value.cells] at hcs
      obtain ⟨rfl, rfl, rfl⟩ := hcs
      exact ⟨[], .inl ⟨rfl, rfl, rfl, rfl⟩⟩
    · simp [Value.cells] at hcs
      obtain ⟨rfl, rfl, rfl⟩ := hcs
      exact ⟨zs, .inr ⟨_, rfl, hl, hm, by simpa using hz, hcell, hwz⟩⟩
  obtain ⟨cs1, rfl, hs1⟩ := okWide_struct Try.underlying41 (hval 1 41 v1 rfl rfl)
  have k1 := h1
  have lt1 : ∀ x ∈ p1, x.block < W.heap.size := by obtain ⟨m, hm⟩ := k1; exact DataW.trod_lt m _ _ _ hm
  have hc1 : Try.prog.cellsOf 41 = 4 := by kernel_rfl
  rw [hc1] at hs1
  obtain ⟨z1, rfl, w1⟩ := Lav.open_struct Try.underlying41 hs1 (by
    intro j hj
    match j, hj with
    | 0, _ => exact ⟨0, _, rfl, rfl, Try.underlying3, by kernel_rfl⟩
    | 1, _ => exact ⟨1, _, rfl, rfl, Try.underlying3, by kernel_rfl⟩
    | 2, _ => exact ⟨2, _, rfl, rfl, Try.underlying3, by kernel_rfl⟩
    | 3, _ => exact ⟨3, _, rfl, rfl, Try.underlying3, by kernel_rfl⟩
    | j + 4, hj => omega) h1
  clear hA0 hval0
  refine (walk a0 len0 cap0 z0 z1 W w0 w1).mono fun e W' ⟨he, bel⟩ => ?_
  subst he
  exact ⟨_, rfl, _, _, _, [], _, [], hW', trodAll_mk1 (shut_bool Try.underlying4 _), (trodAll_cons_mk (Below.trod laidOut (by kernel_rfl) (of_decide_eq_true (by kernel_rfl)) k0 bel lt0) (trodAll_cons_mk (Below.trod laidOut (by kernel_rfl) (of_decide_eq_true (by kernel_rfl)) k1 bel lt1) trodAll_mk0)), rfl, bel.frame _, fun h => by cases h⟩

theorem over : Rows.scriptMayRow.holds Try.pinned (OpenSpec.ofChange Rows.scriptMaySpec) :=
  OpenClaim.holds_of_wide 8 Try.f8 rfl rfl rfl rfl rfl rfl rfl ⟨rfl, rfl, rfl, rfl, rfl⟩ rfl rfl rfl rfl rfl (by kernel_rfl) Try.func8 (by kernel_rfl)
    (of_decide_eq_true (by kernel_rfl)) (by unfold Func.isWrapper; first | (rw [if_pos (by decide +kernel)]; kernel_rfl) | (rw [if_neg (by decide +kernel)]; exact ⟨rfl, rfl⟩))
    (fun os started H enc _ => lifted os started H enc)

theorem proved : Rows.ScriptMaySaid := over
end Go.Proofs.Ytdeehmncnfdmkaa.scriptMay
