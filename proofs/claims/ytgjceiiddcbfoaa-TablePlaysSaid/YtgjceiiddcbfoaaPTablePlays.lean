/-
  Proved: whatever size and steps come in, lavabolaw5.TablePlays returns true and changes nothing that was there. No conditions beyond the given statement's.
-/
import Derived.Test.YtgjceiiddcbfoaaRows
import Derived.Test.YtgjceiiddcbfoaaOps0
import Derived.Test.YtgjceiiddcbfoaaTable1
import Derived.Test.YtgjceiiddcbfoaaTable2
import Derived.Test.YtgjceiiddcbfoaaTable3
import Derived.Test.YtgjceiiddcbfoaaTable4
import Derived.Test.YtgjceiiddcbfoaaTable5
import Derived.WalkKit
import Derived.ProofKit
import Derived.OpenShut
import Derived.ShutString
import Derived.ChangeOld
import Derived.Below
set_option maxRecDepth 100000
set_option linter.unusedSimpArgs false
namespace Lav
open Go (IntKind)
theorem bneI {a b : Int} : (a != b) = !(a == b) := rfl
theorem eqq (a : Int) : (a == a) = true := by simp

structure Both (h : Heap) (p b q e : Nat) (ss : Slots) : Prop where
  t : TB h p b ss (cnt ss)
  r : RT h q e ss
  low : Low ss
  pos : 1 ≤ ss.length
  top : ss.length ≤ 40
  ne : p ≠ q ∧ p ≠ e ∧ b ≠ q ∧ b ≠ e

abbrev At (x : CV) (p q i : Nat) : List AV := [.junk, .c x, .junk, .c (.ptr p 0), .c (.ptr q 0), .c (.int .i64 (i : Int)), .junk, .junk, .junk, .junk, .junk, .junk, .junk, .junk, .junk, .junk, .junk, .junk]

section
variable {h : Heap} {p b q e n bx o : Nat} {cc : Cap} {xs : List Int} {ss : Slots}

/-- Behind a step both are alike. -/
theorem alike (B : Both h p b q e ss) : evCallT table 25 200 8 31 [.c (.ptr p 0)] h = some (.c (.int .i64 (cnt ss : Int)), h) ∧ evCallT table 25 200 8 37 [.c (.ptr q 0)] h = some (.c (.int .i64 (cnt ss : Int)), h) ∧
    ∃ j c h', evCallT table 25 200 8 32 [.c (.ptr p 0)] h = some (.c (.sl j 0 ss.length (.dy 2)), h') ∧ h.read q 0 1 = some [.sl e 0 ss.length c] ∧ h'.read q 0 1 = some [.sl e 0 ss.length c] ∧ evCallT table 25 200 8 38 [.c (.sl j 0 ss.length (.dy 2)), .c (.sl e 0 ss.length c)] h' = some (.c (.bool true), h') ∧ Ext h h' := by
  refine ⟨len_ok (N := 200) (d := 7) B.t, rlen_ok (N := 200) (d := 7) B.r (by have := B.top; omega) (by have := B.top; omega), ?_⟩
  have h1 := B.pos
  have h2 := B.top
  obtain ⟨j, h', e1, g1, x1, _, _⟩ := slots_ok (N := 200) (d := 6) B.t (m := ss.length - 1) (by omega) (by omega)
  rw [show ss.length - 1 + 1 = ss.length by omega] at e1
  obtain ⟨⟨c, hc⟩, g2, _, hq, he⟩ := B.r
  refine ⟨j, c, h', e1, read_cells hc rfl, read_cells (x1.at_ hc hq) rfl, ?_, x1⟩
  exact same_ok (N := 200) (d := 7) g1 (x1.at_ g2 he) (by omega) (by omega)

theorem Both.after (B : Both h p b q e ss) {h1 h2 : Heap} {ss' : Slots} (t1 : TB h1 p b ss' (cnt ss')) (r2 : RT h2 q e ss') (x2 : ExtB [e] h1 h2) (low : Low ss') (hl : ss'.length = ss.length) : Both h2 p b q e ss' :=
  ⟨t1.ext x2 (by simp; exact B.ne.2.1) (by simp; exact B.ne.2.2.2), r2, low, by rw [hl]; exact B.pos, by rw [hl]; exact B.top, B.ne⟩

theorem step (B : Both h p b q e ss) (hx : Recs 3 h (.sl bx o n cc) n xs) {i : Nat} (hi : i < n) (hn : n ≤ 150) :
    ∃ l H ss', ev (evCallT table 25 200 8) 200 ir10_l0 (At (.sl bx o n cc) p q i) h = some (.norm, l, H) ∧ keepOnly ir10_k0 l = At (.sl bx o n cc) p q (i + 1) ∧ Both H p b q e ss' ∧ ExtB [p, b, e] h H := by
  have lx : ∀ (loc vals : List AV) (h : Heap), evPure loc (.c (.sl bx o n cc) :: vals) h (.len .sl (.val 0)) = some (.c (.int .i64 (n : Int))) := fun _ _ _ => hx.len rfl
  have v1 : decide ((i : Int) < (n : Int)) = true := ltNat hi
  have v2 := succI (i := i) (by omega)
  have m1 : Nat.blt i n = true := bltT hi
  have r3 := hx.op3 hi
  have hbn := hx.lt (by omega)
  generalize xs.getD (i * 3) 0 = a0 at *
  generalize xs.getD (i * 3 + 1) 0 = key at *
  generalize xs.getD (i * 3 + 2) 0 = v at *
  obtain ⟨h1, W, gb, x1, n1⟩ := box_store (h := h) (z := [.int .i64 0, .int .i64 0, .int .i64 0]) (v := [.int .i64 a0, .int .i64 key, .int .i64 v]) rfl
  have B1 : Both h1 p b q e ss := ⟨B.t.ext (x1.b []) (by simp) (by simp), B.r.ext (x1.b []) (by simp) (by simp), B.low, B.pos, B.top, B.ne⟩
  have hpos := B.pos
  have htop := B.top
  have below : p < h.next ∧ b < h.next ∧ q < h.next ∧ e < h.next := ⟨B.t.pn, B.t.bn, B.r.qn, B.r.bn⟩
  have kb : ∀ {S : List Nat} {H : Heap}, ExtB S h1 H → (∀ k ∈ S, k < h.next) → H.read h.next 0 1 = some [.int .i64 a0] ∧ H.read h.next 1 1 = some [.int .i64 key] ∧ H.read h.next 2 1 = some [.int .i64 v] := fun {S H} x hS => by
    have g := x.at_ gb (by omega) (fun hk => by have := hS _ hk; omega)
    exact ⟨read_cells g rfl, read_cells g rfl, read_cells g rfl⟩
  have kb0 := kb (ExtB.refl [] h1) (by simp)
  obtain ⟨kk, hkk, ekk⟩ := kindM (m := 6) (by omega) (by omega) a0
  have ekk' : Int.tmod (IntKind.i64.wrap (Int.tmod a0 6 + 6)) 6 = (kk : Int) := ekk
  have fin : ∀ {H H' : Heap} {ss' : Slots}, TB H p b ss' (cnt ss') → ExtB [p, b] h1 H → RT H' q e ss' → ExtB [e] H H' → Low ss' → ss'.length = ss.length → Both H' p b q e ss' ∧ ExtB [p, b, e] h H' := fun t x r y low hl =>
    ⟨B1.after t r y low hl, ((x1.b _).trans (x.mono (by simp +contextual))).trans (y.mono (by simp +contextual))⟩
  have e0 : ∀ H : Heap, ExtB [p, b] h1 H → RT H q e ss := fun H x => B1.r.ext x (by simp; have := B.ne; omega) (by simp; have := B.ne; omega)
  by_cases c3 : kk < 3
  · obtain ⟨h2, e2, t2, x2⟩ : ∃ h', evCallT table 25 200 8 28 [.c (.ptr p 0), .c (.int .i64 key), .c (.int .i64 v)] h1 = some (.c (.int .i64 (putM ss key v).1), h') ∧ TB h' p b (putM ss key v).2 (cnt (putM ss key v).2) ∧ ExtB [p, b] h1 h' := put_all (N := 200) (d := 5) B1.t key v (by omega) (by omega) (by omega)
    obtain ⟨h3, e3, t3, x3⟩ : ∃ h', evCallT table 25 200 8 34 [.c (.ptr q 0), .c (.int .i64 key), .c (.int .i64 v)] h2 = some (.c (.int .i64 (putM ss key v).1), h') ∧ RT h' q e (putM ss key v).2 ∧ ExtB [e] h2 h' := rput_ok (N := 200) (d := 5) (e0 h2 x2) B.low key v (by omega) (by omega) (by omega)
    have kb2 := kb x2 (by simp; omega)
    obtain ⟨B3, x13⟩ := fin t2 x2 t3 x3 (putM_low B.low key v) (putM_len ss key v)
    obtain ⟨l1, l2, j, c, h4, l3, l6, l4, l5, x4⟩ := alike B3
    have B4 : Both h4 p b q e (putM ss key v).2 := ⟨B3.t.ext (x4.b []) (by simp) (by simp), B3.r.ext (x4.b []) (by simp) (by simp), B3.low, B3.pos, B3.top, B3.ne⟩
    have x14 := x13.trans (x4.b _)
    have k : kk = 0 ∨ kk = 1 ∨ kk = 2 := by omega
    unfold ir10_l0
    rcases k with rfl | rfl | rfl
    · have ek : Int.tmod (IntKind.i64.wrap (Int.tmod a0 6 + 6)) 6 = 0 := ekk'
      simp only [enter_eq, ev_seq, seqK_norm, seqK_exit, seqK_ret, ev_reg, ev_cond, condK_true, condK_false, ev_block, blockK_norm, blockK_ret, blockK_exit, ev_loop, ev_skip, ev_exit, ev_ret, regK_cons, regK_nil, guard_none, guard_some, regG_true, regG_false, regO_some, op_mov, op_conv, op_bin, op_bsl, op_box, op_mks, op_s2b, op_pick, op_un, op_eq, op_len, op_ext, op_load, op_iaddr, op_slice, op_b2s, op_idxS, op_mx, op_mn, op_call, op_store, op_app, op_copy, args_eq, result_one', rv_loc, finish_norm, finish_ret, outK_some, keep_true, keep_false, keep_nil, p_bin, p_pick, p_un, p_eq, p_conv, evNew, pureK_some, newK_some, X.eval, set_none, set_some, List.map_cons, List.map_nil, List.getD_cons_zero, List.getD_cons_succ, List.getD_nil, List.set_cons_zero, List.set_cons_succ, binCV, unCV, isShift, intArithF_eq, shiftF_eq, wrapF_eq, intArith, shift, eqVal, bound, asNat_cast, cond_true, cond_false, BEq.rfl, beq_self_eq_true, evalParts, fillParts, AV.cells, AV.ofCells, XV.av, AV.xv, List.length_cons, List.length_nil, zeros, patch, setMany, List.nil_append, List.cons_append, Nat.ble, Nat.add_eq, Nat.zero_add, Nat.add_zero, Nat.reduceAdd, Nat.reduceMul, Nat.reduceSub, Nat.ble_eq, Nat.reduceLeDiff, Nat.reduceBEq, Int.reduceBEq, Int.reduceNeg, Bool.and_true, Bool.and_false, Bool.true_and, Bool.false_and, Bool.not_true, Bool.not_false, Bool.true_eq_false, Bool.false_eq_true, Int.reduceLT, Int.reduceLE, Int.reduceGT, Int.reduceGE, decide_true, decide_false, Bool.not_eq_true, loopN_norm, loopN_exit, tf, ft, ff, ev_dreg, dregK_nil, dregK_cons, dregE_true, dregP_some, dregX_some, d_mov, d_bin, d_eq, d_pick, d_un, d_conv, d_b2s, d_len, d_load, d_iaddr, d_slice, d_ext, d_call, d_store, chk_done, chk_none, chk_some, chkG_true, chkG_false, chkOne_nil, chkOne_cons, chkH_some, chkV_same, stage_none, stage_some, look_hit, look_miss, news_nil, wb_cons, wb_nil, skip0, List.reverse_cons, List.reverse_nil, bneI, lx, v1, v2, m1, p_iaddr, p_faddr, op_faddr, d_faddr, d_nilchk, p_nilchk, p_load, AV.ofCells, r3, evEff, W, kb0, kb2, ek, e2, e3, l1, l2, l3, l4, l5, l6, eqq]
      refine ⟨_, _, _, rfl, ?_, B4, x14⟩; rfl
    · have ek : Int.tmod (IntKind.i64.wrap (Int.tmod a0 6 + 6)) 6 = 1 := ekk'
      simp only [enter_eq, ev_seq, seqK_norm, seqK_exit, seqK_ret, ev_reg, ev_cond, condK_true, condK_false, ev_block, blockK_norm, blockK_ret, blockK_exit, ev_loop, ev_skip, ev_exit, ev_ret, regK_cons, regK_nil, guard_none, guard_some, regG_true, regG_false, regO_some, op_mov, op_conv, op_bin, op_bsl, op_box, op_mks, op_s2b, op_pick, op_un, op_eq, op_len, op_ext, op_load, op_iaddr, op_slice, op_b2s, op_idxS, op_mx, op_mn, op_call, op_store, op_app, op_copy, args_eq, result_one', rv_loc, finish_norm, finish_ret, outK_some, keep_true, keep_false, keep_nil, p_bin, p_pick, p_un, p_eq, p_conv, evNew, pureK_some, newK_some, X.eval, set_none, set_some, List.map_cons, List.map_nil, List.getD_cons_zero, List.getD_cons_succ, List.getD_nil, List.set_cons_zero, List.set_cons_succ, binCV, unCV, isShift, intArithF_eq, shiftF_eq, wrapF_eq, intArith, shift, eqVal, bound, asNat_cast, cond_true, cond_false, BEq.rfl, beq_self_eq_true, evalParts, fillParts, AV.cells, AV.ofCells, XV.av, AV.xv, List.length_cons, List.length_nil, zeros, patch, setMany, List.nil_append, List.cons_append, Nat.ble, Nat.add_eq, Nat.zero_add, Nat.add_zero, Nat.reduceAdd, Nat.reduceMul, Nat.reduceSub, Nat.ble_eq, Nat.reduceLeDiff, Nat.reduceBEq, Int.reduceBEq, Int.reduceNeg, Bool.and_true, Bool.and_false, Bool.true_and, Bool.false_and, Bool.not_true, Bool.not_false, Bool.true_eq_false, Bool.false_eq_true, Int.reduceLT, Int.reduceLE, Int.reduceGT, Int.reduceGE, decide_true, decide_false, Bool.not_eq_true, loopN_norm, loopN_exit, tf, ft, ff, ev_dreg, dregK_nil, dregK_cons, dregE_true, dregP_some, dregX_some, d_mov, d_bin, d_eq, d_pick, d_un, d_conv, d_b2s, d_len, d_load, d_iaddr, d_slice, d_ext, d_call, d_store, chk_done, chk_none, chk_some, chkG_true, chkG_false, chkOne_nil, chkOne_cons, chkH_some, chkV_same, stage_none, stage_some, look_hit, look_miss, news_nil, wb_cons, wb_nil, skip0, List.reverse_cons, List.reverse_nil, bneI, lx, v1, v2, m1, p_iaddr, p_faddr, op_faddr, d_faddr, d_nilchk, p_nilchk, p_load, AV.ofCells, r3, evEff, W, kb0, kb2, ek, e2, e3, l1, l2, l3, l4, l5, l6, eqq]
      refine ⟨_, _, _, rfl, ?_, B4, x14⟩; rfl
    · have ek : Int.tmod (IntKind.i64.wrap (Int.tmod a0 6 + 6)) 6 = 2 := ekk'
      simp only [enter_eq, ev_seq, seqK_norm, seqK_exit, seqK_ret, ev_reg, ev_cond, condK_true, condK_false, ev_block, blockK_norm, blockK_ret, blockK_exit, ev_loop, ev_skip, ev_exit, ev_ret, regK_cons, regK_nil, guard_none, guard_some, regG_true, regG_false, regO_some, op_mov, op_conv, op_bin, op_bsl, op_box, op_mks, op_s2b, op_pick, op_un, op_eq, op_len, op_ext, op_load, op_iaddr, op_slice, op_b2s, op_idxS, op_mx, op_mn, op_call, op_store, op_app, op_copy, args_eq, result_one', rv_loc, finish_norm, finish_ret, outK_some, keep_true, keep_false, keep_nil, p_bin, p_pick, p_un, p_eq, p_conv, evNew, pureK_some, newK_some, X.eval, set_none, set_some, List.map_cons, List.map_nil, List.getD_cons_zero, List.getD_cons_succ, List.getD_nil, List.set_cons_zero, List.set_cons_succ, binCV, unCV, isShift, intArithF_eq, shiftF_eq, wrapF_eq, intArith, shift, eqVal, bound, asNat_cast, cond_true, cond_false, BEq.rfl, beq_self_eq_true, evalParts, fillParts, AV.cells, AV.ofCells, XV.av, AV.xv, List.length_cons, List.length_nil, zeros, patch, setMany, List.nil_append, List.cons_append, Nat.ble, Nat.add_eq, Nat.zero_add, Nat.add_zero, Nat.reduceAdd, Nat.reduceMul, Nat.reduceSub, Nat.ble_eq, Nat.reduceLeDiff, Nat.reduceBEq, Int.reduceBEq, Int.reduceNeg, Bool.and_true, Bool.and_false, Bool.true_and, Bool.false_and, Bool.not_true, Bool.not_false, Bool.true_eq_false, Bool.false_eq_true, Int.reduceLT, Int.reduceLE, Int.reduceGT, Int.reduceGE, decide_true, decide_false, Bool.not_eq_true, loopN_norm, loopN_exit, tf, ft, ff, ev_dreg, dregK_nil, dregK_cons, dregE_true, dregP_some, dregX_some, d_mov, d_bin, d_eq, d_pick, d_un, d_conv, d_b2s, d_len, d_load, d_iaddr, d_slice, d_ext, d_call, d_store, chk_done, chk_none, chk_some, chkG_true, chkG_false, chkOne_nil, chkOne_cons, chkH_some, chkV_same, stage_none, stage_some, look_hit, look_miss, news_nil, wb_cons, wb_nil, skip0, List.reverse_cons, List.reverse_nil, bneI, lx, v1, v2, m1, p_iaddr, p_faddr, op_faddr, d_faddr, d_nilchk, p_nilchk, p_load, AV.ofCells, r3, evEff, W, kb0, kb2, ek, e2, e3, l1, l2, l3, l4, l5, l6, eqq]
      refine ⟨_, _, _, rfl, ?_, B4, x14⟩; rfl
  by_cases c5 : kk < 5
  · obtain ⟨h2, e2, t2, x2⟩ : ∃ h', evCallT table 25 200 8 29 [.c (.ptr p 0), .c (.int .i64 key)] h1 = some (.c (.int .i64 (outM ss key).1), h') ∧ TB h' p b (outM ss key).2 (cnt (outM ss key).2) ∧ ExtB [p, b] h1 h' := out_all (N := 200) (d := 5) B1.t key (by omega) (by omega) (by omega)
    obtain ⟨h3, e3, t3, x3⟩ : ∃ h', evCallT table 25 200 8 35 [.c (.ptr q 0), .c (.int .i64 key)] h2 = some (.c (.int .i64 (outM ss key).1), h') ∧ RT h' q e (outM ss key).2 ∧ ExtB [e] h2 h' := rout_ok (N := 200) (d := 5) (e0 h2 x2) B.low key (by omega) (by omega) (by omega)
    have kb2 := kb x2 (by simp; omega)
    obtain ⟨B3, x13⟩ := fin t2 x2 t3 x3 (outM_low B.low key) (outM_len ss key)
    obtain ⟨l1, l2, j, c, h4, l3, l6, l4, l5, x4⟩ := alike B3
    have B4 : Both h4 p b q e (outM ss key).2 := ⟨B3.t.ext (x4.b []) (by simp) (by simp), B3.r.ext (x4.b []) (by simp) (by simp), B3.low, B3.pos, B3.top, B3.ne⟩
    have x14 := x13.trans (x4.b _)
    have k : kk = 3 ∨ kk = 4 := by omega
    unfold ir10_l0
    rcases k with rfl | rfl
    · have ek : Int.tmod (IntKind.i64.wrap (Int.tmod a0 6 + 6)) 6 = 3 := ekk'
      simp only [enter_eq, ev_seq, seqK_norm, seqK_exit, seqK_ret, ev_reg, ev_cond, condK_true, condK_false, ev_block, blockK_norm, blockK_ret, blockK_exit, ev_loop, ev_skip, ev_exit, ev_ret, regK_cons, regK_nil, guard_none, guard_some, regG_true, regG_false, regO_some, op_mov, op_conv, op_bin, op_bsl, op_box, op_mks, op_s2b, op_pick, op_un, op_eq, op_len, op_ext, op_load, op_iaddr, op_slice, op_b2s, op_idxS, op_mx, op_mn, op_call, op_store, op_app, op_copy, args_eq, result_one', rv_loc, finish_norm, finish_ret, outK_some, keep_true, keep_false, keep_nil, p_bin, p_pick, p_un, p_eq, p_conv, evNew, pureK_some, newK_some, X.eval, set_none, set_some, List.map_cons, List.map_nil, List.getD_cons_zero, List.getD_cons_succ, List.getD_nil, List.set_cons_zero, List.set_cons_succ, binCV, unCV, isShift, intArithF_eq, shiftF_eq, wrapF_eq, intArith, shift, eqVal, bound, asNat_cast, cond_true, cond_false, BEq.rfl, beq_self_eq_true, evalParts, fillParts, AV.cells, AV.ofCells, XV.av, AV.xv, List.length_cons, List.length_nil, zeros, patch, setMany, List.nil_append, List.cons_append, Nat.ble, Nat.add_eq, Nat.zero_add, Nat.add_zero, Nat.reduceAdd, Nat.reduceMul, Nat.reduceSub, Nat.ble_eq, Nat.reduceLeDiff, Nat.reduceBEq, Int.reduceBEq, Int.reduceNeg, Bool.and_true, Bool.and_false, Bool.true_and, Bool.false_and, Bool.not_true, Bool.not_false, Bool.true_eq_false, Bool.false_eq_true, Int.reduceLT, Int.reduceLE, Int.reduceGT, Int.reduceGE, decide_true, decide_false, Bool.not_eq_true, loopN_norm, loopN_exit, tf, ft, ff, ev_dreg, dregK_nil, dregK_cons, dregE_true, dregP_some, dregX_some, d_mov, d_bin, d_eq, d_pick, d_un, d_conv, d_b2s, d_len, d_load, d_iaddr, d_slice, d_ext, d_call, d_store, chk_done, chk_none, chk_some, chkG_true, chkG_false, chkOne_nil, chkOne_cons, chkH_some, chkV_same, stage_none, stage_some, look_hit, look_miss, news_nil, wb_cons, wb_nil, skip0, List.reverse_cons, List.reverse_nil, bneI, lx, v1, v2, m1, p_iaddr, p_faddr, op_faddr, d_faddr, d_nilchk, p_nilchk, p_load, AV.ofCells, r3, evEff, W, kb0, kb2, ek, e2, e3, l1, l2, l3, l4, l5, l6, eqq]
      refine ⟨_, _, _, rfl, ?_, B4, x14⟩; rfl
    · have ek : Int.tmod (IntKind.i64.wrap (Int.tmod a0 6 + 6)) 6 = 4 := ekk'
      simp only [enter_eq, ev_seq, seqK_norm, seqK_exit, seqK_ret, ev_reg, ev_cond, condK_true, condK_false, ev_block, blockK_norm, blockK_ret, blockK_exit, ev_loop, ev_skip, ev_exit, ev_ret, regK_cons, regK_nil, guard_none, guard_some, regG_true, regG_false, regO_some, op_mov, op_conv, op_bin, op_bsl, op_box, op_mks, op_s2b, op_pick, op_un, op_eq, op_len, op_ext, op_load, op_iaddr, op_slice, op_b2s, op_idxS, op_mx, op_mn, op_call, op_store, op_app, op_copy, args_eq, result_one', rv_loc, finish_norm, finish_ret, outK_some, keep_true, keep_false, keep_nil, p_bin, p_pick, p_un, p_eq, p_conv, evNew, pureK_some, newK_some, X.eval, set_none, set_some, List.map_cons, List.map_nil, List.getD_cons_zero, List.getD_cons_succ, List.getD_nil, List.set_cons_zero, List.set_cons_succ, binCV, unCV, isShift, intArithF_eq, shiftF_eq, wrapF_eq, intArith, shift, eqVal, bound, asNat_cast, cond_true, cond_false, BEq.rfl, beq_self_eq_true, evalParts, fillParts, AV.cells, AV.ofCells, XV.av, AV.xv, List.length_cons, List.length_nil, zeros, patch, setMany, List.nil_append, List.cons_append, Nat.ble, Nat.add_eq, Nat.zero_add, Nat.add_zero, Nat.reduceAdd, Nat.reduceMul, Nat.reduceSub, Nat.ble_eq, Nat.reduceLeDiff, Nat.reduceBEq, Int.reduceBEq, Int.reduceNeg, Bool.and_true, Bool.and_false, Bool.true_and, Bool.false_and, Bool.not_true, Bool.not_false, Bool.true_eq_false, Bool.false_eq_true, Int.reduceLT, Int.reduceLE, Int.reduceGT, Int.reduceGE, decide_true, decide_false, Bool.not_eq_true, loopN_norm, loopN_exit, tf, ft, ff, ev_dreg, dregK_nil, dregK_cons, dregE_true, dregP_some, dregX_some, d_mov, d_bin, d_eq, d_pick, d_un, d_conv, d_b2s, d_len, d_load, d_iaddr, d_slice, d_ext, d_call, d_store, chk_done, chk_none, chk_some, chkG_true, chkG_false, chkOne_nil, chkOne_cons, chkH_some, chkV_same, stage_none, stage_some, look_hit, look_miss, news_nil, wb_cons, wb_nil, skip0, List.reverse_cons, List.reverse_nil, bneI, lx, v1, v2, m1, p_iaddr, p_faddr, op_faddr, d_faddr, d_nilchk, p_nilchk, p_load, AV.ofCells, r3, evEff, W, kb0, kb2, ek, e2, e3, l1, l2, l3, l4, l5, l6, eqq]
      refine ⟨_, _, _, rfl, ?_, B4, x14⟩; rfl
  · have ek : Int.tmod (IntKind.i64.wrap (Int.tmod a0 6 + 6)) 6 = 5 := by rw [ekk']; omega
    have e2 : evCallT table 25 200 8 30 [.c (.ptr p 0), .c (.int .i64 key)] h1 = some (.c (.int .i64 (getM ss key)), h1) := get_ok (N := 200) (d := 5) B1.t key (by omega) (by omega) (by omega)
    have e3 : evCallT table 25 200 8 36 [.c (.ptr q 0), .c (.int .i64 key)] h1 = some (.c (.int .i64 (getM ss key)), h1) := rget_ok (N := 200) (d := 5) B1.r B.low key (by omega) (by omega) (by omega)
    obtain ⟨l1, l2, j, c, h4, l3, l6, l4, l5, x4⟩ := alike B1
    have B4 : Both h4 p b q e ss := ⟨B1.t.ext (x4.b []) (by simp) (by simp), B1.r.ext (x4.b []) (by simp) (by simp), B1.low, B1.pos, B1.top, B1.ne⟩
    have x14 : ExtB [p, b, e] h h4 := (x1.trans x4).b _
    unfold ir10_l0
    simp only [enter_eq, ev_seq, seqK_norm, seqK_exit, seqK_ret, ev_reg, ev_cond, condK_true, condK_false, ev_block, blockK_norm, blockK_ret, blockK_exit, ev_loop, ev_skip, ev_exit, ev_ret, regK_cons, regK_nil, guard_none, guard_some, regG_true, regG_false, regO_some, op_mov, op_conv, op_bin, op_bsl, op_box, op_mks, op_s2b, op_pick, op_un, op_eq, op_len, op_ext, op_load, op_iaddr, op_slice, op_b2s, op_idxS, op_mx, op_mn, op_call, op_store, op_app, op_copy, args_eq, result_one', rv_loc, finish_norm, finish_ret, outK_some, keep_true, keep_false, keep_nil, p_bin, p_pick, p_un, p_eq, p_conv, evNew, pureK_some, newK_some, X.eval, set_none, set_some, List.map_cons, List.map_nil, List.getD_cons_zero, List.getD_cons_succ, List.getD_nil, List.set_cons_zero, List.set_cons_succ, binCV, unCV, isShift, intArithF_eq, shiftF_eq, wrapF_eq, intArith, shift, eqVal, bound, asNat_cast, cond_true, cond_false, BEq.rfl, beq_self_eq_true, evalParts, fillParts, AV.cells, AV.ofCells, XV.av, AV.xv, List.length_cons, List.length_nil, zeros, patch, setMany, List.nil_append, List.cons_append, Nat.ble, Nat.add_eq, Nat.zero_add, Nat.add_zero, Nat.reduceAdd, Nat.reduceMul, Nat.reduceSub, Nat.ble_eq, Nat.reduceLeDiff, Nat.reduceBEq, Int.reduceBEq, Int.reduceNeg, Bool.and_true, Bool.and_false, Bool.true_and, Bool.false_and, Bool.not_true, Bool.not_false, Bool.true_eq_false, Bool.false_eq_true, Int.reduceLT, Int.reduceLE, Int.reduceGT, Int.reduceGE, decide_true, decide_false, Bool.not_eq_true, loopN_norm, loopN_exit, tf, ft, ff, ev_dreg, dregK_nil, dregK_cons, dregE_true, dregP_some, dregX_some, d_mov, d_bin, d_eq, d_pick, d_un, d_conv, d_b2s, d_len, d_load, d_iaddr, d_slice, d_ext, d_call, d_store, chk_done, chk_none, chk_some, chkG_true, chkG_false, chkOne_nil, chkOne_cons, chkH_some, chkV_same, stage_none, stage_some, look_hit, look_miss, news_nil, wb_cons, wb_nil, skip0, List.reverse_cons, List.reverse_nil, bneI, lx, v1, v2, m1, p_iaddr, p_faddr, op_faddr, d_faddr, d_nilchk, p_nilchk, p_load, AV.ofCells, r3, evEff, W, kb0, ek, e2, e3, l1, l2, l3, l4, l5, l6, eqq]
    refine ⟨_, _, _, rfl, ?_, B4, x14⟩; rfl
end

theorem run {x : CV} {h : Heap} {n : Nat} {xs : List Int} (hx : Recs 3 h x n xs) {p b q e : Nat} {ss : Slots} (B : Both h p b q e ss) (hp : ∀ k, blk x = some k → k ∉ [p, b, q, e]) (hn : n ≤ 150) (loc : List AV) (hloc : keepOnly ir10_k0 loc = At x p q 0) :
    ∃ r, loopK (evCallT table 25 200 8) 200 ir10_k0 ir10_l0 200 loc h = some r ∧ ∃ a0 a1 a2 l h', r = (.exit 0, a0 :: a1 :: a2 :: l, h') := by
  refine loop_inv (n := n) (fun i loc h' => ∃ ss, Both h' p b q e ss ∧ Recs 3 h' x n xs ∧ loc = At x p q i) _ ?_ ⟨ss, B, hx, hloc⟩ (by omega)
  rintro i loc h' hi ⟨ss, B, hx', rfl⟩
  by_cases hlt : i < n
  · left
    refine ⟨hlt, ?_⟩
    obtain ⟨bx, o, cc, rfl, _, _⟩ := hx'.sl (by omega)
    obtain ⟨l, H, ss', e1, e2, B', x'⟩ := step B hx' hlt hn
    exact ⟨l, H, e1, ss', B', hx'.extB x' fun k hk hm => hp k hk (by simp at hm ⊢; omega), e2⟩
  · right
    have hin : i = n := by omega
    subst hin
    have lx : ∀ (loc vals : List AV) (h : Heap), evPure loc (.c x :: vals) h (.len .sl (.val 0)) = some (.c (.int .i64 (i : Int))) := fun _ _ _ => hx.len rfl
    have v1 : decide ((i : Int) < (i : Int)) = false := geNat (Nat.le_refl _)
    unfold ir10_l0
    simp only [enter_eq, ev_seq, seqK_norm, seqK_exit, seqK_ret, ev_reg, ev_cond, condK_true, condK_false, ev_block, blockK_norm, blockK_ret, blockK_exit, ev_loop, ev_skip, ev_exit, ev_ret, regK_cons, regK_nil, guard_none, guard_some, regG_true, regG_false, regO_some, op_mov, op_conv, op_bin, op_bsl, op_box, op_mks, op_s2b, op_pick, op_un, op_eq, op_len, op_ext, op_load, op_iaddr, op_slice, op_b2s, op_idxS, op_mx, op_mn, op_call, op_store, op_app, op_copy, args_eq, result_one', rv_loc, finish_norm, finish_ret, outK_some, keep_true, keep_false, keep_nil, p_bin, p_pick, p_un, p_eq, p_conv, evNew, pureK_some, newK_some, X.eval, set_none, set_some, List.map_cons, List.map_nil, List.getD_cons_zero, List.getD_cons_succ, List.getD_nil, List.set_cons_zero, List.set_cons_succ, binCV, unCV, isShift, intArithF_eq, shiftF_eq, wrapF_eq, intArith, shift, eqVal, bound, asNat_cast, cond_true, cond_false, BEq.rfl, beq_self_eq_true, evalParts, fillParts, AV.cells, AV.ofCells, XV.av, AV.xv, List.length_cons, List.length_nil, zeros, patch, setMany, List.nil_append, List.cons_append, Nat.ble, Nat.add_eq, Nat.zero_add, Nat.add_zero, Nat.reduceAdd, Nat.reduceMul, Nat.reduceSub, Nat.ble_eq, Nat.reduceLeDiff, Nat.reduceBEq, Int.reduceBEq, Int.reduceNeg, Bool.and_true, Bool.and_false, Bool.true_and, Bool.false_and, Bool.not_true, Bool.not_false, Bool.true_eq_false, Bool.false_eq_true, Int.reduceLT, Int.reduceLE, Int.reduceGT, Int.reduceGE, decide_true, decide_false, Bool.not_eq_true, loopN_norm, loopN_exit, tf, ft, ff, lx, v1]
    exact ⟨_, rfl, by simp, _, _, _, _, _, rfl⟩

theorem made {x : CV} {h : Heap} {n : Nat} {xs : List Int} (hx : Recs 3 h x n xs) {s : Nat} (h1 : 1 ≤ s) (h2 : s ≤ 40) :
    ∃ p b q e H H', evCallT table 25 200 8 27 [.c (.int .i64 (s : Int))] h = some (.c (.ptr p 0), H) ∧ evCallT table 25 200 8 33 [.c (.int .i64 (s : Int))] H = some (.c (.ptr q 0), H') ∧ Both H' p b q e (List.replicate s (-1, 0)) ∧ Recs 3 H' x n xs ∧ (∀ k, blk x = some k → k ∉ [p, b, q, e]) := by
  obtain ⟨p, b, H, e1, t1, x1, hp1, hb1⟩ : ∃ p b h', evCallT table 25 200 8 27 [.c (.int .i64 (s : Int))] h = some (.c (.ptr p 0), h') ∧ TB h' p b (List.replicate s (-1, 0)) 0 ∧ Ext h h' ∧ h.next ≤ p ∧ h.next ≤ b := new_ok (N := 200) (d := 6) s h h1 (by omega) (by omega)
  obtain ⟨q, e, H', e2, t2, x2, hq1, he1⟩ : ∃ q b h', evCallT table 25 200 8 33 [.c (.int .i64 (s : Int))] H = some (.c (.ptr q 0), h') ∧ RT h' q b (List.replicate s (-1, 0)) ∧ Ext H h' ∧ H.next ≤ q ∧ H.next ≤ b := rnew_ok (N := 200) (d := 7) s H h1 (by omega) (by omega)
  have hpn := t1.pn
  have hbn := t1.bn
  have hx1 := x1.1
  refine ⟨p, b, q, e, H, H', e1, e2, ⟨?_, t2, fun i hi => by simp, by simpa using h1, by simpa using h2, by omega⟩, (hx.ext x1).ext x2, fun k hk => ?_⟩
  · rw [cnt_rep]; exact t1.ext (x2.b []) (by simp) (by simp)
  · rcases hx.is with ⟨rfl, _⟩ | ⟨i, o, c, rfl, hi⟩
    · cases hk
    · simp [blk] at hk; simp; omega

theorem tablePlays {x : CV} {h : Heap} {n : Nat} {xs : List Int} (size : Int) (hx : Recs 3 h x n xs) : good (evCallT table 25 200 9 10 [.c (.int .i64 size), .c x] h) = true := by
  have lx : ∀ (loc vals : List AV) (h : Heap), evPure loc (.c x :: vals) h (.len .sl (.val 0)) = some (.c (.int .i64 (n : Int))) := fun _ _ _ => hx.len rfl
  rw [evCallT_eq (F := ir10) rfl rfl rfl]
  unfold ir10
  rw [bodyK_eq]
  by_cases bad : size < 1 ∨ size > 1024
  · have e1 : evCallT table 25 200 8 27 [.c (.int .i64 size)] h = some (.c .nilp, h) := new_no (N := 200) (d := 7) size bad
    have e2 : evCallT table 25 200 8 33 [.c (.int .i64 size)] h = some (.c .nilp, h) := rnew_no (N := 200) (d := 7) size bad
    by_cases c1 : size > 40
    · have c2 : decide (size ≤ 1024) = false := decide_eq_false (by omega)
      simp only [enter_eq, ev_seq, seqK_norm, seqK_exit, seqK_ret, ev_reg, ev_cond, condK_true, condK_false, ev_block, blockK_norm, blockK_ret, blockK_exit, ev_loop, ev_skip, ev_exit, ev_ret, regK_cons, regK_nil, guard_none, guard_some, regG_true, regG_false, regO_some, op_mov, op_conv, op_bin, op_bsl, op_box, op_mks, op_s2b, op_pick, op_un, op_eq, op_len, op_ext, op_load, op_iaddr, op_slice, op_b2s, op_idxS, op_mx, op_mn, op_call, op_store, op_app, op_copy, args_eq, result_one', rv_loc, finish_norm, finish_ret, outK_some, keep_true, keep_false, keep_nil, p_bin, p_pick, p_un, p_eq, p_conv, evNew, pureK_some, newK_some, X.eval, set_none, set_some, List.map_cons, List.map_nil, List.getD_cons_zero, List.getD_cons_succ, List.getD_nil, List.set_cons_zero, List.set_cons_succ, binCV, unCV, isShift, intArithF_eq, shiftF_eq, wrapF_eq, intArith, shift, eqVal, bound, asNat_cast, cond_true, cond_false, BEq.rfl, beq_self_eq_true, evalParts, fillParts, AV.cells, AV.ofCells, XV.av, AV.xv, List.length_cons, List.length_nil, zeros, patch, setMany, List.nil_append, List.cons_append, Nat.ble, Nat.add_eq, Nat.zero_add, Nat.add_zero, Nat.reduceAdd, Nat.reduceMul, Nat.reduceSub, Nat.ble_eq, Nat.reduceLeDiff, Nat.reduceBEq, Int.reduceBEq, Int.reduceNeg, Bool.and_true, Bool.and_false, Bool.true_and, Bool.false_and, Bool.not_true, Bool.not_false, Bool.true_eq_false, Bool.false_eq_true, Int.reduceLT, Int.reduceLE, Int.reduceGT, Int.reduceGE, decide_true, decide_false, Bool.not_eq_true, loopN_norm, loopN_exit, tf, ft, ff, decide_eq_true c1, c2, e1, e2, evCallT_told]
      rfl
    · simp only [enter_eq, ev_seq, seqK_norm, seqK_exit, seqK_ret, ev_reg, ev_cond, condK_true, condK_false, ev_block, blockK_norm, blockK_ret, blockK_exit, ev_loop, ev_skip, ev_exit, ev_ret, regK_cons, regK_nil, guard_none, guard_some, regG_true, regG_false, regO_some, op_mov, op_conv, op_bin, op_bsl, op_box, op_mks, op_s2b, op_pick, op_un, op_eq, op_len, op_ext, op_load, op_iaddr, op_slice, op_b2s, op_idxS, op_mx, op_mn, op_call, op_store, op_app, op_copy, args_eq, result_one', rv_loc, finish_norm, finish_ret, outK_some, keep_true, keep_false, keep_nil, p_bin, p_pick, p_un, p_eq, p_conv, evNew, pureK_some, newK_some, X.eval, set_none, set_some, List.map_cons, List.map_nil, List.getD_cons_zero, List.getD_cons_succ, List.getD_nil, List.set_cons_zero, List.set_cons_succ, binCV, unCV, isShift, intArithF_eq, shiftF_eq, wrapF_eq, intArith, shift, eqVal, bound, asNat_cast, cond_true, cond_false, BEq.rfl, beq_self_eq_true, evalParts, fillParts, AV.cells, AV.ofCells, XV.av, AV.xv, List.length_cons, List.length_nil, zeros, patch, setMany, List.nil_append, List.cons_append, Nat.ble, Nat.add_eq, Nat.zero_add, Nat.add_zero, Nat.reduceAdd, Nat.reduceMul, Nat.reduceSub, Nat.ble_eq, Nat.reduceLeDiff, Nat.reduceBEq, Int.reduceBEq, Int.reduceNeg, Bool.and_true, Bool.and_false, Bool.true_and, Bool.false_and, Bool.not_true, Bool.not_false, Bool.true_eq_false, Bool.false_eq_true, Int.reduceLT, Int.reduceLE, Int.reduceGT, Int.reduceGE, decide_true, decide_false, Bool.not_eq_true, loopN_norm, loopN_exit, tf, ft, ff, decide_eq_false c1, e1, e2, evCallT_told]
      rfl
  by_cases hn : n ≤ 150
  · have v0 : decide ((n : Int) > 150) = false := by simp; omega
    by_cases c1 : size > 40
    · have c2 : decide (size ≤ 1024) = true := decide_eq_true (by omega)
      obtain ⟨s, hs, es⟩ : ∃ s : Nat, s < 40 ∧ Int.tmod size 40 = (s : Int) := ⟨(Int.tmod size 40).toNat, by have := Int.tmod_lt_of_pos size (show (0 : Int) < 40 by decide); omega, by have := Int.tmod_nonneg 40 (show 0 ≤ size by omega); omega⟩
      have es' : IntKind.i64.wrap (1 + (s : Int)) = ((s + 1 : Nat) : Int) := by rw [wrapI (by omega) (by omega)]; omega
      obtain ⟨p, b, q, e, H, H', e1, e2, B, hx', hb⟩ := made hx (s := s + 1) (by omega) (by omega)
      obtain ⟨r, hr, a0, a1, a2, l, h', rfl⟩ := run hx' B hb hn [.c (.int .i64 ((s + 1 : Nat) : Int)), .c x, .c (.bool false), .c (.ptr p 0), .c (.ptr q 0), .c (.int .i64 0), .tup [], .tup [], .tup [], .c (.bool true), .c (.bool false), .c (.bool false), .c (.bool false), .tup [], .tup [], .tup [], .tup [], .tup []] rfl
      simp only [enter_eq, ev_seq, seqK_norm, seqK_exit, seqK_ret, ev_reg, ev_cond, condK_true, condK_false, ev_block, blockK_norm, blockK_ret, blockK_exit, ev_loop, ev_skip, ev_exit, ev_ret, regK_cons, regK_nil, guard_none, guard_some, regG_true, regG_false, regO_some, op_mov, op_conv, op_bin, op_bsl, op_box, op_mks, op_s2b, op_pick, op_un, op_eq, op_len, op_ext, op_load, op_iaddr, op_slice, op_b2s, op_idxS, op_mx, op_mn, op_call, op_store, op_app, op_copy, args_eq, result_one', rv_loc, finish_norm, finish_ret, outK_some, keep_true, keep_false, keep_nil, p_bin, p_pick, p_un, p_eq, p_conv, evNew, pureK_some, newK_some, X.eval, set_none, set_some, List.map_cons, List.map_nil, List.getD_cons_zero, List.getD_cons_succ, List.getD_nil, List.set_cons_zero, List.set_cons_succ, binCV, unCV, isShift, intArithF_eq, shiftF_eq, wrapF_eq, intArith, shift, eqVal, bound, asNat_cast, cond_true, cond_false, BEq.rfl, beq_self_eq_true, evalParts, fillParts, AV.cells, AV.ofCells, XV.av, AV.xv, List.length_cons, List.length_nil, zeros, patch, setMany, List.nil_append, List.cons_append, Nat.ble, Nat.add_eq, Nat.zero_add, Nat.add_zero, Nat.reduceAdd, Nat.reduceMul, Nat.reduceSub, Nat.ble_eq, Nat.reduceLeDiff, Nat.reduceBEq, Int.reduceBEq, Int.reduceNeg, Bool.and_true, Bool.and_false, Bool.true_and, Bool.false_and, Bool.not_true, Bool.not_false, Bool.true_eq_false, Bool.false_eq_true, Int.reduceLT, Int.reduceLE, Int.reduceGT, Int.reduceGE, decide_true, decide_false, Bool.not_eq_true, loopN_norm, loopN_exit, tf, ft, ff, decide_eq_true c1, c2, es, es', e1, e2, lx, v0, hr, blockK_exit_eq, evCallT_told]
      rfl
    · obtain ⟨s, es⟩ : ∃ s : Nat, size = (s : Int) := ⟨size.toNat, by omega⟩
      subst es
      have c2 : decide ((s : Int) ≤ 1024) = true := decide_eq_true (by omega)
      obtain ⟨p, b, q, e, H, H', e1, e2, B, hx', hb⟩ := made hx (s := s) (by omega) (by omega)
      obtain ⟨r, hr, a0, a1, a2, l, h', rfl⟩ := run hx' B hb hn [.c (.int .i64 (s : Int)), .c x, .c (.bool false), .c (.ptr p 0), .c (.ptr q 0), .c (.int .i64 0), .tup [], .tup [], .tup [], .c (.bool false), .c (.bool false), .c (.bool false), .c (.bool false), .tup [], .tup [], .tup [], .tup [], .tup []] rfl
      simp only [enter_eq, ev_seq, seqK_norm, seqK_exit, seqK_ret, ev_reg, ev_cond, condK_true, condK_false, ev_block, blockK_norm, blockK_ret, blockK_exit, ev_loop, ev_skip, ev_exit, ev_ret, regK_cons, regK_nil, guard_none, guard_some, regG_true, regG_false, regO_some, op_mov, op_conv, op_bin, op_bsl, op_box, op_mks, op_s2b, op_pick, op_un, op_eq, op_len, op_ext, op_load, op_iaddr, op_slice, op_b2s, op_idxS, op_mx, op_mn, op_call, op_store, op_app, op_copy, args_eq, result_one', rv_loc, finish_norm, finish_ret, outK_some, keep_true, keep_false, keep_nil, p_bin, p_pick, p_un, p_eq, p_conv, evNew, pureK_some, newK_some, X.eval, set_none, set_some, List.map_cons, List.map_nil, List.getD_cons_zero, List.getD_cons_succ, List.getD_nil, List.set_cons_zero, List.set_cons_succ, binCV, unCV, isShift, intArithF_eq, shiftF_eq, wrapF_eq, intArith, shift, eqVal, bound, asNat_cast, cond_true, cond_false, BEq.rfl, beq_self_eq_true, evalParts, fillParts, AV.cells, AV.ofCells, XV.av, AV.xv, List.length_cons, List.length_nil, zeros, patch, setMany, List.nil_append, List.cons_append, Nat.ble, Nat.add_eq, Nat.zero_add, Nat.add_zero, Nat.reduceAdd, Nat.reduceMul, Nat.reduceSub, Nat.ble_eq, Nat.reduceLeDiff, Nat.reduceBEq, Int.reduceBEq, Int.reduceNeg, Bool.and_true, Bool.and_false, Bool.true_and, Bool.false_and, Bool.not_true, Bool.not_false, Bool.true_eq_false, Bool.false_eq_true, Int.reduceLT, Int.reduceLE, Int.reduceGT, Int.reduceGE, decide_true, decide_false, Bool.not_eq_true, loopN_norm, loopN_exit, tf, ft, ff, decide_eq_false c1, c2, e1, e2, lx, v0, hr, blockK_exit_eq, evCallT_told]
      rfl
  · have v0 : decide ((n : Int) > 150) = true := by simp; omega
    by_cases c1 : size > 40
    · have c2 : decide (size ≤ 1024) = true := decide_eq_true (by omega)
      obtain ⟨s, hs, es⟩ : ∃ s : Nat, s < 40 ∧ Int.tmod size 40 = (s : Int) := ⟨(Int.tmod size 40).toNat, by have := Int.tmod_lt_of_pos size (show (0 : Int) < 40 by decide); omega, by have := Int.tmod_nonneg 40 (show 0 ≤ size by omega); omega⟩
      have es' : IntKind.i64.wrap (1 + (s : Int)) = ((s + 1 : Nat) : Int) := by rw [wrapI (by omega) (by omega)]; omega
      obtain ⟨p, b, q, e, H, H', e1, e2, B, hx', hb⟩ := made hx (s := s + 1) (by omega) (by omega)
      simp only [enter_eq, ev_seq, seqK_norm, seqK_exit, seqK_ret, ev_reg, ev_cond, condK_true, condK_false, ev_block, blockK_norm, blockK_ret, blockK_exit, ev_loop, ev_skip, ev_exit, ev_ret, regK_cons, regK_nil, guard_none, guard_some, regG_true, regG_false, regO_some, op_mov, op_conv, op_bin, op_bsl, op_box, op_mks, op_s2b, op_pick, op_un, op_eq, op_len, op_ext, op_load, op_iaddr, op_slice, op_b2s, op_idxS, op_mx, op_mn, op_call, op_store, op_app, op_copy, args_eq, result_one', rv_loc, finish_norm, finish_ret, outK_some, keep_true, keep_false, keep_nil, p_bin, p_pick, p_un, p_eq, p_conv, evNew, pureK_some, newK_some, X.eval, set_none, set_some, List.map_cons, List.map_nil, List.getD_cons_zero, List.getD_cons_succ, List.getD_nil, List.set_cons_zero, List.set_cons_succ, binCV, unCV, isShift, intArithF_eq, shiftF_eq, wrapF_eq, intArith, shift, eqVal, bound, asNat_cast, cond_true, cond_false, BEq.rfl, beq_self_eq_true, evalParts, fillParts, AV.cells, AV.ofCells, XV.av, AV.xv, List.length_cons, List.length_nil, zeros, patch, setMany, List.nil_append, List.cons_append, Nat.ble, Nat.add_eq, Nat.zero_add, Nat.add_zero, Nat.reduceAdd, Nat.reduceMul, Nat.reduceSub, Nat.ble_eq, Nat.reduceLeDiff, Nat.reduceBEq, Int.reduceBEq, Int.reduceNeg, Bool.and_true, Bool.and_false, Bool.true_and, Bool.false_and, Bool.not_true, Bool.not_false, Bool.true_eq_false, Bool.false_eq_true, Int.reduceLT, Int.reduceLE, Int.reduceGT, Int.reduceGE, decide_true, decide_false, Bool.not_eq_true, loopN_norm, loopN_exit, tf, ft, ff, decide_eq_true c1, c2, es, es', e1, e2, lx, v0, evCallT_told]
      rfl
    · obtain ⟨s, es⟩ : ∃ s : Nat, size = (s : Int) := ⟨size.toNat, by omega⟩
      subst es
      have c2 : decide ((s : Int) ≤ 1024) = true := decide_eq_true (by omega)
      obtain ⟨p, b, q, e, H, H', e1, e2, B, hx', hb⟩ := made hx (s := s) (by omega) (by omega)
      simp only [enter_eq, ev_seq, seqK_norm, seqK_exit, seqK_ret, ev_reg, ev_cond, condK_true, condK_false, ev_block, blockK_norm, blockK_ret, blockK_exit, ev_loop, ev_skip, ev_exit, ev_ret, regK_cons, regK_nil, guard_none, guard_some, regG_true, regG_false, regO_some, op_mov, op_conv, op_bin, op_bsl, op_box, op_mks, op_s2b, op_pick, op_un, op_eq, op_len, op_ext, op_load, op_iaddr, op_slice, op_b2s, op_idxS, op_mx, op_mn, op_call, op_store, op_app, op_copy, args_eq, result_one', rv_loc, finish_norm, finish_ret, outK_some, keep_true, keep_false, keep_nil, p_bin, p_pick, p_un, p_eq, p_conv, evNew, pureK_some, newK_some, X.eval, set_none, set_some, List.map_cons, List.map_nil, List.getD_cons_zero, List.getD_cons_succ, List.getD_nil, List.set_cons_zero, List.set_cons_succ, binCV, unCV, isShift, intArithF_eq, shiftF_eq, wrapF_eq, intArith, shift, eqVal, bound, asNat_cast, cond_true, cond_false, BEq.rfl, beq_self_eq_true, evalParts, fillParts, AV.cells, AV.ofCells, XV.av, AV.xv, List.length_cons, List.length_nil, zeros, patch, setMany, List.nil_append, List.cons_append, Nat.ble, Nat.add_eq, Nat.zero_add, Nat.add_zero, Nat.reduceAdd, Nat.reduceMul, Nat.reduceSub, Nat.ble_eq, Nat.reduceLeDiff, Nat.reduceBEq, Int.reduceBEq, Int.reduceNeg, Bool.and_true, Bool.and_false, Bool.true_and, Bool.false_and, Bool.not_true, Bool.not_false, Bool.true_eq_false, Bool.false_eq_true, Int.reduceLT, Int.reduceLE, Int.reduceGT, Int.reduceGE, decide_true, decide_false, Bool.not_eq_true, loopN_norm, loopN_exit, tf, ft, ff, decide_eq_false c1, c2, e1, e2, lx, v0, evCallT_told]
      rfl

end Lav

namespace Go.Proofs.Ytgjceiiddcbfoaa.tablePlays
open Go.ChangeShapes Go.WideShapes Go.ChangeAt Go.RowKit
open Go.ChangeMaps (open_string shut_string)
set_option linter.unusedVariables false

theorem own : ownKnob Try.prog.godebug = none := by kernel_rfl
theorem laidOut : laidOutB Try.prog = true := by kernel_rfl

/-- What the walk is told of a slice of records of ints that came in: it is nil; or it leads to a row of 'cap' records, 'sz' cells each. -/
def IsRecs (sz : Nat) (w : World) (a : Option Addr) (len cap : Nat) (zs : List Int) : Prop :=
  (a = none ∧ len = 0 ∧ cap = 0 ∧ zs = []) ∨
  ∃ x, a = some x ∧ len ≤ cap ∧ cap ≤ maxLen ∧ zs.length = cap * sz ∧ (∀ i, i < zs.length → w.cell? (x.add i) = some (.int .i64 (zs.getD i 0))) ∧ ∀ n ∈ zs, (Lit.int .i64 n).wf = true

theorem walk (a0 : Int) (a1 : Option Addr) (len1 cap1 : Nat) (z1 : List Int) (w : World) (w0 : (Lit.int .i64 a0).wf = true) (w1 : IsRecs 3 w a1 len1 cap1 z1) :
    Calls Try.prog 10 #[.int .i64 a0, .slice a1 len1 cap1] w fun e w' => e = .returned (.bool true) ∧ Below w.heap.size w w' := by
  obtain ⟨ι, h, x, I, hle, hx, hr⟩ := (Lav.Init.empty w).recs (sz := 3) (by omega) w1
  exact Lav.walk_of (Lav.evCallT_sound Lav.mixed Lav.table_ok Lav.tld5 200 9) I (args := [.c (.int .i64 a0), .c x]) (vs := [.int .i64 a0, .slice a1 len1 cap1]) ⟨rfl, hx, trivial⟩ (Lav.tablePlays a0 (Lav.recs_of hr))

set_option maxRecDepth 100000 in
theorem lifted (os : Os) (started : os.Started) (H : Type) (enc : TypeId × Value → H) :
    ReturnsInHanded {} Try.checked os 10 .any (Rows.tablePlaysSpec.pre6 enc Try.prog Try.f10 Rows.tablePlaysRow.domain false) (Rows.tablePlaysSpec.post enc Try.prog Try.f10 false true false false) := by
  refine returnsInHanded_of_change (C := Try.checked) own started (by kernel_rfl) Try.func10
    (ChangeSpec.witness6 (enc := enc) (C := Try.checked) false ⟨#[], #[.int .i64 0, .slice none 0 0], []⟩ 8 (by kernel_rfl) (by kernel_rfl) (by kernel_rfl) (by kernel_rfl)) ?_
  intro W base args ds gs before hval0 hW hcnd _
  have hval : ∀ (j : Nat) t v, Try.f10.params[j]? = some t → args[j]? = some v → Value.okWide Try.prog W .any base t v := hval0
  have hW' := hW
  obtain ⟨p, q, hA0, hV, rfl, hfz, hnd⟩ := hW
  have hA : DataW.TrodAll enc Try.prog W 0 (fun _ => true) true Try.f10.params.toList args.toList ds p := hA0
  rw [Try.params10] at hA hval
  obtain ⟨v0, vs0, d0, ds0, p0, q0, hargs, rfl, rfl, h0, r0⟩ := trodAll_cons hA
  obtain ⟨v1, vs1, d1, ds1, p1, q1, rfl, rfl, rfl, h1, r1⟩ := trodAll_cons r0
  obtain ⟨rfl, rfl, rfl⟩ := trodAll_nil r1
  obtain rfl : args = #[v0, v1] := by cases args; simp_all
  obtain ⟨rfl, rfl⟩ := trodVars_none hV
  obtain ⟨a0, rfl, rfl, rfl, w0⟩ := open_int Try.underlying3 (hval 0 3 v0 rfl rfl) h0
  obtain ⟨a1, len1, cap1, rfl⟩ := okWide_slice Try.underlying44 (hval 1 44 v1 rfl rfl)
  have k1 := h1
  have lt1 : ∀ x ∈ p1, x.block < W.heap.size := by obtain ⟨m, hm⟩ := k1; exact DataW.trod_lt m _ _ _ hm
  obtain ⟨z1, w1⟩ : ∃ zs, IsRecs 3 W a1 len1 cap1 zs := by
    obtain ⟨fuel, hf⟩ := h1
    rcases Lav.open_recs (sz := 3) Try.underlying44 Try.underlying50 (by kernel_rfl) (by
        intro j hj
        match j, hj with
        | 0, _ => exact ⟨0, _, rfl, rfl, Try.underlying3, by kernel_rfl⟩
        | 1, _ => exact ⟨1, _, rfl, rfl, Try.underlying3, by kernel_rfl⟩
        | 2, _ => exact ⟨2, _, rfl, rfl, Try.underlying3, by kernel_rfl⟩
        | j + 3, hj => omega) hf with hcs | ⟨x, l, c, zs, hcs, hl, hm, hz, hcell, hwz⟩
    · simp [Value.cells] at hcs
      obtain ⟨rfl, rfl, rfl⟩ := hcs
      exact ⟨[], .inl ⟨rfl, rfl, rfl, rfl⟩⟩
    · simp [Value.cells] at hcs
      obtain ⟨rfl, rfl, rfl⟩ := hcs
      exact ⟨zs, .inr ⟨_, rfl, hl, hm, by simpa using hz, hcell, hwz⟩⟩
  clear hA0 hval0
  refine (walk a0 a1 len1 cap1 z1 W w0 w1).mono fun e W' ⟨he, bel⟩ => ?_
  subst he
  exact ⟨_, rfl, _, _, _, [], _, [], hW', trodAll_mk1 (shut_bool Try.underlying4 _), (trodAll_cons_mk (shut_int Try.underlying3 w0) (trodAll_cons_mk (Below.trod laidOut (by kernel_rfl) (of_decide_eq_true (by kernel_rfl)) k1 bel lt1) trodAll_mk0)), rfl, bel.frame _, fun h => by cases h⟩

theorem over : Rows.tablePlaysRow.holds Try.pinned (OpenSpec.ofChange Rows.tablePlaysSpec) :=
  OpenClaim.holds_of_wide 10 Try.f10 rfl rfl rfl rfl rfl rfl rfl ⟨rfl, rfl, rfl, rfl, rfl⟩ rfl rfl rfl rfl rfl (by kernel_rfl) Try.func10 (by kernel_rfl)
    (of_decide_eq_true (by kernel_rfl)) (by unfold Func.isWrapper; first | (rw [if_pos (by decide +kernel)]; kernel_rfl) | (rw [if_neg (by decide +kernel)]; exact ⟨rfl, rfl⟩))
    (fun os started H enc _ => lifted os started H enc)

theorem proved : Rows.TablePlaysSaid := over
end Go.Proofs.Ytgjceiiddcbfoaa.tablePlays
