/-
  Proved: whatever numbers come in, lavabolaw11.CoreHits returns true and changes nothing that was there. No conditions beyond the given statement's.
-/
import Derived.Test.YtdcjiljegffalaaRows
import Derived.Test.YtdcjiljegffalaaCore6
import Derived.WalkKit
import Derived.ProofKit
import Derived.OpenShut
import Derived.Below
import Derived.ShutString
set_option maxRecDepth 100000
set_option linter.unusedSimpArgs false
namespace Lav
open Go (IntKind)
abbrev fsH (p n : Int) (y : CV) : List Fm := [⟨1, p, n, false, y⟩, frZ]
theorem fsH_find (p n : Int) (y : CV) : findF (fsH p n y) p = ((0 : Nat) : Int) := by
  have : List.findIdx? (fun f : Fm => f.st == 1 && f.pg == p) (fsH p n y) = some 0 := by rw [List.findIdx?_cons]; simp
  unfold findF
  rw [this]
theorem order_one {fs : List Fm} {od : List Int} (nd : od.Nodup) (h0 : (0 : Int) ∈ od.filter (usedB fs)) (h1 : ∀ x ∈ od.filter (usedB fs), x = 0) : (od.filter (usedB fs)).length = 1 := by
  have n2 : (od.filter (usedB fs)).Nodup := nd.filter _
  generalize od.filter (usedB fs) = l at *
  match l, h0, h1, n2 with
  | [a], _, _, _ => rfl
  | a :: b :: l, _, h1, n2 =>
    have ha := h1 a (by simp)
    have hb := h1 b (by simp)
    subst ha
    simp [hb] at n2

theorem coreHits (n page : Int) : good (evCallT table 15 200 9 6 [.c (.int .i64 n), .c (.int .i64 page)] Heap.empty) = true := by
  obtain ⟨m, hm, e1⟩ : ∃ k : Nat, k < 51 ∧ IntKind.i64.wrap (Int.tmod (IntKind.u64.wrap n) 51) = k := few (by omega) (by omega)
  obtain ⟨p, hp, e2⟩ : ∃ k : Nat, k < 48 ∧ IntKind.i64.wrap (Int.tmod (IntKind.u64.wrap page) 48) = k := few (by omega) (by omega)
  obtain ⟨k, z, H0, e3, C0, x0, _⟩ := core_new (N := 200) (d := 3) (h := Heap.empty) 2 (by omega) (by omega)
  have e3' : evCallT table 15 200 8 7 [.c (.int .i64 2)] Heap.empty = some (.c (.ptr k 0), H0) := e3
  have a0 := arena_ok (N := 200) (d := 7) C0
  have hf0 : findF (List.replicate 2 frZ) (p : Int) < 0 := by
    rw [findF_no fun i f hf hs => by
      have : f = frZ := List.eq_of_mem_replicate (List.mem_of_getElem? hf)
      subst this
      cases hs]
    decide
  obtain ⟨y, M1, H1, e4, C1, x1, _⟩ := room_free (N := 200) (d := 1) (i := 0) (o' := [1]) C0 hp hf0 (by omega)
  have e4' : evCallT table 15 200 8 11 [.c (.ptr k 0), .c (.int .i64 (p : Int))] H0 = some (.tup [.c (.int .i64 0), .c (.int .i64 0), .c (.int .i64 (-1))], H1) := e4
  have C1' : CH H1 k z (fsH p (1 + ((0 : Nat) : Int)) y) [1] M1 [0] [] := C1
  have L1 : ∀ loc, keepOnly ir6_k1 loc = [.junk, .junk, .junk, .c (.ptr k 0), .c (.int .i64 (m : Int)), .c (.int .i64 (p : Int)), .junk, .c (.int .i64 0), .junk, .c (.int .i64 0), .junk, .junk, .junk, .junk, .junk, .junk, .junk, .junk, .junk] →
      ∃ r, loopK (evCallT table 15 200 8) 200 ir6_k1 ir6_l1 200 loc H1 = some r ∧ ∃ a0 a1 a2 a6 a8 a9 a10 a11 a12 a13 a14 a15 a16 a17 a18 G, r = (.exit 0, [a0, a1, a2, .c (.ptr k 0), .c (.int .i64 (m : Int)), .c (.int .i64 (p : Int)), a6, .c (.int .i64 0), a8, a9, a10, a11, a12, a13, a14, a15, a16, a17, a18], G) ∧ ∃ M od ts, CH G k z (fsH p (1 + (m : Int)) y) [1] M od ts := by
    intro loc hloc
    refine loop_inv (n := m) (fun i loc G => i ≤ m ∧ (∃ M od ts, CH G k z (fsH p (1 + (i : Int)) y) [1] M od ts) ∧ loc = [.junk, .junk, .junk, .c (.ptr k 0), .c (.int .i64 (m : Int)), .c (.int .i64 (p : Int)), .junk, .c (.int .i64 0), .junk, .c (.int .i64 (i : Int)), .junk, .junk, .junk, .junk, .junk, .junk, .junk, .junk, .junk]) _ ?_ ⟨Nat.zero_le _, ⟨_, _, _, C1'⟩, hloc⟩ (by omega)
    rintro i loc G hi ⟨him, ⟨M, od, ts, C⟩, rfl⟩
    unfold ir6_l1
    by_cases hlt : i < m
    · left
      refine ⟨hlt, ?_⟩
      have v1 : decide ((i : Int) < (m : Int)) = true := ltNat hlt
      have v2 := succI (i := i) (by omega)
      obtain ⟨G', e, C', x'⟩ := hit_yes (N := 200) (d := 2) (i := 0) C (fsH_find _ _ _) (by simp) rfl (by show 1 + (i : Int) < 1000; omega) (by omega)
      have e' : evCallT table 15 200 8 10 [.c (.ptr k 0), .c (.int .i64 (p : Int))] G = some (.c (.int .i64 0), G') := e
      have hn : (1 + (i : Int)) + 1 = 1 + ((i + 1 : Nat) : Int) := by omega
      simp only [enter_eq, ev_seq, seqK_norm, seqK_exit, seqK_ret, ev_reg, ev_cond, condK_true, condK_false, ev_block, blockK_norm, blockK_ret, blockK_exit, ev_loop, ev_skip, ev_exit, ev_ret, regK_cons, regK_nil, guard_none, guard_some, regG_true, regG_false, regO_some, op_mov, op_conv, op_bin, op_bsl, op_box, op_mks, op_s2b, op_pick, op_un, op_eq, op_len, op_ext, op_load, op_iaddr, op_slice, op_b2s, op_idxS, op_mx, op_mn, op_call, op_store, op_app, op_copy, args_eq, result_one', rv_loc, finish_norm, finish_ret, outK_some, keep_true, keep_false, keep_nil, p_bin, p_pick, p_un, p_eq, p_conv, evNew, pureK_some, newK_some, X.eval, set_none, set_some, List.map_cons, List.map_nil, List.getD_cons_zero, List.getD_cons_succ, List.getD_nil, List.set_cons_zero, List.set_cons_succ, binCV, unCV, isShift, intArithF_eq, shiftF_eq, wrapF_eq, intArith, shift, eqVal, bound, asNat_cast, cond_true, cond_false, BEq.rfl, beq_self_eq_true, evalParts, fillParts, AV.cells, AV.ofCells, XV.av, AV.xv, List.length_cons, List.length_nil, zeros, patch, setMany, List.nil_append, List.cons_append, Nat.ble, Nat.add_eq, Nat.zero_add, Nat.add_zero, Nat.reduceAdd, Nat.reduceMul, Nat.reduceSub, Nat.ble_eq, Nat.reduceLeDiff, Nat.reduceBEq, Int.reduceBEq, Int.reduceNeg, Bool.and_true, Bool.and_false, Bool.true_and, Bool.false_and, Bool.not_true, Bool.not_false, Bool.true_eq_false, Bool.false_eq_true, Int.reduceLT, Int.reduceLE, Int.reduceGT, Int.reduceGE, decide_true, decide_false, Bool.not_eq_true, loopN_norm, loopN_exit, tf, ft, ff, v1, v2, e', bneI]
      have C2 : CH G' k z (fsH p ((1 + (i : Int)) + 1) y) [1] M _ _ := C'
      rw [hn] at C2
      exact ⟨_, _, rfl, by omega, ⟨_, _, _, C2⟩, rfl⟩
    · right
      have him' : i = m := by omega
      subst him'
      have v1 : decide ((i : Int) < (i : Int)) = false := geNat (Nat.le_refl _)
      simp only [enter_eq, ev_seq, seqK_norm, seqK_exit, seqK_ret, ev_reg, ev_cond, condK_true, condK_false, ev_block, blockK_norm, blockK_ret, blockK_exit, ev_loop, ev_skip, ev_exit, ev_ret, regK_cons, regK_nil, guard_none, guard_some, regG_true, regG_false, regO_some, op_mov, op_conv, op_bin, op_bsl, op_box, op_mks, op_s2b, op_pick, op_un, op_eq, op_len, op_ext, op_load, op_iaddr, op_slice, op_b2s, op_idxS, op_mx, op_mn, op_call, op_store, op_app, op_copy, args_eq, result_one', rv_loc, finish_norm, finish_ret, outK_some, keep_true, keep_false, keep_nil, p_bin, p_pick, p_un, p_eq, p_conv, evNew, pureK_some, newK_some, X.eval, set_none, set_some, List.map_cons, List.map_nil, List.getD_cons_zero, List.getD_cons_succ, List.getD_nil, List.set_cons_zero, List.set_cons_succ, binCV, unCV, isShift, intArithF_eq, shiftF_eq, wrapF_eq, intArith, shift, eqVal, bound, asNat_cast, cond_true, cond_false, BEq.rfl, beq_self_eq_true, evalParts, fillParts, AV.cells, AV.ofCells, XV.av, AV.xv, List.length_cons, List.length_nil, zeros, patch, setMany, List.nil_append, List.cons_append, Nat.ble, Nat.add_eq, Nat.zero_add, Nat.add_zero, Nat.reduceAdd, Nat.reduceMul, Nat.reduceSub, Nat.ble_eq, Nat.reduceLeDiff, Nat.reduceBEq, Int.reduceBEq, Int.reduceNeg, Bool.and_true, Bool.and_false, Bool.true_and, Bool.false_and, Bool.not_true, Bool.not_false, Bool.true_eq_false, Bool.false_eq_true, Int.reduceLT, Int.reduceLE, Int.reduceGT, Int.reduceGE, decide_true, decide_false, Bool.not_eq_true, loopN_norm, loopN_exit, tf, ft, ff, v1]
      exact ⟨_, rfl, by simp, _, _, _, _, _, _, _, _, _, _, _, _, _, _, _, G, rfl, M, od, ts, C⟩
  obtain ⟨r1, ⟨b0, b1, b2, b6, b8, b9, b10, b11, b12, b13, b14, b15, b16, b17, b18, G1, rfl, M2, od2, ts2, C2⟩, hr1⟩ := loop_any L1 rfl
  have a2 := arena_ok (N := 200) (d := 7) C2
  obtain ⟨w, H2, e5, T, C3, x3⟩ := C2.frames (N := 200) (d := 7) (by omega)
  obtain ⟨fb, rfl, hfb, TT⟩ := T.at_ (i := 0) (by simp)
  have s2 : H2.read fb 2 1 = some [.int .i64 (1 + (m : Int))] := by have := TT.n; simpa using this
  have lw : ∀ (loc vals : List AV) (h : Heap), evPure loc (.c (.sl fb 0 2 (.dy 5)) :: vals) h (.len .sl (.val 0)) = some (.c (.int .i64 2)) := fun _ _ _ => rfl
  have w1 : IntKind.i64.wrap (1 + (m : Int)) = 1 + (m : Int) := wrapI (by omega) (by omega)
  have m02 : Nat.blt 0 2 = true := rfl
  have an0 : asNat (.c (.int .i64 0)) = some 0 := rfl
  have L2 : ∀ loc, keepOnly ir6_k0 loc = [.junk, .junk, .junk, .c (.ptr k 0), .c (.int .i64 (m : Int)), .junk, .junk, .c (.int .i64 0), .junk, .junk, .junk, .c (.int .i64 0), .junk, .junk, .junk, .junk, .junk, .junk, .junk] →
      ∃ r, loopK (evCallT table 15 200 8) 200 ir6_k0 ir6_l0 200 loc H2 = some r ∧ ∃ a0 a1 a2 a4 a5 a6 l G, r = (.exit 2, a0 :: a1 :: a2 :: .c (.ptr k 0) :: a4 :: a5 :: a6 :: .c (.int .i64 0) :: l, G) ∧ ∃ M od ts, CH G k z (fsH p 0 y) [1] M od ts := by
    intro loc hloc
    refine loop_inv (n := m + 1) (fun i loc G => i ≤ m + 1 ∧ (∃ M od ts, CH G k z (fsH p (1 + (m : Int) - (i : Int)) y) [1] M od ts) ∧ loc = [.junk, .junk, .junk, .c (.ptr k 0), .c (.int .i64 (m : Int)), .junk, .junk, .c (.int .i64 0), .junk, .junk, .junk, .c (.int .i64 (i : Int)), .junk, .junk, .junk, .junk, .junk, .junk, .junk]) _ ?_ ⟨Nat.zero_le _, ⟨_, _, _, by rw [show 1 + (m : Int) - ((0 : Nat) : Int) = 1 + (m : Int) by omega]; exact C3⟩, hloc⟩ (by omega)
    rintro i loc G hi ⟨him, ⟨M, od, ts, C⟩, rfl⟩
    unfold ir6_l0
    by_cases hlt : i < m + 1
    · left
      refine ⟨hlt, ?_⟩
      have v1 : decide ((i : Int) ≤ (m : Int)) = true := decide_eq_true (by omega)
      have v2 := succI (i := i) (by omega)
      obtain ⟨G', e, C', x'⟩ := let_ok (N := 200) (d := 5) C ((0 : Nat) : Int)
      have eu : unpinF (fsH p (1 + (m : Int) - (i : Int)) y) ((0 : Nat) : Int) = (0, fsH p (1 + (m : Int) - ((i + 1 : Nat) : Int)) y) := by
        unfold unpinF
        rw [usedF_eq (i := 0) (by simp) rfl]
        have hne : ¬ (1 + (m : Int) - (i : Int)) = 0 := by omega
        have hs : 1 + (m : Int) - (i : Int) - 1 = 1 + (m : Int) - ((i + 1 : Nat) : Int) := by omega
        show (if 1 + (m : Int) - (i : Int) = 0 then _ else ((0 : Int), fsH p (1 + (m : Int) - (i : Int) - 1) y)) = _
        rw [if_neg hne, hs]
      rw [eu] at e C'
      have e' : evCallT table 15 200 8 13 [.c (.ptr k 0), .c (.int .i64 0)] G = some (.c (.int .i64 0), G') := e
      simp only [enter_eq, ev_seq, seqK_norm, seqK_exit, seqK_ret, ev_reg, ev_cond, condK_true, condK_false, ev_block, blockK_norm, blockK_ret, blockK_exit, ev_loop, ev_skip, ev_exit, ev_ret, regK_cons, regK_nil, guard_none, guard_some, regG_true, regG_false, regO_some, op_mov, op_conv, op_bin, op_bsl, op_box, op_mks, op_s2b, op_pick, op_un, op_eq, op_len, op_ext, op_load, op_iaddr, op_slice, op_b2s, op_idxS, op_mx, op_mn, op_call, op_store, op_app, op_copy, args_eq, result_one', rv_loc, finish_norm, finish_ret, outK_some, keep_true, keep_false, keep_nil, p_bin, p_pick, p_un, p_eq, p_conv, evNew, pureK_some, newK_some, X.eval, set_none, set_some, List.map_cons, List.map_nil, List.getD_cons_zero, List.getD_cons_succ, List.getD_nil, List.set_cons_zero, List.set_cons_succ, binCV, unCV, isShift, intArithF_eq, shiftF_eq, wrapF_eq, intArith, shift, eqVal, bound, asNat_cast, cond_true, cond_false, BEq.rfl, beq_self_eq_true, evalParts, fillParts, AV.cells, AV.ofCells, XV.av, AV.xv, List.length_cons, List.length_nil, zeros, patch, setMany, List.nil_append, List.cons_append, Nat.ble, Nat.add_eq, Nat.zero_add, Nat.add_zero, Nat.reduceAdd, Nat.reduceMul, Nat.reduceSub, Nat.ble_eq, Nat.reduceLeDiff, Nat.reduceBEq, Int.reduceBEq, Int.reduceNeg, Bool.and_true, Bool.and_false, Bool.true_and, Bool.false_and, Bool.not_true, Bool.not_false, Bool.true_eq_false, Bool.false_eq_true, Int.reduceLT, Int.reduceLE, Int.reduceGT, Int.reduceGE, decide_true, decide_false, Bool.not_eq_true, loopN_norm, loopN_exit, tf, ft, ff, v1, v2, e', bneI]
      exact ⟨_, _, rfl, by omega, ⟨_, _, _, C'⟩, rfl⟩
    · right
      have him' : i = m + 1 := by omega
      subst him'
      have v1 : decide (((m + 1 : Nat) : Int) ≤ (m : Int)) = false := decide_eq_false (by omega)
      rw [show 1 + (m : Int) - ((m + 1 : Nat) : Int) = 0 by omega] at C
      simp only [enter_eq, ev_seq, seqK_norm, seqK_exit, seqK_ret, ev_reg, ev_cond, condK_true, condK_false, ev_block, blockK_norm, blockK_ret, blockK_exit, ev_loop, ev_skip, ev_exit, ev_ret, regK_cons, regK_nil, guard_none, guard_some, regG_true, regG_false, regO_some, op_mov, op_conv, op_bin, op_bsl, op_box, op_mks, op_s2b, op_pick, op_un, op_eq, op_len, op_ext, op_load, op_iaddr, op_slice, op_b2s, op_idxS, op_mx, op_mn, op_call, op_store, op_app, op_copy, args_eq, result_one', rv_loc, finish_norm, finish_ret, outK_some, keep_true, keep_false, keep_nil, p_bin, p_pick, p_un, p_eq, p_conv, evNew, pureK_some, newK_some, X.eval, set_none, set_some, List.map_cons, List.map_nil, List.getD_cons_zero, List.getD_cons_succ, List.getD_nil, List.set_cons_zero, List.set_cons_succ, binCV, unCV, isShift, intArithF_eq, shiftF_eq, wrapF_eq, intArith, shift, eqVal, bound, asNat_cast, cond_true, cond_false, BEq.rfl, beq_self_eq_true, evalParts, fillParts, AV.cells, AV.ofCells, XV.av, AV.xv, List.length_cons, List.length_nil, zeros, patch, setMany, List.nil_append, List.cons_append, Nat.ble, Nat.add_eq, Nat.zero_add, Nat.add_zero, Nat.reduceAdd, Nat.reduceMul, Nat.reduceSub, Nat.ble_eq, Nat.reduceLeDiff, Nat.reduceBEq, Int.reduceBEq, Int.reduceNeg, Bool.and_true, Bool.and_false, Bool.true_and, Bool.false_and, Bool.not_true, Bool.not_false, Bool.true_eq_false, Bool.false_eq_true, Int.reduceLT, Int.reduceLE, Int.reduceGT, Int.reduceGE, decide_true, decide_false, Bool.not_eq_true, loopN_norm, loopN_exit, tf, ft, ff, v1]
      exact ⟨_, rfl, by simp, _, _, _, _, _, _, _, G, rfl, M, od, ts, C⟩
  obtain ⟨r2, ⟨c0, c1, c2, c4, c5, c6, l, G2, rfl, M4, od4, ts4, C4⟩, hr2⟩ := loop_any L2 rfl
  obtain ⟨G3, e6, C5, x5⟩ := let_ok (N := 200) (d := 5) C4 ((0 : Nat) : Int)
  have eu : unpinF (fsH p 0 y) ((0 : Nat) : Int) = (12, fsH p 0 y) := rfl
  rw [eu] at e6 C5
  have e6' : evCallT table 15 200 8 13 [.c (.ptr k 0), .c (.int .i64 0)] G2 = some (.c (.int .i64 12), G3) := e6
  obtain ⟨v, G4, e7, C6, iv, x6⟩ := order_ok (N := 200) (d := 2) C5 (by omega)
  have lv : ∀ (loc vals : List AV) (h : Heap), evPure loc (.c v :: vals) h (.len .sl (.val 0)) = some (.c (.int .i64 1)) := by
    have := order_one (fs := fsH p 0 y) C5.ll.nd (C6.hi 0 ⟨1, p, 0, false, y⟩ rfl rfl) (fun x hx => by
      obtain ⟨i, rfl, hi⟩ := C6.lo x hx
      have hu := (List.mem_filter.1 hx).2
      rw [usedB_eq hi] at hu
      match i, hi, hu with
      | 0, _, _ => rfl
      | 1, _, hu => cases hu)
    intro loc vals h
    have h2 := iv.len (h := h) (loc := loc) (vals := .c v :: vals) (X := .val 0) rfl
    rw [this] at h2
    exact h2
  have a2' : evCallT table 15 200 8 8 [.c (.ptr k 0)] G1 = some (.c (.ptr z.p 0), G1) := a2
  have a0' : evCallT table 15 200 8 8 [.c (.ptr k 0)] H0 = some (.c (.ptr z.p 0), H0) := a0
  have e5' : evCallT table 15 200 8 9 [.c (.ptr z.p 0)] G1 = some (.c (.sl fb 0 2 (.dy 5)), H2) := e5
  rw [evCallT_eq (F := ir6) rfl rfl rfl]
  unfold ir6
  rw [bodyK_eq]
  simp only [enter_eq, ev_seq, seqK_norm, seqK_exit, seqK_ret, ev_reg, ev_cond, condK_true, condK_false, ev_block, blockK_norm, blockK_ret, blockK_exit, ev_loop, ev_skip, ev_exit, ev_ret, regK_cons, regK_nil, guard_none, guard_some, regG_true, regG_false, regO_some, op_mov, op_conv, op_bin, op_bsl, op_box, op_mks, op_s2b, op_pick, op_un, op_eq, op_len, op_ext, op_load, op_iaddr, op_slice, op_b2s, op_idxS, op_mx, op_mn, op_call, op_store, op_app, op_copy, args_eq, result_one', rv_loc, finish_norm, finish_ret, outK_some, keep_true, keep_false, keep_nil, p_bin, p_pick, p_un, p_eq, p_conv, evNew, pureK_some, newK_some, X.eval, set_none, set_some, List.map_cons, List.map_nil, List.getD_cons_zero, List.getD_cons_succ, List.getD_nil, List.set_cons_zero, List.set_cons_succ, binCV, unCV, isShift, intArithF_eq, shiftF_eq, wrapF_eq, intArith, shift, eqVal, bound, asNat_cast, cond_true, cond_false, BEq.rfl, beq_self_eq_true, evalParts, fillParts, AV.cells, AV.ofCells, XV.av, AV.xv, List.length_cons, List.length_nil, zeros, patch, setMany, List.nil_append, List.cons_append, Nat.ble, Nat.add_eq, Nat.zero_add, Nat.add_zero, Nat.reduceAdd, Nat.reduceMul, Nat.reduceSub, Nat.ble_eq, Nat.reduceLeDiff, Nat.reduceBEq, Int.reduceBEq, Int.reduceNeg, Bool.and_true, Bool.and_false, Bool.true_and, Bool.false_and, Bool.not_true, Bool.not_false, Bool.true_eq_false, Bool.false_eq_true, Int.reduceLT, Int.reduceLE, Int.reduceGT, Int.reduceGE, decide_true, decide_false, Bool.not_eq_true, loopN_norm, loopN_exit, tf, ft, ff, e1, e2, e3', a0', e4', p_ext, List.getElem?_cons_zero, List.getElem?_cons_succ, bneI]
  rw [hr1 _ rfl]
  simp only [enter_eq, ev_seq, seqK_norm, seqK_exit, seqK_ret, ev_reg, ev_cond, condK_true, condK_false, ev_block, blockK_norm, blockK_ret, blockK_exit, ev_loop, ev_skip, ev_exit, ev_ret, regK_cons, regK_nil, guard_none, guard_some, regG_true, regG_false, regO_some, op_mov, op_conv, op_bin, op_bsl, op_box, op_mks, op_s2b, op_pick, op_un, op_eq, op_len, op_ext, op_load, op_iaddr, op_slice, op_b2s, op_idxS, op_mx, op_mn, op_call, op_store, op_app, op_copy, args_eq, result_one', rv_loc, finish_norm, finish_ret, outK_some, keep_true, keep_false, keep_nil, p_bin, p_pick, p_un, p_eq, p_conv, evNew, pureK_some, newK_some, X.eval, set_none, set_some, List.map_cons, List.map_nil, List.getD_cons_zero, List.getD_cons_succ, List.getD_nil, List.set_cons_zero, List.set_cons_succ, binCV, unCV, isShift, intArithF_eq, shiftF_eq, wrapF_eq, intArith, shift, eqVal, bound, asNat_cast, cond_true, cond_false, BEq.rfl, beq_self_eq_true, evalParts, fillParts, AV.cells, AV.ofCells, XV.av, AV.xv, List.length_cons, List.length_nil, zeros, patch, setMany, List.nil_append, List.cons_append, Nat.ble, Nat.add_eq, Nat.zero_add, Nat.add_zero, Nat.reduceAdd, Nat.reduceMul, Nat.reduceSub, Nat.ble_eq, Nat.reduceLeDiff, Nat.reduceBEq, Int.reduceBEq, Int.reduceNeg, Bool.and_true, Bool.and_false, Bool.true_and, Bool.false_and, Bool.not_true, Bool.not_false, Bool.true_eq_false, Bool.false_eq_true, Int.reduceLT, Int.reduceLE, Int.reduceGT, Int.reduceGE, decide_true, decide_false, Bool.not_eq_true, loopN_norm, loopN_exit, tf, ft, ff, blockK_exit_eq, a2', e5', lw, op_faddr, p_faddr, p_load, AV.ofCells, p_iaddr, an0, m02, s2, w1, bneI, eqq]
  rw [hr2 _ rfl]
  simp only [enter_eq, ev_seq, seqK_norm, seqK_exit, seqK_ret, ev_reg, ev_cond, condK_true, condK_false, ev_block, blockK_norm, blockK_ret, blockK_exit, ev_loop, ev_skip, ev_exit, ev_ret, regK_cons, regK_nil, guard_none, guard_some, regG_true, regG_false, regO_some, op_mov, op_conv, op_bin, op_bsl, op_box, op_mks, op_s2b, op_pick, op_un, op_eq, op_len, op_ext, op_load, op_iaddr, op_slice, op_b2s, op_idxS, op_mx, op_mn, op_call, op_store, op_app, op_copy, args_eq, result_one', rv_loc, finish_norm, finish_ret, outK_some, keep_true, keep_false, keep_nil, p_bin, p_pick, p_un, p_eq, p_conv, evNew, pureK_some, newK_some, X.eval, set_none, set_some, List.map_cons, List.map_nil, List.getD_cons_zero, List.getD_cons_succ, List.getD_nil, List.set_cons_zero, List.set_cons_succ, binCV, unCV, isShift, intArithF_eq, shiftF_eq, wrapF_eq, intArith, shift, eqVal, bound, asNat_cast, cond_true, cond_false, BEq.rfl, beq_self_eq_true, evalParts, fillParts, AV.cells, AV.ofCells, XV.av, AV.xv, List.length_cons, List.length_nil, zeros, patch, setMany, List.nil_append, List.cons_append, Nat.ble, Nat.add_eq, Nat.zero_add, Nat.add_zero, Nat.reduceAdd, Nat.reduceMul, Nat.reduceSub, Nat.ble_eq, Nat.reduceLeDiff, Nat.reduceBEq, Int.reduceBEq, Int.reduceNeg, Bool.and_true, Bool.and_false, Bool.true_and, Bool.false_and, Bool.not_true, Bool.not_false, Bool.true_eq_false, Bool.false_eq_true, Int.reduceLT, Int.reduceLE, Int.reduceGT, Int.reduceGE, decide_true, decide_false, Bool.not_eq_true, loopN_norm, loopN_exit, tf, ft, ff, blockK_exit_eq, evCallT_told, e6', e7, lv]
  rfl
end Lav

namespace Go.Proofs.Ytdcjiljegffalaa.coreHits
open Go.ChangeShapes Go.WideShapes Go.ChangeAt Go.RowKit
open Go.ChangeMaps (open_string shut_string)
set_option linter.unusedVariables false      -- a walk need not use every 'w<i>' (that an integer argument fits its kind)

theorem own : ownKnob Try.prog.godebug = none := by kernel_rfl

/-! ### STEP 1: THE WALK: the Go text returns true. 'Below w.heap.size w w'': the world has at most new blocks (Derived/RowKit3.lean). Part the cases AHEAD of 'go_enter' where a test parts the walk; take each callee by a contract of your own. -/
theorem walk (a0 : Int) (a1 : Int) (w0 : (Lit.int .i64 a0).wf = true) (w1 : (Lit.int .i64 a1).wf = true) (w : World) :
    Calls Try.prog 6 #[.int .i64 a0, .int .i64 a1] w fun e w' => e = .returned (.bool true) ∧ Below w.heap.size w w' := by
  exact Lav.walk_of (Lav.evCallT_sound Lav.mixed Lav.table_ok Lav.tld11 200 9) (Lav.Init.empty w) (args := [.c (.int .i64 a0), .c (.int .i64 a1)]) (vs := [.int .i64 a0, .int .i64 a1]) ⟨rfl, rfl, trivial⟩ (Lav.coreHits a0 a1)

/-! ### THE ROW's STEP: WRITTEN OUT: LEAVE IT -/
set_option maxRecDepth 100000 in
theorem lifted (os : Os) (started : os.Started) (H : Type) (enc : TypeId × Value → H) :
    ReturnsInHanded {} Try.checked os 6 .any (Rows.coreHitsSpec.pre6 enc Try.prog Try.f6 Rows.coreHitsRow.domain false) (Rows.coreHitsSpec.post enc Try.prog Try.f6 false true false false) := by
  refine returnsInHanded_of_change (C := Try.checked) own started (by kernel_rfl) Try.func6
    (ChangeSpec.witness6 (enc := enc) (C := Try.checked) false ⟨#[], #[.int .i64 0, .int .i64 0], []⟩ 8 (by kernel_rfl) (by kernel_rfl) (by kernel_rfl) (by kernel_rfl)) ?_
  intro W base args ds gs before hval0 hW hcnd _
  have hval : ∀ (j : Nat) t v, Try.f6.params[j]? = some t → args[j]? = some v → Value.okWide Try.prog W .any base t v := hval0
  have hW' := hW
  obtain ⟨p, q, hA0, hV, rfl, hfz, hnd⟩ := hW
  have hA : DataW.TrodAll enc Try.prog W 0 (fun _ => true) true Try.f6.params.toList args.toList ds p := hA0
  rw [Try.params6] at hA hval
  obtain ⟨v0, vs0, d0, ds0, p0, q0, hargs, rfl, rfl, h0, r0⟩ := trodAll_cons hA
  obtain ⟨v1, vs1, d1, ds1, p1, q1, rfl, rfl, rfl, h1, r1⟩ := trodAll_cons r0
  obtain ⟨rfl, rfl, rfl⟩ := trodAll_nil r1
  obtain rfl : args = #[v0, v1] := by cases args; simp_all
  obtain ⟨rfl, rfl⟩ := trodVars_none hV
  obtain ⟨a0, rfl, rfl, rfl, w0⟩ := open_int Try.underlying3 (hval 0 3 v0 rfl rfl) h0
  obtain ⟨a1, rfl, rfl, rfl, w1⟩ := open_int Try.underlying3 (hval 1 3 v1 rfl rfl) h1
  clear hA0 hval0
  refine (walk a0 a1 w0 w1 W).mono fun e W' ⟨he, hg⟩ => ?_
  subst he
  exact ⟨_, rfl, _, _, _, [], _, [], hW', trodAll_mk1 (shut_bool Try.underlying4 _), (trodAll_cons_mk (shut_int Try.underlying3 w0) (trodAll_cons_mk (shut_int Try.underlying3 w1) trodAll_mk0)), rfl, hg.frame _, fun h => by cases h⟩

theorem over : Rows.coreHitsRow.holds Try.pinned (OpenSpec.ofChange Rows.coreHitsSpec) :=
  OpenClaim.holds_of_wide 6 Try.f6 rfl rfl rfl rfl rfl rfl rfl ⟨rfl, rfl, rfl, rfl, rfl⟩ rfl rfl rfl rfl rfl (by kernel_rfl) Try.func6 (by kernel_rfl)
    (of_decide_eq_true (by kernel_rfl)) (by unfold Func.isWrapper; first | (rw [if_pos (by decide +kernel)]; kernel_rfl) | (rw [if_neg (by decide +kernel)]; exact ⟨rfl, rfl⟩))
    (fun os started H enc _ => lifted os started H enc)

/-- ████ THE STATEMENT ████ -/
theorem proved : Rows.CoreHitsSaid :=
  over
end Go.Proofs.Ytdcjiljegffalaa.coreHits
