/-
  Layer 5: the document's own table.
-/
import Derived.Test.YtgjceiiddcbfoaaTable3
set_option maxRecDepth 100000
set_option linter.unusedSimpArgs false
namespace Lav
open Go (IntKind)

/-- The document's table: its cell, its slots. -/
structure RT (h : Heap) (q b : Nat) (ss : Slots) : Prop where
  cell : ∃ c, h.get q = some (.cells [.sl b 0 ss.length c])
  slots : h.get b = some (.cells (slotC ss))
  ne : q ≠ b
  qn : q < h.next
  bn : b < h.next

theorem RT.ext {h h' : Heap} {q b : Nat} {ss : Slots} (t : RT h q b ss) {S : List Nat} (e : ExtB S h h') (hq : q ∉ S) (hb : b ∉ S) : RT h' q b ss := by
  obtain ⟨⟨c, hc⟩, h2, h3, h4, h5⟩ := t
  exact ⟨⟨c, e.at_ hc h4 hq⟩, e.at_ h2 h5 hb, h3, Nat.lt_of_lt_of_le h4 e.1, Nat.lt_of_lt_of_le h5 e.1⟩
theorem RT.write {h : Heap} {q b : Nat} {ss : Slots} (t : RT h q b ss) {i : Nat} (hi : i < ss.length) (k v : Int) :
    ∃ h', h.write b (i * 2) [.int .i64 k, .int .i64 v] = some h' ∧ RT h' q b (ss.set i (k, v)) ∧ ExtB [b] h h' ∧ h'.next = h.next := by
  have w := write_many (vs := [icell k, icell v]) (o := i * 2) t.slots (by rw [slotC_len]; simp; omega)
  have e : (slotC ss).take (i * 2) ++ [icell k, icell v] ++ (slotC ss).drop (i * 2 + [icell k, icell v].length) = slotC (ss.set i (k, v)) := slotC_set ss i hi k v
  rw [e] at w
  obtain ⟨⟨c, hc⟩, h2, h3, h4, h5⟩ := t
  exact ⟨_, w, ⟨⟨c, by rw [get_put_ne h3, List.length_set]; exact hc⟩, get_put_at, h3, h4, h5⟩, (ExtB.refl _ _).put (.inr (by simp)) _, rfl⟩
theorem RT.rk {h : Heap} {q b : Nat} {ss : Slots} (t : RT h q b ss) {i : Nat} (hi : i < ss.length) : h.read b (i * 2) 1 = some [.int .i64 ss[i].1] := read_cells t.slots (slotC_key ss i hi)
theorem RT.rv {h : Heap} {q b : Nat} {ss : Slots} (t : RT h q b ss) {i : Nat} (hi : i < ss.length) : h.read b (i * 2 + 1) 1 = some [.int .i64 ss[i].2] := read_cells t.slots (slotC_val ss i hi)

def Low (ss : Slots) : Prop := ∀ i (hi : i < ss.length), -2 ≤ ss[i].1

section
variable {N d : Nat} {h : Heap} {p q b : Nat} {ss : Slots}

theorem rfind_ok (t : RT h q b ss) (low : Low ss) (key : Int) (hk : 0 ≤ key) (hN : ss.length + 2 ≤ N) (h1 : 1 ≤ ss.length) (h2 : ss.length ≤ 1024) :
    evCallT table 25 N (d + 2) 47 [.c (.ptr q 0), .c (.int .i64 key)] h = some (.tup [.c (.int .i64 (findM ss key).1), .c (.int .i64 (findM ss key).2)], h) := by
  obtain ⟨c, hc⟩ := t.cell
  have ll : ∀ loc vals h', evPure loc (.c (.sl b 0 ss.length c) :: vals) h' (.len .sl (.val 0)) = some (.c (.int .i64 (ss.length : Int))) := fun _ _ _ => rfl
  have r0 : h.read q 0 1 = some [.sl b 0 ss.length c] := read_cells hc rfl
  obtain ⟨pb1, pb2, _⟩ := place_bounds (key := key) (size := (ss.length : Int)) (by omega) (by omega) hk
  obtain ⟨a0, ha0, ha0'⟩ : ∃ a0 : Nat, placeM key (ss.length : Int) = (a0 : Int) ∧ a0 < ss.length := ⟨(placeM key (ss.length : Int)).toNat, by omega, by omega⟩
  have e1 : evCallT table 25 N (d + 1) 26 [.c (.int .i64 key), .c (.int .i64 (ss.length : Int))] h = some (.c (.int .i64 (a0 : Int)), h) := by rw [rplace_ok, ha0]
  have hR0 : findM ss key = findGo ss key ss.length a0 (-1) := by unfold findM; rw [ha0, Int.toNat_natCast]
  generalize hR : findM ss key = R at *
  rw [evCallT_eq (F := ir47) rfl rfl rfl]
  unfold ir47
  rw [bodyK_eq]
  have L : ∀ loc, keepOnly ir47_k0 loc = [.c (.ptr q 0), .c (.int .i64 key), .junk, .junk, .c (.int .i64 (-1)), .c (.int .i64 (a0 : Int)), .c (.int .i64 0), .junk, .junk, .junk, .junk, .junk] →
      ∃ r, loopK (evCallT table 25 N (d + 1)) N ir47_k0 ir47_l0 N loc h = some r ∧ ((R.1 = -1 ∧ ∃ c0 c1 c2 c3 l, r = (.exit 0, c0 :: c1 :: c2 :: c3 :: .c (.int .i64 R.2) :: l, h)) ∨ ∃ c0 c1 l, r = (.ret, c0 :: c1 :: .c (.int .i64 R.1) :: .c (.int .i64 R.2) :: l, h)) := by
    intro loc hloc
    refine loop_inv (n := ss.length) (fun i loc h' => h' = h ∧ ∃ room : Int, findGo ss key (ss.length - i) ((a0 + i) % ss.length) room = R ∧ loc = [.c (.ptr q 0), .c (.int .i64 key), .junk, .junk, .c (.int .i64 room), .c (.int .i64 (a0 : Int)), .c (.int .i64 (i : Int)), .junk, .junk, .junk, .junk, .junk]) _ ?_ ⟨rfl, -1, by rw [Nat.add_zero, Nat.mod_eq_of_lt ha0']; exact hR0.symm, hloc⟩ (by omega)
    rintro i loc h' hi ⟨rfl, room, hres, rfl⟩
    unfold ir47_l0
    by_cases hlt : i < ss.length
    · have v1 : decide ((i : Int) < (ss.length : Int)) = true := ltNat hlt
      have v2 := succI (i := i) (by omega)
      have v3 : Int.tmod (IntKind.i64.wrap ((a0 : Int) + (i : Int))) (ss.length : Int) = (((a0 + i) % ss.length : Nat) : Int) := by
        rw [show ((a0 : Int) + (i : Int)) = ((a0 + i : Nat) : Int) by omega, wrapNat (by omega)]; rfl
      have v4 : ((ss.length : Int) == 0) = false := by simp only [beq_eq_false_iff_ne, ne_eq]; omega
      have hsucc : ((a0 + i) % ss.length + 1) % ss.length = (a0 + (i + 1)) % ss.length := by rw [Nat.mod_add_mod, Nat.add_assoc]
      obtain ⟨a, haeq⟩ : ∃ a, a = (a0 + i) % ss.length := ⟨_, rfl⟩
      have ha : a < ss.length := by rw [haeq]; exact Nat.mod_lt _ (by omega)
      rw [← haeq] at hres v3 hsucc
      have m1 : Nat.blt a ss.length = true := bltT ha
      have rk := t.rk ha
      have hlow := low a ha
      rw [show ss.length - i = (ss.length - (i + 1)) + 1 by omega] at hres
      unfold findGo at hres
      rw [getD_slot ha] at hres
      by_cases c1 : ss[a].1 = key
      · right
        rw [if_pos c1] at hres
        have q1 : (ss[a].1 == key) = true := by simp [c1]
        simp only [enter_eq, ev_seq, seqK_norm, seqK_exit, seqK_ret, ev_reg, ev_cond, condK_true, condK_false, ev_block, blockK_norm, blockK_ret, blockK_exit, ev_loop, ev_skip, ev_exit, ev_ret, regK_cons, regK_nil, guard_none, guard_some, regG_true, regG_false, regO_some, op_mov, op_conv, op_bin, op_bsl, op_box, op_mks, op_s2b, op_pick, op_un, op_eq, op_len, op_ext, op_load, op_iaddr, op_slice, op_b2s, op_idxS, op_mx, op_mn, op_call, op_store, op_app, op_copy, args_eq, result_one', rv_loc, finish_norm, finish_ret, outK_some, keep_true, keep_false, keep_nil, p_bin, p_pick, p_un, p_eq, p_conv, evNew, pureK_some, newK_some, X.eval, set_none, set_some, List.map_cons, List.map_nil, List.getD_cons_zero, List.getD_cons_succ, List.getD_nil, List.set_cons_zero, List.set_cons_succ, binCV, unCV, isShift, intArithF_eq, shiftF_eq, wrapF_eq, intArith, shift, eqVal, bound, asNat_cast, cond_true, cond_false, BEq.rfl, beq_self_eq_true, evalParts, fillParts, AV.cells, AV.ofCells, XV.av, AV.xv, List.length_cons, List.length_nil, zeros, patch, setMany, List.nil_append, List.cons_append, Nat.ble, Nat.add_eq, Nat.zero_add, Nat.add_zero, Nat.reduceAdd, Nat.reduceMul, Nat.reduceSub, Nat.ble_eq, Nat.reduceLeDiff, Nat.reduceBEq, Int.reduceBEq, Int.reduceNeg, Bool.and_true, Bool.and_false, Bool.true_and, Bool.false_and, Bool.not_true, Bool.not_false, Bool.true_eq_false, Bool.false_eq_true, Int.reduceLT, Int.reduceLE, Int.reduceGT, Int.reduceGE, decide_true, decide_false, Bool.not_eq_true, loopN_norm, loopN_exit, tf, ft, ff, op_nilchk, p_nilchk, op_faddr, p_faddr, p_iaddr, p_load, r0, AV.ofCells, m1, v1, v3, v4, ll, rk, q1]
        exact ⟨_, rfl, by simp, .inr ⟨_, _, _, by rw [← hres]⟩⟩
      have q1 : (ss[a].1 == key) = false := by simp [c1]
      rw [if_neg c1] at hres
      by_cases c2 : ss[a].1 = -1
      · rw [if_pos c2] at hres
        have q2 : (ss[a].1 == -1) = true := by simp [c2]
        have q3 : decide (ss[a].1 < 0) = true := decide_eq_true (by omega)
        right
        by_cases c3 : room < 0
        · rw [if_pos c3] at hres
          simp only [enter_eq, ev_seq, seqK_norm, seqK_exit, seqK_ret, ev_reg, ev_cond, condK_true, condK_false, ev_block, blockK_norm, blockK_ret, blockK_exit, ev_loop, ev_skip, ev_exit, ev_ret, regK_cons, regK_nil, guard_none, guard_some, regG_true, regG_false, regO_some, op_mov, op_conv, op_bin, op_bsl, op_box, op_mks, op_s2b, op_pick, op_un, op_eq, op_len, op_ext, op_load, op_iaddr, op_slice, op_b2s, op_idxS, op_mx, op_mn, op_call, op_store, op_app, op_copy, args_eq, result_one', rv_loc, finish_norm, finish_ret, outK_some, keep_true, keep_false, keep_nil, p_bin, p_pick, p_un, p_eq, p_conv, evNew, pureK_some, newK_some, X.eval, set_none, set_some, List.map_cons, List.map_nil, List.getD_cons_zero, List.getD_cons_succ, List.getD_nil, List.set_cons_zero, List.set_cons_succ, binCV, unCV, isShift, intArithF_eq, shiftF_eq, wrapF_eq, intArith, shift, eqVal, bound, asNat_cast, cond_true, cond_false, BEq.rfl, beq_self_eq_true, evalParts, fillParts, AV.cells, AV.ofCells, XV.av, AV.xv, List.length_cons, List.length_nil, zeros, patch, setMany, List.nil_append, List.cons_append, Nat.ble, Nat.add_eq, Nat.zero_add, Nat.add_zero, Nat.reduceAdd, Nat.reduceMul, Nat.reduceSub, Nat.ble_eq, Nat.reduceLeDiff, Nat.reduceBEq, Int.reduceBEq, Int.reduceNeg, Bool.and_true, Bool.and_false, Bool.true_and, Bool.false_and, Bool.not_true, Bool.not_false, Bool.true_eq_false, Bool.false_eq_true, Int.reduceLT, Int.reduceLE, Int.reduceGT, Int.reduceGE, decide_true, decide_false, Bool.not_eq_true, loopN_norm, loopN_exit, tf, ft, ff, op_nilchk, p_nilchk, op_faddr, p_faddr, p_iaddr, p_load, r0, AV.ofCells, m1, v1, v3, v4, ll, rk, q1, q2, q3, decide_eq_true c3]
          exact ⟨_, rfl, by simp, .inl ⟨by rw [← hres], _, _, _, _, _, by rw [← hres]⟩⟩
        · rw [if_neg c3] at hres
          simp only [enter_eq, ev_seq, seqK_norm, seqK_exit, seqK_ret, ev_reg, ev_cond, condK_true, condK_false, ev_block, blockK_norm, blockK_ret, blockK_exit, ev_loop, ev_skip, ev_exit, ev_ret, regK_cons, regK_nil, guard_none, guard_some, regG_true, regG_false, regO_some, op_mov, op_conv, op_bin, op_bsl, op_box, op_mks, op_s2b, op_pick, op_un, op_eq, op_len, op_ext, op_load, op_iaddr, op_slice, op_b2s, op_idxS, op_mx, op_mn, op_call, op_store, op_app, op_copy, args_eq, result_one', rv_loc, finish_norm, finish_ret, outK_some, keep_true, keep_false, keep_nil, p_bin, p_pick, p_un, p_eq, p_conv, evNew, pureK_some, newK_some, X.eval, set_none, set_some, List.map_cons, List.map_nil, List.getD_cons_zero, List.getD_cons_succ, List.getD_nil, List.set_cons_zero, List.set_cons_succ, binCV, unCV, isShift, intArithF_eq, shiftF_eq, wrapF_eq, intArith, shift, eqVal, bound, asNat_cast, cond_true, cond_false, BEq.rfl, beq_self_eq_true, evalParts, fillParts, AV.cells, AV.ofCells, XV.av, AV.xv, List.length_cons, List.length_nil, zeros, patch, setMany, List.nil_append, List.cons_append, Nat.ble, Nat.add_eq, Nat.zero_add, Nat.add_zero, Nat.reduceAdd, Nat.reduceMul, Nat.reduceSub, Nat.ble_eq, Nat.reduceLeDiff, Nat.reduceBEq, Int.reduceBEq, Int.reduceNeg, Bool.and_true, Bool.and_false, Bool.true_and, Bool.false_and, Bool.not_true, Bool.not_false, Bool.true_eq_false, Bool.false_eq_true, Int.reduceLT, Int.reduceLE, Int.reduceGT, Int.reduceGE, decide_true, decide_false, Bool.not_eq_true, loopN_norm, loopN_exit, tf, ft, ff, op_nilchk, p_nilchk, op_faddr, p_faddr, p_iaddr, p_load, r0, AV.ofCells, m1, v1, v3, v4, ll, rk, q1, q2, q3, decide_eq_false c3]
          exact ⟨_, rfl, by simp, .inl ⟨by rw [← hres], _, _, _, _, _, by rw [← hres]⟩⟩
      · rw [if_neg c2] at hres
        have q2 : (ss[a].1 == -1) = false := by simp [c2]
        left
        refine ⟨hlt, ?_⟩
        rw [hsucc] at hres
        by_cases c3 : ss[a].1 < 0
        · have c3' : ss[a].1 = -2 := by omega
          have q3 : decide (ss[a].1 < 0) = true := decide_eq_true c3
          by_cases c4 : room < 0
          · rw [if_pos ⟨c3', c4⟩] at hres
            simp only [enter_eq, ev_seq, seqK_norm, seqK_exit, seqK_ret, ev_reg, ev_cond, condK_true, condK_false, ev_block, blockK_norm, blockK_ret, blockK_exit, ev_loop, ev_skip, ev_exit, ev_ret, regK_cons, regK_nil, guard_none, guard_some, regG_true, regG_false, regO_some, op_mov, op_conv, op_bin, op_bsl, op_box, op_mks, op_s2b, op_pick, op_un, op_eq, op_len, op_ext, op_load, op_iaddr, op_slice, op_b2s, op_idxS, op_mx, op_mn, op_call, op_store, op_app, op_copy, args_eq, result_one', rv_loc, finish_norm, finish_ret, outK_some, keep_true, keep_false, keep_nil, p_bin, p_pick, p_un, p_eq, p_conv, evNew, pureK_some, newK_some, X.eval, set_none, set_some, List.map_cons, List.map_nil, List.getD_cons_zero, List.getD_cons_succ, List.getD_nil, List.set_cons_zero, List.set_cons_succ, binCV, unCV, isShift, intArithF_eq, shiftF_eq, wrapF_eq, intArith, shift, eqVal, bound, asNat_cast, cond_true, cond_false, BEq.rfl, beq_self_eq_true, evalParts, fillParts, AV.cells, AV.ofCells, XV.av, AV.xv, List.length_cons, List.length_nil, zeros, patch, setMany, List.nil_append, List.cons_append, Nat.ble, Nat.add_eq, Nat.zero_add, Nat.add_zero, Nat.reduceAdd, Nat.reduceMul, Nat.reduceSub, Nat.ble_eq, Nat.reduceLeDiff, Nat.reduceBEq, Int.reduceBEq, Int.reduceNeg, Bool.and_true, Bool.and_false, Bool.true_and, Bool.false_and, Bool.not_true, Bool.not_false, Bool.true_eq_false, Bool.false_eq_true, Int.reduceLT, Int.reduceLE, Int.reduceGT, Int.reduceGE, decide_true, decide_false, Bool.not_eq_true, loopN_norm, loopN_exit, tf, ft, ff, op_nilchk, p_nilchk, op_faddr, p_faddr, p_iaddr, p_load, r0, AV.ofCells, m1, v1, v2, v3, v4, ll, rk, q1, q2, q3, decide_eq_true c4]
            exact ⟨_, _, rfl, rfl, _, hres, rfl⟩
          · rw [if_neg (fun e => c4 e.2)] at hres
            simp only [enter_eq, ev_seq, seqK_norm, seqK_exit, seqK_ret, ev_reg, ev_cond, condK_true, condK_false, ev_block, blockK_norm, blockK_ret, blockK_exit, ev_loop, ev_skip, ev_exit, ev_ret, regK_cons, regK_nil, guard_none, guard_some, regG_true, regG_false, regO_some, op_mov, op_conv, op_bin, op_bsl, op_box, op_mks, op_s2b, op_pick, op_un, op_eq, op_len, op_ext, op_load, op_iaddr, op_slice, op_b2s, op_idxS, op_mx, op_mn, op_call, op_store, op_app, op_copy, args_eq, result_one', rv_loc, finish_norm, finish_ret, outK_some, keep_true, keep_false, keep_nil, p_bin, p_pick, p_un, p_eq, p_conv, evNew, pureK_some, newK_some, X.eval, set_none, set_some, List.map_cons, List.map_nil, List.getD_cons_zero, List.getD_cons_succ, List.getD_nil, List.set_cons_zero, List.set_cons_succ, binCV, unCV, isShift, intArithF_eq, shiftF_eq, wrapF_eq, intArith, shift, eqVal, bound, asNat_cast, cond_true, cond_false, BEq.rfl, beq_self_eq_true, evalParts, fillParts, AV.cells, AV.ofCells, XV.av, AV.xv, List.length_cons, List.length_nil, zeros, patch, setMany, List.nil_append, List.cons_append, Nat.ble, Nat.add_eq, Nat.zero_add, Nat.add_zero, Nat.reduceAdd, Nat.reduceMul, Nat.reduceSub, Nat.ble_eq, Nat.reduceLeDiff, Nat.reduceBEq, Int.reduceBEq, Int.reduceNeg, Bool.and_true, Bool.and_false, Bool.true_and, Bool.false_and, Bool.not_true, Bool.not_false, Bool.true_eq_false, Bool.false_eq_true, Int.reduceLT, Int.reduceLE, Int.reduceGT, Int.reduceGE, decide_true, decide_false, Bool.not_eq_true, loopN_norm, loopN_exit, tf, ft, ff, op_nilchk, p_nilchk, op_faddr, p_faddr, p_iaddr, p_load, r0, AV.ofCells, m1, v1, v2, v3, v4, ll, rk, q1, q2, q3, decide_eq_false c4]
            exact ⟨_, _, rfl, rfl, _, hres, rfl⟩
        · have q3 : decide (ss[a].1 < 0) = false := decide_eq_false c3
          rw [if_neg (fun e => c3 (by omega))] at hres
          simp only [enter_eq, ev_seq, seqK_norm, seqK_exit, seqK_ret, ev_reg, ev_cond, condK_true, condK_false, ev_block, blockK_norm, blockK_ret, blockK_exit, ev_loop, ev_skip, ev_exit, ev_ret, regK_cons, regK_nil, guard_none, guard_some, regG_true, regG_false, regO_some, op_mov, op_conv, op_bin, op_bsl, op_box, op_mks, op_s2b, op_pick, op_un, op_eq, op_len, op_ext, op_load, op_iaddr, op_slice, op_b2s, op_idxS, op_mx, op_mn, op_call, op_store, op_app, op_copy, args_eq, result_one', rv_loc, finish_norm, finish_ret, outK_some, keep_true, keep_false, keep_nil, p_bin, p_pick, p_un, p_eq, p_conv, evNew, pureK_some, newK_some, X.eval, set_none, set_some, List.map_cons, List.map_nil, List.getD_cons_zero, List.getD_cons_succ, List.getD_nil, List.set_cons_zero, List.set_cons_succ, binCV, unCV, isShift, intArithF_eq, shiftF_eq, wrapF_eq, intArith, shift, eqVal, bound, asNat_cast, cond_true, cond_false, BEq.rfl, beq_self_eq_true, evalParts, fillParts, AV.cells, AV.ofCells, XV.av, AV.xv, List.length_cons, List.length_nil, zeros, patch, setMany, List.nil_append, List.cons_append, Nat.ble, Nat.add_eq, Nat.zero_add, Nat.add_zero, Nat.reduceAdd, Nat.reduceMul, Nat.reduceSub, Nat.ble_eq, Nat.reduceLeDiff, Nat.reduceBEq, Int.reduceBEq, Int.reduceNeg, Bool.and_true, Bool.and_false, Bool.true_and, Bool.false_and, Bool.not_true, Bool.not_false, Bool.true_eq_false, Bool.false_eq_true, Int.reduceLT, Int.reduceLE, Int.reduceGT, Int.reduceGE, decide_true, decide_false, Bool.not_eq_true, loopN_norm, loopN_exit, tf, ft, ff, op_nilchk, p_nilchk, op_faddr, p_faddr, p_iaddr, p_load, r0, AV.ofCells, m1, v1, v2, v3, v4, ll, rk, q1, q2, q3]
          exact ⟨_, _, rfl, rfl, _, hres, rfl⟩
    · right
      have hin : i = ss.length := by omega
      subst hin
      have v1 : decide ((ss.length : Int) < (ss.length : Int)) = false := geNat (Nat.le_refl _)
      rw [Nat.sub_self] at hres
      simp only [enter_eq, ev_seq, seqK_norm, seqK_exit, seqK_ret, ev_reg, ev_cond, condK_true, condK_false, ev_block, blockK_norm, blockK_ret, blockK_exit, ev_loop, ev_skip, ev_exit, ev_ret, regK_cons, regK_nil, guard_none, guard_some, regG_true, regG_false, regO_some, op_mov, op_conv, op_bin, op_bsl, op_box, op_mks, op_s2b, op_pick, op_un, op_eq, op_len, op_ext, op_load, op_iaddr, op_slice, op_b2s, op_idxS, op_mx, op_mn, op_call, op_store, op_app, op_copy, args_eq, result_one', rv_loc, finish_norm, finish_ret, outK_some, keep_true, keep_false, keep_nil, p_bin, p_pick, p_un, p_eq, p_conv, evNew, pureK_some, newK_some, X.eval, set_none, set_some, List.map_cons, List.map_nil, List.getD_cons_zero, List.getD_cons_succ, List.getD_nil, List.set_cons_zero, List.set_cons_succ, binCV, unCV, isShift, intArithF_eq, shiftF_eq, wrapF_eq, intArith, shift, eqVal, bound, asNat_cast, cond_true, cond_false, BEq.rfl, beq_self_eq_true, evalParts, fillParts, AV.cells, AV.ofCells, XV.av, AV.xv, List.length_cons, List.length_nil, zeros, patch, setMany, List.nil_append, List.cons_append, Nat.ble, Nat.add_eq, Nat.zero_add, Nat.add_zero, Nat.reduceAdd, Nat.reduceMul, Nat.reduceSub, Nat.ble_eq, Nat.reduceLeDiff, Nat.reduceBEq, Int.reduceBEq, Int.reduceNeg, Bool.and_true, Bool.and_false, Bool.true_and, Bool.false_and, Bool.not_true, Bool.not_false, Bool.true_eq_false, Bool.false_eq_true, Int.reduceLT, Int.reduceLE, Int.reduceGT, Int.reduceGE, decide_true, decide_false, Bool.not_eq_true, loopN_norm, loopN_exit, tf, ft, ff, op_nilchk, p_nilchk, op_faddr, p_faddr, p_load, r0, AV.ofCells, ll, v1]
      exact ⟨_, rfl, by simp, .inl ⟨by rw [← hres]; rfl, _, _, _, _, _, by rw [← hres]; rfl⟩⟩
  obtain ⟨r, hr, ⟨hm, c0, c1, c2, c3, l, rfl⟩ | ⟨c0, c1, l, rfl⟩⟩ := L [.c (.ptr q 0), .c (.int .i64 key), .c (.int .i64 0), .c (.int .i64 0), .c (.int .i64 (-1)), .c (.int .i64 (a0 : Int)), .c (.int .i64 0), .tup [], .tup [], .tup [], .tup [], .tup []] rfl
  · simp only [enter_eq, ev_seq, seqK_norm, seqK_exit, seqK_ret, ev_reg, ev_cond, condK_true, condK_false, ev_block, blockK_norm, blockK_ret, blockK_exit, ev_loop, ev_skip, ev_exit, ev_ret, regK_cons, regK_nil, guard_none, guard_some, regG_true, regG_false, regO_some, op_mov, op_conv, op_bin, op_bsl, op_box, op_mks, op_s2b, op_pick, op_un, op_eq, op_len, op_ext, op_load, op_iaddr, op_slice, op_b2s, op_idxS, op_mx, op_mn, op_call, op_store, op_app, op_copy, args_eq, result_one', rv_loc, finish_norm, finish_ret, outK_some, keep_true, keep_false, keep_nil, p_bin, p_pick, p_un, p_eq, p_conv, evNew, pureK_some, newK_some, X.eval, set_none, set_some, List.map_cons, List.map_nil, List.getD_cons_zero, List.getD_cons_succ, List.getD_nil, List.set_cons_zero, List.set_cons_succ, binCV, unCV, isShift, intArithF_eq, shiftF_eq, wrapF_eq, intArith, shift, eqVal, bound, asNat_cast, cond_true, cond_false, BEq.rfl, beq_self_eq_true, evalParts, fillParts, AV.cells, AV.ofCells, XV.av, AV.xv, List.length_cons, List.length_nil, zeros, patch, setMany, List.nil_append, List.cons_append, Nat.ble, Nat.add_eq, Nat.zero_add, Nat.add_zero, Nat.reduceAdd, Nat.reduceMul, Nat.reduceSub, Nat.ble_eq, Nat.reduceLeDiff, Nat.reduceBEq, Int.reduceBEq, Int.reduceNeg, Bool.and_true, Bool.and_false, Bool.true_and, Bool.false_and, Bool.not_true, Bool.not_false, Bool.true_eq_false, Bool.false_eq_true, Int.reduceLT, Int.reduceLE, Int.reduceGT, Int.reduceGE, decide_true, decide_false, Bool.not_eq_true, loopN_norm, loopN_exit, tf, ft, ff, op_nilchk, p_nilchk, op_faddr, p_faddr, p_load, r0, AV.ofCells, ll, e1, hr, blockK_exit_eq, result, evResults, hm]
  · simp only [enter_eq, ev_seq, seqK_norm, seqK_exit, seqK_ret, ev_reg, ev_cond, condK_true, condK_false, ev_block, blockK_norm, blockK_ret, blockK_exit, ev_loop, ev_skip, ev_exit, ev_ret, regK_cons, regK_nil, guard_none, guard_some, regG_true, regG_false, regO_some, op_mov, op_conv, op_bin, op_bsl, op_box, op_mks, op_s2b, op_pick, op_un, op_eq, op_len, op_ext, op_load, op_iaddr, op_slice, op_b2s, op_idxS, op_mx, op_mn, op_call, op_store, op_app, op_copy, args_eq, result_one', rv_loc, finish_norm, finish_ret, outK_some, keep_true, keep_false, keep_nil, p_bin, p_pick, p_un, p_eq, p_conv, evNew, pureK_some, newK_some, X.eval, set_none, set_some, List.map_cons, List.map_nil, List.getD_cons_zero, List.getD_cons_succ, List.getD_nil, List.set_cons_zero, List.set_cons_succ, binCV, unCV, isShift, intArithF_eq, shiftF_eq, wrapF_eq, intArith, shift, eqVal, bound, asNat_cast, cond_true, cond_false, BEq.rfl, beq_self_eq_true, evalParts, fillParts, AV.cells, AV.ofCells, XV.av, AV.xv, List.length_cons, List.length_nil, zeros, patch, setMany, List.nil_append, List.cons_append, Nat.ble, Nat.add_eq, Nat.zero_add, Nat.add_zero, Nat.reduceAdd, Nat.reduceMul, Nat.reduceSub, Nat.ble_eq, Nat.reduceLeDiff, Nat.reduceBEq, Int.reduceBEq, Int.reduceNeg, Bool.and_true, Bool.and_false, Bool.true_and, Bool.false_and, Bool.not_true, Bool.not_false, Bool.true_eq_false, Bool.false_eq_true, Int.reduceLT, Int.reduceLE, Int.reduceGT, Int.reduceGE, decide_true, decide_false, Bool.not_eq_true, loopN_norm, loopN_exit, tf, ft, ff, op_nilchk, p_nilchk, op_faddr, p_faddr, p_load, r0, AV.ofCells, ll, e1, hr, blockK_ret, result, evResults]

theorem cnt_take {ss : Slots} : ∀ (i : Nat) (hi : i < ss.length), cnt (ss.take (i + 1)) = cnt (ss.take i) + (if 0 ≤ ss[i].1 then 1 else 0) := by
  induction ss with
  | nil => intro i hi; simp at hi
  | cons s ss ih =>
    intro i hi
    cases i with
    | zero => simp [cnt]
    | succ i =>
      have := ih i (by simpa using hi)
      simp only [List.take_succ_cons, cnt, List.getElem_cons_succ] at *
      omega
theorem cnt_le : ∀ (ss : Slots), cnt ss ≤ ss.length
  | [] => Nat.le_refl _
  | s :: ss => by
    have := cnt_le ss
    simp only [cnt, List.length_cons]; split <;> omega

theorem rlen_ok (t : RT h q b ss) (hN : ss.length + 2 ≤ N) (h2 : ss.length ≤ 1024) : evCallT table 25 N (d + 1) 37 [.c (.ptr q 0)] h = some (.c (.int .i64 (cnt ss : Int)), h) := by
  obtain ⟨c, hc⟩ := t.cell
  have ll : ∀ loc vals h', evPure loc (.c (.sl b 0 ss.length c) :: vals) h' (.len .sl (.val 0)) = some (.c (.int .i64 (ss.length : Int))) := fun _ _ _ => rfl
  have r0 : h.read q 0 1 = some [.sl b 0 ss.length c] := read_cells hc rfl
  rw [evCallT_eq (F := ir37) rfl rfl rfl]
  unfold ir37
  rw [bodyK_eq]
  have L : ∀ loc, keepOnly ir37_k0 loc = [.c (.ptr q 0), .junk, .c (.int .i64 0), .c (.int .i64 0), .junk, .junk] →
      ∃ r, loopK (evCallT table 25 N d) N ir37_k0 ir37_l0 N loc h = some r ∧ ∃ c0 c1 l, r = (.exit 0, c0 :: c1 :: .c (.int .i64 (cnt ss : Int)) :: l, h) := by
    intro loc hloc
    refine loop_inv (n := ss.length) (fun i loc h' => h' = h ∧ loc = [.c (.ptr q 0), .junk, .c (.int .i64 (cnt (ss.take i) : Int)), .c (.int .i64 (i : Int)), .junk, .junk]) _ ?_ ⟨rfl, hloc⟩ (by omega)
    rintro i loc h' hi ⟨rfl, rfl⟩
    unfold ir37_l0
    by_cases hlt : i < ss.length
    · left
      refine ⟨hlt, ?_⟩
      have v1 : decide ((i : Int) < (ss.length : Int)) = true := ltNat hlt
      have v2 := succI (i := i) (by omega)
      have m1 : Nat.blt i ss.length = true := bltT hlt
      have rk := t.rk hlt
      have hct := cnt_take i hlt
      have hle := cnt_le (ss.take i)
      rw [List.length_take] at hle
      by_cases c1 : ss[i].1 ≥ 0
      · have v3 := succI (i := cnt (ss.take i)) (by omega)
        rw [if_pos c1] at hct
        simp only [enter_eq, ev_seq, seqK_norm, seqK_exit, seqK_ret, ev_reg, ev_cond, condK_true, condK_false, ev_block, blockK_norm, blockK_ret, blockK_exit, ev_loop, ev_skip, ev_exit, ev_ret, regK_cons, regK_nil, guard_none, guard_some, regG_true, regG_false, regO_some, op_mov, op_conv, op_bin, op_bsl, op_box, op_mks, op_s2b, op_pick, op_un, op_eq, op_len, op_ext, op_load, op_iaddr, op_slice, op_b2s, op_idxS, op_mx, op_mn, op_call, op_store, op_app, op_copy, args_eq, result_one', rv_loc, finish_norm, finish_ret, outK_some, keep_true, keep_false, keep_nil, p_bin, p_pick, p_un, p_eq, p_conv, evNew, pureK_some, newK_some, X.eval, set_none, set_some, List.map_cons, List.map_nil, List.getD_cons_zero, List.getD_cons_succ, List.getD_nil, List.set_cons_zero, List.set_cons_succ, binCV, unCV, isShift, intArithF_eq, shiftF_eq, wrapF_eq, intArith, shift, eqVal, bound, asNat_cast, cond_true, cond_false, BEq.rfl, beq_self_eq_true, evalParts, fillParts, AV.cells, AV.ofCells, XV.av, AV.xv, List.length_cons, List.length_nil, zeros, patch, setMany, List.nil_append, List.cons_append, Nat.ble, Nat.add_eq, Nat.zero_add, Nat.add_zero, Nat.reduceAdd, Nat.reduceMul, Nat.reduceSub, Nat.ble_eq, Nat.reduceLeDiff, Nat.reduceBEq, Int.reduceBEq, Int.reduceNeg, Bool.and_true, Bool.and_false, Bool.true_and, Bool.false_and, Bool.not_true, Bool.not_false, Bool.true_eq_false, Bool.false_eq_true, Int.reduceLT, Int.reduceLE, Int.reduceGT, Int.reduceGE, decide_true, decide_false, Bool.not_eq_true, loopN_norm, loopN_exit, tf, ft, ff, op_nilchk, p_nilchk, op_faddr, p_faddr, p_iaddr, p_load, r0, AV.ofCells, m1, v1, v2, v3, ll, rk, decide_eq_true c1]
        exact ⟨_, _, rfl, rfl, by rw [hct]; rfl⟩
      · rw [if_neg c1] at hct
        simp only [enter_eq, ev_seq, seqK_norm, seqK_exit, seqK_ret, ev_reg, ev_cond, condK_true, condK_false, ev_block, blockK_norm, blockK_ret, blockK_exit, ev_loop, ev_skip, ev_exit, ev_ret, regK_cons, regK_nil, guard_none, guard_some, regG_true, regG_false, regO_some, op_mov, op_conv, op_bin, op_bsl, op_box, op_mks, op_s2b, op_pick, op_un, op_eq, op_len, op_ext, op_load, op_iaddr, op_slice, op_b2s, op_idxS, op_mx, op_mn, op_call, op_store, op_app, op_copy, args_eq, result_one', rv_loc, finish_norm, finish_ret, outK_some, keep_true, keep_false, keep_nil, p_bin, p_pick, p_un, p_eq, p_conv, evNew, pureK_some, newK_some, X.eval, set_none, set_some, List.map_cons, List.map_nil, List.getD_cons_zero, List.getD_cons_succ, List.getD_nil, List.set_cons_zero, List.set_cons_succ, binCV, unCV, isShift, intArithF_eq, shiftF_eq, wrapF_eq, intArith, shift, eqVal, bound, asNat_cast, cond_true, cond_false, BEq.rfl, beq_self_eq_true, evalParts, fillParts, AV.cells, AV.ofCells, XV.av, AV.xv, List.length_cons, List.length_nil, zeros, patch, setMany, List.nil_append, List.cons_append, Nat.ble, Nat.add_eq, Nat.zero_add, Nat.add_zero, Nat.reduceAdd, Nat.reduceMul, Nat.reduceSub, Nat.ble_eq, Nat.reduceLeDiff, Nat.reduceBEq, Int.reduceBEq, Int.reduceNeg, Bool.and_true, Bool.and_false, Bool.true_and, Bool.false_and, Bool.not_true, Bool.not_false, Bool.true_eq_false, Bool.false_eq_true, Int.reduceLT, Int.reduceLE, Int.reduceGT, Int.reduceGE, decide_true, decide_false, Bool.not_eq_true, loopN_norm, loopN_exit, tf, ft, ff, op_nilchk, p_nilchk, op_faddr, p_faddr, p_iaddr, p_load, r0, AV.ofCells, m1, v1, v2, ll, rk, decide_eq_false c1]
        exact ⟨_, _, rfl, rfl, by rw [hct]; rfl⟩
    · right
      have hin : i = ss.length := by omega
      subst hin
      have v1 : decide ((ss.length : Int) < (ss.length : Int)) = false := geNat (Nat.le_refl _)
      rw [List.take_length]
      simp only [enter_eq, ev_seq, seqK_norm, seqK_exit, seqK_ret, ev_reg, ev_cond, condK_true, condK_false, ev_block, blockK_norm, blockK_ret, blockK_exit, ev_loop, ev_skip, ev_exit, ev_ret, regK_cons, regK_nil, guard_none, guard_some, regG_true, regG_false, regO_some, op_mov, op_conv, op_bin, op_bsl, op_box, op_mks, op_s2b, op_pick, op_un, op_eq, op_len, op_ext, op_load, op_iaddr, op_slice, op_b2s, op_idxS, op_mx, op_mn, op_call, op_store, op_app, op_copy, args_eq, result_one', rv_loc, finish_norm, finish_ret, outK_some, keep_true, keep_false, keep_nil, p_bin, p_pick, p_un, p_eq, p_conv, evNew, pureK_some, newK_some, X.eval, set_none, set_some, List.map_cons, List.map_nil, List.getD_cons_zero, List.getD_cons_succ, List.getD_nil, List.set_cons_zero, List.set_cons_succ, binCV, unCV, isShift, intArithF_eq, shiftF_eq, wrapF_eq, intArith, shift, eqVal, bound, asNat_cast, cond_true, cond_false, BEq.rfl, beq_self_eq_true, evalParts, fillParts, AV.cells, AV.ofCells, XV.av, AV.xv, List.length_cons, List.length_nil, zeros, patch, setMany, List.nil_append, List.cons_append, Nat.ble, Nat.add_eq, Nat.zero_add, Nat.add_zero, Nat.reduceAdd, Nat.reduceMul, Nat.reduceSub, Nat.ble_eq, Nat.reduceLeDiff, Nat.reduceBEq, Int.reduceBEq, Int.reduceNeg, Bool.and_true, Bool.and_false, Bool.true_and, Bool.false_and, Bool.not_true, Bool.not_false, Bool.true_eq_false, Bool.false_eq_true, Int.reduceLT, Int.reduceLE, Int.reduceGT, Int.reduceGE, decide_true, decide_false, Bool.not_eq_true, loopN_norm, loopN_exit, tf, ft, ff, op_nilchk, p_nilchk, op_faddr, p_faddr, p_load, r0, AV.ofCells, ll, v1]
      exact ⟨_, rfl, by simp, _, _, _, rfl⟩
  obtain ⟨r, hr, c0, c1, l, rfl⟩ := L [.c (.ptr q 0), .c (.int .i64 0), .c (.int .i64 0), .c (.int .i64 0), .tup [], .tup []] rfl
  simp only [enter_eq, ev_seq, seqK_norm, seqK_exit, seqK_ret, ev_reg, ev_cond, condK_true, condK_false, ev_block, blockK_norm, blockK_ret, blockK_exit, ev_loop, ev_skip, ev_exit, ev_ret, regK_cons, regK_nil, guard_none, guard_some, regG_true, regG_false, regO_some, op_mov, op_conv, op_bin, op_bsl, op_box, op_mks, op_s2b, op_pick, op_un, op_eq, op_len, op_ext, op_load, op_iaddr, op_slice, op_b2s, op_idxS, op_mx, op_mn, op_call, op_store, op_app, op_copy, args_eq, result_one', rv_loc, finish_norm, finish_ret, outK_some, keep_true, keep_false, keep_nil, p_bin, p_pick, p_un, p_eq, p_conv, evNew, pureK_some, newK_some, X.eval, set_none, set_some, List.map_cons, List.map_nil, List.getD_cons_zero, List.getD_cons_succ, List.getD_nil, List.set_cons_zero, List.set_cons_succ, binCV, unCV, isShift, intArithF_eq, shiftF_eq, wrapF_eq, intArith, shift, eqVal, bound, asNat_cast, cond_true, cond_false, BEq.rfl, beq_self_eq_true, evalParts, fillParts, AV.cells, AV.ofCells, XV.av, AV.xv, List.length_cons, List.length_nil, zeros, patch, setMany, List.nil_append, List.cons_append, Nat.ble, Nat.add_eq, Nat.zero_add, Nat.add_zero, Nat.reduceAdd, Nat.reduceMul, Nat.reduceSub, Nat.ble_eq, Nat.reduceLeDiff, Nat.reduceBEq, Int.reduceBEq, Int.reduceNeg, Bool.and_true, Bool.and_false, Bool.true_and, Bool.false_and, Bool.not_true, Bool.not_false, Bool.true_eq_false, Bool.false_eq_true, Int.reduceLT, Int.reduceLE, Int.reduceGT, Int.reduceGE, decide_true, decide_false, Bool.not_eq_true, loopN_norm, loopN_exit, tf, ft, ff, hr, blockK_exit_eq]

/-! ### A step of either table -/
/-- What Put answers, and makes of the slots. -/
def putM (ss : Slots) (key v : Int) : Int × Slots :=
  if key < 0 then (1, ss) else if 0 ≤ (findM ss key).1 then (13, ss) else if (findM ss key).2 < 0 then (8, ss) else (0, ss.set (findM ss key).2.toNat (key, v))
/-- What Out answers, and makes of the slots. -/
def outM (ss : Slots) (key : Int) : Int × Slots :=
  if key < 0 then (-1, ss) else if (findM ss key).1 < 0 then (-1, ss)
  else ((ss.getD (findM ss key).1.toNat (0, 0)).2, if cnt (ss.set (findM ss key).1.toNat (-2, 0)) = 0 then List.replicate ss.length (-1, 0) else ss.set (findM ss key).1.toNat (-2, 0))

theorem putM_len (ss : Slots) (key v : Int) : (putM ss key v).2.length = ss.length := by unfold putM; split <;> (try split) <;> (try split) <;> simp
theorem outM_len (ss : Slots) (key : Int) : (outM ss key).2.length = ss.length := by unfold outM; split <;> (try split) <;> (try split) <;> simp
theorem low_set {ss : Slots} (low : Low ss) (i : Nat) (s : Int × Int) (hs : -2 ≤ s.1) : Low (ss.set i s) := by
  intro j hj
  rw [List.getElem_set]
  split
  · exact hs
  · exact low j (by simpa using hj)
theorem putM_low {ss : Slots} (low : Low ss) (key v : Int) : Low (putM ss key v).2 := by
  unfold putM
  split
  · exact low
  · split
    · exact low
    · split
      · exact low
      · exact low_set low _ _ (by show -2 ≤ key; omega)
theorem outM_low {ss : Slots} (low : Low ss) (key : Int) : Low (outM ss key).2 := by
  unfold outM
  split
  · exact low
  · split
    · exact low
    · show Low (if _ then _ else _)
      split
      · intro j hj; simp
      · exact low_set low _ _ (by decide)

theorem rput_ok (t : RT h q b ss) (low : Low ss) (key v : Int) (hN : ss.length + 2 ≤ N) (h1 : 1 ≤ ss.length) (h2 : ss.length ≤ 1024) :
    ∃ h', evCallT table 25 N (d + 3) 34 [.c (.ptr q 0), .c (.int .i64 key), .c (.int .i64 v)] h = some (.c (.int .i64 (putM ss key v).1), h') ∧ RT h' q b (putM ss key v).2 ∧ ExtB [b] h h' := by
  rw [evCallT_eq (F := ir34) rfl rfl rfl]
  unfold ir34 putM
  rw [bodyK_eq]
  by_cases c1 : key < 0
  · simp only [if_pos c1, enter_eq, ev_seq, seqK_norm, seqK_exit, seqK_ret, ev_reg, ev_cond, condK_true, condK_false, ev_block, blockK_norm, blockK_ret, blockK_exit, ev_loop, ev_skip, ev_exit, ev_ret, regK_cons, regK_nil, guard_none, guard_some, regG_true, regG_false, regO_some, op_mov, op_conv, op_bin, op_bsl, op_box, op_mks, op_s2b, op_pick, op_un, op_eq, op_len, op_ext, op_load, op_iaddr, op_slice, op_b2s, op_idxS, op_mx, op_mn, op_call, op_store, op_app, op_copy, args_eq, result_one', rv_loc, finish_norm, finish_ret, outK_some, keep_true, keep_false, keep_nil, p_bin, p_pick, p_un, p_eq, p_conv, evNew, pureK_some, newK_some, X.eval, set_none, set_some, List.map_cons, List.map_nil, List.getD_cons_zero, List.getD_cons_succ, List.getD_nil, List.set_cons_zero, List.set_cons_succ, binCV, unCV, isShift, intArithF_eq, shiftF_eq, wrapF_eq, intArith, shift, eqVal, bound, asNat_cast, cond_true, cond_false, BEq.rfl, beq_self_eq_true, evalParts, fillParts, AV.cells, AV.ofCells, XV.av, AV.xv, List.length_cons, List.length_nil, zeros, patch, setMany, List.nil_append, List.cons_append, Nat.ble, Nat.add_eq, Nat.zero_add, Nat.add_zero, Nat.reduceAdd, Nat.reduceMul, Nat.reduceSub, Nat.ble_eq, Nat.reduceLeDiff, Nat.reduceBEq, Int.reduceBEq, Int.reduceNeg, Bool.and_true, Bool.and_false, Bool.true_and, Bool.false_and, Bool.not_true, Bool.not_false, Bool.true_eq_false, Bool.false_eq_true, Int.reduceLT, Int.reduceLE, Int.reduceGT, Int.reduceGE, decide_true, decide_false, Bool.not_eq_true, loopN_norm, loopN_exit, tf, ft, ff, decide_eq_true c1]
    exact ⟨h, rfl, t, ExtB.refl _ _⟩
  have e1 := rfind_ok (N := N) (d := d) t low key (by omega) hN h1 h2
  obtain ⟨_, hf2⟩ := findM_lt ss (key := key) (by omega) h1 h2
  by_cases c2 : 0 ≤ (findM ss key).1
  · have c2' : (findM ss key).1 ≥ 0 := c2
    simp only [if_neg c1, if_pos c2, enter_eq, ev_seq, seqK_norm, seqK_exit, seqK_ret, ev_reg, ev_cond, condK_true, condK_false, ev_block, blockK_norm, blockK_ret, blockK_exit, ev_loop, ev_skip, ev_exit, ev_ret, regK_cons, regK_nil, guard_none, guard_some, regG_true, regG_false, regO_some, op_mov, op_conv, op_bin, op_bsl, op_box, op_mks, op_s2b, op_pick, op_un, op_eq, op_len, op_ext, op_load, op_iaddr, op_slice, op_b2s, op_idxS, op_mx, op_mn, op_call, op_store, op_app, op_copy, args_eq, result_one', rv_loc, finish_norm, finish_ret, outK_some, keep_true, keep_false, keep_nil, p_bin, p_pick, p_un, p_eq, p_conv, evNew, pureK_some, newK_some, X.eval, set_none, set_some, List.map_cons, List.map_nil, List.getD_cons_zero, List.getD_cons_succ, List.getD_nil, List.set_cons_zero, List.set_cons_succ, binCV, unCV, isShift, intArithF_eq, shiftF_eq, wrapF_eq, intArith, shift, eqVal, bound, asNat_cast, cond_true, cond_false, BEq.rfl, beq_self_eq_true, evalParts, fillParts, AV.cells, AV.ofCells, XV.av, AV.xv, List.length_cons, List.length_nil, zeros, patch, setMany, List.nil_append, List.cons_append, Nat.ble, Nat.add_eq, Nat.zero_add, Nat.add_zero, Nat.reduceAdd, Nat.reduceMul, Nat.reduceSub, Nat.ble_eq, Nat.reduceLeDiff, Nat.reduceBEq, Int.reduceBEq, Int.reduceNeg, Bool.and_true, Bool.and_false, Bool.true_and, Bool.false_and, Bool.not_true, Bool.not_false, Bool.true_eq_false, Bool.false_eq_true, Int.reduceLT, Int.reduceLE, Int.reduceGT, Int.reduceGE, decide_true, decide_false, Bool.not_eq_true, loopN_norm, loopN_exit, tf, ft, ff, decide_eq_false c1, decide_eq_true c2', e1, p_ext, List.getElem?_cons_zero, List.getElem?_cons_succ]
    exact ⟨h, rfl, t, ExtB.refl _ _⟩
  have c2' : ¬ (findM ss key).1 ≥ 0 := c2
  by_cases c3 : (findM ss key).2 < 0
  · simp only [if_neg c1, if_neg c2, if_pos c3, enter_eq, ev_seq, seqK_norm, seqK_exit, seqK_ret, ev_reg, ev_cond, condK_true, condK_false, ev_block, blockK_norm, blockK_ret, blockK_exit, ev_loop, ev_skip, ev_exit, ev_ret, regK_cons, regK_nil, guard_none, guard_some, regG_true, regG_false, regO_some, op_mov, op_conv, op_bin, op_bsl, op_box, op_mks, op_s2b, op_pick, op_un, op_eq, op_len, op_ext, op_load, op_iaddr, op_slice, op_b2s, op_idxS, op_mx, op_mn, op_call, op_store, op_app, op_copy, args_eq, result_one', rv_loc, finish_norm, finish_ret, outK_some, keep_true, keep_false, keep_nil, p_bin, p_pick, p_un, p_eq, p_conv, evNew, pureK_some, newK_some, X.eval, set_none, set_some, List.map_cons, List.map_nil, List.getD_cons_zero, List.getD_cons_succ, List.getD_nil, List.set_cons_zero, List.set_cons_succ, binCV, unCV, isShift, intArithF_eq, shiftF_eq, wrapF_eq, intArith, shift, eqVal, bound, asNat_cast, cond_true, cond_false, BEq.rfl, beq_self_eq_true, evalParts, fillParts, AV.cells, AV.ofCells, XV.av, AV.xv, List.length_cons, List.length_nil, zeros, patch, setMany, List.nil_append, List.cons_append, Nat.ble, Nat.add_eq, Nat.zero_add, Nat.add_zero, Nat.reduceAdd, Nat.reduceMul, Nat.reduceSub, Nat.ble_eq, Nat.reduceLeDiff, Nat.reduceBEq, Int.reduceBEq, Int.reduceNeg, Bool.and_true, Bool.and_false, Bool.true_and, Bool.false_and, Bool.not_true, Bool.not_false, Bool.true_eq_false, Bool.false_eq_true, Int.reduceLT, Int.reduceLE, Int.reduceGT, Int.reduceGE, decide_true, decide_false, Bool.not_eq_true, loopN_norm, loopN_exit, tf, ft, ff, decide_eq_false c1, decide_eq_false c2', decide_eq_true c3, e1, p_ext, List.getElem?_cons_zero, List.getElem?_cons_succ]
    exact ⟨h, rfl, t, ExtB.refl _ _⟩
  obtain ⟨r, hr, hrl⟩ : ∃ r : Nat, (findM ss key).2 = (r : Int) ∧ r < ss.length := by
    rcases hf2 with hf2 | hf2
    · omega
    · exact hf2
  obtain ⟨h3, w1, t1, x1, _⟩ := t.write hrl key v
  obtain ⟨cc, hc⟩ := t.cell
  have r0 : h.read q 0 1 = some [.sl b 0 ss.length cc] := read_cells hc rfl
  have m1 : Nat.blt r ss.length = true := bltT hrl
  have c3' : decide ((r : Int) < 0) = false := decide_eq_false (by omega)
  rw [hr] at e1
  simp only [if_neg c1, if_neg c2, hr, if_neg (show ¬ ((r : Int) < 0) by omega), Int.toNat_natCast, enter_eq, ev_seq, seqK_norm, seqK_exit, seqK_ret, ev_reg, ev_cond, condK_true, condK_false, ev_block, blockK_norm, blockK_ret, blockK_exit, ev_loop, ev_skip, ev_exit, ev_ret, regK_cons, regK_nil, guard_none, guard_some, regG_true, regG_false, regO_some, op_mov, op_conv, op_bin, op_bsl, op_box, op_mks, op_s2b, op_pick, op_un, op_eq, op_len, op_ext, op_load, op_iaddr, op_slice, op_b2s, op_idxS, op_mx, op_mn, op_call, op_store, op_app, op_copy, args_eq, result_one', rv_loc, finish_norm, finish_ret, outK_some, keep_true, keep_false, keep_nil, p_bin, p_pick, p_un, p_eq, p_conv, evNew, pureK_some, newK_some, X.eval, set_none, set_some, List.map_cons, List.map_nil, List.getD_cons_zero, List.getD_cons_succ, List.getD_nil, List.set_cons_zero, List.set_cons_succ, binCV, unCV, isShift, intArithF_eq, shiftF_eq, wrapF_eq, intArith, shift, eqVal, bound, asNat_cast, cond_true, cond_false, BEq.rfl, beq_self_eq_true, evalParts, fillParts, AV.cells, AV.ofCells, XV.av, AV.xv, List.length_cons, List.length_nil, zeros, patch, setMany, List.nil_append, List.cons_append, Nat.ble, Nat.add_eq, Nat.zero_add, Nat.add_zero, Nat.reduceAdd, Nat.reduceMul, Nat.reduceSub, Nat.ble_eq, Nat.reduceLeDiff, Nat.reduceBEq, Int.reduceBEq, Int.reduceNeg, Bool.and_true, Bool.and_false, Bool.true_and, Bool.false_and, Bool.not_true, Bool.not_false, Bool.true_eq_false, Bool.false_eq_true, Int.reduceLT, Int.reduceLE, Int.reduceGT, Int.reduceGE, decide_true, decide_false, Bool.not_eq_true, loopN_norm, loopN_exit, tf, ft, ff, decide_eq_false c1, decide_eq_false c2', c3', e1, p_ext, List.getElem?_cons_zero, List.getElem?_cons_succ, op_nilchk, p_nilchk, op_faddr, p_faddr, op_build, p_build', p_iaddr, p_load, r0, AV.ofCells, m1, evEff, w1]
  exact ⟨h3, rfl, t1, x1⟩

theorem rget_ok (t : RT h q b ss) (low : Low ss) (key : Int) (hN : ss.length + 2 ≤ N) (h1 : 1 ≤ ss.length) (h2 : ss.length ≤ 1024) :
    evCallT table 25 N (d + 3) 36 [.c (.ptr q 0), .c (.int .i64 key)] h = some (.c (.int .i64 (getM ss key)), h) := by
  rw [evCallT_eq (F := ir36) rfl rfl rfl]
  unfold ir36 getM
  rw [bodyK_eq]
  by_cases c1 : key < 0
  · rw [if_pos (.inl c1)]; simp only [enter_eq, ev_seq, seqK_norm, seqK_exit, seqK_ret, ev_reg, ev_cond, condK_true, condK_false, ev_block, blockK_norm, blockK_ret, blockK_exit, ev_loop, ev_skip, ev_exit, ev_ret, regK_cons, regK_nil, guard_none, guard_some, regG_true, regG_false, regO_some, op_mov, op_conv, op_bin, op_bsl, op_box, op_mks, op_s2b, op_pick, op_un, op_eq, op_len, op_ext, op_load, op_iaddr, op_slice, op_b2s, op_idxS, op_mx, op_mn, op_call, op_store, op_app, op_copy, args_eq, result_one', rv_loc, finish_norm, finish_ret, outK_some, keep_true, keep_false, keep_nil, p_bin, p_pick, p_un, p_eq, p_conv, evNew, pureK_some, newK_some, X.eval, set_none, set_some, List.map_cons, List.map_nil, List.getD_cons_zero, List.getD_cons_succ, List.getD_nil, List.set_cons_zero, List.set_cons_succ, binCV, unCV, isShift, intArithF_eq, shiftF_eq, wrapF_eq, intArith, shift, eqVal, bound, asNat_cast, cond_true, cond_false, BEq.rfl, beq_self_eq_true, evalParts, fillParts, AV.cells, AV.ofCells, XV.av, AV.xv, List.length_cons, List.length_nil, zeros, patch, setMany, List.nil_append, List.cons_append, Nat.ble, Nat.add_eq, Nat.zero_add, Nat.add_zero, Nat.reduceAdd, Nat.reduceMul, Nat.reduceSub, Nat.ble_eq, Nat.reduceLeDiff, Nat.reduceBEq, Int.reduceBEq, Int.reduceNeg, Bool.and_true, Bool.and_false, Bool.true_and, Bool.false_and, Bool.not_true, Bool.not_false, Bool.true_eq_false, Bool.false_eq_true, Int.reduceLT, Int.reduceLE, Int.reduceGT, Int.reduceGE, decide_true, decide_false, Bool.not_eq_true, loopN_norm, loopN_exit, tf, ft, ff, decide_eq_true c1]
  have e1 := rfind_ok (N := N) (d := d) t low key (by omega) hN h1 h2
  obtain ⟨hf, _⟩ := findM_lt ss (key := key) (by omega) h1 h2
  obtain ⟨cc, hc⟩ := t.cell
  have r0 : h.read q 0 1 = some [.sl b 0 ss.length cc] := read_cells hc rfl
  rcases hf with hf | ⟨r, hf, hr⟩
  · rw [if_pos (.inr (by omega))]
    rw [hf] at e1
    simp only [enter_eq, ev_seq, seqK_norm, seqK_exit, seqK_ret, ev_reg, ev_cond, condK_true, condK_false, ev_block, blockK_norm, blockK_ret, blockK_exit, ev_loop, ev_skip, ev_exit, ev_ret, regK_cons, regK_nil, guard_none, guard_some, regG_true, regG_false, regO_some, op_mov, op_conv, op_bin, op_bsl, op_box, op_mks, op_s2b, op_pick, op_un, op_eq, op_len, op_ext, op_load, op_iaddr, op_slice, op_b2s, op_idxS, op_mx, op_mn, op_call, op_store, op_app, op_copy, args_eq, result_one', rv_loc, finish_norm, finish_ret, outK_some, keep_true, keep_false, keep_nil, p_bin, p_pick, p_un, p_eq, p_conv, evNew, pureK_some, newK_some, X.eval, set_none, set_some, List.map_cons, List.map_nil, List.getD_cons_zero, List.getD_cons_succ, List.getD_nil, List.set_cons_zero, List.set_cons_succ, binCV, unCV, isShift, intArithF_eq, shiftF_eq, wrapF_eq, intArith, shift, eqVal, bound, asNat_cast, cond_true, cond_false, BEq.rfl, beq_self_eq_true, evalParts, fillParts, AV.cells, AV.ofCells, XV.av, AV.xv, List.length_cons, List.length_nil, zeros, patch, setMany, List.nil_append, List.cons_append, Nat.ble, Nat.add_eq, Nat.zero_add, Nat.add_zero, Nat.reduceAdd, Nat.reduceMul, Nat.reduceSub, Nat.ble_eq, Nat.reduceLeDiff, Nat.reduceBEq, Int.reduceBEq, Int.reduceNeg, Bool.and_true, Bool.and_false, Bool.true_and, Bool.false_and, Bool.not_true, Bool.not_false, Bool.true_eq_false, Bool.false_eq_true, Int.reduceLT, Int.reduceLE, Int.reduceGT, Int.reduceGE, decide_true, decide_false, Bool.not_eq_true, loopN_norm, loopN_exit, tf, ft, ff, decide_eq_false c1, e1, p_ext, List.getElem?_cons_zero, List.getElem?_cons_succ]
  · rw [if_neg (by omega), hf, Int.toNat_natCast, getD_slot hr]
    rw [hf] at e1
    have c2 : decide ((r : Int) ≥ 0) = true := decide_eq_true (by omega)
    have m1 : Nat.blt r ss.length = true := bltT hr
    have rv := t.rv hr
    simp only [enter_eq, ev_seq, seqK_norm, seqK_exit, seqK_ret, ev_reg, ev_cond, condK_true, condK_false, ev_block, blockK_norm, blockK_ret, blockK_exit, ev_loop, ev_skip, ev_exit, ev_ret, regK_cons, regK_nil, guard_none, guard_some, regG_true, regG_false, regO_some, op_mov, op_conv, op_bin, op_bsl, op_box, op_mks, op_s2b, op_pick, op_un, op_eq, op_len, op_ext, op_load, op_iaddr, op_slice, op_b2s, op_idxS, op_mx, op_mn, op_call, op_store, op_app, op_copy, args_eq, result_one', rv_loc, finish_norm, finish_ret, outK_some, keep_true, keep_false, keep_nil, p_bin, p_pick, p_un, p_eq, p_conv, evNew, pureK_some, newK_some, X.eval, set_none, set_some, List.map_cons, List.map_nil, List.getD_cons_zero, List.getD_cons_succ, List.getD_nil, List.set_cons_zero, List.set_cons_succ, binCV, unCV, isShift, intArithF_eq, shiftF_eq, wrapF_eq, intArith, shift, eqVal, bound, asNat_cast, cond_true, cond_false, BEq.rfl, beq_self_eq_true, evalParts, fillParts, AV.cells, AV.ofCells, XV.av, AV.xv, List.length_cons, List.length_nil, zeros, patch, setMany, List.nil_append, List.cons_append, Nat.ble, Nat.add_eq, Nat.zero_add, Nat.add_zero, Nat.reduceAdd, Nat.reduceMul, Nat.reduceSub, Nat.ble_eq, Nat.reduceLeDiff, Nat.reduceBEq, Int.reduceBEq, Int.reduceNeg, Bool.and_true, Bool.and_false, Bool.true_and, Bool.false_and, Bool.not_true, Bool.not_false, Bool.true_eq_false, Bool.false_eq_true, Int.reduceLT, Int.reduceLE, Int.reduceGT, Int.reduceGE, decide_true, decide_false, Bool.not_eq_true, loopN_norm, loopN_exit, tf, ft, ff, decide_eq_false c1, e1, p_ext, List.getElem?_cons_zero, List.getElem?_cons_succ, c2, op_nilchk, p_nilchk, op_faddr, p_faddr, p_iaddr, p_load, r0, AV.ofCells, m1, rv]

theorem rout_ok (t : RT h q b ss) (low : Low ss) (key : Int) (hN : ss.length + 2 ≤ N) (h1 : 1 ≤ ss.length) (h2 : ss.length ≤ 1024) :
    ∃ h', evCallT table 25 N (d + 3) 35 [.c (.ptr q 0), .c (.int .i64 key)] h = some (.c (.int .i64 (outM ss key).1), h') ∧ RT h' q b (outM ss key).2 ∧ ExtB [b] h h' := by
  rw [evCallT_eq (F := ir35) rfl rfl rfl]
  unfold ir35 outM
  rw [bodyK_eq]
  by_cases c1 : key < 0
  · simp only [if_pos c1, enter_eq, ev_seq, seqK_norm, seqK_exit, seqK_ret, ev_reg, ev_cond, condK_true, condK_false, ev_block, blockK_norm, blockK_ret, blockK_exit, ev_loop, ev_skip, ev_exit, ev_ret, regK_cons, regK_nil, guard_none, guard_some, regG_true, regG_false, regO_some, op_mov, op_conv, op_bin, op_bsl, op_box, op_mks, op_s2b, op_pick, op_un, op_eq, op_len, op_ext, op_load, op_iaddr, op_slice, op_b2s, op_idxS, op_mx, op_mn, op_call, op_store, op_app, op_copy, args_eq, result_one', rv_loc, finish_norm, finish_ret, outK_some, keep_true, keep_false, keep_nil, p_bin, p_pick, p_un, p_eq, p_conv, evNew, pureK_some, newK_some, X.eval, set_none, set_some, List.map_cons, List.map_nil, List.getD_cons_zero, List.getD_cons_succ, List.getD_nil, List.set_cons_zero, List.set_cons_succ, binCV, unCV, isShift, intArithF_eq, shiftF_eq, wrapF_eq, intArith, shift, eqVal, bound, asNat_cast, cond_true, cond_false, BEq.rfl, beq_self_eq_true, evalParts, fillParts, AV.cells, AV.ofCells, XV.av, AV.xv, List.length_cons, List.length_nil, zeros, patch, setMany, List.nil_append, List.cons_append, Nat.ble, Nat.add_eq, Nat.zero_add, Nat.add_zero, Nat.reduceAdd, Nat.reduceMul, Nat.reduceSub, Nat.ble_eq, Nat.reduceLeDiff, Nat.reduceBEq, Int.reduceBEq, Int.reduceNeg, Bool.and_true, Bool.and_false, Bool.true_and, Bool.false_and, Bool.not_true, Bool.not_false, Bool.true_eq_false, Bool.false_eq_true, Int.reduceLT, Int.reduceLE, Int.reduceGT, Int.reduceGE, decide_true, decide_false, Bool.not_eq_true, loopN_norm, loopN_exit, tf, ft, ff, decide_eq_true c1]
    exact ⟨h, rfl, t, ExtB.refl _ _⟩
  have e1 := rfind_ok (N := N) (d := d) t low key (by omega) hN h1 h2
  obtain ⟨hf, _⟩ := findM_lt ss (key := key) (by omega) h1 h2
  by_cases c2 : (findM ss key).1 < 0
  · simp only [if_neg c1, if_pos c2, enter_eq, ev_seq, seqK_norm, seqK_exit, seqK_ret, ev_reg, ev_cond, condK_true, condK_false, ev_block, blockK_norm, blockK_ret, blockK_exit, ev_loop, ev_skip, ev_exit, ev_ret, regK_cons, regK_nil, guard_none, guard_some, regG_true, regG_false, regO_some, op_mov, op_conv, op_bin, op_bsl, op_box, op_mks, op_s2b, op_pick, op_un, op_eq, op_len, op_ext, op_load, op_iaddr, op_slice, op_b2s, op_idxS, op_mx, op_mn, op_call, op_store, op_app, op_copy, args_eq, result_one', rv_loc, finish_norm, finish_ret, outK_some, keep_true, keep_false, keep_nil, p_bin, p_pick, p_un, p_eq, p_conv, evNew, pureK_some, newK_some, X.eval, set_none, set_some, List.map_cons, List.map_nil, List.getD_cons_zero, List.getD_cons_succ, List.getD_nil, List.set_cons_zero, List.set_cons_succ, binCV, unCV, isShift, intArithF_eq, shiftF_eq, wrapF_eq, intArith, shift, eqVal, bound, asNat_cast, cond_true, cond_false, BEq.rfl, beq_self_eq_true, evalParts, fillParts, AV.cells, AV.ofCells, XV.av, AV.xv, List.length_cons, List.length_nil, zeros, patch, setMany, List.nil_append, List.cons_append, Nat.ble, Nat.add_eq, Nat.zero_add, Nat.add_zero, Nat.reduceAdd, Nat.reduceMul, Nat.reduceSub, Nat.ble_eq, Nat.reduceLeDiff, Nat.reduceBEq, Int.reduceBEq, Int.reduceNeg, Bool.and_true, Bool.and_false, Bool.true_and, Bool.false_and, Bool.not_true, Bool.not_false, Bool.true_eq_false, Bool.false_eq_true, Int.reduceLT, Int.reduceLE, Int.reduceGT, Int.reduceGE, decide_true, decide_false, Bool.not_eq_true, loopN_norm, loopN_exit, tf, ft, ff, decide_eq_false c1, decide_eq_true c2, e1, p_ext, List.getElem?_cons_zero, List.getElem?_cons_succ]
    exact ⟨h, rfl, t, ExtB.refl _ _⟩
  obtain ⟨r, hr, hrl⟩ : ∃ r : Nat, (findM ss key).1 = (r : Int) ∧ r < ss.length := by
    rcases hf with hf | hf
    · omega
    · exact hf
  obtain ⟨cc, hc⟩ := t.cell
  have r0 : h.read q 0 1 = some [.sl b 0 ss.length cc] := read_cells hc rfl
  obtain ⟨h3, w1, t1, x1, n1⟩ := t.write hrl (-2) 0
  have e2 := rlen_ok (N := N) (d := d + 1) t1 (by simpa using hN) (by simpa using h2)
  have rv := t.rv hrl
  have m1 : Nat.blt r ss.length = true := bltT hrl
  have c2' : decide ((r : Int) < 0) = false := decide_eq_false (by omega)
  rw [hr] at e1
  by_cases hz : cnt (ss.set r (-2, 0)) = 0
  · have q0 : ((cnt (ss.set r (-2, 0)) : Int) == 0) = true := by simp [hz]
    have L : ∀ loc, keepOnly ir35_k0 loc = [.c (.ptr q 0), .junk, .junk, .junk, .c (.int .i64 ss[r].2), .c (.int .i64 0), .junk, .junk, .junk, .junk] →
        ∃ rr, loopK (evCallT table 25 N (d + 2)) N ir35_k0 ir35_l0 N loc h3 = some rr ∧ ∃ c0 c1 c2 c3 l h', rr = (.exit 0, c0 :: c1 :: c2 :: c3 :: .c (.int .i64 ss[r].2) :: l, h') ∧ RT h' q b (List.replicate ss.length (-1, 0)) ∧ ExtB [b] h h' := by
      intro loc hloc
      refine loop_inv (n := ss.length) (fun i loc h' => ∃ ss' : Slots, ss'.length = ss.length ∧ (∀ j, j < i → ss'[j]? = some (-1, 0)) ∧ RT h' q b ss' ∧ ExtB [b] h h' ∧ loc = [.c (.ptr q 0), .junk, .junk, .junk, .c (.int .i64 ss[r].2), .c (.int .i64 (i : Int)), .junk, .junk, .junk, .junk]) _ ?_ ⟨_, by simp, fun j hj => absurd hj (by omega), t1, x1, hloc⟩ (by omega)
      rintro i loc h' hi ⟨ss', hl, hj, t', he, rfl⟩
      obtain ⟨c', hc'⟩ := t'.cell
      rw [hl] at hc'
      have r0' : h'.read q 0 1 = some [.sl b 0 ss.length c'] := read_cells hc' rfl
      have ll : ∀ loc vals h', evPure loc (.c (.sl b 0 ss.length c') :: vals) h' (.len .sl (.val 0)) = some (.c (.int .i64 (ss.length : Int))) := fun _ _ _ => rfl
      unfold ir35_l0
      by_cases hlt : i < ss.length
      · left
        refine ⟨hlt, ?_⟩
        have v1 : decide ((i : Int) < (ss.length : Int)) = true := ltNat hlt
        have v2 := succI (i := i) (by omega)
        obtain ⟨h4, w4, t4, x4, n4⟩ := t'.write (i := i) (by omega) (-1) 0
        have m2 : Nat.blt i ss.length = true := bltT hlt
        simp only [enter_eq, ev_seq, seqK_norm, seqK_exit, seqK_ret, ev_reg, ev_cond, condK_true, condK_false, ev_block, blockK_norm, blockK_ret, blockK_exit, ev_loop, ev_skip, ev_exit, ev_ret, regK_cons, regK_nil, guard_none, guard_some, regG_true, regG_false, regO_some, op_mov, op_conv, op_bin, op_bsl, op_box, op_mks, op_s2b, op_pick, op_un, op_eq, op_len, op_ext, op_load, op_iaddr, op_slice, op_b2s, op_idxS, op_mx, op_mn, op_call, op_store, op_app, op_copy, args_eq, result_one', rv_loc, finish_norm, finish_ret, outK_some, keep_true, keep_false, keep_nil, p_bin, p_pick, p_un, p_eq, p_conv, evNew, pureK_some, newK_some, X.eval, set_none, set_some, List.map_cons, List.map_nil, List.getD_cons_zero, List.getD_cons_succ, List.getD_nil, List.set_cons_zero, List.set_cons_succ, binCV, unCV, isShift, intArithF_eq, shiftF_eq, wrapF_eq, intArith, shift, eqVal, bound, asNat_cast, cond_true, cond_false, BEq.rfl, beq_self_eq_true, evalParts, fillParts, AV.cells, AV.ofCells, XV.av, AV.xv, List.length_cons, List.length_nil, zeros, patch, setMany, List.nil_append, List.cons_append, Nat.ble, Nat.add_eq, Nat.zero_add, Nat.add_zero, Nat.reduceAdd, Nat.reduceMul, Nat.reduceSub, Nat.ble_eq, Nat.reduceLeDiff, Nat.reduceBEq, Int.reduceBEq, Int.reduceNeg, Bool.and_true, Bool.and_false, Bool.true_and, Bool.false_and, Bool.not_true, Bool.not_false, Bool.true_eq_false, Bool.false_eq_true, Int.reduceLT, Int.reduceLE, Int.reduceGT, Int.reduceGE, decide_true, decide_false, Bool.not_eq_true, loopN_norm, loopN_exit, tf, ft, ff, op_nilchk, p_nilchk, op_faddr, p_faddr, op_build, p_build', p_iaddr, p_load, r0', AV.ofCells, ll, m2, v1, v2, evEff, w4]
        refine ⟨_, _, rfl, _, by simpa using hl, fun j hji => ?_, t4, he.trans x4, rfl⟩
        by_cases e : j = i
        · subst e; rw [List.getElem?_set_self (by omega)]
        · rw [List.getElem?_set_ne (by omega)]; exact hj j (by omega)
      · right
        have hin : i = ss.length := by omega
        subst hin
        have v1 : decide ((ss.length : Int) < (ss.length : Int)) = false := geNat (Nat.le_refl _)
        simp only [enter_eq, ev_seq, seqK_norm, seqK_exit, seqK_ret, ev_reg, ev_cond, condK_true, condK_false, ev_block, blockK_norm, blockK_ret, blockK_exit, ev_loop, ev_skip, ev_exit, ev_ret, regK_cons, regK_nil, guard_none, guard_some, regG_true, regG_false, regO_some, op_mov, op_conv, op_bin, op_bsl, op_box, op_mks, op_s2b, op_pick, op_un, op_eq, op_len, op_ext, op_load, op_iaddr, op_slice, op_b2s, op_idxS, op_mx, op_mn, op_call, op_store, op_app, op_copy, args_eq, result_one', rv_loc, finish_norm, finish_ret, outK_some, keep_true, keep_false, keep_nil, p_bin, p_pick, p_un, p_eq, p_conv, evNew, pureK_some, newK_some, X.eval, set_none, set_some, List.map_cons, List.map_nil, List.getD_cons_zero, List.getD_cons_succ, List.getD_nil, List.set_cons_zero, List.set_cons_succ, binCV, unCV, isShift, intArithF_eq, shiftF_eq, wrapF_eq, intArith, shift, eqVal, bound, asNat_cast, cond_true, cond_false, BEq.rfl, beq_self_eq_true, evalParts, fillParts, AV.cells, AV.ofCells, XV.av, AV.xv, List.length_cons, List.length_nil, zeros, patch, setMany, List.nil_append, List.cons_append, Nat.ble, Nat.add_eq, Nat.zero_add, Nat.add_zero, Nat.reduceAdd, Nat.reduceMul, Nat.reduceSub, Nat.ble_eq, Nat.reduceLeDiff, Nat.reduceBEq, Int.reduceBEq, Int.reduceNeg, Bool.and_true, Bool.and_false, Bool.true_and, Bool.false_and, Bool.not_true, Bool.not_false, Bool.true_eq_false, Bool.false_eq_true, Int.reduceLT, Int.reduceLE, Int.reduceGT, Int.reduceGE, decide_true, decide_false, Bool.not_eq_true, loopN_norm, loopN_exit, tf, ft, ff, op_nilchk, p_nilchk, op_faddr, p_faddr, p_load, r0', AV.ofCells, ll, v1]
        have : ss' = List.replicate ss.length (-1, 0) := by
          apply List.ext_getElem?
          intro j
          rcases Nat.lt_or_ge j ss.length with h1 | h1
          · rw [hj j h1]; simp [h1]
          · rw [List.getElem?_eq_none (by omega), List.getElem?_eq_none (by simp; omega)]
        subst this
        exact ⟨_, rfl, by simp, _, _, _, _, _, h', rfl, t', he⟩
    obtain ⟨rr, hrr, d0, d1, d2, d3, l, h', rfl, t', he⟩ := L [.c (.ptr q 0), .c (.int .i64 key), .c (.int .i64 0), .c (.int .i64 (r : Int)), .c (.int .i64 ss[r].2), .c (.int .i64 0), .c (.bool false), .c (.bool false), .c (.bool true), .tup []] rfl
    simp only [if_neg c1, hr, if_neg (show ¬ ((r : Int) < 0) by omega), Int.toNat_natCast, getD_slot hrl, if_pos hz, enter_eq, ev_seq, seqK_norm, seqK_exit, seqK_ret, ev_reg, ev_cond, condK_true, condK_false, ev_block, blockK_norm, blockK_ret, blockK_exit, ev_loop, ev_skip, ev_exit, ev_ret, regK_cons, regK_nil, guard_none, guard_some, regG_true, regG_false, regO_some, op_mov, op_conv, op_bin, op_bsl, op_box, op_mks, op_s2b, op_pick, op_un, op_eq, op_len, op_ext, op_load, op_iaddr, op_slice, op_b2s, op_idxS, op_mx, op_mn, op_call, op_store, op_app, op_copy, args_eq, result_one', rv_loc, finish_norm, finish_ret, outK_some, keep_true, keep_false, keep_nil, p_bin, p_pick, p_un, p_eq, p_conv, evNew, pureK_some, newK_some, X.eval, set_none, set_some, List.map_cons, List.map_nil, List.getD_cons_zero, List.getD_cons_succ, List.getD_nil, List.set_cons_zero, List.set_cons_succ, binCV, unCV, isShift, intArithF_eq, shiftF_eq, wrapF_eq, intArith, shift, eqVal, bound, asNat_cast, cond_true, cond_false, BEq.rfl, beq_self_eq_true, evalParts, fillParts, AV.cells, AV.ofCells, XV.av, AV.xv, List.length_cons, List.length_nil, zeros, patch, setMany, List.nil_append, List.cons_append, Nat.ble, Nat.add_eq, Nat.zero_add, Nat.add_zero, Nat.reduceAdd, Nat.reduceMul, Nat.reduceSub, Nat.ble_eq, Nat.reduceLeDiff, Nat.reduceBEq, Int.reduceBEq, Int.reduceNeg, Bool.and_true, Bool.and_false, Bool.true_and, Bool.false_and, Bool.not_true, Bool.not_false, Bool.true_eq_false, Bool.false_eq_true, Int.reduceLT, Int.reduceLE, Int.reduceGT, Int.reduceGE, decide_true, decide_false, Bool.not_eq_true, loopN_norm, loopN_exit, tf, ft, ff, decide_eq_false c1, c2', e1, e2, q0, p_ext, List.getElem?_cons_zero, List.getElem?_cons_succ, op_nilchk, p_nilchk, op_faddr, p_faddr, op_build, p_build', p_iaddr, p_load, r0, rv, AV.ofCells, m1, evEff, w1, hrr, blockK_exit_eq]
    exact ⟨h', rfl, t', he⟩
  · have q0 : ((cnt (ss.set r (-2, 0)) : Int) == 0) = false := by simp only [beq_eq_false_iff_ne, ne_eq]; omega
    simp only [if_neg c1, hr, if_neg (show ¬ ((r : Int) < 0) by omega), Int.toNat_natCast, getD_slot hrl, if_neg hz, enter_eq, ev_seq, seqK_norm, seqK_exit, seqK_ret, ev_reg, ev_cond, condK_true, condK_false, ev_block, blockK_norm, blockK_ret, blockK_exit, ev_loop, ev_skip, ev_exit, ev_ret, regK_cons, regK_nil, guard_none, guard_some, regG_true, regG_false, regO_some, op_mov, op_conv, op_bin, op_bsl, op_box, op_mks, op_s2b, op_pick, op_un, op_eq, op_len, op_ext, op_load, op_iaddr, op_slice, op_b2s, op_idxS, op_mx, op_mn, op_call, op_store, op_app, op_copy, args_eq, result_one', rv_loc, finish_norm, finish_ret, outK_some, keep_true, keep_false, keep_nil, p_bin, p_pick, p_un, p_eq, p_conv, evNew, pureK_some, newK_some, X.eval, set_none, set_some, List.map_cons, List.map_nil, List.getD_cons_zero, List.getD_cons_succ, List.getD_nil, List.set_cons_zero, List.set_cons_succ, binCV, unCV, isShift, intArithF_eq, shiftF_eq, wrapF_eq, intArith, shift, eqVal, bound, asNat_cast, cond_true, cond_false, BEq.rfl, beq_self_eq_true, evalParts, fillParts, AV.cells, AV.ofCells, XV.av, AV.xv, List.length_cons, List.length_nil, zeros, patch, setMany, List.nil_append, List.cons_append, Nat.ble, Nat.add_eq, Nat.zero_add, Nat.add_zero, Nat.reduceAdd, Nat.reduceMul, Nat.reduceSub, Nat.ble_eq, Nat.reduceLeDiff, Nat.reduceBEq, Int.reduceBEq, Int.reduceNeg, Bool.and_true, Bool.and_false, Bool.true_and, Bool.false_and, Bool.not_true, Bool.not_false, Bool.true_eq_false, Bool.false_eq_true, Int.reduceLT, Int.reduceLE, Int.reduceGT, Int.reduceGE, decide_true, decide_false, Bool.not_eq_true, loopN_norm, loopN_exit, tf, ft, ff, decide_eq_false c1, c2', e1, e2, q0, p_ext, List.getElem?_cons_zero, List.getElem?_cons_succ, op_nilchk, p_nilchk, op_faddr, p_faddr, op_build, p_build', p_iaddr, p_load, r0, rv, AV.ofCells, m1, evEff, w1]
    exact ⟨h3, rfl, t1, x1⟩
end
end Lav
