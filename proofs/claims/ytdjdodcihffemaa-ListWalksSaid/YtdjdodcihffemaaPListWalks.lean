/-
  Proved: whatever steps come in, lavabolaw4.ListWalks returns true and changes nothing that was there. No conditions beyond the given statement's.
-/
import Derived.Test.YtdjdodcihffemaaRows
import Derived.Test.YtdjdodcihffemaaOps0
import Derived.Test.YtdjdodcihffemaaList1
import Derived.Test.YtdjdodcihffemaaList2
import Derived.Test.YtdjdodcihffemaaList3
import Derived.Test.YtdjdodcihffemaaList4
import Derived.Test.YtdjdodcihffemaaFwO
import Derived.WalkKit
import Derived.ProofKit
import Derived.OpenShut
import Derived.ShutString
import Derived.ChangeOld
import Derived.Below
set_option maxRecDepth 100000
set_option linter.unusedSimpArgs false
namespace Lav
open Go (IntKind)
section
variable {h : Heap} {p b n : Nat} {o : List Int}
/-- Any step: what it answers is not looked at. -/
theorem front_any (t : LL h p b n o) (hn : n < 1000000) {x : Int} (h0 : 0 ≤ x) (h1 : x < (n : Int)) : ∃ e h' o', evCallT table 23 200 8 24 [.c (.ptr p 0), .c (.int .i64 x)] h = some (e, h') ∧ LL h' p b n o' ∧ ExtB [p, b] h h' := by
  have hl := t.le
  by_cases hx : x ∈ o
  · exact ⟨_, h, o, front_no (N := 200) (d := 6) t (fun h => h.2.2 hx), t, ExtB.refl _ _⟩
  · obtain ⟨h', e, t', x'⟩ := front_ok (N := 200) (d := 6) t h0 h1 hx (by omega)
    exact ⟨_, h', _, e, t', x'⟩
theorem back_any (t : LL h p b n o) (hn : n < 1000000) {x : Int} (h0 : 0 ≤ x) (h1 : x < (n : Int)) : ∃ e h' o', evCallT table 23 200 8 26 [.c (.ptr p 0), .c (.int .i64 x)] h = some (e, h') ∧ LL h' p b n o' ∧ ExtB [p, b] h h' := by
  have hl := t.le
  by_cases hx : x ∈ o
  · exact ⟨_, h, o, back_no (N := 200) (d := 6) t (fun h => h.2.2 hx), t, ExtB.refl _ _⟩
  · obtain ⟨h', e, t', x'⟩ := back_ok (N := 200) (d := 6) t h0 h1 hx (by omega)
    exact ⟨_, h', _, e, t', x'⟩
theorem out_any (t : LL h p b n o) (hn : n < 1000000) (x : Int) : ∃ e h' o', evCallT table 23 200 8 28 [.c (.ptr p 0), .c (.int .i64 x)] h = some (e, h') ∧ LL h' p b n o' ∧ ExtB [p, b] h h' := by
  have hl := t.le
  by_cases hx : x ∈ o
  · obtain ⟨h', e, t', x'⟩ := out_ok (N := 200) (d := 6) t hx (by omega)
    exact ⟨_, h', _, e, t', x'⟩
  · exact ⟨_, h, o, out_no (N := 200) (d := 6) t hx, t, ExtB.refl _ _⟩
end

def marks (l : List Int) : List CV := (List.range 40).map fun (j : Nat) => bcell (decide ((j : Int) ∈ l))
theorem marks_get (l : List Int) {k : Nat} (hk : k < 40) : (marks l)[k]? = some (.bool (decide ((k : Int) ∈ l))) := by
  simp [marks, hk, bcell]
theorem marks_set (l : List Int) {k : Nat} : (marks l).set k (.bool true) = marks (l ++ [(k : Int)]) := by
  apply List.ext_getElem?
  intro j
  by_cases hj : j < 40
  · rw [marks_get _ hj]
    by_cases e : k = j
    · subst e; rw [List.getElem?_set_self (by simp [marks, hj])]; simp
    · rw [List.getElem?_set_ne e, marks_get _ hj]
      have : ((j : Int) ∈ l ++ [(k : Int)]) ↔ (j : Int) ∈ l := by simp; omega
      simp only [this]
  · rw [List.getElem?_eq_none (by simp [marks]; omega), List.getElem?_eq_none (by simp [marks]; omega)]

theorem listWalks {x : CV} {h : Heap} {n : Nat} {xs : List Int} (hx : Recs 2 h x n xs) : good (evCallT table 23 200 9 7 [.c x] h) = true := by
  have lx : ∀ (loc vals : List AV) (h : Heap), evPure loc (.c x :: vals) h (.len .sl (.val 0)) = some (.c (.int .i64 (n : Int))) := fun _ _ _ => hx.len rfl
  obtain ⟨p, b, h1, e1, t1, x1, hp, hb⟩ : ∃ p b h', evCallT table 23 200 8 22 [.c (.int .i64 40)] h = some (.c (.ptr p 0), h') ∧ LL h' p b 40 [] ∧ Ext h h' ∧ h.next ≤ p ∧ h.next ≤ b := new_ok' (N := 200) (d := 7) 40 h (by omega)
  have hx1 := hx.ext x1
  have hxb : ∀ k, blk x = some k → k ∉ [p, b] := fun k hk => by
    rcases hx.is with ⟨rfl, _⟩ | ⟨i, o, c, rfl, hi⟩
    · cases hk
    · simp [blk] at hk; simp; omega
  rw [evCallT_eq (F := ir7) rfl rfl rfl]
  unfold ir7
  rw [bodyK_eq]
  have L2 : ∀ loc, keepOnly ir7_k2 loc = [.c x, .junk, .c (.ptr p 0), .c (.int .i64 0), .junk, .junk, .junk, .junk, .junk, .junk, .junk, .junk, .junk, .junk, .junk, .junk, .junk, .junk, .junk] →
      ∃ r, loopK (evCallT table 23 200 8) 200 ir7_k2 ir7_l2 200 loc h1 = some r ∧ ∃ a3 a11 h' o, r = (.exit 0, [.c x, .junk, .c (.ptr p 0), a3, .junk, .junk, .junk, .junk, .junk, .junk, .junk, a11, .junk, .junk, .junk, .junk, .junk, .junk, .junk], h') ∧ LL h' p b 40 o := by
    intro loc hloc
    refine loop_inv (n := min n 100) (fun i loc h' => ∃ o : List Int, LL h' p b 40 o ∧ Recs 2 h' x n xs ∧ loc = [.c x, .junk, .c (.ptr p 0), .c (.int .i64 (i : Int)), .junk, .junk, .junk, .junk, .junk, .junk, .junk, .junk, .junk, .junk, .junk, .junk, .junk, .junk, .junk]) _ ?_ ⟨[], t1, hx1, hloc⟩ (by omega)
    rintro i loc h' hi ⟨o, t, hx', rfl⟩
    unfold ir7_l2
    by_cases hlt : i < min n 100
    · left
      refine ⟨hlt, ?_⟩
      have v1 : decide ((i : Int) < (n : Int)) = true := ltNat (by omega)
      have v4 : decide ((i : Int) < 100) = true := ltNat (n := 100) (by omega)
      have v2 := succI (i := i) (by omega)
      obtain ⟨bx, ox, cc, rfl, _, _⟩ := hx'.sl (by omega)
      have m0 : Nat.blt i n = true := bltT (by omega)
      have r0 := hx'.at_ (i := i) (k := 0) (by omega) (by omega)
      have r1 := hx'.at_ (i := i) (k := 1) (by omega) (by omega)
      simp only [Nat.add_zero] at r0
      obtain ⟨k, hk, ek⟩ := few (a := xs.getD (i * 2 + 1) 0) (m := 40) (by omega) (by omega)
      have ek' : IntKind.i64.wrap (Int.tmod (IntKind.u64.wrap (xs.getD (i * 2 + 1) 0)) 40) = (k : Int) := ek
      have kx : ∀ {H : Heap}, ExtB [p, b] h' H → Recs 2 H (.sl bx ox n cc) n xs := fun e => hx'.extB e hxb
      cases q0 : (IntKind.i64.wrap ((BitVec.ofInt IntKind.i64.bits (xs.getD (i * 2) 0) &&& BitVec.ofInt IntKind.i64.bits 3).toNat : Int) == 0) with
      | true =>
        obtain ⟨e, h2, o2, e2, t2, x2⟩ := front_any t (by omega) (x := (k : Int)) (by omega) (by omega)
        simp only [enter_eq, ev_seq, seqK_norm, seqK_exit, seqK_ret, ev_reg, ev_cond, condK_true, condK_false, ev_block, blockK_norm, blockK_ret, blockK_exit, ev_loop, ev_skip, ev_exit, ev_ret, regK_cons, regK_nil, guard_none, guard_some, regG_true, regG_false, regO_some, op_mov, op_conv, op_bin, op_bsl, op_box, op_mks, op_s2b, op_pick, op_un, op_eq, op_len, op_ext, op_load, op_iaddr, op_slice, op_b2s, op_idxS, op_mx, op_mn, op_call, op_store, op_app, op_copy, args_eq, result_one', rv_loc, finish_norm, finish_ret, outK_some, keep_true, keep_false, keep_nil, p_bin, p_pick, p_un, p_eq, p_conv, evNew, pureK_some, newK_some, X.eval, set_none, set_some, List.map_cons, List.map_nil, List.getD_cons_zero, List.getD_cons_succ, List.getD_nil, List.set_cons_zero, List.set_cons_succ, binCV, unCV, isShift, intArithF_eq, shiftF_eq, wrapF_eq, intArith, shift, eqVal, bound, asNat_cast, cond_true, cond_false, BEq.rfl, beq_self_eq_true, evalParts, fillParts, AV.cells, AV.ofCells, XV.av, AV.xv, List.length_cons, List.length_nil, zeros, patch, setMany, List.nil_append, List.cons_append, Nat.ble, Nat.add_eq, Nat.zero_add, Nat.add_zero, Nat.reduceAdd, Nat.reduceMul, Nat.reduceSub, Nat.ble_eq, Nat.reduceLeDiff, Nat.reduceBEq, Int.reduceBEq, Int.reduceNeg, Bool.and_true, Bool.and_false, Bool.true_and, Bool.false_and, Bool.not_true, Bool.not_false, Bool.true_eq_false, Bool.false_eq_true, Int.reduceLT, Int.reduceLE, Int.reduceGT, Int.reduceGE, decide_true, decide_false, Bool.not_eq_true, loopN_norm, loopN_exit, tf, ft, ff, lx, v1, v2, v4, p_iaddr, p_faddr, op_faddr, p_load, AV.ofCells, m0, r0, r1, ek', q0, e2]
        exact ⟨_, _, rfl, _, t2, kx x2, rfl⟩
      | false =>
        cases q1 : (IntKind.i64.wrap ((BitVec.ofInt IntKind.i64.bits (xs.getD (i * 2) 0) &&& BitVec.ofInt IntKind.i64.bits 3).toNat : Int) == 1) with
        | true =>
          obtain ⟨e, h2, o2, e2, t2, x2⟩ := back_any t (by omega) (x := (k : Int)) (by omega) (by omega)
          simp only [enter_eq, ev_seq, seqK_norm, seqK_exit, seqK_ret, ev_reg, ev_cond, condK_true, condK_false, ev_block, blockK_norm, blockK_ret, blockK_exit, ev_loop, ev_skip, ev_exit, ev_ret, regK_cons, regK_nil, guard_none, guard_some, regG_true, regG_false, regO_some, op_mov, op_conv, op_bin, op_bsl, op_box, op_mks, op_s2b, op_pick, op_un, op_eq, op_len, op_ext, op_load, op_iaddr, op_slice, op_b2s, op_idxS, op_mx, op_mn, op_call, op_store, op_app, op_copy, args_eq, result_one', rv_loc, finish_norm, finish_ret, outK_some, keep_true, keep_false, keep_nil, p_bin, p_pick, p_un, p_eq, p_conv, evNew, pureK_some, newK_some, X.eval, set_none, set_some, List.map_cons, List.map_nil, List.getD_cons_zero, List.getD_cons_succ, List.getD_nil, List.set_cons_zero, List.set_cons_succ, binCV, unCV, isShift, intArithF_eq, shiftF_eq, wrapF_eq, intArith, shift, eqVal, bound, asNat_cast, cond_true, cond_false, BEq.rfl, beq_self_eq_true, evalParts, fillParts, AV.cells, AV.ofCells, XV.av, AV.xv, List.length_cons, List.length_nil, zeros, patch, setMany, List.nil_append, List.cons_append, Nat.ble, Nat.add_eq, Nat.zero_add, Nat.add_zero, Nat.reduceAdd, Nat.reduceMul, Nat.reduceSub, Nat.ble_eq, Nat.reduceLeDiff, Nat.reduceBEq, Int.reduceBEq, Int.reduceNeg, Bool.and_true, Bool.and_false, Bool.true_and, Bool.false_and, Bool.not_true, Bool.not_false, Bool.true_eq_false, Bool.false_eq_true, Int.reduceLT, Int.reduceLE, Int.reduceGT, Int.reduceGE, decide_true, decide_false, Bool.not_eq_true, loopN_norm, loopN_exit, tf, ft, ff, lx, v1, v2, v4, p_iaddr, p_faddr, op_faddr, p_load, AV.ofCells, m0, r0, r1, ek', q0, q1, e2]
          exact ⟨_, _, rfl, _, t2, kx x2, rfl⟩
        | false =>
          obtain ⟨e, h2, o2, e2, t2, x2⟩ := out_any t (by omega) (k : Int)
          simp only [enter_eq, ev_seq, seqK_norm, seqK_exit, seqK_ret, ev_reg, ev_cond, condK_true, condK_false, ev_block, blockK_norm, blockK_ret, blockK_exit, ev_loop, ev_skip, ev_exit, ev_ret, regK_cons, regK_nil, guard_none, guard_some, regG_true, regG_false, regO_some, op_mov, op_conv, op_bin, op_bsl, op_box, op_mks, op_s2b, op_pick, op_un, op_eq, op_len, op_ext, op_load, op_iaddr, op_slice, op_b2s, op_idxS, op_mx, op_mn, op_call, op_store, op_app, op_copy, args_eq, result_one', rv_loc, finish_norm, finish_ret, outK_some, keep_true, keep_false, keep_nil, p_bin, p_pick, p_un, p_eq, p_conv, evNew, pureK_some, newK_some, X.eval, set_none, set_some, List.map_cons, List.map_nil, List.getD_cons_zero, List.getD_cons_succ, List.getD_nil, List.set_cons_zero, List.set_cons_succ, binCV, unCV, isShift, intArithF_eq, shiftF_eq, wrapF_eq, intArith, shift, eqVal, bound, asNat_cast, cond_true, cond_false, BEq.rfl, beq_self_eq_true, evalParts, fillParts, AV.cells, AV.ofCells, XV.av, AV.xv, List.length_cons, List.length_nil, zeros, patch, setMany, List.nil_append, List.cons_append, Nat.ble, Nat.add_eq, Nat.zero_add, Nat.add_zero, Nat.reduceAdd, Nat.reduceMul, Nat.reduceSub, Nat.ble_eq, Nat.reduceLeDiff, Nat.reduceBEq, Int.reduceBEq, Int.reduceNeg, Bool.and_true, Bool.and_false, Bool.true_and, Bool.false_and, Bool.not_true, Bool.not_false, Bool.true_eq_false, Bool.false_eq_true, Int.reduceLT, Int.reduceLE, Int.reduceGT, Int.reduceGE, decide_true, decide_false, Bool.not_eq_true, loopN_norm, loopN_exit, tf, ft, ff, lx, v1, v2, v4, p_iaddr, p_faddr, op_faddr, p_load, AV.ofCells, m0, r0, r1, ek', q0, q1, e2]
          exact ⟨_, _, rfl, _, t2, kx x2, rfl⟩
    · right
      by_cases h3 : i < n
      · have v1 : decide ((i : Int) < (n : Int)) = true := ltNat h3
        have v4 : decide ((i : Int) < 100) = false := geNat (n := 100) (by omega)
        simp only [enter_eq, ev_seq, seqK_norm, seqK_exit, seqK_ret, ev_reg, ev_cond, condK_true, condK_false, ev_block, blockK_norm, blockK_ret, blockK_exit, ev_loop, ev_skip, ev_exit, ev_ret, regK_cons, regK_nil, guard_none, guard_some, regG_true, regG_false, regO_some, op_mov, op_conv, op_bin, op_bsl, op_box, op_mks, op_s2b, op_pick, op_un, op_eq, op_len, op_ext, op_load, op_iaddr, op_slice, op_b2s, op_idxS, op_mx, op_mn, op_call, op_store, op_app, op_copy, args_eq, result_one', rv_loc, finish_norm, finish_ret, outK_some, keep_true, keep_false, keep_nil, p_bin, p_pick, p_un, p_eq, p_conv, evNew, pureK_some, newK_some, X.eval, set_none, set_some, List.map_cons, List.map_nil, List.getD_cons_zero, List.getD_cons_succ, List.getD_nil, List.set_cons_zero, List.set_cons_succ, binCV, unCV, isShift, intArithF_eq, shiftF_eq, wrapF_eq, intArith, shift, eqVal, bound, asNat_cast, cond_true, cond_false, BEq.rfl, beq_self_eq_true, evalParts, fillParts, AV.cells, AV.ofCells, XV.av, AV.xv, List.length_cons, List.length_nil, zeros, patch, setMany, List.nil_append, List.cons_append, Nat.ble, Nat.add_eq, Nat.zero_add, Nat.add_zero, Nat.reduceAdd, Nat.reduceMul, Nat.reduceSub, Nat.ble_eq, Nat.reduceLeDiff, Nat.reduceBEq, Int.reduceBEq, Int.reduceNeg, Bool.and_true, Bool.and_false, Bool.true_and, Bool.false_and, Bool.not_true, Bool.not_false, Bool.true_eq_false, Bool.false_eq_true, Int.reduceLT, Int.reduceLE, Int.reduceGT, Int.reduceGE, decide_true, decide_false, Bool.not_eq_true, loopN_norm, loopN_exit, tf, ft, ff, lx, v1, v4]
        exact ⟨_, rfl, by simp, _, _, h', o, rfl, t⟩
      · have v1 : decide ((i : Int) < (n : Int)) = false := geNat (by omega)
        simp only [enter_eq, ev_seq, seqK_norm, seqK_exit, seqK_ret, ev_reg, ev_cond, condK_true, condK_false, ev_block, blockK_norm, blockK_ret, blockK_exit, ev_loop, ev_skip, ev_exit, ev_ret, regK_cons, regK_nil, guard_none, guard_some, regG_true, regG_false, regO_some, op_mov, op_conv, op_bin, op_bsl, op_box, op_mks, op_s2b, op_pick, op_un, op_eq, op_len, op_ext, op_load, op_iaddr, op_slice, op_b2s, op_idxS, op_mx, op_mn, op_call, op_store, op_app, op_copy, args_eq, result_one', rv_loc, finish_norm, finish_ret, outK_some, keep_true, keep_false, keep_nil, p_bin, p_pick, p_un, p_eq, p_conv, evNew, pureK_some, newK_some, X.eval, set_none, set_some, List.map_cons, List.map_nil, List.getD_cons_zero, List.getD_cons_succ, List.getD_nil, List.set_cons_zero, List.set_cons_succ, binCV, unCV, isShift, intArithF_eq, shiftF_eq, wrapF_eq, intArith, shift, eqVal, bound, asNat_cast, cond_true, cond_false, BEq.rfl, beq_self_eq_true, evalParts, fillParts, AV.cells, AV.ofCells, XV.av, AV.xv, List.length_cons, List.length_nil, zeros, patch, setMany, List.nil_append, List.cons_append, Nat.ble, Nat.add_eq, Nat.zero_add, Nat.add_zero, Nat.reduceAdd, Nat.reduceMul, Nat.reduceSub, Nat.ble_eq, Nat.reduceLeDiff, Nat.reduceBEq, Int.reduceBEq, Int.reduceNeg, Bool.and_true, Bool.and_false, Bool.true_and, Bool.false_and, Bool.not_true, Bool.not_false, Bool.true_eq_false, Bool.false_eq_true, Int.reduceLT, Int.reduceLE, Int.reduceGT, Int.reduceGE, decide_true, decide_false, Bool.not_eq_true, loopN_norm, loopN_exit, tf, ft, ff, lx, v1]
        exact ⟨_, rfl, by simp, _, _, h', o, rfl, t⟩
  obtain ⟨r, hr2, a3, a11, h2, o, rfl, t2⟩ := L2 [.c x, .c (.bool false), .c (.ptr p 0), .c (.int .i64 0), .tup [], .tup [], .tup [], .tup [], .tup [], .tup [], .c (.bool false), .tup [], .tup [], .tup [], .tup [], .tup [], .tup [], .tup [], .tup []] rfl
  obtain ⟨h3, hh3⟩ : ∃ H, H = h2.new (.cells [.bool false, .bool false, .bool false, .bool false, .bool false, .bool false, .bool false, .bool false, .bool false, .bool false, .bool false, .bool false, .bool false, .bool false, .bool false, .bool false, .bool false, .bool false, .bool false, .bool false, .bool false, .bool false, .bool false, .bool false, .bool false, .bool false, .bool false, .bool false, .bool false, .bool false, .bool false, .bool false, .bool false, .bool false, .bool false, .bool false, .bool false, .bool false, .bool false, .bool false]) := ⟨_, rfl⟩
  obtain ⟨q, hq⟩ : ∃ q, q = h2.next := ⟨_, rfl⟩
  have g3 : h3.get q = some (.cells (marks [])) := by rw [hh3, hq, get_new_at]; rfl
  have n3 : h3.next = h2.next + 1 := by rw [hh3]; rfl
  have t3 : LL h3 p b 40 o := t2.ext (S := []) (by rw [hh3]; exact (ExtB.refl _ _).new _) (by simp) (by simp)
  have hle := t3.le
  have hpq : p ≠ q ∧ b ≠ q := by have := t2.pn; have := t2.bn; omega
  have f1 : evCallT table 23 200 8 31 [.c (.ptr p 0)] h3 = some (.c (.int .i64 (o.headD (-1))), h3) := first_ok (N := 200) (d := 7) t3
  have L1 : ∀ loc, keepOnly ir7_k1 loc = [.junk, .junk, .c (.ptr p 0), .junk, .junk, .c (.ptr q 0), .c (.int .i64 0), .c (.int .i64 (-1)), .c (.int .i64 (o.headD (-1))), .junk, .junk, .junk, .junk, .junk, .junk, .junk, .junk, .junk, .junk] →
      ∃ r, loopK (evCallT table 23 200 8) 200 ir7_k1 ir7_l1 200 loc h3 = some r ∧ ∃ a8 a15 h', r = (.exit 3, [.junk, .junk, .c (.ptr p 0), .junk, .junk, .c (.ptr q 0), .c (.int .i64 (o.length : Int)), .c (.int .i64 (o.getLastD (-1))), a8, .junk, .junk, .junk, .junk, .junk, .junk, a15, .junk, .junk, .junk], h') ∧ LL h' p b 40 o ∧ h'.get q = some (.cells (marks o)) := by
    intro loc hloc
    refine loop_inv (n := o.length) (fun i loc h' => LL h' p b 40 o ∧ h'.get q = some (.cells (marks (o.take i))) ∧ q < h'.next ∧ loc = [.junk, .junk, .c (.ptr p 0), .junk, .junk, .c (.ptr q 0), .c (.int .i64 (i : Int)), .c (.int .i64 ((o.take i).getLastD (-1))), .c (.int .i64 ((o.drop i).headD (-1))), .junk, .junk, .junk, .junk, .junk, .junk, .junk, .junk, .junk, .junk]) _ ?_ ⟨t3, g3, by omega, hloc⟩ (by omega)
    rintro i loc h' hi ⟨t, g, hqn, rfl⟩
    unfold ir7_l1
    by_cases hlt : i < o.length
    · left
      refine ⟨hlt, ?_⟩
      have hd : o.drop i = o[i] :: o.drop (i + 1) := List.drop_eq_getElem_cons hlt
      have hb0 := t.lt o[i] (List.getElem_mem _)
      have hi40 := t.le
      obtain ⟨k, hk⟩ : ∃ k : Nat, o[i] = (k : Int) := ⟨o[i].toNat, by omega⟩
      have hk40 : k < 40 := by omega
      have v1 : decide ((i : Int) ≤ 40) = true := decide_eq_true (by omega)
      have v2 := succI (i := i) (by omega)
      have v3 : decide ((k : Int) ≥ 0) = true := decide_eq_true (by omega)
      have v4 : decide ((k : Int) ≥ 40) = false := decide_eq_false (by omega)
      have m0 : Nat.blt k 40 = true := bltT hk40
      have hnm : (k : Int) ∉ o.take i := fun hm => by
        obtain ⟨j, hj, ej⟩ := List.getElem_of_mem hm
        rw [List.length_take] at hj
        rw [List.getElem_take] at ej
        exact List.pairwise_iff_getElem.1 t.nd j i (by omega) hlt (by omega) (ej.trans hk.symm)
      have rk : h'.read q k 1 = some [.bool false] := read_cells g (by rw [marks_get _ hk40, decide_eq_false hnm])
      have f2 : evCallT table 23 200 8 37 [.c (.ptr p 0), .c (.int .i64 (k : Int))] h' = some (.c (.bool true), h') := by
        have := has_ok (N := 200) (d := 7) t (k : Int)
        rwa [decide_eq_true (by rw [← hk]; exact List.getElem_mem _)] at this
      have W := write_one (v := .bool true) g (show k < (marks (o.take i)).length by simp [marks, hk40])
      have hset : (marks (o.take i)).set k (.bool true) = marks (o.take (i + 1)) := by
        rw [marks_set, List.take_succ_eq_append_getElem hlt, hk]
      rw [hset] at W
      have t4 : LL (h'.put q (.cells (marks (o.take (i + 1))))) p b 40 o := t.ext (S := [q]) ((ExtB.refl _ _).put (.inr (by simp)) _) (by simp; exact hpq.1) (by simp; exact hpq.2)
      have f3 : evCallT table 23 200 8 35 [.c (.ptr p 0), .c (.int .i64 (k : Int))] (h'.put q (.cells (marks (o.take (i + 1))))) = _ := next_ok (N := 200) (d := 6) t4 (k : Int)
      rw [← hk, nextOf_at t.nd i hlt, hk] at f3
      have hl : (o.take (i + 1)).getLastD (-1) = (k : Int) := by
        rw [List.take_succ_eq_append_getElem hlt, hk, List.getLastD_eq_getLast?]; simp
      rw [hd, List.headD_cons, hk, hl]
      simp only [enter_eq, ev_seq, seqK_norm, seqK_exit, seqK_ret, ev_reg, ev_cond, condK_true, condK_false, ev_block, blockK_norm, blockK_ret, blockK_exit, ev_loop, ev_skip, ev_exit, ev_ret, regK_cons, regK_nil, guard_none, guard_some, regG_true, regG_false, regO_some, op_mov, op_conv, op_bin, op_bsl, op_box, op_mks, op_s2b, op_pick, op_un, op_eq, op_len, op_ext, op_load, op_iaddr, op_slice, op_b2s, op_idxS, op_mx, op_mn, op_call, op_store, op_app, op_copy, args_eq, result_one', rv_loc, finish_norm, finish_ret, outK_some, keep_true, keep_false, keep_nil, p_bin, p_pick, p_un, p_eq, p_conv, evNew, pureK_some, newK_some, X.eval, set_none, set_some, List.map_cons, List.map_nil, List.getD_cons_zero, List.getD_cons_succ, List.getD_nil, List.set_cons_zero, List.set_cons_succ, binCV, unCV, isShift, intArithF_eq, shiftF_eq, wrapF_eq, intArith, shift, eqVal, bound, asNat_cast, cond_true, cond_false, BEq.rfl, beq_self_eq_true, evalParts, fillParts, AV.cells, AV.ofCells, XV.av, AV.xv, List.length_cons, List.length_nil, zeros, patch, setMany, List.nil_append, List.cons_append, Nat.ble, Nat.add_eq, Nat.zero_add, Nat.add_zero, Nat.reduceAdd, Nat.reduceMul, Nat.reduceSub, Nat.ble_eq, Nat.reduceLeDiff, Nat.reduceBEq, Int.reduceBEq, Int.reduceNeg, Bool.and_true, Bool.and_false, Bool.true_and, Bool.false_and, Bool.not_true, Bool.not_false, Bool.true_eq_false, Bool.false_eq_true, Int.reduceLT, Int.reduceLE, Int.reduceGT, Int.reduceGE, decide_true, decide_false, Bool.not_eq_true, loopN_norm, loopN_exit, tf, ft, ff, v1, v2, v3, v4, p_iaddrA, op_iaddrA, p_load, AV.ofCells, m0, Nat.mul_one, rk, f2, evEff, W, f3]
      exact ⟨_, _, rfl, t4, get_put_at, hqn, rfl⟩
    · right
      have hin : i = o.length := by omega
      subst hin
      rw [List.drop_length, List.take_length] at *
      simp only [enter_eq, ev_seq, seqK_norm, seqK_exit, seqK_ret, ev_reg, ev_cond, condK_true, condK_false, ev_block, blockK_norm, blockK_ret, blockK_exit, ev_loop, ev_skip, ev_exit, ev_ret, regK_cons, regK_nil, guard_none, guard_some, regG_true, regG_false, regO_some, op_mov, op_conv, op_bin, op_bsl, op_box, op_mks, op_s2b, op_pick, op_un, op_eq, op_len, op_ext, op_load, op_iaddr, op_slice, op_b2s, op_idxS, op_mx, op_mn, op_call, op_store, op_app, op_copy, args_eq, result_one', rv_loc, finish_norm, finish_ret, outK_some, keep_true, keep_false, keep_nil, p_bin, p_pick, p_un, p_eq, p_conv, evNew, pureK_some, newK_some, X.eval, set_none, set_some, List.map_cons, List.map_nil, List.getD_cons_zero, List.getD_cons_succ, List.getD_nil, List.set_cons_zero, List.set_cons_succ, binCV, unCV, isShift, intArithF_eq, shiftF_eq, wrapF_eq, intArith, shift, eqVal, bound, asNat_cast, cond_true, cond_false, BEq.rfl, beq_self_eq_true, evalParts, fillParts, AV.cells, AV.ofCells, XV.av, AV.xv, List.length_cons, List.length_nil, zeros, patch, setMany, List.nil_append, List.cons_append, Nat.ble, Nat.add_eq, Nat.zero_add, Nat.add_zero, Nat.reduceAdd, Nat.reduceMul, Nat.reduceSub, Nat.ble_eq, Nat.reduceLeDiff, Nat.reduceBEq, Int.reduceBEq, Int.reduceNeg, Bool.and_true, Bool.and_false, Bool.true_and, Bool.false_and, Bool.not_true, Bool.not_false, Bool.true_eq_false, Bool.false_eq_true, Int.reduceLT, Int.reduceLE, Int.reduceGT, Int.reduceGE, decide_true, decide_false, Bool.not_eq_true, loopN_norm, loopN_exit, tf, ft, ff, List.headD_nil]
      exact ⟨_, rfl, by simp, _, _, h', rfl, t, g⟩
  obtain ⟨r, hr1, a8, a15, h4, rfl, t4, g4⟩ := L1 [.c x, .junk, .c (.ptr p 0), a3, .junk, .c (.ptr q 0), .c (.int .i64 0), .c (.int .i64 (-1)), .c (.int .i64 (o.headD (-1))), .junk, .junk, a11, .junk, .junk, .junk, .junk, .junk, .junk, .junk] rfl
  have L0 : ∀ loc, keepOnly ir7_k0 loc = [.junk, .junk, .c (.ptr p 0), .junk, .junk, .c (.ptr q 0), .c (.int .i64 (o.length : Int)), .c (.int .i64 (o.getLastD (-1))), .junk, .c (.int .i64 0), .junk, .junk, .junk, .junk, .junk, .junk, .junk, .junk, .junk] →
      ∃ r, loopK (evCallT table 23 200 8) 200 ir7_k0 ir7_l0 200 loc h4 = some r ∧ ∃ b0 b1 b3 b4 b5 l, r = (.exit 5, b0 :: b1 :: .c (.ptr p 0) :: b3 :: b4 :: b5 :: .c (.int .i64 (o.length : Int)) :: .c (.int .i64 (o.getLastD (-1))) :: l, h4) := by
    intro loc hloc
    refine loop_inv (n := 40) (fun i loc h' => h' = h4 ∧ loc = [.junk, .junk, .c (.ptr p 0), .junk, .junk, .c (.ptr q 0), .c (.int .i64 (o.length : Int)), .c (.int .i64 (o.getLastD (-1))), .junk, .c (.int .i64 (i : Int)), .junk, .junk, .junk, .junk, .junk, .junk, .junk, .junk, .junk]) _ ?_ ⟨rfl, hloc⟩ (by omega)
    rintro i loc h' hi ⟨rfl, rfl⟩
    unfold ir7_l0
    by_cases hlt : i < 40
    · left
      refine ⟨hlt, ?_⟩
      have v1 : decide ((i : Int) < 40) = true := ltNat (n := 40) hlt
      have v2 := succI (i := i) (by omega)
      have m0 : Nat.blt i 40 = true := bltT hlt
      have rk : h'.read q i 1 = some [.bool (decide ((i : Int) ∈ o))] := read_cells g4 (marks_get _ hlt)
      have f2 : evCallT table 23 200 8 37 [.c (.ptr p 0), .c (.int .i64 (i : Int))] h' = some (.c (.bool (decide ((i : Int) ∈ o))), h') := has_ok (N := 200) (d := 7) t4 (i : Int)
      simp only [enter_eq, ev_seq, seqK_norm, seqK_exit, seqK_ret, ev_reg, ev_cond, condK_true, condK_false, ev_block, blockK_norm, blockK_ret, blockK_exit, ev_loop, ev_skip, ev_exit, ev_ret, regK_cons, regK_nil, guard_none, guard_some, regG_true, regG_false, regO_some, op_mov, op_conv, op_bin, op_bsl, op_box, op_mks, op_s2b, op_pick, op_un, op_eq, op_len, op_ext, op_load, op_iaddr, op_slice, op_b2s, op_idxS, op_mx, op_mn, op_call, op_store, op_app, op_copy, args_eq, result_one', rv_loc, finish_norm, finish_ret, outK_some, keep_true, keep_false, keep_nil, p_bin, p_pick, p_un, p_eq, p_conv, evNew, pureK_some, newK_some, X.eval, set_none, set_some, List.map_cons, List.map_nil, List.getD_cons_zero, List.getD_cons_succ, List.getD_nil, List.set_cons_zero, List.set_cons_succ, binCV, unCV, isShift, intArithF_eq, shiftF_eq, wrapF_eq, intArith, shift, eqVal, bound, asNat_cast, cond_true, cond_false, BEq.rfl, beq_self_eq_true, evalParts, fillParts, AV.cells, AV.ofCells, XV.av, AV.xv, List.length_cons, List.length_nil, zeros, patch, setMany, List.nil_append, List.cons_append, Nat.ble, Nat.add_eq, Nat.zero_add, Nat.add_zero, Nat.reduceAdd, Nat.reduceMul, Nat.reduceSub, Nat.ble_eq, Nat.reduceLeDiff, Nat.reduceBEq, Int.reduceBEq, Int.reduceNeg, Bool.and_true, Bool.and_false, Bool.true_and, Bool.false_and, Bool.not_true, Bool.not_false, Bool.true_eq_false, Bool.false_eq_true, Int.reduceLT, Int.reduceLE, Int.reduceGT, Int.reduceGE, decide_true, decide_false, Bool.not_eq_true, loopN_norm, loopN_exit, tf, ft, ff, ev_dreg, dregK_nil, dregK_cons, dregE_true, dregP_some, dregX_some, d_mov, d_bin, d_eq, d_pick, d_un, d_conv, d_b2s, d_len, d_load, d_iaddr, d_slice, d_ext, d_call, d_store, chk_done, chk_none, chk_some, chkG_true, chkG_false, chkOne_nil, chkOne_cons, chkH_some, chkV_same, stage_none, stage_some, look_hit, look_miss, news_nil, wb_cons, wb_nil, skip0, List.reverse_cons, List.reverse_nil, v1, v2, p_iaddrA, op_iaddrA, d_iaddrA, p_load, AV.ofCells, m0, Nat.mul_one, rk, f2]
      exact ⟨_, _, rfl, rfl, rfl⟩
    · right
      have hin : i = 40 := by omega
      subst hin
      simp only [enter_eq, ev_seq, seqK_norm, seqK_exit, seqK_ret, ev_reg, ev_cond, condK_true, condK_false, ev_block, blockK_norm, blockK_ret, blockK_exit, ev_loop, ev_skip, ev_exit, ev_ret, regK_cons, regK_nil, guard_none, guard_some, regG_true, regG_false, regO_some, op_mov, op_conv, op_bin, op_bsl, op_box, op_mks, op_s2b, op_pick, op_un, op_eq, op_len, op_ext, op_load, op_iaddr, op_slice, op_b2s, op_idxS, op_mx, op_mn, op_call, op_store, op_app, op_copy, args_eq, result_one', rv_loc, finish_norm, finish_ret, outK_some, keep_true, keep_false, keep_nil, p_bin, p_pick, p_un, p_eq, p_conv, evNew, pureK_some, newK_some, X.eval, set_none, set_some, List.map_cons, List.map_nil, List.getD_cons_zero, List.getD_cons_succ, List.getD_nil, List.set_cons_zero, List.set_cons_succ, binCV, unCV, isShift, intArithF_eq, shiftF_eq, wrapF_eq, intArith, shift, eqVal, bound, asNat_cast, cond_true, cond_false, BEq.rfl, beq_self_eq_true, evalParts, fillParts, AV.cells, AV.ofCells, XV.av, AV.xv, List.length_cons, List.length_nil, zeros, patch, setMany, List.nil_append, List.cons_append, Nat.ble, Nat.add_eq, Nat.zero_add, Nat.add_zero, Nat.reduceAdd, Nat.reduceMul, Nat.reduceSub, Nat.ble_eq, Nat.reduceLeDiff, Nat.reduceBEq, Int.reduceBEq, Int.reduceNeg, Bool.and_true, Bool.and_false, Bool.true_and, Bool.false_and, Bool.not_true, Bool.not_false, Bool.true_eq_false, Bool.false_eq_true, Int.reduceLT, Int.reduceLE, Int.reduceGT, Int.reduceGE, decide_true, decide_false, Bool.not_eq_true, loopN_norm, loopN_exit, tf, ft, ff]
      exact ⟨_, rfl, by simp, _, _, _, _, _, _, rfl⟩
  obtain ⟨r, hr0, b0, b1, b3, b4, b5, l, rfl⟩ := L0 [.junk, .junk, .c (.ptr p 0), .junk, .junk, .c (.ptr q 0), .c (.int .i64 (o.length : Int)), .c (.int .i64 (o.getLastD (-1))), a8, .c (.int .i64 0), .junk, .junk, .junk, .junk, .junk, a15, .junk, .junk, .junk] rfl
  have f8 : evCallT table 23 200 8 30 [.c (.ptr p 0)] h4 = some (.c (.int .i64 (o.length : Int)), h4) := len_ok' (N := 200) (d := 7) t4
  have f9 : evCallT table 23 200 8 33 [.c (.ptr p 0)] h4 = some (.c (.int .i64 (o.getLastD (-1))), h4) := last_ok (N := 200) (d := 7) t4
  rw [hq] at hr1 hr0
  rw [hh3] at hr1 f1
  simp only [enter_eq, ev_seq, seqK_norm, seqK_exit, seqK_ret, ev_reg, ev_cond, condK_true, condK_false, ev_block, blockK_norm, blockK_ret, blockK_exit, ev_loop, ev_skip, ev_exit, ev_ret, regK_cons, regK_nil, guard_none, guard_some, regG_true, regG_false, regO_some, op_mov, op_conv, op_bin, op_bsl, op_box, op_mks, op_s2b, op_pick, op_un, op_eq, op_len, op_ext, op_load, op_iaddr, op_slice, op_b2s, op_idxS, op_mx, op_mn, op_call, op_store, op_app, op_copy, args_eq, result_one', rv_loc, finish_norm, finish_ret, outK_some, keep_true, keep_false, keep_nil, p_bin, p_pick, p_un, p_eq, p_conv, evNew, pureK_some, newK_some, X.eval, set_none, set_some, List.map_cons, List.map_nil, List.getD_cons_zero, List.getD_cons_succ, List.getD_nil, List.set_cons_zero, List.set_cons_succ, binCV, unCV, isShift, intArithF_eq, shiftF_eq, wrapF_eq, intArith, shift, eqVal, bound, asNat_cast, cond_true, cond_false, BEq.rfl, beq_self_eq_true, evalParts, fillParts, AV.cells, AV.ofCells, XV.av, AV.xv, List.length_cons, List.length_nil, zeros, patch, setMany, List.nil_append, List.cons_append, Nat.ble, Nat.add_eq, Nat.zero_add, Nat.add_zero, Nat.reduceAdd, Nat.reduceMul, Nat.reduceSub, Nat.ble_eq, Nat.reduceLeDiff, Nat.reduceBEq, Int.reduceBEq, Int.reduceNeg, Bool.and_true, Bool.and_false, Bool.true_and, Bool.false_and, Bool.not_true, Bool.not_false, Bool.true_eq_false, Bool.false_eq_true, Int.reduceLT, Int.reduceLE, Int.reduceGT, Int.reduceGE, decide_true, decide_false, Bool.not_eq_true, loopN_norm, loopN_exit, tf, ft, ff, e1, hr2, blockK_exit_eq, f1, hr1, hr0, evCallT_told, f8, f9, eqq]
  rfl

end Lav

namespace Go.Proofs.Ytdjdodcihffemaa.listWalks
open Go.ChangeShapes Go.WideShapes Go.ChangeAt Go.RowKit
open Go.ChangeMaps (open_string shut_string)
set_option linter.unusedVariables false

theorem own : ownKnob Try.prog.godebug = none := by kernel_rfl
theorem laidOut : laidOutB Try.prog = true := by kernel_rfl

/-- What the walk is told of a slice of records of ints that came in: it is nil; or it leads to a row of 'cap' records, 'sz' cells each. -/
def IsRecs (sz : Nat) (w : World) (a : Option Addr) (len cap : Nat) (zs : List Int) : Prop :=
  (a = none ∧ len = 0 ∧ cap = 0 ∧ zs = []) ∨
  ∃ x, a = some x ∧ len ≤ cap ∧ cap ≤ maxLen ∧ zs.length = cap * sz ∧ (∀ i, i < zs.length → w.cell? (x.add i) = some (.int .i64 (zs.getD i 0))) ∧ ∀ n ∈ zs, (Lit.int .i64 n).wf = true

theorem walk (a0 : Option Addr) (len0 cap0 : Nat) (z0 : List Int) (w : World) (w0 : IsRecs 2 w a0 len0 cap0 z0) :
    Calls Try.prog 7 #[.slice a0 len0 cap0] w fun e w' => e = .returned (.bool true) ∧ Below w.heap.size w w' := by
  obtain ⟨ι, h, x, I, hle, hx, hr⟩ := (Lav.Init.empty w).recs (sz := 2) (by omega) w0
  exact Lav.walk_of (Lav.evCallT_sound Lav.mixed Lav.table_ok Lav.tld4 200 9) I (args := [.c x]) (vs := [.slice a0 len0 cap0]) ⟨hx, trivial⟩ (Lav.listWalks (Lav.recs_of hr))

set_option maxRecDepth 100000 in
theorem lifted (os : Os) (started : os.Started) (H : Type) (enc : TypeId × Value → H) :
    ReturnsInHanded {} Try.checked os 7 .any (Rows.listWalksSpec.pre6 enc Try.prog Try.f7 Rows.listWalksRow.domain false) (Rows.listWalksSpec.post enc Try.prog Try.f7 false true false false) := by
  refine returnsInHanded_of_change (C := Try.checked) own started (by kernel_rfl) Try.func7
    (ChangeSpec.witness6 (enc := enc) (C := Try.checked) false ⟨#[], #[.slice none 0 0], []⟩ 8 (by kernel_rfl) (by kernel_rfl) (by kernel_rfl) (by kernel_rfl)) ?_
  intro W base args ds gs before hval0 hW hcnd _
  have hval : ∀ (j : Nat) t v, Try.f7.params[j]? = some t → args[j]? = some v → Value.okWide Try.prog W .any base t v := hval0
  have hW' := hW
  obtain ⟨p, q, hA0, hV, rfl, hfz, hnd⟩ := hW
  have hA : DataW.TrodAll enc Try.prog W 0 (fun _ => true) true Try.f7.params.toList args.toList ds p := hA0
  rw [Try.params7] at hA hval
  obtain ⟨v0, vs0, d0, ds0, p0, q0, hargs, rfl, rfl, h0, r0⟩ := trodAll_cons hA
  obtain ⟨rfl, rfl, rfl⟩ := trodAll_nil r0
  obtain rfl : args = #[v0] := by cases args; simp_all
  obtain ⟨rfl, rfl⟩ := trodVars_none hV
  obtain ⟨a0, len0, cap0, rfl⟩ := okWide_slice Try.underlying41 (hval 0 41 v0 rfl rfl)
  have k0 := h0
  have lt0 : ∀ x ∈ p0, x.block < W.heap.size := by obtain ⟨m, hm⟩ := k0; exact DataW.trod_lt m _ _ _ hm
  obtain ⟨z0, w0⟩ : ∃ zs, IsRecs 2 W a0 len0 cap0 zs := by
    obtain ⟨fuel, hf⟩ := h0
    rcases Lav.open_recs (sz := 2) Try.underlying41 Try.underlying48 (by kernel_rfl) (by
        intro j hj
        match j, hj with
        | 0, _ => exact ⟨0, _, rfl, rfl, Try.underlying3, by kernel_rfl⟩
        | 1, _ => exact ⟨1, _, rfl, rfl, Try.underlying3, by kernel_rfl⟩
        | j + 2, hj => omega) hf with hcs | ⟨x, l, c, zs, hcs, hl, hm, hz, hcell, hwz⟩
    · simp [Value.cells] at hcs
      obtain ⟨rfl, rfl, rfl⟩ := hcs
      exact ⟨[], .inl ⟨rfl, rfl, rfl, rfl⟩⟩
    · simp [Value.cells] at hcs
      obtain ⟨rfl, rfl, rfl⟩ := hcs
      exact ⟨zs, .inr ⟨_, rfl, hl, hm, by simpa using hz, hcell, hwz⟩⟩
  clear hA0 hval0
  refine (walk a0 len0 cap0 z0 W w0).mono fun e W' ⟨he, bel⟩ => ?_
  subst he
  exact ⟨_, rfl, _, _, _, [], _, [], hW', trodAll_mk1 (shut_bool Try.underlying4 _), (trodAll_cons_mk (Below.trod laidOut (by kernel_rfl) (of_decide_eq_true (by kernel_rfl)) k0 bel lt0) trodAll_mk0), rfl, bel.frame _, fun h => by cases h⟩

theorem over : Rows.listWalksRow.holds Try.pinned (OpenSpec.ofChange Rows.listWalksSpec) :=
  OpenClaim.holds_of_wide 7 Try.f7 rfl rfl rfl rfl rfl rfl rfl ⟨rfl, rfl, rfl, rfl, rfl⟩ rfl rfl rfl rfl rfl (by kernel_rfl) Try.func7 (by kernel_rfl)
    (of_decide_eq_true (by kernel_rfl)) (by unfold Func.isWrapper; first | (rw [if_pos (by decide +kernel)]; kernel_rfl) | (rw [if_neg (by decide +kernel)]; exact ⟨rfl, rfl⟩))
    (fun os started H enc _ => lifted os started H enc)

theorem proved : Rows.ListWalksSaid := over
end Go.Proofs.Ytdjdodcihffemaa.listWalks
