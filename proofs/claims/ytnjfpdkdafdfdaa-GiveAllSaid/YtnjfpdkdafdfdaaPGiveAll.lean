/-
  Proved: whatever numbers come in, lavabolaw17.GiveAll returns true and changes nothing that was there. No conditions beyond the given statement's.
-/
import Derived.Test.YtnjfpdkdafdfdaaRows
import Derived.Test.YtnjfpdkdafdfdaaInts0
import Derived.Test.YtnjfpdkdafdfdaaInts1
import Derived.Test.YtnjfpdkdafdfdaaGive1
import Derived.Test.YtnjfpdkdafdfdaaGive2
import Derived.WalkKit
import Derived.ProofKit
import Derived.OpenShut
import Derived.ShutString
import Derived.ChangeOld
import Derived.Below
set_option maxRecDepth 100000
set_option linter.unusedSimpArgs false
namespace Lav
open Go (IntKind)
/-- What all but one have together. -/
def restGo (k : Nat) : Nat → List Int → Int
  | _, [] => 0
  | i, v :: vs => (if i = k then 0 else v) + restGo k (i + 1) vs

theorem rest_app (k : Nat) : ∀ (l : List Int) (i : Nat) (v : Int), restGo k i (l ++ [v]) = restGo k i l + (if i + l.length = k then 0 else v)
  | [], i, v => by simp [restGo]
  | u :: l, i, v => by
    show (if i = k then 0 else u) + restGo k (i + 1) (l ++ [v]) = (if i = k then 0 else u) + restGo k (i + 1) l + _
    rw [rest_app k l (i + 1) v, show i + 1 + l.length = i + (u :: l).length by simp; omega]; omega
theorem rest_set (k : Nat) : ∀ (l : List Int) (i j : Nat) (hj : j < l.length) (v : Int), i + j ≠ k → restGo k i (l.set j v) = restGo k i l - l[j] + v
  | u :: l, i, 0, _, v, h => by
    have : i ≠ k := by omega
    simp only [List.set_cons_zero, restGo, if_neg this, List.getElem_cons_zero]; omega
  | u :: l, i, j + 1, hj, v, h => by
    have := rest_set k l (i + 1) j (by simpa using hj) v (by omega)
    simp only [List.set_cons_succ, restGo, List.getElem_cons_succ, this]; omega
theorem rest_zero (k : Nat) : ∀ (l : List Int) (i : Nat), (∀ j (_ : j < l.length), i + j ≠ k → l[j] = 0) → restGo k i l = 0
  | [], _, _ => rfl
  | u :: l, i, h => by
    have h1 := rest_zero k l (i + 1) fun j hj hn => by have := h (j + 1) (by simpa using hj) (by omega); simpa using this
    have h2 := h 0 (by simp)
    simp only [restGo, h1]
    split
    · omega
    · rename_i hk
      have := h2 (by omega); simp at this; omega
theorem rest_pos (k : Nat) : ∀ (l : List Int) (i : Nat), (∀ v ∈ l, 0 ≤ v ∧ v ≤ 6) → 0 ≤ restGo k i l ∧ restGo k i l ≤ 6 * l.length
  | [], _, _ => by simp [restGo]
  | u :: l, i, h => by
    have h1 := rest_pos k l (i + 1) fun v hv => h v (by simp [hv])
    have h2 := h u (by simp)
    simp only [restGo, List.length_cons]
    split <;> omega

theorem giveAll {x : CV} {h : Heap} {xs : List Int} (need : Int) (hx : Ints h x xs) : good (evCallT table 22 100 9 7 [.c x, .c (.int .i64 need)] h) = true := by
  have lx : ∀ (loc vals : List AV) (h : Heap), evPure loc (.c x :: vals) h (.len .sl (.val 0)) = some (.c (.int .i64 (xs.length : Int))) := fun _ _ _ => hx.len rfl
  obtain ⟨k, hk, ek⟩ := few (a := need) (m := 4) (by omega) (by omega)
  have ek' : IntKind.i64.wrap (Int.tmod (IntKind.u64.wrap need) 4) = (k : Int) := ek
  rw [evCallT_eq (F := ir7) rfl rfl rfl]
  unfold ir7
  rw [bodyK_eq]
  by_cases hl : xs.length < 8
  · have v0 : decide ((xs.length : Int) < 8) = true := by simp; omega
    simp only [enter_eq, ev_seq, seqK_norm, seqK_exit, seqK_ret, ev_reg, ev_cond, condK_true, condK_false, ev_block, blockK_norm, blockK_ret, blockK_exit, ev_loop, ev_skip, ev_exit, ev_ret, regK_cons, regK_nil, guard_none, guard_some, regG_true, regG_false, regO_some, op_mov, op_conv, op_bin, op_bsl, op_box, op_mks, op_s2b, op_pick, op_un, op_eq, op_len, op_ext, op_load, op_iaddr, op_slice, op_b2s, op_idxS, op_mx, op_mn, op_call, op_store, op_app, op_copy, args_eq, result_one', rv_loc, finish_norm, finish_ret, outK_some, keep_true, keep_false, keep_nil, p_bin, p_pick, p_un, p_eq, p_conv, evNew, pureK_some, newK_some, X.eval, set_none, set_some, List.map_cons, List.map_nil, List.getD_cons_zero, List.getD_cons_succ, List.getD_nil, List.set_cons_zero, List.set_cons_succ, binCV, unCV, isShift, intArithF_eq, shiftF_eq, wrapF_eq, intArith, shift, eqVal, bound, asNat_cast, cond_true, cond_false, BEq.rfl, beq_self_eq_true, evalParts, fillParts, AV.cells, AV.ofCells, XV.av, AV.xv, List.length_cons, List.length_nil, zeros, patch, setMany, List.nil_append, List.cons_append, Nat.ble, Nat.add_eq, Nat.zero_add, Nat.add_zero, Nat.reduceAdd, Nat.reduceMul, Nat.reduceSub, Nat.ble_eq, Nat.reduceLeDiff, Nat.reduceBEq, Int.reduceBEq, Int.reduceNeg, Bool.and_true, Bool.and_false, Bool.true_and, Bool.false_and, Bool.not_true, Bool.not_false, Bool.true_eq_false, Bool.false_eq_true, Int.reduceLT, Int.reduceLE, Int.reduceGT, Int.reduceGE, decide_true, decide_false, Bool.not_eq_true, loopN_norm, loopN_exit, tf, ft, ff, lx, v0, evCallT_told]
    rfl
  have v0 : decide ((xs.length : Int) < 8) = false := by simp; omega
  obtain ⟨bx, ox, cx, rfl, hbx, rx⟩ := hx.sl (by omega)
  have L1 : ∀ loc, keepOnly ir7_k1 loc = [.c (.sl bx ox xs.length cx), .junk, .junk, .c (.int .i64 (k : Int)), .c .nils, .c .nils, .c (.int .i64 0), .c (.int .i64 0), .junk, .junk, .junk, .junk, .junk, .junk, .junk, .junk, .junk, .junk, .junk] →
      ∃ r, loopK (evCallT table 22 100 8) 100 ir7_k1 ir7_l1 100 loc h = some r ∧ ∃ h' ia ib, ∃ la lb : List Int, ∃ a7 a12 a13, la.length = 4 ∧ lb.length = 4 ∧ (∀ v ∈ la, 0 ≤ v ∧ v ≤ 6) ∧ (∀ v ∈ lb, 0 ≤ v ∧ v ≤ 6) ∧ h'.get ia = some (.cells (la.map icell)) ∧ h'.get ib = some (.cells (lb.map icell)) ∧ ia ≠ ib ∧ ia < h'.next ∧ ib < h'.next ∧
        r = (.exit 0, [.c (.sl bx ox xs.length cx), .junk, .junk, .c (.int .i64 (k : Int)), .c (.sl ia 0 4 (.dy 1)), .c (.sl ib 0 4 (.dy 1)), .c (.int .i64 (restGo k 0 la + restGo k 0 lb)), a7, .junk, .junk, .junk, .junk, a12, a13, .junk, .junk, .junk, .junk, .junk], h') := by
    intro loc hloc
    refine loop_inv (n := 4) (fun i loc h' => ∃ (a b : CV) (la lb : List Int), la.length = i ∧ lb.length = i ∧ (∀ v ∈ la, 0 ≤ v ∧ v ≤ 6) ∧ (∀ v ∈ lb, 0 ≤ v ∧ v ≤ 6) ∧ Mine 1 h h' a i (la.map icell) ∧ Mine 1 h h' b i (lb.map icell) ∧ (∀ k, blk a = some k → blk b ≠ some k) ∧ Ext h h' ∧
      loc = [.c (.sl bx ox xs.length cx), .junk, .junk, .c (.int .i64 (k : Int)), .c a, .c b, .c (.int .i64 (restGo k 0 la + restGo k 0 lb)), .c (.int .i64 (i : Int)), .junk, .junk, .junk, .junk, .junk, .junk, .junk, .junk, .junk, .junk, .junk]) _ ?_ ⟨.nils, .nils, [], [], rfl, rfl, by simp, by simp, Mine.nil, Mine.nil, by simp [blk], Ext.refl h, hloc⟩ (by omega)
    rintro i loc h' hi ⟨a, b, la, lb, hla, hlb, ba, bb, ma, mb, hab, he, rfl⟩
    unfold ir7_l1
    by_cases hlt : i < 4
    · left
      refine ⟨hlt, ?_⟩
      have v1 : decide ((i : Int) < 4) = true := ltNat (n := 4) hlt
      have v2 := succI (i := i) (by omega)
      have v3 : IntKind.i64.wrap (4 + (i : Int)) = ((4 + i : Nat) : Int) := by rw [wrapI (by omega) (by omega)]; omega
      have m1 : Nat.blt i xs.length = true := bltT (by omega)
      have m2 : Nat.blt (4 + i) xs.length = true := bltT (by omega)
      have m3 : Nat.blt i (i + 1) = true := bltT (by omega)
      obtain ⟨v, hv, ev⟩ := few (a := xs[i]'(by omega)) (m := 7) (by omega) (by omega)
      have ev' : IntKind.i64.wrap (Int.tmod (IntKind.u64.wrap (xs[i]'(by omega))) 7) = (v : Int) := ev
      obtain ⟨w, hw, ew⟩ := few (a := xs[4 + i]'(by omega)) (m := 7) (by omega) (by omega)
      have ew' : IntKind.i64.wrap (Int.tmod (IntKind.u64.wrap (xs[4 + i]'(by omega))) 7) = (w : Int) := ew
      obtain ⟨H1, H2, a1, a2, ma', mb', keep, nx⟩ := app_two (v : Int) (w : Int) he.1 ma mb hab (by omega)
      have rd : ∀ H : Heap, H.get bx = h'.get bx → H.read bx (ox + i) 1 = some [.int .i64 (xs[i]'(by omega))] ∧ H.read bx (ox + (4 + i)) 1 = some [.int .i64 (xs[4 + i]'(by omega))] := fun H e => by
        rw [read_of (h := h) (e.trans (he.2 bx hbx)), read_of (h := h) (e.trans (he.2 bx hbx))]; exact ⟨rx i (by omega), rx (4 + i) (by omega)⟩
      have q1 := (rd (h'.skip 2) rfl).1
      have q1' := (rd (h'.skip 2) rfl).2
      have q2 := (rd H1 (keep bx hbx).1).2
      have hb' : bx < h'.next := Nat.lt_of_lt_of_le hbx he.1
      have q3 := (rd ((h'.skip 2).put h'.next (.cells [icell (v : Int)])) (get_put_ne (by omega))).2
      simp only [icell] at a1 a2 q3
      have ga : H2.get (h'.next + 2) = some (.cells ((la ++ [(v : Int)]).map icell)) := by
        obtain ⟨_, ⟨hc, _⟩ | ⟨j, hj, hg, _⟩⟩ := ma'
        · cases hc
        · cases hj; exact hg
      have gb : H2.get (h'.next + 3) = some (.cells ((lb ++ [(w : Int)]).map icell)) := by
        obtain ⟨_, ⟨hc, _⟩ | ⟨j, hj, hg, _⟩⟩ := mb'
        · cases hc
        · cases hj; exact hg
      have ra : H2.read (h'.next + 2) i 1 = some [.int .i64 (v : Int)] := read_cells ga (getP hla)
      have rb : H2.read (h'.next + 3) i 1 = some [.int .i64 (w : Int)] := read_cells gb (getP hlb)
      have ext2 : Ext h H2 := ⟨by rw [nx]; have := he.1; omega, fun j hj => (keep j hj).2.trans (he.2 j hj)⟩
      have mem1 : ∀ (l : List Int) (u : Nat), u < 7 → (∀ v ∈ l, 0 ≤ v ∧ v ≤ 6) → ∀ v ∈ l ++ [(u : Int)], 0 ≤ v ∧ v ≤ 6 := fun l u hu hl z hz => by
        rcases List.mem_append.1 hz with h1 | h1
        · exact hl z h1
        · have : z = (u : Int) := by simpa using h1
          omega
      have hab' : ∀ k, blk (.sl (h'.next + 2) 0 (i + 1) (.dy 1)) = some k → blk (.sl (h'.next + 3) 0 (i + 1) (.dy 1)) ≠ some k := by simp [blk]
      have pa := rest_pos k la 0 ba
      have pb := rest_pos k lb 0 bb
      have sa := rest_app k la 0 (v : Int)
      have sb := rest_app k lb 0 (w : Int)
      rw [Nat.zero_add, hla] at sa
      rw [Nat.zero_add, hlb] at sb
      by_cases hik : i = k
      · have q4 : ((i : Int) == (k : Int)) = true := by simp [hik]
        rw [if_pos hik] at sa sb
        simp only [enter_eq, ev_seq, seqK_norm, seqK_exit, seqK_ret, ev_reg, ev_cond, condK_true, condK_false, ev_block, blockK_norm, blockK_ret, blockK_exit, ev_loop, ev_skip, ev_exit, ev_ret, regK_cons, regK_nil, guard_none, guard_some, regG_true, regG_false, regO_some, op_mov, op_conv, op_bin, op_bsl, op_box, op_mks, op_s2b, op_pick, op_un, op_eq, op_len, op_ext, op_load, op_iaddr, op_slice, op_b2s, op_idxS, op_mx, op_mn, op_call, op_store, op_app, op_copy, args_eq, result_one', rv_loc, finish_norm, finish_ret, outK_some, keep_true, keep_false, keep_nil, p_bin, p_pick, p_un, p_eq, p_conv, evNew, pureK_some, newK_some, X.eval, set_none, set_some, List.map_cons, List.map_nil, List.getD_cons_zero, List.getD_cons_succ, List.getD_nil, List.set_cons_zero, List.set_cons_succ, binCV, unCV, isShift, intArithF_eq, shiftF_eq, wrapF_eq, intArith, shift, eqVal, bound, asNat_cast, cond_true, cond_false, BEq.rfl, beq_self_eq_true, evalParts, fillParts, AV.cells, AV.ofCells, XV.av, AV.xv, List.length_cons, List.length_nil, zeros, patch, setMany, List.nil_append, List.cons_append, Nat.ble, Nat.add_eq, Nat.zero_add, Nat.add_zero, Nat.reduceAdd, Nat.reduceMul, Nat.reduceSub, Nat.ble_eq, Nat.reduceLeDiff, Nat.reduceBEq, Int.reduceBEq, Int.reduceNeg, Bool.and_true, Bool.and_false, Bool.true_and, Bool.false_and, Bool.not_true, Bool.not_false, Bool.true_eq_false, Bool.false_eq_true, Int.reduceLT, Int.reduceLE, Int.reduceGT, Int.reduceGE, decide_true, decide_false, Bool.not_eq_true, loopN_norm, loopN_exit, tf, ft, ff, ev_dreg, dregK_nil, dregK_cons, dregE_true, dregP_some, dregX_some, d_mov, d_bin, d_eq, d_pick, d_un, d_conv, d_b2s, d_len, d_load, d_iaddr, d_slice, d_ext, d_call, d_store, chk_done, chk_none, chk_some, chkG_true, chkG_false, chkOne_nil, chkOne_cons, chkH_some, chkV_same, stage_none, stage_some, look_hit, look_miss, news_nil, wb_cons, wb_nil, skip0, List.reverse_cons, List.reverse_nil, d_bsl, d_app, dregW_some, bneI, v1, v2, v3, p_iaddr, p_load, m1, m2, Nat.mul_one, q1, q1', q2, q3, ev', ew', a1, a2, q4]
        exact ⟨_, _, rfl, _, _, la ++ [(v : Int)], lb ++ [(w : Int)], by simp [hla], by simp [hlb], mem1 la v hv ba, mem1 lb w hw bb, ma', mb', hab', ext2, by rw [sa, sb, Int.add_zero, Int.add_zero]; rfl⟩
      · have q4 : ((i : Int) == (k : Int)) = false := by simp; omega
        rw [if_neg hik] at sa sb
        have w1 : IntKind.i64.wrap (IntKind.i64.wrap (restGo k 0 la + restGo k 0 lb + (v : Int)) + (w : Int)) = restGo k 0 (la ++ [(v : Int)]) + restGo k 0 (lb ++ [(w : Int)]) := by
          rw [sa, sb, wrapI (a := restGo k 0 la + restGo k 0 lb + (v : Int)) (by omega) (by omega), wrapI (by omega) (by omega)]; omega
        simp only [enter_eq, ev_seq, seqK_norm, seqK_exit, seqK_ret, ev_reg, ev_cond, condK_true, condK_false, ev_block, blockK_norm, blockK_ret, blockK_exit, ev_loop, ev_skip, ev_exit, ev_ret, regK_cons, regK_nil, guard_none, guard_some, regG_true, regG_false, regO_some, op_mov, op_conv, op_bin, op_bsl, op_box, op_mks, op_s2b, op_pick, op_un, op_eq, op_len, op_ext, op_load, op_iaddr, op_slice, op_b2s, op_idxS, op_mx, op_mn, op_call, op_store, op_app, op_copy, args_eq, result_one', rv_loc, finish_norm, finish_ret, outK_some, keep_true, keep_false, keep_nil, p_bin, p_pick, p_un, p_eq, p_conv, evNew, pureK_some, newK_some, X.eval, set_none, set_some, List.map_cons, List.map_nil, List.getD_cons_zero, List.getD_cons_succ, List.getD_nil, List.set_cons_zero, List.set_cons_succ, binCV, unCV, isShift, intArithF_eq, shiftF_eq, wrapF_eq, intArith, shift, eqVal, bound, asNat_cast, cond_true, cond_false, BEq.rfl, beq_self_eq_true, evalParts, fillParts, AV.cells, AV.ofCells, XV.av, AV.xv, List.length_cons, List.length_nil, zeros, patch, setMany, List.nil_append, List.cons_append, Nat.ble, Nat.add_eq, Nat.zero_add, Nat.add_zero, Nat.reduceAdd, Nat.reduceMul, Nat.reduceSub, Nat.ble_eq, Nat.reduceLeDiff, Nat.reduceBEq, Int.reduceBEq, Int.reduceNeg, Bool.and_true, Bool.and_false, Bool.true_and, Bool.false_and, Bool.not_true, Bool.not_false, Bool.true_eq_false, Bool.false_eq_true, Int.reduceLT, Int.reduceLE, Int.reduceGT, Int.reduceGE, decide_true, decide_false, Bool.not_eq_true, loopN_norm, loopN_exit, tf, ft, ff, ev_dreg, dregK_nil, dregK_cons, dregE_true, dregP_some, dregX_some, d_mov, d_bin, d_eq, d_pick, d_un, d_conv, d_b2s, d_len, d_load, d_iaddr, d_slice, d_ext, d_call, d_store, chk_done, chk_none, chk_some, chkG_true, chkG_false, chkOne_nil, chkOne_cons, chkH_some, chkV_same, stage_none, stage_some, look_hit, look_miss, news_nil, wb_cons, wb_nil, skip0, List.reverse_cons, List.reverse_nil, d_bsl, d_app, dregW_some, bneI, v1, v2, v3, p_iaddr, p_load, m1, m2, m3, Nat.mul_one, q1, q1', q2, q3, ev', ew', a1, a2, ra, rb, q4, w1]
        exact ⟨_, _, rfl, _, _, la ++ [(v : Int)], lb ++ [(w : Int)], by simp [hla], by simp [hlb], mem1 la v hv ba, mem1 lb w hw bb, ma', mb', hab', ext2, rfl⟩
    · right
      have hi4 : i = 4 := by omega
      subst hi4
      obtain ⟨_, ⟨_, hc⟩ | ⟨ia, rfl, ga, _, na⟩⟩ := ma
      · omega
      obtain ⟨_, ⟨_, hc⟩ | ⟨ib, rfl, gb, _, nb⟩⟩ := mb
      · omega
      simp only [enter_eq, ev_seq, seqK_norm, seqK_exit, seqK_ret, ev_reg, ev_cond, condK_true, condK_false, ev_block, blockK_norm, blockK_ret, blockK_exit, ev_loop, ev_skip, ev_exit, ev_ret, regK_cons, regK_nil, guard_none, guard_some, regG_true, regG_false, regO_some, op_mov, op_conv, op_bin, op_bsl, op_box, op_mks, op_s2b, op_pick, op_un, op_eq, op_len, op_ext, op_load, op_iaddr, op_slice, op_b2s, op_idxS, op_mx, op_mn, op_call, op_store, op_app, op_copy, args_eq, result_one', rv_loc, finish_norm, finish_ret, outK_some, keep_true, keep_false, keep_nil, p_bin, p_pick, p_un, p_eq, p_conv, evNew, pureK_some, newK_some, X.eval, set_none, set_some, List.map_cons, List.map_nil, List.getD_cons_zero, List.getD_cons_succ, List.getD_nil, List.set_cons_zero, List.set_cons_succ, binCV, unCV, isShift, intArithF_eq, shiftF_eq, wrapF_eq, intArith, shift, eqVal, bound, asNat_cast, cond_true, cond_false, BEq.rfl, beq_self_eq_true, evalParts, fillParts, AV.cells, AV.ofCells, XV.av, AV.xv, List.length_cons, List.length_nil, zeros, patch, setMany, List.nil_append, List.cons_append, Nat.ble, Nat.add_eq, Nat.zero_add, Nat.add_zero, Nat.reduceAdd, Nat.reduceMul, Nat.reduceSub, Nat.ble_eq, Nat.reduceLeDiff, Nat.reduceBEq, Int.reduceBEq, Int.reduceNeg, Bool.and_true, Bool.and_false, Bool.true_and, Bool.false_and, Bool.not_true, Bool.not_false, Bool.true_eq_false, Bool.false_eq_true, Int.reduceLT, Int.reduceLE, Int.reduceGT, Int.reduceGE, decide_true, decide_false, Bool.not_eq_true, loopN_norm, loopN_exit, tf, ft, ff]
      exact ⟨_, rfl, by simp, h', ia, ib, la, lb, _, _, _, hla, hlb, ba, bb, ga, gb, by simpa [blk, eq_comm] using hab, na, nb, rfl⟩
  obtain ⟨r, hr1, h', ia, ib, la0, lb0, a7, a12, a13, hla0, hlb0, ba0, bb0, ga0, gb0, hne, na0, nb0, rfl⟩ := L1 [.c (.sl bx ox xs.length cx), .c (.int .i64 need), .c (.bool false), .c (.int .i64 (k : Int)), .c .nils, .c .nils, .c (.int .i64 0), .c (.int .i64 0), .tup [], .tup [], .tup [], .c (.bool false), .tup [], .tup [], .tup [], .tup [], .tup [], .tup [], .tup []] rfl
  have pa0 := rest_pos k la0 0 ba0
  have pb0 := rest_pos k lb0 0 bb0
  generalize hS : restGo k 0 la0 + restGo k 0 lb0 = S at *
  have L0 : ∀ loc, keepOnly ir7_k0 loc = [.junk, .junk, .junk, .c (.int .i64 (k : Int)), .c (.sl ia 0 4 (.dy 1)), .c (.sl ib 0 4 (.dy 1)), .c (.int .i64 S), .junk, .c (.int .i64 0), .c (.int .i64 0), .junk, .junk, .junk, .junk, .junk, .junk, .junk, .junk, .junk] →
      ∃ r, loopK (evCallT table 22 100 8) 100 ir7_k0 ir7_l0 100 loc h' = some r ∧ ∃ a0 a1 l h'', r = (.ret, a0 :: a1 :: .c (.bool true) :: l, h'') := by
    intro loc hloc
    refine loop_inv (n := 49) (fun i loc h'' => ∃ (la lb : List Int), la.length = 4 ∧ lb.length = 4 ∧ (∀ v ∈ la, 0 ≤ v ∧ v ≤ 6) ∧ (∀ v ∈ lb, 0 ≤ v ∧ v ≤ 6) ∧ h''.get ia = some (.cells (la.map icell)) ∧ h''.get ib = some (.cells (lb.map icell)) ∧ ia < h''.next ∧ ib < h''.next ∧ (i : Int) + (restGo k 0 la + restGo k 0 lb) = S ∧
      loc = [.junk, .junk, .junk, .c (.int .i64 (k : Int)), .c (.sl ia 0 4 (.dy 1)), .c (.sl ib 0 4 (.dy 1)), .c (.int .i64 S), .junk, .c (.int .i64 (i : Int)), .c (.int .i64 (i : Int)), .junk, .junk, .junk, .junk, .junk, .junk, .junk, .junk, .junk]) _ ?_ ⟨la0, lb0, hla0, hlb0, ba0, bb0, ga0, gb0, na0, nb0, by omega, hloc⟩ (by omega)
    rintro i loc h1 hi ⟨la, lb, hla, hlb, ba, bb, ga, gb, na, nb, hsum, rfl⟩
    have pa := rest_pos k la 0 ba
    have pb := rest_pos k lb 0 bb
    have v1 : decide ((i : Int) < 50) = true := ltNat (n := 50) (by omega)
    have v2 := succI (i := i) (by omega)
    have iA : Ints h1 (.sl ia 0 4 (.dy 1)) la := by have := ints_cells (c := .dy 1) na ga; rwa [hla] at this
    have iB : Ints h1 (.sl ib 0 4 (.dy 1)) lb := by have := ints_cells (c := .dy 1) nb gb; rwa [hlb] at this
    obtain ⟨g, e1, hg⟩ : ∃ g : Int, evCallT table 22 100 8 23 [.c (.sl ia 0 4 (.dy 1)), .c (.sl ib 0 4 (.dy 1)), .c (.int .i64 (k : Int))] h1 = some (.c (.int .i64 g), h1) ∧ GiveP la lb k g := from_ok (N := 100) (d := 4) k iA iB (fun v hv => (ba v hv).1) (fun v hv => (bb v hv).1) hla hlb hk (by omega)
    unfold ir7_l0
    have out : (g = -1 ∧ restGo k 0 la + restGo k 0 lb = 0) ∨ (∃ j, ∃ hj : j < la.length, g = (j : Int) ∧ j ≠ k ∧ la[j] > 0) ∨ (∃ j, ∃ hj : j < lb.length, g = (j : Int) ∧ j ≠ k ∧ lb[j] > 0 ∧ la[j]'(by omega) = 0) := by
      rcases hg with ⟨hm, h0⟩ | ⟨hm, hm2⟩
      · rcases hm with ⟨rfl, _⟩ | ⟨j, hj, _, rfl, hjk, hjp, _⟩
        · omega
        · exact .inr (.inl ⟨j, hj, rfl, by omega, hjp⟩)
      · have z1 : ∀ j (_ : j < la.length), 0 + j ≠ k → la[j] = 0 := by
          rcases hm with ⟨_, h0⟩ | ⟨j, _, _, hc, _⟩
          · exact fun j hj hn => h0 j hj hj (by omega)
          · omega
        rcases hm2 with ⟨rfl, h0⟩ | ⟨j, hj, _, rfl, hjk, hjp, _⟩
        · exact .inl ⟨rfl, by rw [rest_zero k la 0 z1, rest_zero k lb 0 fun j hj hn => h0 j hj hj (by omega)]; rfl⟩
        · exact .inr (.inr ⟨j, hj, rfl, by omega, hjp, z1 j (by omega) (by omega)⟩)
    rcases out with ⟨rfl, h0⟩ | ⟨j, hj, rfl, hjk, hjp⟩ | ⟨j, hj, rfl, hjk, hjp, hz⟩
    · right
      have q1 : (((i : Nat) : Int) == S) = true := by simp; omega
      simp only [enter_eq, ev_seq, seqK_norm, seqK_exit, seqK_ret, ev_reg, ev_cond, condK_true, condK_false, ev_block, blockK_norm, blockK_ret, blockK_exit, ev_loop, ev_skip, ev_exit, ev_ret, regK_cons, regK_nil, guard_none, guard_some, regG_true, regG_false, regO_some, op_mov, op_conv, op_bin, op_bsl, op_box, op_mks, op_s2b, op_pick, op_un, op_eq, op_len, op_ext, op_load, op_iaddr, op_slice, op_b2s, op_idxS, op_mx, op_mn, op_call, op_store, op_app, op_copy, args_eq, result_one', rv_loc, finish_norm, finish_ret, outK_some, keep_true, keep_false, keep_nil, p_bin, p_pick, p_un, p_eq, p_conv, evNew, pureK_some, newK_some, X.eval, set_none, set_some, List.map_cons, List.map_nil, List.getD_cons_zero, List.getD_cons_succ, List.getD_nil, List.set_cons_zero, List.set_cons_succ, binCV, unCV, isShift, intArithF_eq, shiftF_eq, wrapF_eq, intArith, shift, eqVal, bound, asNat_cast, cond_true, cond_false, BEq.rfl, beq_self_eq_true, evalParts, fillParts, AV.cells, AV.ofCells, XV.av, AV.xv, List.length_cons, List.length_nil, zeros, patch, setMany, List.nil_append, List.cons_append, Nat.ble, Nat.add_eq, Nat.zero_add, Nat.add_zero, Nat.reduceAdd, Nat.reduceMul, Nat.reduceSub, Nat.ble_eq, Nat.reduceLeDiff, Nat.reduceBEq, Int.reduceBEq, Int.reduceNeg, Bool.and_true, Bool.and_false, Bool.true_and, Bool.false_and, Bool.not_true, Bool.not_false, Bool.true_eq_false, Bool.false_eq_true, Int.reduceLT, Int.reduceLE, Int.reduceGT, Int.reduceGE, decide_true, decide_false, Bool.not_eq_true, loopN_norm, loopN_exit, tf, ft, ff, v1, e1, evCallT_told, q1]
      exact ⟨_, rfl, by simp, _, _, _, _, rfl⟩
    · left
      refine ⟨by omega, ?_⟩
      have hbj := ba la[j] (List.getElem_mem _)
      have hbb := bb (lb[j]'(by omega)) (List.getElem_mem _)
      have c1 : decide ((j : Int) < 0) = false := decide_eq_false (by omega)
      have c2 : decide ((j : Int) ≥ 4) = false := decide_eq_false (by omega)
      have c3 : ((j : Int) == (k : Int)) = false := by simp; omega
      have c4 : decide (la[j] > 0) = true := decide_eq_true hjp
      have c5 : IntKind.i64.wrap (la[j] - 1) = la[j] - 1 := wrapI (by omega) (by omega)
      have c6 : decide (lb[j]'(by omega) < 0) = false := decide_eq_false (by omega)
      have m1 : Nat.blt j 4 = true := bltT (by omega)
      have k1 : h1.read ia j 1 = some [.int .i64 la[j]] := read_cells ga (by simp [icell, hj])
      have W := write_one (v := .int .i64 (la[j] - 1)) ga (show j < (la.map icell).length by simpa using hj)
      have k2 : (h1.put ia (.cells ((la.map icell).set j (.int .i64 (la[j] - 1))))).read ib j 1 = some [.int .i64 (lb[j]'(by omega))] := read_cells ((get_put_ne (Ne.symm hne)).trans gb) (by simp [icell, show j < lb.length by omega])
      have hrs := rest_set k la 0 j hj (la[j] - 1) (by omega)
      simp only [enter_eq, ev_seq, seqK_norm, seqK_exit, seqK_ret, ev_reg, ev_cond, condK_true, condK_false, ev_block, blockK_norm, blockK_ret, blockK_exit, ev_loop, ev_skip, ev_exit, ev_ret, regK_cons, regK_nil, guard_none, guard_some, regG_true, regG_false, regO_some, op_mov, op_conv, op_bin, op_bsl, op_box, op_mks, op_s2b, op_pick, op_un, op_eq, op_len, op_ext, op_load, op_iaddr, op_slice, op_b2s, op_idxS, op_mx, op_mn, op_call, op_store, op_app, op_copy, args_eq, result_one', rv_loc, finish_norm, finish_ret, outK_some, keep_true, keep_false, keep_nil, p_bin, p_pick, p_un, p_eq, p_conv, evNew, pureK_some, newK_some, X.eval, set_none, set_some, List.map_cons, List.map_nil, List.getD_cons_zero, List.getD_cons_succ, List.getD_nil, List.set_cons_zero, List.set_cons_succ, binCV, unCV, isShift, intArithF_eq, shiftF_eq, wrapF_eq, intArith, shift, eqVal, bound, asNat_cast, cond_true, cond_false, BEq.rfl, beq_self_eq_true, evalParts, fillParts, AV.cells, AV.ofCells, XV.av, AV.xv, List.length_cons, List.length_nil, zeros, patch, setMany, List.nil_append, List.cons_append, Nat.ble, Nat.add_eq, Nat.zero_add, Nat.add_zero, Nat.reduceAdd, Nat.reduceMul, Nat.reduceSub, Nat.ble_eq, Nat.reduceLeDiff, Nat.reduceBEq, Int.reduceBEq, Int.reduceNeg, Bool.and_true, Bool.and_false, Bool.true_and, Bool.false_and, Bool.not_true, Bool.not_false, Bool.true_eq_false, Bool.false_eq_true, Int.reduceLT, Int.reduceLE, Int.reduceGT, Int.reduceGE, decide_true, decide_false, Bool.not_eq_true, loopN_norm, loopN_exit, tf, ft, ff, v1, v2, e1, c1, c2, c3, c4, c5, c6, p_iaddr, p_load, m1, Nat.mul_one, k1, k2, evEff, W]
      refine ⟨_, _, rfl, la.set j (la[j] - 1), lb, by simpa using hla, hlb, fun v hv => ?_, bb, by rw [get_put_at, List.map_set]; rfl, (get_put_ne (Ne.symm hne)).trans gb, na, nb, by rw [hrs]; omega, rfl⟩
      rcases List.mem_or_eq_of_mem_set hv with h2 | h2
      · exact ba v h2
      · omega
    · left
      refine ⟨by omega, ?_⟩
      have hbj := bb lb[j] (List.getElem_mem _)
      have c1 : decide ((j : Int) < 0) = false := decide_eq_false (by omega)
      have c2 : decide ((j : Int) ≥ 4) = false := decide_eq_false (by omega)
      have c3 : ((j : Int) == (k : Int)) = false := by simp; omega
      have c4 : decide ((0 : Int) > 0) = false := rfl
      have c5 : IntKind.i64.wrap (lb[j] - 1) = lb[j] - 1 := wrapI (by omega) (by omega)
      have c6 : decide (lb[j] - 1 < 0) = false := decide_eq_false (by omega)
      have m1 : Nat.blt j 4 = true := bltT (by omega)
      have k1 : h1.read ia j 1 = some [.int .i64 0] := read_cells ga (by simp [icell, show j < la.length by omega, hz])
      have k2 : h1.read ib j 1 = some [.int .i64 lb[j]] := read_cells gb (by simp [icell, hj])
      have W := write_one (v := .int .i64 (lb[j] - 1)) gb (show j < (lb.map icell).length by simpa using hj)
      have k3 : (h1.put ib (.cells ((lb.map icell).set j (.int .i64 (lb[j] - 1))))).read ib j 1 = some [.int .i64 (lb[j] - 1)] := read_cells get_put_at (by rw [List.getElem?_set_self (by simpa using hj)])
      have hrs := rest_set k lb 0 j hj (lb[j] - 1) (by omega)
      simp only [enter_eq, ev_seq, seqK_norm, seqK_exit, seqK_ret, ev_reg, ev_cond, condK_true, condK_false, ev_block, blockK_norm, blockK_ret, blockK_exit, ev_loop, ev_skip, ev_exit, ev_ret, regK_cons, regK_nil, guard_none, guard_some, regG_true, regG_false, regO_some, op_mov, op_conv, op_bin, op_bsl, op_box, op_mks, op_s2b, op_pick, op_un, op_eq, op_len, op_ext, op_load, op_iaddr, op_slice, op_b2s, op_idxS, op_mx, op_mn, op_call, op_store, op_app, op_copy, args_eq, result_one', rv_loc, finish_norm, finish_ret, outK_some, keep_true, keep_false, keep_nil, p_bin, p_pick, p_un, p_eq, p_conv, evNew, pureK_some, newK_some, X.eval, set_none, set_some, List.map_cons, List.map_nil, List.getD_cons_zero, List.getD_cons_succ, List.getD_nil, List.set_cons_zero, List.set_cons_succ, binCV, unCV, isShift, intArithF_eq, shiftF_eq, wrapF_eq, intArith, shift, eqVal, bound, asNat_cast, cond_true, cond_false, BEq.rfl, beq_self_eq_true, evalParts, fillParts, AV.cells, AV.ofCells, XV.av, AV.xv, List.length_cons, List.length_nil, zeros, patch, setMany, List.nil_append, List.cons_append, Nat.ble, Nat.add_eq, Nat.zero_add, Nat.add_zero, Nat.reduceAdd, Nat.reduceMul, Nat.reduceSub, Nat.ble_eq, Nat.reduceLeDiff, Nat.reduceBEq, Int.reduceBEq, Int.reduceNeg, Bool.and_true, Bool.and_false, Bool.true_and, Bool.false_and, Bool.not_true, Bool.not_false, Bool.true_eq_false, Bool.false_eq_true, Int.reduceLT, Int.reduceLE, Int.reduceGT, Int.reduceGE, decide_true, decide_false, Bool.not_eq_true, loopN_norm, loopN_exit, tf, ft, ff, v1, v2, e1, c1, c2, c3, c4, c5, c6, p_iaddr, p_load, m1, Nat.mul_one, k1, k2, k3, evEff, W]
      refine ⟨_, _, rfl, la, lb.set j (lb[j] - 1), hla, by simpa using hlb, ba, fun v hv => ?_, (get_put_ne hne).trans ga, by rw [get_put_at, List.map_set]; rfl, na, nb, by rw [hrs]; omega, rfl⟩
      rcases List.mem_or_eq_of_mem_set hv with h2 | h2
      · exact bb v h2
      · omega
  obtain ⟨r, hr0, a0, a1, l, h'', rfl⟩ := L0 [.c (.sl bx ox xs.length cx), .junk, .junk, .c (.int .i64 (k : Int)), .c (.sl ia 0 4 (.dy 1)), .c (.sl ib 0 4 (.dy 1)), .c (.int .i64 S), a7, .c (.int .i64 0), .c (.int .i64 0), .junk, .junk, a12, a13, .junk, .junk, .junk, .junk, .junk] rfl
  simp only [enter_eq, ev_seq, seqK_norm, seqK_exit, seqK_ret, ev_reg, ev_cond, condK_true, condK_false, ev_block, blockK_norm, blockK_ret, blockK_exit, ev_loop, ev_skip, ev_exit, ev_ret, regK_cons, regK_nil, guard_none, guard_some, regG_true, regG_false, regO_some, op_mov, op_conv, op_bin, op_bsl, op_box, op_mks, op_s2b, op_pick, op_un, op_eq, op_len, op_ext, op_load, op_iaddr, op_slice, op_b2s, op_idxS, op_mx, op_mn, op_call, op_store, op_app, op_copy, args_eq, result_one', rv_loc, finish_norm, finish_ret, outK_some, keep_true, keep_false, keep_nil, p_bin, p_pick, p_un, p_eq, p_conv, evNew, pureK_some, newK_some, X.eval, set_none, set_some, List.map_cons, List.map_nil, List.getD_cons_zero, List.getD_cons_succ, List.getD_nil, List.set_cons_zero, List.set_cons_succ, binCV, unCV, isShift, intArithF_eq, shiftF_eq, wrapF_eq, intArith, shift, eqVal, bound, asNat_cast, cond_true, cond_false, BEq.rfl, beq_self_eq_true, evalParts, fillParts, AV.cells, AV.ofCells, XV.av, AV.xv, List.length_cons, List.length_nil, zeros, patch, setMany, List.nil_append, List.cons_append, Nat.ble, Nat.add_eq, Nat.zero_add, Nat.add_zero, Nat.reduceAdd, Nat.reduceMul, Nat.reduceSub, Nat.ble_eq, Nat.reduceLeDiff, Nat.reduceBEq, Int.reduceBEq, Int.reduceNeg, Bool.and_true, Bool.and_false, Bool.true_and, Bool.false_and, Bool.not_true, Bool.not_false, Bool.true_eq_false, Bool.false_eq_true, Int.reduceLT, Int.reduceLE, Int.reduceGT, Int.reduceGE, decide_true, decide_false, Bool.not_eq_true, loopN_norm, loopN_exit, tf, ft, ff, lx, v0, ek', hr1, blockK_exit_eq, hr0, blockK_ret]
  rfl

end Lav

namespace Go.Proofs.Ytnjfpdkdafdfdaa.giveAll
open Go.ChangeShapes Go.WideShapes Go.ChangeAt Go.RowKit
open Go.ChangeMaps (open_string shut_string)
set_option linter.unusedVariables false

theorem own : ownKnob Try.prog.godebug = none := by kernel_rfl
theorem laidOut : laidOutB Try.prog = true := by kernel_rfl

/-- WHAT THE WALK IS TOLD OF A SLICE OF INTEGERS THAT CAME IN: it is nil; or it leads to a row of 'cap' cells, the numbers 'zs' (the first 'len' are its elements, the rest its spare room), each fitting its kind. -/
def IsRow (k : IntKind) (w : World) (a : Option Addr) (len cap : Nat) (zs : List Int) : Prop :=
  (a = none ∧ len = 0 ∧ cap = 0 ∧ zs = []) ∨
  ∃ x, a = some x ∧ len ≤ cap ∧ cap ≤ maxLen ∧ zs.length = cap ∧ (∀ i, i < zs.length → w.cell? (x.add i) = some (.int k (zs.getD i 0))) ∧ ∀ n ∈ zs, (Lit.int k n).wf = true

/-! ### STEP 1: THE WALK: the Go text returns true, AND WRITES NOTHING THAT WAS THERE: 'Below w.heap.size w w'' (Derived/Below.lean: '.refl', '.alloc', '.drew', '.setCell' at a new block, '.trans'). Open each 'IsRow' by 'rcases' AHEAD of 'go_enter'; part every test ahead of the walk. -/
theorem walk (a0 : Option Addr) (len0 cap0 : Nat) (z0 : List Int) (a1 : Int) (w : World) (w0 : IsRow .i64 w a0 len0 cap0 z0) (w1 : (Lit.int .i64 a1).wf = true) :
    Calls Try.prog 7 #[.slice a0 len0 cap0, .int .i64 a1] w fun e w' => e = .returned (.bool true) ∧ Below w.heap.size w w' := by
  obtain ⟨ι, h, x, I, hle, hx, hr⟩ := (Lav.Init.empty w).slice w0
  exact Lav.walk_of (Lav.evCallT_sound Lav.mixed Lav.table_ok Lav.tld17 100 9) I (args := [.c x, .c (.int .i64 a1)]) (vs := [.slice a0 len0 cap0, .int .i64 a1]) ⟨hx, rfl, trivial⟩ (Lav.giveAll a1 (Lav.ints_of hr))

/-! ### THE ROW's STEP: WRITTEN OUT: LEAVE IT -/
set_option maxRecDepth 100000 in
theorem lifted (os : Os) (started : os.Started) (H : Type) (enc : TypeId × Value → H) :
    ReturnsInHanded {} Try.checked os 7 .any (Rows.giveAllSpec.pre6 enc Try.prog Try.f7 Rows.giveAllRow.domain false) (Rows.giveAllSpec.post enc Try.prog Try.f7 false true false false) := by
  refine returnsInHanded_of_change (C := Try.checked) own started (by kernel_rfl) Try.func7
    (ChangeSpec.witness6 (enc := enc) (C := Try.checked) false ⟨#[], #[.slice none 0 0, .int .i64 0], []⟩ 8 (by kernel_rfl) (by kernel_rfl) (by kernel_rfl) (by kernel_rfl)) ?_
  intro W base args ds gs before hval0 hW hcnd _
  have hval : ∀ (j : Nat) t v, Try.f7.params[j]? = some t → args[j]? = some v → Value.okWide Try.prog W .any base t v := hval0
  have hW' := hW
  obtain ⟨p, q, hA0, hV, rfl, hfz, hnd⟩ := hW
  have hA : DataW.TrodAll enc Try.prog W 0 (fun _ => true) true Try.f7.params.toList args.toList ds p := hA0
  rw [Try.params7] at hA hval
  obtain ⟨v0, vs0, d0, ds0, p0, q0, hargs, rfl, rfl, h0, r0⟩ := trodAll_cons hA
  obtain ⟨v1, vs1, d1, ds1, p1, q1, rfl, rfl, rfl, h1, r1⟩ := trodAll_cons r0
  obtain ⟨rfl, rfl, rfl⟩ := trodAll_nil r1
  obtain rfl : args = #[v0, v1] := by cases args; simp_all
  obtain ⟨rfl, rfl⟩ := trodVars_none hV
  obtain ⟨a0, len0, cap0, rfl⟩ := okWide_slice Try.underlying22 (hval 0 22 v0 rfl rfl)
  have k0 := h0
  have lt0 : ∀ x ∈ p0, x.block < W.heap.size := by obtain ⟨m, hm⟩ := k0; exact DataW.trod_lt m _ _ _ hm
  obtain ⟨z0, w0⟩ : ∃ zs, IsRow .i64 W a0 len0 cap0 zs := by
    obtain ⟨fuel, hf⟩ := h0
    rcases open_ints Try.underlying22 Try.underlying3 (by kernel_rfl) hf with ⟨hcs, _⟩ | ⟨x, l, c, zs, hcs, _, hl, hm, hz, _, hcell, hwz⟩
    · simp [Value.cells] at hcs
      obtain ⟨rfl, rfl, rfl⟩ := hcs
      exact ⟨[], .inl ⟨rfl, rfl, rfl, rfl⟩⟩
    · simp [Value.cells] at hcs
      obtain ⟨rfl, rfl, rfl⟩ := hcs
      exact ⟨zs, .inr ⟨_, rfl, hl, hm, by simpa using hz, hcell, hwz⟩⟩
  obtain ⟨a1, rfl, rfl, rfl, w1⟩ := open_int Try.underlying3 (hval 1 3 v1 rfl rfl) h1
  clear hA0 hval0
  refine (walk a0 len0 cap0 z0 a1 W w0 w1).mono fun e W' ⟨he, bel⟩ => ?_
  subst he
  exact ⟨_, rfl, _, _, _, [], _, [], hW', trodAll_mk1 (shut_bool Try.underlying4 _), (trodAll_cons_mk (Below.trod laidOut (by kernel_rfl) (of_decide_eq_true (by kernel_rfl)) k0 bel lt0) (trodAll_cons_mk (shut_int Try.underlying3 w1) trodAll_mk0)), rfl, bel.frame _, fun h => by cases h⟩

theorem over : Rows.giveAllRow.holds Try.pinned (OpenSpec.ofChange Rows.giveAllSpec) :=
  OpenClaim.holds_of_wide 7 Try.f7 rfl rfl rfl rfl rfl rfl rfl ⟨rfl, rfl, rfl, rfl, rfl⟩ rfl rfl rfl rfl rfl (by kernel_rfl) Try.func7 (by kernel_rfl)
    (of_decide_eq_true (by kernel_rfl)) (by unfold Func.isWrapper; first | (rw [if_pos (by decide +kernel)]; kernel_rfl) | (rw [if_neg (by decide +kernel)]; exact ⟨rfl, rfl⟩))
    (fun os started H enc _ => lifted os started H enc)

/-- ████ THE STATEMENT ████ -/
theorem proved : Rows.GiveAllSaid := over
end Go.Proofs.Ytnjfpdkdafdfdaa.giveAll
