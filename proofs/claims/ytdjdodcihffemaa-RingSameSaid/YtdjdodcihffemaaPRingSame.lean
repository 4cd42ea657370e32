/-
  Proved: whatever touches come in, lavabolaw8.RingSame returns true and changes nothing that was there. No conditions beyond the given statement's.
-/
import Derived.Test.YtdjdodcihffemaaRows
import Derived.Test.YtdjdodcihffemaaInts0
import Derived.Test.YtdjdodcihffemaaRing1
import Derived.Test.YtdjdodcihffemaaLisR1
import Derived.Test.YtdjdodcihffemaaLisR2
import Derived.Test.YtdjdodcihffemaaLisR3
import Derived.Test.YtdjdodcihffemaaLisR4
import Derived.Test.YtdjdodcihffemaaLisR5
import Derived.Test.YtdjdodcihffemaaApply1
import Derived.WalkKit
import Derived.ProofKit
import Derived.OpenShut
import Derived.ShutString
import Derived.ChangeOld
import Derived.Below
set_option maxRecDepth 100000
set_option linter.unusedSimpArgs false
namespace Lav
open Go (IntKind)
def row (i : Nat) : List Int := (List.range i).map Int.ofNat
theorem row_succ (i : Nat) : row i ++ [(i : Int)] = row (i + 1) := by unfold row; rw [List.range_succ, List.map_append]; rfl
theorem row_len (i : Nat) : (row i).length = i := by simp [row]
theorem row_not (i : Nat) : (i : Int) ∉ row i := by
  unfold row; intro h
  obtain ⟨a, ha, e⟩ := List.mem_map.1 h
  have h1 := List.mem_range.1 ha
  have e' : (a : Int) = (i : Int) := e
  omega
theorem row_mem {n j : Nat} (h : j < n) : (j : Int) ∈ row n := List.mem_map.2 ⟨j, List.mem_range.2 h, rfl⟩

/-- Two lists and a ring, each in blocks of its own. -/
structure Trio (h : Heap) (p b q e r c : Nat) (o2 o3 ts : List Int) : Prop where
  t2 : LL h p b 20 o2
  t3 : LL h q e 20 o3
  g : RG h r c ts
  eq : o3 = ts.foldl applyM o2
  mem : ∀ j : Nat, j < 20 → (j : Int) ∈ o2
  few : ts.length < 8

theorem ringSame {x : CV} {h : Heap} {xs : List Int} (hx : Ints h x xs) : good (evCallT table 16 300 9 11 [.c x] h) = true := by
  have lx : ∀ (loc vals : List AV) (h : Heap), evPure loc (.c x :: vals) h (.len .sl (.val 0)) = some (.c (.int .i64 (xs.length : Int))) := fun _ _ _ => hx.len rfl
  obtain ⟨p, b, h1, e1, t1, x1, hp, hb⟩ : ∃ p b h', evCallT table 16 300 8 22 [.c (.int .i64 20)] h = some (.c (.ptr p 0), h') ∧ LL h' p b 20 [] ∧ Ext h h' ∧ h.next ≤ p ∧ h.next ≤ b := new_ok' (N := 300) (d := 7) 20 h (by omega)
  obtain ⟨q, e, h2, e2, t2, x2, hq, he⟩ : ∃ p b h', evCallT table 16 300 8 22 [.c (.int .i64 20)] h1 = some (.c (.ptr p 0), h') ∧ LL h' p b 20 [] ∧ Ext h1 h' ∧ h1.next ≤ p ∧ h1.next ≤ b := new_ok' (N := 300) (d := 7) 20 h1 (by omega)
  obtain ⟨r, c, h3, e3, g3, x3, hr, hc⟩ : ∃ p c h', evCallT table 16 300 8 12 [] h2 = some (.c (.ptr p 0), h') ∧ RG h' p c [] ∧ Ext h2 h' ∧ h2.next ≤ p ∧ h2.next ≤ c := new_ok (N := 300) (d := 7) h2
  have hpn := t1.pn
  have hbn := t1.bn
  have hqn := t2.pn
  have hen := t2.bn
  have hrn := g3.pn
  have hcn := g3.cn
  have hx1n := x1.1
  have hx2n := x2.1
  have hx3n := x3.1
  have dis : p ≠ q ∧ p ≠ e ∧ b ≠ q ∧ b ≠ e ∧ p ≠ r ∧ p ≠ c ∧ b ≠ r ∧ b ≠ c ∧ q ≠ r ∧ q ≠ c ∧ e ≠ r ∧ e ≠ c := by omega
  have t1' : LL h3 p b 20 [] := t1.ext ((x2.trans x3).b []) (by simp) (by simp)
  have t2' : LL h3 q e 20 [] := t2.ext (x3.b []) (by simp) (by simp)
  have hx3 : Ints h3 x xs := ((hx.ext x1).ext x2).ext x3
  have hxb : ∀ k, blk x = some k → k ∉ [p, b, q, e, r, c] := fun k hk => by
    rcases hx with ⟨rfl, _⟩ | ⟨i, o, c, rfl, hi, _⟩
    · cases hk
    · simp [blk] at hk; simp; omega
  rw [evCallT_eq (F := ir11) rfl rfl rfl]
  unfold ir11
  rw [bodyK_eq]
  have L1 : ∀ loc, keepOnly ir11_k1 loc = [.c x, .junk, .c (.ptr p 0), .c (.ptr q 0), .c (.ptr r 0), .c (.int .i64 0), .junk, .junk, .junk, .junk, .junk] →
      ∃ rr, loopK (evCallT table 16 300 8) 300 ir11_k1 ir11_l1 300 loc h3 = some rr ∧ ∃ a5 a9 h', rr = (.exit 0, [.c x, .junk, .c (.ptr p 0), .c (.ptr q 0), .c (.ptr r 0), a5, .junk, .junk, .junk, a9, .junk], h') ∧ Trio h' p b q e r c (row 20) (row 20) [] ∧ ExtB [p, b, q, e, r, c] h3 h' := by
    intro loc hloc
    refine loop_inv (n := 20) (fun i loc h' => LL h' p b 20 (row i) ∧ LL h' q e 20 (row i) ∧ RG h' r c [] ∧ ExtB [p, b, q, e, r, c] h3 h' ∧ loc = [.c x, .junk, .c (.ptr p 0), .c (.ptr q 0), .c (.ptr r 0), .c (.int .i64 (i : Int)), .junk, .junk, .junk, .junk, .junk]) _ ?_ ⟨t1', t2', g3, ExtB.refl _ _, hloc⟩ (by omega)
    rintro i loc h' hi ⟨ta, tb, g, xe, rfl⟩
    unfold ir11_l1
    by_cases hlt : i < 20
    · left
      refine ⟨hlt, ?_⟩
      have v1 : decide ((i : Int) < 20) = true := ltNat (n := 20) hlt
      have v2 := succI (i := i) (by omega)
      obtain ⟨h4, e4, t4, x4⟩ : ∃ h'', evCallT table 16 300 8 26 [.c (.ptr p 0), .c (.int .i64 (i : Int))] h' = some (.c (.bool true), h'') ∧ LL h'' p b 20 (row i ++ [(i : Int)]) ∧ ExtB [p, b] h' h'' := back_ok (N := 300) (d := 6) ta (by omega) (by omega) (row_not i) (by rw [row_len]; omega)
      obtain ⟨h5, e5, t5, x5⟩ : ∃ h'', evCallT table 16 300 8 26 [.c (.ptr q 0), .c (.int .i64 (i : Int))] h4 = some (.c (.bool true), h'') ∧ LL h'' q e 20 (row i ++ [(i : Int)]) ∧ ExtB [q, e] h4 h'' := back_ok (N := 300) (d := 6) (tb.ext x4 (by simp; omega) (by simp; omega)) (by omega) (by omega) (row_not i) (by rw [row_len]; omega)
      rw [row_succ] at t4 t5
      simp only [enter_eq, ev_seq, seqK_norm, seqK_exit, seqK_ret, ev_reg, ev_cond, condK_true, condK_false, ev_block, blockK_norm, blockK_ret, blockK_exit, ev_loop, ev_skip, ev_exit, ev_ret, regK_cons, regK_nil, guard_none, guard_some, regG_true, regG_false, regO_some, op_mov, op_conv, op_bin, op_bsl, op_box, op_mks, op_s2b, op_pick, op_un, op_eq, op_len, op_ext, op_load, op_iaddr, op_slice, op_b2s, op_idxS, op_mx, op_mn, op_call, op_store, op_app, op_copy, args_eq, result_one', rv_loc, finish_norm, finish_ret, outK_some, keep_true, keep_false, keep_nil, p_bin, p_pick, p_un, p_eq, p_conv, evNew, pureK_some, newK_some, X.eval, set_none, set_some, List.map_cons, List.map_nil, List.getD_cons_zero, List.getD_cons_succ, List.getD_nil, List.set_cons_zero, List.set_cons_succ, binCV, unCV, isShift, intArithF_eq, shiftF_eq, wrapF_eq, intArith, shift, eqVal, bound, asNat_cast, cond_true, cond_false, BEq.rfl, beq_self_eq_true, evalParts, fillParts, AV.cells, AV.ofCells, XV.av, AV.xv, List.length_cons, List.length_nil, zeros, patch, setMany, List.nil_append, List.cons_append, Nat.ble, Nat.add_eq, Nat.zero_add, Nat.add_zero, Nat.reduceAdd, Nat.reduceMul, Nat.reduceSub, Nat.ble_eq, Nat.reduceLeDiff, Nat.reduceBEq, Int.reduceBEq, Int.reduceNeg, Bool.and_true, Bool.and_false, Bool.true_and, Bool.false_and, Bool.not_true, Bool.not_false, Bool.true_eq_false, Bool.false_eq_true, Int.reduceLT, Int.reduceLE, Int.reduceGT, Int.reduceGE, decide_true, decide_false, Bool.not_eq_true, loopN_norm, loopN_exit, tf, ft, ff, v1, v2, e4, e5]
      exact ⟨_, _, rfl, t4.ext x5 (by simp; omega) (by simp; omega), t5, (g.ext x4 (by simp; omega) (by simp; omega)).ext x5 (by simp; omega) (by simp; omega), (xe.trans (x4.mono (by simp +contextual))).trans (x5.mono (by simp +contextual)), rfl⟩
    · right
      have hin : i = 20 := by omega
      subst hin
      simp only [enter_eq, ev_seq, seqK_norm, seqK_exit, seqK_ret, ev_reg, ev_cond, condK_true, condK_false, ev_block, blockK_norm, blockK_ret, blockK_exit, ev_loop, ev_skip, ev_exit, ev_ret, regK_cons, regK_nil, guard_none, guard_some, regG_true, regG_false, regO_some, op_mov, op_conv, op_bin, op_bsl, op_box, op_mks, op_s2b, op_pick, op_un, op_eq, op_len, op_ext, op_load, op_iaddr, op_slice, op_b2s, op_idxS, op_mx, op_mn, op_call, op_store, op_app, op_copy, args_eq, result_one', rv_loc, finish_norm, finish_ret, outK_some, keep_true, keep_false, keep_nil, p_bin, p_pick, p_un, p_eq, p_conv, evNew, pureK_some, newK_some, X.eval, set_none, set_some, List.map_cons, List.map_nil, List.getD_cons_zero, List.getD_cons_succ, List.getD_nil, List.set_cons_zero, List.set_cons_succ, binCV, unCV, isShift, intArithF_eq, shiftF_eq, wrapF_eq, intArith, shift, eqVal, bound, asNat_cast, cond_true, cond_false, BEq.rfl, beq_self_eq_true, evalParts, fillParts, AV.cells, AV.ofCells, XV.av, AV.xv, List.length_cons, List.length_nil, zeros, patch, setMany, List.nil_append, List.cons_append, Nat.ble, Nat.add_eq, Nat.zero_add, Nat.add_zero, Nat.reduceAdd, Nat.reduceMul, Nat.reduceSub, Nat.ble_eq, Nat.reduceLeDiff, Nat.reduceBEq, Int.reduceBEq, Int.reduceNeg, Bool.and_true, Bool.and_false, Bool.true_and, Bool.false_and, Bool.not_true, Bool.not_false, Bool.true_eq_false, Bool.false_eq_true, Int.reduceLT, Int.reduceLE, Int.reduceGT, Int.reduceGE, decide_true, decide_false, Bool.not_eq_true, loopN_norm, loopN_exit, tf, ft, ff]
      exact ⟨_, rfl, by simp, _, _, h', rfl, ⟨ta, tb, g, rfl, fun j hj => row_mem hj, by simp⟩, xe⟩
  obtain ⟨rr, hr1, a5, a9, h4, rfl, T4, x4⟩ := L1 [.c x, .c (.bool false), .c (.ptr p 0), .c (.ptr q 0), .c (.ptr r 0), .c (.int .i64 0), .tup [], .tup [], .c (.bool false), .tup [], .tup []] rfl
  have L0 : ∀ loc, keepOnly ir11_k0 loc = [.c x, .junk, .c (.ptr p 0), .c (.ptr q 0), .c (.ptr r 0), .junk, .c (.int .i64 0), .junk, .junk, .junk, .junk] →
      ∃ rr, loopK (evCallT table 16 300 8) 300 ir11_k0 ir11_l0 300 loc h4 = some rr ∧ ∃ a0 a1 l h' o2 o3 ts, rr = (.exit 2, a0 :: a1 :: .c (.ptr p 0) :: .c (.ptr q 0) :: .c (.ptr r 0) :: l, h') ∧ Trio h' p b q e r c o2 o3 ts ∧ h4.next ≤ h'.next := by
    intro loc hloc
    refine loop_inv (n := min xs.length 100) (fun i loc h' => ∃ o2 o3 ts, Trio h' p b q e r c o2 o3 ts ∧ ExtB [p, b, q, e, r, c] h4 h' ∧ loc = [.c x, .junk, .c (.ptr p 0), .c (.ptr q 0), .c (.ptr r 0), .junk, .c (.int .i64 (i : Int)), .junk, .junk, .junk, .junk]) _ ?_ ⟨_, _, _, T4, ExtB.refl _ _, hloc⟩ (by omega)
    rintro i loc h' hi ⟨o2, o3, ts, T, xe, rfl⟩
    unfold ir11_l0
    by_cases hlt : i < min xs.length 100
    · left
      refine ⟨hlt, ?_⟩
      have v1 : decide ((i : Int) < (xs.length : Int)) = true := ltNat (by omega)
      have v4 : decide ((i : Int) < 100) = true := ltNat (n := 100) (by omega)
      have v2 := succI (i := i) (by omega)
      have hx' : Ints h' x xs := (hx3.keepB x4 hxb).keepB xe hxb
      obtain ⟨bx, ox, cx, rfl, _, rx⟩ := hx'.sl (by omega)
      have k1 := rx i (by omega)
      have m1 : Nat.blt i xs.length = true := bltT (by omega)
      obtain ⟨k, hk, ek⟩ := few (a := xs[i]'(by omega)) (m := 20) (by omega) (by omega)
      have ek' : IntKind.i64.wrap (Int.tmod (IntKind.u64.wrap (xs[i]'(by omega))) 20) = (k : Int) := ek
      have hk2 := T.mem k hk
      have hk3 : (k : Int) ∈ o3 := by rw [T.eq]; exact applyM_all.2 hk2
      obtain ⟨h5, h6, e5, e6, t6, x5, x6⟩ : ∃ h1 h2, evCallT table 16 300 8 28 [.c (.ptr q 0), .c (.int .i64 (k : Int))] h' = some (.c (.bool true), h1) ∧ evCallT table 16 300 8 24 [.c (.ptr q 0), .c (.int .i64 (k : Int))] h1 = some (.c (.bool true), h2) ∧ LL h2 q e 20 ((k : Int) :: o3.erase (k : Int)) ∧ ExtB [q, e] h' h1 ∧ ExtB [q, e] h' h2 := one_ok (N := 300) (d := 6) T.t3 (by omega) hk3
      have g6 : RG h6 r c ts := T.g.ext x6 (by simp; omega) (by simp; omega)
      have ta6 : LL h6 p b 20 o2 := T.t2.ext x6 (by simp; omega) (by simp; omega)
      obtain ⟨y, h7, e7, g7, my, x7⟩ : ∃ y h'', evCallT table 16 300 8 13 [.c (.ptr r 0), .c (.int .i64 (k : Int))] h6 = some (.c y, h'') ∧ RG h'' r c (if ts.length + 1 < 8 then ts ++ [(k : Int)] else []) ∧ Made h6 h'' y (if ts.length + 1 < 8 then [] else ts ++ [(k : Int)]) ∧ ExtB [c] h6 h'' := touch_ok (N := 300) (d := 6) g6 (k : Int) (by omega) (by omega) T.few (by omega)
      have ta7 : LL h7 p b 20 o2 := ta6.ext x7 (by simp; omega) (by simp; omega)
      have tb7 : LL h7 q e 20 ((k : Int) :: o3.erase (k : Int)) := t6.ext x7 (by simp; omega) (by simp; omega)
      have hfew := T.few
      have bel : ∀ j ∈ [p, b, q, e, r, c], j < h6.next := fun j hj => by
        have h1 := ta6.pn; have h2 := ta6.bn; have h3 := t6.pn; have h4 := t6.bn; have h5 := g6.pn; have h6' := g6.cn
        simp at hj; omega
      obtain ⟨h8, e8, t8, x8⟩ : ∃ h', evCallT table 16 300 8 39 [.c (.ptr p 0), .c y] h7 = some (.tup [], h') ∧ LL h' p b 20 ((if ts.length + 1 < 8 then [] else ts ++ [(k : Int)]).foldl applyM o2) ∧ ExtB [p, b] h7 h' := apply_ok (N := 300) (d := 5) ta7 (by omega) my.ints (fun j hj hm => by have := my.young j hj; have := bel j (by simp at hm ⊢; omega); omega) (by split <;> simp <;> omega) (by split <;> simp <;> omega)
      have h3' : applyM o3 (k : Int) = (k : Int) :: o3.erase (k : Int) := if_pos hk3
      have hfold : (ts ++ [(k : Int)]).foldl applyM o2 = (k : Int) :: o3.erase (k : Int) := by
        rw [List.foldl_append, ← T.eq, List.foldl_cons, List.foldl_nil, h3']
      have T8 : Trio h8 p b q e r c ((if ts.length + 1 < 8 then [] else ts ++ [(k : Int)]).foldl applyM o2) ((k : Int) :: o3.erase (k : Int)) (if ts.length + 1 < 8 then ts ++ [(k : Int)] else []) := by
        refine ⟨t8, tb7.ext x8 (by simp; omega) (by simp; omega), g7.ext x8 (by simp; omega) (by simp; omega), ?_, fun j hj => applyM_all.2 (T.mem j hj), ?_⟩
        · split
          · exact hfold.symm
          · exact hfold.symm
        · split <;> simp <;> omega
      simp only [enter_eq, ev_seq, seqK_norm, seqK_exit, seqK_ret, ev_reg, ev_cond, condK_true, condK_false, ev_block, blockK_norm, blockK_ret, blockK_exit, ev_loop, ev_skip, ev_exit, ev_ret, regK_cons, regK_nil, guard_none, guard_some, regG_true, regG_false, regO_some, op_mov, op_conv, op_bin, op_bsl, op_box, op_mks, op_s2b, op_pick, op_un, op_eq, op_len, op_ext, op_load, op_iaddr, op_slice, op_b2s, op_idxS, op_mx, op_mn, op_call, op_store, op_app, op_copy, args_eq, result_one', rv_loc, finish_norm, finish_ret, outK_some, keep_true, keep_false, keep_nil, p_bin, p_pick, p_un, p_eq, p_conv, evNew, pureK_some, newK_some, X.eval, set_none, set_some, List.map_cons, List.map_nil, List.getD_cons_zero, List.getD_cons_succ, List.getD_nil, List.set_cons_zero, List.set_cons_succ, binCV, unCV, isShift, intArithF_eq, shiftF_eq, wrapF_eq, intArith, shift, eqVal, bound, asNat_cast, cond_true, cond_false, BEq.rfl, beq_self_eq_true, evalParts, fillParts, AV.cells, AV.ofCells, XV.av, AV.xv, List.length_cons, List.length_nil, zeros, patch, setMany, List.nil_append, List.cons_append, Nat.ble, Nat.add_eq, Nat.zero_add, Nat.add_zero, Nat.reduceAdd, Nat.reduceMul, Nat.reduceSub, Nat.ble_eq, Nat.reduceLeDiff, Nat.reduceBEq, Int.reduceBEq, Int.reduceNeg, Bool.and_true, Bool.and_false, Bool.true_and, Bool.false_and, Bool.not_true, Bool.not_false, Bool.true_eq_false, Bool.false_eq_true, Int.reduceLT, Int.reduceLE, Int.reduceGT, Int.reduceGE, decide_true, decide_false, Bool.not_eq_true, loopN_norm, loopN_exit, tf, ft, ff, lx, v1, v2, v4, p_iaddr, p_load, AV.ofCells, m1, Nat.mul_one, k1, ek', e5, e6, e7, e8]
      exact ⟨_, _, rfl, _, _, _, T8, ((xe.trans (x6.mono (by simp +contextual))).trans (x7.mono (by simp +contextual))).trans (x8.mono (by simp +contextual)), rfl⟩
    · right
      by_cases h3 : i < xs.length
      · have v1 : decide ((i : Int) < (xs.length : Int)) = true := ltNat h3
        have v4 : decide ((i : Int) < 100) = false := geNat (n := 100) (by omega)
        simp only [enter_eq, ev_seq, seqK_norm, seqK_exit, seqK_ret, ev_reg, ev_cond, condK_true, condK_false, ev_block, blockK_norm, blockK_ret, blockK_exit, ev_loop, ev_skip, ev_exit, ev_ret, regK_cons, regK_nil, guard_none, guard_some, regG_true, regG_false, regO_some, op_mov, op_conv, op_bin, op_bsl, op_box, op_mks, op_s2b, op_pick, op_un, op_eq, op_len, op_ext, op_load, op_iaddr, op_slice, op_b2s, op_idxS, op_mx, op_mn, op_call, op_store, op_app, op_copy, args_eq, result_one', rv_loc, finish_norm, finish_ret, outK_some, keep_true, keep_false, keep_nil, p_bin, p_pick, p_un, p_eq, p_conv, evNew, pureK_some, newK_some, X.eval, set_none, set_some, List.map_cons, List.map_nil, List.getD_cons_zero, List.getD_cons_succ, List.getD_nil, List.set_cons_zero, List.set_cons_succ, binCV, unCV, isShift, intArithF_eq, shiftF_eq, wrapF_eq, intArith, shift, eqVal, bound, asNat_cast, cond_true, cond_false, BEq.rfl, beq_self_eq_true, evalParts, fillParts, AV.cells, AV.ofCells, XV.av, AV.xv, List.length_cons, List.length_nil, zeros, patch, setMany, List.nil_append, List.cons_append, Nat.ble, Nat.add_eq, Nat.zero_add, Nat.add_zero, Nat.reduceAdd, Nat.reduceMul, Nat.reduceSub, Nat.ble_eq, Nat.reduceLeDiff, Nat.reduceBEq, Int.reduceBEq, Int.reduceNeg, Bool.and_true, Bool.and_false, Bool.true_and, Bool.false_and, Bool.not_true, Bool.not_false, Bool.true_eq_false, Bool.false_eq_true, Int.reduceLT, Int.reduceLE, Int.reduceGT, Int.reduceGE, decide_true, decide_false, Bool.not_eq_true, loopN_norm, loopN_exit, tf, ft, ff, lx, v1, v4]
        exact ⟨_, rfl, by simp, _, _, _, h', o2, o3, ts, rfl, T, xe.1⟩
      · have v1 : decide ((i : Int) < (xs.length : Int)) = false := geNat (by omega)
        simp only [enter_eq, ev_seq, seqK_norm, seqK_exit, seqK_ret, ev_reg, ev_cond, condK_true, condK_false, ev_block, blockK_norm, blockK_ret, blockK_exit, ev_loop, ev_skip, ev_exit, ev_ret, regK_cons, regK_nil, guard_none, guard_some, regG_true, regG_false, regO_some, op_mov, op_conv, op_bin, op_bsl, op_box, op_mks, op_s2b, op_pick, op_un, op_eq, op_len, op_ext, op_load, op_iaddr, op_slice, op_b2s, op_idxS, op_mx, op_mn, op_call, op_store, op_app, op_copy, args_eq, result_one', rv_loc, finish_norm, finish_ret, outK_some, keep_true, keep_false, keep_nil, p_bin, p_pick, p_un, p_eq, p_conv, evNew, pureK_some, newK_some, X.eval, set_none, set_some, List.map_cons, List.map_nil, List.getD_cons_zero, List.getD_cons_succ, List.getD_nil, List.set_cons_zero, List.set_cons_succ, binCV, unCV, isShift, intArithF_eq, shiftF_eq, wrapF_eq, intArith, shift, eqVal, bound, asNat_cast, cond_true, cond_false, BEq.rfl, beq_self_eq_true, evalParts, fillParts, AV.cells, AV.ofCells, XV.av, AV.xv, List.length_cons, List.length_nil, zeros, patch, setMany, List.nil_append, List.cons_append, Nat.ble, Nat.add_eq, Nat.zero_add, Nat.add_zero, Nat.reduceAdd, Nat.reduceMul, Nat.reduceSub, Nat.ble_eq, Nat.reduceLeDiff, Nat.reduceBEq, Int.reduceBEq, Int.reduceNeg, Bool.and_true, Bool.and_false, Bool.true_and, Bool.false_and, Bool.not_true, Bool.not_false, Bool.true_eq_false, Bool.false_eq_true, Int.reduceLT, Int.reduceLE, Int.reduceGT, Int.reduceGE, decide_true, decide_false, Bool.not_eq_true, loopN_norm, loopN_exit, tf, ft, ff, lx, v1]
        exact ⟨_, rfl, by simp, _, _, _, h', o2, o3, ts, rfl, T, xe.1⟩
  obtain ⟨rr, hr0, b0, b1, l, h5, o2, o3, ts, rfl, T, _⟩ := L0 [.c x, .junk, .c (.ptr p 0), .c (.ptr q 0), .c (.ptr r 0), a5, .c (.int .i64 0), .junk, .junk, a9, .junk] rfl
  have hfew := T.few
  obtain ⟨y, h6, e6, g6, my, x6⟩ : ∃ y h'', evCallT table 16 300 8 15 [.c (.ptr r 0)] h5 = some (.c y, h'') ∧ RG h'' r c [] ∧ Made h5 h'' y ts ∧ ExtB [c] h5 h'' := drain_ok (N := 300) (d := 7) T.g (by omega) (by omega)
  have ta6 : LL h6 p b 20 o2 := T.t2.ext x6 (by simp; omega) (by simp; omega)
  obtain ⟨h7, e7, t7, x7⟩ : ∃ h', evCallT table 16 300 8 39 [.c (.ptr p 0), .c y] h6 = some (.tup [], h') ∧ LL h' p b 20 (ts.foldl applyM o2) ∧ ExtB [p, b] h6 h' := apply_ok (N := 300) (d := 5) ta6 (by omega) my.ints (fun j hj hm => by have := my.young j hj; have := T.t2.pn; have := T.t2.bn; simp at hm; omega) (by omega) (by omega)
  have tb7 : LL h7 q e 20 o3 := (T.t3.ext x6 (by simp; omega) (by simp; omega)).ext x7 (by simp; omega) (by simp; omega)
  have hl7 := t7.le
  have hl7' := tb7.le
  obtain ⟨z, h8, e8, mz, x8⟩ : ∃ x h', evCallT table 16 300 8 38 [.c (.ptr p 0)] h7 = some (.c x, h') ∧ Made h7 h' x (ts.foldl applyM o2) ∧ Ext h7 h' := all_ok (N := 300) (d := 5) t7 (by omega) (by omega)
  obtain ⟨w, h9, e9, mw, x9⟩ : ∃ x h', evCallT table 16 300 8 38 [.c (.ptr q 0)] h8 = some (.c x, h') ∧ Made h8 h' x o3 ∧ Ext h8 h' := all_ok (N := 300) (d := 5) (tb7.ext (x8.b []) (by simp) (by simp)) (by omega) (by omega)
  have ei : evCallT table 16 300 8 17 [.c z, .c w] h9 = some (.c (.bool true), h9) := by
    have := ints_ok (T := 16) (N := 300) (d := 7) rfl (mz.ints.ext x9) mw.ints (by omega) (by omega)
    rw [decide_eq_true T.eq.symm] at this; exact this
  simp only [enter_eq, ev_seq, seqK_norm, seqK_exit, seqK_ret, ev_reg, ev_cond, condK_true, condK_false, ev_block, blockK_norm, blockK_ret, blockK_exit, ev_loop, ev_skip, ev_exit, ev_ret, regK_cons, regK_nil, guard_none, guard_some, regG_true, regG_false, regO_some, op_mov, op_conv, op_bin, op_bsl, op_box, op_mks, op_s2b, op_pick, op_un, op_eq, op_len, op_ext, op_load, op_iaddr, op_slice, op_b2s, op_idxS, op_mx, op_mn, op_call, op_store, op_app, op_copy, args_eq, result_one', rv_loc, finish_norm, finish_ret, outK_some, keep_true, keep_false, keep_nil, p_bin, p_pick, p_un, p_eq, p_conv, evNew, pureK_some, newK_some, X.eval, set_none, set_some, List.map_cons, List.map_nil, List.getD_cons_zero, List.getD_cons_succ, List.getD_nil, List.set_cons_zero, List.set_cons_succ, binCV, unCV, isShift, intArithF_eq, shiftF_eq, wrapF_eq, intArith, shift, eqVal, bound, asNat_cast, cond_true, cond_false, BEq.rfl, beq_self_eq_true, evalParts, fillParts, AV.cells, AV.ofCells, XV.av, AV.xv, List.length_cons, List.length_nil, zeros, patch, setMany, List.nil_append, List.cons_append, Nat.ble, Nat.add_eq, Nat.zero_add, Nat.add_zero, Nat.reduceAdd, Nat.reduceMul, Nat.reduceSub, Nat.ble_eq, Nat.reduceLeDiff, Nat.reduceBEq, Int.reduceBEq, Int.reduceNeg, Bool.and_true, Bool.and_false, Bool.true_and, Bool.false_and, Bool.not_true, Bool.not_false, Bool.true_eq_false, Bool.false_eq_true, Int.reduceLT, Int.reduceLE, Int.reduceGT, Int.reduceGE, decide_true, decide_false, Bool.not_eq_true, loopN_norm, loopN_exit, tf, ft, ff, e1, e2, e3, hr1, blockK_exit_eq, hr0, e6, e7, evCallT_told, e8, e9, ei]
  rfl

end Lav

namespace Go.Proofs.Ytdjdodcihffemaa.ringSame
open Go.ChangeShapes Go.WideShapes Go.ChangeAt Go.RowKit
open Go.ChangeMaps (open_string shut_string)
set_option linter.unusedVariables false

theorem own : ownKnob Try.prog.godebug = none := by kernel_rfl
theorem laidOut : laidOutB Try.prog = true := by kernel_rfl

/-- WHAT THE WALK IS TOLD OF A SLICE OF INTEGERS THAT CAME IN: it is nil; or it leads to a row of 'cap' cells, the numbers 'zs' (the first 'len' are its elements, the rest its spare room), each fitting its kind. -/
def IsRow (k : IntKind) (w : World) (a : Option Addr) (len cap : Nat) (zs : List Int) : Prop :=
  (a = none ∧ len = 0 ∧ cap = 0 ∧ zs = []) ∨
  ∃ x, a = some x ∧ len ≤ cap ∧ cap ≤ maxLen ∧ zs.length = cap ∧ (∀ i, i < zs.length → w.cell? (x.add i) = some (.int k (zs.getD i 0))) ∧ ∀ n ∈ zs, (Lit.int k n).wf = true

/-! ### STEP 1: THE WALK: the Go text returns true, AND WRITES NOTHING THAT WAS THERE: 'Below w.heap.size w w'' (Derived/Below.lean: '.refl', '.alloc', '.drew', '.setCell' at a new block, '.trans'). Open each 'IsRow' by 'rcases' AHEAD of 'go_enter'; part every test ahead of the walk. -/
theorem walk (a0 : Option Addr) (len0 cap0 : Nat) (z0 : List Int) (w : World) (w0 : IsRow .i64 w a0 len0 cap0 z0) :
    Calls Try.prog 11 #[.slice a0 len0 cap0] w fun e w' => e = .returned (.bool true) ∧ Below w.heap.size w w' := by
  obtain ⟨ι, h, x, I, hle, hx, hr⟩ := (Lav.Init.empty w).slice w0
  exact Lav.walk_of (Lav.evCallT_sound Lav.mixed Lav.table_ok Lav.tld8 300 9) I (args := [.c x]) (vs := [.slice a0 len0 cap0]) ⟨hx, trivial⟩ (Lav.ringSame (Lav.ints_of hr))

/-! ### THE ROW's STEP: WRITTEN OUT: LEAVE IT -/
set_option maxRecDepth 100000 in
theorem lifted (os : Os) (started : os.Started) (H : Type) (enc : TypeId × Value → H) :
    ReturnsInHanded {} Try.checked os 11 .any (Rows.ringSameSpec.pre6 enc Try.prog Try.f11 Rows.ringSameRow.domain false) (Rows.ringSameSpec.post enc Try.prog Try.f11 false true false false) := by
  refine returnsInHanded_of_change (C := Try.checked) own started (by kernel_rfl) Try.func11
    (ChangeSpec.witness6 (enc := enc) (C := Try.checked) false ⟨#[], #[.slice none 0 0], []⟩ 8 (by kernel_rfl) (by kernel_rfl) (by kernel_rfl) (by kernel_rfl)) ?_
  intro W base args ds gs before hval0 hW hcnd _
  have hval : ∀ (j : Nat) t v, Try.f11.params[j]? = some t → args[j]? = some v → Value.okWide Try.prog W .any base t v := hval0
  have hW' := hW
  obtain ⟨p, q, hA0, hV, rfl, hfz, hnd⟩ := hW
  have hA : DataW.TrodAll enc Try.prog W 0 (fun _ => true) true Try.f11.params.toList args.toList ds p := hA0
  rw [Try.params11] at hA hval
  obtain ⟨v0, vs0, d0, ds0, p0, q0, hargs, rfl, rfl, h0, r0⟩ := trodAll_cons hA
  obtain ⟨rfl, rfl, rfl⟩ := trodAll_nil r0
  obtain rfl : args = #[v0] := by cases args; simp_all
  obtain ⟨rfl, rfl⟩ := trodVars_none hV
  obtain ⟨a0, len0, cap0, rfl⟩ := okWide_slice Try.underlying22 (hval 0 22 v0 rfl rfl)
  have k0 := h0
  have lt0 : ∀ x ∈ p0, x.block < W.heap.size := by obtain ⟨m, hm⟩ := k0; exact DataW.trod_lt m _ _ _ hm
  obtain ⟨z0, w0⟩ : ∃ zs, IsRow .i64 W a0 len0 cap0 zs := by
    obtain ⟨fuel, hf⟩ := h0
    rcases open_ints Try.underlying22 Try.underlying3 (by kernel_rfl) hf with ⟨hcs, _⟩ | ⟨x, l, c, zs, hcs, _, hl, hm, hz, _, hcell, hwz⟩
    · simp [Value.cells] at hcs
      obtain ⟨rfl, rfl, rfl⟩ := hcs
      exact ⟨[], .inl ⟨rfl, rfl, rfl, rfl⟩⟩
    · simp [Value.cells] at hcs
      obtain ⟨rfl, rfl, rfl⟩ := hcs
      exact ⟨zs, .inr ⟨_, rfl, hl, hm, by simpa using hz, hcell, hwz⟩⟩
  clear hA0 hval0
  refine (walk a0 len0 cap0 z0 W w0).mono fun e W' ⟨he, bel⟩ => ?_
  subst he
  exact ⟨_, rfl, _, _, _, [], _, [], hW', trodAll_mk1 (shut_bool Try.underlying4 _), (trodAll_cons_mk (Below.trod laidOut (by kernel_rfl) (of_decide_eq_true (by kernel_rfl)) k0 bel lt0) trodAll_mk0), rfl, bel.frame _, fun h => by cases h⟩

theorem over : Rows.ringSameRow.holds Try.pinned (OpenSpec.ofChange Rows.ringSameSpec) :=
  OpenClaim.holds_of_wide 11 Try.f11 rfl rfl rfl rfl rfl rfl rfl ⟨rfl, rfl, rfl, rfl, rfl⟩ rfl rfl rfl rfl rfl (by kernel_rfl) Try.func11 (by kernel_rfl)
    (of_decide_eq_true (by kernel_rfl)) (by unfold Func.isWrapper; first | (rw [if_pos (by decide +kernel)]; kernel_rfl) | (rw [if_neg (by decide +kernel)]; exact ⟨rfl, rfl⟩))
    (fun os started H enc _ => lifted os started H enc)

/-- ████ THE STATEMENT ████ -/
theorem proved : Rows.RingSameSaid := over
end Go.Proofs.Ytdjdodcihffemaa.ringSame
