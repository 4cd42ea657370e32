/-
  Proved: whatever touches come in, lavabolaw8.RingForgets returns true and changes nothing that was there. No conditions beyond the given statement's.
-/
import Derived.Test.YtdjdodcihffemaaRows
import Derived.Test.YtdjdodcihffemaaRing1
import Derived.WalkKit
import Derived.ProofKit
import Derived.OpenShut
import Derived.ShutString
import Derived.ChangeOld
import Derived.Below
set_option maxRecDepth 100000
set_option linter.unusedSimpArgs false
namespace Lav
open Go (IntKind)
theorem ringForgets {x : CV} {h : Heap} {xs : List Int} (f : Int) (hx : Ints h x xs) : good (evCallT table 16 300 9 3 [.c x, .c (.int .i64 f)] h) = true := by
  have lx : ∀ (loc vals : List AV) (h : Heap), evPure loc (.c x :: vals) h (.len .sl (.val 0)) = some (.c (.int .i64 (xs.length : Int))) := fun _ _ _ => hx.len rfl
  obtain ⟨k, hk, ek⟩ := few (a := f) (m := 5) (by omega) (by omega)
  have ek' : IntKind.i64.wrap (Int.tmod (IntKind.u64.wrap f) 5) = (k : Int) := ek
  obtain ⟨p, c, h1, e1, g1, x1, hp1, hc1⟩ : ∃ p c h', evCallT table 16 300 8 12 [] h = some (.c (.ptr p 0), h') ∧ RG h' p c [] ∧ Ext h h' ∧ h.next ≤ p ∧ h.next ≤ c := new_ok (N := 300) (d := 7) h
  have hx1 := hx.ext x1
  rw [evCallT_eq (F := ir3) rfl rfl rfl]
  unfold ir3
  rw [bodyK_eq]
  have L1 : ∀ loc, keepOnly ir3_k1 loc = [.c x, .junk, .junk, .c (.ptr p 0), .c (.int .i64 (k : Int)), .c .nils, .c (.int .i64 0), .c (.int .i64 0), .junk, .junk, .junk, .junk, .junk, .junk, .junk, .junk, .junk, .junk, .junk] →
      ∃ r, loopK (evCallT table 16 300 8) 300 ir3_k1 ir3_l1 300 loc h1 = some r ∧ ∃ h' y, ∃ ts : List Int, ∃ a7 a8 a13 a14 a15, ts.length ≤ 7 ∧ RG h' p c ts ∧ Made h1 h' y (ts.filter (· ≠ (k : Int))) ∧
        r = (.exit 0, [.c x, .junk, .junk, .c (.ptr p 0), .c (.int .i64 (k : Int)), .c y, .c (.int .i64 (ts.length : Int)), a7, a8, .junk, .junk, .junk, .junk, a13, a14, a15, .junk, .junk, .junk], h') := by
    intro loc hloc
    refine loop_inv (n := min xs.length 7) (fun i loc h' => ∃ (ts : List Int) (y : CV), ts.length = i ∧ RG h' p c ts ∧ ExtB [c] h1 h' ∧ Mine 1 h1 h' y (ts.filter (· ≠ (k : Int))).length ((ts.filter (· ≠ (k : Int))).map icell) ∧
      loc = [.c x, .junk, .junk, .c (.ptr p 0), .c (.int .i64 (k : Int)), .c y, .c (.int .i64 (ts.length : Int)), .c (.int .i64 (i : Int)), .junk, .junk, .junk, .junk, .junk, .junk, .junk, .junk, .junk, .junk, .junk]) _ ?_ ⟨[], .nils, rfl, g1, ExtB.refl _ _, Mine.nil, hloc⟩ (by omega)
    rintro i loc h' hi ⟨ts, y, hlen, g', he, hy, rfl⟩
    unfold ir3_l1
    by_cases hlt : i < min xs.length 7
    · left
      refine ⟨hlt, ?_⟩
      have v1 : decide ((i : Int) < (xs.length : Int)) = true := ltNat (by omega)
      have v4 : decide ((i : Int) < 7) = true := ltNat (n := 7) (by omega)
      have v2 := succI (i := i) (by omega)
      have v3 := succI (i := ts.length) (by omega)
      obtain ⟨bx, ox, cx, rfl, hbx, rx⟩ := hx.sl (by omega)
      have hxb : h'.read bx (ox + i) 1 = some [.int .i64 xs[i]] := by
        have := rx i (by omega)
        rw [← this]
        have hne : bx ∉ [c] := by simp; omega
        simp only [Heap.read]
        rw [he.2 bx (Nat.lt_of_lt_of_le hbx x1.1) hne, x1.2 bx hbx]
      have m1 : Nat.blt i xs.length = true := bltT (by omega)
      obtain ⟨q, hq, eq⟩ := few (a := xs[i]) (m := 5) (by omega) (by omega)
      have eq' : IntKind.i64.wrap (Int.tmod (IntKind.u64.wrap xs[i]) 5) = (q : Int) := eq
      obtain ⟨z, h2, e2, g2, mz, x2⟩ : ∃ y h'', evCallT table 16 300 8 13 [.c (.ptr p 0), .c (.int .i64 (q : Int))] h' = some (.c y, h'') ∧ RG h'' p c (if ts.length + 1 < 8 then ts ++ [(q : Int)] else []) ∧ Made h' h'' y (if ts.length + 1 < 8 then [] else ts ++ [(q : Int)]) ∧ ExtB [c] h' h'' := touch_ok (N := 300) (d := 6) g' (q : Int) (by omega) (by omega) (by omega) (by omega)
      rw [if_pos (by omega)] at g2 mz
      have lz : ∀ (loc vals : List AV) (h : Heap), evPure loc (.c z :: vals) h (.len .sl (.val 0)) = some (.c (.int .i64 0)) := fun _ _ _ => mz.len rfl
      have hyc : ∀ k, blk y = some k → k ∉ [c] := fun k hk => by have := hy.young k hk; have := g1.cn; simp; omega
      have hy2 := hy.keepB x2 hyc
      have he2 := he.trans x2
      by_cases hqk : q = k
      · have q1 : ((q : Int) == (k : Int)) = true := by simp [hqk]
        have hft : (ts ++ [(q : Int)]).filter (· ≠ (k : Int)) = ts.filter (· ≠ (k : Int)) := by rw [List.filter_append]; simp [hqk]
        simp only [enter_eq, ev_seq, seqK_norm, seqK_exit, seqK_ret, ev_reg, ev_cond, condK_true, condK_false, ev_block, blockK_norm, blockK_ret, blockK_exit, ev_loop, ev_skip, ev_exit, ev_ret, regK_cons, regK_nil, guard_none, guard_some, regG_true, regG_false, regO_some, op_mov, op_conv, op_bin, op_bsl, op_box, op_mks, op_s2b, op_pick, op_un, op_eq, op_len, op_ext, op_load, op_iaddr, op_slice, op_b2s, op_idxS, op_mx, op_mn, op_call, op_store, op_app, op_copy, args_eq, result_one', rv_loc, finish_norm, finish_ret, outK_some, keep_true, keep_false, keep_nil, p_bin, p_pick, p_un, p_eq, p_conv, evNew, pureK_some, newK_some, X.eval, set_none, set_some, List.map_cons, List.map_nil, List.getD_cons_zero, List.getD_cons_succ, List.getD_nil, List.set_cons_zero, List.set_cons_succ, binCV, unCV, isShift, intArithF_eq, shiftF_eq, wrapF_eq, intArith, shift, eqVal, bound, asNat_cast, cond_true, cond_false, BEq.rfl, beq_self_eq_true, evalParts, fillParts, AV.cells, AV.ofCells, XV.av, AV.xv, List.length_cons, List.length_nil, zeros, patch, setMany, List.nil_append, List.cons_append, Nat.ble, Nat.add_eq, Nat.zero_add, Nat.add_zero, Nat.reduceAdd, Nat.reduceMul, Nat.reduceSub, Nat.ble_eq, Nat.reduceLeDiff, Nat.reduceBEq, Int.reduceBEq, Int.reduceNeg, Bool.and_true, Bool.and_false, Bool.true_and, Bool.false_and, Bool.not_true, Bool.not_false, Bool.true_eq_false, Bool.false_eq_true, Int.reduceLT, Int.reduceLE, Int.reduceGT, Int.reduceGE, decide_true, decide_false, Bool.not_eq_true, loopN_norm, loopN_exit, tf, ft, ff, bneI, lx, v1, v2, v3, v4, p_iaddr, p_load, m1, Nat.mul_one, hxb, AV.ofCells, eq', e2, lz, q1]
        exact ⟨_, _, rfl, ts ++ [(q : Int)], y, by simp [hlen], g2, he2, by rw [hft]; exact hy2, by rw [List.length_append]; rfl⟩
      · have q1 : ((q : Int) == (k : Int)) = false := by simp; omega
        have hft : (ts ++ [(q : Int)]).filter (· ≠ (k : Int)) = ts.filter (· ≠ (k : Int)) ++ [(q : Int)] := by
          rw [List.filter_append]
          have : ((q : Int) ≠ (k : Int)) := by omega
          simp [this]
        have hfl : (ts.filter (· ≠ (k : Int))).length ≤ ts.length := List.length_filter_le _ _
        obtain ⟨h3, a1, a2, a3, a4⟩ := app_mine (m := 0) (y := .c (.sl h2.next 0 1 (.ex 1))) (hy2.new (.cells [icell (q : Int)])) (Nat.le_trans he2.1 (Nat.le_succ _)) (source_new get_new_at rfl) rfl (by omega)
        have hyg : ∀ r, r < h1.next → blk y ≠ some r := fun r hr e => by have := hy.young r e; omega
        have e4 : ∀ r, r < h1.next → h3.get r = h2.get r := fun r hr => by
          rw [a4 r (Nat.lt_of_lt_of_le hr (Nat.le_trans he2.1 (Nat.le_succ _))) (hyg r hr), get_new_old (Nat.lt_of_lt_of_le hr he2.1)]
        have e3 : ExtB [c] h1 h3 := ⟨by rw [a3]; exact Nat.le_trans he2.1 (show h2.next ≤ h2.next + 1 + 1 by omega), fun r hr hn => by rw [e4 r hr, he2.2 r hr hn]⟩
        have g3 : RG h3 p c (ts ++ [(q : Int)]) := ⟨by rw [e4 p g1.pn]; exact g2.cell, by rw [e4 c g1.cn]; exact g2.chan, g1.ne, Nat.lt_of_lt_of_le g1.pn e3.1, Nat.lt_of_lt_of_le g1.cn e3.1⟩
        simp only [icell] at a1
        simp only [enter_eq, ev_seq, seqK_norm, seqK_exit, seqK_ret, ev_reg, ev_cond, condK_true, condK_false, ev_block, blockK_norm, blockK_ret, blockK_exit, ev_loop, ev_skip, ev_exit, ev_ret, regK_cons, regK_nil, guard_none, guard_some, regG_true, regG_false, regO_some, op_mov, op_conv, op_bin, op_bsl, op_box, op_mks, op_s2b, op_pick, op_un, op_eq, op_len, op_ext, op_load, op_iaddr, op_slice, op_b2s, op_idxS, op_mx, op_mn, op_call, op_store, op_app, op_copy, args_eq, result_one', rv_loc, finish_norm, finish_ret, outK_some, keep_true, keep_false, keep_nil, p_bin, p_pick, p_un, p_eq, p_conv, evNew, pureK_some, newK_some, X.eval, set_none, set_some, List.map_cons, List.map_nil, List.getD_cons_zero, List.getD_cons_succ, List.getD_nil, List.set_cons_zero, List.set_cons_succ, binCV, unCV, isShift, intArithF_eq, shiftF_eq, wrapF_eq, intArith, shift, eqVal, bound, asNat_cast, cond_true, cond_false, BEq.rfl, beq_self_eq_true, evalParts, fillParts, AV.cells, AV.ofCells, XV.av, AV.xv, List.length_cons, List.length_nil, zeros, patch, setMany, List.nil_append, List.cons_append, Nat.ble, Nat.add_eq, Nat.zero_add, Nat.add_zero, Nat.reduceAdd, Nat.reduceMul, Nat.reduceSub, Nat.ble_eq, Nat.reduceLeDiff, Nat.reduceBEq, Int.reduceBEq, Int.reduceNeg, Bool.and_true, Bool.and_false, Bool.true_and, Bool.false_and, Bool.not_true, Bool.not_false, Bool.true_eq_false, Bool.false_eq_true, Int.reduceLT, Int.reduceLE, Int.reduceGT, Int.reduceGE, decide_true, decide_false, Bool.not_eq_true, loopN_norm, loopN_exit, tf, ft, ff, bneI, lx, v1, v2, v3, v4, p_iaddr, p_load, m1, Nat.mul_one, hxb, AV.ofCells, eq', e2, lz, q1, a1]
        exact ⟨_, _, rfl, ts ++ [(q : Int)], _, by simp [hlen], g3, e3, by rw [hft, List.length_append, List.map_append]; exact a2, by rw [List.length_append]; rfl⟩
    · right
      have post : ∀ a13, ∃ h'' y', ∃ ts' : List Int, ∃ a7 a8 a13' a14 a15, ts'.length ≤ 7 ∧ RG h'' p c ts' ∧ Made h1 h'' y' (ts'.filter (· ≠ (k : Int))) ∧
        ((Ex.exit 0, [.c x, .junk, .junk, .c (.ptr p 0), .c (.int .i64 (k : Int)), .c y, .c (.int .i64 (ts.length : Int)), .c (.int .i64 (i : Int)), .junk, .junk, .junk, .junk, .junk, a13, .junk, .junk, .junk, .junk, .junk], h') : Ex × List AV × Heap) = (.exit 0, [.c x, .junk, .junk, .c (.ptr p 0), .c (.int .i64 (k : Int)), .c y', .c (.int .i64 (ts'.length : Int)), a7, a8, .junk, .junk, .junk, .junk, a13', a14, a15, .junk, .junk, .junk], h'') :=
        fun a13 => ⟨h', y, ts, _, _, _, _, _, by omega, g', hy.made, rfl⟩
      by_cases h2 : i < xs.length
      · have v1 : decide ((i : Int) < (xs.length : Int)) = true := ltNat h2
        have v4 : decide ((i : Int) < 7) = false := geNat (n := 7) (by omega)
        simp only [enter_eq, ev_seq, seqK_norm, seqK_exit, seqK_ret, ev_reg, ev_cond, condK_true, condK_false, ev_block, blockK_norm, blockK_ret, blockK_exit, ev_loop, ev_skip, ev_exit, ev_ret, regK_cons, regK_nil, guard_none, guard_some, regG_true, regG_false, regO_some, op_mov, op_conv, op_bin, op_bsl, op_box, op_mks, op_s2b, op_pick, op_un, op_eq, op_len, op_ext, op_load, op_iaddr, op_slice, op_b2s, op_idxS, op_mx, op_mn, op_call, op_store, op_app, op_copy, args_eq, result_one', rv_loc, finish_norm, finish_ret, outK_some, keep_true, keep_false, keep_nil, p_bin, p_pick, p_un, p_eq, p_conv, evNew, pureK_some, newK_some, X.eval, set_none, set_some, List.map_cons, List.map_nil, List.getD_cons_zero, List.getD_cons_succ, List.getD_nil, List.set_cons_zero, List.set_cons_succ, binCV, unCV, isShift, intArithF_eq, shiftF_eq, wrapF_eq, intArith, shift, eqVal, bound, asNat_cast, cond_true, cond_false, BEq.rfl, beq_self_eq_true, evalParts, fillParts, AV.cells, AV.ofCells, XV.av, AV.xv, List.length_cons, List.length_nil, zeros, patch, setMany, List.nil_append, List.cons_append, Nat.ble, Nat.add_eq, Nat.zero_add, Nat.add_zero, Nat.reduceAdd, Nat.reduceMul, Nat.reduceSub, Nat.ble_eq, Nat.reduceLeDiff, Nat.reduceBEq, Int.reduceBEq, Int.reduceNeg, Bool.and_true, Bool.and_false, Bool.true_and, Bool.false_and, Bool.not_true, Bool.not_false, Bool.true_eq_false, Bool.false_eq_true, Int.reduceLT, Int.reduceLE, Int.reduceGT, Int.reduceGE, decide_true, decide_false, Bool.not_eq_true, loopN_norm, loopN_exit, tf, ft, ff, lx, v1, v4]
        exact ⟨_, rfl, by simp, post _⟩
      · have v1 : decide ((i : Int) < (xs.length : Int)) = false := geNat (by omega)
        simp only [enter_eq, ev_seq, seqK_norm, seqK_exit, seqK_ret, ev_reg, ev_cond, condK_true, condK_false, ev_block, blockK_norm, blockK_ret, blockK_exit, ev_loop, ev_skip, ev_exit, ev_ret, regK_cons, regK_nil, guard_none, guard_some, regG_true, regG_false, regO_some, op_mov, op_conv, op_bin, op_bsl, op_box, op_mks, op_s2b, op_pick, op_un, op_eq, op_len, op_ext, op_load, op_iaddr, op_slice, op_b2s, op_idxS, op_mx, op_mn, op_call, op_store, op_app, op_copy, args_eq, result_one', rv_loc, finish_norm, finish_ret, outK_some, keep_true, keep_false, keep_nil, p_bin, p_pick, p_un, p_eq, p_conv, evNew, pureK_some, newK_some, X.eval, set_none, set_some, List.map_cons, List.map_nil, List.getD_cons_zero, List.getD_cons_succ, List.getD_nil, List.set_cons_zero, List.set_cons_succ, binCV, unCV, isShift, intArithF_eq, shiftF_eq, wrapF_eq, intArith, shift, eqVal, bound, asNat_cast, cond_true, cond_false, BEq.rfl, beq_self_eq_true, evalParts, fillParts, AV.cells, AV.ofCells, XV.av, AV.xv, List.length_cons, List.length_nil, zeros, patch, setMany, List.nil_append, List.cons_append, Nat.ble, Nat.add_eq, Nat.zero_add, Nat.add_zero, Nat.reduceAdd, Nat.reduceMul, Nat.reduceSub, Nat.ble_eq, Nat.reduceLeDiff, Nat.reduceBEq, Int.reduceBEq, Int.reduceNeg, Bool.and_true, Bool.and_false, Bool.true_and, Bool.false_and, Bool.not_true, Bool.not_false, Bool.true_eq_false, Bool.false_eq_true, Int.reduceLT, Int.reduceLE, Int.reduceGT, Int.reduceGE, decide_true, decide_false, Bool.not_eq_true, loopN_norm, loopN_exit, tf, ft, ff, lx, v1]
        exact ⟨_, rfl, by simp, post _⟩
  obtain ⟨r, hr1, h2, y, ts, a7, a8, a13, a14, a15, hts, g2, my, rfl⟩ := L1 [.c x, .c (.int .i64 f), .c (.bool false), .c (.ptr p 0), .c (.int .i64 (k : Int)), .c .nils, .c (.int .i64 0), .c (.int .i64 0), .tup [], .tup [], .tup [], .tup [], .c (.bool false), .tup [], .tup [], .tup [], .tup [], .tup [], .tup []] rfl
  obtain ⟨h3, e3, g3, x3⟩ : ∃ h', evCallT table 16 300 8 14 [.c (.ptr p 0), .c (.int .i64 (k : Int))] h2 = some (.c (.int .i64 ((ts.length - (ts.filter (· ≠ (k : Int))).length : Nat) : Int)), h') ∧ RG h' p c (ts.filter (· ≠ (k : Int))) ∧ ExtB [c] h2 h' := forget_ok (N := 300) (d := 6) g2 (k : Int) (by omega) (by omega)
  have hfl : (ts.filter (· ≠ (k : Int))).length ≤ ts.length := List.length_filter_le _ _
  generalize hW : ts.filter (· ≠ (k : Int)) = W at *
  obtain ⟨z, h4, e4, g4, mz, x4⟩ : ∃ y h', evCallT table 16 300 8 15 [.c (.ptr p 0)] h3 = some (.c y, h') ∧ RG h' p c [] ∧ Made h3 h' y W ∧ ExtB [c] h3 h' := drain_ok (N := 300) (d := 7) g3 (by omega) (by omega)
  have hyc : ∀ k, blk y = some k → k ∉ [c] := fun k hk => by have := my.young k hk; have := g1.cn; simp; omega
  have my4 := (my.keepB x3 hyc).keepB x4 hyc
  have iy := my4.ints
  have iz := mz.ints
  have ly : ∀ (loc vals : List AV) (h : Heap), evPure loc (.c y :: vals) h (.len .sl (.val 0)) = some (.c (.int .i64 (W.length : Int))) := fun _ _ _ => my.len rfl
  have lz : ∀ (loc vals : List AV) (h : Heap), evPure loc (.c z :: vals) h (.len .sl (.val 0)) = some (.c (.int .i64 (W.length : Int))) := fun _ _ _ => mz.len rfl
  have w1 : IntKind.i64.wrap ((ts.length : Int) - (W.length : Int)) = ((ts.length - W.length : Nat) : Int) := by rw [wrapI (by omega) (by omega)]; omega
  have eqq : ∀ a : Int, (a == a) = true := fun a => by simp
  obtain ⟨h5, e5, g5, x5⟩ : ∃ h', evCallT table 16 300 8 14 [.c (.ptr p 0), .c (.int .i64 (k : Int))] h4 = some (.c (.int .i64 0), h') ∧ RG h' p c (([] : List Int).filter (· ≠ (k : Int))) ∧ ExtB [c] h4 h' := forget_ok (N := 300) (d := 6) g4 (k : Int) (by simp) (by omega)
  have L0 : ∀ loc, keepOnly ir3_k0 loc = [.junk, .junk, .junk, .c (.ptr p 0), .c (.int .i64 (k : Int)), .c y, .junk, .junk, .junk, .junk, .c z, .c (.int .i64 0), .junk, .junk, .junk, .junk, .junk, .junk, .junk] →
      ∃ r, loopK (evCallT table 16 300 8) 300 ir3_k0 ir3_l0 300 loc h4 = some r ∧ ∃ a0 a1 a2 l, r = (.exit 2, a0 :: a1 :: a2 :: .c (.ptr p 0) :: .c (.int .i64 (k : Int)) :: l, h4) := by
    intro loc hloc
    refine loop_inv (n := W.length) (fun i loc h' => h' = h4 ∧ loc = [.junk, .junk, .junk, .c (.ptr p 0), .c (.int .i64 (k : Int)), .c y, .junk, .junk, .junk, .junk, .c z, .c (.int .i64 (i : Int)), .junk, .junk, .junk, .junk, .junk, .junk, .junk]) _ ?_ ⟨rfl, hloc⟩ (by omega)
    rintro i loc h' hi ⟨rfl, rfl⟩
    unfold ir3_l0
    by_cases hlt : i < W.length
    · left
      refine ⟨hlt, ?_⟩
      have v1 : decide ((i : Int) < (W.length : Int)) = true := ltNat hlt
      have v2 := succI (i := i) (by omega)
      obtain ⟨b1, o1, c1, rfl, _, r1⟩ := iy.sl (by omega)
      obtain ⟨b2, o2, c2, rfl, _, r2⟩ := iz.sl (by omega)
      have k1 := r1 i hlt
      have k2 := r2 i hlt
      have m1 : Nat.blt i W.length = true := bltT hlt
      simp only [enter_eq, ev_seq, seqK_norm, seqK_exit, seqK_ret, ev_reg, ev_cond, condK_true, condK_false, ev_block, blockK_norm, blockK_ret, blockK_exit, ev_loop, ev_skip, ev_exit, ev_ret, regK_cons, regK_nil, guard_none, guard_some, regG_true, regG_false, regO_some, op_mov, op_conv, op_bin, op_bsl, op_box, op_mks, op_s2b, op_pick, op_un, op_eq, op_len, op_ext, op_load, op_iaddr, op_slice, op_b2s, op_idxS, op_mx, op_mn, op_call, op_store, op_app, op_copy, args_eq, result_one', rv_loc, finish_norm, finish_ret, outK_some, keep_true, keep_false, keep_nil, p_bin, p_pick, p_un, p_eq, p_conv, evNew, pureK_some, newK_some, X.eval, set_none, set_some, List.map_cons, List.map_nil, List.getD_cons_zero, List.getD_cons_succ, List.getD_nil, List.set_cons_zero, List.set_cons_succ, binCV, unCV, isShift, intArithF_eq, shiftF_eq, wrapF_eq, intArith, shift, eqVal, bound, asNat_cast, cond_true, cond_false, BEq.rfl, beq_self_eq_true, evalParts, fillParts, AV.cells, AV.ofCells, XV.av, AV.xv, List.length_cons, List.length_nil, zeros, patch, setMany, List.nil_append, List.cons_append, Nat.ble, Nat.add_eq, Nat.zero_add, Nat.add_zero, Nat.reduceAdd, Nat.reduceMul, Nat.reduceSub, Nat.ble_eq, Nat.reduceLeDiff, Nat.reduceBEq, Int.reduceBEq, Int.reduceNeg, Bool.and_true, Bool.and_false, Bool.true_and, Bool.false_and, Bool.not_true, Bool.not_false, Bool.true_eq_false, Bool.false_eq_true, Int.reduceLT, Int.reduceLE, Int.reduceGT, Int.reduceGE, decide_true, decide_false, Bool.not_eq_true, loopN_norm, loopN_exit, tf, ft, ff, ev_dreg, dregK_nil, dregK_cons, dregE_true, dregP_some, dregX_some, d_mov, d_bin, d_eq, d_pick, d_un, d_conv, d_b2s, d_len, d_load, d_iaddr, d_slice, d_ext, d_call, d_store, chk_done, chk_none, chk_some, chkG_true, chkG_false, chkOne_nil, chkOne_cons, chkH_some, chkV_same, stage_none, stage_some, look_hit, look_miss, news_nil, wb_cons, wb_nil, skip0, List.reverse_cons, List.reverse_nil, bneI, lz, v1, v2, p_iaddr, p_load, m1, Nat.mul_one, k1, k2, eqq]
      exact ⟨_, _, rfl, rfl, rfl⟩
    · right
      have hin : i = W.length := by omega
      subst hin
      have v1 : decide ((W.length : Int) < (W.length : Int)) = false := geNat (Nat.le_refl _)
      simp only [enter_eq, ev_seq, seqK_norm, seqK_exit, seqK_ret, ev_reg, ev_cond, condK_true, condK_false, ev_block, blockK_norm, blockK_ret, blockK_exit, ev_loop, ev_skip, ev_exit, ev_ret, regK_cons, regK_nil, guard_none, guard_some, regG_true, regG_false, regO_some, op_mov, op_conv, op_bin, op_bsl, op_box, op_mks, op_s2b, op_pick, op_un, op_eq, op_len, op_ext, op_load, op_iaddr, op_slice, op_b2s, op_idxS, op_mx, op_mn, op_call, op_store, op_app, op_copy, args_eq, result_one', rv_loc, finish_norm, finish_ret, outK_some, keep_true, keep_false, keep_nil, p_bin, p_pick, p_un, p_eq, p_conv, evNew, pureK_some, newK_some, X.eval, set_none, set_some, List.map_cons, List.map_nil, List.getD_cons_zero, List.getD_cons_succ, List.getD_nil, List.set_cons_zero, List.set_cons_succ, binCV, unCV, isShift, intArithF_eq, shiftF_eq, wrapF_eq, intArith, shift, eqVal, bound, asNat_cast, cond_true, cond_false, BEq.rfl, beq_self_eq_true, evalParts, fillParts, AV.cells, AV.ofCells, XV.av, AV.xv, List.length_cons, List.length_nil, zeros, patch, setMany, List.nil_append, List.cons_append, Nat.ble, Nat.add_eq, Nat.zero_add, Nat.add_zero, Nat.reduceAdd, Nat.reduceMul, Nat.reduceSub, Nat.ble_eq, Nat.reduceLeDiff, Nat.reduceBEq, Int.reduceBEq, Int.reduceNeg, Bool.and_true, Bool.and_false, Bool.true_and, Bool.false_and, Bool.not_true, Bool.not_false, Bool.true_eq_false, Bool.false_eq_true, Int.reduceLT, Int.reduceLE, Int.reduceGT, Int.reduceGE, decide_true, decide_false, Bool.not_eq_true, loopN_norm, loopN_exit, tf, ft, ff, lz, v1]
      exact ⟨_, rfl, by simp, _, _, _, _, rfl⟩
  obtain ⟨r, hr0, a0, a1, a2, l, rfl⟩ := L0 [.c x, .junk, .junk, .c (.ptr p 0), .c (.int .i64 (k : Int)), .c y, .c (.int .i64 (ts.length : Int)), a7, a8, .c (.int .i64 ((ts.length - W.length : Nat) : Int)), .c z, .c (.int .i64 0), .junk, a13, a14, a15, .c (.bool false), .junk, .junk] rfl
  simp only [enter_eq, ev_seq, seqK_norm, seqK_exit, seqK_ret, ev_reg, ev_cond, condK_true, condK_false, ev_block, blockK_norm, blockK_ret, blockK_exit, ev_loop, ev_skip, ev_exit, ev_ret, regK_cons, regK_nil, guard_none, guard_some, regG_true, regG_false, regO_some, op_mov, op_conv, op_bin, op_bsl, op_box, op_mks, op_s2b, op_pick, op_un, op_eq, op_len, op_ext, op_load, op_iaddr, op_slice, op_b2s, op_idxS, op_mx, op_mn, op_call, op_store, op_app, op_copy, args_eq, result_one', rv_loc, finish_norm, finish_ret, outK_some, keep_true, keep_false, keep_nil, p_bin, p_pick, p_un, p_eq, p_conv, evNew, pureK_some, newK_some, X.eval, set_none, set_some, List.map_cons, List.map_nil, List.getD_cons_zero, List.getD_cons_succ, List.getD_nil, List.set_cons_zero, List.set_cons_succ, binCV, unCV, isShift, intArithF_eq, shiftF_eq, wrapF_eq, intArith, shift, eqVal, bound, asNat_cast, cond_true, cond_false, BEq.rfl, beq_self_eq_true, evalParts, fillParts, AV.cells, AV.ofCells, XV.av, AV.xv, List.length_cons, List.length_nil, zeros, patch, setMany, List.nil_append, List.cons_append, Nat.ble, Nat.add_eq, Nat.zero_add, Nat.add_zero, Nat.reduceAdd, Nat.reduceMul, Nat.reduceSub, Nat.ble_eq, Nat.reduceLeDiff, Nat.reduceBEq, Int.reduceBEq, Int.reduceNeg, Bool.and_true, Bool.and_false, Bool.true_and, Bool.false_and, Bool.not_true, Bool.not_false, Bool.true_eq_false, Bool.false_eq_true, Int.reduceLT, Int.reduceLE, Int.reduceGT, Int.reduceGE, decide_true, decide_false, Bool.not_eq_true, loopN_norm, loopN_exit, tf, ft, ff, ev_dreg, dregK_nil, dregK_cons, dregE_true, dregP_some, dregX_some, d_mov, d_bin, d_eq, d_pick, d_un, d_conv, d_b2s, d_len, d_load, d_iaddr, d_slice, d_ext, d_call, d_store, chk_done, chk_none, chk_some, chkG_true, chkG_false, chkOne_nil, chkOne_cons, chkH_some, chkV_same, stage_none, stage_some, look_hit, look_miss, news_nil, wb_cons, wb_nil, skip0, List.reverse_cons, List.reverse_nil, bneI, ek', e1, hr1, e3, e4, w1, ly, lz, eqq, hr0, blockK_exit_eq, evCallT_told, e5]
  rfl

end Lav

namespace Go.Proofs.Ytdjdodcihffemaa.ringForgets
open Go.ChangeShapes Go.WideShapes Go.ChangeAt Go.RowKit
open Go.ChangeMaps (open_string shut_string)
set_option linter.unusedVariables false

theorem own : ownKnob Try.prog.godebug = none := by kernel_rfl
theorem laidOut : laidOutB Try.prog = true := by kernel_rfl

/-- WHAT THE WALK IS TOLD OF A SLICE OF INTEGERS THAT CAME IN: it is nil; or it leads to a row of 'cap' cells, the numbers 'zs' (the first 'len' are its elements, the rest its spare room), each fitting its kind. -/
def IsRow (k : IntKind) (w : World) (a : Option Addr) (len cap : Nat) (zs : List Int) : Prop :=
  (a = none ∧ len = 0 ∧ cap = 0 ∧ zs = []) ∨
  ∃ x, a = some x ∧ len ≤ cap ∧ cap ≤ maxLen ∧ zs.length = cap ∧ (∀ i, i < zs.length → w.cell? (x.add i) = some (.int k (zs.getD i 0))) ∧ ∀ n ∈ zs, (Lit.int k n).wf = true

/-! ### STEP 1: THE WALK: the Go text returns true, AND WRITES NOTHING THAT WAS THERE: 'Below w.heap.size w w'' (Derived/Below.lean: '.refl', '.alloc', '.drew', '.setCell' at a new block, '.trans'). Open each 'IsRow' by 'rcases' AHEAD of 'go_enter'; part every test ahead of the walk. -/
theorem walk (a0 : Option Addr) (len0 cap0 : Nat) (z0 : List Int) (a1 : Int) (w : World) (w0 : IsRow .i64 w a0 len0 cap0 z0) (w1 : (Lit.int .i64 a1).wf = true) :
    Calls Try.prog 3 #[.slice a0 len0 cap0, .int .i64 a1] w fun e w' => e = .returned (.bool true) ∧ Below w.heap.size w w' := by
  obtain ⟨ι, h, x, I, hle, hx, hr⟩ := (Lav.Init.empty w).slice w0
  exact Lav.walk_of (Lav.evCallT_sound Lav.mixed Lav.table_ok Lav.tld8 300 9) I (args := [.c x, .c (.int .i64 a1)]) (vs := [.slice a0 len0 cap0, .int .i64 a1]) ⟨hx, rfl, trivial⟩ (Lav.ringForgets a1 (Lav.ints_of hr))

/-! ### THE ROW's STEP: WRITTEN OUT: LEAVE IT -/
set_option maxRecDepth 100000 in
theorem lifted (os : Os) (started : os.Started) (H : Type) (enc : TypeId × Value → H) :
    ReturnsInHanded {} Try.checked os 3 .any (Rows.ringForgetsSpec.pre6 enc Try.prog Try.f3 Rows.ringForgetsRow.domain false) (Rows.ringForgetsSpec.post enc Try.prog Try.f3 false true false false) := by
  refine returnsInHanded_of_change (C := Try.checked) own started (by kernel_rfl) Try.func3
    (ChangeSpec.witness6 (enc := enc) (C := Try.checked) false ⟨#[], #[.slice none 0 0, .int .i64 0], []⟩ 8 (by kernel_rfl) (by kernel_rfl) (by kernel_rfl) (by kernel_rfl)) ?_
  intro W base args ds gs before hval0 hW hcnd _
  have hval : ∀ (j : Nat) t v, Try.f3.params[j]? = some t → args[j]? = some v → Value.okWide Try.prog W .any base t v := hval0
  have hW' := hW
  obtain ⟨p, q, hA0, hV, rfl, hfz, hnd⟩ := hW
  have hA : DataW.TrodAll enc Try.prog W 0 (fun _ => true) true Try.f3.params.toList args.toList ds p := hA0
  rw [Try.params3] at hA hval
  obtain ⟨v0, vs0, d0, ds0, p0, q0, hargs, rfl, rfl, h0, r0⟩ := trodAll_cons hA
  obtain ⟨v1, vs1, d1, ds1, p1, q1, rfl, rfl, rfl, h1, r1⟩ := trodAll_cons r0
  obtain ⟨rfl, rfl, rfl⟩ := trodAll_nil r1
  obtain rfl : args = #[v0, v1] := by cases args; simp_all
  obtain ⟨rfl, rfl⟩ := trodVars_none hV
  obtain ⟨a0, len0, cap0, rfl⟩ := okWide_slice Try.underlying22 (hval 0 22 v0 rfl rfl)
  have k0 := h0
  have lt0 : ∀ x ∈ p0, x.block < W.heap.size := by obtain ⟨m, hm⟩ := k0; exact DataW.trod_lt m _ _ _ hm
  obtain ⟨z0, w0⟩ : ∃ zs, IsRow .i64 W a0 len0 cap0 zs := by
    obtain ⟨fuel, hf⟩ := h0
    rcases open_ints Try.underlying22 Try.underlying3 (by kernel_rfl) hf with ⟨hcs, _⟩ | ⟨x, l, c, zs, hcs, _, hl, hm, hz, _, hcell, hwz⟩
    · simp [Value.cells] at hcs
      obtain ⟨rfl, rfl, rfl⟩ := hcs
      exact ⟨[], .inl ⟨rfl, rfl, rfl, rfl⟩⟩
    · simp [Value.cells] at hcs
      obtain ⟨rfl, rfl, rfl⟩ := hcs
      exact ⟨zs, .inr ⟨_, rfl, hl, hm, by simpa using hz, hcell, hwz⟩⟩
  obtain ⟨a1, rfl, rfl, rfl, w1⟩ := open_int Try.underlying3 (hval 1 3 v1 rfl rfl) h1
  clear hA0 hval0
  refine (walk a0 len0 cap0 z0 a1 W w0 w1).mono fun e W' ⟨he, bel⟩ => ?_
  subst he
  exact ⟨_, rfl, _, _, _, [], _, [], hW', trodAll_mk1 (shut_bool Try.underlying4 _), (trodAll_cons_mk (Below.trod laidOut (by kernel_rfl) (of_decide_eq_true (by kernel_rfl)) k0 bel lt0) (trodAll_cons_mk (shut_int Try.underlying3 w1) trodAll_mk0)), rfl, bel.frame _, fun h => by cases h⟩

theorem over : Rows.ringForgetsRow.holds Try.pinned (OpenSpec.ofChange Rows.ringForgetsSpec) :=
  OpenClaim.holds_of_wide 3 Try.f3 rfl rfl rfl rfl rfl rfl rfl ⟨rfl, rfl, rfl, rfl, rfl⟩ rfl rfl rfl rfl rfl (by kernel_rfl) Try.func3 (by kernel_rfl)
    (of_decide_eq_true (by kernel_rfl)) (by unfold Func.isWrapper; first | (rw [if_pos (by decide +kernel)]; kernel_rfl) | (rw [if_neg (by decide +kernel)]; exact ⟨rfl, rfl⟩))
    (fun os started H enc _ => lifted os started H enc)

/-- ████ THE STATEMENT ████ -/
theorem proved : Rows.RingForgetsSaid := over
end Go.Proofs.Ytdjdodcihffemaa.ringForgets
