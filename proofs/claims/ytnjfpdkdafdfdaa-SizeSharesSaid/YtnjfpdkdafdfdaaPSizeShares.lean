/-
  Proved: whatever numbers come in, lavabolaw18.SizeShares returns true and changes nothing that was there. No conditions beyond the given statement's.
-/
import Derived.Test.YtnjfpdkdafdfdaaRows
import Derived.Test.YtnjfpdkdafdfdaaInts1
import Derived.Test.YtnjfpdkdafdfdaaSize1
import Derived.Test.YtnjfpdkdafdfdaaSize2
import Derived.Test.YtnjfpdkdafdfdaaSize3
import Derived.WalkKit
import Derived.ProofKit
import Derived.OpenShut
import Derived.ShutString
import Derived.ChangeOld
import Derived.Below
set_option maxRecDepth 100000
set_option linter.unusedSimpArgs false
namespace Lav
open Go (IntKind)
theorem tld18 : ToldOK Go.Proofs.Try.prog 14 := told_of (calls_okF 100 8) (by kernel_rfl)

theorem share_facts : ∀ m, m < 33 → ∀ k, k < 4 → (shareL (m : Nat) ((k + 1 : Nat) : Int)).sum = m ∧ (shareL (m : Nat) ((k + 1 : Nat) : Int)).length = k + 1 ∧ ∀ i, i < k + 1 →
    0 ≤ (shareL (m : Nat) ((k + 1 : Nat) : Int)).getD i 0 ∧ (shareL (m : Nat) ((k + 1 : Nat) : Int)).getD 0 0 - (shareL (m : Nat) ((k + 1 : Nat) : Int)).getD i 0 ≤ 1 ∧ (shareL (m : Nat) ((k + 1 : Nat) : Int)).getD i 0 ≤ (shareL (m : Nat) ((k + 1 : Nat) : Int)).getD 0 0 ∧ (shareL (m : Nat) ((k + 1 : Nat) : Int)).getD i 0 ≤ 32 := by decide

theorem getD_at {l : List Int} {i : Nat} (h : i < l.length) : l.getD i 0 = l[i] := by simp [List.getD_eq_getElem?_getD, h]

theorem sizeShares {x : CV} {h : Heap} {xs : List Int} (n s : Int) (hx : Ints h x xs) : good (evCallT table 14 100 8 4 [.c (.int .i64 n), .c (.int .i64 s), .c x] h) = true := by
  have lx : ∀ (loc vals : List AV) (h : Heap), evPure loc (.c x :: vals) h (.len .sl (.val 0)) = some (.c (.int .i64 (xs.length : Int))) := fun _ _ _ => hx.len rfl
  obtain ⟨k, hk, ek⟩ := few (a := s) (m := 4) (by omega) (by omega)
  obtain ⟨m, hm, em⟩ := few (a := n) (m := 33) (by omega) (by omega)
  have ek' : IntKind.i64.wrap (Int.tmod (IntKind.u64.wrap s) 4) = (k : Int) := ek
  have em' : IntKind.i64.wrap (Int.tmod (IntKind.u64.wrap n) 33) = (m : Int) := em
  have ek2 : IntKind.i64.wrap (1 + (k : Int)) = ((k + 1 : Nat) : Int) := by rw [wrapI (by omega) (by omega)]; omega
  obtain ⟨f1, f2, f3⟩ := share_facts m hm k hk
  obtain ⟨y1, h1, e1, m1, x1⟩ : ∃ x h', evCallT table 14 100 7 18 [.c (.int .i64 (m : Int)), .c (.int .i64 ((k + 1 : Nat) : Int))] h = some (.c x, h') ∧ Made h h' x (shareL m ((k + 1 : Nat) : Int)) ∧ Ext h h' := share_ok (N := 100) (d := 6) m _ h (by omega)
  rw [evCallT_eq (F := ir4) rfl rfl rfl]
  unfold ir4
  rw [bodyK_eq]
  have L1 : ∀ loc, keepOnly ir4_k1 loc = [.junk, .junk, .c x, .junk, .c (.int .i64 ((k + 1 : Nat) : Int)), .c (.int .i64 (m : Int)), .c y1, .c .nils, .c (.int .i64 0), .junk, .junk, .junk, .junk, .junk, .junk, .junk, .junk, .junk] →
      ∃ r, loopK (evCallT table 14 100 7) 100 ir4_k1 ir4_l1 100 loc h1 = some r ∧ ∃ h' hv y a8 a9 a13 a14, Ext h1 h' ∧ hv.length = k + 1 ∧ (∀ v ∈ hv, 0 ≤ v ∧ v ≤ 32) ∧ Made h1 h' y hv ∧
        r = (.exit 0, [.junk, .junk, .c x, .junk, .c (.int .i64 ((k + 1 : Nat) : Int)), .c (.int .i64 (m : Int)), .c y1, .c y, a8, a9, .junk, .junk, .junk, a13, a14, .junk, .junk, .junk], h') := by
    intro loc hloc
    refine loop_inv (n := k + 1) (fun i loc h' => Ext h1 h' ∧ ∃ (hv : List Int) (y : CV), hv.length = i ∧ (∀ v ∈ hv, 0 ≤ v ∧ v ≤ 32) ∧ Mine 1 h1 h' y i (hv.map icell) ∧
      loc = [.junk, .junk, .c x, .junk, .c (.int .i64 ((k + 1 : Nat) : Int)), .c (.int .i64 (m : Int)), .c y1, .c y, .c (.int .i64 (i : Int)), .junk, .junk, .junk, .junk, .junk, .junk, .junk, .junk, .junk]) _ ?_ ⟨Ext.refl h1, [], .nils, rfl, by simp, Mine.nil, hloc⟩ (by omega)
    rintro i loc h' hi ⟨he, hv, y, hlen, hb, hy, rfl⟩
    unfold ir4_l1
    by_cases hlt : i < k + 1
    · left
      refine ⟨hlt, ?_⟩
      have v1 : decide ((i : Int) < ((k + 1 : Nat) : Int)) = true := ltNat hlt
      have v2 := succI (i := i) (by omega)
      have app : ∀ v : Int, ∃ ha, evApp (h'.new (.cells [.int .i64 v])) 1 (.c y) (.c (.sl h'.next 0 1 (.ex 1))) = some (.c (.sl (h'.next + 1) 0 (i + 1) (.dy 1)), ha) ∧ Mine 1 h1 ha (.sl (h'.next + 1) 0 (i + 1) (.dy 1)) (i + 1) ((hv ++ [v]).map icell) ∧ Ext h1 ha := fun v => by
        obtain ⟨ha, q1, q2, q3, _⟩ := app_int (v := .int .i64 v) (c := .ex 1) (hy.new (.cells [.int .i64 v])) (he.new _) get_new_at (by omega)
        exact ⟨ha, q1, by rw [List.map_append]; exact q2, q3⟩
      by_cases hin : i < xs.length
      · have v3 : decide ((i : Int) < (xs.length : Int)) = true := ltNat hin
        obtain ⟨bx, ox, cx, rfl, _, rx⟩ := (hx.ext (x1.trans he)).sl (by omega)
        have k1 := rx i hin
        have m1 : Nat.blt i xs.length = true := bltT hin
        obtain ⟨q, hq, eq⟩ := few (a := xs[i]) (m := 33) (by omega) (by omega)
        have eq' : IntKind.i64.wrap (Int.tmod (IntKind.u64.wrap xs[i]) 33) = (q : Int) := eq
        obtain ⟨ha, a1, a2, a3⟩ := app (q : Int)
        simp only [enter_eq, ev_seq, seqK_norm, seqK_exit, seqK_ret, ev_reg, ev_cond, condK_true, condK_false, ev_block, blockK_norm, blockK_ret, blockK_exit, ev_loop, ev_skip, ev_exit, ev_ret, regK_cons, regK_nil, guard_none, guard_some, regG_true, regG_false, regO_some, op_mov, op_conv, op_bin, op_bsl, op_box, op_mks, op_s2b, op_pick, op_un, op_eq, op_len, op_ext, op_load, op_iaddr, op_slice, op_b2s, op_idxS, op_mx, op_mn, op_call, op_store, op_app, op_copy, args_eq, result_one', rv_loc, finish_norm, finish_ret, outK_some, keep_true, keep_false, keep_nil, p_bin, p_pick, p_un, p_eq, p_conv, evNew, pureK_some, newK_some, X.eval, set_none, set_some, List.map_cons, List.map_nil, List.getD_cons_zero, List.getD_cons_succ, List.getD_nil, List.set_cons_zero, List.set_cons_succ, binCV, unCV, isShift, intArithF_eq, shiftF_eq, wrapF_eq, intArith, shift, eqVal, bound, asNat_cast, cond_true, cond_false, BEq.rfl, beq_self_eq_true, evalParts, fillParts, AV.cells, AV.ofCells, XV.av, AV.xv, List.length_cons, List.length_nil, zeros, patch, setMany, List.nil_append, List.cons_append, Nat.ble, Nat.add_eq, Nat.zero_add, Nat.add_zero, Nat.reduceAdd, Nat.reduceMul, Nat.reduceSub, Nat.ble_eq, Nat.reduceLeDiff, Nat.reduceBEq, Int.reduceBEq, Int.reduceNeg, Bool.and_true, Bool.and_false, Bool.true_and, Bool.false_and, Bool.not_true, Bool.not_false, Bool.true_eq_false, Bool.false_eq_true, Int.reduceLT, Int.reduceLE, Int.reduceGT, Int.reduceGE, decide_true, decide_false, Bool.not_eq_true, loopN_norm, loopN_exit, tf, ft, ff, lx, v1, v2, v3, p_iaddr, p_load, m1, Nat.mul_one, k1, eq', a1]
        exact ⟨_, _, rfl, a3, _, _, by simp [hlen], fun v hv' => by
          rcases List.mem_append.1 hv' with h1 | h1
          · exact hb v h1
          · have : v = (q : Int) := by simpa using h1
            omega, a2, rfl⟩
      · have v3 : decide ((i : Int) < (xs.length : Int)) = false := geNat (by omega)
        obtain ⟨ha, a1, a2, a3⟩ := app 0
        simp only [enter_eq, ev_seq, seqK_norm, seqK_exit, seqK_ret, ev_reg, ev_cond, condK_true, condK_false, ev_block, blockK_norm, blockK_ret, blockK_exit, ev_loop, ev_skip, ev_exit, ev_ret, regK_cons, regK_nil, guard_none, guard_some, regG_true, regG_false, regO_some, op_mov, op_conv, op_bin, op_bsl, op_box, op_mks, op_s2b, op_pick, op_un, op_eq, op_len, op_ext, op_load, op_iaddr, op_slice, op_b2s, op_idxS, op_mx, op_mn, op_call, op_store, op_app, op_copy, args_eq, result_one', rv_loc, finish_norm, finish_ret, outK_some, keep_true, keep_false, keep_nil, p_bin, p_pick, p_un, p_eq, p_conv, evNew, pureK_some, newK_some, X.eval, set_none, set_some, List.map_cons, List.map_nil, List.getD_cons_zero, List.getD_cons_succ, List.getD_nil, List.set_cons_zero, List.set_cons_succ, binCV, unCV, isShift, intArithF_eq, shiftF_eq, wrapF_eq, intArith, shift, eqVal, bound, asNat_cast, cond_true, cond_false, BEq.rfl, beq_self_eq_true, evalParts, fillParts, AV.cells, AV.ofCells, XV.av, AV.xv, List.length_cons, List.length_nil, zeros, patch, setMany, List.nil_append, List.cons_append, Nat.ble, Nat.add_eq, Nat.zero_add, Nat.add_zero, Nat.reduceAdd, Nat.reduceMul, Nat.reduceSub, Nat.ble_eq, Nat.reduceLeDiff, Nat.reduceBEq, Int.reduceBEq, Int.reduceNeg, Bool.and_true, Bool.and_false, Bool.true_and, Bool.false_and, Bool.not_true, Bool.not_false, Bool.true_eq_false, Bool.false_eq_true, Int.reduceLT, Int.reduceLE, Int.reduceGT, Int.reduceGE, decide_true, decide_false, Bool.not_eq_true, loopN_norm, loopN_exit, tf, ft, ff, lx, v1, v2, v3, a1]
        exact ⟨_, _, rfl, a3, _, _, by simp [hlen], fun v hv' => by
          rcases List.mem_append.1 hv' with h1 | h1
          · exact hb v h1
          · have : v = 0 := by simpa using h1
            omega, a2, rfl⟩
    · right
      have hik : i = k + 1 := by omega
      subst hik
      have v1 : decide (((k + 1 : Nat) : Int) < ((k + 1 : Nat) : Int)) = false := geNat (Nat.le_refl _)
      simp only [enter_eq, ev_seq, seqK_norm, seqK_exit, seqK_ret, ev_reg, ev_cond, condK_true, condK_false, ev_block, blockK_norm, blockK_ret, blockK_exit, ev_loop, ev_skip, ev_exit, ev_ret, regK_cons, regK_nil, guard_none, guard_some, regG_true, regG_false, regO_some, op_mov, op_conv, op_bin, op_bsl, op_box, op_mks, op_s2b, op_pick, op_un, op_eq, op_len, op_ext, op_load, op_iaddr, op_slice, op_b2s, op_idxS, op_mx, op_mn, op_call, op_store, op_app, op_copy, args_eq, result_one', rv_loc, finish_norm, finish_ret, outK_some, keep_true, keep_false, keep_nil, p_bin, p_pick, p_un, p_eq, p_conv, evNew, pureK_some, newK_some, X.eval, set_none, set_some, List.map_cons, List.map_nil, List.getD_cons_zero, List.getD_cons_succ, List.getD_nil, List.set_cons_zero, List.set_cons_succ, binCV, unCV, isShift, intArithF_eq, shiftF_eq, wrapF_eq, intArith, shift, eqVal, bound, asNat_cast, cond_true, cond_false, BEq.rfl, beq_self_eq_true, evalParts, fillParts, AV.cells, AV.ofCells, XV.av, AV.xv, List.length_cons, List.length_nil, zeros, patch, setMany, List.nil_append, List.cons_append, Nat.ble, Nat.add_eq, Nat.zero_add, Nat.add_zero, Nat.reduceAdd, Nat.reduceMul, Nat.reduceSub, Nat.ble_eq, Nat.reduceLeDiff, Nat.reduceBEq, Int.reduceBEq, Int.reduceNeg, Bool.and_true, Bool.and_false, Bool.true_and, Bool.false_and, Bool.not_true, Bool.not_false, Bool.true_eq_false, Bool.false_eq_true, Int.reduceLT, Int.reduceLE, Int.reduceGT, Int.reduceGE, decide_true, decide_false, Bool.not_eq_true, loopN_norm, loopN_exit, tf, ft, ff, v1]
      exact ⟨_, rfl, by simp, h', hv, y, _, _, _, _, he, hlen, hb, hy.made, rfl⟩
  obtain ⟨r, hr, h2, hv, y, a8, a9, a13, a14, x2, hlen, hb, my, rfl⟩ := L1 [.c (.int .i64 n), .c (.int .i64 s), .c x, .c (.bool false), .c (.int .i64 ((k + 1 : Nat) : Int)), .c (.int .i64 (m : Int)), .c y1, .c .nils, .c (.int .i64 0), .tup [], .tup [], .tup [], .tup [], .tup [], .tup [], .tup [], .tup [], .tup []] rfl
  have hw : Wf hv := fun v hv' => by have := hb v hv'; omega
  obtain ⟨y3, h3, e3, m3, x3⟩ : ∃ z h', evCallT table 14 100 7 20 [.c y, .c (.int .i64 (m : Int))] h2 = some (.c z, h') ∧ Made h2 h' z (stepsL hv m) ∧ Ext h2 h' := steps_ok (N := 100) (d := 3) m my.ints hw (by omega) (by omega)
  have hst : stepsL hv m = List.zipWith (fun s k => s - k) (shareL m ((k + 1 : Nat) : Int)) hv := by
    unfold stepsL
    rw [if_neg, hlen]
    simp only [List.any_eq_true, decide_eq_true_eq]
    rintro ⟨v, hv', hneg⟩
    have := hb v hv'; omega
  generalize hsh : shareL (m : Int) ((k + 1 : Nat) : Int) = sh at *
  have hzl : (List.zipWith (fun s k => s - k) sh hv).length = k + 1 := by simp [f2, hlen]
  rw [hst] at m3
  have l1 : ∀ (loc vals : List AV) (h : Heap), evPure loc (.c y1 :: vals) h (.len .sl (.val 0)) = some (.c (.int .i64 ((k + 1 : Nat) : Int))) := fun _ _ _ => by rw [← f2]; exact m1.len rfl
  have l3 : ∀ (loc vals : List AV) (h : Heap), evPure loc (.c y3 :: vals) h (.len .sl (.val 0)) = some (.c (.int .i64 ((k + 1 : Nat) : Int))) := fun _ _ _ => by rw [← hzl]; exact m3.len rfl
  have i1 := (m1.ints.ext x2).ext x3
  have i2 := my.ints.ext x3
  have i3 := m3.ints
  have nne : ∀ a : Int, (a != a) = false := fun a => by simp
  have sums : ∀ i, i ≤ k + 1 → 0 ≤ (sh.take i).sum ∧ (sh.take i).sum ≤ 32 * i := by
    intro i
    induction i with
    | zero => intro _; simp
    | succ i ih =>
      intro hi
      have := ih (by omega)
      have h4 := f3 i (by omega)
      rw [getD_at (by omega : i < sh.length)] at h4
      rw [List.take_succ_eq_append_getElem (by omega : i < sh.length), List.sum_append]
      simp only [List.sum_cons, List.sum_nil]
      omega
  have L0 : ∀ loc, keepOnly ir4_k0 loc = [.junk, .junk, .junk, .junk, .c (.int .i64 ((k + 1 : Nat) : Int)), .c (.int .i64 (m : Int)), .c y1, .c y, .junk, .junk, .c y3, .c (.int .i64 0), .c (.int .i64 0), .junk, .junk, .junk, .junk, .junk] →
      ∃ r, loopK (evCallT table 14 100 7) 100 ir4_k0 ir4_l0 100 loc h3 = some r ∧ ∃ a0 a1 a2 a3 a6 a7 a8 a9 a10 l, r = (.exit 2, a0 :: a1 :: a2 :: a3 :: .c (.int .i64 ((k + 1 : Nat) : Int)) :: .c (.int .i64 (m : Int)) :: a6 :: a7 :: a8 :: a9 :: a10 :: .c (.int .i64 (m : Int)) :: l, h3) := by
    intro loc hloc
    refine loop_inv (n := k + 1) (fun i loc h' => h' = h3 ∧ loc = [.junk, .junk, .junk, .junk, .c (.int .i64 ((k + 1 : Nat) : Int)), .c (.int .i64 (m : Int)), .c y1, .c y, .junk, .junk, .c y3, .c (.int .i64 (sh.take i).sum), .c (.int .i64 (i : Int)), .junk, .junk, .junk, .junk, .junk]) _ ?_ ⟨rfl, by simpa using hloc⟩ (by omega)
    rintro i loc h' hi ⟨rfl, rfl⟩
    unfold ir4_l0
    by_cases hlt : i < k + 1
    · left
      refine ⟨hlt, ?_⟩
      have v1 : decide ((i : Int) < ((k + 1 : Nat) : Int)) = true := ltNat hlt
      have v2 := succI (i := i) (by omega)
      obtain ⟨b1, o1, c1, rfl, _, r1⟩ := i1.sl (by omega)
      obtain ⟨b2, o2, c2, rfl, _, r2⟩ := i2.sl (by omega)
      obtain ⟨b3, o3, c3, rfl, _, r3⟩ := i3.sl (by omega)
      have k1 := r1 i (by omega)
      have k0 := r1 0 (by omega)
      rw [Nat.add_zero] at k0
      have k2 := r2 i (by omega)
      have k3 := r3 i (by omega)
      have q1 : Nat.blt i sh.length = true := bltT (by omega)
      have q0 : Nat.blt 0 sh.length = true := bltT (by omega)
      have q2 : Nat.blt i hv.length = true := bltT (by omega)
      have q3 : Nat.blt i (List.zipWith (fun s k => s - k) sh hv).length = true := bltT (by omega)
      have h4 := f3 i hlt
      rw [getD_at (by omega : i < sh.length), getD_at (by omega : 0 < sh.length)] at h4
      have hbi := hb (hv[i]'(by omega)) (List.getElem_mem _)
      have hzi : (List.zipWith (fun s k => s - k) sh hv)[i]'(by omega) = sh[i]'(by omega) - hv[i]'(by omega) := by simp
      rw [hzi] at k3
      have hs := sums i (by omega)
      have hsn : IntKind.i64.wrap ((sh.take i).sum + sh[i]'(by omega)) = (sh.take (i + 1)).sum := by
        rw [List.take_succ_eq_append_getElem (by omega : i < sh.length), List.sum_append]
        simp only [List.sum_cons, List.sum_nil]
        rw [wrapI (by omega) (by omega)]; omega
      have c1 : decide (sh[i]'(by omega) < 0) = false := decide_eq_false (by omega)
      have c2' : IntKind.i64.wrap (sh[0]'(by omega) - sh[i]'(by omega)) = sh[0]'(by omega) - sh[i]'(by omega) := wrapI (by omega) (by omega)
      have c2 : decide (sh[0]'(by omega) - sh[i]'(by omega) > 1) = false := decide_eq_false (by omega)
      have c3 : decide (sh[0]'(by omega) < sh[i]'(by omega)) = false := decide_eq_false (by omega)
      have c4 : IntKind.i64.wrap (hv[i]'(by omega) + (sh[i]'(by omega) - hv[i]'(by omega))) = sh[i]'(by omega) := by rw [wrapI (by omega) (by omega)]; omega
      simp only [enter_eq, ev_seq, seqK_norm, seqK_exit, seqK_ret, ev_reg, ev_cond, condK_true, condK_false, ev_block, blockK_norm, blockK_ret, blockK_exit, ev_loop, ev_skip, ev_exit, ev_ret, regK_cons, regK_nil, guard_none, guard_some, regG_true, regG_false, regO_some, op_mov, op_conv, op_bin, op_bsl, op_box, op_mks, op_s2b, op_pick, op_un, op_eq, op_len, op_ext, op_load, op_iaddr, op_slice, op_b2s, op_idxS, op_mx, op_mn, op_call, op_store, op_app, op_copy, args_eq, result_one', rv_loc, finish_norm, finish_ret, outK_some, keep_true, keep_false, keep_nil, p_bin, p_pick, p_un, p_eq, p_conv, evNew, pureK_some, newK_some, X.eval, set_none, set_some, List.map_cons, List.map_nil, List.getD_cons_zero, List.getD_cons_succ, List.getD_nil, List.set_cons_zero, List.set_cons_succ, binCV, unCV, isShift, intArithF_eq, shiftF_eq, wrapF_eq, intArith, shift, eqVal, bound, asNat_cast, cond_true, cond_false, BEq.rfl, beq_self_eq_true, evalParts, fillParts, AV.cells, AV.ofCells, XV.av, AV.xv, List.length_cons, List.length_nil, zeros, patch, setMany, List.nil_append, List.cons_append, Nat.ble, Nat.add_eq, Nat.zero_add, Nat.add_zero, Nat.reduceAdd, Nat.reduceMul, Nat.reduceSub, Nat.ble_eq, Nat.reduceLeDiff, Nat.reduceBEq, Int.reduceBEq, Int.reduceNeg, Bool.and_true, Bool.and_false, Bool.true_and, Bool.false_and, Bool.not_true, Bool.not_false, Bool.true_eq_false, Bool.false_eq_true, Int.reduceLT, Int.reduceLE, Int.reduceGT, Int.reduceGE, decide_true, decide_false, Bool.not_eq_true, loopN_norm, loopN_exit, tf, ft, ff, ev_dreg, dregK_nil, dregK_cons, dregE_true, dregP_some, dregX_some, d_mov, d_bin, d_eq, d_pick, d_un, d_conv, d_b2s, d_len, d_load, d_iaddr, d_slice, d_ext, d_call, d_store, chk_done, chk_none, chk_some, chkG_true, chkG_false, chkOne_nil, chkOne_cons, chkH_some, chkV_same, stage_none, stage_some, look_hit, look_miss, news_nil, wb_cons, wb_nil, skip0, List.reverse_cons, List.reverse_nil, v1, v2, p_iaddr, p_load, q0, q1, q2, q3, k0, k1, k2, k3, Nat.zero_mul, Nat.mul_one, hsn, c1, c2', c2, c3, c4, nne, asNat]
      exact ⟨_, _, rfl, rfl, rfl⟩
    · right
      have hik : i = k + 1 := by omega
      subst hik
      have v1 : decide (((k + 1 : Nat) : Int) < ((k + 1 : Nat) : Int)) = false := geNat (Nat.le_refl _)
      rw [← f2, List.take_length, f1, f2]
      simp only [enter_eq, ev_seq, seqK_norm, seqK_exit, seqK_ret, ev_reg, ev_cond, condK_true, condK_false, ev_block, blockK_norm, blockK_ret, blockK_exit, ev_loop, ev_skip, ev_exit, ev_ret, regK_cons, regK_nil, guard_none, guard_some, regG_true, regG_false, regO_some, op_mov, op_conv, op_bin, op_bsl, op_box, op_mks, op_s2b, op_pick, op_un, op_eq, op_len, op_ext, op_load, op_iaddr, op_slice, op_b2s, op_idxS, op_mx, op_mn, op_call, op_store, op_app, op_copy, args_eq, result_one', rv_loc, finish_norm, finish_ret, outK_some, keep_true, keep_false, keep_nil, p_bin, p_pick, p_un, p_eq, p_conv, evNew, pureK_some, newK_some, X.eval, set_none, set_some, List.map_cons, List.map_nil, List.getD_cons_zero, List.getD_cons_succ, List.getD_nil, List.set_cons_zero, List.set_cons_succ, binCV, unCV, isShift, intArithF_eq, shiftF_eq, wrapF_eq, intArith, shift, eqVal, bound, asNat_cast, cond_true, cond_false, BEq.rfl, beq_self_eq_true, evalParts, fillParts, AV.cells, AV.ofCells, XV.av, AV.xv, List.length_cons, List.length_nil, zeros, patch, setMany, List.nil_append, List.cons_append, Nat.ble, Nat.add_eq, Nat.zero_add, Nat.add_zero, Nat.reduceAdd, Nat.reduceMul, Nat.reduceSub, Nat.ble_eq, Nat.reduceLeDiff, Nat.reduceBEq, Int.reduceBEq, Int.reduceNeg, Bool.and_true, Bool.and_false, Bool.true_and, Bool.false_and, Bool.not_true, Bool.not_false, Bool.true_eq_false, Bool.false_eq_true, Int.reduceLT, Int.reduceLE, Int.reduceGT, Int.reduceGE, decide_true, decide_false, Bool.not_eq_true, loopN_norm, loopN_exit, tf, ft, ff, v1]
      exact ⟨_, rfl, by simp, _, _, _, _, _, _, _, _, _, _, rfl⟩
  obtain ⟨r, hr0, a0, a1, a2, a3, a6, a7, a8', a9', a10, l, rfl⟩ := L0 [.junk, .junk, .c x, .junk, .c (.int .i64 ((k + 1 : Nat) : Int)), .c (.int .i64 (m : Int)), .c y1, .c y, a8, a9, .c y3, .c (.int .i64 0), .c (.int .i64 0), a13, a14, .c (.bool false), .junk, .junk] rfl
  have eqq : ∀ a : Int, (a == a) = true := fun a => by simp
  simp only [enter_eq, ev_seq, seqK_norm, seqK_exit, seqK_ret, ev_reg, ev_cond, condK_true, condK_false, ev_block, blockK_norm, blockK_ret, blockK_exit, ev_loop, ev_skip, ev_exit, ev_ret, regK_cons, regK_nil, guard_none, guard_some, regG_true, regG_false, regO_some, op_mov, op_conv, op_bin, op_bsl, op_box, op_mks, op_s2b, op_pick, op_un, op_eq, op_len, op_ext, op_load, op_iaddr, op_slice, op_b2s, op_idxS, op_mx, op_mn, op_call, op_store, op_app, op_copy, args_eq, result_one', rv_loc, finish_norm, finish_ret, outK_some, keep_true, keep_false, keep_nil, p_bin, p_pick, p_un, p_eq, p_conv, evNew, pureK_some, newK_some, X.eval, set_none, set_some, List.map_cons, List.map_nil, List.getD_cons_zero, List.getD_cons_succ, List.getD_nil, List.set_cons_zero, List.set_cons_succ, binCV, unCV, isShift, intArithF_eq, shiftF_eq, wrapF_eq, intArith, shift, eqVal, bound, asNat_cast, cond_true, cond_false, BEq.rfl, beq_self_eq_true, evalParts, fillParts, AV.cells, AV.ofCells, XV.av, AV.xv, List.length_cons, List.length_nil, zeros, patch, setMany, List.nil_append, List.cons_append, Nat.ble, Nat.add_eq, Nat.zero_add, Nat.add_zero, Nat.reduceAdd, Nat.reduceMul, Nat.reduceSub, Nat.ble_eq, Nat.reduceLeDiff, Nat.reduceBEq, Int.reduceBEq, Int.reduceNeg, Bool.and_true, Bool.and_false, Bool.true_and, Bool.false_and, Bool.not_true, Bool.not_false, Bool.true_eq_false, Bool.false_eq_true, Int.reduceLT, Int.reduceLE, Int.reduceGT, Int.reduceGE, decide_true, decide_false, Bool.not_eq_true, loopN_norm, loopN_exit, tf, ft, ff, ev_dreg, dregK_nil, dregK_cons, dregE_true, dregP_some, dregX_some, d_mov, d_bin, d_eq, d_pick, d_un, d_conv, d_b2s, d_len, d_load, d_iaddr, d_slice, d_ext, d_call, d_store, chk_done, chk_none, chk_some, chkG_true, chkG_false, chkOne_nil, chkOne_cons, chkH_some, chkV_same, stage_none, stage_some, look_hit, look_miss, news_nil, wb_cons, wb_nil, skip0, List.reverse_cons, List.reverse_nil, ek', ek2, em', e1, hr, e3, l1, l3, nne, hr0, blockK_exit_eq, evCallT_told, eqq]
  rfl

end Lav

namespace Go.Proofs.Ytnjfpdkdafdfdaa.sizeShares
open Go.ChangeShapes Go.WideShapes Go.ChangeAt Go.RowKit
open Go.ChangeMaps (open_string shut_string)
set_option linter.unusedVariables false

theorem own : ownKnob Try.prog.godebug = none := by kernel_rfl
theorem laidOut : laidOutB Try.prog = true := by kernel_rfl

/-- WHAT THE WALK IS TOLD OF A SLICE OF INTEGERS THAT CAME IN: it is nil; or it leads to a row of 'cap' cells, the numbers 'zs' (the first 'len' are its elements, the rest its spare room), each fitting its kind. -/
def IsRow (k : IntKind) (w : World) (a : Option Addr) (len cap : Nat) (zs : List Int) : Prop :=
  (a = none ∧ len = 0 ∧ cap = 0 ∧ zs = []) ∨
  ∃ x, a = some x ∧ len ≤ cap ∧ cap ≤ maxLen ∧ zs.length = cap ∧ (∀ i, i < zs.length → w.cell? (x.add i) = some (.int k (zs.getD i 0))) ∧ ∀ n ∈ zs, (Lit.int k n).wf = true

/-! ### STEP 1: THE WALK: the Go text returns true, AND WRITES NOTHING THAT WAS THERE: 'Below w.heap.size w w'' (Derived/Below.lean: '.refl', '.alloc', '.drew', '.setCell' at a new block, '.trans'). Open each 'IsRow' by 'rcases' AHEAD of 'go_enter'; part every test ahead of the walk. -/
theorem walk (a0 : Int) (a1 : Int) (a2 : Option Addr) (len2 cap2 : Nat) (z2 : List Int) (w : World) (w0 : (Lit.int .i64 a0).wf = true) (w1 : (Lit.int .i64 a1).wf = true) (w2 : IsRow .i64 w a2 len2 cap2 z2) :
    Calls Try.prog 4 #[.int .i64 a0, .int .i64 a1, .slice a2 len2 cap2] w fun e w' => e = .returned (.bool true) ∧ Below w.heap.size w w' := by
  obtain ⟨ι, h, x, I, hle, hx, hr⟩ := (Lav.Init.empty w).slice w2
  exact Lav.walk_of (Lav.evCallT_sound Lav.mixed Lav.table_ok Lav.tld18 100 8) I (args := [.c (.int .i64 a0), .c (.int .i64 a1), .c x]) (vs := [.int .i64 a0, .int .i64 a1, .slice a2 len2 cap2]) ⟨rfl, rfl, hx, trivial⟩ (Lav.sizeShares a0 a1 (Lav.ints_of hr))

/-! ### THE ROW's STEP: WRITTEN OUT: LEAVE IT -/
set_option maxRecDepth 100000 in
theorem lifted (os : Os) (started : os.Started) (H : Type) (enc : TypeId × Value → H) :
    ReturnsInHanded {} Try.checked os 4 .any (Rows.sizeSharesSpec.pre6 enc Try.prog Try.f4 Rows.sizeSharesRow.domain false) (Rows.sizeSharesSpec.post enc Try.prog Try.f4 false true false false) := by
  refine returnsInHanded_of_change (C := Try.checked) own started (by kernel_rfl) Try.func4
    (ChangeSpec.witness6 (enc := enc) (C := Try.checked) false ⟨#[], #[.int .i64 0, .int .i64 0, .slice none 0 0], []⟩ 8 (by kernel_rfl) (by kernel_rfl) (by kernel_rfl) (by kernel_rfl)) ?_
  intro W base args ds gs before hval0 hW hcnd _
  have hval : ∀ (j : Nat) t v, Try.f4.params[j]? = some t → args[j]? = some v → Value.okWide Try.prog W .any base t v := hval0
  have hW' := hW
  obtain ⟨p, q, hA0, hV, rfl, hfz, hnd⟩ := hW
  have hA : DataW.TrodAll enc Try.prog W 0 (fun _ => true) true Try.f4.params.toList args.toList ds p := hA0
  rw [Try.params4] at hA hval
  obtain ⟨v0, vs0, d0, ds0, p0, q0, hargs, rfl, rfl, h0, r0⟩ := trodAll_cons hA
  obtain ⟨v1, vs1, d1, ds1, p1, q1, rfl, rfl, rfl, h1, r1⟩ := trodAll_cons r0
  obtain ⟨v2, vs2, d2, ds2, p2, q2, rfl, rfl, rfl, h2, r2⟩ := trodAll_cons r1
  obtain ⟨rfl, rfl, rfl⟩ := trodAll_nil r2
  obtain rfl : args = #[v0, v1, v2] := by cases args; simp_all
  obtain ⟨rfl, rfl⟩ := trodVars_none hV
  obtain ⟨a0, rfl, rfl, rfl, w0⟩ := open_int Try.underlying3 (hval 0 3 v0 rfl rfl) h0
  obtain ⟨a1, rfl, rfl, rfl, w1⟩ := open_int Try.underlying3 (hval 1 3 v1 rfl rfl) h1
  obtain ⟨a2, len2, cap2, rfl⟩ := okWide_slice Try.underlying22 (hval 2 22 v2 rfl rfl)
  have k2 := h2
  have lt2 : ∀ x ∈ p2, x.block < W.heap.size := by obtain ⟨m, hm⟩ := k2; exact DataW.trod_lt m _ _ _ hm
  obtain ⟨z2, w2⟩ : ∃ zs, IsRow .i64 W a2 len2 cap2 zs := by
    obtain ⟨fuel, hf⟩ := h2
    rcases open_ints Try.underlying22 Try.underlying3 (by kernel_rfl) hf with ⟨hcs, _⟩ | ⟨x, l, c, zs, hcs, _, hl, hm, hz, _, hcell, hwz⟩
    · simp [Value.cells] at hcs
      obtain ⟨rfl, rfl, rfl⟩ := hcs
      exact ⟨[], .inl ⟨rfl, rfl, rfl, rfl⟩⟩
    · simp [Value.cells] at hcs
      obtain ⟨rfl, rfl, rfl⟩ := hcs
      exact ⟨zs, .inr ⟨_, rfl, hl, hm, by simpa using hz, hcell, hwz⟩⟩
  clear hA0 hval0
  refine (walk a0 a1 a2 len2 cap2 z2 W w0 w1 w2).mono fun e W' ⟨he, bel⟩ => ?_
  subst he
  exact ⟨_, rfl, _, _, _, [], _, [], hW', trodAll_mk1 (shut_bool Try.underlying4 _), (trodAll_cons_mk (shut_int Try.underlying3 w0) (trodAll_cons_mk (shut_int Try.underlying3 w1) (trodAll_cons_mk (Below.trod laidOut (by kernel_rfl) (of_decide_eq_true (by kernel_rfl)) k2 bel lt2) trodAll_mk0))), rfl, bel.frame _, fun h => by cases h⟩

theorem over : Rows.sizeSharesRow.holds Try.pinned (OpenSpec.ofChange Rows.sizeSharesSpec) :=
  OpenClaim.holds_of_wide 4 Try.f4 rfl rfl rfl rfl rfl rfl rfl ⟨rfl, rfl, rfl, rfl, rfl⟩ rfl rfl rfl rfl rfl (by kernel_rfl) Try.func4 (by kernel_rfl)
    (of_decide_eq_true (by kernel_rfl)) (by unfold Func.isWrapper; first | (rw [if_pos (by decide +kernel)]; kernel_rfl) | (rw [if_neg (by decide +kernel)]; exact ⟨rfl, rfl⟩))
    (fun os started H enc _ => lifted os started H enc)

/-- ████ THE STATEMENT ████ -/
theorem proved : Rows.SizeSharesSaid := over
end Go.Proofs.Ytnjfpdkdafdfdaa.sizeShares
