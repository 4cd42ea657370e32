/-
  Proved: whatever numbers come in, lavabolaw18.SizeEnds returns true and changes nothing that was there. No conditions beyond the given statement's.
-/
import Derived.Test.YtnjfpdkdafdfdaaRows
import Derived.Test.YtnjfpdkdafdfdaaInts1
import Derived.Test.YtnjfpdkdafdfdaaSize1
import Derived.Test.YtnjfpdkdafdfdaaSize2
import Derived.Test.YtnjfpdkdafdfdaaSize3
import Derived.WalkKit
import Derived.ProofKit
import Derived.OpenShut
import Derived.ShutString
import Derived.ChangeOld
import Derived.Below
set_option maxRecDepth 100000
set_option linter.unusedSimpArgs false
namespace Lav
open Go (IntKind)
theorem tld18 : ToldOK Go.Proofs.Try.prog 14 := told_of (calls_okF 100 9) (by kernel_rfl)

theorem share_facts : ∀ m, m < 33 → ∀ k, k < 4 → (shareL (m : Nat) ((k + 1 : Nat) : Int)).sum = m ∧ (shareL (m : Nat) ((k + 1 : Nat) : Int)).length = k + 1 ∧ ∀ i, i < k + 1 → 0 ≤ (shareL (m : Nat) ((k + 1 : Nat) : Int)).getD i 0 ∧ (shareL (m : Nat) ((k + 1 : Nat) : Int)).getD i 0 ≤ 32 := by decide

theorem getD_at {l : List Int} {i : Nat} (h : i < l.length) : l.getD i 0 = l[i] := by simp [List.getD_eq_getElem?_getD, h]

theorem zip_sum : ∀ (a b : List Int), a.length = b.length → (List.zipWith (fun s k => s - k) a b).sum = a.sum - b.sum
  | [], [], _ => rfl
  | x :: a, y :: b, h => by
    have := zip_sum a b (by simpa using h)
    simp only [List.zipWith_cons_cons, List.sum_cons, this]; omega
  | [], _ :: _, h => by simp at h
  | _ :: _, [], h => by simp at h

theorem psum_sum : ∀ {hv : List Int}, (∀ v ∈ hv, v ≤ 33) → psum hv = hv.sum
  | [], _ => rfl
  | v :: hv, h => by
    have h1 := psum_sum (hv := hv) fun w hw => h w (by simp [hw])
    have h2 := h v (by simp)
    simp only [psum, List.map_cons, List.sum_cons, m33] at *
    omega

theorem go_up : ∀ (st : List Int) (i : Nat), 0 < st.sum → ∃ j, ∃ hj : j < st.length, nextGo true false i st = (((i + j : Nat) : Int), 1) ∧ st[j] > 0
  | [], _, h => by simp at h
  | v :: st, i, h => by
    by_cases hv : v > 0
    · exact ⟨0, by simp, by unfold nextGo; rw [if_pos ⟨rfl, hv⟩]; simp, hv⟩
    · obtain ⟨j, hj, e, hp⟩ := go_up st (i + 1) (by simp only [List.sum_cons] at h; omega)
      refine ⟨j + 1, by simpa using hj, ?_, by simpa using hp⟩
      unfold nextGo
      rw [if_neg (fun e => hv e.2), if_neg (fun e => absurd e.1 (by simp)), e, show i + 1 + j = i + (j + 1) by omega]

theorem go_down : ∀ (st : List Int) (i : Nat), st.sum < 0 → ∃ j, ∃ hj : j < st.length, nextGo false true i st = (((i + j : Nat) : Int), -1) ∧ st[j] < 0
  | [], _, h => by simp at h
  | v :: st, i, h => by
    by_cases hv : v < 0
    · exact ⟨0, by simp, by unfold nextGo; rw [if_neg (fun e => absurd e.1 (by simp)), if_pos ⟨rfl, hv⟩]; simp, hv⟩
    · obtain ⟨j, hj, e, hp⟩ := go_down st (i + 1) (by simp only [List.sum_cons] at h; omega)
      refine ⟨j + 1, by simpa using hj, ?_, by simpa using hp⟩
      unfold nextGo
      rw [if_neg (fun e => absurd e.1 (by simp)), if_neg (fun e => hv e.2), e, show i + 1 + j = i + (j + 1) by omega]

theorem go_none : ∀ (st : List Int) (i : Nat), nextGo false false i st = (-1, 0)
  | [], _ => rfl
  | v :: st, i => by
    unfold nextGo
    rw [if_neg (fun e => absurd e.1 (by simp)), if_neg (fun e => absurd e.1 (by simp))]
    exact go_none st (i + 1)

theorem set_sum : ∀ (l : List Int) (j : Nat) (hj : j < l.length) (v : Int), (l.set j v).sum = l.sum - l[j] + v
  | x :: l, 0, _, v => by simp only [List.set_cons_zero, List.sum_cons, List.getElem_cons_zero]; omega
  | x :: l, j + 1, hj, v => by
    have := set_sum l j (by simpa using hj) v
    simp only [List.set_cons_succ, List.sum_cons, List.getElem_cons_succ, this]; omega

/-- What Next answers over few numbers. -/
theorem next_few {hv : List Int} {m : Nat} (hm : m < 33) (h1 : 0 < hv.length) (h4 : hv.length ≤ 4) (hb : ∀ v ∈ hv, 0 ≤ v ∧ v ≤ 32) :
    (hv.sum = m ∧ nextL hv m = (-1, 0)) ∨ (hv.sum < m ∧ ∃ j, ∃ hj : j < hv.length, nextL hv m = ((j : Int), 1) ∧ hv[j] < 32) ∨ (hv.sum > m ∧ ∃ j, ∃ hj : j < hv.length, nextL hv m = ((j : Int), -1) ∧ hv[j] > 0) := by
  obtain ⟨k, hk⟩ : ∃ k, hv.length = k + 1 := ⟨hv.length - 1, by omega⟩
  obtain ⟨f1, f2, f3⟩ := share_facts m hm k (by omega)
  have hst : stepsL hv m = List.zipWith (fun s k => s - k) (shareL m ((k + 1 : Nat) : Int)) hv := by
    unfold stepsL
    rw [if_neg, hk]
    simp only [List.any_eq_true, decide_eq_true_eq]
    rintro ⟨v, hv', hneg⟩
    have := hb v hv'; omega
  have hps : psum hv = hv.sum := psum_sum fun v hv' => by have := hb v hv'; omega
  unfold nextL
  rw [hps, hst]
  generalize hsh : shareL (m : Int) ((k + 1 : Nat) : Int) = sh at *
  have hz := zip_sum sh hv (by omega)
  rw [f1] at hz
  have hzl : (List.zipWith (fun s k => s - k) sh hv).length = k + 1 := by simp [f2, hk]
  by_cases c1 : hv.sum < m
  · right; left
    refine ⟨c1, ?_⟩
    rw [decide_eq_true c1, decide_eq_false (by omega)]
    obtain ⟨j, hj, e, hp⟩ := go_up _ 0 (show 0 < (List.zipWith (fun s k => s - k) sh hv).sum by omega)
    rw [hzl] at hj
    have h5 := f3 j hj
    rw [getD_at (by omega)] at h5
    have hz : (List.zipWith (fun s k => s - k) sh hv)[j]'(by omega) = sh[j]'(by omega) - hv[j]'(by omega) := by simp
    rw [hz] at hp
    exact ⟨j, by omega, by rw [e]; simp, by omega⟩
  · by_cases c2 : hv.sum > m
    · right; right
      refine ⟨c2, ?_⟩
      rw [decide_eq_true c2, decide_eq_false c1]
      obtain ⟨j, hj, e, hp⟩ := go_down _ 0 (show (List.zipWith (fun s k => s - k) sh hv).sum < 0 by omega)
      rw [hzl] at hj
      have h5 := f3 j hj
      rw [getD_at (by omega)] at h5
      have hz : (List.zipWith (fun s k => s - k) sh hv)[j]'(by omega) = sh[j]'(by omega) - hv[j]'(by omega) := by simp
      rw [hz] at hp
      exact ⟨j, by omega, by rw [e]; simp, by omega⟩
    · left
      refine ⟨by omega, ?_⟩
      rw [decide_eq_false c1, decide_eq_false c2]
      exact go_none _ _

theorem sizeEnds {x : CV} {h : Heap} {xs : List Int} (n : Int) (hx : Ints h x xs) : good (evCallT table 14 100 9 5 [.c (.int .i64 n), .c x] h) = true := by
  have lx : ∀ (loc vals : List AV) (h : Heap), evPure loc (.c x :: vals) h (.len .sl (.val 0)) = some (.c (.int .i64 (xs.length : Int))) := fun _ _ _ => hx.len rfl
  obtain ⟨m, hm, em⟩ := few (a := n) (m := 33) (by omega) (by omega)
  have em' : IntKind.i64.wrap (Int.tmod (IntKind.u64.wrap n) 33) = (m : Int) := em
  rw [evCallT_eq (F := ir5) rfl rfl rfl]
  unfold ir5
  rw [bodyK_eq]
  by_cases hl : xs.length < 1
  · have v0 : decide ((xs.length : Int) < 1) = true := by simp; omega
    simp only [enter_eq, ev_seq, seqK_norm, seqK_exit, seqK_ret, ev_reg, ev_cond, condK_true, condK_false, ev_block, blockK_norm, blockK_ret, blockK_exit, ev_loop, ev_skip, ev_exit, ev_ret, regK_cons, regK_nil, guard_none, guard_some, regG_true, regG_false, regO_some, op_mov, op_conv, op_bin, op_bsl, op_box, op_mks, op_s2b, op_pick, op_un, op_eq, op_len, op_ext, op_load, op_iaddr, op_slice, op_b2s, op_idxS, op_mx, op_mn, op_call, op_store, op_app, op_copy, args_eq, result_one', rv_loc, finish_norm, finish_ret, outK_some, keep_true, keep_false, keep_nil, p_bin, p_pick, p_un, p_eq, p_conv, evNew, pureK_some, newK_some, X.eval, set_none, set_some, List.map_cons, List.map_nil, List.getD_cons_zero, List.getD_cons_succ, List.getD_nil, List.set_cons_zero, List.set_cons_succ, binCV, unCV, isShift, intArithF_eq, shiftF_eq, wrapF_eq, intArith, shift, eqVal, bound, asNat_cast, cond_true, cond_false, BEq.rfl, beq_self_eq_true, evalParts, fillParts, AV.cells, AV.ofCells, XV.av, AV.xv, List.length_cons, List.length_nil, zeros, patch, setMany, List.nil_append, List.cons_append, Nat.ble, Nat.add_eq, Nat.zero_add, Nat.add_zero, Nat.reduceAdd, Nat.reduceMul, Nat.reduceSub, Nat.ble_eq, Nat.reduceLeDiff, Nat.reduceBEq, Int.reduceBEq, Int.reduceNeg, Bool.and_true, Bool.and_false, Bool.true_and, Bool.false_and, Bool.not_true, Bool.not_false, Bool.true_eq_false, Bool.false_eq_true, Int.reduceLT, Int.reduceLE, Int.reduceGT, Int.reduceGE, decide_true, decide_false, Bool.not_eq_true, loopN_norm, loopN_exit, tf, ft, ff, lx, v0, evCallT_told]
    rfl
  have v0 : decide ((xs.length : Int) < 1) = false := by simp; omega
  have L1 : ∀ loc, keepOnly ir5_k1 loc = [.junk, .c x, .junk, .c (.int .i64 (m : Int)), .c .nils, .c (.int .i64 0), .c (.int .i64 0), .junk, .junk, .junk, .junk, .junk, .junk, .junk, .junk] →
      ∃ r, loopK (evCallT table 14 100 8) 100 ir5_k1 ir5_l1 100 loc h = some r ∧ ∃ h', ∃ hv : List Int, ∃ b a6 a11, Ext h h' ∧ 0 < hv.length ∧ hv.length ≤ 4 ∧ (∀ v ∈ hv, 0 ≤ v ∧ v ≤ 12) ∧ h'.get b = some (.cells (hv.map icell)) ∧ h.next ≤ b ∧ b < h'.next ∧
        r = (.exit 0, [.junk, .c x, .junk, .c (.int .i64 (m : Int)), .c (.sl b 0 hv.length (.dy 1)), .c (.int .i64 hv.sum), a6, .junk, .junk, .junk, .junk, a11, .junk, .junk, .junk], h') := by
    intro loc hloc
    refine loop_inv (n := min xs.length 4) (fun i loc h' => Ext h h' ∧ ∃ (hv : List Int) (y : CV), hv.length = i ∧ (∀ v ∈ hv, 0 ≤ v ∧ v ≤ 12) ∧ 0 ≤ hv.sum ∧ hv.sum ≤ 12 * i ∧ Mine 1 h h' y i (hv.map icell) ∧
      loc = [.junk, .c x, .junk, .c (.int .i64 (m : Int)), .c y, .c (.int .i64 hv.sum), .c (.int .i64 (i : Int)), .junk, .junk, .junk, .junk, .junk, .junk, .junk, .junk]) _ ?_ ⟨Ext.refl h, [], .nils, rfl, by simp, by simp, by simp, Mine.nil, hloc⟩ (by omega)
    rintro i loc h' hi ⟨he, hv, y, hlen, hb, hs0, hs1, hy, rfl⟩
    unfold ir5_l1
    by_cases hlt : i < min xs.length 4
    · left
      refine ⟨hlt, ?_⟩
      have v1 : decide ((i : Int) < (xs.length : Int)) = true := ltNat (by omega)
      have v4 : decide ((i : Int) < 4) = true := ltNat (n := 4) (by omega)
      have v2 := succI (i := i) (by omega)
      obtain ⟨bx, ox, cx, rfl, _, rx⟩ := (hx.ext he).sl (by omega)
      have k1 := rx i (by omega)
      have m1 : Nat.blt i xs.length = true := bltT (by omega)
      obtain ⟨q, hq, eq⟩ := few (a := xs[i]) (m := 13) (by omega) (by omega)
      have eq' : IntKind.i64.wrap (Int.tmod (IntKind.u64.wrap xs[i]) 13) = (q : Int) := eq
      obtain ⟨ha, a1, a2, a3, a4, _⟩ := app_int (v := .int .i64 (q : Int)) (c := .ex 1) (hy.new (.cells [.int .i64 (q : Int)])) (he.new _) get_new_at (by omega)
      have a2' : Mine 1 h ha (.sl (h'.next + 1) 0 (i + 1) (.dy 1)) (i + 1) ((hv ++ [(q : Int)]).map icell) := by rw [List.map_append]; exact a2
      have a1' : evApp (h'.new (.cells [.int .i64 (q : Int)])) 1 (.c y) (.c (.sl h'.next 0 1 (.ex 1))) = some (.c (.sl (h'.next + 1) 0 (i + 1) (.dy 1)), ha) := a1
      obtain ⟨_, ⟨hc, _⟩ | ⟨b, hbe, hg, hb1, hb2⟩⟩ := a2
      · cases hc
      have hbe' : b = h'.next + 1 := by
        have := congrArg blk hbe
        simpa [blk, Heap.new] using this.symm
      rw [hbe'] at hg
      have k2 : ha.read (h'.next + 1) i 1 = some [.int .i64 (q : Int)] := read_cells hg (by rw [List.getElem?_append_right (by simp [hlen])]; simp [hlen])
      have m2 : Nat.blt i (i + 1) = true := bltT (by omega)
      have v5 : IntKind.i64.wrap (hv.sum + (q : Int)) = (hv ++ [(q : Int)]).sum := by rw [wrapI (by omega) (by omega), List.sum_append]; simp
      have hsum : (hv ++ [(q : Int)]).sum = hv.sum + q := by rw [List.sum_append]; simp
      simp only [enter_eq, ev_seq, seqK_norm, seqK_exit, seqK_ret, ev_reg, ev_cond, condK_true, condK_false, ev_block, blockK_norm, blockK_ret, blockK_exit, ev_loop, ev_skip, ev_exit, ev_ret, regK_cons, regK_nil, guard_none, guard_some, regG_true, regG_false, regO_some, op_mov, op_conv, op_bin, op_bsl, op_box, op_mks, op_s2b, op_pick, op_un, op_eq, op_len, op_ext, op_load, op_iaddr, op_slice, op_b2s, op_idxS, op_mx, op_mn, op_call, op_store, op_app, op_copy, args_eq, result_one', rv_loc, finish_norm, finish_ret, outK_some, keep_true, keep_false, keep_nil, p_bin, p_pick, p_un, p_eq, p_conv, evNew, pureK_some, newK_some, X.eval, set_none, set_some, List.map_cons, List.map_nil, List.getD_cons_zero, List.getD_cons_succ, List.getD_nil, List.set_cons_zero, List.set_cons_succ, binCV, unCV, isShift, intArithF_eq, shiftF_eq, wrapF_eq, intArith, shift, eqVal, bound, asNat_cast, cond_true, cond_false, BEq.rfl, beq_self_eq_true, evalParts, fillParts, AV.cells, AV.ofCells, XV.av, AV.xv, List.length_cons, List.length_nil, zeros, patch, setMany, List.nil_append, List.cons_append, Nat.ble, Nat.add_eq, Nat.zero_add, Nat.add_zero, Nat.reduceAdd, Nat.reduceMul, Nat.reduceSub, Nat.ble_eq, Nat.reduceLeDiff, Nat.reduceBEq, Int.reduceBEq, Int.reduceNeg, Bool.and_true, Bool.and_false, Bool.true_and, Bool.false_and, Bool.not_true, Bool.not_false, Bool.true_eq_false, Bool.false_eq_true, Int.reduceLT, Int.reduceLE, Int.reduceGT, Int.reduceGE, decide_true, decide_false, Bool.not_eq_true, loopN_norm, loopN_exit, tf, ft, ff, lx, v1, v2, v4, p_iaddr, p_load, m1, m2, Nat.mul_one, k1, k2, eq', a1', v5]
      exact ⟨_, _, rfl, a3, hv ++ [(q : Int)], _, by simp [hlen], fun v hv' => by
          rcases List.mem_append.1 hv' with h1 | h1
          · exact hb v h1
          · have : v = (q : Int) := by simpa using h1
            omega, by omega, by omega, a2', rfl⟩
    · right
      have hbound : i = xs.length ∨ i = 4 := by omega
      have hy' := hy
      obtain ⟨_, ⟨_, h0⟩ | ⟨b, rfl, hg, hb1, hb2⟩⟩ := hy'
      · omega
      have post : ∀ a11, ∃ h'', ∃ hv' : List Int, ∃ b' a6 a11', Ext h h'' ∧ 0 < hv'.length ∧ hv'.length ≤ 4 ∧ (∀ v ∈ hv', 0 ≤ v ∧ v ≤ 12) ∧ h''.get b' = some (.cells (hv'.map icell)) ∧ h.next ≤ b' ∧ b' < h''.next ∧
        ((Ex.exit 0, [.junk, .c x, .junk, .c (.int .i64 (m : Int)), .c (.sl b 0 i (.dy 1)), .c (.int .i64 hv.sum), .c (.int .i64 (i : Int)), .junk, .junk, .junk, .junk, a11, .junk, .junk, .junk], h') : Ex × List AV × Heap) = (.exit 0, [.junk, .c x, .junk, .c (.int .i64 (m : Int)), .c (.sl b' 0 hv'.length (.dy 1)), .c (.int .i64 hv'.sum), a6, .junk, .junk, .junk, .junk, a11', .junk, .junk, .junk], h'') :=
        fun a11 => ⟨h', hv, b, _, _, he, by omega, by omega, hb, hg, hb1, hb2, by rw [hlen]⟩
      by_cases h1 : i < xs.length
      · have v1 : decide ((i : Int) < (xs.length : Int)) = true := ltNat h1
        have v4 : decide ((i : Int) < 4) = false := geNat (n := 4) (by omega)
        simp only [enter_eq, ev_seq, seqK_norm, seqK_exit, seqK_ret, ev_reg, ev_cond, condK_true, condK_false, ev_block, blockK_norm, blockK_ret, blockK_exit, ev_loop, ev_skip, ev_exit, ev_ret, regK_cons, regK_nil, guard_none, guard_some, regG_true, regG_false, regO_some, op_mov, op_conv, op_bin, op_bsl, op_box, op_mks, op_s2b, op_pick, op_un, op_eq, op_len, op_ext, op_load, op_iaddr, op_slice, op_b2s, op_idxS, op_mx, op_mn, op_call, op_store, op_app, op_copy, args_eq, result_one', rv_loc, finish_norm, finish_ret, outK_some, keep_true, keep_false, keep_nil, p_bin, p_pick, p_un, p_eq, p_conv, evNew, pureK_some, newK_some, X.eval, set_none, set_some, List.map_cons, List.map_nil, List.getD_cons_zero, List.getD_cons_succ, List.getD_nil, List.set_cons_zero, List.set_cons_succ, binCV, unCV, isShift, intArithF_eq, shiftF_eq, wrapF_eq, intArith, shift, eqVal, bound, asNat_cast, cond_true, cond_false, BEq.rfl, beq_self_eq_true, evalParts, fillParts, AV.cells, AV.ofCells, XV.av, AV.xv, List.length_cons, List.length_nil, zeros, patch, setMany, List.nil_append, List.cons_append, Nat.ble, Nat.add_eq, Nat.zero_add, Nat.add_zero, Nat.reduceAdd, Nat.reduceMul, Nat.reduceSub, Nat.ble_eq, Nat.reduceLeDiff, Nat.reduceBEq, Int.reduceBEq, Int.reduceNeg, Bool.and_true, Bool.and_false, Bool.true_and, Bool.false_and, Bool.not_true, Bool.not_false, Bool.true_eq_false, Bool.false_eq_true, Int.reduceLT, Int.reduceLE, Int.reduceGT, Int.reduceGE, decide_true, decide_false, Bool.not_eq_true, loopN_norm, loopN_exit, tf, ft, ff, lx, v1, v4]
        exact ⟨_, rfl, by simp, post _⟩
      · have v1 : decide ((i : Int) < (xs.length : Int)) = false := geNat (by omega)
        simp only [enter_eq, ev_seq, seqK_norm, seqK_exit, seqK_ret, ev_reg, ev_cond, condK_true, condK_false, ev_block, blockK_norm, blockK_ret, blockK_exit, ev_loop, ev_skip, ev_exit, ev_ret, regK_cons, regK_nil, guard_none, guard_some, regG_true, regG_false, regO_some, op_mov, op_conv, op_bin, op_bsl, op_box, op_mks, op_s2b, op_pick, op_un, op_eq, op_len, op_ext, op_load, op_iaddr, op_slice, op_b2s, op_idxS, op_mx, op_mn, op_call, op_store, op_app, op_copy, args_eq, result_one', rv_loc, finish_norm, finish_ret, outK_some, keep_true, keep_false, keep_nil, p_bin, p_pick, p_un, p_eq, p_conv, evNew, pureK_some, newK_some, X.eval, set_none, set_some, List.map_cons, List.map_nil, List.getD_cons_zero, List.getD_cons_succ, List.getD_nil, List.set_cons_zero, List.set_cons_succ, binCV, unCV, isShift, intArithF_eq, shiftF_eq, wrapF_eq, intArith, shift, eqVal, bound, asNat_cast, cond_true, cond_false, BEq.rfl, beq_self_eq_true, evalParts, fillParts, AV.cells, AV.ofCells, XV.av, AV.xv, List.length_cons, List.length_nil, zeros, patch, setMany, List.nil_append, List.cons_append, Nat.ble, Nat.add_eq, Nat.zero_add, Nat.add_zero, Nat.reduceAdd, Nat.reduceMul, Nat.reduceSub, Nat.ble_eq, Nat.reduceLeDiff, Nat.reduceBEq, Int.reduceBEq, Int.reduceNeg, Bool.and_true, Bool.and_false, Bool.true_and, Bool.false_and, Bool.not_true, Bool.not_false, Bool.true_eq_false, Bool.false_eq_true, Int.reduceLT, Int.reduceLE, Int.reduceGT, Int.reduceGE, decide_true, decide_false, Bool.not_eq_true, loopN_norm, loopN_exit, tf, ft, ff, lx, v1]
        exact ⟨_, rfl, by simp, post _⟩
  obtain ⟨r, hr, h1, hv0, b, a6, a11, x1, hp0, hp4, hb0, hg0, hb1, hb2, rfl⟩ := L1 [.c (.int .i64 n), .c x, .c (.bool false), .c (.int .i64 (m : Int)), .c .nils, .c (.int .i64 0), .c (.int .i64 0), .tup [], .tup [], .tup [], .c (.bool false), .tup [], .tup [], .tup [], .tup []] rfl
  have s0 : 0 ≤ hv0.sum ∧ hv0.sum ≤ 12 * hv0.length := by
    clear hr hg0 L1
    induction hv0 with
    | nil => simp
    | cons v l ih =>
      have h2 := hb0 v (by simp)
      by_cases hl0 : l = []
      · subst hl0; simp; omega
      · have := ih (by cases l with | nil => exact absurd rfl hl0 | cons _ _ => simp) (by simp at hp4; omega) fun w hw => hb0 w (by simp [hw])
        simp only [List.sum_cons, List.length_cons]; omega
  have L0 : ∀ loc, keepOnly ir5_k0 loc = [.junk, .junk, .junk, .c (.int .i64 (m : Int)), .c (.sl b 0 hv0.length (.dy 1)), .c (.int .i64 hv0.sum), .junk, .c (.int .i64 0), .junk, .junk, .junk, .junk, .junk, .junk, .junk] →
      ∃ r, loopK (evCallT table 14 100 8) 100 ir5_k0 ir5_l0 100 loc h1 = some r ∧ ∃ h' a0 a1 l, r = (.ret, a0 :: a1 :: .c (.bool true) :: l, h') := by
    intro loc hloc
    refine loop_inv (n := 50) (fun i loc h' => ∃ hv : List Int, hv.length = hv0.length ∧ (∀ v ∈ hv, 0 ≤ v ∧ v ≤ 32) ∧ hv.sum - m ≤ 49 - i ∧ m - hv.sum ≤ 49 - i ∧ -100 ≤ hv.sum ∧ hv.sum ≤ 200 ∧ h'.get b = some (.cells (hv.map icell)) ∧ b < h'.next ∧
      loc = [.junk, .junk, .junk, .c (.int .i64 (m : Int)), .c (.sl b 0 hv0.length (.dy 1)), .c (.int .i64 hv.sum), .junk, .c (.int .i64 (i : Int)), .junk, .junk, .junk, .junk, .junk, .junk, .junk]) _ ?_ ⟨hv0, rfl, fun v hv => by have := hb0 v hv; omega, by omega, by omega, by omega, by omega, hg0, hb2, hloc⟩ (by omega)
    rintro i loc h' hi ⟨hv, hlen, hb, hs1, hs2, hs3, hs4, hg, hbn, rfl⟩
    unfold ir5_l0
    have hw : Wf hv := fun v hv' => by have := hb v hv'; omega
    have hI : Ints h' (.sl b 0 hv0.length (.dy 1)) hv := by rw [← hlen]; exact ints_cells hbn hg
    obtain ⟨h2, e2, x2⟩ : ∃ h'', evCallT table 14 100 8 15 [.c (.sl b 0 hv0.length (.dy 1)), .c (.int .i64 (m : Int))] h' = some (.tup [.c (.int .i64 (nextL hv m).1), .c (.int .i64 (nextL hv m).2)], h'') ∧ Ext h' h'' := next_ok (N := 100) (d := 3) m hI hw (by omega) (by omega)
    have hg2 := x2.at_ hg hbn
    have ll : ∀ (loc vals : List AV) (h : Heap), evPure loc (.c (.sl b 0 hv0.length (.dy 1)) :: vals) h (.len .sl (.val 0)) = some (.c (.int .i64 (hv0.length : Int))) := fun _ _ _ => rfl
    have v1 : decide ((i : Int) < 60) = true := ltNat (n := 60) (by omega)
    have v2 := succI (i := i) (by omega)
    rcases next_few (hv := hv) hm (by omega) (by omega) hb with ⟨hs, en⟩ | ⟨hs, j, hj, en, hbj⟩ | ⟨hs, j, hj, en, hbj⟩
    · right
      rw [en] at e2
      have q1 : (hv.sum == (m : Int)) = true := by rw [hs]; simp
      have q2 : ((-1 : Int) == -1) = true := rfl
      simp only [enter_eq, ev_seq, seqK_norm, seqK_exit, seqK_ret, ev_reg, ev_cond, condK_true, condK_false, ev_block, blockK_norm, blockK_ret, blockK_exit, ev_loop, ev_skip, ev_exit, ev_ret, regK_cons, regK_nil, guard_none, guard_some, regG_true, regG_false, regO_some, op_mov, op_conv, op_bin, op_bsl, op_box, op_mks, op_s2b, op_pick, op_un, op_eq, op_len, op_ext, op_load, op_iaddr, op_slice, op_b2s, op_idxS, op_mx, op_mn, op_call, op_store, op_app, op_copy, args_eq, result_one', rv_loc, finish_norm, finish_ret, outK_some, keep_true, keep_false, keep_nil, p_bin, p_pick, p_un, p_eq, p_conv, evNew, pureK_some, newK_some, X.eval, set_none, set_some, List.map_cons, List.map_nil, List.getD_cons_zero, List.getD_cons_succ, List.getD_nil, List.set_cons_zero, List.set_cons_succ, binCV, unCV, isShift, intArithF_eq, shiftF_eq, wrapF_eq, intArith, shift, eqVal, bound, asNat_cast, cond_true, cond_false, BEq.rfl, beq_self_eq_true, evalParts, fillParts, AV.cells, AV.ofCells, XV.av, AV.xv, List.length_cons, List.length_nil, zeros, patch, setMany, List.nil_append, List.cons_append, Nat.ble, Nat.add_eq, Nat.zero_add, Nat.add_zero, Nat.reduceAdd, Nat.reduceMul, Nat.reduceSub, Nat.ble_eq, Nat.reduceLeDiff, Nat.reduceBEq, Int.reduceBEq, Int.reduceNeg, Bool.and_true, Bool.and_false, Bool.true_and, Bool.false_and, Bool.not_true, Bool.not_false, Bool.true_eq_false, Bool.false_eq_true, Int.reduceLT, Int.reduceLE, Int.reduceGT, Int.reduceGE, decide_true, decide_false, Bool.not_eq_true, loopN_norm, loopN_exit, tf, ft, ff, v1, e2, p_ext, List.getElem?_cons_zero, List.getElem?_cons_succ, evCallT_told, q1, q2]
      exact ⟨_, rfl, by simp, _, _, _, _, rfl⟩
    · left
      refine ⟨by omega, ?_⟩
      rw [en] at e2
      have hbj' := hb hv[j] (List.getElem_mem _)
      have q0 : decide ((j : Int) < 0) = false := decide_eq_false (by omega)
      have q1 : decide ((j : Int) ≥ (hv0.length : Int)) = false := decide_eq_false (by omega)
      have q2 : decide (hv.sum < (m : Int)) = true := decide_eq_true hs
      have q3 : decide (hv.sum > (m : Int)) = false := decide_eq_false (by omega)
      have q4 : (hv.sum == (m : Int)) = false := by simp; omega
      have q5 : IntKind.i64.wrap (hv[j] + 1) = hv[j] + 1 := wrapI (by omega) (by omega)
      have q6 : decide (hv[j] + 1 < 0) = false := decide_eq_false (by omega)
      have q7 : IntKind.i64.wrap (hv.sum + 1) = hv.sum + 1 := wrapI (by omega) (by omega)
      have q8 : ((1 : Int) != 1) = false := rfl
      have m1 : Nat.blt j hv0.length = true := bltT (by omega)
      have k1 : h2.read b j 1 = some [.int .i64 hv[j]] := read_cells hg2 (by simp [icell, hj])
      have S := write_one (v := .int .i64 (hv[j] + 1)) hg2 (show j < (hv.map icell).length by simpa using hj)
      simp only [enter_eq, ev_seq, seqK_norm, seqK_exit, seqK_ret, ev_reg, ev_cond, condK_true, condK_false, ev_block, blockK_norm, blockK_ret, blockK_exit, ev_loop, ev_skip, ev_exit, ev_ret, regK_cons, regK_nil, guard_none, guard_some, regG_true, regG_false, regO_some, op_mov, op_conv, op_bin, op_bsl, op_box, op_mks, op_s2b, op_pick, op_un, op_eq, op_len, op_ext, op_load, op_iaddr, op_slice, op_b2s, op_idxS, op_mx, op_mn, op_call, op_store, op_app, op_copy, args_eq, result_one', rv_loc, finish_norm, finish_ret, outK_some, keep_true, keep_false, keep_nil, p_bin, p_pick, p_un, p_eq, p_conv, evNew, pureK_some, newK_some, X.eval, set_none, set_some, List.map_cons, List.map_nil, List.getD_cons_zero, List.getD_cons_succ, List.getD_nil, List.set_cons_zero, List.set_cons_succ, binCV, unCV, isShift, intArithF_eq, shiftF_eq, wrapF_eq, intArith, shift, eqVal, bound, asNat_cast, cond_true, cond_false, BEq.rfl, beq_self_eq_true, evalParts, fillParts, AV.cells, AV.ofCells, XV.av, AV.xv, List.length_cons, List.length_nil, zeros, patch, setMany, List.nil_append, List.cons_append, Nat.ble, Nat.add_eq, Nat.zero_add, Nat.add_zero, Nat.reduceAdd, Nat.reduceMul, Nat.reduceSub, Nat.ble_eq, Nat.reduceLeDiff, Nat.reduceBEq, Int.reduceBEq, Int.reduceNeg, Bool.and_true, Bool.and_false, Bool.true_and, Bool.false_and, Bool.not_true, Bool.not_false, Bool.true_eq_false, Bool.false_eq_true, Int.reduceLT, Int.reduceLE, Int.reduceGT, Int.reduceGE, decide_true, decide_false, Bool.not_eq_true, loopN_norm, loopN_exit, tf, ft, ff, v1, v2, e2, p_ext, List.getElem?_cons_zero, List.getElem?_cons_succ, ll, q0, q1, q2, q3, q4, q5, q6, q7, q8, p_iaddr, p_load, m1, k1, Nat.mul_one, evEff, S]
      have hset : hv.set j (hv[j] + 1) = hv.set j (hv[j] + 1) := rfl
      have hss := set_sum hv j hj (hv[j] + 1)
      refine ⟨_, _, rfl, hv.set j (hv[j] + 1), by simpa using hlen, fun v hv' => ?_, by omega, by omega, by omega, by omega, by rw [get_put_at, List.map_set]; rfl, Nat.lt_of_lt_of_le hbn x2.1, by rw [show (hv.set j (hv[j] + 1)).sum = hv.sum + 1 by omega]; rfl⟩
      rcases List.mem_or_eq_of_mem_set hv' with h1 | h1
      · exact hb v h1
      · omega
    · left
      refine ⟨by omega, ?_⟩
      rw [en] at e2
      have hbj' := hb hv[j] (List.getElem_mem _)
      have q0 : decide ((j : Int) < 0) = false := decide_eq_false (by omega)
      have q1 : decide ((j : Int) ≥ (hv0.length : Int)) = false := decide_eq_false (by omega)
      have q2 : decide (hv.sum < (m : Int)) = false := decide_eq_false (by omega)
      have q3 : decide (hv.sum > (m : Int)) = true := decide_eq_true hs
      have q4 : (hv.sum == (m : Int)) = false := by simp; omega
      have q5 : IntKind.i64.wrap (hv[j] + -1) = hv[j] + -1 := wrapI (by omega) (by omega)
      have q6 : decide (hv[j] + -1 < 0) = false := decide_eq_false (by omega)
      have q7 : IntKind.i64.wrap (hv.sum + -1) = hv.sum + -1 := wrapI (by omega) (by omega)
      have q8 : ((-1 : Int) != -1) = false := rfl
      have m1 : Nat.blt j hv0.length = true := bltT (by omega)
      have k1 : h2.read b j 1 = some [.int .i64 hv[j]] := read_cells hg2 (by simp [icell, hj])
      have S := write_one (v := .int .i64 (hv[j] + -1)) hg2 (show j < (hv.map icell).length by simpa using hj)
      simp only [enter_eq, ev_seq, seqK_norm, seqK_exit, seqK_ret, ev_reg, ev_cond, condK_true, condK_false, ev_block, blockK_norm, blockK_ret, blockK_exit, ev_loop, ev_skip, ev_exit, ev_ret, regK_cons, regK_nil, guard_none, guard_some, regG_true, regG_false, regO_some, op_mov, op_conv, op_bin, op_bsl, op_box, op_mks, op_s2b, op_pick, op_un, op_eq, op_len, op_ext, op_load, op_iaddr, op_slice, op_b2s, op_idxS, op_mx, op_mn, op_call, op_store, op_app, op_copy, args_eq, result_one', rv_loc, finish_norm, finish_ret, outK_some, keep_true, keep_false, keep_nil, p_bin, p_pick, p_un, p_eq, p_conv, evNew, pureK_some, newK_some, X.eval, set_none, set_some, List.map_cons, List.map_nil, List.getD_cons_zero, List.getD_cons_succ, List.getD_nil, List.set_cons_zero, List.set_cons_succ, binCV, unCV, isShift, intArithF_eq, shiftF_eq, wrapF_eq, intArith, shift, eqVal, bound, asNat_cast, cond_true, cond_false, BEq.rfl, beq_self_eq_true, evalParts, fillParts, AV.cells, AV.ofCells, XV.av, AV.xv, List.length_cons, List.length_nil, zeros, patch, setMany, List.nil_append, List.cons_append, Nat.ble, Nat.add_eq, Nat.zero_add, Nat.add_zero, Nat.reduceAdd, Nat.reduceMul, Nat.reduceSub, Nat.ble_eq, Nat.reduceLeDiff, Nat.reduceBEq, Int.reduceBEq, Int.reduceNeg, Bool.and_true, Bool.and_false, Bool.true_and, Bool.false_and, Bool.not_true, Bool.not_false, Bool.true_eq_false, Bool.false_eq_true, Int.reduceLT, Int.reduceLE, Int.reduceGT, Int.reduceGE, decide_true, decide_false, Bool.not_eq_true, loopN_norm, loopN_exit, tf, ft, ff, v1, v2, e2, p_ext, List.getElem?_cons_zero, List.getElem?_cons_succ, ll, q0, q1, q2, q3, q4, q5, q6, q7, q8, p_iaddr, p_load, m1, k1, Nat.mul_one, evEff, S]
      have hss := set_sum hv j hj (hv[j] + -1)
      refine ⟨_, _, rfl, hv.set j (hv[j] + -1), by simpa using hlen, fun v hv' => ?_, by omega, by omega, by omega, by omega, by rw [get_put_at, List.map_set]; rfl, Nat.lt_of_lt_of_le hbn x2.1, by rw [show (hv.set j (hv[j] + -1)).sum = hv.sum + -1 by omega]; rfl⟩
      rcases List.mem_or_eq_of_mem_set hv' with h1 | h1
      · exact hb v h1
      · omega
  obtain ⟨r, hr0, h', a0, a1, l, rfl⟩ := L0 [.junk, .c x, .junk, .c (.int .i64 (m : Int)), .c (.sl b 0 hv0.length (.dy 1)), .c (.int .i64 hv0.sum), a6, .c (.int .i64 0), .junk, .junk, .junk, a11, .junk, .junk, .junk] rfl
  simp only [enter_eq, ev_seq, seqK_norm, seqK_exit, seqK_ret, ev_reg, ev_cond, condK_true, condK_false, ev_block, blockK_norm, blockK_ret, blockK_exit, ev_loop, ev_skip, ev_exit, ev_ret, regK_cons, regK_nil, guard_none, guard_some, regG_true, regG_false, regO_some, op_mov, op_conv, op_bin, op_bsl, op_box, op_mks, op_s2b, op_pick, op_un, op_eq, op_len, op_ext, op_load, op_iaddr, op_slice, op_b2s, op_idxS, op_mx, op_mn, op_call, op_store, op_app, op_copy, args_eq, result_one', rv_loc, finish_norm, finish_ret, outK_some, keep_true, keep_false, keep_nil, p_bin, p_pick, p_un, p_eq, p_conv, evNew, pureK_some, newK_some, X.eval, set_none, set_some, List.map_cons, List.map_nil, List.getD_cons_zero, List.getD_cons_succ, List.getD_nil, List.set_cons_zero, List.set_cons_succ, binCV, unCV, isShift, intArithF_eq, shiftF_eq, wrapF_eq, intArith, shift, eqVal, bound, asNat_cast, cond_true, cond_false, BEq.rfl, beq_self_eq_true, evalParts, fillParts, AV.cells, AV.ofCells, XV.av, AV.xv, List.length_cons, List.length_nil, zeros, patch, setMany, List.nil_append, List.cons_append, Nat.ble, Nat.add_eq, Nat.zero_add, Nat.add_zero, Nat.reduceAdd, Nat.reduceMul, Nat.reduceSub, Nat.ble_eq, Nat.reduceLeDiff, Nat.reduceBEq, Int.reduceBEq, Int.reduceNeg, Bool.and_true, Bool.and_false, Bool.true_and, Bool.false_and, Bool.not_true, Bool.not_false, Bool.true_eq_false, Bool.false_eq_true, Int.reduceLT, Int.reduceLE, Int.reduceGT, Int.reduceGE, decide_true, decide_false, Bool.not_eq_true, loopN_norm, loopN_exit, tf, ft, ff, lx, v0, em', hr, hr0, blockK_exit_eq, blockK_ret]
  rfl

end Lav

namespace Go.Proofs.Ytnjfpdkdafdfdaa.sizeEnds
open Go.ChangeShapes Go.WideShapes Go.ChangeAt Go.RowKit
open Go.ChangeMaps (open_string shut_string)
set_option linter.unusedVariables false

theorem own : ownKnob Try.prog.godebug = none := by kernel_rfl
theorem laidOut : laidOutB Try.prog = true := by kernel_rfl

/-- WHAT THE WALK IS TOLD OF A SLICE OF INTEGERS THAT CAME IN: it is nil; or it leads to a row of 'cap' cells, the numbers 'zs' (the first 'len' are its elements, the rest its spare room), each fitting its kind. -/
def IsRow (k : IntKind) (w : World) (a : Option Addr) (len cap : Nat) (zs : List Int) : Prop :=
  (a = none ∧ len = 0 ∧ cap = 0 ∧ zs = []) ∨
  ∃ x, a = some x ∧ len ≤ cap ∧ cap ≤ maxLen ∧ zs.length = cap ∧ (∀ i, i < zs.length → w.cell? (x.add i) = some (.int k (zs.getD i 0))) ∧ ∀ n ∈ zs, (Lit.int k n).wf = true

/-! ### STEP 1: THE WALK: the Go text returns true, AND WRITES NOTHING THAT WAS THERE: 'Below w.heap.size w w'' (Derived/Below.lean: '.refl', '.alloc', '.drew', '.setCell' at a new block, '.trans'). Open each 'IsRow' by 'rcases' AHEAD of 'go_enter'; part every test ahead of the walk. -/
theorem walk (a0 : Int) (a1 : Option Addr) (len1 cap1 : Nat) (z1 : List Int) (w : World) (w0 : (Lit.int .i64 a0).wf = true) (w1 : IsRow .i64 w a1 len1 cap1 z1) :
    Calls Try.prog 5 #[.int .i64 a0, .slice a1 len1 cap1] w fun e w' => e = .returned (.bool true) ∧ Below w.heap.size w w' := by
  obtain ⟨ι, h, x, I, hle, hx, hr⟩ := (Lav.Init.empty w).slice w1
  exact Lav.walk_of (Lav.evCallT_sound Lav.mixed Lav.table_ok Lav.tld18 100 9) I (args := [.c (.int .i64 a0), .c x]) (vs := [.int .i64 a0, .slice a1 len1 cap1]) ⟨rfl, hx, trivial⟩ (Lav.sizeEnds a0 (Lav.ints_of hr))

/-! ### THE ROW's STEP: WRITTEN OUT: LEAVE IT -/
set_option maxRecDepth 100000 in
theorem lifted (os : Os) (started : os.Started) (H : Type) (enc : TypeId × Value → H) :
    ReturnsInHanded {} Try.checked os 5 .any (Rows.sizeEndsSpec.pre6 enc Try.prog Try.f5 Rows.sizeEndsRow.domain false) (Rows.sizeEndsSpec.post enc Try.prog Try.f5 false true false false) := by
  refine returnsInHanded_of_change (C := Try.checked) own started (by kernel_rfl) Try.func5
    (ChangeSpec.witness6 (enc := enc) (C := Try.checked) false ⟨#[], #[.int .i64 0, .slice none 0 0], []⟩ 8 (by kernel_rfl) (by kernel_rfl) (by kernel_rfl) (by kernel_rfl)) ?_
  intro W base args ds gs before hval0 hW hcnd _
  have hval : ∀ (j : Nat) t v, Try.f5.params[j]? = some t → args[j]? = some v → Value.okWide Try.prog W .any base t v := hval0
  have hW' := hW
  obtain ⟨p, q, hA0, hV, rfl, hfz, hnd⟩ := hW
  have hA : DataW.TrodAll enc Try.prog W 0 (fun _ => true) true Try.f5.params.toList args.toList ds p := hA0
  rw [Try.params5] at hA hval
  obtain ⟨v0, vs0, d0, ds0, p0, q0, hargs, rfl, rfl, h0, r0⟩ := trodAll_cons hA
  obtain ⟨v1, vs1, d1, ds1, p1, q1, rfl, rfl, rfl, h1, r1⟩ := trodAll_cons r0
  obtain ⟨rfl, rfl, rfl⟩ := trodAll_nil r1
  obtain rfl : args = #[v0, v1] := by cases args; simp_all
  obtain ⟨rfl, rfl⟩ := trodVars_none hV
  obtain ⟨a0, rfl, rfl, rfl, w0⟩ := open_int Try.underlying3 (hval 0 3 v0 rfl rfl) h0
  obtain ⟨a1, len1, cap1, rfl⟩ := okWide_slice Try.underlying22 (hval 1 22 v1 rfl rfl)
  have k1 := h1
  have lt1 : ∀ x ∈ p1, x.block < W.heap.size := by obtain ⟨m, hm⟩ := k1; exact DataW.trod_lt m _ _ _ hm
  obtain ⟨z1, w1⟩ : ∃ zs, IsRow .i64 W a1 len1 cap1 zs := by
    obtain ⟨fuel, hf⟩ := h1
    rcases open_ints Try.underlying22 Try.underlying3 (by kernel_rfl) hf with ⟨hcs, _⟩ | ⟨x, l, c, zs, hcs, _, hl, hm, hz, _, hcell, hwz⟩
    · simp [Value.cells] at hcs
      obtain ⟨rfl, rfl, rfl⟩ := hcs
      exact ⟨[], .inl ⟨rfl, rfl, rfl, rfl⟩⟩
    · simp [Value.cells] at hcs
      obtain ⟨rfl, rfl, rfl⟩ := hcs
      exact ⟨zs, .inr ⟨_, rfl, hl, hm, by simpa using hz, hcell, hwz⟩⟩
  clear hA0 hval0
  refine (walk a0 a1 len1 cap1 z1 W w0 w1).mono fun e W' ⟨he, bel⟩ => ?_
  subst he
  exact ⟨_, rfl, _, _, _, [], _, [], hW', trodAll_mk1 (shut_bool Try.underlying4 _), (trodAll_cons_mk (shut_int Try.underlying3 w0) (trodAll_cons_mk (Below.trod laidOut (by kernel_rfl) (of_decide_eq_true (by kernel_rfl)) k1 bel lt1) trodAll_mk0)), rfl, bel.frame _, fun h => by cases h⟩

theorem over : Rows.sizeEndsRow.holds Try.pinned (OpenSpec.ofChange Rows.sizeEndsSpec) :=
  OpenClaim.holds_of_wide 5 Try.f5 rfl rfl rfl rfl rfl rfl rfl ⟨rfl, rfl, rfl, rfl, rfl⟩ rfl rfl rfl rfl rfl (by kernel_rfl) Try.func5 (by kernel_rfl)
    (of_decide_eq_true (by kernel_rfl)) (by unfold Func.isWrapper; first | (rw [if_pos (by decide +kernel)]; kernel_rfl) | (rw [if_neg (by decide +kernel)]; exact ⟨rfl, rfl⟩))
    (fun os started H enc _ => lifted os started H enc)

/-- ████ THE STATEMENT ████ -/
theorem proved : Rows.SizeEndsSaid := over
end Go.Proofs.Ytnjfpdkdafdfdaa.sizeEnds
