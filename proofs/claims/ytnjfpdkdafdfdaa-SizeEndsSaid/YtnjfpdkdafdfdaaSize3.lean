/-
  Layer 18: what size.Next and the document's own compute.
-/
import Derived.Test.YtnjfpdkdafdfdaaSize2
set_option maxRecDepth 100000
set_option linter.unusedSimpArgs false
namespace Lav
open Go (IntKind)

/-- The first that is to have one more (g), or one less (l). -/
def nextGo (g l : Bool) : Nat → List Int → Int × Int
  | _, [] => (-1, 0)
  | i, v :: vs => if g = true ∧ v > 0 then ((i : Int), 1) else if l = true ∧ v < 0 then ((i : Int), -1) else nextGo g l (i + 1) vs

def m33 (v : Int) : Int := min v 33
def psum (hv : List Int) : Int := (hv.map m33).sum
def nextL (hv : List Int) (n : Int) : Int × Int := nextGo (decide (psum hv < n)) (decide (psum hv > n)) 0 (stepsL hv n)

theorem psum_take {hv : List Int} {i : Nat} (hi : i < hv.length) : psum (hv.take (i + 1)) = psum (hv.take i) + m33 hv[i] := by
  unfold psum
  rw [List.take_succ_eq_append_getElem hi, List.map_append, List.sum_append]
  simp
theorem psum_pos : ∀ {hv : List Int}, (∀ v ∈ hv, ¬ v < 0) → 0 ≤ psum hv
  | [], _ => by simp [psum]
  | v :: hv, h => by
    have h1 := psum_pos (hv := hv) fun w hw => h w (by simp [hw])
    have h2 := h v (by simp)
    simp only [psum, List.map_cons, List.sum_cons, m33] at *
    omega
theorem psum_split (hv : List Int) (i : Nat) : psum hv = psum (hv.take i) + psum (hv.drop i) := by
  unfold psum
  rw [← List.sum_append, ← List.map_append, List.take_append_drop]

/-- Where there are steps. -/
def Fit (hv : List Int) (n : Int) : Prop := stepsL hv n ≠ []
theorem Fit.inv {hv : List Int} {n : Int} (h : Fit hv n) : (∀ v ∈ hv, ¬ v < 0) ∧ 0 ≤ n ∧ n ≤ 32 ∧ (stepsL hv n).length = hv.length := by
  unfold Fit stepsL at h
  unfold stepsL
  split at h
  · exact absurd rfl h
  · rename_i hc
    rw [if_neg hc]
    have hs : shareL n hv.length ≠ [] := fun e => h (by rw [e]; rfl)
    obtain ⟨_, _, h3, h4, h5⟩ := shareL_len hs
    have hc' : ∀ v ∈ hv, 0 ≤ v := by simpa using hc
    exact ⟨fun v hv' => by have := hc' v hv'; omega, h3, h4, by simp [h5]⟩

theorem m33_if (v : Int) : (if (33 : Int) < v then (33 : Int) else v) = m33 v := by unfold m33; split <;> omega
theorem m33_bounds (v : Int) : m33 v ≤ 33 ∧ (¬ v < 0 → 0 ≤ m33 v) := by unfold m33; omega

section
variable {N d : Nat}

theorem next_ok {x : CV} {hv : List Int} (n : Int) {h : Heap} (hx : Ints h x hv) (hw : Wf hv) (hN : 20 ≤ N) (hn : hv.length ≤ 8) :
    ∃ h', evCallT table 14 N (d + 5) 15 [.c x, .c (.int .i64 n)] h = some (.tup [.c (.int .i64 (nextL hv n).1), .c (.int .i64 (nextL hv n).2)], h') ∧ Ext h h' := by
  obtain ⟨y, h1, e1, my, x1⟩ := steps_ok (N := N) (d := d) n hx hw hN hn
  have hx1 := hx.ext x1
  have hy := my.ints
  have lx : ∀ (loc vals : List AV) (h : Heap), evPure loc (.c x :: vals) h (.len .sl (.val 0)) = some (.c (.int .i64 (hv.length : Int))) := fun _ _ _ => hx.len rfl
  have ly : ∀ (loc vals : List AV) (h : Heap), evPure loc (.c y :: vals) h (.len .sl (.val 0)) = some (.c (.int .i64 ((stepsL hv n).length : Int))) := fun _ _ _ => my.len rfl
  rw [evCallT_eq (F := ir15) rfl rfl rfl]
  unfold ir15
  rw [bodyK_eq]
  have L1 : ∀ loc, keepOnly ir15_k1 loc = [.junk, .junk, .junk, .junk, .c y, .c (.int .i64 n), .junk, .junk, .junk, .c x, .c (.int .i64 (hv.length : Int)), .c (.int .i64 0), .junk, .junk, .junk, .junk, .junk, .junk, .junk, .junk] →
      ∃ r, loopK (evCallT table 14 N (d + 4)) N ir15_k1 ir15_l1 N loc h1 = some r ∧ ∃ (left : Int), (Fit hv n → (decide (left > 0) = decide (psum hv < n) ∧ decide (left < 0) = decide (psum hv > n))) ∧ ∃ a6 a7 a8 a11 a12 a13 a14, r = (.exit 0, [.junk, .junk, .junk, .junk, .c y, .c (.int .i64 left), a6, a7, a8, .c x, .c (.int .i64 (hv.length : Int)), a11, a12, a13, a14, .junk, .junk, .junk, .junk, .junk], h1) := by
    intro loc hloc
    refine loop_inv (n := hv.length) (fun i loc h' => h' = h1 ∧ ∃ left : Int, (Fit hv n → left = n - psum (hv.take i) ∧ 0 ≤ left) ∧ loc = [.junk, .junk, .junk, .junk, .c y, .c (.int .i64 left), .junk, .junk, .junk, .c x, .c (.int .i64 (hv.length : Int)), .c (.int .i64 (i : Int)), .junk, .junk, .junk, .junk, .junk, .junk, .junk, .junk]) _ ?_ ⟨rfl, n, fun f => ⟨by simp [psum], f.inv.2.1⟩, hloc⟩ (by omega)
    rintro i loc h' hi ⟨rfl, left, hleft, rfl⟩
    unfold ir15_l1
    by_cases hlt : i < hv.length
    · have v1 : decide ((i : Int) < (hv.length : Int)) = true := ltNat hlt
      have v2 := succI (i := i) (by omega)
      obtain ⟨bx, ox, cx, rfl, _, rx⟩ := hx1.sl (by omega)
      have m1 : Nat.blt i hv.length = true := bltT hlt
      have k1 := rx i hlt
      have hm := m33_bounds hv[i]
      obtain ⟨left', hl'⟩ : ∃ l', l' = IntKind.i64.wrap (left - m33 hv[i]) := ⟨_, rfl⟩
      have fitL : Fit hv n → left' = n - psum (hv.take (i + 1)) := fun f => by
        obtain ⟨e, hge⟩ := hleft f
        obtain ⟨f1, f2, f3, _⟩ := f.inv
        have := hm.2 (f1 _ (List.getElem_mem _))
        have hp := psum_pos (hv := hv.take i) fun v hv' => f1 v (List.mem_of_mem_take hv')
        rw [hl', psum_take hlt, wrapI (by omega) (by omega)]; omega
      by_cases hneg : left' < 0
      · right
        have v3 := decide_eq_true hneg
        simp only [enter_eq, ev_seq, seqK_norm, seqK_exit, seqK_ret, ev_reg, ev_cond, condK_true, condK_false, ev_block, blockK_norm, blockK_ret, blockK_exit, ev_loop, ev_skip, ev_exit, ev_ret, regK_cons, regK_nil, guard_none, guard_some, regG_true, regG_false, regO_some, op_mov, op_conv, op_bin, op_bsl, op_box, op_mks, op_s2b, op_pick, op_un, op_eq, op_len, op_ext, op_load, op_iaddr, op_slice, op_b2s, op_idxS, op_mx, op_mn, op_call, op_store, op_app, op_copy, args_eq, result_one', rv_loc, finish_norm, finish_ret, outK_some, keep_true, keep_false, keep_nil, p_bin, p_pick, p_un, p_eq, p_conv, evNew, pureK_some, newK_some, X.eval, set_none, set_some, List.map_cons, List.map_nil, List.getD_cons_zero, List.getD_cons_succ, List.getD_nil, List.set_cons_zero, List.set_cons_succ, binCV, unCV, isShift, intArithF_eq, shiftF_eq, wrapF_eq, intArith, shift, eqVal, bound, asNat_cast, cond_true, cond_false, BEq.rfl, beq_self_eq_true, evalParts, fillParts, AV.cells, AV.ofCells, XV.av, AV.xv, List.length_cons, List.length_nil, zeros, patch, setMany, List.nil_append, List.cons_append, Nat.ble, Nat.add_eq, Nat.zero_add, Nat.add_zero, Nat.reduceAdd, Nat.reduceMul, Nat.reduceSub, Nat.ble_eq, Nat.reduceLeDiff, Nat.reduceBEq, Int.reduceBEq, Int.reduceNeg, Bool.and_true, Bool.and_false, Bool.true_and, Bool.false_and, Bool.not_true, Bool.not_false, Bool.true_eq_false, Bool.false_eq_true, Int.reduceLT, Int.reduceLE, Int.reduceGT, Int.reduceGE, decide_true, decide_false, Bool.not_eq_true, loopN_norm, loopN_exit, tf, ft, ff, v1, v2, p_iaddr, p_load, m1, Nat.mul_one, k1, p_mn, foldInt, m33_if, ← hl', v3]
        refine ⟨_, rfl, by simp, left', fun f => ?_, _, _, _, _, _, _, _, rfl⟩
        obtain ⟨f1, f2, f3, _⟩ := f.inv
        have hp := psum_pos (hv := hv.drop (i + 1)) fun v hv' => f1 v (List.mem_of_mem_drop hv')
        have hs := psum_split hv (i + 1)
        have := fitL f
        exact ⟨by rw [decide_eq_false (by omega), decide_eq_false (by omega)], by rw [decide_eq_true (by omega), decide_eq_true (by omega)]⟩
      · left
        refine ⟨hlt, ?_⟩
        have v3 := decide_eq_false hneg
        simp only [enter_eq, ev_seq, seqK_norm, seqK_exit, seqK_ret, ev_reg, ev_cond, condK_true, condK_false, ev_block, blockK_norm, blockK_ret, blockK_exit, ev_loop, ev_skip, ev_exit, ev_ret, regK_cons, regK_nil, guard_none, guard_some, regG_true, regG_false, regO_some, op_mov, op_conv, op_bin, op_bsl, op_box, op_mks, op_s2b, op_pick, op_un, op_eq, op_len, op_ext, op_load, op_iaddr, op_slice, op_b2s, op_idxS, op_mx, op_mn, op_call, op_store, op_app, op_copy, args_eq, result_one', rv_loc, finish_norm, finish_ret, outK_some, keep_true, keep_false, keep_nil, p_bin, p_pick, p_un, p_eq, p_conv, evNew, pureK_some, newK_some, X.eval, set_none, set_some, List.map_cons, List.map_nil, List.getD_cons_zero, List.getD_cons_succ, List.getD_nil, List.set_cons_zero, List.set_cons_succ, binCV, unCV, isShift, intArithF_eq, shiftF_eq, wrapF_eq, intArith, shift, eqVal, bound, asNat_cast, cond_true, cond_false, BEq.rfl, beq_self_eq_true, evalParts, fillParts, AV.cells, AV.ofCells, XV.av, AV.xv, List.length_cons, List.length_nil, zeros, patch, setMany, List.nil_append, List.cons_append, Nat.ble, Nat.add_eq, Nat.zero_add, Nat.add_zero, Nat.reduceAdd, Nat.reduceMul, Nat.reduceSub, Nat.ble_eq, Nat.reduceLeDiff, Nat.reduceBEq, Int.reduceBEq, Int.reduceNeg, Bool.and_true, Bool.and_false, Bool.true_and, Bool.false_and, Bool.not_true, Bool.not_false, Bool.true_eq_false, Bool.false_eq_true, Int.reduceLT, Int.reduceLE, Int.reduceGT, Int.reduceGE, decide_true, decide_false, Bool.not_eq_true, loopN_norm, loopN_exit, tf, ft, ff, v1, v2, p_iaddr, p_load, m1, Nat.mul_one, k1, p_mn, foldInt, m33_if, ← hl', v3]
        exact ⟨_, _, rfl, rfl, left', fun f => ⟨fitL f, by omega⟩, rfl⟩
    · right
      have hin : i = hv.length := by omega
      subst hin
      have v1 : decide ((hv.length : Int) < (hv.length : Int)) = false := geNat (Nat.le_refl _)
      simp only [enter_eq, ev_seq, seqK_norm, seqK_exit, seqK_ret, ev_reg, ev_cond, condK_true, condK_false, ev_block, blockK_norm, blockK_ret, blockK_exit, ev_loop, ev_skip, ev_exit, ev_ret, regK_cons, regK_nil, guard_none, guard_some, regG_true, regG_false, regO_some, op_mov, op_conv, op_bin, op_bsl, op_box, op_mks, op_s2b, op_pick, op_un, op_eq, op_len, op_ext, op_load, op_iaddr, op_slice, op_b2s, op_idxS, op_mx, op_mn, op_call, op_store, op_app, op_copy, args_eq, result_one', rv_loc, finish_norm, finish_ret, outK_some, keep_true, keep_false, keep_nil, p_bin, p_pick, p_un, p_eq, p_conv, evNew, pureK_some, newK_some, X.eval, set_none, set_some, List.map_cons, List.map_nil, List.getD_cons_zero, List.getD_cons_succ, List.getD_nil, List.set_cons_zero, List.set_cons_succ, binCV, unCV, isShift, intArithF_eq, shiftF_eq, wrapF_eq, intArith, shift, eqVal, bound, asNat_cast, cond_true, cond_false, BEq.rfl, beq_self_eq_true, evalParts, fillParts, AV.cells, AV.ofCells, XV.av, AV.xv, List.length_cons, List.length_nil, zeros, patch, setMany, List.nil_append, List.cons_append, Nat.ble, Nat.add_eq, Nat.zero_add, Nat.add_zero, Nat.reduceAdd, Nat.reduceMul, Nat.reduceSub, Nat.ble_eq, Nat.reduceLeDiff, Nat.reduceBEq, Int.reduceBEq, Int.reduceNeg, Bool.and_true, Bool.and_false, Bool.true_and, Bool.false_and, Bool.not_true, Bool.not_false, Bool.true_eq_false, Bool.false_eq_true, Int.reduceLT, Int.reduceLE, Int.reduceGT, Int.reduceGE, decide_true, decide_false, Bool.not_eq_true, loopN_norm, loopN_exit, tf, ft, ff, v1]
      refine ⟨_, rfl, by simp, left, fun f => ?_, _, _, _, _, _, _, _, rfl⟩
      obtain ⟨e, hge⟩ := hleft f
      rw [List.take_length] at e
      exact ⟨by congr 1; apply propext; omega, by rw [decide_eq_false (by omega), decide_eq_false (by omega)]⟩
  obtain ⟨r, hr, left, hfit, a6, a7, a8, a11, a12, a13, a14, rfl⟩ := L1 [.c x, .c (.int .i64 n), .c (.int .i64 0), .c (.int .i64 0), .c y, .c (.int .i64 n), .tup [], .tup [], .tup [], .c x, .c (.int .i64 (hv.length : Int)), .c (.int .i64 0), .tup [], .tup [], .tup [], .tup [], .tup [], .tup [], .tup [], .tup []] rfl
  have hgo : nextGo (decide (left > 0)) (decide (left < 0)) 0 (stepsL hv n) = nextL hv n := by
    unfold nextL
    by_cases f : Fit hv n
    · obtain ⟨q1, q2⟩ := hfit f; rw [q1, q2]
    · have : stepsL hv n = [] := Classical.not_not.1 f
      rw [this]; rfl
  generalize hst : stepsL hv n = st at *
  have hlen : st.length ≤ 8 := by
    by_cases f : Fit hv n
    · have := f.inv.2.2.2; rw [hst] at this; omega
    · have : stepsL hv n = [] := Classical.not_not.1 f
      rw [hst] at this; rw [this]; simp
  have L0 : ∀ loc, keepOnly ir15_k0 loc = [.junk, .junk, .junk, .junk, .junk, .c (.int .i64 left), .junk, .junk, .junk, .junk, .junk, .junk, .junk, .junk, .c y, .c (.int .i64 (st.length : Int)), .c (.int .i64 0), .junk, .junk, .junk] →
      ∃ r, loopK (evCallT table 14 N (d + 4)) N ir15_k0 ir15_l0 N loc h1 = some r ∧ ((nextL hv n = (-1, 0) ∧ ∃ a0 a1 a2 a3 l, r = (.exit 2, a0 :: a1 :: a2 :: a3 :: l, h1)) ∨ ∃ a0 a1 l, r = (.ret, a0 :: a1 :: .c (.int .i64 (nextL hv n).1) :: .c (.int .i64 (nextL hv n).2) :: l, h1)) := by
    intro loc hloc
    refine loop_inv (n := st.length) (fun i loc h' => h' = h1 ∧ nextGo (decide (left > 0)) (decide (left < 0)) i (st.drop i) = nextL hv n ∧ loc = [.junk, .junk, .junk, .junk, .junk, .c (.int .i64 left), .junk, .junk, .junk, .junk, .junk, .junk, .junk, .junk, .c y, .c (.int .i64 (st.length : Int)), .c (.int .i64 (i : Int)), .junk, .junk, .junk]) _ ?_ ⟨rfl, hgo, hloc⟩ (by omega)
    rintro i loc h' hi ⟨rfl, hres, rfl⟩
    unfold ir15_l0
    by_cases hlt : i < st.length
    · have v1 : decide ((i : Int) < (st.length : Int)) = true := ltNat hlt
      have v2 := succI (i := i) (by omega)
      obtain ⟨bx, ox, cx, rfl, _, rx⟩ := hy.sl (by omega)
      have m1 : Nat.blt i st.length = true := bltT hlt
      have k1 := rx i hlt
      rw [List.drop_eq_getElem_cons hlt] at hres
      unfold nextGo at hres
      by_cases g1 : left > 0
      · have g2 : ¬ left < 0 := by omega
        by_cases s1 : st[i] > 0
        · right
          rw [if_pos ⟨decide_eq_true g1, s1⟩] at hres
          simp only [enter_eq, ev_seq, seqK_norm, seqK_exit, seqK_ret, ev_reg, ev_cond, condK_true, condK_false, ev_block, blockK_norm, blockK_ret, blockK_exit, ev_loop, ev_skip, ev_exit, ev_ret, regK_cons, regK_nil, guard_none, guard_some, regG_true, regG_false, regO_some, op_mov, op_conv, op_bin, op_bsl, op_box, op_mks, op_s2b, op_pick, op_un, op_eq, op_len, op_ext, op_load, op_iaddr, op_slice, op_b2s, op_idxS, op_mx, op_mn, op_call, op_store, op_app, op_copy, args_eq, result_one', rv_loc, finish_norm, finish_ret, outK_some, keep_true, keep_false, keep_nil, p_bin, p_pick, p_un, p_eq, p_conv, evNew, pureK_some, newK_some, X.eval, set_none, set_some, List.map_cons, List.map_nil, List.getD_cons_zero, List.getD_cons_succ, List.getD_nil, List.set_cons_zero, List.set_cons_succ, binCV, unCV, isShift, intArithF_eq, shiftF_eq, wrapF_eq, intArith, shift, eqVal, bound, asNat_cast, cond_true, cond_false, BEq.rfl, beq_self_eq_true, evalParts, fillParts, AV.cells, AV.ofCells, XV.av, AV.xv, List.length_cons, List.length_nil, zeros, patch, setMany, List.nil_append, List.cons_append, Nat.ble, Nat.add_eq, Nat.zero_add, Nat.add_zero, Nat.reduceAdd, Nat.reduceMul, Nat.reduceSub, Nat.ble_eq, Nat.reduceLeDiff, Nat.reduceBEq, Int.reduceBEq, Int.reduceNeg, Bool.and_true, Bool.and_false, Bool.true_and, Bool.false_and, Bool.not_true, Bool.not_false, Bool.true_eq_false, Bool.false_eq_true, Int.reduceLT, Int.reduceLE, Int.reduceGT, Int.reduceGE, decide_true, decide_false, Bool.not_eq_true, loopN_norm, loopN_exit, tf, ft, ff, v1, v2, p_iaddr, p_load, m1, Nat.mul_one, k1, decide_eq_true g1, decide_eq_true s1]
          exact ⟨_, rfl, by simp, .inr ⟨_, _, _, by rw [← hres]⟩⟩
        · left
          refine ⟨hlt, ?_⟩
          rw [if_neg (fun e => s1 e.2), if_neg (fun e => absurd e.1 (by simp; omega))] at hres
          simp only [enter_eq, ev_seq, seqK_norm, seqK_exit, seqK_ret, ev_reg, ev_cond, condK_true, condK_false, ev_block, blockK_norm, blockK_ret, blockK_exit, ev_loop, ev_skip, ev_exit, ev_ret, regK_cons, regK_nil, guard_none, guard_some, regG_true, regG_false, regO_some, op_mov, op_conv, op_bin, op_bsl, op_box, op_mks, op_s2b, op_pick, op_un, op_eq, op_len, op_ext, op_load, op_iaddr, op_slice, op_b2s, op_idxS, op_mx, op_mn, op_call, op_store, op_app, op_copy, args_eq, result_one', rv_loc, finish_norm, finish_ret, outK_some, keep_true, keep_false, keep_nil, p_bin, p_pick, p_un, p_eq, p_conv, evNew, pureK_some, newK_some, X.eval, set_none, set_some, List.map_cons, List.map_nil, List.getD_cons_zero, List.getD_cons_succ, List.getD_nil, List.set_cons_zero, List.set_cons_succ, binCV, unCV, isShift, intArithF_eq, shiftF_eq, wrapF_eq, intArith, shift, eqVal, bound, asNat_cast, cond_true, cond_false, BEq.rfl, beq_self_eq_true, evalParts, fillParts, AV.cells, AV.ofCells, XV.av, AV.xv, List.length_cons, List.length_nil, zeros, patch, setMany, List.nil_append, List.cons_append, Nat.ble, Nat.add_eq, Nat.zero_add, Nat.add_zero, Nat.reduceAdd, Nat.reduceMul, Nat.reduceSub, Nat.ble_eq, Nat.reduceLeDiff, Nat.reduceBEq, Int.reduceBEq, Int.reduceNeg, Bool.and_true, Bool.and_false, Bool.true_and, Bool.false_and, Bool.not_true, Bool.not_false, Bool.true_eq_false, Bool.false_eq_true, Int.reduceLT, Int.reduceLE, Int.reduceGT, Int.reduceGE, decide_true, decide_false, Bool.not_eq_true, loopN_norm, loopN_exit, tf, ft, ff, v1, v2, p_iaddr, p_load, m1, Nat.mul_one, k1, decide_eq_true g1, decide_eq_false s1, decide_eq_false g2]
          exact ⟨_, _, rfl, rfl, by simpa only [decide_eq_true g1, decide_eq_false g2] using hres, rfl⟩
      · by_cases g2 : left < 0
        · by_cases s1 : st[i] < 0
          · right
            rw [if_neg (fun e => absurd e.1 (by simp; omega)), if_pos ⟨decide_eq_true g2, s1⟩] at hres
            simp only [enter_eq, ev_seq, seqK_norm, seqK_exit, seqK_ret, ev_reg, ev_cond, condK_true, condK_false, ev_block, blockK_norm, blockK_ret, blockK_exit, ev_loop, ev_skip, ev_exit, ev_ret, regK_cons, regK_nil, guard_none, guard_some, regG_true, regG_false, regO_some, op_mov, op_conv, op_bin, op_bsl, op_box, op_mks, op_s2b, op_pick, op_un, op_eq, op_len, op_ext, op_load, op_iaddr, op_slice, op_b2s, op_idxS, op_mx, op_mn, op_call, op_store, op_app, op_copy, args_eq, result_one', rv_loc, finish_norm, finish_ret, outK_some, keep_true, keep_false, keep_nil, p_bin, p_pick, p_un, p_eq, p_conv, evNew, pureK_some, newK_some, X.eval, set_none, set_some, List.map_cons, List.map_nil, List.getD_cons_zero, List.getD_cons_succ, List.getD_nil, List.set_cons_zero, List.set_cons_succ, binCV, unCV, isShift, intArithF_eq, shiftF_eq, wrapF_eq, intArith, shift, eqVal, bound, asNat_cast, cond_true, cond_false, BEq.rfl, beq_self_eq_true, evalParts, fillParts, AV.cells, AV.ofCells, XV.av, AV.xv, List.length_cons, List.length_nil, zeros, patch, setMany, List.nil_append, List.cons_append, Nat.ble, Nat.add_eq, Nat.zero_add, Nat.add_zero, Nat.reduceAdd, Nat.reduceMul, Nat.reduceSub, Nat.ble_eq, Nat.reduceLeDiff, Nat.reduceBEq, Int.reduceBEq, Int.reduceNeg, Bool.and_true, Bool.and_false, Bool.true_and, Bool.false_and, Bool.not_true, Bool.not_false, Bool.true_eq_false, Bool.false_eq_true, Int.reduceLT, Int.reduceLE, Int.reduceGT, Int.reduceGE, decide_true, decide_false, Bool.not_eq_true, loopN_norm, loopN_exit, tf, ft, ff, v1, v2, p_iaddr, p_load, m1, Nat.mul_one, k1, decide_eq_false g1, decide_eq_true g2, decide_eq_true s1]
            exact ⟨_, rfl, by simp, .inr ⟨_, _, _, by rw [← hres]⟩⟩
          · left
            refine ⟨hlt, ?_⟩
            rw [if_neg (fun e => absurd e.1 (by simp; omega)), if_neg (fun e => s1 e.2)] at hres
            simp only [enter_eq, ev_seq, seqK_norm, seqK_exit, seqK_ret, ev_reg, ev_cond, condK_true, condK_false, ev_block, blockK_norm, blockK_ret, blockK_exit, ev_loop, ev_skip, ev_exit, ev_ret, regK_cons, regK_nil, guard_none, guard_some, regG_true, regG_false, regO_some, op_mov, op_conv, op_bin, op_bsl, op_box, op_mks, op_s2b, op_pick, op_un, op_eq, op_len, op_ext, op_load, op_iaddr, op_slice, op_b2s, op_idxS, op_mx, op_mn, op_call, op_store, op_app, op_copy, args_eq, result_one', rv_loc, finish_norm, finish_ret, outK_some, keep_true, keep_false, keep_nil, p_bin, p_pick, p_un, p_eq, p_conv, evNew, pureK_some, newK_some, X.eval, set_none, set_some, List.map_cons, List.map_nil, List.getD_cons_zero, List.getD_cons_succ, List.getD_nil, List.set_cons_zero, List.set_cons_succ, binCV, unCV, isShift, intArithF_eq, shiftF_eq, wrapF_eq, intArith, shift, eqVal, bound, asNat_cast, cond_true, cond_false, BEq.rfl, beq_self_eq_true, evalParts, fillParts, AV.cells, AV.ofCells, XV.av, AV.xv, List.length_cons, List.length_nil, zeros, patch, setMany, List.nil_append, List.cons_append, Nat.ble, Nat.add_eq, Nat.zero_add, Nat.add_zero, Nat.reduceAdd, Nat.reduceMul, Nat.reduceSub, Nat.ble_eq, Nat.reduceLeDiff, Nat.reduceBEq, Int.reduceBEq, Int.reduceNeg, Bool.and_true, Bool.and_false, Bool.true_and, Bool.false_and, Bool.not_true, Bool.not_false, Bool.true_eq_false, Bool.false_eq_true, Int.reduceLT, Int.reduceLE, Int.reduceGT, Int.reduceGE, decide_true, decide_false, Bool.not_eq_true, loopN_norm, loopN_exit, tf, ft, ff, v1, v2, p_iaddr, p_load, m1, Nat.mul_one, k1, decide_eq_false g1, decide_eq_true g2, decide_eq_false s1]
            exact ⟨_, _, rfl, rfl, by simpa only [decide_eq_false g1, decide_eq_true g2] using hres, rfl⟩
        · left
          refine ⟨hlt, ?_⟩
          rw [if_neg (fun e => absurd e.1 (by simp; omega)), if_neg (fun e => absurd e.1 (by simp; omega))] at hres
          simp only [enter_eq, ev_seq, seqK_norm, seqK_exit, seqK_ret, ev_reg, ev_cond, condK_true, condK_false, ev_block, blockK_norm, blockK_ret, blockK_exit, ev_loop, ev_skip, ev_exit, ev_ret, regK_cons, regK_nil, guard_none, guard_some, regG_true, regG_false, regO_some, op_mov, op_conv, op_bin, op_bsl, op_box, op_mks, op_s2b, op_pick, op_un, op_eq, op_len, op_ext, op_load, op_iaddr, op_slice, op_b2s, op_idxS, op_mx, op_mn, op_call, op_store, op_app, op_copy, args_eq, result_one', rv_loc, finish_norm, finish_ret, outK_some, keep_true, keep_false, keep_nil, p_bin, p_pick, p_un, p_eq, p_conv, evNew, pureK_some, newK_some, X.eval, set_none, set_some, List.map_cons, List.map_nil, List.getD_cons_zero, List.getD_cons_succ, List.getD_nil, List.set_cons_zero, List.set_cons_succ, binCV, unCV, isShift, intArithF_eq, shiftF_eq, wrapF_eq, intArith, shift, eqVal, bound, asNat_cast, cond_true, cond_false, BEq.rfl, beq_self_eq_true, evalParts, fillParts, AV.cells, AV.ofCells, XV.av, AV.xv, List.length_cons, List.length_nil, zeros, patch, setMany, List.nil_append, List.cons_append, Nat.ble, Nat.add_eq, Nat.zero_add, Nat.add_zero, Nat.reduceAdd, Nat.reduceMul, Nat.reduceSub, Nat.ble_eq, Nat.reduceLeDiff, Nat.reduceBEq, Int.reduceBEq, Int.reduceNeg, Bool.and_true, Bool.and_false, Bool.true_and, Bool.false_and, Bool.not_true, Bool.not_false, Bool.true_eq_false, Bool.false_eq_true, Int.reduceLT, Int.reduceLE, Int.reduceGT, Int.reduceGE, decide_true, decide_false, Bool.not_eq_true, loopN_norm, loopN_exit, tf, ft, ff, v1, v2, p_iaddr, p_load, m1, Nat.mul_one, k1, decide_eq_false g1, decide_eq_false g2]
          exact ⟨_, _, rfl, rfl, by simpa only [decide_eq_false g1, decide_eq_false g2] using hres, rfl⟩
    · right
      have hin : i = st.length := by omega
      subst hin
      have v1 : decide ((st.length : Int) < (st.length : Int)) = false := geNat (Nat.le_refl _)
      rw [List.drop_length] at hres
      simp only [enter_eq, ev_seq, seqK_norm, seqK_exit, seqK_ret, ev_reg, ev_cond, condK_true, condK_false, ev_block, blockK_norm, blockK_ret, blockK_exit, ev_loop, ev_skip, ev_exit, ev_ret, regK_cons, regK_nil, guard_none, guard_some, regG_true, regG_false, regO_some, op_mov, op_conv, op_bin, op_bsl, op_box, op_mks, op_s2b, op_pick, op_un, op_eq, op_len, op_ext, op_load, op_iaddr, op_slice, op_b2s, op_idxS, op_mx, op_mn, op_call, op_store, op_app, op_copy, args_eq, result_one', rv_loc, finish_norm, finish_ret, outK_some, keep_true, keep_false, keep_nil, p_bin, p_pick, p_un, p_eq, p_conv, evNew, pureK_some, newK_some, X.eval, set_none, set_some, List.map_cons, List.map_nil, List.getD_cons_zero, List.getD_cons_succ, List.getD_nil, List.set_cons_zero, List.set_cons_succ, binCV, unCV, isShift, intArithF_eq, shiftF_eq, wrapF_eq, intArith, shift, eqVal, bound, asNat_cast, cond_true, cond_false, BEq.rfl, beq_self_eq_true, evalParts, fillParts, AV.cells, AV.ofCells, XV.av, AV.xv, List.length_cons, List.length_nil, zeros, patch, setMany, List.nil_append, List.cons_append, Nat.ble, Nat.add_eq, Nat.zero_add, Nat.add_zero, Nat.reduceAdd, Nat.reduceMul, Nat.reduceSub, Nat.ble_eq, Nat.reduceLeDiff, Nat.reduceBEq, Int.reduceBEq, Int.reduceNeg, Bool.and_true, Bool.and_false, Bool.true_and, Bool.false_and, Bool.not_true, Bool.not_false, Bool.true_eq_false, Bool.false_eq_true, Int.reduceLT, Int.reduceLE, Int.reduceGT, Int.reduceGE, decide_true, decide_false, Bool.not_eq_true, loopN_norm, loopN_exit, tf, ft, ff, v1]
      exact ⟨_, rfl, by simp, .inl ⟨hres.symm, _, _, _, _, _, rfl⟩⟩
  obtain ⟨r, hr0, ⟨hn0, a0, a1, a2, a3, l, rfl⟩ | ⟨a0, a1, l, rfl⟩⟩ := L0 [.junk, .junk, .junk, .junk, .c y, .c (.int .i64 left), a6, a7, a8, .c x, .c (.int .i64 (hv.length : Int)), a11, a12, a13, .c y, .c (.int .i64 (st.length : Int)), .c (.int .i64 0), .junk, .junk, .junk] rfl
  · simp only [enter_eq, ev_seq, seqK_norm, seqK_exit, seqK_ret, ev_reg, ev_cond, condK_true, condK_false, ev_block, blockK_norm, blockK_ret, blockK_exit, ev_loop, ev_skip, ev_exit, ev_ret, regK_cons, regK_nil, guard_none, guard_some, regG_true, regG_false, regO_some, op_mov, op_conv, op_bin, op_bsl, op_box, op_mks, op_s2b, op_pick, op_un, op_eq, op_len, op_ext, op_load, op_iaddr, op_slice, op_b2s, op_idxS, op_mx, op_mn, op_call, op_store, op_app, op_copy, args_eq, result_one', rv_loc, finish_norm, finish_ret, outK_some, keep_true, keep_false, keep_nil, p_bin, p_pick, p_un, p_eq, p_conv, evNew, pureK_some, newK_some, X.eval, set_none, set_some, List.map_cons, List.map_nil, List.getD_cons_zero, List.getD_cons_succ, List.getD_nil, List.set_cons_zero, List.set_cons_succ, binCV, unCV, isShift, intArithF_eq, shiftF_eq, wrapF_eq, intArith, shift, eqVal, bound, asNat_cast, cond_true, cond_false, BEq.rfl, beq_self_eq_true, evalParts, fillParts, AV.cells, AV.ofCells, XV.av, AV.xv, List.length_cons, List.length_nil, zeros, patch, setMany, List.nil_append, List.cons_append, Nat.ble, Nat.add_eq, Nat.zero_add, Nat.add_zero, Nat.reduceAdd, Nat.reduceMul, Nat.reduceSub, Nat.ble_eq, Nat.reduceLeDiff, Nat.reduceBEq, Int.reduceBEq, Int.reduceNeg, Bool.and_true, Bool.and_false, Bool.true_and, Bool.false_and, Bool.not_true, Bool.not_false, Bool.true_eq_false, Bool.false_eq_true, Int.reduceLT, Int.reduceLE, Int.reduceGT, Int.reduceGE, decide_true, decide_false, Bool.not_eq_true, loopN_norm, loopN_exit, tf, ft, ff, lx, ly, e1, hr, hr0, blockK_exit_eq, result, evResults, hn0]
    exact ⟨_, rfl, x1⟩
  · simp only [enter_eq, ev_seq, seqK_norm, seqK_exit, seqK_ret, ev_reg, ev_cond, condK_true, condK_false, ev_block, blockK_norm, blockK_ret, blockK_exit, ev_loop, ev_skip, ev_exit, ev_ret, regK_cons, regK_nil, guard_none, guard_some, regG_true, regG_false, regO_some, op_mov, op_conv, op_bin, op_bsl, op_box, op_mks, op_s2b, op_pick, op_un, op_eq, op_len, op_ext, op_load, op_iaddr, op_slice, op_b2s, op_idxS, op_mx, op_mn, op_call, op_store, op_app, op_copy, args_eq, result_one', rv_loc, finish_norm, finish_ret, outK_some, keep_true, keep_false, keep_nil, p_bin, p_pick, p_un, p_eq, p_conv, evNew, pureK_some, newK_some, X.eval, set_none, set_some, List.map_cons, List.map_nil, List.getD_cons_zero, List.getD_cons_succ, List.getD_nil, List.set_cons_zero, List.set_cons_succ, binCV, unCV, isShift, intArithF_eq, shiftF_eq, wrapF_eq, intArith, shift, eqVal, bound, asNat_cast, cond_true, cond_false, BEq.rfl, beq_self_eq_true, evalParts, fillParts, AV.cells, AV.ofCells, XV.av, AV.xv, List.length_cons, List.length_nil, zeros, patch, setMany, List.nil_append, List.cons_append, Nat.ble, Nat.add_eq, Nat.zero_add, Nat.add_zero, Nat.reduceAdd, Nat.reduceMul, Nat.reduceSub, Nat.ble_eq, Nat.reduceLeDiff, Nat.reduceBEq, Int.reduceBEq, Int.reduceNeg, Bool.and_true, Bool.and_false, Bool.true_and, Bool.false_and, Bool.not_true, Bool.not_false, Bool.true_eq_false, Bool.false_eq_true, Int.reduceLT, Int.reduceLE, Int.reduceGT, Int.reduceGE, decide_true, decide_false, Bool.not_eq_true, loopN_norm, loopN_exit, tf, ft, ff, lx, ly, e1, hr, hr0, blockK_exit_eq, blockK_ret, result, evResults]
    exact ⟨_, rfl, x1⟩

theorem rnext_ok {x : CV} {hv : List Int} (n : Int) {h : Heap} (hx : Ints h x hv) (hw : Wf hv) (hN : 20 ≤ N) (hn : hv.length ≤ 8) :
    ∃ h', evCallT table 14 N (d + 5) 16 [.c x, .c (.int .i64 n)] h = some (.tup [.c (.int .i64 (nextL hv n).1), .c (.int .i64 (nextL hv n).2)], h') ∧ Ext h h' := by
  obtain ⟨y, h1, e1, my, x1⟩ := rsteps_ok (N := N) (d := d) n hx hw hN hn
  have hx1 := hx.ext x1
  have hy := my.ints
  have ly : ∀ (loc vals : List AV) (h : Heap), evPure loc (.c y :: vals) h (.len .sl (.val 0)) = some (.c (.int .i64 ((stepsL hv n).length : Int))) := fun _ _ _ => my.len rfl
  rw [evCallT_eq (F := ir16) rfl rfl rfl]
  unfold ir16
  rw [bodyK_eq]
  have hlen : (stepsL hv n).length ≤ hv.length ∧ (Fit hv n → (stepsL hv n).length = hv.length) := by
    by_cases f : Fit hv n
    · exact ⟨Nat.le_of_eq f.inv.2.2.2, fun f => f.inv.2.2.2⟩
    · have e : stepsL hv n = [] := Classical.not_not.1 f
      exact ⟨by rw [e]; simp, fun g => absurd g f⟩
  have L1 : ∀ loc, keepOnly ir16_k1 loc = [.c x, .c (.int .i64 n), .junk, .junk, .c y, .c (.int .i64 0), .c (.int .i64 0), .junk, .junk, .junk, .junk, .junk] →
      ∃ r, loopK (evCallT table 14 N (d + 4)) N ir16_k1 ir16_l1 N loc h1 = some r ∧ ∃ (sum : Int), (Fit hv n → sum = psum hv) ∧ ∃ a6 a8, r = (.exit 0, [.c x, .c (.int .i64 n), .junk, .junk, .c y, .c (.int .i64 sum), a6, .junk, a8, .junk, .junk, .junk], h1) := by
    intro loc hloc
    refine loop_inv (n := (stepsL hv n).length) (fun i loc h' => h' = h1 ∧ ∃ sum : Int, (Fit hv n → sum = psum (hv.take i) ∧ sum ≤ 33 * i) ∧ loc = [.c x, .c (.int .i64 n), .junk, .junk, .c y, .c (.int .i64 sum), .c (.int .i64 (i : Int)), .junk, .junk, .junk, .junk, .junk]) _ ?_ ⟨rfl, 0, fun f => ⟨by simp [psum], by omega⟩, hloc⟩ (by omega)
    rintro i loc h' hi ⟨rfl, sum, hsum, rfl⟩
    unfold ir16_l1
    by_cases hlt : i < (stepsL hv n).length
    · left
      refine ⟨hlt, ?_⟩
      have v1 : decide ((i : Int) < ((stepsL hv n).length : Int)) = true := ltNat hlt
      have v2 := succI (i := i) (by omega)
      obtain ⟨bx, ox, cx, rfl, _, rx⟩ := hx1.sl (by omega)
      have m1 : Nat.blt i hv.length = true := bltT (by omega)
      have k1 := rx i (by omega)
      simp only [enter_eq, ev_seq, seqK_norm, seqK_exit, seqK_ret, ev_reg, ev_cond, condK_true, condK_false, ev_block, blockK_norm, blockK_ret, blockK_exit, ev_loop, ev_skip, ev_exit, ev_ret, regK_cons, regK_nil, guard_none, guard_some, regG_true, regG_false, regO_some, op_mov, op_conv, op_bin, op_bsl, op_box, op_mks, op_s2b, op_pick, op_un, op_eq, op_len, op_ext, op_load, op_iaddr, op_slice, op_b2s, op_idxS, op_mx, op_mn, op_call, op_store, op_app, op_copy, args_eq, result_one', rv_loc, finish_norm, finish_ret, outK_some, keep_true, keep_false, keep_nil, p_bin, p_pick, p_un, p_eq, p_conv, evNew, pureK_some, newK_some, X.eval, set_none, set_some, List.map_cons, List.map_nil, List.getD_cons_zero, List.getD_cons_succ, List.getD_nil, List.set_cons_zero, List.set_cons_succ, binCV, unCV, isShift, intArithF_eq, shiftF_eq, wrapF_eq, intArith, shift, eqVal, bound, asNat_cast, cond_true, cond_false, BEq.rfl, beq_self_eq_true, evalParts, fillParts, AV.cells, AV.ofCells, XV.av, AV.xv, List.length_cons, List.length_nil, zeros, patch, setMany, List.nil_append, List.cons_append, Nat.ble, Nat.add_eq, Nat.zero_add, Nat.add_zero, Nat.reduceAdd, Nat.reduceMul, Nat.reduceSub, Nat.ble_eq, Nat.reduceLeDiff, Nat.reduceBEq, Int.reduceBEq, Int.reduceNeg, Bool.and_true, Bool.and_false, Bool.true_and, Bool.false_and, Bool.not_true, Bool.not_false, Bool.true_eq_false, Bool.false_eq_true, Int.reduceLT, Int.reduceLE, Int.reduceGT, Int.reduceGE, decide_true, decide_false, Bool.not_eq_true, loopN_norm, loopN_exit, tf, ft, ff, ly, v1, v2, p_iaddr, p_load, m1, Nat.mul_one, k1, p_mn, foldInt, m33_if]
      refine ⟨_, _, rfl, rfl, _, fun f => ?_, rfl⟩
      obtain ⟨e, hle⟩ := hsum f
      obtain ⟨f1, f2, f3, _⟩ := f.inv
      have hm := m33_bounds (hv[i]'(by omega))
      have := hm.2 (f1 _ (List.getElem_mem _))
      have hp := psum_pos (hv := hv.take i) fun v hv' => f1 v (List.mem_of_mem_take hv')
      rw [psum_take (by omega), wrapI (by omega) (by omega)]
      exact ⟨by omega, by omega⟩
    · right
      have hin : i = (stepsL hv n).length := by omega
      subst hin
      have v1 : decide (((stepsL hv n).length : Int) < ((stepsL hv n).length : Int)) = false := geNat (Nat.le_refl _)
      simp only [enter_eq, ev_seq, seqK_norm, seqK_exit, seqK_ret, ev_reg, ev_cond, condK_true, condK_false, ev_block, blockK_norm, blockK_ret, blockK_exit, ev_loop, ev_skip, ev_exit, ev_ret, regK_cons, regK_nil, guard_none, guard_some, regG_true, regG_false, regO_some, op_mov, op_conv, op_bin, op_bsl, op_box, op_mks, op_s2b, op_pick, op_un, op_eq, op_len, op_ext, op_load, op_iaddr, op_slice, op_b2s, op_idxS, op_mx, op_mn, op_call, op_store, op_app, op_copy, args_eq, result_one', rv_loc, finish_norm, finish_ret, outK_some, keep_true, keep_false, keep_nil, p_bin, p_pick, p_un, p_eq, p_conv, evNew, pureK_some, newK_some, X.eval, set_none, set_some, List.map_cons, List.map_nil, List.getD_cons_zero, List.getD_cons_succ, List.getD_nil, List.set_cons_zero, List.set_cons_succ, binCV, unCV, isShift, intArithF_eq, shiftF_eq, wrapF_eq, intArith, shift, eqVal, bound, asNat_cast, cond_true, cond_false, BEq.rfl, beq_self_eq_true, evalParts, fillParts, AV.cells, AV.ofCells, XV.av, AV.xv, List.length_cons, List.length_nil, zeros, patch, setMany, List.nil_append, List.cons_append, Nat.ble, Nat.add_eq, Nat.zero_add, Nat.add_zero, Nat.reduceAdd, Nat.reduceMul, Nat.reduceSub, Nat.ble_eq, Nat.reduceLeDiff, Nat.reduceBEq, Int.reduceBEq, Int.reduceNeg, Bool.and_true, Bool.and_false, Bool.true_and, Bool.false_and, Bool.not_true, Bool.not_false, Bool.true_eq_false, Bool.false_eq_true, Int.reduceLT, Int.reduceLE, Int.reduceGT, Int.reduceGE, decide_true, decide_false, Bool.not_eq_true, loopN_norm, loopN_exit, tf, ft, ff, ly, v1]
      refine ⟨_, rfl, by simp, sum, fun f => ?_, _, _, rfl⟩
      obtain ⟨e, hle⟩ := hsum f
      rw [hlen.2 f, List.take_length] at e
      exact e
  obtain ⟨r, hr, sum, hfit, a6, a8, rfl⟩ := L1 [.c x, .c (.int .i64 n), .c (.int .i64 0), .c (.int .i64 0), .c y, .c (.int .i64 0), .c (.int .i64 0), .tup [], .tup [], .tup [], .tup [], .tup []] rfl
  have hgo : nextGo (decide (sum < n)) (decide (sum > n)) 0 (stepsL hv n) = nextL hv n := by
    unfold nextL
    by_cases f : Fit hv n
    · rw [hfit f]
    · have : stepsL hv n = [] := Classical.not_not.1 f
      rw [this]; rfl
  generalize hst : stepsL hv n = st at *
  have L0 : ∀ loc, keepOnly ir16_k0 loc = [.junk, .c (.int .i64 n), .junk, .junk, .c y, .c (.int .i64 sum), .junk, .c (.int .i64 0), .junk, .junk, .junk, .junk] →
      ∃ r, loopK (evCallT table 14 N (d + 4)) N ir16_k0 ir16_l0 N loc h1 = some r ∧ ((nextL hv n = (-1, 0) ∧ ∃ a0 a1 a2 a3 l, r = (.exit 2, a0 :: a1 :: a2 :: a3 :: l, h1)) ∨ ∃ a0 a1 l, r = (.ret, a0 :: a1 :: .c (.int .i64 (nextL hv n).1) :: .c (.int .i64 (nextL hv n).2) :: l, h1)) := by
    intro loc hloc
    refine loop_inv (n := st.length) (fun i loc h' => h' = h1 ∧ nextGo (decide (sum < n)) (decide (sum > n)) i (st.drop i) = nextL hv n ∧ loc = [.junk, .c (.int .i64 n), .junk, .junk, .c y, .c (.int .i64 sum), .junk, .c (.int .i64 (i : Int)), .junk, .junk, .junk, .junk]) _ ?_ ⟨rfl, hgo, hloc⟩ (by omega)
    rintro i loc h' hi ⟨rfl, hres, rfl⟩
    unfold ir16_l0
    by_cases hlt : i < st.length
    · have v1 : decide ((i : Int) < (st.length : Int)) = true := ltNat hlt
      have v2 := succI (i := i) (by omega)
      obtain ⟨bx, ox, cx, rfl, _, rx⟩ := hy.sl (by omega)
      have m1 : Nat.blt i st.length = true := bltT hlt
      have k1 := rx i hlt
      rw [List.drop_eq_getElem_cons hlt] at hres
      unfold nextGo at hres
      by_cases g1 : sum < n
      · have g2 : ¬ sum > n := by omega
        by_cases s1 : st[i] > 0
        · right
          rw [if_pos ⟨decide_eq_true g1, s1⟩] at hres
          simp only [enter_eq, ev_seq, seqK_norm, seqK_exit, seqK_ret, ev_reg, ev_cond, condK_true, condK_false, ev_block, blockK_norm, blockK_ret, blockK_exit, ev_loop, ev_skip, ev_exit, ev_ret, regK_cons, regK_nil, guard_none, guard_some, regG_true, regG_false, regO_some, op_mov, op_conv, op_bin, op_bsl, op_box, op_mks, op_s2b, op_pick, op_un, op_eq, op_len, op_ext, op_load, op_iaddr, op_slice, op_b2s, op_idxS, op_mx, op_mn, op_call, op_store, op_app, op_copy, args_eq, result_one', rv_loc, finish_norm, finish_ret, outK_some, keep_true, keep_false, keep_nil, p_bin, p_pick, p_un, p_eq, p_conv, evNew, pureK_some, newK_some, X.eval, set_none, set_some, List.map_cons, List.map_nil, List.getD_cons_zero, List.getD_cons_succ, List.getD_nil, List.set_cons_zero, List.set_cons_succ, binCV, unCV, isShift, intArithF_eq, shiftF_eq, wrapF_eq, intArith, shift, eqVal, bound, asNat_cast, cond_true, cond_false, BEq.rfl, beq_self_eq_true, evalParts, fillParts, AV.cells, AV.ofCells, XV.av, AV.xv, List.length_cons, List.length_nil, zeros, patch, setMany, List.nil_append, List.cons_append, Nat.ble, Nat.add_eq, Nat.zero_add, Nat.add_zero, Nat.reduceAdd, Nat.reduceMul, Nat.reduceSub, Nat.ble_eq, Nat.reduceLeDiff, Nat.reduceBEq, Int.reduceBEq, Int.reduceNeg, Bool.and_true, Bool.and_false, Bool.true_and, Bool.false_and, Bool.not_true, Bool.not_false, Bool.true_eq_false, Bool.false_eq_true, Int.reduceLT, Int.reduceLE, Int.reduceGT, Int.reduceGE, decide_true, decide_false, Bool.not_eq_true, loopN_norm, loopN_exit, tf, ft, ff, ly, v1, v2, p_iaddr, p_load, m1, Nat.mul_one, k1, decide_eq_true g1, decide_eq_true s1]
          exact ⟨_, rfl, by simp, .inr ⟨_, _, _, by rw [← hres]⟩⟩
        · left
          refine ⟨hlt, ?_⟩
          rw [if_neg (fun e => s1 e.2), if_neg (fun e => absurd e.1 (by simp; omega))] at hres
          simp only [enter_eq, ev_seq, seqK_norm, seqK_exit, seqK_ret, ev_reg, ev_cond, condK_true, condK_false, ev_block, blockK_norm, blockK_ret, blockK_exit, ev_loop, ev_skip, ev_exit, ev_ret, regK_cons, regK_nil, guard_none, guard_some, regG_true, regG_false, regO_some, op_mov, op_conv, op_bin, op_bsl, op_box, op_mks, op_s2b, op_pick, op_un, op_eq, op_len, op_ext, op_load, op_iaddr, op_slice, op_b2s, op_idxS, op_mx, op_mn, op_call, op_store, op_app, op_copy, args_eq, result_one', rv_loc, finish_norm, finish_ret, outK_some, keep_true, keep_false, keep_nil, p_bin, p_pick, p_un, p_eq, p_conv, evNew, pureK_some, newK_some, X.eval, set_none, set_some, List.map_cons, List.map_nil, List.getD_cons_zero, List.getD_cons_succ, List.getD_nil, List.set_cons_zero, List.set_cons_succ, binCV, unCV, isShift, intArithF_eq, shiftF_eq, wrapF_eq, intArith, shift, eqVal, bound, asNat_cast, cond_true, cond_false, BEq.rfl, beq_self_eq_true, evalParts, fillParts, AV.cells, AV.ofCells, XV.av, AV.xv, List.length_cons, List.length_nil, zeros, patch, setMany, List.nil_append, List.cons_append, Nat.ble, Nat.add_eq, Nat.zero_add, Nat.add_zero, Nat.reduceAdd, Nat.reduceMul, Nat.reduceSub, Nat.ble_eq, Nat.reduceLeDiff, Nat.reduceBEq, Int.reduceBEq, Int.reduceNeg, Bool.and_true, Bool.and_false, Bool.true_and, Bool.false_and, Bool.not_true, Bool.not_false, Bool.true_eq_false, Bool.false_eq_true, Int.reduceLT, Int.reduceLE, Int.reduceGT, Int.reduceGE, decide_true, decide_false, Bool.not_eq_true, loopN_norm, loopN_exit, tf, ft, ff, ly, v1, v2, p_iaddr, p_load, m1, Nat.mul_one, k1, decide_eq_true g1, decide_eq_false s1, decide_eq_false g2]
          exact ⟨_, _, rfl, rfl, by simpa only [decide_eq_true g1, decide_eq_false g2] using hres, rfl⟩
      · by_cases g2 : sum > n
        · by_cases s1 : st[i] < 0
          · right
            rw [if_neg (fun e => absurd e.1 (by simp; omega)), if_pos ⟨decide_eq_true g2, s1⟩] at hres
            simp only [enter_eq, ev_seq, seqK_norm, seqK_exit, seqK_ret, ev_reg, ev_cond, condK_true, condK_false, ev_block, blockK_norm, blockK_ret, blockK_exit, ev_loop, ev_skip, ev_exit, ev_ret, regK_cons, regK_nil, guard_none, guard_some, regG_true, regG_false, regO_some, op_mov, op_conv, op_bin, op_bsl, op_box, op_mks, op_s2b, op_pick, op_un, op_eq, op_len, op_ext, op_load, op_iaddr, op_slice, op_b2s, op_idxS, op_mx, op_mn, op_call, op_store, op_app, op_copy, args_eq, result_one', rv_loc, finish_norm, finish_ret, outK_some, keep_true, keep_false, keep_nil, p_bin, p_pick, p_un, p_eq, p_conv, evNew, pureK_some, newK_some, X.eval, set_none, set_some, List.map_cons, List.map_nil, List.getD_cons_zero, List.getD_cons_succ, List.getD_nil, List.set_cons_zero, List.set_cons_succ, binCV, unCV, isShift, intArithF_eq, shiftF_eq, wrapF_eq, intArith, shift, eqVal, bound, asNat_cast, cond_true, cond_false, BEq.rfl, beq_self_eq_true, evalParts, fillParts, AV.cells, AV.ofCells, XV.av, AV.xv, List.length_cons, List.length_nil, zeros, patch, setMany, List.nil_append, List.cons_append, Nat.ble, Nat.add_eq, Nat.zero_add, Nat.add_zero, Nat.reduceAdd, Nat.reduceMul, Nat.reduceSub, Nat.ble_eq, Nat.reduceLeDiff, Nat.reduceBEq, Int.reduceBEq, Int.reduceNeg, Bool.and_true, Bool.and_false, Bool.true_and, Bool.false_and, Bool.not_true, Bool.not_false, Bool.true_eq_false, Bool.false_eq_true, Int.reduceLT, Int.reduceLE, Int.reduceGT, Int.reduceGE, decide_true, decide_false, Bool.not_eq_true, loopN_norm, loopN_exit, tf, ft, ff, ly, v1, v2, p_iaddr, p_load, m1, Nat.mul_one, k1, decide_eq_false g1, decide_eq_true g2, decide_eq_true s1]
            exact ⟨_, rfl, by simp, .inr ⟨_, _, _, by rw [← hres]⟩⟩
          · left
            refine ⟨hlt, ?_⟩
            rw [if_neg (fun e => absurd e.1 (by simp; omega)), if_neg (fun e => s1 e.2)] at hres
            simp only [enter_eq, ev_seq, seqK_norm, seqK_exit, seqK_ret, ev_reg, ev_cond, condK_true, condK_false, ev_block, blockK_norm, blockK_ret, blockK_exit, ev_loop, ev_skip, ev_exit, ev_ret, regK_cons, regK_nil, guard_none, guard_some, regG_true, regG_false, regO_some, op_mov, op_conv, op_bin, op_bsl, op_box, op_mks, op_s2b, op_pick, op_un, op_eq, op_len, op_ext, op_load, op_iaddr, op_slice, op_b2s, op_idxS, op_mx, op_mn, op_call, op_store, op_app, op_copy, args_eq, result_one', rv_loc, finish_norm, finish_ret, outK_some, keep_true, keep_false, keep_nil, p_bin, p_pick, p_un, p_eq, p_conv, evNew, pureK_some, newK_some, X.eval, set_none, set_some, List.map_cons, List.map_nil, List.getD_cons_zero, List.getD_cons_succ, List.getD_nil, List.set_cons_zero, List.set_cons_succ, binCV, unCV, isShift, intArithF_eq, shiftF_eq, wrapF_eq, intArith, shift, eqVal, bound, asNat_cast, cond_true, cond_false, BEq.rfl, beq_self_eq_true, evalParts, fillParts, AV.cells, AV.ofCells, XV.av, AV.xv, List.length_cons, List.length_nil, zeros, patch, setMany, List.nil_append, List.cons_append, Nat.ble, Nat.add_eq, Nat.zero_add, Nat.add_zero, Nat.reduceAdd, Nat.reduceMul, Nat.reduceSub, Nat.ble_eq, Nat.reduceLeDiff, Nat.reduceBEq, Int.reduceBEq, Int.reduceNeg, Bool.and_true, Bool.and_false, Bool.true_and, Bool.false_and, Bool.not_true, Bool.not_false, Bool.true_eq_false, Bool.false_eq_true, Int.reduceLT, Int.reduceLE, Int.reduceGT, Int.reduceGE, decide_true, decide_false, Bool.not_eq_true, loopN_norm, loopN_exit, tf, ft, ff, ly, v1, v2, p_iaddr, p_load, m1, Nat.mul_one, k1, decide_eq_false g1, decide_eq_true g2, decide_eq_false s1]
            exact ⟨_, _, rfl, rfl, by simpa only [decide_eq_false g1, decide_eq_true g2] using hres, rfl⟩
        · left
          refine ⟨hlt, ?_⟩
          rw [if_neg (fun e => absurd e.1 (by simp; omega)), if_neg (fun e => absurd e.1 (by simp; omega))] at hres
          simp only [enter_eq, ev_seq, seqK_norm, seqK_exit, seqK_ret, ev_reg, ev_cond, condK_true, condK_false, ev_block, blockK_norm, blockK_ret, blockK_exit, ev_loop, ev_skip, ev_exit, ev_ret, regK_cons, regK_nil, guard_none, guard_some, regG_true, regG_false, regO_some, op_mov, op_conv, op_bin, op_bsl, op_box, op_mks, op_s2b, op_pick, op_un, op_eq, op_len, op_ext, op_load, op_iaddr, op_slice, op_b2s, op_idxS, op_mx, op_mn, op_call, op_store, op_app, op_copy, args_eq, result_one', rv_loc, finish_norm, finish_ret, outK_some, keep_true, keep_false, keep_nil, p_bin, p_pick, p_un, p_eq, p_conv, evNew, pureK_some, newK_some, X.eval, set_none, set_some, List.map_cons, List.map_nil, List.getD_cons_zero, List.getD_cons_succ, List.getD_nil, List.set_cons_zero, List.set_cons_succ, binCV, unCV, isShift, intArithF_eq, shiftF_eq, wrapF_eq, intArith, shift, eqVal, bound, asNat_cast, cond_true, cond_false, BEq.rfl, beq_self_eq_true, evalParts, fillParts, AV.cells, AV.ofCells, XV.av, AV.xv, List.length_cons, List.length_nil, zeros, patch, setMany, List.nil_append, List.cons_append, Nat.ble, Nat.add_eq, Nat.zero_add, Nat.add_zero, Nat.reduceAdd, Nat.reduceMul, Nat.reduceSub, Nat.ble_eq, Nat.reduceLeDiff, Nat.reduceBEq, Int.reduceBEq, Int.reduceNeg, Bool.and_true, Bool.and_false, Bool.true_and, Bool.false_and, Bool.not_true, Bool.not_false, Bool.true_eq_false, Bool.false_eq_true, Int.reduceLT, Int.reduceLE, Int.reduceGT, Int.reduceGE, decide_true, decide_false, Bool.not_eq_true, loopN_norm, loopN_exit, tf, ft, ff, ly, v1, v2, p_iaddr, p_load, m1, Nat.mul_one, k1, decide_eq_false g1, decide_eq_false g2]
          exact ⟨_, _, rfl, rfl, by simpa only [decide_eq_false g1, decide_eq_false g2] using hres, rfl⟩
    · right
      have hin : i = st.length := by omega
      subst hin
      have v1 : decide ((st.length : Int) < (st.length : Int)) = false := geNat (Nat.le_refl _)
      rw [List.drop_length] at hres
      simp only [enter_eq, ev_seq, seqK_norm, seqK_exit, seqK_ret, ev_reg, ev_cond, condK_true, condK_false, ev_block, blockK_norm, blockK_ret, blockK_exit, ev_loop, ev_skip, ev_exit, ev_ret, regK_cons, regK_nil, guard_none, guard_some, regG_true, regG_false, regO_some, op_mov, op_conv, op_bin, op_bsl, op_box, op_mks, op_s2b, op_pick, op_un, op_eq, op_len, op_ext, op_load, op_iaddr, op_slice, op_b2s, op_idxS, op_mx, op_mn, op_call, op_store, op_app, op_copy, args_eq, result_one', rv_loc, finish_norm, finish_ret, outK_some, keep_true, keep_false, keep_nil, p_bin, p_pick, p_un, p_eq, p_conv, evNew, pureK_some, newK_some, X.eval, set_none, set_some, List.map_cons, List.map_nil, List.getD_cons_zero, List.getD_cons_succ, List.getD_nil, List.set_cons_zero, List.set_cons_succ, binCV, unCV, isShift, intArithF_eq, shiftF_eq, wrapF_eq, intArith, shift, eqVal, bound, asNat_cast, cond_true, cond_false, BEq.rfl, beq_self_eq_true, evalParts, fillParts, AV.cells, AV.ofCells, XV.av, AV.xv, List.length_cons, List.length_nil, zeros, patch, setMany, List.nil_append, List.cons_append, Nat.ble, Nat.add_eq, Nat.zero_add, Nat.add_zero, Nat.reduceAdd, Nat.reduceMul, Nat.reduceSub, Nat.ble_eq, Nat.reduceLeDiff, Nat.reduceBEq, Int.reduceBEq, Int.reduceNeg, Bool.and_true, Bool.and_false, Bool.true_and, Bool.false_and, Bool.not_true, Bool.not_false, Bool.true_eq_false, Bool.false_eq_true, Int.reduceLT, Int.reduceLE, Int.reduceGT, Int.reduceGE, decide_true, decide_false, Bool.not_eq_true, loopN_norm, loopN_exit, tf, ft, ff, ly, v1]
      exact ⟨_, rfl, by simp, .inl ⟨hres.symm, _, _, _, _, _, rfl⟩⟩
  obtain ⟨r, hr0, ⟨hn0, a0, a1, a2, a3, l, rfl⟩ | ⟨a0, a1, l, rfl⟩⟩ := L0 [.c x, .c (.int .i64 n), .junk, .junk, .c y, .c (.int .i64 sum), a6, .c (.int .i64 0), a8, .junk, .junk, .junk] rfl
  · simp only [enter_eq, ev_seq, seqK_norm, seqK_exit, seqK_ret, ev_reg, ev_cond, condK_true, condK_false, ev_block, blockK_norm, blockK_ret, blockK_exit, ev_loop, ev_skip, ev_exit, ev_ret, regK_cons, regK_nil, guard_none, guard_some, regG_true, regG_false, regO_some, op_mov, op_conv, op_bin, op_bsl, op_box, op_mks, op_s2b, op_pick, op_un, op_eq, op_len, op_ext, op_load, op_iaddr, op_slice, op_b2s, op_idxS, op_mx, op_mn, op_call, op_store, op_app, op_copy, args_eq, result_one', rv_loc, finish_norm, finish_ret, outK_some, keep_true, keep_false, keep_nil, p_bin, p_pick, p_un, p_eq, p_conv, evNew, pureK_some, newK_some, X.eval, set_none, set_some, List.map_cons, List.map_nil, List.getD_cons_zero, List.getD_cons_succ, List.getD_nil, List.set_cons_zero, List.set_cons_succ, binCV, unCV, isShift, intArithF_eq, shiftF_eq, wrapF_eq, intArith, shift, eqVal, bound, asNat_cast, cond_true, cond_false, BEq.rfl, beq_self_eq_true, evalParts, fillParts, AV.cells, AV.ofCells, XV.av, AV.xv, List.length_cons, List.length_nil, zeros, patch, setMany, List.nil_append, List.cons_append, Nat.ble, Nat.add_eq, Nat.zero_add, Nat.add_zero, Nat.reduceAdd, Nat.reduceMul, Nat.reduceSub, Nat.ble_eq, Nat.reduceLeDiff, Nat.reduceBEq, Int.reduceBEq, Int.reduceNeg, Bool.and_true, Bool.and_false, Bool.true_and, Bool.false_and, Bool.not_true, Bool.not_false, Bool.true_eq_false, Bool.false_eq_true, Int.reduceLT, Int.reduceLE, Int.reduceGT, Int.reduceGE, decide_true, decide_false, Bool.not_eq_true, loopN_norm, loopN_exit, tf, ft, ff, e1, hr, hr0, blockK_exit_eq, result, evResults, hn0]
    exact ⟨_, rfl, x1⟩
  · simp only [enter_eq, ev_seq, seqK_norm, seqK_exit, seqK_ret, ev_reg, ev_cond, condK_true, condK_false, ev_block, blockK_norm, blockK_ret, blockK_exit, ev_loop, ev_skip, ev_exit, ev_ret, regK_cons, regK_nil, guard_none, guard_some, regG_true, regG_false, regO_some, op_mov, op_conv, op_bin, op_bsl, op_box, op_mks, op_s2b, op_pick, op_un, op_eq, op_len, op_ext, op_load, op_iaddr, op_slice, op_b2s, op_idxS, op_mx, op_mn, op_call, op_store, op_app, op_copy, args_eq, result_one', rv_loc, finish_norm, finish_ret, outK_some, keep_true, keep_false, keep_nil, p_bin, p_pick, p_un, p_eq, p_conv, evNew, pureK_some, newK_some, X.eval, set_none, set_some, List.map_cons, List.map_nil, List.getD_cons_zero, List.getD_cons_succ, List.getD_nil, List.set_cons_zero, List.set_cons_succ, binCV, unCV, isShift, intArithF_eq, shiftF_eq, wrapF_eq, intArith, shift, eqVal, bound, asNat_cast, cond_true, cond_false, BEq.rfl, beq_self_eq_true, evalParts, fillParts, AV.cells, AV.ofCells, XV.av, AV.xv, List.length_cons, List.length_nil, zeros, patch, setMany, List.nil_append, List.cons_append, Nat.ble, Nat.add_eq, Nat.zero_add, Nat.add_zero, Nat.reduceAdd, Nat.reduceMul, Nat.reduceSub, Nat.ble_eq, Nat.reduceLeDiff, Nat.reduceBEq, Int.reduceBEq, Int.reduceNeg, Bool.and_true, Bool.and_false, Bool.true_and, Bool.false_and, Bool.not_true, Bool.not_false, Bool.true_eq_false, Bool.false_eq_true, Int.reduceLT, Int.reduceLE, Int.reduceGT, Int.reduceGE, decide_true, decide_false, Bool.not_eq_true, loopN_norm, loopN_exit, tf, ft, ff, e1, hr, hr0, blockK_exit_eq, blockK_ret, result, evResults]
    exact ⟨_, rfl, x1⟩
end
end Lav
