/-
  Layer 10: the document's arena: finding, taking, setting, dropping, retiring.
-/
import Derived.Test.YtdilhnnbfkiacaaRar1
import Derived.Test.YtdilhnnbfkiacaaMix1
set_option maxRecDepth 100000
set_option linter.unusedSimpArgs false
namespace Lav
open Go (IntKind)

theorem findIdx_skip {fs : List Fm} {P : Fm → Bool} {i : Nat} (h : ∀ j (hj : j < fs.length), j < i → P fs[j] = false) : fs.findIdx? P = (match (fs.drop i).findIdx? P with | some k => some (i + k) | none => none) := by
  induction i generalizing fs with
  | zero => simp; cases fs.findIdx? P <;> simp
  | succ i ih =>
    cases fs with
    | nil => simp
    | cons a l =>
      have h0 : P a = false := h 0 (by simp) (by omega)
      rw [List.findIdx?_cons, h0]
      simp only [Bool.false_eq_true, if_false, List.drop_succ_cons]
      rw [ih (fun j hj hji => h (j + 1) (by simpa using hj) (by omega))]
      cases (l.drop i).findIdx? P with
      | none => rfl
      | some k => simp; omega
theorem findF_stop {fs : List Fm} {k : Int} {i : Nat} (hi : i < fs.length) (h1 : fs[i].st = 1) (h2 : fs[i].pg = k) (hb : ∀ j (hj : j < fs.length), j < i → ¬ (fs[j].st = 1 ∧ fs[j].pg = k)) : findF fs k = (i : Int) := by
  unfold findF
  have hk : (fs.drop i).findIdx? (fun f => f.st == 1 && f.pg == k) = some 0 := by
    rw [List.drop_eq_getElem_cons hi, List.findIdx?_cons]
    simp [h1, h2]
  rw [findIdx_skip (i := i) (fun j hj hji => by
    have := hb j hj hji
    simp only [Bool.and_eq_false_iff, beq_eq_false_iff_ne, ne_eq]
    by_cases h : fs[j].st = 1
    · exact .inr fun e => this ⟨h, e⟩
    · exact .inl h), hk]
  simp
theorem findF_none' {fs : List Fm} {k : Int} (hb : ∀ j (hj : j < fs.length), ¬ (fs[j].st = 1 ∧ fs[j].pg = k)) : findF fs k = -1 := by
  unfold findF
  rw [List.findIdx?_eq_none_iff.2 fun f hf => by
    obtain ⟨j, hj, rfl⟩ := List.getElem_of_mem hf
    have := hb j hj
    simp only [Bool.and_eq_false_iff, beq_eq_false_iff_ne, ne_eq]
    by_cases h : fs[j].st = 1
    · exact .inr fun e => this ⟨h, e⟩
    · exact .inl h]

section
variable {N d : Nat} {h : Heap} {p : Nat} {x y v : CV} {fs : List Fm} {o : List Int} {S : List (List Nat)}

theorem rfind_ok (A : RA h p x y v fs o S) (sm : fs.length ≤ 32) (g : Int) (hN : 100 ≤ N) : evCallT table 18 N (d + 1) 31 [.c (.ptr p 0), .c (.int .i64 g)] h = some (.c (.int .i64 (findF fs g)), h) := by
  have r0 := A.r0
  have lx := A.lx
  have L : ∀ loc, keepOnly ir31_k0 loc = [.c (.ptr p 0), .c (.int .i64 g), .junk, .c (.int .i64 0), .junk, .junk] →
      ∃ r, loopK (evCallT table 18 N d) N ir31_k0 ir31_l0 N loc h = some r ∧ ((∃ a0 a1 a2 a3 a4 a5, r = (.exit 0, [a0, a1, a2, a3, a4, a5], h) ∧ findF fs g = -1) ∨ ∃ a0 a1 a3 a4 a5, r = (.ret, [a0, a1, .c (.int .i64 (findF fs g)), a3, a4, a5], h)) := by
    intro loc hloc
    refine loop_inv (n := fs.length) (fun i loc G => G = h ∧ i ≤ fs.length ∧ (∀ j (hj : j < fs.length), j < i → ¬ (fs[j].st = 1 ∧ fs[j].pg = g)) ∧ loc = [.c (.ptr p 0), .c (.int .i64 g), .junk, .c (.int .i64 (i : Int)), .junk, .junk]) _ ?_ ⟨rfl, Nat.zero_le _, fun j _ h => by omega, hloc⟩ (by omega)
    rintro i loc G hi ⟨rfl, hin, hb, rfl⟩
    unfold ir31_l0
    by_cases hlt : i < fs.length
    · obtain ⟨fb, rfl, _, _, T⟩ := A.at_ hlt
      have v1 : decide ((i : Int) < (fs.length : Int)) = true := ltNat hlt
      have v2 := succI (i := i) (by omega)
      have m1 : Nat.blt i fs.length = true := bltT hlt
      have r1 := T.s
      have r2 := T.g
      by_cases h1 : fs[i].st = 1
      · rw [h1] at r1
        by_cases h2 : fs[i].pg = g
        · right
          rw [h2] at r2
          simp only [enter_eq, ev_seq, seqK_norm, seqK_exit, seqK_ret, ev_reg, ev_cond, condK_true, condK_false, ev_block, blockK_norm, blockK_ret, blockK_exit, ev_loop, ev_skip, ev_exit, ev_ret, regK_cons, regK_nil, guard_none, guard_some, regG_true, regG_false, regO_some, op_mov, op_conv, op_bin, op_bsl, op_box, op_mks, op_s2b, op_pick, op_un, op_eq, op_len, op_ext, op_load, op_iaddr, op_slice, op_b2s, op_idxS, op_mx, op_mn, op_call, op_store, op_app, op_copy, args_eq, result_one', rv_loc, finish_norm, finish_ret, outK_some, keep_true, keep_false, keep_nil, p_bin, p_pick, p_un, p_eq, p_conv, evNew, pureK_some, newK_some, X.eval, set_none, set_some, List.map_cons, List.map_nil, List.getD_cons_zero, List.getD_cons_succ, List.getD_nil, List.set_cons_zero, List.set_cons_succ, binCV, unCV, isShift, intArithF_eq, shiftF_eq, wrapF_eq, intArith, shift, eqVal, bound, asNat_cast, cond_true, cond_false, BEq.rfl, beq_self_eq_true, evalParts, fillParts, AV.cells, AV.ofCells, XV.av, AV.xv, List.length_cons, List.length_nil, zeros, patch, setMany, List.nil_append, List.cons_append, Nat.ble, Nat.add_eq, Nat.zero_add, Nat.add_zero, Nat.reduceAdd, Nat.reduceMul, Nat.reduceSub, Nat.ble_eq, Nat.reduceLeDiff, Nat.reduceBEq, Int.reduceBEq, Int.reduceNeg, Bool.and_true, Bool.and_false, Bool.true_and, Bool.false_and, Bool.not_true, Bool.not_false, Bool.true_eq_false, Bool.false_eq_true, Int.reduceLT, Int.reduceLE, Int.reduceGT, Int.reduceGE, decide_true, decide_false, Bool.not_eq_true, loopN_norm, loopN_exit, tf, ft, ff, op_nilchk, p_nilchk, op_faddr, p_faddr, p_load, r0, AV.ofCells, lx, v1, p_iaddr, m1, r1, r2, eqq]
          exact ⟨_, rfl, by simp, .inr ⟨_, _, _, _, _, by rw [findF_stop hlt h1 h2 hb]⟩⟩
        · left
          have u2 : (fs[i].pg == g) = false := by simp only [beq_eq_false_iff_ne, ne_eq]; exact h2
          refine ⟨hlt, ?_⟩
          simp only [enter_eq, ev_seq, seqK_norm, seqK_exit, seqK_ret, ev_reg, ev_cond, condK_true, condK_false, ev_block, blockK_norm, blockK_ret, blockK_exit, ev_loop, ev_skip, ev_exit, ev_ret, regK_cons, regK_nil, guard_none, guard_some, regG_true, regG_false, regO_some, op_mov, op_conv, op_bin, op_bsl, op_box, op_mks, op_s2b, op_pick, op_un, op_eq, op_len, op_ext, op_load, op_iaddr, op_slice, op_b2s, op_idxS, op_mx, op_mn, op_call, op_store, op_app, op_copy, args_eq, result_one', rv_loc, finish_norm, finish_ret, outK_some, keep_true, keep_false, keep_nil, p_bin, p_pick, p_un, p_eq, p_conv, evNew, pureK_some, newK_some, X.eval, set_none, set_some, List.map_cons, List.map_nil, List.getD_cons_zero, List.getD_cons_succ, List.getD_nil, List.set_cons_zero, List.set_cons_succ, binCV, unCV, isShift, intArithF_eq, shiftF_eq, wrapF_eq, intArith, shift, eqVal, bound, asNat_cast, cond_true, cond_false, BEq.rfl, beq_self_eq_true, evalParts, fillParts, AV.cells, AV.ofCells, XV.av, AV.xv, List.length_cons, List.length_nil, zeros, patch, setMany, List.nil_append, List.cons_append, Nat.ble, Nat.add_eq, Nat.zero_add, Nat.add_zero, Nat.reduceAdd, Nat.reduceMul, Nat.reduceSub, Nat.ble_eq, Nat.reduceLeDiff, Nat.reduceBEq, Int.reduceBEq, Int.reduceNeg, Bool.and_true, Bool.and_false, Bool.true_and, Bool.false_and, Bool.not_true, Bool.not_false, Bool.true_eq_false, Bool.false_eq_true, Int.reduceLT, Int.reduceLE, Int.reduceGT, Int.reduceGE, decide_true, decide_false, Bool.not_eq_true, loopN_norm, loopN_exit, tf, ft, ff, op_nilchk, p_nilchk, op_faddr, p_faddr, p_load, r0, AV.ofCells, lx, v1, v2, p_iaddr, m1, r1, r2, u2]
          refine ⟨_, _, rfl, rfl, by omega, fun j hj hji => ?_, rfl⟩
          by_cases e : j = i
          · subst e; exact fun h => h2 h.2
          · exact hb j hj (by omega)
      · left
        have u1 : (fs[i].st == 1) = false := by simp only [beq_eq_false_iff_ne, ne_eq]; exact h1
        refine ⟨hlt, ?_⟩
        simp only [enter_eq, ev_seq, seqK_norm, seqK_exit, seqK_ret, ev_reg, ev_cond, condK_true, condK_false, ev_block, blockK_norm, blockK_ret, blockK_exit, ev_loop, ev_skip, ev_exit, ev_ret, regK_cons, regK_nil, guard_none, guard_some, regG_true, regG_false, regO_some, op_mov, op_conv, op_bin, op_bsl, op_box, op_mks, op_s2b, op_pick, op_un, op_eq, op_len, op_ext, op_load, op_iaddr, op_slice, op_b2s, op_idxS, op_mx, op_mn, op_call, op_store, op_app, op_copy, args_eq, result_one', rv_loc, finish_norm, finish_ret, outK_some, keep_true, keep_false, keep_nil, p_bin, p_pick, p_un, p_eq, p_conv, evNew, pureK_some, newK_some, X.eval, set_none, set_some, List.map_cons, List.map_nil, List.getD_cons_zero, List.getD_cons_succ, List.getD_nil, List.set_cons_zero, List.set_cons_succ, binCV, unCV, isShift, intArithF_eq, shiftF_eq, wrapF_eq, intArith, shift, eqVal, bound, asNat_cast, cond_true, cond_false, BEq.rfl, beq_self_eq_true, evalParts, fillParts, AV.cells, AV.ofCells, XV.av, AV.xv, List.length_cons, List.length_nil, zeros, patch, setMany, List.nil_append, List.cons_append, Nat.ble, Nat.add_eq, Nat.zero_add, Nat.add_zero, Nat.reduceAdd, Nat.reduceMul, Nat.reduceSub, Nat.ble_eq, Nat.reduceLeDiff, Nat.reduceBEq, Int.reduceBEq, Int.reduceNeg, Bool.and_true, Bool.and_false, Bool.true_and, Bool.false_and, Bool.not_true, Bool.not_false, Bool.true_eq_false, Bool.false_eq_true, Int.reduceLT, Int.reduceLE, Int.reduceGT, Int.reduceGE, decide_true, decide_false, Bool.not_eq_true, loopN_norm, loopN_exit, tf, ft, ff, op_nilchk, p_nilchk, op_faddr, p_faddr, p_load, r0, AV.ofCells, lx, v1, v2, p_iaddr, m1, r1, u1]
        refine ⟨_, _, rfl, rfl, by omega, fun j hj hji => ?_, rfl⟩
        by_cases e : j = i
        · subst e; exact fun h => h1 h.1
        · exact hb j hj (by omega)
    · right
      have v1 : decide ((i : Int) < (fs.length : Int)) = false := geNat (by omega)
      simp only [enter_eq, ev_seq, seqK_norm, seqK_exit, seqK_ret, ev_reg, ev_cond, condK_true, condK_false, ev_block, blockK_norm, blockK_ret, blockK_exit, ev_loop, ev_skip, ev_exit, ev_ret, regK_cons, regK_nil, guard_none, guard_some, regG_true, regG_false, regO_some, op_mov, op_conv, op_bin, op_bsl, op_box, op_mks, op_s2b, op_pick, op_un, op_eq, op_len, op_ext, op_load, op_iaddr, op_slice, op_b2s, op_idxS, op_mx, op_mn, op_call, op_store, op_app, op_copy, args_eq, result_one', rv_loc, finish_norm, finish_ret, outK_some, keep_true, keep_false, keep_nil, p_bin, p_pick, p_un, p_eq, p_conv, evNew, pureK_some, newK_some, X.eval, set_none, set_some, List.map_cons, List.map_nil, List.getD_cons_zero, List.getD_cons_succ, List.getD_nil, List.set_cons_zero, List.set_cons_succ, binCV, unCV, isShift, intArithF_eq, shiftF_eq, wrapF_eq, intArith, shift, eqVal, bound, asNat_cast, cond_true, cond_false, BEq.rfl, beq_self_eq_true, evalParts, fillParts, AV.cells, AV.ofCells, XV.av, AV.xv, List.length_cons, List.length_nil, zeros, patch, setMany, List.nil_append, List.cons_append, Nat.ble, Nat.add_eq, Nat.zero_add, Nat.add_zero, Nat.reduceAdd, Nat.reduceMul, Nat.reduceSub, Nat.ble_eq, Nat.reduceLeDiff, Nat.reduceBEq, Int.reduceBEq, Int.reduceNeg, Bool.and_true, Bool.and_false, Bool.true_and, Bool.false_and, Bool.not_true, Bool.not_false, Bool.true_eq_false, Bool.false_eq_true, Int.reduceLT, Int.reduceLE, Int.reduceGT, Int.reduceGE, decide_true, decide_false, Bool.not_eq_true, loopN_norm, loopN_exit, tf, ft, ff, op_nilchk, p_nilchk, op_faddr, p_faddr, p_load, r0, AV.ofCells, lx, v1]
      exact ⟨_, rfl, by simp, .inl ⟨_, _, _, _, _, _, rfl, findF_none' fun j hj => hb j hj (by omega)⟩⟩
  obtain ⟨r, hp, hr⟩ := loop_any L rfl
  rw [evCallT_eq (F := ir31) rfl rfl rfl]
  unfold ir31
  rw [bodyK_eq]
  simp only [enter_eq, ev_seq, seqK_norm, seqK_exit, seqK_ret, ev_reg, ev_cond, condK_true, condK_false, ev_block, blockK_norm, blockK_ret, blockK_exit, ev_loop, ev_skip, ev_exit, ev_ret, regK_cons, regK_nil, guard_none, guard_some, regG_true, regG_false, regO_some, op_mov, op_conv, op_bin, op_bsl, op_box, op_mks, op_s2b, op_pick, op_un, op_eq, op_len, op_ext, op_load, op_iaddr, op_slice, op_b2s, op_idxS, op_mx, op_mn, op_call, op_store, op_app, op_copy, args_eq, result_one', rv_loc, finish_norm, finish_ret, outK_some, keep_true, keep_false, keep_nil, p_bin, p_pick, p_un, p_eq, p_conv, evNew, pureK_some, newK_some, X.eval, set_none, set_some, List.map_cons, List.map_nil, List.getD_cons_zero, List.getD_cons_succ, List.getD_nil, List.set_cons_zero, List.set_cons_succ, binCV, unCV, isShift, intArithF_eq, shiftF_eq, wrapF_eq, intArith, shift, eqVal, bound, asNat_cast, cond_true, cond_false, BEq.rfl, beq_self_eq_true, evalParts, fillParts, AV.cells, AV.ofCells, XV.av, AV.xv, List.length_cons, List.length_nil, zeros, patch, setMany, List.nil_append, List.cons_append, Nat.ble, Nat.add_eq, Nat.zero_add, Nat.add_zero, Nat.reduceAdd, Nat.reduceMul, Nat.reduceSub, Nat.ble_eq, Nat.reduceLeDiff, Nat.reduceBEq, Int.reduceBEq, Int.reduceNeg, Bool.and_true, Bool.and_false, Bool.true_and, Bool.false_and, Bool.not_true, Bool.not_false, Bool.true_eq_false, Bool.false_eq_true, Int.reduceLT, Int.reduceLE, Int.reduceGT, Int.reduceGE, decide_true, decide_false, Bool.not_eq_true, loopN_norm, loopN_exit, tf, ft, ff]
  rw [hr _ rfl]
  rcases hp with ⟨a0, a1, a2, a3, a4, a5, rfl, hf⟩ | ⟨a0, a1, a3, a4, a5, rfl⟩
  · rw [hf]
    simp only [enter_eq, ev_seq, seqK_norm, seqK_exit, seqK_ret, ev_reg, ev_cond, condK_true, condK_false, ev_block, blockK_norm, blockK_ret, blockK_exit, ev_loop, ev_skip, ev_exit, ev_ret, regK_cons, regK_nil, guard_none, guard_some, regG_true, regG_false, regO_some, op_mov, op_conv, op_bin, op_bsl, op_box, op_mks, op_s2b, op_pick, op_un, op_eq, op_len, op_ext, op_load, op_iaddr, op_slice, op_b2s, op_idxS, op_mx, op_mn, op_call, op_store, op_app, op_copy, args_eq, result_one', rv_loc, finish_norm, finish_ret, outK_some, keep_true, keep_false, keep_nil, p_bin, p_pick, p_un, p_eq, p_conv, evNew, pureK_some, newK_some, X.eval, set_none, set_some, List.map_cons, List.map_nil, List.getD_cons_zero, List.getD_cons_succ, List.getD_nil, List.set_cons_zero, List.set_cons_succ, binCV, unCV, isShift, intArithF_eq, shiftF_eq, wrapF_eq, intArith, shift, eqVal, bound, asNat_cast, cond_true, cond_false, BEq.rfl, beq_self_eq_true, evalParts, fillParts, AV.cells, AV.ofCells, XV.av, AV.xv, List.length_cons, List.length_nil, zeros, patch, setMany, List.nil_append, List.cons_append, Nat.ble, Nat.add_eq, Nat.zero_add, Nat.add_zero, Nat.reduceAdd, Nat.reduceMul, Nat.reduceSub, Nat.ble_eq, Nat.reduceLeDiff, Nat.reduceBEq, Int.reduceBEq, Int.reduceNeg, Bool.and_true, Bool.and_false, Bool.true_and, Bool.false_and, Bool.not_true, Bool.not_false, Bool.true_eq_false, Bool.false_eq_true, Int.reduceLT, Int.reduceLE, Int.reduceGT, Int.reduceGE, decide_true, decide_false, Bool.not_eq_true, loopN_norm, loopN_exit, tf, ft, ff, blockK_exit_eq]
  · simp only [enter_eq, ev_seq, seqK_norm, seqK_exit, seqK_ret, ev_reg, ev_cond, condK_true, condK_false, ev_block, blockK_norm, blockK_ret, blockK_exit, ev_loop, ev_skip, ev_exit, ev_ret, regK_cons, regK_nil, guard_none, guard_some, regG_true, regG_false, regO_some, op_mov, op_conv, op_bin, op_bsl, op_box, op_mks, op_s2b, op_pick, op_un, op_eq, op_len, op_ext, op_load, op_iaddr, op_slice, op_b2s, op_idxS, op_mx, op_mn, op_call, op_store, op_app, op_copy, args_eq, result_one', rv_loc, finish_norm, finish_ret, outK_some, keep_true, keep_false, keep_nil, p_bin, p_pick, p_un, p_eq, p_conv, evNew, pureK_some, newK_some, X.eval, set_none, set_some, List.map_cons, List.map_nil, List.getD_cons_zero, List.getD_cons_succ, List.getD_nil, List.set_cons_zero, List.set_cons_succ, binCV, unCV, isShift, intArithF_eq, shiftF_eq, wrapF_eq, intArith, shift, eqVal, bound, asNat_cast, cond_true, cond_false, BEq.rfl, beq_self_eq_true, evalParts, fillParts, AV.cells, AV.ofCells, XV.av, AV.xv, List.length_cons, List.length_nil, zeros, patch, setMany, List.nil_append, List.cons_append, Nat.ble, Nat.add_eq, Nat.zero_add, Nat.add_zero, Nat.reduceAdd, Nat.reduceMul, Nat.reduceSub, Nat.ble_eq, Nat.reduceLeDiff, Nat.reduceBEq, Int.reduceBEq, Int.reduceNeg, Bool.and_true, Bool.and_false, Bool.true_and, Bool.false_and, Bool.not_true, Bool.not_false, Bool.true_eq_false, Bool.false_eq_true, Int.reduceLT, Int.reduceLE, Int.reduceGT, Int.reduceGE, decide_true, decide_false, Bool.not_eq_true, loopN_norm, loopN_exit, tf, ft, ff]

theorem rzeros_ok (h : Heap) : ∃ h', evCallT table 18 N (d + 1) 44 [] h = some (.c (.str (strOf (List.replicate 16 0#8))), h') ∧ Ext h h' := by
  have a16 : asNat (.c (.int .i64 16)) = some 16 := rfl
  have b16 : Nat.ble 16 1073741824 = true := rfl
  have b1616 : Nat.ble 16 16 = true := rfl
  have z16 : [CV.int .u8 0, .int .u8 0, .int .u8 0, .int .u8 0, .int .u8 0, .int .u8 0, .int .u8 0, .int .u8 0, .int .u8 0, .int .u8 0, .int .u8 0, .int .u8 0, .int .u8 0, .int .u8 0, .int .u8 0, .int .u8 0] = u8s (List.replicate 16 0#8) := rfl
  have t : ∀ loc vals, evPure loc (.c (.sl h.next 0 16 (.ex 16)) :: vals) (h.new (.cells (u8s (List.replicate 16 0#8)))) (.b2s (.val 0)) = some (.c (.str (strOf (List.replicate 16 0#8)))) := fun _ _ => b2s_at rfl (read_u8 (o := 0) get_new_at (by simp))
  rw [evCallT_eq (F := ir44) rfl rfl rfl]
  unfold ir44
  rw [bodyK_eq]
  simp only [enter_eq, ev_seq, seqK_norm, seqK_exit, seqK_ret, ev_reg, ev_cond, condK_true, condK_false, ev_block, blockK_norm, blockK_ret, blockK_exit, ev_loop, ev_skip, ev_exit, ev_ret, regK_cons, regK_nil, guard_none, guard_some, regG_true, regG_false, regO_some, op_mov, op_conv, op_bin, op_bsl, op_box, op_mks, op_s2b, op_pick, op_un, op_eq, op_len, op_ext, op_load, op_iaddr, op_slice, op_b2s, op_idxS, op_mx, op_mn, op_call, op_store, op_app, op_copy, args_eq, result_one', rv_loc, finish_norm, finish_ret, outK_some, keep_true, keep_false, keep_nil, p_bin, p_pick, p_un, p_eq, p_conv, evNew, pureK_some, newK_some, X.eval, set_none, set_some, List.map_cons, List.map_nil, List.getD_cons_zero, List.getD_cons_succ, List.getD_nil, List.set_cons_zero, List.set_cons_succ, binCV, unCV, isShift, intArithF_eq, shiftF_eq, wrapF_eq, intArith, shift, eqVal, bound, asNat_cast, cond_true, cond_false, BEq.rfl, beq_self_eq_true, evalParts, fillParts, AV.cells, AV.ofCells, XV.av, AV.xv, List.length_cons, List.length_nil, zeros, patch, setMany, List.nil_append, List.cons_append, Nat.ble, Nat.add_eq, Nat.zero_add, Nat.add_zero, Nat.reduceAdd, Nat.reduceMul, Nat.reduceSub, Nat.ble_eq, Nat.reduceLeDiff, Nat.reduceBEq, Int.reduceBEq, Int.reduceNeg, Bool.and_true, Bool.and_false, Bool.true_and, Bool.false_and, Bool.not_true, Bool.not_false, Bool.true_eq_false, Bool.false_eq_true, Int.reduceLT, Int.reduceLE, Int.reduceGT, Int.reduceGE, decide_true, decide_false, Bool.not_eq_true, loopN_norm, loopN_exit, tf, ft, ff, a16, b16, b1616, z16, t]
  exact ⟨_, rfl, (Ext.refl h).new _⟩

/-- The first idle one is taken away. -/
theorem RA.behead {f : Int} {o' : List Int} (A : RA h p x y v fs (f :: o') S) : ∃ i q, v = .sl i q (o'.length + 1) (.dy 1) ∧ h.read i q 1 = some [.int .i64 f] ∧
    ∃ h', h.write p 2 [.sl i (q + 1) o'.length (.dy 1)] = some h' ∧ RA h' p x y (.sl i (q + 1) o'.length (.dy 1)) fs o' S ∧ ExtB (rown p x y v) h h' ∧ h'.next = h.next ∧ (∀ k ∈ rown p x y (.sl i (q + 1) o'.length (.dy 1)), k ∈ rown p x y v) := by
  have hid := A.id
  rcases A.vs with hv | ⟨i, q, hv⟩
  · rw [hv] at hid
    rcases hid with ⟨_, h0⟩ | ⟨i, o2, c, h0, _⟩
    · cases h0
    · cases h0
  · have hv' : v = .sl i q (o'.length + 1) (.dy 1) := hv
    obtain ⟨i2, q2, c2, e, hlt, hr⟩ := hid.sl (by simp)
    rw [hv'] at e
    cases e
    have hr0 : h.read i q 1 = some [.int .i64 f] := hr 0 (by simp)
    have hw : Ints h (.sl i (q + 1) o'.length (.dy 1)) o' := .inr ⟨i, q + 1, _, rfl, hlt, fun j w hj => by
      have hjl := (List.getElem?_eq_some_iff.1 hj).1
      have := hr (j + 1) (by simp; omega)
      rw [Nat.mul_one, Nat.add_assoc, Nat.add_comm 1 j, this]
      have h2 := (List.getElem?_eq_some_iff.1 hj).2
      simp [h2]⟩
    have hb : blk v = some i := by rw [hv']; rfl
    obtain ⟨h', w, A', e', n'⟩ := A.idle hw (.inr ⟨i, q + 1, rfl⟩) (fun k hk => by
      have hk' : blk v = some k := by rw [hb]; exact hk
      exact ⟨fun e => A.vn (e ▸ hk'), fun e => (A.xn k e).2.2 hk', fun e => (A.yn k e).2 hk'⟩)
    exact ⟨i, q, hv', hr0, h', w, A', e', n', fun k hk => by
      rcases mem_rown.1 hk with e | e | e | e
      · exact mem_rown.2 (.inl e)
      · exact mem_rown.2 (.inr (.inl e))
      · exact mem_rown.2 (.inr (.inr (.inl e)))
      · exact mem_rown.2 (.inr (.inr (.inr (by rw [hb]; exact e))))⟩

/-- Nothing of another's becomes its own. -/
def YoungR (h : Heap) (p : Nat) (x y v x' y' v' : CV) : Prop := ∀ k ∈ rown p x' y' v', k ∈ rown p x y v ∨ h.next ≤ k

/-- One behind the idle ones. -/
theorem RA.behind (A : RA h p x y v fs o S) (f : Int) (hl : o.length < 1000) (hsl : ∀ loc vals H, evPure loc (.c v :: vals) H (.len .sl (.val 0)) = some (.c (.int .i64 (o.length : Int)))) :
    ∃ w1 h2 w2 h4 h5, evApp (h.new (.cells [])) 1 (.c (.sl h.next 0 0 (.ex 0))) (.c v) = some (.c w1, h2) ∧ evApp (h2.new (.cells [.int .i64 f])) 1 (.c w1) (.c (.sl h2.next 0 1 (.ex 1))) = some (.c w2, h4) ∧ h4.read p 0 1 = some [x] ∧ h4.write p 2 [w2] = some h5 ∧ RA h5 p x y w2 fs (o ++ [f]) S ∧ ExtB (rown p x y v) h h5 ∧ YoungR h p x y v x y w2 := by
  have x1 : Ext h (h.new (.cells [])) := (Ext.refl _).new _
  have src := (A.id.ext x1).source
  -- a copy
  obtain ⟨w1, h2, a1, m2, n2, k2⟩ : ∃ w1 h2, evApp (h.new (.cells [])) 1 (.c (.sl h.next 0 0 (.ex 0))) (.c v) = some (.c w1, h2) ∧ ((∃ i, w1 = .sl i 0 0 (.ex 0) ∧ h2.get i = some (.cells []) ∧ h.next ≤ i ∧ i < h2.next ∧ o = []) ∨ Mine 1 h h2 w1 o.length (o.map icell)) ∧ h.next + 1 ≤ h2.next ∧ (∀ k, k < h.next + 1 → h2.get k = (h.new (.cells [])).get k) := by
    cases o with
    | nil => exact ⟨_, _, app_none (.inr ⟨_, _, _, _, rfl⟩) src, .inl ⟨h.next, rfl, get_new_at, Nat.le_refl _, Nat.lt_succ_self _, rfl⟩, Nat.le_refl _, fun _ _ => rfl⟩
    | cons a l =>
      obtain ⟨h', e, m, n, k⟩ := app_new (sz := 1) (h0 := h) (h := h.new (.cells [])) (i := h.next) get_new_at (Nat.le_succ _) (m := l.length) src (by simp) (by simp at hl; omega)
      exact ⟨_, h', e, .inr m, by rw [n]; show h.next + 1 ≤ h.next + 1 + 1; omega, fun j hj => k j hj⟩
  have src2 : source (h2.new (.cells [.int .i64 f])) 1 (.c (.sl h2.next 0 1 (.ex 1))) = some (0 + 1, [.int .i64 f]) := source_new get_new_at rfl
  obtain ⟨w2, h4, a2, m4, n4, k4⟩ : ∃ w2 h4, evApp (h2.new (.cells [.int .i64 f])) 1 (.c w1) (.c (.sl h2.next 0 1 (.ex 1))) = some (.c w2, h4) ∧ (∃ i, w2 = .sl i 0 (o.length + 1) (.dy 1) ∧ h4.get i = some (.cells ((o ++ [f]).map icell)) ∧ h.next ≤ i ∧ i < h4.next) ∧ h2.next ≤ h4.next ∧ (∀ k, k < h.next → h4.get k = h2.get k) := by
    rcases m2 with ⟨i, rfl, hg, hi1, hi2, rfl⟩ | m2
    · obtain ⟨h', e, m, n, k⟩ := app_new (sz := 1) (h0 := h) (h := h2.new (.cells [.int .i64 f])) (i := i) ((get_new_old hi2).trans hg) (by show h.next ≤ h2.next + 1; omega) (m := 0) src2 rfl (by omega)
      obtain ⟨_, ⟨hc, _⟩ | ⟨j, hj, hgj, hj1, hj2⟩⟩ := m
      · cases hc
      · refine ⟨_, h', e, ⟨j, hj, hgj, hj1, hj2⟩, by rw [n]; show h2.next ≤ h2.next + 1 + 1; omega, fun q hq => ?_⟩
        rw [k q (by show q < h2.next + 1; omega), get_new_old (by omega)]
    · obtain ⟨h', e, m, n, k⟩ := app_mine (m2.new (.cells [.int .i64 f])) (by show h.next ≤ h2.next + 1; omega) src2 rfl (by omega)
      obtain ⟨_, ⟨hc, _⟩ | ⟨j, hj, hgj, hj1, hj2⟩⟩ := m
      · cases hc
      · refine ⟨_, h', e, ⟨j, hj, by rw [hgj, List.map_append]; rfl, hj1, hj2⟩, by rw [n]; show h2.next ≤ h2.next + 1 + 1; omega, fun q hq => ?_⟩
        rw [k q (by show q < h2.next + 1; omega) (fun hb => by have := m2.young q hb; omega), get_new_old (by omega)]
  have xh : Ext h h4 := ⟨by omega, fun q hq => by rw [k4 q hq, k2 q (by omega), get_new_old hq]⟩
  have A4 := A.ext' xh
  obtain ⟨i, rfl, hg4, hi1, hi2⟩ := m4
  have hw : Ints h4 (.sl i 0 (o.length + 1) (.dy 1)) (o ++ [f]) := by
    have := ints_cells (c := .dy 1) hi2 hg4
    rwa [List.length_append, List.length_singleton] at this
  have old := A.old
  obtain ⟨h5, w, A5, e5, n5⟩ := A4.idle hw (.inr ⟨i, 0, by simp⟩) (fun k hk => by
    simp [blk] at hk
    subst hk
    exact ⟨fun e => by have := A.pn; omega, fun e => by have := old i (mem_rown.2 (.inr (.inl e))); omega, fun e => by have := old i (mem_rown.2 (.inr (.inr (.inl e)))); omega⟩)
  refine ⟨w1, h2, _, h4, h5, a1, a2, A4.r0, w, A5, (xh.b _).trans e5, fun k hk => ?_⟩
  rcases mem_rown.1 hk with e | e | e | e
  · exact .inl (mem_rown.2 (.inl e))
  · exact .inl (mem_rown.2 (.inr (.inl e)))
  · exact .inl (mem_rown.2 (.inr (.inr (.inl e))))
  · simp [blk] at e; right; omega
end
end Lav
