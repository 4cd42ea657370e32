/-
  Proved: whatever numbers come in, lavabolaw21.TidyRounds returns true and changes nothing that was there. No conditions beyond the given statement's.
-/
import Derived.Test.YtkammkogidakkaaRows
import Derived.Test.YtkammkogidakkaaTidy1
import Derived.WalkKit
import Derived.ProofKit
import Derived.OpenShut
import Derived.Below
import Derived.ShutString
set_option maxRecDepth 100000
set_option linter.unusedSimpArgs false
namespace Lav
open Go (IntKind)
theorem tld21 : ToldOK Go.Proofs.Try.prog 21 := told_of (calls_okF 100 8) (by kernel_rfl)

theorem natI_get {R : List Nat} {i : Nat} (h : i < R.length) : (R.map natI)[i]'(by simpa using h) = (R[i] : Int) := by simp [natI]

theorem blk_old {h0 h : Heap} {x : CV} {vs : List Int} {b : Nat} (m : Made h0 h x vs) (hb : b < h0.next) : ∀ k, blk x = some k → k ≠ b := by
  intro k hk e
  rcases m with ⟨rfl, _⟩ | ⟨i, c, rfl, _, h1, _⟩
  · cases hk
  · simp [blk] at hk; omega

/-- What is picked is turned clean, one by one. -/
theorem inner {b n K turn done from0 : Nat} {y : CV} {R : List Nat} {ds : List Bool} {h0 h1 : Heap} (hb : b < h0.next) (x1 : Ext h0 h1) (hy : Made h0 h1 y (R.map natI)) (hds : ds.length = 12) (hg : h1.get b = some (.cells (frm 0 ds))) (hn : dirty ds + done = n) (hnn : n ≤ 12) (hf0 : from0 ≤ 12)
    (hR : ∀ x ∈ R, x < 12 ∧ ds.getD x false = true) (hnd : R.Nodup) : ∀ loc, keepOnly ir8_k0 loc = [.junk, .junk, .junk, .c (.sl b 0 12 (.dy 5)), .c (.int .i64 (n : Int)), .junk, .junk, .c (.int .i64 (from0 : Int)), .c (.int .i64 (K : Int)), .c (.int .i64 (done : Int)), .c (.int .i64 (turn : Int)), .c y, .c (.int .i64 0), .junk, .junk, .junk, .junk, .junk, .junk] →
    ∃ r, loopK (evCallT table 21 100 7) 100 ir8_k0 ir8_l0 100 loc h1 = some r ∧ ∃ ds' from' h' a0 a1 a2 a5 a6 l, ds'.length = 12 ∧ from' ≤ 12 ∧ dirty ds' + (done + R.length) = n ∧ h'.get b = some (.cells (frm 0 ds')) ∧ b < h'.next ∧
      r = (.exit 4, a0 :: a1 :: a2 :: .c (.sl b 0 12 (.dy 5)) :: .c (.int .i64 (n : Int)) :: a5 :: a6 :: .c (.int .i64 ((from' : Nat) : Int)) :: .c (.int .i64 (K : Int)) :: .c (.int .i64 ((done + R.length : Nat) : Int)) :: .c (.int .i64 (turn : Int)) :: l, h') ∧ l.length = 8 := by
  intro loc hloc
  have hRl : R.length ≤ 12 := by
    have hsub : R ⊆ List.range 12 := fun x hx => by have := (hR x hx).1; simpa using this
    simpa using (List.Nodup.length_le_of_subset hnd hsub)
  have ly : ∀ (loc vals : List AV) (h : Heap), evPure loc (.c y :: vals) h (.len .sl (.val 0)) = some (.c (.int .i64 (R.length : Int))) := fun _ _ _ => by
    have := hy.len (h := h1) (loc := []) (vals := [.c y]) (X := .val 0) rfl
    rcases hy with ⟨rfl, hv⟩ | ⟨i, c, rfl, _⟩
    · have : R = [] := by simpa using hv
      subst this; rfl
    · show some (AV.c (.int .i64 (((R.map natI).length : Nat) : Int))) = _
      rw [List.length_map]
  refine loop_inv (n := R.length) (fun i loc h' => Made h0 h' y (R.map natI) ∧ b < h'.next ∧ ∃ ds' from', ds'.length = 12 ∧ from' ≤ 12 ∧ dirty ds' + (done + i) = n ∧ h'.get b = some (.cells (frm 0 ds')) ∧ (∀ j (hj : j < R.length), i ≤ j → ds'.getD R[j] false = true) ∧
    loc = [.junk, .junk, .junk, .c (.sl b 0 12 (.dy 5)), .c (.int .i64 (n : Int)), .junk, .junk, .c (.int .i64 ((from' : Nat) : Int)), .c (.int .i64 (K : Int)), .c (.int .i64 ((done + i : Nat) : Int)), .c (.int .i64 (turn : Int)), .c y, .c (.int .i64 (i : Int)), .junk, .junk, .junk, .junk, .junk, .junk]) _ ?_ ⟨hy, Nat.lt_of_lt_of_le hb x1.1, ds, from0, hds, hf0, by omega, hg, fun j hj _ => (hR _ (List.getElem_mem _)).2, hloc⟩ (by omega)
  rintro i loc h' hi ⟨hy', hbn, ds', from', hl', hf', hn', hg', hd', rfl⟩
  unfold ir8_l0
  by_cases hlt : i < R.length
  · left
    refine ⟨hlt, ?_⟩
    have v1 : decide ((i : Int) < (R.length : Int)) = true := ltNat hlt
    have v2 := succI (i := i) (by omega)
    have v2' := succI (i := done + i) (by omega)
    have hr12 := (hR R[i] (List.getElem_mem _)).1
    have v2'' := succI (i := R[i]) (by omega)
    have hdi := hd' i hlt (Nat.le_refl _)
    have hdi' : ds'[R[i]]'(by omega) = true := by simpa [List.getD_eq_getElem?_getD, hl', hr12] using hdi
    have k2 : h'.read b (R[i] * 5 + 4) 1 = some [.bool true] := read_cells hg' (by rw [frm_dirty (by omega), hdi'])
    have S := write_one (v := .bool false) hg' (show R[i] * 5 + 4 < (frm 0 ds').length by rw [frm_len]; omega)
    rw [frm_set] at S
    have hy2 : Made h0 (h'.put b (.cells (frm 0 (ds'.set R[i] false)))) y (R.map natI) := hy'.keep (Nat.le_refl _) fun k _ hk => get_put_ne (blk_old hy' hb k hk)
    have hI := hy'.ints
    have hI2 := hy2.ints
    obtain ⟨bx, ox, cx, rfl, _, rx⟩ := hI.sl (by simpa using (by omega : 0 < R.length))
    have k1 := rx i (by simpa using hlt)
    rw [natI_get hlt] at k1
    have k3 : (h'.put b (.cells (frm 0 (ds'.set R[i] false)))).read bx (ox + i) 1 = some [.int .i64 (R[i] : Int)] := by
      obtain ⟨bx', ox', cx', e', _, rx'⟩ := hI2.sl (by simpa using (by omega : 0 < R.length))
      cases e'
      have := rx' i (by simpa using hlt)
      rwa [natI_get hlt] at this
    have m1 : Nat.blt i (R.map natI).length = true := bltT (by simpa using hlt)
    have m2 : Nat.blt R[i] 12 = true := bltT hr12
    have c1 : decide ((R[i] : Int) < 0) = false := decide_eq_false (by omega)
    have c2 : decide ((R[i] : Int) ≥ 12) = false := decide_eq_false (by omega)
    simp only [enter_eq, ev_seq, seqK_norm, seqK_exit, seqK_ret, ev_reg, ev_cond, condK_true, condK_false, ev_block, blockK_norm, blockK_ret, blockK_exit, ev_loop, ev_skip, ev_exit, ev_ret, regK_cons, regK_nil, guard_none, guard_some, regG_true, regG_false, regO_some, op_mov, op_conv, op_bin, op_bsl, op_box, op_mks, op_s2b, op_pick, op_un, op_eq, op_len, op_ext, op_load, op_iaddr, op_slice, op_b2s, op_idxS, op_mx, op_mn, op_call, op_store, op_app, op_copy, args_eq, result_one', rv_loc, finish_norm, finish_ret, outK_some, keep_true, keep_false, keep_nil, p_bin, p_pick, p_un, p_eq, p_conv, evNew, pureK_some, newK_some, X.eval, set_none, set_some, List.map_cons, List.map_nil, List.getD_cons_zero, List.getD_cons_succ, List.getD_nil, List.set_cons_zero, List.set_cons_succ, binCV, unCV, isShift, intArithF_eq, shiftF_eq, wrapF_eq, intArith, shift, eqVal, bound, asNat_cast, cond_true, cond_false, BEq.rfl, beq_self_eq_true, evalParts, fillParts, AV.cells, AV.ofCells, XV.av, AV.xv, List.length_cons, List.length_nil, zeros, patch, setMany, List.nil_append, List.cons_append, Nat.ble, Nat.add_eq, Nat.zero_add, Nat.add_zero, Nat.reduceAdd, Nat.reduceMul, Nat.reduceSub, Nat.ble_eq, Nat.reduceLeDiff, Nat.reduceBEq, Int.reduceBEq, Int.reduceNeg, Bool.and_true, Bool.and_false, Bool.true_and, Bool.false_and, Bool.not_true, Bool.not_false, Bool.true_eq_false, Bool.false_eq_true, Int.reduceLT, Int.reduceLE, Int.reduceGT, Int.reduceGE, decide_true, decide_false, Bool.not_eq_true, loopN_norm, loopN_exit, tf, ft, ff, ev_dreg, dregK_nil, dregK_cons, dregE_true, dregP_some, dregX_some, d_mov, d_bin, d_eq, d_pick, d_un, d_conv, d_b2s, d_len, d_load, d_iaddr, d_slice, d_ext, d_call, d_store, chk_done, chk_none, chk_some, chkG_true, chkG_false, chkOne_nil, chkOne_cons, chkH_some, chkV_same, stage_none, stage_some, look_hit, look_miss, news_nil, wb_cons, wb_nil, skip0, List.reverse_cons, List.reverse_nil, ly, v1, v2, v2', v2'', p_iaddr, p_load, p_faddr, op_faddr, m1, m2, Nat.mul_one, k1, k2, k3, c1, c2, AV.ofCells, evEff, S]
    refine ⟨_, _, rfl, hy2, hbn, ds'.set R[i] false, R[i] + 1, by simpa using hl', by omega, ?_, get_put_at, fun j hj hij => ?_, rfl⟩
    · have := dirty_set ds' R[i] hdi
      omega
    · have hne : R[i] ≠ R[j] := (List.pairwise_iff_getElem.1 hnd) i j hlt hj (by omega)
      have h2 := hd' j hj (by omega)
      have : (ds'.set R[i] false).getD R[j] false = ds'.getD R[j] false := by
        simp only [List.getD_eq_getElem?_getD, List.getElem?_set_ne hne]
      rw [this]; exact h2
  · right
    have hin : i = R.length := by omega
    subst hin
    have v1 : decide ((R.length : Int) < (R.length : Int)) = false := geNat (Nat.le_refl _)
    simp only [enter_eq, ev_seq, seqK_norm, seqK_exit, seqK_ret, ev_reg, ev_cond, condK_true, condK_false, ev_block, blockK_norm, blockK_ret, blockK_exit, ev_loop, ev_skip, ev_exit, ev_ret, regK_cons, regK_nil, guard_none, guard_some, regG_true, regG_false, regO_some, op_mov, op_conv, op_bin, op_bsl, op_box, op_mks, op_s2b, op_pick, op_un, op_eq, op_len, op_ext, op_load, op_iaddr, op_slice, op_b2s, op_idxS, op_mx, op_mn, op_call, op_store, op_app, op_copy, args_eq, result_one', rv_loc, finish_norm, finish_ret, outK_some, keep_true, keep_false, keep_nil, p_bin, p_pick, p_un, p_eq, p_conv, evNew, pureK_some, newK_some, X.eval, set_none, set_some, List.map_cons, List.map_nil, List.getD_cons_zero, List.getD_cons_succ, List.getD_nil, List.set_cons_zero, List.set_cons_succ, binCV, unCV, isShift, intArithF_eq, shiftF_eq, wrapF_eq, intArith, shift, eqVal, bound, asNat_cast, cond_true, cond_false, BEq.rfl, beq_self_eq_true, evalParts, fillParts, AV.cells, AV.ofCells, XV.av, AV.xv, List.length_cons, List.length_nil, zeros, patch, setMany, List.nil_append, List.cons_append, Nat.ble, Nat.add_eq, Nat.zero_add, Nat.add_zero, Nat.reduceAdd, Nat.reduceMul, Nat.reduceSub, Nat.ble_eq, Nat.reduceLeDiff, Nat.reduceBEq, Int.reduceBEq, Int.reduceNeg, Bool.and_true, Bool.and_false, Bool.true_and, Bool.false_and, Bool.not_true, Bool.not_false, Bool.true_eq_false, Bool.false_eq_true, Int.reduceLT, Int.reduceLE, Int.reduceGT, Int.reduceGE, decide_true, decide_false, Bool.not_eq_true, loopN_norm, loopN_exit, tf, ft, ff, ly, v1]
    exact ⟨_, rfl, by simp, ds', from', h', _, _, _, _, _, _, hl', hf', hn', hg', hbn, rfl, rfl⟩

theorem tidyRounds (mask most : Int) : good (evCallT table 21 100 8 8 [.c (.int .i64 mask), .c (.int .i64 most)] Heap.empty) = true := by
  obtain ⟨k, hk, ek⟩ := few (a := most) (m := 4) (by omega) (by omega)
  have ek' : IntKind.i64.wrap (Int.tmod (IntKind.u64.wrap most) 4) = (k : Int) := ek
  have ek2 : IntKind.i64.wrap (1 + (k : Int)) = ((k + 1 : Nat) : Int) := by rw [wrapI (by omega) (by omega)]; omega
  rw [evCallT_eq (F := ir8) rfl rfl rfl]
  unfold ir8
  rw [bodyK_eq]
  have L2 : ∀ loc, keepOnly ir8_k2 loc = [.c (.int .i64 mask), .c (.int .i64 most), .junk, .c .nils, .c (.int .i64 0), .c (.int .i64 0), .junk, .junk, .junk, .junk, .junk, .junk, .junk, .junk, .junk, .junk, .junk, .junk, .junk] →
      ∃ r, loopK (evCallT table 21 100 7) 100 ir8_k2 ir8_l2 100 loc Heap.empty = some r ∧ ∃ h' b ds a5 a6 a13 a14, ds.length = 12 ∧ h'.get b = some (.cells (frm 0 ds)) ∧ b < h'.next ∧
        r = (.exit 0, [.c (.int .i64 mask), .c (.int .i64 most), .junk, .c (.sl b 0 12 (.dy 5)), .c (.int .i64 (dirty ds : Int)), a5, a6, .junk, .junk, .junk, .junk, .junk, .junk, a13, a14, .junk, .junk, .junk, .junk], h') := by
    intro loc hloc
    refine loop_inv (n := 12) (fun i loc h' => Ext Heap.empty h' ∧ ∃ (x : CV) (ds : List Bool), ds.length = i ∧ Mine 5 Heap.empty h' x i (frm 0 ds) ∧
      loc = [.c (.int .i64 mask), .c (.int .i64 most), .junk, .c x, .c (.int .i64 (dirty ds : Int)), .c (.int .i64 (i : Int)), .junk, .junk, .junk, .junk, .junk, .junk, .junk, .junk, .junk, .junk, .junk, .junk, .junk]) _ ?_ ⟨Ext.refl _, .nils, [], rfl, Mine.nil, hloc⟩ (by omega)
    rintro i loc h' hi ⟨he, x, ds, hl, hx, rfl⟩
    unfold ir8_l2
    by_cases hlt : i < 12
    · left
      refine ⟨hlt, ?_⟩
      have v1 : decide ((i : Int) < 12) = true := ltNat (n := 12) hlt
      have v2 := succI (i := i) (by omega)
      have v3 : IntKind.u64.wrap (i : Int) = (i : Int) := wrapUNat (by omega)
      have v4 : decide ((i : Int) < 0) = false := decide_eq_false (by omega)
      have hdl := dirty_le ds
      have v5 := succI (i := dirty ds) (by omega)
      have app : ∀ d : Bool, ∃ ha, evApp (h'.new (.cells (fr i d))) 5 (.c x) (.c (.sl h'.next 0 1 (.ex 1))) = some (.c (.sl (h'.next + 1) 0 (i + 1) (.dy 5)), ha) ∧ Mine 5 Heap.empty ha (.sl (h'.next + 1) 0 (i + 1) (.dy 5)) (i + 1) (frm 0 (ds ++ [d])) ∧ Ext Heap.empty ha := fun d => by
        obtain ⟨ha, q1, q2, q3, _⟩ := app_own (m := 0) (new := fr i d) (y := .c (.sl h'.next 0 1 (.ex 1))) (hx.new (.cells (fr i d))) (he.new _) (source_new get_new_at rfl) rfl (by omega)
        exact ⟨ha, q1, by rw [frm_append, Nat.zero_add, hl]; exact q2, q3⟩
      cases hd : (IntKind.i64.wrap ((BitVec.ofInt IntKind.i64.bits (mask.fdiv (2 ^ (min (Int.toNat (i : Int)) IntKind.i64.bits))) &&& BitVec.ofInt IntKind.i64.bits 1).toNat : Int) == 1)
      · obtain ⟨ha, q1, q2, q3⟩ := app false
        simp only [fr] at q1
        simp only [enter_eq, ev_seq, seqK_norm, seqK_exit, seqK_ret, ev_reg, ev_cond, condK_true, condK_false, ev_block, blockK_norm, blockK_ret, blockK_exit, ev_loop, ev_skip, ev_exit, ev_ret, regK_cons, regK_nil, guard_none, guard_some, regG_true, regG_false, regO_some, op_mov, op_conv, op_bin, op_bsl, op_box, op_mks, op_s2b, op_pick, op_un, op_eq, op_len, op_ext, op_load, op_iaddr, op_slice, op_b2s, op_idxS, op_mx, op_mn, op_call, op_store, op_app, op_copy, args_eq, result_one', rv_loc, finish_norm, finish_ret, outK_some, keep_true, keep_false, keep_nil, p_bin, p_pick, p_un, p_eq, p_conv, evNew, pureK_some, newK_some, X.eval, set_none, set_some, List.map_cons, List.map_nil, List.getD_cons_zero, List.getD_cons_succ, List.getD_nil, List.set_cons_zero, List.set_cons_succ, binCV, unCV, isShift, intArithF_eq, shiftF_eq, wrapF_eq, intArith, shift, eqVal, bound, asNat_cast, cond_true, cond_false, BEq.rfl, beq_self_eq_true, evalParts, fillParts, AV.cells, AV.ofCells, XV.av, AV.xv, List.length_cons, List.length_nil, zeros, patch, setMany, List.nil_append, List.cons_append, Nat.ble, Nat.add_eq, Nat.zero_add, Nat.add_zero, Nat.reduceAdd, Nat.reduceMul, Nat.reduceSub, Nat.ble_eq, Nat.reduceLeDiff, Nat.reduceBEq, Int.reduceBEq, Int.reduceNeg, Bool.and_true, Bool.and_false, Bool.true_and, Bool.false_and, Bool.not_true, Bool.not_false, Bool.true_eq_false, Bool.false_eq_true, Int.reduceLT, Int.reduceLE, Int.reduceGT, Int.reduceGE, decide_true, decide_false, Bool.not_eq_true, loopN_norm, loopN_exit, tf, ft, ff, v1, v2, v3, v4, hd, p_build, op_build, q1]
        exact ⟨_, _, rfl, q3, _, ds ++ [false], by simp [hl], q2, by rw [dirty_append]; rfl⟩
      · obtain ⟨ha, q1, q2, q3⟩ := app true
        simp only [fr] at q1
        simp only [enter_eq, ev_seq, seqK_norm, seqK_exit, seqK_ret, ev_reg, ev_cond, condK_true, condK_false, ev_block, blockK_norm, blockK_ret, blockK_exit, ev_loop, ev_skip, ev_exit, ev_ret, regK_cons, regK_nil, guard_none, guard_some, regG_true, regG_false, regO_some, op_mov, op_conv, op_bin, op_bsl, op_box, op_mks, op_s2b, op_pick, op_un, op_eq, op_len, op_ext, op_load, op_iaddr, op_slice, op_b2s, op_idxS, op_mx, op_mn, op_call, op_store, op_app, op_copy, args_eq, result_one', rv_loc, finish_norm, finish_ret, outK_some, keep_true, keep_false, keep_nil, p_bin, p_pick, p_un, p_eq, p_conv, evNew, pureK_some, newK_some, X.eval, set_none, set_some, List.map_cons, List.map_nil, List.getD_cons_zero, List.getD_cons_succ, List.getD_nil, List.set_cons_zero, List.set_cons_succ, binCV, unCV, isShift, intArithF_eq, shiftF_eq, wrapF_eq, intArith, shift, eqVal, bound, asNat_cast, cond_true, cond_false, BEq.rfl, beq_self_eq_true, evalParts, fillParts, AV.cells, AV.ofCells, XV.av, AV.xv, List.length_cons, List.length_nil, zeros, patch, setMany, List.nil_append, List.cons_append, Nat.ble, Nat.add_eq, Nat.zero_add, Nat.add_zero, Nat.reduceAdd, Nat.reduceMul, Nat.reduceSub, Nat.ble_eq, Nat.reduceLeDiff, Nat.reduceBEq, Int.reduceBEq, Int.reduceNeg, Bool.and_true, Bool.and_false, Bool.true_and, Bool.false_and, Bool.not_true, Bool.not_false, Bool.true_eq_false, Bool.false_eq_true, Int.reduceLT, Int.reduceLE, Int.reduceGT, Int.reduceGE, decide_true, decide_false, Bool.not_eq_true, loopN_norm, loopN_exit, tf, ft, ff, v1, v2, v3, v4, v5, hd, p_build, op_build, q1]
        exact ⟨_, _, rfl, q3, _, ds ++ [true], by simp [hl], q2, by rw [dirty_append]; rfl⟩
    · right
      have hi12 : i = 12 := by omega
      subst hi12
      obtain ⟨_, ⟨_, h0⟩ | ⟨b, rfl, hg, hb1, hb2⟩⟩ := hx
      · omega
      simp only [enter_eq, ev_seq, seqK_norm, seqK_exit, seqK_ret, ev_reg, ev_cond, condK_true, condK_false, ev_block, blockK_norm, blockK_ret, blockK_exit, ev_loop, ev_skip, ev_exit, ev_ret, regK_cons, regK_nil, guard_none, guard_some, regG_true, regG_false, regO_some, op_mov, op_conv, op_bin, op_bsl, op_box, op_mks, op_s2b, op_pick, op_un, op_eq, op_len, op_ext, op_load, op_iaddr, op_slice, op_b2s, op_idxS, op_mx, op_mn, op_call, op_store, op_app, op_copy, args_eq, result_one', rv_loc, finish_norm, finish_ret, outK_some, keep_true, keep_false, keep_nil, p_bin, p_pick, p_un, p_eq, p_conv, evNew, pureK_some, newK_some, X.eval, set_none, set_some, List.map_cons, List.map_nil, List.getD_cons_zero, List.getD_cons_succ, List.getD_nil, List.set_cons_zero, List.set_cons_succ, binCV, unCV, isShift, intArithF_eq, shiftF_eq, wrapF_eq, intArith, shift, eqVal, bound, asNat_cast, cond_true, cond_false, BEq.rfl, beq_self_eq_true, evalParts, fillParts, AV.cells, AV.ofCells, XV.av, AV.xv, List.length_cons, List.length_nil, zeros, patch, setMany, List.nil_append, List.cons_append, Nat.ble, Nat.add_eq, Nat.zero_add, Nat.add_zero, Nat.reduceAdd, Nat.reduceMul, Nat.reduceSub, Nat.ble_eq, Nat.reduceLeDiff, Nat.reduceBEq, Int.reduceBEq, Int.reduceNeg, Bool.and_true, Bool.and_false, Bool.true_and, Bool.false_and, Bool.not_true, Bool.not_false, Bool.true_eq_false, Bool.false_eq_true, Int.reduceLT, Int.reduceLE, Int.reduceGT, Int.reduceGE, decide_true, decide_false, Bool.not_eq_true, loopN_norm, loopN_exit, tf, ft, ff]
      exact ⟨_, rfl, by simp, h', b, ds, _, _, _, _, hl, hg, hb2, rfl⟩
  obtain ⟨r, hr2, h2, b, ds0, a5, a6, a13, a14, hl0, hg0, hb0, rfl⟩ := L2 [.c (.int .i64 mask), .c (.int .i64 most), .c (.bool false), .c .nils, .c (.int .i64 0), .c (.int .i64 0), .tup [], .tup [], .tup [], .tup [], .tup [], .tup [], .tup [], .tup [], .tup [], .tup [], .tup [], .tup [], .tup []] rfl
  have hn12 : dirty ds0 ≤ 12 := by have := dirty_le ds0; omega
  generalize hn : dirty ds0 = n at *
  have L1 : ∀ loc, keepOnly ir8_k1 loc = [.junk, .junk, .junk, .c (.sl b 0 12 (.dy 5)), .c (.int .i64 (n : Int)), .junk, .junk, .c (.int .i64 0), .c (.int .i64 ((k + 1 : Nat) : Int)), .c (.int .i64 0), .c (.int .i64 0), .junk, .junk, .junk, .junk, .junk, .junk, .junk, .junk] →
      ∃ r, loopK (evCallT table 21 100 7) 100 ir8_k1 ir8_l1 100 loc h2 = some r ∧ ∃ h' ds a0 a1 a2 a5 a6 a7 a8 l, ds.length = 12 ∧ dirty ds = 0 ∧ h'.get b = some (.cells (frm 0 ds)) ∧ b < h'.next ∧
        r = (.exit 2, a0 :: a1 :: a2 :: .c (.sl b 0 12 (.dy 5)) :: .c (.int .i64 (n : Int)) :: a5 :: a6 :: a7 :: a8 :: .c (.int .i64 (n : Int)) :: l, h') := by
    intro loc hloc
    refine loop_inv (n := 13) (fun turn loc h' => ∃ ds from' done, ds.length = 12 ∧ from' ≤ 12 ∧ dirty ds + done = n ∧ turn ≤ done ∧ h'.get b = some (.cells (frm 0 ds)) ∧ b < h'.next ∧
      loc = [.junk, .junk, .junk, .c (.sl b 0 12 (.dy 5)), .c (.int .i64 (n : Int)), .junk, .junk, .c (.int .i64 ((from' : Nat) : Int)), .c (.int .i64 ((k + 1 : Nat) : Int)), .c (.int .i64 ((done : Nat) : Int)), .c (.int .i64 (turn : Int)), .junk, .junk, .junk, .junk, .junk, .junk, .junk, .junk]) _ ?_ ⟨ds0, 0, 0, hl0, by omega, by omega, by omega, hg0, hb0, hloc⟩ (by omega)
    rintro turn loc h' hi ⟨ds, from', done, hl, hf, hsum, ht, hg, hb, rfl⟩
    unfold ir8_l1
    have v1 : decide ((turn : Int) < 13) = true := ltNat (n := 13) (by omega)
    have v2 := succI (i := turn) (by omega)
    by_cases hdn : done < n
    · left
      refine ⟨by omega, ?_⟩
      have v3 : decide ((done : Int) < (n : Int)) = true := ltNat hdn
      obtain ⟨y, h1, e1, m1, x1⟩ := pick_ok (N := 100) (d := 6) (b := b) (most := k + 1) (frm' := from') (by omega) hg hb hl (by omega) hf
      have e1' : evCallT table 21 100 7 20 [.c (.sl b 0 12 (.dy 5)), .c (.int .i64 (from' : Int)), .c (.int .i64 ((k + 1 : Nat) : Int))] h' = some (.c y, h1) := e1
      have hmem := pkGo_mem ds (k + 1) 12 (from' % 12) [] (by omega) (by simp)
      have hnd := pkGo_nodup ds (k + 1) 12 (from' % 12) [] (by omega) (by omega) (by simp) (by simp)
      have hpos := pkGo_some ds (k + 1) (by omega) 12 (from' % 12) (by omega) (by
        obtain ⟨z, hz, hdz⟩ := dirty_some (ds := ds) (by omega)
        exact ⟨(z + 12 - from' % 12) % 12, by omega, by rw [show (from' % 12 + (z + 12 - from' % 12) % 12) % 12 = z by omega]; exact hdz⟩)
      generalize hR : pkGo ds (k + 1) 12 (from' % 12) [] = R at *
      have my : Made h' h1 y (R.map natI) := m1.made
      have ly : ∀ (loc vals : List AV) (h : Heap), evPure loc (.c y :: vals) h (.len .sl (.val 0)) = some (.c (.int .i64 (R.length : Int))) := fun _ _ _ => m1.len rfl
      have v4 : ((R.length : Int) == 0) = false := by simp only [beq_eq_false_iff_ne, ne_eq]; omega
      obtain ⟨r, hr0, ds', from'', h3, a0, a1, a2, a5, a6, l, hl', hf', hn', hg', hb', rfl, hll⟩ := inner (n := n) (K := k + 1) (turn := turn) (done := done) (from0 := from') hb x1 my hl (x1.at_ hg hb) hsum hn12 hf hmem hnd
        [.junk, .junk, .junk, .c (.sl b 0 12 (.dy 5)), .c (.int .i64 (n : Int)), .junk, .junk, .c (.int .i64 (from' : Int)), .c (.int .i64 ((k + 1 : Nat) : Int)), .c (.int .i64 (done : Int)), .c (.int .i64 (turn : Int)), .c y, .c (.int .i64 0), .junk, .junk, .c (.bool true), .c (.bool false), .junk, .junk] rfl
      obtain ⟨l0, l1, l2, l3, l4, l5, l6, l7, rfl⟩ : ∃ l0 l1 l2 l3 l4 l5 l6 l7, l = [l0, l1, l2, l3, l4, l5, l6, l7] := by
        match l, hll with
        | [l0, l1, l2, l3, l4, l5, l6, l7], _ => exact ⟨l0, l1, l2, l3, l4, l5, l6, l7, rfl⟩
      simp only [enter_eq, ev_seq, seqK_norm, seqK_exit, seqK_ret, ev_reg, ev_cond, condK_true, condK_false, ev_block, blockK_norm, blockK_ret, blockK_exit, ev_loop, ev_skip, ev_exit, ev_ret, regK_cons, regK_nil, guard_none, guard_some, regG_true, regG_false, regO_some, op_mov, op_conv, op_bin, op_bsl, op_box, op_mks, op_s2b, op_pick, op_un, op_eq, op_len, op_ext, op_load, op_iaddr, op_slice, op_b2s, op_idxS, op_mx, op_mn, op_call, op_store, op_app, op_copy, args_eq, result_one', rv_loc, finish_norm, finish_ret, outK_some, keep_true, keep_false, keep_nil, p_bin, p_pick, p_un, p_eq, p_conv, evNew, pureK_some, newK_some, X.eval, set_none, set_some, List.map_cons, List.map_nil, List.getD_cons_zero, List.getD_cons_succ, List.getD_nil, List.set_cons_zero, List.set_cons_succ, binCV, unCV, isShift, intArithF_eq, shiftF_eq, wrapF_eq, intArith, shift, eqVal, bound, asNat_cast, cond_true, cond_false, BEq.rfl, beq_self_eq_true, evalParts, fillParts, AV.cells, AV.ofCells, XV.av, AV.xv, List.length_cons, List.length_nil, zeros, patch, setMany, List.nil_append, List.cons_append, Nat.ble, Nat.add_eq, Nat.zero_add, Nat.add_zero, Nat.reduceAdd, Nat.reduceMul, Nat.reduceSub, Nat.ble_eq, Nat.reduceLeDiff, Nat.reduceBEq, Int.reduceBEq, Int.reduceNeg, Bool.and_true, Bool.and_false, Bool.true_and, Bool.false_and, Bool.not_true, Bool.not_false, Bool.true_eq_false, Bool.false_eq_true, Int.reduceLT, Int.reduceLE, Int.reduceGT, Int.reduceGE, decide_true, decide_false, Bool.not_eq_true, loopN_norm, loopN_exit, tf, ft, ff, v1, v2, v3, v4, e1', ly, hr0, blockK_exit_eq]
      exact ⟨_, _, rfl, ds', from'', done + R.length, hl', hf', hn', by omega, hg', hb', rfl⟩
    · right
      have v3 : decide ((done : Int) < (n : Int)) = false := geNat (by omega)
      have hdone : done = n := by omega
      subst hdone
      simp only [enter_eq, ev_seq, seqK_norm, seqK_exit, seqK_ret, ev_reg, ev_cond, condK_true, condK_false, ev_block, blockK_norm, blockK_ret, blockK_exit, ev_loop, ev_skip, ev_exit, ev_ret, regK_cons, regK_nil, guard_none, guard_some, regG_true, regG_false, regO_some, op_mov, op_conv, op_bin, op_bsl, op_box, op_mks, op_s2b, op_pick, op_un, op_eq, op_len, op_ext, op_load, op_iaddr, op_slice, op_b2s, op_idxS, op_mx, op_mn, op_call, op_store, op_app, op_copy, args_eq, result_one', rv_loc, finish_norm, finish_ret, outK_some, keep_true, keep_false, keep_nil, p_bin, p_pick, p_un, p_eq, p_conv, evNew, pureK_some, newK_some, X.eval, set_none, set_some, List.map_cons, List.map_nil, List.getD_cons_zero, List.getD_cons_succ, List.getD_nil, List.set_cons_zero, List.set_cons_succ, binCV, unCV, isShift, intArithF_eq, shiftF_eq, wrapF_eq, intArith, shift, eqVal, bound, asNat_cast, cond_true, cond_false, BEq.rfl, beq_self_eq_true, evalParts, fillParts, AV.cells, AV.ofCells, XV.av, AV.xv, List.length_cons, List.length_nil, zeros, patch, setMany, List.nil_append, List.cons_append, Nat.ble, Nat.add_eq, Nat.zero_add, Nat.add_zero, Nat.reduceAdd, Nat.reduceMul, Nat.reduceSub, Nat.ble_eq, Nat.reduceLeDiff, Nat.reduceBEq, Int.reduceBEq, Int.reduceNeg, Bool.and_true, Bool.and_false, Bool.true_and, Bool.false_and, Bool.not_true, Bool.not_false, Bool.true_eq_false, Bool.false_eq_true, Int.reduceLT, Int.reduceLE, Int.reduceGT, Int.reduceGE, decide_true, decide_false, Bool.not_eq_true, loopN_norm, loopN_exit, tf, ft, ff, v1, v3]
      exact ⟨_, rfl, by simp, h', ds, _, _, _, _, _, _, _, _, hl, by omega, hg, hb, rfl⟩
  obtain ⟨r, hr1, h3, ds, a0, a1, a2, a5', a6', a7, a8, l, hl, hd0, hg, hb, rfl⟩ := L1 [.c (.int .i64 mask), .c (.int .i64 most), .junk, .c (.sl b 0 12 (.dy 5)), .c (.int .i64 (n : Int)), a5, a6, .c (.int .i64 0), .c (.int .i64 ((k + 1 : Nat) : Int)), .c (.int .i64 0), .c (.int .i64 0), .junk, .junk, a13, a14, .junk, .junk, .junk, .junk] rfl
  have hno := dirty_none hd0
  obtain ⟨y, h4, e1, m1, x1⟩ := pick_ok (N := 100) (d := 6) (b := b) (most := 12) (frm' := 0) (by omega) hg hb hl (by omega) (by omega)
  rw [pkGo_none ds 12 hno] at m1
  have e1' : evCallT table 21 100 7 20 [.c (.sl b 0 12 (.dy 5)), .c (.int .i64 0), .c (.int .i64 12)] h3 = some (.c y, h4) := e1
  obtain ⟨h5, e2⟩ := due_ok (N := 100) (d := 6) (by omega) (x1.at_ hg hb) (Nat.lt_of_lt_of_le hb x1.1) hl hno
  have e2' : evCallT table 21 100 7 22 [.c (.sl b 0 12 (.dy 5))] h4 = some (.c (.bool false), h5) := e2
  have ly : ∀ (loc vals : List AV) (h : Heap), evPure loc (.c y :: vals) h (.len .sl (.val 0)) = some (.c (.int .i64 0)) := fun _ _ _ => m1.len rfl
  have eqq : ∀ a : Int, (a == a) = true := fun a => by simp
  simp only [enter_eq, ev_seq, seqK_norm, seqK_exit, seqK_ret, ev_reg, ev_cond, condK_true, condK_false, ev_block, blockK_norm, blockK_ret, blockK_exit, ev_loop, ev_skip, ev_exit, ev_ret, regK_cons, regK_nil, guard_none, guard_some, regG_true, regG_false, regO_some, op_mov, op_conv, op_bin, op_bsl, op_box, op_mks, op_s2b, op_pick, op_un, op_eq, op_len, op_ext, op_load, op_iaddr, op_slice, op_b2s, op_idxS, op_mx, op_mn, op_call, op_store, op_app, op_copy, args_eq, result_one', rv_loc, finish_norm, finish_ret, outK_some, keep_true, keep_false, keep_nil, p_bin, p_pick, p_un, p_eq, p_conv, evNew, pureK_some, newK_some, X.eval, set_none, set_some, List.map_cons, List.map_nil, List.getD_cons_zero, List.getD_cons_succ, List.getD_nil, List.set_cons_zero, List.set_cons_succ, binCV, unCV, isShift, intArithF_eq, shiftF_eq, wrapF_eq, intArith, shift, eqVal, bound, asNat_cast, cond_true, cond_false, BEq.rfl, beq_self_eq_true, evalParts, fillParts, AV.cells, AV.ofCells, XV.av, AV.xv, List.length_cons, List.length_nil, zeros, patch, setMany, List.nil_append, List.cons_append, Nat.ble, Nat.add_eq, Nat.zero_add, Nat.add_zero, Nat.reduceAdd, Nat.reduceMul, Nat.reduceSub, Nat.ble_eq, Nat.reduceLeDiff, Nat.reduceBEq, Int.reduceBEq, Int.reduceNeg, Bool.and_true, Bool.and_false, Bool.true_and, Bool.false_and, Bool.not_true, Bool.not_false, Bool.true_eq_false, Bool.false_eq_true, Int.reduceLT, Int.reduceLE, Int.reduceGT, Int.reduceGE, decide_true, decide_false, Bool.not_eq_true, loopN_norm, loopN_exit, tf, ft, ff, ev_dreg, dregK_nil, dregK_cons, dregE_true, dregP_some, dregX_some, d_mov, d_bin, d_eq, d_pick, d_un, d_conv, d_b2s, d_len, d_load, d_iaddr, d_slice, d_ext, d_call, d_store, chk_done, chk_none, chk_some, chkG_true, chkG_false, chkOne_nil, chkOne_cons, chkH_some, chkV_same, stage_none, stage_some, look_hit, look_miss, news_nil, wb_cons, wb_nil, skip0, List.reverse_cons, List.reverse_nil, hr2, ek', ek2, hr1, blockK_exit_eq, evCallT_told, eqq, e1', e2', ly]
  rfl

end Lav

namespace Go.Proofs.Ytkammkogidakkaa.tidyRounds
open Go.ChangeShapes Go.WideShapes Go.ChangeAt Go.RowKit
open Go.ChangeMaps (open_string shut_string)
set_option linter.unusedVariables false      -- a walk need not use every 'w<i>' (that an integer argument fits its kind)

theorem own : ownKnob Try.prog.godebug = none := by kernel_rfl

/-! ### STEP 1: THE WALK: the Go text returns true. 'Below w.heap.size w w'': the world has at most new blocks (Derived/RowKit3.lean). Part the cases AHEAD of 'go_enter' where a test parts the walk; take each callee by a contract of your own. -/
theorem walk (a0 : Int) (a1 : Int) (w0 : (Lit.int .i64 a0).wf = true) (w1 : (Lit.int .i64 a1).wf = true) (w : World) :
    Calls Try.prog 8 #[.int .i64 a0, .int .i64 a1] w fun e w' => e = .returned (.bool true) ∧ Below w.heap.size w w' := by
  exact Lav.walk_of (Lav.evCallT_sound Lav.mixed Lav.table_ok Lav.tld21 100 8) (Lav.Init.empty w) (args := [.c (.int .i64 a0), .c (.int .i64 a1)]) (vs := [.int .i64 a0, .int .i64 a1]) ⟨rfl, rfl, trivial⟩ (Lav.tidyRounds a0 a1)

/-! ### THE ROW's STEP: WRITTEN OUT: LEAVE IT -/
set_option maxRecDepth 100000 in
theorem lifted (os : Os) (started : os.Started) (H : Type) (enc : TypeId × Value → H) :
    ReturnsInHanded {} Try.checked os 8 .any (Rows.tidyRoundsSpec.pre6 enc Try.prog Try.f8 Rows.tidyRoundsRow.domain false) (Rows.tidyRoundsSpec.post enc Try.prog Try.f8 false true false false) := by
  refine returnsInHanded_of_change (C := Try.checked) own started (by kernel_rfl) Try.func8
    (ChangeSpec.witness6 (enc := enc) (C := Try.checked) false ⟨#[], #[.int .i64 0, .int .i64 0], []⟩ 8 (by kernel_rfl) (by kernel_rfl) (by kernel_rfl) (by kernel_rfl)) ?_
  intro W base args ds gs before hval0 hW hcnd _
  have hval : ∀ (j : Nat) t v, Try.f8.params[j]? = some t → args[j]? = some v → Value.okWide Try.prog W .any base t v := hval0
  have hW' := hW
  obtain ⟨p, q, hA0, hV, rfl, hfz, hnd⟩ := hW
  have hA : DataW.TrodAll enc Try.prog W 0 (fun _ => true) true Try.f8.params.toList args.toList ds p := hA0
  rw [Try.params8] at hA hval
  obtain ⟨v0, vs0, d0, ds0, p0, q0, hargs, rfl, rfl, h0, r0⟩ := trodAll_cons hA
  obtain ⟨v1, vs1, d1, ds1, p1, q1, rfl, rfl, rfl, h1, r1⟩ := trodAll_cons r0
  obtain ⟨rfl, rfl, rfl⟩ := trodAll_nil r1
  obtain rfl : args = #[v0, v1] := by cases args; simp_all
  obtain ⟨rfl, rfl⟩ := trodVars_none hV
  obtain ⟨a0, rfl, rfl, rfl, w0⟩ := open_int Try.underlying3 (hval 0 3 v0 rfl rfl) h0
  obtain ⟨a1, rfl, rfl, rfl, w1⟩ := open_int Try.underlying3 (hval 1 3 v1 rfl rfl) h1
  clear hA0 hval0
  refine (walk a0 a1 w0 w1 W).mono fun e W' ⟨he, hg⟩ => ?_
  subst he
  exact ⟨_, rfl, _, _, _, [], _, [], hW', trodAll_mk1 (shut_bool Try.underlying4 _), (trodAll_cons_mk (shut_int Try.underlying3 w0) (trodAll_cons_mk (shut_int Try.underlying3 w1) trodAll_mk0)), rfl, hg.frame _, fun h => by cases h⟩

theorem over : Rows.tidyRoundsRow.holds Try.pinned (OpenSpec.ofChange Rows.tidyRoundsSpec) :=
  OpenClaim.holds_of_wide 8 Try.f8 rfl rfl rfl rfl rfl rfl rfl ⟨rfl, rfl, rfl, rfl, rfl⟩ rfl rfl rfl rfl rfl (by kernel_rfl) Try.func8 (by kernel_rfl)
    (of_decide_eq_true (by kernel_rfl)) (by unfold Func.isWrapper; first | (rw [if_pos (by decide +kernel)]; kernel_rfl) | (rw [if_neg (by decide +kernel)]; exact ⟨rfl, rfl⟩))
    (fun os started H enc _ => lifted os started H enc)

/-- ████ THE STATEMENT ████ -/
theorem proved : Rows.TidyRoundsSaid :=
  over
end Go.Proofs.Ytkammkogidakkaa.tidyRounds
