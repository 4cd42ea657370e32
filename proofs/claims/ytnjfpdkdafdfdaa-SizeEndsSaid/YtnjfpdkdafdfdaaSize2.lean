/-
  Layer 18: what size.Steps and the document's own compute.
-/
import Derived.Test.YtnjfpdkdafdfdaaSize1
set_option maxRecDepth 100000
set_option linter.unusedSimpArgs false
namespace Lav
open Go (IntKind)

/-- Numbers of 64 bits. -/
def Wf (l : List Int) : Prop := ∀ v ∈ l, -9223372036854775808 ≤ v ∧ v < 9223372036854775808

def stepsL (have_ : List Int) (n : Int) : List Int := if (have_.any fun v => decide (v < 0)) = true then [] else List.zipWith (fun s k => s - k) (shareL n have_.length) have_

theorem shareL_len {n s : Int} (h : shareL n s ≠ []) : 1 ≤ s ∧ s ≤ 4 ∧ 0 ≤ n ∧ n ≤ 32 ∧ (shareL n s).length = s.toNat := by
  unfold shareL at *
  split at h
  · exact absurd rfl h
  · rename_i hc
    rw [if_neg hc]
    exact ⟨by omega, by omega, by omega, by omega, by simp⟩

theorem shareL_bounds {n s : Int} : ∀ v ∈ shareL n s, 0 ≤ v ∧ v ≤ 33 := by
  intro v hv
  by_cases h : shareL n s = []
  · rw [h] at hv; simp at hv
  · obtain ⟨h1, h2, h3, h4, _⟩ := shareL_len h
    unfold shareL at hv
    rw [if_neg (by omega)] at hv
    obtain ⟨i, _, rfl⟩ := List.mem_map.1 hv
    have : n.toNat / s.toNat ≤ 32 := Nat.le_trans (Nat.div_le_self _ _) (by omega)
    unfold shareV
    generalize n.toNat / s.toNat = q at *
    split <;> omega

section
variable {N d : Nat}

theorem negf_ok (v : Int) (h : Heap) : evCallT table 14 N (d + 1) 33 [.c (.int .i64 v)] h = some (.c (.bool (decide (v < 0))), h) := by
  rw [evCallT_eq (F := ir33) rfl rfl rfl]
  unfold ir33
  rw [bodyK_eq]
  simp only [enter_eq, ev_seq, seqK_norm, seqK_exit, seqK_ret, ev_reg, ev_cond, condK_true, condK_false, ev_block, blockK_norm, blockK_ret, blockK_exit, ev_loop, ev_skip, ev_exit, ev_ret, regK_cons, regK_nil, guard_none, guard_some, regG_true, regG_false, regO_some, op_mov, op_conv, op_bin, op_bsl, op_box, op_mks, op_s2b, op_pick, op_un, op_eq, op_len, op_ext, op_load, op_iaddr, op_slice, op_b2s, op_idxS, op_mx, op_mn, op_call, op_store, op_app, op_copy, args_eq, result_one', rv_loc, finish_norm, finish_ret, outK_some, keep_true, keep_false, keep_nil, p_bin, p_pick, p_un, p_eq, p_conv, evNew, pureK_some, newK_some, X.eval, set_none, set_some, List.map_cons, List.map_nil, List.getD_cons_zero, List.getD_cons_succ, List.getD_nil, List.set_cons_zero, List.set_cons_succ, binCV, unCV, isShift, intArithF_eq, shiftF_eq, wrapF_eq, intArith, shift, eqVal, bound, asNat_cast, cond_true, cond_false, BEq.rfl, beq_self_eq_true, evalParts, fillParts, AV.cells, AV.ofCells, XV.av, AV.xv, List.length_cons, List.length_nil, zeros, patch, setMany, List.nil_append, List.cons_append, Nat.ble, Nat.add_eq, Nat.zero_add, Nat.add_zero, Nat.reduceAdd, Nat.reduceMul, Nat.reduceSub, Nat.ble_eq, Nat.reduceLeDiff, Nat.reduceBEq, Int.reduceBEq, Int.reduceNeg, Bool.and_true, Bool.and_false, Bool.true_and, Bool.false_and, Bool.not_true, Bool.not_false, Bool.true_eq_false, Bool.false_eq_true, Int.reduceLT, Int.reduceLE, Int.reduceGT, Int.reduceGE, decide_true, decide_false, Bool.not_eq_true, loopN_norm, loopN_exit, tf, ft, ff]

theorem steps_ok {x : CV} {hv : List Int} (n : Int) {h : Heap} (hx : Ints h x hv) (hw : Wf hv) (hN : 20 ≤ N) (hn : hv.length ≤ 8) :
    ∃ y h', evCallT table 14 N (d + 4) 20 [.c x, .c (.int .i64 n)] h = some (.c y, h') ∧ Made h h' y (stepsL hv n) ∧ Ext h h' := by
  obtain ⟨y, h1, e1, my, x1⟩ := share_ok (N := N) (d := d + 2) n (hv.length : Int) h (by omega)
  have hx1 := hx.ext x1
  have e2 := neg_ok (T := 14) (N := N) (d := d) (G := 33) rfl rfl hx1 (by omega) (by omega) (fun v h => negf_ok v h)
  have lx : ∀ (loc vals : List AV) (h : Heap), evPure loc (.c x :: vals) h (.len .sl (.val 0)) = some (.c (.int .i64 (hv.length : Int))) := fun _ _ _ => hx.len rfl
  rw [evCallT_eq (F := ir20) rfl rfl rfl]
  unfold ir20
  rw [bodyK_eq]
  unfold stepsL
  cases hneg : hv.any fun v => decide (v < 0)
  · rw [hneg] at e2
    rw [if_neg (by simp)]
    have hpos : ∀ v ∈ hv, ¬ v < 0 := fun v hv' => by
      have := List.any_eq_false.1 hneg v hv'
      simpa using this
    have ly : ∀ (loc vals : List AV) (h : Heap), evPure loc (.c y :: vals) h (.len .sl (.val 0)) = some (.c (.int .i64 ((shareL n hv.length).length : Int))) := fun _ _ _ => my.len rfl
    by_cases hnil : shareL n hv.length = []
    · have L : ∀ loc, keepOnly ir20_k0 loc = [.c x, .junk, .junk, .c y, .junk, .junk, .c (.int .i64 0), .c (.int .i64 0), .junk] →
          loopK (evCallT table 14 N (d + 3)) N ir20_k0 ir20_l0 N loc h1 = some (.exit 0, [.c x, .junk, .junk, .c y, .junk, .junk, .c (.int .i64 0), .c (.int .i64 0), .c (.bool false)], h1) := by
        intro loc hloc
        obtain ⟨m, rfl⟩ : ∃ m, N = m + 1 := ⟨N - 1, by omega⟩
        refine loopK_end' hloc ?_
        unfold ir20_l0
        simp only [enter_eq, ev_seq, seqK_norm, seqK_exit, seqK_ret, ev_reg, ev_cond, condK_true, condK_false, ev_block, blockK_norm, blockK_ret, blockK_exit, ev_loop, ev_skip, ev_exit, ev_ret, regK_cons, regK_nil, guard_none, guard_some, regG_true, regG_false, regO_some, op_mov, op_conv, op_bin, op_bsl, op_box, op_mks, op_s2b, op_pick, op_un, op_eq, op_len, op_ext, op_load, op_iaddr, op_slice, op_b2s, op_idxS, op_mx, op_mn, op_call, op_store, op_app, op_copy, args_eq, result_one', rv_loc, finish_norm, finish_ret, outK_some, keep_true, keep_false, keep_nil, p_bin, p_pick, p_un, p_eq, p_conv, evNew, pureK_some, newK_some, X.eval, set_none, set_some, List.map_cons, List.map_nil, List.getD_cons_zero, List.getD_cons_succ, List.getD_nil, List.set_cons_zero, List.set_cons_succ, binCV, unCV, isShift, intArithF_eq, shiftF_eq, wrapF_eq, intArith, shift, eqVal, bound, asNat_cast, cond_true, cond_false, BEq.rfl, beq_self_eq_true, evalParts, fillParts, AV.cells, AV.ofCells, XV.av, AV.xv, List.length_cons, List.length_nil, zeros, patch, setMany, List.nil_append, List.cons_append, Nat.ble, Nat.add_eq, Nat.zero_add, Nat.add_zero, Nat.reduceAdd, Nat.reduceMul, Nat.reduceSub, Nat.ble_eq, Nat.reduceLeDiff, Nat.reduceBEq, Int.reduceBEq, Int.reduceNeg, Bool.and_true, Bool.and_false, Bool.true_and, Bool.false_and, Bool.not_true, Bool.not_false, Bool.true_eq_false, Bool.false_eq_true, Int.reduceLT, Int.reduceLE, Int.reduceGT, Int.reduceGE, decide_true, decide_false, Bool.not_eq_true, loopN_norm, loopN_exit, tf, ft, ff, show decide ((0 : Int) < 0) = false from rfl]
      have hr := L [.c x, .c (.int .i64 n), .c .nils, .c y, .tup [], .c (.bool false), .c (.int .i64 0), .c (.int .i64 0), .tup []] rfl
      have hz : ((shareL n hv.length).length : Int) = 0 := by rw [hnil]; rfl
      rw [hz] at ly
      simp only [enter_eq, ev_seq, seqK_norm, seqK_exit, seqK_ret, ev_reg, ev_cond, condK_true, condK_false, ev_block, blockK_norm, blockK_ret, blockK_exit, ev_loop, ev_skip, ev_exit, ev_ret, regK_cons, regK_nil, guard_none, guard_some, regG_true, regG_false, regO_some, op_mov, op_conv, op_bin, op_bsl, op_box, op_mks, op_s2b, op_pick, op_un, op_eq, op_len, op_ext, op_load, op_iaddr, op_slice, op_b2s, op_idxS, op_mx, op_mn, op_call, op_store, op_app, op_copy, args_eq, result_one', rv_loc, finish_norm, finish_ret, outK_some, keep_true, keep_false, keep_nil, p_bin, p_pick, p_un, p_eq, p_conv, evNew, pureK_some, newK_some, X.eval, set_none, set_some, List.map_cons, List.map_nil, List.getD_cons_zero, List.getD_cons_succ, List.getD_nil, List.set_cons_zero, List.set_cons_succ, binCV, unCV, isShift, intArithF_eq, shiftF_eq, wrapF_eq, intArith, shift, eqVal, bound, asNat_cast, cond_true, cond_false, BEq.rfl, beq_self_eq_true, evalParts, fillParts, AV.cells, AV.ofCells, XV.av, AV.xv, List.length_cons, List.length_nil, zeros, patch, setMany, List.nil_append, List.cons_append, Nat.ble, Nat.add_eq, Nat.zero_add, Nat.add_zero, Nat.reduceAdd, Nat.reduceMul, Nat.reduceSub, Nat.ble_eq, Nat.reduceLeDiff, Nat.reduceBEq, Int.reduceBEq, Int.reduceNeg, Bool.and_true, Bool.and_false, Bool.true_and, Bool.false_and, Bool.not_true, Bool.not_false, Bool.true_eq_false, Bool.false_eq_true, Int.reduceLT, Int.reduceLE, Int.reduceGT, Int.reduceGE, decide_true, decide_false, Bool.not_eq_true, loopN_norm, loopN_exit, tf, ft, ff, lx, ly, e1, e2, hr, blockK_exit_eq]
      refine ⟨_, _, rfl, ?_, x1⟩
      rw [hnil] at my ⊢
      exact my
    · obtain ⟨b1, b2, b3, b4, blen⟩ := shareL_len hnil
      have blen' : (shareL n hv.length).length = hv.length := by rw [blen]; simp
      rcases my with ⟨_, hc⟩ | ⟨b, c, rfl, hg, hb1, hb2⟩
      · exact absurd hc hnil
      have hbnd := shareL_bounds (n := n) (s := hv.length)
      generalize hsh : shareL n hv.length = sh at *
      have ly2 : ∀ (loc vals : List AV) (h : Heap), evPure loc (.c (.sl b 0 sh.length c) :: vals) h (.len .sl (.val 0)) = some (.c (.int .i64 (hv.length : Int))) := fun _ _ _ => by rw [← blen']; rfl
      have L : ∀ loc, keepOnly ir20_k0 loc = [.c x, .junk, .junk, .c (.sl b 0 sh.length c), .junk, .junk, .c (.int .i64 (hv.length : Int)), .c (.int .i64 0), .junk] →
          ∃ r, loopK (evCallT table 14 N (d + 3)) N ir20_k0 ir20_l0 N loc h1 = some r ∧ ∃ h' a0 a1 a2 l, r = (.exit 0, a0 :: a1 :: a2 :: .c (.sl b 0 sh.length c) :: l, h') ∧ Ext h h' ∧ h'.next = h1.next ∧ h'.get b = some (.cells ((List.zipWith (fun s k => s - k) sh hv).map icell)) := by
        intro loc hloc
        refine loop_inv (n := hv.length) (fun i loc h' => Ext h h' ∧ h'.next = h1.next ∧ (∃ l : List CV, h'.get b = some (.cells l) ∧ l.length = sh.length ∧ (∀ j, j < i → l[j]? = ((List.zipWith (fun s k => s - k) sh hv).map icell)[j]?) ∧ (∀ j, i ≤ j → l[j]? = (sh.map icell)[j]?)) ∧ loc = [.c x, .junk, .junk, .c (.sl b 0 sh.length c), .junk, .junk, .c (.int .i64 (hv.length : Int)), .c (.int .i64 (i : Int)), .junk]) _ ?_ ⟨x1, rfl, ⟨_, hg, by simp, fun j hj => absurd hj (by omega), fun j _ => rfl⟩, hloc⟩ (by omega)
        rintro i loc h' hi ⟨he, hnx, ⟨l, hgl, hl, hj1, hj2⟩, rfl⟩
        unfold ir20_l0
        by_cases hlt : i < hv.length
        · left
          refine ⟨hlt, ?_⟩
          have v1 : decide ((i : Int) < (hv.length : Int)) = true := ltNat hlt
          have v2 := succI (i := i) (by omega)
          obtain ⟨bx, ox, cx, rfl, _, rx⟩ := (hx.ext he).sl (by omega)
          have m1 : Nat.blt i hv.length = true := bltT hlt
          have m2 : Nat.blt i sh.length = true := bltT (by omega)
          have k1 := rx i hlt
          have hsi : l[i]? = some (icell (sh[i]'(by omega))) := by rw [hj2 i (Nat.le_refl _)]; simp [blen', hlt]
          have k2 : h'.read b i 1 = some [.int .i64 (sh[i]'(by omega))] := read_cells hgl hsi
          have hs1 := hbnd (sh[i]'(by omega)) (List.getElem_mem _)
          have hh1 := hw hv[i] (List.getElem_mem _)
          have hh2 := hpos hv[i] (List.getElem_mem _)
          have v3 : IntKind.i64.wrap (sh[i]'(by omega) - hv[i]) = sh[i]'(by omega) - hv[i] := wrapI (by omega) (by omega)
          have S := write_one (v := .int .i64 (sh[i]'(by omega) - hv[i])) hgl (show i < l.length by omega)
          simp only [enter_eq, ev_seq, seqK_norm, seqK_exit, seqK_ret, ev_reg, ev_cond, condK_true, condK_false, ev_block, blockK_norm, blockK_ret, blockK_exit, ev_loop, ev_skip, ev_exit, ev_ret, regK_cons, regK_nil, guard_none, guard_some, regG_true, regG_false, regO_some, op_mov, op_conv, op_bin, op_bsl, op_box, op_mks, op_s2b, op_pick, op_un, op_eq, op_len, op_ext, op_load, op_iaddr, op_slice, op_b2s, op_idxS, op_mx, op_mn, op_call, op_store, op_app, op_copy, args_eq, result_one', rv_loc, finish_norm, finish_ret, outK_some, keep_true, keep_false, keep_nil, p_bin, p_pick, p_un, p_eq, p_conv, evNew, pureK_some, newK_some, X.eval, set_none, set_some, List.map_cons, List.map_nil, List.getD_cons_zero, List.getD_cons_succ, List.getD_nil, List.set_cons_zero, List.set_cons_succ, binCV, unCV, isShift, intArithF_eq, shiftF_eq, wrapF_eq, intArith, shift, eqVal, bound, asNat_cast, cond_true, cond_false, BEq.rfl, beq_self_eq_true, evalParts, fillParts, AV.cells, AV.ofCells, XV.av, AV.xv, List.length_cons, List.length_nil, zeros, patch, setMany, List.nil_append, List.cons_append, Nat.ble, Nat.add_eq, Nat.zero_add, Nat.add_zero, Nat.reduceAdd, Nat.reduceMul, Nat.reduceSub, Nat.ble_eq, Nat.reduceLeDiff, Nat.reduceBEq, Int.reduceBEq, Int.reduceNeg, Bool.and_true, Bool.and_false, Bool.true_and, Bool.false_and, Bool.not_true, Bool.not_false, Bool.true_eq_false, Bool.false_eq_true, Int.reduceLT, Int.reduceLE, Int.reduceGT, Int.reduceGE, decide_true, decide_false, Bool.not_eq_true, loopN_norm, loopN_exit, tf, ft, ff, ev_dreg, dregK_nil, dregK_cons, dregE_true, dregP_some, dregX_some, d_mov, d_bin, d_eq, d_pick, d_un, d_conv, d_b2s, d_len, d_load, d_iaddr, d_slice, d_ext, d_call, d_store, chk_done, chk_none, chk_some, chkG_true, chkG_false, chkOne_nil, chkOne_cons, chkH_some, chkV_same, stage_none, stage_some, look_hit, look_miss, news_nil, wb_cons, wb_nil, skip0, List.reverse_cons, List.reverse_nil, v1, v2, p_iaddr, p_load, m1, m2, Nat.mul_one, k1, k2, v3, evEff, S]
          refine ⟨_, _, rfl, he.put hb1 _, hnx, ⟨_, get_put_at, by simpa using hl, fun j hji => ?_, fun j hji => ?_⟩, rfl⟩
          · by_cases e : j = i
            · subst e; rw [List.getElem?_set_self (by omega)]; simp [icell, hlt, blen']
            · rw [List.getElem?_set_ne (by omega)]; exact hj1 j (by omega)
          · rw [List.getElem?_set_ne (by omega)]; exact hj2 j (by omega)
        · right
          have hin : i = hv.length := by omega
          subst hin
          have v1 : decide ((hv.length : Int) < (hv.length : Int)) = false := geNat (Nat.le_refl _)
          simp only [enter_eq, ev_seq, seqK_norm, seqK_exit, seqK_ret, ev_reg, ev_cond, condK_true, condK_false, ev_block, blockK_norm, blockK_ret, blockK_exit, ev_loop, ev_skip, ev_exit, ev_ret, regK_cons, regK_nil, guard_none, guard_some, regG_true, regG_false, regO_some, op_mov, op_conv, op_bin, op_bsl, op_box, op_mks, op_s2b, op_pick, op_un, op_eq, op_len, op_ext, op_load, op_iaddr, op_slice, op_b2s, op_idxS, op_mx, op_mn, op_call, op_store, op_app, op_copy, args_eq, result_one', rv_loc, finish_norm, finish_ret, outK_some, keep_true, keep_false, keep_nil, p_bin, p_pick, p_un, p_eq, p_conv, evNew, pureK_some, newK_some, X.eval, set_none, set_some, List.map_cons, List.map_nil, List.getD_cons_zero, List.getD_cons_succ, List.getD_nil, List.set_cons_zero, List.set_cons_succ, binCV, unCV, isShift, intArithF_eq, shiftF_eq, wrapF_eq, intArith, shift, eqVal, bound, asNat_cast, cond_true, cond_false, BEq.rfl, beq_self_eq_true, evalParts, fillParts, AV.cells, AV.ofCells, XV.av, AV.xv, List.length_cons, List.length_nil, zeros, patch, setMany, List.nil_append, List.cons_append, Nat.ble, Nat.add_eq, Nat.zero_add, Nat.add_zero, Nat.reduceAdd, Nat.reduceMul, Nat.reduceSub, Nat.ble_eq, Nat.reduceLeDiff, Nat.reduceBEq, Int.reduceBEq, Int.reduceNeg, Bool.and_true, Bool.and_false, Bool.true_and, Bool.false_and, Bool.not_true, Bool.not_false, Bool.true_eq_false, Bool.false_eq_true, Int.reduceLT, Int.reduceLE, Int.reduceGT, Int.reduceGE, decide_true, decide_false, Bool.not_eq_true, loopN_norm, loopN_exit, tf, ft, ff, v1]
          refine ⟨_, rfl, by simp, h', _, _, _, _, rfl, he, hnx, ?_⟩
          rw [hgl]
          congr 2
          apply List.ext_getElem?
          intro j
          rcases Nat.lt_or_ge j hv.length with hj | hj
          · exact hj1 j hj
          · rw [List.getElem?_eq_none (by omega), List.getElem?_eq_none (by simp; omega)]
      obtain ⟨r, hr, h', a0, a1, a2, l, rfl, he, hnx, hg'⟩ := L [.c x, .c (.int .i64 n), .c .nils, .c (.sl b 0 sh.length c), .tup [], .c (.bool false), .c (.int .i64 (hv.length : Int)), .c (.int .i64 0), .tup []] rfl
      simp only [enter_eq, ev_seq, seqK_norm, seqK_exit, seqK_ret, ev_reg, ev_cond, condK_true, condK_false, ev_block, blockK_norm, blockK_ret, blockK_exit, ev_loop, ev_skip, ev_exit, ev_ret, regK_cons, regK_nil, guard_none, guard_some, regG_true, regG_false, regO_some, op_mov, op_conv, op_bin, op_bsl, op_box, op_mks, op_s2b, op_pick, op_un, op_eq, op_len, op_ext, op_load, op_iaddr, op_slice, op_b2s, op_idxS, op_mx, op_mn, op_call, op_store, op_app, op_copy, args_eq, result_one', rv_loc, finish_norm, finish_ret, outK_some, keep_true, keep_false, keep_nil, p_bin, p_pick, p_un, p_eq, p_conv, evNew, pureK_some, newK_some, X.eval, set_none, set_some, List.map_cons, List.map_nil, List.getD_cons_zero, List.getD_cons_succ, List.getD_nil, List.set_cons_zero, List.set_cons_succ, binCV, unCV, isShift, intArithF_eq, shiftF_eq, wrapF_eq, intArith, shift, eqVal, bound, asNat_cast, cond_true, cond_false, BEq.rfl, beq_self_eq_true, evalParts, fillParts, AV.cells, AV.ofCells, XV.av, AV.xv, List.length_cons, List.length_nil, zeros, patch, setMany, List.nil_append, List.cons_append, Nat.ble, Nat.add_eq, Nat.zero_add, Nat.add_zero, Nat.reduceAdd, Nat.reduceMul, Nat.reduceSub, Nat.ble_eq, Nat.reduceLeDiff, Nat.reduceBEq, Int.reduceBEq, Int.reduceNeg, Bool.and_true, Bool.and_false, Bool.true_and, Bool.false_and, Bool.not_true, Bool.not_false, Bool.true_eq_false, Bool.false_eq_true, Int.reduceLT, Int.reduceLE, Int.reduceGT, Int.reduceGE, decide_true, decide_false, Bool.not_eq_true, loopN_norm, loopN_exit, tf, ft, ff, lx, ly2, e1, e2, hr, blockK_exit_eq]
      refine ⟨_, _, rfl, .inr ⟨b, c, by simp [blen'], hg', hb1, by omega⟩, he⟩
  · rw [hneg] at e2
    rw [if_pos rfl]
    simp only [enter_eq, ev_seq, seqK_norm, seqK_exit, seqK_ret, ev_reg, ev_cond, condK_true, condK_false, ev_block, blockK_norm, blockK_ret, blockK_exit, ev_loop, ev_skip, ev_exit, ev_ret, regK_cons, regK_nil, guard_none, guard_some, regG_true, regG_false, regO_some, op_mov, op_conv, op_bin, op_bsl, op_box, op_mks, op_s2b, op_pick, op_un, op_eq, op_len, op_ext, op_load, op_iaddr, op_slice, op_b2s, op_idxS, op_mx, op_mn, op_call, op_store, op_app, op_copy, args_eq, result_one', rv_loc, finish_norm, finish_ret, outK_some, keep_true, keep_false, keep_nil, p_bin, p_pick, p_un, p_eq, p_conv, evNew, pureK_some, newK_some, X.eval, set_none, set_some, List.map_cons, List.map_nil, List.getD_cons_zero, List.getD_cons_succ, List.getD_nil, List.set_cons_zero, List.set_cons_succ, binCV, unCV, isShift, intArithF_eq, shiftF_eq, wrapF_eq, intArith, shift, eqVal, bound, asNat_cast, cond_true, cond_false, BEq.rfl, beq_self_eq_true, evalParts, fillParts, AV.cells, AV.ofCells, XV.av, AV.xv, List.length_cons, List.length_nil, zeros, patch, setMany, List.nil_append, List.cons_append, Nat.ble, Nat.add_eq, Nat.zero_add, Nat.add_zero, Nat.reduceAdd, Nat.reduceMul, Nat.reduceSub, Nat.ble_eq, Nat.reduceLeDiff, Nat.reduceBEq, Int.reduceBEq, Int.reduceNeg, Bool.and_true, Bool.and_false, Bool.true_and, Bool.false_and, Bool.not_true, Bool.not_false, Bool.true_eq_false, Bool.false_eq_true, Int.reduceLT, Int.reduceLE, Int.reduceGT, Int.reduceGE, decide_true, decide_false, Bool.not_eq_true, loopN_norm, loopN_exit, tf, ft, ff, lx, e1, e2]
    exact ⟨_, _, rfl, .inl ⟨rfl, rfl⟩, x1⟩

theorem rsteps_ok {x : CV} {hv : List Int} (n : Int) {h : Heap} (hx : Ints h x hv) (hw : Wf hv) (hN : 20 ≤ N) (hn : hv.length ≤ 8) :
    ∃ y h', evCallT table 14 N (d + 4) 21 [.c x, .c (.int .i64 n)] h = some (.c y, h') ∧ Made h h' y (stepsL hv n) ∧ Ext h h' := by
  obtain ⟨y, h1, e1, my, x1⟩ := rshare_ok (N := N) (d := d + 2) n (hv.length : Int) h (by omega)
  have hx1 := hx.ext x1
  have lx : ∀ (loc vals : List AV) (h : Heap), evPure loc (.c x :: vals) h (.len .sl (.val 0)) = some (.c (.int .i64 (hv.length : Int))) := fun _ _ _ => hx.len rfl
  have ly : ∀ (loc vals : List AV) (h : Heap), evPure loc (.c y :: vals) h (.len .sl (.val 0)) = some (.c (.int .i64 ((shareL n hv.length).length : Int))) := fun _ _ _ => my.len rfl
  rw [evCallT_eq (F := ir21) rfl rfl rfl]
  unfold ir21
  rw [bodyK_eq]
  by_cases hnil : shareL n hv.length = []
  · have hst : stepsL hv n = [] := by unfold stepsL; split <;> simp [hnil]
    have hz : ((shareL n hv.length).length : Int) = 0 := by rw [hnil]; rfl
    rw [hz] at ly
    have L : ∀ loc, keepOnly ir21_k0 loc = [.c x, .junk, .junk, .c y, .c (.int .i64 0), .junk, .junk] →
        loopK (evCallT table 14 N (d + 3)) N ir21_k0 ir21_l0 N loc h1 = some (.exit 0, [.c x, .junk, .junk, .c y, .c (.int .i64 0), .c (.bool false), .junk], h1) := by
      intro loc hloc
      obtain ⟨m, rfl⟩ : ∃ m, N = m + 1 := ⟨N - 1, by omega⟩
      refine loopK_end' hloc ?_
      unfold ir21_l0
      simp only [enter_eq, ev_seq, seqK_norm, seqK_exit, seqK_ret, ev_reg, ev_cond, condK_true, condK_false, ev_block, blockK_norm, blockK_ret, blockK_exit, ev_loop, ev_skip, ev_exit, ev_ret, regK_cons, regK_nil, guard_none, guard_some, regG_true, regG_false, regO_some, op_mov, op_conv, op_bin, op_bsl, op_box, op_mks, op_s2b, op_pick, op_un, op_eq, op_len, op_ext, op_load, op_iaddr, op_slice, op_b2s, op_idxS, op_mx, op_mn, op_call, op_store, op_app, op_copy, args_eq, result_one', rv_loc, finish_norm, finish_ret, outK_some, keep_true, keep_false, keep_nil, p_bin, p_pick, p_un, p_eq, p_conv, evNew, pureK_some, newK_some, X.eval, set_none, set_some, List.map_cons, List.map_nil, List.getD_cons_zero, List.getD_cons_succ, List.getD_nil, List.set_cons_zero, List.set_cons_succ, binCV, unCV, isShift, intArithF_eq, shiftF_eq, wrapF_eq, intArith, shift, eqVal, bound, asNat_cast, cond_true, cond_false, BEq.rfl, beq_self_eq_true, evalParts, fillParts, AV.cells, AV.ofCells, XV.av, AV.xv, List.length_cons, List.length_nil, zeros, patch, setMany, List.nil_append, List.cons_append, Nat.ble, Nat.add_eq, Nat.zero_add, Nat.add_zero, Nat.reduceAdd, Nat.reduceMul, Nat.reduceSub, Nat.ble_eq, Nat.reduceLeDiff, Nat.reduceBEq, Int.reduceBEq, Int.reduceNeg, Bool.and_true, Bool.and_false, Bool.true_and, Bool.false_and, Bool.not_true, Bool.not_false, Bool.true_eq_false, Bool.false_eq_true, Int.reduceLT, Int.reduceLE, Int.reduceGT, Int.reduceGE, decide_true, decide_false, Bool.not_eq_true, loopN_norm, loopN_exit, tf, ft, ff, ly, show decide ((0 : Int) < 0) = false from rfl]
    have hr := L [.c x, .c (.int .i64 n), .c .nils, .c y, .c (.int .i64 0), .tup [], .tup []] rfl
    simp only [enter_eq, ev_seq, seqK_norm, seqK_exit, seqK_ret, ev_reg, ev_cond, condK_true, condK_false, ev_block, blockK_norm, blockK_ret, blockK_exit, ev_loop, ev_skip, ev_exit, ev_ret, regK_cons, regK_nil, guard_none, guard_some, regG_true, regG_false, regO_some, op_mov, op_conv, op_bin, op_bsl, op_box, op_mks, op_s2b, op_pick, op_un, op_eq, op_len, op_ext, op_load, op_iaddr, op_slice, op_b2s, op_idxS, op_mx, op_mn, op_call, op_store, op_app, op_copy, args_eq, result_one', rv_loc, finish_norm, finish_ret, outK_some, keep_true, keep_false, keep_nil, p_bin, p_pick, p_un, p_eq, p_conv, evNew, pureK_some, newK_some, X.eval, set_none, set_some, List.map_cons, List.map_nil, List.getD_cons_zero, List.getD_cons_succ, List.getD_nil, List.set_cons_zero, List.set_cons_succ, binCV, unCV, isShift, intArithF_eq, shiftF_eq, wrapF_eq, intArith, shift, eqVal, bound, asNat_cast, cond_true, cond_false, BEq.rfl, beq_self_eq_true, evalParts, fillParts, AV.cells, AV.ofCells, XV.av, AV.xv, List.length_cons, List.length_nil, zeros, patch, setMany, List.nil_append, List.cons_append, Nat.ble, Nat.add_eq, Nat.zero_add, Nat.add_zero, Nat.reduceAdd, Nat.reduceMul, Nat.reduceSub, Nat.ble_eq, Nat.reduceLeDiff, Nat.reduceBEq, Int.reduceBEq, Int.reduceNeg, Bool.and_true, Bool.and_false, Bool.true_and, Bool.false_and, Bool.not_true, Bool.not_false, Bool.true_eq_false, Bool.false_eq_true, Int.reduceLT, Int.reduceLE, Int.reduceGT, Int.reduceGE, decide_true, decide_false, Bool.not_eq_true, loopN_norm, loopN_exit, tf, ft, ff, lx, ly, e1, hr, blockK_exit_eq]
    refine ⟨_, _, rfl, ?_, x1⟩
    rw [hst]; rw [hnil] at my; exact my
  · obtain ⟨b1, b2, b3, b4, blen⟩ := shareL_len hnil
    have blen' : (shareL n hv.length).length = hv.length := by rw [blen]; simp
    rcases my with ⟨_, hc⟩ | ⟨b, c, rfl, hg, hb1, hb2⟩
    · exact absurd hc hnil
    have hbnd := shareL_bounds (n := n) (s := hv.length)
    unfold stepsL
    generalize hsh : shareL n hv.length = sh at *
    have ly2 : ∀ (loc vals : List AV) (h : Heap), evPure loc (.c (.sl b 0 sh.length c) :: vals) h (.len .sl (.val 0)) = some (.c (.int .i64 (hv.length : Int))) := fun _ _ _ => by rw [← blen']; rfl
    have L : ∀ loc, keepOnly ir21_k0 loc = [.c x, .junk, .junk, .c (.sl b 0 sh.length c), .c (.int .i64 0), .junk, .junk] →
        ∃ r, loopK (evCallT table 14 N (d + 3)) N ir21_k0 ir21_l0 N loc h1 = some r ∧ ∃ h', Ext h h' ∧ h'.next = h1.next ∧
          (((hv.any fun v => decide (v < 0)) = false ∧ (∃ a0 a1 a2 l, r = (.exit 0, a0 :: a1 :: a2 :: .c (.sl b 0 sh.length c) :: l, h')) ∧ h'.get b = some (.cells ((List.zipWith (fun s k => s - k) sh hv).map icell))) ∨
           ((hv.any fun v => decide (v < 0)) = true ∧ ∃ a0 a1 l, r = (.ret, a0 :: a1 :: .c .nils :: l, h'))) := by
      intro loc hloc
      refine loop_inv (n := hv.length) (fun i loc h' => Ext h h' ∧ h'.next = h1.next ∧ (∃ l : List CV, h'.get b = some (.cells l) ∧ l.length = sh.length ∧ (∀ j, j < i → l[j]? = ((List.zipWith (fun s k => s - k) sh hv).map icell)[j]?) ∧ (∀ j, i ≤ j → l[j]? = (sh.map icell)[j]?)) ∧ (∀ j (hj : j < hv.length), j < i → ¬ hv[j] < 0) ∧ loc = [.c x, .junk, .junk, .c (.sl b 0 sh.length c), .c (.int .i64 (i : Int)), .junk, .junk]) _ ?_ ⟨x1, rfl, ⟨_, hg, by simp, fun j hj => absurd hj (by omega), fun j _ => rfl⟩, fun j _ hj => absurd hj (by omega), hloc⟩ (by omega)
      rintro i loc h' hi ⟨he, hnx, ⟨l, hgl, hl, hj1, hj2⟩, hneg, rfl⟩
      unfold ir21_l0
      by_cases hlt : i < hv.length
      · have v1 : decide ((i : Int) < (hv.length : Int)) = true := ltNat hlt
        have v2 := succI (i := i) (by omega)
        obtain ⟨bx, ox, cx, rfl, _, rx⟩ := (hx.ext he).sl (by omega)
        have m1 : Nat.blt i hv.length = true := bltT hlt
        have m2 : Nat.blt i sh.length = true := bltT (by omega)
        have k1 := rx i hlt
        by_cases hng : hv[i] < 0
        · right
          simp only [enter_eq, ev_seq, seqK_norm, seqK_exit, seqK_ret, ev_reg, ev_cond, condK_true, condK_false, ev_block, blockK_norm, blockK_ret, blockK_exit, ev_loop, ev_skip, ev_exit, ev_ret, regK_cons, regK_nil, guard_none, guard_some, regG_true, regG_false, regO_some, op_mov, op_conv, op_bin, op_bsl, op_box, op_mks, op_s2b, op_pick, op_un, op_eq, op_len, op_ext, op_load, op_iaddr, op_slice, op_b2s, op_idxS, op_mx, op_mn, op_call, op_store, op_app, op_copy, args_eq, result_one', rv_loc, finish_norm, finish_ret, outK_some, keep_true, keep_false, keep_nil, p_bin, p_pick, p_un, p_eq, p_conv, evNew, pureK_some, newK_some, X.eval, set_none, set_some, List.map_cons, List.map_nil, List.getD_cons_zero, List.getD_cons_succ, List.getD_nil, List.set_cons_zero, List.set_cons_succ, binCV, unCV, isShift, intArithF_eq, shiftF_eq, wrapF_eq, intArith, shift, eqVal, bound, asNat_cast, cond_true, cond_false, BEq.rfl, beq_self_eq_true, evalParts, fillParts, AV.cells, AV.ofCells, XV.av, AV.xv, List.length_cons, List.length_nil, zeros, patch, setMany, List.nil_append, List.cons_append, Nat.ble, Nat.add_eq, Nat.zero_add, Nat.add_zero, Nat.reduceAdd, Nat.reduceMul, Nat.reduceSub, Nat.ble_eq, Nat.reduceLeDiff, Nat.reduceBEq, Int.reduceBEq, Int.reduceNeg, Bool.and_true, Bool.and_false, Bool.true_and, Bool.false_and, Bool.not_true, Bool.not_false, Bool.true_eq_false, Bool.false_eq_true, Int.reduceLT, Int.reduceLE, Int.reduceGT, Int.reduceGE, decide_true, decide_false, Bool.not_eq_true, loopN_norm, loopN_exit, tf, ft, ff, ev_dreg, dregK_nil, dregK_cons, dregE_true, dregP_some, dregX_some, d_mov, d_bin, d_eq, d_pick, d_un, d_conv, d_b2s, d_len, d_load, d_iaddr, d_slice, d_ext, d_call, d_store, chk_done, chk_none, chk_some, chkG_true, chkG_false, chkOne_nil, chkOne_cons, chkH_some, chkV_same, stage_none, stage_some, look_hit, look_miss, news_nil, wb_cons, wb_nil, skip0, List.reverse_cons, List.reverse_nil, ly2, v1, v2, p_iaddr, p_load, m1, m2, Nat.mul_one, k1, decide_eq_true hng]
          refine ⟨_, rfl, by simp, h', he, hnx, .inr ⟨?_, _, _, _, rfl⟩⟩
          rw [List.any_eq_true]
          exact ⟨hv[i], List.getElem_mem _, by simpa using hng⟩
        · left
          refine ⟨hlt, ?_⟩
          have hsi : l[i]? = some (icell (sh[i]'(by omega))) := by rw [hj2 i (Nat.le_refl _)]; simp [blen', hlt]
          have k2 : h'.read b i 1 = some [.int .i64 (sh[i]'(by omega))] := read_cells hgl hsi
          have hs1 := hbnd (sh[i]'(by omega)) (List.getElem_mem _)
          have hh1 := hw hv[i] (List.getElem_mem _)
          have v3 : IntKind.i64.wrap (sh[i]'(by omega) - hv[i]) = sh[i]'(by omega) - hv[i] := wrapI (by omega) (by omega)
          have S := write_one (v := .int .i64 (sh[i]'(by omega) - hv[i])) hgl (show i < l.length by omega)
          simp only [enter_eq, ev_seq, seqK_norm, seqK_exit, seqK_ret, ev_reg, ev_cond, condK_true, condK_false, ev_block, blockK_norm, blockK_ret, blockK_exit, ev_loop, ev_skip, ev_exit, ev_ret, regK_cons, regK_nil, guard_none, guard_some, regG_true, regG_false, regO_some, op_mov, op_conv, op_bin, op_bsl, op_box, op_mks, op_s2b, op_pick, op_un, op_eq, op_len, op_ext, op_load, op_iaddr, op_slice, op_b2s, op_idxS, op_mx, op_mn, op_call, op_store, op_app, op_copy, args_eq, result_one', rv_loc, finish_norm, finish_ret, outK_some, keep_true, keep_false, keep_nil, p_bin, p_pick, p_un, p_eq, p_conv, evNew, pureK_some, newK_some, X.eval, set_none, set_some, List.map_cons, List.map_nil, List.getD_cons_zero, List.getD_cons_succ, List.getD_nil, List.set_cons_zero, List.set_cons_succ, binCV, unCV, isShift, intArithF_eq, shiftF_eq, wrapF_eq, intArith, shift, eqVal, bound, asNat_cast, cond_true, cond_false, BEq.rfl, beq_self_eq_true, evalParts, fillParts, AV.cells, AV.ofCells, XV.av, AV.xv, List.length_cons, List.length_nil, zeros, patch, setMany, List.nil_append, List.cons_append, Nat.ble, Nat.add_eq, Nat.zero_add, Nat.add_zero, Nat.reduceAdd, Nat.reduceMul, Nat.reduceSub, Nat.ble_eq, Nat.reduceLeDiff, Nat.reduceBEq, Int.reduceBEq, Int.reduceNeg, Bool.and_true, Bool.and_false, Bool.true_and, Bool.false_and, Bool.not_true, Bool.not_false, Bool.true_eq_false, Bool.false_eq_true, Int.reduceLT, Int.reduceLE, Int.reduceGT, Int.reduceGE, decide_true, decide_false, Bool.not_eq_true, loopN_norm, loopN_exit, tf, ft, ff, ev_dreg, dregK_nil, dregK_cons, dregE_true, dregP_some, dregX_some, d_mov, d_bin, d_eq, d_pick, d_un, d_conv, d_b2s, d_len, d_load, d_iaddr, d_slice, d_ext, d_call, d_store, chk_done, chk_none, chk_some, chkG_true, chkG_false, chkOne_nil, chkOne_cons, chkH_some, chkV_same, stage_none, stage_some, look_hit, look_miss, news_nil, wb_cons, wb_nil, skip0, List.reverse_cons, List.reverse_nil, ly2, v1, v2, p_iaddr, p_load, m1, m2, Nat.mul_one, k1, k2, v3, decide_eq_false hng, evEff, S]
          refine ⟨_, _, rfl, he.put hb1 _, hnx, ⟨_, get_put_at, by simpa using hl, fun j hji => ?_, fun j hji => ?_⟩, fun j hj hji => ?_, rfl⟩
          · by_cases e : j = i
            · subst e; rw [List.getElem?_set_self (by omega)]; simp [icell, hlt, blen']
            · rw [List.getElem?_set_ne (by omega)]; exact hj1 j (by omega)
          · rw [List.getElem?_set_ne (by omega)]; exact hj2 j (by omega)
          · by_cases e : j = i
            · subst e; exact hng
            · exact hneg j hj (by omega)
      · right
        have hin : i = hv.length := by omega
        subst hin
        have v1 : decide ((hv.length : Int) < (hv.length : Int)) = false := geNat (Nat.le_refl _)
        simp only [enter_eq, ev_seq, seqK_norm, seqK_exit, seqK_ret, ev_reg, ev_cond, condK_true, condK_false, ev_block, blockK_norm, blockK_ret, blockK_exit, ev_loop, ev_skip, ev_exit, ev_ret, regK_cons, regK_nil, guard_none, guard_some, regG_true, regG_false, regO_some, op_mov, op_conv, op_bin, op_bsl, op_box, op_mks, op_s2b, op_pick, op_un, op_eq, op_len, op_ext, op_load, op_iaddr, op_slice, op_b2s, op_idxS, op_mx, op_mn, op_call, op_store, op_app, op_copy, args_eq, result_one', rv_loc, finish_norm, finish_ret, outK_some, keep_true, keep_false, keep_nil, p_bin, p_pick, p_un, p_eq, p_conv, evNew, pureK_some, newK_some, X.eval, set_none, set_some, List.map_cons, List.map_nil, List.getD_cons_zero, List.getD_cons_succ, List.getD_nil, List.set_cons_zero, List.set_cons_succ, binCV, unCV, isShift, intArithF_eq, shiftF_eq, wrapF_eq, intArith, shift, eqVal, bound, asNat_cast, cond_true, cond_false, BEq.rfl, beq_self_eq_true, evalParts, fillParts, AV.cells, AV.ofCells, XV.av, AV.xv, List.length_cons, List.length_nil, zeros, patch, setMany, List.nil_append, List.cons_append, Nat.ble, Nat.add_eq, Nat.zero_add, Nat.add_zero, Nat.reduceAdd, Nat.reduceMul, Nat.reduceSub, Nat.ble_eq, Nat.reduceLeDiff, Nat.reduceBEq, Int.reduceBEq, Int.reduceNeg, Bool.and_true, Bool.and_false, Bool.true_and, Bool.false_and, Bool.not_true, Bool.not_false, Bool.true_eq_false, Bool.false_eq_true, Int.reduceLT, Int.reduceLE, Int.reduceGT, Int.reduceGE, decide_true, decide_false, Bool.not_eq_true, loopN_norm, loopN_exit, tf, ft, ff, ly2, v1]
        refine ⟨_, rfl, by simp, h', he, hnx, .inl ⟨?_, ⟨_, _, _, _, rfl⟩, ?_⟩⟩
        · rw [List.any_eq_false]
          intro v hv'
          obtain ⟨j, hj, rfl⟩ := List.getElem_of_mem hv'
          simpa using hneg j hj hj
        · rw [hgl]
          congr 2
          apply List.ext_getElem?
          intro j
          rcases Nat.lt_or_ge j hv.length with hj | hj
          · exact hj1 j hj
          · rw [List.getElem?_eq_none (by omega), List.getElem?_eq_none (by simp; omega)]
    obtain ⟨r, hr, h', he, hnx, ⟨hng, ⟨a0, a1, a2, l, rfl⟩, hg'⟩ | ⟨hng, a0, a1, l, rfl⟩⟩ := L [.c x, .c (.int .i64 n), .c .nils, .c (.sl b 0 sh.length c), .c (.int .i64 0), .tup [], .tup []] rfl
    · rw [if_neg (by rw [hng]; simp)]
      simp only [enter_eq, ev_seq, seqK_norm, seqK_exit, seqK_ret, ev_reg, ev_cond, condK_true, condK_false, ev_block, blockK_norm, blockK_ret, blockK_exit, ev_loop, ev_skip, ev_exit, ev_ret, regK_cons, regK_nil, guard_none, guard_some, regG_true, regG_false, regO_some, op_mov, op_conv, op_bin, op_bsl, op_box, op_mks, op_s2b, op_pick, op_un, op_eq, op_len, op_ext, op_load, op_iaddr, op_slice, op_b2s, op_idxS, op_mx, op_mn, op_call, op_store, op_app, op_copy, args_eq, result_one', rv_loc, finish_norm, finish_ret, outK_some, keep_true, keep_false, keep_nil, p_bin, p_pick, p_un, p_eq, p_conv, evNew, pureK_some, newK_some, X.eval, set_none, set_some, List.map_cons, List.map_nil, List.getD_cons_zero, List.getD_cons_succ, List.getD_nil, List.set_cons_zero, List.set_cons_succ, binCV, unCV, isShift, intArithF_eq, shiftF_eq, wrapF_eq, intArith, shift, eqVal, bound, asNat_cast, cond_true, cond_false, BEq.rfl, beq_self_eq_true, evalParts, fillParts, AV.cells, AV.ofCells, XV.av, AV.xv, List.length_cons, List.length_nil, zeros, patch, setMany, List.nil_append, List.cons_append, Nat.ble, Nat.add_eq, Nat.zero_add, Nat.add_zero, Nat.reduceAdd, Nat.reduceMul, Nat.reduceSub, Nat.ble_eq, Nat.reduceLeDiff, Nat.reduceBEq, Int.reduceBEq, Int.reduceNeg, Bool.and_true, Bool.and_false, Bool.true_and, Bool.false_and, Bool.not_true, Bool.not_false, Bool.true_eq_false, Bool.false_eq_true, Int.reduceLT, Int.reduceLE, Int.reduceGT, Int.reduceGE, decide_true, decide_false, Bool.not_eq_true, loopN_norm, loopN_exit, tf, ft, ff, lx, ly2, e1, hr, blockK_exit_eq]
      refine ⟨_, _, rfl, .inr ⟨b, c, by simp [blen'], hg', hb1, by omega⟩, he⟩
    · rw [if_pos hng]
      simp only [enter_eq, ev_seq, seqK_norm, seqK_exit, seqK_ret, ev_reg, ev_cond, condK_true, condK_false, ev_block, blockK_norm, blockK_ret, blockK_exit, ev_loop, ev_skip, ev_exit, ev_ret, regK_cons, regK_nil, guard_none, guard_some, regG_true, regG_false, regO_some, op_mov, op_conv, op_bin, op_bsl, op_box, op_mks, op_s2b, op_pick, op_un, op_eq, op_len, op_ext, op_load, op_iaddr, op_slice, op_b2s, op_idxS, op_mx, op_mn, op_call, op_store, op_app, op_copy, args_eq, result_one', rv_loc, finish_norm, finish_ret, outK_some, keep_true, keep_false, keep_nil, p_bin, p_pick, p_un, p_eq, p_conv, evNew, pureK_some, newK_some, X.eval, set_none, set_some, List.map_cons, List.map_nil, List.getD_cons_zero, List.getD_cons_succ, List.getD_nil, List.set_cons_zero, List.set_cons_succ, binCV, unCV, isShift, intArithF_eq, shiftF_eq, wrapF_eq, intArith, shift, eqVal, bound, asNat_cast, cond_true, cond_false, BEq.rfl, beq_self_eq_true, evalParts, fillParts, AV.cells, AV.ofCells, XV.av, AV.xv, List.length_cons, List.length_nil, zeros, patch, setMany, List.nil_append, List.cons_append, Nat.ble, Nat.add_eq, Nat.zero_add, Nat.add_zero, Nat.reduceAdd, Nat.reduceMul, Nat.reduceSub, Nat.ble_eq, Nat.reduceLeDiff, Nat.reduceBEq, Int.reduceBEq, Int.reduceNeg, Bool.and_true, Bool.and_false, Bool.true_and, Bool.false_and, Bool.not_true, Bool.not_false, Bool.true_eq_false, Bool.false_eq_true, Int.reduceLT, Int.reduceLE, Int.reduceGT, Int.reduceGE, decide_true, decide_false, Bool.not_eq_true, loopN_norm, loopN_exit, tf, ft, ff, lx, ly2, e1, hr, blockK_ret]
      exact ⟨_, _, rfl, .inl ⟨rfl, rfl⟩, he⟩
end
end Lav
