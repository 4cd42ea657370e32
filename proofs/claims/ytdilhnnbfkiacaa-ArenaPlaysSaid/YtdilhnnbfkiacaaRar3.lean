/-
  Layer 10: the document's arena: taking, setting, dropping, retiring.
-/
import Derived.Test.YtdilhnnbfkiacaaRar2
set_option maxRecDepth 100000
set_option linter.unusedSimpArgs false
namespace Lav
open Go (IntKind)

theorem p_slice1 {loc vals : List AV} {h : Heap} {i q n : Nat} : evPure loc (.c (.sl i q (n + 1) (.dy 1)) :: vals) h (.slice 1 (.val 0) (some (.k (.c (.int .i64 1)))) none none) = some (.c (.sl i (q + 1) n (.dy 1))) := by
  have b1 : Nat.ble 1 (n + 1) = true := Nat.ble_eq_true_of_le (by omega)
  have b2 : Nat.ble (n + 1) (n + 1) = true := Nat.ble_eq_true_of_le (Nat.le_refl _)
  have a1 : asNat (.c (.int .i64 1)) = some 1 := rfl
  simp only [evPure, X.eval, List.getD_cons_zero, bound, a1, b1, b2, Bool.and_true, BEq.rfl, cond_true, Nat.mul_one, Nat.add_sub_cancel]

section
variable {N d : Nat} {h : Heap} {p : Nat} {x y v : CV} {fs : List Fm} {o : List Int} {S : List (List Nat)}

/-- Bodies anew. -/
theorem RA.body (A : RA h p x y v fs o S) {i : Nat} (hi : i < fs.length) : ∃ sb, y = .sl sb 0 S.length (.dy 1) ∧ Nat.blt i S.length = true ∧ h.read sb i 1 = some [.str (S.getD i [])] ∧ ∀ t : List Nat, ∃ h', h.write sb i [.str t] = some h' ∧ RA h' p x y v fs o (S.set i t) ∧ ExtB (rown p x y v) h h' ∧ h'.next = h.next := by
  have hs : i < S.length := by rw [A.sl]; exact hi
  have bd := A.bd
  obtain ⟨hl, ⟨_, h0⟩ | ⟨sb, e, hg, _, hf⟩⟩ := A.bd
  · omega
  refine ⟨sb, e, bltT hs, read_cells hg (by simp [List.getD_eq_getElem?_getD, hs]), fun t => ?_⟩
  have hb : blk y = some sb := by rw [e]; rfl
  have w := write_one (o := i) (v := .str t) hg (by simpa using hs)
  have es : (S.map CV.str).set i (.str t) = (S.set i t).map CV.str := by simp
  rw [es] at w
  obtain ⟨n1, n2⟩ := A.yn sb hb
  have ee : ExtB [sb] h (h.put sb (.cells ((S.set i t).map .str))) := (ExtB.refl _ _).put (.inr (by simp)) _
  refine ⟨_, w, ⟨ee.at_ A.box A.pn (by simpa using fun h => n1 h.symm), A.pn, A.fr.keepB ee fun k hk hm => ?_, ⟨by simp, .inr ⟨sb, by rw [e]; simp, get_put_at, Nat.zero_le _, hf⟩⟩, by simp [A.sl], A.id.keepB ee fun k hk hm => ?_, A.vs, A.xn, A.yn, A.vn⟩, ee.mono fun k hk => mem_rown.2 (by simp at hk; simp [hk, hb]), rfl⟩
  · simp at hm; subst hm; exact (A.xn k hk).2.1 hb
  · simp at hm; subst hm; exact n2 hk

theorem rtake_ok (A : RA h p x y v fs o S) (sm : fs.length ≤ 32) (hfo : ∀ f ∈ o, ∃ i : Nat, f = (i : Int) ∧ i < fs.length) (g : Int) (z : CV) (hN : 100 ≤ N) :
    ∃ v' h', evCallT table 18 N (d + 2) 22 [.c (.ptr p 0), .c (.int .i64 g)] h = some (.c (.int .i64 (takeF fs o g z).1), h') ∧ RA h' p x y v' (takeF fs o g z).2.1 (takeF fs o g z).2.2 (if g < 0 ∨ g ≥ 48 ∨ 0 ≤ findF fs g ∨ o = [] then S else S.set (o.headD 0).toNat (strOf (List.replicate 16 0#8))) ∧ ExtB (rown p x y v) h h' ∧ YoungR h p x y v x y v' := by
  have same : ∀ k ∈ rown p x y v, k ∈ rown p x y v ∨ h.next ≤ k := fun k hk => .inl hk
  rw [evCallT_eq (F := ir22) rfl rfl rfl]
  unfold ir22
  rw [bodyK_eq]
  unfold takeF
  by_cases c1 : g < 0
  · have v1 : decide (g < 0) = true := decide_eq_true c1
    simp only [if_pos (show g < 0 ∨ g ≥ 48 ∨ 0 ≤ findF fs g from .inl c1), if_pos (show g < 0 ∨ g ≥ 48 ∨ 0 ≤ findF fs g ∨ o = [] from .inl c1)]
    simp only [enter_eq, ev_seq, seqK_norm, seqK_exit, seqK_ret, ev_reg, ev_cond, condK_true, condK_false, ev_block, blockK_norm, blockK_ret, blockK_exit, ev_loop, ev_skip, ev_exit, ev_ret, regK_cons, regK_nil, guard_none, guard_some, regG_true, regG_false, regO_some, op_mov, op_conv, op_bin, op_bsl, op_box, op_mks, op_s2b, op_pick, op_un, op_eq, op_len, op_ext, op_load, op_iaddr, op_slice, op_b2s, op_idxS, op_mx, op_mn, op_call, op_store, op_app, op_copy, args_eq, result_one', rv_loc, finish_norm, finish_ret, outK_some, keep_true, keep_false, keep_nil, p_bin, p_pick, p_un, p_eq, p_conv, evNew, pureK_some, newK_some, X.eval, set_none, set_some, List.map_cons, List.map_nil, List.getD_cons_zero, List.getD_cons_succ, List.getD_nil, List.set_cons_zero, List.set_cons_succ, binCV, unCV, isShift, intArithF_eq, shiftF_eq, wrapF_eq, intArith, shift, eqVal, bound, asNat_cast, cond_true, cond_false, BEq.rfl, beq_self_eq_true, evalParts, fillParts, AV.cells, AV.ofCells, XV.av, AV.xv, List.length_cons, List.length_nil, zeros, patch, setMany, List.nil_append, List.cons_append, Nat.ble, Nat.add_eq, Nat.zero_add, Nat.add_zero, Nat.reduceAdd, Nat.reduceMul, Nat.reduceSub, Nat.ble_eq, Nat.reduceLeDiff, Nat.reduceBEq, Int.reduceBEq, Int.reduceNeg, Bool.and_true, Bool.and_false, Bool.true_and, Bool.false_and, Bool.not_true, Bool.not_false, Bool.true_eq_false, Bool.false_eq_true, Int.reduceLT, Int.reduceLE, Int.reduceGT, Int.reduceGE, decide_true, decide_false, Bool.not_eq_true, loopN_norm, loopN_exit, tf, ft, ff, v1]
    exact ⟨v, h, rfl, A, ExtB.refl _ _, same⟩
  have v1 : decide (g < 0) = false := decide_eq_false c1
  by_cases c2 : g ≥ 48
  · have v2 : decide (g ≥ 48) = true := decide_eq_true c2
    simp only [if_pos (show g < 0 ∨ g ≥ 48 ∨ 0 ≤ findF fs g from .inr (.inl c2)), if_pos (show g < 0 ∨ g ≥ 48 ∨ 0 ≤ findF fs g ∨ o = [] from .inr (.inl c2))]
    simp only [enter_eq, ev_seq, seqK_norm, seqK_exit, seqK_ret, ev_reg, ev_cond, condK_true, condK_false, ev_block, blockK_norm, blockK_ret, blockK_exit, ev_loop, ev_skip, ev_exit, ev_ret, regK_cons, regK_nil, guard_none, guard_some, regG_true, regG_false, regO_some, op_mov, op_conv, op_bin, op_bsl, op_box, op_mks, op_s2b, op_pick, op_un, op_eq, op_len, op_ext, op_load, op_iaddr, op_slice, op_b2s, op_idxS, op_mx, op_mn, op_call, op_store, op_app, op_copy, args_eq, result_one', rv_loc, finish_norm, finish_ret, outK_some, keep_true, keep_false, keep_nil, p_bin, p_pick, p_un, p_eq, p_conv, evNew, pureK_some, newK_some, X.eval, set_none, set_some, List.map_cons, List.map_nil, List.getD_cons_zero, List.getD_cons_succ, List.getD_nil, List.set_cons_zero, List.set_cons_succ, binCV, unCV, isShift, intArithF_eq, shiftF_eq, wrapF_eq, intArith, shift, eqVal, bound, asNat_cast, cond_true, cond_false, BEq.rfl, beq_self_eq_true, evalParts, fillParts, AV.cells, AV.ofCells, XV.av, AV.xv, List.length_cons, List.length_nil, zeros, patch, setMany, List.nil_append, List.cons_append, Nat.ble, Nat.add_eq, Nat.zero_add, Nat.add_zero, Nat.reduceAdd, Nat.reduceMul, Nat.reduceSub, Nat.ble_eq, Nat.reduceLeDiff, Nat.reduceBEq, Int.reduceBEq, Int.reduceNeg, Bool.and_true, Bool.and_false, Bool.true_and, Bool.false_and, Bool.not_true, Bool.not_false, Bool.true_eq_false, Bool.false_eq_true, Int.reduceLT, Int.reduceLE, Int.reduceGT, Int.reduceGE, decide_true, decide_false, Bool.not_eq_true, loopN_norm, loopN_exit, tf, ft, ff, v1, v2]
    exact ⟨v, h, rfl, A, ExtB.refl _ _, same⟩
  have v2 : decide (g ≥ 48) = false := decide_eq_false c2
  have e1 := rfind_ok (N := N) (d := d) A sm g hN
  by_cases c3 : 0 ≤ findF fs g
  · have v3 : decide (findF fs g ≥ 0) = true := decide_eq_true c3
    simp only [if_pos (show g < 0 ∨ g ≥ 48 ∨ 0 ≤ findF fs g from .inr (.inr c3)), if_pos (show g < 0 ∨ g ≥ 48 ∨ 0 ≤ findF fs g ∨ o = [] from .inr (.inr (.inl c3)))]
    simp only [enter_eq, ev_seq, seqK_norm, seqK_exit, seqK_ret, ev_reg, ev_cond, condK_true, condK_false, ev_block, blockK_norm, blockK_ret, blockK_exit, ev_loop, ev_skip, ev_exit, ev_ret, regK_cons, regK_nil, guard_none, guard_some, regG_true, regG_false, regO_some, op_mov, op_conv, op_bin, op_bsl, op_box, op_mks, op_s2b, op_pick, op_un, op_eq, op_len, op_ext, op_load, op_iaddr, op_slice, op_b2s, op_idxS, op_mx, op_mn, op_call, op_store, op_app, op_copy, args_eq, result_one', rv_loc, finish_norm, finish_ret, outK_some, keep_true, keep_false, keep_nil, p_bin, p_pick, p_un, p_eq, p_conv, evNew, pureK_some, newK_some, X.eval, set_none, set_some, List.map_cons, List.map_nil, List.getD_cons_zero, List.getD_cons_succ, List.getD_nil, List.set_cons_zero, List.set_cons_succ, binCV, unCV, isShift, intArithF_eq, shiftF_eq, wrapF_eq, intArith, shift, eqVal, bound, asNat_cast, cond_true, cond_false, BEq.rfl, beq_self_eq_true, evalParts, fillParts, AV.cells, AV.ofCells, XV.av, AV.xv, List.length_cons, List.length_nil, zeros, patch, setMany, List.nil_append, List.cons_append, Nat.ble, Nat.add_eq, Nat.zero_add, Nat.add_zero, Nat.reduceAdd, Nat.reduceMul, Nat.reduceSub, Nat.ble_eq, Nat.reduceLeDiff, Nat.reduceBEq, Int.reduceBEq, Int.reduceNeg, Bool.and_true, Bool.and_false, Bool.true_and, Bool.false_and, Bool.not_true, Bool.not_false, Bool.true_eq_false, Bool.false_eq_true, Int.reduceLT, Int.reduceLE, Int.reduceGT, Int.reduceGE, decide_true, decide_false, Bool.not_eq_true, loopN_norm, loopN_exit, tf, ft, ff, v1, v2, v3, e1]
    exact ⟨v, h, rfl, A, ExtB.refl _ _, same⟩
  have v3 : decide (findF fs g ≥ 0) = false := decide_eq_false (by omega)
  have r2 := A.r2
  have lv := A.lv
  cases o with
  | nil =>
    rw [if_neg (show ¬ (g < 0 ∨ g ≥ 48 ∨ 0 ≤ findF fs g) by omega), if_pos (show g < 0 ∨ g ≥ 48 ∨ 0 ≤ findF fs g ∨ ([] : List Int) = [] from .inr (.inr (.inr rfl)))]
    have lv' : ∀ loc vals H, evPure loc (.c v :: vals) H (.len .sl (.val 0)) = some (.c (.int .i64 0)) := lv
    simp only [enter_eq, ev_seq, seqK_norm, seqK_exit, seqK_ret, ev_reg, ev_cond, condK_true, condK_false, ev_block, blockK_norm, blockK_ret, blockK_exit, ev_loop, ev_skip, ev_exit, ev_ret, regK_cons, regK_nil, guard_none, guard_some, regG_true, regG_false, regO_some, op_mov, op_conv, op_bin, op_bsl, op_box, op_mks, op_s2b, op_pick, op_un, op_eq, op_len, op_ext, op_load, op_iaddr, op_slice, op_b2s, op_idxS, op_mx, op_mn, op_call, op_store, op_app, op_copy, args_eq, result_one', rv_loc, finish_norm, finish_ret, outK_some, keep_true, keep_false, keep_nil, p_bin, p_pick, p_un, p_eq, p_conv, evNew, pureK_some, newK_some, X.eval, set_none, set_some, List.map_cons, List.map_nil, List.getD_cons_zero, List.getD_cons_succ, List.getD_nil, List.set_cons_zero, List.set_cons_succ, binCV, unCV, isShift, intArithF_eq, shiftF_eq, wrapF_eq, intArith, shift, eqVal, bound, asNat_cast, cond_true, cond_false, BEq.rfl, beq_self_eq_true, evalParts, fillParts, AV.cells, AV.ofCells, XV.av, AV.xv, List.length_cons, List.length_nil, zeros, patch, setMany, List.nil_append, List.cons_append, Nat.ble, Nat.add_eq, Nat.zero_add, Nat.add_zero, Nat.reduceAdd, Nat.reduceMul, Nat.reduceSub, Nat.ble_eq, Nat.reduceLeDiff, Nat.reduceBEq, Int.reduceBEq, Int.reduceNeg, Bool.and_true, Bool.and_false, Bool.true_and, Bool.false_and, Bool.not_true, Bool.not_false, Bool.true_eq_false, Bool.false_eq_true, Int.reduceLT, Int.reduceLE, Int.reduceGT, Int.reduceGE, decide_true, decide_false, Bool.not_eq_true, loopN_norm, loopN_exit, tf, ft, ff, v1, v2, v3, e1, op_nilchk, p_nilchk, op_faddr, p_faddr, p_load, r2, AV.ofCells, lv']
    exact ⟨v, h, rfl, A, ExtB.refl _ _, same⟩
  | cons f o' =>
    obtain ⟨i, rfl, hi⟩ := hfo f (by simp)
    simp only [if_neg (show ¬ (g < 0 ∨ g ≥ 48 ∨ 0 ≤ findF fs g) by omega), if_neg (show ¬ (g < 0 ∨ g ≥ 48 ∨ 0 ≤ findF fs g ∨ (i : Int) :: o' = []) by simp; omega), List.headD_cons, Int.toNat_natCast]
    obtain ⟨ib, q, rfl, hr, h1, w1, A1, x1, n1, sub⟩ := A.behead
    have an0 : asNat (.c (.int .i64 0)) = some 0 := rfl
    have mb : Nat.blt 0 (o'.length + 1) = true := bltT (by omega)
    have lv' : ∀ loc vals H, evPure loc (.c (.sl ib q (o'.length + 1) (.dy 1)) :: vals) H (.len .sl (.val 0)) = some (.c (.int .i64 ((o'.length + 1 : Nat) : Int))) := fun _ _ _ => rfl
    have v4 : (((o'.length + 1 : Nat) : Int) == 0) = false := by simp only [beq_eq_false_iff_ne, ne_eq]; omega
    obtain ⟨fb, rfl, _, _, T⟩ := A1.at_ hi
    have q0 := A1.r0
    have m1 : Nat.blt i fs.length = true := bltT hi
    obtain ⟨h2, w2, A2, x2, n2⟩ := A1.store hi rfl ⟨1, g, 0, false, z⟩
    have q1 := A2.r1
    obtain ⟨h3, e3, x3⟩ := rzeros_ok (N := N) (d := d) h2
    have A3 := A2.ext' x3
    have q2 := A3.r1
    obtain ⟨sb, rfl, m2, _, hw⟩ := A3.body (i := i) (by simp; exact hi)
    obtain ⟨h4, w4, A4, x4, n4⟩ := hw (strOf (List.replicate 16 0#8))
    simp only [enter_eq, ev_seq, seqK_norm, seqK_exit, seqK_ret, ev_reg, ev_cond, condK_true, condK_false, ev_block, blockK_norm, blockK_ret, blockK_exit, ev_loop, ev_skip, ev_exit, ev_ret, regK_cons, regK_nil, guard_none, guard_some, regG_true, regG_false, regO_some, op_mov, op_conv, op_bin, op_bsl, op_box, op_mks, op_s2b, op_pick, op_un, op_eq, op_len, op_ext, op_load, op_iaddr, op_slice, op_b2s, op_idxS, op_mx, op_mn, op_call, op_store, op_app, op_copy, args_eq, result_one', rv_loc, finish_norm, finish_ret, outK_some, keep_true, keep_false, keep_nil, p_bin, p_pick, p_un, p_eq, p_conv, evNew, pureK_some, newK_some, X.eval, set_none, set_some, List.map_cons, List.map_nil, List.getD_cons_zero, List.getD_cons_succ, List.getD_nil, List.set_cons_zero, List.set_cons_succ, binCV, unCV, isShift, intArithF_eq, shiftF_eq, wrapF_eq, intArith, shift, eqVal, bound, asNat_cast, cond_true, cond_false, BEq.rfl, beq_self_eq_true, evalParts, fillParts, AV.cells, AV.ofCells, XV.av, AV.xv, List.length_cons, List.length_nil, zeros, patch, setMany, List.nil_append, List.cons_append, Nat.ble, Nat.add_eq, Nat.zero_add, Nat.add_zero, Nat.reduceAdd, Nat.reduceMul, Nat.reduceSub, Nat.ble_eq, Nat.reduceLeDiff, Nat.reduceBEq, Int.reduceBEq, Int.reduceNeg, Bool.and_true, Bool.and_false, Bool.true_and, Bool.false_and, Bool.not_true, Bool.not_false, Bool.true_eq_false, Bool.false_eq_true, Int.reduceLT, Int.reduceLE, Int.reduceGT, Int.reduceGE, decide_true, decide_false, Bool.not_eq_true, loopN_norm, loopN_exit, tf, ft, ff, ev_dreg, dregK_nil, dregK_cons, dregE_true, dregP_some, dregX_some, d_mov, d_bin, d_eq, d_pick, d_un, d_conv, d_b2s, d_len, d_load, d_iaddr, d_slice, d_ext, d_call, d_store, chk_done, chk_none, chk_some, chkG_true, chkG_false, chkOne_nil, chkOne_cons, chkH_some, chkV_same, stage_none, stage_some, look_hit, look_miss, news_nil, wb_cons, wb_nil, skip0, List.reverse_cons, List.reverse_nil, v1, v2, v3, v4, e1, op_nilchk, p_nilchk, d_nilchk, d_faddr, op_faddr, p_faddr, p_load, r2, AV.ofCells, lv', an0, mb, Nat.zero_mul, Nat.add_zero, hr, p_slice1, evEff, w1, q0, op_build, p_build', p_iaddr, m1, w2, q1, e3, q2, m2, Nat.mul_one, Nat.zero_add, w4]
    refine ⟨_, h4, rfl, A4, ((x1.trans (x2.mono sub)).trans (x3.b _)).trans (x4.mono sub), fun k hk => .inl (sub k hk)⟩

theorem rretire_ok (A : RA h p x y v fs o S) (ok : OKs fs) (hfo : ∀ f ∈ o, ∃ (i : Nat) (hi : i < fs.length), f = (i : Int) ∧ fs[i].st = 0) :
    ∃ v' h', evCallT table 18 N (d + 1) 30 [.c (.ptr p 0)] h = some (.c (.int .i64 (retireF fs o).1), h') ∧ RA h' p x y v' (retireF fs o).2.1 (retireF fs o).2.2 S ∧ ExtB (rown p x y v) h h' ∧ YoungR h p x y v x y v' := by
  have same : ∀ k ∈ rown p x y v, k ∈ rown p x y v ∨ h.next ≤ k := fun k hk => .inl hk
  have r2 := A.r2
  have lv := A.lv
  rw [evCallT_eq (F := ir30) rfl rfl rfl]
  unfold ir30
  rw [bodyK_eq]
  cases o with
  | nil =>
    have lv' : ∀ loc vals H, evPure loc (.c v :: vals) H (.len .sl (.val 0)) = some (.c (.int .i64 0)) := lv
    simp only [enter_eq, ev_seq, seqK_norm, seqK_exit, seqK_ret, ev_reg, ev_cond, condK_true, condK_false, ev_block, blockK_norm, blockK_ret, blockK_exit, ev_loop, ev_skip, ev_exit, ev_ret, regK_cons, regK_nil, guard_none, guard_some, regG_true, regG_false, regO_some, op_mov, op_conv, op_bin, op_bsl, op_box, op_mks, op_s2b, op_pick, op_un, op_eq, op_len, op_ext, op_load, op_iaddr, op_slice, op_b2s, op_idxS, op_mx, op_mn, op_call, op_store, op_app, op_copy, args_eq, result_one', rv_loc, finish_norm, finish_ret, outK_some, keep_true, keep_false, keep_nil, p_bin, p_pick, p_un, p_eq, p_conv, evNew, pureK_some, newK_some, X.eval, set_none, set_some, List.map_cons, List.map_nil, List.getD_cons_zero, List.getD_cons_succ, List.getD_nil, List.set_cons_zero, List.set_cons_succ, binCV, unCV, isShift, intArithF_eq, shiftF_eq, wrapF_eq, intArith, shift, eqVal, bound, asNat_cast, cond_true, cond_false, BEq.rfl, beq_self_eq_true, evalParts, fillParts, AV.cells, AV.ofCells, XV.av, AV.xv, List.length_cons, List.length_nil, zeros, patch, setMany, List.nil_append, List.cons_append, Nat.ble, Nat.add_eq, Nat.zero_add, Nat.add_zero, Nat.reduceAdd, Nat.reduceMul, Nat.reduceSub, Nat.ble_eq, Nat.reduceLeDiff, Nat.reduceBEq, Int.reduceBEq, Int.reduceNeg, Bool.and_true, Bool.and_false, Bool.true_and, Bool.false_and, Bool.not_true, Bool.not_false, Bool.true_eq_false, Bool.false_eq_true, Int.reduceLT, Int.reduceLE, Int.reduceGT, Int.reduceGE, decide_true, decide_false, Bool.not_eq_true, loopN_norm, loopN_exit, tf, ft, ff, op_nilchk, p_nilchk, op_faddr, p_faddr, p_load, r2, AV.ofCells, lv']
    exact ⟨v, h, rfl, A, ExtB.refl _ _, same⟩
  | cons f o' =>
    obtain ⟨i, hi, rfl, h0⟩ := hfo f (by simp)
    have k := (ok i fs[i] (List.getElem?_eq_getElem hi)).n (by omega)
    obtain ⟨ib, q, rfl, hr, h1, w1, A1, x1, n1, sub⟩ := A.behead
    have an0 : asNat (.c (.int .i64 0)) = some 0 := rfl
    have mb : Nat.blt 0 (o'.length + 1) = true := bltT (by omega)
    have lv' : ∀ loc vals H, evPure loc (.c (.sl ib q (o'.length + 1) (.dy 1)) :: vals) H (.len .sl (.val 0)) = some (.c (.int .i64 ((o'.length + 1 : Nat) : Int))) := fun _ _ _ => rfl
    have v4 : (((o'.length + 1 : Nat) : Int) == 0) = false := by simp only [beq_eq_false_iff_ne, ne_eq]; omega
    obtain ⟨fb, rfl, _, _, T⟩ := A1.at_ hi
    have q0 := A1.r0
    have m1 : Nat.blt i fs.length = true := bltT hi
    obtain ⟨h2, w2, A2, x2, n2⟩ := A1.store hi rfl ⟨4, fs[i].pg, fs[i].pn, fs[i].dt, fs[i].y⟩
    have w2' : h1.write fb (i * 5) [.int .i64 4, .int .i64 (-1), .int .i64 0, .int .i64 0, .bool false] = some h2 := by
      rw [← w2, k.1, k.2.1, k.2.2]
    unfold retireF
    simp only [Int.toNat_natCast, List.getElem?_eq_getElem hi]
    simp only [enter_eq, ev_seq, seqK_norm, seqK_exit, seqK_ret, ev_reg, ev_cond, condK_true, condK_false, ev_block, blockK_norm, blockK_ret, blockK_exit, ev_loop, ev_skip, ev_exit, ev_ret, regK_cons, regK_nil, guard_none, guard_some, regG_true, regG_false, regO_some, op_mov, op_conv, op_bin, op_bsl, op_box, op_mks, op_s2b, op_pick, op_un, op_eq, op_len, op_ext, op_load, op_iaddr, op_slice, op_b2s, op_idxS, op_mx, op_mn, op_call, op_store, op_app, op_copy, args_eq, result_one', rv_loc, finish_norm, finish_ret, outK_some, keep_true, keep_false, keep_nil, p_bin, p_pick, p_un, p_eq, p_conv, evNew, pureK_some, newK_some, X.eval, set_none, set_some, List.map_cons, List.map_nil, List.getD_cons_zero, List.getD_cons_succ, List.getD_nil, List.set_cons_zero, List.set_cons_succ, binCV, unCV, isShift, intArithF_eq, shiftF_eq, wrapF_eq, intArith, shift, eqVal, bound, asNat_cast, cond_true, cond_false, BEq.rfl, beq_self_eq_true, evalParts, fillParts, AV.cells, AV.ofCells, XV.av, AV.xv, List.length_cons, List.length_nil, zeros, patch, setMany, List.nil_append, List.cons_append, Nat.ble, Nat.add_eq, Nat.zero_add, Nat.add_zero, Nat.reduceAdd, Nat.reduceMul, Nat.reduceSub, Nat.ble_eq, Nat.reduceLeDiff, Nat.reduceBEq, Int.reduceBEq, Int.reduceNeg, Bool.and_true, Bool.and_false, Bool.true_and, Bool.false_and, Bool.not_true, Bool.not_false, Bool.true_eq_false, Bool.false_eq_true, Int.reduceLT, Int.reduceLE, Int.reduceGT, Int.reduceGE, decide_true, decide_false, Bool.not_eq_true, loopN_norm, loopN_exit, tf, ft, ff, v4, op_nilchk, p_nilchk, op_faddr, p_faddr, p_load, r2, AV.ofCells, lv', an0, mb, Nat.zero_mul, Nat.add_zero, hr, p_slice1, evEff, w1, q0, op_build, p_build', p_iaddr, m1, Nat.zero_add, w2']
    exact ⟨_, h2, rfl, A2, x1.trans (x2.mono sub), fun k hk => .inl (sub k hk)⟩

theorem rdrop_ok (A : RA h p x y v fs o S) (ok : OKs fs) (f : Int) (hl : o.length < 1000) : ∃ v' h', evCallT table 18 N (d + 2) 28 [.c (.ptr p 0), .c (.int .i64 f)] h = some (.c (.int .i64 (dropF fs o f).1), h') ∧ RA h' p x y v' (dropF fs o f).2.1 (dropF fs o f).2.2 S ∧ ExtB (rown p x y v) h h' ∧ YoungR h p x y v x y v' := by
  have same : ∀ k ∈ rown p x y v, k ∈ rown p x y v ∨ h.next ≤ k := fun k hk => .inl hk
  have e1 := rused_ok (N := N) (d := d) A f
  rw [evCallT_eq (F := ir28) rfl rfl rfl]
  unfold ir28
  rw [bodyK_eq]
  unfold dropF
  cases e : usedF fs f with
  | none =>
    rw [e] at e1
    simp only [enter_eq, ev_seq, seqK_norm, seqK_exit, seqK_ret, ev_reg, ev_cond, condK_true, condK_false, ev_block, blockK_norm, blockK_ret, blockK_exit, ev_loop, ev_skip, ev_exit, ev_ret, regK_cons, regK_nil, guard_none, guard_some, regG_true, regG_false, regO_some, op_mov, op_conv, op_bin, op_bsl, op_box, op_mks, op_s2b, op_pick, op_un, op_eq, op_len, op_ext, op_load, op_iaddr, op_slice, op_b2s, op_idxS, op_mx, op_mn, op_call, op_store, op_app, op_copy, args_eq, result_one', rv_loc, finish_norm, finish_ret, outK_some, keep_true, keep_false, keep_nil, p_bin, p_pick, p_un, p_eq, p_conv, evNew, pureK_some, newK_some, X.eval, set_none, set_some, List.map_cons, List.map_nil, List.getD_cons_zero, List.getD_cons_succ, List.getD_nil, List.set_cons_zero, List.set_cons_succ, binCV, unCV, isShift, intArithF_eq, shiftF_eq, wrapF_eq, intArith, shift, eqVal, bound, asNat_cast, cond_true, cond_false, BEq.rfl, beq_self_eq_true, evalParts, fillParts, AV.cells, AV.ofCells, XV.av, AV.xv, List.length_cons, List.length_nil, zeros, patch, setMany, List.nil_append, List.cons_append, Nat.ble, Nat.add_eq, Nat.zero_add, Nat.add_zero, Nat.reduceAdd, Nat.reduceMul, Nat.reduceSub, Nat.ble_eq, Nat.reduceLeDiff, Nat.reduceBEq, Int.reduceBEq, Int.reduceNeg, Bool.and_true, Bool.and_false, Bool.true_and, Bool.false_and, Bool.not_true, Bool.not_false, Bool.true_eq_false, Bool.false_eq_true, Int.reduceLT, Int.reduceLE, Int.reduceGT, Int.reduceGE, decide_true, decide_false, Bool.not_eq_true, loopN_norm, loopN_exit, tf, ft, ff, e1, Option.isSome_none]
    exact ⟨v, h, rfl, A, ExtB.refl _ _, same⟩
  | some qq =>
    obtain ⟨i, g⟩ := qq
    rw [e] at e1
    obtain ⟨rfl, hi, rfl, h1⟩ := usedF_some e
    have k := (ok i fs[i] (List.getElem?_eq_getElem hi)).u h1
    obtain ⟨fb, rfl, _, _, T⟩ := A.at_ hi
    have r0 := A.r0
    have m1 : Nat.blt i fs.length = true := bltT hi
    have r1 := T.n
    by_cases h2 : 0 < fs[i].pn
    · have v1 : decide (fs[i].pn > 0) = true := decide_eq_true h2
      simp only [if_pos h2]
      simp only [enter_eq, ev_seq, seqK_norm, seqK_exit, seqK_ret, ev_reg, ev_cond, condK_true, condK_false, ev_block, blockK_norm, blockK_ret, blockK_exit, ev_loop, ev_skip, ev_exit, ev_ret, regK_cons, regK_nil, guard_none, guard_some, regG_true, regG_false, regO_some, op_mov, op_conv, op_bin, op_bsl, op_box, op_mks, op_s2b, op_pick, op_un, op_eq, op_len, op_ext, op_load, op_iaddr, op_slice, op_b2s, op_idxS, op_mx, op_mn, op_call, op_store, op_app, op_copy, args_eq, result_one', rv_loc, finish_norm, finish_ret, outK_some, keep_true, keep_false, keep_nil, p_bin, p_pick, p_un, p_eq, p_conv, evNew, pureK_some, newK_some, X.eval, set_none, set_some, List.map_cons, List.map_nil, List.getD_cons_zero, List.getD_cons_succ, List.getD_nil, List.set_cons_zero, List.set_cons_succ, binCV, unCV, isShift, intArithF_eq, shiftF_eq, wrapF_eq, intArith, shift, eqVal, bound, asNat_cast, cond_true, cond_false, BEq.rfl, beq_self_eq_true, evalParts, fillParts, AV.cells, AV.ofCells, XV.av, AV.xv, List.length_cons, List.length_nil, zeros, patch, setMany, List.nil_append, List.cons_append, Nat.ble, Nat.add_eq, Nat.zero_add, Nat.add_zero, Nat.reduceAdd, Nat.reduceMul, Nat.reduceSub, Nat.ble_eq, Nat.reduceLeDiff, Nat.reduceBEq, Int.reduceBEq, Int.reduceNeg, Bool.and_true, Bool.and_false, Bool.true_and, Bool.false_and, Bool.not_true, Bool.not_false, Bool.true_eq_false, Bool.false_eq_true, Int.reduceLT, Int.reduceLE, Int.reduceGT, Int.reduceGE, decide_true, decide_false, Bool.not_eq_true, loopN_norm, loopN_exit, tf, ft, ff, e1, Option.isSome_some, op_nilchk, p_nilchk, op_faddr, p_faddr, p_load, r0, AV.ofCells, p_iaddr, m1, r1, v1]
      exact ⟨v, h, rfl, A, ExtB.refl _ _, same⟩
    · have v1 : decide (fs[i].pn > 0) = false := decide_eq_false h2
      obtain ⟨h1', w1, A1, x1, n1⟩ := A.store hi rfl frZ
      have q2 := A1.r2
      obtain ⟨c1, h2', c2, h4, h5, a1, a2, q0, w5, A5, x5, y5⟩ := A1.behind (i : Int) (by exact hl) A1.lv
      have q2' : (h1'.new (.cells [])).read p 2 1 = some [v] := (((Ext.refl h1').new (.cells [])).read A1.pn).trans q2
      simp only [if_neg h2]
      simp only [enter_eq, ev_seq, seqK_norm, seqK_exit, seqK_ret, ev_reg, ev_cond, condK_true, condK_false, ev_block, blockK_norm, blockK_ret, blockK_exit, ev_loop, ev_skip, ev_exit, ev_ret, regK_cons, regK_nil, guard_none, guard_some, regG_true, regG_false, regO_some, op_mov, op_conv, op_bin, op_bsl, op_box, op_mks, op_s2b, op_pick, op_un, op_eq, op_len, op_ext, op_load, op_iaddr, op_slice, op_b2s, op_idxS, op_mx, op_mn, op_call, op_store, op_app, op_copy, args_eq, result_one', rv_loc, finish_norm, finish_ret, outK_some, keep_true, keep_false, keep_nil, p_bin, p_pick, p_un, p_eq, p_conv, evNew, pureK_some, newK_some, X.eval, set_none, set_some, List.map_cons, List.map_nil, List.getD_cons_zero, List.getD_cons_succ, List.getD_nil, List.set_cons_zero, List.set_cons_succ, binCV, unCV, isShift, intArithF_eq, shiftF_eq, wrapF_eq, intArith, shift, eqVal, bound, asNat_cast, cond_true, cond_false, BEq.rfl, beq_self_eq_true, evalParts, fillParts, AV.cells, AV.ofCells, XV.av, AV.xv, List.length_cons, List.length_nil, zeros, patch, setMany, List.nil_append, List.cons_append, Nat.ble, Nat.add_eq, Nat.zero_add, Nat.add_zero, Nat.reduceAdd, Nat.reduceMul, Nat.reduceSub, Nat.ble_eq, Nat.reduceLeDiff, Nat.reduceBEq, Int.reduceBEq, Int.reduceNeg, Bool.and_true, Bool.and_false, Bool.true_and, Bool.false_and, Bool.not_true, Bool.not_false, Bool.true_eq_false, Bool.false_eq_true, Int.reduceLT, Int.reduceLE, Int.reduceGT, Int.reduceGE, decide_true, decide_false, Bool.not_eq_true, loopN_norm, loopN_exit, tf, ft, ff, e1, Option.isSome_some, op_nilchk, p_nilchk, op_faddr, p_faddr, p_load, r0, AV.ofCells, p_iaddr, m1, r1, v1, op_build, p_build', evEff, Nat.zero_add, w1, q2', a1, a2, w5]
      exact ⟨_, h5, rfl, A5, x1.trans x5, fun k hk => (y5 k hk).imp id fun h => by have := x1.1; omega⟩

theorem p_sstr_hi {loc vals : List AV} {h : Heap} {X' Y : X} {s : List Nat} {n : Nat} (hx : X'.eval loc vals = .c (.str s)) (hy : asNat (Y.eval loc vals) = some n) (hn : n ≤ s.length) : evPure loc vals h (.sstr X' none (some Y)) = some (.c (.str (s.take n))) := by
  have b1 : Nat.ble 0 n = true := Nat.ble_eq_true_of_le (Nat.zero_le _)
  have b2 : Nat.ble n s.length = true := Nat.ble_eq_true_of_le hn
  simp only [evPure, hx, bound, hy, b1, b2, Bool.and_true, cond_true, List.drop_zero, Nat.sub_zero]
theorem p_sstr_lo {loc vals : List AV} {h : Heap} {X' Y : X} {s : List Nat} {n : Nat} (hx : X'.eval loc vals = .c (.str s)) (hy : asNat (Y.eval loc vals) = some n) (hn : n ≤ s.length) : evPure loc vals h (.sstr X' (some Y) none) = some (.c (.str (s.drop n))) := by
  have b1 : Nat.ble n s.length = true := Nat.ble_eq_true_of_le hn
  have b2 : Nat.ble s.length s.length = true := Nat.ble_eq_true_of_le (Nat.le_refl _)
  simp only [evPure, hx, bound, hy, b1, b2, Bool.and_true, cond_true]
  rw [List.take_of_length_le (by simp)]
theorem op_sstr {call : Nat → List AV → Heap → Option (AV × Heap)} {loc vals : List AV} {h : Heap} {x : X} {a b : Option X} : evOp loc vals call h (.sstr x a b) = pureK h (evPure loc vals h (.sstr x a b)) := rfl
theorem d_sstr {call : Nat → List AV → Heap → Option (AV × Heap)} {loc vals : List AV} {h cur : Heap} {n j k : Nat} {l r : List Inst} {ks : List (Nat × Heap)} {news : List (Nat × Nat × Blk)} {x : X} {a b : Option X} : dregG call n l loc h (.sstr x a b) r j k vals cur ks news (some true) = dregP call n l loc h r j k vals cur ks news (evPure loc vals cur (.sstr x a b)) := rfl

end
end Lav
