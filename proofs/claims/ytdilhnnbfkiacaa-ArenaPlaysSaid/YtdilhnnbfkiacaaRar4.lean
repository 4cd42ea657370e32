/-
  Layer 10: the document's arena: setting; one frame more; a new one.
-/
import Derived.Test.YtdilhnnbfkiacaaRar3
set_option maxRecDepth 100000
set_option linter.unusedSimpArgs false
namespace Lav
open Go (IntKind)

/-- Both have the same bodies. -/
def SB (fs : List Fm) (S : List (List Nat)) (B : Nat → List (BitVec 8)) : Prop := ∀ (i : Nat) (f : Fm), fs[i]? = some f → f.st = 1 → S.getD i [] = strOf (B i) ∧ (B i).length = 16
theorem strOf_take (a : List (BitVec 8)) (n : Nat) : strOf (a.take n) = (strOf a).take n := by simp [strOf]
theorem strOf_drop (a : List (BitVec 8)) (n : Nat) : strOf (a.drop n) = (strOf a).drop n := by simp [strOf]
theorem strOf_over (B bs : List (BitVec 8)) (off : Nat) : strOf (overB B bs off) = (strOf B).take off ++ strOf bs ++ (strOf B).drop (off + bs.length) := by
  unfold overB
  rw [strOf_app, strOf_app, strOf_take, strOf_drop]

section
variable {N d : Nat} {h : Heap} {p : Nat} {x y v : CV} {fs : List Fm} {o : List Int} {S : List (List Nat)} {B : Nat → List (BitVec 8)}

theorem rset_ok (A : RA h p x y v fs o S) (sb : SB fs S B) (f off : Int) (bs : List (BitVec 8)) (hb : bs.length < 1000000) :
    ∃ S' h', evCallT table 18 N (d + 2) 27 [.c (.ptr p 0), .c (.int .i64 f), .c (.int .i64 off), .c (.str (strOf bs))] h = some (.c (.int .i64 (setF fs B f off bs).1), h') ∧ RA h' p x y v (setF fs B f off bs).2.1 o S' ∧ ExtB (rown p x y v) h h' ∧ SB (setF fs B f off bs).2.1 S' (setF fs B f off bs).2.2 := by
  have e1 := rused_ok (N := N) (d := d) A f
  have ls : ∀ (loc vals : List AV) (H : Heap), evPure loc (.c (.str (strOf bs)) :: vals) H (.len .str (.val 0)) = some (.c (.int .i64 (bs.length : Int))) := fun _ _ _ => by
    show some (AV.c (.int .i64 (Int.ofNat (strOf bs).length))) = _
    rw [strOf_len]; rfl
  rw [evCallT_eq (F := ir27) rfl rfl rfl]
  unfold ir27
  rw [bodyK_eq]
  unfold setF
  cases e : usedF fs f with
  | none =>
    rw [e] at e1
    simp only [enter_eq, ev_seq, seqK_norm, seqK_exit, seqK_ret, ev_reg, ev_cond, condK_true, condK_false, ev_block, blockK_norm, blockK_ret, blockK_exit, ev_loop, ev_skip, ev_exit, ev_ret, regK_cons, regK_nil, guard_none, guard_some, regG_true, regG_false, regO_some, op_mov, op_conv, op_bin, op_bsl, op_box, op_mks, op_s2b, op_pick, op_un, op_eq, op_len, op_ext, op_load, op_iaddr, op_slice, op_b2s, op_idxS, op_mx, op_mn, op_call, op_store, op_app, op_copy, args_eq, result_one', rv_loc, finish_norm, finish_ret, outK_some, keep_true, keep_false, keep_nil, p_bin, p_pick, p_un, p_eq, p_conv, evNew, pureK_some, newK_some, X.eval, set_none, set_some, List.map_cons, List.map_nil, List.getD_cons_zero, List.getD_cons_succ, List.getD_nil, List.set_cons_zero, List.set_cons_succ, binCV, unCV, isShift, intArithF_eq, shiftF_eq, wrapF_eq, intArith, shift, eqVal, bound, asNat_cast, cond_true, cond_false, BEq.rfl, beq_self_eq_true, evalParts, fillParts, AV.cells, AV.ofCells, XV.av, AV.xv, List.length_cons, List.length_nil, zeros, patch, setMany, List.nil_append, List.cons_append, Nat.ble, Nat.add_eq, Nat.zero_add, Nat.add_zero, Nat.reduceAdd, Nat.reduceMul, Nat.reduceSub, Nat.ble_eq, Nat.reduceLeDiff, Nat.reduceBEq, Int.reduceBEq, Int.reduceNeg, Bool.and_true, Bool.and_false, Bool.true_and, Bool.false_and, Bool.not_true, Bool.not_false, Bool.true_eq_false, Bool.false_eq_true, Int.reduceLT, Int.reduceLE, Int.reduceGT, Int.reduceGE, decide_true, decide_false, Bool.not_eq_true, loopN_norm, loopN_exit, tf, ft, ff, e1, Option.isSome_none]
    exact ⟨S, h, rfl, A, ExtB.refl _ _, sb⟩
  | some qq =>
    obtain ⟨i, g⟩ := qq
    rw [e] at e1
    obtain ⟨rfl, hi, rfl, h1⟩ := usedF_some e
    by_cases c1 : off < 0
    · have v1 : decide (off < 0) = true := decide_eq_true c1
      simp only [if_pos (show off < 0 ∨ off > 16 ∨ (bs.length : Int) > 16 - off from .inl c1)]
      simp only [enter_eq, ev_seq, seqK_norm, seqK_exit, seqK_ret, ev_reg, ev_cond, condK_true, condK_false, ev_block, blockK_norm, blockK_ret, blockK_exit, ev_loop, ev_skip, ev_exit, ev_ret, regK_cons, regK_nil, guard_none, guard_some, regG_true, regG_false, regO_some, op_mov, op_conv, op_bin, op_bsl, op_box, op_mks, op_s2b, op_pick, op_un, op_eq, op_len, op_ext, op_load, op_iaddr, op_slice, op_b2s, op_idxS, op_mx, op_mn, op_call, op_store, op_app, op_copy, args_eq, result_one', rv_loc, finish_norm, finish_ret, outK_some, keep_true, keep_false, keep_nil, p_bin, p_pick, p_un, p_eq, p_conv, evNew, pureK_some, newK_some, X.eval, set_none, set_some, List.map_cons, List.map_nil, List.getD_cons_zero, List.getD_cons_succ, List.getD_nil, List.set_cons_zero, List.set_cons_succ, binCV, unCV, isShift, intArithF_eq, shiftF_eq, wrapF_eq, intArith, shift, eqVal, bound, asNat_cast, cond_true, cond_false, BEq.rfl, beq_self_eq_true, evalParts, fillParts, AV.cells, AV.ofCells, XV.av, AV.xv, List.length_cons, List.length_nil, zeros, patch, setMany, List.nil_append, List.cons_append, Nat.ble, Nat.add_eq, Nat.zero_add, Nat.add_zero, Nat.reduceAdd, Nat.reduceMul, Nat.reduceSub, Nat.ble_eq, Nat.reduceLeDiff, Nat.reduceBEq, Int.reduceBEq, Int.reduceNeg, Bool.and_true, Bool.and_false, Bool.true_and, Bool.false_and, Bool.not_true, Bool.not_false, Bool.true_eq_false, Bool.false_eq_true, Int.reduceLT, Int.reduceLE, Int.reduceGT, Int.reduceGE, decide_true, decide_false, Bool.not_eq_true, loopN_norm, loopN_exit, tf, ft, ff, e1, Option.isSome_some, v1]
      exact ⟨S, h, rfl, A, ExtB.refl _ _, sb⟩
    have v1 : decide (off < 0) = false := decide_eq_false c1
    by_cases c2 : off > 16
    · have v2 : decide (off > 16) = true := decide_eq_true c2
      simp only [if_pos (show off < 0 ∨ off > 16 ∨ (bs.length : Int) > 16 - off from .inr (.inl c2))]
      simp only [enter_eq, ev_seq, seqK_norm, seqK_exit, seqK_ret, ev_reg, ev_cond, condK_true, condK_false, ev_block, blockK_norm, blockK_ret, blockK_exit, ev_loop, ev_skip, ev_exit, ev_ret, regK_cons, regK_nil, guard_none, guard_some, regG_true, regG_false, regO_some, op_mov, op_conv, op_bin, op_bsl, op_box, op_mks, op_s2b, op_pick, op_un, op_eq, op_len, op_ext, op_load, op_iaddr, op_slice, op_b2s, op_idxS, op_mx, op_mn, op_call, op_store, op_app, op_copy, args_eq, result_one', rv_loc, finish_norm, finish_ret, outK_some, keep_true, keep_false, keep_nil, p_bin, p_pick, p_un, p_eq, p_conv, evNew, pureK_some, newK_some, X.eval, set_none, set_some, List.map_cons, List.map_nil, List.getD_cons_zero, List.getD_cons_succ, List.getD_nil, List.set_cons_zero, List.set_cons_succ, binCV, unCV, isShift, intArithF_eq, shiftF_eq, wrapF_eq, intArith, shift, eqVal, bound, asNat_cast, cond_true, cond_false, BEq.rfl, beq_self_eq_true, evalParts, fillParts, AV.cells, AV.ofCells, XV.av, AV.xv, List.length_cons, List.length_nil, zeros, patch, setMany, List.nil_append, List.cons_append, Nat.ble, Nat.add_eq, Nat.zero_add, Nat.add_zero, Nat.reduceAdd, Nat.reduceMul, Nat.reduceSub, Nat.ble_eq, Nat.reduceLeDiff, Nat.reduceBEq, Int.reduceBEq, Int.reduceNeg, Bool.and_true, Bool.and_false, Bool.true_and, Bool.false_and, Bool.not_true, Bool.not_false, Bool.true_eq_false, Bool.false_eq_true, Int.reduceLT, Int.reduceLE, Int.reduceGT, Int.reduceGE, decide_true, decide_false, Bool.not_eq_true, loopN_norm, loopN_exit, tf, ft, ff, e1, Option.isSome_some, v1, v2]
      exact ⟨S, h, rfl, A, ExtB.refl _ _, sb⟩
    have v2 : decide (off > 16) = false := decide_eq_false c2
    have v3 : IntKind.i64.wrap (16 - off) = 16 - off := wrapI (by omega) (by omega)
    by_cases c3 : (bs.length : Int) > 16 - off
    · have v4 : decide ((bs.length : Int) > 16 - off) = true := decide_eq_true c3
      simp only [if_pos (show off < 0 ∨ off > 16 ∨ (bs.length : Int) > 16 - off from .inr (.inr c3))]
      simp only [enter_eq, ev_seq, seqK_norm, seqK_exit, seqK_ret, ev_reg, ev_cond, condK_true, condK_false, ev_block, blockK_norm, blockK_ret, blockK_exit, ev_loop, ev_skip, ev_exit, ev_ret, regK_cons, regK_nil, guard_none, guard_some, regG_true, regG_false, regO_some, op_mov, op_conv, op_bin, op_bsl, op_box, op_mks, op_s2b, op_pick, op_un, op_eq, op_len, op_ext, op_load, op_iaddr, op_slice, op_b2s, op_idxS, op_mx, op_mn, op_call, op_store, op_app, op_copy, args_eq, result_one', rv_loc, finish_norm, finish_ret, outK_some, keep_true, keep_false, keep_nil, p_bin, p_pick, p_un, p_eq, p_conv, evNew, pureK_some, newK_some, X.eval, set_none, set_some, List.map_cons, List.map_nil, List.getD_cons_zero, List.getD_cons_succ, List.getD_nil, List.set_cons_zero, List.set_cons_succ, binCV, unCV, isShift, intArithF_eq, shiftF_eq, wrapF_eq, intArith, shift, eqVal, bound, asNat_cast, cond_true, cond_false, BEq.rfl, beq_self_eq_true, evalParts, fillParts, AV.cells, AV.ofCells, XV.av, AV.xv, List.length_cons, List.length_nil, zeros, patch, setMany, List.nil_append, List.cons_append, Nat.ble, Nat.add_eq, Nat.zero_add, Nat.add_zero, Nat.reduceAdd, Nat.reduceMul, Nat.reduceSub, Nat.ble_eq, Nat.reduceLeDiff, Nat.reduceBEq, Int.reduceBEq, Int.reduceNeg, Bool.and_true, Bool.and_false, Bool.true_and, Bool.false_and, Bool.not_true, Bool.not_false, Bool.true_eq_false, Bool.false_eq_true, Int.reduceLT, Int.reduceLE, Int.reduceGT, Int.reduceGE, decide_true, decide_false, Bool.not_eq_true, loopN_norm, loopN_exit, tf, ft, ff, e1, Option.isSome_some, v1, v2, v3, v4, ls]
      exact ⟨S, h, rfl, A, ExtB.refl _ _, sb⟩
    have v4 : decide ((bs.length : Int) > 16 - off) = false := decide_eq_false c3
    simp only [if_neg (show ¬ (off < 0 ∨ off > 16 ∨ (bs.length : Int) > 16 - off) by omega)]
    obtain ⟨off, rfl⟩ : ∃ n : Nat, off = (n : Int) := ⟨off.toNat, by omega⟩
    simp only [Int.toNat_natCast]
    have hsb := sb i fs[i] (List.getElem?_eq_getElem hi) h1
    obtain ⟨T, hT⟩ : ∃ T, T = strOf (B i) := ⟨_, rfl⟩
    have hTl : T.length = 16 := by rw [hT, strOf_len]; exact hsb.2
    have r1 := A.r1
    obtain ⟨sbk, rfl, m2, rS, hw⟩ := A.body (i := i) hi
    rw [hsb.1, ← hT] at rS
    have w1 : IntKind.i64.wrap ((off : Int) + (bs.length : Int)) = ((off + bs.length : Nat) : Int) := by rw [wrapI (by omega) (by omega)]; omega
    have s1 : ∀ loc vals H, evPure loc (.c (.int .i64 (off : Int)) :: .c (.str T) :: vals) H (.sstr (.val 1) none (some (.val 0))) = some (.c (.str (T.take off))) := fun _ _ _ => p_sstr_hi rfl rfl (by omega)
    have s2 : ∀ loc a b c vals H, evPure loc (.c (.int .i64 ((off + bs.length : Nat) : Int)) :: a :: b :: c :: .c (.str T) :: vals) H (.sstr (.val 4) (some (.val 0)) none) = some (.c (.str (T.drop (off + bs.length)))) := fun _ _ _ _ _ _ => p_sstr_lo rfl rfl (by omega)
    have bb1 : Nat.ble ((T.take off).length + (strOf bs).length) 1073741824 = true := Nat.ble_eq_true_of_le (by rw [strOf_len]; simp; omega)
    have bb2 : Nat.ble ((T.take off ++ strOf bs).length + (T.drop (off + bs.length)).length) 1073741824 = true := Nat.ble_eq_true_of_le (by simp [strOf_len]; omega)
    obtain ⟨h2, w2, A2, x2, n2⟩ := hw (T.take off ++ strOf bs ++ T.drop (off + bs.length))
    obtain ⟨fb, rfl, _, _, _⟩ := A2.at_ hi
    have q0 := A2.r0
    have m1 : Nat.blt i fs.length = true := bltT hi
    obtain ⟨h3, w3, A3, x3, n3⟩ := A2.poke hi rfl (k := 4) (w := .bool true) (g := ⟨fs[i].st, fs[i].pg, fs[i].pn, true, fs[i].y⟩) (by omega) rfl
    simp only [enter_eq, ev_seq, seqK_norm, seqK_exit, seqK_ret, ev_reg, ev_cond, condK_true, condK_false, ev_block, blockK_norm, blockK_ret, blockK_exit, ev_loop, ev_skip, ev_exit, ev_ret, regK_cons, regK_nil, guard_none, guard_some, regG_true, regG_false, regO_some, op_mov, op_conv, op_bin, op_bsl, op_box, op_mks, op_s2b, op_pick, op_un, op_eq, op_len, op_ext, op_load, op_iaddr, op_slice, op_b2s, op_idxS, op_mx, op_mn, op_call, op_store, op_app, op_copy, args_eq, result_one', rv_loc, finish_norm, finish_ret, outK_some, keep_true, keep_false, keep_nil, p_bin, p_pick, p_un, p_eq, p_conv, evNew, pureK_some, newK_some, X.eval, set_none, set_some, List.map_cons, List.map_nil, List.getD_cons_zero, List.getD_cons_succ, List.getD_nil, List.set_cons_zero, List.set_cons_succ, binCV, unCV, isShift, intArithF_eq, shiftF_eq, wrapF_eq, intArith, shift, eqVal, bound, asNat_cast, cond_true, cond_false, BEq.rfl, beq_self_eq_true, evalParts, fillParts, AV.cells, AV.ofCells, XV.av, AV.xv, List.length_cons, List.length_nil, zeros, patch, setMany, List.nil_append, List.cons_append, Nat.ble, Nat.add_eq, Nat.zero_add, Nat.add_zero, Nat.reduceAdd, Nat.reduceMul, Nat.reduceSub, Nat.ble_eq, Nat.reduceLeDiff, Nat.reduceBEq, Int.reduceBEq, Int.reduceNeg, Bool.and_true, Bool.and_false, Bool.true_and, Bool.false_and, Bool.not_true, Bool.not_false, Bool.true_eq_false, Bool.false_eq_true, Int.reduceLT, Int.reduceLE, Int.reduceGT, Int.reduceGE, decide_true, decide_false, Bool.not_eq_true, loopN_norm, loopN_exit, tf, ft, ff, ev_dreg, dregK_nil, dregK_cons, dregE_true, dregP_some, dregX_some, d_mov, d_bin, d_eq, d_pick, d_un, d_conv, d_b2s, d_len, d_load, d_iaddr, d_slice, d_ext, d_call, d_store, chk_done, chk_none, chk_some, chkG_true, chkG_false, chkOne_nil, chkOne_cons, chkH_some, chkV_same, stage_none, stage_some, look_hit, look_miss, news_nil, wb_cons, wb_nil, skip0, List.reverse_cons, List.reverse_nil, e1, Option.isSome_some, v1, v2, v3, v4, ls, op_nilchk, p_nilchk, d_nilchk, d_faddr, op_faddr, p_faddr, p_load, AV.ofCells, r1, p_iaddr, m2, Nat.mul_one, Nat.zero_add, rS, d_sstr, s1, w1, s2, bb1, bb2, evEff, w2, q0, m1, w3]
    refine ⟨_, h3, rfl, A3, x2.trans x3, fun j g hg hs => ?_⟩
    have hSl : i < S.length := by rw [A.sl]; exact hi
    rcases (set_at hi).1 hg with ⟨rfl, rfl⟩ | ⟨hne, hg'⟩
    · simp only [if_true]
      refine ⟨?_, by rw [overB_len (by omega)]; exact hsb.2⟩
      rw [strOf_over, ← hT]
      simp [List.getD_eq_getElem?_getD, hSl]
    · simp only [if_neg hne]
      have := sb j g hg' hs
      refine ⟨?_, this.2⟩
      rw [List.getD_eq_getElem?_getD, List.getElem?_set_ne (fun e => hne e.symm), ← List.getD_eq_getElem?_getD]
      exact this.1

theorem radd_loop (A : RA h p x y v fs o S) (sm : fs.length ≤ 32) (hN : 100 ≤ N) {call : Nat → List AV → Heap → Option (AV × Heap)} : ∀ loc, keepOnly ir29_k0 loc = [.c (.ptr p 0), .junk, .c (.int .i64 0), .junk, .junk, .junk] →
    ∃ r, loopK call N ir29_k0 ir29_l0 N loc h = some r ∧ ∃ a1 a3 a4 a5, r = (.exit 0, [.c (.ptr p 0), a1, .c (.int .i64 (retIdx fs : Int)), a3, a4, a5], h) := by
  intro loc hloc
  have hle := retIdx_le fs
  refine loop_inv (n := retIdx fs) (fun k loc G => G = h ∧ k ≤ retIdx fs ∧ loc = [.c (.ptr p 0), .junk, .c (.int .i64 (k : Int)), .junk, .junk, .junk]) _ ?_ ⟨rfl, Nat.zero_le _, hloc⟩ (by omega)
  rintro k loc G hk ⟨rfl, hkn, rfl⟩
  unfold ir29_l0
  have r0 := A.r0
  have lx := A.lx
  by_cases hl : k < fs.length
  · obtain ⟨fb, rfl, _, _, T⟩ := A.at_ hl
    have a1 := T.s
    have m1 : Nat.blt k fs.length = true := bltT hl
    have v1 : decide ((k : Int) < (fs.length : Int)) = true := ltNat hl
    have v2 := succI (i := k) (by omega)
    by_cases h4 : fs[k].st = 4
    · right
      have e : k = retIdx fs := by
        rcases Nat.lt_or_ge k (retIdx fs) with h' | h'
        · exact absurd h4 (retIdx_not h' hl)
        · omega
      rw [h4] at a1
      simp only [enter_eq, ev_seq, seqK_norm, seqK_exit, seqK_ret, ev_reg, ev_cond, condK_true, condK_false, ev_block, blockK_norm, blockK_ret, blockK_exit, ev_loop, ev_skip, ev_exit, ev_ret, regK_cons, regK_nil, guard_none, guard_some, regG_true, regG_false, regO_some, op_mov, op_conv, op_bin, op_bsl, op_box, op_mks, op_s2b, op_pick, op_un, op_eq, op_len, op_ext, op_load, op_iaddr, op_slice, op_b2s, op_idxS, op_mx, op_mn, op_call, op_store, op_app, op_copy, args_eq, result_one', rv_loc, finish_norm, finish_ret, outK_some, keep_true, keep_false, keep_nil, p_bin, p_pick, p_un, p_eq, p_conv, evNew, pureK_some, newK_some, X.eval, set_none, set_some, List.map_cons, List.map_nil, List.getD_cons_zero, List.getD_cons_succ, List.getD_nil, List.set_cons_zero, List.set_cons_succ, binCV, unCV, isShift, intArithF_eq, shiftF_eq, wrapF_eq, intArith, shift, eqVal, bound, asNat_cast, cond_true, cond_false, BEq.rfl, beq_self_eq_true, evalParts, fillParts, AV.cells, AV.ofCells, XV.av, AV.xv, List.length_cons, List.length_nil, zeros, patch, setMany, List.nil_append, List.cons_append, Nat.ble, Nat.add_eq, Nat.zero_add, Nat.add_zero, Nat.reduceAdd, Nat.reduceMul, Nat.reduceSub, Nat.ble_eq, Nat.reduceLeDiff, Nat.reduceBEq, Int.reduceBEq, Int.reduceNeg, Bool.and_true, Bool.and_false, Bool.true_and, Bool.false_and, Bool.not_true, Bool.not_false, Bool.true_eq_false, Bool.false_eq_true, Int.reduceLT, Int.reduceLE, Int.reduceGT, Int.reduceGE, decide_true, decide_false, Bool.not_eq_true, loopN_norm, loopN_exit, tf, ft, ff, op_nilchk, p_nilchk, op_faddr, p_faddr, p_load, r0, AV.ofCells, lx, v1, p_iaddr, m1, a1, bneI]
      exact ⟨_, rfl, by simp, _, _, _, _, by rw [← e]⟩
    · left
      have e : k < retIdx fs := by
        rcases Nat.lt_or_ge k (retIdx fs) with h' | h'
        · exact h'
        · have : k = retIdx fs := by omega
          subst this
          exact absurd (retIdx_at hl) h4
      have v3 : (fs[k].st == 4) = false := by simp only [beq_eq_false_iff_ne, ne_eq]; exact h4
      refine ⟨e, ?_⟩
      simp only [enter_eq, ev_seq, seqK_norm, seqK_exit, seqK_ret, ev_reg, ev_cond, condK_true, condK_false, ev_block, blockK_norm, blockK_ret, blockK_exit, ev_loop, ev_skip, ev_exit, ev_ret, regK_cons, regK_nil, guard_none, guard_some, regG_true, regG_false, regO_some, op_mov, op_conv, op_bin, op_bsl, op_box, op_mks, op_s2b, op_pick, op_un, op_eq, op_len, op_ext, op_load, op_iaddr, op_slice, op_b2s, op_idxS, op_mx, op_mn, op_call, op_store, op_app, op_copy, args_eq, result_one', rv_loc, finish_norm, finish_ret, outK_some, keep_true, keep_false, keep_nil, p_bin, p_pick, p_un, p_eq, p_conv, evNew, pureK_some, newK_some, X.eval, set_none, set_some, List.map_cons, List.map_nil, List.getD_cons_zero, List.getD_cons_succ, List.getD_nil, List.set_cons_zero, List.set_cons_succ, binCV, unCV, isShift, intArithF_eq, shiftF_eq, wrapF_eq, intArith, shift, eqVal, bound, asNat_cast, cond_true, cond_false, BEq.rfl, beq_self_eq_true, evalParts, fillParts, AV.cells, AV.ofCells, XV.av, AV.xv, List.length_cons, List.length_nil, zeros, patch, setMany, List.nil_append, List.cons_append, Nat.ble, Nat.add_eq, Nat.zero_add, Nat.add_zero, Nat.reduceAdd, Nat.reduceMul, Nat.reduceSub, Nat.ble_eq, Nat.reduceLeDiff, Nat.reduceBEq, Int.reduceBEq, Int.reduceNeg, Bool.and_true, Bool.and_false, Bool.true_and, Bool.false_and, Bool.not_true, Bool.not_false, Bool.true_eq_false, Bool.false_eq_true, Int.reduceLT, Int.reduceLE, Int.reduceGT, Int.reduceGE, decide_true, decide_false, Bool.not_eq_true, loopN_norm, loopN_exit, tf, ft, ff, op_nilchk, p_nilchk, op_faddr, p_faddr, p_load, r0, AV.ofCells, lx, v1, v2, v3, p_iaddr, m1, a1, bneI]
      exact ⟨_, _, rfl, rfl, e, rfl⟩
  · right
    have v1 : decide ((k : Int) < (fs.length : Int)) = false := geNat (by omega)
    simp only [enter_eq, ev_seq, seqK_norm, seqK_exit, seqK_ret, ev_reg, ev_cond, condK_true, condK_false, ev_block, blockK_norm, blockK_ret, blockK_exit, ev_loop, ev_skip, ev_exit, ev_ret, regK_cons, regK_nil, guard_none, guard_some, regG_true, regG_false, regO_some, op_mov, op_conv, op_bin, op_bsl, op_box, op_mks, op_s2b, op_pick, op_un, op_eq, op_len, op_ext, op_load, op_iaddr, op_slice, op_b2s, op_idxS, op_mx, op_mn, op_call, op_store, op_app, op_copy, args_eq, result_one', rv_loc, finish_norm, finish_ret, outK_some, keep_true, keep_false, keep_nil, p_bin, p_pick, p_un, p_eq, p_conv, evNew, pureK_some, newK_some, X.eval, set_none, set_some, List.map_cons, List.map_nil, List.getD_cons_zero, List.getD_cons_succ, List.getD_nil, List.set_cons_zero, List.set_cons_succ, binCV, unCV, isShift, intArithF_eq, shiftF_eq, wrapF_eq, intArith, shift, eqVal, bound, asNat_cast, cond_true, cond_false, BEq.rfl, beq_self_eq_true, evalParts, fillParts, AV.cells, AV.ofCells, XV.av, AV.xv, List.length_cons, List.length_nil, zeros, patch, setMany, List.nil_append, List.cons_append, Nat.ble, Nat.add_eq, Nat.zero_add, Nat.add_zero, Nat.reduceAdd, Nat.reduceMul, Nat.reduceSub, Nat.ble_eq, Nat.reduceLeDiff, Nat.reduceBEq, Int.reduceBEq, Int.reduceNeg, Bool.and_true, Bool.and_false, Bool.true_and, Bool.false_and, Bool.not_true, Bool.not_false, Bool.true_eq_false, Bool.false_eq_true, Int.reduceLT, Int.reduceLE, Int.reduceGT, Int.reduceGE, decide_true, decide_false, Bool.not_eq_true, loopN_norm, loopN_exit, tf, ft, ff, op_nilchk, p_nilchk, op_faddr, p_faddr, p_load, r0, AV.ofCells, lx, v1]
    exact ⟨_, rfl, by simp, _, _, _, _, by rw [show k = retIdx fs by omega]⟩

/-- A frame and a body more. -/
theorem RA.grow (A : RA h p x y v fs o S) (sm : fs.length ≤ 32) {c1 : Heap} (e1 : c1 = (h.skip 2).put h.next (.cells (apC frO))) :
    ∃ x' H1 y' H2 H3 H4, (h.skip 2).read p 0 1 = some [x] ∧ (h.skip 2).read p 1 1 = some [y] ∧ c1.read p 1 1 = some [y] ∧ evApp c1 5 (.c x) (.c (.sl h.next 0 1 (.ex 1))) = some (.c x', H1) ∧ H1.read p 1 1 = some [y] ∧ evApp (H1.put (h.next + 1) (.cells [.str []])) 1 (.c y) (.c (.sl (h.next + 1) 0 1 (.ex 1))) = some (.c y', H2) ∧ H2.write p 0 [x'] = some H3 ∧ H3.write p 1 [y'] = some H4 ∧
      RA H4 p x' y' v (fs ++ [frO]) o (S ++ [[]]) ∧ ExtB (rown p x y v) h H4 ∧ YoungR h p x y v x' y' v := by
  have n1 : c1.next = h.next + 2 := by rw [e1]; rfl
  have xs : Ext h (h.skip 2) := (Ext.refl _).skip 2
  have x1 : Ext h c1 := by rw [e1]; exact xs.put (Nat.le_refl _) _
  have A1 := A.ext' x1
  have hg1 : c1.get h.next = some (.cells (apC frO)) := by rw [e1]; exact get_put_at
  have src1 : source c1 5 (.c (.sl h.next 0 1 (.ex 1))) = some (0 + 1, apC frO) := source_new hg1 rfl
  obtain ⟨H1, a1, m1, nn1, k1⟩ := app_mine A1.fr (Nat.zero_le _) src1 rfl (by omega)
  have old := A.old
  have hp := A.pn
  have xp : blk x ≠ some p := fun e => (A.xn p e).1 rfl
  have gp1 : H1.get p = some (.cells [x, y, v]) := (k1 p (by omega) xp).trans A1.box
  have m1' := m1
  have bdH1 : Mine 1 Heap.empty H1 y S.length (S.map .str) := A1.bd.keep (by omega) fun k hk hb => k1 k hk fun e => (A.xn k e).2.1 hb
  obtain ⟨c2, hc2⟩ : ∃ H, H = H1.put (h.next + 1) (.cells [.str []]) := ⟨_, rfl⟩
  have xc2 : ∀ k, k ≠ h.next + 1 → c2.get k = H1.get k := fun k hk => by rw [hc2]; exact get_put_ne hk
  have nc2 : c2.next = H1.next := by rw [hc2]; rfl
  have bdc2 : Mine 1 Heap.empty c2 y S.length (S.map .str) := bdH1.keep (by omega) fun k hk hb => xc2 k fun e => by have := old k (mem_rown.2 (.inr (.inr (.inl hb)))); omega
  have src2 : source c2 1 (.c (.sl (h.next + 1) 0 1 (.ex 1))) = some (0 + 1, [.str []]) := source_new (by rw [hc2]; exact get_put_at) rfl
  obtain ⟨H2, a2, m2, nn2, k2⟩ := app_mine bdc2 (Nat.zero_le _) src2 rfl (by rw [A.sl]; omega)
  have yp : blk y ≠ some p := fun e => (A.yn p e).1 rfl
  have gp2 : H2.get p = some (.cells [x, y, v]) := (k2 p (by omega) yp).trans ((xc2 p (by omega)).trans gp1)
  obtain ⟨x', hx'⟩ : ∃ x', x' = CV.sl c1.next 0 (fs.length + (0 + 1)) (.dy 5) := ⟨_, rfl⟩
  obtain ⟨y', hy'⟩ : ∃ y', y' = CV.sl c2.next 0 (S.length + (0 + 1)) (.dy 1) := ⟨_, rfl⟩
  have w3 := write_one (o := 0) (v := x') gp2 (by simp)
  obtain ⟨H3, hH3⟩ : ∃ H, H = H2.put p (.cells [x', y, v]) := ⟨_, rfl⟩
  have w3' : H2.write p 0 [x'] = some H3 := by rw [hH3]; exact w3
  have gp3 : H3.get p = some (.cells [x', y, v]) := by rw [hH3]; exact get_put_at
  have w4 := write_one (o := 1) (v := y') gp3 (by simp)
  obtain ⟨H4, hH4⟩ : ∃ H, H = H3.put p (.cells [x', y', v]) := ⟨_, rfl⟩
  have w4' : H3.write p 1 [y'] = some H4 := by rw [hH4]; exact w4
  have k4 : ∀ k, k ≠ p → H4.get k = H2.get k := fun k hk => by rw [hH4, get_put_ne hk, hH3, get_put_ne hk]
  have n4 : H4.next = H2.next := by rw [hH4, hH3]; rfl
  refine ⟨x', H1, y', H2, H3, H4, (xs.read hp).trans A.r0, (xs.read hp).trans A.r1, A1.r1, by rw [hx']; exact a1, read_cells gp1 rfl, by rw [← hc2, hy']; exact a2, w3', w4', ?_, ?_, ?_⟩
  · refine ⟨by rw [hH4]; exact get_put_at, by omega, ?_, ?_, by simp [A.sl], ?_, A.vs, ?_, ?_, A.vn⟩
    · rw [apsC_app, List.length_append, hx']
      refine (m1.keep (h' := H2) (by omega) fun k hk hb => ?_).keep (by omega) fun k hk hb => k4 k fun e => by simp [blk] at hb; omega
      simp [blk] at hb
      rw [k2 k (by omega) (fun e => by have := old k (mem_rown.2 (.inr (.inr (.inl e)))); omega), xc2 k (by omega)]
    · rw [List.length_append, List.map_append, hy']
      exact m2.keep (by omega) fun k hk hb => k4 k fun e => by simp [blk] at hb; omega
    · refine Ints.keepB (S := rown p x y .nils) A.id ⟨by omega, fun k hk hn => ?_⟩ fun k hb hm => ?_
      · have h1 : blk x ≠ some k := fun e => hn (mem_rown.2 (.inr (.inl e)))
        have h2 : blk y ≠ some k := fun e => hn (mem_rown.2 (.inr (.inr (.inl e))))
        have h3 : k ≠ p := fun e => hn (mem_rown.2 (.inl e))
        rw [k4 k h3, k2 k (by omega) h2, xc2 k (by omega), k1 k (by omega) h1, x1.2 k hk]
      · rcases mem_rown.1 hm with e | e | e | e
        · exact A.vn (e ▸ hb)
        · exact (A.xn k e).2.2 hb
        · exact (A.yn k e).2 hb
        · cases e
    · intro k hk
      rw [hx'] at hk
      simp [blk] at hk
      refine ⟨by omega, fun e => by rw [hy'] at e; simp [blk] at e; omega, fun e => by have := old k (mem_rown.2 (.inr (.inr (.inr e)))); omega⟩
    · intro k hk
      rw [hy'] at hk
      simp [blk] at hk
      exact ⟨by omega, fun e => by have := old k (mem_rown.2 (.inr (.inr (.inr e)))); omega⟩
  · refine ⟨by omega, fun k hk hn => ?_⟩
    have h1 : blk x ≠ some k := fun e => hn (mem_rown.2 (.inr (.inl e)))
    have h2 : blk y ≠ some k := fun e => hn (mem_rown.2 (.inr (.inr (.inl e))))
    have h3 : k ≠ p := fun e => hn (mem_rown.2 (.inl e))
    rw [k4 k h3, k2 k (by omega) h2, xc2 k (by omega), k1 k (by omega) h1, x1.2 k hk]
  · intro k hk
    rcases mem_rown.1 hk with e | e | e | e
    · exact .inl (mem_rown.2 (.inl e))
    · rw [hx'] at e; simp [blk] at e; right; omega
    · rw [hy'] at e; simp [blk] at e; right; omega
    · exact .inl (mem_rown.2 (.inr (.inr (.inr e))))
end
end Lav
