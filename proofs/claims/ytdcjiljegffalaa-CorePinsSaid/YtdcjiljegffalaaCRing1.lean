/-
  Layer 8: what a ring of touches does.
-/
import Derived.Test.YtdcjiljegffalaaCAre5
set_option maxRecDepth 100000
set_option linter.unusedSimpArgs false
namespace Lav
open Go (IntKind)

def xv (v : Int) : XV := .c (icell v)

/-- A ring: its cell, its channel, what waits. -/
structure RG (h : Heap) (p c : Nat) (xs : List Int) : Prop where
  cell : h.get p = some (.cells [.ch c])
  chan : h.get c = some (.chan 8 (xs.map xv))
  ne : p ≠ c
  pn : p < h.next
  cn : c < h.next

theorem RG.ext {h h' : Heap} {p c : Nat} {xs : List Int} (g : RG h p c xs) {S : List Nat} (e : ExtB S h h') (hp : p ∉ S) (hc : c ∉ S) : RG h' p c xs :=
  ⟨e.at_ g.cell g.pn hp, e.at_ g.chan g.cn hc, g.ne, Nat.lt_of_lt_of_le g.pn e.1, Nat.lt_of_lt_of_le g.cn e.1⟩

theorem RG.put {h : Heap} {p c : Nat} {xs : List Int} (g : RG h p c xs) (ys : List Int) : RG (h.put c (.chan 8 (ys.map xv))) p c ys :=
  ⟨by rw [get_put_ne g.ne]; exact g.cell, get_put_at, g.ne, g.pn, g.cn⟩


section
variable {N d : Nat} {h : Heap} {p c : Nat} {xs : List Int}

theorem ring_new (h : Heap) : ∃ p c h', evCallT table 15 N (d + 1) 19 [] h = some (.c (.ptr p 0), h') ∧ RG h' p c [] ∧ Ext h h' ∧ h.next ≤ p ∧ h.next ≤ c := by
  rw [evCallT_eq (F := ir19) rfl rfl rfl]
  unfold ir19
  rw [bodyK_eq]
  simp only [enter_eq, ev_seq, seqK_norm, seqK_exit, seqK_ret, ev_reg, ev_cond, condK_true, condK_false, ev_block, blockK_norm, blockK_ret, blockK_exit, ev_loop, ev_skip, ev_exit, ev_ret, regK_cons, regK_nil, guard_none, guard_some, regG_true, regG_false, regO_some, op_mov, op_conv, op_bin, op_bsl, op_box, op_mks, op_s2b, op_pick, op_un, op_eq, op_len, op_ext, op_load, op_iaddr, op_slice, op_b2s, op_idxS, op_mx, op_mn, op_call, op_store, op_app, op_copy, args_eq, result_one', rv_loc, finish_norm, finish_ret, outK_some, keep_true, keep_false, keep_nil, evPure, evNew, pureK_some, newK_some, X.eval, set_none, set_some, List.map_cons, List.map_nil, List.getD_cons_zero, List.getD_cons_succ, List.getD_nil, List.set_cons_zero, List.set_cons_succ, binCV, unCV, isShift, intArithF_eq, shiftF_eq, wrapF_eq, intArith, shift, eqVal, bound, asNat_cast, cond_true, cond_false, BEq.rfl, beq_self_eq_true, evalParts, fillParts, AV.cells, AV.ofCells, XV.av, AV.xv, List.length_cons, List.length_nil, zeros, patch, setMany, List.nil_append, List.cons_append, Nat.ble, Nat.add_eq, Nat.zero_add, Nat.add_zero, Nat.reduceAdd, Nat.reduceMul, Nat.reduceSub, Nat.ble_eq, Nat.reduceLeDiff, Nat.reduceBEq, Int.reduceBEq, Int.reduceNeg, Bool.and_true, Bool.and_false, Bool.true_and, Bool.false_and, Bool.not_true, Bool.not_false, Bool.true_eq_false, Bool.false_eq_true, Int.reduceLT, Int.reduceLE, Int.reduceGT, Int.reduceGE, decide_true, decide_false, Bool.not_eq_true, loopN_norm, loopN_exit, tf, ft, ff, op_mkch, op_build]
  refine ⟨_, h.next, _, rfl, ⟨get_new_at, ?_, ?_, Nat.lt_succ_self _, Nat.lt_succ_of_lt (Nat.lt_succ_self _)⟩, ((Ext.refl h).new _).new _, Nat.le_succ _, Nat.le_refl _⟩
  · rw [get_new_old (Nat.lt_succ_self _)]; exact get_new_at
  · exact Nat.succ_ne_self _

theorem drain_ok (g : RG h p c xs) (hx : xs.length ≤ 8) (hN : 10 ≤ N) : ∃ y h', evCallT table 15 N (d + 1) 36 [.c (.ptr p 0)] h = some (.c y, h') ∧ RG h' p c [] ∧ Made h h' y xs ∧ ExtB [c] h h' := by
  rw [evCallT_eq (F := ir36) rfl rfl rfl]
  unfold ir36
  rw [bodyK_eq]
  have L : ∀ loc, keepOnly ir36_k0 loc = [.c (.ptr p 0), .junk, .c .nils, .junk, .junk, .junk, .junk, .junk] →
      ∃ r, loopK (evCallT table 15 N d) N ir36_k0 ir36_l0 N loc h = some r ∧ ∃ y h' a0 a1 l, r = (.exit 0, a0 :: a1 :: .c y :: l, h') ∧ RG h' p c [] ∧ Made h h' y xs ∧ ExtB [c] h h' := by
    intro loc hloc
    refine loop_inv (n := xs.length) (fun i loc h' => RG h' p c (xs.drop i) ∧ ExtB [c] h h' ∧ ∃ y, Mine 1 h h' y i ((xs.take i).map icell) ∧ loc = [.c (.ptr p 0), .junk, .c y, .junk, .junk, .junk, .junk, .junk]) _ ?_ ⟨g, ExtB.refl _ _, .nils, Mine.nil, hloc⟩ (by omega)
    rintro i loc h' hi ⟨g', he, y, hy, rfl⟩
    unfold ir36_l0
    have r1 : h'.read p 0 1 = some [.ch c] := read_cells g'.cell rfl
    by_cases hlt : i < xs.length
    · left
      refine ⟨hlt, ?_⟩
      have hg := g'.chan
      rw [List.drop_eq_getElem_cons hlt, List.map_cons] at hg
      have g2 := g'.put (xs.drop (i + 1))
      have hyc : ∀ k, blk y = some k → k ∉ [c] := fun k hk => by have := hy.young k hk; have := g.cn; simp; omega
      have e2 : ExtB [c] h' (h'.put c (.chan 8 ((xs.drop (i + 1)).map xv))) := (ExtB.refl _ _).put (.inr (by simp)) _
      have hy2 := hy.keepB e2 hyc
      obtain ⟨h3, a1, a2, a3, a4⟩ := app_mine (m := 0) (y := .c (.sl (h'.put c (.chan 8 ((xs.drop (i + 1)).map xv))).next 0 1 (.ex 1))) (hy2.new (.cells [icell xs[i]])) (Nat.le_trans he.1 (Nat.le_succ _)) (source_new get_new_at rfl) rfl (by omega)
      have hyg : ∀ q, q < h.next → blk y ≠ some q := fun q hq e => by have := hy.young q e; omega
      have e3 : ExtB [c] h h3 := ⟨by rw [a3]; exact Nat.le_trans he.1 (by simp [Heap.put, Heap.new]; omega), fun q hq hn => by
        rw [a4 q (Nat.lt_of_lt_of_le hq (Nat.le_trans he.1 (Nat.le_succ _))) (hyg q hq), get_new_old (h := h'.put c (.chan 8 ((xs.drop (i + 1)).map xv))) (Nat.lt_of_lt_of_le hq he.1), get_put_ne (by simpa using hn), he.2 q hq hn]⟩
      have g3 : RG h3 p c (xs.drop (i + 1)) := by
        have e4 : ∀ q, q < h.next → h3.get q = (h'.put c (.chan 8 ((xs.drop (i + 1)).map xv))).get q := fun q hq => by
          rw [a4 q (Nat.lt_of_lt_of_le hq (Nat.le_trans he.1 (Nat.le_succ _))) (hyg q hq), get_new_old (h := h'.put c (.chan 8 ((xs.drop (i + 1)).map xv))) (Nat.lt_of_lt_of_le hq he.1)]
        exact ⟨by rw [e4 p g.pn]; exact g2.cell, by rw [e4 c g.cn]; exact g2.chan, g.ne, Nat.lt_of_lt_of_le g.pn e3.1, Nat.lt_of_lt_of_le g.cn e3.1⟩
      have a2' : Mine 1 h h3 (.sl ((h'.put c (.chan 8 ((xs.drop (i + 1)).map xv))).new (.cells [icell xs[i]])).next 0 (i + 1) (.dy 1)) (i + 1) ((xs.take (i + 1)).map icell) := by
        rw [List.take_succ_eq_append_getElem hlt, List.map_append]; exact a2
      simp only [xv, icell] at a1 hg
      simp only [enter_eq, ev_seq, seqK_norm, seqK_exit, seqK_ret, ev_reg, ev_cond, condK_true, condK_false, ev_block, blockK_norm, blockK_ret, blockK_exit, ev_loop, ev_skip, ev_exit, ev_ret, regK_cons, regK_nil, guard_none, guard_some, regG_true, regG_false, regO_some, op_mov, op_conv, op_bin, op_bsl, op_box, op_mks, op_s2b, op_pick, op_un, op_eq, op_len, op_ext, op_load, op_iaddr, op_slice, op_b2s, op_idxS, op_mx, op_mn, op_call, op_store, op_app, op_copy, args_eq, result_one', rv_loc, finish_norm, finish_ret, outK_some, keep_true, keep_false, keep_nil, p_bin, p_pick, p_un, p_eq, p_conv, evNew, pureK_some, newK_some, X.eval, set_none, set_some, List.map_cons, List.map_nil, List.getD_cons_zero, List.getD_cons_succ, List.getD_nil, List.set_cons_zero, List.set_cons_succ, binCV, unCV, isShift, intArithF_eq, shiftF_eq, wrapF_eq, intArith, shift, eqVal, bound, asNat_cast, cond_true, cond_false, BEq.rfl, beq_self_eq_true, evalParts, fillParts, AV.cells, AV.ofCells, XV.av, AV.xv, List.length_cons, List.length_nil, zeros, patch, setMany, List.nil_append, List.cons_append, Nat.ble, Nat.add_eq, Nat.zero_add, Nat.add_zero, Nat.reduceAdd, Nat.reduceMul, Nat.reduceSub, Nat.ble_eq, Nat.reduceLeDiff, Nat.reduceBEq, Int.reduceBEq, Int.reduceNeg, Bool.and_true, Bool.and_false, Bool.true_and, Bool.false_and, Bool.not_true, Bool.not_false, Bool.true_eq_false, Bool.false_eq_true, Int.reduceLT, Int.reduceLE, Int.reduceGT, Int.reduceGE, decide_true, decide_false, Bool.not_eq_true, loopN_norm, loopN_exit, tf, ft, ff, op_nilchk, p_nilchk, op_faddr, p_faddr, p_load, r1, AV.ofCells, op_recvd, c_recvd, hg, p_ext, List.getElem?_cons_zero, List.getElem?_cons_succ, xv, icell, a1]
      exact ⟨_, _, rfl, g3, e3, _, a2', rfl⟩
    · right
      have hin : i = xs.length := by omega
      subst hin
      have hg := g'.chan
      rw [List.drop_length, List.map_nil] at hg
      have q1 : ((-1 : Int) == 0) = false := rfl
      simp only [enter_eq, ev_seq, seqK_norm, seqK_exit, seqK_ret, ev_reg, ev_cond, condK_true, condK_false, ev_block, blockK_norm, blockK_ret, blockK_exit, ev_loop, ev_skip, ev_exit, ev_ret, regK_cons, regK_nil, guard_none, guard_some, regG_true, regG_false, regO_some, op_mov, op_conv, op_bin, op_bsl, op_box, op_mks, op_s2b, op_pick, op_un, op_eq, op_len, op_ext, op_load, op_iaddr, op_slice, op_b2s, op_idxS, op_mx, op_mn, op_call, op_store, op_app, op_copy, args_eq, result_one', rv_loc, finish_norm, finish_ret, outK_some, keep_true, keep_false, keep_nil, p_bin, p_pick, p_un, p_eq, p_conv, evNew, pureK_some, newK_some, X.eval, set_none, set_some, List.map_cons, List.map_nil, List.getD_cons_zero, List.getD_cons_succ, List.getD_nil, List.set_cons_zero, List.set_cons_succ, binCV, unCV, isShift, intArithF_eq, shiftF_eq, wrapF_eq, intArith, shift, eqVal, bound, asNat_cast, cond_true, cond_false, BEq.rfl, beq_self_eq_true, evalParts, fillParts, AV.cells, AV.ofCells, XV.av, AV.xv, List.length_cons, List.length_nil, zeros, patch, setMany, List.nil_append, List.cons_append, Nat.ble, Nat.add_eq, Nat.zero_add, Nat.add_zero, Nat.reduceAdd, Nat.reduceMul, Nat.reduceSub, Nat.ble_eq, Nat.reduceLeDiff, Nat.reduceBEq, Int.reduceBEq, Int.reduceNeg, Bool.and_true, Bool.and_false, Bool.true_and, Bool.false_and, Bool.not_true, Bool.not_false, Bool.true_eq_false, Bool.false_eq_true, Int.reduceLT, Int.reduceLE, Int.reduceGT, Int.reduceGE, decide_true, decide_false, Bool.not_eq_true, loopN_norm, loopN_exit, tf, ft, ff, op_nilchk, p_nilchk, op_faddr, p_faddr, p_load, r1, AV.ofCells, op_recvd, c_recvd, hg, p_ext, List.getElem?_cons_zero, List.getElem?_cons_succ, q1]
      rw [List.drop_length] at g'
      rw [List.take_length] at hy
      exact ⟨_, rfl, by simp, y, h', _, _, _, rfl, g', hy.made, he⟩
  obtain ⟨r, hr, y, h', a0, a1, l, rfl, g', my, he⟩ := L [.c (.ptr p 0), .c .nils, .c .nils, .tup [], .c (.bool false), .tup [], .tup [], .tup []] rfl
  simp only [enter_eq, ev_seq, seqK_norm, seqK_exit, seqK_ret, ev_reg, ev_cond, condK_true, condK_false, ev_block, blockK_norm, blockK_ret, blockK_exit, ev_loop, ev_skip, ev_exit, ev_ret, regK_cons, regK_nil, guard_none, guard_some, regG_true, regG_false, regO_some, op_mov, op_conv, op_bin, op_bsl, op_box, op_mks, op_s2b, op_pick, op_un, op_eq, op_len, op_ext, op_load, op_iaddr, op_slice, op_b2s, op_idxS, op_mx, op_mn, op_call, op_store, op_app, op_copy, args_eq, result_one', rv_loc, finish_norm, finish_ret, outK_some, keep_true, keep_false, keep_nil, p_bin, p_pick, p_un, p_eq, p_conv, evNew, pureK_some, newK_some, X.eval, set_none, set_some, List.map_cons, List.map_nil, List.getD_cons_zero, List.getD_cons_succ, List.getD_nil, List.set_cons_zero, List.set_cons_succ, binCV, unCV, isShift, intArithF_eq, shiftF_eq, wrapF_eq, intArith, shift, eqVal, bound, asNat_cast, cond_true, cond_false, BEq.rfl, beq_self_eq_true, evalParts, fillParts, AV.cells, AV.ofCells, XV.av, AV.xv, List.length_cons, List.length_nil, zeros, patch, setMany, List.nil_append, List.cons_append, Nat.ble, Nat.add_eq, Nat.zero_add, Nat.add_zero, Nat.reduceAdd, Nat.reduceMul, Nat.reduceSub, Nat.ble_eq, Nat.reduceLeDiff, Nat.reduceBEq, Int.reduceBEq, Int.reduceNeg, Bool.and_true, Bool.and_false, Bool.true_and, Bool.false_and, Bool.not_true, Bool.not_false, Bool.true_eq_false, Bool.false_eq_true, Int.reduceLT, Int.reduceLE, Int.reduceGT, Int.reduceGE, decide_true, decide_false, Bool.not_eq_true, loopN_norm, loopN_exit, tf, ft, ff, hr, blockK_exit_eq]
  exact ⟨_, _, rfl, g', my, he⟩

/-- A touch that may be. -/
theorem touch_ok (g : RG h p c xs) (f : Int) (h0 : 0 ≤ f) (h1 : f < 32) (hx : xs.length < 8) (hN : 10 ≤ N) :
    ∃ y h', evCallT table 15 N (d + 2) 23 [.c (.ptr p 0), .c (.int .i64 f)] h = some (.c y, h') ∧ RG h' p c (if xs.length + 1 < 8 then xs ++ [f] else []) ∧ Made h h' y (if xs.length + 1 < 8 then [] else xs ++ [f]) ∧ ExtB [c] h h' := by
  have g2 := g.put (xs ++ [f])
  have r1 : h.read p 0 1 = some [.ch c] := read_cells g.cell rfl
  have r2 : (h.put c (.chan 8 ((xs ++ [f]).map xv))).read p 0 1 = some [.ch c] := read_cells g2.cell rfl
  have b1 : Nat.blt xs.length 8 = true := bltT hx
  have hg := g.chan
  have e0 : ExtB [c] h (h.put c (.chan 8 ((xs ++ [f]).map xv))) := (ExtB.refl _ _).put (.inr (by simp)) _
  have r3 : ∀ loc vals, evPure loc (.c (.ch c) :: vals) (h.put c (.chan 8 ((xs ++ [f]).map xv))) (.len .ch (.val 0)) = some (.c (.int .i64 ((xs.length + 1 : Nat) : Int))) := fun _ _ => by
    rw [p_len_ch rfl g2.chan, List.length_map, List.length_append]; rfl
  rw [evCallT_eq (F := ir23) rfl rfl rfl]
  unfold ir23
  rw [bodyK_eq]
  have c1 : decide (f < 0) = false := decide_eq_false (by omega)
  have c2 : decide (f ≥ 32) = false := decide_eq_false (by omega)
  have hmap : xs.map xv ++ [XV.c (.int .i64 f)] = (xs ++ [f]).map xv := by rw [List.map_append]; rfl
  have b1' : Nat.blt (xs.map xv).length 8 = true := by rw [List.length_map]; exact b1
  by_cases hl : xs.length + 1 < 8
  · have c3 : decide (((xs.length + 1 : Nat) : Int) < 8) = true := decide_eq_true (by omega)
    rw [if_pos hl, if_pos hl]
    simp only [enter_eq, ev_seq, seqK_norm, seqK_exit, seqK_ret, ev_reg, ev_cond, condK_true, condK_false, ev_block, blockK_norm, blockK_ret, blockK_exit, ev_loop, ev_skip, ev_exit, ev_ret, regK_cons, regK_nil, guard_none, guard_some, regG_true, regG_false, regO_some, op_mov, op_conv, op_bin, op_bsl, op_box, op_mks, op_s2b, op_pick, op_un, op_eq, op_len, op_ext, op_load, op_iaddr, op_slice, op_b2s, op_idxS, op_mx, op_mn, op_call, op_store, op_app, op_copy, args_eq, result_one', rv_loc, finish_norm, finish_ret, outK_some, keep_true, keep_false, keep_nil, p_bin, p_pick, p_un, p_eq, p_conv, evNew, pureK_some, newK_some, X.eval, set_none, set_some, List.map_cons, List.map_nil, List.getD_cons_zero, List.getD_cons_succ, List.getD_nil, List.set_cons_zero, List.set_cons_succ, binCV, unCV, isShift, intArithF_eq, shiftF_eq, wrapF_eq, intArith, shift, eqVal, bound, asNat_cast, cond_true, cond_false, BEq.rfl, beq_self_eq_true, evalParts, fillParts, AV.cells, AV.ofCells, XV.av, AV.xv, List.length_cons, List.length_nil, zeros, patch, setMany, List.nil_append, List.cons_append, Nat.ble, Nat.add_eq, Nat.zero_add, Nat.add_zero, Nat.reduceAdd, Nat.reduceMul, Nat.reduceSub, Nat.ble_eq, Nat.reduceLeDiff, Nat.reduceBEq, Int.reduceBEq, Int.reduceNeg, Bool.and_true, Bool.and_false, Bool.true_and, Bool.false_and, Bool.not_true, Bool.not_false, Bool.true_eq_false, Bool.false_eq_true, Int.reduceLT, Int.reduceLE, Int.reduceGT, Int.reduceGE, decide_true, decide_false, Bool.not_eq_true, loopN_norm, loopN_exit, tf, ft, ff, c1, c2, op_nilchk, p_nilchk, op_faddr, p_faddr, p_load, r1, AV.ofCells, op_sendd, c_sendd, hg, b1', hmap, p_ext, List.getElem?_cons_zero, List.getElem?_cons_succ, r2, r3, c3]
    exact ⟨_, _, rfl, g2, .inl ⟨rfl, rfl⟩, e0⟩
  · have c3 : decide (((xs.length + 1 : Nat) : Int) < 8) = false := decide_eq_false (by omega)
    rw [if_neg hl, if_neg hl]
    obtain ⟨y, h', e1, g', my, x1⟩ := drain_ok (N := N) (d := d) g2 (by simp; omega) hN
    simp only [enter_eq, ev_seq, seqK_norm, seqK_exit, seqK_ret, ev_reg, ev_cond, condK_true, condK_false, ev_block, blockK_norm, blockK_ret, blockK_exit, ev_loop, ev_skip, ev_exit, ev_ret, regK_cons, regK_nil, guard_none, guard_some, regG_true, regG_false, regO_some, op_mov, op_conv, op_bin, op_bsl, op_box, op_mks, op_s2b, op_pick, op_un, op_eq, op_len, op_ext, op_load, op_iaddr, op_slice, op_b2s, op_idxS, op_mx, op_mn, op_call, op_store, op_app, op_copy, args_eq, result_one', rv_loc, finish_norm, finish_ret, outK_some, keep_true, keep_false, keep_nil, p_bin, p_pick, p_un, p_eq, p_conv, evNew, pureK_some, newK_some, X.eval, set_none, set_some, List.map_cons, List.map_nil, List.getD_cons_zero, List.getD_cons_succ, List.getD_nil, List.set_cons_zero, List.set_cons_succ, binCV, unCV, isShift, intArithF_eq, shiftF_eq, wrapF_eq, intArith, shift, eqVal, bound, asNat_cast, cond_true, cond_false, BEq.rfl, beq_self_eq_true, evalParts, fillParts, AV.cells, AV.ofCells, XV.av, AV.xv, List.length_cons, List.length_nil, zeros, patch, setMany, List.nil_append, List.cons_append, Nat.ble, Nat.add_eq, Nat.zero_add, Nat.add_zero, Nat.reduceAdd, Nat.reduceMul, Nat.reduceSub, Nat.ble_eq, Nat.reduceLeDiff, Nat.reduceBEq, Int.reduceBEq, Int.reduceNeg, Bool.and_true, Bool.and_false, Bool.true_and, Bool.false_and, Bool.not_true, Bool.not_false, Bool.true_eq_false, Bool.false_eq_true, Int.reduceLT, Int.reduceLE, Int.reduceGT, Int.reduceGE, decide_true, decide_false, Bool.not_eq_true, loopN_norm, loopN_exit, tf, ft, ff, c1, c2, op_nilchk, p_nilchk, op_faddr, p_faddr, p_load, r1, AV.ofCells, op_sendd, c_sendd, hg, b1', hmap, p_ext, List.getElem?_cons_zero, List.getElem?_cons_succ, r2, r3, c3, e1]
    exact ⟨_, _, rfl, g', my.from_ (Nat.le_refl _), e0.trans x1⟩

/-- One that may not. -/
theorem touch_no (f : Int) (hf : f < 0 ∨ f ≥ 32) : evCallT table 15 N (d + 1) 23 [.c (.ptr p 0), .c (.int .i64 f)] h = some (.c .nils, h) := by
  rw [evCallT_eq (F := ir23) rfl rfl rfl]
  unfold ir23
  rw [bodyK_eq]
  by_cases c1 : f < 0
  · simp only [enter_eq, ev_seq, seqK_norm, seqK_exit, seqK_ret, ev_reg, ev_cond, condK_true, condK_false, ev_block, blockK_norm, blockK_ret, blockK_exit, ev_loop, ev_skip, ev_exit, ev_ret, regK_cons, regK_nil, guard_none, guard_some, regG_true, regG_false, regO_some, op_mov, op_conv, op_bin, op_bsl, op_box, op_mks, op_s2b, op_pick, op_un, op_eq, op_len, op_ext, op_load, op_iaddr, op_slice, op_b2s, op_idxS, op_mx, op_mn, op_call, op_store, op_app, op_copy, args_eq, result_one', rv_loc, finish_norm, finish_ret, outK_some, keep_true, keep_false, keep_nil, p_bin, p_pick, p_un, p_eq, p_conv, evNew, pureK_some, newK_some, X.eval, set_none, set_some, List.map_cons, List.map_nil, List.getD_cons_zero, List.getD_cons_succ, List.getD_nil, List.set_cons_zero, List.set_cons_succ, binCV, unCV, isShift, intArithF_eq, shiftF_eq, wrapF_eq, intArith, shift, eqVal, bound, asNat_cast, cond_true, cond_false, BEq.rfl, beq_self_eq_true, evalParts, fillParts, AV.cells, AV.ofCells, XV.av, AV.xv, List.length_cons, List.length_nil, zeros, patch, setMany, List.nil_append, List.cons_append, Nat.ble, Nat.add_eq, Nat.zero_add, Nat.add_zero, Nat.reduceAdd, Nat.reduceMul, Nat.reduceSub, Nat.ble_eq, Nat.reduceLeDiff, Nat.reduceBEq, Int.reduceBEq, Int.reduceNeg, Bool.and_true, Bool.and_false, Bool.true_and, Bool.false_and, Bool.not_true, Bool.not_false, Bool.true_eq_false, Bool.false_eq_true, Int.reduceLT, Int.reduceLE, Int.reduceGT, Int.reduceGE, decide_true, decide_false, Bool.not_eq_true, loopN_norm, loopN_exit, tf, ft, ff, decide_eq_true c1]
  · have c2 : f ≥ 32 := by omega
    simp only [enter_eq, ev_seq, seqK_norm, seqK_exit, seqK_ret, ev_reg, ev_cond, condK_true, condK_false, ev_block, blockK_norm, blockK_ret, blockK_exit, ev_loop, ev_skip, ev_exit, ev_ret, regK_cons, regK_nil, guard_none, guard_some, regG_true, regG_false, regO_some, op_mov, op_conv, op_bin, op_bsl, op_box, op_mks, op_s2b, op_pick, op_un, op_eq, op_len, op_ext, op_load, op_iaddr, op_slice, op_b2s, op_idxS, op_mx, op_mn, op_call, op_store, op_app, op_copy, args_eq, result_one', rv_loc, finish_norm, finish_ret, outK_some, keep_true, keep_false, keep_nil, p_bin, p_pick, p_un, p_eq, p_conv, evNew, pureK_some, newK_some, X.eval, set_none, set_some, List.map_cons, List.map_nil, List.getD_cons_zero, List.getD_cons_succ, List.getD_nil, List.set_cons_zero, List.set_cons_succ, binCV, unCV, isShift, intArithF_eq, shiftF_eq, wrapF_eq, intArith, shift, eqVal, bound, asNat_cast, cond_true, cond_false, BEq.rfl, beq_self_eq_true, evalParts, fillParts, AV.cells, AV.ofCells, XV.av, AV.xv, List.length_cons, List.length_nil, zeros, patch, setMany, List.nil_append, List.cons_append, Nat.ble, Nat.add_eq, Nat.zero_add, Nat.add_zero, Nat.reduceAdd, Nat.reduceMul, Nat.reduceSub, Nat.ble_eq, Nat.reduceLeDiff, Nat.reduceBEq, Int.reduceBEq, Int.reduceNeg, Bool.and_true, Bool.and_false, Bool.true_and, Bool.false_and, Bool.not_true, Bool.not_false, Bool.true_eq_false, Bool.false_eq_true, Int.reduceLT, Int.reduceLE, Int.reduceGT, Int.reduceGE, decide_true, decide_false, Bool.not_eq_true, loopN_norm, loopN_exit, tf, ft, ff, decide_eq_false c1, decide_eq_true c2]

end
theorem tld8 : ToldOK Go.Proofs.Try.prog 15 := told_of (calls_okF 300 9) (by kernel_rfl)
end Lav
