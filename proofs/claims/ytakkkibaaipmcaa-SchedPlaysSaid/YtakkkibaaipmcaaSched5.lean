/-
  Layer 7: tasks that may not be there; new schedules of any size; whether tasks are stuck.
-/
import Derived.Test.YtakkkibaaipmcaaSched4
import Derived.Test.YtakkkibaaipmcaaRep3
set_option maxRecDepth 100000
set_option linter.unusedSimpArgs false
namespace Lav
open Go (IntKind)

/-- Is a task in a state? -/
def isM (ts : Tks) (t st : Int) : Bool := decide (0 ≤ t) && (match ts[t.toNat]? with | some x => x.st == st | none => false)
theorem isM_in {ts : Tks} {j : Nat} (hj : j < ts.length) (st : Int) : isM ts (j : Int) st = (ts[j].st == st) := by
  unfold isM
  rw [decide_eq_true (by omega), Int.toNat_natCast, List.getElem?_eq_getElem hj, Bool.true_and]
theorem isM_out {ts : Tks} {t : Int} (ht : ¬ (0 ≤ t ∧ t < (ts.length : Int))) (st : Int) : isM ts t st = false := by
  unfold isM
  by_cases h0 : 0 ≤ t
  · rw [List.getElem?_eq_none (by omega)]; simp
  · rw [decide_eq_false h0]; rfl

section
variable {N d : Nat} {h : Heap} {p b : Nat} {ts : Tks}

theorem free_any (s : SB h p b ts) (on : Int) (hN : ts.length + 2 ≤ N) (hn : ts.length ≤ 64) :
    ∃ y h', evCallT table 28 N (d + 1) 37 [.c (.ptr p 0), .c (.int .i64 (on : Int))] h = some (.c y, h') ∧ Made h h' y (natL (idxGo (waitsOn on) 0 ts)) ∧ SB h' p b (ts.map (freed on)) ∧ ExtB [b] h h' := by
  have ll : ∀ loc vals h', evPure loc (.c (.sl b 0 ts.length (.ex ts.length)) :: vals) h' (.len .sl (.val 0)) = some (.c (.int .i64 (ts.length : Int))) := fun _ _ _ => rfl
  rw [evCallT_eq (F := ir37) rfl rfl rfl]
  unfold ir37
  rw [bodyK_eq]
  have bneI : ∀ {a b : Int}, (a != b) = !(a == b) := rfl
  have L : ∀ loc, keepOnly ir37_k0 loc = [.c (.ptr p 0), .c (.int .i64 (on : Int)), .junk, .c .nils, .junk, .junk, .junk, .c (.sl b 0 ts.length (.ex ts.length)), .c (.int .i64 (ts.length : Int)), .c (.int .i64 0), .junk, .junk] →
      ∃ r, loopK (evCallT table 28 N d) N ir37_k0 ir37_l0 N loc h = some r ∧ ∃ y h' a0 a1 a2 l, r = (.exit 0, a0 :: a1 :: a2 :: .c y :: l, h') ∧ Made h h' y (natL (idxGo (waitsOn on) 0 ts)) ∧ SB h' p b (ts.map (freed on)) ∧ ExtB [b] h h' := by
    intro loc hloc
    refine loop_inv (n := ts.length) (fun i loc h' => ExtB [b] h h' ∧ SB h' p b (freeSt on ts i) ∧ ∃ y, Mine 1 h h' y (idxGo (waitsOn on) 0 (ts.take i)).length ((natL (idxGo (waitsOn on) 0 (ts.take i))).map icell) ∧ loc = [.c (.ptr p 0), .c (.int .i64 (on : Int)), .junk, .c y, .junk, .junk, .junk, .c (.sl b 0 ts.length (.ex ts.length)), .c (.int .i64 (ts.length : Int)), .c (.int .i64 (i : Int)), .junk, .junk]) _ ?_
      ⟨ExtB.refl _ _, by simpa [freeSt] using s, .nils, Mine.nil, hloc⟩ (by omega)
    rintro i loc h' hi ⟨he, s', y, hy, rfl⟩
    unfold ir37_l0
    have hfl := freeSt_len on ts i hi
    by_cases hlt : i < ts.length
    · left
      refine ⟨hlt, ?_⟩
      have v1 : decide ((i : Int) < (ts.length : Int)) = true := ltNat hlt
      have v2 := succI (i := i) (by omega)
      have m1 : Nat.blt i ts.length = true := bltT hlt
      have hat : (freeSt on ts i)[i]'(by omega) = ts[i] := by
        have := freeSt_at on ts i hlt
        rw [List.getElem?_eq_getElem (by omega)] at this
        simpa using this
      have rt := s'.rt (i := i) (by omega)
      rw [hat] at rt
      have r' := s'.r
      rw [hfl] at r'
      obtain ⟨h1, w1, g1, x1, n1⟩ := box_store (h := h') (z := [.int .i64 0, .int .i64 0, .int .i64 0]) (v := [.int .i64 ts[i].st, .int .i64 ts[i].pc, .int .i64 ts[i].on]) rfl
      have q0 : h1.read h'.next 0 1 = some [.int .i64 ts[i].st] := read_cells g1 rfl
      have q2 : h1.read h'.next 2 1 = some [.int .i64 ts[i].on] := read_cells g1 rfl
      have s1 := s'.ext (x1.b []) (by simp) (by simp)
      have hy1 : Mine 1 h h1 y (idxGo (waitsOn on) 0 (ts.take i)).length ((natL (idxGo (waitsOn on) 0 (ts.take i))).map icell) := Mine.keep hy x1.1 fun j hj _ => x1.2 j hj
      have he1 : ExtB [b] h h1 := he.trans (x1.b _)
      have happ := idx_app (waitsOn on) (ts.take i) 0 ts[i]
      rw [← List.take_succ_eq_append_getElem hlt, Nat.zero_add, List.length_take, Nat.min_eq_left (Nat.le_of_lt hlt)] at happ
      have hrl := idx_len (waitsOn on) (ts.take i) 0
      rw [List.length_take] at hrl
      have hsucc := freeSt_succ on ts i hlt
      have stay : waitsOn on ts[i] = false → freeSt on ts (i + 1) = freeSt on ts i := fun hw => by
        rw [← hsucc]
        have : freed on ts[i] = ts[i] := by simp [freed, hw]
        rw [this, ← hat]; exact List.set_getElem_self _
      by_cases c1 : ts[i].st = 2
      · have e1 : (ts[i].st == 2) = true := by simp [c1]
        by_cases c2 : ts[i].on = (on : Int)
        · have e2 : (ts[i].on == (on : Int)) = true := by simp [c2]
          have hw : waitsOn on ts[i] = true := by simp [waitsOn, e1, e2]
          have hfr : freed on ts[i] = ⟨1, ts[i].pc, -1⟩ := by simp [freed, hw]
          rw [if_pos hw] at happ
          have r1 := s1.r
          rw [hfl] at r1
          have W1 := s1.w0 (i := i) (by omega) 1
          have s2 : SB (h1.put b (.cells (tksC ((freeSt on ts i).set i { (freeSt on ts i)[i]'(by omega) with st := 1 })))) p b ((freeSt on ts i).set i { (freeSt on ts i)[i]'(by omega) with st := 1 }) := s1.put (by simp)
          have W2 := s2.w2 (i := i) (by simp; omega) (-1)
          rw [List.getElem_set_self, List.set_set] at W2
          have hlast : (freeSt on ts i).set i { ({ (freeSt on ts i)[i]'(by omega) with st := 1 } : Tk) with on := -1 } = freeSt on ts (i + 1) := by
            rw [← hsucc, hfr, hat]
          rw [hlast] at W2
          generalize hH : (h1.put b (.cells (tksC ((freeSt on ts i).set i { (freeSt on ts i)[i]'(by omega) with st := 1 })))).put b (.cells (tksC (freeSt on ts (i + 1)))) = H at *
          have sH : SB H p b (freeSt on ts (i + 1)) := by rw [← hH]; exact s2.put (by simp; rw [freeSt_len on ts (i + 1) (by omega), hfl])
          have xH : ExtB [b] h1 H := by rw [← hH]; exact ((ExtB.refl _ _).put (.inr (by simp)) _).put (.inr (by simp)) _
          have nH : H.next = h1.next := by rw [← hH]; rfl
          have hyb : ∀ k, blk y = some k → k ∉ [b] := fun k hk => by have := hy.young k hk; have := s.bn; simp; omega
          have hyH := hy1.keepB xH hyb
          obtain ⟨ha, a1, a2, a3, a4⟩ := app_mine (m := 0) (y := .c (.sl H.next 0 1 (.ex 1))) (hyH.new (.cells [icell (i : Int)])) (Nat.le_trans (he1.trans xH).1 (Nat.le_succ _)) (source_new get_new_at rfl) rfl (by omega)
          simp only [icell] at a1
          have hyg : ∀ r, r < h.next → blk y ≠ some r := fun r hr e => by have := hy.young r e; omega
          have old : ∀ r, r < h.next → ha.get r = H.get r := fun r hr => by
            rw [a4 r (Nat.lt_of_lt_of_le hr (Nat.le_trans (he1.trans xH).1 (Nat.le_succ _))) (hyg r hr), get_new_old (Nat.lt_of_lt_of_le hr (he1.trans xH).1)]
          have nha : ha.next = H.next + 2 := by rw [a3]; rfl
          have xa : ExtB [b] h ha := ⟨by have := (he1.trans xH).1; omega, fun r hr hn => (old r hr).trans ((he1.trans xH).2 r hr hn)⟩
          have sa : SB ha p b (freeSt on ts (i + 1)) := ⟨(old p s.pn).trans sH.cell, (old b s.bn).trans sH.tasks, s.ne, by have := sH.pn; omega, by have := sH.bn; omega⟩
          simp only [enter_eq, ev_seq, seqK_norm, seqK_exit, seqK_ret, ev_reg, ev_cond, condK_true, condK_false, ev_block, blockK_norm, blockK_ret, blockK_exit, ev_loop, ev_skip, ev_exit, ev_ret, regK_cons, regK_nil, guard_none, guard_some, regG_true, regG_false, regO_some, op_mov, op_conv, op_bin, op_bsl, op_box, op_mks, op_s2b, op_pick, op_un, op_eq, op_len, op_ext, op_load, op_iaddr, op_slice, op_b2s, op_idxS, op_mx, op_mn, op_call, op_store, op_app, op_copy, args_eq, result_one', rv_loc, finish_norm, finish_ret, outK_some, keep_true, keep_false, keep_nil, p_bin, p_pick, p_un, p_eq, p_conv, evNew, pureK_some, newK_some, X.eval, set_none, set_some, List.map_cons, List.map_nil, List.getD_cons_zero, List.getD_cons_succ, List.getD_nil, List.set_cons_zero, List.set_cons_succ, binCV, unCV, isShift, intArithF_eq, shiftF_eq, wrapF_eq, intArith, shift, eqVal, bound, asNat_cast, cond_true, cond_false, BEq.rfl, beq_self_eq_true, evalParts, fillParts, AV.cells, AV.ofCells, XV.av, AV.xv, List.length_cons, List.length_nil, zeros, patch, setMany, List.nil_append, List.cons_append, Nat.ble, Nat.add_eq, Nat.zero_add, Nat.add_zero, Nat.reduceAdd, Nat.reduceMul, Nat.reduceSub, Nat.ble_eq, Nat.reduceLeDiff, Nat.reduceBEq, Int.reduceBEq, Int.reduceNeg, Bool.and_true, Bool.and_false, Bool.true_and, Bool.false_and, Bool.not_true, Bool.not_false, Bool.true_eq_false, Bool.false_eq_true, Int.reduceLT, Int.reduceLE, Int.reduceGT, Int.reduceGE, decide_true, decide_false, Bool.not_eq_true, loopN_norm, loopN_exit, tf, ft, ff, ev_dreg, dregK_nil, dregK_cons, dregE_true, dregP_some, dregX_some, d_mov, d_bin, d_eq, d_pick, d_un, d_conv, d_b2s, d_len, d_load, d_iaddr, d_slice, d_ext, d_call, d_store, chk_done, chk_none, chk_some, chkG_true, chkG_false, chkOne_nil, chkOne_cons, chkH_some, chkV_same, stage_none, stage_some, look_hit, look_miss, news_nil, wb_cons, wb_nil, skip0, List.reverse_cons, List.reverse_nil, bneI, d_nilchk, d_faddr, op_nilchk, p_nilchk, op_faddr, p_faddr, v1, v2, p_iaddr, p_load, m1, r', r1, rt, w1, evEff, q0, q2, e1, e2, AV.ofCells, W1, W2, a1]
          refine ⟨_, _, rfl, xa, sa, _, ?_, rfl⟩
          rw [happ]
          simp only [natL, List.map_append, List.length_append, List.length_cons, List.length_nil]
          exact a2
        · have e2 : (ts[i].on == (on : Int)) = false := by simp [c2]
          have hw : waitsOn on ts[i] = false := by simp [waitsOn, e1, e2]
          rw [if_neg (by simp [hw]), List.append_nil] at happ
          simp only [enter_eq, ev_seq, seqK_norm, seqK_exit, seqK_ret, ev_reg, ev_cond, condK_true, condK_false, ev_block, blockK_norm, blockK_ret, blockK_exit, ev_loop, ev_skip, ev_exit, ev_ret, regK_cons, regK_nil, guard_none, guard_some, regG_true, regG_false, regO_some, op_mov, op_conv, op_bin, op_bsl, op_box, op_mks, op_s2b, op_pick, op_un, op_eq, op_len, op_ext, op_load, op_iaddr, op_slice, op_b2s, op_idxS, op_mx, op_mn, op_call, op_store, op_app, op_copy, args_eq, result_one', rv_loc, finish_norm, finish_ret, outK_some, keep_true, keep_false, keep_nil, p_bin, p_pick, p_un, p_eq, p_conv, evNew, pureK_some, newK_some, X.eval, set_none, set_some, List.map_cons, List.map_nil, List.getD_cons_zero, List.getD_cons_succ, List.getD_nil, List.set_cons_zero, List.set_cons_succ, binCV, unCV, isShift, intArithF_eq, shiftF_eq, wrapF_eq, intArith, shift, eqVal, bound, asNat_cast, cond_true, cond_false, BEq.rfl, beq_self_eq_true, evalParts, fillParts, AV.cells, AV.ofCells, XV.av, AV.xv, List.length_cons, List.length_nil, zeros, patch, setMany, List.nil_append, List.cons_append, Nat.ble, Nat.add_eq, Nat.zero_add, Nat.add_zero, Nat.reduceAdd, Nat.reduceMul, Nat.reduceSub, Nat.ble_eq, Nat.reduceLeDiff, Nat.reduceBEq, Int.reduceBEq, Int.reduceNeg, Bool.and_true, Bool.and_false, Bool.true_and, Bool.false_and, Bool.not_true, Bool.not_false, Bool.true_eq_false, Bool.false_eq_true, Int.reduceLT, Int.reduceLE, Int.reduceGT, Int.reduceGE, decide_true, decide_false, Bool.not_eq_true, loopN_norm, loopN_exit, tf, ft, ff, bneI, op_nilchk, p_nilchk, op_faddr, p_faddr, v1, v2, p_iaddr, p_load, m1, rt, w1, evEff, q0, q2, e1, e2, AV.ofCells]
          exact ⟨_, _, rfl, he1, by rw [stay hw]; exact s1, y, by rw [happ]; exact hy1, rfl⟩
      · have e1 : (ts[i].st == 2) = false := by simp [c1]
        have hw : waitsOn on ts[i] = false := by simp [waitsOn, e1]
        rw [if_neg (by simp [hw]), List.append_nil] at happ
        simp only [enter_eq, ev_seq, seqK_norm, seqK_exit, seqK_ret, ev_reg, ev_cond, condK_true, condK_false, ev_block, blockK_norm, blockK_ret, blockK_exit, ev_loop, ev_skip, ev_exit, ev_ret, regK_cons, regK_nil, guard_none, guard_some, regG_true, regG_false, regO_some, op_mov, op_conv, op_bin, op_bsl, op_box, op_mks, op_s2b, op_pick, op_un, op_eq, op_len, op_ext, op_load, op_iaddr, op_slice, op_b2s, op_idxS, op_mx, op_mn, op_call, op_store, op_app, op_copy, args_eq, result_one', rv_loc, finish_norm, finish_ret, outK_some, keep_true, keep_false, keep_nil, p_bin, p_pick, p_un, p_eq, p_conv, evNew, pureK_some, newK_some, X.eval, set_none, set_some, List.map_cons, List.map_nil, List.getD_cons_zero, List.getD_cons_succ, List.getD_nil, List.set_cons_zero, List.set_cons_succ, binCV, unCV, isShift, intArithF_eq, shiftF_eq, wrapF_eq, intArith, shift, eqVal, bound, asNat_cast, cond_true, cond_false, BEq.rfl, beq_self_eq_true, evalParts, fillParts, AV.cells, AV.ofCells, XV.av, AV.xv, List.length_cons, List.length_nil, zeros, patch, setMany, List.nil_append, List.cons_append, Nat.ble, Nat.add_eq, Nat.zero_add, Nat.add_zero, Nat.reduceAdd, Nat.reduceMul, Nat.reduceSub, Nat.ble_eq, Nat.reduceLeDiff, Nat.reduceBEq, Int.reduceBEq, Int.reduceNeg, Bool.and_true, Bool.and_false, Bool.true_and, Bool.false_and, Bool.not_true, Bool.not_false, Bool.true_eq_false, Bool.false_eq_true, Int.reduceLT, Int.reduceLE, Int.reduceGT, Int.reduceGE, decide_true, decide_false, Bool.not_eq_true, loopN_norm, loopN_exit, tf, ft, ff, bneI, op_nilchk, p_nilchk, op_faddr, p_faddr, v1, v2, p_iaddr, p_load, m1, rt, w1, evEff, q0, q2, e1, AV.ofCells]
        exact ⟨_, _, rfl, he1, by rw [stay hw]; exact s1, y, by rw [happ]; exact hy1, rfl⟩
    · right
      have hin : i = ts.length := by omega
      subst hin
      have v1 : decide ((ts.length : Int) < (ts.length : Int)) = false := geNat (Nat.le_refl _)
      rw [List.take_length] at hy
      have hend : freeSt on ts ts.length = ts.map (freed on) := by simp [freeSt]
      rw [hend] at s'
      simp only [enter_eq, ev_seq, seqK_norm, seqK_exit, seqK_ret, ev_reg, ev_cond, condK_true, condK_false, ev_block, blockK_norm, blockK_ret, blockK_exit, ev_loop, ev_skip, ev_exit, ev_ret, regK_cons, regK_nil, guard_none, guard_some, regG_true, regG_false, regO_some, op_mov, op_conv, op_bin, op_bsl, op_box, op_mks, op_s2b, op_pick, op_un, op_eq, op_len, op_ext, op_load, op_iaddr, op_slice, op_b2s, op_idxS, op_mx, op_mn, op_call, op_store, op_app, op_copy, args_eq, result_one', rv_loc, finish_norm, finish_ret, outK_some, keep_true, keep_false, keep_nil, p_bin, p_pick, p_un, p_eq, p_conv, evNew, pureK_some, newK_some, X.eval, set_none, set_some, List.map_cons, List.map_nil, List.getD_cons_zero, List.getD_cons_succ, List.getD_nil, List.set_cons_zero, List.set_cons_succ, binCV, unCV, isShift, intArithF_eq, shiftF_eq, wrapF_eq, intArith, shift, eqVal, bound, asNat_cast, cond_true, cond_false, BEq.rfl, beq_self_eq_true, evalParts, fillParts, AV.cells, AV.ofCells, XV.av, AV.xv, List.length_cons, List.length_nil, zeros, patch, setMany, List.nil_append, List.cons_append, Nat.ble, Nat.add_eq, Nat.zero_add, Nat.add_zero, Nat.reduceAdd, Nat.reduceMul, Nat.reduceSub, Nat.ble_eq, Nat.reduceLeDiff, Nat.reduceBEq, Int.reduceBEq, Int.reduceNeg, Bool.and_true, Bool.and_false, Bool.true_and, Bool.false_and, Bool.not_true, Bool.not_false, Bool.true_eq_false, Bool.false_eq_true, Int.reduceLT, Int.reduceLE, Int.reduceGT, Int.reduceGE, decide_true, decide_false, Bool.not_eq_true, loopN_norm, loopN_exit, tf, ft, ff, v1]
      refine ⟨_, rfl, by simp, y, h', _, _, _, _, rfl, ?_, s', he⟩
      exact Mine.made (vs := natL (idxGo (waitsOn on) 0 ts)) (by have : (idxGo (waitsOn on) 0 ts).length = (natL (idxGo (waitsOn on) 0 ts)).length := by simp [natL]
                                                                 rw [this] at hy; exact hy)
  obtain ⟨r, hr, y, h', a0, a1, a2, l, rfl, my, s', he⟩ := L [.c (.ptr p 0), .c (.int .i64 (on : Int)), .c .nils, .c .nils, .tup [], .tup [], .c (.bool false), .c (.sl b 0 ts.length (.ex ts.length)), .c (.int .i64 (ts.length : Int)), .c (.int .i64 0), .tup [], .tup []] rfl
  simp only [enter_eq, ev_seq, seqK_norm, seqK_exit, seqK_ret, ev_reg, ev_cond, condK_true, condK_false, ev_block, blockK_norm, blockK_ret, blockK_exit, ev_loop, ev_skip, ev_exit, ev_ret, regK_cons, regK_nil, guard_none, guard_some, regG_true, regG_false, regO_some, op_mov, op_conv, op_bin, op_bsl, op_box, op_mks, op_s2b, op_pick, op_un, op_eq, op_len, op_ext, op_load, op_iaddr, op_slice, op_b2s, op_idxS, op_mx, op_mn, op_call, op_store, op_app, op_copy, args_eq, result_one', rv_loc, finish_norm, finish_ret, outK_some, keep_true, keep_false, keep_nil, p_bin, p_pick, p_un, p_eq, p_conv, evNew, pureK_some, newK_some, X.eval, set_none, set_some, List.map_cons, List.map_nil, List.getD_cons_zero, List.getD_cons_succ, List.getD_nil, List.set_cons_zero, List.set_cons_succ, binCV, unCV, isShift, intArithF_eq, shiftF_eq, wrapF_eq, intArith, shift, eqVal, bound, asNat_cast, cond_true, cond_false, BEq.rfl, beq_self_eq_true, evalParts, fillParts, AV.cells, AV.ofCells, XV.av, AV.xv, List.length_cons, List.length_nil, zeros, patch, setMany, List.nil_append, List.cons_append, Nat.ble, Nat.add_eq, Nat.zero_add, Nat.add_zero, Nat.reduceAdd, Nat.reduceMul, Nat.reduceSub, Nat.ble_eq, Nat.reduceLeDiff, Nat.reduceBEq, Int.reduceBEq, Int.reduceNeg, Bool.and_true, Bool.and_false, Bool.true_and, Bool.false_and, Bool.not_true, Bool.not_false, Bool.true_eq_false, Bool.false_eq_true, Int.reduceLT, Int.reduceLE, Int.reduceGT, Int.reduceGE, decide_true, decide_false, Bool.not_eq_true, loopN_norm, loopN_exit, tf, ft, ff, op_nilchk, p_nilchk, op_faddr, p_faddr, p_load, s.r, AV.ofCells, ll, hr, blockK_exit_eq]
  exact ⟨_, _, rfl, my, s', he⟩

theorem has_any (s : SB h p b ts) (t : Int) : evCallT table 28 N (d + 1) 57 [.c (.ptr p 0), .c (.int .i64 t)] h = some (.c (.bool (decide (0 ≤ t ∧ t < (ts.length : Int)))), h) := by
  by_cases hin : 0 ≤ t ∧ t < (ts.length : Int)
  · obtain ⟨j, rfl⟩ : ∃ j : Nat, t = (j : Int) := ⟨t.toNat, by omega⟩
    rw [decide_eq_true hin]; exact has_ok s (by omega)
  · rw [decide_eq_false hin]
    have ll : ∀ loc vals h', evPure loc (.c (.sl b 0 ts.length (.ex ts.length)) :: vals) h' (.len .sl (.val 0)) = some (.c (.int .i64 (ts.length : Int))) := fun _ _ _ => rfl
    rw [evCallT_eq (F := ir57) rfl rfl rfl]
    unfold ir57
    rw [bodyK_eq]
    by_cases c1 : t ≥ 0
    · have c2 : decide (t < (ts.length : Int)) = false := decide_eq_false (by omega)
      simp only [enter_eq, ev_seq, seqK_norm, seqK_exit, seqK_ret, ev_reg, ev_cond, condK_true, condK_false, ev_block, blockK_norm, blockK_ret, blockK_exit, ev_loop, ev_skip, ev_exit, ev_ret, regK_cons, regK_nil, guard_none, guard_some, regG_true, regG_false, regO_some, op_mov, op_conv, op_bin, op_bsl, op_box, op_mks, op_s2b, op_pick, op_un, op_eq, op_len, op_ext, op_load, op_iaddr, op_slice, op_b2s, op_idxS, op_mx, op_mn, op_call, op_store, op_app, op_copy, args_eq, result_one', rv_loc, finish_norm, finish_ret, outK_some, keep_true, keep_false, keep_nil, p_bin, p_pick, p_un, p_eq, p_conv, evNew, pureK_some, newK_some, X.eval, set_none, set_some, List.map_cons, List.map_nil, List.getD_cons_zero, List.getD_cons_succ, List.getD_nil, List.set_cons_zero, List.set_cons_succ, binCV, unCV, isShift, intArithF_eq, shiftF_eq, wrapF_eq, intArith, shift, eqVal, bound, asNat_cast, cond_true, cond_false, BEq.rfl, beq_self_eq_true, evalParts, fillParts, AV.cells, AV.ofCells, XV.av, AV.xv, List.length_cons, List.length_nil, zeros, patch, setMany, List.nil_append, List.cons_append, Nat.ble, Nat.add_eq, Nat.zero_add, Nat.add_zero, Nat.reduceAdd, Nat.reduceMul, Nat.reduceSub, Nat.ble_eq, Nat.reduceLeDiff, Nat.reduceBEq, Int.reduceBEq, Int.reduceNeg, Bool.and_true, Bool.and_false, Bool.true_and, Bool.false_and, Bool.not_true, Bool.not_false, Bool.true_eq_false, Bool.false_eq_true, Int.reduceLT, Int.reduceLE, Int.reduceGT, Int.reduceGE, decide_true, decide_false, Bool.not_eq_true, loopN_norm, loopN_exit, tf, ft, ff, decide_eq_true c1, c2, op_nilchk, p_nilchk, op_faddr, p_faddr, p_load, s.r, AV.ofCells, ll]
    · simp only [enter_eq, ev_seq, seqK_norm, seqK_exit, seqK_ret, ev_reg, ev_cond, condK_true, condK_false, ev_block, blockK_norm, blockK_ret, blockK_exit, ev_loop, ev_skip, ev_exit, ev_ret, regK_cons, regK_nil, guard_none, guard_some, regG_true, regG_false, regO_some, op_mov, op_conv, op_bin, op_bsl, op_box, op_mks, op_s2b, op_pick, op_un, op_eq, op_len, op_ext, op_load, op_iaddr, op_slice, op_b2s, op_idxS, op_mx, op_mn, op_call, op_store, op_app, op_copy, args_eq, result_one', rv_loc, finish_norm, finish_ret, outK_some, keep_true, keep_false, keep_nil, p_bin, p_pick, p_un, p_eq, p_conv, evNew, pureK_some, newK_some, X.eval, set_none, set_some, List.map_cons, List.map_nil, List.getD_cons_zero, List.getD_cons_succ, List.getD_nil, List.set_cons_zero, List.set_cons_succ, binCV, unCV, isShift, intArithF_eq, shiftF_eq, wrapF_eq, intArith, shift, eqVal, bound, asNat_cast, cond_true, cond_false, BEq.rfl, beq_self_eq_true, evalParts, fillParts, AV.cells, AV.ofCells, XV.av, AV.xv, List.length_cons, List.length_nil, zeros, patch, setMany, List.nil_append, List.cons_append, Nat.ble, Nat.add_eq, Nat.zero_add, Nat.add_zero, Nat.reduceAdd, Nat.reduceMul, Nat.reduceSub, Nat.ble_eq, Nat.reduceLeDiff, Nat.reduceBEq, Int.reduceBEq, Int.reduceNeg, Bool.and_true, Bool.and_false, Bool.true_and, Bool.false_and, Bool.not_true, Bool.not_false, Bool.true_eq_false, Bool.false_eq_true, Int.reduceLT, Int.reduceLE, Int.reduceGT, Int.reduceGE, decide_true, decide_false, Bool.not_eq_true, loopN_norm, loopN_exit, tf, ft, ff, decide_eq_false c1]

theorem is_any (s : SB h p b ts) (t st : Int) : evCallT table 28 N (d + 2) 52 [.c (.ptr p 0), .c (.int .i64 t), .c (.int .i64 st)] h = some (.c (.bool (isM ts t st)), h) := by
  by_cases hin : 0 ≤ t ∧ t < (ts.length : Int)
  · obtain ⟨j, rfl⟩ : ∃ j : Nat, t = (j : Int) := ⟨t.toNat, by omega⟩
    rw [isM_in (by omega)]; exact is_ok s (by omega) st
  · rw [isM_out hin]
    have e1 := has_any (N := N) (d := d) s t
    rw [decide_eq_false hin] at e1
    rw [evCallT_eq (F := ir52) rfl rfl rfl]
    unfold ir52
    rw [bodyK_eq]
    simp only [enter_eq, ev_seq, seqK_norm, seqK_exit, seqK_ret, ev_reg, ev_cond, condK_true, condK_false, ev_block, blockK_norm, blockK_ret, blockK_exit, ev_loop, ev_skip, ev_exit, ev_ret, regK_cons, regK_nil, guard_none, guard_some, regG_true, regG_false, regO_some, op_mov, op_conv, op_bin, op_bsl, op_box, op_mks, op_s2b, op_pick, op_un, op_eq, op_len, op_ext, op_load, op_iaddr, op_slice, op_b2s, op_idxS, op_mx, op_mn, op_call, op_store, op_app, op_copy, args_eq, result_one', rv_loc, finish_norm, finish_ret, outK_some, keep_true, keep_false, keep_nil, p_bin, p_pick, p_un, p_eq, p_conv, evNew, pureK_some, newK_some, X.eval, set_none, set_some, List.map_cons, List.map_nil, List.getD_cons_zero, List.getD_cons_succ, List.getD_nil, List.set_cons_zero, List.set_cons_succ, binCV, unCV, isShift, intArithF_eq, shiftF_eq, wrapF_eq, intArith, shift, eqVal, bound, asNat_cast, cond_true, cond_false, BEq.rfl, beq_self_eq_true, evalParts, fillParts, AV.cells, AV.ofCells, XV.av, AV.xv, List.length_cons, List.length_nil, zeros, patch, setMany, List.nil_append, List.cons_append, Nat.ble, Nat.add_eq, Nat.zero_add, Nat.add_zero, Nat.reduceAdd, Nat.reduceMul, Nat.reduceSub, Nat.ble_eq, Nat.reduceLeDiff, Nat.reduceBEq, Int.reduceBEq, Int.reduceNeg, Bool.and_true, Bool.and_false, Bool.true_and, Bool.false_and, Bool.not_true, Bool.not_false, Bool.true_eq_false, Bool.false_eq_true, Int.reduceLT, Int.reduceLE, Int.reduceGT, Int.reduceGE, decide_true, decide_false, Bool.not_eq_true, loopN_norm, loopN_exit, tf, ft, ff, e1]

/-- What the steps do. -/
def wakeM (ts : Tks) (t pc : Int) : Bool × Tks := if 0 ≤ pc ∧ (isM ts t 0 = true ∨ isM ts t 3 = true) then (true, ts.set t.toNat ⟨1, pc, -1⟩) else (false, ts)
def goM (ts : Tks) (t pc : Int) : Bool × Tks := if 0 ≤ pc ∧ isM ts t 1 = true then (true, match ts[t.toNat]? with | some x => ts.set t.toNat { x with pc := pc } | none => ts) else (false, ts)
def blockM (ts : Tks) (t on : Int) : Bool × Tks := if 0 ≤ on ∧ isM ts t 1 = true then (true, match ts[t.toNat]? with | some x => ts.set t.toNat ⟨2, x.pc, on⟩ | none => ts) else (false, ts)
def doneM (ts : Tks) (t : Int) : Bool × Tks := if isM ts t 1 = true then (true, match ts[t.toNat]? with | some x => ts.set t.toNat { x with st := 3 } | none => ts) else (false, ts)

theorem isM_there {t st : Int} (h : isM ts t st = true) : ∃ j : Nat, t = (j : Int) ∧ ∃ hj : j < ts.length, ts[j].st = st := by
  by_cases hin : 0 ≤ t ∧ t < (ts.length : Int)
  · obtain ⟨j, rfl⟩ : ∃ j : Nat, t = (j : Int) := ⟨t.toNat, by omega⟩
    have hj : j < ts.length := by omega
    rw [isM_in hj] at h
    exact ⟨j, rfl, hj, by simpa using h⟩
  · rw [isM_out hin] at h; cases h

theorem wake_any (s : SB h p b ts) (t pc : Int) : ∃ h', evCallT table 28 N (d + 3) 29 [.c (.ptr p 0), .c (.int .i64 t), .c (.int .i64 pc)] h = some (.c (.bool (wakeM ts t pc).1), h') ∧ SB h' p b (wakeM ts t pc).2 ∧ ExtB [b] h h' := by
  unfold wakeM
  by_cases hc : 0 ≤ pc ∧ (isM ts t 0 = true ∨ isM ts t 3 = true)
  · rw [if_pos hc]
    obtain ⟨j, rfl, hj, hst⟩ : ∃ j : Nat, t = (j : Int) ∧ ∃ hj : j < ts.length, ts[j].st = 0 ∨ ts[j].st = 3 := by
      rcases hc.2 with h1 | h1
      · obtain ⟨j, h2, hj, h3⟩ := isM_there h1; exact ⟨j, h2, hj, .inl h3⟩
      · obtain ⟨j, h2, hj, h3⟩ := isM_there h1; exact ⟨j, h2, hj, .inr h3⟩
    obtain ⟨k, rfl⟩ : ∃ k : Nat, pc = (k : Int) := ⟨pc.toNat, by omega⟩
    have e := wake_ok (N := N) (d := d) s hj k
    rw [if_pos hst] at e
    rw [Int.toNat_natCast]
    exact ⟨_, e, s.put (by simp), (ExtB.refl _ _).put (.inr (by simp)) _⟩
  · rw [if_neg hc]
    have e0 := is_any (N := N) (d := d) s t 0
    have e3 := is_any (N := N) (d := d) s t 3
    rw [evCallT_eq (F := ir29) rfl rfl rfl]
    unfold ir29
    rw [bodyK_eq]
    by_cases c1 : pc < 0
    · simp only [enter_eq, ev_seq, seqK_norm, seqK_exit, seqK_ret, ev_reg, ev_cond, condK_true, condK_false, ev_block, blockK_norm, blockK_ret, blockK_exit, ev_loop, ev_skip, ev_exit, ev_ret, regK_cons, regK_nil, guard_none, guard_some, regG_true, regG_false, regO_some, op_mov, op_conv, op_bin, op_bsl, op_box, op_mks, op_s2b, op_pick, op_un, op_eq, op_len, op_ext, op_load, op_iaddr, op_slice, op_b2s, op_idxS, op_mx, op_mn, op_call, op_store, op_app, op_copy, args_eq, result_one', rv_loc, finish_norm, finish_ret, outK_some, keep_true, keep_false, keep_nil, p_bin, p_pick, p_un, p_eq, p_conv, evNew, pureK_some, newK_some, X.eval, set_none, set_some, List.map_cons, List.map_nil, List.getD_cons_zero, List.getD_cons_succ, List.getD_nil, List.set_cons_zero, List.set_cons_succ, binCV, unCV, isShift, intArithF_eq, shiftF_eq, wrapF_eq, intArith, shift, eqVal, bound, asNat_cast, cond_true, cond_false, BEq.rfl, beq_self_eq_true, evalParts, fillParts, AV.cells, AV.ofCells, XV.av, AV.xv, List.length_cons, List.length_nil, zeros, patch, setMany, List.nil_append, List.cons_append, Nat.ble, Nat.add_eq, Nat.zero_add, Nat.add_zero, Nat.reduceAdd, Nat.reduceMul, Nat.reduceSub, Nat.ble_eq, Nat.reduceLeDiff, Nat.reduceBEq, Int.reduceBEq, Int.reduceNeg, Bool.and_true, Bool.and_false, Bool.true_and, Bool.false_and, Bool.not_true, Bool.not_false, Bool.true_eq_false, Bool.false_eq_true, Int.reduceLT, Int.reduceLE, Int.reduceGT, Int.reduceGE, decide_true, decide_false, Bool.not_eq_true, loopN_norm, loopN_exit, tf, ft, ff, decide_eq_true c1]
      exact ⟨_, rfl, s, ExtB.refl _ _⟩
    · have q0 : isM ts t 0 = false := by cases hq : isM ts t 0 with | true => exact absurd ⟨by omega, .inl hq⟩ hc | false => rfl
      have q3 : isM ts t 3 = false := by cases hq : isM ts t 3 with | true => exact absurd ⟨by omega, .inr hq⟩ hc | false => rfl
      rw [q0] at e0
      rw [q3] at e3
      simp only [enter_eq, ev_seq, seqK_norm, seqK_exit, seqK_ret, ev_reg, ev_cond, condK_true, condK_false, ev_block, blockK_norm, blockK_ret, blockK_exit, ev_loop, ev_skip, ev_exit, ev_ret, regK_cons, regK_nil, guard_none, guard_some, regG_true, regG_false, regO_some, op_mov, op_conv, op_bin, op_bsl, op_box, op_mks, op_s2b, op_pick, op_un, op_eq, op_len, op_ext, op_load, op_iaddr, op_slice, op_b2s, op_idxS, op_mx, op_mn, op_call, op_store, op_app, op_copy, args_eq, result_one', rv_loc, finish_norm, finish_ret, outK_some, keep_true, keep_false, keep_nil, p_bin, p_pick, p_un, p_eq, p_conv, evNew, pureK_some, newK_some, X.eval, set_none, set_some, List.map_cons, List.map_nil, List.getD_cons_zero, List.getD_cons_succ, List.getD_nil, List.set_cons_zero, List.set_cons_succ, binCV, unCV, isShift, intArithF_eq, shiftF_eq, wrapF_eq, intArith, shift, eqVal, bound, asNat_cast, cond_true, cond_false, BEq.rfl, beq_self_eq_true, evalParts, fillParts, AV.cells, AV.ofCells, XV.av, AV.xv, List.length_cons, List.length_nil, zeros, patch, setMany, List.nil_append, List.cons_append, Nat.ble, Nat.add_eq, Nat.zero_add, Nat.add_zero, Nat.reduceAdd, Nat.reduceMul, Nat.reduceSub, Nat.ble_eq, Nat.reduceLeDiff, Nat.reduceBEq, Int.reduceBEq, Int.reduceNeg, Bool.and_true, Bool.and_false, Bool.true_and, Bool.false_and, Bool.not_true, Bool.not_false, Bool.true_eq_false, Bool.false_eq_true, Int.reduceLT, Int.reduceLE, Int.reduceGT, Int.reduceGE, decide_true, decide_false, Bool.not_eq_true, loopN_norm, loopN_exit, tf, ft, ff, decide_eq_false c1, e0, e3]
      exact ⟨_, rfl, s, ExtB.refl _ _⟩

theorem go_any (s : SB h p b ts) (t pc : Int) : ∃ h', evCallT table 28 N (d + 3) 31 [.c (.ptr p 0), .c (.int .i64 t), .c (.int .i64 pc)] h = some (.c (.bool (goM ts t pc).1), h') ∧ SB h' p b (goM ts t pc).2 ∧ ExtB [b] h h' := by
  unfold goM
  by_cases hc : 0 ≤ pc ∧ isM ts t 1 = true
  · rw [if_pos hc]
    obtain ⟨j, rfl, hj, hst⟩ := isM_there hc.2
    obtain ⟨k, rfl⟩ : ∃ k : Nat, pc = (k : Int) := ⟨pc.toNat, by omega⟩
    have e := go_ok (N := N) (d := d) s hj k
    rw [if_pos hst] at e
    rw [Int.toNat_natCast, List.getElem?_eq_getElem hj]
    exact ⟨_, e, s.put (by simp), (ExtB.refl _ _).put (.inr (by simp)) _⟩
  · rw [if_neg hc]
    have e1 := is_any (N := N) (d := d) s t 1
    rw [evCallT_eq (F := ir31) rfl rfl rfl]
    unfold ir31
    rw [bodyK_eq]
    by_cases c1 : pc < 0
    · simp only [enter_eq, ev_seq, seqK_norm, seqK_exit, seqK_ret, ev_reg, ev_cond, condK_true, condK_false, ev_block, blockK_norm, blockK_ret, blockK_exit, ev_loop, ev_skip, ev_exit, ev_ret, regK_cons, regK_nil, guard_none, guard_some, regG_true, regG_false, regO_some, op_mov, op_conv, op_bin, op_bsl, op_box, op_mks, op_s2b, op_pick, op_un, op_eq, op_len, op_ext, op_load, op_iaddr, op_slice, op_b2s, op_idxS, op_mx, op_mn, op_call, op_store, op_app, op_copy, args_eq, result_one', rv_loc, finish_norm, finish_ret, outK_some, keep_true, keep_false, keep_nil, p_bin, p_pick, p_un, p_eq, p_conv, evNew, pureK_some, newK_some, X.eval, set_none, set_some, List.map_cons, List.map_nil, List.getD_cons_zero, List.getD_cons_succ, List.getD_nil, List.set_cons_zero, List.set_cons_succ, binCV, unCV, isShift, intArithF_eq, shiftF_eq, wrapF_eq, intArith, shift, eqVal, bound, asNat_cast, cond_true, cond_false, BEq.rfl, beq_self_eq_true, evalParts, fillParts, AV.cells, AV.ofCells, XV.av, AV.xv, List.length_cons, List.length_nil, zeros, patch, setMany, List.nil_append, List.cons_append, Nat.ble, Nat.add_eq, Nat.zero_add, Nat.add_zero, Nat.reduceAdd, Nat.reduceMul, Nat.reduceSub, Nat.ble_eq, Nat.reduceLeDiff, Nat.reduceBEq, Int.reduceBEq, Int.reduceNeg, Bool.and_true, Bool.and_false, Bool.true_and, Bool.false_and, Bool.not_true, Bool.not_false, Bool.true_eq_false, Bool.false_eq_true, Int.reduceLT, Int.reduceLE, Int.reduceGT, Int.reduceGE, decide_true, decide_false, Bool.not_eq_true, loopN_norm, loopN_exit, tf, ft, ff, decide_eq_true c1]
      exact ⟨_, rfl, s, ExtB.refl _ _⟩
    · have q0 : isM ts t 1 = false := by cases hq : isM ts t 1 with | true => exact absurd ⟨by omega, hq⟩ hc | false => rfl
      rw [q0] at e1
      simp only [enter_eq, ev_seq, seqK_norm, seqK_exit, seqK_ret, ev_reg, ev_cond, condK_true, condK_false, ev_block, blockK_norm, blockK_ret, blockK_exit, ev_loop, ev_skip, ev_exit, ev_ret, regK_cons, regK_nil, guard_none, guard_some, regG_true, regG_false, regO_some, op_mov, op_conv, op_bin, op_bsl, op_box, op_mks, op_s2b, op_pick, op_un, op_eq, op_len, op_ext, op_load, op_iaddr, op_slice, op_b2s, op_idxS, op_mx, op_mn, op_call, op_store, op_app, op_copy, args_eq, result_one', rv_loc, finish_norm, finish_ret, outK_some, keep_true, keep_false, keep_nil, p_bin, p_pick, p_un, p_eq, p_conv, evNew, pureK_some, newK_some, X.eval, set_none, set_some, List.map_cons, List.map_nil, List.getD_cons_zero, List.getD_cons_succ, List.getD_nil, List.set_cons_zero, List.set_cons_succ, binCV, unCV, isShift, intArithF_eq, shiftF_eq, wrapF_eq, intArith, shift, eqVal, bound, asNat_cast, cond_true, cond_false, BEq.rfl, beq_self_eq_true, evalParts, fillParts, AV.cells, AV.ofCells, XV.av, AV.xv, List.length_cons, List.length_nil, zeros, patch, setMany, List.nil_append, List.cons_append, Nat.ble, Nat.add_eq, Nat.zero_add, Nat.add_zero, Nat.reduceAdd, Nat.reduceMul, Nat.reduceSub, Nat.ble_eq, Nat.reduceLeDiff, Nat.reduceBEq, Int.reduceBEq, Int.reduceNeg, Bool.and_true, Bool.and_false, Bool.true_and, Bool.false_and, Bool.not_true, Bool.not_false, Bool.true_eq_false, Bool.false_eq_true, Int.reduceLT, Int.reduceLE, Int.reduceGT, Int.reduceGE, decide_true, decide_false, Bool.not_eq_true, loopN_norm, loopN_exit, tf, ft, ff, decide_eq_false c1, e1]
      exact ⟨_, rfl, s, ExtB.refl _ _⟩

theorem block_any (s : SB h p b ts) (t on : Int) : ∃ h', evCallT table 28 N (d + 3) 33 [.c (.ptr p 0), .c (.int .i64 t), .c (.int .i64 on)] h = some (.c (.bool (blockM ts t on).1), h') ∧ SB h' p b (blockM ts t on).2 ∧ ExtB [b] h h' := by
  unfold blockM
  by_cases hc : 0 ≤ on ∧ isM ts t 1 = true
  · rw [if_pos hc]
    obtain ⟨j, rfl, hj, hst⟩ := isM_there hc.2
    obtain ⟨k, rfl⟩ : ∃ k : Nat, on = (k : Int) := ⟨on.toNat, by omega⟩
    have e := block_ok (N := N) (d := d) s hj k
    rw [if_pos hst] at e
    rw [Int.toNat_natCast, List.getElem?_eq_getElem hj]
    have s1 : SB (h.put b (.cells (tksC (ts.set j { ts[j] with st := 2 })))) p b (ts.set j { ts[j] with st := 2 }) := s.put (by simp)
    exact ⟨_, e, s1.put (by simp), ((ExtB.refl _ _).put (.inr (by simp)) _).put (.inr (by simp)) _⟩
  · rw [if_neg hc]
    have e1 := is_any (N := N) (d := d) s t 1
    rw [evCallT_eq (F := ir33) rfl rfl rfl]
    unfold ir33
    rw [bodyK_eq]
    by_cases c1 : on < 0
    · simp only [enter_eq, ev_seq, seqK_norm, seqK_exit, seqK_ret, ev_reg, ev_cond, condK_true, condK_false, ev_block, blockK_norm, blockK_ret, blockK_exit, ev_loop, ev_skip, ev_exit, ev_ret, regK_cons, regK_nil, guard_none, guard_some, regG_true, regG_false, regO_some, op_mov, op_conv, op_bin, op_bsl, op_box, op_mks, op_s2b, op_pick, op_un, op_eq, op_len, op_ext, op_load, op_iaddr, op_slice, op_b2s, op_idxS, op_mx, op_mn, op_call, op_store, op_app, op_copy, args_eq, result_one', rv_loc, finish_norm, finish_ret, outK_some, keep_true, keep_false, keep_nil, p_bin, p_pick, p_un, p_eq, p_conv, evNew, pureK_some, newK_some, X.eval, set_none, set_some, List.map_cons, List.map_nil, List.getD_cons_zero, List.getD_cons_succ, List.getD_nil, List.set_cons_zero, List.set_cons_succ, binCV, unCV, isShift, intArithF_eq, shiftF_eq, wrapF_eq, intArith, shift, eqVal, bound, asNat_cast, cond_true, cond_false, BEq.rfl, beq_self_eq_true, evalParts, fillParts, AV.cells, AV.ofCells, XV.av, AV.xv, List.length_cons, List.length_nil, zeros, patch, setMany, List.nil_append, List.cons_append, Nat.ble, Nat.add_eq, Nat.zero_add, Nat.add_zero, Nat.reduceAdd, Nat.reduceMul, Nat.reduceSub, Nat.ble_eq, Nat.reduceLeDiff, Nat.reduceBEq, Int.reduceBEq, Int.reduceNeg, Bool.and_true, Bool.and_false, Bool.true_and, Bool.false_and, Bool.not_true, Bool.not_false, Bool.true_eq_false, Bool.false_eq_true, Int.reduceLT, Int.reduceLE, Int.reduceGT, Int.reduceGE, decide_true, decide_false, Bool.not_eq_true, loopN_norm, loopN_exit, tf, ft, ff, decide_eq_true c1]
      exact ⟨_, rfl, s, ExtB.refl _ _⟩
    · have q0 : isM ts t 1 = false := by cases hq : isM ts t 1 with | true => exact absurd ⟨by omega, hq⟩ hc | false => rfl
      rw [q0] at e1
      simp only [enter_eq, ev_seq, seqK_norm, seqK_exit, seqK_ret, ev_reg, ev_cond, condK_true, condK_false, ev_block, blockK_norm, blockK_ret, blockK_exit, ev_loop, ev_skip, ev_exit, ev_ret, regK_cons, regK_nil, guard_none, guard_some, regG_true, regG_false, regO_some, op_mov, op_conv, op_bin, op_bsl, op_box, op_mks, op_s2b, op_pick, op_un, op_eq, op_len, op_ext, op_load, op_iaddr, op_slice, op_b2s, op_idxS, op_mx, op_mn, op_call, op_store, op_app, op_copy, args_eq, result_one', rv_loc, finish_norm, finish_ret, outK_some, keep_true, keep_false, keep_nil, p_bin, p_pick, p_un, p_eq, p_conv, evNew, pureK_some, newK_some, X.eval, set_none, set_some, List.map_cons, List.map_nil, List.getD_cons_zero, List.getD_cons_succ, List.getD_nil, List.set_cons_zero, List.set_cons_succ, binCV, unCV, isShift, intArithF_eq, shiftF_eq, wrapF_eq, intArith, shift, eqVal, bound, asNat_cast, cond_true, cond_false, BEq.rfl, beq_self_eq_true, evalParts, fillParts, AV.cells, AV.ofCells, XV.av, AV.xv, List.length_cons, List.length_nil, zeros, patch, setMany, List.nil_append, List.cons_append, Nat.ble, Nat.add_eq, Nat.zero_add, Nat.add_zero, Nat.reduceAdd, Nat.reduceMul, Nat.reduceSub, Nat.ble_eq, Nat.reduceLeDiff, Nat.reduceBEq, Int.reduceBEq, Int.reduceNeg, Bool.and_true, Bool.and_false, Bool.true_and, Bool.false_and, Bool.not_true, Bool.not_false, Bool.true_eq_false, Bool.false_eq_true, Int.reduceLT, Int.reduceLE, Int.reduceGT, Int.reduceGE, decide_true, decide_false, Bool.not_eq_true, loopN_norm, loopN_exit, tf, ft, ff, decide_eq_false c1, e1]
      exact ⟨_, rfl, s, ExtB.refl _ _⟩

theorem done_any (s : SB h p b ts) (t : Int) : ∃ h', evCallT table 28 N (d + 3) 35 [.c (.ptr p 0), .c (.int .i64 t)] h = some (.c (.bool (doneM ts t).1), h') ∧ SB h' p b (doneM ts t).2 ∧ ExtB [b] h h' := by
  unfold doneM
  by_cases hc : isM ts t 1 = true
  · rw [if_pos hc]
    obtain ⟨j, rfl, hj, hst⟩ := isM_there hc
    have e := done_ok (N := N) (d := d) s hj
    rw [if_pos hst] at e
    rw [Int.toNat_natCast, List.getElem?_eq_getElem hj]
    exact ⟨_, e, s.put (by simp), (ExtB.refl _ _).put (.inr (by simp)) _⟩
  · rw [if_neg hc]
    have e1 := is_any (N := N) (d := d) s t 1
    have q0 : isM ts t 1 = false := by simpa using hc
    rw [q0] at e1
    rw [evCallT_eq (F := ir35) rfl rfl rfl]
    unfold ir35
    rw [bodyK_eq]
    simp only [enter_eq, ev_seq, seqK_norm, seqK_exit, seqK_ret, ev_reg, ev_cond, condK_true, condK_false, ev_block, blockK_norm, blockK_ret, blockK_exit, ev_loop, ev_skip, ev_exit, ev_ret, regK_cons, regK_nil, guard_none, guard_some, regG_true, regG_false, regO_some, op_mov, op_conv, op_bin, op_bsl, op_box, op_mks, op_s2b, op_pick, op_un, op_eq, op_len, op_ext, op_load, op_iaddr, op_slice, op_b2s, op_idxS, op_mx, op_mn, op_call, op_store, op_app, op_copy, args_eq, result_one', rv_loc, finish_norm, finish_ret, outK_some, keep_true, keep_false, keep_nil, p_bin, p_pick, p_un, p_eq, p_conv, evNew, pureK_some, newK_some, X.eval, set_none, set_some, List.map_cons, List.map_nil, List.getD_cons_zero, List.getD_cons_succ, List.getD_nil, List.set_cons_zero, List.set_cons_succ, binCV, unCV, isShift, intArithF_eq, shiftF_eq, wrapF_eq, intArith, shift, eqVal, bound, asNat_cast, cond_true, cond_false, BEq.rfl, beq_self_eq_true, evalParts, fillParts, AV.cells, AV.ofCells, XV.av, AV.xv, List.length_cons, List.length_nil, zeros, patch, setMany, List.nil_append, List.cons_append, Nat.ble, Nat.add_eq, Nat.zero_add, Nat.add_zero, Nat.reduceAdd, Nat.reduceMul, Nat.reduceSub, Nat.ble_eq, Nat.reduceLeDiff, Nat.reduceBEq, Int.reduceBEq, Int.reduceNeg, Bool.and_true, Bool.and_false, Bool.true_and, Bool.false_and, Bool.not_true, Bool.not_false, Bool.true_eq_false, Bool.false_eq_true, Int.reduceLT, Int.reduceLE, Int.reduceGT, Int.reduceGE, decide_true, decide_false, Bool.not_eq_true, loopN_norm, loopN_exit, tf, ft, ff, e1]
    exact ⟨_, rfl, s, ExtB.refl _ _⟩

theorem task_out (s : SB h p b ts) {t : Int} (ht : ¬ (0 ≤ t ∧ t < (ts.length : Int))) :
    ∃ h', evCallT table 28 N (d + 2) 45 [.c (.ptr p 0), .c (.int .i64 t)] h = some (.agg [.int .i64 0, .int .i64 0, .int .i64 0], h') ∧ Ext h h' := by
  have x0 : Ext h (h.new (.cells [.int .i64 0, .int .i64 0, .int .i64 0])) := (Ext.refl h).new _
  have s0 := s.ext (x0.b []) (by simp) (by simp)
  have e1 := has_any (N := N) (d := d) s0 t
  rw [decide_eq_false ht] at e1
  obtain ⟨h1, w1, g1, x1, n1⟩ := box_store (h := h) (z := [.int .i64 0, .int .i64 0, .int .i64 0]) (v := [.int .i64 0, .int .i64 0, .int .i64 0]) rfl
  have rr : h1.read h.next 0 3 = some [.int .i64 0, .int .i64 0, .int .i64 0] := by
    rw [read_part g1 (by simp)]; rfl
  rw [evCallT_eq (F := ir45) rfl rfl rfl]
  unfold ir45
  rw [bodyK_eq]
  simp only [enter_eq, ev_seq, seqK_norm, seqK_exit, seqK_ret, ev_reg, ev_cond, condK_true, condK_false, ev_block, blockK_norm, blockK_ret, blockK_exit, ev_loop, ev_skip, ev_exit, ev_ret, regK_cons, regK_nil, guard_none, guard_some, regG_true, regG_false, regO_some, op_mov, op_conv, op_bin, op_bsl, op_box, op_mks, op_s2b, op_pick, op_un, op_eq, op_len, op_ext, op_load, op_iaddr, op_slice, op_b2s, op_idxS, op_mx, op_mn, op_call, op_store, op_app, op_copy, args_eq, result_one', rv_loc, finish_norm, finish_ret, outK_some, keep_true, keep_false, keep_nil, p_bin, p_pick, p_un, p_eq, p_conv, evNew, pureK_some, newK_some, X.eval, set_none, set_some, List.map_cons, List.map_nil, List.getD_cons_zero, List.getD_cons_succ, List.getD_nil, List.set_cons_zero, List.set_cons_succ, binCV, unCV, isShift, intArithF_eq, shiftF_eq, wrapF_eq, intArith, shift, eqVal, bound, asNat_cast, cond_true, cond_false, BEq.rfl, beq_self_eq_true, evalParts, fillParts, AV.cells, AV.ofCells, XV.av, AV.xv, List.length_cons, List.length_nil, zeros, patch, setMany, List.nil_append, List.cons_append, Nat.ble, Nat.add_eq, Nat.zero_add, Nat.add_zero, Nat.reduceAdd, Nat.reduceMul, Nat.reduceSub, Nat.ble_eq, Nat.reduceLeDiff, Nat.reduceBEq, Int.reduceBEq, Int.reduceNeg, Bool.and_true, Bool.and_false, Bool.true_and, Bool.false_and, Bool.not_true, Bool.not_false, Bool.true_eq_false, Bool.false_eq_true, Int.reduceLT, Int.reduceLE, Int.reduceGT, Int.reduceGE, decide_true, decide_false, Bool.not_eq_true, loopN_norm, loopN_exit, tf, ft, ff, e1, op_build, p_build', evEff, w1, result, RV.eval, rr]
  exact ⟨_, rfl, x1⟩
/-- Does somebody wait? -/
def waitM (ts : Tks) : Bool := ts.any fun t => t.st == 2

theorem idxf_any (s : SB h p b ts) (hN : ts.length + 5 ≤ N) (hn : ts.length ≤ 64) :
    ∃ v h', evCallT table 28 N (d + 2) 59 [.c (.sl b 0 ts.length (.ex ts.length)), .c (.fn 56 [])] h = some (.c (.int .i64 v), h') ∧ Ext h h' ∧ decide (v ≥ 0) = waitM ts := by
  have ll : ∀ loc vals h', evPure loc (.c (.sl b 0 ts.length (.ex ts.length)) :: vals) h' (.len .sl (.val 0)) = some (.c (.int .i64 (ts.length : Int))) := fun _ _ _ => rfl
  rw [evCallT_eq (F := ir59) rfl rfl rfl]
  unfold ir59
  rw [bodyK_eq]
  have L : ∀ loc, keepOnly ir59_k0 loc = [.c (.sl b 0 ts.length (.ex ts.length)), .c (.fn 56 []), .junk, .junk, .c (.int .i64 (ts.length : Int)), .c (.int .i64 0), .junk, .junk] →
      ∃ r, loopK (evCallT table 28 N (d + 1)) N ir59_k0 ir59_l0 N loc h = some r ∧ ((waitM ts = false ∧ ∃ a0 a1 a2 l h', r = (.exit 0, a0 :: a1 :: a2 :: l, h') ∧ Ext h h') ∨ (waitM ts = true ∧ ∃ (i : Nat) (a0 a1 : AV) (l : List AV) (h' : Heap), r = (.ret, a0 :: a1 :: .c (.int .i64 (i : Int)) :: l, h') ∧ Ext h h')) := by
    intro loc hloc
    refine loop_inv (n := ts.length) (fun i loc h' => Ext h h' ∧ (∀ j (hj : j < ts.length), j < i → (ts[j].st == 2) = false) ∧ loc = [.c (.sl b 0 ts.length (.ex ts.length)), .c (.fn 56 []), .junk, .junk, .c (.int .i64 (ts.length : Int)), .c (.int .i64 (i : Int)), .junk, .junk]) _ ?_ ⟨Ext.refl _, fun j _ hj => by omega, hloc⟩ (by omega)
    rintro i loc h' hi ⟨he, hno, rfl⟩
    unfold ir59_l0
    by_cases hlt : i < ts.length
    · have v1 : decide ((i : Int) < (ts.length : Int)) = true := ltNat hlt
      have v2 := succI (i := i) (by omega)
      have m1 : Nat.blt i ts.length = true := bltT hlt
      have s' := s.ext (he.b []) (by simp) (by simp)
      obtain ⟨h1, e1, x1⟩ := stuckf_ok (N := N) (d := d) ts[i].st ts[i].pc ts[i].on h'
      cases q : (ts[i].st == 2) with
      | true =>
        right
        rw [q] at e1
        simp only [enter_eq, ev_seq, seqK_norm, seqK_exit, seqK_ret, ev_reg, ev_cond, condK_true, condK_false, ev_block, blockK_norm, blockK_ret, blockK_exit, ev_loop, ev_skip, ev_exit, ev_ret, regK_cons, regK_nil, guard_none, guard_some, regG_true, regG_false, regO_some, op_mov, op_conv, op_bin, op_bsl, op_box, op_mks, op_s2b, op_pick, op_un, op_eq, op_len, op_ext, op_load, op_iaddr, op_slice, op_b2s, op_idxS, op_mx, op_mn, op_call, op_store, op_app, op_copy, args_eq, result_one', rv_loc, finish_norm, finish_ret, outK_some, keep_true, keep_false, keep_nil, p_bin, p_pick, p_un, p_eq, p_conv, evNew, pureK_some, newK_some, X.eval, set_none, set_some, List.map_cons, List.map_nil, List.getD_cons_zero, List.getD_cons_succ, List.getD_nil, List.set_cons_zero, List.set_cons_succ, binCV, unCV, isShift, intArithF_eq, shiftF_eq, wrapF_eq, intArith, shift, eqVal, bound, asNat_cast, cond_true, cond_false, BEq.rfl, beq_self_eq_true, evalParts, fillParts, AV.cells, AV.ofCells, XV.av, AV.xv, List.length_cons, List.length_nil, zeros, patch, setMany, List.nil_append, List.cons_append, Nat.ble, Nat.add_eq, Nat.zero_add, Nat.add_zero, Nat.reduceAdd, Nat.reduceMul, Nat.reduceSub, Nat.ble_eq, Nat.reduceLeDiff, Nat.reduceBEq, Int.reduceBEq, Int.reduceNeg, Bool.and_true, Bool.and_false, Bool.true_and, Bool.false_and, Bool.not_true, Bool.not_false, Bool.true_eq_false, Bool.false_eq_true, Int.reduceLT, Int.reduceLE, Int.reduceGT, Int.reduceGE, decide_true, decide_false, Bool.not_eq_true, loopN_norm, loopN_exit, tf, ft, ff, v1, p_iaddr, p_load, m1, Nat.zero_add, s'.rt hlt, AV.ofCells, op_callv, capVals, List.append_nil, e1]
        refine ⟨_, rfl, by simp, .inr ⟨List.any_eq_true.2 ⟨ts[i], List.getElem_mem _, q⟩, i, _, _, _, h1, rfl, he.trans x1⟩⟩
      | false =>
        left
        refine ⟨hlt, ?_⟩
        rw [q] at e1
        simp only [enter_eq, ev_seq, seqK_norm, seqK_exit, seqK_ret, ev_reg, ev_cond, condK_true, condK_false, ev_block, blockK_norm, blockK_ret, blockK_exit, ev_loop, ev_skip, ev_exit, ev_ret, regK_cons, regK_nil, guard_none, guard_some, regG_true, regG_false, regO_some, op_mov, op_conv, op_bin, op_bsl, op_box, op_mks, op_s2b, op_pick, op_un, op_eq, op_len, op_ext, op_load, op_iaddr, op_slice, op_b2s, op_idxS, op_mx, op_mn, op_call, op_store, op_app, op_copy, args_eq, result_one', rv_loc, finish_norm, finish_ret, outK_some, keep_true, keep_false, keep_nil, p_bin, p_pick, p_un, p_eq, p_conv, evNew, pureK_some, newK_some, X.eval, set_none, set_some, List.map_cons, List.map_nil, List.getD_cons_zero, List.getD_cons_succ, List.getD_nil, List.set_cons_zero, List.set_cons_succ, binCV, unCV, isShift, intArithF_eq, shiftF_eq, wrapF_eq, intArith, shift, eqVal, bound, asNat_cast, cond_true, cond_false, BEq.rfl, beq_self_eq_true, evalParts, fillParts, AV.cells, AV.ofCells, XV.av, AV.xv, List.length_cons, List.length_nil, zeros, patch, setMany, List.nil_append, List.cons_append, Nat.ble, Nat.add_eq, Nat.zero_add, Nat.add_zero, Nat.reduceAdd, Nat.reduceMul, Nat.reduceSub, Nat.ble_eq, Nat.reduceLeDiff, Nat.reduceBEq, Int.reduceBEq, Int.reduceNeg, Bool.and_true, Bool.and_false, Bool.true_and, Bool.false_and, Bool.not_true, Bool.not_false, Bool.true_eq_false, Bool.false_eq_true, Int.reduceLT, Int.reduceLE, Int.reduceGT, Int.reduceGE, decide_true, decide_false, Bool.not_eq_true, loopN_norm, loopN_exit, tf, ft, ff, v1, v2, p_iaddr, p_load, m1, Nat.zero_add, s'.rt hlt, AV.ofCells, op_callv, capVals, List.append_nil, e1]
        refine ⟨_, _, rfl, he.trans x1, fun j hj hj1 => ?_, rfl⟩
        by_cases e : j = i
        · subst e; exact q
        · exact hno j hj (by omega)
    · right
      have hin : i = ts.length := by omega
      subst hin
      have v1 : decide ((ts.length : Int) < (ts.length : Int)) = false := geNat (Nat.le_refl _)
      simp only [enter_eq, ev_seq, seqK_norm, seqK_exit, seqK_ret, ev_reg, ev_cond, condK_true, condK_false, ev_block, blockK_norm, blockK_ret, blockK_exit, ev_loop, ev_skip, ev_exit, ev_ret, regK_cons, regK_nil, guard_none, guard_some, regG_true, regG_false, regO_some, op_mov, op_conv, op_bin, op_bsl, op_box, op_mks, op_s2b, op_pick, op_un, op_eq, op_len, op_ext, op_load, op_iaddr, op_slice, op_b2s, op_idxS, op_mx, op_mn, op_call, op_store, op_app, op_copy, args_eq, result_one', rv_loc, finish_norm, finish_ret, outK_some, keep_true, keep_false, keep_nil, p_bin, p_pick, p_un, p_eq, p_conv, evNew, pureK_some, newK_some, X.eval, set_none, set_some, List.map_cons, List.map_nil, List.getD_cons_zero, List.getD_cons_succ, List.getD_nil, List.set_cons_zero, List.set_cons_succ, binCV, unCV, isShift, intArithF_eq, shiftF_eq, wrapF_eq, intArith, shift, eqVal, bound, asNat_cast, cond_true, cond_false, BEq.rfl, beq_self_eq_true, evalParts, fillParts, AV.cells, AV.ofCells, XV.av, AV.xv, List.length_cons, List.length_nil, zeros, patch, setMany, List.nil_append, List.cons_append, Nat.ble, Nat.add_eq, Nat.zero_add, Nat.add_zero, Nat.reduceAdd, Nat.reduceMul, Nat.reduceSub, Nat.ble_eq, Nat.reduceLeDiff, Nat.reduceBEq, Int.reduceBEq, Int.reduceNeg, Bool.and_true, Bool.and_false, Bool.true_and, Bool.false_and, Bool.not_true, Bool.not_false, Bool.true_eq_false, Bool.false_eq_true, Int.reduceLT, Int.reduceLE, Int.reduceGT, Int.reduceGE, decide_true, decide_false, Bool.not_eq_true, loopN_norm, loopN_exit, tf, ft, ff, v1]
      refine ⟨_, rfl, by simp, .inl ⟨?_, _, _, _, _, _, rfl, he⟩⟩
      unfold waitM
      rw [List.any_eq_false]
      intro x hx
      obtain ⟨j, hj, rfl⟩ := List.mem_iff_getElem.1 hx
      rw [hno j hj hj]; simp
  obtain ⟨r, hr, ⟨hw, a0, a1, a2, l, h', rfl, he⟩ | ⟨hw, i, a0, a1, l, h', rfl, he⟩⟩ := L [.c (.sl b 0 ts.length (.ex ts.length)), .c (.fn 56 []), .c (.int .i64 0), .tup [], .c (.int .i64 (ts.length : Int)), .c (.int .i64 0), .tup [], .tup []] rfl
  · simp only [enter_eq, ev_seq, seqK_norm, seqK_exit, seqK_ret, ev_reg, ev_cond, condK_true, condK_false, ev_block, blockK_norm, blockK_ret, blockK_exit, ev_loop, ev_skip, ev_exit, ev_ret, regK_cons, regK_nil, guard_none, guard_some, regG_true, regG_false, regO_some, op_mov, op_conv, op_bin, op_bsl, op_box, op_mks, op_s2b, op_pick, op_un, op_eq, op_len, op_ext, op_load, op_iaddr, op_slice, op_b2s, op_idxS, op_mx, op_mn, op_call, op_store, op_app, op_copy, args_eq, result_one', rv_loc, finish_norm, finish_ret, outK_some, keep_true, keep_false, keep_nil, p_bin, p_pick, p_un, p_eq, p_conv, evNew, pureK_some, newK_some, X.eval, set_none, set_some, List.map_cons, List.map_nil, List.getD_cons_zero, List.getD_cons_succ, List.getD_nil, List.set_cons_zero, List.set_cons_succ, binCV, unCV, isShift, intArithF_eq, shiftF_eq, wrapF_eq, intArith, shift, eqVal, bound, asNat_cast, cond_true, cond_false, BEq.rfl, beq_self_eq_true, evalParts, fillParts, AV.cells, AV.ofCells, XV.av, AV.xv, List.length_cons, List.length_nil, zeros, patch, setMany, List.nil_append, List.cons_append, Nat.ble, Nat.add_eq, Nat.zero_add, Nat.add_zero, Nat.reduceAdd, Nat.reduceMul, Nat.reduceSub, Nat.ble_eq, Nat.reduceLeDiff, Nat.reduceBEq, Int.reduceBEq, Int.reduceNeg, Bool.and_true, Bool.and_false, Bool.true_and, Bool.false_and, Bool.not_true, Bool.not_false, Bool.true_eq_false, Bool.false_eq_true, Int.reduceLT, Int.reduceLE, Int.reduceGT, Int.reduceGE, decide_true, decide_false, Bool.not_eq_true, loopN_norm, loopN_exit, tf, ft, ff, ll, hr, blockK_exit_eq]
    exact ⟨_, _, rfl, he, by rw [hw]; rfl⟩
  · simp only [enter_eq, ev_seq, seqK_norm, seqK_exit, seqK_ret, ev_reg, ev_cond, condK_true, condK_false, ev_block, blockK_norm, blockK_ret, blockK_exit, ev_loop, ev_skip, ev_exit, ev_ret, regK_cons, regK_nil, guard_none, guard_some, regG_true, regG_false, regO_some, op_mov, op_conv, op_bin, op_bsl, op_box, op_mks, op_s2b, op_pick, op_un, op_eq, op_len, op_ext, op_load, op_iaddr, op_slice, op_b2s, op_idxS, op_mx, op_mn, op_call, op_store, op_app, op_copy, args_eq, result_one', rv_loc, finish_norm, finish_ret, outK_some, keep_true, keep_false, keep_nil, p_bin, p_pick, p_un, p_eq, p_conv, evNew, pureK_some, newK_some, X.eval, set_none, set_some, List.map_cons, List.map_nil, List.getD_cons_zero, List.getD_cons_succ, List.getD_nil, List.set_cons_zero, List.set_cons_succ, binCV, unCV, isShift, intArithF_eq, shiftF_eq, wrapF_eq, intArith, shift, eqVal, bound, asNat_cast, cond_true, cond_false, BEq.rfl, beq_self_eq_true, evalParts, fillParts, AV.cells, AV.ofCells, XV.av, AV.xv, List.length_cons, List.length_nil, zeros, patch, setMany, List.nil_append, List.cons_append, Nat.ble, Nat.add_eq, Nat.zero_add, Nat.add_zero, Nat.reduceAdd, Nat.reduceMul, Nat.reduceSub, Nat.ble_eq, Nat.reduceLeDiff, Nat.reduceBEq, Int.reduceBEq, Int.reduceNeg, Bool.and_true, Bool.and_false, Bool.true_and, Bool.false_and, Bool.not_true, Bool.not_false, Bool.true_eq_false, Bool.false_eq_true, Int.reduceLT, Int.reduceLE, Int.reduceGT, Int.reduceGE, decide_true, decide_false, Bool.not_eq_true, loopN_norm, loopN_exit, tf, ft, ff, ll, hr, blockK_ret]
    exact ⟨_, _, rfl, he, by rw [hw]; exact decide_eq_true (by omega)⟩

def stuckM (ts : Tks) : Bool := decide (readyM ts = []) && waitM ts

theorem stuck_any (s : SB h p b ts) (hN : ts.length + 5 ≤ N) (hn : ts.length ≤ 64) :
    ∃ h', evCallT table 28 N (d + 4) 43 [.c (.ptr p 0)] h = some (.c (.bool (stuckM ts)), h') ∧ Ext h h' := by
  by_cases hr : readyM ts = []
  · obtain ⟨y, h1, e1, my, x1⟩ := ready_ok (N := N) (d := d + 2) s (by omega) hn
    rw [hr] at my
    have ly : ∀ (loc vals : List AV) (h : Heap), evPure loc (.c y :: vals) h (.len .sl (.val 0)) = some (.c (.int .i64 0)) := fun _ _ _ => my.len rfl
    have s1 := s.ext (x1.b []) (by simp) (by simp)
    obtain ⟨v, h3, e3, x3, hv⟩ := idxf_any (N := N) (d := d) s1 hN hn
    have e4 : evCallT table 28 N (d + 3) 55 [.c (.sl b 0 ts.length (.ex ts.length)), .c (.fn 56 [])] h1 = some (.c (.bool (waitM ts)), h3) := by
      rw [evCallT_eq (F := ir55) rfl rfl rfl]
      unfold ir55
      rw [bodyK_eq]
      simp only [enter_eq, ev_seq, seqK_norm, seqK_exit, seqK_ret, ev_reg, ev_cond, condK_true, condK_false, ev_block, blockK_norm, blockK_ret, blockK_exit, ev_loop, ev_skip, ev_exit, ev_ret, regK_cons, regK_nil, guard_none, guard_some, regG_true, regG_false, regO_some, op_mov, op_conv, op_bin, op_bsl, op_box, op_mks, op_s2b, op_pick, op_un, op_eq, op_len, op_ext, op_load, op_iaddr, op_slice, op_b2s, op_idxS, op_mx, op_mn, op_call, op_store, op_app, op_copy, args_eq, result_one', rv_loc, finish_norm, finish_ret, outK_some, keep_true, keep_false, keep_nil, p_bin, p_pick, p_un, p_eq, p_conv, evNew, pureK_some, newK_some, X.eval, set_none, set_some, List.map_cons, List.map_nil, List.getD_cons_zero, List.getD_cons_succ, List.getD_nil, List.set_cons_zero, List.set_cons_succ, binCV, unCV, isShift, intArithF_eq, shiftF_eq, wrapF_eq, intArith, shift, eqVal, bound, asNat_cast, cond_true, cond_false, BEq.rfl, beq_self_eq_true, evalParts, fillParts, AV.cells, AV.ofCells, XV.av, AV.xv, List.length_cons, List.length_nil, zeros, patch, setMany, List.nil_append, List.cons_append, Nat.ble, Nat.add_eq, Nat.zero_add, Nat.add_zero, Nat.reduceAdd, Nat.reduceMul, Nat.reduceSub, Nat.ble_eq, Nat.reduceLeDiff, Nat.reduceBEq, Int.reduceBEq, Int.reduceNeg, Bool.and_true, Bool.and_false, Bool.true_and, Bool.false_and, Bool.not_true, Bool.not_false, Bool.true_eq_false, Bool.false_eq_true, Int.reduceLT, Int.reduceLE, Int.reduceGT, Int.reduceGE, decide_true, decide_false, Bool.not_eq_true, loopN_norm, loopN_exit, tf, ft, ff, e3, hv]
    unfold stuckM
    rw [decide_eq_true hr, Bool.true_and]
    rw [evCallT_eq (F := ir43) rfl rfl rfl]
    unfold ir43
    rw [bodyK_eq]
    simp only [enter_eq, ev_seq, seqK_norm, seqK_exit, seqK_ret, ev_reg, ev_cond, condK_true, condK_false, ev_block, blockK_norm, blockK_ret, blockK_exit, ev_loop, ev_skip, ev_exit, ev_ret, regK_cons, regK_nil, guard_none, guard_some, regG_true, regG_false, regO_some, op_mov, op_conv, op_bin, op_bsl, op_box, op_mks, op_s2b, op_pick, op_un, op_eq, op_len, op_ext, op_load, op_iaddr, op_slice, op_b2s, op_idxS, op_mx, op_mn, op_call, op_store, op_app, op_copy, args_eq, result_one', rv_loc, finish_norm, finish_ret, outK_some, keep_true, keep_false, keep_nil, p_bin, p_pick, p_un, p_eq, p_conv, evNew, pureK_some, newK_some, X.eval, set_none, set_some, List.map_cons, List.map_nil, List.getD_cons_zero, List.getD_cons_succ, List.getD_nil, List.set_cons_zero, List.set_cons_succ, binCV, unCV, isShift, intArithF_eq, shiftF_eq, wrapF_eq, intArith, shift, eqVal, bound, asNat_cast, cond_true, cond_false, BEq.rfl, beq_self_eq_true, evalParts, fillParts, AV.cells, AV.ofCells, XV.av, AV.xv, List.length_cons, List.length_nil, zeros, patch, setMany, List.nil_append, List.cons_append, Nat.ble, Nat.add_eq, Nat.zero_add, Nat.add_zero, Nat.reduceAdd, Nat.reduceMul, Nat.reduceSub, Nat.ble_eq, Nat.reduceLeDiff, Nat.reduceBEq, Int.reduceBEq, Int.reduceNeg, Bool.and_true, Bool.and_false, Bool.true_and, Bool.false_and, Bool.not_true, Bool.not_false, Bool.true_eq_false, Bool.false_eq_true, Int.reduceLT, Int.reduceLE, Int.reduceGT, Int.reduceGE, decide_true, decide_false, Bool.not_eq_true, loopN_norm, loopN_exit, tf, ft, ff, op_nilchk, p_nilchk, op_faddr, p_faddr, p_load, s1.r, AV.ofCells, op_mkfn, e1, ly, e4]
    exact ⟨_, rfl, x1.trans x3⟩
  · unfold stuckM
    rw [decide_eq_false hr, Bool.false_and]
    exact stuck_false s (List.length_pos_iff.2 hr) hN hn

theorem tksC_rep : ∀ n, tksC (List.replicate n tk0) = zeros n [icell 0, icell 0, icell (-1)]
  | 0 => rfl
  | n + 1 => by rw [List.replicate_succ]; simp only [tksC, zeros, tksC_rep n]; rfl

theorem new_no {n : Int} (hn : ¬ (1 ≤ n ∧ n ≤ 64)) : evCallT table 28 N (d + 1) 26 [.c (.int .i64 n)] h = some (.c .nilp, h) := by
  rw [evCallT_eq (F := ir26) rfl rfl rfl]
  unfold ir26
  rw [bodyK_eq]
  by_cases c1 : n < 1
  · simp only [enter_eq, ev_seq, seqK_norm, seqK_exit, seqK_ret, ev_reg, ev_cond, condK_true, condK_false, ev_block, blockK_norm, blockK_ret, blockK_exit, ev_loop, ev_skip, ev_exit, ev_ret, regK_cons, regK_nil, guard_none, guard_some, regG_true, regG_false, regO_some, op_mov, op_conv, op_bin, op_bsl, op_box, op_mks, op_s2b, op_pick, op_un, op_eq, op_len, op_ext, op_load, op_iaddr, op_slice, op_b2s, op_idxS, op_mx, op_mn, op_call, op_store, op_app, op_copy, args_eq, result_one', rv_loc, finish_norm, finish_ret, outK_some, keep_true, keep_false, keep_nil, p_bin, p_pick, p_un, p_eq, p_conv, evNew, pureK_some, newK_some, X.eval, set_none, set_some, List.map_cons, List.map_nil, List.getD_cons_zero, List.getD_cons_succ, List.getD_nil, List.set_cons_zero, List.set_cons_succ, binCV, unCV, isShift, intArithF_eq, shiftF_eq, wrapF_eq, intArith, shift, eqVal, bound, asNat_cast, cond_true, cond_false, BEq.rfl, beq_self_eq_true, evalParts, fillParts, AV.cells, AV.ofCells, XV.av, AV.xv, List.length_cons, List.length_nil, zeros, patch, setMany, List.nil_append, List.cons_append, Nat.ble, Nat.add_eq, Nat.zero_add, Nat.add_zero, Nat.reduceAdd, Nat.reduceMul, Nat.reduceSub, Nat.ble_eq, Nat.reduceLeDiff, Nat.reduceBEq, Int.reduceBEq, Int.reduceNeg, Bool.and_true, Bool.and_false, Bool.true_and, Bool.false_and, Bool.not_true, Bool.not_false, Bool.true_eq_false, Bool.false_eq_true, Int.reduceLT, Int.reduceLE, Int.reduceGT, Int.reduceGE, decide_true, decide_false, Bool.not_eq_true, loopN_norm, loopN_exit, tf, ft, ff, decide_eq_true c1]
  · simp only [enter_eq, ev_seq, seqK_norm, seqK_exit, seqK_ret, ev_reg, ev_cond, condK_true, condK_false, ev_block, blockK_norm, blockK_ret, blockK_exit, ev_loop, ev_skip, ev_exit, ev_ret, regK_cons, regK_nil, guard_none, guard_some, regG_true, regG_false, regO_some, op_mov, op_conv, op_bin, op_bsl, op_box, op_mks, op_s2b, op_pick, op_un, op_eq, op_len, op_ext, op_load, op_iaddr, op_slice, op_b2s, op_idxS, op_mx, op_mn, op_call, op_store, op_app, op_copy, args_eq, result_one', rv_loc, finish_norm, finish_ret, outK_some, keep_true, keep_false, keep_nil, p_bin, p_pick, p_un, p_eq, p_conv, evNew, pureK_some, newK_some, X.eval, set_none, set_some, List.map_cons, List.map_nil, List.getD_cons_zero, List.getD_cons_succ, List.getD_nil, List.set_cons_zero, List.set_cons_succ, binCV, unCV, isShift, intArithF_eq, shiftF_eq, wrapF_eq, intArith, shift, eqVal, bound, asNat_cast, cond_true, cond_false, BEq.rfl, beq_self_eq_true, evalParts, fillParts, AV.cells, AV.ofCells, XV.av, AV.xv, List.length_cons, List.length_nil, zeros, patch, setMany, List.nil_append, List.cons_append, Nat.ble, Nat.add_eq, Nat.zero_add, Nat.add_zero, Nat.reduceAdd, Nat.reduceMul, Nat.reduceSub, Nat.ble_eq, Nat.reduceLeDiff, Nat.reduceBEq, Int.reduceBEq, Int.reduceNeg, Bool.and_true, Bool.and_false, Bool.true_and, Bool.false_and, Bool.not_true, Bool.not_false, Bool.true_eq_false, Bool.false_eq_true, Int.reduceLT, Int.reduceLE, Int.reduceGT, Int.reduceGE, decide_true, decide_false, Bool.not_eq_true, loopN_norm, loopN_exit, tf, ft, ff, decide_eq_false c1, decide_eq_true (show n > 64 by omega)]
theorem new_any {n : Nat} (h1 : 1 ≤ n) (h2 : n ≤ 64) (hN : 70 ≤ N) : ∃ p b h', evCallT table 28 N (d + 4) 26 [.c (.int .i64 (n : Int))] h = some (.c (.ptr p 0), h') ∧ SB h' p b (List.replicate n tk0) ∧ Ext h h' ∧ h.next ≤ p ∧ h.next ≤ b := by
  have c1 : decide ((n : Int) < 1) = false := decide_eq_false (by omega)
  have c2 : decide ((n : Int) > 64) = false := decide_eq_false (by omega)
  obtain ⟨h3, e3, g3, x3, n3⟩ := repeat_ok (N := N) (d := d) (h := h.new (.cells [.int .i64 0, .int .i64 0, .int .i64 (-1)])) (i := h.next) (n := n) (c := .ex 1) (v := [.int .i64 0, .int .i64 0, .int .i64 (-1)]) get_new_at (Nat.lt_succ_self _) rfl h1 (by omega) (by omega)
  rw [next_new] at e3 g3 n3
  have x3' : Ext h h3 := ((Ext.refl _).new _).trans x3
  rw [evCallT_eq (F := ir26) rfl rfl rfl]
  unfold ir26
  rw [bodyK_eq]
  simp only [enter_eq, ev_seq, seqK_norm, seqK_exit, seqK_ret, ev_reg, ev_cond, condK_true, condK_false, ev_block, blockK_norm, blockK_ret, blockK_exit, ev_loop, ev_skip, ev_exit, ev_ret, regK_cons, regK_nil, guard_none, guard_some, regG_true, regG_false, regO_some, op_mov, op_conv, op_bin, op_bsl, op_box, op_mks, op_s2b, op_pick, op_un, op_eq, op_len, op_ext, op_load, op_iaddr, op_slice, op_b2s, op_idxS, op_mx, op_mn, op_call, op_store, op_app, op_copy, args_eq, result_one', rv_loc, finish_norm, finish_ret, outK_some, keep_true, keep_false, keep_nil, p_bin, p_pick, p_un, p_eq, p_conv, evNew, pureK_some, newK_some, X.eval, set_none, set_some, List.map_cons, List.map_nil, List.getD_cons_zero, List.getD_cons_succ, List.getD_nil, List.set_cons_zero, List.set_cons_succ, binCV, unCV, isShift, intArithF_eq, shiftF_eq, wrapF_eq, intArith, shift, eqVal, bound, asNat_cast, cond_true, cond_false, BEq.rfl, beq_self_eq_true, evalParts, fillParts, AV.cells, AV.ofCells, XV.av, AV.xv, List.length_cons, List.length_nil, zeros, patch, setMany, List.nil_append, List.cons_append, Nat.ble, Nat.add_eq, Nat.zero_add, Nat.add_zero, Nat.reduceAdd, Nat.reduceMul, Nat.reduceSub, Nat.ble_eq, Nat.reduceLeDiff, Nat.reduceBEq, Int.reduceBEq, Int.reduceNeg, Bool.and_true, Bool.and_false, Bool.true_and, Bool.false_and, Bool.not_true, Bool.not_false, Bool.true_eq_false, Bool.false_eq_true, Int.reduceLT, Int.reduceLE, Int.reduceGT, Int.reduceGE, decide_true, decide_false, Bool.not_eq_true, loopN_norm, loopN_exit, tf, ft, ff, c1, c2, op_build, p_build', e3]
  refine ⟨h3.next, h.next + 1, h3.new (.cells [.sl (h.next + 1) 0 n (.ex n)]), rfl, ⟨by rw [List.length_replicate]; exact get_new_at, ?_, by omega, Nat.lt_succ_self _, by rw [next_new]; omega⟩, x3'.new _, x3'.1, by omega⟩
  rw [get_new_old (by omega), g3, tksC_rep]; rfl
end
end Lav
