/-
  Layer 11: who goes first; a frame for a page; a new core.
-/
import Derived.Test.YtdcjiljegffalaaCore2
set_option maxRecDepth 100000
set_option linter.unusedSimpArgs false
namespace Lav
open Go (IntKind)

def frm (fs : List Fm) (x : Int) : Fm := fs.getD x.toNat frZ
theorem frm_eq {fs : List Fm} {i : Nat} (hi : i < fs.length) : frm fs (i : Int) = fs[i] := by simp [frm, List.getD_eq_getElem?_getD, hi]
def idleB (fs : List Fm) (x : Int) : Bool := !(decide ((frm fs x).pn > 0))
/-- Who goes first. -/
def spareF (fs : List Fm) (l : List Int) : Int × Int × Int := match l.reverse.find? (idleB fs) with
  | none => (8, -1, -1)
  | some x => ((if (frm fs x).dt then 12 else 0), x, (frm fs x).pg)

section
variable {N d : Nat} {h : Heap} {k : Nat} {z : CP} {fs : List Fm} {o : List Int} {M : Nat → Option Int} {od ts : List Int}

theorem spare_ok (C : CH h k z fs o M od ts) (hN : 100 ≤ N) : ∃ h', evCallT table 15 N (d + 6) 25 [.c (.ptr k 0)] h = some (.tup [.c (.int .i64 (spareF fs (ts.foldl applyM (od.filter (usedB fs)))).1), .c (.int .i64 (spareF fs (ts.foldl applyM (od.filter (usedB fs)))).2.1), .c (.int .i64 (spareF fs (ts.foldl applyM (od.filter (usedB fs)))).2.2)], h') ∧
    CH h' k z fs o M (ts.foldl applyM (od.filter (usedB fs))) [] ∧ ExtB (z.own k) h h' := by
  obtain ⟨H1, e1, C1, x1⟩ := tidy_ok (N := N) (d := d) C hN
  have sm := C.ah.sm
  have q1 := C1.r1
  have q2 := C1.r2
  have few := C.few
  obtain ⟨y, H2, e2, g2, W, x2⟩ := drain_ok (N := N) (d := d + 4) C1.rg (by omega) (by omega)
  obtain ⟨C2, y2⟩ := C1.ring (ts' := []) g2 x2 (by simp)
  have ynew : ∀ j, blk y = some j → j ∉ [z.q, z.b] := fun j hj hm => by
    have := W.young j hj
    have hq := C1.ll.pn
    have hb := C1.ll.bn
    simp at hm
    rcases hm with rfl | rfl <;> omega
  have q3 := C2.r1
  have q4 := C2.r2
  obtain ⟨H3, e3, l3, x3⟩ := apply_ok (N := N) (d := d + 2) C2.ll (by omega) W.ints ynew (by omega) (by omega)
  obtain ⟨C3, y3⟩ := C2.list l3 x3 (fun x hx => C2.lo x (applyM_all.1 hx)) (fun j f hf hs => applyM_all.2 (C2.hi j f hf hs))
  generalize hO : ts.foldl applyM (od.filter (usedB fs)) = O at *
  have r0 := C3.r0
  obtain ⟨w, H4, e4, T, x4⟩ : ∃ y h', evCallT table 15 N (d + 5) 9 [.c (.ptr z.p 0)] H3 = some (.c y, h') ∧ Tells H3 h' y fs ∧ Ext H3 h' := frames_ok (N := N) (d := d + 4) C3.ah.ar sm hN
  have C4 := C3.ext' x4
  have r1 := C4.r1
  have hl := C4.len
  obtain ⟨v, H5, e5, V, x5⟩ : ∃ x h', evCallT table 15 N (d + 5) 33 [.c (.ptr z.q 0)] H4 = some (.c x, h') ∧ Made H4 h' x O ∧ Ext H4 h' := all_ok (N := N) (d := d + 2) C4.ll (by omega) (by omega)
  have C5 := C4.ext' x5
  have lv : ∀ loc vals H, evPure loc (.c v :: vals) H (.len .sl (.val 0)) = some (.c (.int .i64 (O.length : Int))) := fun _ _ _ => V.len rfl
  have L : ∀ loc, keepOnly ir25_k0 loc = [.junk, .junk, .junk, .junk, .c w, .c v, .c (.int .i64 (O.length : Int)), .junk, .junk, .junk, .junk, .junk] →
      ∃ r, loopK (evCallT table 15 N (d + 5)) N ir25_k0 ir25_l0 N loc H5 = some r ∧ ∃ G, Ext H5 G ∧ ((O.reverse.find? (idleB fs) = none ∧ ∃ l, r = (.exit 0, l, G) ∧ l.length = 12) ∨ ∃ a0 l, r = (.ret, a0 :: .c (.int .i64 (spareF fs O).1) :: .c (.int .i64 (spareF fs O).2.1) :: .c (.int .i64 (spareF fs O).2.2) :: l, G)) := by
    intro loc hloc
    refine loop_inv (n := O.length) (fun i loc G => Ext H5 G ∧ i ≤ O.length ∧ O.reverse.find? (idleB fs) = (O.reverse.drop i).find? (idleB fs) ∧ loc = [.junk, .junk, .junk, .junk, .c w, .c v, .c (.int .i64 ((O.length - i : Nat) : Int)), .junk, .junk, .junk, .junk, .junk]) _ ?_ ⟨Ext.refl _, Nat.zero_le _, by simp, hloc⟩ (by omega)
    rintro i loc G hi ⟨xg, hin, hfd, rfl⟩
    unfold ir25_l0
    by_cases hlt : i < O.length
    · obtain ⟨j, hj⟩ : ∃ j, O.length - i = j + 1 := ⟨O.length - i - 1, by omega⟩
      have hjl : j < O.length := by omega
      have hji : O.length - (i + 1) = j := by omega
      have v1 : decide (((O.length - i : Nat) : Int) > 0) = true := decide_eq_true (by omega)
      have v2 : IntKind.i64.wrap (((O.length - i : Nat) : Int) - 1) = (j : Int) := by rw [wrapI (by omega) (by omega)]; omega
      have m1 : Nat.blt j O.length = true := bltT hjl
      have hr : i < O.reverse.length := by simp; omega
      have hrev : O.reverse[i] = O[j] := by
        rw [List.getElem_reverse]
        congr 1
        omega
      rw [List.drop_eq_getElem_cons hr, hrev] at hfd
      obtain ⟨f, hf, hfl⟩ := C4.lo O[j] (List.getElem_mem hjl)
      rw [hf] at hfd
      have VG : Made H4 G v O := V.ext xg
      have TG : Tells H3 G w fs := (show Tells H3 H5 w fs from Mine.keepB T (x5.b []) (by simp)).keepB (xg.b []) (by simp)
      obtain ⟨bv, ov, cv, rfl, _, rv⟩ := VG.ints.sl (by omega)
      have k1 := rv j hjl
      rw [hf] at k1
      obtain ⟨fb, rfl, _, TT⟩ := TG.at_ hfl
      have k2 := TT.all
      have m2 : Nat.blt f fs.length = true := bltT hfl
      have hfm := frm_eq hfl
      generalize hgm : fs[f] = g at *
      obtain ⟨G1, w1, g1, xb1, n1⟩ := box_store (h := G) (z := [.int .i64 0, .int .i64 0, .int .i64 0, .int .i64 0, .bool false]) (v := apC g) rfl
      have s1 : G1.read G.next 1 1 = some [.int .i64 g.pg] := read_cells g1 rfl
      have s2 : G1.read G.next 2 1 = some [.int .i64 g.pn] := read_cells g1 rfl
      have s4 : G1.read G.next 4 1 = some [.bool g.dt] := read_cells g1 rfl
      have k3 := (VG.ext xb1).ints
      obtain ⟨bv', ov', cv', ev', _, rv'⟩ := k3.sl (by omega)
      cases ev'
      have k4 := rv' j hjl
      rw [hf] at k4
      by_cases hp : g.pn > 0
      · left
        refine ⟨hlt, ?_⟩
        have v3 : decide (g.pn > 0) = true := decide_eq_true hp
        have hid : idleB fs (f : Int) = false := by unfold idleB; rw [hfm, v3]; rfl
        rw [List.find?_cons_of_neg (by rw [hid]; decide)] at hfd
        simp only [enter_eq, ev_seq, seqK_norm, seqK_exit, seqK_ret, ev_reg, ev_cond, condK_true, condK_false, ev_block, blockK_norm, blockK_ret, blockK_exit, ev_loop, ev_skip, ev_exit, ev_ret, regK_cons, regK_nil, guard_none, guard_some, regG_true, regG_false, regO_some, op_mov, op_conv, op_bin, op_bsl, op_box, op_mks, op_s2b, op_pick, op_un, op_eq, op_len, op_ext, op_load, op_iaddr, op_slice, op_b2s, op_idxS, op_mx, op_mn, op_call, op_store, op_app, op_copy, args_eq, result_one', rv_loc, finish_norm, finish_ret, outK_some, keep_true, keep_false, keep_nil, p_bin, p_pick, p_un, p_eq, p_conv, evNew, pureK_some, newK_some, X.eval, set_none, set_some, List.map_cons, List.map_nil, List.getD_cons_zero, List.getD_cons_succ, List.getD_nil, List.set_cons_zero, List.set_cons_succ, binCV, unCV, isShift, intArithF_eq, shiftF_eq, wrapF_eq, intArith, shift, eqVal, bound, asNat_cast, cond_true, cond_false, BEq.rfl, beq_self_eq_true, evalParts, fillParts, AV.cells, AV.ofCells, XV.av, AV.xv, List.length_cons, List.length_nil, zeros, patch, setMany, List.nil_append, List.cons_append, Nat.ble, Nat.add_eq, Nat.zero_add, Nat.add_zero, Nat.reduceAdd, Nat.reduceMul, Nat.reduceSub, Nat.ble_eq, Nat.reduceLeDiff, Nat.reduceBEq, Int.reduceBEq, Int.reduceNeg, Bool.and_true, Bool.and_false, Bool.true_and, Bool.false_and, Bool.not_true, Bool.not_false, Bool.true_eq_false, Bool.false_eq_true, Int.reduceLT, Int.reduceLE, Int.reduceGT, Int.reduceGE, decide_true, decide_false, Bool.not_eq_true, loopN_norm, loopN_exit, tf, ft, ff, v1, v2, m1, p_iaddr, op_faddr, p_faddr, p_load, AV.ofCells, k1, m2, k2, evEff, w1, s2, v3, Nat.mul_one]
        refine ⟨_, _, rfl, xg.trans xb1, by omega, hfd, by rw [hji]; rfl⟩
      · right
        have v3 : decide (g.pn > 0) = false := decide_eq_false hp
        have hid : idleB fs (f : Int) = true := by unfold idleB; rw [hfm, v3]; rfl
        rw [List.find?_cons_of_pos hid] at hfd
        have hsp : spareF fs O = ((if g.dt then 12 else 0), (f : Int), g.pg) := by unfold spareF; rw [hfd]; simp only [hfm]
        cases hdt : g.dt with
        | true =>
          rw [hdt] at s4 hsp
          simp only [enter_eq, ev_seq, seqK_norm, seqK_exit, seqK_ret, ev_reg, ev_cond, condK_true, condK_false, ev_block, blockK_norm, blockK_ret, blockK_exit, ev_loop, ev_skip, ev_exit, ev_ret, regK_cons, regK_nil, guard_none, guard_some, regG_true, regG_false, regO_some, op_mov, op_conv, op_bin, op_bsl, op_box, op_mks, op_s2b, op_pick, op_un, op_eq, op_len, op_ext, op_load, op_iaddr, op_slice, op_b2s, op_idxS, op_mx, op_mn, op_call, op_store, op_app, op_copy, args_eq, result_one', rv_loc, finish_norm, finish_ret, outK_some, keep_true, keep_false, keep_nil, p_bin, p_pick, p_un, p_eq, p_conv, evNew, pureK_some, newK_some, X.eval, set_none, set_some, List.map_cons, List.map_nil, List.getD_cons_zero, List.getD_cons_succ, List.getD_nil, List.set_cons_zero, List.set_cons_succ, binCV, unCV, isShift, intArithF_eq, shiftF_eq, wrapF_eq, intArith, shift, eqVal, bound, asNat_cast, cond_true, cond_false, BEq.rfl, beq_self_eq_true, evalParts, fillParts, AV.cells, AV.ofCells, XV.av, AV.xv, List.length_cons, List.length_nil, zeros, patch, setMany, List.nil_append, List.cons_append, Nat.ble, Nat.add_eq, Nat.zero_add, Nat.add_zero, Nat.reduceAdd, Nat.reduceMul, Nat.reduceSub, Nat.ble_eq, Nat.reduceLeDiff, Nat.reduceBEq, Int.reduceBEq, Int.reduceNeg, Bool.and_true, Bool.and_false, Bool.true_and, Bool.false_and, Bool.not_true, Bool.not_false, Bool.true_eq_false, Bool.false_eq_true, Int.reduceLT, Int.reduceLE, Int.reduceGT, Int.reduceGE, decide_true, decide_false, Bool.not_eq_true, loopN_norm, loopN_exit, tf, ft, ff, ev_dreg, dregK_nil, dregK_cons, dregE_true, dregP_some, dregX_some, d_mov, d_bin, d_eq, d_pick, d_un, d_conv, d_b2s, d_len, d_load, d_iaddr, d_slice, d_ext, d_call, d_store, chk_done, chk_none, chk_some, chkG_true, chkG_false, chkOne_nil, chkOne_cons, chkH_some, chkV_same, stage_none, stage_some, look_hit, look_miss, news_nil, wb_cons, wb_nil, skip0, List.reverse_cons, List.reverse_nil, d_faddr, v1, v2, m1, p_iaddr, op_faddr, p_faddr, p_load, AV.ofCells, k1, m2, k2, evEff, w1, s1, s2, s4, k4, v3, Nat.mul_one]
          exact ⟨_, rfl, by simp, G1, xg.trans xb1, .inr ⟨_, _, by rw [hsp]; rfl⟩⟩
        | false =>
          rw [hdt] at s4 hsp
          simp only [enter_eq, ev_seq, seqK_norm, seqK_exit, seqK_ret, ev_reg, ev_cond, condK_true, condK_false, ev_block, blockK_norm, blockK_ret, blockK_exit, ev_loop, ev_skip, ev_exit, ev_ret, regK_cons, regK_nil, guard_none, guard_some, regG_true, regG_false, regO_some, op_mov, op_conv, op_bin, op_bsl, op_box, op_mks, op_s2b, op_pick, op_un, op_eq, op_len, op_ext, op_load, op_iaddr, op_slice, op_b2s, op_idxS, op_mx, op_mn, op_call, op_store, op_app, op_copy, args_eq, result_one', rv_loc, finish_norm, finish_ret, outK_some, keep_true, keep_false, keep_nil, p_bin, p_pick, p_un, p_eq, p_conv, evNew, pureK_some, newK_some, X.eval, set_none, set_some, List.map_cons, List.map_nil, List.getD_cons_zero, List.getD_cons_succ, List.getD_nil, List.set_cons_zero, List.set_cons_succ, binCV, unCV, isShift, intArithF_eq, shiftF_eq, wrapF_eq, intArith, shift, eqVal, bound, asNat_cast, cond_true, cond_false, BEq.rfl, beq_self_eq_true, evalParts, fillParts, AV.cells, AV.ofCells, XV.av, AV.xv, List.length_cons, List.length_nil, zeros, patch, setMany, List.nil_append, List.cons_append, Nat.ble, Nat.add_eq, Nat.zero_add, Nat.add_zero, Nat.reduceAdd, Nat.reduceMul, Nat.reduceSub, Nat.ble_eq, Nat.reduceLeDiff, Nat.reduceBEq, Int.reduceBEq, Int.reduceNeg, Bool.and_true, Bool.and_false, Bool.true_and, Bool.false_and, Bool.not_true, Bool.not_false, Bool.true_eq_false, Bool.false_eq_true, Int.reduceLT, Int.reduceLE, Int.reduceGT, Int.reduceGE, decide_true, decide_false, Bool.not_eq_true, loopN_norm, loopN_exit, tf, ft, ff, ev_dreg, dregK_nil, dregK_cons, dregE_true, dregP_some, dregX_some, d_mov, d_bin, d_eq, d_pick, d_un, d_conv, d_b2s, d_len, d_load, d_iaddr, d_slice, d_ext, d_call, d_store, chk_done, chk_none, chk_some, chkG_true, chkG_false, chkOne_nil, chkOne_cons, chkH_some, chkV_same, stage_none, stage_some, look_hit, look_miss, news_nil, wb_cons, wb_nil, skip0, List.reverse_cons, List.reverse_nil, d_faddr, v1, v2, m1, p_iaddr, op_faddr, p_faddr, p_load, AV.ofCells, k1, m2, k2, evEff, w1, s1, s2, s4, k4, v3, Nat.mul_one]
          exact ⟨_, rfl, by simp, G1, xg.trans xb1, .inr ⟨_, _, by rw [hsp]; rfl⟩⟩
    · right
      have hin' : i = O.length := by omega
      subst hin'
      have v1 : decide (((O.length - O.length : Nat) : Int) > 0) = false := decide_eq_false (by omega)
      rw [List.drop_of_length_le (by simp)] at hfd
      simp only [enter_eq, ev_seq, seqK_norm, seqK_exit, seqK_ret, ev_reg, ev_cond, condK_true, condK_false, ev_block, blockK_norm, blockK_ret, blockK_exit, ev_loop, ev_skip, ev_exit, ev_ret, regK_cons, regK_nil, guard_none, guard_some, regG_true, regG_false, regO_some, op_mov, op_conv, op_bin, op_bsl, op_box, op_mks, op_s2b, op_pick, op_un, op_eq, op_len, op_ext, op_load, op_iaddr, op_slice, op_b2s, op_idxS, op_mx, op_mn, op_call, op_store, op_app, op_copy, args_eq, result_one', rv_loc, finish_norm, finish_ret, outK_some, keep_true, keep_false, keep_nil, p_bin, p_pick, p_un, p_eq, p_conv, evNew, pureK_some, newK_some, X.eval, set_none, set_some, List.map_cons, List.map_nil, List.getD_cons_zero, List.getD_cons_succ, List.getD_nil, List.set_cons_zero, List.set_cons_succ, binCV, unCV, isShift, intArithF_eq, shiftF_eq, wrapF_eq, intArith, shift, eqVal, bound, asNat_cast, cond_true, cond_false, BEq.rfl, beq_self_eq_true, evalParts, fillParts, AV.cells, AV.ofCells, XV.av, AV.xv, List.length_cons, List.length_nil, zeros, patch, setMany, List.nil_append, List.cons_append, Nat.ble, Nat.add_eq, Nat.zero_add, Nat.add_zero, Nat.reduceAdd, Nat.reduceMul, Nat.reduceSub, Nat.ble_eq, Nat.reduceLeDiff, Nat.reduceBEq, Int.reduceBEq, Int.reduceNeg, Bool.and_true, Bool.and_false, Bool.true_and, Bool.false_and, Bool.not_true, Bool.not_false, Bool.true_eq_false, Bool.false_eq_true, Int.reduceLT, Int.reduceLE, Int.reduceGT, Int.reduceGE, decide_true, decide_false, Bool.not_eq_true, loopN_norm, loopN_exit, tf, ft, ff, v1]
      exact ⟨_, rfl, by simp, G, xg, .inl ⟨hfd, _, rfl, rfl⟩⟩
  obtain ⟨r, ⟨G, xg, hp⟩, hr⟩ := loop_any L rfl
  rw [evCallT_eq (F := ir25) rfl rfl rfl]
  unfold ir25
  rw [bodyK_eq]
  simp only [enter_eq, ev_seq, seqK_norm, seqK_exit, seqK_ret, ev_reg, ev_cond, condK_true, condK_false, ev_block, blockK_norm, blockK_ret, blockK_exit, ev_loop, ev_skip, ev_exit, ev_ret, regK_cons, regK_nil, guard_none, guard_some, regG_true, regG_false, regO_some, op_mov, op_conv, op_bin, op_bsl, op_box, op_mks, op_s2b, op_pick, op_un, op_eq, op_len, op_ext, op_load, op_iaddr, op_slice, op_b2s, op_idxS, op_mx, op_mn, op_call, op_store, op_app, op_copy, args_eq, result_one', rv_loc, finish_norm, finish_ret, outK_some, keep_true, keep_false, keep_nil, p_bin, p_pick, p_un, p_eq, p_conv, evNew, pureK_some, newK_some, X.eval, set_none, set_some, List.map_cons, List.map_nil, List.getD_cons_zero, List.getD_cons_succ, List.getD_nil, List.set_cons_zero, List.set_cons_succ, binCV, unCV, isShift, intArithF_eq, shiftF_eq, wrapF_eq, intArith, shift, eqVal, bound, asNat_cast, cond_true, cond_false, BEq.rfl, beq_self_eq_true, evalParts, fillParts, AV.cells, AV.ofCells, XV.av, AV.xv, List.length_cons, List.length_nil, zeros, patch, setMany, List.nil_append, List.cons_append, Nat.ble, Nat.add_eq, Nat.zero_add, Nat.add_zero, Nat.reduceAdd, Nat.reduceMul, Nat.reduceSub, Nat.ble_eq, Nat.reduceLeDiff, Nat.reduceBEq, Int.reduceBEq, Int.reduceNeg, Bool.and_true, Bool.and_false, Bool.true_and, Bool.false_and, Bool.not_true, Bool.not_false, Bool.true_eq_false, Bool.false_eq_true, Int.reduceLT, Int.reduceLE, Int.reduceGT, Int.reduceGE, decide_true, decide_false, Bool.not_eq_true, loopN_norm, loopN_exit, tf, ft, ff, ev_dreg, dregK_nil, dregK_cons, dregE_true, dregP_some, dregX_some, d_mov, d_bin, d_eq, d_pick, d_un, d_conv, d_b2s, d_len, d_load, d_iaddr, d_slice, d_ext, d_call, d_store, chk_done, chk_none, chk_some, chkG_true, chkG_false, chkOne_nil, chkOne_cons, chkH_some, chkV_same, stage_none, stage_some, look_hit, look_miss, news_nil, wb_cons, wb_nil, skip0, List.reverse_cons, List.reverse_nil, op_faddr, p_faddr, op_nilchk, p_nilchk, d_nilchk, d_faddr, p_load, AV.ofCells, e1, q1, q2, e2, q3, q4, e3, r0, e4, r1, e5, lv]
  rw [hr _ rfl]
  have all := (((x1.trans y2).trans y3).trans (x4.b _)).trans ((x5.trans xg).b _)
  rcases hp with ⟨hn, l, rfl, hll⟩ | ⟨a0, l, rfl⟩
  · obtain ⟨a, b, c, e, l, rfl⟩ : ∃ a b c e l', l = a :: b :: c :: e :: l' := by
      match l, hll with
      | a :: b :: c :: e :: l', _ => exact ⟨a, b, c, e, l', rfl⟩
    have hsp : spareF fs O = (8, -1, -1) := by unfold spareF; rw [hn]
    rw [hsp]
    simp only [enter_eq, ev_seq, seqK_norm, seqK_exit, seqK_ret, ev_reg, ev_cond, condK_true, condK_false, ev_block, blockK_norm, blockK_ret, blockK_exit, ev_loop, ev_skip, ev_exit, ev_ret, regK_cons, regK_nil, guard_none, guard_some, regG_true, regG_false, regO_some, op_mov, op_conv, op_bin, op_bsl, op_box, op_mks, op_s2b, op_pick, op_un, op_eq, op_len, op_ext, op_load, op_iaddr, op_slice, op_b2s, op_idxS, op_mx, op_mn, op_call, op_store, op_app, op_copy, args_eq, result_one', rv_loc, finish_norm, finish_ret, outK_some, keep_true, keep_false, keep_nil, p_bin, p_pick, p_un, p_eq, p_conv, evNew, pureK_some, newK_some, X.eval, set_none, set_some, List.map_cons, List.map_nil, List.getD_cons_zero, List.getD_cons_succ, List.getD_nil, List.set_cons_zero, List.set_cons_succ, binCV, unCV, isShift, intArithF_eq, shiftF_eq, wrapF_eq, intArith, shift, eqVal, bound, asNat_cast, cond_true, cond_false, BEq.rfl, beq_self_eq_true, evalParts, fillParts, AV.cells, AV.ofCells, XV.av, AV.xv, List.length_cons, List.length_nil, zeros, patch, setMany, List.nil_append, List.cons_append, Nat.ble, Nat.add_eq, Nat.zero_add, Nat.add_zero, Nat.reduceAdd, Nat.reduceMul, Nat.reduceSub, Nat.ble_eq, Nat.reduceLeDiff, Nat.reduceBEq, Int.reduceBEq, Int.reduceNeg, Bool.and_true, Bool.and_false, Bool.true_and, Bool.false_and, Bool.not_true, Bool.not_false, Bool.true_eq_false, Bool.false_eq_true, Int.reduceLT, Int.reduceLE, Int.reduceGT, Int.reduceGE, decide_true, decide_false, Bool.not_eq_true, loopN_norm, loopN_exit, tf, ft, ff, blockK_exit_eq, result, evResults]
    exact ⟨G, rfl, C5.ext' xg, all⟩
  · simp only [enter_eq, ev_seq, seqK_norm, seqK_exit, seqK_ret, ev_reg, ev_cond, condK_true, condK_false, ev_block, blockK_norm, blockK_ret, blockK_exit, ev_loop, ev_skip, ev_exit, ev_ret, regK_cons, regK_nil, guard_none, guard_some, regG_true, regG_false, regO_some, op_mov, op_conv, op_bin, op_bsl, op_box, op_mks, op_s2b, op_pick, op_un, op_eq, op_len, op_ext, op_load, op_iaddr, op_slice, op_b2s, op_idxS, op_mx, op_mn, op_call, op_store, op_app, op_copy, args_eq, result_one', rv_loc, finish_norm, finish_ret, outK_some, keep_true, keep_false, keep_nil, p_bin, p_pick, p_un, p_eq, p_conv, evNew, pureK_some, newK_some, X.eval, set_none, set_some, List.map_cons, List.map_nil, List.getD_cons_zero, List.getD_cons_succ, List.getD_nil, List.set_cons_zero, List.set_cons_succ, binCV, unCV, isShift, intArithF_eq, shiftF_eq, wrapF_eq, intArith, shift, eqVal, bound, asNat_cast, cond_true, cond_false, BEq.rfl, beq_self_eq_true, evalParts, fillParts, AV.cells, AV.ofCells, XV.av, AV.xv, List.length_cons, List.length_nil, zeros, patch, setMany, List.nil_append, List.cons_append, Nat.ble, Nat.add_eq, Nat.zero_add, Nat.add_zero, Nat.reduceAdd, Nat.reduceMul, Nat.reduceSub, Nat.ble_eq, Nat.reduceLeDiff, Nat.reduceBEq, Int.reduceBEq, Int.reduceNeg, Bool.and_true, Bool.and_false, Bool.true_and, Bool.false_and, Bool.not_true, Bool.not_false, Bool.true_eq_false, Bool.false_eq_true, Int.reduceLT, Int.reduceLE, Int.reduceGT, Int.reduceGE, decide_true, decide_false, Bool.not_eq_true, loopN_norm, loopN_exit, tf, ft, ff, result, evResults]
    exact ⟨G, rfl, C5.ext' xg, all⟩
end
end Lav
