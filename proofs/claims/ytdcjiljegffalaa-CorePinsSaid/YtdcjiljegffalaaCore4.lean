/-
  Layer 11: a frame for a page; a new core.
-/
import Derived.Test.YtdcjiljegffalaaCore3
set_option maxRecDepth 100000
set_option linter.unusedSimpArgs false
namespace Lav
open Go (IntKind)

section
variable {N d : Nat} {h : Heap} {k : Nat} {z : CP} {fs : List Fm} {o : List Int} {M : Nat → Option Int} {od ts : List Int}

theorem room_bad {g : Int} (hg : g < 0 ∨ g ≥ 48) : evCallT table 15 N (d + 1) 11 [.c (.ptr k 0), .c (.int .i64 g)] h = some (.tup [.c (.int .i64 1), .c (.int .i64 (-1)), .c (.int .i64 (-1))], h) := by
  rw [evCallT_eq (F := ir11) rfl rfl rfl]
  unfold ir11
  rw [bodyK_eq]
  by_cases c1 : g < 0
  · have v1 : decide (g < 0) = true := decide_eq_true c1
    simp only [enter_eq, ev_seq, seqK_norm, seqK_exit, seqK_ret, ev_reg, ev_cond, condK_true, condK_false, ev_block, blockK_norm, blockK_ret, blockK_exit, ev_loop, ev_skip, ev_exit, ev_ret, regK_cons, regK_nil, guard_none, guard_some, regG_true, regG_false, regO_some, op_mov, op_conv, op_bin, op_bsl, op_box, op_mks, op_s2b, op_pick, op_un, op_eq, op_len, op_ext, op_load, op_iaddr, op_slice, op_b2s, op_idxS, op_mx, op_mn, op_call, op_store, op_app, op_copy, args_eq, result_one', rv_loc, finish_norm, finish_ret, outK_some, keep_true, keep_false, keep_nil, p_bin, p_pick, p_un, p_eq, p_conv, evNew, pureK_some, newK_some, X.eval, set_none, set_some, List.map_cons, List.map_nil, List.getD_cons_zero, List.getD_cons_succ, List.getD_nil, List.set_cons_zero, List.set_cons_succ, binCV, unCV, isShift, intArithF_eq, shiftF_eq, wrapF_eq, intArith, shift, eqVal, bound, asNat_cast, cond_true, cond_false, BEq.rfl, beq_self_eq_true, evalParts, fillParts, AV.cells, AV.ofCells, XV.av, AV.xv, List.length_cons, List.length_nil, zeros, patch, setMany, List.nil_append, List.cons_append, Nat.ble, Nat.add_eq, Nat.zero_add, Nat.add_zero, Nat.reduceAdd, Nat.reduceMul, Nat.reduceSub, Nat.ble_eq, Nat.reduceLeDiff, Nat.reduceBEq, Int.reduceBEq, Int.reduceNeg, Bool.and_true, Bool.and_false, Bool.true_and, Bool.false_and, Bool.not_true, Bool.not_false, Bool.true_eq_false, Bool.false_eq_true, Int.reduceLT, Int.reduceLE, Int.reduceGT, Int.reduceGE, decide_true, decide_false, Bool.not_eq_true, loopN_norm, loopN_exit, tf, ft, ff, v1, result, evResults]
  · have v1 : decide (g < 0) = false := decide_eq_false c1
    have v2 : decide (g ≥ 48) = true := decide_eq_true (by omega)
    simp only [enter_eq, ev_seq, seqK_norm, seqK_exit, seqK_ret, ev_reg, ev_cond, condK_true, condK_false, ev_block, blockK_norm, blockK_ret, blockK_exit, ev_loop, ev_skip, ev_exit, ev_ret, regK_cons, regK_nil, guard_none, guard_some, regG_true, regG_false, regO_some, op_mov, op_conv, op_bin, op_bsl, op_box, op_mks, op_s2b, op_pick, op_un, op_eq, op_len, op_ext, op_load, op_iaddr, op_slice, op_b2s, op_idxS, op_mx, op_mn, op_call, op_store, op_app, op_copy, args_eq, result_one', rv_loc, finish_norm, finish_ret, outK_some, keep_true, keep_false, keep_nil, p_bin, p_pick, p_un, p_eq, p_conv, evNew, pureK_some, newK_some, X.eval, set_none, set_some, List.map_cons, List.map_nil, List.getD_cons_zero, List.getD_cons_succ, List.getD_nil, List.set_cons_zero, List.set_cons_succ, binCV, unCV, isShift, intArithF_eq, shiftF_eq, wrapF_eq, intArith, shift, eqVal, bound, asNat_cast, cond_true, cond_false, BEq.rfl, beq_self_eq_true, evalParts, fillParts, AV.cells, AV.ofCells, XV.av, AV.xv, List.length_cons, List.length_nil, zeros, patch, setMany, List.nil_append, List.cons_append, Nat.ble, Nat.add_eq, Nat.zero_add, Nat.add_zero, Nat.reduceAdd, Nat.reduceMul, Nat.reduceSub, Nat.ble_eq, Nat.reduceLeDiff, Nat.reduceBEq, Int.reduceBEq, Int.reduceNeg, Bool.and_true, Bool.and_false, Bool.true_and, Bool.false_and, Bool.not_true, Bool.not_false, Bool.true_eq_false, Bool.false_eq_true, Int.reduceLT, Int.reduceLE, Int.reduceGT, Int.reduceGE, decide_true, decide_false, Bool.not_eq_true, loopN_norm, loopN_exit, tf, ft, ff, v1, v2, result, evResults]
theorem room_held (C : CH h k z fs o M od ts) {g : Int} (h0 : 0 ≤ g) (h1 : g < 48) (hf : 0 ≤ findF fs g) (hN : 100 ≤ N) :
    ∃ h', evCallT table 15 N (d + 7) 11 [.c (.ptr k 0), .c (.int .i64 g)] h = some (.tup [.c (.int .i64 13), .c (.int .i64 (-1)), .c (.int .i64 (-1))], h') ∧ CH h' k z fs o M (od.filter (usedB fs)) ts ∧ ExtB (z.own k) h h' := by
  obtain ⟨H1, e1, C1, x1⟩ := tidy_ok (N := N) (d := d + 1) C hN
  have r0 := C1.r0
  have e2 := C1.ah.find (N := N) (d := d + 2) g hN
  have v1 : decide (g < 0) = false := decide_eq_false (by omega)
  have v2 : decide (g ≥ 48) = false := decide_eq_false (by omega)
  have v3 : decide (findF fs g ≥ 0) = true := decide_eq_true hf
  rw [evCallT_eq (F := ir11) rfl rfl rfl]
  unfold ir11
  rw [bodyK_eq]
  simp only [enter_eq, ev_seq, seqK_norm, seqK_exit, seqK_ret, ev_reg, ev_cond, condK_true, condK_false, ev_block, blockK_norm, blockK_ret, blockK_exit, ev_loop, ev_skip, ev_exit, ev_ret, regK_cons, regK_nil, guard_none, guard_some, regG_true, regG_false, regO_some, op_mov, op_conv, op_bin, op_bsl, op_box, op_mks, op_s2b, op_pick, op_un, op_eq, op_len, op_ext, op_load, op_iaddr, op_slice, op_b2s, op_idxS, op_mx, op_mn, op_call, op_store, op_app, op_copy, args_eq, result_one', rv_loc, finish_norm, finish_ret, outK_some, keep_true, keep_false, keep_nil, p_bin, p_pick, p_un, p_eq, p_conv, evNew, pureK_some, newK_some, X.eval, set_none, set_some, List.map_cons, List.map_nil, List.getD_cons_zero, List.getD_cons_succ, List.getD_nil, List.set_cons_zero, List.set_cons_succ, binCV, unCV, isShift, intArithF_eq, shiftF_eq, wrapF_eq, intArith, shift, eqVal, bound, asNat_cast, cond_true, cond_false, BEq.rfl, beq_self_eq_true, evalParts, fillParts, AV.cells, AV.ofCells, XV.av, AV.xv, List.length_cons, List.length_nil, zeros, patch, setMany, List.nil_append, List.cons_append, Nat.ble, Nat.add_eq, Nat.zero_add, Nat.add_zero, Nat.reduceAdd, Nat.reduceMul, Nat.reduceSub, Nat.ble_eq, Nat.reduceLeDiff, Nat.reduceBEq, Int.reduceBEq, Int.reduceNeg, Bool.and_true, Bool.and_false, Bool.true_and, Bool.false_and, Bool.not_true, Bool.not_false, Bool.true_eq_false, Bool.false_eq_true, Int.reduceLT, Int.reduceLE, Int.reduceGT, Int.reduceGE, decide_true, decide_false, Bool.not_eq_true, loopN_norm, loopN_exit, tf, ft, ff, op_faddr, p_faddr, op_nilchk, p_nilchk, p_load, AV.ofCells, v1, v2, v3, e1, r0, e2, result, evResults]
  exact ⟨H1, rfl, C1, x1⟩

/-- A frame that is taken, pinned, put to the front. -/
theorem front_new {g : Nat} {i : Nat} {y : CV} (hi : i < fs.length) (ho : (i : Int) ∉ od) (lo : ∀ x ∈ od, ∃ i : Nat, x = (i : Int) ∧ i < fs.length) (hh : ∀ (j : Nat) (f : Fm), fs[j]? = some f → f.st = 1 → j ≠ i → (j : Int) ∈ od) :
    (∀ x ∈ (i : Int) :: od, ∃ j : Nat, x = (j : Int) ∧ j < (fs.set i ⟨1, (g : Int), 1, false, y⟩).length) ∧ ∀ (j : Nat) (f : Fm), (fs.set i ⟨1, (g : Int), 1, false, y⟩)[j]? = some f → f.st = 1 → (j : Int) ∈ (i : Int) :: od := by
  refine ⟨fun x hx => ?_, fun j f hf hs => ?_⟩
  · rw [List.length_set]
    rcases List.mem_cons.1 hx with rfl | hx
    · exact ⟨i, rfl, hi⟩
    · exact lo x hx
  · rcases (set_at hi).1 hf with ⟨rfl, _⟩ | ⟨hne, hf'⟩
    · exact List.mem_cons_self
    · exact List.mem_cons_of_mem _ (hh j f hf' hs hne)

theorem room_free {g i : Nat} {o' : List Int} (C : CH h k z fs ((i : Int) :: o') M od ts) (hg : g < 48) (hf : findF fs (g : Int) < 0) (hN : 100 ≤ N) :
    ∃ y M' h', evCallT table 15 N (d + 7) 11 [.c (.ptr k 0), .c (.int .i64 (g : Int))] h = some (.tup [.c (.int .i64 0), .c (.int .i64 (i : Int)), .c (.int .i64 (-1))], h') ∧
      CH h' k z (fs.set i ⟨1, (g : Int), 1, false, y⟩) o' M' ((i : Int) :: od.filter (usedB fs)) ts ∧ ExtB (z.own k) h h' ∧ i < fs.length := by
  obtain ⟨H1, e1, C1, x1⟩ := tidy_ok (N := N) (d := d + 1) C hN
  have r0 := C1.r0
  have sm := C.ah.sm
  obtain ⟨i', hi, ei, hs0⟩ := C.ah.fo.lt (x := (i : Int)) (by simp)
  have : i' = i := by omega
  subst this
  have e2 := C1.ah.find (N := N) (d := d + 2) (g : Int) hN
  have v1 : decide ((g : Int) < 0) = false := decide_eq_false (by omega)
  have v2 : decide ((g : Int) ≥ 48) = false := decide_eq_false (by omega)
  have v3 : decide (findF fs (g : Int) ≥ 0) = false := decide_eq_false (by omega)
  have e3 : evCallT table 15 N (d + 6) 24 [.c (.ptr z.p 0)] H1 = some (.c (.int .i64 ((o'.length + 1 : Nat) : Int)), H1) := free_ok (N := N) (d := d + 4) C1.ah.ar
  have v4 : (((o'.length + 1 : Nat) : Int) == 0) = false := by simp only [beq_eq_false_iff_ne, ne_eq]; omega
  obtain ⟨y, M2, H2, e4, A2, x2, _⟩ := C1.ah.take (N := N) (d := d + 1) (g : Int) hN
  have et : takeF fs ((i' : Int) :: o') (g : Int) y = ((i' : Int), fs.set i' ⟨1, (g : Int), 0, false, y⟩, o') := by
    unfold takeF; rw [if_neg (by omega)]; simp only [Int.toNat_natCast]
  rw [et] at e4 A2
  obtain ⟨H3, e5, A3, x3⟩ := A2.pin (N := N) (d := d + 4) (i' : Int)
  have hi2 : i' < (fs.set i' ⟨1, (g : Int), 0, false, y⟩).length := by simp; exact hi
  have hgt : (fs.set i' ⟨1, (g : Int), 0, false, y⟩)[i'] = ⟨1, (g : Int), 0, false, y⟩ := by simp
  have ep : pinF (fs.set i' ⟨1, (g : Int), 0, false, y⟩) (i' : Int) = (0, fs.set i' ⟨1, (g : Int), 1, false, y⟩) := by
    unfold pinF
    rw [usedF_eq hi2 (by rw [hgt]), hgt]
    simp only [List.set_set]
    rfl
  rw [ep] at e5 A3
  have hno : (i' : Int) ∉ od.filter (usedB fs) := fun hm => by
    have := (List.mem_filter.1 hm).2
    rw [usedB_eq hi, hs0] at this
    cases this
  obtain ⟨lo, hh⟩ := front_new (y := y) (g := g) hi hno C1.lo (fun j f hf hs _ => C1.hi j f hf hs)
  have x23 := x2.trans x3
  have ap := C.ap
  have l3 := C1.ll.ext x23 (ap _ (by simp)) (ap _ (by simp))
  obtain ⟨H4, e6, l4, x4⟩ : ∃ h', evCallT table 15 N (d + 6) 29 [.c (.ptr z.q 0), .c (.int .i64 (i' : Int))] H3 = some (.c (.bool true), h') ∧ LL h' z.q z.b 32 ((i' : Int) :: od.filter (usedB fs)) ∧ ExtB [z.q, z.b] H3 h' :=
    front_ok (N := N) (d := d + 4) l3 (by omega) (by omega) hno (by have := C1.len; omega)
  have bx3 := x23.at_ C1.box C1.kn (ap _ (by simp))
  have p0 : H2.read k 0 1 = some [.ptr z.p 0] := read_cells (x2.at_ C1.box C1.kn (ap _ (by simp))) rfl
  have p1 : H3.read k 1 1 = some [.ptr z.q 0] := read_cells bx3 rfl
  have kn2 : k < H3.next := Nat.lt_of_lt_of_le C1.kn x23.1
  have n1 := C.nd
  simp only [List.nodup_cons, List.mem_cons, not_or, List.not_mem_nil, not_false_eq_true, List.nodup_nil, and_true] at n1
  obtain ⟨⟨p1', p2', p3', p4'⟩, ⟨q1', q2', q3'⟩, ⟨l1', l2'⟩, r1'⟩ := n1
  have rg3 := C1.rg.ext x23 (ap _ (by simp)) (ap _ (by simp))
  have C4 : CH H4 k z (fs.set i' ⟨1, (g : Int), 1, false, y⟩) o' M2 ((i' : Int) :: od.filter (usedB fs)) ts :=
    ⟨x4.at_ bx3 kn2 (by simp [p1', p2']), Nat.lt_of_lt_of_le kn2 x4.1, A3.ext x4 fun j hj hm => by
        simp at hm
        rcases hm with rfl | rfl
        · exact ap _ (by simp) hj
        · exact ap _ (by simp) hj, l4, rg3.ext x4 (by simp; exact ⟨fun h => q2' h.symm, fun h => l1' h.symm⟩) (by simp; exact ⟨fun h => q3' h.symm, fun h => l2' h.symm⟩), C.few, C.nd, C.ap, lo, hh⟩
  rw [evCallT_eq (F := ir11) rfl rfl rfl]
  unfold ir11
  rw [bodyK_eq]
  simp only [enter_eq, ev_seq, seqK_norm, seqK_exit, seqK_ret, ev_reg, ev_cond, condK_true, condK_false, ev_block, blockK_norm, blockK_ret, blockK_exit, ev_loop, ev_skip, ev_exit, ev_ret, regK_cons, regK_nil, guard_none, guard_some, regG_true, regG_false, regO_some, op_mov, op_conv, op_bin, op_bsl, op_box, op_mks, op_s2b, op_pick, op_un, op_eq, op_len, op_ext, op_load, op_iaddr, op_slice, op_b2s, op_idxS, op_mx, op_mn, op_call, op_store, op_app, op_copy, args_eq, result_one', rv_loc, finish_norm, finish_ret, outK_some, keep_true, keep_false, keep_nil, p_bin, p_pick, p_un, p_eq, p_conv, evNew, pureK_some, newK_some, X.eval, set_none, set_some, List.map_cons, List.map_nil, List.getD_cons_zero, List.getD_cons_succ, List.getD_nil, List.set_cons_zero, List.set_cons_succ, binCV, unCV, isShift, intArithF_eq, shiftF_eq, wrapF_eq, intArith, shift, eqVal, bound, asNat_cast, cond_true, cond_false, BEq.rfl, beq_self_eq_true, evalParts, fillParts, AV.cells, AV.ofCells, XV.av, AV.xv, List.length_cons, List.length_nil, zeros, patch, setMany, List.nil_append, List.cons_append, Nat.ble, Nat.add_eq, Nat.zero_add, Nat.add_zero, Nat.reduceAdd, Nat.reduceMul, Nat.reduceSub, Nat.ble_eq, Nat.reduceLeDiff, Nat.reduceBEq, Int.reduceBEq, Int.reduceNeg, Bool.and_true, Bool.and_false, Bool.true_and, Bool.false_and, Bool.not_true, Bool.not_false, Bool.true_eq_false, Bool.false_eq_true, Int.reduceLT, Int.reduceLE, Int.reduceGT, Int.reduceGE, decide_true, decide_false, Bool.not_eq_true, loopN_norm, loopN_exit, tf, ft, ff, op_faddr, p_faddr, op_nilchk, p_nilchk, p_load, AV.ofCells, v1, v2, v3, e1, r0, e2, e3, v4, e4, p0, e5, p1, e6, result, evResults]
  exact ⟨y, M2, H4, rfl, C4, (x1.trans (x23.mono fun j hj => by simp [CP.own, hj])).trans (x4.mono fun j hj => by simp at hj; rcases hj with h | h <;> simp [CP.own, h]), hi⟩

/-- None is free: somebody must go, and may not. -/
theorem room_stay {g : Nat} (C : CH h k z fs [] M od ts) (hg : g < 48) (hf : findF fs (g : Int) < 0) (hs : (spareF fs (ts.foldl applyM (od.filter (usedB fs)))).1 ≠ 0) (hN : 100 ≤ N) :
    ∃ h', evCallT table 15 N (d + 7) 11 [.c (.ptr k 0), .c (.int .i64 (g : Int))] h = some (.tup [.c (.int .i64 (spareF fs (ts.foldl applyM (od.filter (usedB fs)))).1), .c (.int .i64 (spareF fs (ts.foldl applyM (od.filter (usedB fs)))).2.1), .c (.int .i64 (spareF fs (ts.foldl applyM (od.filter (usedB fs)))).2.2)], h') ∧
      CH h' k z fs [] M (ts.foldl applyM (od.filter (usedB fs))) [] ∧ ExtB (z.own k) h h' := by
  obtain ⟨H1, e1, C1, x1⟩ := tidy_ok (N := N) (d := d + 1) C hN
  have r0 := C1.r0
  have e2 := C1.ah.find (N := N) (d := d + 2) (g : Int) hN
  have v1 : decide ((g : Int) < 0) = false := decide_eq_false (by omega)
  have v2 : decide ((g : Int) ≥ 48) = false := decide_eq_false (by omega)
  have v3 : decide (findF fs (g : Int) ≥ 0) = false := decide_eq_false (by omega)
  have e3 : evCallT table 15 N (d + 6) 24 [.c (.ptr z.p 0)] H1 = some (.c (.int .i64 0), H1) := free_ok (N := N) (d := d + 4) C1.ah.ar
  obtain ⟨H2, e4, C2, x2⟩ := spare_ok (N := N) (d := d) C1 hN
  have ff2 : (od.filter (usedB fs)).filter (usedB fs) = od.filter (usedB fs) := List.filter_filter.trans (by simp)
  rw [ff2] at e4 C2
  generalize ts.foldl applyM (od.filter (usedB fs)) = O at *
  have v4 : ((spareF fs O).1 == 0) = false := by simp only [beq_eq_false_iff_ne, ne_eq]; exact hs
  rw [evCallT_eq (F := ir11) rfl rfl rfl]
  unfold ir11
  rw [bodyK_eq]
  simp only [enter_eq, ev_seq, seqK_norm, seqK_exit, seqK_ret, ev_reg, ev_cond, condK_true, condK_false, ev_block, blockK_norm, blockK_ret, blockK_exit, ev_loop, ev_skip, ev_exit, ev_ret, regK_cons, regK_nil, guard_none, guard_some, regG_true, regG_false, regO_some, op_mov, op_conv, op_bin, op_bsl, op_box, op_mks, op_s2b, op_pick, op_un, op_eq, op_len, op_ext, op_load, op_iaddr, op_slice, op_b2s, op_idxS, op_mx, op_mn, op_call, op_store, op_app, op_copy, args_eq, result_one', rv_loc, finish_norm, finish_ret, outK_some, keep_true, keep_false, keep_nil, p_bin, p_pick, p_un, p_eq, p_conv, evNew, pureK_some, newK_some, X.eval, set_none, set_some, List.map_cons, List.map_nil, List.getD_cons_zero, List.getD_cons_succ, List.getD_nil, List.set_cons_zero, List.set_cons_succ, binCV, unCV, isShift, intArithF_eq, shiftF_eq, wrapF_eq, intArith, shift, eqVal, bound, asNat_cast, cond_true, cond_false, BEq.rfl, beq_self_eq_true, evalParts, fillParts, AV.cells, AV.ofCells, XV.av, AV.xv, List.length_cons, List.length_nil, zeros, patch, setMany, List.nil_append, List.cons_append, Nat.ble, Nat.add_eq, Nat.zero_add, Nat.add_zero, Nat.reduceAdd, Nat.reduceMul, Nat.reduceSub, Nat.ble_eq, Nat.reduceLeDiff, Nat.reduceBEq, Int.reduceBEq, Int.reduceNeg, Bool.and_true, Bool.and_false, Bool.true_and, Bool.false_and, Bool.not_true, Bool.not_false, Bool.true_eq_false, Bool.false_eq_true, Int.reduceLT, Int.reduceLE, Int.reduceGT, Int.reduceGE, decide_true, decide_false, Bool.not_eq_true, loopN_norm, loopN_exit, tf, ft, ff, op_faddr, p_faddr, op_nilchk, p_nilchk, p_load, AV.ofCells, p_ext, List.getElem?_cons_zero, List.getElem?_cons_succ, v1, v2, v3, e1, r0, e2, e3, e4, v4, bneI, result, evResults]
  exact ⟨H2, rfl, C2, x1.trans x2⟩
end
end Lav
