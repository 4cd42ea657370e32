/-
  Layer 7: what the document's own schedule does.
-/
import Derived.Test.YtakkkibaaipmcaaSched5
set_option maxRecDepth 100000
set_option linter.unusedSimpArgs false
namespace Lav
open Go (IntKind)

structure SR (h : Heap) (p b : Nat) (ts : Tks) : Prop where
  cell : h.get p = some (.cells [.sl b 0 ts.length (.dy 3)])
  tasks : h.get b = some (.cells (tksC ts))
  ne : p ≠ b
  pn : p < h.next
  bn : b < h.next

theorem SR.ext {h h' : Heap} {p b : Nat} {ts : Tks} (t : SR h p b ts) {S : List Nat} (e : ExtB S h h') (hp : p ∉ S) (hb : b ∉ S) : SR h' p b ts :=
  ⟨e.at_ t.cell t.pn hp, e.at_ t.tasks t.bn hb, t.ne, Nat.lt_of_lt_of_le t.pn e.1, Nat.lt_of_lt_of_le t.bn e.1⟩
theorem SR.put {h : Heap} {p b : Nat} {ts ts' : Tks} (t : SR h p b ts) (hl : ts'.length = ts.length) : SR (h.put b (.cells (tksC ts'))) p b ts' :=
  ⟨by rw [get_put_ne t.ne, hl]; exact t.cell, get_put_at, t.ne, t.pn, t.bn⟩
theorem SR.r {h : Heap} {p b : Nat} {ts : Tks} (t : SR h p b ts) : h.read p 0 1 = some [.sl b 0 ts.length (.dy 3)] := read_cells t.cell rfl
theorem SR.rs {h : Heap} {p b : Nat} {ts : Tks} (t : SR h p b ts) {i : Nat} (hi : i < ts.length) : h.read b (i * 3) 1 = some [.int .i64 ts[i].st] := read_cells t.tasks (by have := tksC_get hi (k := 0) (by omega); rw [Nat.add_zero] at this; rw [this]; rfl)
theorem SR.rt {h : Heap} {p b : Nat} {ts : Tks} (t : SR h p b ts) {i : Nat} (hi : i < ts.length) : h.read b (i * 3) 3 = some [.int .i64 ts[i].st, .int .i64 ts[i].pc, .int .i64 ts[i].on] := by
  simp only [Heap.read, t.tasks]; exact tksC_cut hi
theorem SR.w0 {h : Heap} {p b : Nat} {ts : Tks} (t : SR h p b ts) {i : Nat} (hi : i < ts.length) (v : Int) : h.write b (i * 3) [.int .i64 v] = some (h.put b (.cells (tksC (ts.set i { ts[i] with st := v })))) := by
  rw [← tksC_set0 ts i hi v]; exact write_one (v := icell v) t.tasks (by rw [tksC_len]; omega)
theorem SR.w1 {h : Heap} {p b : Nat} {ts : Tks} (t : SR h p b ts) {i : Nat} (hi : i < ts.length) (v : Int) : h.write b (i * 3 + 1) [.int .i64 v] = some (h.put b (.cells (tksC (ts.set i { ts[i] with pc := v })))) := by
  rw [← tksC_set1 ts i hi v]; exact write_one (v := icell v) t.tasks (by rw [tksC_len]; omega)
theorem SR.w2 {h : Heap} {p b : Nat} {ts : Tks} (t : SR h p b ts) {i : Nat} (hi : i < ts.length) (v : Int) : h.write b (i * 3 + 2) [.int .i64 v] = some (h.put b (.cells (tksC (ts.set i { ts[i] with on := v })))) := by
  rw [← tksC_set2 ts i hi v]; exact write_one (v := icell v) t.tasks (by rw [tksC_len]; omega)
theorem SR.w3 {h : Heap} {p b : Nat} {ts : Tks} (t : SR h p b ts) {i : Nat} (hi : i < ts.length) (s q o : Int) : h.write b (i * 3) [.int .i64 s, .int .i64 q, .int .i64 o] = some (h.put b (.cells (tksC (ts.set i ⟨s, q, o⟩)))) := by
  rw [← tksC_put ts i hi ⟨s, q, o⟩]; exact write_many (vs := tkC ⟨s, q, o⟩) t.tasks (by rw [tksC_len]; simp [tkC]; omega)


theorem SR.r2 {h : Heap} {p b : Nat} {ts : Tks} (t : SR h p b ts) {i : Nat} (hi : i < ts.length) : h.read b (i * 3 + 2) 1 = some [.int .i64 ts[i].on] := read_cells t.tasks (by have := tksC_get hi (k := 2) (by omega); rw [this]; rfl)

section
variable {N d : Nat} {h : Heap} {p b : Nat} {ts : Tks}

theorem ris_any (s : SR h p b ts) (t st : Int) : evCallT table 28 N (d + 1) 53 [.c (.ptr p 0), .c (.int .i64 t), .c (.int .i64 st)] h = some (.c (.bool (isM ts t st)), h) := by
  have ll : ∀ loc vals h', evPure loc (.c (.sl b 0 ts.length (.dy 3)) :: vals) h' (.len .sl (.val 0)) = some (.c (.int .i64 (ts.length : Int))) := fun _ _ _ => rfl
  rw [evCallT_eq (F := ir53) rfl rfl rfl]
  unfold ir53
  rw [bodyK_eq]
  by_cases c1 : t ≥ 0
  · obtain ⟨j, rfl⟩ : ∃ j : Nat, t = (j : Int) := ⟨t.toNat, by omega⟩
    by_cases hj : j < ts.length
    · have c2 : decide ((j : Int) < (ts.length : Int)) = true := ltNat hj
      have m1 : Nat.blt j ts.length = true := bltT hj
      rw [isM_in hj]
      simp only [enter_eq, ev_seq, seqK_norm, seqK_exit, seqK_ret, ev_reg, ev_cond, condK_true, condK_false, ev_block, blockK_norm, blockK_ret, blockK_exit, ev_loop, ev_skip, ev_exit, ev_ret, regK_cons, regK_nil, guard_none, guard_some, regG_true, regG_false, regO_some, op_mov, op_conv, op_bin, op_bsl, op_box, op_mks, op_s2b, op_pick, op_un, op_eq, op_len, op_ext, op_load, op_iaddr, op_slice, op_b2s, op_idxS, op_mx, op_mn, op_call, op_store, op_app, op_copy, args_eq, result_one', rv_loc, finish_norm, finish_ret, outK_some, keep_true, keep_false, keep_nil, p_bin, p_pick, p_un, p_eq, p_conv, evNew, pureK_some, newK_some, X.eval, set_none, set_some, List.map_cons, List.map_nil, List.getD_cons_zero, List.getD_cons_succ, List.getD_nil, List.set_cons_zero, List.set_cons_succ, binCV, unCV, isShift, intArithF_eq, shiftF_eq, wrapF_eq, intArith, shift, eqVal, bound, asNat_cast, cond_true, cond_false, BEq.rfl, beq_self_eq_true, evalParts, fillParts, AV.cells, AV.ofCells, XV.av, AV.xv, List.length_cons, List.length_nil, zeros, patch, setMany, List.nil_append, List.cons_append, Nat.ble, Nat.add_eq, Nat.zero_add, Nat.add_zero, Nat.reduceAdd, Nat.reduceMul, Nat.reduceSub, Nat.ble_eq, Nat.reduceLeDiff, Nat.reduceBEq, Int.reduceBEq, Int.reduceNeg, Bool.and_true, Bool.and_false, Bool.true_and, Bool.false_and, Bool.not_true, Bool.not_false, Bool.true_eq_false, Bool.false_eq_true, Int.reduceLT, Int.reduceLE, Int.reduceGT, Int.reduceGE, decide_true, decide_false, Bool.not_eq_true, loopN_norm, loopN_exit, tf, ft, ff, decide_eq_true c1, c2, op_nilchk, p_nilchk, op_faddr, p_faddr, p_iaddr, p_load, s.r, s.rs hj, m1, AV.ofCells, ll]
    · have c2 : decide ((j : Int) < (ts.length : Int)) = false := geNat (by omega)
      rw [isM_out (by omega)]
      simp only [enter_eq, ev_seq, seqK_norm, seqK_exit, seqK_ret, ev_reg, ev_cond, condK_true, condK_false, ev_block, blockK_norm, blockK_ret, blockK_exit, ev_loop, ev_skip, ev_exit, ev_ret, regK_cons, regK_nil, guard_none, guard_some, regG_true, regG_false, regO_some, op_mov, op_conv, op_bin, op_bsl, op_box, op_mks, op_s2b, op_pick, op_un, op_eq, op_len, op_ext, op_load, op_iaddr, op_slice, op_b2s, op_idxS, op_mx, op_mn, op_call, op_store, op_app, op_copy, args_eq, result_one', rv_loc, finish_norm, finish_ret, outK_some, keep_true, keep_false, keep_nil, p_bin, p_pick, p_un, p_eq, p_conv, evNew, pureK_some, newK_some, X.eval, set_none, set_some, List.map_cons, List.map_nil, List.getD_cons_zero, List.getD_cons_succ, List.getD_nil, List.set_cons_zero, List.set_cons_succ, binCV, unCV, isShift, intArithF_eq, shiftF_eq, wrapF_eq, intArith, shift, eqVal, bound, asNat_cast, cond_true, cond_false, BEq.rfl, beq_self_eq_true, evalParts, fillParts, AV.cells, AV.ofCells, XV.av, AV.xv, List.length_cons, List.length_nil, zeros, patch, setMany, List.nil_append, List.cons_append, Nat.ble, Nat.add_eq, Nat.zero_add, Nat.add_zero, Nat.reduceAdd, Nat.reduceMul, Nat.reduceSub, Nat.ble_eq, Nat.reduceLeDiff, Nat.reduceBEq, Int.reduceBEq, Int.reduceNeg, Bool.and_true, Bool.and_false, Bool.true_and, Bool.false_and, Bool.not_true, Bool.not_false, Bool.true_eq_false, Bool.false_eq_true, Int.reduceLT, Int.reduceLE, Int.reduceGT, Int.reduceGE, decide_true, decide_false, Bool.not_eq_true, loopN_norm, loopN_exit, tf, ft, ff, decide_eq_true c1, c2, op_nilchk, p_nilchk, op_faddr, p_faddr, p_load, s.r, AV.ofCells, ll]
  · rw [isM_out (by omega)]
    simp only [enter_eq, ev_seq, seqK_norm, seqK_exit, seqK_ret, ev_reg, ev_cond, condK_true, condK_false, ev_block, blockK_norm, blockK_ret, blockK_exit, ev_loop, ev_skip, ev_exit, ev_ret, regK_cons, regK_nil, guard_none, guard_some, regG_true, regG_false, regO_some, op_mov, op_conv, op_bin, op_bsl, op_box, op_mks, op_s2b, op_pick, op_un, op_eq, op_len, op_ext, op_load, op_iaddr, op_slice, op_b2s, op_idxS, op_mx, op_mn, op_call, op_store, op_app, op_copy, args_eq, result_one', rv_loc, finish_norm, finish_ret, outK_some, keep_true, keep_false, keep_nil, p_bin, p_pick, p_un, p_eq, p_conv, evNew, pureK_some, newK_some, X.eval, set_none, set_some, List.map_cons, List.map_nil, List.getD_cons_zero, List.getD_cons_succ, List.getD_nil, List.set_cons_zero, List.set_cons_succ, binCV, unCV, isShift, intArithF_eq, shiftF_eq, wrapF_eq, intArith, shift, eqVal, bound, asNat_cast, cond_true, cond_false, BEq.rfl, beq_self_eq_true, evalParts, fillParts, AV.cells, AV.ofCells, XV.av, AV.xv, List.length_cons, List.length_nil, zeros, patch, setMany, List.nil_append, List.cons_append, Nat.ble, Nat.add_eq, Nat.zero_add, Nat.add_zero, Nat.reduceAdd, Nat.reduceMul, Nat.reduceSub, Nat.ble_eq, Nat.reduceLeDiff, Nat.reduceBEq, Int.reduceBEq, Int.reduceNeg, Bool.and_true, Bool.and_false, Bool.true_and, Bool.false_and, Bool.not_true, Bool.not_false, Bool.true_eq_false, Bool.false_eq_true, Int.reduceLT, Int.reduceLE, Int.reduceGT, Int.reduceGE, decide_true, decide_false, Bool.not_eq_true, loopN_norm, loopN_exit, tf, ft, ff, decide_eq_false c1]

theorem rwake_any (s : SR h p b ts) (t pc : Int) : ∃ h', evCallT table 28 N (d + 2) 30 [.c (.ptr p 0), .c (.int .i64 t), .c (.int .i64 pc)] h = some (.c (.bool (wakeM ts t pc).1), h') ∧ SR h' p b (wakeM ts t pc).2 ∧ ExtB [b] h h' := by
  have e0 := ris_any (N := N) (d := d) s t 0
  have e3 := ris_any (N := N) (d := d) s t 3
  rw [evCallT_eq (F := ir30) rfl rfl rfl]
  unfold ir30
  rw [bodyK_eq]
  unfold wakeM
  by_cases c1 : pc < 0
  · rw [if_neg (fun e => absurd e.1 (by omega))]
    simp only [enter_eq, ev_seq, seqK_norm, seqK_exit, seqK_ret, ev_reg, ev_cond, condK_true, condK_false, ev_block, blockK_norm, blockK_ret, blockK_exit, ev_loop, ev_skip, ev_exit, ev_ret, regK_cons, regK_nil, guard_none, guard_some, regG_true, regG_false, regO_some, op_mov, op_conv, op_bin, op_bsl, op_box, op_mks, op_s2b, op_pick, op_un, op_eq, op_len, op_ext, op_load, op_iaddr, op_slice, op_b2s, op_idxS, op_mx, op_mn, op_call, op_store, op_app, op_copy, args_eq, result_one', rv_loc, finish_norm, finish_ret, outK_some, keep_true, keep_false, keep_nil, p_bin, p_pick, p_un, p_eq, p_conv, evNew, pureK_some, newK_some, X.eval, set_none, set_some, List.map_cons, List.map_nil, List.getD_cons_zero, List.getD_cons_succ, List.getD_nil, List.set_cons_zero, List.set_cons_succ, binCV, unCV, isShift, intArithF_eq, shiftF_eq, wrapF_eq, intArith, shift, eqVal, bound, asNat_cast, cond_true, cond_false, BEq.rfl, beq_self_eq_true, evalParts, fillParts, AV.cells, AV.ofCells, XV.av, AV.xv, List.length_cons, List.length_nil, zeros, patch, setMany, List.nil_append, List.cons_append, Nat.ble, Nat.add_eq, Nat.zero_add, Nat.add_zero, Nat.reduceAdd, Nat.reduceMul, Nat.reduceSub, Nat.ble_eq, Nat.reduceLeDiff, Nat.reduceBEq, Int.reduceBEq, Int.reduceNeg, Bool.and_true, Bool.and_false, Bool.true_and, Bool.false_and, Bool.not_true, Bool.not_false, Bool.true_eq_false, Bool.false_eq_true, Int.reduceLT, Int.reduceLE, Int.reduceGT, Int.reduceGE, decide_true, decide_false, Bool.not_eq_true, loopN_norm, loopN_exit, tf, ft, ff, decide_eq_true c1]
    exact ⟨_, rfl, s, ExtB.refl _ _⟩
  have fin : ∀ {st : Int}, isM ts t st = true → ∃ j : Nat, t = (j : Int) ∧ Nat.blt j ts.length = true ∧ h.write b (j * 3) [.int .i64 1, .int .i64 pc, .int .i64 (-1)] = some (h.put b (.cells (tksC (ts.set j ⟨1, pc, -1⟩)))) ∧ SR (h.put b (.cells (tksC (ts.set j ⟨1, pc, -1⟩)))) p b (ts.set j ⟨1, pc, -1⟩) := fun {st} e => by
    obtain ⟨j, hj, hj2, _⟩ := isM_there e
    exact ⟨j, hj, bltT hj2, s.w3 hj2 1 pc (-1), s.put (by simp)⟩
  cases q0 : isM ts t 0 with
  | true =>
    rw [q0] at e0
    rw [if_pos ⟨by omega, .inl rfl⟩]
    obtain ⟨j, rfl, m1, W, s'⟩ := fin q0
    rw [Int.toNat_natCast]
    simp only [enter_eq, ev_seq, seqK_norm, seqK_exit, seqK_ret, ev_reg, ev_cond, condK_true, condK_false, ev_block, blockK_norm, blockK_ret, blockK_exit, ev_loop, ev_skip, ev_exit, ev_ret, regK_cons, regK_nil, guard_none, guard_some, regG_true, regG_false, regO_some, op_mov, op_conv, op_bin, op_bsl, op_box, op_mks, op_s2b, op_pick, op_un, op_eq, op_len, op_ext, op_load, op_iaddr, op_slice, op_b2s, op_idxS, op_mx, op_mn, op_call, op_store, op_app, op_copy, args_eq, result_one', rv_loc, finish_norm, finish_ret, outK_some, keep_true, keep_false, keep_nil, p_bin, p_pick, p_un, p_eq, p_conv, evNew, pureK_some, newK_some, X.eval, set_none, set_some, List.map_cons, List.map_nil, List.getD_cons_zero, List.getD_cons_succ, List.getD_nil, List.set_cons_zero, List.set_cons_succ, binCV, unCV, isShift, intArithF_eq, shiftF_eq, wrapF_eq, intArith, shift, eqVal, bound, asNat_cast, cond_true, cond_false, BEq.rfl, beq_self_eq_true, evalParts, fillParts, AV.cells, AV.ofCells, XV.av, AV.xv, List.length_cons, List.length_nil, zeros, patch, setMany, List.nil_append, List.cons_append, Nat.ble, Nat.add_eq, Nat.zero_add, Nat.add_zero, Nat.reduceAdd, Nat.reduceMul, Nat.reduceSub, Nat.ble_eq, Nat.reduceLeDiff, Nat.reduceBEq, Int.reduceBEq, Int.reduceNeg, Bool.and_true, Bool.and_false, Bool.true_and, Bool.false_and, Bool.not_true, Bool.not_false, Bool.true_eq_false, Bool.false_eq_true, Int.reduceLT, Int.reduceLE, Int.reduceGT, Int.reduceGE, decide_true, decide_false, Bool.not_eq_true, loopN_norm, loopN_exit, tf, ft, ff, decide_eq_false c1, e0, op_nilchk, p_nilchk, op_faddr, p_faddr, op_build, p_build', p_iaddr, p_load, s.r, m1, AV.ofCells, evEff, W]
    exact ⟨_, rfl, s', (ExtB.refl _ _).put (.inr (by simp)) _⟩
  | false =>
    rw [q0] at e0
    cases q3 : isM ts t 3 with
    | true =>
      rw [q3] at e3
      rw [if_pos ⟨by omega, .inr rfl⟩]
      obtain ⟨j, rfl, m1, W, s'⟩ := fin q3
      rw [Int.toNat_natCast]
      simp only [enter_eq, ev_seq, seqK_norm, seqK_exit, seqK_ret, ev_reg, ev_cond, condK_true, condK_false, ev_block, blockK_norm, blockK_ret, blockK_exit, ev_loop, ev_skip, ev_exit, ev_ret, regK_cons, regK_nil, guard_none, guard_some, regG_true, regG_false, regO_some, op_mov, op_conv, op_bin, op_bsl, op_box, op_mks, op_s2b, op_pick, op_un, op_eq, op_len, op_ext, op_load, op_iaddr, op_slice, op_b2s, op_idxS, op_mx, op_mn, op_call, op_store, op_app, op_copy, args_eq, result_one', rv_loc, finish_norm, finish_ret, outK_some, keep_true, keep_false, keep_nil, p_bin, p_pick, p_un, p_eq, p_conv, evNew, pureK_some, newK_some, X.eval, set_none, set_some, List.map_cons, List.map_nil, List.getD_cons_zero, List.getD_cons_succ, List.getD_nil, List.set_cons_zero, List.set_cons_succ, binCV, unCV, isShift, intArithF_eq, shiftF_eq, wrapF_eq, intArith, shift, eqVal, bound, asNat_cast, cond_true, cond_false, BEq.rfl, beq_self_eq_true, evalParts, fillParts, AV.cells, AV.ofCells, XV.av, AV.xv, List.length_cons, List.length_nil, zeros, patch, setMany, List.nil_append, List.cons_append, Nat.ble, Nat.add_eq, Nat.zero_add, Nat.add_zero, Nat.reduceAdd, Nat.reduceMul, Nat.reduceSub, Nat.ble_eq, Nat.reduceLeDiff, Nat.reduceBEq, Int.reduceBEq, Int.reduceNeg, Bool.and_true, Bool.and_false, Bool.true_and, Bool.false_and, Bool.not_true, Bool.not_false, Bool.true_eq_false, Bool.false_eq_true, Int.reduceLT, Int.reduceLE, Int.reduceGT, Int.reduceGE, decide_true, decide_false, Bool.not_eq_true, loopN_norm, loopN_exit, tf, ft, ff, decide_eq_false c1, e0, e3, op_nilchk, p_nilchk, op_faddr, p_faddr, op_build, p_build', p_iaddr, p_load, s.r, m1, AV.ofCells, evEff, W]
      exact ⟨_, rfl, s', (ExtB.refl _ _).put (.inr (by simp)) _⟩
    | false =>
      rw [q3] at e3
      rw [if_neg (by simp)]
      simp only [enter_eq, ev_seq, seqK_norm, seqK_exit, seqK_ret, ev_reg, ev_cond, condK_true, condK_false, ev_block, blockK_norm, blockK_ret, blockK_exit, ev_loop, ev_skip, ev_exit, ev_ret, regK_cons, regK_nil, guard_none, guard_some, regG_true, regG_false, regO_some, op_mov, op_conv, op_bin, op_bsl, op_box, op_mks, op_s2b, op_pick, op_un, op_eq, op_len, op_ext, op_load, op_iaddr, op_slice, op_b2s, op_idxS, op_mx, op_mn, op_call, op_store, op_app, op_copy, args_eq, result_one', rv_loc, finish_norm, finish_ret, outK_some, keep_true, keep_false, keep_nil, p_bin, p_pick, p_un, p_eq, p_conv, evNew, pureK_some, newK_some, X.eval, set_none, set_some, List.map_cons, List.map_nil, List.getD_cons_zero, List.getD_cons_succ, List.getD_nil, List.set_cons_zero, List.set_cons_succ, binCV, unCV, isShift, intArithF_eq, shiftF_eq, wrapF_eq, intArith, shift, eqVal, bound, asNat_cast, cond_true, cond_false, BEq.rfl, beq_self_eq_true, evalParts, fillParts, AV.cells, AV.ofCells, XV.av, AV.xv, List.length_cons, List.length_nil, zeros, patch, setMany, List.nil_append, List.cons_append, Nat.ble, Nat.add_eq, Nat.zero_add, Nat.add_zero, Nat.reduceAdd, Nat.reduceMul, Nat.reduceSub, Nat.ble_eq, Nat.reduceLeDiff, Nat.reduceBEq, Int.reduceBEq, Int.reduceNeg, Bool.and_true, Bool.and_false, Bool.true_and, Bool.false_and, Bool.not_true, Bool.not_false, Bool.true_eq_false, Bool.false_eq_true, Int.reduceLT, Int.reduceLE, Int.reduceGT, Int.reduceGE, decide_true, decide_false, Bool.not_eq_true, loopN_norm, loopN_exit, tf, ft, ff, decide_eq_false c1, e0, e3]
      exact ⟨_, rfl, s, ExtB.refl _ _⟩

theorem rgo_any (s : SR h p b ts) (t pc : Int) : ∃ h', evCallT table 28 N (d + 2) 32 [.c (.ptr p 0), .c (.int .i64 t), .c (.int .i64 pc)] h = some (.c (.bool (goM ts t pc).1), h') ∧ SR h' p b (goM ts t pc).2 ∧ ExtB [b] h h' := by
  have e1 := ris_any (N := N) (d := d) s t 1
  rw [evCallT_eq (F := ir32) rfl rfl rfl]
  unfold ir32
  rw [bodyK_eq]
  unfold goM
  by_cases c1 : pc < 0
  · rw [if_neg (fun e => absurd e.1 (by omega))]
    simp only [enter_eq, ev_seq, seqK_norm, seqK_exit, seqK_ret, ev_reg, ev_cond, condK_true, condK_false, ev_block, blockK_norm, blockK_ret, blockK_exit, ev_loop, ev_skip, ev_exit, ev_ret, regK_cons, regK_nil, guard_none, guard_some, regG_true, regG_false, regO_some, op_mov, op_conv, op_bin, op_bsl, op_box, op_mks, op_s2b, op_pick, op_un, op_eq, op_len, op_ext, op_load, op_iaddr, op_slice, op_b2s, op_idxS, op_mx, op_mn, op_call, op_store, op_app, op_copy, args_eq, result_one', rv_loc, finish_norm, finish_ret, outK_some, keep_true, keep_false, keep_nil, p_bin, p_pick, p_un, p_eq, p_conv, evNew, pureK_some, newK_some, X.eval, set_none, set_some, List.map_cons, List.map_nil, List.getD_cons_zero, List.getD_cons_succ, List.getD_nil, List.set_cons_zero, List.set_cons_succ, binCV, unCV, isShift, intArithF_eq, shiftF_eq, wrapF_eq, intArith, shift, eqVal, bound, asNat_cast, cond_true, cond_false, BEq.rfl, beq_self_eq_true, evalParts, fillParts, AV.cells, AV.ofCells, XV.av, AV.xv, List.length_cons, List.length_nil, zeros, patch, setMany, List.nil_append, List.cons_append, Nat.ble, Nat.add_eq, Nat.zero_add, Nat.add_zero, Nat.reduceAdd, Nat.reduceMul, Nat.reduceSub, Nat.ble_eq, Nat.reduceLeDiff, Nat.reduceBEq, Int.reduceBEq, Int.reduceNeg, Bool.and_true, Bool.and_false, Bool.true_and, Bool.false_and, Bool.not_true, Bool.not_false, Bool.true_eq_false, Bool.false_eq_true, Int.reduceLT, Int.reduceLE, Int.reduceGT, Int.reduceGE, decide_true, decide_false, Bool.not_eq_true, loopN_norm, loopN_exit, tf, ft, ff, decide_eq_true c1]
    exact ⟨_, rfl, s, ExtB.refl _ _⟩
  cases q0 : isM ts t 1 with
  | true =>
    rw [q0] at e1
    rw [if_pos ⟨by omega, rfl⟩]
    obtain ⟨j, rfl, hj, _⟩ := isM_there q0
    have m1 : Nat.blt j ts.length = true := bltT hj
    have W := s.w1 hj pc
    rw [Int.toNat_natCast, List.getElem?_eq_getElem hj]
    simp only [enter_eq, ev_seq, seqK_norm, seqK_exit, seqK_ret, ev_reg, ev_cond, condK_true, condK_false, ev_block, blockK_norm, blockK_ret, blockK_exit, ev_loop, ev_skip, ev_exit, ev_ret, regK_cons, regK_nil, guard_none, guard_some, regG_true, regG_false, regO_some, op_mov, op_conv, op_bin, op_bsl, op_box, op_mks, op_s2b, op_pick, op_un, op_eq, op_len, op_ext, op_load, op_iaddr, op_slice, op_b2s, op_idxS, op_mx, op_mn, op_call, op_store, op_app, op_copy, args_eq, result_one', rv_loc, finish_norm, finish_ret, outK_some, keep_true, keep_false, keep_nil, p_bin, p_pick, p_un, p_eq, p_conv, evNew, pureK_some, newK_some, X.eval, set_none, set_some, List.map_cons, List.map_nil, List.getD_cons_zero, List.getD_cons_succ, List.getD_nil, List.set_cons_zero, List.set_cons_succ, binCV, unCV, isShift, intArithF_eq, shiftF_eq, wrapF_eq, intArith, shift, eqVal, bound, asNat_cast, cond_true, cond_false, BEq.rfl, beq_self_eq_true, evalParts, fillParts, AV.cells, AV.ofCells, XV.av, AV.xv, List.length_cons, List.length_nil, zeros, patch, setMany, List.nil_append, List.cons_append, Nat.ble, Nat.add_eq, Nat.zero_add, Nat.add_zero, Nat.reduceAdd, Nat.reduceMul, Nat.reduceSub, Nat.ble_eq, Nat.reduceLeDiff, Nat.reduceBEq, Int.reduceBEq, Int.reduceNeg, Bool.and_true, Bool.and_false, Bool.true_and, Bool.false_and, Bool.not_true, Bool.not_false, Bool.true_eq_false, Bool.false_eq_true, Int.reduceLT, Int.reduceLE, Int.reduceGT, Int.reduceGE, decide_true, decide_false, Bool.not_eq_true, loopN_norm, loopN_exit, tf, ft, ff, decide_eq_false c1, e1, op_nilchk, p_nilchk, op_faddr, p_faddr, p_iaddr, p_load, s.r, m1, AV.ofCells, evEff, W]
    exact ⟨_, rfl, s.put (by simp), (ExtB.refl _ _).put (.inr (by simp)) _⟩
  | false =>
    rw [q0] at e1
    rw [if_neg (by simp)]
    simp only [enter_eq, ev_seq, seqK_norm, seqK_exit, seqK_ret, ev_reg, ev_cond, condK_true, condK_false, ev_block, blockK_norm, blockK_ret, blockK_exit, ev_loop, ev_skip, ev_exit, ev_ret, regK_cons, regK_nil, guard_none, guard_some, regG_true, regG_false, regO_some, op_mov, op_conv, op_bin, op_bsl, op_box, op_mks, op_s2b, op_pick, op_un, op_eq, op_len, op_ext, op_load, op_iaddr, op_slice, op_b2s, op_idxS, op_mx, op_mn, op_call, op_store, op_app, op_copy, args_eq, result_one', rv_loc, finish_norm, finish_ret, outK_some, keep_true, keep_false, keep_nil, p_bin, p_pick, p_un, p_eq, p_conv, evNew, pureK_some, newK_some, X.eval, set_none, set_some, List.map_cons, List.map_nil, List.getD_cons_zero, List.getD_cons_succ, List.getD_nil, List.set_cons_zero, List.set_cons_succ, binCV, unCV, isShift, intArithF_eq, shiftF_eq, wrapF_eq, intArith, shift, eqVal, bound, asNat_cast, cond_true, cond_false, BEq.rfl, beq_self_eq_true, evalParts, fillParts, AV.cells, AV.ofCells, XV.av, AV.xv, List.length_cons, List.length_nil, zeros, patch, setMany, List.nil_append, List.cons_append, Nat.ble, Nat.add_eq, Nat.zero_add, Nat.add_zero, Nat.reduceAdd, Nat.reduceMul, Nat.reduceSub, Nat.ble_eq, Nat.reduceLeDiff, Nat.reduceBEq, Int.reduceBEq, Int.reduceNeg, Bool.and_true, Bool.and_false, Bool.true_and, Bool.false_and, Bool.not_true, Bool.not_false, Bool.true_eq_false, Bool.false_eq_true, Int.reduceLT, Int.reduceLE, Int.reduceGT, Int.reduceGE, decide_true, decide_false, Bool.not_eq_true, loopN_norm, loopN_exit, tf, ft, ff, decide_eq_false c1, e1]
    exact ⟨_, rfl, s, ExtB.refl _ _⟩

theorem rblock_any (s : SR h p b ts) (t on : Int) : ∃ h', evCallT table 28 N (d + 2) 34 [.c (.ptr p 0), .c (.int .i64 t), .c (.int .i64 on)] h = some (.c (.bool (blockM ts t on).1), h') ∧ SR h' p b (blockM ts t on).2 ∧ ExtB [b] h h' := by
  have e1 := ris_any (N := N) (d := d) s t 1
  rw [evCallT_eq (F := ir34) rfl rfl rfl]
  unfold ir34
  rw [bodyK_eq]
  unfold blockM
  by_cases c1 : on < 0
  · rw [if_neg (fun e => absurd e.1 (by omega))]
    simp only [enter_eq, ev_seq, seqK_norm, seqK_exit, seqK_ret, ev_reg, ev_cond, condK_true, condK_false, ev_block, blockK_norm, blockK_ret, blockK_exit, ev_loop, ev_skip, ev_exit, ev_ret, regK_cons, regK_nil, guard_none, guard_some, regG_true, regG_false, regO_some, op_mov, op_conv, op_bin, op_bsl, op_box, op_mks, op_s2b, op_pick, op_un, op_eq, op_len, op_ext, op_load, op_iaddr, op_slice, op_b2s, op_idxS, op_mx, op_mn, op_call, op_store, op_app, op_copy, args_eq, result_one', rv_loc, finish_norm, finish_ret, outK_some, keep_true, keep_false, keep_nil, p_bin, p_pick, p_un, p_eq, p_conv, evNew, pureK_some, newK_some, X.eval, set_none, set_some, List.map_cons, List.map_nil, List.getD_cons_zero, List.getD_cons_succ, List.getD_nil, List.set_cons_zero, List.set_cons_succ, binCV, unCV, isShift, intArithF_eq, shiftF_eq, wrapF_eq, intArith, shift, eqVal, bound, asNat_cast, cond_true, cond_false, BEq.rfl, beq_self_eq_true, evalParts, fillParts, AV.cells, AV.ofCells, XV.av, AV.xv, List.length_cons, List.length_nil, zeros, patch, setMany, List.nil_append, List.cons_append, Nat.ble, Nat.add_eq, Nat.zero_add, Nat.add_zero, Nat.reduceAdd, Nat.reduceMul, Nat.reduceSub, Nat.ble_eq, Nat.reduceLeDiff, Nat.reduceBEq, Int.reduceBEq, Int.reduceNeg, Bool.and_true, Bool.and_false, Bool.true_and, Bool.false_and, Bool.not_true, Bool.not_false, Bool.true_eq_false, Bool.false_eq_true, Int.reduceLT, Int.reduceLE, Int.reduceGT, Int.reduceGE, decide_true, decide_false, Bool.not_eq_true, loopN_norm, loopN_exit, tf, ft, ff, decide_eq_true c1]
    exact ⟨_, rfl, s, ExtB.refl _ _⟩
  cases q0 : isM ts t 1 with
  | true =>
    rw [q0] at e1
    rw [if_pos ⟨by omega, rfl⟩]
    obtain ⟨j, rfl, hj, _⟩ := isM_there q0
    have m1 : Nat.blt j ts.length = true := bltT hj
    have W := s.w0 hj 2
    have s1 : SR (h.put b (.cells (tksC (ts.set j { ts[j] with st := 2 })))) p b (ts.set j { ts[j] with st := 2 }) := s.put (by simp)
    have W2 := s1.w2 (i := j) (by simpa using hj) on
    rw [List.getElem_set_self, List.set_set] at W2
    rw [Int.toNat_natCast, List.getElem?_eq_getElem hj]
    simp only [enter_eq, ev_seq, seqK_norm, seqK_exit, seqK_ret, ev_reg, ev_cond, condK_true, condK_false, ev_block, blockK_norm, blockK_ret, blockK_exit, ev_loop, ev_skip, ev_exit, ev_ret, regK_cons, regK_nil, guard_none, guard_some, regG_true, regG_false, regO_some, op_mov, op_conv, op_bin, op_bsl, op_box, op_mks, op_s2b, op_pick, op_un, op_eq, op_len, op_ext, op_load, op_iaddr, op_slice, op_b2s, op_idxS, op_mx, op_mn, op_call, op_store, op_app, op_copy, args_eq, result_one', rv_loc, finish_norm, finish_ret, outK_some, keep_true, keep_false, keep_nil, p_bin, p_pick, p_un, p_eq, p_conv, evNew, pureK_some, newK_some, X.eval, set_none, set_some, List.map_cons, List.map_nil, List.getD_cons_zero, List.getD_cons_succ, List.getD_nil, List.set_cons_zero, List.set_cons_succ, binCV, unCV, isShift, intArithF_eq, shiftF_eq, wrapF_eq, intArith, shift, eqVal, bound, asNat_cast, cond_true, cond_false, BEq.rfl, beq_self_eq_true, evalParts, fillParts, AV.cells, AV.ofCells, XV.av, AV.xv, List.length_cons, List.length_nil, zeros, patch, setMany, List.nil_append, List.cons_append, Nat.ble, Nat.add_eq, Nat.zero_add, Nat.add_zero, Nat.reduceAdd, Nat.reduceMul, Nat.reduceSub, Nat.ble_eq, Nat.reduceLeDiff, Nat.reduceBEq, Int.reduceBEq, Int.reduceNeg, Bool.and_true, Bool.and_false, Bool.true_and, Bool.false_and, Bool.not_true, Bool.not_false, Bool.true_eq_false, Bool.false_eq_true, Int.reduceLT, Int.reduceLE, Int.reduceGT, Int.reduceGE, decide_true, decide_false, Bool.not_eq_true, loopN_norm, loopN_exit, tf, ft, ff, ev_dreg, dregK_nil, dregK_cons, dregE_true, dregP_some, dregX_some, d_mov, d_bin, d_eq, d_pick, d_un, d_conv, d_b2s, d_len, d_load, d_iaddr, d_slice, d_ext, d_call, d_store, chk_done, chk_none, chk_some, chkG_true, chkG_false, chkOne_nil, chkOne_cons, chkH_some, chkV_same, stage_none, stage_some, look_hit, look_miss, news_nil, wb_cons, wb_nil, skip0, List.reverse_cons, List.reverse_nil, decide_eq_false c1, e1, d_nilchk, p_nilchk, d_faddr, p_faddr, p_iaddr, p_load, s.r, s1.r, m1, AV.ofCells, evEff, W, W2]
    exact ⟨_, rfl, s1.put (by simp), ((ExtB.refl _ _).put (.inr (by simp)) _).put (.inr (by simp)) _⟩
  | false =>
    rw [q0] at e1
    rw [if_neg (by simp)]
    simp only [enter_eq, ev_seq, seqK_norm, seqK_exit, seqK_ret, ev_reg, ev_cond, condK_true, condK_false, ev_block, blockK_norm, blockK_ret, blockK_exit, ev_loop, ev_skip, ev_exit, ev_ret, regK_cons, regK_nil, guard_none, guard_some, regG_true, regG_false, regO_some, op_mov, op_conv, op_bin, op_bsl, op_box, op_mks, op_s2b, op_pick, op_un, op_eq, op_len, op_ext, op_load, op_iaddr, op_slice, op_b2s, op_idxS, op_mx, op_mn, op_call, op_store, op_app, op_copy, args_eq, result_one', rv_loc, finish_norm, finish_ret, outK_some, keep_true, keep_false, keep_nil, p_bin, p_pick, p_un, p_eq, p_conv, evNew, pureK_some, newK_some, X.eval, set_none, set_some, List.map_cons, List.map_nil, List.getD_cons_zero, List.getD_cons_succ, List.getD_nil, List.set_cons_zero, List.set_cons_succ, binCV, unCV, isShift, intArithF_eq, shiftF_eq, wrapF_eq, intArith, shift, eqVal, bound, asNat_cast, cond_true, cond_false, BEq.rfl, beq_self_eq_true, evalParts, fillParts, AV.cells, AV.ofCells, XV.av, AV.xv, List.length_cons, List.length_nil, zeros, patch, setMany, List.nil_append, List.cons_append, Nat.ble, Nat.add_eq, Nat.zero_add, Nat.add_zero, Nat.reduceAdd, Nat.reduceMul, Nat.reduceSub, Nat.ble_eq, Nat.reduceLeDiff, Nat.reduceBEq, Int.reduceBEq, Int.reduceNeg, Bool.and_true, Bool.and_false, Bool.true_and, Bool.false_and, Bool.not_true, Bool.not_false, Bool.true_eq_false, Bool.false_eq_true, Int.reduceLT, Int.reduceLE, Int.reduceGT, Int.reduceGE, decide_true, decide_false, Bool.not_eq_true, loopN_norm, loopN_exit, tf, ft, ff, decide_eq_false c1, e1]
    exact ⟨_, rfl, s, ExtB.refl _ _⟩

theorem rdone_any (s : SR h p b ts) (t : Int) : ∃ h', evCallT table 28 N (d + 2) 36 [.c (.ptr p 0), .c (.int .i64 t)] h = some (.c (.bool (doneM ts t).1), h') ∧ SR h' p b (doneM ts t).2 ∧ ExtB [b] h h' := by
  have e1 := ris_any (N := N) (d := d) s t 1
  rw [evCallT_eq (F := ir36) rfl rfl rfl]
  unfold ir36
  rw [bodyK_eq]
  unfold doneM
  cases q0 : isM ts t 1 with
  | true =>
    rw [q0] at e1
    rw [if_pos rfl]
    obtain ⟨j, rfl, hj, _⟩ := isM_there q0
    have m1 : Nat.blt j ts.length = true := bltT hj
    have W := s.w0 hj 3
    rw [Int.toNat_natCast, List.getElem?_eq_getElem hj]
    simp only [enter_eq, ev_seq, seqK_norm, seqK_exit, seqK_ret, ev_reg, ev_cond, condK_true, condK_false, ev_block, blockK_norm, blockK_ret, blockK_exit, ev_loop, ev_skip, ev_exit, ev_ret, regK_cons, regK_nil, guard_none, guard_some, regG_true, regG_false, regO_some, op_mov, op_conv, op_bin, op_bsl, op_box, op_mks, op_s2b, op_pick, op_un, op_eq, op_len, op_ext, op_load, op_iaddr, op_slice, op_b2s, op_idxS, op_mx, op_mn, op_call, op_store, op_app, op_copy, args_eq, result_one', rv_loc, finish_norm, finish_ret, outK_some, keep_true, keep_false, keep_nil, p_bin, p_pick, p_un, p_eq, p_conv, evNew, pureK_some, newK_some, X.eval, set_none, set_some, List.map_cons, List.map_nil, List.getD_cons_zero, List.getD_cons_succ, List.getD_nil, List.set_cons_zero, List.set_cons_succ, binCV, unCV, isShift, intArithF_eq, shiftF_eq, wrapF_eq, intArith, shift, eqVal, bound, asNat_cast, cond_true, cond_false, BEq.rfl, beq_self_eq_true, evalParts, fillParts, AV.cells, AV.ofCells, XV.av, AV.xv, List.length_cons, List.length_nil, zeros, patch, setMany, List.nil_append, List.cons_append, Nat.ble, Nat.add_eq, Nat.zero_add, Nat.add_zero, Nat.reduceAdd, Nat.reduceMul, Nat.reduceSub, Nat.ble_eq, Nat.reduceLeDiff, Nat.reduceBEq, Int.reduceBEq, Int.reduceNeg, Bool.and_true, Bool.and_false, Bool.true_and, Bool.false_and, Bool.not_true, Bool.not_false, Bool.true_eq_false, Bool.false_eq_true, Int.reduceLT, Int.reduceLE, Int.reduceGT, Int.reduceGE, decide_true, decide_false, Bool.not_eq_true, loopN_norm, loopN_exit, tf, ft, ff, e1, op_nilchk, p_nilchk, op_faddr, p_faddr, p_iaddr, p_load, s.r, m1, AV.ofCells, evEff, W]
    exact ⟨_, rfl, s.put (by simp), (ExtB.refl _ _).put (.inr (by simp)) _⟩
  | false =>
    rw [q0] at e1
    rw [if_neg (by simp)]
    simp only [enter_eq, ev_seq, seqK_norm, seqK_exit, seqK_ret, ev_reg, ev_cond, condK_true, condK_false, ev_block, blockK_norm, blockK_ret, blockK_exit, ev_loop, ev_skip, ev_exit, ev_ret, regK_cons, regK_nil, guard_none, guard_some, regG_true, regG_false, regO_some, op_mov, op_conv, op_bin, op_bsl, op_box, op_mks, op_s2b, op_pick, op_un, op_eq, op_len, op_ext, op_load, op_iaddr, op_slice, op_b2s, op_idxS, op_mx, op_mn, op_call, op_store, op_app, op_copy, args_eq, result_one', rv_loc, finish_norm, finish_ret, outK_some, keep_true, keep_false, keep_nil, p_bin, p_pick, p_un, p_eq, p_conv, evNew, pureK_some, newK_some, X.eval, set_none, set_some, List.map_cons, List.map_nil, List.getD_cons_zero, List.getD_cons_succ, List.getD_nil, List.set_cons_zero, List.set_cons_succ, binCV, unCV, isShift, intArithF_eq, shiftF_eq, wrapF_eq, intArith, shift, eqVal, bound, asNat_cast, cond_true, cond_false, BEq.rfl, beq_self_eq_true, evalParts, fillParts, AV.cells, AV.ofCells, XV.av, AV.xv, List.length_cons, List.length_nil, zeros, patch, setMany, List.nil_append, List.cons_append, Nat.ble, Nat.add_eq, Nat.zero_add, Nat.add_zero, Nat.reduceAdd, Nat.reduceMul, Nat.reduceSub, Nat.ble_eq, Nat.reduceLeDiff, Nat.reduceBEq, Int.reduceBEq, Int.reduceNeg, Bool.and_true, Bool.and_false, Bool.true_and, Bool.false_and, Bool.not_true, Bool.not_false, Bool.true_eq_false, Bool.false_eq_true, Int.reduceLT, Int.reduceLE, Int.reduceGT, Int.reduceGE, decide_true, decide_false, Bool.not_eq_true, loopN_norm, loopN_exit, tf, ft, ff, e1]
    exact ⟨_, rfl, s, ExtB.refl _ _⟩

theorem rready_ok (s : SR h p b ts) (hN : ts.length + 2 ≤ N) (hn : ts.length ≤ 64) :
    ∃ y h', evCallT table 28 N (d + 1) 42 [.c (.ptr p 0)] h = some (.c y, h') ∧ Made h h' y (natL (readyM ts)) ∧ Ext h h' := by
  have ll : ∀ loc vals h', evPure loc (.c (.sl b 0 ts.length (.dy 3)) :: vals) h' (.len .sl (.val 0)) = some (.c (.int .i64 (ts.length : Int))) := fun _ _ _ => rfl
  rw [evCallT_eq (F := ir42) rfl rfl rfl]
  unfold ir42
  rw [bodyK_eq]
  have L : ∀ loc, keepOnly ir42_k0 loc = [.c (.ptr p 0), .junk, .c .nils, .c (.int .i64 0), .junk, .junk] →
      ∃ r, loopK (evCallT table 28 N d) N ir42_k0 ir42_l0 N loc h = some r ∧ ∃ a0 a1 y l h', r = (.exit 0, a0 :: a1 :: .c y :: l, h') ∧ Made h h' y (natL (readyM ts)) ∧ Ext h h' := by
    intro loc hloc
    refine loop_inv (n := ts.length) (fun i loc h' => Ext h h' ∧ ∃ y, Mine 1 h h' y (readyM (ts.take i)).length ((natL (readyM (ts.take i))).map icell) ∧ loc = [.c (.ptr p 0), .junk, .c y, .c (.int .i64 (i : Int)), .junk, .junk]) _ ?_ ⟨Ext.refl _, .nils, Mine.nil, hloc⟩ (by omega)
    rintro i loc h' hi ⟨he, y, hy, rfl⟩
    unfold ir42_l0
    have s' := s.ext (he.b []) (by simp) (by simp)
    by_cases hlt : i < ts.length
    · left
      refine ⟨hlt, ?_⟩
      have v1 : decide ((i : Int) < (ts.length : Int)) = true := ltNat hlt
      have v2 := succI (i := i) (by omega)
      have m1 : Nat.blt i ts.length = true := bltT hlt
      have happ := ready_app (ts.take i) 0 ts[i]
      rw [← List.take_succ_eq_append_getElem hlt] at happ
      have hl0 : 0 + (ts.take i).length = i := by simp; omega
      rw [hl0] at happ
      have hrl := ready_len (ts.take i) 0
      rw [List.length_take] at hrl
      by_cases q : ts[i].st = 1
      · have q1 : (ts[i].st == 1) = true := by simp [q]
        rw [if_pos q] at happ
        obtain ⟨ha, a1, a2, a3, a4, a5⟩ := app_int (v := icell (i : Int)) (c := .ex 1) (hy.new (.cells [icell (i : Int)])) (he.new _) (get_new_at (h := h')) (by unfold readyM; omega)
        simp only [icell] at a1
        simp only [enter_eq, ev_seq, seqK_norm, seqK_exit, seqK_ret, ev_reg, ev_cond, condK_true, condK_false, ev_block, blockK_norm, blockK_ret, blockK_exit, ev_loop, ev_skip, ev_exit, ev_ret, regK_cons, regK_nil, guard_none, guard_some, regG_true, regG_false, regO_some, op_mov, op_conv, op_bin, op_bsl, op_box, op_mks, op_s2b, op_pick, op_un, op_eq, op_len, op_ext, op_load, op_iaddr, op_slice, op_b2s, op_idxS, op_mx, op_mn, op_call, op_store, op_app, op_copy, args_eq, result_one', rv_loc, finish_norm, finish_ret, outK_some, keep_true, keep_false, keep_nil, p_bin, p_pick, p_un, p_eq, p_conv, evNew, pureK_some, newK_some, X.eval, set_none, set_some, List.map_cons, List.map_nil, List.getD_cons_zero, List.getD_cons_succ, List.getD_nil, List.set_cons_zero, List.set_cons_succ, binCV, unCV, isShift, intArithF_eq, shiftF_eq, wrapF_eq, intArith, shift, eqVal, bound, asNat_cast, cond_true, cond_false, BEq.rfl, beq_self_eq_true, evalParts, fillParts, AV.cells, AV.ofCells, XV.av, AV.xv, List.length_cons, List.length_nil, zeros, patch, setMany, List.nil_append, List.cons_append, Nat.ble, Nat.add_eq, Nat.zero_add, Nat.add_zero, Nat.reduceAdd, Nat.reduceMul, Nat.reduceSub, Nat.ble_eq, Nat.reduceLeDiff, Nat.reduceBEq, Int.reduceBEq, Int.reduceNeg, Bool.and_true, Bool.and_false, Bool.true_and, Bool.false_and, Bool.not_true, Bool.not_false, Bool.true_eq_false, Bool.false_eq_true, Int.reduceLT, Int.reduceLE, Int.reduceGT, Int.reduceGE, decide_true, decide_false, Bool.not_eq_true, loopN_norm, loopN_exit, tf, ft, ff, ll, v1, v2, op_nilchk, p_nilchk, op_faddr, p_faddr, p_iaddr, p_load, s'.r, s'.rs hlt, m1, AV.ofCells, q1, a1]
        refine ⟨_, _, rfl, a3, _, ?_, rfl⟩
        unfold readyM at a2 ⊢
        rw [happ]
        simp only [natL, List.map_append, List.length_append, List.length_cons, List.length_nil]
        exact a2
      · have q1 : (ts[i].st == 1) = false := by simp [q]
        rw [if_neg q, List.append_nil] at happ
        simp only [enter_eq, ev_seq, seqK_norm, seqK_exit, seqK_ret, ev_reg, ev_cond, condK_true, condK_false, ev_block, blockK_norm, blockK_ret, blockK_exit, ev_loop, ev_skip, ev_exit, ev_ret, regK_cons, regK_nil, guard_none, guard_some, regG_true, regG_false, regO_some, op_mov, op_conv, op_bin, op_bsl, op_box, op_mks, op_s2b, op_pick, op_un, op_eq, op_len, op_ext, op_load, op_iaddr, op_slice, op_b2s, op_idxS, op_mx, op_mn, op_call, op_store, op_app, op_copy, args_eq, result_one', rv_loc, finish_norm, finish_ret, outK_some, keep_true, keep_false, keep_nil, p_bin, p_pick, p_un, p_eq, p_conv, evNew, pureK_some, newK_some, X.eval, set_none, set_some, List.map_cons, List.map_nil, List.getD_cons_zero, List.getD_cons_succ, List.getD_nil, List.set_cons_zero, List.set_cons_succ, binCV, unCV, isShift, intArithF_eq, shiftF_eq, wrapF_eq, intArith, shift, eqVal, bound, asNat_cast, cond_true, cond_false, BEq.rfl, beq_self_eq_true, evalParts, fillParts, AV.cells, AV.ofCells, XV.av, AV.xv, List.length_cons, List.length_nil, zeros, patch, setMany, List.nil_append, List.cons_append, Nat.ble, Nat.add_eq, Nat.zero_add, Nat.add_zero, Nat.reduceAdd, Nat.reduceMul, Nat.reduceSub, Nat.ble_eq, Nat.reduceLeDiff, Nat.reduceBEq, Int.reduceBEq, Int.reduceNeg, Bool.and_true, Bool.and_false, Bool.true_and, Bool.false_and, Bool.not_true, Bool.not_false, Bool.true_eq_false, Bool.false_eq_true, Int.reduceLT, Int.reduceLE, Int.reduceGT, Int.reduceGE, decide_true, decide_false, Bool.not_eq_true, loopN_norm, loopN_exit, tf, ft, ff, ll, v1, v2, op_nilchk, p_nilchk, op_faddr, p_faddr, p_iaddr, p_load, s'.r, s'.rs hlt, m1, AV.ofCells, q1]
        refine ⟨_, _, rfl, he, y, ?_, rfl⟩
        unfold readyM at hy ⊢
        rw [happ]; exact hy
    · right
      have hin : i = ts.length := by omega
      subst hin
      have v1 : decide ((ts.length : Int) < (ts.length : Int)) = false := geNat (Nat.le_refl _)
      rw [List.take_length] at hy
      simp only [enter_eq, ev_seq, seqK_norm, seqK_exit, seqK_ret, ev_reg, ev_cond, condK_true, condK_false, ev_block, blockK_norm, blockK_ret, blockK_exit, ev_loop, ev_skip, ev_exit, ev_ret, regK_cons, regK_nil, guard_none, guard_some, regG_true, regG_false, regO_some, op_mov, op_conv, op_bin, op_bsl, op_box, op_mks, op_s2b, op_pick, op_un, op_eq, op_len, op_ext, op_load, op_iaddr, op_slice, op_b2s, op_idxS, op_mx, op_mn, op_call, op_store, op_app, op_copy, args_eq, result_one', rv_loc, finish_norm, finish_ret, outK_some, keep_true, keep_false, keep_nil, p_bin, p_pick, p_un, p_eq, p_conv, evNew, pureK_some, newK_some, X.eval, set_none, set_some, List.map_cons, List.map_nil, List.getD_cons_zero, List.getD_cons_succ, List.getD_nil, List.set_cons_zero, List.set_cons_succ, binCV, unCV, isShift, intArithF_eq, shiftF_eq, wrapF_eq, intArith, shift, eqVal, bound, asNat_cast, cond_true, cond_false, BEq.rfl, beq_self_eq_true, evalParts, fillParts, AV.cells, AV.ofCells, XV.av, AV.xv, List.length_cons, List.length_nil, zeros, patch, setMany, List.nil_append, List.cons_append, Nat.ble, Nat.add_eq, Nat.zero_add, Nat.add_zero, Nat.reduceAdd, Nat.reduceMul, Nat.reduceSub, Nat.ble_eq, Nat.reduceLeDiff, Nat.reduceBEq, Int.reduceBEq, Int.reduceNeg, Bool.and_true, Bool.and_false, Bool.true_and, Bool.false_and, Bool.not_true, Bool.not_false, Bool.true_eq_false, Bool.false_eq_true, Int.reduceLT, Int.reduceLE, Int.reduceGT, Int.reduceGE, decide_true, decide_false, Bool.not_eq_true, loopN_norm, loopN_exit, tf, ft, ff, ll, v1, op_nilchk, p_nilchk, op_faddr, p_faddr, p_load, s'.r, AV.ofCells]
      refine ⟨_, rfl, by simp, _, _, y, _, h', rfl, ?_, he⟩
      exact Mine.made (vs := natL (readyM ts)) (by have : (readyM ts).length = (natL (readyM ts)).length := by simp [natL]
                                                   rw [this] at hy; exact hy)
  obtain ⟨r, hr, a0, a1, y, l, h', rfl, my, he⟩ := L [.c (.ptr p 0), .c .nils, .c .nils, .c (.int .i64 0), .tup [], .tup []] rfl
  simp only [enter_eq, ev_seq, seqK_norm, seqK_exit, seqK_ret, ev_reg, ev_cond, condK_true, condK_false, ev_block, blockK_norm, blockK_ret, blockK_exit, ev_loop, ev_skip, ev_exit, ev_ret, regK_cons, regK_nil, guard_none, guard_some, regG_true, regG_false, regO_some, op_mov, op_conv, op_bin, op_bsl, op_box, op_mks, op_s2b, op_pick, op_un, op_eq, op_len, op_ext, op_load, op_iaddr, op_slice, op_b2s, op_idxS, op_mx, op_mn, op_call, op_store, op_app, op_copy, args_eq, result_one', rv_loc, finish_norm, finish_ret, outK_some, keep_true, keep_false, keep_nil, p_bin, p_pick, p_un, p_eq, p_conv, evNew, pureK_some, newK_some, X.eval, set_none, set_some, List.map_cons, List.map_nil, List.getD_cons_zero, List.getD_cons_succ, List.getD_nil, List.set_cons_zero, List.set_cons_succ, binCV, unCV, isShift, intArithF_eq, shiftF_eq, wrapF_eq, intArith, shift, eqVal, bound, asNat_cast, cond_true, cond_false, BEq.rfl, beq_self_eq_true, evalParts, fillParts, AV.cells, AV.ofCells, XV.av, AV.xv, List.length_cons, List.length_nil, zeros, patch, setMany, List.nil_append, List.cons_append, Nat.ble, Nat.add_eq, Nat.zero_add, Nat.add_zero, Nat.reduceAdd, Nat.reduceMul, Nat.reduceSub, Nat.ble_eq, Nat.reduceLeDiff, Nat.reduceBEq, Int.reduceBEq, Int.reduceNeg, Bool.and_true, Bool.and_false, Bool.true_and, Bool.false_and, Bool.not_true, Bool.not_false, Bool.true_eq_false, Bool.false_eq_true, Int.reduceLT, Int.reduceLE, Int.reduceGT, Int.reduceGE, decide_true, decide_false, Bool.not_eq_true, loopN_norm, loopN_exit, tf, ft, ff, hr, blockK_exit_eq]
  exact ⟨_, _, rfl, my, he⟩

theorem rmod_ok (n : Int) {L : Nat} (h1 : 1 ≤ L) (h2 : L ≤ 1000) : evCallT table 28 N (d + 1) 54 [.c (.int .i64 n), .c (.int .i64 (L : Int))] h = some (.c (.int .i64 (n % (L : Int))), h) := by
  have b1 : Int.tmod n (L : Int) < (L : Int) := Int.tmod_lt_of_pos _ (by omega)
  have b2 : -(L : Int) < Int.tmod n (L : Int) := Int.lt_tmod_of_pos _ (by omega)
  have w1 : IntKind.i64.wrap (Int.tmod n (L : Int) + (L : Int)) = Int.tmod n (L : Int) + (L : Int) := wrapI (by omega) (by omega)
  have w2 : Int.tmod (Int.tmod n (L : Int) + (L : Int)) (L : Int) = n % (L : Int) := by
    rw [Int.tmod_eq_emod_of_nonneg (by omega), Int.add_emod_right]; exact (emod_tmod _ _).symm
  have w3 : ((L : Int) == 0) = false := by simp; omega
  rw [evCallT_eq (F := ir54) rfl rfl rfl]
  unfold ir54
  rw [bodyK_eq]
  simp only [enter_eq, ev_seq, seqK_norm, seqK_exit, seqK_ret, ev_reg, ev_cond, condK_true, condK_false, ev_block, blockK_norm, blockK_ret, blockK_exit, ev_loop, ev_skip, ev_exit, ev_ret, regK_cons, regK_nil, guard_none, guard_some, regG_true, regG_false, regO_some, op_mov, op_conv, op_bin, op_bsl, op_box, op_mks, op_s2b, op_pick, op_un, op_eq, op_len, op_ext, op_load, op_iaddr, op_slice, op_b2s, op_idxS, op_mx, op_mn, op_call, op_store, op_app, op_copy, args_eq, result_one', rv_loc, finish_norm, finish_ret, outK_some, keep_true, keep_false, keep_nil, p_bin, p_pick, p_un, p_eq, p_conv, evNew, pureK_some, newK_some, X.eval, set_none, set_some, List.map_cons, List.map_nil, List.getD_cons_zero, List.getD_cons_succ, List.getD_nil, List.set_cons_zero, List.set_cons_succ, binCV, unCV, isShift, intArithF_eq, shiftF_eq, wrapF_eq, intArith, shift, eqVal, bound, asNat_cast, cond_true, cond_false, BEq.rfl, beq_self_eq_true, evalParts, fillParts, AV.cells, AV.ofCells, XV.av, AV.xv, List.length_cons, List.length_nil, zeros, patch, setMany, List.nil_append, List.cons_append, Nat.ble, Nat.add_eq, Nat.zero_add, Nat.add_zero, Nat.reduceAdd, Nat.reduceMul, Nat.reduceSub, Nat.ble_eq, Nat.reduceLeDiff, Nat.reduceBEq, Int.reduceBEq, Int.reduceNeg, Bool.and_true, Bool.and_false, Bool.true_and, Bool.false_and, Bool.not_true, Bool.not_false, Bool.true_eq_false, Bool.false_eq_true, Int.reduceLT, Int.reduceLE, Int.reduceGT, Int.reduceGE, decide_true, decide_false, Bool.not_eq_true, loopN_norm, loopN_exit, tf, ft, ff, w1, w2, w3]

theorem rpick_none (s : SR h p b ts) (n : Int) (hr : readyM ts = []) (hN : ts.length + 2 ≤ N) (hn : ts.length ≤ 64) :
    ∃ h', evCallT table 28 N (d + 2) 40 [.c (.ptr p 0), .c (.int .i64 n)] h = some (.c (.int .i64 (-1)), h') ∧ Ext h h' := by
  obtain ⟨y, h', e1, my, he⟩ := rready_ok (N := N) (d := d) s hN hn
  rw [hr] at my
  have ly : ∀ (loc vals : List AV) (h : Heap), evPure loc (.c y :: vals) h (.len .sl (.val 0)) = some (.c (.int .i64 0)) := fun _ _ _ => my.len rfl
  rw [evCallT_eq (F := ir40) rfl rfl rfl]
  unfold ir40
  rw [bodyK_eq]
  simp only [enter_eq, ev_seq, seqK_norm, seqK_exit, seqK_ret, ev_reg, ev_cond, condK_true, condK_false, ev_block, blockK_norm, blockK_ret, blockK_exit, ev_loop, ev_skip, ev_exit, ev_ret, regK_cons, regK_nil, guard_none, guard_some, regG_true, regG_false, regO_some, op_mov, op_conv, op_bin, op_bsl, op_box, op_mks, op_s2b, op_pick, op_un, op_eq, op_len, op_ext, op_load, op_iaddr, op_slice, op_b2s, op_idxS, op_mx, op_mn, op_call, op_store, op_app, op_copy, args_eq, result_one', rv_loc, finish_norm, finish_ret, outK_some, keep_true, keep_false, keep_nil, p_bin, p_pick, p_un, p_eq, p_conv, evNew, pureK_some, newK_some, X.eval, set_none, set_some, List.map_cons, List.map_nil, List.getD_cons_zero, List.getD_cons_succ, List.getD_nil, List.set_cons_zero, List.set_cons_succ, binCV, unCV, isShift, intArithF_eq, shiftF_eq, wrapF_eq, intArith, shift, eqVal, bound, asNat_cast, cond_true, cond_false, BEq.rfl, beq_self_eq_true, evalParts, fillParts, AV.cells, AV.ofCells, XV.av, AV.xv, List.length_cons, List.length_nil, zeros, patch, setMany, List.nil_append, List.cons_append, Nat.ble, Nat.add_eq, Nat.zero_add, Nat.add_zero, Nat.reduceAdd, Nat.reduceMul, Nat.reduceSub, Nat.ble_eq, Nat.reduceLeDiff, Nat.reduceBEq, Int.reduceBEq, Int.reduceNeg, Bool.and_true, Bool.and_false, Bool.true_and, Bool.false_and, Bool.not_true, Bool.not_false, Bool.true_eq_false, Bool.false_eq_true, Int.reduceLT, Int.reduceLE, Int.reduceGT, Int.reduceGE, decide_true, decide_false, Bool.not_eq_true, loopN_norm, loopN_exit, tf, ft, ff, e1, ly]
  exact ⟨_, rfl, he⟩
theorem rpick_some (s : SR h p b ts) (n : Int) {k : Nat} (hk : k < (readyM ts).length) (hkn : (k : Int) = n % ((readyM ts).length : Int)) (hN : ts.length + 2 ≤ N) (hn : ts.length ≤ 64) :
    ∃ h', evCallT table 28 N (d + 2) 40 [.c (.ptr p 0), .c (.int .i64 n)] h = some (.c (.int .i64 ((readyM ts)[k] : Int)), h') ∧ Ext h h' := by
  obtain ⟨y, h', e1, my, he⟩ := rready_ok (N := N) (d := d) s hN hn
  have hrl : (readyM ts).length ≤ ts.length := ready_len ts 0
  generalize hR : readyM ts = R at *
  have hnl : (natL R).length = R.length := by simp [natL]
  have ly : ∀ (loc vals : List AV) (h : Heap), evPure loc (.c y :: vals) h (.len .sl (.val 0)) = some (.c (.int .i64 (R.length : Int))) := fun _ _ _ => by rw [← hnl]; exact my.len rfl
  have c1 : ((R.length : Int) == 0) = false := by simp only [beq_eq_false_iff_ne, ne_eq]; omega
  have e2 := rmod_ok (N := N) (d := d) (h := h') n (L := R.length) (by omega) (by omega)
  rw [← hkn] at e2
  obtain ⟨i, o, c, rfl, _, rx⟩ := my.ints.sl (by omega)
  have k1 := rx k (by omega)
  have k1' : h'.read i (o + k) 1 = some [.int .i64 (R[k] : Int)] := by rw [k1]; simp [natL]
  have m1 : Nat.blt k (natL R).length = true := bltT (by omega)
  rw [evCallT_eq (F := ir40) rfl rfl rfl]
  unfold ir40
  rw [bodyK_eq]
  simp only [enter_eq, ev_seq, seqK_norm, seqK_exit, seqK_ret, ev_reg, ev_cond, condK_true, condK_false, ev_block, blockK_norm, blockK_ret, blockK_exit, ev_loop, ev_skip, ev_exit, ev_ret, regK_cons, regK_nil, guard_none, guard_some, regG_true, regG_false, regO_some, op_mov, op_conv, op_bin, op_bsl, op_box, op_mks, op_s2b, op_pick, op_un, op_eq, op_len, op_ext, op_load, op_iaddr, op_slice, op_b2s, op_idxS, op_mx, op_mn, op_call, op_store, op_app, op_copy, args_eq, result_one', rv_loc, finish_norm, finish_ret, outK_some, keep_true, keep_false, keep_nil, p_bin, p_pick, p_un, p_eq, p_conv, evNew, pureK_some, newK_some, X.eval, set_none, set_some, List.map_cons, List.map_nil, List.getD_cons_zero, List.getD_cons_succ, List.getD_nil, List.set_cons_zero, List.set_cons_succ, binCV, unCV, isShift, intArithF_eq, shiftF_eq, wrapF_eq, intArith, shift, eqVal, bound, asNat_cast, cond_true, cond_false, BEq.rfl, beq_self_eq_true, evalParts, fillParts, AV.cells, AV.ofCells, XV.av, AV.xv, List.length_cons, List.length_nil, zeros, patch, setMany, List.nil_append, List.cons_append, Nat.ble, Nat.add_eq, Nat.zero_add, Nat.add_zero, Nat.reduceAdd, Nat.reduceMul, Nat.reduceSub, Nat.ble_eq, Nat.reduceLeDiff, Nat.reduceBEq, Int.reduceBEq, Int.reduceNeg, Bool.and_true, Bool.and_false, Bool.true_and, Bool.false_and, Bool.not_true, Bool.not_false, Bool.true_eq_false, Bool.false_eq_true, Int.reduceLT, Int.reduceLE, Int.reduceGT, Int.reduceGE, decide_true, decide_false, Bool.not_eq_true, loopN_norm, loopN_exit, tf, ft, ff, e1, ly, c1, e2, p_iaddr, p_load, m1, Nat.mul_one, k1', AV.ofCells]
  exact ⟨_, rfl, he⟩

theorem rstuck_any (s : SR h p b ts) (hN : ts.length + 5 ≤ N) (hn : ts.length ≤ 64) :
    ∃ h', evCallT table 28 N (d + 2) 44 [.c (.ptr p 0)] h = some (.c (.bool (stuckM ts)), h') ∧ Ext h h' := by
  have ll : ∀ loc vals h', evPure loc (.c (.sl b 0 ts.length (.dy 3)) :: vals) h' (.len .sl (.val 0)) = some (.c (.int .i64 (ts.length : Int))) := fun _ _ _ => rfl
  rw [evCallT_eq (F := ir44) rfl rfl rfl]
  unfold ir44
  rw [bodyK_eq]
  have L : ∀ loc, keepOnly ir44_k0 loc = [.c (.ptr p 0), .junk, .c (.bool false), .c (.int .i64 0), .junk] →
      ∃ r, loopK (evCallT table 28 N (d + 1)) N ir44_k0 ir44_l0 N loc h = some r ∧ ∃ a0 l, r = (.exit 0, .c (.ptr p 0) :: a0 :: .c (.bool (waitM ts)) :: l, h) := by
    intro loc hloc
    refine loop_inv (n := ts.length) (fun i loc h' => h' = h ∧ loc = [.c (.ptr p 0), .junk, .c (.bool (waitM (ts.take i))), .c (.int .i64 (i : Int)), .junk]) _ ?_ ⟨rfl, by simpa [waitM] using hloc⟩ (by omega)
    rintro i loc h' hi ⟨rfl, rfl⟩
    unfold ir44_l0
    by_cases hlt : i < ts.length
    · left
      refine ⟨hlt, ?_⟩
      have v1 : decide ((i : Int) < (ts.length : Int)) = true := ltNat hlt
      have v2 := succI (i := i) (by omega)
      have m1 : Nat.blt i ts.length = true := bltT hlt
      have hw : waitM (ts.take (i + 1)) = (waitM (ts.take i) || (ts[i].st == 2)) := by
        unfold waitM
        rw [List.take_succ_eq_append_getElem hlt, List.any_append]; simp
      cases q : waitM (ts.take i) with
      | true =>
        rw [q] at hw
        simp only [enter_eq, ev_seq, seqK_norm, seqK_exit, seqK_ret, ev_reg, ev_cond, condK_true, condK_false, ev_block, blockK_norm, blockK_ret, blockK_exit, ev_loop, ev_skip, ev_exit, ev_ret, regK_cons, regK_nil, guard_none, guard_some, regG_true, regG_false, regO_some, op_mov, op_conv, op_bin, op_bsl, op_box, op_mks, op_s2b, op_pick, op_un, op_eq, op_len, op_ext, op_load, op_iaddr, op_slice, op_b2s, op_idxS, op_mx, op_mn, op_call, op_store, op_app, op_copy, args_eq, result_one', rv_loc, finish_norm, finish_ret, outK_some, keep_true, keep_false, keep_nil, p_bin, p_pick, p_un, p_eq, p_conv, evNew, pureK_some, newK_some, X.eval, set_none, set_some, List.map_cons, List.map_nil, List.getD_cons_zero, List.getD_cons_succ, List.getD_nil, List.set_cons_zero, List.set_cons_succ, binCV, unCV, isShift, intArithF_eq, shiftF_eq, wrapF_eq, intArith, shift, eqVal, bound, asNat_cast, cond_true, cond_false, BEq.rfl, beq_self_eq_true, evalParts, fillParts, AV.cells, AV.ofCells, XV.av, AV.xv, List.length_cons, List.length_nil, zeros, patch, setMany, List.nil_append, List.cons_append, Nat.ble, Nat.add_eq, Nat.zero_add, Nat.add_zero, Nat.reduceAdd, Nat.reduceMul, Nat.reduceSub, Nat.ble_eq, Nat.reduceLeDiff, Nat.reduceBEq, Int.reduceBEq, Int.reduceNeg, Bool.and_true, Bool.and_false, Bool.true_and, Bool.false_and, Bool.not_true, Bool.not_false, Bool.true_eq_false, Bool.false_eq_true, Int.reduceLT, Int.reduceLE, Int.reduceGT, Int.reduceGE, decide_true, decide_false, Bool.not_eq_true, loopN_norm, loopN_exit, tf, ft, ff, ll, v1, v2, op_nilchk, p_nilchk, op_faddr, p_faddr, p_load, s.r, AV.ofCells]
        refine ⟨_, _, rfl, rfl, ?_⟩
        rw [hw]; rfl
      | false =>
        rw [q] at hw
        simp only [enter_eq, ev_seq, seqK_norm, seqK_exit, seqK_ret, ev_reg, ev_cond, condK_true, condK_false, ev_block, blockK_norm, blockK_ret, blockK_exit, ev_loop, ev_skip, ev_exit, ev_ret, regK_cons, regK_nil, guard_none, guard_some, regG_true, regG_false, regO_some, op_mov, op_conv, op_bin, op_bsl, op_box, op_mks, op_s2b, op_pick, op_un, op_eq, op_len, op_ext, op_load, op_iaddr, op_slice, op_b2s, op_idxS, op_mx, op_mn, op_call, op_store, op_app, op_copy, args_eq, result_one', rv_loc, finish_norm, finish_ret, outK_some, keep_true, keep_false, keep_nil, p_bin, p_pick, p_un, p_eq, p_conv, evNew, pureK_some, newK_some, X.eval, set_none, set_some, List.map_cons, List.map_nil, List.getD_cons_zero, List.getD_cons_succ, List.getD_nil, List.set_cons_zero, List.set_cons_succ, binCV, unCV, isShift, intArithF_eq, shiftF_eq, wrapF_eq, intArith, shift, eqVal, bound, asNat_cast, cond_true, cond_false, BEq.rfl, beq_self_eq_true, evalParts, fillParts, AV.cells, AV.ofCells, XV.av, AV.xv, List.length_cons, List.length_nil, zeros, patch, setMany, List.nil_append, List.cons_append, Nat.ble, Nat.add_eq, Nat.zero_add, Nat.add_zero, Nat.reduceAdd, Nat.reduceMul, Nat.reduceSub, Nat.ble_eq, Nat.reduceLeDiff, Nat.reduceBEq, Int.reduceBEq, Int.reduceNeg, Bool.and_true, Bool.and_false, Bool.true_and, Bool.false_and, Bool.not_true, Bool.not_false, Bool.true_eq_false, Bool.false_eq_true, Int.reduceLT, Int.reduceLE, Int.reduceGT, Int.reduceGE, decide_true, decide_false, Bool.not_eq_true, loopN_norm, loopN_exit, tf, ft, ff, ll, v1, v2, op_nilchk, p_nilchk, op_faddr, p_faddr, p_iaddr, p_load, s.r, s.rs hlt, m1, AV.ofCells]
        refine ⟨_, _, rfl, rfl, ?_⟩
        rw [hw]; rfl
    · right
      have hin : i = ts.length := by omega
      subst hin
      have v1 : decide ((ts.length : Int) < (ts.length : Int)) = false := geNat (Nat.le_refl _)
      rw [List.take_length]
      simp only [enter_eq, ev_seq, seqK_norm, seqK_exit, seqK_ret, ev_reg, ev_cond, condK_true, condK_false, ev_block, blockK_norm, blockK_ret, blockK_exit, ev_loop, ev_skip, ev_exit, ev_ret, regK_cons, regK_nil, guard_none, guard_some, regG_true, regG_false, regO_some, op_mov, op_conv, op_bin, op_bsl, op_box, op_mks, op_s2b, op_pick, op_un, op_eq, op_len, op_ext, op_load, op_iaddr, op_slice, op_b2s, op_idxS, op_mx, op_mn, op_call, op_store, op_app, op_copy, args_eq, result_one', rv_loc, finish_norm, finish_ret, outK_some, keep_true, keep_false, keep_nil, p_bin, p_pick, p_un, p_eq, p_conv, evNew, pureK_some, newK_some, X.eval, set_none, set_some, List.map_cons, List.map_nil, List.getD_cons_zero, List.getD_cons_succ, List.getD_nil, List.set_cons_zero, List.set_cons_succ, binCV, unCV, isShift, intArithF_eq, shiftF_eq, wrapF_eq, intArith, shift, eqVal, bound, asNat_cast, cond_true, cond_false, BEq.rfl, beq_self_eq_true, evalParts, fillParts, AV.cells, AV.ofCells, XV.av, AV.xv, List.length_cons, List.length_nil, zeros, patch, setMany, List.nil_append, List.cons_append, Nat.ble, Nat.add_eq, Nat.zero_add, Nat.add_zero, Nat.reduceAdd, Nat.reduceMul, Nat.reduceSub, Nat.ble_eq, Nat.reduceLeDiff, Nat.reduceBEq, Int.reduceBEq, Int.reduceNeg, Bool.and_true, Bool.and_false, Bool.true_and, Bool.false_and, Bool.not_true, Bool.not_false, Bool.true_eq_false, Bool.false_eq_true, Int.reduceLT, Int.reduceLE, Int.reduceGT, Int.reduceGE, decide_true, decide_false, Bool.not_eq_true, loopN_norm, loopN_exit, tf, ft, ff, ll, v1, op_nilchk, p_nilchk, op_faddr, p_faddr, p_load, s.r, AV.ofCells]
      exact ⟨_, rfl, by simp, _, _, rfl⟩
  obtain ⟨r, hr, a0, l, rfl⟩ := L [.c (.ptr p 0), .c (.bool false), .c (.bool false), .c (.int .i64 0), .tup []] rfl
  unfold stuckM
  cases hw : waitM ts with
  | false =>
    rw [hw] at hr
    simp only [enter_eq, ev_seq, seqK_norm, seqK_exit, seqK_ret, ev_reg, ev_cond, condK_true, condK_false, ev_block, blockK_norm, blockK_ret, blockK_exit, ev_loop, ev_skip, ev_exit, ev_ret, regK_cons, regK_nil, guard_none, guard_some, regG_true, regG_false, regO_some, op_mov, op_conv, op_bin, op_bsl, op_box, op_mks, op_s2b, op_pick, op_un, op_eq, op_len, op_ext, op_load, op_iaddr, op_slice, op_b2s, op_idxS, op_mx, op_mn, op_call, op_store, op_app, op_copy, args_eq, result_one', rv_loc, finish_norm, finish_ret, outK_some, keep_true, keep_false, keep_nil, p_bin, p_pick, p_un, p_eq, p_conv, evNew, pureK_some, newK_some, X.eval, set_none, set_some, List.map_cons, List.map_nil, List.getD_cons_zero, List.getD_cons_succ, List.getD_nil, List.set_cons_zero, List.set_cons_succ, binCV, unCV, isShift, intArithF_eq, shiftF_eq, wrapF_eq, intArith, shift, eqVal, bound, asNat_cast, cond_true, cond_false, BEq.rfl, beq_self_eq_true, evalParts, fillParts, AV.cells, AV.ofCells, XV.av, AV.xv, List.length_cons, List.length_nil, zeros, patch, setMany, List.nil_append, List.cons_append, Nat.ble, Nat.add_eq, Nat.zero_add, Nat.add_zero, Nat.reduceAdd, Nat.reduceMul, Nat.reduceSub, Nat.ble_eq, Nat.reduceLeDiff, Nat.reduceBEq, Int.reduceBEq, Int.reduceNeg, Bool.and_true, Bool.and_false, Bool.true_and, Bool.false_and, Bool.not_true, Bool.not_false, Bool.true_eq_false, Bool.false_eq_true, Int.reduceLT, Int.reduceLE, Int.reduceGT, Int.reduceGE, decide_true, decide_false, Bool.not_eq_true, loopN_norm, loopN_exit, tf, ft, ff, hr, blockK_exit_eq]
    exact ⟨_, rfl, Ext.refl _⟩
  | true =>
    rw [hw] at hr
    obtain ⟨y, h', e1, my, he⟩ := rready_ok (N := N) (d := d) s (by omega) hn
    have hnl : (natL (readyM ts)).length = (readyM ts).length := by simp [natL]
    have ly : ∀ (loc vals : List AV) (h : Heap), evPure loc (.c y :: vals) h (.len .sl (.val 0)) = some (.c (.int .i64 ((readyM ts).length : Int))) := fun _ _ _ => by rw [← hnl]; exact my.len rfl
    have c1 : (((readyM ts).length : Int) == 0) = decide (readyM ts = []) := by
      by_cases hr : readyM ts = []
      · rw [hr]; rfl
      · rw [decide_eq_false hr]; have := List.length_pos_iff.2 hr; simp only [beq_eq_false_iff_ne, ne_eq]; omega
    simp only [enter_eq, ev_seq, seqK_norm, seqK_exit, seqK_ret, ev_reg, ev_cond, condK_true, condK_false, ev_block, blockK_norm, blockK_ret, blockK_exit, ev_loop, ev_skip, ev_exit, ev_ret, regK_cons, regK_nil, guard_none, guard_some, regG_true, regG_false, regO_some, op_mov, op_conv, op_bin, op_bsl, op_box, op_mks, op_s2b, op_pick, op_un, op_eq, op_len, op_ext, op_load, op_iaddr, op_slice, op_b2s, op_idxS, op_mx, op_mn, op_call, op_store, op_app, op_copy, args_eq, result_one', rv_loc, finish_norm, finish_ret, outK_some, keep_true, keep_false, keep_nil, p_bin, p_pick, p_un, p_eq, p_conv, evNew, pureK_some, newK_some, X.eval, set_none, set_some, List.map_cons, List.map_nil, List.getD_cons_zero, List.getD_cons_succ, List.getD_nil, List.set_cons_zero, List.set_cons_succ, binCV, unCV, isShift, intArithF_eq, shiftF_eq, wrapF_eq, intArith, shift, eqVal, bound, asNat_cast, cond_true, cond_false, BEq.rfl, beq_self_eq_true, evalParts, fillParts, AV.cells, AV.ofCells, XV.av, AV.xv, List.length_cons, List.length_nil, zeros, patch, setMany, List.nil_append, List.cons_append, Nat.ble, Nat.add_eq, Nat.zero_add, Nat.add_zero, Nat.reduceAdd, Nat.reduceMul, Nat.reduceSub, Nat.ble_eq, Nat.reduceLeDiff, Nat.reduceBEq, Int.reduceBEq, Int.reduceNeg, Bool.and_true, Bool.and_false, Bool.true_and, Bool.false_and, Bool.not_true, Bool.not_false, Bool.true_eq_false, Bool.false_eq_true, Int.reduceLT, Int.reduceLE, Int.reduceGT, Int.reduceGE, decide_true, decide_false, Bool.not_eq_true, loopN_norm, loopN_exit, tf, ft, ff, hr, blockK_exit_eq, e1, ly, c1]
    exact ⟨_, rfl, he⟩
theorem rfree_any (s : SR h p b ts) (on : Int) (inv : ∀ t ∈ ts, t.st = 2 → 0 ≤ t.on) (hN : ts.length + 2 ≤ N) (hn : ts.length ≤ 64) :
    ∃ y h', evCallT table 28 N (d + 1) 38 [.c (.ptr p 0), .c (.int .i64 on)] h = some (.c y, h') ∧ Made h h' y (natL (idxGo (waitsOn on) 0 ts)) ∧ SR h' p b (ts.map (freed on)) ∧ ExtB [b] h h' := by
  have ll : ∀ loc vals h', evPure loc (.c (.sl b 0 ts.length (.dy 3)) :: vals) h' (.len .sl (.val 0)) = some (.c (.int .i64 (ts.length : Int))) := fun _ _ _ => rfl
  rw [evCallT_eq (F := ir38) rfl rfl rfl]
  unfold ir38
  rw [bodyK_eq]
  by_cases hon : on < 0
  · have q1 : decide (on ≥ 0) = false := decide_eq_false (by omega)
    have hw : ∀ t ∈ ts, waitsOn on t = false := fun t ht => by
      unfold waitsOn
      by_cases h2 : t.st = 2
      · have := inv t ht h2
        have : (t.on == on) = false := by simp; omega
        rw [this, Bool.and_false]
      · have : (t.st == 2) = false := by simp [h2]
        rw [this, Bool.false_and]
    have h0 : idxGo (waitsOn on) 0 ts = [] := idx_none _ _ _ hw
    have hm : ts.map (freed on) = ts := by
      have : ts.map (freed on) = ts.map id := List.map_congr_left fun t ht => by simp [freed, hw t ht]
      rw [this, List.map_id]
    obtain ⟨m, rfl⟩ : ∃ m, N = m + 1 := ⟨N - 1, by omega⟩
    have hb : ∀ loc, keepOnly ir38_k0 loc = [.c (.ptr p 0), .c (.int .i64 on), .junk, .c .nils, .c (.int .i64 0), .junk, .junk] →
        ∃ a0 a1 a2 l, loopK (evCallT table 28 (m + 1) d) (m + 1) ir38_k0 ir38_l0 (m + 1) loc h = some (.exit 0, a0 :: a1 :: a2 :: .c .nils :: l, h) := by
      intro loc hloc
      rw [loopK_succ, hloc]
      unfold ir38_l0
      by_cases h3 : 0 < ts.length
      · have v1 : decide ((0 : Int) < (ts.length : Int)) = true := decide_eq_true (by omega)
        simp only [enter_eq, ev_seq, seqK_norm, seqK_exit, seqK_ret, ev_reg, ev_cond, condK_true, condK_false, ev_block, blockK_norm, blockK_ret, blockK_exit, ev_loop, ev_skip, ev_exit, ev_ret, regK_cons, regK_nil, guard_none, guard_some, regG_true, regG_false, regO_some, op_mov, op_conv, op_bin, op_bsl, op_box, op_mks, op_s2b, op_pick, op_un, op_eq, op_len, op_ext, op_load, op_iaddr, op_slice, op_b2s, op_idxS, op_mx, op_mn, op_call, op_store, op_app, op_copy, args_eq, result_one', rv_loc, finish_norm, finish_ret, outK_some, keep_true, keep_false, keep_nil, p_bin, p_pick, p_un, p_eq, p_conv, evNew, pureK_some, newK_some, X.eval, set_none, set_some, List.map_cons, List.map_nil, List.getD_cons_zero, List.getD_cons_succ, List.getD_nil, List.set_cons_zero, List.set_cons_succ, binCV, unCV, isShift, intArithF_eq, shiftF_eq, wrapF_eq, intArith, shift, eqVal, bound, asNat_cast, cond_true, cond_false, BEq.rfl, beq_self_eq_true, evalParts, fillParts, AV.cells, AV.ofCells, XV.av, AV.xv, List.length_cons, List.length_nil, zeros, patch, setMany, List.nil_append, List.cons_append, Nat.ble, Nat.add_eq, Nat.zero_add, Nat.add_zero, Nat.reduceAdd, Nat.reduceMul, Nat.reduceSub, Nat.ble_eq, Nat.reduceLeDiff, Nat.reduceBEq, Int.reduceBEq, Int.reduceNeg, Bool.and_true, Bool.and_false, Bool.true_and, Bool.false_and, Bool.not_true, Bool.not_false, Bool.true_eq_false, Bool.false_eq_true, Int.reduceLT, Int.reduceLE, Int.reduceGT, Int.reduceGE, decide_true, decide_false, Bool.not_eq_true, loopN_norm, loopN_exit, tf, ft, ff, ll, v1, q1, op_nilchk, p_nilchk, op_faddr, p_faddr, p_load, s.r, AV.ofCells]
        exact ⟨_, _, _, _, rfl⟩
      · have v1 : decide ((0 : Int) < (ts.length : Int)) = false := decide_eq_false (by omega)
        simp only [enter_eq, ev_seq, seqK_norm, seqK_exit, seqK_ret, ev_reg, ev_cond, condK_true, condK_false, ev_block, blockK_norm, blockK_ret, blockK_exit, ev_loop, ev_skip, ev_exit, ev_ret, regK_cons, regK_nil, guard_none, guard_some, regG_true, regG_false, regO_some, op_mov, op_conv, op_bin, op_bsl, op_box, op_mks, op_s2b, op_pick, op_un, op_eq, op_len, op_ext, op_load, op_iaddr, op_slice, op_b2s, op_idxS, op_mx, op_mn, op_call, op_store, op_app, op_copy, args_eq, result_one', rv_loc, finish_norm, finish_ret, outK_some, keep_true, keep_false, keep_nil, p_bin, p_pick, p_un, p_eq, p_conv, evNew, pureK_some, newK_some, X.eval, set_none, set_some, List.map_cons, List.map_nil, List.getD_cons_zero, List.getD_cons_succ, List.getD_nil, List.set_cons_zero, List.set_cons_succ, binCV, unCV, isShift, intArithF_eq, shiftF_eq, wrapF_eq, intArith, shift, eqVal, bound, asNat_cast, cond_true, cond_false, BEq.rfl, beq_self_eq_true, evalParts, fillParts, AV.cells, AV.ofCells, XV.av, AV.xv, List.length_cons, List.length_nil, zeros, patch, setMany, List.nil_append, List.cons_append, Nat.ble, Nat.add_eq, Nat.zero_add, Nat.add_zero, Nat.reduceAdd, Nat.reduceMul, Nat.reduceSub, Nat.ble_eq, Nat.reduceLeDiff, Nat.reduceBEq, Int.reduceBEq, Int.reduceNeg, Bool.and_true, Bool.and_false, Bool.true_and, Bool.false_and, Bool.not_true, Bool.not_false, Bool.true_eq_false, Bool.false_eq_true, Int.reduceLT, Int.reduceLE, Int.reduceGT, Int.reduceGE, decide_true, decide_false, Bool.not_eq_true, loopN_norm, loopN_exit, tf, ft, ff, ll, v1, op_nilchk, p_nilchk, op_faddr, p_faddr, p_load, s.r, AV.ofCells]
        exact ⟨_, _, _, _, rfl⟩
    obtain ⟨a0, a1, a2, l, hr⟩ := hb [.c (.ptr p 0), .c (.int .i64 on), .c .nils, .c .nils, .c (.int .i64 0), .tup [], .tup []] rfl
    simp only [enter_eq, ev_seq, seqK_norm, seqK_exit, seqK_ret, ev_reg, ev_cond, condK_true, condK_false, ev_block, blockK_norm, blockK_ret, blockK_exit, ev_loop, ev_skip, ev_exit, ev_ret, regK_cons, regK_nil, guard_none, guard_some, regG_true, regG_false, regO_some, op_mov, op_conv, op_bin, op_bsl, op_box, op_mks, op_s2b, op_pick, op_un, op_eq, op_len, op_ext, op_load, op_iaddr, op_slice, op_b2s, op_idxS, op_mx, op_mn, op_call, op_store, op_app, op_copy, args_eq, result_one', rv_loc, finish_norm, finish_ret, outK_some, keep_true, keep_false, keep_nil, p_bin, p_pick, p_un, p_eq, p_conv, evNew, pureK_some, newK_some, X.eval, set_none, set_some, List.map_cons, List.map_nil, List.getD_cons_zero, List.getD_cons_succ, List.getD_nil, List.set_cons_zero, List.set_cons_succ, binCV, unCV, isShift, intArithF_eq, shiftF_eq, wrapF_eq, intArith, shift, eqVal, bound, asNat_cast, cond_true, cond_false, BEq.rfl, beq_self_eq_true, evalParts, fillParts, AV.cells, AV.ofCells, XV.av, AV.xv, List.length_cons, List.length_nil, zeros, patch, setMany, List.nil_append, List.cons_append, Nat.ble, Nat.add_eq, Nat.zero_add, Nat.add_zero, Nat.reduceAdd, Nat.reduceMul, Nat.reduceSub, Nat.ble_eq, Nat.reduceLeDiff, Nat.reduceBEq, Int.reduceBEq, Int.reduceNeg, Bool.and_true, Bool.and_false, Bool.true_and, Bool.false_and, Bool.not_true, Bool.not_false, Bool.true_eq_false, Bool.false_eq_true, Int.reduceLT, Int.reduceLE, Int.reduceGT, Int.reduceGE, decide_true, decide_false, Bool.not_eq_true, loopN_norm, loopN_exit, tf, ft, ff, hr, blockK_exit_eq]
    refine ⟨.nils, _, rfl, ?_, by rw [hm]; exact s, ExtB.refl _ _⟩
    rw [h0]; exact .inl ⟨rfl, rfl⟩
  have q1 : decide (on ≥ 0) = true := decide_eq_true (by omega)
  have L : ∀ loc, keepOnly ir38_k0 loc = [.c (.ptr p 0), .c (.int .i64 on), .junk, .c .nils, .c (.int .i64 0), .junk, .junk] →
      ∃ r, loopK (evCallT table 28 N d) N ir38_k0 ir38_l0 N loc h = some r ∧ ∃ y h' a0 a1 a2 l, r = (.exit 0, a0 :: a1 :: a2 :: .c y :: l, h') ∧ Made h h' y (natL (idxGo (waitsOn on) 0 ts)) ∧ SR h' p b (ts.map (freed on)) ∧ ExtB [b] h h' := by
    intro loc hloc
    refine loop_inv (n := ts.length) (fun i loc h' => ExtB [b] h h' ∧ SR h' p b (freeSt on ts i) ∧ ∃ y, Mine 1 h h' y (idxGo (waitsOn on) 0 (ts.take i)).length ((natL (idxGo (waitsOn on) 0 (ts.take i))).map icell) ∧ loc = [.c (.ptr p 0), .c (.int .i64 on), .junk, .c y, .c (.int .i64 (i : Int)), .junk, .junk]) _ ?_
      ⟨ExtB.refl _ _, by simpa [freeSt] using s, .nils, Mine.nil, hloc⟩ (by omega)
    rintro i loc h' hi ⟨he, s', y, hy, rfl⟩
    unfold ir38_l0
    have hfl := freeSt_len on ts i hi
    have r' := s'.r
    rw [hfl] at r'
    by_cases hlt : i < ts.length
    · left
      refine ⟨hlt, ?_⟩
      have v1 : decide ((i : Int) < (ts.length : Int)) = true := ltNat hlt
      have v2 := succI (i := i) (by omega)
      have m1 : Nat.blt i ts.length = true := bltT hlt
      have hat : (freeSt on ts i)[i]'(by omega) = ts[i] := by
        have := freeSt_at on ts i hlt
        rw [List.getElem?_eq_getElem (by omega)] at this
        simpa using this
      have rs' := s'.rs (i := i) (by omega)
      have r2' := s'.r2 (i := i) (by omega)
      rw [hat] at rs' r2'
      have happ := idx_app (waitsOn on) (ts.take i) 0 ts[i]
      rw [← List.take_succ_eq_append_getElem hlt, Nat.zero_add, List.length_take, Nat.min_eq_left (Nat.le_of_lt hlt)] at happ
      have hrl := idx_len (waitsOn on) (ts.take i) 0
      rw [List.length_take] at hrl
      have hsucc := freeSt_succ on ts i hlt
      have stay : waitsOn on ts[i] = false → freeSt on ts (i + 1) = freeSt on ts i := fun hw => by
        rw [← hsucc]
        have : freed on ts[i] = ts[i] := by simp [freed, hw]
        rw [this, ← hat]; exact List.set_getElem_self _
      by_cases c1 : ts[i].st = 2
      · have e1 : (ts[i].st == 2) = true := by simp [c1]
        by_cases c2 : ts[i].on = on
        · have e2 : (ts[i].on == on) = true := by simp [c2]
          have hw : waitsOn on ts[i] = true := by simp [waitsOn, e1, e2]
          rw [if_pos hw] at happ
          have W1 := s'.w0 (i := i) (by omega) 1
          rw [hat] at W1
          have sA : SR (h'.put b (.cells (tksC ((freeSt on ts i).set i { ts[i] with st := 1 })))) p b ((freeSt on ts i).set i { ts[i] with st := 1 }) := s'.put (by simp)
          have W2 := sA.w2 (i := i) (by rw [List.length_set]; omega) (-1)
          rw [List.getElem_set_self, List.set_set] at W2
          have rA := sA.r
          rw [List.length_set, hfl] at rA
          have hfr : freed on ts[i] = { st := 1, pc := ts[i].pc, on := -1 } := by simp [freed, hw]
          obtain ⟨H, hH⟩ : ∃ H, H = (h'.put b (.cells (tksC ((freeSt on ts i).set i { ts[i] with st := 1 })))).put b (.cells (tksC ((freeSt on ts i).set i { st := 1, pc := ts[i].pc, on := -1 }))) := ⟨_, rfl⟩
          have sH : SR H p b (freeSt on ts (i + 1)) := by
            rw [hH, ← hsucc, hfr]
            exact sA.put (by simp)
          have xH : ExtB [b] h' H := by rw [hH]; exact ((ExtB.refl _ _).put (.inr (by simp)) _).put (.inr (by simp)) _
          have hyb : ∀ k, blk y = some k → k ∉ [b] := fun k hk => by have := hy.young k hk; have := s.bn; simp; omega
          have hyH := hy.keepB xH hyb
          obtain ⟨ha, a1, a2, a3, a4⟩ := app_mine (m := 0) (y := .c (.sl H.next 0 1 (.ex 1))) (hyH.new (.cells [icell (i : Int)])) (Nat.le_trans (he.trans xH).1 (Nat.le_succ _)) (source_new get_new_at rfl) rfl (by omega)
          simp only [icell] at a1
          have hyg : ∀ r, r < h.next → blk y ≠ some r := fun r hr e => by have := hy.young r e; omega
          have old : ∀ r, r < h.next → ha.get r = H.get r := fun r hr => by
            rw [a4 r (Nat.lt_of_lt_of_le hr (Nat.le_trans (he.trans xH).1 (Nat.le_succ _))) (hyg r hr), get_new_old (Nat.lt_of_lt_of_le hr (he.trans xH).1)]
          have nha : ha.next = H.next + 2 := by rw [a3]; rfl
          have xa : ExtB [b] h ha := ⟨by have := (he.trans xH).1; omega, fun r hr hn => (old r hr).trans ((he.trans xH).2 r hr hn)⟩
          have sa : SR ha p b (freeSt on ts (i + 1)) := ⟨(old p s.pn).trans sH.cell, (old b s.bn).trans sH.tasks, s.ne, by have := sH.pn; omega, by have := sH.bn; omega⟩
          rw [← hH] at W2
          simp only [enter_eq, ev_seq, seqK_norm, seqK_exit, seqK_ret, ev_reg, ev_cond, condK_true, condK_false, ev_block, blockK_norm, blockK_ret, blockK_exit, ev_loop, ev_skip, ev_exit, ev_ret, regK_cons, regK_nil, guard_none, guard_some, regG_true, regG_false, regO_some, op_mov, op_conv, op_bin, op_bsl, op_box, op_mks, op_s2b, op_pick, op_un, op_eq, op_len, op_ext, op_load, op_iaddr, op_slice, op_b2s, op_idxS, op_mx, op_mn, op_call, op_store, op_app, op_copy, args_eq, result_one', rv_loc, finish_norm, finish_ret, outK_some, keep_true, keep_false, keep_nil, p_bin, p_pick, p_un, p_eq, p_conv, evNew, pureK_some, newK_some, X.eval, set_none, set_some, List.map_cons, List.map_nil, List.getD_cons_zero, List.getD_cons_succ, List.getD_nil, List.set_cons_zero, List.set_cons_succ, binCV, unCV, isShift, intArithF_eq, shiftF_eq, wrapF_eq, intArith, shift, eqVal, bound, asNat_cast, cond_true, cond_false, BEq.rfl, beq_self_eq_true, evalParts, fillParts, AV.cells, AV.ofCells, XV.av, AV.xv, List.length_cons, List.length_nil, zeros, patch, setMany, List.nil_append, List.cons_append, Nat.ble, Nat.add_eq, Nat.zero_add, Nat.add_zero, Nat.reduceAdd, Nat.reduceMul, Nat.reduceSub, Nat.ble_eq, Nat.reduceLeDiff, Nat.reduceBEq, Int.reduceBEq, Int.reduceNeg, Bool.and_true, Bool.and_false, Bool.true_and, Bool.false_and, Bool.not_true, Bool.not_false, Bool.true_eq_false, Bool.false_eq_true, Int.reduceLT, Int.reduceLE, Int.reduceGT, Int.reduceGE, decide_true, decide_false, Bool.not_eq_true, loopN_norm, loopN_exit, tf, ft, ff, ev_dreg, dregK_nil, dregK_cons, dregE_true, dregP_some, dregX_some, d_mov, d_bin, d_eq, d_pick, d_un, d_conv, d_b2s, d_len, d_load, d_iaddr, d_slice, d_ext, d_call, d_store, chk_done, chk_none, chk_some, chkG_true, chkG_false, chkOne_nil, chkOne_cons, chkH_some, chkV_same, stage_none, stage_some, look_hit, look_miss, news_nil, wb_cons, wb_nil, skip0, List.reverse_cons, List.reverse_nil, d_nilchk, d_faddr, op_nilchk, p_nilchk, op_faddr, p_faddr, v1, v2, q1, ll, p_iaddr, p_load, m1, r', rA, rs', r2', evEff, e1, e2, AV.ofCells, W1, W2, a1]
          refine ⟨_, _, rfl, xa, sa, _, ?_, rfl⟩
          rw [happ]
          simp only [natL, List.map_append, List.length_append, List.length_cons, List.length_nil]
          exact a2
        · have e2 : (ts[i].on == on) = false := by simp [c2]
          have hw : waitsOn on ts[i] = false := by simp [waitsOn, e1, e2]
          rw [if_neg (by simp [hw]), List.append_nil] at happ
          simp only [enter_eq, ev_seq, seqK_norm, seqK_exit, seqK_ret, ev_reg, ev_cond, condK_true, condK_false, ev_block, blockK_norm, blockK_ret, blockK_exit, ev_loop, ev_skip, ev_exit, ev_ret, regK_cons, regK_nil, guard_none, guard_some, regG_true, regG_false, regO_some, op_mov, op_conv, op_bin, op_bsl, op_box, op_mks, op_s2b, op_pick, op_un, op_eq, op_len, op_ext, op_load, op_iaddr, op_slice, op_b2s, op_idxS, op_mx, op_mn, op_call, op_store, op_app, op_copy, args_eq, result_one', rv_loc, finish_norm, finish_ret, outK_some, keep_true, keep_false, keep_nil, p_bin, p_pick, p_un, p_eq, p_conv, evNew, pureK_some, newK_some, X.eval, set_none, set_some, List.map_cons, List.map_nil, List.getD_cons_zero, List.getD_cons_succ, List.getD_nil, List.set_cons_zero, List.set_cons_succ, binCV, unCV, isShift, intArithF_eq, shiftF_eq, wrapF_eq, intArith, shift, eqVal, bound, asNat_cast, cond_true, cond_false, BEq.rfl, beq_self_eq_true, evalParts, fillParts, AV.cells, AV.ofCells, XV.av, AV.xv, List.length_cons, List.length_nil, zeros, patch, setMany, List.nil_append, List.cons_append, Nat.ble, Nat.add_eq, Nat.zero_add, Nat.add_zero, Nat.reduceAdd, Nat.reduceMul, Nat.reduceSub, Nat.ble_eq, Nat.reduceLeDiff, Nat.reduceBEq, Int.reduceBEq, Int.reduceNeg, Bool.and_true, Bool.and_false, Bool.true_and, Bool.false_and, Bool.not_true, Bool.not_false, Bool.true_eq_false, Bool.false_eq_true, Int.reduceLT, Int.reduceLE, Int.reduceGT, Int.reduceGE, decide_true, decide_false, Bool.not_eq_true, loopN_norm, loopN_exit, tf, ft, ff, op_nilchk, p_nilchk, op_faddr, p_faddr, v1, v2, q1, ll, p_iaddr, p_load, m1, r', rs', r2', e1, e2, AV.ofCells]
          exact ⟨_, _, rfl, he, by rw [stay hw]; exact s', y, by rw [happ]; exact hy, rfl⟩
      · have e1 : (ts[i].st == 2) = false := by simp [c1]
        have hw : waitsOn on ts[i] = false := by simp [waitsOn, e1]
        rw [if_neg (by simp [hw]), List.append_nil] at happ
        simp only [enter_eq, ev_seq, seqK_norm, seqK_exit, seqK_ret, ev_reg, ev_cond, condK_true, condK_false, ev_block, blockK_norm, blockK_ret, blockK_exit, ev_loop, ev_skip, ev_exit, ev_ret, regK_cons, regK_nil, guard_none, guard_some, regG_true, regG_false, regO_some, op_mov, op_conv, op_bin, op_bsl, op_box, op_mks, op_s2b, op_pick, op_un, op_eq, op_len, op_ext, op_load, op_iaddr, op_slice, op_b2s, op_idxS, op_mx, op_mn, op_call, op_store, op_app, op_copy, args_eq, result_one', rv_loc, finish_norm, finish_ret, outK_some, keep_true, keep_false, keep_nil, p_bin, p_pick, p_un, p_eq, p_conv, evNew, pureK_some, newK_some, X.eval, set_none, set_some, List.map_cons, List.map_nil, List.getD_cons_zero, List.getD_cons_succ, List.getD_nil, List.set_cons_zero, List.set_cons_succ, binCV, unCV, isShift, intArithF_eq, shiftF_eq, wrapF_eq, intArith, shift, eqVal, bound, asNat_cast, cond_true, cond_false, BEq.rfl, beq_self_eq_true, evalParts, fillParts, AV.cells, AV.ofCells, XV.av, AV.xv, List.length_cons, List.length_nil, zeros, patch, setMany, List.nil_append, List.cons_append, Nat.ble, Nat.add_eq, Nat.zero_add, Nat.add_zero, Nat.reduceAdd, Nat.reduceMul, Nat.reduceSub, Nat.ble_eq, Nat.reduceLeDiff, Nat.reduceBEq, Int.reduceBEq, Int.reduceNeg, Bool.and_true, Bool.and_false, Bool.true_and, Bool.false_and, Bool.not_true, Bool.not_false, Bool.true_eq_false, Bool.false_eq_true, Int.reduceLT, Int.reduceLE, Int.reduceGT, Int.reduceGE, decide_true, decide_false, Bool.not_eq_true, loopN_norm, loopN_exit, tf, ft, ff, op_nilchk, p_nilchk, op_faddr, p_faddr, v1, v2, q1, ll, p_iaddr, p_load, m1, r', rs', r2', e1, AV.ofCells]
        exact ⟨_, _, rfl, he, by rw [stay hw]; exact s', y, by rw [happ]; exact hy, rfl⟩
    · right
      have hin : i = ts.length := by omega
      subst hin
      have v1 : decide ((ts.length : Int) < (ts.length : Int)) = false := geNat (Nat.le_refl _)
      rw [List.take_length] at hy
      have hend : freeSt on ts ts.length = ts.map (freed on) := by simp [freeSt]
      rw [hend] at s'
      simp only [enter_eq, ev_seq, seqK_norm, seqK_exit, seqK_ret, ev_reg, ev_cond, condK_true, condK_false, ev_block, blockK_norm, blockK_ret, blockK_exit, ev_loop, ev_skip, ev_exit, ev_ret, regK_cons, regK_nil, guard_none, guard_some, regG_true, regG_false, regO_some, op_mov, op_conv, op_bin, op_bsl, op_box, op_mks, op_s2b, op_pick, op_un, op_eq, op_len, op_ext, op_load, op_iaddr, op_slice, op_b2s, op_idxS, op_mx, op_mn, op_call, op_store, op_app, op_copy, args_eq, result_one', rv_loc, finish_norm, finish_ret, outK_some, keep_true, keep_false, keep_nil, p_bin, p_pick, p_un, p_eq, p_conv, evNew, pureK_some, newK_some, X.eval, set_none, set_some, List.map_cons, List.map_nil, List.getD_cons_zero, List.getD_cons_succ, List.getD_nil, List.set_cons_zero, List.set_cons_succ, binCV, unCV, isShift, intArithF_eq, shiftF_eq, wrapF_eq, intArith, shift, eqVal, bound, asNat_cast, cond_true, cond_false, BEq.rfl, beq_self_eq_true, evalParts, fillParts, AV.cells, AV.ofCells, XV.av, AV.xv, List.length_cons, List.length_nil, zeros, patch, setMany, List.nil_append, List.cons_append, Nat.ble, Nat.add_eq, Nat.zero_add, Nat.add_zero, Nat.reduceAdd, Nat.reduceMul, Nat.reduceSub, Nat.ble_eq, Nat.reduceLeDiff, Nat.reduceBEq, Int.reduceBEq, Int.reduceNeg, Bool.and_true, Bool.and_false, Bool.true_and, Bool.false_and, Bool.not_true, Bool.not_false, Bool.true_eq_false, Bool.false_eq_true, Int.reduceLT, Int.reduceLE, Int.reduceGT, Int.reduceGE, decide_true, decide_false, Bool.not_eq_true, loopN_norm, loopN_exit, tf, ft, ff, op_nilchk, p_nilchk, op_faddr, p_faddr, p_load, r', AV.ofCells, ll, v1]
      refine ⟨_, rfl, by simp, y, h', _, _, _, _, rfl, ?_, s', he⟩
      exact Mine.made (vs := natL (idxGo (waitsOn on) 0 ts)) (by have : (idxGo (waitsOn on) 0 ts).length = (natL (idxGo (waitsOn on) 0 ts)).length := by simp [natL]
                                                                 rw [this] at hy; exact hy)
  obtain ⟨r, hr, y, h', a0, a1, a2, l, rfl, my, s', he⟩ := L [.c (.ptr p 0), .c (.int .i64 on), .c .nils, .c .nils, .c (.int .i64 0), .tup [], .tup []] rfl
  simp only [enter_eq, ev_seq, seqK_norm, seqK_exit, seqK_ret, ev_reg, ev_cond, condK_true, condK_false, ev_block, blockK_norm, blockK_ret, blockK_exit, ev_loop, ev_skip, ev_exit, ev_ret, regK_cons, regK_nil, guard_none, guard_some, regG_true, regG_false, regO_some, op_mov, op_conv, op_bin, op_bsl, op_box, op_mks, op_s2b, op_pick, op_un, op_eq, op_len, op_ext, op_load, op_iaddr, op_slice, op_b2s, op_idxS, op_mx, op_mn, op_call, op_store, op_app, op_copy, args_eq, result_one', rv_loc, finish_norm, finish_ret, outK_some, keep_true, keep_false, keep_nil, p_bin, p_pick, p_un, p_eq, p_conv, evNew, pureK_some, newK_some, X.eval, set_none, set_some, List.map_cons, List.map_nil, List.getD_cons_zero, List.getD_cons_succ, List.getD_nil, List.set_cons_zero, List.set_cons_succ, binCV, unCV, isShift, intArithF_eq, shiftF_eq, wrapF_eq, intArith, shift, eqVal, bound, asNat_cast, cond_true, cond_false, BEq.rfl, beq_self_eq_true, evalParts, fillParts, AV.cells, AV.ofCells, XV.av, AV.xv, List.length_cons, List.length_nil, zeros, patch, setMany, List.nil_append, List.cons_append, Nat.ble, Nat.add_eq, Nat.zero_add, Nat.add_zero, Nat.reduceAdd, Nat.reduceMul, Nat.reduceSub, Nat.ble_eq, Nat.reduceLeDiff, Nat.reduceBEq, Int.reduceBEq, Int.reduceNeg, Bool.and_true, Bool.and_false, Bool.true_and, Bool.false_and, Bool.not_true, Bool.not_false, Bool.true_eq_false, Bool.false_eq_true, Int.reduceLT, Int.reduceLE, Int.reduceGT, Int.reduceGE, decide_true, decide_false, Bool.not_eq_true, loopN_norm, loopN_exit, tf, ft, ff, hr, blockK_exit_eq]
  exact ⟨_, _, rfl, my, s', he⟩

theorem rnew_no {n : Int} (hn : ¬ (1 ≤ n ∧ n ≤ 64)) : evCallT table 28 N (d + 1) 27 [.c (.int .i64 n)] h = some (.c .nilp, h) := by
  rw [evCallT_eq (F := ir27) rfl rfl rfl]
  unfold ir27
  rw [bodyK_eq]
  by_cases c1 : n < 1
  · simp only [enter_eq, ev_seq, seqK_norm, seqK_exit, seqK_ret, ev_reg, ev_cond, condK_true, condK_false, ev_block, blockK_norm, blockK_ret, blockK_exit, ev_loop, ev_skip, ev_exit, ev_ret, regK_cons, regK_nil, guard_none, guard_some, regG_true, regG_false, regO_some, op_mov, op_conv, op_bin, op_bsl, op_box, op_mks, op_s2b, op_pick, op_un, op_eq, op_len, op_ext, op_load, op_iaddr, op_slice, op_b2s, op_idxS, op_mx, op_mn, op_call, op_store, op_app, op_copy, args_eq, result_one', rv_loc, finish_norm, finish_ret, outK_some, keep_true, keep_false, keep_nil, p_bin, p_pick, p_un, p_eq, p_conv, evNew, pureK_some, newK_some, X.eval, set_none, set_some, List.map_cons, List.map_nil, List.getD_cons_zero, List.getD_cons_succ, List.getD_nil, List.set_cons_zero, List.set_cons_succ, binCV, unCV, isShift, intArithF_eq, shiftF_eq, wrapF_eq, intArith, shift, eqVal, bound, asNat_cast, cond_true, cond_false, BEq.rfl, beq_self_eq_true, evalParts, fillParts, AV.cells, AV.ofCells, XV.av, AV.xv, List.length_cons, List.length_nil, zeros, patch, setMany, List.nil_append, List.cons_append, Nat.ble, Nat.add_eq, Nat.zero_add, Nat.add_zero, Nat.reduceAdd, Nat.reduceMul, Nat.reduceSub, Nat.ble_eq, Nat.reduceLeDiff, Nat.reduceBEq, Int.reduceBEq, Int.reduceNeg, Bool.and_true, Bool.and_false, Bool.true_and, Bool.false_and, Bool.not_true, Bool.not_false, Bool.true_eq_false, Bool.false_eq_true, Int.reduceLT, Int.reduceLE, Int.reduceGT, Int.reduceGE, decide_true, decide_false, Bool.not_eq_true, loopN_norm, loopN_exit, tf, ft, ff, decide_eq_true c1]
  · simp only [enter_eq, ev_seq, seqK_norm, seqK_exit, seqK_ret, ev_reg, ev_cond, condK_true, condK_false, ev_block, blockK_norm, blockK_ret, blockK_exit, ev_loop, ev_skip, ev_exit, ev_ret, regK_cons, regK_nil, guard_none, guard_some, regG_true, regG_false, regO_some, op_mov, op_conv, op_bin, op_bsl, op_box, op_mks, op_s2b, op_pick, op_un, op_eq, op_len, op_ext, op_load, op_iaddr, op_slice, op_b2s, op_idxS, op_mx, op_mn, op_call, op_store, op_app, op_copy, args_eq, result_one', rv_loc, finish_norm, finish_ret, outK_some, keep_true, keep_false, keep_nil, p_bin, p_pick, p_un, p_eq, p_conv, evNew, pureK_some, newK_some, X.eval, set_none, set_some, List.map_cons, List.map_nil, List.getD_cons_zero, List.getD_cons_succ, List.getD_nil, List.set_cons_zero, List.set_cons_succ, binCV, unCV, isShift, intArithF_eq, shiftF_eq, wrapF_eq, intArith, shift, eqVal, bound, asNat_cast, cond_true, cond_false, BEq.rfl, beq_self_eq_true, evalParts, fillParts, AV.cells, AV.ofCells, XV.av, AV.xv, List.length_cons, List.length_nil, zeros, patch, setMany, List.nil_append, List.cons_append, Nat.ble, Nat.add_eq, Nat.zero_add, Nat.add_zero, Nat.reduceAdd, Nat.reduceMul, Nat.reduceSub, Nat.ble_eq, Nat.reduceLeDiff, Nat.reduceBEq, Int.reduceBEq, Int.reduceNeg, Bool.and_true, Bool.and_false, Bool.true_and, Bool.false_and, Bool.not_true, Bool.not_false, Bool.true_eq_false, Bool.false_eq_true, Int.reduceLT, Int.reduceLE, Int.reduceGT, Int.reduceGE, decide_true, decide_false, Bool.not_eq_true, loopN_norm, loopN_exit, tf, ft, ff, decide_eq_false c1, decide_eq_true (show n > 64 by omega)]

theorem tksC_rep' : ∀ n, tksC (List.replicate n tk0) ++ tkC tk0 = tksC (List.replicate (n + 1) tk0)
  | 0 => rfl
  | n + 1 => by
    rw [List.replicate_succ, List.replicate_succ (n := n + 1)]
    simp only [tksC, List.append_assoc]
    rw [tksC_rep' n]

theorem rnew_ok {n : Nat} (h1 : 1 ≤ n) (h2 : n ≤ 64) (hN : 70 ≤ N) : ∃ p b h', evCallT table 28 N (d + 1) 27 [.c (.int .i64 (n : Int))] h = some (.c (.ptr p 0), h') ∧ SR h' p b (List.replicate n tk0) ∧ Ext h h' ∧ h.next ≤ p ∧ h.next ≤ b := by
  have c1 : decide ((n : Int) < 1) = false := decide_eq_false (by omega)
  have c2 : decide ((n : Int) > 64) = false := decide_eq_false (by omega)
  rw [evCallT_eq (F := ir27) rfl rfl rfl]
  unfold ir27
  rw [bodyK_eq]
  have L : ∀ loc, keepOnly ir27_k0 loc = [.c (.int .i64 (n : Int)), .junk, .c (.ptr h.next 0), .c (.int .i64 0), .junk, .junk] →
      ∃ r, loopK (evCallT table 28 N d) N ir27_k0 ir27_l0 N loc (h.new (.cells [.nils])) = some r ∧ ∃ x a0 a1 l h', r = (.exit 0, a0 :: a1 :: .c (.ptr h.next 0) :: l, h') ∧ Mine 3 (h.new (.cells [.nils])) h' x n (tksC (List.replicate n tk0)) ∧ h'.get h.next = some (.cells [x]) ∧ Ext h h' := by
    intro loc hloc
    refine loop_inv (n := n) (fun i loc h' => ∃ x, Mine 3 (h.new (.cells [.nils])) h' x i (tksC (List.replicate i tk0)) ∧ h'.get h.next = some (.cells [x]) ∧ Ext h h' ∧ (h.new (.cells [.nils])).next ≤ h'.next ∧ loc = [.c (.int .i64 (n : Int)), .junk, .c (.ptr h.next 0), .c (.int .i64 (i : Int)), .junk, .junk]) _ ?_ ⟨.nils, Mine.nil, get_new_at, (Ext.refl _).new _, Nat.le_refl _, hloc⟩ (by omega)
    rintro i loc h' hi ⟨x, mx, gx, he, hle, rfl⟩
    rw [next_new] at hle
    unfold ir27_l0
    by_cases hlt : i < n
    · left
      refine ⟨hlt, ?_⟩
      have v1 : decide ((i : Int) < (n : Int)) = true := ltNat hlt
      have v2 := succI (i := i) (by omega)
      have e0 : Ext h' (h'.new (.cells [.int .i64 0, .int .i64 0, .int .i64 (-1)])) := (Ext.refl _).new _
      have r0 : (h'.new (.cells [.int .i64 0, .int .i64 0, .int .i64 (-1)])).read h.next 0 1 = some [x] := read_cells ((get_new_old (by omega)).trans gx) rfl
      have r0' : h'.read h.next 0 1 = some [x] := read_cells gx rfl
      have hs : source (h'.new (.cells [.int .i64 0, .int .i64 0, .int .i64 (-1)])) 3 (.c (.sl h'.next 0 1 (.ex 1))) = some (0 + 1, tkC tk0) := source_new (n := 0 + 1) get_new_at rfl
      obtain ⟨H, a1, a2, a3, a4⟩ := app_mine (m := 0) (mx.new (.cells [.int .i64 0, .int .i64 0, .int .i64 (-1)])) (by rw [next_new, next_new]; omega) hs rfl (by omega)
      rw [next_new] at a1 a3 a4
      have hxp : blk x ≠ some h.next := fun e => by have := mx.young _ e; rw [next_new] at this; omega
      have gp : H.get h.next = some (.cells [x]) := by rw [a4 _ (by omega) hxp, get_new_old (by omega)]; exact gx
      have W := write_one (o := 0) (v := .sl (h'.next + 1) 0 (i + (0 + 1)) (.dy 3)) gp (by simp)
      simp only [enter_eq, ev_seq, seqK_norm, seqK_exit, seqK_ret, ev_reg, ev_cond, condK_true, condK_false, ev_block, blockK_norm, blockK_ret, blockK_exit, ev_loop, ev_skip, ev_exit, ev_ret, regK_cons, regK_nil, guard_none, guard_some, regG_true, regG_false, regO_some, op_mov, op_conv, op_bin, op_bsl, op_box, op_mks, op_s2b, op_pick, op_un, op_eq, op_len, op_ext, op_load, op_iaddr, op_slice, op_b2s, op_idxS, op_mx, op_mn, op_call, op_store, op_app, op_copy, args_eq, result_one', rv_loc, finish_norm, finish_ret, outK_some, keep_true, keep_false, keep_nil, p_bin, p_pick, p_un, p_eq, p_conv, evNew, pureK_some, newK_some, X.eval, set_none, set_some, List.map_cons, List.map_nil, List.getD_cons_zero, List.getD_cons_succ, List.getD_nil, List.set_cons_zero, List.set_cons_succ, binCV, unCV, isShift, intArithF_eq, shiftF_eq, wrapF_eq, intArith, shift, eqVal, bound, asNat_cast, cond_true, cond_false, BEq.rfl, beq_self_eq_true, evalParts, fillParts, AV.cells, AV.ofCells, XV.av, AV.xv, List.length_cons, List.length_nil, zeros, patch, setMany, List.nil_append, List.cons_append, Nat.ble, Nat.add_eq, Nat.zero_add, Nat.add_zero, Nat.reduceAdd, Nat.reduceMul, Nat.reduceSub, Nat.ble_eq, Nat.reduceLeDiff, Nat.reduceBEq, Int.reduceBEq, Int.reduceNeg, Bool.and_true, Bool.and_false, Bool.true_and, Bool.false_and, Bool.not_true, Bool.not_false, Bool.true_eq_false, Bool.false_eq_true, Int.reduceLT, Int.reduceLE, Int.reduceGT, Int.reduceGE, decide_true, decide_false, Bool.not_eq_true, loopN_norm, loopN_exit, tf, ft, ff, v1, v2, op_nilchk, p_nilchk, op_faddr, p_faddr, op_build, p_build', p_load, r0, r0', AV.ofCells, a1, evEff, W]
      have xx : ExtB [h.next] H (H.put h.next (.cells [.sl (h'.next + 1) 0 (i + (0 + 1)) (.dy 3)])) := (ExtB.refl _ _).put (.inr (List.mem_singleton.2 rfl)) _
      refine ⟨_, _, rfl, .sl (h'.next + 1) 0 (i + (0 + 1)) (.dy 3), ?_, get_put_at, ?_, ?_, rfl⟩
      · have := a2.keepB xx (fun k hk hS => by simp [blk, next_new] at hk; simp at hS; omega)
        rw [tksC_rep'] at this; exact this
      · refine ⟨by rw [next_put, a3]; have := he.1; omega, fun k hk => ?_⟩
        rw [get_put_ne (by omega), a4 k (by omega) (fun e => by have := mx.young k e; rw [next_new] at this; omega), get_new_old (by omega)]; exact he.2 k hk
      · rw [next_put, a3, next_new]; omega
    · right
      have hin : i = n := by omega
      subst hin
      have v1 : decide ((i : Int) < (i : Int)) = false := geNat (Nat.le_refl _)
      simp only [enter_eq, ev_seq, seqK_norm, seqK_exit, seqK_ret, ev_reg, ev_cond, condK_true, condK_false, ev_block, blockK_norm, blockK_ret, blockK_exit, ev_loop, ev_skip, ev_exit, ev_ret, regK_cons, regK_nil, guard_none, guard_some, regG_true, regG_false, regO_some, op_mov, op_conv, op_bin, op_bsl, op_box, op_mks, op_s2b, op_pick, op_un, op_eq, op_len, op_ext, op_load, op_iaddr, op_slice, op_b2s, op_idxS, op_mx, op_mn, op_call, op_store, op_app, op_copy, args_eq, result_one', rv_loc, finish_norm, finish_ret, outK_some, keep_true, keep_false, keep_nil, p_bin, p_pick, p_un, p_eq, p_conv, evNew, pureK_some, newK_some, X.eval, set_none, set_some, List.map_cons, List.map_nil, List.getD_cons_zero, List.getD_cons_succ, List.getD_nil, List.set_cons_zero, List.set_cons_succ, binCV, unCV, isShift, intArithF_eq, shiftF_eq, wrapF_eq, intArith, shift, eqVal, bound, asNat_cast, cond_true, cond_false, BEq.rfl, beq_self_eq_true, evalParts, fillParts, AV.cells, AV.ofCells, XV.av, AV.xv, List.length_cons, List.length_nil, zeros, patch, setMany, List.nil_append, List.cons_append, Nat.ble, Nat.add_eq, Nat.zero_add, Nat.add_zero, Nat.reduceAdd, Nat.reduceMul, Nat.reduceSub, Nat.ble_eq, Nat.reduceLeDiff, Nat.reduceBEq, Int.reduceBEq, Int.reduceNeg, Bool.and_true, Bool.and_false, Bool.true_and, Bool.false_and, Bool.not_true, Bool.not_false, Bool.true_eq_false, Bool.false_eq_true, Int.reduceLT, Int.reduceLE, Int.reduceGT, Int.reduceGE, decide_true, decide_false, Bool.not_eq_true, loopN_norm, loopN_exit, tf, ft, ff, v1]
      exact ⟨_, rfl, by simp, x, _, _, _, h', rfl, mx, gx, he⟩
  obtain ⟨r, hr, x, a0, a1, l, h', rfl, mx, gx, he⟩ := L [.c (.int .i64 (n : Int)), .c .nilp, .c (.ptr h.next 0), .c (.int .i64 0), .c (.bool false), .tup []] rfl
  simp only [enter_eq, ev_seq, seqK_norm, seqK_exit, seqK_ret, ev_reg, ev_cond, condK_true, condK_false, ev_block, blockK_norm, blockK_ret, blockK_exit, ev_loop, ev_skip, ev_exit, ev_ret, regK_cons, regK_nil, guard_none, guard_some, regG_true, regG_false, regO_some, op_mov, op_conv, op_bin, op_bsl, op_box, op_mks, op_s2b, op_pick, op_un, op_eq, op_len, op_ext, op_load, op_iaddr, op_slice, op_b2s, op_idxS, op_mx, op_mn, op_call, op_store, op_app, op_copy, args_eq, result_one', rv_loc, finish_norm, finish_ret, outK_some, keep_true, keep_false, keep_nil, p_bin, p_pick, p_un, p_eq, p_conv, evNew, pureK_some, newK_some, X.eval, set_none, set_some, List.map_cons, List.map_nil, List.getD_cons_zero, List.getD_cons_succ, List.getD_nil, List.set_cons_zero, List.set_cons_succ, binCV, unCV, isShift, intArithF_eq, shiftF_eq, wrapF_eq, intArith, shift, eqVal, bound, asNat_cast, cond_true, cond_false, BEq.rfl, beq_self_eq_true, evalParts, fillParts, AV.cells, AV.ofCells, XV.av, AV.xv, List.length_cons, List.length_nil, zeros, patch, setMany, List.nil_append, List.cons_append, Nat.ble, Nat.add_eq, Nat.zero_add, Nat.add_zero, Nat.reduceAdd, Nat.reduceMul, Nat.reduceSub, Nat.ble_eq, Nat.reduceLeDiff, Nat.reduceBEq, Int.reduceBEq, Int.reduceNeg, Bool.and_true, Bool.and_false, Bool.true_and, Bool.false_and, Bool.not_true, Bool.not_false, Bool.true_eq_false, Bool.false_eq_true, Int.reduceLT, Int.reduceLE, Int.reduceGT, Int.reduceGE, decide_true, decide_false, Bool.not_eq_true, loopN_norm, loopN_exit, tf, ft, ff, c1, c2, op_build, p_build', hr, blockK_exit_eq]
  obtain ⟨_, ⟨_, h0⟩ | ⟨i, rfl, g, h3, h4⟩⟩ := mx
  · omega
  · rw [next_new] at h3
    exact ⟨h.next, i, h', rfl, ⟨by rw [List.length_replicate]; exact gx, g, by omega, by omega, h4⟩, he, Nat.le_refl _, by omega⟩
end
end Lav
