/-
  Layer 7: what tasks do.
-/
import Derived.Test.YtakkkibaaipmcaaIr
import Derived.Test.YtakkkibaaipmcaaFwO
set_option maxRecDepth 100000
set_option linter.unusedSimpArgs false
namespace Lav
open Go (IntKind)

/-- A task: its state, where it stands, what it waits for. -/
structure Tk where
  st : Int
  pc : Int
  on : Int
abbrev Tks := List Tk
def tk0 : Tk := ⟨0, 0, -1⟩
def tkC (t : Tk) : List CV := [icell t.st, icell t.pc, icell t.on]
def tksC : Tks → List CV
  | [] => []
  | t :: ts => tkC t ++ tksC ts

theorem tksC_len : ∀ (ts : Tks), (tksC ts).length = ts.length * 3
  | [] => rfl
  | t :: ts => by simp [tksC, tkC, tksC_len ts]; omega
theorem tksC_drop : ∀ (i : Nat) (ts : Tks), (tksC ts).drop (i * 3) = tksC (ts.drop i)
  | 0, _ => by simp
  | i + 1, [] => by simp [tksC]
  | i + 1, t :: ts => by
    rw [show (i + 1) * 3 = 3 + i * 3 by omega, ← List.drop_drop]
    show ((tkC t ++ tksC ts).drop 3).drop (i * 3) = _
    have : (tkC t ++ tksC ts).drop 3 = tksC ts := rfl
    rw [this, tksC_drop i ts]; rfl
theorem tksC_cut {ts : Tks} {i : Nat} (hi : i < ts.length) : cut (tksC ts) (i * 3) 3 = some (tkC ts[i]) := by
  rw [cut_part (by rw [tksC_len]; omega), tksC_drop, List.drop_eq_getElem_cons hi]
  simp [tksC, tkC]
theorem tksC_get {ts : Tks} {i k : Nat} (hi : i < ts.length) (hk : k < 3) : (tksC ts)[i * 3 + k]? = (tkC ts[i])[k]? := by
  have e : ((tksC ts).drop (i * 3))[k]? = (tksC ts)[i * 3 + k]? := by rw [List.getElem?_drop]
  rw [← e, tksC_drop, List.drop_eq_getElem_cons hi]
  simp only [tksC]
  rw [List.getElem?_append_left (by simpa [tkC] using hk)]
theorem tksC_put : ∀ (ts : Tks) (i : Nat) (_ : i < ts.length) (t : Tk), (tksC ts).take (i * 3) ++ tkC t ++ (tksC ts).drop (i * 3 + 3) = tksC (ts.set i t)
  | s :: ts, 0, _, t => rfl
  | s :: ts, i + 1, h, t => by
    have := tksC_put ts i (by simpa using h) t
    rw [show (i + 1) * 3 = i * 3 + 1 + 1 + 1 by omega, show i * 3 + 1 + 1 + 1 + 3 = (i * 3 + 3) + 1 + 1 + 1 by omega]
    simp only [tksC, tkC, List.cons_append, List.nil_append, List.take_succ_cons, List.drop_succ_cons, List.set_cons_succ] at *
    rw [← this]
theorem tksC_set0 : ∀ (ts : Tks) (i : Nat) (hi : i < ts.length) (v : Int), (tksC ts).set (i * 3) (icell v) = tksC (ts.set i { ts[i] with st := v })
  | s :: ts, 0, _, v => rfl
  | s :: ts, i + 1, h, v => by
    have := tksC_set0 ts i (by simpa using h) v
    rw [show (i + 1) * 3 = i * 3 + 1 + 1 + 1 by omega]
    simp only [tksC, tkC, List.cons_append, List.nil_append, List.set_cons_succ, List.getElem_cons_succ] at *
    rw [this]
theorem tksC_set1 : ∀ (ts : Tks) (i : Nat) (hi : i < ts.length) (v : Int), (tksC ts).set (i * 3 + 1) (icell v) = tksC (ts.set i { ts[i] with pc := v })
  | s :: ts, 0, _, v => rfl
  | s :: ts, i + 1, h, v => by
    have := tksC_set1 ts i (by simpa using h) v
    rw [show (i + 1) * 3 + 1 = i * 3 + 1 + 1 + 1 + 1 by omega]
    simp only [tksC, tkC, List.cons_append, List.nil_append, List.set_cons_succ, List.getElem_cons_succ] at *
    rw [this]
theorem tksC_set2 : ∀ (ts : Tks) (i : Nat) (hi : i < ts.length) (v : Int), (tksC ts).set (i * 3 + 2) (icell v) = tksC (ts.set i { ts[i] with on := v })
  | s :: ts, 0, _, v => rfl
  | s :: ts, i + 1, h, v => by
    have := tksC_set2 ts i (by simpa using h) v
    rw [show (i + 1) * 3 + 2 = i * 3 + 2 + 1 + 1 + 1 by omega]
    simp only [tksC, tkC, List.cons_append, List.nil_append, List.set_cons_succ, List.getElem_cons_succ] at *
    rw [this]

structure SB (h : Heap) (p b : Nat) (ts : Tks) : Prop where
  cell : h.get p = some (.cells [.sl b 0 ts.length (.ex ts.length)])
  tasks : h.get b = some (.cells (tksC ts))
  ne : p ≠ b
  pn : p < h.next
  bn : b < h.next

theorem SB.ext {h h' : Heap} {p b : Nat} {ts : Tks} (t : SB h p b ts) {S : List Nat} (e : ExtB S h h') (hp : p ∉ S) (hb : b ∉ S) : SB h' p b ts :=
  ⟨e.at_ t.cell t.pn hp, e.at_ t.tasks t.bn hb, t.ne, Nat.lt_of_lt_of_le t.pn e.1, Nat.lt_of_lt_of_le t.bn e.1⟩
theorem SB.put {h : Heap} {p b : Nat} {ts ts' : Tks} (t : SB h p b ts) (hl : ts'.length = ts.length) : SB (h.put b (.cells (tksC ts'))) p b ts' :=
  ⟨by rw [get_put_ne t.ne, hl]; exact t.cell, get_put_at, t.ne, t.pn, t.bn⟩
theorem SB.r {h : Heap} {p b : Nat} {ts : Tks} (t : SB h p b ts) : h.read p 0 1 = some [.sl b 0 ts.length (.ex ts.length)] := read_cells t.cell rfl
theorem SB.rs {h : Heap} {p b : Nat} {ts : Tks} (t : SB h p b ts) {i : Nat} (hi : i < ts.length) : h.read b (i * 3) 1 = some [.int .i64 ts[i].st] := read_cells t.tasks (by have := tksC_get hi (k := 0) (by omega); rw [Nat.add_zero] at this; rw [this]; rfl)
theorem SB.rt {h : Heap} {p b : Nat} {ts : Tks} (t : SB h p b ts) {i : Nat} (hi : i < ts.length) : h.read b (i * 3) 3 = some [.int .i64 ts[i].st, .int .i64 ts[i].pc, .int .i64 ts[i].on] := by
  simp only [Heap.read, t.tasks]; exact tksC_cut hi
theorem SB.w0 {h : Heap} {p b : Nat} {ts : Tks} (t : SB h p b ts) {i : Nat} (hi : i < ts.length) (v : Int) : h.write b (i * 3) [.int .i64 v] = some (h.put b (.cells (tksC (ts.set i { ts[i] with st := v })))) := by
  rw [← tksC_set0 ts i hi v]; exact write_one (v := icell v) t.tasks (by rw [tksC_len]; omega)
theorem SB.w1 {h : Heap} {p b : Nat} {ts : Tks} (t : SB h p b ts) {i : Nat} (hi : i < ts.length) (v : Int) : h.write b (i * 3 + 1) [.int .i64 v] = some (h.put b (.cells (tksC (ts.set i { ts[i] with pc := v })))) := by
  rw [← tksC_set1 ts i hi v]; exact write_one (v := icell v) t.tasks (by rw [tksC_len]; omega)
theorem SB.w2 {h : Heap} {p b : Nat} {ts : Tks} (t : SB h p b ts) {i : Nat} (hi : i < ts.length) (v : Int) : h.write b (i * 3 + 2) [.int .i64 v] = some (h.put b (.cells (tksC (ts.set i { ts[i] with on := v })))) := by
  rw [← tksC_set2 ts i hi v]; exact write_one (v := icell v) t.tasks (by rw [tksC_len]; omega)
theorem SB.w3 {h : Heap} {p b : Nat} {ts : Tks} (t : SB h p b ts) {i : Nat} (hi : i < ts.length) (s q o : Int) : h.write b (i * 3) [.int .i64 s, .int .i64 q, .int .i64 o] = some (h.put b (.cells (tksC (ts.set i ⟨s, q, o⟩)))) := by
  rw [← tksC_put ts i hi ⟨s, q, o⟩]; exact write_many (vs := tkC ⟨s, q, o⟩) t.tasks (by rw [tksC_len]; simp [tkC]; omega)

section
variable {N d : Nat} {h : Heap} {p b : Nat} {ts : Tks}

theorem has_ok (s : SB h p b ts) {t : Nat} (ht : t < ts.length) : evCallT table 28 N (d + 1) 57 [.c (.ptr p 0), .c (.int .i64 (t : Int))] h = some (.c (.bool true), h) := by
  have c1 : decide ((t : Int) ≥ 0) = true := decide_eq_true (by omega)
  have c2 : decide ((t : Int) < (ts.length : Int)) = true := ltNat ht
  have ll : ∀ loc vals h', evPure loc (.c (.sl b 0 ts.length (.ex ts.length)) :: vals) h' (.len .sl (.val 0)) = some (.c (.int .i64 (ts.length : Int))) := fun _ _ _ => rfl
  rw [evCallT_eq (F := ir57) rfl rfl rfl]
  unfold ir57
  rw [bodyK_eq]
  simp only [enter_eq, ev_seq, seqK_norm, seqK_exit, seqK_ret, ev_reg, ev_cond, condK_true, condK_false, ev_block, blockK_norm, blockK_ret, blockK_exit, ev_loop, ev_skip, ev_exit, ev_ret, regK_cons, regK_nil, guard_none, guard_some, regG_true, regG_false, regO_some, op_mov, op_conv, op_bin, op_bsl, op_box, op_mks, op_s2b, op_pick, op_un, op_eq, op_len, op_ext, op_load, op_iaddr, op_slice, op_b2s, op_idxS, op_mx, op_mn, op_call, op_store, op_app, op_copy, args_eq, result_one', rv_loc, finish_norm, finish_ret, outK_some, keep_true, keep_false, keep_nil, p_bin, p_pick, p_un, p_eq, p_conv, evNew, pureK_some, newK_some, X.eval, set_none, set_some, List.map_cons, List.map_nil, List.getD_cons_zero, List.getD_cons_succ, List.getD_nil, List.set_cons_zero, List.set_cons_succ, binCV, unCV, isShift, intArithF_eq, shiftF_eq, wrapF_eq, intArith, shift, eqVal, bound, asNat_cast, cond_true, cond_false, BEq.rfl, beq_self_eq_true, evalParts, fillParts, AV.cells, AV.ofCells, XV.av, AV.xv, List.length_cons, List.length_nil, zeros, patch, setMany, List.nil_append, List.cons_append, Nat.ble, Nat.add_eq, Nat.zero_add, Nat.add_zero, Nat.reduceAdd, Nat.reduceMul, Nat.reduceSub, Nat.ble_eq, Nat.reduceLeDiff, Nat.reduceBEq, Int.reduceBEq, Int.reduceNeg, Bool.and_true, Bool.and_false, Bool.true_and, Bool.false_and, Bool.not_true, Bool.not_false, Bool.true_eq_false, Bool.false_eq_true, Int.reduceLT, Int.reduceLE, Int.reduceGT, Int.reduceGE, decide_true, decide_false, Bool.not_eq_true, loopN_norm, loopN_exit, tf, ft, ff, c1, c2, op_nilchk, p_nilchk, op_faddr, p_faddr, p_load, s.r, AV.ofCells, ll]

theorem is_ok (s : SB h p b ts) {t : Nat} (ht : t < ts.length) (st : Int) : evCallT table 28 N (d + 2) 52 [.c (.ptr p 0), .c (.int .i64 (t : Int)), .c (.int .i64 st)] h = some (.c (.bool (ts[t].st == st)), h) := by
  have e1 := has_ok (N := N) (d := d) s ht
  have m1 : Nat.blt t ts.length = true := bltT ht
  rw [evCallT_eq (F := ir52) rfl rfl rfl]
  unfold ir52
  rw [bodyK_eq]
  simp only [enter_eq, ev_seq, seqK_norm, seqK_exit, seqK_ret, ev_reg, ev_cond, condK_true, condK_false, ev_block, blockK_norm, blockK_ret, blockK_exit, ev_loop, ev_skip, ev_exit, ev_ret, regK_cons, regK_nil, guard_none, guard_some, regG_true, regG_false, regO_some, op_mov, op_conv, op_bin, op_bsl, op_box, op_mks, op_s2b, op_pick, op_un, op_eq, op_len, op_ext, op_load, op_iaddr, op_slice, op_b2s, op_idxS, op_mx, op_mn, op_call, op_store, op_app, op_copy, args_eq, result_one', rv_loc, finish_norm, finish_ret, outK_some, keep_true, keep_false, keep_nil, p_bin, p_pick, p_un, p_eq, p_conv, evNew, pureK_some, newK_some, X.eval, set_none, set_some, List.map_cons, List.map_nil, List.getD_cons_zero, List.getD_cons_succ, List.getD_nil, List.set_cons_zero, List.set_cons_succ, binCV, unCV, isShift, intArithF_eq, shiftF_eq, wrapF_eq, intArith, shift, eqVal, bound, asNat_cast, cond_true, cond_false, BEq.rfl, beq_self_eq_true, evalParts, fillParts, AV.cells, AV.ofCells, XV.av, AV.xv, List.length_cons, List.length_nil, zeros, patch, setMany, List.nil_append, List.cons_append, Nat.ble, Nat.add_eq, Nat.zero_add, Nat.add_zero, Nat.reduceAdd, Nat.reduceMul, Nat.reduceSub, Nat.ble_eq, Nat.reduceLeDiff, Nat.reduceBEq, Int.reduceBEq, Int.reduceNeg, Bool.and_true, Bool.and_false, Bool.true_and, Bool.false_and, Bool.not_true, Bool.not_false, Bool.true_eq_false, Bool.false_eq_true, Int.reduceLT, Int.reduceLE, Int.reduceGT, Int.reduceGE, decide_true, decide_false, Bool.not_eq_true, loopN_norm, loopN_exit, tf, ft, ff, e1, op_nilchk, p_nilchk, op_faddr, p_faddr, p_iaddr, p_load, s.r, s.rs ht, m1, AV.ofCells]

theorem wake_ok (s : SB h p b ts) {t : Nat} (ht : t < ts.length) (pc : Nat) :
    evCallT table 28 N (d + 3) 29 [.c (.ptr p 0), .c (.int .i64 (t : Int)), .c (.int .i64 (pc : Int))] h =
      if ts[t].st = 0 ∨ ts[t].st = 3 then some (.c (.bool true), h.put b (.cells (tksC (ts.set t ⟨1, pc, -1⟩)))) else some (.c (.bool false), h) := by
  have e0 := is_ok (N := N) (d := d) s ht 0
  have e3 := is_ok (N := N) (d := d) s ht 3
  have c1 : decide ((pc : Int) < 0) = false := decide_eq_false (by omega)
  have m1 : Nat.blt t ts.length = true := bltT ht
  have W := s.w3 ht 1 pc (-1)
  rw [evCallT_eq (F := ir29) rfl rfl rfl]
  unfold ir29
  rw [bodyK_eq]
  by_cases h0 : ts[t].st = 0
  · have q0 : (ts[t].st == 0) = true := by simp [h0]
    rw [if_pos (.inl h0)]
    rw [q0] at e0
    simp only [enter_eq, ev_seq, seqK_norm, seqK_exit, seqK_ret, ev_reg, ev_cond, condK_true, condK_false, ev_block, blockK_norm, blockK_ret, blockK_exit, ev_loop, ev_skip, ev_exit, ev_ret, regK_cons, regK_nil, guard_none, guard_some, regG_true, regG_false, regO_some, op_mov, op_conv, op_bin, op_bsl, op_box, op_mks, op_s2b, op_pick, op_un, op_eq, op_len, op_ext, op_load, op_iaddr, op_slice, op_b2s, op_idxS, op_mx, op_mn, op_call, op_store, op_app, op_copy, args_eq, result_one', rv_loc, finish_norm, finish_ret, outK_some, keep_true, keep_false, keep_nil, p_bin, p_pick, p_un, p_eq, p_conv, evNew, pureK_some, newK_some, X.eval, set_none, set_some, List.map_cons, List.map_nil, List.getD_cons_zero, List.getD_cons_succ, List.getD_nil, List.set_cons_zero, List.set_cons_succ, binCV, unCV, isShift, intArithF_eq, shiftF_eq, wrapF_eq, intArith, shift, eqVal, bound, asNat_cast, cond_true, cond_false, BEq.rfl, beq_self_eq_true, evalParts, fillParts, AV.cells, AV.ofCells, XV.av, AV.xv, List.length_cons, List.length_nil, zeros, patch, setMany, List.nil_append, List.cons_append, Nat.ble, Nat.add_eq, Nat.zero_add, Nat.add_zero, Nat.reduceAdd, Nat.reduceMul, Nat.reduceSub, Nat.ble_eq, Nat.reduceLeDiff, Nat.reduceBEq, Int.reduceBEq, Int.reduceNeg, Bool.and_true, Bool.and_false, Bool.true_and, Bool.false_and, Bool.not_true, Bool.not_false, Bool.true_eq_false, Bool.false_eq_true, Int.reduceLT, Int.reduceLE, Int.reduceGT, Int.reduceGE, decide_true, decide_false, Bool.not_eq_true, loopN_norm, loopN_exit, tf, ft, ff, c1, e0, op_nilchk, p_nilchk, op_faddr, p_faddr, op_build, p_build', p_iaddr, p_load, s.r, m1, AV.ofCells, evEff, W]
  · have q0 : (ts[t].st == 0) = false := by simp [h0]
    rw [q0] at e0
    by_cases h3 : ts[t].st = 3
    · have q3 : (ts[t].st == 3) = true := by simp [h3]
      rw [if_pos (.inr h3)]
      rw [q3] at e3
      simp only [enter_eq, ev_seq, seqK_norm, seqK_exit, seqK_ret, ev_reg, ev_cond, condK_true, condK_false, ev_block, blockK_norm, blockK_ret, blockK_exit, ev_loop, ev_skip, ev_exit, ev_ret, regK_cons, regK_nil, guard_none, guard_some, regG_true, regG_false, regO_some, op_mov, op_conv, op_bin, op_bsl, op_box, op_mks, op_s2b, op_pick, op_un, op_eq, op_len, op_ext, op_load, op_iaddr, op_slice, op_b2s, op_idxS, op_mx, op_mn, op_call, op_store, op_app, op_copy, args_eq, result_one', rv_loc, finish_norm, finish_ret, outK_some, keep_true, keep_false, keep_nil, p_bin, p_pick, p_un, p_eq, p_conv, evNew, pureK_some, newK_some, X.eval, set_none, set_some, List.map_cons, List.map_nil, List.getD_cons_zero, List.getD_cons_succ, List.getD_nil, List.set_cons_zero, List.set_cons_succ, binCV, unCV, isShift, intArithF_eq, shiftF_eq, wrapF_eq, intArith, shift, eqVal, bound, asNat_cast, cond_true, cond_false, BEq.rfl, beq_self_eq_true, evalParts, fillParts, AV.cells, AV.ofCells, XV.av, AV.xv, List.length_cons, List.length_nil, zeros, patch, setMany, List.nil_append, List.cons_append, Nat.ble, Nat.add_eq, Nat.zero_add, Nat.add_zero, Nat.reduceAdd, Nat.reduceMul, Nat.reduceSub, Nat.ble_eq, Nat.reduceLeDiff, Nat.reduceBEq, Int.reduceBEq, Int.reduceNeg, Bool.and_true, Bool.and_false, Bool.true_and, Bool.false_and, Bool.not_true, Bool.not_false, Bool.true_eq_false, Bool.false_eq_true, Int.reduceLT, Int.reduceLE, Int.reduceGT, Int.reduceGE, decide_true, decide_false, Bool.not_eq_true, loopN_norm, loopN_exit, tf, ft, ff, c1, e0, e3, op_nilchk, p_nilchk, op_faddr, p_faddr, op_build, p_build', p_iaddr, p_load, s.r, m1, AV.ofCells, evEff, W]
    · have q3 : (ts[t].st == 3) = false := by simp [h3]
      rw [if_neg (fun e => e.elim h0 h3)]
      rw [q3] at e3
      simp only [enter_eq, ev_seq, seqK_norm, seqK_exit, seqK_ret, ev_reg, ev_cond, condK_true, condK_false, ev_block, blockK_norm, blockK_ret, blockK_exit, ev_loop, ev_skip, ev_exit, ev_ret, regK_cons, regK_nil, guard_none, guard_some, regG_true, regG_false, regO_some, op_mov, op_conv, op_bin, op_bsl, op_box, op_mks, op_s2b, op_pick, op_un, op_eq, op_len, op_ext, op_load, op_iaddr, op_slice, op_b2s, op_idxS, op_mx, op_mn, op_call, op_store, op_app, op_copy, args_eq, result_one', rv_loc, finish_norm, finish_ret, outK_some, keep_true, keep_false, keep_nil, p_bin, p_pick, p_un, p_eq, p_conv, evNew, pureK_some, newK_some, X.eval, set_none, set_some, List.map_cons, List.map_nil, List.getD_cons_zero, List.getD_cons_succ, List.getD_nil, List.set_cons_zero, List.set_cons_succ, binCV, unCV, isShift, intArithF_eq, shiftF_eq, wrapF_eq, intArith, shift, eqVal, bound, asNat_cast, cond_true, cond_false, BEq.rfl, beq_self_eq_true, evalParts, fillParts, AV.cells, AV.ofCells, XV.av, AV.xv, List.length_cons, List.length_nil, zeros, patch, setMany, List.nil_append, List.cons_append, Nat.ble, Nat.add_eq, Nat.zero_add, Nat.add_zero, Nat.reduceAdd, Nat.reduceMul, Nat.reduceSub, Nat.ble_eq, Nat.reduceLeDiff, Nat.reduceBEq, Int.reduceBEq, Int.reduceNeg, Bool.and_true, Bool.and_false, Bool.true_and, Bool.false_and, Bool.not_true, Bool.not_false, Bool.true_eq_false, Bool.false_eq_true, Int.reduceLT, Int.reduceLE, Int.reduceGT, Int.reduceGE, decide_true, decide_false, Bool.not_eq_true, loopN_norm, loopN_exit, tf, ft, ff, c1, e0, e3]

theorem go_ok (s : SB h p b ts) {t : Nat} (ht : t < ts.length) (pc : Nat) :
    evCallT table 28 N (d + 3) 31 [.c (.ptr p 0), .c (.int .i64 (t : Int)), .c (.int .i64 (pc : Int))] h =
      if ts[t].st = 1 then some (.c (.bool true), h.put b (.cells (tksC (ts.set t { ts[t] with pc := pc })))) else some (.c (.bool false), h) := by
  have e0 := is_ok (N := N) (d := d) s ht 1
  have c1 : decide ((pc : Int) < 0) = false := decide_eq_false (by omega)
  have m1 : Nat.blt t ts.length = true := bltT ht
  have W := s.w1 ht pc
  rw [evCallT_eq (F := ir31) rfl rfl rfl]
  unfold ir31
  rw [bodyK_eq]
  by_cases h0 : ts[t].st = 1
  · have q0 : (ts[t].st == 1) = true := by simp [h0]
    rw [if_pos h0]
    rw [q0] at e0
    simp only [enter_eq, ev_seq, seqK_norm, seqK_exit, seqK_ret, ev_reg, ev_cond, condK_true, condK_false, ev_block, blockK_norm, blockK_ret, blockK_exit, ev_loop, ev_skip, ev_exit, ev_ret, regK_cons, regK_nil, guard_none, guard_some, regG_true, regG_false, regO_some, op_mov, op_conv, op_bin, op_bsl, op_box, op_mks, op_s2b, op_pick, op_un, op_eq, op_len, op_ext, op_load, op_iaddr, op_slice, op_b2s, op_idxS, op_mx, op_mn, op_call, op_store, op_app, op_copy, args_eq, result_one', rv_loc, finish_norm, finish_ret, outK_some, keep_true, keep_false, keep_nil, p_bin, p_pick, p_un, p_eq, p_conv, evNew, pureK_some, newK_some, X.eval, set_none, set_some, List.map_cons, List.map_nil, List.getD_cons_zero, List.getD_cons_succ, List.getD_nil, List.set_cons_zero, List.set_cons_succ, binCV, unCV, isShift, intArithF_eq, shiftF_eq, wrapF_eq, intArith, shift, eqVal, bound, asNat_cast, cond_true, cond_false, BEq.rfl, beq_self_eq_true, evalParts, fillParts, AV.cells, AV.ofCells, XV.av, AV.xv, List.length_cons, List.length_nil, zeros, patch, setMany, List.nil_append, List.cons_append, Nat.ble, Nat.add_eq, Nat.zero_add, Nat.add_zero, Nat.reduceAdd, Nat.reduceMul, Nat.reduceSub, Nat.ble_eq, Nat.reduceLeDiff, Nat.reduceBEq, Int.reduceBEq, Int.reduceNeg, Bool.and_true, Bool.and_false, Bool.true_and, Bool.false_and, Bool.not_true, Bool.not_false, Bool.true_eq_false, Bool.false_eq_true, Int.reduceLT, Int.reduceLE, Int.reduceGT, Int.reduceGE, decide_true, decide_false, Bool.not_eq_true, loopN_norm, loopN_exit, tf, ft, ff, c1, e0, op_nilchk, p_nilchk, op_faddr, p_faddr, p_iaddr, p_load, s.r, m1, AV.ofCells, evEff, W]
  · have q0 : (ts[t].st == 1) = false := by simp [h0]
    rw [if_neg h0]
    rw [q0] at e0
    simp only [enter_eq, ev_seq, seqK_norm, seqK_exit, seqK_ret, ev_reg, ev_cond, condK_true, condK_false, ev_block, blockK_norm, blockK_ret, blockK_exit, ev_loop, ev_skip, ev_exit, ev_ret, regK_cons, regK_nil, guard_none, guard_some, regG_true, regG_false, regO_some, op_mov, op_conv, op_bin, op_bsl, op_box, op_mks, op_s2b, op_pick, op_un, op_eq, op_len, op_ext, op_load, op_iaddr, op_slice, op_b2s, op_idxS, op_mx, op_mn, op_call, op_store, op_app, op_copy, args_eq, result_one', rv_loc, finish_norm, finish_ret, outK_some, keep_true, keep_false, keep_nil, p_bin, p_pick, p_un, p_eq, p_conv, evNew, pureK_some, newK_some, X.eval, set_none, set_some, List.map_cons, List.map_nil, List.getD_cons_zero, List.getD_cons_succ, List.getD_nil, List.set_cons_zero, List.set_cons_succ, binCV, unCV, isShift, intArithF_eq, shiftF_eq, wrapF_eq, intArith, shift, eqVal, bound, asNat_cast, cond_true, cond_false, BEq.rfl, beq_self_eq_true, evalParts, fillParts, AV.cells, AV.ofCells, XV.av, AV.xv, List.length_cons, List.length_nil, zeros, patch, setMany, List.nil_append, List.cons_append, Nat.ble, Nat.add_eq, Nat.zero_add, Nat.add_zero, Nat.reduceAdd, Nat.reduceMul, Nat.reduceSub, Nat.ble_eq, Nat.reduceLeDiff, Nat.reduceBEq, Int.reduceBEq, Int.reduceNeg, Bool.and_true, Bool.and_false, Bool.true_and, Bool.false_and, Bool.not_true, Bool.not_false, Bool.true_eq_false, Bool.false_eq_true, Int.reduceLT, Int.reduceLE, Int.reduceGT, Int.reduceGE, decide_true, decide_false, Bool.not_eq_true, loopN_norm, loopN_exit, tf, ft, ff, c1, e0]

theorem block_ok (s : SB h p b ts) {t : Nat} (ht : t < ts.length) (on : Nat) :
    evCallT table 28 N (d + 3) 33 [.c (.ptr p 0), .c (.int .i64 (t : Int)), .c (.int .i64 (on : Int))] h =
      if ts[t].st = 1 then some (.c (.bool true), (h.put b (.cells (tksC (ts.set t { ts[t] with st := 2 })))).put b (.cells (tksC (ts.set t ⟨2, ts[t].pc, on⟩)))) else some (.c (.bool false), h) := by
  have e0 := is_ok (N := N) (d := d) s ht 1
  have c1 : decide ((on : Int) < 0) = false := decide_eq_false (by omega)
  have m1 : Nat.blt t ts.length = true := bltT ht
  have W := s.w0 ht 2
  have s1 : SB (h.put b (.cells (tksC (ts.set t { ts[t] with st := 2 })))) p b (ts.set t { ts[t] with st := 2 }) := s.put (by simp)
  have W2 := s1.w2 (i := t) (by simpa using ht) on
  rw [List.getElem_set_self, List.set_set] at W2
  rw [evCallT_eq (F := ir33) rfl rfl rfl]
  unfold ir33
  rw [bodyK_eq]
  by_cases h0 : ts[t].st = 1
  · have q0 : (ts[t].st == 1) = true := by simp [h0]
    rw [if_pos h0]
    rw [q0] at e0
    simp only [enter_eq, ev_seq, seqK_norm, seqK_exit, seqK_ret, ev_reg, ev_cond, condK_true, condK_false, ev_block, blockK_norm, blockK_ret, blockK_exit, ev_loop, ev_skip, ev_exit, ev_ret, regK_cons, regK_nil, guard_none, guard_some, regG_true, regG_false, regO_some, op_mov, op_conv, op_bin, op_bsl, op_box, op_mks, op_s2b, op_pick, op_un, op_eq, op_len, op_ext, op_load, op_iaddr, op_slice, op_b2s, op_idxS, op_mx, op_mn, op_call, op_store, op_app, op_copy, args_eq, result_one', rv_loc, finish_norm, finish_ret, outK_some, keep_true, keep_false, keep_nil, p_bin, p_pick, p_un, p_eq, p_conv, evNew, pureK_some, newK_some, X.eval, set_none, set_some, List.map_cons, List.map_nil, List.getD_cons_zero, List.getD_cons_succ, List.getD_nil, List.set_cons_zero, List.set_cons_succ, binCV, unCV, isShift, intArithF_eq, shiftF_eq, wrapF_eq, intArith, shift, eqVal, bound, asNat_cast, cond_true, cond_false, BEq.rfl, beq_self_eq_true, evalParts, fillParts, AV.cells, AV.ofCells, XV.av, AV.xv, List.length_cons, List.length_nil, zeros, patch, setMany, List.nil_append, List.cons_append, Nat.ble, Nat.add_eq, Nat.zero_add, Nat.add_zero, Nat.reduceAdd, Nat.reduceMul, Nat.reduceSub, Nat.ble_eq, Nat.reduceLeDiff, Nat.reduceBEq, Int.reduceBEq, Int.reduceNeg, Bool.and_true, Bool.and_false, Bool.true_and, Bool.false_and, Bool.not_true, Bool.not_false, Bool.true_eq_false, Bool.false_eq_true, Int.reduceLT, Int.reduceLE, Int.reduceGT, Int.reduceGE, decide_true, decide_false, Bool.not_eq_true, loopN_norm, loopN_exit, tf, ft, ff, ev_dreg, dregK_nil, dregK_cons, dregE_true, dregP_some, dregX_some, d_mov, d_bin, d_eq, d_pick, d_un, d_conv, d_b2s, d_len, d_load, d_iaddr, d_slice, d_ext, d_call, d_store, chk_done, chk_none, chk_some, chkG_true, chkG_false, chkOne_nil, chkOne_cons, chkH_some, chkV_same, stage_none, stage_some, look_hit, look_miss, news_nil, wb_cons, wb_nil, skip0, List.reverse_cons, List.reverse_nil, d_nilchk, d_faddr, c1, e0, op_nilchk, p_nilchk, op_faddr, p_faddr, p_iaddr, p_load, s.r, m1, AV.ofCells, evEff, W, W2]
  · have q0 : (ts[t].st == 1) = false := by simp [h0]
    rw [if_neg h0]
    rw [q0] at e0
    simp only [enter_eq, ev_seq, seqK_norm, seqK_exit, seqK_ret, ev_reg, ev_cond, condK_true, condK_false, ev_block, blockK_norm, blockK_ret, blockK_exit, ev_loop, ev_skip, ev_exit, ev_ret, regK_cons, regK_nil, guard_none, guard_some, regG_true, regG_false, regO_some, op_mov, op_conv, op_bin, op_bsl, op_box, op_mks, op_s2b, op_pick, op_un, op_eq, op_len, op_ext, op_load, op_iaddr, op_slice, op_b2s, op_idxS, op_mx, op_mn, op_call, op_store, op_app, op_copy, args_eq, result_one', rv_loc, finish_norm, finish_ret, outK_some, keep_true, keep_false, keep_nil, p_bin, p_pick, p_un, p_eq, p_conv, evNew, pureK_some, newK_some, X.eval, set_none, set_some, List.map_cons, List.map_nil, List.getD_cons_zero, List.getD_cons_succ, List.getD_nil, List.set_cons_zero, List.set_cons_succ, binCV, unCV, isShift, intArithF_eq, shiftF_eq, wrapF_eq, intArith, shift, eqVal, bound, asNat_cast, cond_true, cond_false, BEq.rfl, beq_self_eq_true, evalParts, fillParts, AV.cells, AV.ofCells, XV.av, AV.xv, List.length_cons, List.length_nil, zeros, patch, setMany, List.nil_append, List.cons_append, Nat.ble, Nat.add_eq, Nat.zero_add, Nat.add_zero, Nat.reduceAdd, Nat.reduceMul, Nat.reduceSub, Nat.ble_eq, Nat.reduceLeDiff, Nat.reduceBEq, Int.reduceBEq, Int.reduceNeg, Bool.and_true, Bool.and_false, Bool.true_and, Bool.false_and, Bool.not_true, Bool.not_false, Bool.true_eq_false, Bool.false_eq_true, Int.reduceLT, Int.reduceLE, Int.reduceGT, Int.reduceGE, decide_true, decide_false, Bool.not_eq_true, loopN_norm, loopN_exit, tf, ft, ff, c1, e0]

theorem done_ok (s : SB h p b ts) {t : Nat} (ht : t < ts.length) :
    evCallT table 28 N (d + 3) 35 [.c (.ptr p 0), .c (.int .i64 (t : Int))] h =
      if ts[t].st = 1 then some (.c (.bool true), h.put b (.cells (tksC (ts.set t { ts[t] with st := 3 })))) else some (.c (.bool false), h) := by
  have e0 := is_ok (N := N) (d := d) s ht 1
  have m1 : Nat.blt t ts.length = true := bltT ht
  have W := s.w0 ht 3
  rw [evCallT_eq (F := ir35) rfl rfl rfl]
  unfold ir35
  rw [bodyK_eq]
  by_cases h0 : ts[t].st = 1
  · have q0 : (ts[t].st == 1) = true := by simp [h0]
    rw [if_pos h0]
    rw [q0] at e0
    simp only [enter_eq, ev_seq, seqK_norm, seqK_exit, seqK_ret, ev_reg, ev_cond, condK_true, condK_false, ev_block, blockK_norm, blockK_ret, blockK_exit, ev_loop, ev_skip, ev_exit, ev_ret, regK_cons, regK_nil, guard_none, guard_some, regG_true, regG_false, regO_some, op_mov, op_conv, op_bin, op_bsl, op_box, op_mks, op_s2b, op_pick, op_un, op_eq, op_len, op_ext, op_load, op_iaddr, op_slice, op_b2s, op_idxS, op_mx, op_mn, op_call, op_store, op_app, op_copy, args_eq, result_one', rv_loc, finish_norm, finish_ret, outK_some, keep_true, keep_false, keep_nil, p_bin, p_pick, p_un, p_eq, p_conv, evNew, pureK_some, newK_some, X.eval, set_none, set_some, List.map_cons, List.map_nil, List.getD_cons_zero, List.getD_cons_succ, List.getD_nil, List.set_cons_zero, List.set_cons_succ, binCV, unCV, isShift, intArithF_eq, shiftF_eq, wrapF_eq, intArith, shift, eqVal, bound, asNat_cast, cond_true, cond_false, BEq.rfl, beq_self_eq_true, evalParts, fillParts, AV.cells, AV.ofCells, XV.av, AV.xv, List.length_cons, List.length_nil, zeros, patch, setMany, List.nil_append, List.cons_append, Nat.ble, Nat.add_eq, Nat.zero_add, Nat.add_zero, Nat.reduceAdd, Nat.reduceMul, Nat.reduceSub, Nat.ble_eq, Nat.reduceLeDiff, Nat.reduceBEq, Int.reduceBEq, Int.reduceNeg, Bool.and_true, Bool.and_false, Bool.true_and, Bool.false_and, Bool.not_true, Bool.not_false, Bool.true_eq_false, Bool.false_eq_true, Int.reduceLT, Int.reduceLE, Int.reduceGT, Int.reduceGE, decide_true, decide_false, Bool.not_eq_true, loopN_norm, loopN_exit, tf, ft, ff, e0, op_nilchk, p_nilchk, op_faddr, p_faddr, p_iaddr, p_load, s.r, m1, AV.ofCells, evEff, W]
  · have q0 : (ts[t].st == 1) = false := by simp [h0]
    rw [if_neg h0]
    rw [q0] at e0
    simp only [enter_eq, ev_seq, seqK_norm, seqK_exit, seqK_ret, ev_reg, ev_cond, condK_true, condK_false, ev_block, blockK_norm, blockK_ret, blockK_exit, ev_loop, ev_skip, ev_exit, ev_ret, regK_cons, regK_nil, guard_none, guard_some, regG_true, regG_false, regO_some, op_mov, op_conv, op_bin, op_bsl, op_box, op_mks, op_s2b, op_pick, op_un, op_eq, op_len, op_ext, op_load, op_iaddr, op_slice, op_b2s, op_idxS, op_mx, op_mn, op_call, op_store, op_app, op_copy, args_eq, result_one', rv_loc, finish_norm, finish_ret, outK_some, keep_true, keep_false, keep_nil, p_bin, p_pick, p_un, p_eq, p_conv, evNew, pureK_some, newK_some, X.eval, set_none, set_some, List.map_cons, List.map_nil, List.getD_cons_zero, List.getD_cons_succ, List.getD_nil, List.set_cons_zero, List.set_cons_succ, binCV, unCV, isShift, intArithF_eq, shiftF_eq, wrapF_eq, intArith, shift, eqVal, bound, asNat_cast, cond_true, cond_false, BEq.rfl, beq_self_eq_true, evalParts, fillParts, AV.cells, AV.ofCells, XV.av, AV.xv, List.length_cons, List.length_nil, zeros, patch, setMany, List.nil_append, List.cons_append, Nat.ble, Nat.add_eq, Nat.zero_add, Nat.add_zero, Nat.reduceAdd, Nat.reduceMul, Nat.reduceSub, Nat.ble_eq, Nat.reduceLeDiff, Nat.reduceBEq, Int.reduceBEq, Int.reduceNeg, Bool.and_true, Bool.and_false, Bool.true_and, Bool.false_and, Bool.not_true, Bool.not_false, Bool.true_eq_false, Bool.false_eq_true, Int.reduceLT, Int.reduceLE, Int.reduceGT, Int.reduceGE, decide_true, decide_false, Bool.not_eq_true, loopN_norm, loopN_exit, tf, ft, ff, e0]

theorem task_ok (s : SB h p b ts) {t : Nat} (ht : t < ts.length) :
    ∃ h', evCallT table 28 N (d + 2) 45 [.c (.ptr p 0), .c (.int .i64 (t : Int))] h = some (.agg [.int .i64 ts[t].st, .int .i64 ts[t].pc, .int .i64 ts[t].on], h') ∧ Ext h h' := by
  have m1 : Nat.blt t ts.length = true := bltT ht
  have x0 : Ext h (h.new (.cells [.int .i64 0, .int .i64 0, .int .i64 0])) := (Ext.refl h).new _
  have s0 := s.ext (x0.b []) (by simp) (by simp)
  have e1 := has_ok (N := N) (d := d) s0 ht
  obtain ⟨h1, w1, g1, x1, n1⟩ := box_store (h := h) (z := [.int .i64 0, .int .i64 0, .int .i64 0]) (v := [.int .i64 ts[t].st, .int .i64 ts[t].pc, .int .i64 ts[t].on]) rfl
  have rr : h1.read h.next 0 3 = some [.int .i64 ts[t].st, .int .i64 ts[t].pc, .int .i64 ts[t].on] := by
    rw [read_part g1 (by simp)]; rfl
  rw [evCallT_eq (F := ir45) rfl rfl rfl]
  unfold ir45
  rw [bodyK_eq]
  simp only [enter_eq, ev_seq, seqK_norm, seqK_exit, seqK_ret, ev_reg, ev_cond, condK_true, condK_false, ev_block, blockK_norm, blockK_ret, blockK_exit, ev_loop, ev_skip, ev_exit, ev_ret, regK_cons, regK_nil, guard_none, guard_some, regG_true, regG_false, regO_some, op_mov, op_conv, op_bin, op_bsl, op_box, op_mks, op_s2b, op_pick, op_un, op_eq, op_len, op_ext, op_load, op_iaddr, op_slice, op_b2s, op_idxS, op_mx, op_mn, op_call, op_store, op_app, op_copy, args_eq, result_one', rv_loc, finish_norm, finish_ret, outK_some, keep_true, keep_false, keep_nil, p_bin, p_pick, p_un, p_eq, p_conv, evNew, pureK_some, newK_some, X.eval, set_none, set_some, List.map_cons, List.map_nil, List.getD_cons_zero, List.getD_cons_succ, List.getD_nil, List.set_cons_zero, List.set_cons_succ, binCV, unCV, isShift, intArithF_eq, shiftF_eq, wrapF_eq, intArith, shift, eqVal, bound, asNat_cast, cond_true, cond_false, BEq.rfl, beq_self_eq_true, evalParts, fillParts, AV.cells, AV.ofCells, XV.av, AV.xv, List.length_cons, List.length_nil, zeros, patch, setMany, List.nil_append, List.cons_append, Nat.ble, Nat.add_eq, Nat.zero_add, Nat.add_zero, Nat.reduceAdd, Nat.reduceMul, Nat.reduceSub, Nat.ble_eq, Nat.reduceLeDiff, Nat.reduceBEq, Int.reduceBEq, Int.reduceNeg, Bool.and_true, Bool.and_false, Bool.true_and, Bool.false_and, Bool.not_true, Bool.not_false, Bool.true_eq_false, Bool.false_eq_true, Int.reduceLT, Int.reduceLE, Int.reduceGT, Int.reduceGE, decide_true, decide_false, Bool.not_eq_true, loopN_norm, loopN_exit, tf, ft, ff, e1, op_nilchk, p_nilchk, op_faddr, p_faddr, p_iaddr, p_load, s0.r, s0.rt ht, m1, AV.ofCells, evEff, w1, result, RV.eval, rr]
  exact ⟨_, rfl, x1⟩

/-- Those that are ready. -/
def readyGo : Nat → Tks → List Nat
  | _, [] => []
  | i, t :: ts => if t.st = 1 then i :: readyGo (i + 1) ts else readyGo (i + 1) ts
def readyM (ts : Tks) : List Nat := readyGo 0 ts
def natL (l : List Nat) : List Int := l.map fun (n : Nat) => (n : Int)

theorem ready_app : ∀ (ts : Tks) (i : Nat) (t : Tk), readyGo i (ts ++ [t]) = readyGo i ts ++ (if t.st = 1 then [i + ts.length] else [])
  | [], i, t => by simp [readyGo]
  | u :: ts, i, t => by
    have := ready_app ts (i + 1) t
    rw [show i + 1 + ts.length = i + (u :: ts).length by simp; omega] at this
    simp only [List.cons_append, readyGo, this]
    split <;> rfl
theorem ready_len : ∀ (ts : Tks) (i : Nat), (readyGo i ts).length ≤ ts.length
  | [], _ => Nat.le_refl _
  | t :: ts, i => by
    have := ready_len ts (i + 1)
    simp only [readyGo]; split <;> simp <;> omega
theorem ready_mem : ∀ (ts : Tks) (i x : Nat), x ∈ readyGo i ts ↔ ∃ j, ∃ hj : j < ts.length, x = i + j ∧ ts[j].st = 1
  | [], i, x => by simp [readyGo]
  | t :: ts, i, x => by
    have ih := ready_mem ts (i + 1) x
    have key : x ∈ readyGo i (t :: ts) ↔ (t.st = 1 ∧ x = i) ∨ x ∈ readyGo (i + 1) ts := by
      simp only [readyGo]; split
      · rename_i h; simp [h]
      · rename_i h; simp [h]
    rw [key, ih]
    constructor
    · rintro (⟨h1, rfl⟩ | ⟨j, hj, rfl, h2⟩)
      · exact ⟨0, by simp, by simp, by simpa using h1⟩
      · exact ⟨j + 1, by simpa using hj, by omega, by simpa using h2⟩
    · rintro ⟨j, hj, rfl, h2⟩
      cases j with
      | zero => exact .inl ⟨by simpa using h2, by simp⟩
      | succ j => exact .inr ⟨j, by simpa using hj, by omega, by simpa using h2⟩

theorem ready_ok (s : SB h p b ts) (hN : ts.length + 2 ≤ N) (hn : ts.length ≤ 64) :
    ∃ y h', evCallT table 28 N (d + 1) 41 [.c (.ptr p 0)] h = some (.c y, h') ∧ Made h h' y (natL (readyM ts)) ∧ Ext h h' := by
  have ll : ∀ loc vals h', evPure loc (.c (.sl b 0 ts.length (.ex ts.length)) :: vals) h' (.len .sl (.val 0)) = some (.c (.int .i64 (ts.length : Int))) := fun _ _ _ => rfl
  rw [evCallT_eq (F := ir41) rfl rfl rfl]
  unfold ir41
  rw [bodyK_eq]
  have L : ∀ loc, keepOnly ir41_k0 loc = [.junk, .junk, .c .nils, .junk, .junk, .junk, .c (.sl b 0 ts.length (.ex ts.length)), .c (.int .i64 (ts.length : Int)), .c (.int .i64 0), .junk, .junk] →
      ∃ r, loopK (evCallT table 28 N d) N ir41_k0 ir41_l0 N loc h = some r ∧ ∃ y h' a0 a1 l, r = (.exit 0, a0 :: a1 :: .c y :: l, h') ∧ Made h h' y (natL (readyM ts)) ∧ Ext h h' := by
    intro loc hloc
    refine loop_inv (n := ts.length) (fun i loc h' => Ext h h' ∧ ∃ y, Mine 1 h h' y (readyM (ts.take i)).length ((natL (readyM (ts.take i))).map icell) ∧ loc = [.junk, .junk, .c y, .junk, .junk, .junk, .c (.sl b 0 ts.length (.ex ts.length)), .c (.int .i64 (ts.length : Int)), .c (.int .i64 (i : Int)), .junk, .junk]) _ ?_ ⟨Ext.refl h, .nils, Mine.nil, hloc⟩ (by omega)
    rintro i loc h' hi ⟨he, y, hy, rfl⟩
    unfold ir41_l0
    by_cases hlt : i < ts.length
    · left
      refine ⟨hlt, ?_⟩
      have v1 : decide ((i : Int) < (ts.length : Int)) = true := ltNat hlt
      have v2 := succI (i := i) (by omega)
      have m1 : Nat.blt i ts.length = true := bltT hlt
      have s' := s.ext (he.b []) (by simp) (by simp)
      obtain ⟨h1, w1, g1, x1, n1⟩ := box_store (h := h') (z := [.int .i64 0, .int .i64 0, .int .i64 0]) (v := [.int .i64 ts[i].st, .int .i64 ts[i].pc, .int .i64 ts[i].on]) rfl
      have q0 : h1.read h'.next 0 1 = some [.int .i64 ts[i].st] := read_cells g1 rfl
      have hy1 : Mine 1 h h1 y (readyM (ts.take i)).length ((natL (readyM (ts.take i))).map icell) := hy.keep x1.1 fun j hj _ => x1.2 j hj
      have he1 := he.trans x1
      have happ := ready_app (ts.take i) 0 ts[i]
      rw [← List.take_succ_eq_append_getElem hlt, Nat.zero_add, List.length_take, Nat.min_eq_left (Nat.le_of_lt hlt)] at happ
      have hrl := ready_len (ts.take i) 0
      rw [List.length_take] at hrl
      by_cases h0 : ts[i].st = 1
      · have q1 : (ts[i].st == 1) = true := by simp [h0]
        rw [if_pos h0] at happ
        obtain ⟨ha, a1, a2, a3, _⟩ := app_int (v := .int .i64 (i : Int)) (c := .ex 1) (hy1.new (.cells [.int .i64 (i : Int)])) (he1.new _) get_new_at (by unfold readyM; omega)
        simp only [enter_eq, ev_seq, seqK_norm, seqK_exit, seqK_ret, ev_reg, ev_cond, condK_true, condK_false, ev_block, blockK_norm, blockK_ret, blockK_exit, ev_loop, ev_skip, ev_exit, ev_ret, regK_cons, regK_nil, guard_none, guard_some, regG_true, regG_false, regO_some, op_mov, op_conv, op_bin, op_bsl, op_box, op_mks, op_s2b, op_pick, op_un, op_eq, op_len, op_ext, op_load, op_iaddr, op_slice, op_b2s, op_idxS, op_mx, op_mn, op_call, op_store, op_app, op_copy, args_eq, result_one', rv_loc, finish_norm, finish_ret, outK_some, keep_true, keep_false, keep_nil, p_bin, p_pick, p_un, p_eq, p_conv, evNew, pureK_some, newK_some, X.eval, set_none, set_some, List.map_cons, List.map_nil, List.getD_cons_zero, List.getD_cons_succ, List.getD_nil, List.set_cons_zero, List.set_cons_succ, binCV, unCV, isShift, intArithF_eq, shiftF_eq, wrapF_eq, intArith, shift, eqVal, bound, asNat_cast, cond_true, cond_false, BEq.rfl, beq_self_eq_true, evalParts, fillParts, AV.cells, AV.ofCells, XV.av, AV.xv, List.length_cons, List.length_nil, zeros, patch, setMany, List.nil_append, List.cons_append, Nat.ble, Nat.add_eq, Nat.zero_add, Nat.add_zero, Nat.reduceAdd, Nat.reduceMul, Nat.reduceSub, Nat.ble_eq, Nat.reduceLeDiff, Nat.reduceBEq, Int.reduceBEq, Int.reduceNeg, Bool.and_true, Bool.and_false, Bool.true_and, Bool.false_and, Bool.not_true, Bool.not_false, Bool.true_eq_false, Bool.false_eq_true, Int.reduceLT, Int.reduceLE, Int.reduceGT, Int.reduceGE, decide_true, decide_false, Bool.not_eq_true, loopN_norm, loopN_exit, tf, ft, ff, op_faddr, p_faddr, v1, v2, p_iaddr, p_load, m1, s'.rt hlt, w1, evEff, q0, q1, AV.ofCells, a1]
        refine ⟨_, _, rfl, a3, _, ?_, rfl⟩
        show Mine 1 h ha _ (readyGo 0 (ts.take (i + 1))).length ((natL (readyGo 0 (ts.take (i + 1)))).map icell)
        rw [happ]
        simp only [natL, List.map_append, List.length_append, List.length_cons, List.length_nil]
        exact a2
      · have q1 : (ts[i].st == 1) = false := by simp [h0]
        rw [if_neg h0, List.append_nil] at happ
        simp only [enter_eq, ev_seq, seqK_norm, seqK_exit, seqK_ret, ev_reg, ev_cond, condK_true, condK_false, ev_block, blockK_norm, blockK_ret, blockK_exit, ev_loop, ev_skip, ev_exit, ev_ret, regK_cons, regK_nil, guard_none, guard_some, regG_true, regG_false, regO_some, op_mov, op_conv, op_bin, op_bsl, op_box, op_mks, op_s2b, op_pick, op_un, op_eq, op_len, op_ext, op_load, op_iaddr, op_slice, op_b2s, op_idxS, op_mx, op_mn, op_call, op_store, op_app, op_copy, args_eq, result_one', rv_loc, finish_norm, finish_ret, outK_some, keep_true, keep_false, keep_nil, p_bin, p_pick, p_un, p_eq, p_conv, evNew, pureK_some, newK_some, X.eval, set_none, set_some, List.map_cons, List.map_nil, List.getD_cons_zero, List.getD_cons_succ, List.getD_nil, List.set_cons_zero, List.set_cons_succ, binCV, unCV, isShift, intArithF_eq, shiftF_eq, wrapF_eq, intArith, shift, eqVal, bound, asNat_cast, cond_true, cond_false, BEq.rfl, beq_self_eq_true, evalParts, fillParts, AV.cells, AV.ofCells, XV.av, AV.xv, List.length_cons, List.length_nil, zeros, patch, setMany, List.nil_append, List.cons_append, Nat.ble, Nat.add_eq, Nat.zero_add, Nat.add_zero, Nat.reduceAdd, Nat.reduceMul, Nat.reduceSub, Nat.ble_eq, Nat.reduceLeDiff, Nat.reduceBEq, Int.reduceBEq, Int.reduceNeg, Bool.and_true, Bool.and_false, Bool.true_and, Bool.false_and, Bool.not_true, Bool.not_false, Bool.true_eq_false, Bool.false_eq_true, Int.reduceLT, Int.reduceLE, Int.reduceGT, Int.reduceGE, decide_true, decide_false, Bool.not_eq_true, loopN_norm, loopN_exit, tf, ft, ff, op_faddr, p_faddr, v1, v2, p_iaddr, p_load, m1, s'.rt hlt, w1, evEff, q0, q1, AV.ofCells]
        refine ⟨_, _, rfl, he1, y, ?_, rfl⟩
        show Mine 1 h h1 _ (readyGo 0 (ts.take (i + 1))).length ((natL (readyGo 0 (ts.take (i + 1)))).map icell)
        rw [happ]; exact hy1
    · right
      have hin : i = ts.length := by omega
      subst hin
      have v1 : decide ((ts.length : Int) < (ts.length : Int)) = false := geNat (Nat.le_refl _)
      rw [List.take_length] at hy
      simp only [enter_eq, ev_seq, seqK_norm, seqK_exit, seqK_ret, ev_reg, ev_cond, condK_true, condK_false, ev_block, blockK_norm, blockK_ret, blockK_exit, ev_loop, ev_skip, ev_exit, ev_ret, regK_cons, regK_nil, guard_none, guard_some, regG_true, regG_false, regO_some, op_mov, op_conv, op_bin, op_bsl, op_box, op_mks, op_s2b, op_pick, op_un, op_eq, op_len, op_ext, op_load, op_iaddr, op_slice, op_b2s, op_idxS, op_mx, op_mn, op_call, op_store, op_app, op_copy, args_eq, result_one', rv_loc, finish_norm, finish_ret, outK_some, keep_true, keep_false, keep_nil, p_bin, p_pick, p_un, p_eq, p_conv, evNew, pureK_some, newK_some, X.eval, set_none, set_some, List.map_cons, List.map_nil, List.getD_cons_zero, List.getD_cons_succ, List.getD_nil, List.set_cons_zero, List.set_cons_succ, binCV, unCV, isShift, intArithF_eq, shiftF_eq, wrapF_eq, intArith, shift, eqVal, bound, asNat_cast, cond_true, cond_false, BEq.rfl, beq_self_eq_true, evalParts, fillParts, AV.cells, AV.ofCells, XV.av, AV.xv, List.length_cons, List.length_nil, zeros, patch, setMany, List.nil_append, List.cons_append, Nat.ble, Nat.add_eq, Nat.zero_add, Nat.add_zero, Nat.reduceAdd, Nat.reduceMul, Nat.reduceSub, Nat.ble_eq, Nat.reduceLeDiff, Nat.reduceBEq, Int.reduceBEq, Int.reduceNeg, Bool.and_true, Bool.and_false, Bool.true_and, Bool.false_and, Bool.not_true, Bool.not_false, Bool.true_eq_false, Bool.false_eq_true, Int.reduceLT, Int.reduceLE, Int.reduceGT, Int.reduceGE, decide_true, decide_false, Bool.not_eq_true, loopN_norm, loopN_exit, tf, ft, ff, v1]
      refine ⟨_, rfl, by simp, y, h', _, _, _, rfl, ?_, he⟩
      have : (readyM ts).length = (natL (readyM ts)).length := by simp [natL]
      rw [this] at hy
      exact Mine.made (by simpa using hy)
  obtain ⟨r, hr, y, h', a0, a1, l, rfl, my, he⟩ := L [.c (.ptr p 0), .c .nils, .c .nils, .tup [], .tup [], .c (.bool false), .c (.sl b 0 ts.length (.ex ts.length)), .c (.int .i64 (ts.length : Int)), .c (.int .i64 0), .tup [], .tup []] rfl
  simp only [enter_eq, ev_seq, seqK_norm, seqK_exit, seqK_ret, ev_reg, ev_cond, condK_true, condK_false, ev_block, blockK_norm, blockK_ret, blockK_exit, ev_loop, ev_skip, ev_exit, ev_ret, regK_cons, regK_nil, guard_none, guard_some, regG_true, regG_false, regO_some, op_mov, op_conv, op_bin, op_bsl, op_box, op_mks, op_s2b, op_pick, op_un, op_eq, op_len, op_ext, op_load, op_iaddr, op_slice, op_b2s, op_idxS, op_mx, op_mn, op_call, op_store, op_app, op_copy, args_eq, result_one', rv_loc, finish_norm, finish_ret, outK_some, keep_true, keep_false, keep_nil, p_bin, p_pick, p_un, p_eq, p_conv, evNew, pureK_some, newK_some, X.eval, set_none, set_some, List.map_cons, List.map_nil, List.getD_cons_zero, List.getD_cons_succ, List.getD_nil, List.set_cons_zero, List.set_cons_succ, binCV, unCV, isShift, intArithF_eq, shiftF_eq, wrapF_eq, intArith, shift, eqVal, bound, asNat_cast, cond_true, cond_false, BEq.rfl, beq_self_eq_true, evalParts, fillParts, AV.cells, AV.ofCells, XV.av, AV.xv, List.length_cons, List.length_nil, zeros, patch, setMany, List.nil_append, List.cons_append, Nat.ble, Nat.add_eq, Nat.zero_add, Nat.add_zero, Nat.reduceAdd, Nat.reduceMul, Nat.reduceSub, Nat.ble_eq, Nat.reduceLeDiff, Nat.reduceBEq, Int.reduceBEq, Int.reduceNeg, Bool.and_true, Bool.and_false, Bool.true_and, Bool.false_and, Bool.not_true, Bool.not_false, Bool.true_eq_false, Bool.false_eq_true, Int.reduceLT, Int.reduceLE, Int.reduceGT, Int.reduceGE, decide_true, decide_false, Bool.not_eq_true, loopN_norm, loopN_exit, tf, ft, ff, op_nilchk, p_nilchk, op_faddr, p_faddr, p_load, s.r, AV.ofCells, ll, hr, blockK_exit_eq]
  exact ⟨_, _, rfl, my, he⟩

/-- One of those that are ready. -/
theorem pick_none (s : SB h p b ts) (n : Int) (hr : readyM ts = []) (hN : ts.length + 2 ≤ N) (hn : ts.length ≤ 64) :
    ∃ h', evCallT table 28 N (d + 2) 39 [.c (.ptr p 0), .c (.int .i64 n)] h = some (.c (.int .i64 (-1)), h') ∧ Ext h h' := by
  obtain ⟨y, h', e1, my, he⟩ := ready_ok (N := N) (d := d) s hN hn
  rw [hr] at my
  have ly : ∀ (loc vals : List AV) (h : Heap), evPure loc (.c y :: vals) h (.len .sl (.val 0)) = some (.c (.int .i64 0)) := fun _ _ _ => my.len rfl
  rw [evCallT_eq (F := ir39) rfl rfl rfl]
  unfold ir39
  rw [bodyK_eq]
  simp only [enter_eq, ev_seq, seqK_norm, seqK_exit, seqK_ret, ev_reg, ev_cond, condK_true, condK_false, ev_block, blockK_norm, blockK_ret, blockK_exit, ev_loop, ev_skip, ev_exit, ev_ret, regK_cons, regK_nil, guard_none, guard_some, regG_true, regG_false, regO_some, op_mov, op_conv, op_bin, op_bsl, op_box, op_mks, op_s2b, op_pick, op_un, op_eq, op_len, op_ext, op_load, op_iaddr, op_slice, op_b2s, op_idxS, op_mx, op_mn, op_call, op_store, op_app, op_copy, args_eq, result_one', rv_loc, finish_norm, finish_ret, outK_some, keep_true, keep_false, keep_nil, p_bin, p_pick, p_un, p_eq, p_conv, evNew, pureK_some, newK_some, X.eval, set_none, set_some, List.map_cons, List.map_nil, List.getD_cons_zero, List.getD_cons_succ, List.getD_nil, List.set_cons_zero, List.set_cons_succ, binCV, unCV, isShift, intArithF_eq, shiftF_eq, wrapF_eq, intArith, shift, eqVal, bound, asNat_cast, cond_true, cond_false, BEq.rfl, beq_self_eq_true, evalParts, fillParts, AV.cells, AV.ofCells, XV.av, AV.xv, List.length_cons, List.length_nil, zeros, patch, setMany, List.nil_append, List.cons_append, Nat.ble, Nat.add_eq, Nat.zero_add, Nat.add_zero, Nat.reduceAdd, Nat.reduceMul, Nat.reduceSub, Nat.ble_eq, Nat.reduceLeDiff, Nat.reduceBEq, Int.reduceBEq, Int.reduceNeg, Bool.and_true, Bool.and_false, Bool.true_and, Bool.false_and, Bool.not_true, Bool.not_false, Bool.true_eq_false, Bool.false_eq_true, Int.reduceLT, Int.reduceLE, Int.reduceGT, Int.reduceGE, decide_true, decide_false, Bool.not_eq_true, loopN_norm, loopN_exit, tf, ft, ff, e1, ly]
  exact ⟨_, rfl, he⟩

theorem emod_tmod (n L : Int) : n % L = Int.tmod n L % L := by
  have h3 : L * Int.tdiv n L + Int.tmod n L = n := Int.mul_tdiv_add_tmod n L
  have h4 : (Int.tmod n L + L * Int.tdiv n L) % L = Int.tmod n L % L := Int.add_mul_emod_self_left _ _ _
  rw [(Int.add_comm (Int.tmod n L) (L * Int.tdiv n L)).trans h3] at h4
  exact h4

theorem pick_some (s : SB h p b ts) (n : Int) (hr : readyM ts ≠ []) (hN : ts.length + 2 ≤ N) (hn : ts.length ≤ 64) :
    ∃ h', ∃ k, ∃ hk : k < (readyM ts).length, evCallT table 28 N (d + 2) 39 [.c (.ptr p 0), .c (.int .i64 n)] h = some (.c (.int .i64 ((readyM ts)[k] : Int)), h') ∧ (k : Int) = n % ((readyM ts).length : Int) ∧ Ext h h' := by
  obtain ⟨y, h', e1, my, he⟩ := ready_ok (N := N) (d := d) s hN hn
  have hrl : (readyM ts).length ≤ ts.length := ready_len ts 0
  generalize hR : readyM ts = R at *
  have hpos : 0 < R.length := List.length_pos_iff.2 hr
  have hnl : (natL R).length = R.length := by simp [natL]
  have ly : ∀ (loc vals : List AV) (h : Heap), evPure loc (.c y :: vals) h (.len .sl (.val 0)) = some (.c (.int .i64 (R.length : Int))) := fun _ _ _ => by rw [← hnl]; exact my.len rfl
  have c1 : ((R.length : Int) == 0) = false := by simp only [beq_eq_false_iff_ne, ne_eq]; omega
  have b1 : 0 ≤ n % (R.length : Int) := Int.emod_nonneg _ (by omega)
  have b2 : n % (R.length : Int) < (R.length : Int) := Int.emod_lt_of_pos _ (by omega)
  obtain ⟨k, hk⟩ : ∃ k : Nat, (k : Int) = n % (R.length : Int) := ⟨(n % (R.length : Int)).toNat, by omega⟩
  have hkl : k < R.length := by omega
  obtain ⟨i, o, c, rfl, _, rx⟩ := my.ints.sl (by omega)
  have k1 := rx k (by omega)
  have k1' : h'.read i (o + k) 1 = some [.int .i64 (R[k] : Int)] := by rw [k1]; simp [natL]
  have m1 : Nat.blt k (natL R).length = true := bltT (by omega)
  rw [evCallT_eq (F := ir39) rfl rfl rfl]
  unfold ir39
  rw [bodyK_eq]
  by_cases hneg : Int.tmod n (R.length : Int) < 0
  · have e2 : IntKind.i64.wrap (Int.tmod n (R.length : Int) + (R.length : Int)) = (k : Int) := by
      have h1 : -(R.length : Int) < Int.tmod n (R.length : Int) := Int.lt_tmod_of_pos _ (by omega)
      rw [wrapI (by omega) (by omega), hk]
      have h2 : n % (R.length : Int) = (Int.tmod n (R.length : Int) + (R.length : Int)) % (R.length : Int) := by
        rw [Int.add_emod_right]; exact emod_tmod _ _
      rw [h2, Int.emod_eq_of_lt (by omega) (by omega)]
    simp only [enter_eq, ev_seq, seqK_norm, seqK_exit, seqK_ret, ev_reg, ev_cond, condK_true, condK_false, ev_block, blockK_norm, blockK_ret, blockK_exit, ev_loop, ev_skip, ev_exit, ev_ret, regK_cons, regK_nil, guard_none, guard_some, regG_true, regG_false, regO_some, op_mov, op_conv, op_bin, op_bsl, op_box, op_mks, op_s2b, op_pick, op_un, op_eq, op_len, op_ext, op_load, op_iaddr, op_slice, op_b2s, op_idxS, op_mx, op_mn, op_call, op_store, op_app, op_copy, args_eq, result_one', rv_loc, finish_norm, finish_ret, outK_some, keep_true, keep_false, keep_nil, p_bin, p_pick, p_un, p_eq, p_conv, evNew, pureK_some, newK_some, X.eval, set_none, set_some, List.map_cons, List.map_nil, List.getD_cons_zero, List.getD_cons_succ, List.getD_nil, List.set_cons_zero, List.set_cons_succ, binCV, unCV, isShift, intArithF_eq, shiftF_eq, wrapF_eq, intArith, shift, eqVal, bound, asNat_cast, cond_true, cond_false, BEq.rfl, beq_self_eq_true, evalParts, fillParts, AV.cells, AV.ofCells, XV.av, AV.xv, List.length_cons, List.length_nil, zeros, patch, setMany, List.nil_append, List.cons_append, Nat.ble, Nat.add_eq, Nat.zero_add, Nat.add_zero, Nat.reduceAdd, Nat.reduceMul, Nat.reduceSub, Nat.ble_eq, Nat.reduceLeDiff, Nat.reduceBEq, Int.reduceBEq, Int.reduceNeg, Bool.and_true, Bool.and_false, Bool.true_and, Bool.false_and, Bool.not_true, Bool.not_false, Bool.true_eq_false, Bool.false_eq_true, Int.reduceLT, Int.reduceLE, Int.reduceGT, Int.reduceGE, decide_true, decide_false, Bool.not_eq_true, loopN_norm, loopN_exit, tf, ft, ff, e1, ly, c1, decide_eq_true hneg, e2, p_iaddr, p_load, m1, Nat.mul_one, k1', AV.ofCells]
    exact ⟨_, k, hkl, rfl, hk, he⟩
  · have e2 : Int.tmod n (R.length : Int) = (k : Int) := by
      have h4 : Int.tmod n (R.length : Int) < (R.length : Int) := Int.tmod_lt_of_pos _ (by omega)
      rw [hk, emod_tmod, Int.emod_eq_of_lt (by omega) h4]
    have hneg' : ¬ ((k : Int) < 0) := by omega
    simp only [enter_eq, ev_seq, seqK_norm, seqK_exit, seqK_ret, ev_reg, ev_cond, condK_true, condK_false, ev_block, blockK_norm, blockK_ret, blockK_exit, ev_loop, ev_skip, ev_exit, ev_ret, regK_cons, regK_nil, guard_none, guard_some, regG_true, regG_false, regO_some, op_mov, op_conv, op_bin, op_bsl, op_box, op_mks, op_s2b, op_pick, op_un, op_eq, op_len, op_ext, op_load, op_iaddr, op_slice, op_b2s, op_idxS, op_mx, op_mn, op_call, op_store, op_app, op_copy, args_eq, result_one', rv_loc, finish_norm, finish_ret, outK_some, keep_true, keep_false, keep_nil, p_bin, p_pick, p_un, p_eq, p_conv, evNew, pureK_some, newK_some, X.eval, set_none, set_some, List.map_cons, List.map_nil, List.getD_cons_zero, List.getD_cons_succ, List.getD_nil, List.set_cons_zero, List.set_cons_succ, binCV, unCV, isShift, intArithF_eq, shiftF_eq, wrapF_eq, intArith, shift, eqVal, bound, asNat_cast, cond_true, cond_false, BEq.rfl, beq_self_eq_true, evalParts, fillParts, AV.cells, AV.ofCells, XV.av, AV.xv, List.length_cons, List.length_nil, zeros, patch, setMany, List.nil_append, List.cons_append, Nat.ble, Nat.add_eq, Nat.zero_add, Nat.add_zero, Nat.reduceAdd, Nat.reduceMul, Nat.reduceSub, Nat.ble_eq, Nat.reduceLeDiff, Nat.reduceBEq, Int.reduceBEq, Int.reduceNeg, Bool.and_true, Bool.and_false, Bool.true_and, Bool.false_and, Bool.not_true, Bool.not_false, Bool.true_eq_false, Bool.false_eq_true, Int.reduceLT, Int.reduceLE, Int.reduceGT, Int.reduceGE, decide_true, decide_false, Bool.not_eq_true, loopN_norm, loopN_exit, tf, ft, ff, e1, ly, c1, e2, decide_eq_false hneg', p_iaddr, p_load, m1, Nat.mul_one, k1', AV.ofCells]
    exact ⟨_, k, hkl, rfl, hk, he⟩
end
theorem tld7 : ToldOK Go.Proofs.Try.prog 28 := told_of (calls_okF 200 9) (by kernel_rfl)
end Lav
