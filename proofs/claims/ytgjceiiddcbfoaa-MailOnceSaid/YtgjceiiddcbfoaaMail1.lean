/-
  Layer 9: what the program's box does.
-/
import Derived.Test.YtgjceiiddcbfoaaIr
import Derived.Test.YtgjceiiddcbfoaaFwP
set_option maxRecDepth 100000
set_option linter.unusedSimpArgs false
namespace Lav
open Go (IntKind)

/-- Words: who, what. -/
abbrev Wd := List (Int × Int)
def keys (l : Wd) : List Int := l.map Prod.fst
def flat : Wd → List Int
  | [] => []
  | w :: l => w.1 :: w.2 :: flat l
def wx (w : Int × Int) : XV := .agg [.int .i64 w.1, .int .i64 w.2]
theorem flat_len : ∀ (l : Wd), (flat l).length = l.length * 2
  | [] => rfl
  | w :: l => by simp [flat, flat_len l]; omega
theorem flat_app : ∀ (l k : Wd), flat (l ++ k) = flat l ++ flat k
  | [], _ => rfl
  | w :: l, k => by simp [flat, flat_app l k]
theorem flat_drop : ∀ (i : Nat) (l : Wd), (flat l).drop (i * 2) = flat (l.drop i)
  | 0, _ => by simp
  | i + 1, [] => by simp [flat]
  | i + 1, w :: l => by
    rw [show (i + 1) * 2 = i * 2 + 1 + 1 by omega]
    simp only [flat, List.drop_succ_cons]
    exact flat_drop i l
theorem flat_take : ∀ (i : Nat) (l : Wd), (flat l).take (i * 2) = flat (l.take i)
  | 0, _ => by simp [flat]
  | i + 1, [] => by simp [flat]
  | i + 1, w :: l => by
    rw [show (i + 1) * 2 = i * 2 + 1 + 1 by omega]
    simp only [flat, List.take_succ_cons]
    rw [flat_take i l]

/-- The box's cells. -/
def boxC (w : Nat) (cs : List CV) (fa fo : Nat → Bool) : List CV := .ch w :: (cs ++ (bits 64 fa ++ bits 64 fo))
def optL (o : Option Int) : List XV := match o with | some v => [.c (.int .i64 v)] | none => []

structure MB (h : Heap) (p w : Nat) (cs : List Nat) (ws : Wd) (fa fo : Nat → Bool) (fh : Nat → Option Int) : Prop where
  al : cs.length = 64
  box : h.get p = some (.cells (boxC w (cs.map .ch) fa fo))
  words : h.get w = some (.chan 8 (ws.map wx))
  hears : ∀ j (hj : j < 64), h.get (cs[j]'(by omega)) = some (.chan 1 (optL (fh j)))
  nd : cs.Nodup
  pw : p ≠ w
  pa : p ∉ cs
  wa : w ∉ cs
  pn : p < h.next
  wn : w < h.next
  an : ∀ a ∈ cs, a < h.next

theorem boxC_a {w : Nat} {cs : List CV} {fa fo : Nat → Bool} (hl : cs.length = 64) {j : Nat} (hj : j < 64) : (boxC w cs fa fo)[65 + j]? = some (.bool (fa j)) := by
  unfold boxC
  rw [show 65 + j = (64 + j) + 1 by omega, List.getElem?_cons_succ, List.getElem?_append_right (by omega), List.getElem?_append_left (by rw [bits_len]; omega), hl, show 64 + j - 64 = j by omega, bits_get hj]
theorem boxC_o {w : Nat} {cs : List CV} {fa fo : Nat → Bool} (hl : cs.length = 64) {j : Nat} (hj : j < 64) : (boxC w cs fa fo)[129 + j]? = some (.bool (fo j)) := by
  unfold boxC
  rw [show 129 + j = (128 + j) + 1 by omega, List.getElem?_cons_succ, List.getElem?_append_right (by omega), List.getElem?_append_right (by rw [bits_len]; omega), hl, bits_len, show 128 + j - 64 - 64 = j by omega, bits_get hj]
theorem boxC_h {w : Nat} {cs : List CV} {fa fo : Nat → Bool} {j : Nat} (hj : j < cs.length) : (boxC w cs fa fo)[1 + j]? = some cs[j] := by
  unfold boxC
  rw [show 1 + j = j + 1 by omega, List.getElem?_cons_succ, List.getElem?_append_left hj, List.getElem?_eq_getElem hj]
theorem boxC_setA {w : Nat} {cs : List CV} {fa fo : Nat → Bool} (hl : cs.length = 64) {j : Nat} (hj : j < 64) {b : Bool} : (boxC w cs fa fo).set (65 + j) (.bool b) = boxC w cs (fun i => if i = j then b else fa i) fo := by
  unfold boxC
  rw [show 65 + j = (64 + j) + 1 by omega, List.set_cons_succ, List.set_append_right _ _ (by omega), hl, show 64 + j - 64 = j by omega, List.set_append_left _ _ (by rw [bits_len]; exact hj), bits_set]
theorem boxC_setO {w : Nat} {cs : List CV} {fa fo : Nat → Bool} (hl : cs.length = 64) {j : Nat} (hj : j < 64) {b : Bool} : (boxC w cs fa fo).set (129 + j) (.bool b) = boxC w cs fa (fun i => if i = j then b else fo i) := by
  unfold boxC
  rw [show 129 + j = (128 + j) + 1 by omega, List.set_cons_succ, List.set_append_right _ _ (by omega), hl, List.set_append_right _ _ (by rw [bits_len]; omega), bits_len, show 128 + j - 64 - 64 = j by omega, bits_set]
theorem boxC_setH {w : Nat} {cs : List CV} {fa fo : Nat → Bool} {j : Nat} (hj : j < cs.length) {v : CV} : (boxC w cs fa fo).set (1 + j) v = boxC w (cs.set j v) fa fo := by
  unfold boxC
  rw [show 1 + j = j + 1 by omega, List.set_cons_succ, List.set_append_left _ _ hj]
theorem boxC_len {w : Nat} {cs : List CV} {fa fo : Nat → Bool} (hl : cs.length = 64) : (boxC w cs fa fo).length = 193 := by
  simp [boxC, bits_len, hl]

section
variable {N d : Nat} {h : Heap} {p w : Nat} {cs : List Nat} {ws : Wd} {fa fo : Nat → Bool} {fh : Nat → Option Int}

theorem MB.r0 (m : MB h p w cs ws fa fo fh) : h.read p 0 1 = some [.ch w] := read_cells m.box rfl
theorem MB.rh (m : MB h p w cs ws fa fo fh) {j : Nat} (hj : j < 64) : h.read p (1 + j) 1 = some [.ch (cs[j]'(by have := m.al; omega))] := read_cells m.box (by rw [boxC_h (by simp [m.al, hj])]; simp)
theorem MB.ra (m : MB h p w cs ws fa fo fh) {j : Nat} (hj : j < 64) : h.read p (65 + j) 1 = some [.bool (fa j)] := read_cells m.box (boxC_a (by simp [m.al]) hj)
theorem MB.ro (m : MB h p w cs ws fa fo fh) {j : Nat} (hj : j < 64) : h.read p (129 + j) 1 = some [.bool (fo j)] := read_cells m.box (boxC_o (by simp [m.al]) hj)
theorem MB.wa_ (m : MB h p w cs ws fa fo fh) {j : Nat} (hj : j < 64) (b : Bool) : h.write p (65 + j) [.bool b] = some (h.put p (.cells (boxC w (cs.map .ch) (fun i => if i = j then b else fa i) fo))) := by
  rw [← boxC_setA (by simp [m.al]) hj]; exact write_one m.box (by rw [boxC_len (by simp [m.al])]; omega)
theorem MB.wo_ (m : MB h p w cs ws fa fo fh) {j : Nat} (hj : j < 64) (b : Bool) : h.write p (129 + j) [.bool b] = some (h.put p (.cells (boxC w (cs.map .ch) fa (fun i => if i = j then b else fo i)))) := by
  rw [← boxC_setO (by simp [m.al]) hj]; exact write_one m.box (by rw [boxC_len (by simp [m.al])]; omega)
theorem MB.ne (m : MB h p w cs ws fa fo fh) {j : Nat} (hj : j < 64) : p ≠ cs[j]'(by have := m.al; omega) ∧ w ≠ cs[j]'(by have := m.al; omega) :=
  ⟨fun e => m.pa (e ▸ List.getElem_mem _), fun e => m.wa (e ▸ List.getElem_mem _)⟩
theorem MB.ext {h' : Heap} (m : MB h p w cs ws fa fo fh) {S : List Nat} (e : ExtB S h h') (hp : p ∉ S) (hw : w ∉ S) (ha : ∀ a ∈ cs, a ∉ S) : MB h' p w cs ws fa fo fh :=
  ⟨m.al, e.at_ m.box m.pn hp, e.at_ m.words m.wn hw, fun j hj => e.at_ (m.hears j hj) (m.an _ (List.getElem_mem _)) (ha _ (List.getElem_mem _)), m.nd, m.pw, m.pa, m.wa, Nat.lt_of_lt_of_le m.pn e.1, Nat.lt_of_lt_of_le m.wn e.1, fun a h => Nat.lt_of_lt_of_le (m.an a h) e.1⟩
theorem MB.putBox (m : MB h p w cs ws fa fo fh) (fa' fo' : Nat → Bool) : MB (h.put p (.cells (boxC w (cs.map .ch) fa' fo'))) p w cs ws fa' fo' fh :=
  ⟨m.al, get_put_at, by rw [get_put_ne m.pw.symm]; exact m.words, fun j hj => by rw [get_put_ne (m.ne hj).1.symm]; exact m.hears j hj, m.nd, m.pw, m.pa, m.wa, m.pn, m.wn, m.an⟩
theorem MB.putWords (m : MB h p w cs ws fa fo fh) (ws' : Wd) : MB (h.put w (.chan 8 (ws'.map wx))) p w cs ws' fa fo fh :=
  ⟨m.al, by rw [get_put_ne m.pw]; exact m.box, get_put_at, fun j hj => by rw [get_put_ne (m.ne hj).2.symm]; exact m.hears j hj, m.nd, m.pw, m.pa, m.wa, m.pn, m.wn, m.an⟩
theorem MB.putHear (m : MB h p w cs ws fa fo fh) {j : Nat} (hj : j < 64) (o : Option Int) : MB (h.put (cs[j]'(by have := m.al; omega)) (.chan 1 (optL o))) p w cs ws fa fo (fun i => if i = j then o else fh i) :=
  ⟨m.al, by rw [get_put_ne (m.ne hj).1]; exact m.box, by rw [get_put_ne (m.ne hj).2]; exact m.words, fun i hi => by
    by_cases e : i = j
    · subst e; rw [get_put_at, if_pos rfl]
    · rw [get_put_ne (fun e' => e ((List.getElem_inj m.nd).1 e')), if_neg e]; exact m.hears i hi, m.nd, m.pw, m.pa, m.wa, m.pn, m.wn, m.an⟩
theorem MB.congr (m : MB h p w cs ws fa fo fh) {fa' fo' : Nat → Bool} {fh' : Nat → Option Int} (ha : ∀ j, j < 64 → fa j = fa' j) (ho : ∀ j, j < 64 → fo j = fo' j) (hh : ∀ j, j < 64 → fh j = fh' j) : MB h p w cs ws fa' fo' fh' :=
  ⟨m.al, by have := m.box; unfold boxC at this ⊢; rw [bits_congr ha, bits_congr ho] at this; exact this, m.words, fun j hj => by rw [← hh j hj]; exact m.hears j hj, m.nd, m.pw, m.pa, m.wa, m.pn, m.wn, m.an⟩

theorem is_in (j : Nat) (hj : j < 64) (h : Heap) : evCallT table 13 N (d + 1) 39 [.c (.int .i64 (j : Int))] h = some (.c (.bool true), h) := by
  have c1 : decide ((j : Int) ≥ 0) = true := decide_eq_true (by omega)
  have c2 : decide ((j : Int) < 64) = true := decide_eq_true (by omega)
  rw [evCallT_eq (F := ir39) rfl rfl rfl]
  unfold ir39
  rw [bodyK_eq]
  simp only [enter_eq, ev_seq, seqK_norm, seqK_exit, seqK_ret, ev_reg, ev_cond, condK_true, condK_false, ev_block, blockK_norm, blockK_ret, blockK_exit, ev_loop, ev_skip, ev_exit, ev_ret, regK_cons, regK_nil, guard_none, guard_some, regG_true, regG_false, regO_some, op_mov, op_conv, op_bin, op_bsl, op_box, op_mks, op_s2b, op_pick, op_un, op_eq, op_len, op_ext, op_load, op_iaddr, op_slice, op_b2s, op_idxS, op_mx, op_mn, op_call, op_store, op_app, op_copy, args_eq, result_one', rv_loc, finish_norm, finish_ret, outK_some, keep_true, keep_false, keep_nil, p_bin, p_pick, p_un, p_eq, p_conv, evNew, pureK_some, newK_some, X.eval, set_none, set_some, List.map_cons, List.map_nil, List.getD_cons_zero, List.getD_cons_succ, List.getD_nil, List.set_cons_zero, List.set_cons_succ, binCV, unCV, isShift, intArithF_eq, shiftF_eq, wrapF_eq, intArith, shift, eqVal, bound, asNat_cast, cond_true, cond_false, BEq.rfl, beq_self_eq_true, evalParts, fillParts, AV.cells, AV.ofCells, XV.av, AV.xv, List.length_cons, List.length_nil, zeros, patch, setMany, List.nil_append, List.cons_append, Nat.ble, Nat.add_eq, Nat.zero_add, Nat.add_zero, Nat.reduceAdd, Nat.reduceMul, Nat.reduceSub, Nat.ble_eq, Nat.reduceLeDiff, Nat.reduceBEq, Int.reduceBEq, Int.reduceNeg, Bool.and_true, Bool.and_false, Bool.true_and, Bool.false_and, Bool.not_true, Bool.not_false, Bool.true_eq_false, Bool.false_eq_true, Int.reduceLT, Int.reduceLE, Int.reduceGT, Int.reduceGE, decide_true, decide_false, Bool.not_eq_true, loopN_norm, loopN_exit, tf, ft, ff, c1, c2]
theorem is_out {k : Int} (hk : ¬ (0 ≤ k ∧ k < 64)) (h : Heap) : evCallT table 13 N (d + 1) 39 [.c (.int .i64 k)] h = some (.c (.bool false), h) := by
  rw [evCallT_eq (F := ir39) rfl rfl rfl]
  unfold ir39
  rw [bodyK_eq]
  by_cases c1 : 0 ≤ k
  · have v1 : decide (k ≥ 0) = true := decide_eq_true c1
    have v2 : decide (k < 64) = false := decide_eq_false (by omega)
    simp only [enter_eq, ev_seq, seqK_norm, seqK_exit, seqK_ret, ev_reg, ev_cond, condK_true, condK_false, ev_block, blockK_norm, blockK_ret, blockK_exit, ev_loop, ev_skip, ev_exit, ev_ret, regK_cons, regK_nil, guard_none, guard_some, regG_true, regG_false, regO_some, op_mov, op_conv, op_bin, op_bsl, op_box, op_mks, op_s2b, op_pick, op_un, op_eq, op_len, op_ext, op_load, op_iaddr, op_slice, op_b2s, op_idxS, op_mx, op_mn, op_call, op_store, op_app, op_copy, args_eq, result_one', rv_loc, finish_norm, finish_ret, outK_some, keep_true, keep_false, keep_nil, p_bin, p_pick, p_un, p_eq, p_conv, evNew, pureK_some, newK_some, X.eval, set_none, set_some, List.map_cons, List.map_nil, List.getD_cons_zero, List.getD_cons_succ, List.getD_nil, List.set_cons_zero, List.set_cons_succ, binCV, unCV, isShift, intArithF_eq, shiftF_eq, wrapF_eq, intArith, shift, eqVal, bound, asNat_cast, cond_true, cond_false, BEq.rfl, beq_self_eq_true, evalParts, fillParts, AV.cells, AV.ofCells, XV.av, AV.xv, List.length_cons, List.length_nil, zeros, patch, setMany, List.nil_append, List.cons_append, Nat.ble, Nat.add_eq, Nat.zero_add, Nat.add_zero, Nat.reduceAdd, Nat.reduceMul, Nat.reduceSub, Nat.ble_eq, Nat.reduceLeDiff, Nat.reduceBEq, Int.reduceBEq, Int.reduceNeg, Bool.and_true, Bool.and_false, Bool.true_and, Bool.false_and, Bool.not_true, Bool.not_false, Bool.true_eq_false, Bool.false_eq_true, Int.reduceLT, Int.reduceLE, Int.reduceGT, Int.reduceGE, decide_true, decide_false, Bool.not_eq_true, loopN_norm, loopN_exit, tf, ft, ff, v1, v2]
  · have v1 : decide (k ≥ 0) = false := decide_eq_false c1
    simp only [enter_eq, ev_seq, seqK_norm, seqK_exit, seqK_ret, ev_reg, ev_cond, condK_true, condK_false, ev_block, blockK_norm, blockK_ret, blockK_exit, ev_loop, ev_skip, ev_exit, ev_ret, regK_cons, regK_nil, guard_none, guard_some, regG_true, regG_false, regO_some, op_mov, op_conv, op_bin, op_bsl, op_box, op_mks, op_s2b, op_pick, op_un, op_eq, op_len, op_ext, op_load, op_iaddr, op_slice, op_b2s, op_idxS, op_mx, op_mn, op_call, op_store, op_app, op_copy, args_eq, result_one', rv_loc, finish_norm, finish_ret, outK_some, keep_true, keep_false, keep_nil, p_bin, p_pick, p_un, p_eq, p_conv, evNew, pureK_some, newK_some, X.eval, set_none, set_some, List.map_cons, List.map_nil, List.getD_cons_zero, List.getD_cons_succ, List.getD_nil, List.set_cons_zero, List.set_cons_succ, binCV, unCV, isShift, intArithF_eq, shiftF_eq, wrapF_eq, intArith, shift, eqVal, bound, asNat_cast, cond_true, cond_false, BEq.rfl, beq_self_eq_true, evalParts, fillParts, AV.cells, AV.ofCells, XV.av, AV.xv, List.length_cons, List.length_nil, zeros, patch, setMany, List.nil_append, List.cons_append, Nat.ble, Nat.add_eq, Nat.zero_add, Nat.add_zero, Nat.reduceAdd, Nat.reduceMul, Nat.reduceSub, Nat.ble_eq, Nat.reduceLeDiff, Nat.reduceBEq, Int.reduceBEq, Int.reduceNeg, Bool.and_true, Bool.and_false, Bool.true_and, Bool.false_and, Bool.not_true, Bool.not_false, Bool.true_eq_false, Bool.false_eq_true, Int.reduceLT, Int.reduceLE, Int.reduceGT, Int.reduceGE, decide_true, decide_false, Bool.not_eq_true, loopN_norm, loopN_exit, tf, ft, ff, v1]

theorem len_ok (m : MB h p w cs ws fa fo fh) : evCallT table 13 N (d + 1) 23 [.c (.ptr p 0)] h = some (.c (.int .i64 (ws.length : Int)), h) := by
  have lw : ∀ loc vals, evPure loc (.c (.ch w) :: vals) h (.len .ch (.val 0)) = some (.c (.int .i64 (ws.length : Int))) := fun loc vals => by rw [p_len_ch rfl m.words, List.length_map]
  rw [evCallT_eq (F := ir23) rfl rfl rfl]
  unfold ir23
  rw [bodyK_eq]
  simp only [enter_eq, ev_seq, seqK_norm, seqK_exit, seqK_ret, ev_reg, ev_cond, condK_true, condK_false, ev_block, blockK_norm, blockK_ret, blockK_exit, ev_loop, ev_skip, ev_exit, ev_ret, regK_cons, regK_nil, guard_none, guard_some, regG_true, regG_false, regO_some, op_mov, op_conv, op_bin, op_bsl, op_box, op_mks, op_s2b, op_pick, op_un, op_eq, op_len, op_ext, op_load, op_iaddr, op_slice, op_b2s, op_idxS, op_mx, op_mn, op_call, op_store, op_app, op_copy, args_eq, result_one', rv_loc, finish_norm, finish_ret, outK_some, keep_true, keep_false, keep_nil, p_bin, p_pick, p_un, p_eq, p_conv, evNew, pureK_some, newK_some, X.eval, set_none, set_some, List.map_cons, List.map_nil, List.getD_cons_zero, List.getD_cons_succ, List.getD_nil, List.set_cons_zero, List.set_cons_succ, binCV, unCV, isShift, intArithF_eq, shiftF_eq, wrapF_eq, intArith, shift, eqVal, bound, asNat_cast, cond_true, cond_false, BEq.rfl, beq_self_eq_true, evalParts, fillParts, AV.cells, AV.ofCells, XV.av, AV.xv, List.length_cons, List.length_nil, zeros, patch, setMany, List.nil_append, List.cons_append, Nat.ble, Nat.add_eq, Nat.zero_add, Nat.add_zero, Nat.reduceAdd, Nat.reduceMul, Nat.reduceSub, Nat.ble_eq, Nat.reduceLeDiff, Nat.reduceBEq, Int.reduceBEq, Int.reduceNeg, Bool.and_true, Bool.and_false, Bool.true_and, Bool.false_and, Bool.not_true, Bool.not_false, Bool.true_eq_false, Bool.false_eq_true, Int.reduceLT, Int.reduceLE, Int.reduceGT, Int.reduceGE, decide_true, decide_false, Bool.not_eq_true, loopN_norm, loopN_exit, tf, ft, ff, op_nilchk, p_nilchk, op_faddr, p_faddr, p_load, m.r0, AV.ofCells, lw]

theorem post_arg {k : Int} (v : Int) (hk : ¬ (0 ≤ k ∧ k < 64)) : evCallT table 13 N (d + 2) 14 [.c (.ptr p 0), .c (.int .i64 k), .c (.int .i64 v)] h = some (.c (.int .i64 1), h) := by
  have e1 := is_out (N := N) (d := d) hk h
  rw [evCallT_eq (F := ir14) rfl rfl rfl]
  unfold ir14
  rw [bodyK_eq]
  simp only [enter_eq, ev_seq, seqK_norm, seqK_exit, seqK_ret, ev_reg, ev_cond, condK_true, condK_false, ev_block, blockK_norm, blockK_ret, blockK_exit, ev_loop, ev_skip, ev_exit, ev_ret, regK_cons, regK_nil, guard_none, guard_some, regG_true, regG_false, regO_some, op_mov, op_conv, op_bin, op_bsl, op_box, op_mks, op_s2b, op_pick, op_un, op_eq, op_len, op_ext, op_load, op_iaddr, op_slice, op_b2s, op_idxS, op_mx, op_mn, op_call, op_store, op_app, op_copy, args_eq, result_one', rv_loc, finish_norm, finish_ret, outK_some, keep_true, keep_false, keep_nil, p_bin, p_pick, p_un, p_eq, p_conv, evNew, pureK_some, newK_some, X.eval, set_none, set_some, List.map_cons, List.map_nil, List.getD_cons_zero, List.getD_cons_succ, List.getD_nil, List.set_cons_zero, List.set_cons_succ, binCV, unCV, isShift, intArithF_eq, shiftF_eq, wrapF_eq, intArith, shift, eqVal, bound, asNat_cast, cond_true, cond_false, BEq.rfl, beq_self_eq_true, evalParts, fillParts, AV.cells, AV.ofCells, XV.av, AV.xv, List.length_cons, List.length_nil, zeros, patch, setMany, List.nil_append, List.cons_append, Nat.ble, Nat.add_eq, Nat.zero_add, Nat.add_zero, Nat.reduceAdd, Nat.reduceMul, Nat.reduceSub, Nat.ble_eq, Nat.reduceLeDiff, Nat.reduceBEq, Int.reduceBEq, Int.reduceNeg, Bool.and_true, Bool.and_false, Bool.true_and, Bool.false_and, Bool.not_true, Bool.not_false, Bool.true_eq_false, Bool.false_eq_true, Int.reduceLT, Int.reduceLE, Int.reduceGT, Int.reduceGE, decide_true, decide_false, Bool.not_eq_true, loopN_norm, loopN_exit, tf, ft, ff, e1]

theorem post_held (m : MB h p w cs ws fa fo fh) {j : Nat} (v : Int) (hj : j < 64) (hh : fa j = true ∨ fo j = true ∨ fh j ≠ none) : evCallT table 13 N (d + 2) 14 [.c (.ptr p 0), .c (.int .i64 (j : Int)), .c (.int .i64 v)] h = some (.c (.int .i64 13), h) := by
  have e1 := is_in (N := N) (d := d) j hj h
  have m1 : Nat.blt j 64 = true := bltT hj
  have la : ∀ loc vals, evPure loc (.c (.ch (cs[j]'(by have := m.al; omega))) :: vals) h (.len .ch (.val 0)) = some (.c (.int .i64 ((optL (fh j)).length : Int))) := fun loc vals => p_len_ch rfl (m.hears j hj)
  rw [evCallT_eq (F := ir14) rfl rfl rfl]
  unfold ir14
  rw [bodyK_eq]
  cases ha : fa j with
  | true =>
    have ra := m.ra hj
    rw [ha] at ra
    simp only [enter_eq, ev_seq, seqK_norm, seqK_exit, seqK_ret, ev_reg, ev_cond, condK_true, condK_false, ev_block, blockK_norm, blockK_ret, blockK_exit, ev_loop, ev_skip, ev_exit, ev_ret, regK_cons, regK_nil, guard_none, guard_some, regG_true, regG_false, regO_some, op_mov, op_conv, op_bin, op_bsl, op_box, op_mks, op_s2b, op_pick, op_un, op_eq, op_len, op_ext, op_load, op_iaddr, op_slice, op_b2s, op_idxS, op_mx, op_mn, op_call, op_store, op_app, op_copy, args_eq, result_one', rv_loc, finish_norm, finish_ret, outK_some, keep_true, keep_false, keep_nil, p_bin, p_pick, p_un, p_eq, p_conv, evNew, pureK_some, newK_some, X.eval, set_none, set_some, List.map_cons, List.map_nil, List.getD_cons_zero, List.getD_cons_succ, List.getD_nil, List.set_cons_zero, List.set_cons_succ, binCV, unCV, isShift, intArithF_eq, shiftF_eq, wrapF_eq, intArith, shift, eqVal, bound, asNat_cast, cond_true, cond_false, BEq.rfl, beq_self_eq_true, evalParts, fillParts, AV.cells, AV.ofCells, XV.av, AV.xv, List.length_cons, List.length_nil, zeros, patch, setMany, List.nil_append, List.cons_append, Nat.ble, Nat.add_eq, Nat.zero_add, Nat.add_zero, Nat.reduceAdd, Nat.reduceMul, Nat.reduceSub, Nat.ble_eq, Nat.reduceLeDiff, Nat.reduceBEq, Int.reduceBEq, Int.reduceNeg, Bool.and_true, Bool.and_false, Bool.true_and, Bool.false_and, Bool.not_true, Bool.not_false, Bool.true_eq_false, Bool.false_eq_true, Int.reduceLT, Int.reduceLE, Int.reduceGT, Int.reduceGE, decide_true, decide_false, Bool.not_eq_true, loopN_norm, loopN_exit, tf, ft, ff, e1, op_nilchk, p_nilchk, op_faddr, p_faddr, op_iaddrA, p_iaddrA, p_load, ra, AV.ofCells, m1, Nat.mul_one]
  | false =>
    have ra := m.ra hj
    rw [ha] at ra
    cases ho : fo j with
    | true =>
      have ro := m.ro hj
      rw [ho] at ro
      simp only [enter_eq, ev_seq, seqK_norm, seqK_exit, seqK_ret, ev_reg, ev_cond, condK_true, condK_false, ev_block, blockK_norm, blockK_ret, blockK_exit, ev_loop, ev_skip, ev_exit, ev_ret, regK_cons, regK_nil, guard_none, guard_some, regG_true, regG_false, regO_some, op_mov, op_conv, op_bin, op_bsl, op_box, op_mks, op_s2b, op_pick, op_un, op_eq, op_len, op_ext, op_load, op_iaddr, op_slice, op_b2s, op_idxS, op_mx, op_mn, op_call, op_store, op_app, op_copy, args_eq, result_one', rv_loc, finish_norm, finish_ret, outK_some, keep_true, keep_false, keep_nil, p_bin, p_pick, p_un, p_eq, p_conv, evNew, pureK_some, newK_some, X.eval, set_none, set_some, List.map_cons, List.map_nil, List.getD_cons_zero, List.getD_cons_succ, List.getD_nil, List.set_cons_zero, List.set_cons_succ, binCV, unCV, isShift, intArithF_eq, shiftF_eq, wrapF_eq, intArith, shift, eqVal, bound, asNat_cast, cond_true, cond_false, BEq.rfl, beq_self_eq_true, evalParts, fillParts, AV.cells, AV.ofCells, XV.av, AV.xv, List.length_cons, List.length_nil, zeros, patch, setMany, List.nil_append, List.cons_append, Nat.ble, Nat.add_eq, Nat.zero_add, Nat.add_zero, Nat.reduceAdd, Nat.reduceMul, Nat.reduceSub, Nat.ble_eq, Nat.reduceLeDiff, Nat.reduceBEq, Int.reduceBEq, Int.reduceNeg, Bool.and_true, Bool.and_false, Bool.true_and, Bool.false_and, Bool.not_true, Bool.not_false, Bool.true_eq_false, Bool.false_eq_true, Int.reduceLT, Int.reduceLE, Int.reduceGT, Int.reduceGE, decide_true, decide_false, Bool.not_eq_true, loopN_norm, loopN_exit, tf, ft, ff, e1, op_nilchk, p_nilchk, op_faddr, p_faddr, op_iaddrA, p_iaddrA, p_load, ra, ro, AV.ofCells, m1, Nat.mul_one]
    | false =>
      have ro := m.ro hj
      rw [ho] at ro
      have hn : fh j ≠ none := by
        rcases hh with h1 | h1 | h1
        · rw [ha] at h1; cases h1
        · rw [ho] at h1; cases h1
        · exact h1
      have q1 : decide (((optL (fh j)).length : Int) > 0) = true := by
        cases hf : fh j with
        | none => exact absurd hf hn
        | some v => rfl
      simp only [enter_eq, ev_seq, seqK_norm, seqK_exit, seqK_ret, ev_reg, ev_cond, condK_true, condK_false, ev_block, blockK_norm, blockK_ret, blockK_exit, ev_loop, ev_skip, ev_exit, ev_ret, regK_cons, regK_nil, guard_none, guard_some, regG_true, regG_false, regO_some, op_mov, op_conv, op_bin, op_bsl, op_box, op_mks, op_s2b, op_pick, op_un, op_eq, op_len, op_ext, op_load, op_iaddr, op_slice, op_b2s, op_idxS, op_mx, op_mn, op_call, op_store, op_app, op_copy, args_eq, result_one', rv_loc, finish_norm, finish_ret, outK_some, keep_true, keep_false, keep_nil, p_bin, p_pick, p_un, p_eq, p_conv, evNew, pureK_some, newK_some, X.eval, set_none, set_some, List.map_cons, List.map_nil, List.getD_cons_zero, List.getD_cons_succ, List.getD_nil, List.set_cons_zero, List.set_cons_succ, binCV, unCV, isShift, intArithF_eq, shiftF_eq, wrapF_eq, intArith, shift, eqVal, bound, asNat_cast, cond_true, cond_false, BEq.rfl, beq_self_eq_true, evalParts, fillParts, AV.cells, AV.ofCells, XV.av, AV.xv, List.length_cons, List.length_nil, zeros, patch, setMany, List.nil_append, List.cons_append, Nat.ble, Nat.add_eq, Nat.zero_add, Nat.add_zero, Nat.reduceAdd, Nat.reduceMul, Nat.reduceSub, Nat.ble_eq, Nat.reduceLeDiff, Nat.reduceBEq, Int.reduceBEq, Int.reduceNeg, Bool.and_true, Bool.and_false, Bool.true_and, Bool.false_and, Bool.not_true, Bool.not_false, Bool.true_eq_false, Bool.false_eq_true, Int.reduceLT, Int.reduceLE, Int.reduceGT, Int.reduceGE, decide_true, decide_false, Bool.not_eq_true, loopN_norm, loopN_exit, tf, ft, ff, e1, op_nilchk, p_nilchk, op_faddr, p_faddr, op_iaddrA, p_iaddrA, p_load, ra, ro, m.rh hj, AV.ofCells, m1, Nat.mul_one, la, q1]

theorem post_ok (m : MB h p w cs ws fa fo fh) {j : Nat} (v : Int) (hj : j < 64) (ha : fa j = false) (ho : fo j = false) (hh : fh j = none) (hw : ws.length ≤ 8) :
    ∃ h', evCallT table 13 N (d + 2) 14 [.c (.ptr p 0), .c (.int .i64 (j : Int)), .c (.int .i64 v)] h = some (.c (.int .i64 (if ws.length < 8 then 0 else 8)), h') ∧
      MB h' p w cs (if ws.length < 8 then ws ++ [((j : Int), v)] else ws) (if ws.length < 8 then (fun i => if i = j then true else fa i) else fa) fo fh ∧ ExtB [p, w] h h' := by
  have e1 := is_in (N := N) (d := d) j hj h
  have m1 : Nat.blt j 64 = true := bltT hj
  have la : ∀ loc vals, evPure loc (.c (.ch (cs[j]'(by have := m.al; omega))) :: vals) h (.len .ch (.val 0)) = some (.c (.int .i64 ((optL (fh j)).length : Int))) := fun loc vals => p_len_ch rfl (m.hears j hj)
  have q1 : decide (((optL (fh j)).length : Int) > 0) = false := by rw [hh]; rfl
  have ra := m.ra hj
  rw [ha] at ra
  have ro := m.ro hj
  rw [ho] at ro
  rw [evCallT_eq (F := ir14) rfl rfl rfl]
  unfold ir14
  rw [bodyK_eq]
  by_cases h8 : ws.length < 8
  · rw [if_pos h8, if_pos h8, if_pos h8]
    have b1 : Nat.blt (ws.map wx).length 8 = true := bltT (by rw [List.length_map]; exact h8)
    have m2 : MB (h.put w (.chan 8 (ws.map wx ++ [.agg [.int .i64 (j : Int), .int .i64 v]]))) p w cs (ws ++ [((j : Int), v)]) fa fo fh := by
      have := m.putWords (ws ++ [((j : Int), v)])
      rw [List.map_append] at this; exact this
    have W := m2.wa_ hj true
    simp only [enter_eq, ev_seq, seqK_norm, seqK_exit, seqK_ret, ev_reg, ev_cond, condK_true, condK_false, ev_block, blockK_norm, blockK_ret, blockK_exit, ev_loop, ev_skip, ev_exit, ev_ret, regK_cons, regK_nil, guard_none, guard_some, regG_true, regG_false, regO_some, op_mov, op_conv, op_bin, op_bsl, op_box, op_mks, op_s2b, op_pick, op_un, op_eq, op_len, op_ext, op_load, op_iaddr, op_slice, op_b2s, op_idxS, op_mx, op_mn, op_call, op_store, op_app, op_copy, args_eq, result_one', rv_loc, finish_norm, finish_ret, outK_some, keep_true, keep_false, keep_nil, p_bin, p_pick, p_un, p_eq, p_conv, evNew, pureK_some, newK_some, X.eval, set_none, set_some, List.map_cons, List.map_nil, List.getD_cons_zero, List.getD_cons_succ, List.getD_nil, List.set_cons_zero, List.set_cons_succ, binCV, unCV, isShift, intArithF_eq, shiftF_eq, wrapF_eq, intArith, shift, eqVal, bound, asNat_cast, cond_true, cond_false, BEq.rfl, beq_self_eq_true, evalParts, fillParts, AV.cells, AV.ofCells, XV.av, AV.xv, List.length_cons, List.length_nil, zeros, patch, setMany, List.nil_append, List.cons_append, Nat.ble, Nat.add_eq, Nat.zero_add, Nat.add_zero, Nat.reduceAdd, Nat.reduceMul, Nat.reduceSub, Nat.ble_eq, Nat.reduceLeDiff, Nat.reduceBEq, Int.reduceBEq, Int.reduceNeg, Bool.and_true, Bool.and_false, Bool.true_and, Bool.false_and, Bool.not_true, Bool.not_false, Bool.true_eq_false, Bool.false_eq_true, Int.reduceLT, Int.reduceLE, Int.reduceGT, Int.reduceGE, decide_true, decide_false, Bool.not_eq_true, loopN_norm, loopN_exit, tf, ft, ff, e1, op_nilchk, p_nilchk, op_faddr, p_faddr, op_iaddrA, p_iaddrA, p_load, ra, ro, m.rh hj, m.r0, AV.ofCells, m1, Nat.mul_one, la, q1, op_build, p_build', op_sendd, c_sendd, m.words, b1, op_ext, p_ext, List.getElem?_cons_zero, List.getElem?_cons_succ, evEff, W]
    exact ⟨_, rfl, m2.putBox _ _, ((ExtB.refl _ _).put (.inr (by simp)) _).put (.inr (by simp)) _⟩
  · rw [if_neg h8, if_neg h8, if_neg h8]
    have b1 : Nat.blt (ws.map wx).length 8 = false := by
      rw [List.length_map]
      cases hb : Nat.blt ws.length 8 with
      | false => rfl
      | true => exact absurd (Nat.le_of_ble_eq_true hb) (by omega)
    simp only [enter_eq, ev_seq, seqK_norm, seqK_exit, seqK_ret, ev_reg, ev_cond, condK_true, condK_false, ev_block, blockK_norm, blockK_ret, blockK_exit, ev_loop, ev_skip, ev_exit, ev_ret, regK_cons, regK_nil, guard_none, guard_some, regG_true, regG_false, regO_some, op_mov, op_conv, op_bin, op_bsl, op_box, op_mks, op_s2b, op_pick, op_un, op_eq, op_len, op_ext, op_load, op_iaddr, op_slice, op_b2s, op_idxS, op_mx, op_mn, op_call, op_store, op_app, op_copy, args_eq, result_one', rv_loc, finish_norm, finish_ret, outK_some, keep_true, keep_false, keep_nil, p_bin, p_pick, p_un, p_eq, p_conv, evNew, pureK_some, newK_some, X.eval, set_none, set_some, List.map_cons, List.map_nil, List.getD_cons_zero, List.getD_cons_succ, List.getD_nil, List.set_cons_zero, List.set_cons_succ, binCV, unCV, isShift, intArithF_eq, shiftF_eq, wrapF_eq, intArith, shift, eqVal, bound, asNat_cast, cond_true, cond_false, BEq.rfl, beq_self_eq_true, evalParts, fillParts, AV.cells, AV.ofCells, XV.av, AV.xv, List.length_cons, List.length_nil, zeros, patch, setMany, List.nil_append, List.cons_append, Nat.ble, Nat.add_eq, Nat.zero_add, Nat.add_zero, Nat.reduceAdd, Nat.reduceMul, Nat.reduceSub, Nat.ble_eq, Nat.reduceLeDiff, Nat.reduceBEq, Int.reduceBEq, Int.reduceNeg, Bool.and_true, Bool.and_false, Bool.true_and, Bool.false_and, Bool.not_true, Bool.not_false, Bool.true_eq_false, Bool.false_eq_true, Int.reduceLT, Int.reduceLE, Int.reduceGT, Int.reduceGE, decide_true, decide_false, Bool.not_eq_true, loopN_norm, loopN_exit, tf, ft, ff, e1, op_nilchk, p_nilchk, op_faddr, p_faddr, op_iaddrA, p_iaddrA, p_load, ra, ro, m.rh hj, m.r0, AV.ofCells, m1, Nat.mul_one, la, q1, op_build, p_build', op_sendd, c_sendd, m.words, b1, op_ext, p_ext, List.getElem?_cons_zero, List.getElem?_cons_succ]
    exact ⟨_, rfl, m, ExtB.refl _ _⟩
theorem answer_no (m : MB h p w cs ws fa fo fh) {k v : Int} (hk : ∀ j : Nat, j < 64 → k = (j : Int) → fo j = false) : evCallT table 13 N (d + 2) 19 [.c (.ptr p 0), .c (.int .i64 k), .c (.int .i64 v)] h = some (.c (.int .i64 2), h) := by
  rw [evCallT_eq (F := ir19) rfl rfl rfl]
  unfold ir19
  rw [bodyK_eq]
  by_cases hr : 0 ≤ k ∧ k < 64
  · obtain ⟨j, rfl⟩ : ∃ j : Nat, k = (j : Int) := ⟨k.toNat, by omega⟩
    have hj : j < 64 := by omega
    have e1 := is_in (N := N) (d := d) j hj h
    have m1 : Nat.blt j 64 = true := bltT hj
    have ro := m.ro hj
    rw [hk j hj rfl] at ro
    simp only [enter_eq, ev_seq, seqK_norm, seqK_exit, seqK_ret, ev_reg, ev_cond, condK_true, condK_false, ev_block, blockK_norm, blockK_ret, blockK_exit, ev_loop, ev_skip, ev_exit, ev_ret, regK_cons, regK_nil, guard_none, guard_some, regG_true, regG_false, regO_some, op_mov, op_conv, op_bin, op_bsl, op_box, op_mks, op_s2b, op_pick, op_un, op_eq, op_len, op_ext, op_load, op_iaddr, op_slice, op_b2s, op_idxS, op_mx, op_mn, op_call, op_store, op_app, op_copy, args_eq, result_one', rv_loc, finish_norm, finish_ret, outK_some, keep_true, keep_false, keep_nil, p_bin, p_pick, p_un, p_eq, p_conv, evNew, pureK_some, newK_some, X.eval, set_none, set_some, List.map_cons, List.map_nil, List.getD_cons_zero, List.getD_cons_succ, List.getD_nil, List.set_cons_zero, List.set_cons_succ, binCV, unCV, isShift, intArithF_eq, shiftF_eq, wrapF_eq, intArith, shift, eqVal, bound, asNat_cast, cond_true, cond_false, BEq.rfl, beq_self_eq_true, evalParts, fillParts, AV.cells, AV.ofCells, XV.av, AV.xv, List.length_cons, List.length_nil, zeros, patch, setMany, List.nil_append, List.cons_append, Nat.ble, Nat.add_eq, Nat.zero_add, Nat.add_zero, Nat.reduceAdd, Nat.reduceMul, Nat.reduceSub, Nat.ble_eq, Nat.reduceLeDiff, Nat.reduceBEq, Int.reduceBEq, Int.reduceNeg, Bool.and_true, Bool.and_false, Bool.true_and, Bool.false_and, Bool.not_true, Bool.not_false, Bool.true_eq_false, Bool.false_eq_true, Int.reduceLT, Int.reduceLE, Int.reduceGT, Int.reduceGE, decide_true, decide_false, Bool.not_eq_true, loopN_norm, loopN_exit, tf, ft, ff, e1, op_nilchk, p_nilchk, op_faddr, p_faddr, op_iaddrA, p_iaddrA, p_load, ro, AV.ofCells, m1, Nat.mul_one]
  · have e1 := is_out (N := N) (d := d) hr h
    simp only [enter_eq, ev_seq, seqK_norm, seqK_exit, seqK_ret, ev_reg, ev_cond, condK_true, condK_false, ev_block, blockK_norm, blockK_ret, blockK_exit, ev_loop, ev_skip, ev_exit, ev_ret, regK_cons, regK_nil, guard_none, guard_some, regG_true, regG_false, regO_some, op_mov, op_conv, op_bin, op_bsl, op_box, op_mks, op_s2b, op_pick, op_un, op_eq, op_len, op_ext, op_load, op_iaddr, op_slice, op_b2s, op_idxS, op_mx, op_mn, op_call, op_store, op_app, op_copy, args_eq, result_one', rv_loc, finish_norm, finish_ret, outK_some, keep_true, keep_false, keep_nil, p_bin, p_pick, p_un, p_eq, p_conv, evNew, pureK_some, newK_some, X.eval, set_none, set_some, List.map_cons, List.map_nil, List.getD_cons_zero, List.getD_cons_succ, List.getD_nil, List.set_cons_zero, List.set_cons_succ, binCV, unCV, isShift, intArithF_eq, shiftF_eq, wrapF_eq, intArith, shift, eqVal, bound, asNat_cast, cond_true, cond_false, BEq.rfl, beq_self_eq_true, evalParts, fillParts, AV.cells, AV.ofCells, XV.av, AV.xv, List.length_cons, List.length_nil, zeros, patch, setMany, List.nil_append, List.cons_append, Nat.ble, Nat.add_eq, Nat.zero_add, Nat.add_zero, Nat.reduceAdd, Nat.reduceMul, Nat.reduceSub, Nat.ble_eq, Nat.reduceLeDiff, Nat.reduceBEq, Int.reduceBEq, Int.reduceNeg, Bool.and_true, Bool.and_false, Bool.true_and, Bool.false_and, Bool.not_true, Bool.not_false, Bool.true_eq_false, Bool.false_eq_true, Int.reduceLT, Int.reduceLE, Int.reduceGT, Int.reduceGE, decide_true, decide_false, Bool.not_eq_true, loopN_norm, loopN_exit, tf, ft, ff, e1]

theorem answer_ok (m : MB h p w cs ws fa fo fh) {j : Nat} (v : Int) (hj : j < 64) (ho : fo j = true) (hh : fh j = none) :
    ∃ h', evCallT table 13 N (d + 2) 19 [.c (.ptr p 0), .c (.int .i64 (j : Int)), .c (.int .i64 v)] h = some (.c (.int .i64 0), h') ∧
      MB h' p w cs ws fa (fun i => if i = j then false else fo i) (fun i => if i = j then some v else fh i) ∧ ExtB (p :: cs) h h' := by
  have e1 := is_in (N := N) (d := d) j hj h
  have m1 : Nat.blt j 64 = true := bltT hj
  have ro := m.ro hj
  rw [ho] at ro
  have W := m.wo_ hj false
  have m2 := m.putBox fa (fun i => if i = j then false else fo i)
  have rh2 := m2.rh hj
  have g2 := m2.hears j hj
  rw [hh] at g2
  simp only [optL] at g2
  have m3 := m2.putHear hj (some v)
  simp only [optL] at m3
  rw [evCallT_eq (F := ir19) rfl rfl rfl]
  unfold ir19
  rw [bodyK_eq]
  simp only [enter_eq, ev_seq, seqK_norm, seqK_exit, seqK_ret, ev_reg, ev_cond, condK_true, condK_false, ev_block, blockK_norm, blockK_ret, blockK_exit, ev_loop, ev_skip, ev_exit, ev_ret, regK_cons, regK_nil, guard_none, guard_some, regG_true, regG_false, regO_some, op_mov, op_conv, op_bin, op_bsl, op_box, op_mks, op_s2b, op_pick, op_un, op_eq, op_len, op_ext, op_load, op_iaddr, op_slice, op_b2s, op_idxS, op_mx, op_mn, op_call, op_store, op_app, op_copy, args_eq, result_one', rv_loc, finish_norm, finish_ret, outK_some, keep_true, keep_false, keep_nil, p_bin, p_pick, p_un, p_eq, p_conv, evNew, pureK_some, newK_some, X.eval, set_none, set_some, List.map_cons, List.map_nil, List.getD_cons_zero, List.getD_cons_succ, List.getD_nil, List.set_cons_zero, List.set_cons_succ, binCV, unCV, isShift, intArithF_eq, shiftF_eq, wrapF_eq, intArith, shift, eqVal, bound, asNat_cast, cond_true, cond_false, BEq.rfl, beq_self_eq_true, evalParts, fillParts, AV.cells, AV.ofCells, XV.av, AV.xv, List.length_cons, List.length_nil, zeros, patch, setMany, List.nil_append, List.cons_append, Nat.ble, Nat.add_eq, Nat.zero_add, Nat.add_zero, Nat.reduceAdd, Nat.reduceMul, Nat.reduceSub, Nat.ble_eq, Nat.reduceLeDiff, Nat.reduceBEq, Int.reduceBEq, Int.reduceNeg, Bool.and_true, Bool.and_false, Bool.true_and, Bool.false_and, Bool.not_true, Bool.not_false, Bool.true_eq_false, Bool.false_eq_true, Int.reduceLT, Int.reduceLE, Int.reduceGT, Int.reduceGE, decide_true, decide_false, Bool.not_eq_true, loopN_norm, loopN_exit, tf, ft, ff, e1, op_nilchk, p_nilchk, op_faddr, p_faddr, op_iaddrA, p_iaddrA, p_load, ro, rh2, AV.ofCells, m1, Nat.mul_one, evEff, W, op_sendd, c_sendd, g2, (show Nat.blt 0 1 = true from rfl), op_ext, p_ext, List.getElem?_cons_zero, List.getElem?_cons_succ]
  exact ⟨_, rfl, m3, ((ExtB.refl _ _).put (.inr (by simp)) _).put (.inr (List.mem_cons_of_mem _ (List.getElem_mem _))) _⟩

theorem hear_no (m : MB h p w cs ws fa fo fh) {k : Int} (hk : ∀ j : Nat, j < 64 → k = (j : Int) → fh j = none) : evCallT table 13 N (d + 2) 21 [.c (.ptr p 0), .c (.int .i64 k)] h = some (.tup [.c (.int .i64 0), .c (.bool false)], h) := by
  rw [evCallT_eq (F := ir21) rfl rfl rfl]
  unfold ir21
  rw [bodyK_eq]
  by_cases hr : 0 ≤ k ∧ k < 64
  · obtain ⟨j, rfl⟩ : ∃ j : Nat, k = (j : Int) := ⟨k.toNat, by omega⟩
    have hj : j < 64 := by omega
    have e1 := is_in (N := N) (d := d) j hj h
    have m1 : Nat.blt j 64 = true := bltT hj
    have g := m.hears j hj
    rw [hk j hj rfl] at g
    simp only [optL] at g
    simp only [enter_eq, ev_seq, seqK_norm, seqK_exit, seqK_ret, ev_reg, ev_cond, condK_true, condK_false, ev_block, blockK_norm, blockK_ret, blockK_exit, ev_loop, ev_skip, ev_exit, ev_ret, regK_cons, regK_nil, guard_none, guard_some, regG_true, regG_false, regO_some, op_mov, op_conv, op_bin, op_bsl, op_box, op_mks, op_s2b, op_pick, op_un, op_eq, op_len, op_ext, op_load, op_iaddr, op_slice, op_b2s, op_idxS, op_mx, op_mn, op_call, op_store, op_app, op_copy, args_eq, result_one', rv_loc, finish_norm, finish_ret, outK_some, keep_true, keep_false, keep_nil, p_bin, p_pick, p_un, p_eq, p_conv, evNew, pureK_some, newK_some, X.eval, set_none, set_some, List.map_cons, List.map_nil, List.getD_cons_zero, List.getD_cons_succ, List.getD_nil, List.set_cons_zero, List.set_cons_succ, binCV, unCV, isShift, intArithF_eq, shiftF_eq, wrapF_eq, intArith, shift, eqVal, bound, asNat_cast, cond_true, cond_false, BEq.rfl, beq_self_eq_true, evalParts, fillParts, AV.cells, AV.ofCells, XV.av, AV.xv, List.length_cons, List.length_nil, zeros, patch, setMany, List.nil_append, List.cons_append, Nat.ble, Nat.add_eq, Nat.zero_add, Nat.add_zero, Nat.reduceAdd, Nat.reduceMul, Nat.reduceSub, Nat.ble_eq, Nat.reduceLeDiff, Nat.reduceBEq, Int.reduceBEq, Int.reduceNeg, Bool.and_true, Bool.and_false, Bool.true_and, Bool.false_and, Bool.not_true, Bool.not_false, Bool.true_eq_false, Bool.false_eq_true, Int.reduceLT, Int.reduceLE, Int.reduceGT, Int.reduceGE, decide_true, decide_false, Bool.not_eq_true, loopN_norm, loopN_exit, tf, ft, ff, e1, op_nilchk, p_nilchk, op_faddr, p_faddr, op_iaddrA, p_iaddrA, p_load, m.rh hj, AV.ofCells, m1, Nat.mul_one, op_recvd, c_recvd, g, op_ext, p_ext, List.getElem?_cons_zero, List.getElem?_cons_succ]
    rfl
  · have e1 := is_out (N := N) (d := d) hr h
    simp only [enter_eq, ev_seq, seqK_norm, seqK_exit, seqK_ret, ev_reg, ev_cond, condK_true, condK_false, ev_block, blockK_norm, blockK_ret, blockK_exit, ev_loop, ev_skip, ev_exit, ev_ret, regK_cons, regK_nil, guard_none, guard_some, regG_true, regG_false, regO_some, op_mov, op_conv, op_bin, op_bsl, op_box, op_mks, op_s2b, op_pick, op_un, op_eq, op_len, op_ext, op_load, op_iaddr, op_slice, op_b2s, op_idxS, op_mx, op_mn, op_call, op_store, op_app, op_copy, args_eq, result_one', rv_loc, finish_norm, finish_ret, outK_some, keep_true, keep_false, keep_nil, p_bin, p_pick, p_un, p_eq, p_conv, evNew, pureK_some, newK_some, X.eval, set_none, set_some, List.map_cons, List.map_nil, List.getD_cons_zero, List.getD_cons_succ, List.getD_nil, List.set_cons_zero, List.set_cons_succ, binCV, unCV, isShift, intArithF_eq, shiftF_eq, wrapF_eq, intArith, shift, eqVal, bound, asNat_cast, cond_true, cond_false, BEq.rfl, beq_self_eq_true, evalParts, fillParts, AV.cells, AV.ofCells, XV.av, AV.xv, List.length_cons, List.length_nil, zeros, patch, setMany, List.nil_append, List.cons_append, Nat.ble, Nat.add_eq, Nat.zero_add, Nat.add_zero, Nat.reduceAdd, Nat.reduceMul, Nat.reduceSub, Nat.ble_eq, Nat.reduceLeDiff, Nat.reduceBEq, Int.reduceBEq, Int.reduceNeg, Bool.and_true, Bool.and_false, Bool.true_and, Bool.false_and, Bool.not_true, Bool.not_false, Bool.true_eq_false, Bool.false_eq_true, Int.reduceLT, Int.reduceLE, Int.reduceGT, Int.reduceGE, decide_true, decide_false, Bool.not_eq_true, loopN_norm, loopN_exit, tf, ft, ff, e1]
    rfl

theorem hear_ok (m : MB h p w cs ws fa fo fh) {j : Nat} {v : Int} (hj : j < 64) (hh : fh j = some v) :
    ∃ h', evCallT table 13 N (d + 2) 21 [.c (.ptr p 0), .c (.int .i64 (j : Int))] h = some (.tup [.c (.int .i64 v), .c (.bool true)], h') ∧
      MB h' p w cs ws fa fo (fun i => if i = j then none else fh i) ∧ ExtB cs h h' := by
  have e1 := is_in (N := N) (d := d) j hj h
  have m1 : Nat.blt j 64 = true := bltT hj
  have g := m.hears j hj
  rw [hh] at g
  simp only [optL] at g
  have m3 := m.putHear hj none
  simp only [optL] at m3
  rw [evCallT_eq (F := ir21) rfl rfl rfl]
  unfold ir21
  rw [bodyK_eq]
  simp only [enter_eq, ev_seq, seqK_norm, seqK_exit, seqK_ret, ev_reg, ev_cond, condK_true, condK_false, ev_block, blockK_norm, blockK_ret, blockK_exit, ev_loop, ev_skip, ev_exit, ev_ret, regK_cons, regK_nil, guard_none, guard_some, regG_true, regG_false, regO_some, op_mov, op_conv, op_bin, op_bsl, op_box, op_mks, op_s2b, op_pick, op_un, op_eq, op_len, op_ext, op_load, op_iaddr, op_slice, op_b2s, op_idxS, op_mx, op_mn, op_call, op_store, op_app, op_copy, args_eq, result_one', rv_loc, finish_norm, finish_ret, outK_some, keep_true, keep_false, keep_nil, p_bin, p_pick, p_un, p_eq, p_conv, evNew, pureK_some, newK_some, X.eval, set_none, set_some, List.map_cons, List.map_nil, List.getD_cons_zero, List.getD_cons_succ, List.getD_nil, List.set_cons_zero, List.set_cons_succ, binCV, unCV, isShift, intArithF_eq, shiftF_eq, wrapF_eq, intArith, shift, eqVal, bound, asNat_cast, cond_true, cond_false, BEq.rfl, beq_self_eq_true, evalParts, fillParts, AV.cells, AV.ofCells, XV.av, AV.xv, List.length_cons, List.length_nil, zeros, patch, setMany, List.nil_append, List.cons_append, Nat.ble, Nat.add_eq, Nat.zero_add, Nat.add_zero, Nat.reduceAdd, Nat.reduceMul, Nat.reduceSub, Nat.ble_eq, Nat.reduceLeDiff, Nat.reduceBEq, Int.reduceBEq, Int.reduceNeg, Bool.and_true, Bool.and_false, Bool.true_and, Bool.false_and, Bool.not_true, Bool.not_false, Bool.true_eq_false, Bool.false_eq_true, Int.reduceLT, Int.reduceLE, Int.reduceGT, Int.reduceGE, decide_true, decide_false, Bool.not_eq_true, loopN_norm, loopN_exit, tf, ft, ff, e1, op_nilchk, p_nilchk, op_faddr, p_faddr, op_iaddrA, p_iaddrA, p_load, m.rh hj, AV.ofCells, m1, Nat.mul_one, op_recvd, c_recvd, g, op_ext, p_ext, List.getElem?_cons_zero, List.getElem?_cons_succ]
  exact ⟨_, rfl, m3, (ExtB.refl _ _).put (.inr (List.getElem_mem _)) _⟩

/-- Who is among the first words. -/
def inKeys (l : Wd) (i : Nat) : Bool := decide ((i : Int) ∈ keys l)

theorem take_ok (m : MB h p w cs ws fa fo fh) (n : Int) (hw : ws.length ≤ 8) (hk : ∀ x ∈ keys ws, 0 ≤ x ∧ x < 64) (hN : 12 ≤ N) :
    ∃ y h', evCallT table 13 N (d + 1) 17 [.c (.ptr p 0), .c (.int .i64 n)] h = some (.c y, h') ∧ SoleR 2 h h' y (ws.take n.toNat).length (flat (ws.take n.toNat)) ∧
      MB h' p w cs (ws.drop n.toNat) (fun i => if inKeys (ws.take n.toNat) i then false else fa i) (fun i => if inKeys (ws.take n.toNat) i then true else fo i) fh ∧ ExtB [p, w] h h' := by
  rw [evCallT_eq (F := ir17) rfl rfl rfl]
  unfold ir17
  rw [bodyK_eq]
  have L : ∀ loc, keepOnly ir17_k0 loc = [.c (.ptr p 0), .c (.int .i64 n), .junk, .c .nils, .junk, .junk, .junk, .junk, .junk, .junk] →
      ∃ r, loopK (evCallT table 13 N d) N ir17_k0 ir17_l0 N loc h = some r ∧ ∃ y h' a0 a1 a2 l, r = (.exit 0, a0 :: a1 :: a2 :: .c y :: l, h') ∧ SoleR 2 h h' y (ws.take n.toNat).length (flat (ws.take n.toNat)) ∧
        MB h' p w cs (ws.drop n.toNat) (fun i => if inKeys (ws.take n.toNat) i then false else fa i) (fun i => if inKeys (ws.take n.toNat) i then true else fo i) fh ∧ ExtB [p, w] h h' := by
    intro loc hloc
    refine loop_inv (n := min n.toNat ws.length) (fun i loc h' => ∃ y, SoleR 2 h h' y i (flat (ws.take i)) ∧ MB h' p w cs (ws.drop i) (fun j => if inKeys (ws.take i) j then false else fa j) (fun j => if inKeys (ws.take i) j then true else fo j) fh ∧ ExtB [p, w] h h' ∧
      loc = [.c (.ptr p 0), .c (.int .i64 n), .junk, .c y, .junk, .junk, .junk, .junk, .junk, .junk]) _ ?_ ⟨.nils, ⟨rfl, .inl ⟨rfl, rfl⟩⟩, by simpa [inKeys, keys] using m, ExtB.refl _ _, hloc⟩ (by omega)
    rintro i loc h' hi ⟨y, my, m', he, rfl⟩
    have ly : ∀ (loc vals : List AV) (h : Heap), evPure loc (.c y :: vals) h (.len .sl (.val 0)) = some (.c (.int .i64 (i : Int))) := fun _ _ _ => my.recs.len rfl
    unfold ir17_l0
    by_cases h1 : i < n.toNat
    · have v1 : decide ((i : Int) < n) = true := decide_eq_true (by omega)
      by_cases h2 : i < ws.length
      · left
        refine ⟨by omega, ?_⟩
        have gw := m'.words
        rw [List.drop_eq_getElem_cons h2, List.map_cons] at gw
        obtain ⟨⟨k, v⟩, hkv⟩ : ∃ x, x = ws[i] := ⟨_, rfl⟩
        rw [← hkv] at gw
        have hk2 := hk k (List.mem_map.2 ⟨(k, v), by rw [hkv]; exact List.getElem_mem _, rfl⟩)
        obtain ⟨j, rfl⟩ : ∃ j : Nat, k = (j : Int) := ⟨k.toNat, by omega⟩
        have hj : j < 64 := by omega
        have m1 : Nat.blt j 64 = true := bltT hj
        have ma := m'.putWords (ws.drop (i + 1))
        obtain ⟨hb, hbeq⟩ : ∃ hb, hb = h'.put w (.chan 8 ((ws.drop (i + 1)).map wx)) := ⟨_, rfl⟩
        rw [← hbeq] at ma
        have nb : hb.next = h'.next := by rw [hbeq]; rfl
        obtain ⟨hc, w1, g1, x1, n1⟩ := box_store (h := hb) (z := [.int .i64 0, .int .i64 0]) (v := [.int .i64 (j : Int), .int .i64 v]) rfl
        have mc := ma.ext (x1.b []) (by simp) (by simp) (by simp)
        have q0 : hc.read hb.next 0 1 = some [.int .i64 (j : Int)] := read_cells g1 rfl
        have Wa := mc.wa_ hj false
        have md := mc.putBox (fun i_1 => if i_1 = j then false else if inKeys (ws.take i) i_1 then false else fa i_1) (fun i_1 => if inKeys (ws.take i) i_1 then true else fo i_1)
        have Wo := md.wo_ hj true
        have me := md.putBox (fun i_1 => if i_1 = j then false else if inKeys (ws.take i) i_1 then false else fa i_1) (fun i_1 => if i_1 = j then true else if inKeys (ws.take i) i_1 then true else fo i_1)
        obtain ⟨hd, hdeq⟩ : ∃ hd, hd = (hc.put p (.cells (boxC w (cs.map .ch) (fun i_1 => if i_1 = j then false else if inKeys (ws.take i) i_1 then false else fa i_1) (fun i_1 => if inKeys (ws.take i) i_1 then true else fo i_1)))).put p (.cells (boxC w (cs.map .ch) (fun i_1 => if i_1 = j then false else if inKeys (ws.take i) i_1 then false else fa i_1) (fun i_1 => if i_1 = j then true else if inKeys (ws.take i) i_1 then true else fo i_1))) := ⟨_, rfl⟩
        rw [← hdeq] at me
        have nd' : hd.next = h'.next + 1 := by rw [hdeq]; show hc.next = _; rw [n1, nb]
        have pb : p < hb.next := by rw [nb]; exact m'.pn
        have rp1 : ∀ X, (hc.put p X).read hb.next 0 1 = some [.int .i64 (j : Int)] := fun X => read_cells (by rw [get_put_ne (by omega)]; exact g1) rfl
        have rp2 : ∀ X Y, ((hc.put p X).put p Y).read hb.next 0 1 = some [.int .i64 (j : Int)] := fun X Y => read_cells (by rw [get_put_ne (by omega), get_put_ne (by omega)]; exact g1) rfl
        have gd : hd.get hb.next = some (.cells [.int .i64 (j : Int), .int .i64 v]) := by rw [hdeq, get_put_ne (by omega), get_put_ne (by omega)]; exact g1
        have r0 : hd.read hb.next 0 1 = some [.int .i64 (j : Int)] := read_cells gd rfl
        have r1 : hd.read hb.next 1 1 = some [.int .i64 v] := read_cells gd rfl
        have xd : ExtB [p, w] h' hd := by
          rw [hdeq]
          refine ExtB.put (ExtB.put (ExtB.trans (b := hb) ?_ (x1.b _)) (.inr (by simp)) _) (.inr (by simp)) _
          rw [hbeq]; exact (ExtB.refl _ _).put (.inr (by simp)) _
        have hyp : ∀ k, blk y = some k → k ∉ [p, w] := fun k hk => by have := my.young k hk; have := m.pn; have := m.wn; simp; omega
        have myd := my.keepB xd hyp
        have hle := xd.1
        have hle0 := he.1
        obtain ⟨z, h3, a1, a2, a3, a4⟩ := app_recs (sz := 2) (y := .sl hd.next 0 1 (.ex 1)) (m := 1) (k := [(j : Int), v]) (by omega) (myd.keep (h' := hd.new (.cells [.int .i64 (j : Int), .int .i64 v])) (Nat.le_succ _) fun k hk _ => get_new_old hk) (by show h.next ≤ hd.next + 1; omega)
          ⟨rfl, .inr ⟨hd.next, 0, _, rfl, Nat.lt_succ_self _, fun q u hq => by
            rw [Nat.zero_add]
            exact read_cells get_new_at (by match q, hq with
                                            | 0, hq => simpa [icell] using hq
                                            | 1, hq => simpa [icell] using hq)⟩⟩ (by omega)
        rw [next_new] at a3
        have x3 : ExtB [p, w] h h3 := ⟨by omega, fun r hr hn => by
          have hyr : blk y ≠ some r := fun e => by have := my.young r e; omega
          rw [a4 r (by show r < hd.next + 1; omega) hyr, get_new_old (by omega), xd.2 r (by omega) hn, he.2 r hr hn]⟩
        have ink : ∀ j', inKeys (ws.take (i + 1)) j' = (decide (j' = j) || inKeys (ws.take i) j') := fun j' => by
          rw [List.take_succ_eq_append_getElem h2, ← hkv]
          unfold inKeys keys
          rw [List.map_append, ← Bool.decide_or]
          apply decide_eq_decide.2
          simp only [List.mem_append, List.map_cons, List.map_nil, List.mem_singleton]
          rw [or_comm]
          exact or_congr (by omega) Iff.rfl
        have m3 : MB h3 p w cs (ws.drop (i + 1)) _ _ fh := me.ext (S := (blk y).toList) ?_ (fun e => by have := my.young p (by simpa using e); have := m.pn; omega) (fun e => by have := my.young w (by simpa using e); have := m.wn; omega) (fun a ha e => by have := my.young a (by simpa using e); have := m.an a ha; omega)
        · simp only [enter_eq, ev_seq, seqK_norm, seqK_exit, seqK_ret, ev_reg, ev_cond, condK_true, condK_false, ev_block, blockK_norm, blockK_ret, blockK_exit, ev_loop, ev_skip, ev_exit, ev_ret, regK_cons, regK_nil, guard_none, guard_some, regG_true, regG_false, regO_some, op_mov, op_conv, op_bin, op_bsl, op_box, op_mks, op_s2b, op_pick, op_un, op_eq, op_len, op_ext, op_load, op_iaddr, op_slice, op_b2s, op_idxS, op_mx, op_mn, op_call, op_store, op_app, op_copy, args_eq, result_one', rv_loc, finish_norm, finish_ret, outK_some, keep_true, keep_false, keep_nil, p_bin, p_pick, p_un, p_eq, p_conv, evNew, pureK_some, newK_some, X.eval, set_none, set_some, List.map_cons, List.map_nil, List.getD_cons_zero, List.getD_cons_succ, List.getD_nil, List.set_cons_zero, List.set_cons_succ, binCV, unCV, isShift, intArithF_eq, shiftF_eq, wrapF_eq, intArith, shift, eqVal, bound, asNat_cast, cond_true, cond_false, BEq.rfl, beq_self_eq_true, evalParts, fillParts, AV.cells, AV.ofCells, XV.av, AV.xv, List.length_cons, List.length_nil, zeros, patch, setMany, List.nil_append, List.cons_append, Nat.ble, Nat.add_eq, Nat.zero_add, Nat.add_zero, Nat.reduceAdd, Nat.reduceMul, Nat.reduceSub, Nat.ble_eq, Nat.reduceLeDiff, Nat.reduceBEq, Int.reduceBEq, Int.reduceNeg, Bool.and_true, Bool.and_false, Bool.true_and, Bool.false_and, Bool.not_true, Bool.not_false, Bool.true_eq_false, Bool.false_eq_true, Int.reduceLT, Int.reduceLE, Int.reduceGT, Int.reduceGE, decide_true, decide_false, Bool.not_eq_true, loopN_norm, loopN_exit, tf, ft, ff, ev_dreg, dregK_nil, dregK_cons, dregE_true, dregP_some, dregX_some, d_mov, d_bin, d_eq, d_pick, d_un, d_conv, d_b2s, d_len, d_load, d_iaddr, d_slice, d_ext, d_call, d_store, chk_done, chk_none, chk_some, chkG_true, chkG_false, chkOne_nil, chkOne_cons, chkH_some, chkV_same, stage_none, stage_some, look_hit, look_miss, news_nil, wb_cons, wb_nil, skip0, List.reverse_cons, List.reverse_nil, ly, v1, op_nilchk, p_nilchk, op_faddr, p_faddr, p_load, m'.r0, AV.ofCells, op_recvd, c_recvd, gw]
          rw [← hbeq]
          simp only [enter_eq, ev_seq, seqK_norm, seqK_exit, seqK_ret, ev_reg, ev_cond, condK_true, condK_false, ev_block, blockK_norm, blockK_ret, blockK_exit, ev_loop, ev_skip, ev_exit, ev_ret, regK_cons, regK_nil, guard_none, guard_some, regG_true, regG_false, regO_some, op_mov, op_conv, op_bin, op_bsl, op_box, op_mks, op_s2b, op_pick, op_un, op_eq, op_len, op_ext, op_load, op_iaddr, op_slice, op_b2s, op_idxS, op_mx, op_mn, op_call, op_store, op_app, op_copy, args_eq, result_one', rv_loc, finish_norm, finish_ret, outK_some, keep_true, keep_false, keep_nil, p_bin, p_pick, p_un, p_eq, p_conv, evNew, pureK_some, newK_some, X.eval, set_none, set_some, List.map_cons, List.map_nil, List.getD_cons_zero, List.getD_cons_succ, List.getD_nil, List.set_cons_zero, List.set_cons_succ, binCV, unCV, isShift, intArithF_eq, shiftF_eq, wrapF_eq, intArith, shift, eqVal, bound, asNat_cast, cond_true, cond_false, BEq.rfl, beq_self_eq_true, evalParts, fillParts, AV.cells, AV.ofCells, XV.av, AV.xv, List.length_cons, List.length_nil, zeros, patch, setMany, List.nil_append, List.cons_append, Nat.ble, Nat.add_eq, Nat.zero_add, Nat.add_zero, Nat.reduceAdd, Nat.reduceMul, Nat.reduceSub, Nat.ble_eq, Nat.reduceLeDiff, Nat.reduceBEq, Int.reduceBEq, Int.reduceNeg, Bool.and_true, Bool.and_false, Bool.true_and, Bool.false_and, Bool.not_true, Bool.not_false, Bool.true_eq_false, Bool.false_eq_true, Int.reduceLT, Int.reduceLE, Int.reduceGT, Int.reduceGE, decide_true, decide_false, Bool.not_eq_true, loopN_norm, loopN_exit, tf, ft, ff, ev_dreg, dregK_nil, dregK_cons, dregE_true, dregP_some, dregX_some, d_mov, d_bin, d_eq, d_pick, d_un, d_conv, d_b2s, d_len, d_load, d_iaddr, d_slice, d_ext, d_call, d_store, chk_done, chk_none, chk_some, chkG_true, chkG_false, chkOne_nil, chkOne_cons, chkH_some, chkV_same, stage_none, stage_some, look_hit, look_miss, news_nil, wb_cons, wb_nil, skip0, List.reverse_cons, List.reverse_nil, wx, op_ext, p_ext, List.getElem?_cons_zero, List.getElem?_cons_succ, evEff, w1, d_nilchk, p_nilchk, d_faddr, p_faddr, d_iaddrA, p_iaddrA, p_load, q0, rp1, rp2, m1, Nat.mul_one, AV.ofCells, Wa, Wo]
          rw [← hdeq]
          simp only [enter_eq, ev_seq, seqK_norm, seqK_exit, seqK_ret, ev_reg, ev_cond, condK_true, condK_false, ev_block, blockK_norm, blockK_ret, blockK_exit, ev_loop, ev_skip, ev_exit, ev_ret, regK_cons, regK_nil, guard_none, guard_some, regG_true, regG_false, regO_some, op_mov, op_conv, op_bin, op_bsl, op_box, op_mks, op_s2b, op_pick, op_un, op_eq, op_len, op_ext, op_load, op_iaddr, op_slice, op_b2s, op_idxS, op_mx, op_mn, op_call, op_store, op_app, op_copy, args_eq, result_one', rv_loc, finish_norm, finish_ret, outK_some, keep_true, keep_false, keep_nil, p_bin, p_pick, p_un, p_eq, p_conv, evNew, pureK_some, newK_some, X.eval, set_none, set_some, List.map_cons, List.map_nil, List.getD_cons_zero, List.getD_cons_succ, List.getD_nil, List.set_cons_zero, List.set_cons_succ, binCV, unCV, isShift, intArithF_eq, shiftF_eq, wrapF_eq, intArith, shift, eqVal, bound, asNat_cast, cond_true, cond_false, BEq.rfl, beq_self_eq_true, evalParts, fillParts, AV.cells, AV.ofCells, XV.av, AV.xv, List.length_cons, List.length_nil, zeros, patch, setMany, List.nil_append, List.cons_append, Nat.ble, Nat.add_eq, Nat.zero_add, Nat.add_zero, Nat.reduceAdd, Nat.reduceMul, Nat.reduceSub, Nat.ble_eq, Nat.reduceLeDiff, Nat.reduceBEq, Int.reduceBEq, Int.reduceNeg, Bool.and_true, Bool.and_false, Bool.true_and, Bool.false_and, Bool.not_true, Bool.not_false, Bool.true_eq_false, Bool.false_eq_true, Int.reduceLT, Int.reduceLE, Int.reduceGT, Int.reduceGE, decide_true, decide_false, Bool.not_eq_true, loopN_norm, loopN_exit, tf, ft, ff, ev_dreg, dregK_nil, dregK_cons, dregE_true, dregP_some, dregX_some, d_mov, d_bin, d_eq, d_pick, d_un, d_conv, d_b2s, d_len, d_load, d_iaddr, d_slice, d_ext, d_call, d_store, chk_done, chk_none, chk_some, chkG_true, chkG_false, chkOne_nil, chkOne_cons, chkH_some, chkV_same, stage_none, stage_some, look_hit, look_miss, news_nil, wb_cons, wb_nil, skip0, List.reverse_cons, List.reverse_nil, op_build, p_build', op_faddr, p_faddr, p_load, r0, r1, AV.ofCells, a1]
          refine ⟨_, _, rfl, z, ?_, m3.congr ?_ ?_ (fun _ _ => rfl), x3, rfl⟩
          · rw [List.take_succ_eq_append_getElem h2, flat_app, ← hkv]; exact a2
          · intro j' _
            rw [ink]
            by_cases e : j' = j <;> simp [e]
          · intro j' _
            rw [ink]
            by_cases e : j' = j <;> simp [e]
        · exact ⟨by omega, fun r hr hn => by
            have hyr : blk y ≠ some r := fun e => hn (by simpa using e)
            rw [a4 r (by rw [next_new]; omega) hyr, get_new_old hr]⟩
      · right
        have hin : i = ws.length := by omega
        have gw := m'.words
        rw [List.drop_of_length_le (by omega), List.map_nil] at gw
        simp only [enter_eq, ev_seq, seqK_norm, seqK_exit, seqK_ret, ev_reg, ev_cond, condK_true, condK_false, ev_block, blockK_norm, blockK_ret, blockK_exit, ev_loop, ev_skip, ev_exit, ev_ret, regK_cons, regK_nil, guard_none, guard_some, regG_true, regG_false, regO_some, op_mov, op_conv, op_bin, op_bsl, op_box, op_mks, op_s2b, op_pick, op_un, op_eq, op_len, op_ext, op_load, op_iaddr, op_slice, op_b2s, op_idxS, op_mx, op_mn, op_call, op_store, op_app, op_copy, args_eq, result_one', rv_loc, finish_norm, finish_ret, outK_some, keep_true, keep_false, keep_nil, p_bin, p_pick, p_un, p_eq, p_conv, evNew, pureK_some, newK_some, X.eval, set_none, set_some, List.map_cons, List.map_nil, List.getD_cons_zero, List.getD_cons_succ, List.getD_nil, List.set_cons_zero, List.set_cons_succ, binCV, unCV, isShift, intArithF_eq, shiftF_eq, wrapF_eq, intArith, shift, eqVal, bound, asNat_cast, cond_true, cond_false, BEq.rfl, beq_self_eq_true, evalParts, fillParts, AV.cells, AV.ofCells, XV.av, AV.xv, List.length_cons, List.length_nil, zeros, patch, setMany, List.nil_append, List.cons_append, Nat.ble, Nat.add_eq, Nat.zero_add, Nat.add_zero, Nat.reduceAdd, Nat.reduceMul, Nat.reduceSub, Nat.ble_eq, Nat.reduceLeDiff, Nat.reduceBEq, Int.reduceBEq, Int.reduceNeg, Bool.and_true, Bool.and_false, Bool.true_and, Bool.false_and, Bool.not_true, Bool.not_false, Bool.true_eq_false, Bool.false_eq_true, Int.reduceLT, Int.reduceLE, Int.reduceGT, Int.reduceGE, decide_true, decide_false, Bool.not_eq_true, loopN_norm, loopN_exit, tf, ft, ff, ly, v1, op_nilchk, p_nilchk, op_faddr, p_faddr, p_load, m'.r0, AV.ofCells, op_recvd, c_recvd, gw, op_ext, p_ext, List.getElem?_cons_zero, List.getElem?_cons_succ]
        have ht : ws.take n.toNat = ws.take i := by rw [List.take_of_length_le (by omega), List.take_of_length_le (by omega)]
        have hd : ws.drop n.toNat = ws.drop i := by rw [List.drop_of_length_le (by omega), List.drop_of_length_le (by omega)]
        rw [ht, hd]
        refine ⟨_, rfl, by simp, y, h', _, _, _, _, rfl, ?_, m', he⟩
        rw [List.length_take, Nat.min_eq_left (by omega)]; exact my
    · right
      have v1 : decide ((i : Int) < n) = false := decide_eq_false (by omega)
      have hin : i = min n.toNat ws.length := by omega
      have ht : ws.take n.toNat = ws.take i := by rw [hin, List.take_eq_take_iff]; omega
      have hd : ws.drop n.toNat = ws.drop i := by
        by_cases hl : n.toNat ≤ ws.length
        · rw [hin, Nat.min_eq_left hl]
        · rw [List.drop_of_length_le (by omega), List.drop_of_length_le (by omega)]
      simp only [enter_eq, ev_seq, seqK_norm, seqK_exit, seqK_ret, ev_reg, ev_cond, condK_true, condK_false, ev_block, blockK_norm, blockK_ret, blockK_exit, ev_loop, ev_skip, ev_exit, ev_ret, regK_cons, regK_nil, guard_none, guard_some, regG_true, regG_false, regO_some, op_mov, op_conv, op_bin, op_bsl, op_box, op_mks, op_s2b, op_pick, op_un, op_eq, op_len, op_ext, op_load, op_iaddr, op_slice, op_b2s, op_idxS, op_mx, op_mn, op_call, op_store, op_app, op_copy, args_eq, result_one', rv_loc, finish_norm, finish_ret, outK_some, keep_true, keep_false, keep_nil, p_bin, p_pick, p_un, p_eq, p_conv, evNew, pureK_some, newK_some, X.eval, set_none, set_some, List.map_cons, List.map_nil, List.getD_cons_zero, List.getD_cons_succ, List.getD_nil, List.set_cons_zero, List.set_cons_succ, binCV, unCV, isShift, intArithF_eq, shiftF_eq, wrapF_eq, intArith, shift, eqVal, bound, asNat_cast, cond_true, cond_false, BEq.rfl, beq_self_eq_true, evalParts, fillParts, AV.cells, AV.ofCells, XV.av, AV.xv, List.length_cons, List.length_nil, zeros, patch, setMany, List.nil_append, List.cons_append, Nat.ble, Nat.add_eq, Nat.zero_add, Nat.add_zero, Nat.reduceAdd, Nat.reduceMul, Nat.reduceSub, Nat.ble_eq, Nat.reduceLeDiff, Nat.reduceBEq, Int.reduceBEq, Int.reduceNeg, Bool.and_true, Bool.and_false, Bool.true_and, Bool.false_and, Bool.not_true, Bool.not_false, Bool.true_eq_false, Bool.false_eq_true, Int.reduceLT, Int.reduceLE, Int.reduceGT, Int.reduceGE, decide_true, decide_false, Bool.not_eq_true, loopN_norm, loopN_exit, tf, ft, ff, ly, v1]
      rw [ht, hd]
      refine ⟨_, rfl, by simp, y, h', _, _, _, _, rfl, ?_, m', he⟩
      rw [List.length_take, Nat.min_eq_left (by omega)]; exact my
  obtain ⟨r, hr, y, h', a0, a1, a2, l, rfl, my, m', he⟩ := L [.c (.ptr p 0), .c (.int .i64 n), .c .nils, .c .nils, .tup [], .c (.bool false), .tup [], .tup [], .tup [], .tup []] rfl
  simp only [enter_eq, ev_seq, seqK_norm, seqK_exit, seqK_ret, ev_reg, ev_cond, condK_true, condK_false, ev_block, blockK_norm, blockK_ret, blockK_exit, ev_loop, ev_skip, ev_exit, ev_ret, regK_cons, regK_nil, guard_none, guard_some, regG_true, regG_false, regO_some, op_mov, op_conv, op_bin, op_bsl, op_box, op_mks, op_s2b, op_pick, op_un, op_eq, op_len, op_ext, op_load, op_iaddr, op_slice, op_b2s, op_idxS, op_mx, op_mn, op_call, op_store, op_app, op_copy, args_eq, result_one', rv_loc, finish_norm, finish_ret, outK_some, keep_true, keep_false, keep_nil, p_bin, p_pick, p_un, p_eq, p_conv, evNew, pureK_some, newK_some, X.eval, set_none, set_some, List.map_cons, List.map_nil, List.getD_cons_zero, List.getD_cons_succ, List.getD_nil, List.set_cons_zero, List.set_cons_succ, binCV, unCV, isShift, intArithF_eq, shiftF_eq, wrapF_eq, intArith, shift, eqVal, bound, asNat_cast, cond_true, cond_false, BEq.rfl, beq_self_eq_true, evalParts, fillParts, AV.cells, AV.ofCells, XV.av, AV.xv, List.length_cons, List.length_nil, zeros, patch, setMany, List.nil_append, List.cons_append, Nat.ble, Nat.add_eq, Nat.zero_add, Nat.add_zero, Nat.reduceAdd, Nat.reduceMul, Nat.reduceSub, Nat.ble_eq, Nat.reduceLeDiff, Nat.reduceBEq, Int.reduceBEq, Int.reduceNeg, Bool.and_true, Bool.and_false, Bool.true_and, Bool.false_and, Bool.not_true, Bool.not_false, Bool.true_eq_false, Bool.false_eq_true, Int.reduceLT, Int.reduceLE, Int.reduceGT, Int.reduceGE, decide_true, decide_false, Bool.not_eq_true, loopN_norm, loopN_exit, tf, ft, ff, hr, blockK_exit_eq]
  exact ⟨_, _, rfl, my, m', he⟩
end
end Lav
