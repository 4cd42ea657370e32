/-
  Proved: whatever three bytes, pages and clients come in, lavabolaw15.ScriptOps returns true and changes nothing that was there. No conditions beyond the given statement's.
-/
import Derived.Test.YtdeehmncnfdmkaaRows
import Derived.Test.YtdeehmncnfdmkaaScr3
import Derived.WalkKit
import Derived.ProofKit
import Derived.OpenShut
import Derived.Below
import Derived.ShutString
set_option maxRecDepth 100000
set_option linter.unusedSimpArgs false
namespace Lav
open Go (IntKind)
theorem scriptOps_0 {a b e : Nat} (ha : a < 256) (hb : b < 256) (he : e < 256) (p q : Int) (hk : a % 8 = 0) : good (evCallX table 21 37 200 9 10 [.c (.int .u8 (a : Int)), .c (.int .u8 (b : Int)), .c (.int .u8 (e : Int)), .c (.int .i64 p), .c (.int .i64 q)] Heap.empty) = true := by
  obtain ⟨k1, hk1, e1⟩ : ∃ k : Nat, k < 48 ∧ IntKind.i64.wrap (Int.tmod (IntKind.u64.wrap p) 48) = k := few (by omega) (by omega)
  obtain ⟨k2, hk2, e2⟩ : ∃ k : Nat, k < 6 ∧ IntKind.i64.wrap (Int.tmod (IntKind.u64.wrap q) 6) = k := few (by omega) (by omega)
  have w1 : IntKind.i64.wrap (1 + (k1 : Int)) = 1 + (k1 : Int) := wrapI (by omega) (by omega)
  have w2 : IntKind.i64.wrap (1 + (k2 : Int)) = 1 + (k2 : Int) := wrapI (by omega) (by omega)
  have w3 := wI ha
  have w4 : Int.tmod (a : Int) 8 = 0 := by have := tmodN a 8; rw [hk] at this; exact this
  have w5 : IntKind.i64.wrap 1 = 1 := rfl
  obtain ⟨c, hc⟩ : ∃ c : Cf, c = ⟨1 + (k1 : Int), 4, 2, 1 + (k2 : Int)⟩ := ⟨_, rfl⟩
  have ok : c.ok = true := Cf.ok_iff.2 (by rw [hc]; simp only; omega)
  have hcc : cfC c = [.int .i64 (1 + (k1 : Int)), .int .i64 4, .int .i64 2, .int .i64 (1 + (k2 : Int))] := by rw [hc]
  obtain ⟨H0, e3, g0, x0, n0⟩ := box_store (h := Heap.empty) (z := [.int .i64 0, .int .i64 0, .int .i64 0, .int .i64 0]) (v := cfC c) rfl
  rw [hcc] at e3
  have q0 : H0.read Heap.empty.next 0 4 = some (cfC c) := read_all g0 rfl
  obtain ⟨x, H1, e4, t1, x1⟩ := op_ok (N := 200) (d := 3) (h := H0) c ha hb he (by omega)
  unfold opOf at e4 t1
  rw [if_pos ok, hk] at e4 t1
  obtain ⟨o, ho⟩ : ∃ o, o = opK c b e 0 := ⟨_, rfl⟩
  have ok0 : o.kind = 1 := by rw [ho]; rfl
  have o_page : o.page = 0 := by rw [ho]; rfl
  have o_handle : o.handle = 0 := by rw [ho]; rfl
  have o_off : o.off = 0 := by rw [ho]; rfl
  have o_n : o.n = 0 := by rw [ho]; rfl
  have o_data : o.data = [] := by rw [ho]; rfl
  rw [← ho] at e4 t1
  obtain ⟨H2, e5, g2, x2, n2⟩ := box_store (h := H1) (z := clZ) (v := clC o x) rfl
  have r0 : H2.read H1.next 0 1 = some [.int .i64 o.kind] := read_cells g2 rfl
  have r1 : H2.read H1.next 1 1 = some [.int .i64 o.page] := read_cells g2 rfl
  have r2 : H2.read H1.next 2 1 = some [.int .i64 o.handle] := read_cells g2 rfl
  have r3 : H2.read H1.next 3 1 = some [.int .i64 o.off] := read_cells g2 rfl
  have r4 : H2.read H1.next 4 1 = some [.int .i64 o.n] := read_cells g2 rfl
  have r5 : H2.read H1.next 5 1 = some [x] := read_cells g2 rfl
  rw [ok0] at r0
  rw [o_page] at r1
  rw [o_handle] at r2
  rw [o_off] at r3
  rw [o_n] at r4
  have lx : ∀ (loc vals : List AV) (h : Heap), evPure loc (.c x :: vals) h (.len .sl (.val 0)) = some (.c (.int .i64 (o.data.length : Int))) := fun _ _ _ => t1.len rfl
  rw [o_data] at lx
  simp only [List.length_nil, Int.ofNat_zero, Int.natCast_zero] at lx
  rw [evCallX_eq (F := ir10) rfl rfl rfl rfl]
  unfold ir10
  rw [bodyK_eq]
  simp only [enter_eq, ev_seq, seqK_norm, seqK_exit, seqK_ret, ev_reg, ev_cond, condK_true, condK_false, ev_block, blockK_norm, blockK_ret, blockK_exit, ev_loop, ev_skip, ev_exit, ev_ret, regK_cons, regK_nil, guard_none, guard_some, regG_true, regG_false, regO_some, op_mov, op_conv, op_bin, op_bsl, op_box, op_mks, op_s2b, op_pick, op_un, op_eq, op_len, op_ext, op_load, op_iaddr, op_slice, op_b2s, op_idxS, op_mx, op_mn, op_call, op_store, op_app, op_copy, args_eq, result_one', rv_loc, finish_norm, finish_ret, outK_some, keep_true, keep_false, keep_nil, p_bin, p_pick, p_un, p_eq, p_conv, evNew, pureK_some, newK_some, X.eval, set_none, set_some, List.map_cons, List.map_nil, List.getD_cons_zero, List.getD_cons_succ, List.getD_nil, List.set_cons_zero, List.set_cons_succ, binCV, unCV, isShift, intArithF_eq, shiftF_eq, wrapF_eq, intArith, shift, eqVal, bound, asNat_cast, cond_true, cond_false, BEq.rfl, beq_self_eq_true, evalParts, fillParts, AV.cells, AV.ofCells, XV.av, AV.xv, List.length_cons, List.length_nil, zeros, patch, setMany, List.nil_append, List.cons_append, Nat.ble, Nat.add_eq, Nat.zero_add, Nat.add_zero, Nat.reduceAdd, Nat.reduceMul, Nat.reduceSub, Nat.ble_eq, Nat.reduceLeDiff, Nat.reduceBEq, Int.reduceBEq, Int.reduceNeg, Bool.and_true, Bool.and_false, Bool.true_and, Bool.false_and, Bool.not_true, Bool.not_false, Bool.true_eq_false, Bool.false_eq_true, Int.reduceLT, Int.reduceLE, Int.reduceGT, Int.reduceGE, decide_true, decide_false, Bool.not_eq_true, loopN_norm, loopN_exit, tf, ft, ff, e1, e2, w1, w2, w3, w4, w5, op_build, p_build', next_new, evEff, e3, p_load, AV.ofCells, q0, e4, e5, op_faddr, p_faddr, r0, r1, r2, r3, r4, r5, evCallX_told, lx, Int.reduceAdd, Int.reduceBEq]
  rfl

theorem scriptOps_1 {a b e : Nat} (ha : a < 256) (hb : b < 256) (he : e < 256) (p q : Int) (hk : a % 8 = 1) : good (evCallX table 21 37 200 9 10 [.c (.int .u8 (a : Int)), .c (.int .u8 (b : Int)), .c (.int .u8 (e : Int)), .c (.int .i64 p), .c (.int .i64 q)] Heap.empty) = true := by
  obtain ⟨k1, hk1, e1⟩ : ∃ k : Nat, k < 48 ∧ IntKind.i64.wrap (Int.tmod (IntKind.u64.wrap p) 48) = k := few (by omega) (by omega)
  obtain ⟨k2, hk2, e2⟩ : ∃ k : Nat, k < 6 ∧ IntKind.i64.wrap (Int.tmod (IntKind.u64.wrap q) 6) = k := few (by omega) (by omega)
  have w1 : IntKind.i64.wrap (1 + (k1 : Int)) = 1 + (k1 : Int) := wrapI (by omega) (by omega)
  have w2 : IntKind.i64.wrap (1 + (k2 : Int)) = 1 + (k2 : Int) := wrapI (by omega) (by omega)
  have w3 := wI ha
  have w4 : Int.tmod (a : Int) 8 = 1 := by have := tmodN a 8; rw [hk] at this; exact this
  have w5 : IntKind.i64.wrap 2 = 2 := rfl
  obtain ⟨c, hc⟩ : ∃ c : Cf, c = ⟨1 + (k1 : Int), 4, 2, 1 + (k2 : Int)⟩ := ⟨_, rfl⟩
  have ok : c.ok = true := Cf.ok_iff.2 (by rw [hc]; simp only; omega)
  have hcc : cfC c = [.int .i64 (1 + (k1 : Int)), .int .i64 4, .int .i64 2, .int .i64 (1 + (k2 : Int))] := by rw [hc]
  obtain ⟨H0, e3, g0, x0, n0⟩ := box_store (h := Heap.empty) (z := [.int .i64 0, .int .i64 0, .int .i64 0, .int .i64 0]) (v := cfC c) rfl
  rw [hcc] at e3
  have q0 : H0.read Heap.empty.next 0 4 = some (cfC c) := read_all g0 rfl
  obtain ⟨x, H1, e4, t1, x1⟩ := op_ok (N := 200) (d := 3) (h := H0) c ha hb he (by omega)
  unfold opOf at e4 t1
  rw [if_pos ok, hk] at e4 t1
  obtain ⟨o, ho⟩ : ∃ o, o = opK c b e 1 := ⟨_, rfl⟩
  have ok0 : o.kind = 2 := by rw [ho]; rfl
  have o_handle : o.handle = 0 := by rw [ho]; rfl
  have o_off : o.off = 0 := by rw [ho]; rfl
  have o_n : o.n = 0 := by rw [ho]; rfl
  have o_data : o.data = [] := by rw [ho]; rfl
  rw [← ho] at e4 t1
  obtain ⟨H2, e5, g2, x2, n2⟩ := box_store (h := H1) (z := clZ) (v := clC o x) rfl
  have r0 : H2.read H1.next 0 1 = some [.int .i64 o.kind] := read_cells g2 rfl
  have r1 : H2.read H1.next 1 1 = some [.int .i64 o.page] := read_cells g2 rfl
  have r2 : H2.read H1.next 2 1 = some [.int .i64 o.handle] := read_cells g2 rfl
  have r3 : H2.read H1.next 3 1 = some [.int .i64 o.off] := read_cells g2 rfl
  have r4 : H2.read H1.next 4 1 = some [.int .i64 o.n] := read_cells g2 rfl
  have r5 : H2.read H1.next 5 1 = some [x] := read_cells g2 rfl
  rw [ok0] at r0
  rw [o_handle] at r2
  rw [o_off] at r3
  rw [o_n] at r4
  have lx : ∀ (loc vals : List AV) (h : Heap), evPure loc (.c x :: vals) h (.len .sl (.val 0)) = some (.c (.int .i64 (o.data.length : Int))) := fun _ _ _ => t1.len rfl
  rw [o_data] at lx
  simp only [List.length_nil, Int.ofNat_zero, Int.natCast_zero] at lx
  rw [evCallX_eq (F := ir10) rfl rfl rfl rfl]
  unfold ir10
  rw [bodyK_eq]
  simp only [enter_eq, ev_seq, seqK_norm, seqK_exit, seqK_ret, ev_reg, ev_cond, condK_true, condK_false, ev_block, blockK_norm, blockK_ret, blockK_exit, ev_loop, ev_skip, ev_exit, ev_ret, regK_cons, regK_nil, guard_none, guard_some, regG_true, regG_false, regO_some, op_mov, op_conv, op_bin, op_bsl, op_box, op_mks, op_s2b, op_pick, op_un, op_eq, op_len, op_ext, op_load, op_iaddr, op_slice, op_b2s, op_idxS, op_mx, op_mn, op_call, op_store, op_app, op_copy, args_eq, result_one', rv_loc, finish_norm, finish_ret, outK_some, keep_true, keep_false, keep_nil, p_bin, p_pick, p_un, p_eq, p_conv, evNew, pureK_some, newK_some, X.eval, set_none, set_some, List.map_cons, List.map_nil, List.getD_cons_zero, List.getD_cons_succ, List.getD_nil, List.set_cons_zero, List.set_cons_succ, binCV, unCV, isShift, intArithF_eq, shiftF_eq, wrapF_eq, intArith, shift, eqVal, bound, asNat_cast, cond_true, cond_false, BEq.rfl, beq_self_eq_true, evalParts, fillParts, AV.cells, AV.ofCells, XV.av, AV.xv, List.length_cons, List.length_nil, zeros, patch, setMany, List.nil_append, List.cons_append, Nat.ble, Nat.add_eq, Nat.zero_add, Nat.add_zero, Nat.reduceAdd, Nat.reduceMul, Nat.reduceSub, Nat.ble_eq, Nat.reduceLeDiff, Nat.reduceBEq, Int.reduceBEq, Int.reduceNeg, Bool.and_true, Bool.and_false, Bool.true_and, Bool.false_and, Bool.not_true, Bool.not_false, Bool.true_eq_false, Bool.false_eq_true, Int.reduceLT, Int.reduceLE, Int.reduceGT, Int.reduceGE, decide_true, decide_false, Bool.not_eq_true, loopN_norm, loopN_exit, tf, ft, ff, e1, e2, w1, w2, w3, w4, w5, op_build, p_build', next_new, evEff, e3, p_load, AV.ofCells, q0, e4, e5, op_faddr, p_faddr, r0, r1, r2, r3, r4, r5, evCallX_told, lx, Int.reduceAdd, Int.reduceBEq]
  rfl

theorem scriptOps_2 {a b e : Nat} (ha : a < 256) (hb : b < 256) (he : e < 256) (p q : Int) (hk : a % 8 = 2) : good (evCallX table 21 37 200 9 10 [.c (.int .u8 (a : Int)), .c (.int .u8 (b : Int)), .c (.int .u8 (e : Int)), .c (.int .i64 p), .c (.int .i64 q)] Heap.empty) = true := by
  obtain ⟨k1, hk1, e1⟩ : ∃ k : Nat, k < 48 ∧ IntKind.i64.wrap (Int.tmod (IntKind.u64.wrap p) 48) = k := few (by omega) (by omega)
  obtain ⟨k2, hk2, e2⟩ : ∃ k : Nat, k < 6 ∧ IntKind.i64.wrap (Int.tmod (IntKind.u64.wrap q) 6) = k := few (by omega) (by omega)
  have w1 : IntKind.i64.wrap (1 + (k1 : Int)) = 1 + (k1 : Int) := wrapI (by omega) (by omega)
  have w2 : IntKind.i64.wrap (1 + (k2 : Int)) = 1 + (k2 : Int) := wrapI (by omega) (by omega)
  have w3 := wI ha
  have w4 : Int.tmod (a : Int) 8 = 2 := by have := tmodN a 8; rw [hk] at this; exact this
  have w5 : IntKind.i64.wrap 3 = 3 := rfl
  obtain ⟨c, hc⟩ : ∃ c : Cf, c = ⟨1 + (k1 : Int), 4, 2, 1 + (k2 : Int)⟩ := ⟨_, rfl⟩
  have ok : c.ok = true := Cf.ok_iff.2 (by rw [hc]; simp only; omega)
  have hcc : cfC c = [.int .i64 (1 + (k1 : Int)), .int .i64 4, .int .i64 2, .int .i64 (1 + (k2 : Int))] := by rw [hc]
  obtain ⟨H0, e3, g0, x0, n0⟩ := box_store (h := Heap.empty) (z := [.int .i64 0, .int .i64 0, .int .i64 0, .int .i64 0]) (v := cfC c) rfl
  rw [hcc] at e3
  have q0 : H0.read Heap.empty.next 0 4 = some (cfC c) := read_all g0 rfl
  obtain ⟨x, H1, e4, t1, x1⟩ := op_ok (N := 200) (d := 3) (h := H0) c ha hb he (by omega)
  unfold opOf at e4 t1
  rw [if_pos ok, hk] at e4 t1
  obtain ⟨o, ho⟩ : ∃ o, o = opK c b e 2 := ⟨_, rfl⟩
  have ok0 : o.kind = 3 := by rw [ho]; rfl
  have o_page : o.page = 0 := by rw [ho]; rfl
  have o_data : o.data = [] := by rw [ho]; rfl
  rw [← ho] at e4 t1
  obtain ⟨H2, e5, g2, x2, n2⟩ := box_store (h := H1) (z := clZ) (v := clC o x) rfl
  have r0 : H2.read H1.next 0 1 = some [.int .i64 o.kind] := read_cells g2 rfl
  have r1 : H2.read H1.next 1 1 = some [.int .i64 o.page] := read_cells g2 rfl
  have r2 : H2.read H1.next 2 1 = some [.int .i64 o.handle] := read_cells g2 rfl
  have r3 : H2.read H1.next 3 1 = some [.int .i64 o.off] := read_cells g2 rfl
  have r4 : H2.read H1.next 4 1 = some [.int .i64 o.n] := read_cells g2 rfl
  have r5 : H2.read H1.next 5 1 = some [x] := read_cells g2 rfl
  rw [ok0] at r0
  rw [o_page] at r1
  have lx : ∀ (loc vals : List AV) (h : Heap), evPure loc (.c x :: vals) h (.len .sl (.val 0)) = some (.c (.int .i64 (o.data.length : Int))) := fun _ _ _ => t1.len rfl
  rw [o_data] at lx
  simp only [List.length_nil, Int.ofNat_zero, Int.natCast_zero] at lx
  rw [evCallX_eq (F := ir10) rfl rfl rfl rfl]
  unfold ir10
  rw [bodyK_eq]
  simp only [enter_eq, ev_seq, seqK_norm, seqK_exit, seqK_ret, ev_reg, ev_cond, condK_true, condK_false, ev_block, blockK_norm, blockK_ret, blockK_exit, ev_loop, ev_skip, ev_exit, ev_ret, regK_cons, regK_nil, guard_none, guard_some, regG_true, regG_false, regO_some, op_mov, op_conv, op_bin, op_bsl, op_box, op_mks, op_s2b, op_pick, op_un, op_eq, op_len, op_ext, op_load, op_iaddr, op_slice, op_b2s, op_idxS, op_mx, op_mn, op_call, op_store, op_app, op_copy, args_eq, result_one', rv_loc, finish_norm, finish_ret, outK_some, keep_true, keep_false, keep_nil, p_bin, p_pick, p_un, p_eq, p_conv, evNew, pureK_some, newK_some, X.eval, set_none, set_some, List.map_cons, List.map_nil, List.getD_cons_zero, List.getD_cons_succ, List.getD_nil, List.set_cons_zero, List.set_cons_succ, binCV, unCV, isShift, intArithF_eq, shiftF_eq, wrapF_eq, intArith, shift, eqVal, bound, asNat_cast, cond_true, cond_false, BEq.rfl, beq_self_eq_true, evalParts, fillParts, AV.cells, AV.ofCells, XV.av, AV.xv, List.length_cons, List.length_nil, zeros, patch, setMany, List.nil_append, List.cons_append, Nat.ble, Nat.add_eq, Nat.zero_add, Nat.add_zero, Nat.reduceAdd, Nat.reduceMul, Nat.reduceSub, Nat.ble_eq, Nat.reduceLeDiff, Nat.reduceBEq, Int.reduceBEq, Int.reduceNeg, Bool.and_true, Bool.and_false, Bool.true_and, Bool.false_and, Bool.not_true, Bool.not_false, Bool.true_eq_false, Bool.false_eq_true, Int.reduceLT, Int.reduceLE, Int.reduceGT, Int.reduceGE, decide_true, decide_false, Bool.not_eq_true, loopN_norm, loopN_exit, tf, ft, ff, e1, e2, w1, w2, w3, w4, w5, op_build, p_build', next_new, evEff, e3, p_load, AV.ofCells, q0, e4, e5, op_faddr, p_faddr, r0, r1, r2, r3, r4, r5, evCallX_told, lx, Int.reduceAdd, Int.reduceBEq]
  rfl

theorem scriptOps_3 {a b e : Nat} (ha : a < 256) (hb : b < 256) (he : e < 256) (p q : Int) (hk : a % 8 = 3) : good (evCallX table 21 37 200 9 10 [.c (.int .u8 (a : Int)), .c (.int .u8 (b : Int)), .c (.int .u8 (e : Int)), .c (.int .i64 p), .c (.int .i64 q)] Heap.empty) = true := by
  obtain ⟨k1, hk1, e1⟩ : ∃ k : Nat, k < 48 ∧ IntKind.i64.wrap (Int.tmod (IntKind.u64.wrap p) 48) = k := few (by omega) (by omega)
  obtain ⟨k2, hk2, e2⟩ : ∃ k : Nat, k < 6 ∧ IntKind.i64.wrap (Int.tmod (IntKind.u64.wrap q) 6) = k := few (by omega) (by omega)
  have w1 : IntKind.i64.wrap (1 + (k1 : Int)) = 1 + (k1 : Int) := wrapI (by omega) (by omega)
  have w2 : IntKind.i64.wrap (1 + (k2 : Int)) = 1 + (k2 : Int) := wrapI (by omega) (by omega)
  have w3 := wI ha
  have w4 : Int.tmod (a : Int) 8 = 3 := by have := tmodN a 8; rw [hk] at this; exact this
  have w5 : IntKind.i64.wrap 4 = 4 := rfl
  obtain ⟨c, hc⟩ : ∃ c : Cf, c = ⟨1 + (k1 : Int), 4, 2, 1 + (k2 : Int)⟩ := ⟨_, rfl⟩
  have ok : c.ok = true := Cf.ok_iff.2 (by rw [hc]; simp only; omega)
  have hcc : cfC c = [.int .i64 (1 + (k1 : Int)), .int .i64 4, .int .i64 2, .int .i64 (1 + (k2 : Int))] := by rw [hc]
  obtain ⟨H0, e3, g0, x0, n0⟩ := box_store (h := Heap.empty) (z := [.int .i64 0, .int .i64 0, .int .i64 0, .int .i64 0]) (v := cfC c) rfl
  rw [hcc] at e3
  have q0 : H0.read Heap.empty.next 0 4 = some (cfC c) := read_all g0 rfl
  obtain ⟨x, H1, e4, t1, x1⟩ := op_ok (N := 200) (d := 3) (h := H0) c ha hb he (by omega)
  unfold opOf at e4 t1
  rw [if_pos ok, hk] at e4 t1
  obtain ⟨o, ho⟩ : ∃ o, o = opK c b e 3 := ⟨_, rfl⟩
  have ok0 : o.kind = 4 := by rw [ho]; rfl
  have o_page : o.page = 0 := by rw [ho]; rfl
  have o_n : o.n = 0 := by rw [ho]; rfl
  rw [← ho] at e4 t1
  obtain ⟨H2, e5, g2, x2, n2⟩ := box_store (h := H1) (z := clZ) (v := clC o x) rfl
  have r0 : H2.read H1.next 0 1 = some [.int .i64 o.kind] := read_cells g2 rfl
  have r1 : H2.read H1.next 1 1 = some [.int .i64 o.page] := read_cells g2 rfl
  have r2 : H2.read H1.next 2 1 = some [.int .i64 o.handle] := read_cells g2 rfl
  have r3 : H2.read H1.next 3 1 = some [.int .i64 o.off] := read_cells g2 rfl
  have r4 : H2.read H1.next 4 1 = some [.int .i64 o.n] := read_cells g2 rfl
  have r5 : H2.read H1.next 5 1 = some [x] := read_cells g2 rfl
  rw [ok0] at r0
  rw [o_page] at r1
  rw [o_n] at r4
  have lx : ∀ (loc vals : List AV) (h : Heap), evPure loc (.c x :: vals) h (.len .sl (.val 0)) = some (.c (.int .i64 (o.data.length : Int))) := fun _ _ _ => t1.len rfl
  rw [evCallX_eq (F := ir10) rfl rfl rfl rfl]
  unfold ir10
  rw [bodyK_eq]
  simp only [enter_eq, ev_seq, seqK_norm, seqK_exit, seqK_ret, ev_reg, ev_cond, condK_true, condK_false, ev_block, blockK_norm, blockK_ret, blockK_exit, ev_loop, ev_skip, ev_exit, ev_ret, regK_cons, regK_nil, guard_none, guard_some, regG_true, regG_false, regO_some, op_mov, op_conv, op_bin, op_bsl, op_box, op_mks, op_s2b, op_pick, op_un, op_eq, op_len, op_ext, op_load, op_iaddr, op_slice, op_b2s, op_idxS, op_mx, op_mn, op_call, op_store, op_app, op_copy, args_eq, result_one', rv_loc, finish_norm, finish_ret, outK_some, keep_true, keep_false, keep_nil, p_bin, p_pick, p_un, p_eq, p_conv, evNew, pureK_some, newK_some, X.eval, set_none, set_some, List.map_cons, List.map_nil, List.getD_cons_zero, List.getD_cons_succ, List.getD_nil, List.set_cons_zero, List.set_cons_succ, binCV, unCV, isShift, intArithF_eq, shiftF_eq, wrapF_eq, intArith, shift, eqVal, bound, asNat_cast, cond_true, cond_false, BEq.rfl, beq_self_eq_true, evalParts, fillParts, AV.cells, AV.ofCells, XV.av, AV.xv, List.length_cons, List.length_nil, zeros, patch, setMany, List.nil_append, List.cons_append, Nat.ble, Nat.add_eq, Nat.zero_add, Nat.add_zero, Nat.reduceAdd, Nat.reduceMul, Nat.reduceSub, Nat.ble_eq, Nat.reduceLeDiff, Nat.reduceBEq, Int.reduceBEq, Int.reduceNeg, Bool.and_true, Bool.and_false, Bool.true_and, Bool.false_and, Bool.not_true, Bool.not_false, Bool.true_eq_false, Bool.false_eq_true, Int.reduceLT, Int.reduceLE, Int.reduceGT, Int.reduceGE, decide_true, decide_false, Bool.not_eq_true, loopN_norm, loopN_exit, tf, ft, ff, e1, e2, w1, w2, w3, w4, w5, op_build, p_build', next_new, evEff, e3, p_load, AV.ofCells, q0, e4, e5, op_faddr, p_faddr, r0, r1, r2, r3, r4, r5, evCallX_told, lx, Int.reduceAdd, Int.reduceBEq]
  rfl

theorem scriptOps_4 {a b e : Nat} (ha : a < 256) (hb : b < 256) (he : e < 256) (p q : Int) (hk : a % 8 = 4) : good (evCallX table 21 37 200 9 10 [.c (.int .u8 (a : Int)), .c (.int .u8 (b : Int)), .c (.int .u8 (e : Int)), .c (.int .i64 p), .c (.int .i64 q)] Heap.empty) = true := by
  obtain ⟨k1, hk1, e1⟩ : ∃ k : Nat, k < 48 ∧ IntKind.i64.wrap (Int.tmod (IntKind.u64.wrap p) 48) = k := few (by omega) (by omega)
  obtain ⟨k2, hk2, e2⟩ : ∃ k : Nat, k < 6 ∧ IntKind.i64.wrap (Int.tmod (IntKind.u64.wrap q) 6) = k := few (by omega) (by omega)
  have w1 : IntKind.i64.wrap (1 + (k1 : Int)) = 1 + (k1 : Int) := wrapI (by omega) (by omega)
  have w2 : IntKind.i64.wrap (1 + (k2 : Int)) = 1 + (k2 : Int) := wrapI (by omega) (by omega)
  have w3 := wI ha
  have w4 : Int.tmod (a : Int) 8 = 4 := by have := tmodN a 8; rw [hk] at this; exact this
  have w5 : IntKind.i64.wrap 5 = 5 := rfl
  obtain ⟨c, hc⟩ : ∃ c : Cf, c = ⟨1 + (k1 : Int), 4, 2, 1 + (k2 : Int)⟩ := ⟨_, rfl⟩
  have ok : c.ok = true := Cf.ok_iff.2 (by rw [hc]; simp only; omega)
  have hcc : cfC c = [.int .i64 (1 + (k1 : Int)), .int .i64 4, .int .i64 2, .int .i64 (1 + (k2 : Int))] := by rw [hc]
  obtain ⟨H0, e3, g0, x0, n0⟩ := box_store (h := Heap.empty) (z := [.int .i64 0, .int .i64 0, .int .i64 0, .int .i64 0]) (v := cfC c) rfl
  rw [hcc] at e3
  have q0 : H0.read Heap.empty.next 0 4 = some (cfC c) := read_all g0 rfl
  obtain ⟨x, H1, e4, t1, x1⟩ := op_ok (N := 200) (d := 3) (h := H0) c ha hb he (by omega)
  unfold opOf at e4 t1
  rw [if_pos ok, hk] at e4 t1
  obtain ⟨o, ho⟩ : ∃ o, o = opK c b e 4 := ⟨_, rfl⟩
  have ok0 : o.kind = 5 := by rw [ho]; rfl
  have o_page : o.page = 0 := by rw [ho]; rfl
  have o_off : o.off = 0 := by rw [ho]; rfl
  have o_n : o.n = 0 := by rw [ho]; rfl
  have o_data : o.data = [] := by rw [ho]; rfl
  rw [← ho] at e4 t1
  obtain ⟨H2, e5, g2, x2, n2⟩ := box_store (h := H1) (z := clZ) (v := clC o x) rfl
  have r0 : H2.read H1.next 0 1 = some [.int .i64 o.kind] := read_cells g2 rfl
  have r1 : H2.read H1.next 1 1 = some [.int .i64 o.page] := read_cells g2 rfl
  have r2 : H2.read H1.next 2 1 = some [.int .i64 o.handle] := read_cells g2 rfl
  have r3 : H2.read H1.next 3 1 = some [.int .i64 o.off] := read_cells g2 rfl
  have r4 : H2.read H1.next 4 1 = some [.int .i64 o.n] := read_cells g2 rfl
  have r5 : H2.read H1.next 5 1 = some [x] := read_cells g2 rfl
  rw [ok0] at r0
  rw [o_page] at r1
  rw [o_off] at r3
  rw [o_n] at r4
  have lx : ∀ (loc vals : List AV) (h : Heap), evPure loc (.c x :: vals) h (.len .sl (.val 0)) = some (.c (.int .i64 (o.data.length : Int))) := fun _ _ _ => t1.len rfl
  rw [o_data] at lx
  simp only [List.length_nil, Int.ofNat_zero, Int.natCast_zero] at lx
  rw [evCallX_eq (F := ir10) rfl rfl rfl rfl]
  unfold ir10
  rw [bodyK_eq]
  simp only [enter_eq, ev_seq, seqK_norm, seqK_exit, seqK_ret, ev_reg, ev_cond, condK_true, condK_false, ev_block, blockK_norm, blockK_ret, blockK_exit, ev_loop, ev_skip, ev_exit, ev_ret, regK_cons, regK_nil, guard_none, guard_some, regG_true, regG_false, regO_some, op_mov, op_conv, op_bin, op_bsl, op_box, op_mks, op_s2b, op_pick, op_un, op_eq, op_len, op_ext, op_load, op_iaddr, op_slice, op_b2s, op_idxS, op_mx, op_mn, op_call, op_store, op_app, op_copy, args_eq, result_one', rv_loc, finish_norm, finish_ret, outK_some, keep_true, keep_false, keep_nil, p_bin, p_pick, p_un, p_eq, p_conv, evNew, pureK_some, newK_some, X.eval, set_none, set_some, List.map_cons, List.map_nil, List.getD_cons_zero, List.getD_cons_succ, List.getD_nil, List.set_cons_zero, List.set_cons_succ, binCV, unCV, isShift, intArithF_eq, shiftF_eq, wrapF_eq, intArith, shift, eqVal, bound, asNat_cast, cond_true, cond_false, BEq.rfl, beq_self_eq_true, evalParts, fillParts, AV.cells, AV.ofCells, XV.av, AV.xv, List.length_cons, List.length_nil, zeros, patch, setMany, List.nil_append, List.cons_append, Nat.ble, Nat.add_eq, Nat.zero_add, Nat.add_zero, Nat.reduceAdd, Nat.reduceMul, Nat.reduceSub, Nat.ble_eq, Nat.reduceLeDiff, Nat.reduceBEq, Int.reduceBEq, Int.reduceNeg, Bool.and_true, Bool.and_false, Bool.true_and, Bool.false_and, Bool.not_true, Bool.not_false, Bool.true_eq_false, Bool.false_eq_true, Int.reduceLT, Int.reduceLE, Int.reduceGT, Int.reduceGE, decide_true, decide_false, Bool.not_eq_true, loopN_norm, loopN_exit, tf, ft, ff, e1, e2, w1, w2, w3, w4, w5, op_build, p_build', next_new, evEff, e3, p_load, AV.ofCells, q0, e4, e5, op_faddr, p_faddr, r0, r1, r2, r3, r4, r5, evCallX_told, lx, Int.reduceAdd, Int.reduceBEq]
  rfl

theorem scriptOps_5 {a b e : Nat} (ha : a < 256) (hb : b < 256) (he : e < 256) (p q : Int) (hk : a % 8 = 5) : good (evCallX table 21 37 200 9 10 [.c (.int .u8 (a : Int)), .c (.int .u8 (b : Int)), .c (.int .u8 (e : Int)), .c (.int .i64 p), .c (.int .i64 q)] Heap.empty) = true := by
  obtain ⟨k1, hk1, e1⟩ : ∃ k : Nat, k < 48 ∧ IntKind.i64.wrap (Int.tmod (IntKind.u64.wrap p) 48) = k := few (by omega) (by omega)
  obtain ⟨k2, hk2, e2⟩ : ∃ k : Nat, k < 6 ∧ IntKind.i64.wrap (Int.tmod (IntKind.u64.wrap q) 6) = k := few (by omega) (by omega)
  have w1 : IntKind.i64.wrap (1 + (k1 : Int)) = 1 + (k1 : Int) := wrapI (by omega) (by omega)
  have w2 : IntKind.i64.wrap (1 + (k2 : Int)) = 1 + (k2 : Int) := wrapI (by omega) (by omega)
  have w3 := wI ha
  have w4 : Int.tmod (a : Int) 8 = 5 := by have := tmodN a 8; rw [hk] at this; exact this
  have w5 : IntKind.i64.wrap 6 = 6 := rfl
  obtain ⟨c, hc⟩ : ∃ c : Cf, c = ⟨1 + (k1 : Int), 4, 2, 1 + (k2 : Int)⟩ := ⟨_, rfl⟩
  have ok : c.ok = true := Cf.ok_iff.2 (by rw [hc]; simp only; omega)
  have hcc : cfC c = [.int .i64 (1 + (k1 : Int)), .int .i64 4, .int .i64 2, .int .i64 (1 + (k2 : Int))] := by rw [hc]
  obtain ⟨H0, e3, g0, x0, n0⟩ := box_store (h := Heap.empty) (z := [.int .i64 0, .int .i64 0, .int .i64 0, .int .i64 0]) (v := cfC c) rfl
  rw [hcc] at e3
  have q0 : H0.read Heap.empty.next 0 4 = some (cfC c) := read_all g0 rfl
  obtain ⟨x, H1, e4, t1, x1⟩ := op_ok (N := 200) (d := 3) (h := H0) c ha hb he (by omega)
  unfold opOf at e4 t1
  rw [if_pos ok, hk] at e4 t1
  obtain ⟨o, ho⟩ : ∃ o, o = opK c b e 5 := ⟨_, rfl⟩
  have ok0 : o.kind = 6 := by rw [ho]; rfl
  have o_handle : o.handle = 0 := by rw [ho]; rfl
  have o_off : o.off = 0 := by rw [ho]; rfl
  have o_n : o.n = 0 := by rw [ho]; rfl
  have o_data : o.data = [] := by rw [ho]; rfl
  rw [← ho] at e4 t1
  obtain ⟨H2, e5, g2, x2, n2⟩ := box_store (h := H1) (z := clZ) (v := clC o x) rfl
  have r0 : H2.read H1.next 0 1 = some [.int .i64 o.kind] := read_cells g2 rfl
  have r1 : H2.read H1.next 1 1 = some [.int .i64 o.page] := read_cells g2 rfl
  have r2 : H2.read H1.next 2 1 = some [.int .i64 o.handle] := read_cells g2 rfl
  have r3 : H2.read H1.next 3 1 = some [.int .i64 o.off] := read_cells g2 rfl
  have r4 : H2.read H1.next 4 1 = some [.int .i64 o.n] := read_cells g2 rfl
  have r5 : H2.read H1.next 5 1 = some [x] := read_cells g2 rfl
  rw [ok0] at r0
  rw [o_handle] at r2
  rw [o_off] at r3
  rw [o_n] at r4
  have lx : ∀ (loc vals : List AV) (h : Heap), evPure loc (.c x :: vals) h (.len .sl (.val 0)) = some (.c (.int .i64 (o.data.length : Int))) := fun _ _ _ => t1.len rfl
  rw [o_data] at lx
  simp only [List.length_nil, Int.ofNat_zero, Int.natCast_zero] at lx
  rw [evCallX_eq (F := ir10) rfl rfl rfl rfl]
  unfold ir10
  rw [bodyK_eq]
  simp only [enter_eq, ev_seq, seqK_norm, seqK_exit, seqK_ret, ev_reg, ev_cond, condK_true, condK_false, ev_block, blockK_norm, blockK_ret, blockK_exit, ev_loop, ev_skip, ev_exit, ev_ret, regK_cons, regK_nil, guard_none, guard_some, regG_true, regG_false, regO_some, op_mov, op_conv, op_bin, op_bsl, op_box, op_mks, op_s2b, op_pick, op_un, op_eq, op_len, op_ext, op_load, op_iaddr, op_slice, op_b2s, op_idxS, op_mx, op_mn, op_call, op_store, op_app, op_copy, args_eq, result_one', rv_loc, finish_norm, finish_ret, outK_some, keep_true, keep_false, keep_nil, p_bin, p_pick, p_un, p_eq, p_conv, evNew, pureK_some, newK_some, X.eval, set_none, set_some, List.map_cons, List.map_nil, List.getD_cons_zero, List.getD_cons_succ, List.getD_nil, List.set_cons_zero, List.set_cons_succ, binCV, unCV, isShift, intArithF_eq, shiftF_eq, wrapF_eq, intArith, shift, eqVal, bound, asNat_cast, cond_true, cond_false, BEq.rfl, beq_self_eq_true, evalParts, fillParts, AV.cells, AV.ofCells, XV.av, AV.xv, List.length_cons, List.length_nil, zeros, patch, setMany, List.nil_append, List.cons_append, Nat.ble, Nat.add_eq, Nat.zero_add, Nat.add_zero, Nat.reduceAdd, Nat.reduceMul, Nat.reduceSub, Nat.ble_eq, Nat.reduceLeDiff, Nat.reduceBEq, Int.reduceBEq, Int.reduceNeg, Bool.and_true, Bool.and_false, Bool.true_and, Bool.false_and, Bool.not_true, Bool.not_false, Bool.true_eq_false, Bool.false_eq_true, Int.reduceLT, Int.reduceLE, Int.reduceGT, Int.reduceGE, decide_true, decide_false, Bool.not_eq_true, loopN_norm, loopN_exit, tf, ft, ff, e1, e2, w1, w2, w3, w4, w5, op_build, p_build', next_new, evEff, e3, p_load, AV.ofCells, q0, e4, e5, op_faddr, p_faddr, r0, r1, r2, r3, r4, r5, evCallX_told, lx, Int.reduceAdd, Int.reduceBEq]
  rfl

theorem scriptOps_6 {a b e : Nat} (ha : a < 256) (hb : b < 256) (he : e < 256) (p q : Int) (hk : a % 8 = 6) : good (evCallX table 21 37 200 9 10 [.c (.int .u8 (a : Int)), .c (.int .u8 (b : Int)), .c (.int .u8 (e : Int)), .c (.int .i64 p), .c (.int .i64 q)] Heap.empty) = true := by
  obtain ⟨k1, hk1, e1⟩ : ∃ k : Nat, k < 48 ∧ IntKind.i64.wrap (Int.tmod (IntKind.u64.wrap p) 48) = k := few (by omega) (by omega)
  obtain ⟨k2, hk2, e2⟩ : ∃ k : Nat, k < 6 ∧ IntKind.i64.wrap (Int.tmod (IntKind.u64.wrap q) 6) = k := few (by omega) (by omega)
  have w1 : IntKind.i64.wrap (1 + (k1 : Int)) = 1 + (k1 : Int) := wrapI (by omega) (by omega)
  have w2 : IntKind.i64.wrap (1 + (k2 : Int)) = 1 + (k2 : Int) := wrapI (by omega) (by omega)
  have w3 := wI ha
  have w4 : Int.tmod (a : Int) 8 = 6 := by have := tmodN a 8; rw [hk] at this; exact this
  have w5 : IntKind.i64.wrap 7 = 7 := rfl
  obtain ⟨c, hc⟩ : ∃ c : Cf, c = ⟨1 + (k1 : Int), 4, 2, 1 + (k2 : Int)⟩ := ⟨_, rfl⟩
  have ok : c.ok = true := Cf.ok_iff.2 (by rw [hc]; simp only; omega)
  have hcc : cfC c = [.int .i64 (1 + (k1 : Int)), .int .i64 4, .int .i64 2, .int .i64 (1 + (k2 : Int))] := by rw [hc]
  obtain ⟨H0, e3, g0, x0, n0⟩ := box_store (h := Heap.empty) (z := [.int .i64 0, .int .i64 0, .int .i64 0, .int .i64 0]) (v := cfC c) rfl
  rw [hcc] at e3
  have q0 : H0.read Heap.empty.next 0 4 = some (cfC c) := read_all g0 rfl
  obtain ⟨x, H1, e4, t1, x1⟩ := op_ok (N := 200) (d := 3) (h := H0) c ha hb he (by omega)
  unfold opOf at e4 t1
  rw [if_pos ok, hk] at e4 t1
  obtain ⟨o, ho⟩ : ∃ o, o = opK c b e 6 := ⟨_, rfl⟩
  have ok0 : o.kind = 7 := by rw [ho]; rfl
  have o_page : o.page = 0 := by rw [ho]; rfl
  have o_handle : o.handle = 0 := by rw [ho]; rfl
  have o_off : o.off = 0 := by rw [ho]; rfl
  have o_n : o.n = 0 := by rw [ho]; rfl
  have o_data : o.data = [] := by rw [ho]; rfl
  rw [← ho] at e4 t1
  obtain ⟨H2, e5, g2, x2, n2⟩ := box_store (h := H1) (z := clZ) (v := clC o x) rfl
  have r0 : H2.read H1.next 0 1 = some [.int .i64 o.kind] := read_cells g2 rfl
  have r1 : H2.read H1.next 1 1 = some [.int .i64 o.page] := read_cells g2 rfl
  have r2 : H2.read H1.next 2 1 = some [.int .i64 o.handle] := read_cells g2 rfl
  have r3 : H2.read H1.next 3 1 = some [.int .i64 o.off] := read_cells g2 rfl
  have r4 : H2.read H1.next 4 1 = some [.int .i64 o.n] := read_cells g2 rfl
  have r5 : H2.read H1.next 5 1 = some [x] := read_cells g2 rfl
  rw [ok0] at r0
  rw [o_page] at r1
  rw [o_handle] at r2
  rw [o_off] at r3
  rw [o_n] at r4
  have lx : ∀ (loc vals : List AV) (h : Heap), evPure loc (.c x :: vals) h (.len .sl (.val 0)) = some (.c (.int .i64 (o.data.length : Int))) := fun _ _ _ => t1.len rfl
  rw [o_data] at lx
  simp only [List.length_nil, Int.ofNat_zero, Int.natCast_zero] at lx
  rw [evCallX_eq (F := ir10) rfl rfl rfl rfl]
  unfold ir10
  rw [bodyK_eq]
  simp only [enter_eq, ev_seq, seqK_norm, seqK_exit, seqK_ret, ev_reg, ev_cond, condK_true, condK_false, ev_block, blockK_norm, blockK_ret, blockK_exit, ev_loop, ev_skip, ev_exit, ev_ret, regK_cons, regK_nil, guard_none, guard_some, regG_true, regG_false, regO_some, op_mov, op_conv, op_bin, op_bsl, op_box, op_mks, op_s2b, op_pick, op_un, op_eq, op_len, op_ext, op_load, op_iaddr, op_slice, op_b2s, op_idxS, op_mx, op_mn, op_call, op_store, op_app, op_copy, args_eq, result_one', rv_loc, finish_norm, finish_ret, outK_some, keep_true, keep_false, keep_nil, p_bin, p_pick, p_un, p_eq, p_conv, evNew, pureK_some, newK_some, X.eval, set_none, set_some, List.map_cons, List.map_nil, List.getD_cons_zero, List.getD_cons_succ, List.getD_nil, List.set_cons_zero, List.set_cons_succ, binCV, unCV, isShift, intArithF_eq, shiftF_eq, wrapF_eq, intArith, shift, eqVal, bound, asNat_cast, cond_true, cond_false, BEq.rfl, beq_self_eq_true, evalParts, fillParts, AV.cells, AV.ofCells, XV.av, AV.xv, List.length_cons, List.length_nil, zeros, patch, setMany, List.nil_append, List.cons_append, Nat.ble, Nat.add_eq, Nat.zero_add, Nat.add_zero, Nat.reduceAdd, Nat.reduceMul, Nat.reduceSub, Nat.ble_eq, Nat.reduceLeDiff, Nat.reduceBEq, Int.reduceBEq, Int.reduceNeg, Bool.and_true, Bool.and_false, Bool.true_and, Bool.false_and, Bool.not_true, Bool.not_false, Bool.true_eq_false, Bool.false_eq_true, Int.reduceLT, Int.reduceLE, Int.reduceGT, Int.reduceGE, decide_true, decide_false, Bool.not_eq_true, loopN_norm, loopN_exit, tf, ft, ff, e1, e2, w1, w2, w3, w4, w5, op_build, p_build', next_new, evEff, e3, p_load, AV.ofCells, q0, e4, e5, op_faddr, p_faddr, r0, r1, r2, r3, r4, r5, evCallX_told, lx, Int.reduceAdd, Int.reduceBEq]
  rfl

theorem scriptOps_7 {a b e : Nat} (ha : a < 256) (hb : b < 256) (he : e < 256) (p q : Int) (hk : a % 8 = 7) : good (evCallX table 21 37 200 9 10 [.c (.int .u8 (a : Int)), .c (.int .u8 (b : Int)), .c (.int .u8 (e : Int)), .c (.int .i64 p), .c (.int .i64 q)] Heap.empty) = true := by
  obtain ⟨k1, hk1, e1⟩ : ∃ k : Nat, k < 48 ∧ IntKind.i64.wrap (Int.tmod (IntKind.u64.wrap p) 48) = k := few (by omega) (by omega)
  obtain ⟨k2, hk2, e2⟩ : ∃ k : Nat, k < 6 ∧ IntKind.i64.wrap (Int.tmod (IntKind.u64.wrap q) 6) = k := few (by omega) (by omega)
  have w1 : IntKind.i64.wrap (1 + (k1 : Int)) = 1 + (k1 : Int) := wrapI (by omega) (by omega)
  have w2 : IntKind.i64.wrap (1 + (k2 : Int)) = 1 + (k2 : Int) := wrapI (by omega) (by omega)
  have w3 := wI ha
  have w4 : Int.tmod (a : Int) 8 = 7 := by have := tmodN a 8; rw [hk] at this; exact this
  have w5 : IntKind.i64.wrap 8 = 8 := rfl
  obtain ⟨c, hc⟩ : ∃ c : Cf, c = ⟨1 + (k1 : Int), 4, 2, 1 + (k2 : Int)⟩ := ⟨_, rfl⟩
  have ok : c.ok = true := Cf.ok_iff.2 (by rw [hc]; simp only; omega)
  have hcc : cfC c = [.int .i64 (1 + (k1 : Int)), .int .i64 4, .int .i64 2, .int .i64 (1 + (k2 : Int))] := by rw [hc]
  obtain ⟨H0, e3, g0, x0, n0⟩ := box_store (h := Heap.empty) (z := [.int .i64 0, .int .i64 0, .int .i64 0, .int .i64 0]) (v := cfC c) rfl
  rw [hcc] at e3
  have q0 : H0.read Heap.empty.next 0 4 = some (cfC c) := read_all g0 rfl
  obtain ⟨x, H1, e4, t1, x1⟩ := op_ok (N := 200) (d := 3) (h := H0) c ha hb he (by omega)
  unfold opOf at e4 t1
  rw [if_pos ok, hk] at e4 t1
  obtain ⟨o, ho⟩ : ∃ o, o = opK c b e 7 := ⟨_, rfl⟩
  have ok0 : o.kind = 8 := by rw [ho]; rfl
  have o_handle : o.handle = 0 := by rw [ho]; rfl
  have o_off : o.off = 0 := by rw [ho]; rfl
  have o_n : o.n = 0 := by rw [ho]; rfl
  have o_data : o.data = [] := by rw [ho]; rfl
  rw [← ho] at e4 t1
  obtain ⟨H2, e5, g2, x2, n2⟩ := box_store (h := H1) (z := clZ) (v := clC o x) rfl
  have r0 : H2.read H1.next 0 1 = some [.int .i64 o.kind] := read_cells g2 rfl
  have r1 : H2.read H1.next 1 1 = some [.int .i64 o.page] := read_cells g2 rfl
  have r2 : H2.read H1.next 2 1 = some [.int .i64 o.handle] := read_cells g2 rfl
  have r3 : H2.read H1.next 3 1 = some [.int .i64 o.off] := read_cells g2 rfl
  have r4 : H2.read H1.next 4 1 = some [.int .i64 o.n] := read_cells g2 rfl
  have r5 : H2.read H1.next 5 1 = some [x] := read_cells g2 rfl
  rw [ok0] at r0
  rw [o_handle] at r2
  rw [o_off] at r3
  rw [o_n] at r4
  have lx : ∀ (loc vals : List AV) (h : Heap), evPure loc (.c x :: vals) h (.len .sl (.val 0)) = some (.c (.int .i64 (o.data.length : Int))) := fun _ _ _ => t1.len rfl
  rw [o_data] at lx
  simp only [List.length_nil, Int.ofNat_zero, Int.natCast_zero] at lx
  rw [evCallX_eq (F := ir10) rfl rfl rfl rfl]
  unfold ir10
  rw [bodyK_eq]
  simp only [enter_eq, ev_seq, seqK_norm, seqK_exit, seqK_ret, ev_reg, ev_cond, condK_true, condK_false, ev_block, blockK_norm, blockK_ret, blockK_exit, ev_loop, ev_skip, ev_exit, ev_ret, regK_cons, regK_nil, guard_none, guard_some, regG_true, regG_false, regO_some, op_mov, op_conv, op_bin, op_bsl, op_box, op_mks, op_s2b, op_pick, op_un, op_eq, op_len, op_ext, op_load, op_iaddr, op_slice, op_b2s, op_idxS, op_mx, op_mn, op_call, op_store, op_app, op_copy, args_eq, result_one', rv_loc, finish_norm, finish_ret, outK_some, keep_true, keep_false, keep_nil, p_bin, p_pick, p_un, p_eq, p_conv, evNew, pureK_some, newK_some, X.eval, set_none, set_some, List.map_cons, List.map_nil, List.getD_cons_zero, List.getD_cons_succ, List.getD_nil, List.set_cons_zero, List.set_cons_succ, binCV, unCV, isShift, intArithF_eq, shiftF_eq, wrapF_eq, intArith, shift, eqVal, bound, asNat_cast, cond_true, cond_false, BEq.rfl, beq_self_eq_true, evalParts, fillParts, AV.cells, AV.ofCells, XV.av, AV.xv, List.length_cons, List.length_nil, zeros, patch, setMany, List.nil_append, List.cons_append, Nat.ble, Nat.add_eq, Nat.zero_add, Nat.add_zero, Nat.reduceAdd, Nat.reduceMul, Nat.reduceSub, Nat.ble_eq, Nat.reduceLeDiff, Nat.reduceBEq, Int.reduceBEq, Int.reduceNeg, Bool.and_true, Bool.and_false, Bool.true_and, Bool.false_and, Bool.not_true, Bool.not_false, Bool.true_eq_false, Bool.false_eq_true, Int.reduceLT, Int.reduceLE, Int.reduceGT, Int.reduceGE, decide_true, decide_false, Bool.not_eq_true, loopN_norm, loopN_exit, tf, ft, ff, e1, e2, w1, w2, w3, w4, w5, op_build, p_build', next_new, evEff, e3, p_load, AV.ofCells, q0, e4, e5, op_faddr, p_faddr, r0, r1, r2, r3, r4, r5, evCallX_told, lx, Int.reduceAdd, Int.reduceBEq]
  rfl

theorem scriptOps {a b e : Nat} (ha : a < 256) (hb : b < 256) (he : e < 256) (p q : Int) : good (evCallX table 21 37 200 9 10 [.c (.int .u8 (a : Int)), .c (.int .u8 (b : Int)), .c (.int .u8 (e : Int)), .c (.int .i64 p), .c (.int .i64 q)] Heap.empty) = true := by
  have h8 : a % 8 = 0 ∨ a % 8 = 1 ∨ a % 8 = 2 ∨ a % 8 = 3 ∨ a % 8 = 4 ∨ a % 8 = 5 ∨ a % 8 = 6 ∨ a % 8 = 7 := by omega
  rcases h8 with k | k | k | k | k | k | k | k
  · exact scriptOps_0 ha hb he p q k
  · exact scriptOps_1 ha hb he p q k
  · exact scriptOps_2 ha hb he p q k
  · exact scriptOps_3 ha hb he p q k
  · exact scriptOps_4 ha hb he p q k
  · exact scriptOps_5 ha hb he p q k
  · exact scriptOps_6 ha hb he p q k
  · exact scriptOps_7 ha hb he p q k

theorem good_top {table : List (Nat × IRF)} {T X N d f : Nat} {args : List AV} {h : Heap} (hT : Nat.beq f T = false) (hX : Nat.beq f X = false) (hg : good (evCallX table T X N (d + 1) f args h) = true) : good (topX table T X N d f args h) = true := by
  rw [evCallX_succ, hT, cond_false, hX, cond_false] at hg
  exact hg
end Lav

namespace Go.Proofs.Ytdeehmncnfdmkaa.scriptOps
open Go.ChangeShapes Go.WideShapes Go.ChangeAt Go.RowKit
open Go.ChangeMaps (open_string shut_string)
set_option linter.unusedVariables false      -- a walk need not use every 'w<i>' (that an integer argument fits its kind)

theorem own : ownKnob Try.prog.godebug = none := by kernel_rfl

/-! ### STEP 1: THE WALK: the Go text returns true. 'Below w.heap.size w w'': the world has at most new blocks (Derived/RowKit3.lean). Part the cases AHEAD of 'go_enter' where a test parts the walk; take each callee by a contract of your own. -/
theorem walk (a0 : Int) (a1 : Int) (a2 : Int) (a3 : Int) (a4 : Int) (w0 : (Lit.int .u8 a0).wf = true) (w1 : (Lit.int .u8 a1).wf = true) (w2 : (Lit.int .u8 a2).wf = true) (w3 : (Lit.int .i64 a3).wf = true) (w4 : (Lit.int .i64 a4).wf = true) (w : World) :
    Calls Try.prog 10 #[.int .u8 a0, .int .u8 a1, .int .u8 a2, .int .i64 a3, .int .i64 a4] w fun e w' => e = .returned (.bool true) ∧ Below w.heap.size w w' := by
  obtain ⟨r0, h0, c0⟩ := Lav.byte_of a0 w0
  obtain ⟨r1, h1, c1⟩ := Lav.byte_of a1 w1
  obtain ⟨r2, h2, c2⟩ := Lav.byte_of a2 w2
  exact Lav.walk_of (Lav.topX_sound Lav.mixed Lav.table_ok Lav.tld15 Lav.mnz_ok 200 8) (Lav.Init.empty w) (args := [.c (.int .u8 (r0 : Int)), .c (.int .u8 (r1 : Int)), .c (.int .u8 (r2 : Int)), .c (.int .i64 a3), .c (.int .i64 a4)]) (vs := [.int .u8 a0, .int .u8 a1, .int .u8 a2, .int .i64 a3, .int .i64 a4]) ⟨c0 _, c1 _, c2 _, rfl, rfl, trivial⟩ (Lav.good_top rfl rfl (Lav.scriptOps h0 h1 h2 a3 a4))

/-! ### THE ROW's STEP: WRITTEN OUT: LEAVE IT -/
set_option maxRecDepth 100000 in
theorem lifted (os : Os) (started : os.Started) (H : Type) (enc : TypeId × Value → H) :
    ReturnsInHanded {} Try.checked os 10 .any (Rows.scriptOpsSpec.pre6 enc Try.prog Try.f10 Rows.scriptOpsRow.domain false) (Rows.scriptOpsSpec.post enc Try.prog Try.f10 false true false false) := by
  refine returnsInHanded_of_change (C := Try.checked) own started (by kernel_rfl) Try.func10
    (ChangeSpec.witness6 (enc := enc) (C := Try.checked) false ⟨#[], #[.int .u8 0, .int .u8 0, .int .u8 0, .int .i64 0, .int .i64 0], []⟩ 8 (by kernel_rfl) (by kernel_rfl) (by kernel_rfl) (by kernel_rfl)) ?_
  intro W base args ds gs before hval0 hW hcnd _
  have hval : ∀ (j : Nat) t v, Try.f10.params[j]? = some t → args[j]? = some v → Value.okWide Try.prog W .any base t v := hval0
  have hW' := hW
  obtain ⟨p, q, hA0, hV, rfl, hfz, hnd⟩ := hW
  have hA : DataW.TrodAll enc Try.prog W 0 (fun _ => true) true Try.f10.params.toList args.toList ds p := hA0
  rw [Try.params10] at hA hval
  obtain ⟨v0, vs0, d0, ds0, p0, q0, hargs, rfl, rfl, h0, r0⟩ := trodAll_cons hA
  obtain ⟨v1, vs1, d1, ds1, p1, q1, rfl, rfl, rfl, h1, r1⟩ := trodAll_cons r0
  obtain ⟨v2, vs2, d2, ds2, p2, q2, rfl, rfl, rfl, h2, r2⟩ := trodAll_cons r1
  obtain ⟨v3, vs3, d3, ds3, p3, q3, rfl, rfl, rfl, h3, r3⟩ := trodAll_cons r2
  obtain ⟨v4, vs4, d4, ds4, p4, q4, rfl, rfl, rfl, h4, r4⟩ := trodAll_cons r3
  obtain ⟨rfl, rfl, rfl⟩ := trodAll_nil r4
  obtain rfl : args = #[v0, v1, v2, v3, v4] := by cases args; simp_all
  obtain ⟨rfl, rfl⟩ := trodVars_none hV
  obtain ⟨a0, rfl, rfl, rfl, w0⟩ := open_int Try.underlying5 (hval 0 5 v0 rfl rfl) h0
  obtain ⟨a1, rfl, rfl, rfl, w1⟩ := open_int Try.underlying5 (hval 1 5 v1 rfl rfl) h1
  obtain ⟨a2, rfl, rfl, rfl, w2⟩ := open_int Try.underlying5 (hval 2 5 v2 rfl rfl) h2
  obtain ⟨a3, rfl, rfl, rfl, w3⟩ := open_int Try.underlying3 (hval 3 3 v3 rfl rfl) h3
  obtain ⟨a4, rfl, rfl, rfl, w4⟩ := open_int Try.underlying3 (hval 4 3 v4 rfl rfl) h4
  clear hA0 hval0
  refine (walk a0 a1 a2 a3 a4 w0 w1 w2 w3 w4 W).mono fun e W' ⟨he, hg⟩ => ?_
  subst he
  exact ⟨_, rfl, _, _, _, [], _, [], hW', trodAll_mk1 (shut_bool Try.underlying4 _), (trodAll_cons_mk (shut_int Try.underlying5 w0) (trodAll_cons_mk (shut_int Try.underlying5 w1) (trodAll_cons_mk (shut_int Try.underlying5 w2) (trodAll_cons_mk (shut_int Try.underlying3 w3) (trodAll_cons_mk (shut_int Try.underlying3 w4) trodAll_mk0))))), rfl, hg.frame _, fun h => by cases h⟩

theorem over : Rows.scriptOpsRow.holds Try.pinned (OpenSpec.ofChange Rows.scriptOpsSpec) :=
  OpenClaim.holds_of_wide 10 Try.f10 rfl rfl rfl rfl rfl rfl rfl ⟨rfl, rfl, rfl, rfl, rfl⟩ rfl rfl rfl rfl rfl (by kernel_rfl) Try.func10 (by kernel_rfl)
    (of_decide_eq_true (by kernel_rfl)) (by unfold Func.isWrapper; first | (rw [if_pos (by decide +kernel)]; kernel_rfl) | (rw [if_neg (by decide +kernel)]; exact ⟨rfl, rfl⟩))
    (fun os started H enc _ => lifted os started H enc)

/-- ████ THE STATEMENT ████ -/
theorem proved : Rows.ScriptOpsSaid :=
  over
end Go.Proofs.Ytdeehmncnfdmkaa.scriptOps
