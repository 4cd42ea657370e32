/-
  Layer 19: what directories do.
-/
import Derived.Test.YtdeehmncnfdmkaaIr
import Derived.Test.YtdeehmncnfdmkaaFwP
set_option maxRecDepth 100000
set_option linter.unusedSimpArgs false
namespace Lav
open Go (IntKind)

/-- A directory. -/
structure Dr where
  ver : Int
  own : List Int
  bk : Int
  to : Int
  ph : Int

/-- Its cells; its owners lie in a block of their own. -/
def dc (d : Dr) (i : Nat) : List CV := [.int .i64 d.ver, .sl i 0 16 (.dy 1), .int .i64 d.bk, .int .i64 d.to, .int .i64 d.ph]
abbrev dz : List CV := [.int .i64 0, .nils, .int .i64 0, .int .i64 0, .int .i64 0]
structure DV (h : Heap) (d : Dr) (i : Nat) : Prop where
  own : h.get i = some (.cells (d.own.map icell))
  lt : i < h.next
  len : d.own.length = 16
theorem dc_five (x : Dr) (i : Nat) : ((dc x i).length == 5) = true := rfl
theorem DV.ext {h h' : Heap} {d : Dr} {i : Nat} (v : DV h d i) (e : Ext h h') : DV h' d i := ⟨e.at_ v.own v.lt, Nat.lt_of_lt_of_le v.lt e.1, v.len⟩

/-- One that may be, of so many shards. -/
structure OkD (d : Dr) (n : Int) : Prop where
  v1 : 1 ≤ d.ver
  v2 : d.ver ≤ 1000000
  ow : ∀ s ∈ d.own, 0 ≤ s ∧ s < n
  mv : (d.bk = -1 ∧ d.to = 0 ∧ d.ph = 0) ∨ (0 ≤ d.bk ∧ d.bk < 16 ∧ 0 ≤ d.to ∧ d.to < n ∧ d.own[d.bk.toNat]? ≠ some d.to ∧ (d.ph = 1 ∨ d.ph = 2))
theorem OkD.more {d : Dr} {n m : Int} (o : OkD d n) (h : n ≤ m) : OkD d m :=
  ⟨o.v1, o.v2, fun s hs => by have := o.ow s hs; omega, o.mv.imp id fun ⟨a, b, c, e, f, g⟩ => ⟨a, b, c, by omega, f, g⟩⟩

theorem wr {h : Heap} {e o : Nat} {l v : List CV} (g : h.get e = some (.cells l)) (ho : o + v.length ≤ l.length) :
    ∃ h', h.write e o v = some h' ∧ h'.get e = some (.cells (l.take o ++ v ++ l.drop (o + v.length))) ∧ (∀ k, k ≠ e → h'.get k = h.get k) ∧ h'.next = h.next :=
  ⟨_, write_many g ho, get_put_at, fun _ hk => get_put_ne hk, rfl⟩

section
variable {N d : Nat} {h : Heap} {x : Dr} {i : Nat} {n : Int}

theorem DV.rd (v : DV h x i) {j : Nat} (hj : j < 16) : h.read i j 1 = some [.int .i64 (x.own[j]'(by rw [v.len]; exact hj))] := read_cells v.own (by simp [v.len, hj, icell])

theorem bucket_ok (p : Nat) (hp : p < 100000) : evCallT table 12 N (d + 1) 19 [.c (.int .i64 (p : Int))] h = some (.c (.int .i64 (((p % 16 * 7 + p / 16 % 16) % 16 : Nat) : Int)), h) := by
  have c1 : decide ((p : Int) < 0) = false := decide_eq_false (by omega)
  have w1 : Int.tmod (p : Int) 16 = ((p % 16 : Nat) : Int) := by rw [Int.tmod_eq_emod_of_nonneg (by omega)]; omega
  have w2 : IntKind.i64.wrap (((p % 16 : Nat) : Int) * 7) = ((p % 16 * 7 : Nat) : Int) := by rw [wrapI (by omega) (by omega)]; omega
  have w3 : Int.tdiv (p : Int) 16 = ((p / 16 : Nat) : Int) := by rw [Int.tdiv_eq_ediv_of_nonneg (by omega)]; omega
  have w4 : IntKind.i64.wrap ((p / 16 : Nat) : Int) = ((p / 16 : Nat) : Int) := wrapNat (by omega)
  have w5 : Int.tmod ((p / 16 : Nat) : Int) 16 = ((p / 16 % 16 : Nat) : Int) := by rw [Int.tmod_eq_emod_of_nonneg (by omega)]; omega
  have w6 : IntKind.i64.wrap (((p % 16 * 7 : Nat) : Int) + ((p / 16 % 16 : Nat) : Int)) = ((p % 16 * 7 + p / 16 % 16 : Nat) : Int) := by rw [wrapI (by omega) (by omega)]; omega
  have w7 : Int.tmod ((p % 16 * 7 + p / 16 % 16 : Nat) : Int) 16 = (((p % 16 * 7 + p / 16 % 16) % 16 : Nat) : Int) := by rw [Int.tmod_eq_emod_of_nonneg (by omega)]; omega
  rw [evCallT_eq (F := ir19) rfl rfl rfl]
  unfold ir19
  rw [bodyK_eq]
  simp only [enter_eq, ev_seq, seqK_norm, seqK_exit, seqK_ret, ev_reg, ev_cond, condK_true, condK_false, ev_block, blockK_norm, blockK_ret, blockK_exit, ev_loop, ev_skip, ev_exit, ev_ret, regK_cons, regK_nil, guard_none, guard_some, regG_true, regG_false, regO_some, op_mov, op_conv, op_bin, op_bsl, op_box, op_mks, op_s2b, op_pick, op_un, op_eq, op_len, op_ext, op_load, op_iaddr, op_slice, op_b2s, op_idxS, op_mx, op_mn, op_call, op_store, op_app, op_copy, args_eq, result_one', rv_loc, finish_norm, finish_ret, outK_some, keep_true, keep_false, keep_nil, p_bin, p_pick, p_un, p_eq, p_conv, evNew, pureK_some, newK_some, X.eval, set_none, set_some, List.map_cons, List.map_nil, List.getD_cons_zero, List.getD_cons_succ, List.getD_nil, List.set_cons_zero, List.set_cons_succ, binCV, unCV, isShift, intArithF_eq, shiftF_eq, wrapF_eq, intArith, shift, eqVal, bound, asNat_cast, cond_true, cond_false, BEq.rfl, beq_self_eq_true, evalParts, fillParts, AV.cells, AV.ofCells, XV.av, AV.xv, List.length_cons, List.length_nil, zeros, patch, setMany, List.nil_append, List.cons_append, Nat.ble, Nat.add_eq, Nat.zero_add, Nat.add_zero, Nat.reduceAdd, Nat.reduceMul, Nat.reduceSub, Nat.ble_eq, Nat.reduceLeDiff, Nat.reduceBEq, Int.reduceBEq, Int.reduceNeg, Bool.and_true, Bool.and_false, Bool.true_and, Bool.false_and, Bool.not_true, Bool.not_false, Bool.true_eq_false, Bool.false_eq_true, Int.reduceLT, Int.reduceLE, Int.reduceGT, Int.reduceGE, decide_true, decide_false, Bool.not_eq_true, loopN_norm, loopN_exit, tf, ft, ff, c1, w1, w2, w3, w4, w5, w6, w7]

theorem shard_ok (v : DV h x i) {p b : Nat} (hp : p < 100000) (hb : b = (p % 16 * 7 + p / 16 % 16) % 16) : ∃ h', evCallT table 12 N (d + 2) 17 [.agg (dc x i), .c (.int .i64 (p : Int))] h = some (.c (.int .i64 (x.own[b]'(by rw [v.len]; omega))), h') ∧ Ext h h' := by
  have c1 : decide ((p : Int) < 0) = false := decide_eq_false (by omega)
  have x1 : Ext h (h.new (.cells (dc x i))) := (Ext.refl _).new _
  have v1 := v.ext x1
  have hb16 : b < 16 := by omega
  have e1 := bucket_ok (N := N) (d := d) (h := h.new (.cells (dc x i))) p hp
  rw [← hb] at e1
  have r1 : (h.new (.cells (dc x i))).read h.next 1 1 = some [.sl i 0 16 (.dy 1)] := read_cells get_new_at rfl
  have l16 : ∀ loc vals h', evPure loc (.c (.sl i 0 16 (.dy 1)) :: vals) h' (.len .sl (.val 0)) = some (.c (.int .i64 16)) := fun _ _ _ => rfl
  have m1 : Nat.blt b 16 = true := bltT hb16
  rw [evCallT_eq (F := ir17) rfl rfl rfl]
  unfold ir17
  rw [bodyK_eq]
  simp only [enter_eq, ev_seq, seqK_norm, seqK_exit, seqK_ret, ev_reg, ev_cond, condK_true, condK_false, ev_block, blockK_norm, blockK_ret, blockK_exit, ev_loop, ev_skip, ev_exit, ev_ret, regK_cons, regK_nil, guard_none, guard_some, regG_true, regG_false, regO_some, op_mov, op_conv, op_bin, op_bsl, op_box, op_mks, op_s2b, op_pick, op_un, op_eq, op_len, op_ext, op_load, op_iaddr, op_slice, op_b2s, op_idxS, op_mx, op_mn, op_call, op_store, op_app, op_copy, args_eq, result_one', rv_loc, finish_norm, finish_ret, outK_some, keep_true, keep_false, keep_nil, p_bin, p_pick, p_un, p_eq, p_conv, evNew, pureK_some, newK_some, X.eval, set_none, set_some, List.map_cons, List.map_nil, List.getD_cons_zero, List.getD_cons_succ, List.getD_nil, List.set_cons_zero, List.set_cons_succ, binCV, unCV, isShift, intArithF_eq, shiftF_eq, wrapF_eq, intArith, shift, eqVal, bound, asNat_cast, cond_true, cond_false, BEq.rfl, beq_self_eq_true, evalParts, fillParts, AV.cells, AV.ofCells, XV.av, AV.xv, List.length_cons, List.length_nil, zeros, patch, setMany, List.nil_append, List.cons_append, Nat.ble, Nat.add_eq, Nat.zero_add, Nat.add_zero, Nat.reduceAdd, Nat.reduceMul, Nat.reduceSub, Nat.ble_eq, Nat.reduceLeDiff, Nat.reduceBEq, Int.reduceBEq, Int.reduceNeg, Bool.and_true, Bool.and_false, Bool.true_and, Bool.false_and, Bool.not_true, Bool.not_false, Bool.true_eq_false, Bool.false_eq_true, Int.reduceLT, Int.reduceLE, Int.reduceGT, Int.reduceGE, decide_true, decide_false, Bool.not_eq_true, loopN_norm, loopN_exit, tf, ft, ff, ev_dreg, dregK_nil, dregK_cons, dregE_true, dregP_some, dregX_some, d_mov, d_bin, d_eq, d_pick, d_un, d_conv, d_b2s, d_len, d_load, d_iaddr, d_slice, d_ext, d_call, d_store, chk_done, chk_none, chk_some, chkG_true, chkG_false, chkOne_nil, chkOne_cons, chkH_some, chkV_same, stage_none, stage_some, look_hit, look_miss, news_nil, wb_cons, wb_nil, skip0, List.reverse_cons, List.reverse_nil, c1, op_faddr, p_faddr, d_faddr, p_iaddr, p_load, r1, AV.ofCells, l16, e1, m1, Nat.mul_one, v1.rd hb16]
  exact ⟨_, rfl, x1⟩

theorem may_ok (v : DV h x i) (o : OkD x n) (hN : 20 ≤ N) : ∃ h', evCallT table 12 N (d + 1) 20 [.agg (dc x i), .c (.int .i64 n)] h = some (.c (.bool true), h') ∧ Ext h h' := by
  have x1 : Ext h (h.new (.cells (dc x i))) := (Ext.refl _).new _
  have v1 := v.ext x1
  have q0 : (h.new (.cells (dc x i))).read h.next 0 1 = some [.int .i64 x.ver] := read_cells get_new_at rfl
  have q1 : (h.new (.cells (dc x i))).read h.next 1 1 = some [.sl i 0 16 (.dy 1)] := read_cells get_new_at rfl
  have q2 : (h.new (.cells (dc x i))).read h.next 2 1 = some [.int .i64 x.bk] := read_cells get_new_at rfl
  have q3 : (h.new (.cells (dc x i))).read h.next 3 1 = some [.int .i64 x.to] := read_cells get_new_at rfl
  have q4 : (h.new (.cells (dc x i))).read h.next 4 1 = some [.int .i64 x.ph] := read_cells get_new_at rfl
  have l16 : ∀ loc vals h', evPure loc (.c (.sl i 0 16 (.dy 1)) :: vals) h' (.len .sl (.val 0)) = some (.c (.int .i64 16)) := fun _ _ _ => rfl
  have bneI : ∀ {a b : Int}, (a != b) = !(a == b) := rfl
  have o1 := o.v1
  have o2 := o.v2
  have c1 : decide (x.ver < 1) = false := decide_eq_false (by omega)
  have c2 : decide (x.ver > 1073741824) = false := decide_eq_false (by omega)
  obtain ⟨H, hH⟩ : ∃ H, H = h.new (.cells (dc x i)) := ⟨_, rfl⟩
  rw [← hH] at q0 q1 q2 q3 q4 v1 x1
  rw [evCallT_eq (F := ir20) rfl rfl rfl]
  unfold ir20
  rw [bodyK_eq]
  have L : ∀ loc, keepOnly ir20_k0 loc = [.junk, .c (.int .i64 n), .c (.ptr h.next 0), .junk, .junk, .junk, .c (.sl i 0 16 (.dy 1)), .c (.int .i64 16), .c (.int .i64 0), .junk, .junk, .junk] →
      ∃ r, loopK (evCallT table 12 N d) N ir20_k0 ir20_l0 N loc H = some r ∧ r = (.exit 0, [.junk, .c (.int .i64 n), .c (.ptr h.next 0), .junk, .junk, .junk, .c (.sl i 0 16 (.dy 1)), .c (.int .i64 16), .c (.int .i64 16), .c (.bool false), .junk, .junk], H) := by
    intro loc hloc
    refine loop_inv (n := 16) (fun k loc h' => h' = H ∧ loc = [.junk, .c (.int .i64 n), .c (.ptr h.next 0), .junk, .junk, .junk, .c (.sl i 0 16 (.dy 1)), .c (.int .i64 16), .c (.int .i64 (k : Int)), .junk, .junk, .junk]) _ ?_ ⟨rfl, hloc⟩ (by omega)
    rintro k loc h' hk ⟨rfl, rfl⟩
    unfold ir20_l0
    by_cases hlt : k < 16
    · left
      refine ⟨hlt, ?_⟩
      have w1 : decide ((k : Int) < 16) = true := decide_eq_true (by omega)
      have w2 := succI (i := k) (by omega)
      have m1 : Nat.blt k 16 = true := bltT hlt
      have hv := o.ow (x.own[k]'(by rw [v.len]; exact hlt)) (List.getElem_mem _)
      have w3 : decide ((x.own[k]'(by rw [v.len]; exact hlt)) ≥ 0) = true := decide_eq_true hv.1
      have w4 : decide ((x.own[k]'(by rw [v.len]; exact hlt)) < n) = true := decide_eq_true hv.2
      simp only [enter_eq, ev_seq, seqK_norm, seqK_exit, seqK_ret, ev_reg, ev_cond, condK_true, condK_false, ev_block, blockK_norm, blockK_ret, blockK_exit, ev_loop, ev_skip, ev_exit, ev_ret, regK_cons, regK_nil, guard_none, guard_some, regG_true, regG_false, regO_some, op_mov, op_conv, op_bin, op_bsl, op_box, op_mks, op_s2b, op_pick, op_un, op_eq, op_len, op_ext, op_load, op_iaddr, op_slice, op_b2s, op_idxS, op_mx, op_mn, op_call, op_store, op_app, op_copy, args_eq, result_one', rv_loc, finish_norm, finish_ret, outK_some, keep_true, keep_false, keep_nil, p_bin, p_pick, p_un, p_eq, p_conv, evNew, pureK_some, newK_some, X.eval, set_none, set_some, List.map_cons, List.map_nil, List.getD_cons_zero, List.getD_cons_succ, List.getD_nil, List.set_cons_zero, List.set_cons_succ, binCV, unCV, isShift, intArithF_eq, shiftF_eq, wrapF_eq, intArith, shift, eqVal, bound, asNat_cast, cond_true, cond_false, BEq.rfl, beq_self_eq_true, evalParts, fillParts, AV.cells, AV.ofCells, XV.av, AV.xv, List.length_cons, List.length_nil, zeros, patch, setMany, List.nil_append, List.cons_append, Nat.ble, Nat.add_eq, Nat.zero_add, Nat.add_zero, Nat.reduceAdd, Nat.reduceMul, Nat.reduceSub, Nat.ble_eq, Nat.reduceLeDiff, Nat.reduceBEq, Int.reduceBEq, Int.reduceNeg, Bool.and_true, Bool.and_false, Bool.true_and, Bool.false_and, Bool.not_true, Bool.not_false, Bool.true_eq_false, Bool.false_eq_true, Int.reduceLT, Int.reduceLE, Int.reduceGT, Int.reduceGE, decide_true, decide_false, Bool.not_eq_true, loopN_norm, loopN_exit, tf, ft, ff, w1, w2, p_iaddr, p_load, m1, Nat.mul_one, v1.rd hlt, AV.ofCells, w3, w4]
      exact ⟨_, _, rfl, rfl, rfl⟩
    · right
      have hk16 : k = 16 := by omega
      subst hk16
      simp only [enter_eq, ev_seq, seqK_norm, seqK_exit, seqK_ret, ev_reg, ev_cond, condK_true, condK_false, ev_block, blockK_norm, blockK_ret, blockK_exit, ev_loop, ev_skip, ev_exit, ev_ret, regK_cons, regK_nil, guard_none, guard_some, regG_true, regG_false, regO_some, op_mov, op_conv, op_bin, op_bsl, op_box, op_mks, op_s2b, op_pick, op_un, op_eq, op_len, op_ext, op_load, op_iaddr, op_slice, op_b2s, op_idxS, op_mx, op_mn, op_call, op_store, op_app, op_copy, args_eq, result_one', rv_loc, finish_norm, finish_ret, outK_some, keep_true, keep_false, keep_nil, p_bin, p_pick, p_un, p_eq, p_conv, evNew, pureK_some, newK_some, X.eval, set_none, set_some, List.map_cons, List.map_nil, List.getD_cons_zero, List.getD_cons_succ, List.getD_nil, List.set_cons_zero, List.set_cons_succ, binCV, unCV, isShift, intArithF_eq, shiftF_eq, wrapF_eq, intArith, shift, eqVal, bound, asNat_cast, cond_true, cond_false, BEq.rfl, beq_self_eq_true, evalParts, fillParts, AV.cells, AV.ofCells, XV.av, AV.xv, List.length_cons, List.length_nil, zeros, patch, setMany, List.nil_append, List.cons_append, Nat.ble, Nat.add_eq, Nat.zero_add, Nat.add_zero, Nat.reduceAdd, Nat.reduceMul, Nat.reduceSub, Nat.ble_eq, Nat.reduceLeDiff, Nat.reduceBEq, Int.reduceBEq, Int.reduceNeg, Bool.and_true, Bool.and_false, Bool.true_and, Bool.false_and, Bool.not_true, Bool.not_false, Bool.true_eq_false, Bool.false_eq_true, Int.reduceLT, Int.reduceLE, Int.reduceGT, Int.reduceGE, decide_true, decide_false, Bool.not_eq_true, loopN_norm, loopN_exit, tf, ft, ff]
      exact ⟨_, rfl, by simp, rfl⟩
  obtain ⟨r, hr, rfl⟩ := L [.agg (dc x i), .c (.int .i64 n), .c (.ptr h.next 0), .c (.bool false), .tup [], .c (.bool false), .c (.sl i 0 16 (.dy 1)), .c (.int .i64 16), .c (.int .i64 0), .tup [], .tup [], .tup []] rfl
  have bx : AV.cells (.agg (dc x i)) = some (dc x i) := rfl
  rcases o.mv with ⟨e1, e2, e3⟩ | ⟨b1, b2, t1, t2, ne, ph⟩
  · have p1 : (x.bk == -1) = true := by simp [e1]
    have p2 : (x.to == 0) = true := by simp [e2]
    have p3 : (x.ph == 0) = true := by simp [e3]
    simp only [enter_eq, ev_seq, seqK_norm, seqK_exit, seqK_ret, ev_reg, ev_cond, condK_true, condK_false, ev_block, blockK_norm, blockK_ret, blockK_exit, ev_loop, ev_skip, ev_exit, ev_ret, regK_cons, regK_nil, guard_none, guard_some, regG_true, regG_false, regO_some, op_mov, op_conv, op_bin, op_bsl, op_box, op_mks, op_s2b, op_pick, op_un, op_eq, op_len, op_ext, op_load, op_iaddr, op_slice, op_b2s, op_idxS, op_mx, op_mn, op_call, op_store, op_app, op_copy, args_eq, result_one', rv_loc, finish_norm, finish_ret, outK_some, keep_true, keep_false, keep_nil, p_bin, p_pick, p_un, p_eq, p_conv, evNew, pureK_some, newK_some, X.eval, set_none, set_some, List.map_cons, List.map_nil, List.getD_cons_zero, List.getD_cons_succ, List.getD_nil, List.set_cons_zero, List.set_cons_succ, binCV, unCV, isShift, intArithF_eq, shiftF_eq, wrapF_eq, intArith, shift, eqVal, bound, asNat_cast, cond_true, cond_false, BEq.rfl, beq_self_eq_true, evalParts, fillParts, AV.cells, AV.ofCells, XV.av, AV.xv, List.length_cons, List.length_nil, zeros, patch, setMany, List.nil_append, List.cons_append, Nat.ble, Nat.add_eq, Nat.zero_add, Nat.add_zero, Nat.reduceAdd, Nat.reduceMul, Nat.reduceSub, Nat.ble_eq, Nat.reduceLeDiff, Nat.reduceBEq, Int.reduceBEq, Int.reduceNeg, Bool.and_true, Bool.and_false, Bool.true_and, Bool.false_and, Bool.not_true, Bool.not_false, Bool.true_eq_false, Bool.false_eq_true, Int.reduceLT, Int.reduceLE, Int.reduceGT, Int.reduceGE, decide_true, decide_false, Bool.not_eq_true, loopN_norm, loopN_exit, tf, ft, ff, bx, ← hH, op_faddr, p_faddr, p_load, q0, q1, q2, q3, q4, AV.ofCells, l16, bneI, c1, c2, hr, blockK_exit_eq, p1, p2, p3]
    exact ⟨_, rfl, x1⟩
  · obtain ⟨j, hj⟩ : ∃ j : Nat, x.bk = (j : Int) := ⟨x.bk.toNat, by omega⟩
    have hj16 : j < 16 := by omega
    rw [hj] at q2
    have p1 : ((j : Int) == -1) = false := by simp only [beq_eq_false_iff_ne, ne_eq]; omega
    have p2 : decide ((j : Int) ≥ 0) = true := decide_eq_true (by omega)
    have p3 : decide ((j : Int) < 16) = true := decide_eq_true (by omega)
    have p4 : decide (x.to ≥ 0) = true := decide_eq_true t1
    have p5 : decide (x.to < n) = true := decide_eq_true t2
    rw [hj, Int.toNat_natCast, List.getElem?_eq_getElem (by rw [v.len]; exact hj16)] at ne
    have p6 : (x.to == (x.own[j]'(by rw [v.len]; exact hj16))) = false := by
      simp only [beq_eq_false_iff_ne, ne_eq]; intro e; exact ne (by rw [e])
    have m1 : Nat.blt j 16 = true := bltT hj16
    rcases ph with ph | ph
    · have p7 : (x.ph == 1) = true := by simp [ph]
      simp only [enter_eq, ev_seq, seqK_norm, seqK_exit, seqK_ret, ev_reg, ev_cond, condK_true, condK_false, ev_block, blockK_norm, blockK_ret, blockK_exit, ev_loop, ev_skip, ev_exit, ev_ret, regK_cons, regK_nil, guard_none, guard_some, regG_true, regG_false, regO_some, op_mov, op_conv, op_bin, op_bsl, op_box, op_mks, op_s2b, op_pick, op_un, op_eq, op_len, op_ext, op_load, op_iaddr, op_slice, op_b2s, op_idxS, op_mx, op_mn, op_call, op_store, op_app, op_copy, args_eq, result_one', rv_loc, finish_norm, finish_ret, outK_some, keep_true, keep_false, keep_nil, p_bin, p_pick, p_un, p_eq, p_conv, evNew, pureK_some, newK_some, X.eval, set_none, set_some, List.map_cons, List.map_nil, List.getD_cons_zero, List.getD_cons_succ, List.getD_nil, List.set_cons_zero, List.set_cons_succ, binCV, unCV, isShift, intArithF_eq, shiftF_eq, wrapF_eq, intArith, shift, eqVal, bound, asNat_cast, cond_true, cond_false, BEq.rfl, beq_self_eq_true, evalParts, fillParts, AV.cells, AV.ofCells, XV.av, AV.xv, List.length_cons, List.length_nil, zeros, patch, setMany, List.nil_append, List.cons_append, Nat.ble, Nat.add_eq, Nat.zero_add, Nat.add_zero, Nat.reduceAdd, Nat.reduceMul, Nat.reduceSub, Nat.ble_eq, Nat.reduceLeDiff, Nat.reduceBEq, Int.reduceBEq, Int.reduceNeg, Bool.and_true, Bool.and_false, Bool.true_and, Bool.false_and, Bool.not_true, Bool.not_false, Bool.true_eq_false, Bool.false_eq_true, Int.reduceLT, Int.reduceLE, Int.reduceGT, Int.reduceGE, decide_true, decide_false, Bool.not_eq_true, loopN_norm, loopN_exit, tf, ft, ff, ev_dreg, dregK_nil, dregK_cons, dregE_true, dregP_some, dregX_some, d_mov, d_bin, d_eq, d_pick, d_un, d_conv, d_b2s, d_len, d_load, d_iaddr, d_slice, d_ext, d_call, d_store, chk_done, chk_none, chk_some, chkG_true, chkG_false, chkOne_nil, chkOne_cons, chkH_some, chkV_same, stage_none, stage_some, look_hit, look_miss, news_nil, wb_cons, wb_nil, skip0, List.reverse_cons, List.reverse_nil, bx, ← hH, op_faddr, p_faddr, d_faddr, p_iaddr, p_load, q0, q1, q2, q3, q4, AV.ofCells, l16, bneI, c1, c2, hr, blockK_exit_eq, p1, p2, p3, p4, p5, p6, p7, m1, Nat.mul_one, v1.rd hj16, d_mov_not, d_call_not, d_bin_not, d_eq_not, d_un_not, d_pick_not, d_load_not, d_len_not, d_faddr_not, d_nilchk_not, d_iaddr_not]
      exact ⟨_, rfl, x1⟩
    · have p7 : (x.ph == 1) = false := by simp [ph]
      have p8 : (x.ph == 2) = true := by simp [ph]
      simp only [enter_eq, ev_seq, seqK_norm, seqK_exit, seqK_ret, ev_reg, ev_cond, condK_true, condK_false, ev_block, blockK_norm, blockK_ret, blockK_exit, ev_loop, ev_skip, ev_exit, ev_ret, regK_cons, regK_nil, guard_none, guard_some, regG_true, regG_false, regO_some, op_mov, op_conv, op_bin, op_bsl, op_box, op_mks, op_s2b, op_pick, op_un, op_eq, op_len, op_ext, op_load, op_iaddr, op_slice, op_b2s, op_idxS, op_mx, op_mn, op_call, op_store, op_app, op_copy, args_eq, result_one', rv_loc, finish_norm, finish_ret, outK_some, keep_true, keep_false, keep_nil, p_bin, p_pick, p_un, p_eq, p_conv, evNew, pureK_some, newK_some, X.eval, set_none, set_some, List.map_cons, List.map_nil, List.getD_cons_zero, List.getD_cons_succ, List.getD_nil, List.set_cons_zero, List.set_cons_succ, binCV, unCV, isShift, intArithF_eq, shiftF_eq, wrapF_eq, intArith, shift, eqVal, bound, asNat_cast, cond_true, cond_false, BEq.rfl, beq_self_eq_true, evalParts, fillParts, AV.cells, AV.ofCells, XV.av, AV.xv, List.length_cons, List.length_nil, zeros, patch, setMany, List.nil_append, List.cons_append, Nat.ble, Nat.add_eq, Nat.zero_add, Nat.add_zero, Nat.reduceAdd, Nat.reduceMul, Nat.reduceSub, Nat.ble_eq, Nat.reduceLeDiff, Nat.reduceBEq, Int.reduceBEq, Int.reduceNeg, Bool.and_true, Bool.and_false, Bool.true_and, Bool.false_and, Bool.not_true, Bool.not_false, Bool.true_eq_false, Bool.false_eq_true, Int.reduceLT, Int.reduceLE, Int.reduceGT, Int.reduceGE, decide_true, decide_false, Bool.not_eq_true, loopN_norm, loopN_exit, tf, ft, ff, ev_dreg, dregK_nil, dregK_cons, dregE_true, dregP_some, dregX_some, d_mov, d_bin, d_eq, d_pick, d_un, d_conv, d_b2s, d_len, d_load, d_iaddr, d_slice, d_ext, d_call, d_store, chk_done, chk_none, chk_some, chkG_true, chkG_false, chkOne_nil, chkOne_cons, chkH_some, chkV_same, stage_none, stage_some, look_hit, look_miss, news_nil, wb_cons, wb_nil, skip0, List.reverse_cons, List.reverse_nil, bx, ← hH, op_faddr, p_faddr, d_faddr, p_iaddr, p_load, q0, q1, q2, q3, q4, AV.ofCells, l16, bneI, c1, c2, hr, blockK_exit_eq, p1, p2, p3, p4, p5, p6, p7, p8, m1, Nat.mul_one, v1.rd hj16, d_mov_not, d_call_not, d_bin_not, d_eq_not, d_un_not, d_pick_not, d_load_not, d_len_not, d_faddr_not, d_nilchk_not, d_iaddr_not]
      exact ⟨_, rfl, x1⟩
theorem mayall_ok (v : DV h x i) (o : OkD x 4) (hN : 20 ≤ N) : ∃ h', evCallT table 12 N (d + 2) 29 [.agg (dc x i)] h = some (.c (.bool true), h') ∧ Ext h h' := by
  have x1 : Ext h (h.new (.cells (dc x i))) := (Ext.refl _).new _
  obtain ⟨h', e1, x2⟩ := may_ok (N := N) (d := d) (v.ext x1) o hN
  have r5 : (h.new (.cells (dc x i))).read h.next 0 5 = some (dc x i) := by rw [read_part get_new_at (by simp [dc])]; rfl
  have bx : AV.cells (.agg (dc x i)) = some (dc x i) := rfl
  rw [evCallT_eq (F := ir29) rfl rfl rfl]
  unfold ir29
  rw [bodyK_eq]
  simp only [enter_eq, ev_seq, seqK_norm, seqK_exit, seqK_ret, ev_reg, ev_cond, condK_true, condK_false, ev_block, blockK_norm, blockK_ret, blockK_exit, ev_loop, ev_skip, ev_exit, ev_ret, regK_cons, regK_nil, guard_none, guard_some, regG_true, regG_false, regO_some, op_mov, op_conv, op_bin, op_bsl, op_box, op_mks, op_s2b, op_pick, op_un, op_eq, op_len, op_ext, op_load, op_iaddr, op_slice, op_b2s, op_idxS, op_mx, op_mn, op_call, op_store, op_app, op_copy, args_eq, result_one', rv_loc, finish_norm, finish_ret, outK_some, keep_true, keep_false, keep_nil, p_bin, p_pick, p_un, p_eq, p_conv, evNew, pureK_some, newK_some, X.eval, set_none, set_some, List.map_cons, List.map_nil, List.getD_cons_zero, List.getD_cons_succ, List.getD_nil, List.set_cons_zero, List.set_cons_succ, binCV, unCV, isShift, intArithF_eq, shiftF_eq, wrapF_eq, intArith, shift, eqVal, bound, asNat_cast, cond_true, cond_false, BEq.rfl, beq_self_eq_true, evalParts, fillParts, AV.cells, AV.ofCells, XV.av, AV.xv, List.length_cons, List.length_nil, zeros, patch, setMany, List.nil_append, List.cons_append, Nat.ble, Nat.add_eq, Nat.zero_add, Nat.add_zero, Nat.reduceAdd, Nat.reduceMul, Nat.reduceSub, Nat.ble_eq, Nat.reduceLeDiff, Nat.reduceBEq, Int.reduceBEq, Int.reduceNeg, Bool.and_true, Bool.and_false, Bool.true_and, Bool.false_and, Bool.not_true, Bool.not_false, Bool.true_eq_false, Bool.false_eq_true, Int.reduceLT, Int.reduceLE, Int.reduceGT, Int.reduceGE, decide_true, decide_false, Bool.not_eq_true, loopN_norm, loopN_exit, tf, ft, ff, bx, p_load, r5, AV.ofCells, e1]
  exact ⟨_, rfl, x1.trans x2⟩

theorem clone_ok {o : List Int} (hg : h.get i = some (.cells (o.map icell))) (hi : i < h.next) (hl : o.length = 16) :
    ∃ k h', evCallT table 12 N (d + 1) 30 [.c (.sl i 0 16 (.dy 1))] h = some (.c (.sl k 0 16 (.dy 1)), h') ∧ h'.get k = some (.cells (o.map icell)) ∧ h.next ≤ k ∧ k < h'.next ∧ Ext h h' := by
  have hs : source (h.new (.cells [])) 1 (.c (.sl i 0 16 (.dy 1))) = some (15 + 1, o.map icell) := source_new (n := 15 + 1) ((get_new_old hi).trans hg) (by simp [hl])
  obtain ⟨h', a1, ⟨_, a2⟩, a3, a4⟩ := app_new (sz := 1) (h0 := h) (h := h.new (.cells [])) (i := h.next) get_new_at (Nat.le_succ _) hs (by simp [hl]) (by omega)
  rw [next_new] at a1 a2 a3 a4
  rcases a2 with ⟨hc, _⟩ | ⟨k, hk, g, h1, h2⟩
  · cases hc
  have hk' : k = h.next + 1 := by cases hk; rfl
  subst hk'
  rw [evCallT_eq (F := ir30) rfl rfl rfl]
  unfold ir30
  rw [bodyK_eq]
  simp only [enter_eq, ev_seq, seqK_norm, seqK_exit, seqK_ret, ev_reg, ev_cond, condK_true, condK_false, ev_block, blockK_norm, blockK_ret, blockK_exit, ev_loop, ev_skip, ev_exit, ev_ret, regK_cons, regK_nil, guard_none, guard_some, regG_true, regG_false, regO_some, op_mov, op_conv, op_bin, op_bsl, op_box, op_mks, op_s2b, op_pick, op_un, op_eq, op_len, op_ext, op_load, op_iaddr, op_slice, op_b2s, op_idxS, op_mx, op_mn, op_call, op_store, op_app, op_copy, args_eq, result_one', rv_loc, finish_norm, finish_ret, outK_some, keep_true, keep_false, keep_nil, p_bin, p_pick, p_un, p_eq, p_conv, evNew, pureK_some, newK_some, X.eval, set_none, set_some, List.map_cons, List.map_nil, List.getD_cons_zero, List.getD_cons_succ, List.getD_nil, List.set_cons_zero, List.set_cons_succ, binCV, unCV, isShift, intArithF_eq, shiftF_eq, wrapF_eq, intArith, shift, eqVal, bound, asNat_cast, cond_true, cond_false, BEq.rfl, beq_self_eq_true, evalParts, fillParts, AV.cells, AV.ofCells, XV.av, AV.xv, List.length_cons, List.length_nil, zeros, patch, setMany, List.nil_append, List.cons_append, Nat.ble, Nat.add_eq, Nat.zero_add, Nat.add_zero, Nat.reduceAdd, Nat.reduceMul, Nat.reduceSub, Nat.ble_eq, Nat.reduceLeDiff, Nat.reduceBEq, Int.reduceBEq, Int.reduceNeg, Bool.and_true, Bool.and_false, Bool.true_and, Bool.false_and, Bool.not_true, Bool.not_false, Bool.true_eq_false, Bool.false_eq_true, Int.reduceLT, Int.reduceLE, Int.reduceGT, Int.reduceGE, decide_true, decide_false, Bool.not_eq_true, loopN_norm, loopN_exit, tf, ft, ff, a1]
  exact ⟨_, _, rfl, g, h1, h2, ⟨by omega, fun j hj => by rw [a4 j (by omega), get_new_old hj]⟩⟩

/-- Two boxes: a directory's copy, and what is told. -/
theorem boxes (h : Heap) (l : List CV) : Ext h ((h.new (.cells l)).new (.cells dz)) ∧ ((h.new (.cells l)).new (.cells dz)).get h.next = some (.cells l) ∧ ((h.new (.cells l)).new (.cells dz)).get (h.next + 1) = some (.cells dz) ∧ ((h.new (.cells l)).new (.cells dz)).next = h.next + 2 :=
  ⟨((Ext.refl _).new _).new _, (get_new_old (h := h.new (.cells l)) (Nat.lt_succ_self _)).trans get_new_at, get_new_at (h := h.new (.cells l)), rfl⟩
theorem rd5 {h : Heap} {e : Nat} {a b c d f : CV} (g : h.get e = some (.cells [a, b, c, d, f])) : h.read e 0 5 = some [a, b, c, d, f] := by rw [read_part g (by simp)]; rfl

/-- What is told without a change. -/
theorem told_as (v : DV h x i) {h3 : Heap} (x3 : Ext ((h.new (.cells (dc x i))).new (.cells dz)) h3) :
    h3.read h.next 0 5 = some (dc x i) ∧ ∃ h4, h3.write (h.next + 1) 0 (dc x i) = some h4 ∧ h4.read (h.next + 1) 0 5 = some (dc x i) ∧ DV h4 x i ∧ Ext h h4 := by
  obtain ⟨b1, b2, b3, b4⟩ := boxes h (dc x i)
  have g1 := x3.at_ b2 (by omega)
  have g2 := x3.at_ b3 (by omega)
  have hx := x3.1
  obtain ⟨h4, w, g, o, n⟩ := wr (o := 0) (v := dc x i) g2 (by simp [dc, dz])
  have g' : h4.get (h.next + 1) = some (.cells (dc x i)) := by rw [g]; simp [dc, dz]
  have hv := v.lt
  have x4 : Ext h h4 := ⟨by omega, fun k hk => by rw [o k (by omega), (b1.trans x3).2 k hk]⟩
  exact ⟨rd5 g1, h4, w, rd5 g', v.ext x4, x4⟩

theorem begin_held (v : DV h x i) (o : OkD x 4) (hb : x.bk ≠ -1) (b t : Int) (hN : 20 ≤ N) :
    ∃ h', evCallT table 12 N (d + 3) 13 [.agg (dc x i), .c (.int .i64 b), .c (.int .i64 t)] h = some (.tup [.agg (dc x i), .c (.int .i64 13)], h') ∧ DV h' x i ∧ Ext h h' := by
  have bneI : ∀ {a b : Int}, (a != b) = !(a == b) := rfl
  obtain ⟨b1, b2, b3, b4⟩ := boxes h (dc x i)
  obtain ⟨h3, e1, x3⟩ := mayall_ok (N := N) (d := d) (v.ext b1) o hN
  obtain ⟨r5, h4, w4, r4, v4, x4⟩ := told_as v x3
  have q5 : ((h.new (.cells (dc x i))).new (.cells dz)).read h.next 0 5 = some (dc x i) := rd5 b2
  have q2 : h3.read h.next 2 1 = some [.int .i64 x.bk] := read_cells (x3.at_ b2 (by omega)) rfl
  have p1 : (x.bk == -1) = false := by simp [hb]
  have bx : AV.cells (.agg (dc x i)) = some (dc x i) := rfl
  have n1 : (h.new (.cells (dc x i))).next = h.next + 1 := rfl
  rw [evCallT_eq (F := ir13) rfl rfl rfl]
  unfold ir13
  rw [bodyK_eq]
  simp only [enter_eq, ev_seq, seqK_norm, seqK_exit, seqK_ret, ev_reg, ev_cond, condK_true, condK_false, ev_block, blockK_norm, blockK_ret, blockK_exit, ev_loop, ev_skip, ev_exit, ev_ret, regK_cons, regK_nil, guard_none, guard_some, regG_true, regG_false, regO_some, op_mov, op_conv, op_bin, op_bsl, op_box, op_mks, op_s2b, op_pick, op_un, op_eq, op_len, op_ext, op_load, op_iaddr, op_slice, op_b2s, op_idxS, op_mx, op_mn, op_call, op_store, op_app, op_copy, args_eq, result_one', rv_loc, finish_norm, finish_ret, outK_some, keep_true, keep_false, keep_nil, p_bin, p_pick, p_un, p_eq, p_conv, evNew, pureK_some, newK_some, X.eval, set_none, set_some, List.map_cons, List.map_nil, List.getD_cons_zero, List.getD_cons_succ, List.getD_nil, List.set_cons_zero, List.set_cons_succ, binCV, unCV, isShift, intArithF_eq, shiftF_eq, wrapF_eq, intArith, shift, eqVal, bound, asNat_cast, cond_true, cond_false, BEq.rfl, beq_self_eq_true, evalParts, fillParts, AV.cells, AV.ofCells, XV.av, AV.xv, List.length_cons, List.length_nil, zeros, patch, setMany, List.nil_append, List.cons_append, Nat.ble, Nat.add_eq, Nat.zero_add, Nat.add_zero, Nat.reduceAdd, Nat.reduceMul, Nat.reduceSub, Nat.ble_eq, Nat.reduceLeDiff, Nat.reduceBEq, Int.reduceBEq, Int.reduceNeg, Bool.and_true, Bool.and_false, Bool.true_and, Bool.false_and, Bool.not_true, Bool.not_false, Bool.true_eq_false, Bool.false_eq_true, Int.reduceLT, Int.reduceLE, Int.reduceGT, Int.reduceGE, decide_true, decide_false, Bool.not_eq_true, loopN_norm, loopN_exit, tf, ft, ff, bx, n1, p_load, q5, AV.ofCells, e1, op_faddr, p_faddr, q2, bneI, p1, r5, evEff, bx, dc_five, w4, result, evResults, RV.eval, r4]
  exact ⟨_, rfl, v4, x4⟩
theorem begin_same (v : DV h x i) (o : OkD x 4) (hb : x.bk = -1) {b : Nat} (hb16 : b < 16) {t : Int} (ht : 0 ≤ t ∧ t < 4) (e : x.own[b]'(by rw [v.len]; exact hb16) = t) (hN : 20 ≤ N) :
    ∃ h', evCallT table 12 N (d + 3) 13 [.agg (dc x i), .c (.int .i64 (b : Int)), .c (.int .i64 t)] h = some (.tup [.agg (dc x i), .c (.int .i64 1)], h') ∧ DV h' x i ∧ Ext h h' := by
  have bneI : ∀ {a b : Int}, (a != b) = !(a == b) := rfl
  obtain ⟨b1, b2, b3, b4⟩ := boxes h (dc x i)
  obtain ⟨h3, e1, x3⟩ := mayall_ok (N := N) (d := d) (v.ext b1) o hN
  obtain ⟨r5, h4, w4, r4, v4, x4⟩ := told_as v x3
  have q5 : ((h.new (.cells (dc x i))).new (.cells dz)).read h.next 0 5 = some (dc x i) := rd5 b2
  have q2 : h3.read h.next 2 1 = some [.int .i64 x.bk] := read_cells (x3.at_ b2 (by omega)) rfl
  have q1 : h3.read h.next 1 1 = some [.sl i 0 16 (.dy 1)] := read_cells (x3.at_ b2 (by omega)) rfl
  have p1 : (x.bk == -1) = true := by simp [hb]
  have bx : AV.cells (.agg (dc x i)) = some (dc x i) := rfl
  have n1 : (h.new (.cells (dc x i))).next = h.next + 1 := rfl
  have c1 : decide ((b : Int) < 0) = false := decide_eq_false (by omega)
  have c2 : decide ((b : Int) ≥ 16) = false := decide_eq_false (by omega)
  have c3 : decide (t < 0) = false := decide_eq_false (by omega)
  have c4 : decide (t ≥ 4) = false := decide_eq_false (by omega)
  have c5 : (t == (x.own[b]'(by rw [v.len]; exact hb16))) = true := by simp [e]
  have m1 : Nat.blt b 16 = true := bltT hb16
  have rb := ((v.ext b1).ext x3).rd hb16
  rw [evCallT_eq (F := ir13) rfl rfl rfl]
  unfold ir13
  rw [bodyK_eq]
  simp only [enter_eq, ev_seq, seqK_norm, seqK_exit, seqK_ret, ev_reg, ev_cond, condK_true, condK_false, ev_block, blockK_norm, blockK_ret, blockK_exit, ev_loop, ev_skip, ev_exit, ev_ret, regK_cons, regK_nil, guard_none, guard_some, regG_true, regG_false, regO_some, op_mov, op_conv, op_bin, op_bsl, op_box, op_mks, op_s2b, op_pick, op_un, op_eq, op_len, op_ext, op_load, op_iaddr, op_slice, op_b2s, op_idxS, op_mx, op_mn, op_call, op_store, op_app, op_copy, args_eq, result_one', rv_loc, finish_norm, finish_ret, outK_some, keep_true, keep_false, keep_nil, p_bin, p_pick, p_un, p_eq, p_conv, evNew, pureK_some, newK_some, X.eval, set_none, set_some, List.map_cons, List.map_nil, List.getD_cons_zero, List.getD_cons_succ, List.getD_nil, List.set_cons_zero, List.set_cons_succ, binCV, unCV, isShift, intArithF_eq, shiftF_eq, wrapF_eq, intArith, shift, eqVal, bound, asNat_cast, cond_true, cond_false, BEq.rfl, beq_self_eq_true, evalParts, fillParts, AV.cells, AV.ofCells, XV.av, AV.xv, List.length_cons, List.length_nil, zeros, patch, setMany, List.nil_append, List.cons_append, Nat.ble, Nat.add_eq, Nat.zero_add, Nat.add_zero, Nat.reduceAdd, Nat.reduceMul, Nat.reduceSub, Nat.ble_eq, Nat.reduceLeDiff, Nat.reduceBEq, Int.reduceBEq, Int.reduceNeg, Bool.and_true, Bool.and_false, Bool.true_and, Bool.false_and, Bool.not_true, Bool.not_false, Bool.true_eq_false, Bool.false_eq_true, Int.reduceLT, Int.reduceLE, Int.reduceGT, Int.reduceGE, decide_true, decide_false, Bool.not_eq_true, loopN_norm, loopN_exit, tf, ft, ff, bx, n1, p_load, q5, AV.ofCells, e1, op_faddr, p_faddr, p_iaddr, q1, q2, bneI, p1, c1, c2, c3, c4, c5, m1, Nat.mul_one, rb, r5, evEff, dc_five, w4, result, evResults, RV.eval, r4]
  exact ⟨_, rfl, v4, x4⟩

theorem begin_ok (v : DV h x i) (o : OkD x 4) (hb : x.bk = -1) {b : Nat} (hb16 : b < 16) {t : Int} (ht : 0 ≤ t ∧ t < 4) (e : x.own[b]'(by rw [v.len]; exact hb16) ≠ t) (hN : 20 ≤ N) :
    ∃ k h', evCallT table 12 N (d + 3) 13 [.agg (dc x i), .c (.int .i64 (b : Int)), .c (.int .i64 t)] h = some (.tup [.agg (dc ⟨x.ver, x.own, b, t, 1⟩ k), .c (.int .i64 0)], h') ∧ DV h' ⟨x.ver, x.own, b, t, 1⟩ k ∧ Ext h h' := by
  have bneI : ∀ {a b : Int}, (a != b) = !(a == b) := rfl
  obtain ⟨b1, b2, b3, b4⟩ := boxes h (dc x i)
  obtain ⟨h3, e1, x3⟩ := mayall_ok (N := N) (d := d) (v.ext b1) o hN
  have q5 : ((h.new (.cells (dc x i))).new (.cells dz)).read h.next 0 5 = some (dc x i) := rd5 b2
  have g1 := x3.at_ b2 (by omega)
  have g2 := x3.at_ b3 (by omega)
  have q2 : h3.read h.next 2 1 = some [.int .i64 x.bk] := read_cells g1 rfl
  have q1 : h3.read h.next 1 1 = some [.sl i 0 16 (.dy 1)] := read_cells g1 rfl
  have p1 : (x.bk == -1) = true := by simp [hb]
  have bx : AV.cells (.agg (dc x i)) = some (dc x i) := rfl
  have n1 : (h.new (.cells (dc x i))).next = h.next + 1 := rfl
  have c1 : decide ((b : Int) < 0) = false := decide_eq_false (by omega)
  have c2 : decide ((b : Int) ≥ 16) = false := decide_eq_false (by omega)
  have c3 : decide (t < 0) = false := decide_eq_false (by omega)
  have c4 : decide (t ≥ 4) = false := decide_eq_false (by omega)
  have c5 : (t == (x.own[b]'(by rw [v.len]; exact hb16))) = false := by simp only [beq_eq_false_iff_ne, ne_eq]; exact fun e' => e e'.symm
  have m1 : Nat.blt b 16 = true := bltT hb16
  have v3 := (v.ext b1).ext x3
  have rb := v3.rd hb16
  have h3n := x3.1
  obtain ⟨k, h4, e4, g4, k1, k2, x4⟩ := clone_ok (N := N) (d := d + 1) v3.own v3.lt v3.len
  have h4n := x4.1
  obtain ⟨h5, w5, f5, o5, n5⟩ := wr (o := 1) (v := [.sl k 0 16 (.dy 1)]) (x4.at_ g1 (by omega)) (by simp [dc])
  obtain ⟨h6, w6, f6, o6, n6⟩ := wr (o := 2) (v := [.int .i64 (b : Int)]) f5 (by simp [dc])
  obtain ⟨h7, w7, f7, o7, n7⟩ := wr (o := 3) (v := [.int .i64 t]) f6 (by simp [dc])
  obtain ⟨h8, w8, f8, o8, n8⟩ := wr (o := 4) (v := [.int .i64 1]) f7 (by simp [dc])
  have f8' : h8.get h.next = some (.cells (dc ⟨x.ver, x.own, b, t, 1⟩ k)) := f8
  have g8 : h8.get (h.next + 1) = some (.cells dz) := by rw [o8 _ (by omega), o7 _ (by omega), o6 _ (by omega), o5 _ (by omega)]; exact x4.at_ g2 (by omega)
  obtain ⟨h9, w9, f9, o9, n9⟩ := wr (o := 0) (v := dc ⟨x.ver, x.own, b, t, 1⟩ k) g8 (by simp [dc, dz])
  have f9' : h9.get (h.next + 1) = some (.cells (dc ⟨x.ver, x.own, b, t, 1⟩ k)) := by rw [f9]; simp [dc, dz]
  have r8 : h8.read h.next 0 5 = some (dc ⟨x.ver, x.own, b, t, 1⟩ k) := rd5 f8'
  have r9 : h9.read (h.next + 1) 0 5 = some (dc ⟨x.ver, x.own, b, t, 1⟩ k) := rd5 f9'
  have old : ∀ j, j ≠ h.next → j ≠ h.next + 1 → h9.get j = h4.get j := fun j h1 h2 => by rw [o9 j h2, o8 j h1, o7 j h1, o6 j h1, o5 j h1]
  rw [evCallT_eq (F := ir13) rfl rfl rfl]
  unfold ir13
  rw [bodyK_eq]
  simp only [enter_eq, ev_seq, seqK_norm, seqK_exit, seqK_ret, ev_reg, ev_cond, condK_true, condK_false, ev_block, blockK_norm, blockK_ret, blockK_exit, ev_loop, ev_skip, ev_exit, ev_ret, regK_cons, regK_nil, guard_none, guard_some, regG_true, regG_false, regO_some, op_mov, op_conv, op_bin, op_bsl, op_box, op_mks, op_s2b, op_pick, op_un, op_eq, op_len, op_ext, op_load, op_iaddr, op_slice, op_b2s, op_idxS, op_mx, op_mn, op_call, op_store, op_app, op_copy, args_eq, result_one', rv_loc, finish_norm, finish_ret, outK_some, keep_true, keep_false, keep_nil, p_bin, p_pick, p_un, p_eq, p_conv, evNew, pureK_some, newK_some, X.eval, set_none, set_some, List.map_cons, List.map_nil, List.getD_cons_zero, List.getD_cons_succ, List.getD_nil, List.set_cons_zero, List.set_cons_succ, binCV, unCV, isShift, intArithF_eq, shiftF_eq, wrapF_eq, intArith, shift, eqVal, bound, asNat_cast, cond_true, cond_false, BEq.rfl, beq_self_eq_true, evalParts, fillParts, AV.cells, AV.ofCells, XV.av, AV.xv, List.length_cons, List.length_nil, zeros, patch, setMany, List.nil_append, List.cons_append, Nat.ble, Nat.add_eq, Nat.zero_add, Nat.add_zero, Nat.reduceAdd, Nat.reduceMul, Nat.reduceSub, Nat.ble_eq, Nat.reduceLeDiff, Nat.reduceBEq, Int.reduceBEq, Int.reduceNeg, Bool.and_true, Bool.and_false, Bool.true_and, Bool.false_and, Bool.not_true, Bool.not_false, Bool.true_eq_false, Bool.false_eq_true, Int.reduceLT, Int.reduceLE, Int.reduceGT, Int.reduceGE, decide_true, decide_false, Bool.not_eq_true, loopN_norm, loopN_exit, tf, ft, ff, bx, n1, p_load, q5, AV.ofCells, e1, op_faddr, p_faddr, p_iaddr, q1, q2, bneI, p1, c1, c2, c3, c4, c5, m1, Nat.mul_one, rb, e4, evEff, dc_five, w5, w6, w7, w8, r8, w9, result, evResults, RV.eval, r9]
  refine ⟨k, _, rfl, ⟨by rw [old k (by omega) (by omega)]; exact g4, by omega, v.len⟩, ⟨by omega, fun j hj => ?_⟩⟩
  rw [old j (by omega) (by omega), x4.2 j (by omega), x3.2 j (by omega)]; exact b1.2 j hj

theorem carry_ok (v : DV h x i) (o : OkD x 4) (hp : x.ph = 1) (hN : 20 ≤ N) :
    ∃ k h', evCallT table 12 N (d + 3) 14 [.agg (dc x i)] h = some (.tup [.agg (dc ⟨x.ver, x.own, x.bk, x.to, 2⟩ k), .c (.int .i64 0)], h') ∧ DV h' ⟨x.ver, x.own, x.bk, x.to, 2⟩ k ∧ Ext h h' := by
  have bneI : ∀ {a b : Int}, (a != b) = !(a == b) := rfl
  obtain ⟨b1, b2, b3, b4⟩ := boxes h (dc x i)
  obtain ⟨h3, e1, x3⟩ := mayall_ok (N := N) (d := d) (v.ext b1) o hN
  have q5 : ((h.new (.cells (dc x i))).new (.cells dz)).read h.next 0 5 = some (dc x i) := rd5 b2
  have g1 := x3.at_ b2 (by omega)
  have g2 := x3.at_ b3 (by omega)
  have q4 : h3.read h.next 4 1 = some [.int .i64 x.ph] := read_cells g1 rfl
  have q1 : h3.read h.next 1 1 = some [.sl i 0 16 (.dy 1)] := read_cells g1 rfl
  have p1 : (x.ph == 1) = true := by simp [hp]
  have bx : AV.cells (.agg (dc x i)) = some (dc x i) := rfl
  have n1 : (h.new (.cells (dc x i))).next = h.next + 1 := rfl
  have v3 := (v.ext b1).ext x3
  have h3n := x3.1
  obtain ⟨k, h4, e4, g4, k1, k2, x4⟩ := clone_ok (N := N) (d := d + 1) v3.own v3.lt v3.len
  have h4n := x4.1
  obtain ⟨h5, w5, f5, o5, n5⟩ := wr (o := 1) (v := [.sl k 0 16 (.dy 1)]) (x4.at_ g1 (by omega)) (by simp [dc])
  obtain ⟨h8, w8, f8, o8, n8⟩ := wr (o := 4) (v := [.int .i64 2]) f5 (by simp [dc])
  have f8' : h8.get h.next = some (.cells (dc ⟨x.ver, x.own, x.bk, x.to, 2⟩ k)) := f8
  have g8 : h8.get (h.next + 1) = some (.cells dz) := by rw [o8 _ (by omega), o5 _ (by omega)]; exact x4.at_ g2 (by omega)
  obtain ⟨h9, w9, f9, o9, n9⟩ := wr (o := 0) (v := dc ⟨x.ver, x.own, x.bk, x.to, 2⟩ k) g8 (by simp [dc, dz])
  have f9' : h9.get (h.next + 1) = some (.cells (dc ⟨x.ver, x.own, x.bk, x.to, 2⟩ k)) := by rw [f9]; simp [dc, dz]
  have r8 : h8.read h.next 0 5 = some (dc ⟨x.ver, x.own, x.bk, x.to, 2⟩ k) := rd5 f8'
  have r9 : h9.read (h.next + 1) 0 5 = some (dc ⟨x.ver, x.own, x.bk, x.to, 2⟩ k) := rd5 f9'
  have old : ∀ j, j ≠ h.next → j ≠ h.next + 1 → h9.get j = h4.get j := fun j h1 h2 => by rw [o9 j h2, o8 j h1, o5 j h1]
  rw [evCallT_eq (F := ir14) rfl rfl rfl]
  unfold ir14
  rw [bodyK_eq]
  simp only [enter_eq, ev_seq, seqK_norm, seqK_exit, seqK_ret, ev_reg, ev_cond, condK_true, condK_false, ev_block, blockK_norm, blockK_ret, blockK_exit, ev_loop, ev_skip, ev_exit, ev_ret, regK_cons, regK_nil, guard_none, guard_some, regG_true, regG_false, regO_some, op_mov, op_conv, op_bin, op_bsl, op_box, op_mks, op_s2b, op_pick, op_un, op_eq, op_len, op_ext, op_load, op_iaddr, op_slice, op_b2s, op_idxS, op_mx, op_mn, op_call, op_store, op_app, op_copy, args_eq, result_one', rv_loc, finish_norm, finish_ret, outK_some, keep_true, keep_false, keep_nil, p_bin, p_pick, p_un, p_eq, p_conv, evNew, pureK_some, newK_some, X.eval, set_none, set_some, List.map_cons, List.map_nil, List.getD_cons_zero, List.getD_cons_succ, List.getD_nil, List.set_cons_zero, List.set_cons_succ, binCV, unCV, isShift, intArithF_eq, shiftF_eq, wrapF_eq, intArith, shift, eqVal, bound, asNat_cast, cond_true, cond_false, BEq.rfl, beq_self_eq_true, evalParts, fillParts, AV.cells, AV.ofCells, XV.av, AV.xv, List.length_cons, List.length_nil, zeros, patch, setMany, List.nil_append, List.cons_append, Nat.ble, Nat.add_eq, Nat.zero_add, Nat.add_zero, Nat.reduceAdd, Nat.reduceMul, Nat.reduceSub, Nat.ble_eq, Nat.reduceLeDiff, Nat.reduceBEq, Int.reduceBEq, Int.reduceNeg, Bool.and_true, Bool.and_false, Bool.true_and, Bool.false_and, Bool.not_true, Bool.not_false, Bool.true_eq_false, Bool.false_eq_true, Int.reduceLT, Int.reduceLE, Int.reduceGT, Int.reduceGE, decide_true, decide_false, Bool.not_eq_true, loopN_norm, loopN_exit, tf, ft, ff, bx, n1, p_load, q5, AV.ofCells, e1, op_faddr, p_faddr, q1, q4, bneI, p1, e4, evEff, dc_five, w5, w8, r8, w9, result, evResults, RV.eval, r9]
  refine ⟨k, _, rfl, ⟨by rw [old k (by omega) (by omega)]; exact g4, by omega, v.len⟩, ⟨by omega, fun j hj => ?_⟩⟩
  rw [old j (by omega) (by omega), x4.2 j (by omega), x3.2 j (by omega)]; exact b1.2 j hj

theorem rest_ok (v : DV h x i) :
    ∃ k h', evCallT table 12 N (d + 2) 31 [.agg (dc x i)] h = some (.agg (dc ⟨x.ver, x.own, -1, 0, 0⟩ k), h') ∧ DV h' ⟨x.ver, x.own, -1, 0, 0⟩ k ∧ Ext h h' ∧ h.next ≤ k := by
  obtain ⟨b1, b2, b3, b4⟩ := boxes h (dc x i)
  have q1 : ((h.new (.cells (dc x i))).new (.cells dz)).read h.next 1 1 = some [.sl i 0 16 (.dy 1)] := read_cells b2 rfl
  have bx : AV.cells (.agg (dc x i)) = some (dc x i) := rfl
  have n1 : (h.new (.cells (dc x i))).next = h.next + 1 := rfl
  have v3 := v.ext b1
  obtain ⟨k, h4, e4, g4, k1, k2, x4⟩ := clone_ok (N := N) (d := d) v3.own v3.lt v3.len
  have h4n := x4.1
  obtain ⟨h5, w5, f5, o5, n5⟩ := wr (o := 1) (v := [.sl k 0 16 (.dy 1)]) (x4.at_ b2 (by omega)) (by simp [dc])
  obtain ⟨h6, w6, f6, o6, n6⟩ := wr (o := 2) (v := [.int .i64 (-1)]) f5 (by simp [dc])
  obtain ⟨h7, w7, f7, o7, n7⟩ := wr (o := 3) (v := [.int .i64 0]) f6 (by simp [dc])
  obtain ⟨h8, w8, f8, o8, n8⟩ := wr (o := 4) (v := [.int .i64 0]) f7 (by simp [dc])
  have f8' : h8.get h.next = some (.cells (dc ⟨x.ver, x.own, -1, 0, 0⟩ k)) := f8
  have g8 : h8.get (h.next + 1) = some (.cells dz) := by rw [o8 _ (by omega), o7 _ (by omega), o6 _ (by omega), o5 _ (by omega)]; exact x4.at_ b3 (by omega)
  obtain ⟨h9, w9, f9, o9, n9⟩ := wr (o := 0) (v := dc ⟨x.ver, x.own, -1, 0, 0⟩ k) g8 (by simp [dc, dz])
  have f9' : h9.get (h.next + 1) = some (.cells (dc ⟨x.ver, x.own, -1, 0, 0⟩ k)) := by rw [f9]; simp [dc, dz]
  have r8 : h8.read h.next 0 5 = some (dc ⟨x.ver, x.own, -1, 0, 0⟩ k) := rd5 f8'
  have r9 : h9.read (h.next + 1) 0 5 = some (dc ⟨x.ver, x.own, -1, 0, 0⟩ k) := rd5 f9'
  have old : ∀ j, j ≠ h.next → j ≠ h.next + 1 → h9.get j = h4.get j := fun j h1 h2 => by rw [o9 j h2, o8 j h1, o7 j h1, o6 j h1, o5 j h1]
  rw [evCallT_eq (F := ir31) rfl rfl rfl]
  unfold ir31
  rw [bodyK_eq]
  simp only [enter_eq, ev_seq, seqK_norm, seqK_exit, seqK_ret, ev_reg, ev_cond, condK_true, condK_false, ev_block, blockK_norm, blockK_ret, blockK_exit, ev_loop, ev_skip, ev_exit, ev_ret, regK_cons, regK_nil, guard_none, guard_some, regG_true, regG_false, regO_some, op_mov, op_conv, op_bin, op_bsl, op_box, op_mks, op_s2b, op_pick, op_un, op_eq, op_len, op_ext, op_load, op_iaddr, op_slice, op_b2s, op_idxS, op_mx, op_mn, op_call, op_store, op_app, op_copy, args_eq, result_one', rv_loc, finish_norm, finish_ret, outK_some, keep_true, keep_false, keep_nil, p_bin, p_pick, p_un, p_eq, p_conv, evNew, pureK_some, newK_some, X.eval, set_none, set_some, List.map_cons, List.map_nil, List.getD_cons_zero, List.getD_cons_succ, List.getD_nil, List.set_cons_zero, List.set_cons_succ, binCV, unCV, isShift, intArithF_eq, shiftF_eq, wrapF_eq, intArith, shift, eqVal, bound, asNat_cast, cond_true, cond_false, BEq.rfl, beq_self_eq_true, evalParts, fillParts, AV.cells, AV.ofCells, XV.av, AV.xv, List.length_cons, List.length_nil, zeros, patch, setMany, List.nil_append, List.cons_append, Nat.ble, Nat.add_eq, Nat.zero_add, Nat.add_zero, Nat.reduceAdd, Nat.reduceMul, Nat.reduceSub, Nat.ble_eq, Nat.reduceLeDiff, Nat.reduceBEq, Int.reduceBEq, Int.reduceNeg, Bool.and_true, Bool.and_false, Bool.true_and, Bool.false_and, Bool.not_true, Bool.not_false, Bool.true_eq_false, Bool.false_eq_true, Int.reduceLT, Int.reduceLE, Int.reduceGT, Int.reduceGE, decide_true, decide_false, Bool.not_eq_true, loopN_norm, loopN_exit, tf, ft, ff, bx, n1, p_load, AV.ofCells, op_faddr, p_faddr, q1, e4, evEff, dc_five, w5, w6, w7, w8, r8, w9, result, evResults, RV.eval, r9]
  refine ⟨k, _, rfl, ⟨by rw [old k (by omega) (by omega)]; exact g4, by omega, v.len⟩, ⟨by omega, fun j hj => ?_⟩, by omega⟩
  rw [old j (by omega) (by omega), x4.2 j (by omega)]; exact b1.2 j hj

theorem stop_ok (v : DV h x i) (o : OkD x 4) (hb : x.bk ≠ -1) (hN : 20 ≤ N) :
    ∃ k h', evCallT table 12 N (d + 3) 18 [.agg (dc x i)] h = some (.tup [.agg (dc ⟨x.ver, x.own, -1, 0, 0⟩ k), .c (.int .i64 0)], h') ∧ DV h' ⟨x.ver, x.own, -1, 0, 0⟩ k ∧ Ext h h' := by
  obtain ⟨b1, b2, b3, b4⟩ := boxes h (dc x i)
  obtain ⟨h3, e1, x3⟩ := mayall_ok (N := N) (d := d) (v.ext b1) o hN
  have q5 : ((h.new (.cells (dc x i))).new (.cells dz)).read h.next 0 5 = some (dc x i) := rd5 b2
  have g1 := x3.at_ b2 (by omega)
  have g2 := x3.at_ b3 (by omega)
  have q2 : h3.read h.next 2 1 = some [.int .i64 x.bk] := read_cells g1 rfl
  have q5' : h3.read h.next 0 5 = some (dc x i) := rd5 g1
  have p1 : (x.bk == -1) = false := by simp [hb]
  have bx : AV.cells (.agg (dc x i)) = some (dc x i) := rfl
  have n1 : (h.new (.cells (dc x i))).next = h.next + 1 := rfl
  have v3 := (v.ext b1).ext x3
  have h3n := x3.1
  obtain ⟨k, h4, e4, v4, x4, k1⟩ := rest_ok (N := N) (d := d) v3
  have h4n := x4.1
  obtain ⟨h9, w9, f9, o9, n9⟩ := wr (o := 0) (v := dc ⟨x.ver, x.own, -1, 0, 0⟩ k) (x4.at_ g2 (by omega)) (by simp [dc, dz])
  have f9' : h9.get (h.next + 1) = some (.cells (dc ⟨x.ver, x.own, -1, 0, 0⟩ k)) := by rw [f9]; simp [dc, dz]
  have r9 : h9.read (h.next + 1) 0 5 = some (dc ⟨x.ver, x.own, -1, 0, 0⟩ k) := rd5 f9'
  have by' : AV.cells (.agg (dc ⟨x.ver, x.own, -1, 0, 0⟩ k)) = some (dc ⟨x.ver, x.own, -1, 0, 0⟩ k) := rfl
  have lt := v4.lt
  rw [evCallT_eq (F := ir18) rfl rfl rfl]
  unfold ir18
  rw [bodyK_eq]
  simp only [enter_eq, ev_seq, seqK_norm, seqK_exit, seqK_ret, ev_reg, ev_cond, condK_true, condK_false, ev_block, blockK_norm, blockK_ret, blockK_exit, ev_loop, ev_skip, ev_exit, ev_ret, regK_cons, regK_nil, guard_none, guard_some, regG_true, regG_false, regO_some, op_mov, op_conv, op_bin, op_bsl, op_box, op_mks, op_s2b, op_pick, op_un, op_eq, op_len, op_ext, op_load, op_iaddr, op_slice, op_b2s, op_idxS, op_mx, op_mn, op_call, op_store, op_app, op_copy, args_eq, result_one', rv_loc, finish_norm, finish_ret, outK_some, keep_true, keep_false, keep_nil, p_bin, p_pick, p_un, p_eq, p_conv, evNew, pureK_some, newK_some, X.eval, set_none, set_some, List.map_cons, List.map_nil, List.getD_cons_zero, List.getD_cons_succ, List.getD_nil, List.set_cons_zero, List.set_cons_succ, binCV, unCV, isShift, intArithF_eq, shiftF_eq, wrapF_eq, intArith, shift, eqVal, bound, asNat_cast, cond_true, cond_false, BEq.rfl, beq_self_eq_true, evalParts, fillParts, AV.cells, AV.ofCells, XV.av, AV.xv, List.length_cons, List.length_nil, zeros, patch, setMany, List.nil_append, List.cons_append, Nat.ble, Nat.add_eq, Nat.zero_add, Nat.add_zero, Nat.reduceAdd, Nat.reduceMul, Nat.reduceSub, Nat.ble_eq, Nat.reduceLeDiff, Nat.reduceBEq, Int.reduceBEq, Int.reduceNeg, Bool.and_true, Bool.and_false, Bool.true_and, Bool.false_and, Bool.not_true, Bool.not_false, Bool.true_eq_false, Bool.false_eq_true, Int.reduceLT, Int.reduceLE, Int.reduceGT, Int.reduceGE, decide_true, decide_false, Bool.not_eq_true, loopN_norm, loopN_exit, tf, ft, ff, bx, n1, p_load, q5, AV.ofCells, e1, op_faddr, p_faddr, q2, p1, q5', e4, evEff, dc_five, w9, result, evResults, RV.eval, r9]
  refine ⟨k, _, rfl, ⟨by rw [o9 k (by omega)]; exact v4.own, by omega, v.len⟩, ⟨by omega, fun j hj => ?_⟩⟩
  rw [o9 j (by omega), x4.2 j (by omega), x3.2 j (by omega)]; exact b1.2 j hj

theorem stop_no (v : DV h x i) (o : OkD x 4) (hb : x.bk = -1) (hN : 20 ≤ N) :
    ∃ h', evCallT table 12 N (d + 3) 18 [.agg (dc x i)] h = some (.tup [.agg (dc x i), .c (.int .i64 12)], h') ∧ DV h' x i ∧ Ext h h' := by
  obtain ⟨b1, b2, b3, b4⟩ := boxes h (dc x i)
  obtain ⟨h3, e1, x3⟩ := mayall_ok (N := N) (d := d) (v.ext b1) o hN
  obtain ⟨r5, h4, w4, r4, v4, x4⟩ := told_as v x3
  have q5 : ((h.new (.cells (dc x i))).new (.cells dz)).read h.next 0 5 = some (dc x i) := rd5 b2
  have q2 : h3.read h.next 2 1 = some [.int .i64 x.bk] := read_cells (x3.at_ b2 (by omega)) rfl
  have p1 : (x.bk == -1) = true := by simp [hb]
  have bx : AV.cells (.agg (dc x i)) = some (dc x i) := rfl
  have n1 : (h.new (.cells (dc x i))).next = h.next + 1 := rfl
  rw [evCallT_eq (F := ir18) rfl rfl rfl]
  unfold ir18
  rw [bodyK_eq]
  simp only [enter_eq, ev_seq, seqK_norm, seqK_exit, seqK_ret, ev_reg, ev_cond, condK_true, condK_false, ev_block, blockK_norm, blockK_ret, blockK_exit, ev_loop, ev_skip, ev_exit, ev_ret, regK_cons, regK_nil, guard_none, guard_some, regG_true, regG_false, regO_some, op_mov, op_conv, op_bin, op_bsl, op_box, op_mks, op_s2b, op_pick, op_un, op_eq, op_len, op_ext, op_load, op_iaddr, op_slice, op_b2s, op_idxS, op_mx, op_mn, op_call, op_store, op_app, op_copy, args_eq, result_one', rv_loc, finish_norm, finish_ret, outK_some, keep_true, keep_false, keep_nil, p_bin, p_pick, p_un, p_eq, p_conv, evNew, pureK_some, newK_some, X.eval, set_none, set_some, List.map_cons, List.map_nil, List.getD_cons_zero, List.getD_cons_succ, List.getD_nil, List.set_cons_zero, List.set_cons_succ, binCV, unCV, isShift, intArithF_eq, shiftF_eq, wrapF_eq, intArith, shift, eqVal, bound, asNat_cast, cond_true, cond_false, BEq.rfl, beq_self_eq_true, evalParts, fillParts, AV.cells, AV.ofCells, XV.av, AV.xv, List.length_cons, List.length_nil, zeros, patch, setMany, List.nil_append, List.cons_append, Nat.ble, Nat.add_eq, Nat.zero_add, Nat.add_zero, Nat.reduceAdd, Nat.reduceMul, Nat.reduceSub, Nat.ble_eq, Nat.reduceLeDiff, Nat.reduceBEq, Int.reduceBEq, Int.reduceNeg, Bool.and_true, Bool.and_false, Bool.true_and, Bool.false_and, Bool.not_true, Bool.not_false, Bool.true_eq_false, Bool.false_eq_true, Int.reduceLT, Int.reduceLE, Int.reduceGT, Int.reduceGE, decide_true, decide_false, Bool.not_eq_true, loopN_norm, loopN_exit, tf, ft, ff, bx, n1, p_load, q5, AV.ofCells, e1, op_faddr, p_faddr, q2, p1, r5, evEff, dc_five, w4, result, evResults, RV.eval, r4]
  exact ⟨_, rfl, v4, x4⟩
theorem switch_ok (v : DV h x i) (o : OkD x 4) (hp : x.ph = 2) {b : Nat} (hb : x.bk = (b : Int)) (hb16 : b < 16) (hN : 20 ≤ N) :
    ∃ k h', evCallT table 12 N (d + 3) 15 [.agg (dc x i)] h = some (.tup [.agg (dc ⟨x.ver + 1, x.own.set b x.to, -1, 0, 0⟩ k), .c (.int .i64 0)], h') ∧ DV h' ⟨x.ver + 1, x.own.set b x.to, -1, 0, 0⟩ k ∧ Ext h h' := by
  have bneI : ∀ {a b : Int}, (a != b) = !(a == b) := rfl
  obtain ⟨b1, b2, b3, b4⟩ := boxes h (dc x i)
  obtain ⟨h3, e1, x3⟩ := mayall_ok (N := N) (d := d) (v.ext b1) o hN
  have q5 : ((h.new (.cells (dc x i))).new (.cells dz)).read h.next 0 5 = some (dc x i) := rd5 b2
  have g1 := x3.at_ b2 (by omega)
  have g2 := x3.at_ b3 (by omega)
  have q4 : h3.read h.next 4 1 = some [.int .i64 x.ph] := read_cells g1 rfl
  have q0 : h3.read h.next 0 1 = some [.int .i64 x.ver] := read_cells g1 rfl
  have q5' : h3.read h.next 0 5 = some (dc x i) := rd5 g1
  have o1 := o.v1
  have o2 := o.v2
  have p1 : (x.ph == 2) = true := by simp [hp]
  have p2 : (x.ver == 1073741824) = false := by simp only [beq_eq_false_iff_ne, ne_eq]; omega
  have bx : AV.cells (.agg (dc x i)) = some (dc x i) := rfl
  have n1 : (h.new (.cells (dc x i))).next = h.next + 1 := rfl
  have v3 := (v.ext b1).ext x3
  have h3n := x3.1
  obtain ⟨k, h4, e4, v4, x4, k1⟩ := rest_ok (N := N) (d := d) v3
  have h4n := x4.1
  have lt := v4.lt
  have g5 : (h4.new (.cells dz)).get h4.next = some (.cells dz) := get_new_at
  obtain ⟨h6, w6, f6, o6, n6⟩ := wr (o := 0) (v := dc ⟨x.ver, x.own, -1, 0, 0⟩ k) g5 (by simp [dc, dz])
  have f6' : h6.get h4.next = some (.cells (dc ⟨x.ver, x.own, -1, 0, 0⟩ k)) := by rw [f6]; simp [dc, dz]
  rw [next_new] at n6
  have q6 : h6.read h4.next 0 1 = some [.int .i64 x.ver] := read_cells f6' rfl
  obtain ⟨h7, w7, f7, o7, n7⟩ := wr (o := 0) (v := [.int .i64 (x.ver + 1)]) f6' (by simp [dc])
  have f7' : h7.get h4.next = some (.cells (dc ⟨x.ver + 1, x.own, -1, 0, 0⟩ k)) := f7
  have q7 : h7.read h4.next 1 1 = some [.sl k 0 16 (.dy 1)] := read_cells f7' rfl
  have old7 : ∀ j, j < h4.next → h7.get j = h4.get j := fun j hj => by rw [o7 j (by omega), o6 j (by omega), get_new_old hj]
  have g17 : h7.get h.next = some (.cells (dc x i)) := by rw [old7 _ (by omega)]; exact x4.at_ g1 (by omega)
  have r72 : h7.read h.next 2 1 = some [.int .i64 (b : Int)] := by rw [← hb]; exact read_cells g17 rfl
  have r73 : h7.read h.next 3 1 = some [.int .i64 x.to] := read_cells g17 rfl
  have gk : h7.get k = some (.cells (x.own.map icell)) := by rw [old7 k (by omega)]; exact v4.own
  have w8 := write_one (o := b) (v := icell x.to) gk (by simp [v.len]; exact hb16)
  rw [← List.map_set] at w8
  obtain ⟨h8, e8⟩ : ∃ h8, h8 = h7.put k (.cells ((x.own.set b x.to).map icell)) := ⟨_, rfl⟩
  rw [← e8] at w8
  simp only [icell] at w8
  have o8 : ∀ j, j ≠ k → h8.get j = h7.get j := fun j hj => by rw [e8, get_put_ne hj]
  have n8 : h8.next = h7.next := by rw [e8]; rfl
  have gk8 : h8.get k = some (.cells ((x.own.set b x.to).map icell)) := by rw [e8]; exact get_put_at
  have f8 : h8.get h4.next = some (.cells (dc ⟨x.ver + 1, x.own, -1, 0, 0⟩ k)) := by rw [o8 _ (by omega)]; exact f7'
  have r8 : h8.read h4.next 0 5 = some (dc ⟨x.ver + 1, x.own.set b x.to, -1, 0, 0⟩ k) := rd5 f8
  have g8 : h8.get (h.next + 1) = some (.cells dz) := by rw [o8 _ (by omega), old7 _ (by omega)]; exact x4.at_ g2 (by omega)
  obtain ⟨h9, w9, f9, o9, n9⟩ := wr (o := 0) (v := dc ⟨x.ver + 1, x.own.set b x.to, -1, 0, 0⟩ k) g8 (by simp [dc, dz])
  have f9' : h9.get (h.next + 1) = some (.cells (dc ⟨x.ver + 1, x.own.set b x.to, -1, 0, 0⟩ k)) := by rw [f9]; simp [dc, dz]
  have r9 : h9.read (h.next + 1) 0 5 = some (dc ⟨x.ver + 1, x.own.set b x.to, -1, 0, 0⟩ k) := rd5 f9'
  have u1 : IntKind.i64.wrap (x.ver + 1) = x.ver + 1 := wrapI (by omega) (by omega)
  have m1 : Nat.blt b 16 = true := bltT hb16
  rw [evCallT_eq (F := ir15) rfl rfl rfl]
  unfold ir15
  rw [bodyK_eq]
  simp only [enter_eq, ev_seq, seqK_norm, seqK_exit, seqK_ret, ev_reg, ev_cond, condK_true, condK_false, ev_block, blockK_norm, blockK_ret, blockK_exit, ev_loop, ev_skip, ev_exit, ev_ret, regK_cons, regK_nil, guard_none, guard_some, regG_true, regG_false, regO_some, op_mov, op_conv, op_bin, op_bsl, op_box, op_mks, op_s2b, op_pick, op_un, op_eq, op_len, op_ext, op_load, op_iaddr, op_slice, op_b2s, op_idxS, op_mx, op_mn, op_call, op_store, op_app, op_copy, args_eq, result_one', rv_loc, finish_norm, finish_ret, outK_some, keep_true, keep_false, keep_nil, p_bin, p_pick, p_un, p_eq, p_conv, evNew, pureK_some, newK_some, X.eval, set_none, set_some, List.map_cons, List.map_nil, List.getD_cons_zero, List.getD_cons_succ, List.getD_nil, List.set_cons_zero, List.set_cons_succ, binCV, unCV, isShift, intArithF_eq, shiftF_eq, wrapF_eq, intArith, shift, eqVal, bound, asNat_cast, cond_true, cond_false, BEq.rfl, beq_self_eq_true, evalParts, fillParts, AV.cells, AV.ofCells, XV.av, AV.xv, List.length_cons, List.length_nil, zeros, patch, setMany, List.nil_append, List.cons_append, Nat.ble, Nat.add_eq, Nat.zero_add, Nat.add_zero, Nat.reduceAdd, Nat.reduceMul, Nat.reduceSub, Nat.ble_eq, Nat.reduceLeDiff, Nat.reduceBEq, Int.reduceBEq, Int.reduceNeg, Bool.and_true, Bool.and_false, Bool.true_and, Bool.false_and, Bool.not_true, Bool.not_false, Bool.true_eq_false, Bool.false_eq_true, Int.reduceLT, Int.reduceLE, Int.reduceGT, Int.reduceGE, decide_true, decide_false, Bool.not_eq_true, loopN_norm, loopN_exit, tf, ft, ff, bx, n1, p_load, q5, AV.ofCells, e1, op_faddr, p_faddr, p_iaddr, q4, q0, bneI, p1, p2, q5', e4, evEff, dc_five, w6, q6, u1, w7, q7, r72, r73, m1, Nat.mul_one, w8, r8, w9, result, evResults, RV.eval, r9]
  refine ⟨k, _, rfl, ⟨by rw [o9 k (by omega)]; exact gk8, by omega, by simp [v.len]⟩, ⟨by omega, fun j hj => ?_⟩⟩
  rw [o9 j (by omega), o8 j (by omega), old7 j (by omega), x4.2 j (by omega), x3.2 j (by omega)]; exact b1.2 j hj

theorem equal_ok {i j : Nat} {o : List Int} (hi : h.get i = some (.cells (o.map icell))) (hj : h.get j = some (.cells (o.map icell))) (hl : o.length = 16) (hN : 20 ≤ N) :
    evCallT table 12 N (d + 1) 32 [.c (.sl i 0 16 (.dy 1)), .c (.sl j 0 16 (.dy 1))] h = some (.c (.bool true), h) := by
  have bneI : ∀ {a b : Int}, (a != b) = !(a == b) := rfl
  have l1 : ∀ loc vals h', evPure loc (.c (.sl i 0 16 (.dy 1)) :: vals) h' (.len .sl (.val 0)) = some (.c (.int .i64 16)) := fun _ _ _ => rfl
  have l2 : ∀ loc vals h', evPure loc (.c (.sl j 0 16 (.dy 1)) :: vals) h' (.len .sl (.val 0)) = some (.c (.int .i64 16)) := fun _ _ _ => rfl
  rw [evCallT_eq (F := ir32) rfl rfl rfl]
  unfold ir32
  rw [bodyK_eq]
  have L : ∀ loc, keepOnly ir32_k0 loc = [.c (.sl i 0 16 (.dy 1)), .c (.sl j 0 16 (.dy 1)), .junk, .junk, .junk, .c (.int .i64 16), .c (.int .i64 0), .junk, .junk] →
      ∃ r, loopK (evCallT table 12 N d) N ir32_k0 ir32_l0 N loc h = some r ∧ ∃ a0 a1 a2 l, r = (.exit 0, a0 :: a1 :: a2 :: l, h) := by
    intro loc hloc
    refine loop_inv (n := 16) (fun k loc h' => h' = h ∧ loc = [.c (.sl i 0 16 (.dy 1)), .c (.sl j 0 16 (.dy 1)), .junk, .junk, .junk, .c (.int .i64 16), .c (.int .i64 (k : Int)), .junk, .junk]) _ ?_ ⟨rfl, hloc⟩ (by omega)
    rintro k loc h' hk ⟨rfl, rfl⟩
    unfold ir32_l0
    by_cases hlt : k < 16
    · left
      refine ⟨hlt, ?_⟩
      have w1 : decide ((k : Int) < 16) = true := decide_eq_true (by omega)
      have w2 := succI (i := k) (by omega)
      have m1 : Nat.blt k 16 = true := bltT hlt
      have k1 : h'.read i k 1 = some [.int .i64 (o[k]'(by omega))] := read_cells hi (by simp [hl, hlt, icell])
      have k2 : h'.read j k 1 = some [.int .i64 (o[k]'(by omega))] := read_cells hj (by simp [hl, hlt, icell])
      simp only [enter_eq, ev_seq, seqK_norm, seqK_exit, seqK_ret, ev_reg, ev_cond, condK_true, condK_false, ev_block, blockK_norm, blockK_ret, blockK_exit, ev_loop, ev_skip, ev_exit, ev_ret, regK_cons, regK_nil, guard_none, guard_some, regG_true, regG_false, regO_some, op_mov, op_conv, op_bin, op_bsl, op_box, op_mks, op_s2b, op_pick, op_un, op_eq, op_len, op_ext, op_load, op_iaddr, op_slice, op_b2s, op_idxS, op_mx, op_mn, op_call, op_store, op_app, op_copy, args_eq, result_one', rv_loc, finish_norm, finish_ret, outK_some, keep_true, keep_false, keep_nil, p_bin, p_pick, p_un, p_eq, p_conv, evNew, pureK_some, newK_some, X.eval, set_none, set_some, List.map_cons, List.map_nil, List.getD_cons_zero, List.getD_cons_succ, List.getD_nil, List.set_cons_zero, List.set_cons_succ, binCV, unCV, isShift, intArithF_eq, shiftF_eq, wrapF_eq, intArith, shift, eqVal, bound, asNat_cast, cond_true, cond_false, BEq.rfl, beq_self_eq_true, evalParts, fillParts, AV.cells, AV.ofCells, XV.av, AV.xv, List.length_cons, List.length_nil, zeros, patch, setMany, List.nil_append, List.cons_append, Nat.ble, Nat.add_eq, Nat.zero_add, Nat.add_zero, Nat.reduceAdd, Nat.reduceMul, Nat.reduceSub, Nat.ble_eq, Nat.reduceLeDiff, Nat.reduceBEq, Int.reduceBEq, Int.reduceNeg, Bool.and_true, Bool.and_false, Bool.true_and, Bool.false_and, Bool.not_true, Bool.not_false, Bool.true_eq_false, Bool.false_eq_true, Int.reduceLT, Int.reduceLE, Int.reduceGT, Int.reduceGE, decide_true, decide_false, Bool.not_eq_true, loopN_norm, loopN_exit, tf, ft, ff, ev_dreg, dregK_nil, dregK_cons, dregE_true, dregP_some, dregX_some, d_mov, d_bin, d_eq, d_pick, d_un, d_conv, d_b2s, d_len, d_load, d_iaddr, d_slice, d_ext, d_call, d_store, chk_done, chk_none, chk_some, chkG_true, chkG_false, chkOne_nil, chkOne_cons, chkH_some, chkV_same, stage_none, stage_some, look_hit, look_miss, news_nil, wb_cons, wb_nil, skip0, List.reverse_cons, List.reverse_nil, bneI, w1, w2, p_iaddr, p_load, m1, Nat.mul_one, k1, k2, AV.ofCells]
      exact ⟨_, _, rfl, rfl, rfl⟩
    · right
      have hk16 : k = 16 := by omega
      subst hk16
      simp only [enter_eq, ev_seq, seqK_norm, seqK_exit, seqK_ret, ev_reg, ev_cond, condK_true, condK_false, ev_block, blockK_norm, blockK_ret, blockK_exit, ev_loop, ev_skip, ev_exit, ev_ret, regK_cons, regK_nil, guard_none, guard_some, regG_true, regG_false, regO_some, op_mov, op_conv, op_bin, op_bsl, op_box, op_mks, op_s2b, op_pick, op_un, op_eq, op_len, op_ext, op_load, op_iaddr, op_slice, op_b2s, op_idxS, op_mx, op_mn, op_call, op_store, op_app, op_copy, args_eq, result_one', rv_loc, finish_norm, finish_ret, outK_some, keep_true, keep_false, keep_nil, p_bin, p_pick, p_un, p_eq, p_conv, evNew, pureK_some, newK_some, X.eval, set_none, set_some, List.map_cons, List.map_nil, List.getD_cons_zero, List.getD_cons_succ, List.getD_nil, List.set_cons_zero, List.set_cons_succ, binCV, unCV, isShift, intArithF_eq, shiftF_eq, wrapF_eq, intArith, shift, eqVal, bound, asNat_cast, cond_true, cond_false, BEq.rfl, beq_self_eq_true, evalParts, fillParts, AV.cells, AV.ofCells, XV.av, AV.xv, List.length_cons, List.length_nil, zeros, patch, setMany, List.nil_append, List.cons_append, Nat.ble, Nat.add_eq, Nat.zero_add, Nat.add_zero, Nat.reduceAdd, Nat.reduceMul, Nat.reduceSub, Nat.ble_eq, Nat.reduceLeDiff, Nat.reduceBEq, Int.reduceBEq, Int.reduceNeg, Bool.and_true, Bool.and_false, Bool.true_and, Bool.false_and, Bool.not_true, Bool.not_false, Bool.true_eq_false, Bool.false_eq_true, Int.reduceLT, Int.reduceLE, Int.reduceGT, Int.reduceGE, decide_true, decide_false, Bool.not_eq_true, loopN_norm, loopN_exit, tf, ft, ff]
      exact ⟨_, rfl, by simp, _, _, _, _, rfl⟩
  obtain ⟨r, hr, a0, a1, a2, l, rfl⟩ := L [.c (.sl i 0 16 (.dy 1)), .c (.sl j 0 16 (.dy 1)), .c (.bool false), .tup [], .c (.bool false), .c (.int .i64 16), .c (.int .i64 0), .tup [], .tup []] rfl
  simp only [enter_eq, ev_seq, seqK_norm, seqK_exit, seqK_ret, ev_reg, ev_cond, condK_true, condK_false, ev_block, blockK_norm, blockK_ret, blockK_exit, ev_loop, ev_skip, ev_exit, ev_ret, regK_cons, regK_nil, guard_none, guard_some, regG_true, regG_false, regO_some, op_mov, op_conv, op_bin, op_bsl, op_box, op_mks, op_s2b, op_pick, op_un, op_eq, op_len, op_ext, op_load, op_iaddr, op_slice, op_b2s, op_idxS, op_mx, op_mn, op_call, op_store, op_app, op_copy, args_eq, result_one', rv_loc, finish_norm, finish_ret, outK_some, keep_true, keep_false, keep_nil, p_bin, p_pick, p_un, p_eq, p_conv, evNew, pureK_some, newK_some, X.eval, set_none, set_some, List.map_cons, List.map_nil, List.getD_cons_zero, List.getD_cons_succ, List.getD_nil, List.set_cons_zero, List.set_cons_succ, binCV, unCV, isShift, intArithF_eq, shiftF_eq, wrapF_eq, intArith, shift, eqVal, bound, asNat_cast, cond_true, cond_false, BEq.rfl, beq_self_eq_true, evalParts, fillParts, AV.cells, AV.ofCells, XV.av, AV.xv, List.length_cons, List.length_nil, zeros, patch, setMany, List.nil_append, List.cons_append, Nat.ble, Nat.add_eq, Nat.zero_add, Nat.add_zero, Nat.reduceAdd, Nat.reduceMul, Nat.reduceSub, Nat.ble_eq, Nat.reduceLeDiff, Nat.reduceBEq, Int.reduceBEq, Int.reduceNeg, Bool.and_true, Bool.and_false, Bool.true_and, Bool.false_and, Bool.not_true, Bool.not_false, Bool.true_eq_false, Bool.false_eq_true, Int.reduceLT, Int.reduceLE, Int.reduceGT, Int.reduceGE, decide_true, decide_false, Bool.not_eq_true, loopN_norm, loopN_exit, tf, ft, ff, bneI, l1, l2, hr, blockK_exit_eq]

theorem same_ok {j : Nat} (v : DV h x i) (w : DV h x j) (hN : 20 ≤ N) : ∃ h', evCallT table 12 N (d + 2) 16 [.agg (dc x i), .agg (dc x j)] h = some (.c (.bool true), h') ∧ Ext h h' := by
  have x1 : Ext h ((h.new (.cells (dc x i))).new (.cells (dc x j))) := ((Ext.refl _).new _).new _
  have g1 : ((h.new (.cells (dc x i))).new (.cells (dc x j))).get h.next = some (.cells (dc x i)) := (get_new_old (h := h.new (.cells (dc x i))) (Nat.lt_succ_self _)).trans get_new_at
  have g2 : ((h.new (.cells (dc x i))).new (.cells (dc x j))).get (h.next + 1) = some (.cells (dc x j)) := get_new_at (h := h.new (.cells (dc x i)))
  have n1 : (h.new (.cells (dc x i))).next = h.next + 1 := rfl
  obtain ⟨H, hH⟩ : ∃ H, H = (h.new (.cells (dc x i))).new (.cells (dc x j)) := ⟨_, rfl⟩
  rw [← hH] at g1 g2 x1
  have e1 := equal_ok (N := N) (d := d) (v.ext x1).own (w.ext x1).own v.len hN
  have bi : AV.cells (.agg (dc x i)) = some (dc x i) := rfl
  have bj : AV.cells (.agg (dc x j)) = some (dc x j) := rfl
  have a0 : H.read h.next 0 1 = some [.int .i64 x.ver] := read_cells g1 rfl
  have a1 : H.read h.next 1 1 = some [.sl i 0 16 (.dy 1)] := read_cells g1 rfl
  have a2 : H.read h.next 2 1 = some [.int .i64 x.bk] := read_cells g1 rfl
  have a3 : H.read h.next 3 1 = some [.int .i64 x.to] := read_cells g1 rfl
  have a4 : H.read h.next 4 1 = some [.int .i64 x.ph] := read_cells g1 rfl
  have c0 : H.read (h.next + 1) 0 1 = some [.int .i64 x.ver] := read_cells g2 rfl
  have c1 : H.read (h.next + 1) 1 1 = some [.sl j 0 16 (.dy 1)] := read_cells g2 rfl
  have c2 : H.read (h.next + 1) 2 1 = some [.int .i64 x.bk] := read_cells g2 rfl
  have c3 : H.read (h.next + 1) 3 1 = some [.int .i64 x.to] := read_cells g2 rfl
  have c4 : H.read (h.next + 1) 4 1 = some [.int .i64 x.ph] := read_cells g2 rfl
  rw [evCallT_eq (F := ir16) rfl rfl rfl]
  unfold ir16
  rw [bodyK_eq]
  simp only [enter_eq, ev_seq, seqK_norm, seqK_exit, seqK_ret, ev_reg, ev_cond, condK_true, condK_false, ev_block, blockK_norm, blockK_ret, blockK_exit, ev_loop, ev_skip, ev_exit, ev_ret, regK_cons, regK_nil, guard_none, guard_some, regG_true, regG_false, regO_some, op_mov, op_conv, op_bin, op_bsl, op_box, op_mks, op_s2b, op_pick, op_un, op_eq, op_len, op_ext, op_load, op_iaddr, op_slice, op_b2s, op_idxS, op_mx, op_mn, op_call, op_store, op_app, op_copy, args_eq, result_one', rv_loc, finish_norm, finish_ret, outK_some, keep_true, keep_false, keep_nil, p_bin, p_pick, p_un, p_eq, p_conv, evNew, pureK_some, newK_some, X.eval, set_none, set_some, List.map_cons, List.map_nil, List.getD_cons_zero, List.getD_cons_succ, List.getD_nil, List.set_cons_zero, List.set_cons_succ, binCV, unCV, isShift, intArithF_eq, shiftF_eq, wrapF_eq, intArith, shift, eqVal, bound, asNat_cast, cond_true, cond_false, BEq.rfl, beq_self_eq_true, evalParts, fillParts, AV.cells, AV.ofCells, XV.av, AV.xv, List.length_cons, List.length_nil, zeros, patch, setMany, List.nil_append, List.cons_append, Nat.ble, Nat.add_eq, Nat.zero_add, Nat.add_zero, Nat.reduceAdd, Nat.reduceMul, Nat.reduceSub, Nat.ble_eq, Nat.reduceLeDiff, Nat.reduceBEq, Int.reduceBEq, Int.reduceNeg, Bool.and_true, Bool.and_false, Bool.true_and, Bool.false_and, Bool.not_true, Bool.not_false, Bool.true_eq_false, Bool.false_eq_true, Int.reduceLT, Int.reduceLE, Int.reduceGT, Int.reduceGE, decide_true, decide_false, Bool.not_eq_true, loopN_norm, loopN_exit, tf, ft, ff, bi, bj, n1, ← hH, op_faddr, p_faddr, p_load, a0, a1, a2, a3, a4, c0, c1, c2, c3, c4, AV.ofCells, e1]
  exact ⟨_, rfl, x1⟩

/-- A new directory's owners. -/
def ownN (n i : Nat) : List Int := (List.range i).map fun j => ((j % n : Nat) : Int)
theorem ownN_len (n i : Nat) : (ownN n i).length = i := by simp [ownN]
theorem ownN_succ (n i : Nat) : ownN n i ++ [((i % n : Nat) : Int)] = ownN n (i + 1) := by unfold ownN; rw [List.range_succ, List.map_append]; rfl

theorem new_ok {n : Nat} (h1 : 1 ≤ n) (h4 : n ≤ 4) (hN : 20 ≤ N) : ∃ k h', evCallT table 12 N (d + 1) 11 [.c (.int .i64 (n : Int))] h = some (.agg (dc ⟨1, ownN n 16, -1, 0, 0⟩ k), h') ∧ DV h' ⟨1, ownN n 16, -1, 0, 0⟩ k ∧ Ext h h' := by
  have c1 : decide ((n : Int) < 1) = false := decide_eq_false (by omega)
  have c2 : decide ((n : Int) > 4) = false := decide_eq_false (by omega)
  obtain ⟨b1, b2, b3, b4⟩ := boxes h dz
  obtain ⟨h2, w2, f2, o2, n2⟩ := wr (o := 0) (v := [.int .i64 1, .nils, .int .i64 (-1), .int .i64 0, .int .i64 0]) b3 (by simp [dz])
  have f2' : h2.get (h.next + 1) = some (.cells [.int .i64 1, .nils, .int .i64 (-1), .int .i64 0, .int .i64 0]) := by rw [f2]; simp [dz]
  have e2 : h2.get h.next = some (.cells dz) := by rw [o2 _ (by omega)]; exact b2
  have x2 : Ext h h2 := ⟨by omega, fun k hk => by rw [o2 k (by omega)]; exact b1.2 k hk⟩
  have n1 : (h.new (.cells dz)).next = h.next + 1 := rfl
  rw [b4] at n2
  rw [evCallT_eq (F := ir11) rfl rfl rfl]
  unfold ir11
  rw [bodyK_eq]
  have L : ∀ loc, keepOnly ir11_k0 loc = [.c (.int .i64 (n : Int)), .c (.ptr h.next 0), .c (.ptr (h.next + 1) 0), .junk, .junk, .c (.int .i64 0), .junk] →
      ∃ r, loopK (evCallT table 12 N d) N ir11_k0 ir11_l0 N loc h2 = some r ∧ ∃ y a0 l h', r = (.exit 0, a0 :: .c (.ptr h.next 0) :: .c (.ptr (h.next + 1) 0) :: l, h') ∧ Mine 1 h2 h' y 16 ((ownN n 16).map icell) ∧ h'.get (h.next + 1) = some (.cells [.int .i64 1, y, .int .i64 (-1), .int .i64 0, .int .i64 0]) ∧ h'.get h.next = some (.cells dz) ∧ Ext h h' := by
    intro loc hloc
    refine loop_inv (n := 16) (fun k loc h' => ∃ y, Mine 1 h2 h' y k ((ownN n k).map icell) ∧ h'.get (h.next + 1) = some (.cells [.int .i64 1, y, .int .i64 (-1), .int .i64 0, .int .i64 0]) ∧ h'.get h.next = some (.cells dz) ∧ Ext h h' ∧ h2.next ≤ h'.next ∧ loc = [.c (.int .i64 (n : Int)), .c (.ptr h.next 0), .c (.ptr (h.next + 1) 0), .junk, .junk, .c (.int .i64 (k : Int)), .junk]) _ ?_ ⟨.nils, Mine.nil, f2', e2, x2, Nat.le_refl _, hloc⟩ (by omega)
    rintro k loc h' hk ⟨y, my, g1, g0, he, hle, rfl⟩
    unfold ir11_l0
    by_cases hlt : k < 16
    · left
      refine ⟨hlt, ?_⟩
      have w1 : decide ((k : Int) < 16) = true := decide_eq_true (by omega)
      have w3 := succI (i := k) (by omega)
      have w4 : Int.tmod (k : Int) (n : Int) = ((k % n : Nat) : Int) := by rw [Int.tmod_eq_emod_of_nonneg (by omega)]; omega
      have w5 : ((n : Int) == 0) = false := by simp only [beq_eq_false_iff_ne, ne_eq]; omega
      have r1 : ∀ {H : Heap}, Ext h' H → H.read (h.next + 1) 1 1 = some [y] := fun {H} e => read_cells (e.at_ g1 (by omega)) rfl
      have e0 : Ext h' (h'.skip 1) := (Ext.refl _).skip 1
      have e1 : Ext h' ((h'.skip 1).put h'.next (.cells [.int .i64 ((k % n : Nat) : Int)])) := e0.put (Nat.le_refl _) _
      have hs : source ((h'.skip 1).put h'.next (.cells [.int .i64 ((k % n : Nat) : Int)])) 1 (.c (.sl h'.next 0 1 (.ex 1))) = some (0 + 1, [icell ((k % n : Nat) : Int)]) := source_new (n := 0 + 1) get_put_at rfl
      have nn : ((h'.skip 1).put h'.next (.cells [.int .i64 ((k % n : Nat) : Int)])).next = h'.next + 1 := rfl
      obtain ⟨H, a1, a2, a3, a4⟩ := app_mine (m := 0) (my.keep e1.1 fun j hj _ => e1.2 j hj) (by rw [nn]; omega) hs rfl (by omega)
      rw [nn] at a1 a2 a3 a4
      have yy := my.young
      have gH : ∀ j, j < h'.next → j < h2.next → H.get j = h'.get j := fun j hj hj2 => by rw [a4 j (by omega) (fun e => by have := yy j e; omega), e1.2 j hj]
      have gp : H.get (h.next + 1) = some (.cells [.int .i64 1, y, .int .i64 (-1), .int .i64 0, .int .i64 0]) := (gH _ (by omega) (by omega)).trans g1
      have W := write_one (o := 1) (v := .sl (h'.next + 1) 0 (k + (0 + 1)) (.dy 1)) gp (by simp)
      simp only [enter_eq, ev_seq, seqK_norm, seqK_exit, seqK_ret, ev_reg, ev_cond, condK_true, condK_false, ev_block, blockK_norm, blockK_ret, blockK_exit, ev_loop, ev_skip, ev_exit, ev_ret, regK_cons, regK_nil, guard_none, guard_some, regG_true, regG_false, regO_some, op_mov, op_conv, op_bin, op_bsl, op_box, op_mks, op_s2b, op_pick, op_un, op_eq, op_len, op_ext, op_load, op_iaddr, op_slice, op_b2s, op_idxS, op_mx, op_mn, op_call, op_store, op_app, op_copy, args_eq, result_one', rv_loc, finish_norm, finish_ret, outK_some, keep_true, keep_false, keep_nil, p_bin, p_pick, p_un, p_eq, p_conv, evNew, pureK_some, newK_some, X.eval, set_none, set_some, List.map_cons, List.map_nil, List.getD_cons_zero, List.getD_cons_succ, List.getD_nil, List.set_cons_zero, List.set_cons_succ, binCV, unCV, isShift, intArithF_eq, shiftF_eq, wrapF_eq, intArith, shift, eqVal, bound, asNat_cast, cond_true, cond_false, BEq.rfl, beq_self_eq_true, evalParts, fillParts, AV.cells, AV.ofCells, XV.av, AV.xv, List.length_cons, List.length_nil, zeros, patch, setMany, List.nil_append, List.cons_append, Nat.ble, Nat.add_eq, Nat.zero_add, Nat.add_zero, Nat.reduceAdd, Nat.reduceMul, Nat.reduceSub, Nat.ble_eq, Nat.reduceLeDiff, Nat.reduceBEq, Int.reduceBEq, Int.reduceNeg, Bool.and_true, Bool.and_false, Bool.true_and, Bool.false_and, Bool.not_true, Bool.not_false, Bool.true_eq_false, Bool.false_eq_true, Int.reduceLT, Int.reduceLE, Int.reduceGT, Int.reduceGE, decide_true, decide_false, Bool.not_eq_true, loopN_norm, loopN_exit, tf, ft, ff, ev_dreg, dregK_nil, dregK_cons, dregE_true, dregP_some, dregX_some, d_mov, d_bin, d_eq, d_pick, d_un, d_conv, d_b2s, d_len, d_load, d_iaddr, d_slice, d_ext, d_call, d_store, chk_done, chk_none, chk_some, chkG_true, chkG_false, chkOne_nil, chkOne_cons, chkH_some, chkV_same, stage_none, stage_some, look_hit, look_miss, news_nil, wb_cons, wb_nil, skip0, List.reverse_cons, List.reverse_nil, w1, w3, w4, w5, d_faddr, p_faddr, p_load, r1 (Ext.refl _), r1 e0, r1 e1, AV.ofCells, d_bsl, dregW_some, d_app, a1, evEff, W]
      have xx : ExtB [h.next + 1] H (H.put (h.next + 1) (.cells ([.int .i64 1, y, .int .i64 (-1), .int .i64 0, .int .i64 0].set 1 (.sl (h'.next + 1) 0 (k + (0 + 1)) (.dy 1))))) := (ExtB.refl _ _).put (.inr (List.mem_singleton.2 rfl)) _
      refine ⟨_, _, rfl, .sl (h'.next + 1) 0 (k + (0 + 1)) (.dy 1), ?_, get_put_at, ?_, ?_, ?_, rfl⟩
      · have := a2.keepB xx (fun j hj hS => by simp [blk] at hj; simp at hS; omega)
        rw [← ownN_succ, List.map_append]; exact this
      · rw [get_put_ne (by omega), gH _ (by omega) (by omega)]; exact g0
      · refine ⟨by rw [next_put, a3]; have := he.1; omega, fun j hj => ?_⟩
        rw [get_put_ne (by omega), gH j (by have := he.1; omega) (by omega)]; exact he.2 j hj
      · rw [next_put, a3]; omega
    · right
      have hk16 : k = 16 := by omega
      subst hk16
      simp only [enter_eq, ev_seq, seqK_norm, seqK_exit, seqK_ret, ev_reg, ev_cond, condK_true, condK_false, ev_block, blockK_norm, blockK_ret, blockK_exit, ev_loop, ev_skip, ev_exit, ev_ret, regK_cons, regK_nil, guard_none, guard_some, regG_true, regG_false, regO_some, op_mov, op_conv, op_bin, op_bsl, op_box, op_mks, op_s2b, op_pick, op_un, op_eq, op_len, op_ext, op_load, op_iaddr, op_slice, op_b2s, op_idxS, op_mx, op_mn, op_call, op_store, op_app, op_copy, args_eq, result_one', rv_loc, finish_norm, finish_ret, outK_some, keep_true, keep_false, keep_nil, p_bin, p_pick, p_un, p_eq, p_conv, evNew, pureK_some, newK_some, X.eval, set_none, set_some, List.map_cons, List.map_nil, List.getD_cons_zero, List.getD_cons_succ, List.getD_nil, List.set_cons_zero, List.set_cons_succ, binCV, unCV, isShift, intArithF_eq, shiftF_eq, wrapF_eq, intArith, shift, eqVal, bound, asNat_cast, cond_true, cond_false, BEq.rfl, beq_self_eq_true, evalParts, fillParts, AV.cells, AV.ofCells, XV.av, AV.xv, List.length_cons, List.length_nil, zeros, patch, setMany, List.nil_append, List.cons_append, Nat.ble, Nat.add_eq, Nat.zero_add, Nat.add_zero, Nat.reduceAdd, Nat.reduceMul, Nat.reduceSub, Nat.ble_eq, Nat.reduceLeDiff, Nat.reduceBEq, Int.reduceBEq, Int.reduceNeg, Bool.and_true, Bool.and_false, Bool.true_and, Bool.false_and, Bool.not_true, Bool.not_false, Bool.true_eq_false, Bool.false_eq_true, Int.reduceLT, Int.reduceLE, Int.reduceGT, Int.reduceGE, decide_true, decide_false, Bool.not_eq_true, loopN_norm, loopN_exit, tf, ft, ff]
      exact ⟨_, rfl, by simp, y, _, _, h', rfl, my, g1, g0, he⟩
  obtain ⟨r, hr, y, a0, l, h', rfl, my, g1, g0, he⟩ := L [.c (.int .i64 (n : Int)), .c (.ptr h.next 0), .c (.ptr (h.next + 1) 0), .tup [], .c (.bool false), .c (.int .i64 0), .tup []] rfl
  obtain ⟨_, ⟨_, h0⟩ | ⟨k, rfl, gk, k1, k2⟩⟩ := my
  · omega
  have r5 : h'.read (h.next + 1) 0 5 = some (dc ⟨1, ownN n 16, -1, 0, 0⟩ k) := rd5 g1
  obtain ⟨h9, w9, f9, o9, n9⟩ := wr (o := 0) (v := dc ⟨1, ownN n 16, -1, 0, 0⟩ k) g0 (by simp [dc, dz])
  have f9' : h9.get h.next = some (.cells (dc ⟨1, ownN n 16, -1, 0, 0⟩ k)) := by rw [f9]; simp [dc, dz]
  have r9 : h9.read h.next 0 5 = some (dc ⟨1, ownN n 16, -1, 0, 0⟩ k) := rd5 f9'
  simp only [enter_eq, ev_seq, seqK_norm, seqK_exit, seqK_ret, ev_reg, ev_cond, condK_true, condK_false, ev_block, blockK_norm, blockK_ret, blockK_exit, ev_loop, ev_skip, ev_exit, ev_ret, regK_cons, regK_nil, guard_none, guard_some, regG_true, regG_false, regO_some, op_mov, op_conv, op_bin, op_bsl, op_box, op_mks, op_s2b, op_pick, op_un, op_eq, op_len, op_ext, op_load, op_iaddr, op_slice, op_b2s, op_idxS, op_mx, op_mn, op_call, op_store, op_app, op_copy, args_eq, result_one', rv_loc, finish_norm, finish_ret, outK_some, keep_true, keep_false, keep_nil, p_bin, p_pick, p_un, p_eq, p_conv, evNew, pureK_some, newK_some, X.eval, set_none, set_some, List.map_cons, List.map_nil, List.getD_cons_zero, List.getD_cons_succ, List.getD_nil, List.set_cons_zero, List.set_cons_succ, binCV, unCV, isShift, intArithF_eq, shiftF_eq, wrapF_eq, intArith, shift, eqVal, bound, asNat_cast, cond_true, cond_false, BEq.rfl, beq_self_eq_true, evalParts, fillParts, AV.cells, AV.ofCells, XV.av, AV.xv, List.length_cons, List.length_nil, zeros, patch, setMany, List.nil_append, List.cons_append, Nat.ble, Nat.add_eq, Nat.zero_add, Nat.add_zero, Nat.reduceAdd, Nat.reduceMul, Nat.reduceSub, Nat.ble_eq, Nat.reduceLeDiff, Nat.reduceBEq, Int.reduceBEq, Int.reduceNeg, Bool.and_true, Bool.and_false, Bool.true_and, Bool.false_and, Bool.not_true, Bool.not_false, Bool.true_eq_false, Bool.false_eq_true, Int.reduceLT, Int.reduceLE, Int.reduceGT, Int.reduceGE, decide_true, decide_false, Bool.not_eq_true, loopN_norm, loopN_exit, tf, ft, ff, c1, c2, op_build, p_build', n1, evEff, w2, hr, blockK_exit_eq, p_load, r5, AV.ofCells, dc_five, w9, result, RV.eval, r9]
  refine ⟨k, _, rfl, ⟨by rw [o9 k (by omega)]; exact gk, by omega, ownN_len _ _⟩, ⟨by have := he.1; omega, fun j hj => ?_⟩⟩
  rw [o9 j (by omega)]; exact he.2 j hj
end
end Lav
