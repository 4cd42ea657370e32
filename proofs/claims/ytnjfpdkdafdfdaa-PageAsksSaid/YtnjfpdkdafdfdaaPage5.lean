/-
  Layer 2: the document's own images; any bytes that come in.
-/
import Derived.Test.YtnjfpdkdafdfdaaPage2
set_option maxRecDepth 100000
set_option linter.unusedSimpArgs false
namespace Lav
open Go (IntKind)

section
variable {call : Nat → List AV → Heap → Option (AV × Heap)} {N : Nat} {h : Heap}

theorem rturn_body {b : BitVec 32} {i : Nat} (hi : i < 8) : ev call N ir51_l0 [.c (.int .u32 (b.toNat : Int)), .junk, .junk, .c (.int .i64 (i : Int)), .junk, .junk, .junk] h =
    some (.norm, [.c (.int .u32 ((bstep b).toNat : Int)), .junk, .junk, .c (.int .i64 ((i + 1 : Nat) : Int)), .c (.int .u32 ((b &&& 1#32).toNat : Int)), .c (.bool true), .c (.bool (low b))], h) := by
  have hlt : decide ((i : Int) < 8) = true := by simp; omega
  unfold ir51_l0
  rw [bstep_low]
  have hlow : decide (b &&& 1#32 = 1#32) = low b := rfl
  cases hb : low b <;> simp only [enter_eq, ev_seq, seqK_norm, seqK_exit, seqK_ret, ev_reg, ev_cond, condK_true, condK_false, ev_block, blockK_norm, blockK_ret, blockK_exit, ev_loop, ev_skip, ev_exit, ev_ret, regK_cons, regK_nil, guard_none, guard_some, regG_true, regG_false, regO_some, op_mov, op_conv, op_bin, op_bsl, op_box, op_mks, op_s2b, op_pick, op_un, op_eq, op_len, op_ext, op_load, op_iaddr, op_slice, op_b2s, op_idxS, op_mx, op_mn, op_call, op_store, op_app, op_copy, args_eq, result_one', rv_loc, finish_norm, finish_ret, outK_some, keep_true, keep_false, keep_nil, evPure, evNew, pureK_some, newK_some, X.eval, set_none, set_some, List.map_cons, List.map_nil, List.getD_cons_zero, List.getD_cons_succ, List.getD_nil, List.set_cons_zero, List.set_cons_succ, binCV, unCV, isShift, intArithF_eq, shiftF_eq, wrapF_eq, intArith, shift, eqVal, bound, asNat_cast, cond_true, cond_false, BEq.rfl, beq_self_eq_true, evalParts, fillParts, AV.cells, AV.ofCells, XV.av, AV.xv, List.length_cons, List.length_nil, zeros, patch, setMany, List.nil_append, List.cons_append, Nat.ble, Nat.add_eq, Nat.zero_add, Nat.add_zero, Nat.reduceAdd, Nat.reduceMul, Nat.reduceSub, Nat.ble_eq, Nat.reduceLeDiff, Nat.reduceBEq, Int.reduceBEq, Int.reduceNeg, Bool.and_true, Bool.and_false, Bool.true_and, Bool.false_and, Bool.not_true, Bool.not_false, Bool.true_eq_false, Bool.false_eq_true, Int.reduceLT, Int.reduceLE, Int.reduceGT, Int.reduceGE, decide_true, decide_false, Bool.not_eq_true, loopN_norm, loopN_exit, tf, ft, ff, hlt, succ64 (show i < 1000000 by omega), xor32k, and32, shr32, eq32k, hlow, hb, if_true, if_false] <;> rfl

theorem rturn_end {b : BitVec 32} : ev call N ir51_l0 [.c (.int .u32 (b.toNat : Int)), .junk, .junk, .c (.int .i64 8), .junk, .junk, .junk] h =
    some (.exit 0, [.c (.int .u32 (b.toNat : Int)), .junk, .junk, .c (.int .i64 8), .junk, .c (.bool false), .junk], h) := rfl

theorem rturn_loop : ∀ (j : Nat) (i : Nat) (b : BitVec 32) (y1 y2 y4 y5 y6 : AV) (n : Nat), i + j = 8 → ∃ z4, loopK call N ir51_k0 ir51_l0 (n + j + 1) [.c (.int .u32 (b.toNat : Int)), y1, y2, .c (.int .i64 (i : Int)), y4, y5, y6] h =
    some (.exit 0, [.c (.int .u32 ((bsteps j b).toNat : Int)), .junk, .junk, .c (.int .i64 8), .junk, z4, .junk], h) := by
  intro j
  induction j with
  | zero =>
    intro i b y1 y2 y4 y5 y6 n hij
    have : i = 8 := by omega
    subst this
    exact ⟨_, loopK_end rfl rturn_end⟩
  | succ j ih =>
    intro i b y1 y2 y4 y5 y6 n hij
    obtain ⟨z, hz⟩ := ih (i + 1) (bstep b) .junk .junk (.c (.int .u32 ((b &&& 1#32).toNat : Int))) (.c (.bool true)) (.c (.bool (low b))) n (by omega)
    exact ⟨z, (loopK_step rfl (rturn_body (by omega))).trans hz⟩

/-- lavaboref1.Turn. -/
theorem rturn_ok {M d : Nat} (s : BitVec 32) (c : BitVec 8) (h : Heap) : evCallT table 24 (M + 9) (d + 1) 51 [.c (.int .u32 (s.toNat : Int)), .c (.int .u8 (c.toNat : Int))] h = some (.c (.int .u32 ((bturn s c).toNat : Int)), h) := by
  rw [evCallT_eq (F := ir51) rfl rfl rfl]
  unfold ir51
  rw [bodyK_eq]
  obtain ⟨z, hz⟩ := rturn_loop (call := evCallT table 24 (M + 9) d) (N := M + 9) (h := h) 8 0 (s ^^^ c.setWidth 32) (.c (.int .u8 (c.toNat : Int))) (.c (.int .u32 0)) (.tup []) (.tup []) (.tup []) M rfl
  have hz' : loopK (evCallT table 24 (M + 9) d) (M + 9) ir51_k0 ir51_l0 (M + 9) [.c (.int .u32 ((s ^^^ c.setWidth 32).toNat : Int)), .c (.int .u8 (c.toNat : Int)), .c (.int .u32 0), .c (.int .i64 0), .tup [], .tup [], .tup []] h = _ := hz
  simp only [enter_eq, ev_seq, seqK_norm, seqK_exit, seqK_ret, ev_reg, ev_cond, condK_true, condK_false, ev_block, blockK_norm, blockK_ret, blockK_exit, ev_loop, ev_skip, ev_exit, ev_ret, regK_cons, regK_nil, guard_none, guard_some, regG_true, regG_false, regO_some, op_mov, op_conv, op_bin, op_bsl, op_box, op_mks, op_s2b, op_pick, op_un, op_eq, op_len, op_ext, op_load, op_iaddr, op_slice, op_b2s, op_idxS, op_mx, op_mn, op_call, op_store, op_app, op_copy, args_eq, result_one', rv_loc, finish_norm, finish_ret, outK_some, keep_true, keep_false, keep_nil, evPure, evNew, pureK_some, newK_some, X.eval, set_none, set_some, List.map_cons, List.map_nil, List.getD_cons_zero, List.getD_cons_succ, List.getD_nil, List.set_cons_zero, List.set_cons_succ, binCV, unCV, isShift, intArithF_eq, shiftF_eq, wrapF_eq, intArith, shift, eqVal, bound, asNat_cast, cond_true, cond_false, BEq.rfl, beq_self_eq_true, evalParts, fillParts, AV.cells, AV.ofCells, XV.av, AV.xv, List.length_cons, List.length_nil, zeros, patch, setMany, List.nil_append, List.cons_append, Nat.ble, Nat.add_eq, Nat.zero_add, Nat.add_zero, Nat.reduceAdd, Nat.reduceMul, Nat.reduceSub, Nat.ble_eq, Nat.reduceLeDiff, Nat.reduceBEq, Int.reduceBEq, Int.reduceNeg, Bool.and_true, Bool.and_false, Bool.true_and, Bool.false_and, Bool.not_true, Bool.not_false, Bool.true_eq_false, Bool.false_eq_true, Int.reduceLT, Int.reduceLE, Int.reduceGT, Int.reduceGE, decide_true, decide_false, Bool.not_eq_true, loopN_norm, loopN_exit, tf, ft, ff, conv32, xor32, hz']
  rfl

theorem rmore_body {s : BitVec 32} {bs : List (BitVec 8)} {j : Nat} (hj : j < bs.length) (hn : bs.length < 1000000)
    (T : call 51 [.c (.int .u32 (s.toNat : Int)), .c (.int .u8 (bs[j].toNat : Int))] h = some (.c (.int .u32 ((bturn s bs[j]).toNat : Int)), h)) :
    ev call N ir48_l0 [.c (.int .u32 (s.toNat : Int)), .c (.str (strOf bs)), .junk, .c (.int .i64 (j : Int)), .junk] h =
      some (.norm, [.c (.int .u32 ((bturn s bs[j]).toNat : Int)), .c (.str (strOf bs)), .junk, .c (.int .i64 ((j + 1 : Nat) : Int)), .c (.bool true)], h) := by
  have hlen : (strOf bs).length = bs.length := by simp [strOf]
  have hlt : decide ((j : Int) < (bs.length : Int)) = true := by simp; omega
  have hg : (strOf bs)[j]? = some bs[j].toNat := by simp [strOf, hj]
  unfold ir48_l0
  simp only [enter_eq, ev_seq, seqK_norm, seqK_exit, seqK_ret, ev_reg, ev_cond, condK_true, condK_false, ev_block, blockK_norm, blockK_ret, blockK_exit, ev_loop, ev_skip, ev_exit, ev_ret, regK_cons, regK_nil, guard_none, guard_some, regG_true, regG_false, regO_some, op_mov, op_conv, op_bin, op_bsl, op_box, op_mks, op_s2b, op_pick, op_un, op_eq, op_len, op_ext, op_load, op_iaddr, op_slice, op_b2s, op_idxS, op_mx, op_mn, op_call, op_store, op_app, op_copy, args_eq, result_one', rv_loc, finish_norm, finish_ret, outK_some, keep_true, keep_false, keep_nil, evPure, evNew, pureK_some, newK_some, X.eval, set_none, set_some, List.map_cons, List.map_nil, List.getD_cons_zero, List.getD_cons_succ, List.getD_nil, List.set_cons_zero, List.set_cons_succ, binCV, unCV, isShift, intArithF_eq, shiftF_eq, wrapF_eq, intArith, shift, eqVal, bound, asNat_cast, cond_true, cond_false, BEq.rfl, beq_self_eq_true, evalParts, fillParts, AV.cells, AV.ofCells, XV.av, AV.xv, List.length_cons, List.length_nil, zeros, patch, setMany, List.nil_append, List.cons_append, Nat.ble, Nat.add_eq, Nat.zero_add, Nat.add_zero, Nat.reduceAdd, Nat.reduceMul, Nat.reduceSub, Nat.ble_eq, Nat.reduceLeDiff, Nat.reduceBEq, Int.reduceBEq, Int.reduceNeg, Bool.and_true, Bool.and_false, Bool.true_and, Bool.false_and, Bool.not_true, Bool.not_false, Bool.true_eq_false, Bool.false_eq_true, Int.reduceLT, Int.reduceLE, Int.reduceGT, Int.reduceGE, decide_true, decide_false, Bool.not_eq_true, loopN_norm, loopN_exit, tf, ft, ff, ofNat_cast, hlen, hlt, hg, T, succ64 (show j < 1000000 by omega)]

theorem rmore_end {s : BitVec 32} {bs : List (BitVec 8)} : ev call N ir48_l0 [.c (.int .u32 (s.toNat : Int)), .c (.str (strOf bs)), .junk, .c (.int .i64 (bs.length : Int)), .junk] h =
    some (.exit 0, [.c (.int .u32 (s.toNat : Int)), .c (.str (strOf bs)), .junk, .c (.int .i64 (bs.length : Int)), .c (.bool false)], h) := by
  have hlen : (strOf bs).length = bs.length := by simp [strOf]
  have hlt : decide ((bs.length : Int) < (bs.length : Int)) = false := by simp
  unfold ir48_l0
  simp only [enter_eq, ev_seq, seqK_norm, seqK_exit, seqK_ret, ev_reg, ev_cond, condK_true, condK_false, ev_block, blockK_norm, blockK_ret, blockK_exit, ev_loop, ev_skip, ev_exit, ev_ret, regK_cons, regK_nil, guard_none, guard_some, regG_true, regG_false, regO_some, op_mov, op_conv, op_bin, op_bsl, op_box, op_mks, op_s2b, op_pick, op_un, op_eq, op_len, op_ext, op_load, op_iaddr, op_slice, op_b2s, op_idxS, op_mx, op_mn, op_call, op_store, op_app, op_copy, args_eq, result_one', rv_loc, finish_norm, finish_ret, outK_some, keep_true, keep_false, keep_nil, evPure, evNew, pureK_some, newK_some, X.eval, set_none, set_some, List.map_cons, List.map_nil, List.getD_cons_zero, List.getD_cons_succ, List.getD_nil, List.set_cons_zero, List.set_cons_succ, binCV, unCV, isShift, intArithF_eq, shiftF_eq, wrapF_eq, intArith, shift, eqVal, bound, asNat_cast, cond_true, cond_false, BEq.rfl, beq_self_eq_true, evalParts, fillParts, AV.cells, AV.ofCells, XV.av, AV.xv, List.length_cons, List.length_nil, zeros, patch, setMany, List.nil_append, List.cons_append, Nat.ble, Nat.add_eq, Nat.zero_add, Nat.add_zero, Nat.reduceAdd, Nat.reduceMul, Nat.reduceSub, Nat.ble_eq, Nat.reduceLeDiff, Nat.reduceBEq, Int.reduceBEq, Int.reduceNeg, Bool.and_true, Bool.and_false, Bool.true_and, Bool.false_and, Bool.not_true, Bool.not_false, Bool.true_eq_false, Bool.false_eq_true, Int.reduceLT, Int.reduceLE, Int.reduceGT, Int.reduceGE, decide_true, decide_false, Bool.not_eq_true, loopN_norm, loopN_exit, tf, ft, ff, ofNat_cast, hlen, hlt]

theorem rmore_loop (T : ∀ (s : BitVec 32) (c : BitVec 8) (h : Heap), call 51 [.c (.int .u32 (s.toNat : Int)), .c (.int .u8 (c.toNat : Int))] h = some (.c (.int .u32 ((bturn s c).toNat : Int)), h))
    {bs : List (BitVec 8)} (hn : bs.length < 1000000) : ∀ (k j : Nat) (s : BitVec 32) (y2 y4 : AV) (n : Nat), j + k = bs.length →
    loopK call N ir48_k0 ir48_l0 (n + k + 1) [.c (.int .u32 (s.toNat : Int)), .c (.str (strOf bs)), y2, .c (.int .i64 (j : Int)), y4] h =
      some (.exit 0, [.c (.int .u32 ((bmore s (bs.drop j)).toNat : Int)), .c (.str (strOf bs)), .junk, .c (.int .i64 (bs.length : Int)), .c (.bool false)], h) := by
  intro k
  induction k with
  | zero =>
    intro j s y2 y4 n hj
    have : j = bs.length := by omega
    subst this
    rw [List.drop_length]
    exact loopK_end rfl rmore_end
  | succ k ih =>
    intro j s y2 y4 n hj
    have hlt : j < bs.length := by omega
    have hd : bs.drop j = bs[j] :: bs.drop (j + 1) := List.drop_eq_getElem_cons hlt
    refine (loopK_step rfl (rmore_body hlt hn (T _ _ _))).trans ?_
    rw [hd]; exact ih (j + 1) (bturn s bs[j]) .junk (.c (.bool true)) n (by omega)
end

/-- lavaboref1.More. -/
theorem rmore_ok {N d : Nat} {s : BitVec 32} {bs : List (BitVec 8)} {h : Heap} (hN : bs.length + 9 ≤ N) (hn : bs.length < 1000000) :
    evCallT table 24 N (d + 2) 48 [.c (.int .u32 (s.toNat : Int)), .c (.str (strOf bs))] h = some (.c (.int .u32 ((bmore s bs).toNat : Int)), h) := by
  obtain ⟨m, rfl⟩ : ∃ m, N = m + 9 := ⟨N - 9, by omega⟩
  have T : ∀ (s : BitVec 32) (c : BitVec 8) (h : Heap), evCallT table 24 (m + 9) (d + 1) 51 [.c (.int .u32 (s.toNat : Int)), .c (.int .u8 (c.toNat : Int))] h = some (.c (.int .u32 ((bturn s c).toNat : Int)), h) := fun s c h => rturn_ok s c h
  rw [evCallT_eq (F := ir48) rfl rfl rfl]
  unfold ir48
  rw [bodyK_eq]
  obtain ⟨q, hq⟩ : ∃ q, m + 9 = q + bs.length + 1 := ⟨m + 8 - bs.length, by omega⟩
  have hz := rmore_loop (call := evCallT table 24 (m + 9) (d + 1)) (N := m + 9) (h := h) T hn bs.length 0 s (.c (.int .u32 0)) (.tup []) q (by omega)
  rw [← hq] at hz
  have hz' : loopK (evCallT table 24 (m + 9) (d + 1)) (m + 9) ir48_k0 ir48_l0 (m + 9) [.c (.int .u32 (s.toNat : Int)), .c (.str (strOf bs)), .c (.int .u32 0), .c (.int .i64 0), .tup []] h = _ := hz
  rw [List.drop_zero] at hz'
  simp only [enter_eq, ev_seq, seqK_norm, seqK_exit, seqK_ret, ev_reg, ev_cond, condK_true, condK_false, ev_block, blockK_norm, blockK_ret, blockK_exit, ev_loop, ev_skip, ev_exit, ev_ret, regK_cons, regK_nil, guard_none, guard_some, regG_true, regG_false, regO_some, op_mov, op_conv, op_bin, op_bsl, op_box, op_mks, op_s2b, op_pick, op_un, op_eq, op_len, op_ext, op_load, op_iaddr, op_slice, op_b2s, op_idxS, op_mx, op_mn, op_call, op_store, op_app, op_copy, args_eq, result_one', rv_loc, finish_norm, finish_ret, outK_some, keep_true, keep_false, keep_nil, evPure, evNew, pureK_some, newK_some, X.eval, set_none, set_some, List.map_cons, List.map_nil, List.getD_cons_zero, List.getD_cons_succ, List.getD_nil, List.set_cons_zero, List.set_cons_succ, binCV, unCV, isShift, intArithF_eq, shiftF_eq, wrapF_eq, intArith, shift, eqVal, bound, asNat_cast, cond_true, cond_false, BEq.rfl, beq_self_eq_true, evalParts, fillParts, AV.cells, AV.ofCells, XV.av, AV.xv, List.length_cons, List.length_nil, zeros, patch, setMany, List.nil_append, List.cons_append, Nat.ble, Nat.add_eq, Nat.zero_add, Nat.add_zero, Nat.reduceAdd, Nat.reduceMul, Nat.reduceSub, Nat.ble_eq, Nat.reduceLeDiff, Nat.reduceBEq, Int.reduceBEq, Int.reduceNeg, Bool.and_true, Bool.and_false, Bool.true_and, Bool.false_and, Bool.not_true, Bool.not_false, Bool.true_eq_false, Bool.false_eq_true, Int.reduceLT, Int.reduceLE, Int.reduceGT, Int.reduceGE, decide_true, decide_false, Bool.not_eq_true, loopN_norm, loopN_exit, tf, ft, ff, hz', blockK_exit_eq]

/-- lavaboref1.Of. -/
theorem rof_ok {N d : Nat} {bs : List (BitVec 8)} {h : Heap} (hN : bs.length + 9 ≤ N) (hn : bs.length < 1000000) :
    evCallT table 24 N (d + 3) 41 [.c (.str (strOf bs))] h = some (.c (.int .u32 ((bof bs).toNat : Int)), h) := by
  have M : evCallT table 24 N (d + 2) 48 [.c (.int .u32 4294967295), .c (.str (strOf bs))] h = some (.c (.int .u32 ((bmore 4294967295#32 bs).toNat : Int)), h) := rmore_ok (s := 4294967295#32) hN hn
  rw [evCallT_eq (F := ir41) rfl rfl rfl]
  unfold ir41
  rw [bodyK_eq]
  simp only [enter_eq, ev_seq, seqK_norm, seqK_exit, seqK_ret, ev_reg, ev_cond, condK_true, condK_false, ev_block, blockK_norm, blockK_ret, blockK_exit, ev_loop, ev_skip, ev_exit, ev_ret, regK_cons, regK_nil, guard_none, guard_some, regG_true, regG_false, regO_some, op_mov, op_conv, op_bin, op_bsl, op_box, op_mks, op_s2b, op_pick, op_un, op_eq, op_len, op_ext, op_load, op_iaddr, op_slice, op_b2s, op_idxS, op_mx, op_mn, op_call, op_store, op_app, op_copy, args_eq, result_one', rv_loc, finish_norm, finish_ret, outK_some, keep_true, keep_false, keep_nil, evPure, evNew, pureK_some, newK_some, X.eval, set_none, set_some, List.map_cons, List.map_nil, List.getD_cons_zero, List.getD_cons_succ, List.getD_nil, List.set_cons_zero, List.set_cons_succ, binCV, unCV, isShift, intArithF_eq, shiftF_eq, wrapF_eq, intArith, shift, eqVal, bound, asNat_cast, cond_true, cond_false, BEq.rfl, beq_self_eq_true, evalParts, fillParts, AV.cells, AV.ofCells, XV.av, AV.xv, List.length_cons, List.length_nil, zeros, patch, setMany, List.nil_append, List.cons_append, Nat.ble, Nat.add_eq, Nat.zero_add, Nat.add_zero, Nat.reduceAdd, Nat.reduceMul, Nat.reduceSub, Nat.ble_eq, Nat.reduceLeDiff, Nat.reduceBEq, Int.reduceBEq, Int.reduceNeg, Bool.and_true, Bool.and_false, Bool.true_and, Bool.false_and, Bool.not_true, Bool.not_false, Bool.true_eq_false, Bool.false_eq_true, Int.reduceLT, Int.reduceLE, Int.reduceGT, Int.reduceGE, decide_true, decide_false, Bool.not_eq_true, loopN_norm, loopN_exit, tf, ft, ff, M, not32]
  rfl


theorem op_sstr {call : Nat → List AV → Heap → Option (AV × Heap)} {loc vals : List AV} {h : Heap} {x : X} {a b : Option X} : evOp loc vals call h (.sstr x a b) = pureK h (evPure loc vals h (.sstr x a b)) := rfl
theorem strOf_app (a b : List (BitVec 8)) : strOf (a ++ b) = strOf a ++ strOf b := by simp [strOf]
theorem strOf_len (a : List (BitVec 8)) : (strOf a).length = a.length := by simp [strOf]
theorem u8s_app (a b : List (BitVec 8)) : u8s (a ++ b) = u8s a ++ u8s b := by simp [u8s]

section
variable {N d : Nat} {h : Heap}

theorem rlow_ok (s : BitVec 32) {k : Nat} (h1 : 1 ≤ k) (hk : k ≤ 4) (hN : 10 ≤ N) : ∃ h', evCallT table 24 N (d + 1) 40 [.c (.int .u32 (s.toNat : Int)), .c (.int .i64 (k : Int))] h = some (.c (.str (strOf ((List.range k).map (byteOf s)))), h') ∧ Ext h h' := by
  rw [evCallT_eq (F := ir40) rfl rfl rfl]
  unfold ir40
  rw [bodyK_eq]
  have L : ∀ loc, keepOnly ir40_k0 loc = [.c (.int .u32 (s.toNat : Int)), .c (.int .i64 (k : Int)), .junk, .c .nils, .c (.int .i64 0), .junk] →
      ∃ r, loopK (evCallT table 24 N d) N ir40_k0 ir40_l0 N loc h = some r ∧ ∃ a0 a1 a2 y l h', r = (.exit 0, a0 :: a1 :: a2 :: .c y :: l, h') ∧ Mine 1 h h' y k (u8s ((List.range k).map (byteOf s))) ∧ Ext h h' := by
    intro loc hloc
    refine loop_inv (n := k) (fun i loc h' => ∃ y, Mine 1 h h' y i (u8s ((List.range i).map (byteOf s))) ∧ Ext h h' ∧ loc = [.c (.int .u32 (s.toNat : Int)), .c (.int .i64 (k : Int)), .junk, .c y, .c (.int .i64 (i : Int)), .junk]) _ ?_ ⟨.nils, Mine.nil, Ext.refl _, hloc⟩ (by omega)
    rintro i loc h' hi ⟨y, my, he, rfl⟩
    unfold ir40_l0
    by_cases hlt : i < k
    · left
      refine ⟨hlt, ?_⟩
      have v1 : decide ((i : Int) < (k : Int)) = true := ltNat hlt
      have v2 := succI (i := i) (by omega)
      have w1 : IntKind.i64.wrap (8 * (i : Int)) = ((8 * i : Nat) : Int) := by rw [wrapI (by omega) (by omega)]; omega
      have w2 : IntKind.u64.wrap ((8 * i : Nat) : Int) = ((8 * i : Nat) : Int) := wrapUNat (by omega)
      have w3 : decide (((8 * i : Nat) : Int) < 0) = false := decide_eq_false (by omega)
      have w4 := shr32n s i (by omega)
      have w5 : IntKind.u8.wrap ((s >>> (8 * i)).toNat : Int) = ((byteOf s i).toNat : Int) := wrap8 _
      obtain ⟨h2, a1, a2, a3, a4, _⟩ := app_int (v := u8c (byteOf s i)) (c := .ex 1) (my.new (.cells [u8c (byteOf s i)])) (he.new _) (get_new_at (h := h')) (by omega)
      simp only [u8c] at a1
      simp only [enter_eq, ev_seq, seqK_norm, seqK_exit, seqK_ret, ev_reg, ev_cond, condK_true, condK_false, ev_block, blockK_norm, blockK_ret, blockK_exit, ev_loop, ev_skip, ev_exit, ev_ret, regK_cons, regK_nil, guard_none, guard_some, regG_true, regG_false, regO_some, op_mov, op_conv, op_bin, op_bsl, op_box, op_mks, op_s2b, op_pick, op_un, op_eq, op_len, op_ext, op_load, op_iaddr, op_slice, op_b2s, op_idxS, op_mx, op_mn, op_call, op_store, op_app, op_copy, args_eq, result_one', rv_loc, finish_norm, finish_ret, outK_some, keep_true, keep_false, keep_nil, p_bin, p_pick, p_un, p_eq, p_conv, evNew, pureK_some, newK_some, X.eval, set_none, set_some, List.map_cons, List.map_nil, List.getD_cons_zero, List.getD_cons_succ, List.getD_nil, List.set_cons_zero, List.set_cons_succ, binCV, unCV, isShift, intArithF_eq, shiftF_eq, wrapF_eq, intArith, shift, eqVal, bound, asNat_cast, cond_true, cond_false, BEq.rfl, beq_self_eq_true, evalParts, fillParts, AV.cells, AV.ofCells, XV.av, AV.xv, List.length_cons, List.length_nil, zeros, patch, setMany, List.nil_append, List.cons_append, Nat.ble, Nat.add_eq, Nat.zero_add, Nat.add_zero, Nat.reduceAdd, Nat.reduceMul, Nat.reduceSub, Nat.ble_eq, Nat.reduceLeDiff, Nat.reduceBEq, Int.reduceBEq, Int.reduceNeg, Bool.and_true, Bool.and_false, Bool.true_and, Bool.false_and, Bool.not_true, Bool.not_false, Bool.true_eq_false, Bool.false_eq_true, Int.reduceLT, Int.reduceLE, Int.reduceGT, Int.reduceGE, decide_true, decide_false, Bool.not_eq_true, loopN_norm, loopN_exit, tf, ft, ff, v1, v2, w1, w2, w3, w4, w5, a1]
      refine ⟨_, _, rfl, _, ?_, a3, rfl⟩
      rw [List.range_succ, List.map_append, u8s_app]; exact a2
    · right
      have hin : i = k := by omega
      subst hin
      have v1 : decide ((i : Int) < (i : Int)) = false := geNat (Nat.le_refl _)
      simp only [enter_eq, ev_seq, seqK_norm, seqK_exit, seqK_ret, ev_reg, ev_cond, condK_true, condK_false, ev_block, blockK_norm, blockK_ret, blockK_exit, ev_loop, ev_skip, ev_exit, ev_ret, regK_cons, regK_nil, guard_none, guard_some, regG_true, regG_false, regO_some, op_mov, op_conv, op_bin, op_bsl, op_box, op_mks, op_s2b, op_pick, op_un, op_eq, op_len, op_ext, op_load, op_iaddr, op_slice, op_b2s, op_idxS, op_mx, op_mn, op_call, op_store, op_app, op_copy, args_eq, result_one', rv_loc, finish_norm, finish_ret, outK_some, keep_true, keep_false, keep_nil, p_bin, p_pick, p_un, p_eq, p_conv, evNew, pureK_some, newK_some, X.eval, set_none, set_some, List.map_cons, List.map_nil, List.getD_cons_zero, List.getD_cons_succ, List.getD_nil, List.set_cons_zero, List.set_cons_succ, binCV, unCV, isShift, intArithF_eq, shiftF_eq, wrapF_eq, intArith, shift, eqVal, bound, asNat_cast, cond_true, cond_false, BEq.rfl, beq_self_eq_true, evalParts, fillParts, AV.cells, AV.ofCells, XV.av, AV.xv, List.length_cons, List.length_nil, zeros, patch, setMany, List.nil_append, List.cons_append, Nat.ble, Nat.add_eq, Nat.zero_add, Nat.add_zero, Nat.reduceAdd, Nat.reduceMul, Nat.reduceSub, Nat.ble_eq, Nat.reduceLeDiff, Nat.reduceBEq, Int.reduceBEq, Int.reduceNeg, Bool.and_true, Bool.and_false, Bool.true_and, Bool.false_and, Bool.not_true, Bool.not_false, Bool.true_eq_false, Bool.false_eq_true, Int.reduceLT, Int.reduceLE, Int.reduceGT, Int.reduceGE, decide_true, decide_false, Bool.not_eq_true, loopN_norm, loopN_exit, tf, ft, ff, v1]
      exact ⟨_, rfl, by simp, _, _, _, y, _, h', rfl, my, he⟩
  obtain ⟨r, hr, a0, a1, a2, y, l, h', rfl, my, he⟩ := L [.c (.int .u32 (s.toNat : Int)), .c (.int .i64 (k : Int)), .c (.str []), .c .nils, .c (.int .i64 0), .tup []] rfl
  obtain ⟨_, ⟨_, h0⟩ | ⟨i, rfl, g, _, _⟩⟩ := my
  · omega
  have rr : h'.read i 0 k = some (u8s ((List.range k).map (byteOf s))) := by
    have := read_u8 (o := 0) (n := k) g (by simp); simpa using this
  have sb : ∀ loc vals, evPure loc (.c (.sl i 0 k (.dy 1)) :: vals) h' (.b2s (.val 0)) = some (.c (.str (strOf ((List.range k).map (byteOf s))))) := fun _ _ => b2s_at rfl rr
  simp only [enter_eq, ev_seq, seqK_norm, seqK_exit, seqK_ret, ev_reg, ev_cond, condK_true, condK_false, ev_block, blockK_norm, blockK_ret, blockK_exit, ev_loop, ev_skip, ev_exit, ev_ret, regK_cons, regK_nil, guard_none, guard_some, regG_true, regG_false, regO_some, op_mov, op_conv, op_bin, op_bsl, op_box, op_mks, op_s2b, op_pick, op_un, op_eq, op_len, op_ext, op_load, op_iaddr, op_slice, op_b2s, op_idxS, op_mx, op_mn, op_call, op_store, op_app, op_copy, args_eq, result_one', rv_loc, finish_norm, finish_ret, outK_some, keep_true, keep_false, keep_nil, p_bin, p_pick, p_un, p_eq, p_conv, evNew, pureK_some, newK_some, X.eval, set_none, set_some, List.map_cons, List.map_nil, List.getD_cons_zero, List.getD_cons_succ, List.getD_nil, List.set_cons_zero, List.set_cons_succ, binCV, unCV, isShift, intArithF_eq, shiftF_eq, wrapF_eq, intArith, shift, eqVal, bound, asNat_cast, cond_true, cond_false, BEq.rfl, beq_self_eq_true, evalParts, fillParts, AV.cells, AV.ofCells, XV.av, AV.xv, List.length_cons, List.length_nil, zeros, patch, setMany, List.nil_append, List.cons_append, Nat.ble, Nat.add_eq, Nat.zero_add, Nat.add_zero, Nat.reduceAdd, Nat.reduceMul, Nat.reduceSub, Nat.ble_eq, Nat.reduceLeDiff, Nat.reduceBEq, Int.reduceBEq, Int.reduceNeg, Bool.and_true, Bool.and_false, Bool.true_and, Bool.false_and, Bool.not_true, Bool.not_false, Bool.true_eq_false, Bool.false_eq_true, Int.reduceLT, Int.reduceLE, Int.reduceGT, Int.reduceGE, decide_true, decide_false, Bool.not_eq_true, loopN_norm, loopN_exit, tf, ft, ff, hr, blockK_exit_eq, sb]
  exact ⟨_, rfl, he⟩

theorem rseal_no {id : Int} {body : List (BitVec 8)} (hn : ¬ (0 ≤ id ∧ id < 48 ∧ body.length = 16)) : evCallT table 24 N (d + 1) 26 [.c (.int .i64 id), .c (.str (strOf body))] h = some (.tup [.c (.str []), .c (.int .i64 1)], h) := by
  have bneI : ∀ {a b : Int}, (a != b) = !(a == b) := rfl
  rw [evCallT_eq (F := ir26) rfl rfl rfl]
  unfold ir26
  rw [bodyK_eq]
  by_cases c1 : id < 0
  · simp only [enter_eq, ev_seq, seqK_norm, seqK_exit, seqK_ret, ev_reg, ev_cond, condK_true, condK_false, ev_block, blockK_norm, blockK_ret, blockK_exit, ev_loop, ev_skip, ev_exit, ev_ret, regK_cons, regK_nil, guard_none, guard_some, regG_true, regG_false, regO_some, op_mov, op_conv, op_bin, op_bsl, op_box, op_mks, op_s2b, op_pick, op_un, op_eq, op_len, op_ext, op_load, op_iaddr, op_slice, op_b2s, op_idxS, op_mx, op_mn, op_call, op_store, op_app, op_copy, args_eq, result_one', rv_loc, finish_norm, finish_ret, outK_some, keep_true, keep_false, keep_nil, p_bin, p_pick, p_un, p_eq, p_conv, evNew, pureK_some, newK_some, X.eval, set_none, set_some, List.map_cons, List.map_nil, List.getD_cons_zero, List.getD_cons_succ, List.getD_nil, List.set_cons_zero, List.set_cons_succ, binCV, unCV, isShift, intArithF_eq, shiftF_eq, wrapF_eq, intArith, shift, eqVal, bound, asNat_cast, cond_true, cond_false, BEq.rfl, beq_self_eq_true, evalParts, fillParts, AV.cells, AV.ofCells, XV.av, AV.xv, List.length_cons, List.length_nil, zeros, patch, setMany, List.nil_append, List.cons_append, Nat.ble, Nat.add_eq, Nat.zero_add, Nat.add_zero, Nat.reduceAdd, Nat.reduceMul, Nat.reduceSub, Nat.ble_eq, Nat.reduceLeDiff, Nat.reduceBEq, Int.reduceBEq, Int.reduceNeg, Bool.and_true, Bool.and_false, Bool.true_and, Bool.false_and, Bool.not_true, Bool.not_false, Bool.true_eq_false, Bool.false_eq_true, Int.reduceLT, Int.reduceLE, Int.reduceGT, Int.reduceGE, decide_true, decide_false, Bool.not_eq_true, loopN_norm, loopN_exit, tf, ft, ff, decide_eq_true c1, result, evResults]
  by_cases c2 : id ≥ 48
  · simp only [enter_eq, ev_seq, seqK_norm, seqK_exit, seqK_ret, ev_reg, ev_cond, condK_true, condK_false, ev_block, blockK_norm, blockK_ret, blockK_exit, ev_loop, ev_skip, ev_exit, ev_ret, regK_cons, regK_nil, guard_none, guard_some, regG_true, regG_false, regO_some, op_mov, op_conv, op_bin, op_bsl, op_box, op_mks, op_s2b, op_pick, op_un, op_eq, op_len, op_ext, op_load, op_iaddr, op_slice, op_b2s, op_idxS, op_mx, op_mn, op_call, op_store, op_app, op_copy, args_eq, result_one', rv_loc, finish_norm, finish_ret, outK_some, keep_true, keep_false, keep_nil, p_bin, p_pick, p_un, p_eq, p_conv, evNew, pureK_some, newK_some, X.eval, set_none, set_some, List.map_cons, List.map_nil, List.getD_cons_zero, List.getD_cons_succ, List.getD_nil, List.set_cons_zero, List.set_cons_succ, binCV, unCV, isShift, intArithF_eq, shiftF_eq, wrapF_eq, intArith, shift, eqVal, bound, asNat_cast, cond_true, cond_false, BEq.rfl, beq_self_eq_true, evalParts, fillParts, AV.cells, AV.ofCells, XV.av, AV.xv, List.length_cons, List.length_nil, zeros, patch, setMany, List.nil_append, List.cons_append, Nat.ble, Nat.add_eq, Nat.zero_add, Nat.add_zero, Nat.reduceAdd, Nat.reduceMul, Nat.reduceSub, Nat.ble_eq, Nat.reduceLeDiff, Nat.reduceBEq, Int.reduceBEq, Int.reduceNeg, Bool.and_true, Bool.and_false, Bool.true_and, Bool.false_and, Bool.not_true, Bool.not_false, Bool.true_eq_false, Bool.false_eq_true, Int.reduceLT, Int.reduceLE, Int.reduceGT, Int.reduceGE, decide_true, decide_false, Bool.not_eq_true, loopN_norm, loopN_exit, tf, ft, ff, decide_eq_false c1, decide_eq_true c2, result, evResults]
  have c3 : ((body.length : Int) == 16) = false := by simp only [beq_eq_false_iff_ne, ne_eq]; omega
  have ls : ∀ loc vals H, evPure loc (.c (.str (strOf body)) :: vals) H (.len .str (.val 0)) = some (.c (.int .i64 (body.length : Int))) := fun _ _ _ => by rw [← strOf_len body]; rfl
  simp only [enter_eq, ev_seq, seqK_norm, seqK_exit, seqK_ret, ev_reg, ev_cond, condK_true, condK_false, ev_block, blockK_norm, blockK_ret, blockK_exit, ev_loop, ev_skip, ev_exit, ev_ret, regK_cons, regK_nil, guard_none, guard_some, regG_true, regG_false, regO_some, op_mov, op_conv, op_bin, op_bsl, op_box, op_mks, op_s2b, op_pick, op_un, op_eq, op_len, op_ext, op_load, op_iaddr, op_slice, op_b2s, op_idxS, op_mx, op_mn, op_call, op_store, op_app, op_copy, args_eq, result_one', rv_loc, finish_norm, finish_ret, outK_some, keep_true, keep_false, keep_nil, p_bin, p_pick, p_un, p_eq, p_conv, evNew, pureK_some, newK_some, X.eval, set_none, set_some, List.map_cons, List.map_nil, List.getD_cons_zero, List.getD_cons_succ, List.getD_nil, List.set_cons_zero, List.set_cons_succ, binCV, unCV, isShift, intArithF_eq, shiftF_eq, wrapF_eq, intArith, shift, eqVal, bound, asNat_cast, cond_true, cond_false, BEq.rfl, beq_self_eq_true, evalParts, fillParts, AV.cells, AV.ofCells, XV.av, AV.xv, List.length_cons, List.length_nil, zeros, patch, setMany, List.nil_append, List.cons_append, Nat.ble, Nat.add_eq, Nat.zero_add, Nat.add_zero, Nat.reduceAdd, Nat.reduceMul, Nat.reduceSub, Nat.ble_eq, Nat.reduceLeDiff, Nat.reduceBEq, Int.reduceBEq, Int.reduceNeg, Bool.and_true, Bool.and_false, Bool.true_and, Bool.false_and, Bool.not_true, Bool.not_false, Bool.true_eq_false, Bool.false_eq_true, Int.reduceLT, Int.reduceLE, Int.reduceGT, Int.reduceGE, decide_true, decide_false, Bool.not_eq_true, loopN_norm, loopN_exit, tf, ft, ff, decide_eq_false c1, decide_eq_false c2, ls, bneI, c3, result, evResults]

theorem head_bytes : ∀ id : Fin 48, byteOf (BitVec.ofNat 32 (id.val + 1)) 0 = BitVec.ofNat 8 (id.val + 1) ∧ byteOf (BitVec.ofNat 32 (id.val + 1)) 1 = 0#8 := by decide

theorem rseal_ok {id : Nat} (hid : id < 48) {body : List (BitVec 8)} (hl : body.length = 16) (hN : 40 ≤ N) : ∃ h', evCallT table 24 N (d + 4) 26 [.c (.int .i64 (id : Int)), .c (.str (strOf body))] h = some (.tup [.c (.str (strOf (imgOf id body))), .c (.int .i64 0)], h') ∧ Ext h h' := by
  have bneI : ∀ {a b : Int}, (a != b) = !(a == b) := rfl
  have c1 : decide ((id : Int) < 0) = false := decide_eq_false (by omega)
  have c2 : decide ((id : Int) ≥ 48) = false := decide_eq_false (by omega)
  have c3 : ((body.length : Int) == 16) = true := by rw [hl]; rfl
  have ls : ∀ loc vals H, evPure loc (.c (.str (strOf body)) :: vals) H (.len .str (.val 0)) = some (.c (.int .i64 (body.length : Int))) := fun _ _ _ => by rw [← strOf_len body]; rfl
  have w1 : IntKind.i64.wrap ((id : Int) + 1) = ((id + 1 : Nat) : Int) := succI (by omega)
  have w2 : IntKind.u32.wrap ((id + 1 : Nat) : Int) = ((BitVec.ofNat 32 (id + 1)).toNat : Int) := by
    rw [BitVec.toNat_ofNat]
    simp only [IntKind.wrap, IntKind.bits, IntKind.signed]
    simp
  obtain ⟨h1, e1, x1⟩ := rlow_ok (N := N) (d := d + 2) (h := h) (BitVec.ofNat 32 (id + 1)) (k := 2) (by omega) (by omega) (by omega)
  have hb := head_bytes ⟨id, hid⟩
  have e1' : evCallT table 24 N (d + 3) 40 [.c (.int .u32 ((BitVec.ofNat 32 (id + 1)).toNat : Int)), .c (.int .i64 2)] h = some (.c (.str (strOf [BitVec.ofNat 8 (id + 1), 0#8])), h1) := by
    have : (List.range 2).map (byteOf (BitVec.ofNat 32 (id + 1))) = [BitVec.ofNat 8 (id + 1), 0#8] := by
      rw [show List.range 2 = [0, 1] from rfl, List.map_cons, List.map_cons, List.map_nil, hb.1, hb.2]
    rw [this] at e1; exact e1
  have cat : ((strOf [BitVec.ofNat 8 (id + 1), 0#8] ++ [90, 165]) ++ strOf body) = strOf (headOf id body) := by
    unfold headOf; rw [strOf_app]; rfl
  have hhl : (headOf id body).length = 20 := by simp [headOf, hl]
  have e2 : evCallT table 24 N (d + 3) 41 [.c (.str (strOf (headOf id body)))] h1 = some (.c (.int .u32 ((bof (headOf id body)).toNat : Int)), h1) := rof_ok (by omega) (by omega)
  obtain ⟨h2, e3, x2⟩ := rlow_ok (N := N) (d := d + 2) (h := h1) (bof (headOf id body)) (k := 4) (by omega) (by omega) (by omega)
  have e3' : evCallT table 24 N (d + 3) 40 [.c (.int .u32 ((bof (headOf id body)).toNat : Int)), .c (.int .i64 4)] h1 = some (.c (.str (strOf [byteOf (bof (headOf id body)) 0, byteOf (bof (headOf id body)) 1, byteOf (bof (headOf id body)) 2, byteOf (bof (headOf id body)) 3])), h2) := e3
  have cat2 : strOf [byteOf (bof (headOf id body)) 0, byteOf (bof (headOf id body)) 1, byteOf (bof (headOf id body)) 2, byteOf (bof (headOf id body)) 3] ++ strOf (headOf id body) = strOf (imgOf id body) := by unfold imgOf; rw [strOf_app]
  have q1 : Nat.ble (strOf [BitVec.ofNat 8 (id + 1), 0#8]).length 1073741822 = true := by rw [strOf_len]; rfl
  rw [evCallT_eq (F := ir26) rfl rfl rfl]
  unfold ir26
  rw [bodyK_eq]
  have q2 : Nat.ble ((strOf [BitVec.ofNat 8 (id + 1), 0#8] ++ [90, 165]).length + (strOf body).length) 1073741824 = true := by rw [List.length_append, strOf_len, strOf_len, hl]; rfl
  have q3 : Nat.ble ((strOf [byteOf (bof (headOf id body)) 0, byteOf (bof (headOf id body)) 1, byteOf (bof (headOf id body)) 2, byteOf (bof (headOf id body)) 3]).length + (strOf (headOf id body)).length) 1073741824 = true := by rw [strOf_len, strOf_len, hhl]; rfl
  simp only [enter_eq, ev_seq, seqK_norm, seqK_exit, seqK_ret, ev_reg, ev_cond, condK_true, condK_false, ev_block, blockK_norm, blockK_ret, blockK_exit, ev_loop, ev_skip, ev_exit, ev_ret, regK_cons, regK_nil, guard_none, guard_some, regG_true, regG_false, regO_some, op_mov, op_conv, op_bin, op_bsl, op_box, op_mks, op_s2b, op_pick, op_un, op_eq, op_len, op_ext, op_load, op_iaddr, op_slice, op_b2s, op_idxS, op_mx, op_mn, op_call, op_store, op_app, op_copy, args_eq, result_one', rv_loc, finish_norm, finish_ret, outK_some, keep_true, keep_false, keep_nil, p_bin, p_pick, p_un, p_eq, p_conv, evNew, pureK_some, newK_some, X.eval, set_none, set_some, List.map_cons, List.map_nil, List.getD_cons_zero, List.getD_cons_succ, List.getD_nil, List.set_cons_zero, List.set_cons_succ, binCV, unCV, isShift, intArithF_eq, shiftF_eq, wrapF_eq, intArith, shift, eqVal, bound, asNat_cast, cond_true, cond_false, BEq.rfl, beq_self_eq_true, evalParts, fillParts, AV.cells, AV.ofCells, XV.av, AV.xv, List.length_cons, List.length_nil, zeros, patch, setMany, List.nil_append, List.cons_append, Nat.ble, Nat.add_eq, Nat.zero_add, Nat.add_zero, Nat.reduceAdd, Nat.reduceMul, Nat.reduceSub, Nat.ble_eq, Nat.reduceLeDiff, Nat.reduceBEq, Int.reduceBEq, Int.reduceNeg, Bool.and_true, Bool.and_false, Bool.true_and, Bool.false_and, Bool.not_true, Bool.not_false, Bool.true_eq_false, Bool.false_eq_true, Int.reduceLT, Int.reduceLE, Int.reduceGT, Int.reduceGE, decide_true, decide_false, Bool.not_eq_true, loopN_norm, loopN_exit, tf, ft, ff, q1, q2, q3, c1, c2, ls, bneI, c3, w1, w2, e1', cat, e2, e3', cat2, result, evResults]
  exact ⟨_, rfl, x1.trans x2⟩
theorem rblank_ok : ∃ h', evCallT table 24 N (d + 1) 30 [] h = some (.c (.str (strOf (List.replicate 24 0#8))), h') ∧ Ext h h' := by
  have a24 : asNat (.c (.int .i64 24)) = some 24 := rfl
  have g : (h.new (.cells (u8s (List.replicate 24 0#8)))).get h.next = some (.cells (u8s (List.replicate 24 0#8))) := get_new_at
  have rr : (h.new (.cells (u8s (List.replicate 24 0#8)))).read h.next 0 24 = some (u8s (List.replicate 24 0#8)) := by
    have := read_u8 (o := 0) (n := 24) g (by simp); simpa using this
  have hz : zeros 24 [.int .u8 0] = u8s (List.replicate 24 0#8) := zeros8 24
  obtain ⟨H, hH⟩ : ∃ H, H = h.new (.cells (u8s (List.replicate 24 0#8))) := ⟨_, rfl⟩
  rw [← hH] at rr
  have sb : ∀ loc vals, evPure loc (.c (.sl h.next 0 24 (.ex 24)) :: vals) H (.b2s (.val 0)) = some (.c (.str (strOf (List.replicate 24 0#8)))) := fun _ _ => b2s_at rfl rr
  have nw : ∀ loc vals, evNew loc vals (.mks 1 [.int .u8 0] (.k (.c (.int .i64 24))) (.k (.c (.int .i64 24)))) = some ((fun i => .c (.sl i 0 24 (.ex 24))), .cells (u8s (List.replicate 24 0#8))) := fun loc vals => by
    rw [← hz]; rfl
  rw [evCallT_eq (F := ir30) rfl rfl rfl]
  unfold ir30
  rw [bodyK_eq]
  simp only [enter_eq, ev_seq, seqK_norm, seqK_ret, ev_reg, ev_ret, regK_cons, regK_nil, guard_none, regG_true, regO_some, op_mov, op_mks, op_b2s, nw, newK_some, ← hH, X.eval, List.getD_cons_zero, List.getD_cons_succ, List.map_cons, List.map_nil, sb, pureK_some, set_none, set_some, List.set_cons_zero, List.set_cons_succ, finish_ret, finish_norm, result_one', rv_loc, outK_some]
  exact ⟨_, rfl, by rw [hH]; exact (Ext.refl _).new _⟩

theorem ropen_no {id : Int} {img : List (BitVec 8)} (hn : ¬ (0 ≤ id ∧ id < 48 ∧ img.length = 24)) : evCallT table 24 N (d + 1) 28 [.c (.int .i64 id), .c (.str (strOf img))] h = some (.tup [.c (.str []), .c (.int .i64 1)], h) := by
  have bneI : ∀ {a b : Int}, (a != b) = !(a == b) := rfl
  rw [evCallT_eq (F := ir28) rfl rfl rfl]
  unfold ir28
  rw [bodyK_eq]
  by_cases c1 : id < 0
  · simp only [enter_eq, ev_seq, seqK_norm, seqK_exit, seqK_ret, ev_reg, ev_cond, condK_true, condK_false, ev_block, blockK_norm, blockK_ret, blockK_exit, ev_loop, ev_skip, ev_exit, ev_ret, regK_cons, regK_nil, guard_none, guard_some, regG_true, regG_false, regO_some, op_mov, op_conv, op_bin, op_bsl, op_box, op_mks, op_s2b, op_pick, op_un, op_eq, op_len, op_ext, op_load, op_iaddr, op_slice, op_b2s, op_idxS, op_mx, op_mn, op_call, op_store, op_app, op_copy, args_eq, result_one', rv_loc, finish_norm, finish_ret, outK_some, keep_true, keep_false, keep_nil, p_bin, p_pick, p_un, p_eq, p_conv, evNew, pureK_some, newK_some, X.eval, set_none, set_some, List.map_cons, List.map_nil, List.getD_cons_zero, List.getD_cons_succ, List.getD_nil, List.set_cons_zero, List.set_cons_succ, binCV, unCV, isShift, intArithF_eq, shiftF_eq, wrapF_eq, intArith, shift, eqVal, bound, asNat_cast, cond_true, cond_false, BEq.rfl, beq_self_eq_true, evalParts, fillParts, AV.cells, AV.ofCells, XV.av, AV.xv, List.length_cons, List.length_nil, zeros, patch, setMany, List.nil_append, List.cons_append, Nat.ble, Nat.add_eq, Nat.zero_add, Nat.add_zero, Nat.reduceAdd, Nat.reduceMul, Nat.reduceSub, Nat.ble_eq, Nat.reduceLeDiff, Nat.reduceBEq, Int.reduceBEq, Int.reduceNeg, Bool.and_true, Bool.and_false, Bool.true_and, Bool.false_and, Bool.not_true, Bool.not_false, Bool.true_eq_false, Bool.false_eq_true, Int.reduceLT, Int.reduceLE, Int.reduceGT, Int.reduceGE, decide_true, decide_false, Bool.not_eq_true, loopN_norm, loopN_exit, tf, ft, ff, decide_eq_true c1, result, evResults]
  by_cases c2 : id ≥ 48
  · simp only [enter_eq, ev_seq, seqK_norm, seqK_exit, seqK_ret, ev_reg, ev_cond, condK_true, condK_false, ev_block, blockK_norm, blockK_ret, blockK_exit, ev_loop, ev_skip, ev_exit, ev_ret, regK_cons, regK_nil, guard_none, guard_some, regG_true, regG_false, regO_some, op_mov, op_conv, op_bin, op_bsl, op_box, op_mks, op_s2b, op_pick, op_un, op_eq, op_len, op_ext, op_load, op_iaddr, op_slice, op_b2s, op_idxS, op_mx, op_mn, op_call, op_store, op_app, op_copy, args_eq, result_one', rv_loc, finish_norm, finish_ret, outK_some, keep_true, keep_false, keep_nil, p_bin, p_pick, p_un, p_eq, p_conv, evNew, pureK_some, newK_some, X.eval, set_none, set_some, List.map_cons, List.map_nil, List.getD_cons_zero, List.getD_cons_succ, List.getD_nil, List.set_cons_zero, List.set_cons_succ, binCV, unCV, isShift, intArithF_eq, shiftF_eq, wrapF_eq, intArith, shift, eqVal, bound, asNat_cast, cond_true, cond_false, BEq.rfl, beq_self_eq_true, evalParts, fillParts, AV.cells, AV.ofCells, XV.av, AV.xv, List.length_cons, List.length_nil, zeros, patch, setMany, List.nil_append, List.cons_append, Nat.ble, Nat.add_eq, Nat.zero_add, Nat.add_zero, Nat.reduceAdd, Nat.reduceMul, Nat.reduceSub, Nat.ble_eq, Nat.reduceLeDiff, Nat.reduceBEq, Int.reduceBEq, Int.reduceNeg, Bool.and_true, Bool.and_false, Bool.true_and, Bool.false_and, Bool.not_true, Bool.not_false, Bool.true_eq_false, Bool.false_eq_true, Int.reduceLT, Int.reduceLE, Int.reduceGT, Int.reduceGE, decide_true, decide_false, Bool.not_eq_true, loopN_norm, loopN_exit, tf, ft, ff, decide_eq_false c1, decide_eq_true c2, result, evResults]
  have c3 : ((img.length : Int) == 24) = false := by simp only [beq_eq_false_iff_ne, ne_eq]; omega
  have ls : ∀ loc vals H, evPure loc (.c (.str (strOf img)) :: vals) H (.len .str (.val 0)) = some (.c (.int .i64 (img.length : Int))) := fun _ _ _ => by rw [← strOf_len img]; rfl
  simp only [enter_eq, ev_seq, seqK_norm, seqK_exit, seqK_ret, ev_reg, ev_cond, condK_true, condK_false, ev_block, blockK_norm, blockK_ret, blockK_exit, ev_loop, ev_skip, ev_exit, ev_ret, regK_cons, regK_nil, guard_none, guard_some, regG_true, regG_false, regO_some, op_mov, op_conv, op_bin, op_bsl, op_box, op_mks, op_s2b, op_pick, op_un, op_eq, op_len, op_ext, op_load, op_iaddr, op_slice, op_b2s, op_idxS, op_mx, op_mn, op_call, op_store, op_app, op_copy, args_eq, result_one', rv_loc, finish_norm, finish_ret, outK_some, keep_true, keep_false, keep_nil, p_bin, p_pick, p_un, p_eq, p_conv, evNew, pureK_some, newK_some, X.eval, set_none, set_some, List.map_cons, List.map_nil, List.getD_cons_zero, List.getD_cons_succ, List.getD_nil, List.set_cons_zero, List.set_cons_succ, binCV, unCV, isShift, intArithF_eq, shiftF_eq, wrapF_eq, intArith, shift, eqVal, bound, asNat_cast, cond_true, cond_false, BEq.rfl, beq_self_eq_true, evalParts, fillParts, AV.cells, AV.ofCells, XV.av, AV.xv, List.length_cons, List.length_nil, zeros, patch, setMany, List.nil_append, List.cons_append, Nat.ble, Nat.add_eq, Nat.zero_add, Nat.add_zero, Nat.reduceAdd, Nat.reduceMul, Nat.reduceSub, Nat.ble_eq, Nat.reduceLeDiff, Nat.reduceBEq, Int.reduceBEq, Int.reduceNeg, Bool.and_true, Bool.and_false, Bool.true_and, Bool.false_and, Bool.not_true, Bool.not_false, Bool.true_eq_false, Bool.false_eq_true, Int.reduceLT, Int.reduceLE, Int.reduceGT, Int.reduceGE, decide_true, decide_false, Bool.not_eq_true, loopN_norm, loopN_exit, tf, ft, ff, decide_eq_false c1, decide_eq_false c2, ls, bneI, c3, result, evResults]

theorem ropen_ok {id : Nat} (hid : id < 48) {img : List (BitVec 8)} (hl : img.length = 24) (hN : 40 ≤ N) : ∃ h', evCallT table 24 N (d + 5) 28 [.c (.int .i64 (id : Int)), .c (.str (strOf img))] h =
    some (.tup [.c (.str (if img = List.replicate 24 0#8 then [] else if imgOf id (img.drop 8) = img then strOf (img.drop 8) else [])), .c (.int .i64 (if img = List.replicate 24 0#8 then 11 else if imgOf id (img.drop 8) = img then 0 else 10))], h') ∧ Ext h h' := by
  have bneI : ∀ {a b : Int}, (a != b) = !(a == b) := rfl
  have bneS : ∀ {a b : List Nat}, (a != b) = !(a == b) := rfl
  have c1 : decide ((id : Int) < 0) = false := decide_eq_false (by omega)
  have c2 : decide ((id : Int) ≥ 48) = false := decide_eq_false (by omega)
  have c3 : ((img.length : Int) == 24) = true := by rw [hl]; rfl
  have ls : ∀ loc vals H, evPure loc (.c (.str (strOf img)) :: vals) H (.len .str (.val 0)) = some (.c (.int .i64 (img.length : Int))) := fun _ _ _ => by rw [← strOf_len img]; rfl
  obtain ⟨h1, e1, x1⟩ := rblank_ok (N := N) (d := d + 3) (h := h)
  have q1 := strOf_beq img (List.replicate 24 0#8)
  have sd : (strOf img).drop 8 = strOf (img.drop 8) := by simp [strOf, List.map_drop]
  have ss : ∀ loc vals H, evPure loc (.c (.str (strOf img)) :: vals) H (.sstr (.val 0) (some (.k (.c (.int .i64 8)))) none) = some (.c (.str (strOf (img.drop 8)))) := fun loc vals H => by
    have b1 : Nat.ble 8 (strOf img).length = true := by rw [strOf_len, hl]; rfl
    have b2 : Nat.ble (strOf img).length (strOf img).length = true := Nat.ble_eq_true_of_le (Nat.le_refl _)
    simp only [evPure, X.eval, List.getD_cons_zero, bound, asNat, b1, b2, Bool.true_and, cond_true]
    rw [List.take_of_length_le (by simp), sd]
  obtain ⟨h2, e2, x2⟩ := rseal_ok (N := N) (d := d) (h := h1) hid (body := img.drop 8) (by simp [hl]) hN
  have q2 := strOf_beq (imgOf id (img.drop 8)) img
  rw [evCallT_eq (F := ir28) rfl rfl rfl]
  unfold ir28
  rw [bodyK_eq]
  by_cases hb : img = List.replicate 24 0#8
  · rw [decide_eq_true hb] at q1
    rw [if_pos hb, if_pos hb]
    simp only [enter_eq, ev_seq, seqK_norm, seqK_exit, seqK_ret, ev_reg, ev_cond, condK_true, condK_false, ev_block, blockK_norm, blockK_ret, blockK_exit, ev_loop, ev_skip, ev_exit, ev_ret, regK_cons, regK_nil, guard_none, guard_some, regG_true, regG_false, regO_some, op_mov, op_conv, op_bin, op_bsl, op_box, op_mks, op_s2b, op_pick, op_un, op_eq, op_len, op_ext, op_load, op_iaddr, op_slice, op_b2s, op_idxS, op_mx, op_mn, op_call, op_store, op_app, op_copy, args_eq, result_one', rv_loc, finish_norm, finish_ret, outK_some, keep_true, keep_false, keep_nil, p_bin, p_pick, p_un, p_eq, p_conv, evNew, pureK_some, newK_some, X.eval, set_none, set_some, List.map_cons, List.map_nil, List.getD_cons_zero, List.getD_cons_succ, List.getD_nil, List.set_cons_zero, List.set_cons_succ, binCV, unCV, isShift, intArithF_eq, shiftF_eq, wrapF_eq, intArith, shift, eqVal, bound, asNat_cast, cond_true, cond_false, BEq.rfl, beq_self_eq_true, evalParts, fillParts, AV.cells, AV.ofCells, XV.av, AV.xv, List.length_cons, List.length_nil, zeros, patch, setMany, List.nil_append, List.cons_append, Nat.ble, Nat.add_eq, Nat.zero_add, Nat.add_zero, Nat.reduceAdd, Nat.reduceMul, Nat.reduceSub, Nat.ble_eq, Nat.reduceLeDiff, Nat.reduceBEq, Int.reduceBEq, Int.reduceNeg, Bool.and_true, Bool.and_false, Bool.true_and, Bool.false_and, Bool.not_true, Bool.not_false, Bool.true_eq_false, Bool.false_eq_true, Int.reduceLT, Int.reduceLE, Int.reduceGT, Int.reduceGE, decide_true, decide_false, Bool.not_eq_true, loopN_norm, loopN_exit, tf, ft, ff, c1, c2, ls, bneI, c3, e1, q1, result, evResults]
    exact ⟨_, rfl, x1⟩
  · rw [decide_eq_false hb] at q1
    rw [if_neg hb, if_neg hb]
    by_cases hi : imgOf id (img.drop 8) = img
    · rw [decide_eq_true hi] at q2
      rw [if_pos hi, if_pos hi]
      simp only [enter_eq, ev_seq, seqK_norm, seqK_exit, seqK_ret, ev_reg, ev_cond, condK_true, condK_false, ev_block, blockK_norm, blockK_ret, blockK_exit, ev_loop, ev_skip, ev_exit, ev_ret, regK_cons, regK_nil, guard_none, guard_some, regG_true, regG_false, regO_some, op_mov, op_conv, op_bin, op_bsl, op_box, op_mks, op_s2b, op_pick, op_un, op_eq, op_len, op_ext, op_load, op_iaddr, op_slice, op_b2s, op_idxS, op_mx, op_mn, op_call, op_store, op_app, op_copy, args_eq, result_one', rv_loc, finish_norm, finish_ret, outK_some, keep_true, keep_false, keep_nil, p_bin, p_pick, p_un, p_eq, p_conv, evNew, pureK_some, newK_some, X.eval, set_none, set_some, List.map_cons, List.map_nil, List.getD_cons_zero, List.getD_cons_succ, List.getD_nil, List.set_cons_zero, List.set_cons_succ, binCV, unCV, isShift, intArithF_eq, shiftF_eq, wrapF_eq, intArith, shift, eqVal, bound, asNat_cast, cond_true, cond_false, BEq.rfl, beq_self_eq_true, evalParts, fillParts, AV.cells, AV.ofCells, XV.av, AV.xv, List.length_cons, List.length_nil, zeros, patch, setMany, List.nil_append, List.cons_append, Nat.ble, Nat.add_eq, Nat.zero_add, Nat.add_zero, Nat.reduceAdd, Nat.reduceMul, Nat.reduceSub, Nat.ble_eq, Nat.reduceLeDiff, Nat.reduceBEq, Int.reduceBEq, Int.reduceNeg, Bool.and_true, Bool.and_false, Bool.true_and, Bool.false_and, Bool.not_true, Bool.not_false, Bool.true_eq_false, Bool.false_eq_true, Int.reduceLT, Int.reduceLE, Int.reduceGT, Int.reduceGE, decide_true, decide_false, Bool.not_eq_true, loopN_norm, loopN_exit, tf, ft, ff, c1, c2, ls, bneI, c3, e1, q1, op_sstr, ss, e2, op_ext, p_ext, List.getElem?_cons_zero, List.getElem?_cons_succ, bneS, q2, result, evResults]
      exact ⟨_, rfl, x1.trans x2⟩
    · rw [decide_eq_false hi] at q2
      rw [if_neg hi, if_neg hi]
      simp only [enter_eq, ev_seq, seqK_norm, seqK_exit, seqK_ret, ev_reg, ev_cond, condK_true, condK_false, ev_block, blockK_norm, blockK_ret, blockK_exit, ev_loop, ev_skip, ev_exit, ev_ret, regK_cons, regK_nil, guard_none, guard_some, regG_true, regG_false, regO_some, op_mov, op_conv, op_bin, op_bsl, op_box, op_mks, op_s2b, op_pick, op_un, op_eq, op_len, op_ext, op_load, op_iaddr, op_slice, op_b2s, op_idxS, op_mx, op_mn, op_call, op_store, op_app, op_copy, args_eq, result_one', rv_loc, finish_norm, finish_ret, outK_some, keep_true, keep_false, keep_nil, p_bin, p_pick, p_un, p_eq, p_conv, evNew, pureK_some, newK_some, X.eval, set_none, set_some, List.map_cons, List.map_nil, List.getD_cons_zero, List.getD_cons_succ, List.getD_nil, List.set_cons_zero, List.set_cons_succ, binCV, unCV, isShift, intArithF_eq, shiftF_eq, wrapF_eq, intArith, shift, eqVal, bound, asNat_cast, cond_true, cond_false, BEq.rfl, beq_self_eq_true, evalParts, fillParts, AV.cells, AV.ofCells, XV.av, AV.xv, List.length_cons, List.length_nil, zeros, patch, setMany, List.nil_append, List.cons_append, Nat.ble, Nat.add_eq, Nat.zero_add, Nat.add_zero, Nat.reduceAdd, Nat.reduceMul, Nat.reduceSub, Nat.ble_eq, Nat.reduceLeDiff, Nat.reduceBEq, Int.reduceBEq, Int.reduceNeg, Bool.and_true, Bool.and_false, Bool.true_and, Bool.false_and, Bool.not_true, Bool.not_false, Bool.true_eq_false, Bool.false_eq_true, Int.reduceLT, Int.reduceLE, Int.reduceGT, Int.reduceGE, decide_true, decide_false, Bool.not_eq_true, loopN_norm, loopN_exit, tf, ft, ff, c1, c2, ls, bneI, c3, e1, q1, op_sstr, ss, e2, op_ext, p_ext, List.getElem?_cons_zero, List.getElem?_cons_succ, bneS, q2, result, evResults]
      exact ⟨_, rfl, x1.trans x2⟩
/-- All of them at once. -/
theorem Bytes.whole {h : Heap} {i o n : Nat} {c : Cap} {bs : List (BitVec 8)} (hx : Bytes h (.sl i o n c) bs) (h0 : 0 < bs.length) : n = bs.length ∧ i < h.next ∧ h.read i o n = some (u8s bs) := by
  have hs := hx.source
  rcases hx with ⟨h1, _⟩ | ⟨i', o', c', h1, h2, _⟩
  · cases h1
  · cases h1
    obtain ⟨k, hk⟩ : ∃ k, bs.length = k + 1 := ⟨bs.length - 1, by omega⟩
    refine ⟨rfl, h2, ?_⟩
    simp only [Lav.source, Nat.mul_one] at hs
    cases hr : h.read i o bs.length with
    | none => rw [hr, hk] at hs; cases hs
    | some y => rw [hr] at hs; simp only [Option.some.injEq, Prod.mk.injEq, true_and] at hs; rw [hs]
theorem Bytes.text {h : Heap} {x : CV} {bs : List (BitVec 8)} (hx : Bytes h x bs) : ∀ {H : Heap}, Ext h H → ∀ loc vals, evPure loc (.c x :: vals) H (.b2s (.val 0)) = some (.c (.str (strOf bs))) := by
  intro H e loc vals
  have hx' := hx.ext e
  by_cases h0 : 0 < bs.length
  · rcases hx' with ⟨_, rfl⟩ | ⟨i, o, c, rfl, h2, h3⟩
    · simp at h0
    · obtain ⟨_, _, hr⟩ := Bytes.whole (.inr ⟨i, o, c, rfl, h2, h3⟩) h0
      exact b2s_at rfl hr
  · have hb : bs = [] := List.eq_nil_of_length_eq_zero (by omega)
    subst hb
    rcases hx' with ⟨rfl, _⟩ | ⟨i, o, c, rfl, h2, h3⟩
    · rfl
    · show evPure loc (.c (.sl i o 0 c) :: vals) H (.b2s (.val 0)) = some (.c (.str []))
      cases hr : H.read i o 0 with
      | none => simp only [evPure, X.eval, List.getD_cons_zero, hr]
      | some l =>
        have := hx.ext e |>.source
        have : l = [] := by
          unfold Heap.read at hr
          have key : ∀ m, cut m o 0 = some l → l = [] := fun m hm => by
            unfold cut at hm
            cases hc : Nat.ble (o + 0) m.length with
            | false => rw [hc] at hm; cases hm
            | true => rw [hc] at hm; simp at hm; exact hm
          split at hr
          · exact key _ hr
          · exact key _ hr
          · cases hr
        subst this
        simp only [evPure, X.eval, List.getD_cons_zero, hr]; rfl

theorem seal_no {id : Int} {x : CV} {body : List (BitVec 8)} (hx : Bytes h x body) (hn : ¬ (0 ≤ id ∧ id < 48 ∧ body.length = 16)) : evCallT table 24 N (d + 2) 25 [.c (.int .i64 id), .c x] h = some (.tup [.c .nils, .c (.int .i64 1)], h) := by
  have bneI : ∀ {a b : Int}, (a != b) = !(a == b) := rfl
  have e0 := is_ok (N := N) (d := d) (h := h) id
  have lx : ∀ (loc vals : List AV) (h : Heap), evPure loc (.c x :: vals) h (.len .sl (.val 0)) = some (.c (.int .i64 (body.length : Int))) := fun _ _ _ => hx.len rfl
  rw [evCallT_eq (F := ir25) rfl rfl rfl]
  unfold ir25
  rw [bodyK_eq]
  by_cases c1 : id ≥ 0 ∧ id < 48
  · rw [decide_eq_true c1.1, decide_eq_true c1.2] at e0
    have c3 : ((body.length : Int) == 16) = false := by simp only [beq_eq_false_iff_ne, ne_eq]; omega
    simp only [enter_eq, ev_seq, seqK_norm, seqK_exit, seqK_ret, ev_reg, ev_cond, condK_true, condK_false, ev_block, blockK_norm, blockK_ret, blockK_exit, ev_loop, ev_skip, ev_exit, ev_ret, regK_cons, regK_nil, guard_none, guard_some, regG_true, regG_false, regO_some, op_mov, op_conv, op_bin, op_bsl, op_box, op_mks, op_s2b, op_pick, op_un, op_eq, op_len, op_ext, op_load, op_iaddr, op_slice, op_b2s, op_idxS, op_mx, op_mn, op_call, op_store, op_app, op_copy, args_eq, result_one', rv_loc, finish_norm, finish_ret, outK_some, keep_true, keep_false, keep_nil, p_bin, p_pick, p_un, p_eq, p_conv, evNew, pureK_some, newK_some, X.eval, set_none, set_some, List.map_cons, List.map_nil, List.getD_cons_zero, List.getD_cons_succ, List.getD_nil, List.set_cons_zero, List.set_cons_succ, binCV, unCV, isShift, intArithF_eq, shiftF_eq, wrapF_eq, intArith, shift, eqVal, bound, asNat_cast, cond_true, cond_false, BEq.rfl, beq_self_eq_true, evalParts, fillParts, AV.cells, AV.ofCells, XV.av, AV.xv, List.length_cons, List.length_nil, zeros, patch, setMany, List.nil_append, List.cons_append, Nat.ble, Nat.add_eq, Nat.zero_add, Nat.add_zero, Nat.reduceAdd, Nat.reduceMul, Nat.reduceSub, Nat.ble_eq, Nat.reduceLeDiff, Nat.reduceBEq, Int.reduceBEq, Int.reduceNeg, Bool.and_true, Bool.and_false, Bool.true_and, Bool.false_and, Bool.not_true, Bool.not_false, Bool.true_eq_false, Bool.false_eq_true, Int.reduceLT, Int.reduceLE, Int.reduceGT, Int.reduceGE, decide_true, decide_false, Bool.not_eq_true, loopN_norm, loopN_exit, tf, ft, ff, e0, lx, bneI, c3, result, evResults]
  · have : (decide (id ≥ 0) && decide (id < 48)) = false := by
      by_cases h0 : id ≥ 0
      · rw [decide_eq_true h0, decide_eq_false (fun h1 => c1 ⟨h0, h1⟩)]; rfl
      · rw [decide_eq_false h0]; rfl
    rw [this] at e0
    simp only [enter_eq, ev_seq, seqK_norm, seqK_exit, seqK_ret, ev_reg, ev_cond, condK_true, condK_false, ev_block, blockK_norm, blockK_ret, blockK_exit, ev_loop, ev_skip, ev_exit, ev_ret, regK_cons, regK_nil, guard_none, guard_some, regG_true, regG_false, regO_some, op_mov, op_conv, op_bin, op_bsl, op_box, op_mks, op_s2b, op_pick, op_un, op_eq, op_len, op_ext, op_load, op_iaddr, op_slice, op_b2s, op_idxS, op_mx, op_mn, op_call, op_store, op_app, op_copy, args_eq, result_one', rv_loc, finish_norm, finish_ret, outK_some, keep_true, keep_false, keep_nil, p_bin, p_pick, p_un, p_eq, p_conv, evNew, pureK_some, newK_some, X.eval, set_none, set_some, List.map_cons, List.map_nil, List.getD_cons_zero, List.getD_cons_succ, List.getD_nil, List.set_cons_zero, List.set_cons_succ, binCV, unCV, isShift, intArithF_eq, shiftF_eq, wrapF_eq, intArith, shift, eqVal, bound, asNat_cast, cond_true, cond_false, BEq.rfl, beq_self_eq_true, evalParts, fillParts, AV.cells, AV.ofCells, XV.av, AV.xv, List.length_cons, List.length_nil, zeros, patch, setMany, List.nil_append, List.cons_append, Nat.ble, Nat.add_eq, Nat.zero_add, Nat.add_zero, Nat.reduceAdd, Nat.reduceMul, Nat.reduceSub, Nat.ble_eq, Nat.reduceLeDiff, Nat.reduceBEq, Int.reduceBEq, Int.reduceNeg, Bool.and_true, Bool.and_false, Bool.true_and, Bool.false_and, Bool.not_true, Bool.not_false, Bool.true_eq_false, Bool.false_eq_true, Int.reduceLT, Int.reduceLE, Int.reduceGT, Int.reduceGE, decide_true, decide_false, Bool.not_eq_true, loopN_norm, loopN_exit, tf, ft, ff, e0, result, evResults]

theorem open_no {id : Int} {x : CV} {img : List (BitVec 8)} (hx : Bytes h x img) (hn : ¬ (0 ≤ id ∧ id < 48 ∧ img.length = 24)) : evCallT table 24 N (d + 2) 27 [.c (.int .i64 id), .c x] h = some (.tup [.c .nils, .c (.int .i64 1)], h) := by
  have bneI : ∀ {a b : Int}, (a != b) = !(a == b) := rfl
  have e0 := is_ok (N := N) (d := d) (h := h) id
  have lx : ∀ (loc vals : List AV) (h : Heap), evPure loc (.c x :: vals) h (.len .sl (.val 0)) = some (.c (.int .i64 (img.length : Int))) := fun _ _ _ => hx.len rfl
  rw [evCallT_eq (F := ir27) rfl rfl rfl]
  unfold ir27
  rw [bodyK_eq]
  by_cases c1 : id ≥ 0 ∧ id < 48
  · rw [decide_eq_true c1.1, decide_eq_true c1.2] at e0
    have c3 : ((img.length : Int) == 24) = false := by simp only [beq_eq_false_iff_ne, ne_eq]; omega
    simp only [enter_eq, ev_seq, seqK_norm, seqK_exit, seqK_ret, ev_reg, ev_cond, condK_true, condK_false, ev_block, blockK_norm, blockK_ret, blockK_exit, ev_loop, ev_skip, ev_exit, ev_ret, regK_cons, regK_nil, guard_none, guard_some, regG_true, regG_false, regO_some, op_mov, op_conv, op_bin, op_bsl, op_box, op_mks, op_s2b, op_pick, op_un, op_eq, op_len, op_ext, op_load, op_iaddr, op_slice, op_b2s, op_idxS, op_mx, op_mn, op_call, op_store, op_app, op_copy, args_eq, result_one', rv_loc, finish_norm, finish_ret, outK_some, keep_true, keep_false, keep_nil, p_bin, p_pick, p_un, p_eq, p_conv, evNew, pureK_some, newK_some, X.eval, set_none, set_some, List.map_cons, List.map_nil, List.getD_cons_zero, List.getD_cons_succ, List.getD_nil, List.set_cons_zero, List.set_cons_succ, binCV, unCV, isShift, intArithF_eq, shiftF_eq, wrapF_eq, intArith, shift, eqVal, bound, asNat_cast, cond_true, cond_false, BEq.rfl, beq_self_eq_true, evalParts, fillParts, AV.cells, AV.ofCells, XV.av, AV.xv, List.length_cons, List.length_nil, zeros, patch, setMany, List.nil_append, List.cons_append, Nat.ble, Nat.add_eq, Nat.zero_add, Nat.add_zero, Nat.reduceAdd, Nat.reduceMul, Nat.reduceSub, Nat.ble_eq, Nat.reduceLeDiff, Nat.reduceBEq, Int.reduceBEq, Int.reduceNeg, Bool.and_true, Bool.and_false, Bool.true_and, Bool.false_and, Bool.not_true, Bool.not_false, Bool.true_eq_false, Bool.false_eq_true, Int.reduceLT, Int.reduceLE, Int.reduceGT, Int.reduceGE, decide_true, decide_false, Bool.not_eq_true, loopN_norm, loopN_exit, tf, ft, ff, e0, lx, bneI, c3, result, evResults]
  · have : (decide (id ≥ 0) && decide (id < 48)) = false := by
      by_cases h0 : id ≥ 0
      · rw [decide_eq_true h0, decide_eq_false (fun h1 => c1 ⟨h0, h1⟩)]; rfl
      · rw [decide_eq_false h0]; rfl
    rw [this] at e0
    simp only [enter_eq, ev_seq, seqK_norm, seqK_exit, seqK_ret, ev_reg, ev_cond, condK_true, condK_false, ev_block, blockK_norm, blockK_ret, blockK_exit, ev_loop, ev_skip, ev_exit, ev_ret, regK_cons, regK_nil, guard_none, guard_some, regG_true, regG_false, regO_some, op_mov, op_conv, op_bin, op_bsl, op_box, op_mks, op_s2b, op_pick, op_un, op_eq, op_len, op_ext, op_load, op_iaddr, op_slice, op_b2s, op_idxS, op_mx, op_mn, op_call, op_store, op_app, op_copy, args_eq, result_one', rv_loc, finish_norm, finish_ret, outK_some, keep_true, keep_false, keep_nil, p_bin, p_pick, p_un, p_eq, p_conv, evNew, pureK_some, newK_some, X.eval, set_none, set_some, List.map_cons, List.map_nil, List.getD_cons_zero, List.getD_cons_succ, List.getD_nil, List.set_cons_zero, List.set_cons_succ, binCV, unCV, isShift, intArithF_eq, shiftF_eq, wrapF_eq, intArith, shift, eqVal, bound, asNat_cast, cond_true, cond_false, BEq.rfl, beq_self_eq_true, evalParts, fillParts, AV.cells, AV.ofCells, XV.av, AV.xv, List.length_cons, List.length_nil, zeros, patch, setMany, List.nil_append, List.cons_append, Nat.ble, Nat.add_eq, Nat.zero_add, Nat.add_zero, Nat.reduceAdd, Nat.reduceMul, Nat.reduceSub, Nat.ble_eq, Nat.reduceLeDiff, Nat.reduceBEq, Int.reduceBEq, Int.reduceNeg, Bool.and_true, Bool.and_false, Bool.true_and, Bool.false_and, Bool.not_true, Bool.not_false, Bool.true_eq_false, Bool.false_eq_true, Int.reduceLT, Int.reduceLE, Int.reduceGT, Int.reduceGE, decide_true, decide_false, Bool.not_eq_true, loopN_norm, loopN_exit, tf, ft, ff, e0, result, evResults]

theorem clone_any {j o n : Nat} {c : Cap} {bs : List (BitVec 8)} (hx : Bytes h (.sl j o n c) bs) {m : Nat} (hm : bs.length = m + 1) (hm2 : m < 1000) :
    ∃ q h', evCallT table 24 N (d + 1) 42 [.c (.sl j o n c)] h = some (.c (.sl q 0 (m + 1) (.dy 1)), h') ∧ h'.get q = some (.cells (u8s bs)) ∧ h.next ≤ q ∧ q < h'.next ∧ Ext h h' := by
  have hs := (hx.ext ((Ext.refl h).new (.cells []))).source
  rw [hm] at hs
  obtain ⟨h', a1, ⟨a2, a3⟩, a4, a5⟩ := app_new (sz := 1) (h0 := h) (h := h.new (.cells [])) (i := h.next) get_new_at (Nat.le_succ _) hs (by rw [u8s_len, hm]; simp) (by omega)
  rcases a3 with ⟨hc, _⟩ | ⟨q, hq, hg, hq1, hq2⟩
  · cases hc
  have hq' : q = h.next + 1 := by cases hq; rfl
  subst hq'
  have a1' : evApp (h.new (.cells [])) 1 (.c (.sl h.next 0 0 (.ex 0))) (.c (.sl j o n c)) = some (.c (.sl (h.next + 1) 0 (m + 1) (.dy 1)), h') := a1
  rw [evCallT_eq (F := ir42) rfl rfl rfl]
  unfold ir42
  rw [bodyK_eq]
  simp only [enter_eq, ev_seq, seqK_norm, seqK_exit, seqK_ret, ev_reg, ev_cond, condK_true, condK_false, ev_block, blockK_norm, blockK_ret, blockK_exit, ev_loop, ev_skip, ev_exit, ev_ret, regK_cons, regK_nil, guard_none, guard_some, regG_true, regG_false, regO_some, op_mov, op_conv, op_bin, op_bsl, op_box, op_mks, op_s2b, op_pick, op_un, op_eq, op_len, op_ext, op_load, op_iaddr, op_slice, op_b2s, op_idxS, op_mx, op_mn, op_call, op_store, op_app, op_copy, args_eq, result_one', rv_loc, finish_norm, finish_ret, outK_some, keep_true, keep_false, keep_nil, p_bin, p_pick, p_un, p_eq, p_conv, evNew, pureK_some, newK_some, X.eval, set_none, set_some, List.map_cons, List.map_nil, List.getD_cons_zero, List.getD_cons_succ, List.getD_nil, List.set_cons_zero, List.set_cons_succ, binCV, unCV, isShift, intArithF_eq, shiftF_eq, wrapF_eq, intArith, shift, eqVal, bound, asNat_cast, cond_true, cond_false, BEq.rfl, beq_self_eq_true, evalParts, fillParts, AV.cells, AV.ofCells, XV.av, AV.xv, List.length_cons, List.length_nil, zeros, patch, setMany, List.nil_append, List.cons_append, Nat.ble, Nat.add_eq, Nat.zero_add, Nat.add_zero, Nat.reduceAdd, Nat.reduceMul, Nat.reduceSub, Nat.ble_eq, Nat.reduceLeDiff, Nat.reduceBEq, Int.reduceBEq, Int.reduceNeg, Bool.and_true, Bool.and_false, Bool.true_and, Bool.false_and, Bool.not_true, Bool.not_false, Bool.true_eq_false, Bool.false_eq_true, Int.reduceLT, Int.reduceLE, Int.reduceGT, Int.reduceGE, decide_true, decide_false, Bool.not_eq_true, loopN_norm, loopN_exit, tf, ft, ff, a1']
  exact ⟨_, _, rfl, hg, hq1, hq2, ⟨by rw [a4]; show h.next ≤ h.next + 1 + 1; omega, fun i hi => by rw [a5 i (Nat.lt_succ_of_lt hi), get_new_old hi]⟩⟩

/-- What is in any bytes. -/
theorem open_any {i o id : Nat} {img : List (BitVec 8)} (hid : id < 48) (hx : Bytes h (.sl i o 24 (.dy 1)) img) (hl : img.length = 24) (hN : 40 ≤ N) :
    ∃ y bs h', evCallT table 24 N (d + 5) 27 [.c (.int .i64 (id : Int)), .c (.sl i o 24 (.dy 1))] h = some (.tup [.c y, .c (.int .i64 (if img = List.replicate 24 0#8 then 11 else if imgOf id (img.drop 8) = img then 0 else 10))], h') ∧ Bytes h' y bs ∧
      strOf bs = (if img = List.replicate 24 0#8 then [] else if imgOf id (img.drop 8) = img then strOf (img.drop 8) else []) ∧ Ext h h' := by
  have ll : ∀ loc vals H, evPure loc (.c (.sl i o 24 (.dy 1)) :: vals) H (.len .sl (.val 0)) = some (.c (.int .i64 24)) := fun _ _ _ => rfl
  have e0 : evCallT table 24 N (d + 4) 38 [.c (.int .i64 (id : Int))] h = some (.c (.bool true), h) := by
    rw [is_ok, decide_eq_true (show (id : Int) ≥ 0 by omega), decide_eq_true (show (id : Int) < 48 by omega)]; rfl
  have bneI : ∀ {a b : Int}, (a != b) = !(a == b) := rfl
  obtain ⟨_, iln, hw⟩ := hx.whole (by omega)
  have q24 : ((24 : Int) == 24) = true := rfl
  have L : ∀ loc, keepOnly ir27_k0 loc = [.c (.int .i64 (id : Int)), .c (.sl i o 24 (.dy 1)), .junk, .junk, .c (.int .i64 0), .junk, .junk, .junk, .junk, .junk, .junk, .junk] →
      ∃ r, loopK (evCallT table 24 N (d + 4)) N ir27_k0 ir27_l0 N loc h = some r ∧ ∃ k : Nat, k ≤ 24 ∧ (k = 24 ↔ img = List.replicate 24 0#8) ∧ ∃ a8 a9, r = (.exit 0, [.c (.int .i64 (id : Int)), .c (.sl i o 24 (.dy 1)), .junk, .junk, .c (.int .i64 (k : Int)), .junk, .junk, .junk, a8, a9, .junk, .junk], h) := by
    intro loc hloc
    refine loop_inv (n := 24) (fun k loc h' => h' = h ∧ (∀ j (hj : j < img.length), j < k → img[j] = 0#8) ∧ loc = [.c (.int .i64 (id : Int)), .c (.sl i o 24 (.dy 1)), .junk, .junk, .c (.int .i64 (k : Int)), .junk, .junk, .junk, .junk, .junk, .junk, .junk]) _ ?_ ⟨rfl, fun k _ hk => absurd hk (by omega), hloc⟩ (by omega)
    rintro k loc h' hk ⟨rfl, h0, rfl⟩
    unfold ir27_l0
    by_cases hlt : k < 24
    · have v1 : decide ((k : Int) < 24) = true := ltNat (n := 24) hlt
      have v2 := succI (i := k) (by omega)
      have m1 : Nat.blt k 24 = true := bltT hlt
      have k1 : h'.read i (o + k) 1 = some [.int .u8 ((img[k]'(by omega)).toNat : Int)] := by
        rcases hx with ⟨h1, _⟩ | ⟨i', o', c', h1, h2, h3⟩
        · cases h1
        · simp only [CV.sl.injEq] at h1
          obtain ⟨rfl, rfl, _, _⟩ := h1
          have := h3 k (img[k]'(by omega)) (by simp [hl, hlt])
          rw [Nat.mul_one] at this; exact this
      by_cases hb : img[k]'(by omega) = 0#8
      · left
        refine ⟨hlt, ?_⟩
        have w1 : (((img[k]'(by omega)).toNat : Int) == 0) = true := by rw [hb]; rfl
        simp only [enter_eq, ev_seq, seqK_norm, seqK_exit, seqK_ret, ev_reg, ev_cond, condK_true, condK_false, ev_block, blockK_norm, blockK_ret, blockK_exit, ev_loop, ev_skip, ev_exit, ev_ret, regK_cons, regK_nil, guard_none, guard_some, regG_true, regG_false, regO_some, op_mov, op_conv, op_bin, op_bsl, op_box, op_mks, op_s2b, op_pick, op_un, op_eq, op_len, op_ext, op_load, op_iaddr, op_slice, op_b2s, op_idxS, op_mx, op_mn, op_call, op_store, op_app, op_copy, args_eq, result_one', rv_loc, finish_norm, finish_ret, outK_some, keep_true, keep_false, keep_nil, p_bin, p_pick, p_un, p_eq, p_conv, evNew, pureK_some, newK_some, X.eval, set_none, set_some, List.map_cons, List.map_nil, List.getD_cons_zero, List.getD_cons_succ, List.getD_nil, List.set_cons_zero, List.set_cons_succ, binCV, unCV, isShift, intArithF_eq, shiftF_eq, wrapF_eq, intArith, shift, eqVal, bound, asNat_cast, cond_true, cond_false, BEq.rfl, beq_self_eq_true, evalParts, fillParts, AV.cells, AV.ofCells, XV.av, AV.xv, List.length_cons, List.length_nil, zeros, patch, setMany, List.nil_append, List.cons_append, Nat.ble, Nat.add_eq, Nat.zero_add, Nat.add_zero, Nat.reduceAdd, Nat.reduceMul, Nat.reduceSub, Nat.ble_eq, Nat.reduceLeDiff, Nat.reduceBEq, Int.reduceBEq, Int.reduceNeg, Bool.and_true, Bool.and_false, Bool.true_and, Bool.false_and, Bool.not_true, Bool.not_false, Bool.true_eq_false, Bool.false_eq_true, Int.reduceLT, Int.reduceLE, Int.reduceGT, Int.reduceGE, decide_true, decide_false, Bool.not_eq_true, loopN_norm, loopN_exit, tf, ft, ff, bneI, ll, v1, v2, p_iaddr, p_load, AV.ofCells, m1, Nat.mul_one, k1, w1]
        refine ⟨_, _, rfl, rfl, fun j hj hji => ?_, rfl⟩
        by_cases e : j = k
        · subst e; exact hb
        · exact h0 j hj (by omega)
      · right
        have w1 : (((img[k]'(by omega)).toNat : Int) == 0) = false := by
          have : (img[k]'(by omega)).toNat ≠ 0 := fun e => hb (BitVec.eq_of_toNat_eq e)
          simp only [beq_eq_false_iff_ne, ne_eq]; omega
        simp only [enter_eq, ev_seq, seqK_norm, seqK_exit, seqK_ret, ev_reg, ev_cond, condK_true, condK_false, ev_block, blockK_norm, blockK_ret, blockK_exit, ev_loop, ev_skip, ev_exit, ev_ret, regK_cons, regK_nil, guard_none, guard_some, regG_true, regG_false, regO_some, op_mov, op_conv, op_bin, op_bsl, op_box, op_mks, op_s2b, op_pick, op_un, op_eq, op_len, op_ext, op_load, op_iaddr, op_slice, op_b2s, op_idxS, op_mx, op_mn, op_call, op_store, op_app, op_copy, args_eq, result_one', rv_loc, finish_norm, finish_ret, outK_some, keep_true, keep_false, keep_nil, p_bin, p_pick, p_un, p_eq, p_conv, evNew, pureK_some, newK_some, X.eval, set_none, set_some, List.map_cons, List.map_nil, List.getD_cons_zero, List.getD_cons_succ, List.getD_nil, List.set_cons_zero, List.set_cons_succ, binCV, unCV, isShift, intArithF_eq, shiftF_eq, wrapF_eq, intArith, shift, eqVal, bound, asNat_cast, cond_true, cond_false, BEq.rfl, beq_self_eq_true, evalParts, fillParts, AV.cells, AV.ofCells, XV.av, AV.xv, List.length_cons, List.length_nil, zeros, patch, setMany, List.nil_append, List.cons_append, Nat.ble, Nat.add_eq, Nat.zero_add, Nat.add_zero, Nat.reduceAdd, Nat.reduceMul, Nat.reduceSub, Nat.ble_eq, Nat.reduceLeDiff, Nat.reduceBEq, Int.reduceBEq, Int.reduceNeg, Bool.and_true, Bool.and_false, Bool.true_and, Bool.false_and, Bool.not_true, Bool.not_false, Bool.true_eq_false, Bool.false_eq_true, Int.reduceLT, Int.reduceLE, Int.reduceGT, Int.reduceGE, decide_true, decide_false, Bool.not_eq_true, loopN_norm, loopN_exit, tf, ft, ff, bneI, ll, v1, v2, p_iaddr, p_load, AV.ofCells, m1, Nat.mul_one, k1, w1]
        refine ⟨_, rfl, by simp, k, by omega, ⟨fun e => by omega, fun e => ?_⟩, _, _, rfl⟩
        exfalso; apply hb
        have e2 : img[k]? = some 0#8 := by rw [e, List.getElem?_replicate, if_pos hlt]
        rw [List.getElem?_eq_getElem (by omega)] at e2
        simpa using e2
    · right
      have hk24 : k = 24 := by omega
      subst hk24
      simp only [enter_eq, ev_seq, seqK_norm, seqK_exit, seqK_ret, ev_reg, ev_cond, condK_true, condK_false, ev_block, blockK_norm, blockK_ret, blockK_exit, ev_loop, ev_skip, ev_exit, ev_ret, regK_cons, regK_nil, guard_none, guard_some, regG_true, regG_false, regO_some, op_mov, op_conv, op_bin, op_bsl, op_box, op_mks, op_s2b, op_pick, op_un, op_eq, op_len, op_ext, op_load, op_iaddr, op_slice, op_b2s, op_idxS, op_mx, op_mn, op_call, op_store, op_app, op_copy, args_eq, result_one', rv_loc, finish_norm, finish_ret, outK_some, keep_true, keep_false, keep_nil, p_bin, p_pick, p_un, p_eq, p_conv, evNew, pureK_some, newK_some, X.eval, set_none, set_some, List.map_cons, List.map_nil, List.getD_cons_zero, List.getD_cons_succ, List.getD_nil, List.set_cons_zero, List.set_cons_succ, binCV, unCV, isShift, intArithF_eq, shiftF_eq, wrapF_eq, intArith, shift, eqVal, bound, asNat_cast, cond_true, cond_false, BEq.rfl, beq_self_eq_true, evalParts, fillParts, AV.cells, AV.ofCells, XV.av, AV.xv, List.length_cons, List.length_nil, zeros, patch, setMany, List.nil_append, List.cons_append, Nat.ble, Nat.add_eq, Nat.zero_add, Nat.add_zero, Nat.reduceAdd, Nat.reduceMul, Nat.reduceSub, Nat.ble_eq, Nat.reduceLeDiff, Nat.reduceBEq, Int.reduceBEq, Int.reduceNeg, Bool.and_true, Bool.and_false, Bool.true_and, Bool.false_and, Bool.not_true, Bool.not_false, Bool.true_eq_false, Bool.false_eq_true, Int.reduceLT, Int.reduceLE, Int.reduceGT, Int.reduceGE, decide_true, decide_false, Bool.not_eq_true, loopN_norm, loopN_exit, tf, ft, ff, ll]
      refine ⟨_, rfl, by simp, 24, Nat.le_refl _, ⟨fun _ => ?_, fun _ => rfl⟩, _, _, rfl⟩
      apply List.ext_getElem?
      intro j
      rcases Nat.lt_or_ge j 24 with h1 | h1
      · rw [List.getElem?_eq_getElem (by omega), h0 j (by omega) h1, List.getElem?_replicate, if_pos h1]
      · rw [List.getElem?_eq_none (by omega), List.getElem?_eq_none (by simp; omega)]
  obtain ⟨r, hr, k, hk, hk24, a8, a9, rfl⟩ := L [.c (.int .i64 (id : Int)), .c (.sl i o 24 (.dy 1)), .c .nils, .c (.int .i64 0), .c (.int .i64 0), .tup [], .tup [], .c (.bool false), .tup [], .tup [], .tup [], .tup []] rfl
  have sl8 : ∀ loc vals H, evPure loc (.c (.sl i o 24 (.dy 1)) :: vals) H (.slice 1 (.val 0) (some (.k (.c (.int .i64 8)))) none none) = some (.c (.sl i (o + 8) 16 (.dy 1))) := fun _ _ _ => rfl
  rw [evCallT_eq (F := ir27) rfl rfl rfl]
  unfold ir27
  rw [bodyK_eq]
  by_cases hb : img = List.replicate 24 0#8
  · have w2 : ((k : Int) == 24) = true := by rw [hk24.2 hb]; rfl
    rw [if_pos hb, if_pos hb]
    simp only [enter_eq, ev_seq, seqK_norm, seqK_exit, seqK_ret, ev_reg, ev_cond, condK_true, condK_false, ev_block, blockK_norm, blockK_ret, blockK_exit, ev_loop, ev_skip, ev_exit, ev_ret, regK_cons, regK_nil, guard_none, guard_some, regG_true, regG_false, regO_some, op_mov, op_conv, op_bin, op_bsl, op_box, op_mks, op_s2b, op_pick, op_un, op_eq, op_len, op_ext, op_load, op_iaddr, op_slice, op_b2s, op_idxS, op_mx, op_mn, op_call, op_store, op_app, op_copy, args_eq, result_one', rv_loc, finish_norm, finish_ret, outK_some, keep_true, keep_false, keep_nil, p_bin, p_pick, p_un, p_eq, p_conv, evNew, pureK_some, newK_some, X.eval, set_none, set_some, List.map_cons, List.map_nil, List.getD_cons_zero, List.getD_cons_succ, List.getD_nil, List.set_cons_zero, List.set_cons_succ, binCV, unCV, isShift, intArithF_eq, shiftF_eq, wrapF_eq, intArith, shift, eqVal, bound, asNat_cast, cond_true, cond_false, BEq.rfl, beq_self_eq_true, evalParts, fillParts, AV.cells, AV.ofCells, XV.av, AV.xv, List.length_cons, List.length_nil, zeros, patch, setMany, List.nil_append, List.cons_append, Nat.ble, Nat.add_eq, Nat.zero_add, Nat.add_zero, Nat.reduceAdd, Nat.reduceMul, Nat.reduceSub, Nat.ble_eq, Nat.reduceLeDiff, Nat.reduceBEq, Int.reduceBEq, Int.reduceNeg, Bool.and_true, Bool.and_false, Bool.true_and, Bool.false_and, Bool.not_true, Bool.not_false, Bool.true_eq_false, Bool.false_eq_true, Int.reduceLT, Int.reduceLE, Int.reduceGT, Int.reduceGE, decide_true, decide_false, Bool.not_eq_true, loopN_norm, loopN_exit, tf, ft, ff, bneI, e0, ll, q24, hr, blockK_exit_eq, w2, result, evResults]
    exact ⟨.nils, [], _, rfl, .inl ⟨rfl, rfl⟩, rfl, Ext.refl _⟩
  · have w2 : ((k : Int) == 24) = false := by
      have : k ≠ 24 := fun e => hb (hk24.1 e)
      simp only [beq_eq_false_iff_ne, ne_eq]; omega
    rw [if_neg hb, if_neg hb]
    have hB : Bytes h (.sl i (o + 8) 16 (.dy 1)) (img.drop 8) := by
      have := hx.part (a := 8) (m := 16) (by omega) (.dy 1)
      rw [List.take_of_length_le (by simp [hl])] at this
      exact this
    have hdl : (img.drop 8).length = 16 := by simp [hl]
    obtain ⟨q, h1, e1, g1, q1, q2, x1⟩ := clone_any (N := N) (d := d + 3) hB (m := 15) (by omega) (by omega)
    have hC : Bytes h1 (.sl q 0 16 (.dy 1)) (img.drop 8) := by
      have := bytes_at (o := 0) (n := 16) (c := .dy 1) q2 g1 (by omega)
      simpa using this
    obtain ⟨y, h2, e2, g2, y1, y2, x2⟩ := seal_ok (N := N) (d := d) hid hC hdl hN
    have hil : (imgOf id (img.drop 8)).length = 24 := by simp [imgOf, headOf, hl]
    have r1 : h2.read y 0 24 = some (u8s (imgOf id (img.drop 8))) := by
      have := read_u8 (o := 0) (n := 24) g2 (by omega); simpa using this
    have r2 : h2.read i o 24 = some (u8s img) := by rw [(x1.trans x2).read iln]; exact hw
    have e3 : evCallT table 24 N (d + 4) 43 [.c (.sl y 0 24 (.ex 24)), .c (.sl i o 24 (.dy 1))] h2 = some (.c (.bool (decide (imgOf id (img.drop 8) = img))), h2) := equal_ok (N := N) (d := d + 3) r1 r2
    by_cases heq : imgOf id (img.drop 8) = img
    · rw [decide_eq_true heq] at e3
      rw [if_pos heq, if_pos heq]
      simp only [enter_eq, ev_seq, seqK_norm, seqK_exit, seqK_ret, ev_reg, ev_cond, condK_true, condK_false, ev_block, blockK_norm, blockK_ret, blockK_exit, ev_loop, ev_skip, ev_exit, ev_ret, regK_cons, regK_nil, guard_none, guard_some, regG_true, regG_false, regO_some, op_mov, op_conv, op_bin, op_bsl, op_box, op_mks, op_s2b, op_pick, op_un, op_eq, op_len, op_ext, op_load, op_iaddr, op_slice, op_b2s, op_idxS, op_mx, op_mn, op_call, op_store, op_app, op_copy, args_eq, result_one', rv_loc, finish_norm, finish_ret, outK_some, keep_true, keep_false, keep_nil, p_bin, p_pick, p_un, p_eq, p_conv, evNew, pureK_some, newK_some, X.eval, set_none, set_some, List.map_cons, List.map_nil, List.getD_cons_zero, List.getD_cons_succ, List.getD_nil, List.set_cons_zero, List.set_cons_succ, binCV, unCV, isShift, intArithF_eq, shiftF_eq, wrapF_eq, intArith, shift, eqVal, bound, asNat_cast, cond_true, cond_false, BEq.rfl, beq_self_eq_true, evalParts, fillParts, AV.cells, AV.ofCells, XV.av, AV.xv, List.length_cons, List.length_nil, zeros, patch, setMany, List.nil_append, List.cons_append, Nat.ble, Nat.add_eq, Nat.zero_add, Nat.add_zero, Nat.reduceAdd, Nat.reduceMul, Nat.reduceSub, Nat.ble_eq, Nat.reduceLeDiff, Nat.reduceBEq, Int.reduceBEq, Int.reduceNeg, Bool.and_true, Bool.and_false, Bool.true_and, Bool.false_and, Bool.not_true, Bool.not_false, Bool.true_eq_false, Bool.false_eq_true, Int.reduceLT, Int.reduceLE, Int.reduceGT, Int.reduceGE, decide_true, decide_false, Bool.not_eq_true, loopN_norm, loopN_exit, tf, ft, ff, bneI, e0, ll, q24, hr, blockK_exit_eq, w2, sl8, e1, e2, op_ext, p_ext, List.getElem?_cons_zero, List.getElem?_cons_succ, e3, result, evResults]
      exact ⟨_, img.drop 8, h2, rfl, hC.ext x2, rfl, x1.trans x2⟩
    · rw [decide_eq_false heq] at e3
      rw [if_neg heq, if_neg heq]
      simp only [enter_eq, ev_seq, seqK_norm, seqK_exit, seqK_ret, ev_reg, ev_cond, condK_true, condK_false, ev_block, blockK_norm, blockK_ret, blockK_exit, ev_loop, ev_skip, ev_exit, ev_ret, regK_cons, regK_nil, guard_none, guard_some, regG_true, regG_false, regO_some, op_mov, op_conv, op_bin, op_bsl, op_box, op_mks, op_s2b, op_pick, op_un, op_eq, op_len, op_ext, op_load, op_iaddr, op_slice, op_b2s, op_idxS, op_mx, op_mn, op_call, op_store, op_app, op_copy, args_eq, result_one', rv_loc, finish_norm, finish_ret, outK_some, keep_true, keep_false, keep_nil, p_bin, p_pick, p_un, p_eq, p_conv, evNew, pureK_some, newK_some, X.eval, set_none, set_some, List.map_cons, List.map_nil, List.getD_cons_zero, List.getD_cons_succ, List.getD_nil, List.set_cons_zero, List.set_cons_succ, binCV, unCV, isShift, intArithF_eq, shiftF_eq, wrapF_eq, intArith, shift, eqVal, bound, asNat_cast, cond_true, cond_false, BEq.rfl, beq_self_eq_true, evalParts, fillParts, AV.cells, AV.ofCells, XV.av, AV.xv, List.length_cons, List.length_nil, zeros, patch, setMany, List.nil_append, List.cons_append, Nat.ble, Nat.add_eq, Nat.zero_add, Nat.add_zero, Nat.reduceAdd, Nat.reduceMul, Nat.reduceSub, Nat.ble_eq, Nat.reduceLeDiff, Nat.reduceBEq, Int.reduceBEq, Int.reduceNeg, Bool.and_true, Bool.and_false, Bool.true_and, Bool.false_and, Bool.not_true, Bool.not_false, Bool.true_eq_false, Bool.false_eq_true, Int.reduceLT, Int.reduceLE, Int.reduceGT, Int.reduceGE, decide_true, decide_false, Bool.not_eq_true, loopN_norm, loopN_exit, tf, ft, ff, bneI, e0, ll, q24, hr, blockK_exit_eq, w2, sl8, e1, e2, op_ext, p_ext, List.getElem?_cons_zero, List.getElem?_cons_succ, e3, result, evResults]
      exact ⟨.nils, [], h2, rfl, .inl ⟨rfl, rfl⟩, rfl, x1.trans x2⟩

/-- Both images, both bodies are alike. -/
theorem sealBoth {id : Int} {x : CV} {body : List (BitVec 8)} (hx : Bytes h x body) (hN : 40 ≤ N) : ∃ y bs c h1 h2, evCallT table 24 N (d + 4) 25 [.c (.int .i64 id), .c x] h = some (.tup [.c y, .c (.int .i64 c)], h1) ∧ evCallT table 24 N (d + 4) 26 [.c (.int .i64 id), .c (.str (strOf body))] h1 = some (.tup [.c (.str (strOf bs)), .c (.int .i64 c)], h2) ∧ Bytes h1 y bs ∧ Ext h h1 ∧ Ext h1 h2 := by
  by_cases hc : 0 ≤ id ∧ id < 48 ∧ body.length = 16
  · obtain ⟨n, rfl⟩ : ∃ n : Nat, id = (n : Int) := ⟨id.toNat, by omega⟩
    obtain ⟨j, h1, e1, g1, j1, j2, x1⟩ := seal_ok (N := N) (d := d) (id := n) (by omega) hx hc.2.2 hN
    obtain ⟨h2, e2, x2⟩ := rseal_ok (N := N) (d := d) (h := h1) (id := n) (by omega) hc.2.2 hN
    have hil : (imgOf n body).length = 24 := by simp [imgOf, headOf, hc.2.2]
    have hB : Bytes h1 (.sl j 0 24 (.ex 24)) (imgOf n body) := by
      have := bytes_at (o := 0) (n := 24) (c := .ex 24) j2 g1 (by omega)
      simpa using this
    exact ⟨_, _, _, h1, h2, e1, e2, hB, x1, x2⟩
  · exact ⟨.nils, [], 1, h, h, seal_no (N := N) (d := d + 2) hx hc, rseal_no (N := N) (d := d + 3) hc, .inl ⟨rfl, rfl⟩, Ext.refl _, Ext.refl _⟩
theorem openBoth {id : Int} {x : CV} {img : List (BitVec 8)} (hx : Bytes h x img) (hs : x = .nils ∨ ∃ i o, x = .sl i o img.length (.dy 1)) (hN : 40 ≤ N) : ∃ y bs c h1 h2, evCallT table 24 N (d + 5) 27 [.c (.int .i64 id), .c x] h = some (.tup [.c y, .c (.int .i64 c)], h1) ∧ evCallT table 24 N (d + 5) 28 [.c (.int .i64 id), .c (.str (strOf img))] h1 = some (.tup [.c (.str (strOf bs)), .c (.int .i64 c)], h2) ∧ Bytes h1 y bs ∧ Ext h h1 ∧ Ext h1 h2 := by
  by_cases hc : 0 ≤ id ∧ id < 48 ∧ img.length = 24
  · obtain ⟨n, rfl⟩ : ∃ n : Nat, id = (n : Int) := ⟨id.toNat, by omega⟩
    obtain ⟨i, o, rfl⟩ : ∃ i o, x = .sl i o 24 (.dy 1) := by
      rcases hs with rfl | ⟨i, o, rfl⟩
      · rcases hx with ⟨_, h0⟩ | ⟨_, _, _, h1, _⟩
        · rw [h0] at hc; simp at hc
        · cases h1
      · exact ⟨i, o, by rw [hc.2.2]⟩
    obtain ⟨y, bs, h1, e1, hB, hsb, x1⟩ := open_any (N := N) (d := d) (id := n) (by omega) hx hc.2.2 hN
    obtain ⟨h2, e2, x2⟩ := ropen_ok (N := N) (d := d) (h := h1) (id := n) (by omega) (img := img) hc.2.2 hN
    rw [← hsb] at e2
    exact ⟨y, bs, _, h1, h2, e1, e2, hB, x1, x2⟩
  · exact ⟨.nils, [], 1, h, h, open_no (N := N) (d := d + 3) hx hc, ropen_no (N := N) (d := d + 4) hc, .inl ⟨rfl, rfl⟩, Ext.refl _, Ext.refl _⟩
end
end Lav
