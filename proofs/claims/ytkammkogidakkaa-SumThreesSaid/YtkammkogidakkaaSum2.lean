/-
  Layer 1: sums of many bytes.
-/
import Derived.Test.YtkammkogidakkaaSum1
import Derived.Test.YtkammkogidakkaaFwV
set_option maxRecDepth 100000
set_option linter.unusedSimpArgs false
namespace Lav
open Go (IntKind)

def bmore (s : BitVec 32) (bs : List (BitVec 8)) : BitVec 32 := bs.foldl bturn s
def bof (bs : List (BitVec 8)) : BitVec 32 := ~~~(bmore 4294967295#32 bs)

/-- A slice of bytes that may be read. -/
def Bytes (h : Heap) (x : CV) (bs : List (BitVec 8)) : Prop :=
  (x = .nils ∧ bs = []) ∨ ∃ i o c, x = .sl i o bs.length c ∧ i < h.next ∧ ∀ j b, bs[j]? = some b → h.read i (o + j * 1) 1 = some [.int .u8 (b.toNat : Int)]

theorem not32 (b : BitVec 32) : IntKind.u32.wrap ((BitVec.ofInt IntKind.u32.bits (if IntKind.u32.signed then -1 else IntKind.u32.max) ^^^ BitVec.ofInt IntKind.u32.bits (b.toNat : Int)).toNat : Int) = ((~~~b).toNat : Int) := by
  have e : BitVec.ofInt 32 (if IntKind.u32.signed then -1 else IntKind.u32.max) = BitVec.allOnes 32 := by decide
  have o : BitVec.ofInt 32 (b.toNat : Int) = b := ofInt32 b
  show IntKind.u32.wrap ((BitVec.ofInt 32 (if IntKind.u32.signed then -1 else IntKind.u32.max) ^^^ BitVec.ofInt 32 (b.toNat : Int)).toNat : Int) = _
  rw [e, o]
  have x : BitVec.allOnes 32 ^^^ b = ~~~b := BitVec.allOnes_xor
  rw [x]
  exact wrap32 _

section
variable {call : Nat → List AV → Heap → Option (AV × Heap)} {N : Nat} {h : Heap}

theorem more_body {s : BitVec 32} {b : BitVec 8} {i o n j : Nat} {c : Cap} (hj : j < n) (hn : n < 1000000) (hread : h.read i (o + j * 1) 1 = some [.int .u8 (b.toNat : Int)])
    (T : call 18 [.c (.int .u32 (s.toNat : Int)), .c (.int .u8 (b.toNat : Int))] h = some (.c (.int .u32 ((bturn s b).toNat : Int)), h)) :
    ev call N ir16_l0 [.c (.int .u32 (s.toNat : Int)), .junk, .junk, .junk, .c (.sl i o n c), .c (.int .i64 (n : Int)), .c (.int .i64 (j : Int)), .junk] h =
      some (.norm, [.c (.int .u32 ((bturn s b).toNat : Int)), .junk, .junk, .c (.int .u8 (b.toNat : Int)), .c (.sl i o n c), .c (.int .i64 (n : Int)), .c (.int .i64 ((j + 1 : Nat) : Int)), .c (.bool true)], h) := by
  have hlt : decide ((j : Int) < (n : Int)) = true := by simp; omega
  have hb : Nat.blt j n = true := Nat.ble_eq_true_of_le hj
  unfold ir16_l0
  simp only [enter_eq, ev_seq, seqK_norm, seqK_exit, seqK_ret, ev_reg, ev_cond, condK_true, condK_false, ev_block, blockK_norm, blockK_ret, blockK_exit, ev_loop, ev_skip, ev_exit, ev_ret, regK_cons, regK_nil, guard_none, guard_some, regG_true, regG_false, regO_some, op_mov, op_conv, op_bin, op_bsl, op_box, op_mks, op_s2b, op_pick, op_un, op_eq, op_len, op_ext, op_load, op_iaddr, op_slice, op_b2s, op_idxS, op_mx, op_mn, op_call, op_store, op_app, op_copy, args_eq, result_one', rv_loc, finish_norm, finish_ret, outK_some, keep_true, keep_false, keep_nil, evPure, evNew, pureK_some, newK_some, X.eval, set_none, set_some, List.map_cons, List.map_nil, List.getD_cons_zero, List.getD_cons_succ, List.getD_nil, List.set_cons_zero, List.set_cons_succ, binCV, unCV, isShift, intArithF_eq, shiftF_eq, wrapF_eq, intArith, shift, eqVal, bound, asNat_cast, cond_true, cond_false, BEq.rfl, beq_self_eq_true, evalParts, fillParts, AV.cells, AV.ofCells, XV.av, AV.xv, List.length_cons, List.length_nil, zeros, patch, setMany, List.nil_append, List.cons_append, Nat.ble, Nat.add_eq, Nat.zero_add, Nat.add_zero, Nat.reduceAdd, Nat.reduceMul, Nat.reduceSub, Nat.ble_eq, Nat.reduceLeDiff, Nat.reduceBEq, Int.reduceBEq, Int.reduceNeg, Bool.and_true, Bool.and_false, Bool.true_and, Bool.false_and, Bool.not_true, Bool.not_false, Bool.true_eq_false, Bool.false_eq_true, Int.reduceLT, Int.reduceLE, Int.reduceGT, Int.reduceGE, decide_true, decide_false, Bool.not_eq_true, loopN_norm, loopN_exit, tf, ft, ff, hlt, hb, hread, T, succ64 (show j < 1000000 by omega)]

theorem more_end {s : BitVec 32} {n : Nat} {x : CV} : ev call N ir16_l0 [.c (.int .u32 (s.toNat : Int)), .junk, .junk, .junk, .c x, .c (.int .i64 (n : Int)), .c (.int .i64 (n : Int)), .junk] h =
    some (.exit 0, [.c (.int .u32 (s.toNat : Int)), .junk, .junk, .junk, .c x, .c (.int .i64 (n : Int)), .c (.int .i64 (n : Int)), .c (.bool false)], h) := by
  have hlt : decide ((n : Int) < (n : Int)) = false := by simp
  unfold ir16_l0
  simp only [enter_eq, ev_seq, seqK_norm, seqK_exit, seqK_ret, ev_reg, ev_cond, condK_true, condK_false, ev_block, blockK_norm, blockK_ret, blockK_exit, ev_loop, ev_skip, ev_exit, ev_ret, regK_cons, regK_nil, guard_none, guard_some, regG_true, regG_false, regO_some, op_mov, op_conv, op_bin, op_bsl, op_box, op_mks, op_s2b, op_pick, op_un, op_eq, op_len, op_ext, op_load, op_iaddr, op_slice, op_b2s, op_idxS, op_mx, op_mn, op_call, op_store, op_app, op_copy, args_eq, result_one', rv_loc, finish_norm, finish_ret, outK_some, keep_true, keep_false, keep_nil, evPure, evNew, pureK_some, newK_some, X.eval, set_none, set_some, List.map_cons, List.map_nil, List.getD_cons_zero, List.getD_cons_succ, List.getD_nil, List.set_cons_zero, List.set_cons_succ, binCV, unCV, isShift, intArithF_eq, shiftF_eq, wrapF_eq, intArith, shift, eqVal, bound, asNat_cast, cond_true, cond_false, BEq.rfl, beq_self_eq_true, evalParts, fillParts, AV.cells, AV.ofCells, XV.av, AV.xv, List.length_cons, List.length_nil, zeros, patch, setMany, List.nil_append, List.cons_append, Nat.ble, Nat.add_eq, Nat.zero_add, Nat.add_zero, Nat.reduceAdd, Nat.reduceMul, Nat.reduceSub, Nat.ble_eq, Nat.reduceLeDiff, Nat.reduceBEq, Int.reduceBEq, Int.reduceNeg, Bool.and_true, Bool.and_false, Bool.true_and, Bool.false_and, Bool.not_true, Bool.not_false, Bool.true_eq_false, Bool.false_eq_true, Int.reduceLT, Int.reduceLE, Int.reduceGT, Int.reduceGE, decide_true, decide_false, Bool.not_eq_true, loopN_norm, loopN_exit, tf, ft, ff, hlt]

theorem more_loop (T : ∀ (s : BitVec 32) (c : BitVec 8) (h : Heap), call 18 [.c (.int .u32 (s.toNat : Int)), .c (.int .u8 (c.toNat : Int))] h = some (.c (.int .u32 ((bturn s c).toNat : Int)), h))
    {x : CV} {bs : List (BitVec 8)} (hx : Bytes h x bs) (hn : bs.length < 1000000) : ∀ (k j : Nat) (s : BitVec 32) (y1 y2 y3 y7 : AV) (n : Nat), j + k = bs.length →
    ∃ z3, loopK call N ir16_k0 ir16_l0 (n + k + 1) [.c (.int .u32 (s.toNat : Int)), y1, y2, y3, .c x, .c (.int .i64 (bs.length : Int)), .c (.int .i64 (j : Int)), y7] h =
      some (.exit 0, [.c (.int .u32 ((bmore s (bs.drop j)).toNat : Int)), .junk, .junk, z3, .c x, .c (.int .i64 (bs.length : Int)), .c (.int .i64 (bs.length : Int)), .c (.bool false)], h) := by
  intro k
  induction k with
  | zero =>
    intro j s y1 y2 y3 y7 n hj
    have : j = bs.length := by omega
    subst this
    rw [List.drop_length]
    exact ⟨_, loopK_end rfl more_end⟩
  | succ k ih =>
    intro j s y1 y2 y3 y7 n hj
    have hlt : j < bs.length := by omega
    have hd : bs.drop j = bs[j] :: bs.drop (j + 1) := List.drop_eq_getElem_cons hlt
    rcases hx with ⟨_, hb⟩ | ⟨i, o, c, hxe, _, hread⟩
    · subst hb; simp at hlt
    · subst hxe
      obtain ⟨z, hz⟩ := ih (j + 1) (bturn s bs[j]) .junk .junk (.c (.int .u8 (bs[j].toNat : Int))) (.c (.bool true)) n (by omega)
      refine ⟨z, (loopK_step rfl (more_body hlt hn (hread j bs[j] (by simp [hlt])) (T _ _ _))).trans ?_⟩
      rw [hd]; exact hz
end

/-- sum.More. -/
theorem more_ok {N d : Nat} {s : BitVec 32} {x : CV} {bs : List (BitVec 8)} {h : Heap} (hN : bs.length + 9 ≤ N) (hn : bs.length < 1000000) (hx : Bytes h x bs) :
    evCall table N (d + 2) 16 [.c (.int .u32 (s.toNat : Int)), .c x] h = some (.c (.int .u32 ((bmore s bs).toNat : Int)), h) := by
  obtain ⟨m, rfl⟩ : ∃ m, N = m + 9 := ⟨N - 9, by omega⟩
  have T : ∀ (s : BitVec 32) (c : BitVec 8) (h : Heap), evCall table (m + 9) (d + 1) 18 [.c (.int .u32 (s.toNat : Int)), .c (.int .u8 (c.toNat : Int))] h = some (.c (.int .u32 ((bturn s c).toNat : Int)), h) := fun s c h => turn_ok s c h
  rw [evCall_eq (F := ir16) rfl rfl]
  unfold ir16
  rw [bodyK_eq]
  obtain ⟨q, hq⟩ : ∃ q, m + 9 = q + bs.length + 1 := ⟨m + 8 - bs.length, by omega⟩
  obtain ⟨z, hz⟩ := more_loop (call := evCall table (m + 9) (d + 1)) (N := m + 9) (h := h) T hx hn bs.length 0 s (.c x) (.c (.int .u32 0)) (.tup []) (.tup []) q (by omega)
  rw [← hq] at hz
  have hz' : loopK (evCall table (m + 9) (d + 1)) (m + 9) ir16_k0 ir16_l0 (m + 9) [.c (.int .u32 (s.toNat : Int)), .c x, .c (.int .u32 0), .tup [], .c x, .c (.int .i64 (bs.length : Int)), .c (.int .i64 0), .tup []] h = _ := hz
  rw [List.drop_zero] at hz'
  have hl : evPure [.c (.int .u32 (s.toNat : Int)), .c x, .c (.int .u32 0), .tup [], .tup [], .tup [], .tup [], .tup []] [.c x] h (.len .sl (.val 0)) = some (.c (.int .i64 (bs.length : Int))) := by
    rcases hx with ⟨rfl, rfl⟩ | ⟨i, o, c, rfl, _, _⟩ <;> rfl
  simp only [enter_eq, ev_seq, seqK_norm, ev_reg, regK_cons, regK_nil, guard_none, regG_true, regO_some, op_mov, op_len, X.eval, List.map_cons, List.map_nil, List.getD_cons_zero, List.getD_cons_succ, List.getD_nil, set_none, set_some, List.set_cons_zero, List.set_cons_succ, hl, pureK_some, ev_block, ev_loop, hz', blockK_exit_eq, ev_ret, finish_ret, result_one', rv_loc, outK_some]

/-- sum.Of. -/
theorem of_ok {N d : Nat} {x : CV} {bs : List (BitVec 8)} {h : Heap} (hN : bs.length + 9 ≤ N) (hn : bs.length < 1000000) (hx : Bytes h x bs) :
    evCall table N (d + 3) 14 [.c x] h = some (.c (.int .u32 ((bof bs).toNat : Int)), h) := by
  have M : evCall table N (d + 2) 16 [.c (.int .u32 4294967295), .c x] h = some (.c (.int .u32 ((bmore 4294967295#32 bs).toNat : Int)), h) := more_ok (s := 4294967295#32) hN hn hx
  rw [evCall_eq (F := ir14) rfl rfl]
  unfold ir14
  rw [bodyK_eq]
  simp only [enter_eq, ev_seq, seqK_norm, seqK_exit, seqK_ret, ev_reg, ev_cond, condK_true, condK_false, ev_block, blockK_norm, blockK_ret, blockK_exit, ev_loop, ev_skip, ev_exit, ev_ret, regK_cons, regK_nil, guard_none, guard_some, regG_true, regG_false, regO_some, op_mov, op_conv, op_bin, op_bsl, op_box, op_mks, op_s2b, op_pick, op_un, op_eq, op_len, op_ext, op_load, op_iaddr, op_slice, op_b2s, op_idxS, op_mx, op_mn, op_call, op_store, op_app, op_copy, args_eq, result_one', rv_loc, finish_norm, finish_ret, outK_some, keep_true, keep_false, keep_nil, evPure, evNew, pureK_some, newK_some, X.eval, set_none, set_some, List.map_cons, List.map_nil, List.getD_cons_zero, List.getD_cons_succ, List.getD_nil, List.set_cons_zero, List.set_cons_succ, binCV, unCV, isShift, intArithF_eq, shiftF_eq, wrapF_eq, intArith, shift, eqVal, bound, asNat_cast, cond_true, cond_false, BEq.rfl, beq_self_eq_true, evalParts, fillParts, AV.cells, AV.ofCells, XV.av, AV.xv, List.length_cons, List.length_nil, zeros, patch, setMany, List.nil_append, List.cons_append, Nat.ble, Nat.add_eq, Nat.zero_add, Nat.add_zero, Nat.reduceAdd, Nat.reduceMul, Nat.reduceSub, Nat.ble_eq, Nat.reduceLeDiff, Nat.reduceBEq, Int.reduceBEq, Int.reduceNeg, Bool.and_true, Bool.and_false, Bool.true_and, Bool.false_and, Bool.not_true, Bool.not_false, Bool.true_eq_false, Bool.false_eq_true, Int.reduceLT, Int.reduceLE, Int.reduceGT, Int.reduceGE, decide_true, decide_false, Bool.not_eq_true, loopN_norm, loopN_exit, tf, ft, ff, M, not32]
  rfl
end Lav
