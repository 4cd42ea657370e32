/-
  Layer 1: the document's own sums.
-/
import Derived.Test.YtkammkogidakkaaSum3
set_option maxRecDepth 100000
set_option linter.unusedSimpArgs false
namespace Lav
open Go (IntKind)

section
variable {call : Nat → List AV → Heap → Option (AV × Heap)} {N : Nat} {h : Heap}

theorem rturn_body {b : BitVec 32} {i : Nat} (hi : i < 8) : ev call N ir19_l0 [.c (.int .u32 (b.toNat : Int)), .junk, .junk, .c (.int .i64 (i : Int)), .junk, .junk, .junk] h =
    some (.norm, [.c (.int .u32 ((bstep b).toNat : Int)), .junk, .junk, .c (.int .i64 ((i + 1 : Nat) : Int)), .c (.int .u32 ((b &&& 1#32).toNat : Int)), .c (.bool true), .c (.bool (low b))], h) := by
  have hlt : decide ((i : Int) < 8) = true := by simp; omega
  unfold ir19_l0
  rw [bstep_low]
  have hlow : decide (b &&& 1#32 = 1#32) = low b := rfl
  cases hb : low b <;> simp only [enter_eq, ev_seq, seqK_norm, seqK_exit, seqK_ret, ev_reg, ev_cond, condK_true, condK_false, ev_block, blockK_norm, blockK_ret, blockK_exit, ev_loop, ev_skip, ev_exit, ev_ret, regK_cons, regK_nil, guard_none, guard_some, regG_true, regG_false, regO_some, op_mov, op_conv, op_bin, op_bsl, op_box, op_mks, op_s2b, op_pick, op_un, op_eq, op_len, op_ext, op_load, op_iaddr, op_slice, op_b2s, op_idxS, op_mx, op_mn, op_call, op_store, op_app, op_copy, args_eq, result_one', rv_loc, finish_norm, finish_ret, outK_some, keep_true, keep_false, keep_nil, evPure, evNew, pureK_some, newK_some, X.eval, set_none, set_some, List.map_cons, List.map_nil, List.getD_cons_zero, List.getD_cons_succ, List.getD_nil, List.set_cons_zero, List.set_cons_succ, binCV, unCV, isShift, intArithF_eq, shiftF_eq, wrapF_eq, intArith, shift, eqVal, bound, asNat_cast, cond_true, cond_false, BEq.rfl, beq_self_eq_true, evalParts, fillParts, AV.cells, AV.ofCells, XV.av, AV.xv, List.length_cons, List.length_nil, zeros, patch, setMany, List.nil_append, List.cons_append, Nat.ble, Nat.add_eq, Nat.zero_add, Nat.add_zero, Nat.reduceAdd, Nat.reduceMul, Nat.reduceSub, Nat.ble_eq, Nat.reduceLeDiff, Nat.reduceBEq, Int.reduceBEq, Int.reduceNeg, Bool.and_true, Bool.and_false, Bool.true_and, Bool.false_and, Bool.not_true, Bool.not_false, Bool.true_eq_false, Bool.false_eq_true, Int.reduceLT, Int.reduceLE, Int.reduceGT, Int.reduceGE, decide_true, decide_false, Bool.not_eq_true, loopN_norm, loopN_exit, tf, ft, ff, hlt, succ64 (show i < 1000000 by omega), xor32k, and32, shr32, eq32k, hlow, hb, if_true, if_false] <;> rfl

theorem rturn_end {b : BitVec 32} : ev call N ir19_l0 [.c (.int .u32 (b.toNat : Int)), .junk, .junk, .c (.int .i64 8), .junk, .junk, .junk] h =
    some (.exit 0, [.c (.int .u32 (b.toNat : Int)), .junk, .junk, .c (.int .i64 8), .junk, .c (.bool false), .junk], h) := rfl

theorem rturn_loop : ∀ (j : Nat) (i : Nat) (b : BitVec 32) (y1 y2 y4 y5 y6 : AV) (n : Nat), i + j = 8 → ∃ z4, loopK call N ir19_k0 ir19_l0 (n + j + 1) [.c (.int .u32 (b.toNat : Int)), y1, y2, .c (.int .i64 (i : Int)), y4, y5, y6] h =
    some (.exit 0, [.c (.int .u32 ((bsteps j b).toNat : Int)), .junk, .junk, .c (.int .i64 8), .junk, z4, .junk], h) := by
  intro j
  induction j with
  | zero =>
    intro i b y1 y2 y4 y5 y6 n hij
    have : i = 8 := by omega
    subst this
    exact ⟨_, loopK_end rfl rturn_end⟩
  | succ j ih =>
    intro i b y1 y2 y4 y5 y6 n hij
    obtain ⟨z, hz⟩ := ih (i + 1) (bstep b) .junk .junk (.c (.int .u32 ((b &&& 1#32).toNat : Int))) (.c (.bool true)) (.c (.bool (low b))) n (by omega)
    exact ⟨z, (loopK_step rfl (rturn_body (by omega))).trans hz⟩

/-- lavaboref1.Turn. -/
theorem rturn_ok {M d : Nat} (s : BitVec 32) (c : BitVec 8) (h : Heap) : evCall table (M + 9) (d + 1) 19 [.c (.int .u32 (s.toNat : Int)), .c (.int .u8 (c.toNat : Int))] h = some (.c (.int .u32 ((bturn s c).toNat : Int)), h) := by
  rw [evCall_eq (F := ir19) rfl rfl]
  unfold ir19
  rw [bodyK_eq]
  obtain ⟨z, hz⟩ := rturn_loop (call := evCall table (M + 9) d) (N := M + 9) (h := h) 8 0 (s ^^^ c.setWidth 32) (.c (.int .u8 (c.toNat : Int))) (.c (.int .u32 0)) (.tup []) (.tup []) (.tup []) M rfl
  have hz' : loopK (evCall table (M + 9) d) (M + 9) ir19_k0 ir19_l0 (M + 9) [.c (.int .u32 ((s ^^^ c.setWidth 32).toNat : Int)), .c (.int .u8 (c.toNat : Int)), .c (.int .u32 0), .c (.int .i64 0), .tup [], .tup [], .tup []] h = _ := hz
  simp only [enter_eq, ev_seq, seqK_norm, seqK_exit, seqK_ret, ev_reg, ev_cond, condK_true, condK_false, ev_block, blockK_norm, blockK_ret, blockK_exit, ev_loop, ev_skip, ev_exit, ev_ret, regK_cons, regK_nil, guard_none, guard_some, regG_true, regG_false, regO_some, op_mov, op_conv, op_bin, op_bsl, op_box, op_mks, op_s2b, op_pick, op_un, op_eq, op_len, op_ext, op_load, op_iaddr, op_slice, op_b2s, op_idxS, op_mx, op_mn, op_call, op_store, op_app, op_copy, args_eq, result_one', rv_loc, finish_norm, finish_ret, outK_some, keep_true, keep_false, keep_nil, evPure, evNew, pureK_some, newK_some, X.eval, set_none, set_some, List.map_cons, List.map_nil, List.getD_cons_zero, List.getD_cons_succ, List.getD_nil, List.set_cons_zero, List.set_cons_succ, binCV, unCV, isShift, intArithF_eq, shiftF_eq, wrapF_eq, intArith, shift, eqVal, bound, asNat_cast, cond_true, cond_false, BEq.rfl, beq_self_eq_true, evalParts, fillParts, AV.cells, AV.ofCells, XV.av, AV.xv, List.length_cons, List.length_nil, zeros, patch, setMany, List.nil_append, List.cons_append, Nat.ble, Nat.add_eq, Nat.zero_add, Nat.add_zero, Nat.reduceAdd, Nat.reduceMul, Nat.reduceSub, Nat.ble_eq, Nat.reduceLeDiff, Nat.reduceBEq, Int.reduceBEq, Int.reduceNeg, Bool.and_true, Bool.and_false, Bool.true_and, Bool.false_and, Bool.not_true, Bool.not_false, Bool.true_eq_false, Bool.false_eq_true, Int.reduceLT, Int.reduceLE, Int.reduceGT, Int.reduceGE, decide_true, decide_false, Bool.not_eq_true, loopN_norm, loopN_exit, tf, ft, ff, conv32, xor32, hz']
  rfl

def strOf (bs : List (BitVec 8)) : List Nat := bs.map BitVec.toNat

theorem rmore_body {s : BitVec 32} {bs : List (BitVec 8)} {j : Nat} (hj : j < bs.length) (hn : bs.length < 1000000)
    (T : call 19 [.c (.int .u32 (s.toNat : Int)), .c (.int .u8 (bs[j].toNat : Int))] h = some (.c (.int .u32 ((bturn s bs[j]).toNat : Int)), h)) :
    ev call N ir17_l0 [.c (.int .u32 (s.toNat : Int)), .c (.str (strOf bs)), .junk, .c (.int .i64 (j : Int)), .junk] h =
      some (.norm, [.c (.int .u32 ((bturn s bs[j]).toNat : Int)), .c (.str (strOf bs)), .junk, .c (.int .i64 ((j + 1 : Nat) : Int)), .c (.bool true)], h) := by
  have hlen : (strOf bs).length = bs.length := by simp [strOf]
  have hlt : decide ((j : Int) < (bs.length : Int)) = true := by simp; omega
  have hg : (strOf bs)[j]? = some bs[j].toNat := by simp [strOf, hj]
  unfold ir17_l0
  simp only [enter_eq, ev_seq, seqK_norm, seqK_exit, seqK_ret, ev_reg, ev_cond, condK_true, condK_false, ev_block, blockK_norm, blockK_ret, blockK_exit, ev_loop, ev_skip, ev_exit, ev_ret, regK_cons, regK_nil, guard_none, guard_some, regG_true, regG_false, regO_some, op_mov, op_conv, op_bin, op_bsl, op_box, op_mks, op_s2b, op_pick, op_un, op_eq, op_len, op_ext, op_load, op_iaddr, op_slice, op_b2s, op_idxS, op_mx, op_mn, op_call, op_store, op_app, op_copy, args_eq, result_one', rv_loc, finish_norm, finish_ret, outK_some, keep_true, keep_false, keep_nil, evPure, evNew, pureK_some, newK_some, X.eval, set_none, set_some, List.map_cons, List.map_nil, List.getD_cons_zero, List.getD_cons_succ, List.getD_nil, List.set_cons_zero, List.set_cons_succ, binCV, unCV, isShift, intArithF_eq, shiftF_eq, wrapF_eq, intArith, shift, eqVal, bound, asNat_cast, cond_true, cond_false, BEq.rfl, beq_self_eq_true, evalParts, fillParts, AV.cells, AV.ofCells, XV.av, AV.xv, List.length_cons, List.length_nil, zeros, patch, setMany, List.nil_append, List.cons_append, Nat.ble, Nat.add_eq, Nat.zero_add, Nat.add_zero, Nat.reduceAdd, Nat.reduceMul, Nat.reduceSub, Nat.ble_eq, Nat.reduceLeDiff, Nat.reduceBEq, Int.reduceBEq, Int.reduceNeg, Bool.and_true, Bool.and_false, Bool.true_and, Bool.false_and, Bool.not_true, Bool.not_false, Bool.true_eq_false, Bool.false_eq_true, Int.reduceLT, Int.reduceLE, Int.reduceGT, Int.reduceGE, decide_true, decide_false, Bool.not_eq_true, loopN_norm, loopN_exit, tf, ft, ff, ofNat_cast, hlen, hlt, hg, T, succ64 (show j < 1000000 by omega)]

theorem rmore_end {s : BitVec 32} {bs : List (BitVec 8)} : ev call N ir17_l0 [.c (.int .u32 (s.toNat : Int)), .c (.str (strOf bs)), .junk, .c (.int .i64 (bs.length : Int)), .junk] h =
    some (.exit 0, [.c (.int .u32 (s.toNat : Int)), .c (.str (strOf bs)), .junk, .c (.int .i64 (bs.length : Int)), .c (.bool false)], h) := by
  have hlen : (strOf bs).length = bs.length := by simp [strOf]
  have hlt : decide ((bs.length : Int) < (bs.length : Int)) = false := by simp
  unfold ir17_l0
  simp only [enter_eq, ev_seq, seqK_norm, seqK_exit, seqK_ret, ev_reg, ev_cond, condK_true, condK_false, ev_block, blockK_norm, blockK_ret, blockK_exit, ev_loop, ev_skip, ev_exit, ev_ret, regK_cons, regK_nil, guard_none, guard_some, regG_true, regG_false, regO_some, op_mov, op_conv, op_bin, op_bsl, op_box, op_mks, op_s2b, op_pick, op_un, op_eq, op_len, op_ext, op_load, op_iaddr, op_slice, op_b2s, op_idxS, op_mx, op_mn, op_call, op_store, op_app, op_copy, args_eq, result_one', rv_loc, finish_norm, finish_ret, outK_some, keep_true, keep_false, keep_nil, evPure, evNew, pureK_some, newK_some, X.eval, set_none, set_some, List.map_cons, List.map_nil, List.getD_cons_zero, List.getD_cons_succ, List.getD_nil, List.set_cons_zero, List.set_cons_succ, binCV, unCV, isShift, intArithF_eq, shiftF_eq, wrapF_eq, intArith, shift, eqVal, bound, asNat_cast, cond_true, cond_false, BEq.rfl, beq_self_eq_true, evalParts, fillParts, AV.cells, AV.ofCells, XV.av, AV.xv, List.length_cons, List.length_nil, zeros, patch, setMany, List.nil_append, List.cons_append, Nat.ble, Nat.add_eq, Nat.zero_add, Nat.add_zero, Nat.reduceAdd, Nat.reduceMul, Nat.reduceSub, Nat.ble_eq, Nat.reduceLeDiff, Nat.reduceBEq, Int.reduceBEq, Int.reduceNeg, Bool.and_true, Bool.and_false, Bool.true_and, Bool.false_and, Bool.not_true, Bool.not_false, Bool.true_eq_false, Bool.false_eq_true, Int.reduceLT, Int.reduceLE, Int.reduceGT, Int.reduceGE, decide_true, decide_false, Bool.not_eq_true, loopN_norm, loopN_exit, tf, ft, ff, ofNat_cast, hlen, hlt]

theorem rmore_loop (T : ∀ (s : BitVec 32) (c : BitVec 8) (h : Heap), call 19 [.c (.int .u32 (s.toNat : Int)), .c (.int .u8 (c.toNat : Int))] h = some (.c (.int .u32 ((bturn s c).toNat : Int)), h))
    {bs : List (BitVec 8)} (hn : bs.length < 1000000) : ∀ (k j : Nat) (s : BitVec 32) (y2 y4 : AV) (n : Nat), j + k = bs.length →
    loopK call N ir17_k0 ir17_l0 (n + k + 1) [.c (.int .u32 (s.toNat : Int)), .c (.str (strOf bs)), y2, .c (.int .i64 (j : Int)), y4] h =
      some (.exit 0, [.c (.int .u32 ((bmore s (bs.drop j)).toNat : Int)), .c (.str (strOf bs)), .junk, .c (.int .i64 (bs.length : Int)), .c (.bool false)], h) := by
  intro k
  induction k with
  | zero =>
    intro j s y2 y4 n hj
    have : j = bs.length := by omega
    subst this
    rw [List.drop_length]
    exact loopK_end rfl rmore_end
  | succ k ih =>
    intro j s y2 y4 n hj
    have hlt : j < bs.length := by omega
    have hd : bs.drop j = bs[j] :: bs.drop (j + 1) := List.drop_eq_getElem_cons hlt
    refine (loopK_step rfl (rmore_body hlt hn (T _ _ _))).trans ?_
    rw [hd]; exact ih (j + 1) (bturn s bs[j]) .junk (.c (.bool true)) n (by omega)
end

/-- lavaboref1.More. -/
theorem rmore_ok {N d : Nat} {s : BitVec 32} {bs : List (BitVec 8)} {h : Heap} (hN : bs.length + 9 ≤ N) (hn : bs.length < 1000000) :
    evCall table N (d + 2) 17 [.c (.int .u32 (s.toNat : Int)), .c (.str (strOf bs))] h = some (.c (.int .u32 ((bmore s bs).toNat : Int)), h) := by
  obtain ⟨m, rfl⟩ : ∃ m, N = m + 9 := ⟨N - 9, by omega⟩
  have T : ∀ (s : BitVec 32) (c : BitVec 8) (h : Heap), evCall table (m + 9) (d + 1) 19 [.c (.int .u32 (s.toNat : Int)), .c (.int .u8 (c.toNat : Int))] h = some (.c (.int .u32 ((bturn s c).toNat : Int)), h) := fun s c h => rturn_ok s c h
  rw [evCall_eq (F := ir17) rfl rfl]
  unfold ir17
  rw [bodyK_eq]
  obtain ⟨q, hq⟩ : ∃ q, m + 9 = q + bs.length + 1 := ⟨m + 8 - bs.length, by omega⟩
  have hz := rmore_loop (call := evCall table (m + 9) (d + 1)) (N := m + 9) (h := h) T hn bs.length 0 s (.c (.int .u32 0)) (.tup []) q (by omega)
  rw [← hq] at hz
  have hz' : loopK (evCall table (m + 9) (d + 1)) (m + 9) ir17_k0 ir17_l0 (m + 9) [.c (.int .u32 (s.toNat : Int)), .c (.str (strOf bs)), .c (.int .u32 0), .c (.int .i64 0), .tup []] h = _ := hz
  rw [List.drop_zero] at hz'
  simp only [enter_eq, ev_seq, seqK_norm, seqK_exit, seqK_ret, ev_reg, ev_cond, condK_true, condK_false, ev_block, blockK_norm, blockK_ret, blockK_exit, ev_loop, ev_skip, ev_exit, ev_ret, regK_cons, regK_nil, guard_none, guard_some, regG_true, regG_false, regO_some, op_mov, op_conv, op_bin, op_bsl, op_box, op_mks, op_s2b, op_pick, op_un, op_eq, op_len, op_ext, op_load, op_iaddr, op_slice, op_b2s, op_idxS, op_mx, op_mn, op_call, op_store, op_app, op_copy, args_eq, result_one', rv_loc, finish_norm, finish_ret, outK_some, keep_true, keep_false, keep_nil, evPure, evNew, pureK_some, newK_some, X.eval, set_none, set_some, List.map_cons, List.map_nil, List.getD_cons_zero, List.getD_cons_succ, List.getD_nil, List.set_cons_zero, List.set_cons_succ, binCV, unCV, isShift, intArithF_eq, shiftF_eq, wrapF_eq, intArith, shift, eqVal, bound, asNat_cast, cond_true, cond_false, BEq.rfl, beq_self_eq_true, evalParts, fillParts, AV.cells, AV.ofCells, XV.av, AV.xv, List.length_cons, List.length_nil, zeros, patch, setMany, List.nil_append, List.cons_append, Nat.ble, Nat.add_eq, Nat.zero_add, Nat.add_zero, Nat.reduceAdd, Nat.reduceMul, Nat.reduceSub, Nat.ble_eq, Nat.reduceLeDiff, Nat.reduceBEq, Int.reduceBEq, Int.reduceNeg, Bool.and_true, Bool.and_false, Bool.true_and, Bool.false_and, Bool.not_true, Bool.not_false, Bool.true_eq_false, Bool.false_eq_true, Int.reduceLT, Int.reduceLE, Int.reduceGT, Int.reduceGE, decide_true, decide_false, Bool.not_eq_true, loopN_norm, loopN_exit, tf, ft, ff, hz', blockK_exit_eq]

/-- lavaboref1.Of. -/
theorem rof_ok {N d : Nat} {bs : List (BitVec 8)} {h : Heap} (hN : bs.length + 9 ≤ N) (hn : bs.length < 1000000) :
    evCall table N (d + 3) 15 [.c (.str (strOf bs))] h = some (.c (.int .u32 ((bof bs).toNat : Int)), h) := by
  have M : evCall table N (d + 2) 17 [.c (.int .u32 4294967295), .c (.str (strOf bs))] h = some (.c (.int .u32 ((bmore 4294967295#32 bs).toNat : Int)), h) := rmore_ok (s := 4294967295#32) hN hn
  rw [evCall_eq (F := ir15) rfl rfl]
  unfold ir15
  rw [bodyK_eq]
  simp only [enter_eq, ev_seq, seqK_norm, seqK_exit, seqK_ret, ev_reg, ev_cond, condK_true, condK_false, ev_block, blockK_norm, blockK_ret, blockK_exit, ev_loop, ev_skip, ev_exit, ev_ret, regK_cons, regK_nil, guard_none, guard_some, regG_true, regG_false, regO_some, op_mov, op_conv, op_bin, op_bsl, op_box, op_mks, op_s2b, op_pick, op_un, op_eq, op_len, op_ext, op_load, op_iaddr, op_slice, op_b2s, op_idxS, op_mx, op_mn, op_call, op_store, op_app, op_copy, args_eq, result_one', rv_loc, finish_norm, finish_ret, outK_some, keep_true, keep_false, keep_nil, evPure, evNew, pureK_some, newK_some, X.eval, set_none, set_some, List.map_cons, List.map_nil, List.getD_cons_zero, List.getD_cons_succ, List.getD_nil, List.set_cons_zero, List.set_cons_succ, binCV, unCV, isShift, intArithF_eq, shiftF_eq, wrapF_eq, intArith, shift, eqVal, bound, asNat_cast, cond_true, cond_false, BEq.rfl, beq_self_eq_true, evalParts, fillParts, AV.cells, AV.ofCells, XV.av, AV.xv, List.length_cons, List.length_nil, zeros, patch, setMany, List.nil_append, List.cons_append, Nat.ble, Nat.add_eq, Nat.zero_add, Nat.add_zero, Nat.reduceAdd, Nat.reduceMul, Nat.reduceSub, Nat.ble_eq, Nat.reduceLeDiff, Nat.reduceBEq, Int.reduceBEq, Int.reduceNeg, Bool.and_true, Bool.and_false, Bool.true_and, Bool.false_and, Bool.not_true, Bool.not_false, Bool.true_eq_false, Bool.false_eq_true, Int.reduceLT, Int.reduceLE, Int.reduceGT, Int.reduceGE, decide_true, decide_false, Bool.not_eq_true, loopN_norm, loopN_exit, tf, ft, ff, M, not32]
  rfl

/-- All the bytes, read at once. -/
def Whole (h : Heap) (x : CV) (bs : List (BitVec 8)) : Prop := ∀ i o, x = .sl i o bs.length (.dy 1) → bs ≠ [] → h.read i o bs.length = some (bs.map fun b => .int .u8 (b.toNat : Int))

theorem cut_all (l : List CV) : cut l 0 l.length = some l := by
  have hb : Nat.ble (0 + l.length) l.length = true := Nat.ble_eq_true_of_le (by omega)
  simp only [cut, hb, cond_true, List.drop_zero, List.take_length]

theorem whole_of {h h' : Heap} {x : CV} {bs : List (BitVec 8)} (r : RowIs .u8 h x h' (bs.map fun b => (b.toNat : Int))) : Whole h' x bs := by
  obtain ⟨_, _, hr⟩ := r
  intro i o hx hne
  rcases hr with ⟨rfl, rfl, hb⟩ | ⟨rfl, rfl, hb⟩ | ⟨rfl, rfl⟩
  · cases hx
  · exact absurd (by simpa using hb) hne
  · simp only [List.length_map] at hx
    cases hx
    have hg : (h.new (.ro ((bs.map fun b => (b.toNat : Int)).map (.int .u8)))).get h.next = some (.ro ((bs.map fun b => (b.toNat : Int)).map (.int .u8))) := by
      rw [Heap.get_new]; simp [upd]
    have := cut_all ((bs.map fun b => (b.toNat : Int)).map (.int .u8))
    simp only [Heap.read, hg]
    simp only [List.length_map] at this
    rw [this]; simp

theorem Whole.new {h : Heap} {x : CV} {bs : List (BitVec 8)} (b : Blk) (hx : Bytes h x bs) (hw : Whole h x bs) : Whole (h.new b) x bs := by
  intro i o he hne
  subst he
  rcases hx with ⟨h1, _⟩ | ⟨i', o', c, h1, h2, _⟩
  · cases h1
  · cases h1
    rw [read_new h2]; exact hw i o rfl hne

/-- The text of bytes. -/
theorem b2s_ok {loc vals : List AV} {h : Heap} {X : X} {x : CV} {bs : List (BitVec 8)} (hX : X.eval loc vals = .c x) (hx : Bytes h x bs) (hsh : x = .nils ∨ ∃ i o, x = .sl i o bs.length (.dy 1)) (hall : Whole h x bs) :
    evPure loc vals h (.b2s X) = some (.c (.str (strOf bs))) := by
  have hbo : ∀ bs : List (BitVec 8), bytesOf (bs.map fun b => CV.int .u8 (b.toNat : Int)) = some (strOf bs) := by
    intro bs
    induction bs with
    | nil => rfl
    | cons b bs ih =>
      have hb : Nat.blt b.toNat 256 = true := Nat.ble_eq_true_of_le b.isLt
      show bytesOf (.int .u8 (.ofNat b.toNat) :: _) = _
      simp only [bytesOf, hb, cond_true, ih]; rfl
  simp only [evPure, hX]
  rcases hsh with rfl | ⟨i, o, rfl⟩
  · have : bs = [] := by
      rcases hx with ⟨_, h1⟩ | ⟨i, o, c, h1, _⟩
      · exact h1
      · cases h1
    subst this; rfl
  · by_cases hb : bs = []
    · subst hb
      simp only [List.length_nil]
      cases hr : h.read i o 0 with
      | none => rfl
      | some l =>
        have : l = [] := by
          unfold Heap.read at hr
          have key : ∀ m, cut m o 0 = some l → l = [] := fun m hm => by
            unfold cut at hm
            cases hc : Nat.ble (o + 0) m.length with
            | false => rw [hc] at hm; cases hm
            | true => rw [hc] at hm; simp at hm; exact hm
          split at hr
          · exact key _ hr
          · exact key _ hr
          · cases hr
        subst this; rfl
    · have hh := hall i o rfl hb
      simp only [hh, hbo]
end Lav
