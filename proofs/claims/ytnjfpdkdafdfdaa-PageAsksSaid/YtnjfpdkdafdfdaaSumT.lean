/-
  Sums of bytes, beside a law's own 'told'.
-/
import Derived.Test.YtnjfpdkdafdfdaaIr
import Derived.Test.YtnjfpdkdafdfdaaFwO
set_option maxRecDepth 100000
set_option linter.unusedSimpArgs false
namespace Lav
open Go (IntKind)


/-- A sum's step over one bit. -/
def bstep (b : BitVec 32) : BitVec 32 := if (b &&& 1#32) = 1#32 then (b >>> 1) ^^^ 2748603157#32 else b >>> 1
def bsteps : Nat → BitVec 32 → BitVec 32
  | 0, b => b
  | n + 1, b => bsteps n (bstep b)
def bturn (s : BitVec 32) (c : BitVec 8) : BitVec 32 := bsteps 8 (s ^^^ c.setWidth 32)

def u32 (b : BitVec 32) : AV := .c (.int .u32 (b.toNat : Int))
def u8 (b : BitVec 8) : AV := .c (.int .u8 (b.toNat : Int))

theorem ofInt32 (b : BitVec 32) : BitVec.ofInt IntKind.u32.bits (b.toNat : Int) = b := by
  show BitVec.ofInt 32 _ = b
  rw [BitVec.ofInt_natCast]; simp

theorem wrap32 (b : BitVec 32) : IntKind.u32.wrap (b.toNat : Int) = (b.toNat : Int) := by
  have := b.isLt
  simp only [IntKind.wrap, IntKind.bits, IntKind.signed]
  simp
  omega

theorem xor32 (b c : BitVec 32) : IntKind.u32.wrap ((BitVec.ofInt IntKind.u32.bits (b.toNat : Int) ^^^ BitVec.ofInt IntKind.u32.bits (c.toNat : Int)).toNat : Int) = ((b ^^^ c).toNat : Int) := by
  rw [ofInt32, ofInt32]; exact wrap32 _
theorem xor32k (b : BitVec 32) : IntKind.u32.wrap ((BitVec.ofInt IntKind.u32.bits (b.toNat : Int) ^^^ BitVec.ofInt IntKind.u32.bits 2748603157).toNat : Int) = ((b ^^^ 2748603157#32).toNat : Int) := xor32 b 2748603157#32
theorem and32 (b : BitVec 32) : IntKind.u32.wrap ((BitVec.ofInt IntKind.u32.bits (b.toNat : Int) &&& BitVec.ofInt IntKind.u32.bits 1).toNat : Int) = ((b &&& 1#32).toNat : Int) := by
  rw [ofInt32]; exact wrap32 (b &&& 1#32)
theorem shr32 (b : BitVec 32) : (b.toNat : Int).fdiv (2 ^ (min (Int.toNat 1) IntKind.u32.bits)) = ((b >>> 1).toNat : Int) := by
  show (b.toNat : Int).fdiv 2 = _
  rw [BitVec.toNat_ushiftRight, Nat.shiftRight_eq_div_pow]
  simp [Int.fdiv_eq_ediv_of_nonneg]
theorem conv32 (c : BitVec 8) : IntKind.u32.wrap (c.toNat : Int) = ((c.setWidth 32).toNat : Int) := by
  have := c.isLt
  have e : (c.setWidth 32).toNat = c.toNat := by simp; omega
  rw [e]
  simp only [IntKind.wrap, IntKind.bits, IntKind.signed]
  simp
  omega
theorem eq32 (b c : BitVec 32) : ((b.toNat : Int) == (c.toNat : Int)) = decide (b = c) := by
  by_cases h : b = c
  · subst h; simp
  · have : b.toNat ≠ c.toNat := fun e => h (BitVec.eq_of_toNat_eq e)
    simp [h]; omega
theorem eq32k (b : BitVec 32) : ((b.toNat : Int) == 1) = decide (b = 1#32) := eq32 b 1#32
theorem succ64 {i : Nat} (h : i < 1000000) : IntKind.i64.wrap ((i : Int) + 1) = ((i + 1 : Nat) : Int) := by
  simp only [IntKind.wrap, IntKind.bits, IntKind.signed]
  simp
  omega

section
variable {call : Nat → List AV → Heap → Option (AV × Heap)} {N : Nat} {h : Heap}

theorem loopK_step {keep : List Bool} {a : IR} {n : Nat} {loc loc1 loc' : List AV} {h' : Heap} (hk : keepOnly keep loc = loc1) (he : ev call N a loc1 h = some (.norm, loc', h')) : loopK call N keep a (n + 1) loc h = loopK call N keep a n loc' h' := by
  rw [loopK_succ, hk, he]; rfl
theorem loopK_end {keep : List Bool} {a : IR} {n j : Nat} {loc loc1 loc' : List AV} {h' : Heap} (hk : keepOnly keep loc = loc1) (he : ev call N a loc1 h = some (.exit j, loc', h')) : loopK call N keep a (n + 1) loc h = some (.exit j, loc', h') := by
  rw [loopK_succ, hk, he]; rfl

def low (b : BitVec 32) : Bool := decide (b &&& 1#32 = 1#32)
theorem bstep_low (b : BitVec 32) : bstep b = if low b = true then (b >>> 1) ^^^ 2748603157#32 else b >>> 1 := by
  unfold bstep low; by_cases h : b &&& 1#32 = 1#32 <;> simp [h]

theorem turn_body {b : BitVec 32} {i : Nat} (hi : i < 8) : ev call N ir50_l0 [.c (.int .u32 (b.toNat : Int)), .junk, .junk, .c (.int .i64 (i : Int)), .junk, .junk, .junk] h =
    some (.norm, [.c (.int .u32 ((bstep b).toNat : Int)), .junk, .junk, .c (.int .i64 ((i + 1 : Nat) : Int)), .c (.bool (low b)), .c (.bool true), .c (.bool (!(low b)))], h) := by
  have hlt : decide ((i : Int) < 8) = true := by simp; omega
  unfold ir50_l0
  rw [bstep_low]
  have hlow : decide (b &&& 1#32 = 1#32) = low b := rfl
  cases hb : low b <;> simp only [enter_eq, ev_seq, seqK_norm, seqK_exit, seqK_ret, ev_reg, ev_cond, condK_true, condK_false, ev_block, blockK_norm, blockK_ret, blockK_exit, ev_loop, ev_skip, ev_exit, ev_ret, regK_cons, regK_nil, guard_none, guard_some, regG_true, regG_false, regO_some, op_mov, op_conv, op_bin, op_bsl, op_box, op_mks, op_s2b, op_pick, op_un, op_eq, op_len, op_ext, op_load, op_iaddr, op_slice, op_b2s, op_idxS, op_mx, op_mn, op_call, op_store, op_app, op_copy, args_eq, result_one', rv_loc, finish_norm, finish_ret, outK_some, keep_true, keep_false, keep_nil, evPure, evNew, pureK_some, newK_some, X.eval, set_none, set_some, List.map_cons, List.map_nil, List.getD_cons_zero, List.getD_cons_succ, List.getD_nil, List.set_cons_zero, List.set_cons_succ, binCV, unCV, isShift, intArithF_eq, shiftF_eq, wrapF_eq, intArith, shift, eqVal, bound, asNat_cast, cond_true, cond_false, BEq.rfl, beq_self_eq_true, evalParts, fillParts, AV.cells, AV.ofCells, XV.av, AV.xv, List.length_cons, List.length_nil, zeros, patch, setMany, List.nil_append, List.cons_append, Nat.ble, Nat.add_eq, Nat.zero_add, Nat.add_zero, Nat.reduceAdd, Nat.reduceMul, Nat.reduceSub, Nat.ble_eq, Nat.reduceLeDiff, Nat.reduceBEq, Int.reduceBEq, Int.reduceNeg, Bool.and_true, Bool.and_false, Bool.true_and, Bool.false_and, Bool.not_true, Bool.not_false, Bool.true_eq_false, Bool.false_eq_true, Int.reduceLT, Int.reduceLE, Int.reduceGT, Int.reduceGE, decide_true, decide_false, Bool.not_eq_true, loopN_norm, loopN_exit, tf, ft, ff, hlt, succ64 (show i < 1000000 by omega), xor32k, and32, shr32, eq32k, hlow, hb, if_true, if_false] <;> rfl

theorem turn_end {b : BitVec 32} : ev call N ir50_l0 [.c (.int .u32 (b.toNat : Int)), .junk, .junk, .c (.int .i64 8), .junk, .junk, .junk] h =
    some (.exit 0, [.c (.int .u32 (b.toNat : Int)), .junk, .junk, .c (.int .i64 8), .junk, .c (.bool false), .junk], h) := rfl

theorem turn_loop : ∀ (j : Nat) (i : Nat) (b : BitVec 32) (y1 y2 y4 y5 y6 : AV) (n : Nat), i + j = 8 → ∃ z4, loopK call N ir50_k0 ir50_l0 (n + j + 1) [.c (.int .u32 (b.toNat : Int)), y1, y2, .c (.int .i64 (i : Int)), y4, y5, y6] h =
    some (.exit 0, [.c (.int .u32 ((bsteps j b).toNat : Int)), .junk, .junk, .c (.int .i64 8), .junk, z4, .junk], h) := by
  intro j
  induction j with
  | zero =>
    intro i b y1 y2 y4 y5 y6 n hij
    have : i = 8 := by omega
    subst this
    exact ⟨_, loopK_end rfl turn_end⟩
  | succ j ih =>
    intro i b y1 y2 y4 y5 y6 n hij
    obtain ⟨z, hz⟩ := ih (i + 1) (bstep b) .junk .junk (.c (.bool (low b))) (.c (.bool true)) (.c (.bool (!(low b)))) n (by omega)
    exact ⟨z, (loopK_step rfl (turn_body (by omega))).trans hz⟩

/-- sum.Turn. -/
theorem turn_ok {M d : Nat} (s : BitVec 32) (c : BitVec 8) (h : Heap) : evCallT table 24 (M + 9) (d + 1) 50 [.c (.int .u32 (s.toNat : Int)), .c (.int .u8 (c.toNat : Int))] h = some (.c (.int .u32 ((bturn s c).toNat : Int)), h) := by
  rw [evCallT_eq (F := ir50) rfl rfl rfl]
  unfold ir50
  rw [bodyK_eq]
  obtain ⟨z, hz⟩ := turn_loop (call := evCallT table 24 (M + 9) d) (N := M + 9) (h := h) 8 0 (s ^^^ c.setWidth 32) (.c (.int .u8 (c.toNat : Int))) (.c (.int .u32 0)) (.tup []) (.tup []) (.tup []) M rfl
  have hz' : loopK (evCallT table 24 (M + 9) d) (M + 9) ir50_k0 ir50_l0 (M + 9) [.c (.int .u32 ((s ^^^ c.setWidth 32).toNat : Int)), .c (.int .u8 (c.toNat : Int)), .c (.int .u32 0), .c (.int .i64 0), .tup [], .tup [], .tup []] h = _ := hz
  simp only [enter_eq, ev_seq, seqK_norm, seqK_exit, seqK_ret, ev_reg, ev_cond, condK_true, condK_false, ev_block, blockK_norm, blockK_ret, blockK_exit, ev_loop, ev_skip, ev_exit, ev_ret, regK_cons, regK_nil, guard_none, guard_some, regG_true, regG_false, regO_some, op_mov, op_conv, op_bin, op_bsl, op_box, op_mks, op_s2b, op_pick, op_un, op_eq, op_len, op_ext, op_load, op_iaddr, op_slice, op_b2s, op_idxS, op_mx, op_mn, op_call, op_store, op_app, op_copy, args_eq, result_one', rv_loc, finish_norm, finish_ret, outK_some, keep_true, keep_false, keep_nil, evPure, evNew, pureK_some, newK_some, X.eval, set_none, set_some, List.map_cons, List.map_nil, List.getD_cons_zero, List.getD_cons_succ, List.getD_nil, List.set_cons_zero, List.set_cons_succ, binCV, unCV, isShift, intArithF_eq, shiftF_eq, wrapF_eq, intArith, shift, eqVal, bound, asNat_cast, cond_true, cond_false, BEq.rfl, beq_self_eq_true, evalParts, fillParts, AV.cells, AV.ofCells, XV.av, AV.xv, List.length_cons, List.length_nil, zeros, patch, setMany, List.nil_append, List.cons_append, Nat.ble, Nat.add_eq, Nat.zero_add, Nat.add_zero, Nat.reduceAdd, Nat.reduceMul, Nat.reduceSub, Nat.ble_eq, Nat.reduceLeDiff, Nat.reduceBEq, Int.reduceBEq, Int.reduceNeg, Bool.and_true, Bool.and_false, Bool.true_and, Bool.false_and, Bool.not_true, Bool.not_false, Bool.true_eq_false, Bool.false_eq_true, Int.reduceLT, Int.reduceLE, Int.reduceGT, Int.reduceGE, decide_true, decide_false, Bool.not_eq_true, loopN_norm, loopN_exit, tf, ft, ff, conv32, xor32, hz']
  rfl
end

/-! ### The law of sums, without the program -/
theorem low_bit (b : BitVec 32) : low b = b.getLsbD 0 := by
  unfold low
  rw [BitVec.and_one_eq_setWidth_ofBool_getLsbD]
  cases b.getLsbD 0 <;> decide

theorem bstep_msb (b : BitVec 32) : (bstep b).getLsbD 31 = low b := by
  have e : (b >>> 1).getLsbD 31 = false := by simp
  rw [bstep_low]
  cases h : low b with
  | false => simp only [Bool.false_eq_true, if_false]; exact e
  | true =>
    simp only [if_true]
    rw [BitVec.getLsbD_xor, e]
    decide

theorem bstep_inj {a b : BitVec 32} (h : bstep a = bstep b) : a = b := by
  have hl : low a = low b := by rw [← bstep_msb, ← bstep_msb, h]
  have hs : a >>> 1 = b >>> 1 := by
    rw [bstep_low, bstep_low, hl] at h
    cases hb : low b with
    | false => rw [hb] at h; simpa using h
    | true =>
      rw [hb] at h
      simp only [if_true] at h
      exact (BitVec.xor_left_inj _).1 h
  apply BitVec.eq_of_getLsbD_eq
  intro i hi
  cases i with
  | zero => rw [← low_bit, ← low_bit, hl]
  | succ i =>
    have := congrArg (fun x => BitVec.getLsbD x i) hs
    simp only [BitVec.getLsbD_ushiftRight] at this
    rw [Nat.add_comm 1 i] at this
    exact this

theorem bsteps_inj : ∀ (n : Nat) {a b : BitVec 32}, bsteps n a = bsteps n b → a = b
  | 0, _, _, h => h
  | n + 1, _, _, h => bstep_inj (bsteps_inj n h)

theorem bturn_inj {s t : BitVec 32} {c : BitVec 8} (h : bturn s c = bturn t c) : s = t := (BitVec.xor_left_inj _).1 (bsteps_inj 8 h)
theorem bturn_byte {s : BitVec 32} {c d : BitVec 8} (h : bturn s c = bturn s d) : c = d := by
  have e : c.setWidth 32 = d.setWidth 32 := (BitVec.xor_right_inj _).1 (bsteps_inj 8 h)
  have := congrArg BitVec.toNat e
  simp only [BitVec.toNat_setWidth] at this
  have h1 := c.isLt
  have h2 := d.isLt
  exact BitVec.eq_of_toNat_eq (by omega)

theorem u32_of {a : Int} (h : (Go.Lit.int .u32 a).wf = true) : ∃ b : BitVec 32, a = (b.toNat : Int) := by
  have hb : 0 ≤ a ∧ a < 4294967296 := by
    simp only [Go.Lit.wf, IntKind.min, IntKind.max, IntKind.bits, IntKind.signed] at h
    simp at h
    omega
  refine ⟨BitVec.ofNat 32 a.toNat, ?_⟩
  simp only [BitVec.toNat_ofNat]
  omega
theorem u8_of {a : Int} (h : (Go.Lit.int .u8 a).wf = true) : ∃ b : BitVec 8, a = (b.toNat : Int) := by
  have hb : 0 ≤ a ∧ a < 256 := by
    simp only [Go.Lit.wf, IntKind.min, IntKind.max, IntKind.bits, IntKind.signed] at h
    simp at h
    omega
  refine ⟨BitVec.ofNat 8 a.toNat, ?_⟩
  simp only [BitVec.toNat_ofNat]
  omega
theorem eq8 (b c : BitVec 8) : ((b.toNat : Int) == (c.toNat : Int)) = decide (b = c) := by
  by_cases h : b = c
  · subst h; simp
  · have : b.toNat ≠ c.toNat := fun e => h (BitVec.eq_of_toNat_eq e)
    simp [h]; omega


def bmore (s : BitVec 32) (bs : List (BitVec 8)) : BitVec 32 := bs.foldl bturn s
def bof (bs : List (BitVec 8)) : BitVec 32 := ~~~(bmore 4294967295#32 bs)

/-- A slice of bytes that may be read. -/
def Bytes (h : Heap) (x : CV) (bs : List (BitVec 8)) : Prop :=
  (x = .nils ∧ bs = []) ∨ ∃ i o c, x = .sl i o bs.length c ∧ i < h.next ∧ ∀ j b, bs[j]? = some b → h.read i (o + j * 1) 1 = some [.int .u8 (b.toNat : Int)]

theorem not32 (b : BitVec 32) : IntKind.u32.wrap ((BitVec.ofInt IntKind.u32.bits (if IntKind.u32.signed then -1 else IntKind.u32.max) ^^^ BitVec.ofInt IntKind.u32.bits (b.toNat : Int)).toNat : Int) = ((~~~b).toNat : Int) := by
  have e : BitVec.ofInt 32 (if IntKind.u32.signed then -1 else IntKind.u32.max) = BitVec.allOnes 32 := by decide
  have o : BitVec.ofInt 32 (b.toNat : Int) = b := ofInt32 b
  show IntKind.u32.wrap ((BitVec.ofInt 32 (if IntKind.u32.signed then -1 else IntKind.u32.max) ^^^ BitVec.ofInt 32 (b.toNat : Int)).toNat : Int) = _
  rw [e, o]
  have x : BitVec.allOnes 32 ^^^ b = ~~~b := BitVec.allOnes_xor
  rw [x]
  exact wrap32 _

section
variable {call : Nat → List AV → Heap → Option (AV × Heap)} {N : Nat} {h : Heap}

theorem more_body {s : BitVec 32} {b : BitVec 8} {i o n j : Nat} {c : Cap} (hj : j < n) (hn : n < 1000000) (hread : h.read i (o + j * 1) 1 = some [.int .u8 (b.toNat : Int)])
    (T : call 50 [.c (.int .u32 (s.toNat : Int)), .c (.int .u8 (b.toNat : Int))] h = some (.c (.int .u32 ((bturn s b).toNat : Int)), h)) :
    ev call N ir47_l0 [.c (.int .u32 (s.toNat : Int)), .junk, .junk, .junk, .c (.sl i o n c), .c (.int .i64 (n : Int)), .c (.int .i64 (j : Int)), .junk] h =
      some (.norm, [.c (.int .u32 ((bturn s b).toNat : Int)), .junk, .junk, .c (.int .u8 (b.toNat : Int)), .c (.sl i o n c), .c (.int .i64 (n : Int)), .c (.int .i64 ((j + 1 : Nat) : Int)), .c (.bool true)], h) := by
  have hlt : decide ((j : Int) < (n : Int)) = true := by simp; omega
  have hb : Nat.blt j n = true := Nat.ble_eq_true_of_le hj
  unfold ir47_l0
  simp only [enter_eq, ev_seq, seqK_norm, seqK_exit, seqK_ret, ev_reg, ev_cond, condK_true, condK_false, ev_block, blockK_norm, blockK_ret, blockK_exit, ev_loop, ev_skip, ev_exit, ev_ret, regK_cons, regK_nil, guard_none, guard_some, regG_true, regG_false, regO_some, op_mov, op_conv, op_bin, op_bsl, op_box, op_mks, op_s2b, op_pick, op_un, op_eq, op_len, op_ext, op_load, op_iaddr, op_slice, op_b2s, op_idxS, op_mx, op_mn, op_call, op_store, op_app, op_copy, args_eq, result_one', rv_loc, finish_norm, finish_ret, outK_some, keep_true, keep_false, keep_nil, evPure, evNew, pureK_some, newK_some, X.eval, set_none, set_some, List.map_cons, List.map_nil, List.getD_cons_zero, List.getD_cons_succ, List.getD_nil, List.set_cons_zero, List.set_cons_succ, binCV, unCV, isShift, intArithF_eq, shiftF_eq, wrapF_eq, intArith, shift, eqVal, bound, asNat_cast, cond_true, cond_false, BEq.rfl, beq_self_eq_true, evalParts, fillParts, AV.cells, AV.ofCells, XV.av, AV.xv, List.length_cons, List.length_nil, zeros, patch, setMany, List.nil_append, List.cons_append, Nat.ble, Nat.add_eq, Nat.zero_add, Nat.add_zero, Nat.reduceAdd, Nat.reduceMul, Nat.reduceSub, Nat.ble_eq, Nat.reduceLeDiff, Nat.reduceBEq, Int.reduceBEq, Int.reduceNeg, Bool.and_true, Bool.and_false, Bool.true_and, Bool.false_and, Bool.not_true, Bool.not_false, Bool.true_eq_false, Bool.false_eq_true, Int.reduceLT, Int.reduceLE, Int.reduceGT, Int.reduceGE, decide_true, decide_false, Bool.not_eq_true, loopN_norm, loopN_exit, tf, ft, ff, hlt, hb, hread, T, succ64 (show j < 1000000 by omega)]

theorem more_end {s : BitVec 32} {n : Nat} {x : CV} : ev call N ir47_l0 [.c (.int .u32 (s.toNat : Int)), .junk, .junk, .junk, .c x, .c (.int .i64 (n : Int)), .c (.int .i64 (n : Int)), .junk] h =
    some (.exit 0, [.c (.int .u32 (s.toNat : Int)), .junk, .junk, .junk, .c x, .c (.int .i64 (n : Int)), .c (.int .i64 (n : Int)), .c (.bool false)], h) := by
  have hlt : decide ((n : Int) < (n : Int)) = false := by simp
  unfold ir47_l0
  simp only [enter_eq, ev_seq, seqK_norm, seqK_exit, seqK_ret, ev_reg, ev_cond, condK_true, condK_false, ev_block, blockK_norm, blockK_ret, blockK_exit, ev_loop, ev_skip, ev_exit, ev_ret, regK_cons, regK_nil, guard_none, guard_some, regG_true, regG_false, regO_some, op_mov, op_conv, op_bin, op_bsl, op_box, op_mks, op_s2b, op_pick, op_un, op_eq, op_len, op_ext, op_load, op_iaddr, op_slice, op_b2s, op_idxS, op_mx, op_mn, op_call, op_store, op_app, op_copy, args_eq, result_one', rv_loc, finish_norm, finish_ret, outK_some, keep_true, keep_false, keep_nil, evPure, evNew, pureK_some, newK_some, X.eval, set_none, set_some, List.map_cons, List.map_nil, List.getD_cons_zero, List.getD_cons_succ, List.getD_nil, List.set_cons_zero, List.set_cons_succ, binCV, unCV, isShift, intArithF_eq, shiftF_eq, wrapF_eq, intArith, shift, eqVal, bound, asNat_cast, cond_true, cond_false, BEq.rfl, beq_self_eq_true, evalParts, fillParts, AV.cells, AV.ofCells, XV.av, AV.xv, List.length_cons, List.length_nil, zeros, patch, setMany, List.nil_append, List.cons_append, Nat.ble, Nat.add_eq, Nat.zero_add, Nat.add_zero, Nat.reduceAdd, Nat.reduceMul, Nat.reduceSub, Nat.ble_eq, Nat.reduceLeDiff, Nat.reduceBEq, Int.reduceBEq, Int.reduceNeg, Bool.and_true, Bool.and_false, Bool.true_and, Bool.false_and, Bool.not_true, Bool.not_false, Bool.true_eq_false, Bool.false_eq_true, Int.reduceLT, Int.reduceLE, Int.reduceGT, Int.reduceGE, decide_true, decide_false, Bool.not_eq_true, loopN_norm, loopN_exit, tf, ft, ff, hlt]

theorem more_loop (T : ∀ (s : BitVec 32) (c : BitVec 8) (h : Heap), call 50 [.c (.int .u32 (s.toNat : Int)), .c (.int .u8 (c.toNat : Int))] h = some (.c (.int .u32 ((bturn s c).toNat : Int)), h))
    {x : CV} {bs : List (BitVec 8)} (hx : Bytes h x bs) (hn : bs.length < 1000000) : ∀ (k j : Nat) (s : BitVec 32) (y1 y2 y3 y7 : AV) (n : Nat), j + k = bs.length →
    ∃ z3, loopK call N ir47_k0 ir47_l0 (n + k + 1) [.c (.int .u32 (s.toNat : Int)), y1, y2, y3, .c x, .c (.int .i64 (bs.length : Int)), .c (.int .i64 (j : Int)), y7] h =
      some (.exit 0, [.c (.int .u32 ((bmore s (bs.drop j)).toNat : Int)), .junk, .junk, z3, .c x, .c (.int .i64 (bs.length : Int)), .c (.int .i64 (bs.length : Int)), .c (.bool false)], h) := by
  intro k
  induction k with
  | zero =>
    intro j s y1 y2 y3 y7 n hj
    have : j = bs.length := by omega
    subst this
    rw [List.drop_length]
    exact ⟨_, loopK_end rfl more_end⟩
  | succ k ih =>
    intro j s y1 y2 y3 y7 n hj
    have hlt : j < bs.length := by omega
    have hd : bs.drop j = bs[j] :: bs.drop (j + 1) := List.drop_eq_getElem_cons hlt
    rcases hx with ⟨_, hb⟩ | ⟨i, o, c, hxe, _, hread⟩
    · subst hb; simp at hlt
    · subst hxe
      obtain ⟨z, hz⟩ := ih (j + 1) (bturn s bs[j]) .junk .junk (.c (.int .u8 (bs[j].toNat : Int))) (.c (.bool true)) n (by omega)
      refine ⟨z, (loopK_step rfl (more_body hlt hn (hread j bs[j] (by simp [hlt])) (T _ _ _))).trans ?_⟩
      rw [hd]; exact hz
end

/-- sum.More. -/
theorem more_ok {N d : Nat} {s : BitVec 32} {x : CV} {bs : List (BitVec 8)} {h : Heap} (hN : bs.length + 9 ≤ N) (hn : bs.length < 1000000) (hx : Bytes h x bs) :
    evCallT table 24 N (d + 2) 47 [.c (.int .u32 (s.toNat : Int)), .c x] h = some (.c (.int .u32 ((bmore s bs).toNat : Int)), h) := by
  obtain ⟨m, rfl⟩ : ∃ m, N = m + 9 := ⟨N - 9, by omega⟩
  have T : ∀ (s : BitVec 32) (c : BitVec 8) (h : Heap), evCallT table 24 (m + 9) (d + 1) 50 [.c (.int .u32 (s.toNat : Int)), .c (.int .u8 (c.toNat : Int))] h = some (.c (.int .u32 ((bturn s c).toNat : Int)), h) := fun s c h => turn_ok s c h
  rw [evCallT_eq (F := ir47) rfl rfl rfl]
  unfold ir47
  rw [bodyK_eq]
  obtain ⟨q, hq⟩ : ∃ q, m + 9 = q + bs.length + 1 := ⟨m + 8 - bs.length, by omega⟩
  obtain ⟨z, hz⟩ := more_loop (call := evCallT table 24 (m + 9) (d + 1)) (N := m + 9) (h := h) T hx hn bs.length 0 s (.c x) (.c (.int .u32 0)) (.tup []) (.tup []) q (by omega)
  rw [← hq] at hz
  have hz' : loopK (evCallT table 24 (m + 9) (d + 1)) (m + 9) ir47_k0 ir47_l0 (m + 9) [.c (.int .u32 (s.toNat : Int)), .c x, .c (.int .u32 0), .tup [], .c x, .c (.int .i64 (bs.length : Int)), .c (.int .i64 0), .tup []] h = _ := hz
  rw [List.drop_zero] at hz'
  have hl : evPure [.c (.int .u32 (s.toNat : Int)), .c x, .c (.int .u32 0), .tup [], .tup [], .tup [], .tup [], .tup []] [.c x] h (.len .sl (.val 0)) = some (.c (.int .i64 (bs.length : Int))) := by
    rcases hx with ⟨rfl, rfl⟩ | ⟨i, o, c, rfl, _, _⟩ <;> rfl
  simp only [enter_eq, ev_seq, seqK_norm, ev_reg, regK_cons, regK_nil, guard_none, regG_true, regO_some, op_mov, op_len, X.eval, List.map_cons, List.map_nil, List.getD_cons_zero, List.getD_cons_succ, List.getD_nil, set_none, set_some, List.set_cons_zero, List.set_cons_succ, hl, pureK_some, ev_block, ev_loop, hz', blockK_exit_eq, ev_ret, finish_ret, result_one', rv_loc, outK_some]

/-- sum.Of. -/
theorem of_ok {N d : Nat} {x : CV} {bs : List (BitVec 8)} {h : Heap} (hN : bs.length + 9 ≤ N) (hn : bs.length < 1000000) (hx : Bytes h x bs) :
    evCallT table 24 N (d + 3) 39 [.c x] h = some (.c (.int .u32 ((bof bs).toNat : Int)), h) := by
  have M : evCallT table 24 N (d + 2) 47 [.c (.int .u32 4294967295), .c x] h = some (.c (.int .u32 ((bmore 4294967295#32 bs).toNat : Int)), h) := more_ok (s := 4294967295#32) hN hn hx
  rw [evCallT_eq (F := ir39) rfl rfl rfl]
  unfold ir39
  rw [bodyK_eq]
  simp only [enter_eq, ev_seq, seqK_norm, seqK_exit, seqK_ret, ev_reg, ev_cond, condK_true, condK_false, ev_block, blockK_norm, blockK_ret, blockK_exit, ev_loop, ev_skip, ev_exit, ev_ret, regK_cons, regK_nil, guard_none, guard_some, regG_true, regG_false, regO_some, op_mov, op_conv, op_bin, op_bsl, op_box, op_mks, op_s2b, op_pick, op_un, op_eq, op_len, op_ext, op_load, op_iaddr, op_slice, op_b2s, op_idxS, op_mx, op_mn, op_call, op_store, op_app, op_copy, args_eq, result_one', rv_loc, finish_norm, finish_ret, outK_some, keep_true, keep_false, keep_nil, evPure, evNew, pureK_some, newK_some, X.eval, set_none, set_some, List.map_cons, List.map_nil, List.getD_cons_zero, List.getD_cons_succ, List.getD_nil, List.set_cons_zero, List.set_cons_succ, binCV, unCV, isShift, intArithF_eq, shiftF_eq, wrapF_eq, intArith, shift, eqVal, bound, asNat_cast, cond_true, cond_false, BEq.rfl, beq_self_eq_true, evalParts, fillParts, AV.cells, AV.ofCells, XV.av, AV.xv, List.length_cons, List.length_nil, zeros, patch, setMany, List.nil_append, List.cons_append, Nat.ble, Nat.add_eq, Nat.zero_add, Nat.add_zero, Nat.reduceAdd, Nat.reduceMul, Nat.reduceSub, Nat.ble_eq, Nat.reduceLeDiff, Nat.reduceBEq, Int.reduceBEq, Int.reduceNeg, Bool.and_true, Bool.and_false, Bool.true_and, Bool.false_and, Bool.not_true, Bool.not_false, Bool.true_eq_false, Bool.false_eq_true, Int.reduceLT, Int.reduceLE, Int.reduceGT, Int.reduceGE, decide_true, decide_false, Bool.not_eq_true, loopN_norm, loopN_exit, tf, ft, ff, M, not32]
  rfl


theorem read_new {h : Heap} {b : Blk} {i o n : Nat} (hi : i < h.next) : (h.new b).read i o n = h.read i o n := by
  have : (h.new b).get i = h.get i := by
    rw [Heap.get_new]; simp only [upd]; rw [if_neg (by omega)]
  simp only [Heap.read, this]

theorem Bytes.new {h : Heap} {x : CV} {bs : List (BitVec 8)} (b : Blk) (hx : Bytes h x bs) : Bytes (h.new b) x bs := by
  rcases hx with h1 | ⟨i, o, c, h1, h2, h3⟩
  · exact .inl h1
  · exact .inr ⟨i, o, c, h1, Nat.lt_succ_of_lt h2, fun j b' hj => by rw [read_new h2]; exact h3 j b' hj⟩

theorem cut_one {l : List CV} {j : Nat} {v : CV} (h : l[j]? = some v) : cut l j 1 = some [v] := by
  have hlt : j < l.length := by
    rcases Nat.lt_or_ge j l.length with h' | h'
    · exact h'
    · rw [List.getElem?_eq_none h'] at h; cases h
  have hb : Nat.ble (j + 1) l.length = true := Nat.ble_eq_true_of_le hlt
  simp only [cut, hb, cond_true]
  rw [List.drop_eq_getElem_cons hlt, List.take_succ_cons, List.take_zero]
  rw [List.getElem?_eq_getElem hlt] at h
  simp only [Option.some.injEq] at h
  rw [h]

theorem u8s_of : ∀ {l : List Int}, (∀ n ∈ l, (Go.Lit.int .u8 n).wf = true) → ∃ bs : List (BitVec 8), l = bs.map fun b => (b.toNat : Int)
  | [], _ => ⟨[], rfl⟩
  | n :: l, h => by
    obtain ⟨b, hb⟩ := u8_of (h n (by simp))
    obtain ⟨bs, hbs⟩ := u8s_of (l := l) (fun m hm => h m (by simp [hm]))
    exact ⟨b :: bs, by rw [hb, hbs]; rfl⟩

theorem bytes_of {h h' : Heap} {x : CV} {l : List Int} (r : RowIs .u8 h x h' l) : ∃ bs : List (BitVec 8), l = bs.map (fun b => (b.toNat : Int)) ∧ Bytes h' x bs ∧ (x = .nils ∨ ∃ i o, x = .sl i o bs.length (.dy 1)) := by
  obtain ⟨hw, _, hr⟩ := r
  obtain ⟨bs, rfl⟩ := u8s_of hw
  refine ⟨bs, rfl, ?_⟩
  rcases hr with ⟨rfl, rfl, hb⟩ | ⟨rfl, rfl, hb⟩ | ⟨rfl, rfl⟩
  · have : bs = [] := by simpa using hb
    exact ⟨.inl ⟨rfl, this⟩, .inl rfl⟩
  · have : bs = [] := by simpa using hb
    subst this
    exact ⟨.inr ⟨h.next, 0, .dy 1, rfl, Nat.lt_succ_self _, by simp⟩, .inr ⟨_, _, rfl⟩⟩
  · refine ⟨.inr ⟨h.next, 0, .dy 1, by simp, Nat.lt_succ_self _, fun j b hj => ?_⟩, .inr ⟨h.next, 0, by simp⟩⟩
    have hg : (h.new (.ro ((bs.map fun b => (b.toNat : Int)).map (.int .u8)))).get h.next = some (.ro ((bs.map fun b => (b.toNat : Int)).map (.int .u8))) := by
      rw [Heap.get_new]; simp [upd]
    simp only [Heap.read, hg, Nat.zero_add, Nat.mul_one]
    exact cut_one (by simp [hj])

/-- Parts of bytes. -/
theorem Bytes.part {h : Heap} {i o n : Nat} {c : Cap} {bs : List (BitVec 8)} (hx : Bytes h (.sl i o n c) bs) {a m : Nat} (hm : a + m ≤ bs.length) (c' : Cap) : Bytes h (.sl i (o + a * 1) m c') ((bs.drop a).take m) := by
  rcases hx with ⟨h1, _⟩ | ⟨i', o', c0, h1, h2, h3⟩
  · cases h1
  · cases h1
    refine .inr ⟨_, o + a * 1, c', ?_, h2, fun j b hj => ?_⟩
    · congr 1; simp; omega
    · rw [List.getElem?_take] at hj
      split at hj
      · rw [List.getElem?_drop] at hj
        have := h3 (a + j) b hj
        rw [show o + a * 1 + j * 1 = o + (a + j) * 1 by omega]; exact this
      · cases hj

end Lav
