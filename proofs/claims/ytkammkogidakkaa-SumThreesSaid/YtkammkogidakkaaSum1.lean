/-
  Layer 1: what sum.Turn, sum.More, sum.Of and the document's own compute, as functions of bit vectors.
-/
import Derived.Test.YtkammkogidakkaaIr
set_option maxRecDepth 100000
set_option linter.unusedSimpArgs false
namespace Lav
open Go (IntKind)

/-- A sum's step over one bit. -/
def bstep (b : BitVec 32) : BitVec 32 := if (b &&& 1#32) = 1#32 then (b >>> 1) ^^^ 2748603157#32 else b >>> 1
def bsteps : Nat → BitVec 32 → BitVec 32
  | 0, b => b
  | n + 1, b => bsteps n (bstep b)
def bturn (s : BitVec 32) (c : BitVec 8) : BitVec 32 := bsteps 8 (s ^^^ c.setWidth 32)

def u32 (b : BitVec 32) : AV := .c (.int .u32 (b.toNat : Int))
def u8 (b : BitVec 8) : AV := .c (.int .u8 (b.toNat : Int))

theorem ofInt32 (b : BitVec 32) : BitVec.ofInt IntKind.u32.bits (b.toNat : Int) = b := by
  show BitVec.ofInt 32 _ = b
  rw [BitVec.ofInt_natCast]; simp

theorem wrap32 (b : BitVec 32) : IntKind.u32.wrap (b.toNat : Int) = (b.toNat : Int) := by
  have := b.isLt
  simp only [IntKind.wrap, IntKind.bits, IntKind.signed]
  simp
  omega

theorem xor32 (b c : BitVec 32) : IntKind.u32.wrap ((BitVec.ofInt IntKind.u32.bits (b.toNat : Int) ^^^ BitVec.ofInt IntKind.u32.bits (c.toNat : Int)).toNat : Int) = ((b ^^^ c).toNat : Int) := by
  rw [ofInt32, ofInt32]; exact wrap32 _
theorem xor32k (b : BitVec 32) : IntKind.u32.wrap ((BitVec.ofInt IntKind.u32.bits (b.toNat : Int) ^^^ BitVec.ofInt IntKind.u32.bits 2748603157).toNat : Int) = ((b ^^^ 2748603157#32).toNat : Int) := xor32 b 2748603157#32
theorem and32 (b : BitVec 32) : IntKind.u32.wrap ((BitVec.ofInt IntKind.u32.bits (b.toNat : Int) &&& BitVec.ofInt IntKind.u32.bits 1).toNat : Int) = ((b &&& 1#32).toNat : Int) := by
  rw [ofInt32]; exact wrap32 (b &&& 1#32)
theorem shr32 (b : BitVec 32) : (b.toNat : Int).fdiv (2 ^ (min (Int.toNat 1) IntKind.u32.bits)) = ((b >>> 1).toNat : Int) := by
  show (b.toNat : Int).fdiv 2 = _
  rw [BitVec.toNat_ushiftRight, Nat.shiftRight_eq_div_pow]
  simp [Int.fdiv_eq_ediv_of_nonneg]
theorem conv32 (c : BitVec 8) : IntKind.u32.wrap (c.toNat : Int) = ((c.setWidth 32).toNat : Int) := by
  have := c.isLt
  have e : (c.setWidth 32).toNat = c.toNat := by simp; omega
  rw [e]
  simp only [IntKind.wrap, IntKind.bits, IntKind.signed]
  simp
  omega
theorem eq32 (b c : BitVec 32) : ((b.toNat : Int) == (c.toNat : Int)) = decide (b = c) := by
  by_cases h : b = c
  · subst h; simp
  · have : b.toNat ≠ c.toNat := fun e => h (BitVec.eq_of_toNat_eq e)
    simp [h]; omega
theorem eq32k (b : BitVec 32) : ((b.toNat : Int) == 1) = decide (b = 1#32) := eq32 b 1#32
theorem succ64 {i : Nat} (h : i < 1000000) : IntKind.i64.wrap ((i : Int) + 1) = ((i + 1 : Nat) : Int) := by
  simp only [IntKind.wrap, IntKind.bits, IntKind.signed]
  simp
  omega

section
variable {call : Nat → List AV → Heap → Option (AV × Heap)} {N : Nat} {h : Heap}

theorem loopK_step {keep : List Bool} {a : IR} {n : Nat} {loc loc1 loc' : List AV} {h' : Heap} (hk : keepOnly keep loc = loc1) (he : ev call N a loc1 h = some (.norm, loc', h')) : loopK call N keep a (n + 1) loc h = loopK call N keep a n loc' h' := by
  rw [loopK_succ, hk, he]; rfl
theorem loopK_end {keep : List Bool} {a : IR} {n j : Nat} {loc loc1 loc' : List AV} {h' : Heap} (hk : keepOnly keep loc = loc1) (he : ev call N a loc1 h = some (.exit j, loc', h')) : loopK call N keep a (n + 1) loc h = some (.exit j, loc', h') := by
  rw [loopK_succ, hk, he]; rfl

def low (b : BitVec 32) : Bool := decide (b &&& 1#32 = 1#32)
theorem bstep_low (b : BitVec 32) : bstep b = if low b = true then (b >>> 1) ^^^ 2748603157#32 else b >>> 1 := by
  unfold bstep low; by_cases h : b &&& 1#32 = 1#32 <;> simp [h]

theorem turn_body {b : BitVec 32} {i : Nat} (hi : i < 8) : ev call N ir18_l0 [.c (.int .u32 (b.toNat : Int)), .junk, .junk, .c (.int .i64 (i : Int)), .junk, .junk, .junk] h =
    some (.norm, [.c (.int .u32 ((bstep b).toNat : Int)), .junk, .junk, .c (.int .i64 ((i + 1 : Nat) : Int)), .c (.bool (low b)), .c (.bool true), .c (.bool (!(low b)))], h) := by
  have hlt : decide ((i : Int) < 8) = true := by simp; omega
  unfold ir18_l0
  rw [bstep_low]
  have hlow : decide (b &&& 1#32 = 1#32) = low b := rfl
  cases hb : low b <;> simp only [enter_eq, ev_seq, seqK_norm, seqK_exit, seqK_ret, ev_reg, ev_cond, condK_true, condK_false, ev_block, blockK_norm, blockK_ret, blockK_exit, ev_loop, ev_skip, ev_exit, ev_ret, regK_cons, regK_nil, guard_none, guard_some, regG_true, regG_false, regO_some, op_mov, op_conv, op_bin, op_bsl, op_box, op_mks, op_s2b, op_pick, op_un, op_eq, op_len, op_ext, op_load, op_iaddr, op_slice, op_b2s, op_idxS, op_mx, op_mn, op_call, op_store, op_app, op_copy, args_eq, result_one', rv_loc, finish_norm, finish_ret, outK_some, keep_true, keep_false, keep_nil, evPure, evNew, pureK_some, newK_some, X.eval, set_none, set_some, List.map_cons, List.map_nil, List.getD_cons_zero, List.getD_cons_succ, List.getD_nil, List.set_cons_zero, List.set_cons_succ, binCV, unCV, isShift, intArithF_eq, shiftF_eq, wrapF_eq, intArith, shift, eqVal, bound, asNat_cast, cond_true, cond_false, BEq.rfl, beq_self_eq_true, evalParts, fillParts, AV.cells, AV.ofCells, XV.av, AV.xv, List.length_cons, List.length_nil, zeros, patch, setMany, List.nil_append, List.cons_append, Nat.ble, Nat.add_eq, Nat.zero_add, Nat.add_zero, Nat.reduceAdd, Nat.reduceMul, Nat.reduceSub, Nat.ble_eq, Nat.reduceLeDiff, Nat.reduceBEq, Int.reduceBEq, Int.reduceNeg, Bool.and_true, Bool.and_false, Bool.true_and, Bool.false_and, Bool.not_true, Bool.not_false, Bool.true_eq_false, Bool.false_eq_true, Int.reduceLT, Int.reduceLE, Int.reduceGT, Int.reduceGE, decide_true, decide_false, Bool.not_eq_true, loopN_norm, loopN_exit, tf, ft, ff, hlt, succ64 (show i < 1000000 by omega), xor32k, and32, shr32, eq32k, hlow, hb, if_true, if_false] <;> rfl

theorem turn_end {b : BitVec 32} : ev call N ir18_l0 [.c (.int .u32 (b.toNat : Int)), .junk, .junk, .c (.int .i64 8), .junk, .junk, .junk] h =
    some (.exit 0, [.c (.int .u32 (b.toNat : Int)), .junk, .junk, .c (.int .i64 8), .junk, .c (.bool false), .junk], h) := rfl

theorem turn_loop : ∀ (j : Nat) (i : Nat) (b : BitVec 32) (y1 y2 y4 y5 y6 : AV) (n : Nat), i + j = 8 → ∃ z4, loopK call N ir18_k0 ir18_l0 (n + j + 1) [.c (.int .u32 (b.toNat : Int)), y1, y2, .c (.int .i64 (i : Int)), y4, y5, y6] h =
    some (.exit 0, [.c (.int .u32 ((bsteps j b).toNat : Int)), .junk, .junk, .c (.int .i64 8), .junk, z4, .junk], h) := by
  intro j
  induction j with
  | zero =>
    intro i b y1 y2 y4 y5 y6 n hij
    have : i = 8 := by omega
    subst this
    exact ⟨_, loopK_end rfl turn_end⟩
  | succ j ih =>
    intro i b y1 y2 y4 y5 y6 n hij
    obtain ⟨z, hz⟩ := ih (i + 1) (bstep b) .junk .junk (.c (.bool (low b))) (.c (.bool true)) (.c (.bool (!(low b)))) n (by omega)
    exact ⟨z, (loopK_step rfl (turn_body (by omega))).trans hz⟩

/-- sum.Turn. -/
theorem turn_ok {M d : Nat} (s : BitVec 32) (c : BitVec 8) (h : Heap) : evCall table (M + 9) (d + 1) 18 [.c (.int .u32 (s.toNat : Int)), .c (.int .u8 (c.toNat : Int))] h = some (.c (.int .u32 ((bturn s c).toNat : Int)), h) := by
  rw [evCall_eq (F := ir18) rfl rfl]
  unfold ir18
  rw [bodyK_eq]
  obtain ⟨z, hz⟩ := turn_loop (call := evCall table (M + 9) d) (N := M + 9) (h := h) 8 0 (s ^^^ c.setWidth 32) (.c (.int .u8 (c.toNat : Int))) (.c (.int .u32 0)) (.tup []) (.tup []) (.tup []) M rfl
  have hz' : loopK (evCall table (M + 9) d) (M + 9) ir18_k0 ir18_l0 (M + 9) [.c (.int .u32 ((s ^^^ c.setWidth 32).toNat : Int)), .c (.int .u8 (c.toNat : Int)), .c (.int .u32 0), .c (.int .i64 0), .tup [], .tup [], .tup []] h = _ := hz
  simp only [enter_eq, ev_seq, seqK_norm, seqK_exit, seqK_ret, ev_reg, ev_cond, condK_true, condK_false, ev_block, blockK_norm, blockK_ret, blockK_exit, ev_loop, ev_skip, ev_exit, ev_ret, regK_cons, regK_nil, guard_none, guard_some, regG_true, regG_false, regO_some, op_mov, op_conv, op_bin, op_bsl, op_box, op_mks, op_s2b, op_pick, op_un, op_eq, op_len, op_ext, op_load, op_iaddr, op_slice, op_b2s, op_idxS, op_mx, op_mn, op_call, op_store, op_app, op_copy, args_eq, result_one', rv_loc, finish_norm, finish_ret, outK_some, keep_true, keep_false, keep_nil, evPure, evNew, pureK_some, newK_some, X.eval, set_none, set_some, List.map_cons, List.map_nil, List.getD_cons_zero, List.getD_cons_succ, List.getD_nil, List.set_cons_zero, List.set_cons_succ, binCV, unCV, isShift, intArithF_eq, shiftF_eq, wrapF_eq, intArith, shift, eqVal, bound, asNat_cast, cond_true, cond_false, BEq.rfl, beq_self_eq_true, evalParts, fillParts, AV.cells, AV.ofCells, XV.av, AV.xv, List.length_cons, List.length_nil, zeros, patch, setMany, List.nil_append, List.cons_append, Nat.ble, Nat.add_eq, Nat.zero_add, Nat.add_zero, Nat.reduceAdd, Nat.reduceMul, Nat.reduceSub, Nat.ble_eq, Nat.reduceLeDiff, Nat.reduceBEq, Int.reduceBEq, Int.reduceNeg, Bool.and_true, Bool.and_false, Bool.true_and, Bool.false_and, Bool.not_true, Bool.not_false, Bool.true_eq_false, Bool.false_eq_true, Int.reduceLT, Int.reduceLE, Int.reduceGT, Int.reduceGE, decide_true, decide_false, Bool.not_eq_true, loopN_norm, loopN_exit, tf, ft, ff, conv32, xor32, hz']
  rfl
end

/-! ### The law of sums, without the program -/
theorem low_bit (b : BitVec 32) : low b = b.getLsbD 0 := by
  unfold low
  rw [BitVec.and_one_eq_setWidth_ofBool_getLsbD]
  cases b.getLsbD 0 <;> decide

theorem bstep_msb (b : BitVec 32) : (bstep b).getLsbD 31 = low b := by
  have e : (b >>> 1).getLsbD 31 = false := by simp
  rw [bstep_low]
  cases h : low b with
  | false => simp only [Bool.false_eq_true, if_false]; exact e
  | true =>
    simp only [if_true]
    rw [BitVec.getLsbD_xor, e]
    decide

theorem bstep_inj {a b : BitVec 32} (h : bstep a = bstep b) : a = b := by
  have hl : low a = low b := by rw [← bstep_msb, ← bstep_msb, h]
  have hs : a >>> 1 = b >>> 1 := by
    rw [bstep_low, bstep_low, hl] at h
    cases hb : low b with
    | false => rw [hb] at h; simpa using h
    | true =>
      rw [hb] at h
      simp only [if_true] at h
      exact (BitVec.xor_left_inj _).1 h
  apply BitVec.eq_of_getLsbD_eq
  intro i hi
  cases i with
  | zero => rw [← low_bit, ← low_bit, hl]
  | succ i =>
    have := congrArg (fun x => BitVec.getLsbD x i) hs
    simp only [BitVec.getLsbD_ushiftRight] at this
    rw [Nat.add_comm 1 i] at this
    exact this

theorem bsteps_inj : ∀ (n : Nat) {a b : BitVec 32}, bsteps n a = bsteps n b → a = b
  | 0, _, _, h => h
  | n + 1, _, _, h => bstep_inj (bsteps_inj n h)

theorem bturn_inj {s t : BitVec 32} {c : BitVec 8} (h : bturn s c = bturn t c) : s = t := (BitVec.xor_left_inj _).1 (bsteps_inj 8 h)
theorem bturn_byte {s : BitVec 32} {c d : BitVec 8} (h : bturn s c = bturn s d) : c = d := by
  have e : c.setWidth 32 = d.setWidth 32 := (BitVec.xor_right_inj _).1 (bsteps_inj 8 h)
  have := congrArg BitVec.toNat e
  simp only [BitVec.toNat_setWidth] at this
  have h1 := c.isLt
  have h2 := d.isLt
  exact BitVec.eq_of_toNat_eq (by omega)

theorem u32_of {a : Int} (h : (Go.Lit.int .u32 a).wf = true) : ∃ b : BitVec 32, a = (b.toNat : Int) := by
  have hb : 0 ≤ a ∧ a < 4294967296 := by
    simp only [Go.Lit.wf, IntKind.min, IntKind.max, IntKind.bits, IntKind.signed] at h
    simp at h
    omega
  refine ⟨BitVec.ofNat 32 a.toNat, ?_⟩
  simp only [BitVec.toNat_ofNat]
  omega
theorem u8_of {a : Int} (h : (Go.Lit.int .u8 a).wf = true) : ∃ b : BitVec 8, a = (b.toNat : Int) := by
  have hb : 0 ≤ a ∧ a < 256 := by
    simp only [Go.Lit.wf, IntKind.min, IntKind.max, IntKind.bits, IntKind.signed] at h
    simp at h
    omega
  refine ⟨BitVec.ofNat 8 a.toNat, ?_⟩
  simp only [BitVec.toNat_ofNat]
  omega
theorem eq8 (b c : BitVec 8) : ((b.toNat : Int) == (c.toNat : Int)) = decide (b = c) := by
  by_cases h : b = c
  · subst h; simp
  · have : b.toNat ≠ c.toNat := fun e => h (BitVec.eq_of_toNat_eq e)
    simp [h]; omega
end Lav
