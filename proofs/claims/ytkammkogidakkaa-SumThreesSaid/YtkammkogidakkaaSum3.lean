/-
  Layer 1: bytes that came in; what told tells.
-/
import Derived.Test.YtkammkogidakkaaSum2
set_option maxRecDepth 100000
set_option linter.unusedSimpArgs false
namespace Lav
open Go (IntKind)

theorem read_new {h : Heap} {b : Blk} {i o n : Nat} (hi : i < h.next) : (h.new b).read i o n = h.read i o n := by
  have : (h.new b).get i = h.get i := by
    rw [Heap.get_new]; simp only [upd]; rw [if_neg (by omega)]
  simp only [Heap.read, this]

theorem Bytes.new {h : Heap} {x : CV} {bs : List (BitVec 8)} (b : Blk) (hx : Bytes h x bs) : Bytes (h.new b) x bs := by
  rcases hx with h1 | ⟨i, o, c, h1, h2, h3⟩
  · exact .inl h1
  · exact .inr ⟨i, o, c, h1, Nat.lt_succ_of_lt h2, fun j b' hj => by rw [read_new h2]; exact h3 j b' hj⟩

theorem cut_one {l : List CV} {j : Nat} {v : CV} (h : l[j]? = some v) : cut l j 1 = some [v] := by
  have hlt : j < l.length := by
    rcases Nat.lt_or_ge j l.length with h' | h'
    · exact h'
    · rw [List.getElem?_eq_none h'] at h; cases h
  have hb : Nat.ble (j + 1) l.length = true := Nat.ble_eq_true_of_le hlt
  simp only [cut, hb, cond_true]
  rw [List.drop_eq_getElem_cons hlt, List.take_succ_cons, List.take_zero]
  rw [List.getElem?_eq_getElem hlt] at h
  simp only [Option.some.injEq] at h
  rw [h]

theorem u8s_of : ∀ {l : List Int}, (∀ n ∈ l, (Go.Lit.int .u8 n).wf = true) → ∃ bs : List (BitVec 8), l = bs.map fun b => (b.toNat : Int)
  | [], _ => ⟨[], rfl⟩
  | n :: l, h => by
    obtain ⟨b, hb⟩ := u8_of (h n (by simp))
    obtain ⟨bs, hbs⟩ := u8s_of (l := l) (fun m hm => h m (by simp [hm]))
    exact ⟨b :: bs, by rw [hb, hbs]; rfl⟩

theorem bytes_of {h h' : Heap} {x : CV} {l : List Int} (r : RowIs .u8 h x h' l) : ∃ bs : List (BitVec 8), l = bs.map (fun b => (b.toNat : Int)) ∧ Bytes h' x bs ∧ (x = .nils ∨ ∃ i o, x = .sl i o bs.length (.dy 1)) := by
  obtain ⟨hw, _, hr⟩ := r
  obtain ⟨bs, rfl⟩ := u8s_of hw
  refine ⟨bs, rfl, ?_⟩
  rcases hr with ⟨rfl, rfl, hb⟩ | ⟨rfl, rfl, hb⟩ | ⟨rfl, rfl⟩
  · have : bs = [] := by simpa using hb
    exact ⟨.inl ⟨rfl, this⟩, .inl rfl⟩
  · have : bs = [] := by simpa using hb
    subst this
    exact ⟨.inr ⟨h.next, 0, .dy 1, rfl, Nat.lt_succ_self _, by simp⟩, .inr ⟨_, _, rfl⟩⟩
  · refine ⟨.inr ⟨h.next, 0, .dy 1, by simp, Nat.lt_succ_self _, fun j b hj => ?_⟩, .inr ⟨h.next, 0, by simp⟩⟩
    have hg : (h.new (.ro ((bs.map fun b => (b.toNat : Int)).map (.int .u8)))).get h.next = some (.ro ((bs.map fun b => (b.toNat : Int)).map (.int .u8))) := by
      rw [Heap.get_new]; simp [upd]
    simp only [Heap.read, hg, Nat.zero_add, Nat.mul_one]
    exact cut_one (by simp [hj])

/-- Parts of bytes. -/
theorem Bytes.part {h : Heap} {i o n : Nat} {c : Cap} {bs : List (BitVec 8)} (hx : Bytes h (.sl i o n c) bs) {a m : Nat} (hm : a + m ≤ bs.length) (c' : Cap) : Bytes h (.sl i (o + a * 1) m c') ((bs.drop a).take m) := by
  rcases hx with ⟨h1, _⟩ | ⟨i', o', c0, h1, h2, h3⟩
  · cases h1
  · cases h1
    refine .inr ⟨_, o + a * 1, c', ?_, h2, fun j b hj => ?_⟩
    · congr 1; simp; omega
    · rw [List.getElem?_take] at hj
      split at hj
      · rw [List.getElem?_drop] at hj
        have := h3 (a + j) b hj
        rw [show o + a * 1 + j * 1 = o + (a + j) * 1 by omega]; exact this
      · cases hj

theorem op_mark {call : Nat → List AV → Heap → Option (AV × Heap)} {loc vals : List AV} {h : Heap} {x : X} : evOp loc vals call h (.mark x) = evEff loc vals call h (.mark x) := rfl

/-- told: true, whatever the heap; it makes one block. -/
theorem told_any (h : Heap) : evCall table 400 8 13 [] h = some (.c (.bool true), h.new (.cells [.int .u8 97])) := by
  have f1 : ∀ h : Heap, evCall table 400 7 14 [.c .nils] h = some (.c (.int .u32 0), h) := fun h => by kernel_rfl
  have f2 : ∀ h : Heap, evCall table 400 7 18 [.c (.int .u32 1), .c (.int .u8 0)] h = evCall table 400 7 19 [.c (.int .u32 1), .c (.int .u8 0)] h := fun h => by kernel_rfl
  have f3 : ∀ h : Heap, evCall table 400 7 18 [.c (.int .u32 1), .c (.int .u8 0)] h = some (.c (.int .u32 ((bturn 1#32 0#8).toNat : Int)), h) := fun h => turn_ok (M := 391) (d := 6) 1#32 0#8 h
  have f4 : ∀ h : Heap, evCall table 400 7 16 [.c (.int .u32 5), .c .nils] h = some (.c (.int .u32 5), h) := fun h => by kernel_rfl
  have f5 : ∀ h : Heap, evCall table 400 7 18 [.c (.int .u32 4294967295), .c (.int .u8 97)] h = some (.c (.int .u32 ((bturn 4294967295#32 97#8).toNat : Int)), h) := fun h => turn_ok (M := 391) (d := 6) 4294967295#32 97#8 h
  have hg : (h.new (.cells [.int .u8 97])).get h.next = some (.cells [.int .u8 97]) := by rw [Heap.get_new]; simp [upd]
  have hB : Bytes (h.new (.cells [.int .u8 97])) (.sl h.next 0 1 (.ex 1)) [97#8] := .inr ⟨h.next, 0, .ex 1, rfl, Nat.lt_succ_self _, fun j b hj => by
    cases j with
    | zero => simp at hj; subst hj; simp only [Heap.read, hg]; rfl
    | succ j => simp at hj⟩
  have f6 := of_ok (N := 400) (d := 4) (by simp) (by simp) hB
  have f7 : ((bof [97#8]).toNat : Int) == ((~~~(bturn 4294967295#32 97#8)).toNat : Int) := by rw [eq32]; exact decide_eq_true rfl
  have f8 : ((bturn 1#32 0#8).toNat : Int) == ((bturn 1#32 0#8).toNat : Int) := by simp
  have f2' : ∀ h : Heap, evCall table 400 7 19 [.c (.int .u32 1), .c (.int .u8 0)] h = some (.c (.int .u32 ((bturn 1#32 0#8).toNat : Int)), h) := fun h => (f2 h).symm.trans (f3 h)
  rw [evCall_eq (F := ir13) rfl rfl]
  unfold ir13
  rw [bodyK_eq]
  simp only [enter_eq, ev_seq, seqK_norm, seqK_exit, seqK_ret, ev_reg, ev_cond, condK_true, condK_false, ev_block, blockK_norm, blockK_ret, blockK_exit, ev_loop, ev_skip, ev_exit, ev_ret, regK_cons, regK_nil, guard_none, guard_some, regG_true, regG_false, regO_some, op_mov, op_conv, op_bin, op_bsl, op_box, op_mks, op_s2b, op_pick, op_un, op_eq, op_len, op_ext, op_load, op_iaddr, op_slice, op_b2s, op_idxS, op_mx, op_mn, op_call, op_store, op_app, op_copy, args_eq, result_one', rv_loc, finish_norm, finish_ret, outK_some, keep_true, keep_false, keep_nil, evPure, evNew, pureK_some, newK_some, X.eval, set_none, set_some, List.map_cons, List.map_nil, List.getD_cons_zero, List.getD_cons_succ, List.getD_nil, List.set_cons_zero, List.set_cons_succ, binCV, unCV, isShift, intArithF_eq, shiftF_eq, wrapF_eq, intArith, shift, eqVal, bound, asNat_cast, cond_true, cond_false, BEq.rfl, beq_self_eq_true, evalParts, fillParts, AV.cells, AV.ofCells, XV.av, AV.xv, List.length_cons, List.length_nil, zeros, patch, setMany, List.nil_append, List.cons_append, Nat.ble, Nat.add_eq, Nat.zero_add, Nat.add_zero, Nat.reduceAdd, Nat.reduceMul, Nat.reduceSub, Nat.ble_eq, Nat.reduceLeDiff, Nat.reduceBEq, Int.reduceBEq, Int.reduceNeg, Bool.and_true, Bool.and_false, Bool.true_and, Bool.false_and, Bool.not_true, Bool.not_false, Bool.true_eq_false, Bool.false_eq_true, Int.reduceLT, Int.reduceLE, Int.reduceGT, Int.reduceGE, decide_true, decide_false, Bool.not_eq_true, loopN_norm, loopN_exit, tf, ft, ff, f1, f3, f2', f4, f5, f6, f7, f8, op_mark, evEff, hg, not32]
end Lav
