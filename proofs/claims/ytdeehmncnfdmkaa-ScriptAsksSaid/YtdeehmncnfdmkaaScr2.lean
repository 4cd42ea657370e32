/-
  Layer 15: what a pool may be; what a call is made of.
-/
import Derived.Test.YtdeehmncnfdmkaaScr1
set_option maxRecDepth 100000
set_option linter.unusedSimpArgs false
namespace Lav
open Go (IntKind)

/-- A pool's numbers. -/
structure Cf where
  pages : Int
  frames : Int
  shards : Int
  clients : Int
abbrev cfC (c : Cf) : List CV := [.int .i64 c.pages, .int .i64 c.frames, .int .i64 c.shards, .int .i64 c.clients]
def Cf.ok (c : Cf) : Bool := decide (c.pages ≥ 1) && decide (c.pages ≤ 48) && decide (c.shards ≥ 1) && decide (c.shards ≤ 4) && decide (c.clients ≥ 1) && decide (c.clients ≤ 6) && decide (c.frames ≥ c.shards) && decide (c.frames ≤ 32)
theorem Cf.ok_iff {c : Cf} : c.ok = true ↔ 1 ≤ c.pages ∧ c.pages ≤ 48 ∧ 1 ≤ c.shards ∧ c.shards ≤ 4 ∧ 1 ≤ c.clients ∧ c.clients ≤ 6 ∧ c.shards ≤ c.frames ∧ c.frames ≤ 32 := by
  simp only [Cf.ok, Bool.and_eq_true, decide_eq_true_eq]; omega

/-- A text's bytes. -/
def Txt (h : Heap) (x : CV) (s : List Nat) : Prop :=
  (x = .nils ∧ s = []) ∨ ∃ i o c, x = .sl i o s.length c ∧ i < h.next ∧ (s = [] ∨ h.read i o s.length = some (byteCells s)) ∧ ∀ b ∈ s, b < 256
theorem Txt.nil {h : Heap} : Txt h .nils [] := .inl ⟨rfl, rfl⟩
theorem Txt.ext {h h' : Heap} {x : CV} {s : List Nat} (t : Txt h x s) (e : Ext h h') : Txt h' x s := by
  rcases t with t | ⟨i, o, c, h1, h2, h3, h4⟩
  · exact .inl t
  · exact .inr ⟨i, o, c, h1, Nat.lt_of_lt_of_le h2 e.1, h3.imp id fun r => by rw [e.read h2]; exact r, h4⟩
theorem Txt.len {h h0 : Heap} {x : CV} {s : List Nat} (t : Txt h0 x s) {loc vals : List AV} {X' : X} (hX : X'.eval loc vals = .c x) : evPure loc vals h (.len .sl X') = some (.c (.int .i64 (s.length : Int))) := by
  rcases t with ⟨rfl, rfl⟩ | ⟨i, o, c, rfl, _, _⟩ <;> simp only [evPure, hX] <;> rfl
theorem bytes_back : ∀ {s : List Nat}, (∀ b ∈ s, b < 256) → bytesOf (byteCells s) = some s
  | [], _ => rfl
  | b :: s, hb => by
    have h1 : Nat.blt b 256 = true := Nat.ble_eq_true_of_le (hb b (by simp))
    have h2 : bytesOf (byteCells s) = some s := bytes_back fun x hx => hb x (by simp [hx])
    show bytesOf (.int .u8 (.ofNat b) :: byteCells s) = _
    simp only [bytesOf, h1, h2, cond_true]
theorem read_zero {h : Heap} {i o : Nat} {l : List CV} (hr : h.read i o 0 = some l) : l = [] := by
  have key : ∀ m, cut m o 0 = some l → l = [] := fun m hm => by
    unfold cut at hm
    cases hc : Nat.ble (o + 0) m.length with
    | false => rw [hc] at hm; cases hm
    | true => rw [hc] at hm; simp at hm; exact hm
  unfold Heap.read at hr
  split at hr
  · exact key _ hr
  · exact key _ hr
  · cases hr
theorem Txt.text {h H : Heap} {x : CV} {s : List Nat} (t : Txt h x s) (e : Ext h H) {loc vals : List AV} {X' : X} (hX : X'.eval loc vals = .c x) : evPure loc vals H (.b2s X') = some (.c (.str s)) := by
  rcases t.ext e with ⟨rfl, rfl⟩ | ⟨i, o, c, rfl, h2, h3, h4⟩
  · simp only [evPure, hX]
  · rcases h3 with rfl | h3
    · simp only [evPure, hX, List.length_nil]
      cases hr : H.read i o 0 with
      | none => rfl
      | some l => rw [read_zero hr]; rfl
    · simp only [evPure, hX, h3, bytes_back h4]
/-- One that was made since h0. -/
def TxtY (h0 h : Heap) (x : CV) (s : List Nat) : Prop := Txt h x s ∧ ∀ k, blk x = some k → h0.next ≤ k
theorem TxtY.nil {h0 h : Heap} : TxtY h0 h .nils [] := ⟨.nil, fun k hk => by cases hk⟩
theorem Txt.keep {h h' : Heap} {x : CV} {s : List Nat} (t : Txt h x s) (hn : h.next ≤ h'.next) (hk : ∀ k, k < h.next → blk x = some k → h'.get k = h.get k) : Txt h' x s := by
  rcases t with t | ⟨i, o, c, rfl, h2, h3, h4⟩
  · exact .inl t
  · refine .inr ⟨i, o, c, rfl, Nat.lt_of_lt_of_le h2 hn, h3.imp id fun r => ?_, h4⟩
    have := hk i h2 rfl
    unfold Heap.read at r ⊢
    rw [this]; exact r
theorem TxtY.keep {h0 h h' : Heap} {x : CV} {s : List Nat} (t : TxtY h0 h x s) (hn : h.next ≤ h'.next) (hk : ∀ k, k < h.next → h0.next ≤ k → h'.get k = h.get k) : TxtY h0 h' x s :=
  ⟨t.1.keep hn fun k h1 h2 => hk k h1 (t.2 k h2), t.2⟩
theorem TxtY.from_ {h00 h0 h : Heap} {x : CV} {s : List Nat} (t : TxtY h0 h x s) (e : h00.next ≤ h0.next) : TxtY h00 h x s := ⟨t.1, fun k hk => Nat.le_trans e (t.2 k hk)⟩
theorem TxtY.ext {h0 h h' : Heap} {x : CV} {s : List Nat} (t : TxtY h0 h x s) (e : Ext h h') : TxtY h0 h' x s := ⟨t.1.ext e, t.2⟩
/-- One block of its own. -/
theorem Txt.all {h : Heap} {i : Nat} {c : Cap} {s : List Nat} (hi : i < h.next) (hg : h.get i = some (.cells (byteCells s))) (hb : ∀ b ∈ s, b < 256) : Txt h (.sl i 0 s.length c) s := by
  refine .inr ⟨i, 0, c, rfl, hi, .inr ?_, hb⟩
  rw [read_part hg (by simp [byteCells]), List.drop_zero, List.take_of_length_le (by simp [byteCells])]

theorem read_all {h : Heap} {i n : Nat} {l : List CV} (hg : h.get i = some (.cells l)) (hl : l.length = n) : h.read i 0 n = some l := by
  rw [read_part hg (by omega), List.drop_zero, List.take_of_length_le (by omega)]
theorem write_all {h : Heap} {i : Nat} {l z : List CV} (hg : h.get i = some (.cells z)) (hl : z.length = l.length) : ∃ h', h.write i 0 l = some h' ∧ h'.get i = some (.cells l) ∧ (∀ k, k ≠ i → h'.get k = h.get k) ∧ h'.next = h.next := by
  refine ⟨_, write_many hg (by omega), ?_, fun _ hk => get_put_ne hk, rfl⟩
  rw [get_put_at, List.take_zero, List.nil_append, List.drop_of_length_le (by omega), List.append_nil]
theorem write_at {h : Heap} {i o : Nat} {l : List CV} {v : CV} (hg : h.get i = some (.cells l)) (ho : o < l.length) : ∃ h', h.write i o [v] = some h' ∧ h'.get i = some (.cells (l.set o v)) ∧ (∀ k, k ≠ i → h'.get k = h.get k) ∧ h'.next = h.next :=
  ⟨_, write_one hg ho, get_put_at, fun _ hk => get_put_ne hk, rfl⟩

section
variable {N d : Nat} {h : Heap}

theorem may_all (c : Cf) : ∃ h', evCallX table 21 37 N (d + 1) 33 [.agg (cfC c)] h = some (.c (.bool c.ok), h') ∧ Ext h h' := by
  have x1 : Ext h (h.new (.cells (cfC c))) := (Ext.refl _).new _
  have q0 : (h.new (.cells (cfC c))).read h.next 0 1 = some [.int .i64 c.pages] := read_cells get_new_at rfl
  have q1 : (h.new (.cells (cfC c))).read h.next 1 1 = some [.int .i64 c.frames] := read_cells get_new_at rfl
  have q2 : (h.new (.cells (cfC c))).read h.next 2 1 = some [.int .i64 c.shards] := read_cells get_new_at rfl
  have q3 : (h.new (.cells (cfC c))).read h.next 3 1 = some [.int .i64 c.clients] := read_cells get_new_at rfl
  have bx : AV.cells (.agg (cfC c)) = some (cfC c) := rfl
  refine ⟨_, ?_, x1⟩
  unfold Cf.ok
  rw [evCallX_eq (F := ir33) rfl rfl rfl rfl]
  unfold ir33
  rw [bodyK_eq]
  generalize hb1 : decide (c.pages ≥ 1) = b1
  generalize hb2 : decide (c.pages ≤ 48) = b2
  generalize hb3 : decide (c.shards ≥ 1) = b3
  generalize hb4 : decide (c.shards ≤ 4) = b4
  generalize hb5 : decide (c.clients ≥ 1) = b5
  generalize hb6 : decide (c.clients ≤ 6) = b6
  generalize hb7 : decide (c.frames ≥ c.shards) = b7
  generalize hb8 : decide (c.frames ≤ 32) = b8
  cases b1
  · simp only [enter_eq, ev_seq, seqK_norm, seqK_exit, seqK_ret, ev_reg, ev_cond, condK_true, condK_false, ev_block, blockK_norm, blockK_ret, blockK_exit, ev_loop, ev_skip, ev_exit, ev_ret, regK_cons, regK_nil, guard_none, guard_some, regG_true, regG_false, regO_some, op_mov, op_conv, op_bin, op_bsl, op_box, op_mks, op_s2b, op_pick, op_un, op_eq, op_len, op_ext, op_load, op_iaddr, op_slice, op_b2s, op_idxS, op_mx, op_mn, op_call, op_store, op_app, op_copy, args_eq, result_one', rv_loc, finish_norm, finish_ret, outK_some, keep_true, keep_false, keep_nil, p_bin, p_pick, p_un, p_eq, p_conv, evNew, pureK_some, newK_some, X.eval, set_none, set_some, List.map_cons, List.map_nil, List.getD_cons_zero, List.getD_cons_succ, List.getD_nil, List.set_cons_zero, List.set_cons_succ, binCV, unCV, isShift, intArithF_eq, shiftF_eq, wrapF_eq, intArith, shift, eqVal, bound, asNat_cast, cond_true, cond_false, BEq.rfl, beq_self_eq_true, evalParts, fillParts, AV.cells, AV.ofCells, XV.av, AV.xv, List.length_cons, List.length_nil, zeros, patch, setMany, List.nil_append, List.cons_append, Nat.ble, Nat.add_eq, Nat.zero_add, Nat.add_zero, Nat.reduceAdd, Nat.reduceMul, Nat.reduceSub, Nat.ble_eq, Nat.reduceLeDiff, Nat.reduceBEq, Int.reduceBEq, Int.reduceNeg, Bool.and_true, Bool.and_false, Bool.true_and, Bool.false_and, Bool.not_true, Bool.not_false, Bool.true_eq_false, Bool.false_eq_true, Int.reduceLT, Int.reduceLE, Int.reduceGT, Int.reduceGE, decide_true, decide_false, Bool.not_eq_true, loopN_norm, loopN_exit, tf, ft, ff, bx, op_faddr, p_faddr, p_load, AV.ofCells, q0, q1, q2, q3, hb1, hb2, hb3, hb4, hb5, hb6, hb7, hb8]
  cases b2
  · simp only [enter_eq, ev_seq, seqK_norm, seqK_exit, seqK_ret, ev_reg, ev_cond, condK_true, condK_false, ev_block, blockK_norm, blockK_ret, blockK_exit, ev_loop, ev_skip, ev_exit, ev_ret, regK_cons, regK_nil, guard_none, guard_some, regG_true, regG_false, regO_some, op_mov, op_conv, op_bin, op_bsl, op_box, op_mks, op_s2b, op_pick, op_un, op_eq, op_len, op_ext, op_load, op_iaddr, op_slice, op_b2s, op_idxS, op_mx, op_mn, op_call, op_store, op_app, op_copy, args_eq, result_one', rv_loc, finish_norm, finish_ret, outK_some, keep_true, keep_false, keep_nil, p_bin, p_pick, p_un, p_eq, p_conv, evNew, pureK_some, newK_some, X.eval, set_none, set_some, List.map_cons, List.map_nil, List.getD_cons_zero, List.getD_cons_succ, List.getD_nil, List.set_cons_zero, List.set_cons_succ, binCV, unCV, isShift, intArithF_eq, shiftF_eq, wrapF_eq, intArith, shift, eqVal, bound, asNat_cast, cond_true, cond_false, BEq.rfl, beq_self_eq_true, evalParts, fillParts, AV.cells, AV.ofCells, XV.av, AV.xv, List.length_cons, List.length_nil, zeros, patch, setMany, List.nil_append, List.cons_append, Nat.ble, Nat.add_eq, Nat.zero_add, Nat.add_zero, Nat.reduceAdd, Nat.reduceMul, Nat.reduceSub, Nat.ble_eq, Nat.reduceLeDiff, Nat.reduceBEq, Int.reduceBEq, Int.reduceNeg, Bool.and_true, Bool.and_false, Bool.true_and, Bool.false_and, Bool.not_true, Bool.not_false, Bool.true_eq_false, Bool.false_eq_true, Int.reduceLT, Int.reduceLE, Int.reduceGT, Int.reduceGE, decide_true, decide_false, Bool.not_eq_true, loopN_norm, loopN_exit, tf, ft, ff, bx, op_faddr, p_faddr, p_load, AV.ofCells, q0, q1, q2, q3, hb1, hb2, hb3, hb4, hb5, hb6, hb7, hb8]
  cases b3
  · simp only [enter_eq, ev_seq, seqK_norm, seqK_exit, seqK_ret, ev_reg, ev_cond, condK_true, condK_false, ev_block, blockK_norm, blockK_ret, blockK_exit, ev_loop, ev_skip, ev_exit, ev_ret, regK_cons, regK_nil, guard_none, guard_some, regG_true, regG_false, regO_some, op_mov, op_conv, op_bin, op_bsl, op_box, op_mks, op_s2b, op_pick, op_un, op_eq, op_len, op_ext, op_load, op_iaddr, op_slice, op_b2s, op_idxS, op_mx, op_mn, op_call, op_store, op_app, op_copy, args_eq, result_one', rv_loc, finish_norm, finish_ret, outK_some, keep_true, keep_false, keep_nil, p_bin, p_pick, p_un, p_eq, p_conv, evNew, pureK_some, newK_some, X.eval, set_none, set_some, List.map_cons, List.map_nil, List.getD_cons_zero, List.getD_cons_succ, List.getD_nil, List.set_cons_zero, List.set_cons_succ, binCV, unCV, isShift, intArithF_eq, shiftF_eq, wrapF_eq, intArith, shift, eqVal, bound, asNat_cast, cond_true, cond_false, BEq.rfl, beq_self_eq_true, evalParts, fillParts, AV.cells, AV.ofCells, XV.av, AV.xv, List.length_cons, List.length_nil, zeros, patch, setMany, List.nil_append, List.cons_append, Nat.ble, Nat.add_eq, Nat.zero_add, Nat.add_zero, Nat.reduceAdd, Nat.reduceMul, Nat.reduceSub, Nat.ble_eq, Nat.reduceLeDiff, Nat.reduceBEq, Int.reduceBEq, Int.reduceNeg, Bool.and_true, Bool.and_false, Bool.true_and, Bool.false_and, Bool.not_true, Bool.not_false, Bool.true_eq_false, Bool.false_eq_true, Int.reduceLT, Int.reduceLE, Int.reduceGT, Int.reduceGE, decide_true, decide_false, Bool.not_eq_true, loopN_norm, loopN_exit, tf, ft, ff, bx, op_faddr, p_faddr, p_load, AV.ofCells, q0, q1, q2, q3, hb1, hb2, hb3, hb4, hb5, hb6, hb7, hb8]
  cases b4
  · simp only [enter_eq, ev_seq, seqK_norm, seqK_exit, seqK_ret, ev_reg, ev_cond, condK_true, condK_false, ev_block, blockK_norm, blockK_ret, blockK_exit, ev_loop, ev_skip, ev_exit, ev_ret, regK_cons, regK_nil, guard_none, guard_some, regG_true, regG_false, regO_some, op_mov, op_conv, op_bin, op_bsl, op_box, op_mks, op_s2b, op_pick, op_un, op_eq, op_len, op_ext, op_load, op_iaddr, op_slice, op_b2s, op_idxS, op_mx, op_mn, op_call, op_store, op_app, op_copy, args_eq, result_one', rv_loc, finish_norm, finish_ret, outK_some, keep_true, keep_false, keep_nil, p_bin, p_pick, p_un, p_eq, p_conv, evNew, pureK_some, newK_some, X.eval, set_none, set_some, List.map_cons, List.map_nil, List.getD_cons_zero, List.getD_cons_succ, List.getD_nil, List.set_cons_zero, List.set_cons_succ, binCV, unCV, isShift, intArithF_eq, shiftF_eq, wrapF_eq, intArith, shift, eqVal, bound, asNat_cast, cond_true, cond_false, BEq.rfl, beq_self_eq_true, evalParts, fillParts, AV.cells, AV.ofCells, XV.av, AV.xv, List.length_cons, List.length_nil, zeros, patch, setMany, List.nil_append, List.cons_append, Nat.ble, Nat.add_eq, Nat.zero_add, Nat.add_zero, Nat.reduceAdd, Nat.reduceMul, Nat.reduceSub, Nat.ble_eq, Nat.reduceLeDiff, Nat.reduceBEq, Int.reduceBEq, Int.reduceNeg, Bool.and_true, Bool.and_false, Bool.true_and, Bool.false_and, Bool.not_true, Bool.not_false, Bool.true_eq_false, Bool.false_eq_true, Int.reduceLT, Int.reduceLE, Int.reduceGT, Int.reduceGE, decide_true, decide_false, Bool.not_eq_true, loopN_norm, loopN_exit, tf, ft, ff, bx, op_faddr, p_faddr, p_load, AV.ofCells, q0, q1, q2, q3, hb1, hb2, hb3, hb4, hb5, hb6, hb7, hb8]
  cases b5
  · simp only [enter_eq, ev_seq, seqK_norm, seqK_exit, seqK_ret, ev_reg, ev_cond, condK_true, condK_false, ev_block, blockK_norm, blockK_ret, blockK_exit, ev_loop, ev_skip, ev_exit, ev_ret, regK_cons, regK_nil, guard_none, guard_some, regG_true, regG_false, regO_some, op_mov, op_conv, op_bin, op_bsl, op_box, op_mks, op_s2b, op_pick, op_un, op_eq, op_len, op_ext, op_load, op_iaddr, op_slice, op_b2s, op_idxS, op_mx, op_mn, op_call, op_store, op_app, op_copy, args_eq, result_one', rv_loc, finish_norm, finish_ret, outK_some, keep_true, keep_false, keep_nil, p_bin, p_pick, p_un, p_eq, p_conv, evNew, pureK_some, newK_some, X.eval, set_none, set_some, List.map_cons, List.map_nil, List.getD_cons_zero, List.getD_cons_succ, List.getD_nil, List.set_cons_zero, List.set_cons_succ, binCV, unCV, isShift, intArithF_eq, shiftF_eq, wrapF_eq, intArith, shift, eqVal, bound, asNat_cast, cond_true, cond_false, BEq.rfl, beq_self_eq_true, evalParts, fillParts, AV.cells, AV.ofCells, XV.av, AV.xv, List.length_cons, List.length_nil, zeros, patch, setMany, List.nil_append, List.cons_append, Nat.ble, Nat.add_eq, Nat.zero_add, Nat.add_zero, Nat.reduceAdd, Nat.reduceMul, Nat.reduceSub, Nat.ble_eq, Nat.reduceLeDiff, Nat.reduceBEq, Int.reduceBEq, Int.reduceNeg, Bool.and_true, Bool.and_false, Bool.true_and, Bool.false_and, Bool.not_true, Bool.not_false, Bool.true_eq_false, Bool.false_eq_true, Int.reduceLT, Int.reduceLE, Int.reduceGT, Int.reduceGE, decide_true, decide_false, Bool.not_eq_true, loopN_norm, loopN_exit, tf, ft, ff, bx, op_faddr, p_faddr, p_load, AV.ofCells, q0, q1, q2, q3, hb1, hb2, hb3, hb4, hb5, hb6, hb7, hb8]
  cases b6
  · simp only [enter_eq, ev_seq, seqK_norm, seqK_exit, seqK_ret, ev_reg, ev_cond, condK_true, condK_false, ev_block, blockK_norm, blockK_ret, blockK_exit, ev_loop, ev_skip, ev_exit, ev_ret, regK_cons, regK_nil, guard_none, guard_some, regG_true, regG_false, regO_some, op_mov, op_conv, op_bin, op_bsl, op_box, op_mks, op_s2b, op_pick, op_un, op_eq, op_len, op_ext, op_load, op_iaddr, op_slice, op_b2s, op_idxS, op_mx, op_mn, op_call, op_store, op_app, op_copy, args_eq, result_one', rv_loc, finish_norm, finish_ret, outK_some, keep_true, keep_false, keep_nil, p_bin, p_pick, p_un, p_eq, p_conv, evNew, pureK_some, newK_some, X.eval, set_none, set_some, List.map_cons, List.map_nil, List.getD_cons_zero, List.getD_cons_succ, List.getD_nil, List.set_cons_zero, List.set_cons_succ, binCV, unCV, isShift, intArithF_eq, shiftF_eq, wrapF_eq, intArith, shift, eqVal, bound, asNat_cast, cond_true, cond_false, BEq.rfl, beq_self_eq_true, evalParts, fillParts, AV.cells, AV.ofCells, XV.av, AV.xv, List.length_cons, List.length_nil, zeros, patch, setMany, List.nil_append, List.cons_append, Nat.ble, Nat.add_eq, Nat.zero_add, Nat.add_zero, Nat.reduceAdd, Nat.reduceMul, Nat.reduceSub, Nat.ble_eq, Nat.reduceLeDiff, Nat.reduceBEq, Int.reduceBEq, Int.reduceNeg, Bool.and_true, Bool.and_false, Bool.true_and, Bool.false_and, Bool.not_true, Bool.not_false, Bool.true_eq_false, Bool.false_eq_true, Int.reduceLT, Int.reduceLE, Int.reduceGT, Int.reduceGE, decide_true, decide_false, Bool.not_eq_true, loopN_norm, loopN_exit, tf, ft, ff, bx, op_faddr, p_faddr, p_load, AV.ofCells, q0, q1, q2, q3, hb1, hb2, hb3, hb4, hb5, hb6, hb7, hb8]
  cases b7 <;> simp only [enter_eq, ev_seq, seqK_norm, seqK_exit, seqK_ret, ev_reg, ev_cond, condK_true, condK_false, ev_block, blockK_norm, blockK_ret, blockK_exit, ev_loop, ev_skip, ev_exit, ev_ret, regK_cons, regK_nil, guard_none, guard_some, regG_true, regG_false, regO_some, op_mov, op_conv, op_bin, op_bsl, op_box, op_mks, op_s2b, op_pick, op_un, op_eq, op_len, op_ext, op_load, op_iaddr, op_slice, op_b2s, op_idxS, op_mx, op_mn, op_call, op_store, op_app, op_copy, args_eq, result_one', rv_loc, finish_norm, finish_ret, outK_some, keep_true, keep_false, keep_nil, p_bin, p_pick, p_un, p_eq, p_conv, evNew, pureK_some, newK_some, X.eval, set_none, set_some, List.map_cons, List.map_nil, List.getD_cons_zero, List.getD_cons_succ, List.getD_nil, List.set_cons_zero, List.set_cons_succ, binCV, unCV, isShift, intArithF_eq, shiftF_eq, wrapF_eq, intArith, shift, eqVal, bound, asNat_cast, cond_true, cond_false, BEq.rfl, beq_self_eq_true, evalParts, fillParts, AV.cells, AV.ofCells, XV.av, AV.xv, List.length_cons, List.length_nil, zeros, patch, setMany, List.nil_append, List.cons_append, Nat.ble, Nat.add_eq, Nat.zero_add, Nat.add_zero, Nat.reduceAdd, Nat.reduceMul, Nat.reduceSub, Nat.ble_eq, Nat.reduceLeDiff, Nat.reduceBEq, Int.reduceBEq, Int.reduceNeg, Bool.and_true, Bool.and_false, Bool.true_and, Bool.false_and, Bool.not_true, Bool.not_false, Bool.true_eq_false, Bool.false_eq_true, Int.reduceLT, Int.reduceLE, Int.reduceGT, Int.reduceGE, decide_true, decide_false, Bool.not_eq_true, loopN_norm, loopN_exit, tf, ft, ff, bx, op_faddr, p_faddr, p_load, AV.ofCells, q0, q1, q2, q3, hb1, hb2, hb3, hb4, hb5, hb6, hb7, hb8]

theorem conf_all (c : Cf) : ∃ h', evCallX table 21 37 N (d + 1) 28 [.agg (cfC c)] h = some (.c (.bool c.ok), h') ∧ Ext h h' := by
  have x1 : Ext h (h.new (.cells (cfC c))) := (Ext.refl _).new _
  have q0 : (h.new (.cells (cfC c))).read h.next 0 1 = some [.int .i64 c.pages] := read_cells get_new_at rfl
  have q1 : (h.new (.cells (cfC c))).read h.next 1 1 = some [.int .i64 c.frames] := read_cells get_new_at rfl
  have q2 : (h.new (.cells (cfC c))).read h.next 2 1 = some [.int .i64 c.shards] := read_cells get_new_at rfl
  have q3 : (h.new (.cells (cfC c))).read h.next 3 1 = some [.int .i64 c.clients] := read_cells get_new_at rfl
  have bx : AV.cells (.agg (cfC c)) = some (cfC c) := rfl
  refine ⟨_, ?_, x1⟩
  unfold Cf.ok
  rw [evCallX_eq (F := ir28) rfl rfl rfl rfl]
  unfold ir28
  rw [bodyK_eq]
  generalize hb1 : decide (c.pages ≥ 1) = b1
  generalize hb2 : decide (c.pages ≤ 48) = b2
  generalize hb3 : decide (c.shards ≥ 1) = b3
  generalize hb4 : decide (c.shards ≤ 4) = b4
  generalize hb5 : decide (c.clients ≥ 1) = b5
  generalize hb6 : decide (c.clients ≤ 6) = b6
  generalize hb7 : decide (c.frames ≥ c.shards) = b7
  generalize hb8 : decide (c.frames ≤ 32) = b8
  cases b1
  · simp only [enter_eq, ev_seq, seqK_norm, seqK_exit, seqK_ret, ev_reg, ev_cond, condK_true, condK_false, ev_block, blockK_norm, blockK_ret, blockK_exit, ev_loop, ev_skip, ev_exit, ev_ret, regK_cons, regK_nil, guard_none, guard_some, regG_true, regG_false, regO_some, op_mov, op_conv, op_bin, op_bsl, op_box, op_mks, op_s2b, op_pick, op_un, op_eq, op_len, op_ext, op_load, op_iaddr, op_slice, op_b2s, op_idxS, op_mx, op_mn, op_call, op_store, op_app, op_copy, args_eq, result_one', rv_loc, finish_norm, finish_ret, outK_some, keep_true, keep_false, keep_nil, p_bin, p_pick, p_un, p_eq, p_conv, evNew, pureK_some, newK_some, X.eval, set_none, set_some, List.map_cons, List.map_nil, List.getD_cons_zero, List.getD_cons_succ, List.getD_nil, List.set_cons_zero, List.set_cons_succ, binCV, unCV, isShift, intArithF_eq, shiftF_eq, wrapF_eq, intArith, shift, eqVal, bound, asNat_cast, cond_true, cond_false, BEq.rfl, beq_self_eq_true, evalParts, fillParts, AV.cells, AV.ofCells, XV.av, AV.xv, List.length_cons, List.length_nil, zeros, patch, setMany, List.nil_append, List.cons_append, Nat.ble, Nat.add_eq, Nat.zero_add, Nat.add_zero, Nat.reduceAdd, Nat.reduceMul, Nat.reduceSub, Nat.ble_eq, Nat.reduceLeDiff, Nat.reduceBEq, Int.reduceBEq, Int.reduceNeg, Bool.and_true, Bool.and_false, Bool.true_and, Bool.false_and, Bool.not_true, Bool.not_false, Bool.true_eq_false, Bool.false_eq_true, Int.reduceLT, Int.reduceLE, Int.reduceGT, Int.reduceGE, decide_true, decide_false, Bool.not_eq_true, loopN_norm, loopN_exit, tf, ft, ff, bx, op_faddr, p_faddr, p_load, AV.ofCells, q0, q1, q2, q3, hb1, hb2, hb3, hb4, hb5, hb6, hb7, hb8]
  cases b2
  · simp only [enter_eq, ev_seq, seqK_norm, seqK_exit, seqK_ret, ev_reg, ev_cond, condK_true, condK_false, ev_block, blockK_norm, blockK_ret, blockK_exit, ev_loop, ev_skip, ev_exit, ev_ret, regK_cons, regK_nil, guard_none, guard_some, regG_true, regG_false, regO_some, op_mov, op_conv, op_bin, op_bsl, op_box, op_mks, op_s2b, op_pick, op_un, op_eq, op_len, op_ext, op_load, op_iaddr, op_slice, op_b2s, op_idxS, op_mx, op_mn, op_call, op_store, op_app, op_copy, args_eq, result_one', rv_loc, finish_norm, finish_ret, outK_some, keep_true, keep_false, keep_nil, p_bin, p_pick, p_un, p_eq, p_conv, evNew, pureK_some, newK_some, X.eval, set_none, set_some, List.map_cons, List.map_nil, List.getD_cons_zero, List.getD_cons_succ, List.getD_nil, List.set_cons_zero, List.set_cons_succ, binCV, unCV, isShift, intArithF_eq, shiftF_eq, wrapF_eq, intArith, shift, eqVal, bound, asNat_cast, cond_true, cond_false, BEq.rfl, beq_self_eq_true, evalParts, fillParts, AV.cells, AV.ofCells, XV.av, AV.xv, List.length_cons, List.length_nil, zeros, patch, setMany, List.nil_append, List.cons_append, Nat.ble, Nat.add_eq, Nat.zero_add, Nat.add_zero, Nat.reduceAdd, Nat.reduceMul, Nat.reduceSub, Nat.ble_eq, Nat.reduceLeDiff, Nat.reduceBEq, Int.reduceBEq, Int.reduceNeg, Bool.and_true, Bool.and_false, Bool.true_and, Bool.false_and, Bool.not_true, Bool.not_false, Bool.true_eq_false, Bool.false_eq_true, Int.reduceLT, Int.reduceLE, Int.reduceGT, Int.reduceGE, decide_true, decide_false, Bool.not_eq_true, loopN_norm, loopN_exit, tf, ft, ff, bx, op_faddr, p_faddr, p_load, AV.ofCells, q0, q1, q2, q3, hb1, hb2, hb3, hb4, hb5, hb6, hb7, hb8]
  cases b3
  · simp only [enter_eq, ev_seq, seqK_norm, seqK_exit, seqK_ret, ev_reg, ev_cond, condK_true, condK_false, ev_block, blockK_norm, blockK_ret, blockK_exit, ev_loop, ev_skip, ev_exit, ev_ret, regK_cons, regK_nil, guard_none, guard_some, regG_true, regG_false, regO_some, op_mov, op_conv, op_bin, op_bsl, op_box, op_mks, op_s2b, op_pick, op_un, op_eq, op_len, op_ext, op_load, op_iaddr, op_slice, op_b2s, op_idxS, op_mx, op_mn, op_call, op_store, op_app, op_copy, args_eq, result_one', rv_loc, finish_norm, finish_ret, outK_some, keep_true, keep_false, keep_nil, p_bin, p_pick, p_un, p_eq, p_conv, evNew, pureK_some, newK_some, X.eval, set_none, set_some, List.map_cons, List.map_nil, List.getD_cons_zero, List.getD_cons_succ, List.getD_nil, List.set_cons_zero, List.set_cons_succ, binCV, unCV, isShift, intArithF_eq, shiftF_eq, wrapF_eq, intArith, shift, eqVal, bound, asNat_cast, cond_true, cond_false, BEq.rfl, beq_self_eq_true, evalParts, fillParts, AV.cells, AV.ofCells, XV.av, AV.xv, List.length_cons, List.length_nil, zeros, patch, setMany, List.nil_append, List.cons_append, Nat.ble, Nat.add_eq, Nat.zero_add, Nat.add_zero, Nat.reduceAdd, Nat.reduceMul, Nat.reduceSub, Nat.ble_eq, Nat.reduceLeDiff, Nat.reduceBEq, Int.reduceBEq, Int.reduceNeg, Bool.and_true, Bool.and_false, Bool.true_and, Bool.false_and, Bool.not_true, Bool.not_false, Bool.true_eq_false, Bool.false_eq_true, Int.reduceLT, Int.reduceLE, Int.reduceGT, Int.reduceGE, decide_true, decide_false, Bool.not_eq_true, loopN_norm, loopN_exit, tf, ft, ff, bx, op_faddr, p_faddr, p_load, AV.ofCells, q0, q1, q2, q3, hb1, hb2, hb3, hb4, hb5, hb6, hb7, hb8]
  cases b4
  · simp only [enter_eq, ev_seq, seqK_norm, seqK_exit, seqK_ret, ev_reg, ev_cond, condK_true, condK_false, ev_block, blockK_norm, blockK_ret, blockK_exit, ev_loop, ev_skip, ev_exit, ev_ret, regK_cons, regK_nil, guard_none, guard_some, regG_true, regG_false, regO_some, op_mov, op_conv, op_bin, op_bsl, op_box, op_mks, op_s2b, op_pick, op_un, op_eq, op_len, op_ext, op_load, op_iaddr, op_slice, op_b2s, op_idxS, op_mx, op_mn, op_call, op_store, op_app, op_copy, args_eq, result_one', rv_loc, finish_norm, finish_ret, outK_some, keep_true, keep_false, keep_nil, p_bin, p_pick, p_un, p_eq, p_conv, evNew, pureK_some, newK_some, X.eval, set_none, set_some, List.map_cons, List.map_nil, List.getD_cons_zero, List.getD_cons_succ, List.getD_nil, List.set_cons_zero, List.set_cons_succ, binCV, unCV, isShift, intArithF_eq, shiftF_eq, wrapF_eq, intArith, shift, eqVal, bound, asNat_cast, cond_true, cond_false, BEq.rfl, beq_self_eq_true, evalParts, fillParts, AV.cells, AV.ofCells, XV.av, AV.xv, List.length_cons, List.length_nil, zeros, patch, setMany, List.nil_append, List.cons_append, Nat.ble, Nat.add_eq, Nat.zero_add, Nat.add_zero, Nat.reduceAdd, Nat.reduceMul, Nat.reduceSub, Nat.ble_eq, Nat.reduceLeDiff, Nat.reduceBEq, Int.reduceBEq, Int.reduceNeg, Bool.and_true, Bool.and_false, Bool.true_and, Bool.false_and, Bool.not_true, Bool.not_false, Bool.true_eq_false, Bool.false_eq_true, Int.reduceLT, Int.reduceLE, Int.reduceGT, Int.reduceGE, decide_true, decide_false, Bool.not_eq_true, loopN_norm, loopN_exit, tf, ft, ff, bx, op_faddr, p_faddr, p_load, AV.ofCells, q0, q1, q2, q3, hb1, hb2, hb3, hb4, hb5, hb6, hb7, hb8]
  cases b5
  · simp only [enter_eq, ev_seq, seqK_norm, seqK_exit, seqK_ret, ev_reg, ev_cond, condK_true, condK_false, ev_block, blockK_norm, blockK_ret, blockK_exit, ev_loop, ev_skip, ev_exit, ev_ret, regK_cons, regK_nil, guard_none, guard_some, regG_true, regG_false, regO_some, op_mov, op_conv, op_bin, op_bsl, op_box, op_mks, op_s2b, op_pick, op_un, op_eq, op_len, op_ext, op_load, op_iaddr, op_slice, op_b2s, op_idxS, op_mx, op_mn, op_call, op_store, op_app, op_copy, args_eq, result_one', rv_loc, finish_norm, finish_ret, outK_some, keep_true, keep_false, keep_nil, p_bin, p_pick, p_un, p_eq, p_conv, evNew, pureK_some, newK_some, X.eval, set_none, set_some, List.map_cons, List.map_nil, List.getD_cons_zero, List.getD_cons_succ, List.getD_nil, List.set_cons_zero, List.set_cons_succ, binCV, unCV, isShift, intArithF_eq, shiftF_eq, wrapF_eq, intArith, shift, eqVal, bound, asNat_cast, cond_true, cond_false, BEq.rfl, beq_self_eq_true, evalParts, fillParts, AV.cells, AV.ofCells, XV.av, AV.xv, List.length_cons, List.length_nil, zeros, patch, setMany, List.nil_append, List.cons_append, Nat.ble, Nat.add_eq, Nat.zero_add, Nat.add_zero, Nat.reduceAdd, Nat.reduceMul, Nat.reduceSub, Nat.ble_eq, Nat.reduceLeDiff, Nat.reduceBEq, Int.reduceBEq, Int.reduceNeg, Bool.and_true, Bool.and_false, Bool.true_and, Bool.false_and, Bool.not_true, Bool.not_false, Bool.true_eq_false, Bool.false_eq_true, Int.reduceLT, Int.reduceLE, Int.reduceGT, Int.reduceGE, decide_true, decide_false, Bool.not_eq_true, loopN_norm, loopN_exit, tf, ft, ff, bx, op_faddr, p_faddr, p_load, AV.ofCells, q0, q1, q2, q3, hb1, hb2, hb3, hb4, hb5, hb6, hb7, hb8]
  cases b6
  · simp only [enter_eq, ev_seq, seqK_norm, seqK_exit, seqK_ret, ev_reg, ev_cond, condK_true, condK_false, ev_block, blockK_norm, blockK_ret, blockK_exit, ev_loop, ev_skip, ev_exit, ev_ret, regK_cons, regK_nil, guard_none, guard_some, regG_true, regG_false, regO_some, op_mov, op_conv, op_bin, op_bsl, op_box, op_mks, op_s2b, op_pick, op_un, op_eq, op_len, op_ext, op_load, op_iaddr, op_slice, op_b2s, op_idxS, op_mx, op_mn, op_call, op_store, op_app, op_copy, args_eq, result_one', rv_loc, finish_norm, finish_ret, outK_some, keep_true, keep_false, keep_nil, p_bin, p_pick, p_un, p_eq, p_conv, evNew, pureK_some, newK_some, X.eval, set_none, set_some, List.map_cons, List.map_nil, List.getD_cons_zero, List.getD_cons_succ, List.getD_nil, List.set_cons_zero, List.set_cons_succ, binCV, unCV, isShift, intArithF_eq, shiftF_eq, wrapF_eq, intArith, shift, eqVal, bound, asNat_cast, cond_true, cond_false, BEq.rfl, beq_self_eq_true, evalParts, fillParts, AV.cells, AV.ofCells, XV.av, AV.xv, List.length_cons, List.length_nil, zeros, patch, setMany, List.nil_append, List.cons_append, Nat.ble, Nat.add_eq, Nat.zero_add, Nat.add_zero, Nat.reduceAdd, Nat.reduceMul, Nat.reduceSub, Nat.ble_eq, Nat.reduceLeDiff, Nat.reduceBEq, Int.reduceBEq, Int.reduceNeg, Bool.and_true, Bool.and_false, Bool.true_and, Bool.false_and, Bool.not_true, Bool.not_false, Bool.true_eq_false, Bool.false_eq_true, Int.reduceLT, Int.reduceLE, Int.reduceGT, Int.reduceGE, decide_true, decide_false, Bool.not_eq_true, loopN_norm, loopN_exit, tf, ft, ff, bx, op_faddr, p_faddr, p_load, AV.ofCells, q0, q1, q2, q3, hb1, hb2, hb3, hb4, hb5, hb6, hb7, hb8]
  cases b7 <;> simp only [enter_eq, ev_seq, seqK_norm, seqK_exit, seqK_ret, ev_reg, ev_cond, condK_true, condK_false, ev_block, blockK_norm, blockK_ret, blockK_exit, ev_loop, ev_skip, ev_exit, ev_ret, regK_cons, regK_nil, guard_none, guard_some, regG_true, regG_false, regO_some, op_mov, op_conv, op_bin, op_bsl, op_box, op_mks, op_s2b, op_pick, op_un, op_eq, op_len, op_ext, op_load, op_iaddr, op_slice, op_b2s, op_idxS, op_mx, op_mn, op_call, op_store, op_app, op_copy, args_eq, result_one', rv_loc, finish_norm, finish_ret, outK_some, keep_true, keep_false, keep_nil, p_bin, p_pick, p_un, p_eq, p_conv, evNew, pureK_some, newK_some, X.eval, set_none, set_some, List.map_cons, List.map_nil, List.getD_cons_zero, List.getD_cons_succ, List.getD_nil, List.set_cons_zero, List.set_cons_succ, binCV, unCV, isShift, intArithF_eq, shiftF_eq, wrapF_eq, intArith, shift, eqVal, bound, asNat_cast, cond_true, cond_false, BEq.rfl, beq_self_eq_true, evalParts, fillParts, AV.cells, AV.ofCells, XV.av, AV.xv, List.length_cons, List.length_nil, zeros, patch, setMany, List.nil_append, List.cons_append, Nat.ble, Nat.add_eq, Nat.zero_add, Nat.add_zero, Nat.reduceAdd, Nat.reduceMul, Nat.reduceSub, Nat.ble_eq, Nat.reduceLeDiff, Nat.reduceBEq, Int.reduceBEq, Int.reduceNeg, Bool.and_true, Bool.and_false, Bool.true_and, Bool.false_and, Bool.not_true, Bool.not_false, Bool.true_eq_false, Bool.false_eq_true, Int.reduceLT, Int.reduceLE, Int.reduceGT, Int.reduceGE, decide_true, decide_false, Bool.not_eq_true, loopN_norm, loopN_exit, tf, ft, ff, bx, op_faddr, p_faddr, p_load, AV.ofCells, q0, q1, q2, q3, hb1, hb2, hb3, hb4, hb5, hb6, hb7, hb8]
end
end Lav
