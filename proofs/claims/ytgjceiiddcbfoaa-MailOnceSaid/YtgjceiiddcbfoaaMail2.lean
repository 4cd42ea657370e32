/-
  Layer 9: a new box; what the document's own box does.
-/
import Derived.Test.YtgjceiiddcbfoaaMail1
set_option maxRecDepth 100000
set_option linter.unusedSimpArgs false
namespace Lav
open Go (IntKind)

theorem Ints.keepB {S : List Nat} {h h' : Heap} {x : CV} {xs : List Int} (hx : Ints h x xs) (e : ExtB S h h') (hs : ∀ k, blk x = some k → k ∉ S) : Ints h' x xs := by
  rcases hx with h1 | ⟨i, o, c, rfl, h2, h3⟩
  · exact .inl h1
  · refine .inr ⟨i, o, c, rfl, Nat.lt_of_lt_of_le h2 e.1, fun j v hj => ?_⟩
    have := e.2 i h2 (hs i rfl)
    have h4 := h3 j v hj
    simp only [Heap.read] at h4 ⊢
    rw [this]; exact h4

/-- A slice that was made since h0, the only one of its block. -/
def Sole (h0 h : Heap) (x : CV) (vs : List Int) : Prop :=
  (x = .nils ∧ vs = []) ∨ ∃ i c, x = .sl i 0 vs.length c ∧ (c = .dy 1 ∨ c = .ex vs.length) ∧ h.get i = some (.cells (vs.map icell)) ∧ h0.next ≤ i ∧ i < h.next

theorem Sole.ints {h0 h : Heap} {x : CV} {vs : List Int} (m : Sole h0 h x vs) : Ints h x vs := by
  rcases m with ⟨rfl, rfl⟩ | ⟨i, c, rfl, _, hg, _, hi⟩
  · exact .inl ⟨rfl, rfl⟩
  · exact ints_cells hi hg
theorem Sole.young {h0 h : Heap} {x : CV} {vs : List Int} (m : Sole h0 h x vs) : ∀ k, blk x = some k → h0.next ≤ k := by
  rcases m with ⟨rfl, _⟩ | ⟨i, c, rfl, _, _, h1, _⟩ <;> intro k hk <;> simp [blk] at hk
  omega
theorem Sole.shape {h0 h : Heap} {x : CV} {vs : List Int} (m : Sole h0 h x vs) : ∀ i o' n c, x = .sl i o' n c → c = .dy 1 ∨ c = .ex n := by
  rcases m with ⟨rfl, _⟩ | ⟨i, c, rfl, h1, _⟩ <;> intro i o' n c' e <;> cases e
  exact h1
theorem Sole.keep {h0 h h' : Heap} {x : CV} {vs : List Int} (m : Sole h0 h x vs) (e : Ext h h') : Sole h0 h' x vs := by
  rcases m with h1 | ⟨i, c, h1, h2, hg, h3, h4⟩
  · exact .inl h1
  · exact .inr ⟨i, c, h1, h2, e.at_ hg h4, h3, Nat.lt_of_lt_of_le h4 e.1⟩
theorem Sole.keepB {S : List Nat} {h0 h h' : Heap} {x : CV} {vs : List Int} (m : Sole h0 h x vs) (e : ExtB S h h') (hs : ∀ k, blk x = some k → k ∉ S) : Sole h0 h' x vs := by
  rcases m with h1 | ⟨i, c, rfl, h2, hg, h3, h4⟩
  · exact .inl h1
  · exact .inr ⟨i, c, rfl, h2, e.at_ hg h4 (hs i rfl), h3, Nat.lt_of_lt_of_le h4 e.1⟩

/-- Ints are added to it. -/
theorem app_ints {h0 h : Heap} {x y : CV} {vs ws : List Int} (m : Sole h0 h x vs) (he : h0.next ≤ h.next) (hy : Ints h y ws) (hb : vs.length + ws.length ≤ 1000000) :
    ∃ z h', evApp h 1 (.c x) (.c y) = some (.c z, h') ∧ Sole h0 h' z (vs ++ ws) ∧ h.next ≤ h'.next ∧ (∀ k, k < h0.next → h'.get k = h.get k) := by
  have hs := hy.source
  by_cases hw : ws = []
  · subst hw
    refine ⟨x, h, app_none ?_ hs, by simpa using m, Nat.le_refl _, fun _ _ => rfl⟩
    rcases m with ⟨rfl, _⟩ | ⟨i, c, rfl, _⟩
    · exact .inl rfl
    · exact .inr ⟨_, _, _, _, rfl⟩
  · obtain ⟨k, hk⟩ : ∃ k, ws.length = k + 1 := ⟨ws.length - 1, by have := List.length_pos_iff.2 hw; omega⟩
    rw [hk] at hs
    rcases m with ⟨rfl, rfl⟩ | ⟨i, c, rfl, hc, hg, h1, h2⟩
    · have b1 : Nat.ble (k + 1) 1073741824 = true := Nat.ble_eq_true_of_le (by omega)
      refine ⟨.sl h.next 0 (k + 1) (.dy 1), h.new (.cells (ws.map icell)), ?_, .inr ⟨h.next, .dy 1, by simp [hk], .inl rfl, get_new_at, he, Nat.lt_succ_self _⟩, Nat.le_succ _, fun j hj => get_new_old (Nat.lt_of_lt_of_le hj he)⟩
      unfold evApp
      simp only [hs, b1, cond_true]
    · have b1 : Nat.ble (vs.length + (k + 1)) 1073741824 = true := Nat.ble_eq_true_of_le (by omega)
      have hz : (CV.sl h.next 0 (vs.length + (k + 1)) (.dy 1)) = .sl h.next 0 (vs ++ ws).length (.dy 1) := by rw [List.length_append, hk]
      rcases hc with rfl | rfl
      · have b2 : ((1 : Nat) == 1 && 0 + vs.length * 1 == (vs.map icell).length) = true := by simp
        refine ⟨_, (h.kill i).new (.cells ((vs ++ ws).map icell)), ?_, .inr ⟨h.next, .dy 1, hz, .inl rfl, get_new_at, he, Nat.lt_succ_self _⟩, Nat.le_succ _, fun j hj => ?_⟩
        · unfold evApp
          simp only [hs, b1, hg, b2, cond_true, List.drop_zero, List.map_append]
        · rw [get_new_old (h := h.kill i) (Nat.lt_of_lt_of_le hj he), get_kill_ne (by omega)]
      · have b2 : Nat.ble (vs.length + (k + 1)) vs.length = false := by
          cases hb : Nat.ble (vs.length + (k + 1)) vs.length with
          | false => rfl
          | true => have := Nat.le_of_ble_eq_true hb; omega
        have hr : h.read i 0 (vs.length * 1) = some (vs.map icell) := by
          rw [Nat.mul_one, read_part hg (by simp), List.drop_zero, List.take_of_length_le (by simp)]
        refine ⟨_, h.new (.cells ((vs ++ ws).map icell)), ?_, .inr ⟨h.next, .dy 1, hz, .inl rfl, get_new_at, he, Nat.lt_succ_self _⟩, Nat.le_succ _, fun j hj => get_new_old (Nat.lt_of_lt_of_le hj he)⟩
        unfold evApp
        simp only [hs, b1, b2, hr, cond_true, cond_false, List.map_append]

/-- Where a number stands, or none. -/
def placeOf : List Int → Int → Int
  | [], _ => -1
  | a :: l, x => if a = x then 0 else if placeOf l x < 0 then -1 else placeOf l x + 1
theorem placeOf_not : ∀ {o : List Int} {x : Int}, x ∉ o → placeOf o x = -1
  | [], _, _ => rfl
  | a :: l, x, h => by
    simp at h
    rw [placeOf, if_neg (fun e => h.1 e.symm), placeOf_not h.2]; rfl
theorem placeOf_mem : ∀ {o : List Int} {x : Int}, x ∈ o → ∃ k : Nat, placeOf o x = (k : Int) ∧ ∃ hk : k < o.length, o[k] = x ∧ x ∉ o.take k
  | a :: l, x, h => by
    by_cases e : a = x
    · exact ⟨0, by rw [placeOf, if_pos e]; rfl, by simp, by simpa using e, by simp⟩
    · have hx : x ∈ l := by simp at h; rcases h with h | h; exact absurd h.symm e; exact h
      obtain ⟨k, h1, hk, h2, h3⟩ := placeOf_mem hx
      refine ⟨k + 1, by rw [placeOf, if_neg e, h1, if_neg (by omega)]; rfl, by simpa using hk, by simpa using h2, ?_⟩
      simp only [List.take_succ_cons, List.mem_cons, not_or]
      exact ⟨fun e' => e e'.symm, h3⟩


section
variable {N d : Nat} {h : Heap} {o : List Int}

theorem place_ok {y : CV} (hy : Ints h y o) (x : Int) (hN : o.length + 2 ≤ N) (hl : o.length < 1000000) :
    evCallT table 13 N (d + 1) 42 [.c y, .c (.int .i64 x)] h = some (.c (.int .i64 (placeOf o x)), h) := by
  have lx : ∀ (loc vals : List AV) (h : Heap), evPure loc (.c y :: vals) h (.len .sl (.val 0)) = some (.c (.int .i64 (o.length : Int))) := fun _ _ _ => hy.len rfl
  rw [evCallT_eq (F := ir42) rfl rfl rfl]
  unfold ir42
  rw [bodyK_eq]
  have L : ∀ loc, keepOnly ir42_k0 loc = [.c y, .c (.int .i64 x), .junk, .c (.int .i64 0), .junk, .junk] →
      ∃ r, loopK (evCallT table 13 N d) N ir42_k0 ir42_l0 N loc h = some r ∧ ((placeOf o x = -1 ∧ ∃ a0 a1 a2 l, r = (.exit 0, a0 :: a1 :: a2 :: l, h)) ∨ ∃ a0 a1 l, r = (.ret, a0 :: a1 :: .c (.int .i64 (placeOf o x)) :: l, h)) := by
    intro loc hloc
    refine loop_inv (n := o.length) (fun i loc h' => h' = h ∧ x ∉ o.take i ∧ loc = [.c y, .c (.int .i64 x), .junk, .c (.int .i64 (i : Int)), .junk, .junk]) _ ?_ ⟨rfl, by simp, hloc⟩ (by omega)
    rintro i loc h' hi ⟨rfl, hno, rfl⟩
    unfold ir42_l0
    by_cases hlt : i < o.length
    · have v1 : decide ((i : Int) < (o.length : Int)) = true := ltNat hlt
      have v2 := succI (i := i) (by omega)
      obtain ⟨b, o', c, rfl, _, rx⟩ := hy.sl (by omega)
      have m1 : Nat.blt i o.length = true := bltT hlt
      have k1 := rx i hlt
      by_cases e : o[i] = x
      · right
        have q1 : (o[i] == x) = true := by simp [e]
        have hp : placeOf o x = (i : Int) := by
          obtain ⟨k, h1, hk, h2, h3⟩ := placeOf_mem (o := o) (x := x) (by rw [← e]; exact List.getElem_mem _)
          rw [h1]
          rcases Nat.lt_trichotomy k i with h4 | h4 | h4
          · exact absurd (by rw [← h2]; exact List.mem_take_iff_getElem.2 ⟨k, by omega, rfl⟩) hno
          · rw [h4]
          · exact absurd (by rw [← e]; exact List.mem_take_iff_getElem.2 ⟨i, by omega, rfl⟩) h3
        simp only [enter_eq, ev_seq, seqK_norm, seqK_exit, seqK_ret, ev_reg, ev_cond, condK_true, condK_false, ev_block, blockK_norm, blockK_ret, blockK_exit, ev_loop, ev_skip, ev_exit, ev_ret, regK_cons, regK_nil, guard_none, guard_some, regG_true, regG_false, regO_some, op_mov, op_conv, op_bin, op_bsl, op_box, op_mks, op_s2b, op_pick, op_un, op_eq, op_len, op_ext, op_load, op_iaddr, op_slice, op_b2s, op_idxS, op_mx, op_mn, op_call, op_store, op_app, op_copy, args_eq, result_one', rv_loc, finish_norm, finish_ret, outK_some, keep_true, keep_false, keep_nil, p_bin, p_pick, p_un, p_eq, p_conv, evNew, pureK_some, newK_some, X.eval, set_none, set_some, List.map_cons, List.map_nil, List.getD_cons_zero, List.getD_cons_succ, List.getD_nil, List.set_cons_zero, List.set_cons_succ, binCV, unCV, isShift, intArithF_eq, shiftF_eq, wrapF_eq, intArith, shift, eqVal, bound, asNat_cast, cond_true, cond_false, BEq.rfl, beq_self_eq_true, evalParts, fillParts, AV.cells, AV.ofCells, XV.av, AV.xv, List.length_cons, List.length_nil, zeros, patch, setMany, List.nil_append, List.cons_append, Nat.ble, Nat.add_eq, Nat.zero_add, Nat.add_zero, Nat.reduceAdd, Nat.reduceMul, Nat.reduceSub, Nat.ble_eq, Nat.reduceLeDiff, Nat.reduceBEq, Int.reduceBEq, Int.reduceNeg, Bool.and_true, Bool.and_false, Bool.true_and, Bool.false_and, Bool.not_true, Bool.not_false, Bool.true_eq_false, Bool.false_eq_true, Int.reduceLT, Int.reduceLE, Int.reduceGT, Int.reduceGE, decide_true, decide_false, Bool.not_eq_true, loopN_norm, loopN_exit, tf, ft, ff, lx, v1, p_iaddr, p_load, AV.ofCells, m1, Nat.mul_one, k1, q1]
        exact ⟨_, rfl, by simp, .inr ⟨_, _, _, by rw [hp]⟩⟩
      · left
        refine ⟨hlt, ?_⟩
        have q1 : (o[i] == x) = false := by simp [e]
        simp only [enter_eq, ev_seq, seqK_norm, seqK_exit, seqK_ret, ev_reg, ev_cond, condK_true, condK_false, ev_block, blockK_norm, blockK_ret, blockK_exit, ev_loop, ev_skip, ev_exit, ev_ret, regK_cons, regK_nil, guard_none, guard_some, regG_true, regG_false, regO_some, op_mov, op_conv, op_bin, op_bsl, op_box, op_mks, op_s2b, op_pick, op_un, op_eq, op_len, op_ext, op_load, op_iaddr, op_slice, op_b2s, op_idxS, op_mx, op_mn, op_call, op_store, op_app, op_copy, args_eq, result_one', rv_loc, finish_norm, finish_ret, outK_some, keep_true, keep_false, keep_nil, p_bin, p_pick, p_un, p_eq, p_conv, evNew, pureK_some, newK_some, X.eval, set_none, set_some, List.map_cons, List.map_nil, List.getD_cons_zero, List.getD_cons_succ, List.getD_nil, List.set_cons_zero, List.set_cons_succ, binCV, unCV, isShift, intArithF_eq, shiftF_eq, wrapF_eq, intArith, shift, eqVal, bound, asNat_cast, cond_true, cond_false, BEq.rfl, beq_self_eq_true, evalParts, fillParts, AV.cells, AV.ofCells, XV.av, AV.xv, List.length_cons, List.length_nil, zeros, patch, setMany, List.nil_append, List.cons_append, Nat.ble, Nat.add_eq, Nat.zero_add, Nat.add_zero, Nat.reduceAdd, Nat.reduceMul, Nat.reduceSub, Nat.ble_eq, Nat.reduceLeDiff, Nat.reduceBEq, Int.reduceBEq, Int.reduceNeg, Bool.and_true, Bool.and_false, Bool.true_and, Bool.false_and, Bool.not_true, Bool.not_false, Bool.true_eq_false, Bool.false_eq_true, Int.reduceLT, Int.reduceLE, Int.reduceGT, Int.reduceGE, decide_true, decide_false, Bool.not_eq_true, loopN_norm, loopN_exit, tf, ft, ff, lx, v1, v2, p_iaddr, p_load, AV.ofCells, m1, Nat.mul_one, k1, q1]
        refine ⟨_, _, rfl, rfl, ?_, rfl⟩
        rw [List.take_succ_eq_append_getElem hlt]
        simp only [List.mem_append, List.mem_singleton, not_or]
        exact ⟨hno, fun e' => e e'.symm⟩
    · right
      have hin : i = o.length := by omega
      subst hin
      rw [List.take_length] at hno
      have v1 : decide ((o.length : Int) < (o.length : Int)) = false := geNat (Nat.le_refl _)
      simp only [enter_eq, ev_seq, seqK_norm, seqK_exit, seqK_ret, ev_reg, ev_cond, condK_true, condK_false, ev_block, blockK_norm, blockK_ret, blockK_exit, ev_loop, ev_skip, ev_exit, ev_ret, regK_cons, regK_nil, guard_none, guard_some, regG_true, regG_false, regO_some, op_mov, op_conv, op_bin, op_bsl, op_box, op_mks, op_s2b, op_pick, op_un, op_eq, op_len, op_ext, op_load, op_iaddr, op_slice, op_b2s, op_idxS, op_mx, op_mn, op_call, op_store, op_app, op_copy, args_eq, result_one', rv_loc, finish_norm, finish_ret, outK_some, keep_true, keep_false, keep_nil, p_bin, p_pick, p_un, p_eq, p_conv, evNew, pureK_some, newK_some, X.eval, set_none, set_some, List.map_cons, List.map_nil, List.getD_cons_zero, List.getD_cons_succ, List.getD_nil, List.set_cons_zero, List.set_cons_succ, binCV, unCV, isShift, intArithF_eq, shiftF_eq, wrapF_eq, intArith, shift, eqVal, bound, asNat_cast, cond_true, cond_false, BEq.rfl, beq_self_eq_true, evalParts, fillParts, AV.cells, AV.ofCells, XV.av, AV.xv, List.length_cons, List.length_nil, zeros, patch, setMany, List.nil_append, List.cons_append, Nat.ble, Nat.add_eq, Nat.zero_add, Nat.add_zero, Nat.reduceAdd, Nat.reduceMul, Nat.reduceSub, Nat.ble_eq, Nat.reduceLeDiff, Nat.reduceBEq, Int.reduceBEq, Int.reduceNeg, Bool.and_true, Bool.and_false, Bool.true_and, Bool.false_and, Bool.not_true, Bool.not_false, Bool.true_eq_false, Bool.false_eq_true, Int.reduceLT, Int.reduceLE, Int.reduceGT, Int.reduceGE, decide_true, decide_false, Bool.not_eq_true, loopN_norm, loopN_exit, tf, ft, ff, lx, v1]
      exact ⟨_, rfl, by simp, .inl ⟨placeOf_not hno, _, _, _, _, rfl⟩⟩
  obtain ⟨r, hr, ⟨hm, a0, a1, a2, l, rfl⟩ | ⟨a0, a1, l, rfl⟩⟩ := L [.c y, .c (.int .i64 x), .c (.int .i64 0), .c (.int .i64 0), .tup [], .tup []] rfl
  · simp only [enter_eq, ev_seq, seqK_norm, seqK_exit, seqK_ret, ev_reg, ev_cond, condK_true, condK_false, ev_block, blockK_norm, blockK_ret, blockK_exit, ev_loop, ev_skip, ev_exit, ev_ret, regK_cons, regK_nil, guard_none, guard_some, regG_true, regG_false, regO_some, op_mov, op_conv, op_bin, op_bsl, op_box, op_mks, op_s2b, op_pick, op_un, op_eq, op_len, op_ext, op_load, op_iaddr, op_slice, op_b2s, op_idxS, op_mx, op_mn, op_call, op_store, op_app, op_copy, args_eq, result_one', rv_loc, finish_norm, finish_ret, outK_some, keep_true, keep_false, keep_nil, p_bin, p_pick, p_un, p_eq, p_conv, evNew, pureK_some, newK_some, X.eval, set_none, set_some, List.map_cons, List.map_nil, List.getD_cons_zero, List.getD_cons_succ, List.getD_nil, List.set_cons_zero, List.set_cons_succ, binCV, unCV, isShift, intArithF_eq, shiftF_eq, wrapF_eq, intArith, shift, eqVal, bound, asNat_cast, cond_true, cond_false, BEq.rfl, beq_self_eq_true, evalParts, fillParts, AV.cells, AV.ofCells, XV.av, AV.xv, List.length_cons, List.length_nil, zeros, patch, setMany, List.nil_append, List.cons_append, Nat.ble, Nat.add_eq, Nat.zero_add, Nat.add_zero, Nat.reduceAdd, Nat.reduceMul, Nat.reduceSub, Nat.ble_eq, Nat.reduceLeDiff, Nat.reduceBEq, Int.reduceBEq, Int.reduceNeg, Bool.and_true, Bool.and_false, Bool.true_and, Bool.false_and, Bool.not_true, Bool.not_false, Bool.true_eq_false, Bool.false_eq_true, Int.reduceLT, Int.reduceLE, Int.reduceGT, Int.reduceGE, decide_true, decide_false, Bool.not_eq_true, loopN_norm, loopN_exit, tf, ft, ff, hr, blockK_exit_eq, hm]
  · simp only [enter_eq, ev_seq, seqK_norm, seqK_exit, seqK_ret, ev_reg, ev_cond, condK_true, condK_false, ev_block, blockK_norm, blockK_ret, blockK_exit, ev_loop, ev_skip, ev_exit, ev_ret, regK_cons, regK_nil, guard_none, guard_some, regG_true, regG_false, regO_some, op_mov, op_conv, op_bin, op_bsl, op_box, op_mks, op_s2b, op_pick, op_un, op_eq, op_len, op_ext, op_load, op_iaddr, op_slice, op_b2s, op_idxS, op_mx, op_mn, op_call, op_store, op_app, op_copy, args_eq, result_one', rv_loc, finish_norm, finish_ret, outK_some, keep_true, keep_false, keep_nil, p_bin, p_pick, p_un, p_eq, p_conv, evNew, pureK_some, newK_some, X.eval, set_none, set_some, List.map_cons, List.map_nil, List.getD_cons_zero, List.getD_cons_succ, List.getD_nil, List.set_cons_zero, List.set_cons_succ, binCV, unCV, isShift, intArithF_eq, shiftF_eq, wrapF_eq, intArith, shift, eqVal, bound, asNat_cast, cond_true, cond_false, BEq.rfl, beq_self_eq_true, evalParts, fillParts, AV.cells, AV.ofCells, XV.av, AV.xv, List.length_cons, List.length_nil, zeros, patch, setMany, List.nil_append, List.cons_append, Nat.ble, Nat.add_eq, Nat.zero_add, Nat.add_zero, Nat.reduceAdd, Nat.reduceMul, Nat.reduceSub, Nat.ble_eq, Nat.reduceLeDiff, Nat.reduceBEq, Int.reduceBEq, Int.reduceNeg, Bool.and_true, Bool.and_false, Bool.true_and, Bool.false_and, Bool.not_true, Bool.not_false, Bool.true_eq_false, Bool.false_eq_true, Int.reduceLT, Int.reduceLE, Int.reduceGT, Int.reduceGE, decide_true, decide_false, Bool.not_eq_true, loopN_norm, loopN_exit, tf, ft, ff, hr, blockK_ret]

/-- A part of ints. -/
theorem Ints.part {i o' m : Nat} {c : Cap} (hx : Ints h (.sl i o' m c) o) (a k : Nat) (hk : a + k ≤ o.length) (c' : Cap) : Ints h (.sl i (o' + a * 1) k c') ((o.drop a).take k) := by
  rcases hx with ⟨h1, _⟩ | ⟨i', o2, c2, h1, h2, h3⟩
  · cases h1
  · cases h1
    refine .inr ⟨_, o' + a * 1, c', by congr 1; simp; omega, h2, fun j v hj => ?_⟩
    rw [List.getElem?_take] at hj
    split at hj
    · rw [List.getElem?_drop] at hj
      have := h3 (a + j) v hj
      rw [show o' + a * 1 + j * 1 = o' + (a + j) * 1 by omega]; exact this
    · cases hj

theorem without_ok {i o' m : Nat} {c : Cap} (hy : Ints h (.sl i o' m c) o) (hc : c = .dy 1 ∨ c = .ex m) {k : Nat} (hk : k < o.length) (hl : o.length < 900000) :
    ∃ z h', evCallT table 13 N (d + 1) 43 [.c (.sl i o' m c), .c (.int .i64 (k : Int))] h = some (.c z, h') ∧ Sole h h' z (o.take k ++ o.drop (k + 1)) ∧ h.next ≤ h'.next ∧ ∀ j, j < h.next → h'.get j = h.get j := by
  have hm : m = o.length := by
    rcases hy with ⟨h1, _⟩ | ⟨_, _, _, h1, _⟩
    · cases h1
    · cases h1; rfl
  subst hm
  have e0 : Ext h ((h.skip 1).put h.next (.cells [])) := ((Ext.refl _).skip 1).put (Nat.le_refl _) _
  have v2 := succI (i := k) (by omega)
  have b1 : Nat.ble k o.length = true := Nat.ble_eq_true_of_le (by omega)
  have b2 : Nat.ble (k + 1) o.length = true := Nat.ble_eq_true_of_le (by omega)
  have b3 : Nat.ble o.length o.length = true := Nat.ble_eq_true_of_le (Nat.le_refl _)
  have p1 : ∀ c', Ints ((h.skip 1).put h.next (.cells [])) (.sl i (o' + 0 * 1) (k - 0) c') (o.take k) := fun c' => by
    have := (hy.ext e0).part 0 k (by omega) c'
    rwa [List.drop_zero] at this
  have p2 : ∀ c', Ints h (.sl i (o' + (k + 1) * 1) (o.length - (k + 1)) c') (o.drop (k + 1)) := fun c' => by
    have := hy.part (k + 1) (o.length - (k + 1)) (by omega) c'
    rwa [List.take_of_length_le (by simp)] at this
  rw [evCallT_eq (F := ir43) rfl rfl rfl]
  unfold ir43
  rw [bodyK_eq]
  have two : ∀ c1 c2, ∃ z1 h1, evApp ((h.skip 1).put h.next (.cells [])) 1 (.c (.sl h.next 0 0 (.ex 0))) (.c (.sl i (o' + 0 * 1) (k - 0) c1)) = some (.c z1, h1) ∧ ∃ z h', evApp h1 1 (.c z1) (.c (.sl i (o' + (k + 1) * 1) (o.length - (k + 1)) c2)) = some (.c z, h') ∧ Sole h h' z (o.take k ++ o.drop (k + 1)) ∧ h.next ≤ h'.next ∧ ∀ j, j < h.next → h'.get j = h.get j := fun c1 c2 => by
    obtain ⟨z1, h1, a1, a2, a3, a4⟩ := app_ints (h0 := h) (h := (h.skip 1).put h.next (.cells [])) (x := .sl h.next 0 0 (.ex 0)) (vs := []) (.inr ⟨h.next, .ex 0, rfl, .inr rfl, get_put_at, Nat.le_refl _, Nat.lt_succ_self _⟩) (Nat.le_succ _) (p1 c1) (by simp; omega)
    rw [List.nil_append] at a2
    have hle : h.next ≤ h1.next := Nat.le_trans (Nat.le_succ _) a3
    have ext1 : Ext h h1 := ⟨hle, fun j hj => by rw [a4 j hj]; exact e0.2 j hj⟩
    obtain ⟨z, h', c1', c2', c3, c4⟩ := app_ints (h0 := h) (h := h1) (x := z1) a2 hle ((p2 c2).ext ext1) (by simp; omega)
    exact ⟨z1, h1, a1, z, h', c1', c2', Nat.le_trans hle c3, fun j hj => by rw [c4 j hj]; exact ext1.2 j hj⟩
  rcases hc with rfl | rfl
  · obtain ⟨z1, h1, a1, z, h', a2, a3, a4, a5⟩ := two (.dy 1) (.dy 1)
    simp only [Nat.zero_mul, Nat.add_zero, Nat.sub_zero, Nat.mul_one] at a1 a2
    simp only [enter_eq, ev_seq, seqK_norm, seqK_exit, seqK_ret, ev_reg, ev_cond, condK_true, condK_false, ev_block, blockK_norm, blockK_ret, blockK_exit, ev_loop, ev_skip, ev_exit, ev_ret, regK_cons, regK_nil, guard_none, guard_some, regG_true, regG_false, regO_some, op_mov, op_conv, op_bin, op_bsl, op_box, op_mks, op_s2b, op_pick, op_un, op_eq, op_len, op_ext, op_load, op_iaddr, op_slice, op_b2s, op_idxS, op_mx, op_mn, op_call, op_store, op_app, op_copy, args_eq, result_one', rv_loc, finish_norm, finish_ret, outK_some, keep_true, keep_false, keep_nil, evPure, evNew, pureK_some, newK_some, X.eval, set_none, set_some, List.map_cons, List.map_nil, List.getD_cons_zero, List.getD_cons_succ, List.getD_nil, List.set_cons_zero, List.set_cons_succ, binCV, unCV, isShift, intArithF_eq, shiftF_eq, wrapF_eq, intArith, shift, eqVal, bound, asNat_cast, cond_true, cond_false, BEq.rfl, beq_self_eq_true, evalParts, fillParts, AV.cells, AV.ofCells, XV.av, AV.xv, List.length_cons, List.length_nil, zeros, patch, setMany, List.nil_append, List.cons_append, Nat.ble, Nat.add_eq, Nat.zero_add, Nat.add_zero, Nat.reduceAdd, Nat.reduceMul, Nat.reduceSub, Nat.ble_eq, Nat.reduceLeDiff, Nat.reduceBEq, Int.reduceBEq, Int.reduceNeg, Bool.and_true, Bool.and_false, Bool.true_and, Bool.false_and, Bool.not_true, Bool.not_false, Bool.true_eq_false, Bool.false_eq_true, Int.reduceLT, Int.reduceLE, Int.reduceGT, Int.reduceGE, decide_true, decide_false, Bool.not_eq_true, loopN_norm, loopN_exit, tf, ft, ff, ev_dreg, dregK_nil, dregK_cons, dregE_true, dregP_some, dregX_some, d_mov, d_bin, d_eq, d_pick, d_un, d_conv, d_b2s, d_len, d_load, d_iaddr, d_slice, d_ext, d_call, d_store, chk_done, chk_none, chk_some, chkG_true, chkG_false, chkOne_nil, chkOne_cons, chkH_some, chkV_same, stage_none, stage_some, look_hit, look_miss, news_nil, wb_cons, wb_nil, skip0, List.reverse_cons, List.reverse_nil, d_bsl, d_app, dregW_some, b1, b2, b3, v2, Nat.zero_mul, Nat.add_zero, Nat.sub_zero, Nat.mul_one, a1, a2]
    exact ⟨_, _, rfl, a3, a4, a5⟩
  · obtain ⟨z1, h1, a1, z, h', a2, a3, a4, a5⟩ := two (.ex o.length) (.ex (o.length - (k + 1)))
    simp only [Nat.zero_mul, Nat.add_zero, Nat.sub_zero, Nat.mul_one] at a1 a2
    simp only [enter_eq, ev_seq, seqK_norm, seqK_exit, seqK_ret, ev_reg, ev_cond, condK_true, condK_false, ev_block, blockK_norm, blockK_ret, blockK_exit, ev_loop, ev_skip, ev_exit, ev_ret, regK_cons, regK_nil, guard_none, guard_some, regG_true, regG_false, regO_some, op_mov, op_conv, op_bin, op_bsl, op_box, op_mks, op_s2b, op_pick, op_un, op_eq, op_len, op_ext, op_load, op_iaddr, op_slice, op_b2s, op_idxS, op_mx, op_mn, op_call, op_store, op_app, op_copy, args_eq, result_one', rv_loc, finish_norm, finish_ret, outK_some, keep_true, keep_false, keep_nil, evPure, evNew, pureK_some, newK_some, X.eval, set_none, set_some, List.map_cons, List.map_nil, List.getD_cons_zero, List.getD_cons_succ, List.getD_nil, List.set_cons_zero, List.set_cons_succ, binCV, unCV, isShift, intArithF_eq, shiftF_eq, wrapF_eq, intArith, shift, eqVal, bound, asNat_cast, cond_true, cond_false, BEq.rfl, beq_self_eq_true, evalParts, fillParts, AV.cells, AV.ofCells, XV.av, AV.xv, List.length_cons, List.length_nil, zeros, patch, setMany, List.nil_append, List.cons_append, Nat.ble, Nat.add_eq, Nat.zero_add, Nat.add_zero, Nat.reduceAdd, Nat.reduceMul, Nat.reduceSub, Nat.ble_eq, Nat.reduceLeDiff, Nat.reduceBEq, Int.reduceBEq, Int.reduceNeg, Bool.and_true, Bool.and_false, Bool.true_and, Bool.false_and, Bool.not_true, Bool.not_false, Bool.true_eq_false, Bool.false_eq_true, Int.reduceLT, Int.reduceLE, Int.reduceGT, Int.reduceGE, decide_true, decide_false, Bool.not_eq_true, loopN_norm, loopN_exit, tf, ft, ff, ev_dreg, dregK_nil, dregK_cons, dregE_true, dregP_some, dregX_some, d_mov, d_bin, d_eq, d_pick, d_un, d_conv, d_b2s, d_len, d_load, d_iaddr, d_slice, d_ext, d_call, d_store, chk_done, chk_none, chk_some, chkG_true, chkG_false, chkOne_nil, chkOne_cons, chkH_some, chkV_same, stage_none, stage_some, look_hit, look_miss, news_nil, wb_cons, wb_nil, skip0, List.reverse_cons, List.reverse_nil, d_bsl, d_app, dregW_some, b1, b2, b3, v2, Nat.zero_mul, Nat.add_zero, Nat.sub_zero, Nat.mul_one, a1, a2]
    exact ⟨_, _, rfl, a3, a4, a5⟩

theorem erase_place {x : Int} {k : Nat} (hk : k < o.length) (e : o[k] = x) (hno : x ∉ o.take k) : o.erase x = o.take k ++ o.drop (k + 1) := by
  have h1 : o = o.take k ++ x :: o.drop (k + 1) := by rw [← e, ← List.drop_eq_getElem_cons hk, List.take_append_drop]
  rw [show o.erase x = (o.take k ++ x :: o.drop (k + 1)).erase x from congrArg (·.erase x) h1, List.erase_append_right _ hno, List.erase_cons_head]

theorem bits_ff : bits 64 (fun _ => false) = List.replicate 64 (.bool false) := rfl
/-- The channels that there are as yet. -/
def chs (c i : Nat) : List CV := (List.range i).map (fun j => CV.ch (c + j)) ++ List.replicate (64 - i) .nilch
theorem chs_len {c i : Nat} (h : i ≤ 64) : (chs c i).length = 64 := by simp [chs]; omega
theorem chs_next {c i : Nat} (h : i < 64) : (chs c i).set i (.ch (c + i)) = chs c (i + 1) := by
  unfold chs
  rw [List.set_append_right _ _ (by simp)]
  have e : i - ((List.range i).map (fun j => CV.ch (c + j))).length = 0 := by simp
  rw [e, show 64 - i = (64 - (i + 1)) + 1 by omega, List.replicate_succ, List.set_cons_zero, List.range_succ, List.map_append]
  simp

theorem new_box (hN : 70 ≤ N) : ∃ p w cs h', evCallT table 13 N (d + 1) 12 [] h = some (.c (.ptr p 0), h') ∧ MB h' p w cs [] (fun _ => false) (fun _ => false) (fun _ => none) ∧ Ext h h' ∧ h.next ≤ p ∧ h.next ≤ w ∧ ∀ a ∈ cs, h.next ≤ a := by
  have a8 : asNat (.c (.int .i64 8)) = some 8 := rfl
  have a1 : asNat (.c (.int .i64 1)) = some 1 := rfl
  obtain ⟨h2, e2⟩ : ∃ h2, h2 = (h.new (.chan 8 [])).new (.cells (boxC h.next (List.replicate 64 .nilch) (fun _ => false) (fun _ => false))) := ⟨_, rfl⟩
  have n2 : h2.next = h.next + 2 := by rw [e2]; rfl
  have x2 : Ext h h2 := by rw [e2]; exact ((Ext.refl _).new _).new _
  have gp : h2.get (h.next + 1) = some (.cells (boxC h.next (chs (h.next + 2) 0) (fun _ => false) (fun _ => false))) := by rw [e2]; exact get_new_at (h := h.new (.chan 8 []))
  have gw : h2.get h.next = some (.chan 8 []) := by rw [e2, get_new_old (h := h.new (.chan 8 [])) (Nat.lt_succ_self _)]; exact get_new_at
  rw [evCallT_eq (F := ir12) rfl rfl rfl]
  unfold ir12
  rw [bodyK_eq]
  have L : ∀ loc, keepOnly ir12_k0 loc = [.junk, .c (.ptr (h.next + 1) 0), .junk, .c (.int .i64 0), .junk] →
      ∃ r, loopK (evCallT table 13 N d) N ir12_k0 ir12_l0 N loc h2 = some r ∧ ∃ h' a0 l, r = (.exit 0, a0 :: .c (.ptr (h.next + 1) 0) :: l, h') ∧ Ext h h' ∧ h'.next = h.next + 66 ∧ h'.get (h.next + 1) = some (.cells (boxC h.next (chs (h.next + 2) 64) (fun _ => false) (fun _ => false))) ∧ h'.get h.next = some (.chan 8 []) ∧ ∀ j, j < 64 → h'.get (h.next + 2 + j) = some (.chan 1 []) := by
    intro loc hloc
    refine loop_inv (n := 64) (fun i loc h' => Ext h h' ∧ h'.next = h.next + 2 + i ∧ h'.get (h.next + 1) = some (.cells (boxC h.next (chs (h.next + 2) i) (fun _ => false) (fun _ => false))) ∧ h'.get h.next = some (.chan 8 []) ∧ (∀ j, j < i → h'.get (h.next + 2 + j) = some (.chan 1 [])) ∧
      loc = [.junk, .c (.ptr (h.next + 1) 0), .junk, .c (.int .i64 (i : Int)), .junk]) _ ?_ ⟨x2, n2, gp, gw, fun j hj => by omega, hloc⟩ (by omega)
    rintro i loc h' hi ⟨he, hn, hp, hw, hc, rfl⟩
    unfold ir12_l0
    by_cases hlt : i < 64
    · left
      refine ⟨hlt, ?_⟩
      have v1 : decide ((i : Int) < 64) = true := decide_eq_true (by omega)
      have v2 := succI (i := i) (by omega)
      have m1 : Nat.blt i 64 = true := bltT hlt
      have gp' : ((h'.skip 1).put h'.next (.chan 1 [])).get (h.next + 1) = some (.cells (boxC h.next (chs (h.next + 2) i) (fun _ => false) (fun _ => false))) := by rw [get_put_ne (by omega)]; exact hp
      have W := write_one (o := 1 + i) (v := .ch h'.next) gp' (by rw [boxC_len (chs_len hi)]; omega)
      rw [boxC_setH (by rw [chs_len hi]; exact hlt), show h'.next = (h.next + 2) + i by omega, chs_next hlt] at W
      simp only [enter_eq, ev_seq, seqK_norm, seqK_exit, seqK_ret, ev_reg, ev_cond, condK_true, condK_false, ev_block, blockK_norm, blockK_ret, blockK_exit, ev_loop, ev_skip, ev_exit, ev_ret, regK_cons, regK_nil, guard_none, guard_some, regG_true, regG_false, regO_some, op_mov, op_conv, op_bin, op_bsl, op_box, op_mks, op_s2b, op_pick, op_un, op_eq, op_len, op_ext, op_load, op_iaddr, op_slice, op_b2s, op_idxS, op_mx, op_mn, op_call, op_store, op_app, op_copy, args_eq, result_one', rv_loc, finish_norm, finish_ret, outK_some, keep_true, keep_false, keep_nil, p_bin, p_pick, p_un, p_eq, p_conv, evNew, pureK_some, newK_some, X.eval, set_none, set_some, List.map_cons, List.map_nil, List.getD_cons_zero, List.getD_cons_succ, List.getD_nil, List.set_cons_zero, List.set_cons_succ, binCV, unCV, isShift, intArithF_eq, shiftF_eq, wrapF_eq, intArith, shift, eqVal, bound, asNat_cast, cond_true, cond_false, BEq.rfl, beq_self_eq_true, evalParts, fillParts, AV.cells, AV.ofCells, XV.av, AV.xv, List.length_cons, List.length_nil, zeros, patch, setMany, List.nil_append, List.cons_append, Nat.ble, Nat.add_eq, Nat.zero_add, Nat.add_zero, Nat.reduceAdd, Nat.reduceMul, Nat.reduceSub, Nat.ble_eq, Nat.reduceLeDiff, Nat.reduceBEq, Int.reduceBEq, Int.reduceNeg, Bool.and_true, Bool.and_false, Bool.true_and, Bool.false_and, Bool.not_true, Bool.not_false, Bool.true_eq_false, Bool.false_eq_true, Int.reduceLT, Int.reduceLE, Int.reduceGT, Int.reduceGE, decide_true, decide_false, Bool.not_eq_true, loopN_norm, loopN_exit, tf, ft, ff, ev_dreg, dregK_nil, dregK_cons, dregE_true, dregP_some, dregX_some, d_mov, d_bin, d_eq, d_pick, d_un, d_conv, d_b2s, d_len, d_load, d_iaddr, d_slice, d_ext, d_call, d_store, chk_done, chk_none, chk_some, chkG_true, chkG_false, chkOne_nil, chkOne_cons, chkH_some, chkV_same, stage_none, stage_some, look_hit, look_miss, news_nil, wb_cons, wb_nil, skip0, List.reverse_cons, List.reverse_nil, v1, v2, a1, d_mkch, dregW_some, d_nilchk, p_nilchk, d_faddr, p_faddr, d_iaddrA, p_iaddrA, m1, Nat.mul_one, hn, evEff, W]
      refine ⟨_, _, rfl, ?_, ?_, get_put_at, ?_, ?_, rfl⟩
      · exact (((he.skip 1).put (by omega) _).put (by omega) _)
      · rw [next_put, next_put, next_skip]; omega
      · rw [get_put_ne (by omega), get_put_ne (by omega)]; exact hw
      · intro j hj
        rw [get_put_ne (by omega)]
        by_cases e : j = i
        · subst e; rw [get_put_at]
        · rw [get_put_ne (by omega)]; exact hc j (by omega)
    · right
      have hin : i = 64 := by omega
      subst hin
      simp only [enter_eq, ev_seq, seqK_norm, seqK_exit, seqK_ret, ev_reg, ev_cond, condK_true, condK_false, ev_block, blockK_norm, blockK_ret, blockK_exit, ev_loop, ev_skip, ev_exit, ev_ret, regK_cons, regK_nil, guard_none, guard_some, regG_true, regG_false, regO_some, op_mov, op_conv, op_bin, op_bsl, op_box, op_mks, op_s2b, op_pick, op_un, op_eq, op_len, op_ext, op_load, op_iaddr, op_slice, op_b2s, op_idxS, op_mx, op_mn, op_call, op_store, op_app, op_copy, args_eq, result_one', rv_loc, finish_norm, finish_ret, outK_some, keep_true, keep_false, keep_nil, p_bin, p_pick, p_un, p_eq, p_conv, evNew, pureK_some, newK_some, X.eval, set_none, set_some, List.map_cons, List.map_nil, List.getD_cons_zero, List.getD_cons_succ, List.getD_nil, List.set_cons_zero, List.set_cons_succ, binCV, unCV, isShift, intArithF_eq, shiftF_eq, wrapF_eq, intArith, shift, eqVal, bound, asNat_cast, cond_true, cond_false, BEq.rfl, beq_self_eq_true, evalParts, fillParts, AV.cells, AV.ofCells, XV.av, AV.xv, List.length_cons, List.length_nil, zeros, patch, setMany, List.nil_append, List.cons_append, Nat.ble, Nat.add_eq, Nat.zero_add, Nat.add_zero, Nat.reduceAdd, Nat.reduceMul, Nat.reduceSub, Nat.ble_eq, Nat.reduceLeDiff, Nat.reduceBEq, Int.reduceBEq, Int.reduceNeg, Bool.and_true, Bool.and_false, Bool.true_and, Bool.false_and, Bool.not_true, Bool.not_false, Bool.true_eq_false, Bool.false_eq_true, Int.reduceLT, Int.reduceLE, Int.reduceGT, Int.reduceGE, decide_true, decide_false, Bool.not_eq_true, loopN_norm, loopN_exit, tf, ft, ff]
      exact ⟨_, rfl, by simp, h', _, _, rfl, he, hn, hp, hw, hc⟩
  obtain ⟨r, hr, h', a0, l, rfl, he, hn, hp, hw, hc⟩ := L [.c .nilp, .c (.ptr (h.next + 1) 0), .tup [], .c (.int .i64 0), .tup []] rfl
  have hb : (h.new (.chan 8 [])).next = h.next + 1 := rfl
  simp only [enter_eq, ev_seq, seqK_norm, seqK_exit, seqK_ret, ev_reg, ev_cond, condK_true, condK_false, ev_block, blockK_norm, blockK_ret, blockK_exit, ev_loop, ev_skip, ev_exit, ev_ret, regK_cons, regK_nil, guard_none, guard_some, regG_true, regG_false, regO_some, op_mov, op_conv, op_bin, op_bsl, op_box, op_mks, op_s2b, op_pick, op_un, op_eq, op_len, op_ext, op_load, op_iaddr, op_slice, op_b2s, op_idxS, op_mx, op_mn, op_call, op_store, op_app, op_copy, args_eq, result_one', rv_loc, finish_norm, finish_ret, outK_some, keep_true, keep_false, keep_nil, p_bin, p_pick, p_un, p_eq, p_conv, evNew, pureK_some, newK_some, X.eval, set_none, set_some, List.map_cons, List.map_nil, List.getD_cons_zero, List.getD_cons_succ, List.getD_nil, List.set_cons_zero, List.set_cons_succ, binCV, unCV, isShift, intArithF_eq, shiftF_eq, wrapF_eq, intArith, shift, eqVal, bound, asNat_cast, cond_true, cond_false, BEq.rfl, beq_self_eq_true, evalParts, fillParts, AV.cells, AV.ofCells, XV.av, AV.xv, List.length_cons, List.length_nil, zeros, patch, setMany, List.nil_append, List.cons_append, Nat.ble, Nat.add_eq, Nat.zero_add, Nat.add_zero, Nat.reduceAdd, Nat.reduceMul, Nat.reduceSub, Nat.ble_eq, Nat.reduceLeDiff, Nat.reduceBEq, Int.reduceBEq, Int.reduceNeg, Bool.and_true, Bool.and_false, Bool.true_and, Bool.false_and, Bool.not_true, Bool.not_false, Bool.true_eq_false, Bool.false_eq_true, Int.reduceLT, Int.reduceLE, Int.reduceGT, Int.reduceGE, decide_true, decide_false, Bool.not_eq_true, loopN_norm, loopN_exit, tf, ft, ff, op_mkch, a8, op_build, p_build', hb]
  have e3 := e2
  simp only [boxC, bits_ff, List.reduceReplicate, List.cons_append, List.nil_append] at e3
  rw [← e3]
  simp only [enter_eq, ev_seq, seqK_norm, seqK_exit, seqK_ret, ev_reg, ev_cond, condK_true, condK_false, ev_block, blockK_norm, blockK_ret, blockK_exit, ev_loop, ev_skip, ev_exit, ev_ret, regK_cons, regK_nil, guard_none, guard_some, regG_true, regG_false, regO_some, op_mov, op_conv, op_bin, op_bsl, op_box, op_mks, op_s2b, op_pick, op_un, op_eq, op_len, op_ext, op_load, op_iaddr, op_slice, op_b2s, op_idxS, op_mx, op_mn, op_call, op_store, op_app, op_copy, args_eq, result_one', rv_loc, finish_norm, finish_ret, outK_some, keep_true, keep_false, keep_nil, p_bin, p_pick, p_un, p_eq, p_conv, evNew, pureK_some, newK_some, X.eval, set_none, set_some, List.map_cons, List.map_nil, List.getD_cons_zero, List.getD_cons_succ, List.getD_nil, List.set_cons_zero, List.set_cons_succ, binCV, unCV, isShift, intArithF_eq, shiftF_eq, wrapF_eq, intArith, shift, eqVal, bound, asNat_cast, cond_true, cond_false, BEq.rfl, beq_self_eq_true, evalParts, fillParts, AV.cells, AV.ofCells, XV.av, AV.xv, List.length_cons, List.length_nil, zeros, patch, setMany, List.nil_append, List.cons_append, Nat.ble, Nat.add_eq, Nat.zero_add, Nat.add_zero, Nat.reduceAdd, Nat.reduceMul, Nat.reduceSub, Nat.ble_eq, Nat.reduceLeDiff, Nat.reduceBEq, Int.reduceBEq, Int.reduceNeg, Bool.and_true, Bool.and_false, Bool.true_and, Bool.false_and, Bool.not_true, Bool.not_false, Bool.true_eq_false, Bool.false_eq_true, Int.reduceLT, Int.reduceLE, Int.reduceGT, Int.reduceGE, decide_true, decide_false, Bool.not_eq_true, loopN_norm, loopN_exit, tf, ft, ff, hr, blockK_exit_eq]
  have ec : chs (h.next + 2) 64 = ((List.range 64).map (fun j => h.next + 2 + j)).map CV.ch := by simp [chs]
  have hg : ∀ j, (hj : j < 64) → ((List.range 64).map (fun j => h.next + 2 + j))[j]'(by simpa using hj) = h.next + 2 + j := fun j hj => by simp
  refine ⟨h.next + 1, h.next, (List.range 64).map (fun j => h.next + 2 + j), h', rfl, ⟨by simp, by rw [← ec]; exact hp, hw, fun j hj => by rw [hg j hj]; exact hc j hj, ?_, by omega, by simp; omega, by simp; omega, by omega, by omega, fun a ha => ?_⟩, he, by omega, by omega, fun a ha => ?_⟩
  · exact List.nodup_iff_pairwise_ne.2 (List.pairwise_map.2 (List.Pairwise.imp (fun {a b} (h1 : a ≠ b) (e : _ + a = _ + b) => h1 (Nat.add_left_cancel e)) (List.nodup_iff_pairwise_ne.1 List.nodup_range)))
  · obtain ⟨j, hj, rfl⟩ := List.mem_map.1 ha
    have := List.mem_range.1 hj
    omega
  · obtain ⟨j, hj, rfl⟩ := List.mem_map.1 ha
    omega
end
/-- The document's box: its slices lie in blocks from B on. -/
structure RB (h : Heap) (q B : Nat) (ws an : Wd) (op : List Int) (x1 x2 x3 : CV) : Prop where
  cell : h.get q = some (.cells [x1, x2, x3])
  r1 : Recs 2 h x1 ws.length (flat ws)
  r2 : Recs 2 h x2 an.length (flat an)
  r3 : Ints h x3 op
  qB : q < B
  qn : q < h.next
  b1 : ∀ k, blk x1 = some k → B ≤ k
  b2 : ∀ k, blk x2 = some k → B ≤ k
  b3 : ∀ k, blk x3 = some k → B ≤ k
  s1 : ∀ i o n c, x1 = .sl i o n c → c = .dy 2 ∨ c = .ex n
  s2 : ∀ i o n c, x2 = .sl i o n c → c = .dy 2 ∨ c = .ex n
  s3 : ∀ i o n c, x3 = .sl i o n c → c = .dy 1 ∨ c = .ex n

section
variable {N d : Nat} {h : Heap} {q B : Nat} {ws an : Wd} {op : List Int} {x1 x2 x3 : CV}

theorem RB.ext {h' : Heap} (r : RB h q B ws an op x1 x2 x3) {S : List Nat} (e : ExtB S h h') (hq : q ∉ S) (hs : ∀ k ∈ S, k < B) : RB h' q B ws an op x1 x2 x3 :=
  ⟨e.at_ r.cell r.qn hq, r.r1.extB e fun k hk hn => by have := r.b1 k hk; have := hs k hn; omega, r.r2.extB e fun k hk hn => by have := r.b2 k hk; have := hs k hn; omega, r.r3.keepB e fun k hk hn => by have := r.b3 k hk; have := hs k hn; omega,
    r.qB, Nat.lt_of_lt_of_le r.qn e.1, r.b1, r.b2, r.b3, r.s1, r.s2, r.s3⟩
theorem RB.c0 (r : RB h q B ws an op x1 x2 x3) : h.read q 0 1 = some [x1] := read_cells r.cell rfl
theorem RB.c1 (r : RB h q B ws an op x1 x2 x3) : h.read q 1 1 = some [x2] := read_cells r.cell rfl
theorem RB.c2 (r : RB h q B ws an op x1 x2 x3) : h.read q 2 1 = some [x3] := read_cells r.cell rfl
/-- A slot is written. -/
theorem RB.put1 (r : RB h q B ws an op x1 x2 x3) {h1 : Heap} {x : CV} {ws' : Wd} (e : Ext h h1) (hx : Recs 2 h1 x ws'.length (flat ws')) (hb : ∀ k, blk x = some k → B ≤ k) (hs : ∀ i o n c, x = .sl i o n c → c = .dy 2 ∨ c = .ex n) :
    h1.write q 0 [x] = some (h1.put q (.cells [x, x2, x3])) ∧ RB (h1.put q (.cells [x, x2, x3])) q B ws' an op x x2 x3 ∧ ExtB [q] h (h1.put q (.cells [x, x2, x3])) := by
  have g := e.at_ r.cell r.qn
  have xx : ExtB [q] h1 (h1.put q (.cells [x, x2, x3])) := (ExtB.refl _ _).put (.inr (by simp)) _
  have := r.qB
  refine ⟨write_one g (by simp), ⟨get_put_at, hx.extB xx fun k hk hn => ?_, (r.r2.ext e).extB xx fun k hk hn => ?_, (r.r3.ext e).keepB xx fun k hk hn => ?_, r.qB, Nat.lt_of_lt_of_le r.qn e.1, hb, r.b2, r.b3, hs, r.s2, r.s3⟩, (e.b _).trans xx⟩
  · have := hb k hk; simp at hn; omega
  · have := r.b2 k hk; simp at hn; omega
  · have := r.b3 k hk; simp at hn; omega
theorem RB.put2 (r : RB h q B ws an op x1 x2 x3) {h1 : Heap} {x : CV} {an' : Wd} (e : Ext h h1) (hx : Recs 2 h1 x an'.length (flat an')) (hb : ∀ k, blk x = some k → B ≤ k) (hs : ∀ i o n c, x = .sl i o n c → c = .dy 2 ∨ c = .ex n) :
    h1.write q 1 [x] = some (h1.put q (.cells [x1, x, x3])) ∧ RB (h1.put q (.cells [x1, x, x3])) q B ws an' op x1 x x3 ∧ ExtB [q] h (h1.put q (.cells [x1, x, x3])) := by
  have g := e.at_ r.cell r.qn
  have xx : ExtB [q] h1 (h1.put q (.cells [x1, x, x3])) := (ExtB.refl _ _).put (.inr (by simp)) _
  have := r.qB
  refine ⟨write_one g (by simp), ⟨get_put_at, (r.r1.ext e).extB xx fun k hk hn => ?_, hx.extB xx fun k hk hn => ?_, (r.r3.ext e).keepB xx fun k hk hn => ?_, r.qB, Nat.lt_of_lt_of_le r.qn e.1, r.b1, hb, r.b3, r.s1, hs, r.s3⟩, (e.b _).trans xx⟩
  · have := r.b1 k hk; simp at hn; omega
  · have := hb k hk; simp at hn; omega
  · have := r.b3 k hk; simp at hn; omega
theorem RB.put3 (r : RB h q B ws an op x1 x2 x3) {h1 : Heap} {x : CV} {op' : List Int} (e : Ext h h1) (hx : Ints h1 x op') (hb : ∀ k, blk x = some k → B ≤ k) (hs : ∀ i o n c, x = .sl i o n c → c = .dy 1 ∨ c = .ex n) :
    h1.write q 2 [x] = some (h1.put q (.cells [x1, x2, x])) ∧ RB (h1.put q (.cells [x1, x2, x])) q B ws an op' x1 x2 x ∧ ExtB [q] h (h1.put q (.cells [x1, x2, x])) := by
  have g := e.at_ r.cell r.qn
  have xx : ExtB [q] h1 (h1.put q (.cells [x1, x2, x])) := (ExtB.refl _ _).put (.inr (by simp)) _
  have := r.qB
  refine ⟨write_one g (by simp), ⟨get_put_at, (r.r1.ext e).extB xx fun k hk hn => ?_, (r.r2.ext e).extB xx fun k hk hn => ?_, hx.keepB xx fun k hk hn => ?_, r.qB, Nat.lt_of_lt_of_le r.qn e.1, r.b1, r.b2, hb, r.s1, r.s2, hs⟩, (e.b _).trans xx⟩
  · have := r.b1 k hk; simp at hn; omega
  · have := r.b2 k hk; simp at hn; omega
  · have := hb k hk; simp at hn; omega

theorem flat_at (l : Wd) {i : Nat} (hi : i < l.length) : (flat l).getD (i * 2) 0 = l[i].1 ∧ (flat l).getD (i * 2 + 1) 0 = l[i].2 := by
  have e : ∀ k, (flat l).getD (i * 2 + k) 0 = ((flat l).drop (i * 2)).getD k 0 := fun k => by simp [List.getD_eq_getElem?_getD]
  have e0 := e 0
  rw [Nat.add_zero] at e0
  rw [e0, e 1, flat_drop, List.drop_eq_getElem_cons hi]
  exact ⟨rfl, rfl⟩

theorem at_ok {x : CV} (hx : Recs 2 h x ws.length (flat ws)) (k : Int) (hN : ws.length + 2 ≤ N) (hl : ws.length < 1000000) :
    evCallT table 13 N (d + 1) 41 [.c x, .c (.int .i64 k)] h = some (.c (.int .i64 (placeOf (keys ws) k)), h) := by
  have lx : ∀ (loc vals : List AV) (h : Heap), evPure loc (.c x :: vals) h (.len .sl (.val 0)) = some (.c (.int .i64 (ws.length : Int))) := fun _ _ _ => hx.len rfl
  have m0 : Nat.blt 0 2 = true := rfl
  have a0 : asNat (.c (.int .i64 0)) = some 0 := rfl
  rw [evCallT_eq (F := ir41) rfl rfl rfl]
  unfold ir41
  rw [bodyK_eq]
  have L : ∀ loc, keepOnly ir41_k0 loc = [.c x, .c (.int .i64 k), .junk, .c (.int .i64 0), .junk, .junk] →
      ∃ r, loopK (evCallT table 13 N d) N ir41_k0 ir41_l0 N loc h = some r ∧ ((placeOf (keys ws) k = -1 ∧ ∃ a0 a1 a2 l, r = (.exit 0, a0 :: a1 :: a2 :: l, h)) ∨ ∃ a0 a1 l, r = (.ret, a0 :: a1 :: .c (.int .i64 (placeOf (keys ws) k)) :: l, h)) := by
    intro loc hloc
    refine loop_inv (n := ws.length) (fun i loc h' => h' = h ∧ k ∉ (keys ws).take i ∧ loc = [.c x, .c (.int .i64 k), .junk, .c (.int .i64 (i : Int)), .junk, .junk]) _ ?_ ⟨rfl, by simp, hloc⟩ (by omega)
    rintro i loc h' hi ⟨rfl, hno, rfl⟩
    unfold ir41_l0
    have kl : (keys ws).length = ws.length := by simp [keys]
    by_cases hlt : i < ws.length
    · have v1 : decide ((i : Int) < (ws.length : Int)) = true := ltNat hlt
      have v2 := succI (i := i) (by omega)
      obtain ⟨b, o', c, rfl, _, rx⟩ := hx.sl (by omega)
      have m1 : Nat.blt i ws.length = true := bltT hlt
      have k1 := rx i 0 hlt (by omega)
      rw [Nat.add_zero, Nat.add_zero, (flat_at ws hlt).1] at k1
      have hke : (keys ws)[i]'(by omega) = ws[i].1 := by simp [keys]
      by_cases e : ws[i].1 = k
      · right
        have q1 : (ws[i].1 == k) = true := by simp [e]
        have hp : placeOf (keys ws) k = (i : Int) := by
          obtain ⟨j, h1, hj, h2, h3⟩ := placeOf_mem (o := keys ws) (x := k) (by rw [← e, ← hke]; exact List.getElem_mem _)
          rw [h1]
          rcases Nat.lt_trichotomy j i with h4 | h4 | h4
          · exact absurd (by rw [← h2]; exact List.mem_take_iff_getElem.2 ⟨j, by omega, rfl⟩) hno
          · rw [h4]
          · exact absurd (by rw [← e, ← hke]; exact List.mem_take_iff_getElem.2 ⟨i, by omega, rfl⟩) h3
        simp only [enter_eq, ev_seq, seqK_norm, seqK_exit, seqK_ret, ev_reg, ev_cond, condK_true, condK_false, ev_block, blockK_norm, blockK_ret, blockK_exit, ev_loop, ev_skip, ev_exit, ev_ret, regK_cons, regK_nil, guard_none, guard_some, regG_true, regG_false, regO_some, op_mov, op_conv, op_bin, op_bsl, op_box, op_mks, op_s2b, op_pick, op_un, op_eq, op_len, op_ext, op_load, op_iaddr, op_slice, op_b2s, op_idxS, op_mx, op_mn, op_call, op_store, op_app, op_copy, args_eq, result_one', rv_loc, finish_norm, finish_ret, outK_some, keep_true, keep_false, keep_nil, p_bin, p_pick, p_un, p_eq, p_conv, evNew, pureK_some, newK_some, X.eval, set_none, set_some, List.map_cons, List.map_nil, List.getD_cons_zero, List.getD_cons_succ, List.getD_nil, List.set_cons_zero, List.set_cons_succ, binCV, unCV, isShift, intArithF_eq, shiftF_eq, wrapF_eq, intArith, shift, eqVal, bound, asNat_cast, cond_true, cond_false, BEq.rfl, beq_self_eq_true, evalParts, fillParts, AV.cells, AV.ofCells, XV.av, AV.xv, List.length_cons, List.length_nil, zeros, patch, setMany, List.nil_append, List.cons_append, Nat.ble, Nat.add_eq, Nat.zero_add, Nat.add_zero, Nat.reduceAdd, Nat.reduceMul, Nat.reduceSub, Nat.ble_eq, Nat.reduceLeDiff, Nat.reduceBEq, Int.reduceBEq, Int.reduceNeg, Bool.and_true, Bool.and_false, Bool.true_and, Bool.false_and, Bool.not_true, Bool.not_false, Bool.true_eq_false, Bool.false_eq_true, Int.reduceLT, Int.reduceLE, Int.reduceGT, Int.reduceGE, decide_true, decide_false, Bool.not_eq_true, loopN_norm, loopN_exit, tf, ft, ff, lx, v1, p_iaddr, op_iaddrA, p_iaddrA, p_load, AV.ofCells, m1, m0, a0, Nat.zero_mul, k1, q1]
        exact ⟨_, rfl, by simp, .inr ⟨_, _, _, by rw [hp]⟩⟩
      · left
        refine ⟨hlt, ?_⟩
        have q1 : (ws[i].1 == k) = false := by simp [e]
        simp only [enter_eq, ev_seq, seqK_norm, seqK_exit, seqK_ret, ev_reg, ev_cond, condK_true, condK_false, ev_block, blockK_norm, blockK_ret, blockK_exit, ev_loop, ev_skip, ev_exit, ev_ret, regK_cons, regK_nil, guard_none, guard_some, regG_true, regG_false, regO_some, op_mov, op_conv, op_bin, op_bsl, op_box, op_mks, op_s2b, op_pick, op_un, op_eq, op_len, op_ext, op_load, op_iaddr, op_slice, op_b2s, op_idxS, op_mx, op_mn, op_call, op_store, op_app, op_copy, args_eq, result_one', rv_loc, finish_norm, finish_ret, outK_some, keep_true, keep_false, keep_nil, p_bin, p_pick, p_un, p_eq, p_conv, evNew, pureK_some, newK_some, X.eval, set_none, set_some, List.map_cons, List.map_nil, List.getD_cons_zero, List.getD_cons_succ, List.getD_nil, List.set_cons_zero, List.set_cons_succ, binCV, unCV, isShift, intArithF_eq, shiftF_eq, wrapF_eq, intArith, shift, eqVal, bound, asNat_cast, cond_true, cond_false, BEq.rfl, beq_self_eq_true, evalParts, fillParts, AV.cells, AV.ofCells, XV.av, AV.xv, List.length_cons, List.length_nil, zeros, patch, setMany, List.nil_append, List.cons_append, Nat.ble, Nat.add_eq, Nat.zero_add, Nat.add_zero, Nat.reduceAdd, Nat.reduceMul, Nat.reduceSub, Nat.ble_eq, Nat.reduceLeDiff, Nat.reduceBEq, Int.reduceBEq, Int.reduceNeg, Bool.and_true, Bool.and_false, Bool.true_and, Bool.false_and, Bool.not_true, Bool.not_false, Bool.true_eq_false, Bool.false_eq_true, Int.reduceLT, Int.reduceLE, Int.reduceGT, Int.reduceGE, decide_true, decide_false, Bool.not_eq_true, loopN_norm, loopN_exit, tf, ft, ff, lx, v1, v2, p_iaddr, op_iaddrA, p_iaddrA, p_load, AV.ofCells, m1, m0, a0, Nat.zero_mul, k1, q1]
        refine ⟨_, _, rfl, rfl, ?_, rfl⟩
        rw [List.take_succ_eq_append_getElem (by omega)]
        simp only [List.mem_append, List.mem_singleton, not_or]
        exact ⟨hno, fun e' => e (hke ▸ e'.symm)⟩
    · right
      have hin : i = ws.length := by omega
      subst hin
      rw [List.take_of_length_le (by omega)] at hno
      have v1 : decide ((ws.length : Int) < (ws.length : Int)) = false := geNat (Nat.le_refl _)
      simp only [enter_eq, ev_seq, seqK_norm, seqK_exit, seqK_ret, ev_reg, ev_cond, condK_true, condK_false, ev_block, blockK_norm, blockK_ret, blockK_exit, ev_loop, ev_skip, ev_exit, ev_ret, regK_cons, regK_nil, guard_none, guard_some, regG_true, regG_false, regO_some, op_mov, op_conv, op_bin, op_bsl, op_box, op_mks, op_s2b, op_pick, op_un, op_eq, op_len, op_ext, op_load, op_iaddr, op_slice, op_b2s, op_idxS, op_mx, op_mn, op_call, op_store, op_app, op_copy, args_eq, result_one', rv_loc, finish_norm, finish_ret, outK_some, keep_true, keep_false, keep_nil, p_bin, p_pick, p_un, p_eq, p_conv, evNew, pureK_some, newK_some, X.eval, set_none, set_some, List.map_cons, List.map_nil, List.getD_cons_zero, List.getD_cons_succ, List.getD_nil, List.set_cons_zero, List.set_cons_succ, binCV, unCV, isShift, intArithF_eq, shiftF_eq, wrapF_eq, intArith, shift, eqVal, bound, asNat_cast, cond_true, cond_false, BEq.rfl, beq_self_eq_true, evalParts, fillParts, AV.cells, AV.ofCells, XV.av, AV.xv, List.length_cons, List.length_nil, zeros, patch, setMany, List.nil_append, List.cons_append, Nat.ble, Nat.add_eq, Nat.zero_add, Nat.add_zero, Nat.reduceAdd, Nat.reduceMul, Nat.reduceSub, Nat.ble_eq, Nat.reduceLeDiff, Nat.reduceBEq, Int.reduceBEq, Int.reduceNeg, Bool.and_true, Bool.and_false, Bool.true_and, Bool.false_and, Bool.not_true, Bool.not_false, Bool.true_eq_false, Bool.false_eq_true, Int.reduceLT, Int.reduceLE, Int.reduceGT, Int.reduceGE, decide_true, decide_false, Bool.not_eq_true, loopN_norm, loopN_exit, tf, ft, ff, lx, v1]
      exact ⟨_, rfl, by simp, .inl ⟨placeOf_not hno, _, _, _, _, rfl⟩⟩
  obtain ⟨r, hr, ⟨hm, a0, a1, a2, l, rfl⟩ | ⟨a0, a1, l, rfl⟩⟩ := L [.c x, .c (.int .i64 k), .c (.int .i64 0), .c (.int .i64 0), .tup [], .tup []] rfl
  · simp only [enter_eq, ev_seq, seqK_norm, seqK_exit, seqK_ret, ev_reg, ev_cond, condK_true, condK_false, ev_block, blockK_norm, blockK_ret, blockK_exit, ev_loop, ev_skip, ev_exit, ev_ret, regK_cons, regK_nil, guard_none, guard_some, regG_true, regG_false, regO_some, op_mov, op_conv, op_bin, op_bsl, op_box, op_mks, op_s2b, op_pick, op_un, op_eq, op_len, op_ext, op_load, op_iaddr, op_slice, op_b2s, op_idxS, op_mx, op_mn, op_call, op_store, op_app, op_copy, args_eq, result_one', rv_loc, finish_norm, finish_ret, outK_some, keep_true, keep_false, keep_nil, p_bin, p_pick, p_un, p_eq, p_conv, evNew, pureK_some, newK_some, X.eval, set_none, set_some, List.map_cons, List.map_nil, List.getD_cons_zero, List.getD_cons_succ, List.getD_nil, List.set_cons_zero, List.set_cons_succ, binCV, unCV, isShift, intArithF_eq, shiftF_eq, wrapF_eq, intArith, shift, eqVal, bound, asNat_cast, cond_true, cond_false, BEq.rfl, beq_self_eq_true, evalParts, fillParts, AV.cells, AV.ofCells, XV.av, AV.xv, List.length_cons, List.length_nil, zeros, patch, setMany, List.nil_append, List.cons_append, Nat.ble, Nat.add_eq, Nat.zero_add, Nat.add_zero, Nat.reduceAdd, Nat.reduceMul, Nat.reduceSub, Nat.ble_eq, Nat.reduceLeDiff, Nat.reduceBEq, Int.reduceBEq, Int.reduceNeg, Bool.and_true, Bool.and_false, Bool.true_and, Bool.false_and, Bool.not_true, Bool.not_false, Bool.true_eq_false, Bool.false_eq_true, Int.reduceLT, Int.reduceLE, Int.reduceGT, Int.reduceGE, decide_true, decide_false, Bool.not_eq_true, loopN_norm, loopN_exit, tf, ft, ff, hr, blockK_exit_eq, hm]
  · simp only [enter_eq, ev_seq, seqK_norm, seqK_exit, seqK_ret, ev_reg, ev_cond, condK_true, condK_false, ev_block, blockK_norm, blockK_ret, blockK_exit, ev_loop, ev_skip, ev_exit, ev_ret, regK_cons, regK_nil, guard_none, guard_some, regG_true, regG_false, regO_some, op_mov, op_conv, op_bin, op_bsl, op_box, op_mks, op_s2b, op_pick, op_un, op_eq, op_len, op_ext, op_load, op_iaddr, op_slice, op_b2s, op_idxS, op_mx, op_mn, op_call, op_store, op_app, op_copy, args_eq, result_one', rv_loc, finish_norm, finish_ret, outK_some, keep_true, keep_false, keep_nil, p_bin, p_pick, p_un, p_eq, p_conv, evNew, pureK_some, newK_some, X.eval, set_none, set_some, List.map_cons, List.map_nil, List.getD_cons_zero, List.getD_cons_succ, List.getD_nil, List.set_cons_zero, List.set_cons_succ, binCV, unCV, isShift, intArithF_eq, shiftF_eq, wrapF_eq, intArith, shift, eqVal, bound, asNat_cast, cond_true, cond_false, BEq.rfl, beq_self_eq_true, evalParts, fillParts, AV.cells, AV.ofCells, XV.av, AV.xv, List.length_cons, List.length_nil, zeros, patch, setMany, List.nil_append, List.cons_append, Nat.ble, Nat.add_eq, Nat.zero_add, Nat.add_zero, Nat.reduceAdd, Nat.reduceMul, Nat.reduceSub, Nat.ble_eq, Nat.reduceLeDiff, Nat.reduceBEq, Int.reduceBEq, Int.reduceNeg, Bool.and_true, Bool.and_false, Bool.true_and, Bool.false_and, Bool.not_true, Bool.not_false, Bool.true_eq_false, Bool.false_eq_true, Int.reduceLT, Int.reduceLE, Int.reduceGT, Int.reduceGE, decide_true, decide_false, Bool.not_eq_true, loopN_norm, loopN_exit, tf, ft, ff, hr, blockK_ret]

theorem task_ok (k : Int) : evCallT table 13 N (d + 1) 40 [.c (.int .i64 k)] h = some (.c (.bool (decide (0 ≤ k ∧ k < 64))), h) := by
  rw [evCallT_eq (F := ir40) rfl rfl rfl]
  unfold ir40
  rw [bodyK_eq]
  by_cases c1 : 0 ≤ k
  · have v1 : decide (k ≥ 0) = true := decide_eq_true c1
    by_cases c2 : k < 64
    · rw [decide_eq_true (show 0 ≤ k ∧ k < 64 from ⟨c1, c2⟩)]
      simp only [enter_eq, ev_seq, seqK_norm, seqK_exit, seqK_ret, ev_reg, ev_cond, condK_true, condK_false, ev_block, blockK_norm, blockK_ret, blockK_exit, ev_loop, ev_skip, ev_exit, ev_ret, regK_cons, regK_nil, guard_none, guard_some, regG_true, regG_false, regO_some, op_mov, op_conv, op_bin, op_bsl, op_box, op_mks, op_s2b, op_pick, op_un, op_eq, op_len, op_ext, op_load, op_iaddr, op_slice, op_b2s, op_idxS, op_mx, op_mn, op_call, op_store, op_app, op_copy, args_eq, result_one', rv_loc, finish_norm, finish_ret, outK_some, keep_true, keep_false, keep_nil, p_bin, p_pick, p_un, p_eq, p_conv, evNew, pureK_some, newK_some, X.eval, set_none, set_some, List.map_cons, List.map_nil, List.getD_cons_zero, List.getD_cons_succ, List.getD_nil, List.set_cons_zero, List.set_cons_succ, binCV, unCV, isShift, intArithF_eq, shiftF_eq, wrapF_eq, intArith, shift, eqVal, bound, asNat_cast, cond_true, cond_false, BEq.rfl, beq_self_eq_true, evalParts, fillParts, AV.cells, AV.ofCells, XV.av, AV.xv, List.length_cons, List.length_nil, zeros, patch, setMany, List.nil_append, List.cons_append, Nat.ble, Nat.add_eq, Nat.zero_add, Nat.add_zero, Nat.reduceAdd, Nat.reduceMul, Nat.reduceSub, Nat.ble_eq, Nat.reduceLeDiff, Nat.reduceBEq, Int.reduceBEq, Int.reduceNeg, Bool.and_true, Bool.and_false, Bool.true_and, Bool.false_and, Bool.not_true, Bool.not_false, Bool.true_eq_false, Bool.false_eq_true, Int.reduceLT, Int.reduceLE, Int.reduceGT, Int.reduceGE, decide_true, decide_false, Bool.not_eq_true, loopN_norm, loopN_exit, tf, ft, ff, v1, decide_eq_true c2]
    · rw [decide_eq_false (fun h => c2 h.2)]
      simp only [enter_eq, ev_seq, seqK_norm, seqK_exit, seqK_ret, ev_reg, ev_cond, condK_true, condK_false, ev_block, blockK_norm, blockK_ret, blockK_exit, ev_loop, ev_skip, ev_exit, ev_ret, regK_cons, regK_nil, guard_none, guard_some, regG_true, regG_false, regO_some, op_mov, op_conv, op_bin, op_bsl, op_box, op_mks, op_s2b, op_pick, op_un, op_eq, op_len, op_ext, op_load, op_iaddr, op_slice, op_b2s, op_idxS, op_mx, op_mn, op_call, op_store, op_app, op_copy, args_eq, result_one', rv_loc, finish_norm, finish_ret, outK_some, keep_true, keep_false, keep_nil, p_bin, p_pick, p_un, p_eq, p_conv, evNew, pureK_some, newK_some, X.eval, set_none, set_some, List.map_cons, List.map_nil, List.getD_cons_zero, List.getD_cons_succ, List.getD_nil, List.set_cons_zero, List.set_cons_succ, binCV, unCV, isShift, intArithF_eq, shiftF_eq, wrapF_eq, intArith, shift, eqVal, bound, asNat_cast, cond_true, cond_false, BEq.rfl, beq_self_eq_true, evalParts, fillParts, AV.cells, AV.ofCells, XV.av, AV.xv, List.length_cons, List.length_nil, zeros, patch, setMany, List.nil_append, List.cons_append, Nat.ble, Nat.add_eq, Nat.zero_add, Nat.add_zero, Nat.reduceAdd, Nat.reduceMul, Nat.reduceSub, Nat.ble_eq, Nat.reduceLeDiff, Nat.reduceBEq, Int.reduceBEq, Int.reduceNeg, Bool.and_true, Bool.and_false, Bool.true_and, Bool.false_and, Bool.not_true, Bool.not_false, Bool.true_eq_false, Bool.false_eq_true, Int.reduceLT, Int.reduceLE, Int.reduceGT, Int.reduceGE, decide_true, decide_false, Bool.not_eq_true, loopN_norm, loopN_exit, tf, ft, ff, v1, decide_eq_false c2]
  · have v1 : decide (k ≥ 0) = false := decide_eq_false c1
    rw [decide_eq_false (fun h => c1 h.1)]
    simp only [enter_eq, ev_seq, seqK_norm, seqK_exit, seqK_ret, ev_reg, ev_cond, condK_true, condK_false, ev_block, blockK_norm, blockK_ret, blockK_exit, ev_loop, ev_skip, ev_exit, ev_ret, regK_cons, regK_nil, guard_none, guard_some, regG_true, regG_false, regO_some, op_mov, op_conv, op_bin, op_bsl, op_box, op_mks, op_s2b, op_pick, op_un, op_eq, op_len, op_ext, op_load, op_iaddr, op_slice, op_b2s, op_idxS, op_mx, op_mn, op_call, op_store, op_app, op_copy, args_eq, result_one', rv_loc, finish_norm, finish_ret, outK_some, keep_true, keep_false, keep_nil, p_bin, p_pick, p_un, p_eq, p_conv, evNew, pureK_some, newK_some, X.eval, set_none, set_some, List.map_cons, List.map_nil, List.getD_cons_zero, List.getD_cons_succ, List.getD_nil, List.set_cons_zero, List.set_cons_succ, binCV, unCV, isShift, intArithF_eq, shiftF_eq, wrapF_eq, intArith, shift, eqVal, bound, asNat_cast, cond_true, cond_false, BEq.rfl, beq_self_eq_true, evalParts, fillParts, AV.cells, AV.ofCells, XV.av, AV.xv, List.length_cons, List.length_nil, zeros, patch, setMany, List.nil_append, List.cons_append, Nat.ble, Nat.add_eq, Nat.zero_add, Nat.add_zero, Nat.reduceAdd, Nat.reduceMul, Nat.reduceSub, Nat.ble_eq, Nat.reduceLeDiff, Nat.reduceBEq, Int.reduceBEq, Int.reduceNeg, Bool.and_true, Bool.and_false, Bool.true_and, Bool.false_and, Bool.not_true, Bool.not_false, Bool.true_eq_false, Bool.false_eq_true, Int.reduceLT, Int.reduceLE, Int.reduceGT, Int.reduceGE, decide_true, decide_false, Bool.not_eq_true, loopN_norm, loopN_exit, tf, ft, ff, v1]
end
end Lav
