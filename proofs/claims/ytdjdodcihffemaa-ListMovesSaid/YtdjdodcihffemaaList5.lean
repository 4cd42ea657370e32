/-
  Layer 4: the document's own list.
-/
import Derived.Test.YtdjdodcihffemaaList4
import Derived.Test.YtdjdodcihffemaaFwN
set_option maxRecDepth 100000
set_option linter.unusedSimpArgs false
namespace Lav
open Go (IntKind)

theorem Ints.keepB {S : List Nat} {h h' : Heap} {x : CV} {xs : List Int} (hx : Ints h x xs) (e : ExtB S h h') (hs : ∀ k, blk x = some k → k ∉ S) : Ints h' x xs := by
  rcases hx with h1 | ⟨i, o, c, rfl, h2, h3⟩
  · exact .inl h1
  · refine .inr ⟨i, o, c, rfl, Nat.lt_of_lt_of_le h2 e.1, fun j v hj => ?_⟩
    have := e.2 i h2 (hs i rfl)
    have h4 := h3 j v hj
    simp only [Heap.read] at h4 ⊢
    rw [this]; exact h4

/-- The document's list: its cell; its members lie in none of some blocks. -/
def RL (h : Heap) (q : Nat) (bad : List Nat) (n : Int) (o : List Int) : Prop :=
  ∃ x, h.get q = some (.cells [.int .i64 n, x]) ∧ Ints h x o ∧ q < h.next ∧ (∀ k, blk x = some k → k ∉ bad) ∧ ∀ i o' m c, x = .sl i o' m c → c = .dy 1 ∨ c = .ex m

theorem RL.ext {h h' : Heap} {q : Nat} {bad S : List Nat} {n : Int} {o : List Int} (r : RL h q bad n o) (e : ExtB S h h') (hq : q ∉ S) (hs : ∀ k ∈ S, k ∈ bad) : RL h' q bad n o := by
  obtain ⟨x, h1, h2, h3, h4, h5⟩ := r
  exact ⟨x, e.at_ h1 h3 hq, h2.keepB e fun k hk hn => h4 k hk (hs k hn), Nat.lt_of_lt_of_le h3 e.1, h4, h5⟩

/-- A slice that was made since h0, the only one of its block. -/
def Sole (h0 h : Heap) (x : CV) (vs : List Int) : Prop :=
  (x = .nils ∧ vs = []) ∨ ∃ i c, x = .sl i 0 vs.length c ∧ (c = .dy 1 ∨ c = .ex vs.length) ∧ h.get i = some (.cells (vs.map icell)) ∧ h0.next ≤ i ∧ i < h.next

theorem Sole.ints {h0 h : Heap} {x : CV} {vs : List Int} (m : Sole h0 h x vs) : Ints h x vs := by
  rcases m with ⟨rfl, rfl⟩ | ⟨i, c, rfl, _, hg, _, hi⟩
  · exact .inl ⟨rfl, rfl⟩
  · exact ints_cells hi hg
theorem Sole.young {h0 h : Heap} {x : CV} {vs : List Int} (m : Sole h0 h x vs) : ∀ k, blk x = some k → h0.next ≤ k := by
  rcases m with ⟨rfl, _⟩ | ⟨i, c, rfl, _, _, h1, _⟩ <;> intro k hk <;> simp [blk] at hk
  omega
theorem Sole.shape {h0 h : Heap} {x : CV} {vs : List Int} (m : Sole h0 h x vs) : ∀ i o' n c, x = .sl i o' n c → c = .dy 1 ∨ c = .ex n := by
  rcases m with ⟨rfl, _⟩ | ⟨i, c, rfl, h1, _⟩ <;> intro i o' n c' e <;> cases e
  exact h1
theorem Sole.keep {h0 h h' : Heap} {x : CV} {vs : List Int} (m : Sole h0 h x vs) (e : Ext h h') : Sole h0 h' x vs := by
  rcases m with h1 | ⟨i, c, h1, h2, hg, h3, h4⟩
  · exact .inl h1
  · exact .inr ⟨i, c, h1, h2, e.at_ hg h4, h3, Nat.lt_of_lt_of_le h4 e.1⟩
theorem Sole.keepB {S : List Nat} {h0 h h' : Heap} {x : CV} {vs : List Int} (m : Sole h0 h x vs) (e : ExtB S h h') (hs : ∀ k, blk x = some k → k ∉ S) : Sole h0 h' x vs := by
  rcases m with h1 | ⟨i, c, rfl, h2, hg, h3, h4⟩
  · exact .inl h1
  · exact .inr ⟨i, c, rfl, h2, e.at_ hg h4 (hs i rfl), h3, Nat.lt_of_lt_of_le h4 e.1⟩

/-- Ints are added to it. -/
theorem app_ints {h0 h : Heap} {x y : CV} {vs ws : List Int} (m : Sole h0 h x vs) (he : h0.next ≤ h.next) (hy : Ints h y ws) (hb : vs.length + ws.length ≤ 1000000) :
    ∃ z h', evApp h 1 (.c x) (.c y) = some (.c z, h') ∧ Sole h0 h' z (vs ++ ws) ∧ h.next ≤ h'.next ∧ (∀ k, k < h0.next → h'.get k = h.get k) := by
  have hs := hy.source
  by_cases hw : ws = []
  · subst hw
    refine ⟨x, h, app_none ?_ hs, by simpa using m, Nat.le_refl _, fun _ _ => rfl⟩
    rcases m with ⟨rfl, _⟩ | ⟨i, c, rfl, _⟩
    · exact .inl rfl
    · exact .inr ⟨_, _, _, _, rfl⟩
  · obtain ⟨k, hk⟩ : ∃ k, ws.length = k + 1 := ⟨ws.length - 1, by have := List.length_pos_iff.2 hw; omega⟩
    rw [hk] at hs
    rcases m with ⟨rfl, rfl⟩ | ⟨i, c, rfl, hc, hg, h1, h2⟩
    · have b1 : Nat.ble (k + 1) 1073741824 = true := Nat.ble_eq_true_of_le (by omega)
      refine ⟨.sl h.next 0 (k + 1) (.dy 1), h.new (.cells (ws.map icell)), ?_, .inr ⟨h.next, .dy 1, by simp [hk], .inl rfl, get_new_at, he, Nat.lt_succ_self _⟩, Nat.le_succ _, fun j hj => get_new_old (Nat.lt_of_lt_of_le hj he)⟩
      unfold evApp
      simp only [hs, b1, cond_true]
    · have b1 : Nat.ble (vs.length + (k + 1)) 1073741824 = true := Nat.ble_eq_true_of_le (by omega)
      have hz : (CV.sl h.next 0 (vs.length + (k + 1)) (.dy 1)) = .sl h.next 0 (vs ++ ws).length (.dy 1) := by rw [List.length_append, hk]
      rcases hc with rfl | rfl
      · have b2 : ((1 : Nat) == 1 && 0 + vs.length * 1 == (vs.map icell).length) = true := by simp
        refine ⟨_, (h.kill i).new (.cells ((vs ++ ws).map icell)), ?_, .inr ⟨h.next, .dy 1, hz, .inl rfl, get_new_at, he, Nat.lt_succ_self _⟩, Nat.le_succ _, fun j hj => ?_⟩
        · unfold evApp
          simp only [hs, b1, hg, b2, cond_true, List.drop_zero, List.map_append]
        · rw [get_new_old (h := h.kill i) (Nat.lt_of_lt_of_le hj he), get_kill_ne (by omega)]
      · have b2 : Nat.ble (vs.length + (k + 1)) vs.length = false := by
          cases hb : Nat.ble (vs.length + (k + 1)) vs.length with
          | false => rfl
          | true => have := Nat.le_of_ble_eq_true hb; omega
        have hr : h.read i 0 (vs.length * 1) = some (vs.map icell) := by
          rw [Nat.mul_one, read_part hg (by simp), List.drop_zero, List.take_of_length_le (by simp)]
        refine ⟨_, h.new (.cells ((vs ++ ws).map icell)), ?_, .inr ⟨h.next, .dy 1, hz, .inl rfl, get_new_at, he, Nat.lt_succ_self _⟩, Nat.le_succ _, fun j hj => get_new_old (Nat.lt_of_lt_of_le hj he)⟩
        unfold evApp
        simp only [hs, b1, b2, hr, cond_true, cond_false, List.map_append]

/-- Where a number stands, or none. -/
def placeOf : List Int → Int → Int
  | [], _ => -1
  | a :: l, x => if a = x then 0 else if placeOf l x < 0 then -1 else placeOf l x + 1
theorem placeOf_not : ∀ {o : List Int} {x : Int}, x ∉ o → placeOf o x = -1
  | [], _, _ => rfl
  | a :: l, x, h => by
    simp at h
    rw [placeOf, if_neg (fun e => h.1 e.symm), placeOf_not h.2]; rfl
theorem placeOf_mem : ∀ {o : List Int} {x : Int}, x ∈ o → ∃ k : Nat, placeOf o x = (k : Int) ∧ ∃ hk : k < o.length, o[k] = x ∧ x ∉ o.take k
  | a :: l, x, h => by
    by_cases e : a = x
    · exact ⟨0, by rw [placeOf, if_pos e]; rfl, by simp, by simpa using e, by simp⟩
    · have hx : x ∈ l := by simp at h; rcases h with h | h; exact absurd h.symm e; exact h
      obtain ⟨k, h1, hk, h2, h3⟩ := placeOf_mem hx
      refine ⟨k + 1, by rw [placeOf, if_neg e, h1, if_neg (by omega)]; rfl, by simpa using hk, by simpa using h2, ?_⟩
      simp only [List.take_succ_cons, List.mem_cons, not_or]
      exact ⟨fun e' => e e'.symm, h3⟩

section
variable {N d : Nat} {h : Heap} {q : Nat} {bad : List Nat} {n : Int} {o : List Int}

theorem place_ok {y : CV} (hy : Ints h y o) (x : Int) (hN : o.length + 2 ≤ N) (hl : o.length < 1000000) :
    evCallT table 23 N (d + 1) 43 [.c y, .c (.int .i64 x)] h = some (.c (.int .i64 (placeOf o x)), h) := by
  have lx : ∀ (loc vals : List AV) (h : Heap), evPure loc (.c y :: vals) h (.len .sl (.val 0)) = some (.c (.int .i64 (o.length : Int))) := fun _ _ _ => hy.len rfl
  rw [evCallT_eq (F := ir43) rfl rfl rfl]
  unfold ir43
  rw [bodyK_eq]
  have L : ∀ loc, keepOnly ir43_k0 loc = [.c y, .c (.int .i64 x), .junk, .c (.int .i64 0), .junk, .junk] →
      ∃ r, loopK (evCallT table 23 N d) N ir43_k0 ir43_l0 N loc h = some r ∧ ((placeOf o x = -1 ∧ ∃ a0 a1 a2 l, r = (.exit 0, a0 :: a1 :: a2 :: l, h)) ∨ ∃ a0 a1 l, r = (.ret, a0 :: a1 :: .c (.int .i64 (placeOf o x)) :: l, h)) := by
    intro loc hloc
    refine loop_inv (n := o.length) (fun i loc h' => h' = h ∧ x ∉ o.take i ∧ loc = [.c y, .c (.int .i64 x), .junk, .c (.int .i64 (i : Int)), .junk, .junk]) _ ?_ ⟨rfl, by simp, hloc⟩ (by omega)
    rintro i loc h' hi ⟨rfl, hno, rfl⟩
    unfold ir43_l0
    by_cases hlt : i < o.length
    · have v1 : decide ((i : Int) < (o.length : Int)) = true := ltNat hlt
      have v2 := succI (i := i) (by omega)
      obtain ⟨b, o', c, rfl, _, rx⟩ := hy.sl (by omega)
      have m1 : Nat.blt i o.length = true := bltT hlt
      have k1 := rx i hlt
      by_cases e : o[i] = x
      · right
        have q1 : (o[i] == x) = true := by simp [e]
        have hp : placeOf o x = (i : Int) := by
          obtain ⟨k, h1, hk, h2, h3⟩ := placeOf_mem (o := o) (x := x) (by rw [← e]; exact List.getElem_mem _)
          rw [h1]
          rcases Nat.lt_trichotomy k i with h4 | h4 | h4
          · exact absurd (by rw [← h2]; exact List.mem_take_iff_getElem.2 ⟨k, by omega, rfl⟩) hno
          · rw [h4]
          · exact absurd (by rw [← e]; exact List.mem_take_iff_getElem.2 ⟨i, by omega, rfl⟩) h3
        simp only [enter_eq, ev_seq, seqK_norm, seqK_exit, seqK_ret, ev_reg, ev_cond, condK_true, condK_false, ev_block, blockK_norm, blockK_ret, blockK_exit, ev_loop, ev_skip, ev_exit, ev_ret, regK_cons, regK_nil, guard_none, guard_some, regG_true, regG_false, regO_some, op_mov, op_conv, op_bin, op_bsl, op_box, op_mks, op_s2b, op_pick, op_un, op_eq, op_len, op_ext, op_load, op_iaddr, op_slice, op_b2s, op_idxS, op_mx, op_mn, op_call, op_store, op_app, op_copy, args_eq, result_one', rv_loc, finish_norm, finish_ret, outK_some, keep_true, keep_false, keep_nil, p_bin, p_pick, p_un, p_eq, p_conv, evNew, pureK_some, newK_some, X.eval, set_none, set_some, List.map_cons, List.map_nil, List.getD_cons_zero, List.getD_cons_succ, List.getD_nil, List.set_cons_zero, List.set_cons_succ, binCV, unCV, isShift, intArithF_eq, shiftF_eq, wrapF_eq, intArith, shift, eqVal, bound, asNat_cast, cond_true, cond_false, BEq.rfl, beq_self_eq_true, evalParts, fillParts, AV.cells, AV.ofCells, XV.av, AV.xv, List.length_cons, List.length_nil, zeros, patch, setMany, List.nil_append, List.cons_append, Nat.ble, Nat.add_eq, Nat.zero_add, Nat.add_zero, Nat.reduceAdd, Nat.reduceMul, Nat.reduceSub, Nat.ble_eq, Nat.reduceLeDiff, Nat.reduceBEq, Int.reduceBEq, Int.reduceNeg, Bool.and_true, Bool.and_false, Bool.true_and, Bool.false_and, Bool.not_true, Bool.not_false, Bool.true_eq_false, Bool.false_eq_true, Int.reduceLT, Int.reduceLE, Int.reduceGT, Int.reduceGE, decide_true, decide_false, Bool.not_eq_true, loopN_norm, loopN_exit, tf, ft, ff, lx, v1, p_iaddr, p_load, AV.ofCells, m1, Nat.mul_one, k1, q1]
        exact ⟨_, rfl, by simp, .inr ⟨_, _, _, by rw [hp]⟩⟩
      · left
        refine ⟨hlt, ?_⟩
        have q1 : (o[i] == x) = false := by simp [e]
        simp only [enter_eq, ev_seq, seqK_norm, seqK_exit, seqK_ret, ev_reg, ev_cond, condK_true, condK_false, ev_block, blockK_norm, blockK_ret, blockK_exit, ev_loop, ev_skip, ev_exit, ev_ret, regK_cons, regK_nil, guard_none, guard_some, regG_true, regG_false, regO_some, op_mov, op_conv, op_bin, op_bsl, op_box, op_mks, op_s2b, op_pick, op_un, op_eq, op_len, op_ext, op_load, op_iaddr, op_slice, op_b2s, op_idxS, op_mx, op_mn, op_call, op_store, op_app, op_copy, args_eq, result_one', rv_loc, finish_norm, finish_ret, outK_some, keep_true, keep_false, keep_nil, p_bin, p_pick, p_un, p_eq, p_conv, evNew, pureK_some, newK_some, X.eval, set_none, set_some, List.map_cons, List.map_nil, List.getD_cons_zero, List.getD_cons_succ, List.getD_nil, List.set_cons_zero, List.set_cons_succ, binCV, unCV, isShift, intArithF_eq, shiftF_eq, wrapF_eq, intArith, shift, eqVal, bound, asNat_cast, cond_true, cond_false, BEq.rfl, beq_self_eq_true, evalParts, fillParts, AV.cells, AV.ofCells, XV.av, AV.xv, List.length_cons, List.length_nil, zeros, patch, setMany, List.nil_append, List.cons_append, Nat.ble, Nat.add_eq, Nat.zero_add, Nat.add_zero, Nat.reduceAdd, Nat.reduceMul, Nat.reduceSub, Nat.ble_eq, Nat.reduceLeDiff, Nat.reduceBEq, Int.reduceBEq, Int.reduceNeg, Bool.and_true, Bool.and_false, Bool.true_and, Bool.false_and, Bool.not_true, Bool.not_false, Bool.true_eq_false, Bool.false_eq_true, Int.reduceLT, Int.reduceLE, Int.reduceGT, Int.reduceGE, decide_true, decide_false, Bool.not_eq_true, loopN_norm, loopN_exit, tf, ft, ff, lx, v1, v2, p_iaddr, p_load, AV.ofCells, m1, Nat.mul_one, k1, q1]
        refine ⟨_, _, rfl, rfl, ?_, rfl⟩
        rw [List.take_succ_eq_append_getElem hlt]
        simp only [List.mem_append, List.mem_singleton, not_or]
        exact ⟨hno, fun e' => e e'.symm⟩
    · right
      have hin : i = o.length := by omega
      subst hin
      rw [List.take_length] at hno
      have v1 : decide ((o.length : Int) < (o.length : Int)) = false := geNat (Nat.le_refl _)
      simp only [enter_eq, ev_seq, seqK_norm, seqK_exit, seqK_ret, ev_reg, ev_cond, condK_true, condK_false, ev_block, blockK_norm, blockK_ret, blockK_exit, ev_loop, ev_skip, ev_exit, ev_ret, regK_cons, regK_nil, guard_none, guard_some, regG_true, regG_false, regO_some, op_mov, op_conv, op_bin, op_bsl, op_box, op_mks, op_s2b, op_pick, op_un, op_eq, op_len, op_ext, op_load, op_iaddr, op_slice, op_b2s, op_idxS, op_mx, op_mn, op_call, op_store, op_app, op_copy, args_eq, result_one', rv_loc, finish_norm, finish_ret, outK_some, keep_true, keep_false, keep_nil, p_bin, p_pick, p_un, p_eq, p_conv, evNew, pureK_some, newK_some, X.eval, set_none, set_some, List.map_cons, List.map_nil, List.getD_cons_zero, List.getD_cons_succ, List.getD_nil, List.set_cons_zero, List.set_cons_succ, binCV, unCV, isShift, intArithF_eq, shiftF_eq, wrapF_eq, intArith, shift, eqVal, bound, asNat_cast, cond_true, cond_false, BEq.rfl, beq_self_eq_true, evalParts, fillParts, AV.cells, AV.ofCells, XV.av, AV.xv, List.length_cons, List.length_nil, zeros, patch, setMany, List.nil_append, List.cons_append, Nat.ble, Nat.add_eq, Nat.zero_add, Nat.add_zero, Nat.reduceAdd, Nat.reduceMul, Nat.reduceSub, Nat.ble_eq, Nat.reduceLeDiff, Nat.reduceBEq, Int.reduceBEq, Int.reduceNeg, Bool.and_true, Bool.and_false, Bool.true_and, Bool.false_and, Bool.not_true, Bool.not_false, Bool.true_eq_false, Bool.false_eq_true, Int.reduceLT, Int.reduceLE, Int.reduceGT, Int.reduceGE, decide_true, decide_false, Bool.not_eq_true, loopN_norm, loopN_exit, tf, ft, ff, lx, v1]
      exact ⟨_, rfl, by simp, .inl ⟨placeOf_not hno, _, _, _, _, rfl⟩⟩
  obtain ⟨r, hr, ⟨hm, a0, a1, a2, l, rfl⟩ | ⟨a0, a1, l, rfl⟩⟩ := L [.c y, .c (.int .i64 x), .c (.int .i64 0), .c (.int .i64 0), .tup [], .tup []] rfl
  · simp only [enter_eq, ev_seq, seqK_norm, seqK_exit, seqK_ret, ev_reg, ev_cond, condK_true, condK_false, ev_block, blockK_norm, blockK_ret, blockK_exit, ev_loop, ev_skip, ev_exit, ev_ret, regK_cons, regK_nil, guard_none, guard_some, regG_true, regG_false, regO_some, op_mov, op_conv, op_bin, op_bsl, op_box, op_mks, op_s2b, op_pick, op_un, op_eq, op_len, op_ext, op_load, op_iaddr, op_slice, op_b2s, op_idxS, op_mx, op_mn, op_call, op_store, op_app, op_copy, args_eq, result_one', rv_loc, finish_norm, finish_ret, outK_some, keep_true, keep_false, keep_nil, p_bin, p_pick, p_un, p_eq, p_conv, evNew, pureK_some, newK_some, X.eval, set_none, set_some, List.map_cons, List.map_nil, List.getD_cons_zero, List.getD_cons_succ, List.getD_nil, List.set_cons_zero, List.set_cons_succ, binCV, unCV, isShift, intArithF_eq, shiftF_eq, wrapF_eq, intArith, shift, eqVal, bound, asNat_cast, cond_true, cond_false, BEq.rfl, beq_self_eq_true, evalParts, fillParts, AV.cells, AV.ofCells, XV.av, AV.xv, List.length_cons, List.length_nil, zeros, patch, setMany, List.nil_append, List.cons_append, Nat.ble, Nat.add_eq, Nat.zero_add, Nat.add_zero, Nat.reduceAdd, Nat.reduceMul, Nat.reduceSub, Nat.ble_eq, Nat.reduceLeDiff, Nat.reduceBEq, Int.reduceBEq, Int.reduceNeg, Bool.and_true, Bool.and_false, Bool.true_and, Bool.false_and, Bool.not_true, Bool.not_false, Bool.true_eq_false, Bool.false_eq_true, Int.reduceLT, Int.reduceLE, Int.reduceGT, Int.reduceGE, decide_true, decide_false, Bool.not_eq_true, loopN_norm, loopN_exit, tf, ft, ff, hr, blockK_exit_eq, hm]
  · simp only [enter_eq, ev_seq, seqK_norm, seqK_exit, seqK_ret, ev_reg, ev_cond, condK_true, condK_false, ev_block, blockK_norm, blockK_ret, blockK_exit, ev_loop, ev_skip, ev_exit, ev_ret, regK_cons, regK_nil, guard_none, guard_some, regG_true, regG_false, regO_some, op_mov, op_conv, op_bin, op_bsl, op_box, op_mks, op_s2b, op_pick, op_un, op_eq, op_len, op_ext, op_load, op_iaddr, op_slice, op_b2s, op_idxS, op_mx, op_mn, op_call, op_store, op_app, op_copy, args_eq, result_one', rv_loc, finish_norm, finish_ret, outK_some, keep_true, keep_false, keep_nil, p_bin, p_pick, p_un, p_eq, p_conv, evNew, pureK_some, newK_some, X.eval, set_none, set_some, List.map_cons, List.map_nil, List.getD_cons_zero, List.getD_cons_succ, List.getD_nil, List.set_cons_zero, List.set_cons_succ, binCV, unCV, isShift, intArithF_eq, shiftF_eq, wrapF_eq, intArith, shift, eqVal, bound, asNat_cast, cond_true, cond_false, BEq.rfl, beq_self_eq_true, evalParts, fillParts, AV.cells, AV.ofCells, XV.av, AV.xv, List.length_cons, List.length_nil, zeros, patch, setMany, List.nil_append, List.cons_append, Nat.ble, Nat.add_eq, Nat.zero_add, Nat.add_zero, Nat.reduceAdd, Nat.reduceMul, Nat.reduceSub, Nat.ble_eq, Nat.reduceLeDiff, Nat.reduceBEq, Int.reduceBEq, Int.reduceNeg, Bool.and_true, Bool.and_false, Bool.true_and, Bool.false_and, Bool.not_true, Bool.not_false, Bool.true_eq_false, Bool.false_eq_true, Int.reduceLT, Int.reduceLE, Int.reduceGT, Int.reduceGE, decide_true, decide_false, Bool.not_eq_true, loopN_norm, loopN_exit, tf, ft, ff, hr, blockK_ret]

theorem rfirst_ok (r : RL h q bad n o) : evCallT table 23 N (d + 1) 32 [.c (.ptr q 0)] h = some (.c (.int .i64 (o.headD (-1))), h) := by
  obtain ⟨x, h1, h2, h3, h4, _⟩ := r
  have lx : ∀ (loc vals : List AV) (h : Heap), evPure loc (.c x :: vals) h (.len .sl (.val 0)) = some (.c (.int .i64 (o.length : Int))) := fun _ _ _ => h2.len rfl
  have r1 : h.read q 1 1 = some [x] := read_cells h1 rfl
  rw [evCallT_eq (F := ir32) rfl rfl rfl]
  unfold ir32
  rw [bodyK_eq]
  cases ho : o with
  | nil =>
    subst ho
    have q1 : (((([] : List Int).length : Nat) : Int) == 0) = true := rfl
    simp only [enter_eq, ev_seq, seqK_norm, seqK_exit, seqK_ret, ev_reg, ev_cond, condK_true, condK_false, ev_block, blockK_norm, blockK_ret, blockK_exit, ev_loop, ev_skip, ev_exit, ev_ret, regK_cons, regK_nil, guard_none, guard_some, regG_true, regG_false, regO_some, op_mov, op_conv, op_bin, op_bsl, op_box, op_mks, op_s2b, op_pick, op_un, op_eq, op_len, op_ext, op_load, op_iaddr, op_slice, op_b2s, op_idxS, op_mx, op_mn, op_call, op_store, op_app, op_copy, args_eq, result_one', rv_loc, finish_norm, finish_ret, outK_some, keep_true, keep_false, keep_nil, p_bin, p_pick, p_un, p_eq, p_conv, evNew, pureK_some, newK_some, X.eval, set_none, set_some, List.map_cons, List.map_nil, List.getD_cons_zero, List.getD_cons_succ, List.getD_nil, List.set_cons_zero, List.set_cons_succ, binCV, unCV, isShift, intArithF_eq, shiftF_eq, wrapF_eq, intArith, shift, eqVal, bound, asNat_cast, cond_true, cond_false, BEq.rfl, beq_self_eq_true, evalParts, fillParts, AV.cells, AV.ofCells, XV.av, AV.xv, List.length_cons, List.length_nil, zeros, patch, setMany, List.nil_append, List.cons_append, Nat.ble, Nat.add_eq, Nat.zero_add, Nat.add_zero, Nat.reduceAdd, Nat.reduceMul, Nat.reduceSub, Nat.ble_eq, Nat.reduceLeDiff, Nat.reduceBEq, Int.reduceBEq, Int.reduceNeg, Bool.and_true, Bool.and_false, Bool.true_and, Bool.false_and, Bool.not_true, Bool.not_false, Bool.true_eq_false, Bool.false_eq_true, Int.reduceLT, Int.reduceLE, Int.reduceGT, Int.reduceGE, decide_true, decide_false, Bool.not_eq_true, loopN_norm, loopN_exit, tf, ft, ff, op_nilchk, p_nilchk, op_faddr, p_faddr, p_load, r1, AV.ofCells, lx]
    rfl
  | cons a l =>
    have q1 : ((o.length : Int) == 0) = false := by rw [ho]; simp only [List.length_cons, beq_eq_false_iff_ne, ne_eq]; omega
    obtain ⟨b, o', c, rfl, _, rx⟩ := h2.sl (by rw [ho]; simp)
    have k1 := rx 0 (by rw [ho]; simp)
    have m1 : Nat.blt 0 o.length = true := bltT (by rw [ho]; simp)
    have a0 : asNat (.c (.int .i64 0)) = some 0 := rfl
    have hd : o[0]'(by rw [ho]; simp) = a := by simp [ho]
    rw [Nat.add_zero, hd] at k1
    simp only [enter_eq, ev_seq, seqK_norm, seqK_exit, seqK_ret, ev_reg, ev_cond, condK_true, condK_false, ev_block, blockK_norm, blockK_ret, blockK_exit, ev_loop, ev_skip, ev_exit, ev_ret, regK_cons, regK_nil, guard_none, guard_some, regG_true, regG_false, regO_some, op_mov, op_conv, op_bin, op_bsl, op_box, op_mks, op_s2b, op_pick, op_un, op_eq, op_len, op_ext, op_load, op_iaddr, op_slice, op_b2s, op_idxS, op_mx, op_mn, op_call, op_store, op_app, op_copy, args_eq, result_one', rv_loc, finish_norm, finish_ret, outK_some, keep_true, keep_false, keep_nil, p_bin, p_pick, p_un, p_eq, p_conv, evNew, pureK_some, newK_some, X.eval, set_none, set_some, List.map_cons, List.map_nil, List.getD_cons_zero, List.getD_cons_succ, List.getD_nil, List.set_cons_zero, List.set_cons_succ, binCV, unCV, isShift, intArithF_eq, shiftF_eq, wrapF_eq, intArith, shift, eqVal, bound, asNat_cast, cond_true, cond_false, BEq.rfl, beq_self_eq_true, evalParts, fillParts, AV.cells, AV.ofCells, XV.av, AV.xv, List.length_cons, List.length_nil, zeros, patch, setMany, List.nil_append, List.cons_append, Nat.ble, Nat.add_eq, Nat.zero_add, Nat.add_zero, Nat.reduceAdd, Nat.reduceMul, Nat.reduceSub, Nat.ble_eq, Nat.reduceLeDiff, Nat.reduceBEq, Int.reduceBEq, Int.reduceNeg, Bool.and_true, Bool.and_false, Bool.true_and, Bool.false_and, Bool.not_true, Bool.not_false, Bool.true_eq_false, Bool.false_eq_true, Int.reduceLT, Int.reduceLE, Int.reduceGT, Int.reduceGE, decide_true, decide_false, Bool.not_eq_true, loopN_norm, loopN_exit, tf, ft, ff, op_nilchk, p_nilchk, op_faddr, p_faddr, p_iaddr, p_load, r1, AV.ofCells, lx, q1, a0, m1, Nat.zero_mul, k1, List.headD_cons]

theorem rlast_ok (r : RL h q bad n o) (hl : o.length < 1000000) : evCallT table 23 N (d + 1) 34 [.c (.ptr q 0)] h = some (.c (.int .i64 (o.getLastD (-1))), h) := by
  obtain ⟨x, h1, h2, h3, h4, _⟩ := r
  have lx : ∀ (loc vals : List AV) (h : Heap), evPure loc (.c x :: vals) h (.len .sl (.val 0)) = some (.c (.int .i64 (o.length : Int))) := fun _ _ _ => h2.len rfl
  have r1 : h.read q 1 1 = some [x] := read_cells h1 rfl
  rw [evCallT_eq (F := ir34) rfl rfl rfl]
  unfold ir34
  rw [bodyK_eq]
  by_cases ho : o = []
  · subst ho
    simp only [enter_eq, ev_seq, seqK_norm, seqK_exit, seqK_ret, ev_reg, ev_cond, condK_true, condK_false, ev_block, blockK_norm, blockK_ret, blockK_exit, ev_loop, ev_skip, ev_exit, ev_ret, regK_cons, regK_nil, guard_none, guard_some, regG_true, regG_false, regO_some, op_mov, op_conv, op_bin, op_bsl, op_box, op_mks, op_s2b, op_pick, op_un, op_eq, op_len, op_ext, op_load, op_iaddr, op_slice, op_b2s, op_idxS, op_mx, op_mn, op_call, op_store, op_app, op_copy, args_eq, result_one', rv_loc, finish_norm, finish_ret, outK_some, keep_true, keep_false, keep_nil, p_bin, p_pick, p_un, p_eq, p_conv, evNew, pureK_some, newK_some, X.eval, set_none, set_some, List.map_cons, List.map_nil, List.getD_cons_zero, List.getD_cons_succ, List.getD_nil, List.set_cons_zero, List.set_cons_succ, binCV, unCV, isShift, intArithF_eq, shiftF_eq, wrapF_eq, intArith, shift, eqVal, bound, asNat_cast, cond_true, cond_false, BEq.rfl, beq_self_eq_true, evalParts, fillParts, AV.cells, AV.ofCells, XV.av, AV.xv, List.length_cons, List.length_nil, zeros, patch, setMany, List.nil_append, List.cons_append, Nat.ble, Nat.add_eq, Nat.zero_add, Nat.add_zero, Nat.reduceAdd, Nat.reduceMul, Nat.reduceSub, Nat.ble_eq, Nat.reduceLeDiff, Nat.reduceBEq, Int.reduceBEq, Int.reduceNeg, Bool.and_true, Bool.and_false, Bool.true_and, Bool.false_and, Bool.not_true, Bool.not_false, Bool.true_eq_false, Bool.false_eq_true, Int.reduceLT, Int.reduceLE, Int.reduceGT, Int.reduceGE, decide_true, decide_false, Bool.not_eq_true, loopN_norm, loopN_exit, tf, ft, ff, op_nilchk, p_nilchk, op_faddr, p_faddr, p_load, r1, AV.ofCells, lx]
    rfl
  · have hpos := List.length_pos_iff.2 ho
    have q1 : ((o.length : Int) == 0) = false := by simp only [beq_eq_false_iff_ne, ne_eq]; omega
    obtain ⟨b, o', c, rfl, _, rx⟩ := h2.sl hpos
    have k1 := rx (o.length - 1) (by omega)
    have m1 : Nat.blt (o.length - 1) o.length = true := bltT (by omega)
    have v2 : IntKind.i64.wrap ((o.length : Int) - 1) = ((o.length - 1 : Nat) : Int) := by rw [wrapI (by omega) (by omega)]; omega
    have hd : o[o.length - 1]'(by omega) = o.getLastD (-1) := by
      rw [List.getLastD_eq_getLast?, List.getLast?_eq_some_getLast ho, Option.getD_some, List.getLast_eq_getElem]
    rw [hd] at k1
    simp only [enter_eq, ev_seq, seqK_norm, seqK_exit, seqK_ret, ev_reg, ev_cond, condK_true, condK_false, ev_block, blockK_norm, blockK_ret, blockK_exit, ev_loop, ev_skip, ev_exit, ev_ret, regK_cons, regK_nil, guard_none, guard_some, regG_true, regG_false, regO_some, op_mov, op_conv, op_bin, op_bsl, op_box, op_mks, op_s2b, op_pick, op_un, op_eq, op_len, op_ext, op_load, op_iaddr, op_slice, op_b2s, op_idxS, op_mx, op_mn, op_call, op_store, op_app, op_copy, args_eq, result_one', rv_loc, finish_norm, finish_ret, outK_some, keep_true, keep_false, keep_nil, p_bin, p_pick, p_un, p_eq, p_conv, evNew, pureK_some, newK_some, X.eval, set_none, set_some, List.map_cons, List.map_nil, List.getD_cons_zero, List.getD_cons_succ, List.getD_nil, List.set_cons_zero, List.set_cons_succ, binCV, unCV, isShift, intArithF_eq, shiftF_eq, wrapF_eq, intArith, shift, eqVal, bound, asNat_cast, cond_true, cond_false, BEq.rfl, beq_self_eq_true, evalParts, fillParts, AV.cells, AV.ofCells, XV.av, AV.xv, List.length_cons, List.length_nil, zeros, patch, setMany, List.nil_append, List.cons_append, Nat.ble, Nat.add_eq, Nat.zero_add, Nat.add_zero, Nat.reduceAdd, Nat.reduceMul, Nat.reduceSub, Nat.ble_eq, Nat.reduceLeDiff, Nat.reduceBEq, Int.reduceBEq, Int.reduceNeg, Bool.and_true, Bool.and_false, Bool.true_and, Bool.false_and, Bool.not_true, Bool.not_false, Bool.true_eq_false, Bool.false_eq_true, Int.reduceLT, Int.reduceLE, Int.reduceGT, Int.reduceGE, decide_true, decide_false, Bool.not_eq_true, loopN_norm, loopN_exit, tf, ft, ff, ev_dreg, dregK_nil, dregK_cons, dregE_true, dregP_some, dregX_some, d_mov, d_bin, d_eq, d_pick, d_un, d_conv, d_b2s, d_len, d_load, d_iaddr, d_slice, d_ext, d_call, d_store, chk_done, chk_none, chk_some, chkG_true, chkG_false, chkOne_nil, chkOne_cons, chkH_some, chkV_same, stage_none, stage_some, look_hit, look_miss, news_nil, wb_cons, wb_nil, skip0, List.reverse_cons, List.reverse_nil, op_nilchk, p_nilchk, op_faddr, p_faddr, d_nilchk, d_faddr, p_iaddr, p_load, r1, AV.ofCells, lx, q1, v2, m1, Nat.mul_one, k1]

theorem nextOf_place {x : Int} {k : Nat} (nd : o.Nodup) (hk : k < o.length) (e : o[k] = x) : nextOf o x = if h : k + 1 < o.length then o[k + 1] else -1 := by
  rw [← e, nextOf_at nd k hk]
  split
  · rename_i h; rw [List.drop_eq_getElem_cons h]; rfl
  · rw [List.drop_of_length_le (by omega)]; rfl

theorem rnext_ok (r : RL h q bad n o) (nd : o.Nodup) (x : Int) (hN : o.length + 2 ≤ N) (hl : o.length < 1000000) : evCallT table 23 N (d + 2) 36 [.c (.ptr q 0), .c (.int .i64 x)] h = some (.c (.int .i64 (nextOf o x)), h) := by
  obtain ⟨y, h1, h2, h3, h4, _⟩ := r
  have lx : ∀ (loc vals : List AV) (h : Heap), evPure loc (.c y :: vals) h (.len .sl (.val 0)) = some (.c (.int .i64 (o.length : Int))) := fun _ _ _ => h2.len rfl
  have r1 : h.read q 1 1 = some [y] := read_cells h1 rfl
  have e1 := place_ok (N := N) (d := d) h2 x hN hl
  rw [evCallT_eq (F := ir36) rfl rfl rfl]
  unfold ir36
  rw [bodyK_eq]
  by_cases hx : x ∈ o
  · obtain ⟨k, hp, hk, hke, _⟩ := placeOf_mem hx
    rw [hp] at e1
    rw [nextOf_place nd hk hke]
    have v1 : decide ((k : Int) < 0) = false := decide_eq_false (by omega)
    have v2 := succI (i := k) (by omega)
    by_cases hk1 : k + 1 < o.length
    · rw [dif_pos hk1]
      obtain ⟨b, o', c, rfl, _, rx⟩ := h2.sl (by omega)
      have k1 := rx (k + 1) hk1
      have m1 : Nat.blt (k + 1) o.length = true := bltT hk1
      have v3 : decide (((k + 1 : Nat) : Int) ≥ (o.length : Int)) = false := decide_eq_false (by omega)
      simp only [enter_eq, ev_seq, seqK_norm, seqK_exit, seqK_ret, ev_reg, ev_cond, condK_true, condK_false, ev_block, blockK_norm, blockK_ret, blockK_exit, ev_loop, ev_skip, ev_exit, ev_ret, regK_cons, regK_nil, guard_none, guard_some, regG_true, regG_false, regO_some, op_mov, op_conv, op_bin, op_bsl, op_box, op_mks, op_s2b, op_pick, op_un, op_eq, op_len, op_ext, op_load, op_iaddr, op_slice, op_b2s, op_idxS, op_mx, op_mn, op_call, op_store, op_app, op_copy, args_eq, result_one', rv_loc, finish_norm, finish_ret, outK_some, keep_true, keep_false, keep_nil, p_bin, p_pick, p_un, p_eq, p_conv, evNew, pureK_some, newK_some, X.eval, set_none, set_some, List.map_cons, List.map_nil, List.getD_cons_zero, List.getD_cons_succ, List.getD_nil, List.set_cons_zero, List.set_cons_succ, binCV, unCV, isShift, intArithF_eq, shiftF_eq, wrapF_eq, intArith, shift, eqVal, bound, asNat_cast, cond_true, cond_false, BEq.rfl, beq_self_eq_true, evalParts, fillParts, AV.cells, AV.ofCells, XV.av, AV.xv, List.length_cons, List.length_nil, zeros, patch, setMany, List.nil_append, List.cons_append, Nat.ble, Nat.add_eq, Nat.zero_add, Nat.add_zero, Nat.reduceAdd, Nat.reduceMul, Nat.reduceSub, Nat.ble_eq, Nat.reduceLeDiff, Nat.reduceBEq, Int.reduceBEq, Int.reduceNeg, Bool.and_true, Bool.and_false, Bool.true_and, Bool.false_and, Bool.not_true, Bool.not_false, Bool.true_eq_false, Bool.false_eq_true, Int.reduceLT, Int.reduceLE, Int.reduceGT, Int.reduceGE, decide_true, decide_false, Bool.not_eq_true, loopN_norm, loopN_exit, tf, ft, ff, op_nilchk, p_nilchk, op_faddr, p_faddr, p_iaddr, p_load, r1, AV.ofCells, lx, e1, v1, v2, v3, m1, Nat.mul_one, k1]
    · rw [dif_neg hk1]
      have v3 : decide (((k + 1 : Nat) : Int) ≥ (o.length : Int)) = true := decide_eq_true (by omega)
      simp only [enter_eq, ev_seq, seqK_norm, seqK_exit, seqK_ret, ev_reg, ev_cond, condK_true, condK_false, ev_block, blockK_norm, blockK_ret, blockK_exit, ev_loop, ev_skip, ev_exit, ev_ret, regK_cons, regK_nil, guard_none, guard_some, regG_true, regG_false, regO_some, op_mov, op_conv, op_bin, op_bsl, op_box, op_mks, op_s2b, op_pick, op_un, op_eq, op_len, op_ext, op_load, op_iaddr, op_slice, op_b2s, op_idxS, op_mx, op_mn, op_call, op_store, op_app, op_copy, args_eq, result_one', rv_loc, finish_norm, finish_ret, outK_some, keep_true, keep_false, keep_nil, p_bin, p_pick, p_un, p_eq, p_conv, evNew, pureK_some, newK_some, X.eval, set_none, set_some, List.map_cons, List.map_nil, List.getD_cons_zero, List.getD_cons_succ, List.getD_nil, List.set_cons_zero, List.set_cons_succ, binCV, unCV, isShift, intArithF_eq, shiftF_eq, wrapF_eq, intArith, shift, eqVal, bound, asNat_cast, cond_true, cond_false, BEq.rfl, beq_self_eq_true, evalParts, fillParts, AV.cells, AV.ofCells, XV.av, AV.xv, List.length_cons, List.length_nil, zeros, patch, setMany, List.nil_append, List.cons_append, Nat.ble, Nat.add_eq, Nat.zero_add, Nat.add_zero, Nat.reduceAdd, Nat.reduceMul, Nat.reduceSub, Nat.ble_eq, Nat.reduceLeDiff, Nat.reduceBEq, Int.reduceBEq, Int.reduceNeg, Bool.and_true, Bool.and_false, Bool.true_and, Bool.false_and, Bool.not_true, Bool.not_false, Bool.true_eq_false, Bool.false_eq_true, Int.reduceLT, Int.reduceLE, Int.reduceGT, Int.reduceGE, decide_true, decide_false, Bool.not_eq_true, loopN_norm, loopN_exit, tf, ft, ff, op_nilchk, p_nilchk, op_faddr, p_faddr, p_iaddr, p_load, r1, AV.ofCells, lx, e1, v1, v2, v3]
  · rw [placeOf_not hx] at e1
    rw [nextOf_not hx]
    simp only [enter_eq, ev_seq, seqK_norm, seqK_exit, seqK_ret, ev_reg, ev_cond, condK_true, condK_false, ev_block, blockK_norm, blockK_ret, blockK_exit, ev_loop, ev_skip, ev_exit, ev_ret, regK_cons, regK_nil, guard_none, guard_some, regG_true, regG_false, regO_some, op_mov, op_conv, op_bin, op_bsl, op_box, op_mks, op_s2b, op_pick, op_un, op_eq, op_len, op_ext, op_load, op_iaddr, op_slice, op_b2s, op_idxS, op_mx, op_mn, op_call, op_store, op_app, op_copy, args_eq, result_one', rv_loc, finish_norm, finish_ret, outK_some, keep_true, keep_false, keep_nil, p_bin, p_pick, p_un, p_eq, p_conv, evNew, pureK_some, newK_some, X.eval, set_none, set_some, List.map_cons, List.map_nil, List.getD_cons_zero, List.getD_cons_succ, List.getD_nil, List.set_cons_zero, List.set_cons_succ, binCV, unCV, isShift, intArithF_eq, shiftF_eq, wrapF_eq, intArith, shift, eqVal, bound, asNat_cast, cond_true, cond_false, BEq.rfl, beq_self_eq_true, evalParts, fillParts, AV.cells, AV.ofCells, XV.av, AV.xv, List.length_cons, List.length_nil, zeros, patch, setMany, List.nil_append, List.cons_append, Nat.ble, Nat.add_eq, Nat.zero_add, Nat.add_zero, Nat.reduceAdd, Nat.reduceMul, Nat.reduceSub, Nat.ble_eq, Nat.reduceLeDiff, Nat.reduceBEq, Int.reduceBEq, Int.reduceNeg, Bool.and_true, Bool.and_false, Bool.true_and, Bool.false_and, Bool.not_true, Bool.not_false, Bool.true_eq_false, Bool.false_eq_true, Int.reduceLT, Int.reduceLE, Int.reduceGT, Int.reduceGE, decide_true, decide_false, Bool.not_eq_true, loopN_norm, loopN_exit, tf, ft, ff, op_nilchk, p_nilchk, op_faddr, p_faddr, p_iaddr, p_load, r1, AV.ofCells, lx, e1]

theorem rfront_no (r : RL h q bad n o) {x : Int} (hx : ¬ (0 ≤ x ∧ x < n ∧ x ∉ o)) (hN : o.length + 2 ≤ N) (hl : o.length < 1000000) : evCallT table 23 N (d + 2) 25 [.c (.ptr q 0), .c (.int .i64 x)] h = some (.c (.bool false), h) := by
  obtain ⟨y, h1, h2, h3, h4, _⟩ := r
  have r0 : h.read q 0 1 = some [.int .i64 n] := read_cells h1 rfl
  have r1 : h.read q 1 1 = some [y] := read_cells h1 rfl
  have e1 := place_ok (N := N) (d := d) h2 x hN hl
  rw [evCallT_eq (F := ir25) rfl rfl rfl]
  unfold ir25
  rw [bodyK_eq]
  by_cases c1 : x < 0
  · simp only [enter_eq, ev_seq, seqK_norm, seqK_exit, seqK_ret, ev_reg, ev_cond, condK_true, condK_false, ev_block, blockK_norm, blockK_ret, blockK_exit, ev_loop, ev_skip, ev_exit, ev_ret, regK_cons, regK_nil, guard_none, guard_some, regG_true, regG_false, regO_some, op_mov, op_conv, op_bin, op_bsl, op_box, op_mks, op_s2b, op_pick, op_un, op_eq, op_len, op_ext, op_load, op_iaddr, op_slice, op_b2s, op_idxS, op_mx, op_mn, op_call, op_store, op_app, op_copy, args_eq, result_one', rv_loc, finish_norm, finish_ret, outK_some, keep_true, keep_false, keep_nil, p_bin, p_pick, p_un, p_eq, p_conv, evNew, pureK_some, newK_some, X.eval, set_none, set_some, List.map_cons, List.map_nil, List.getD_cons_zero, List.getD_cons_succ, List.getD_nil, List.set_cons_zero, List.set_cons_succ, binCV, unCV, isShift, intArithF_eq, shiftF_eq, wrapF_eq, intArith, shift, eqVal, bound, asNat_cast, cond_true, cond_false, BEq.rfl, beq_self_eq_true, evalParts, fillParts, AV.cells, AV.ofCells, XV.av, AV.xv, List.length_cons, List.length_nil, zeros, patch, setMany, List.nil_append, List.cons_append, Nat.ble, Nat.add_eq, Nat.zero_add, Nat.add_zero, Nat.reduceAdd, Nat.reduceMul, Nat.reduceSub, Nat.ble_eq, Nat.reduceLeDiff, Nat.reduceBEq, Int.reduceBEq, Int.reduceNeg, Bool.and_true, Bool.and_false, Bool.true_and, Bool.false_and, Bool.not_true, Bool.not_false, Bool.true_eq_false, Bool.false_eq_true, Int.reduceLT, Int.reduceLE, Int.reduceGT, Int.reduceGE, decide_true, decide_false, Bool.not_eq_true, loopN_norm, loopN_exit, tf, ft, ff, decide_eq_true c1]
  by_cases c2 : x ≥ n
  · simp only [enter_eq, ev_seq, seqK_norm, seqK_exit, seqK_ret, ev_reg, ev_cond, condK_true, condK_false, ev_block, blockK_norm, blockK_ret, blockK_exit, ev_loop, ev_skip, ev_exit, ev_ret, regK_cons, regK_nil, guard_none, guard_some, regG_true, regG_false, regO_some, op_mov, op_conv, op_bin, op_bsl, op_box, op_mks, op_s2b, op_pick, op_un, op_eq, op_len, op_ext, op_load, op_iaddr, op_slice, op_b2s, op_idxS, op_mx, op_mn, op_call, op_store, op_app, op_copy, args_eq, result_one', rv_loc, finish_norm, finish_ret, outK_some, keep_true, keep_false, keep_nil, p_bin, p_pick, p_un, p_eq, p_conv, evNew, pureK_some, newK_some, X.eval, set_none, set_some, List.map_cons, List.map_nil, List.getD_cons_zero, List.getD_cons_succ, List.getD_nil, List.set_cons_zero, List.set_cons_succ, binCV, unCV, isShift, intArithF_eq, shiftF_eq, wrapF_eq, intArith, shift, eqVal, bound, asNat_cast, cond_true, cond_false, BEq.rfl, beq_self_eq_true, evalParts, fillParts, AV.cells, AV.ofCells, XV.av, AV.xv, List.length_cons, List.length_nil, zeros, patch, setMany, List.nil_append, List.cons_append, Nat.ble, Nat.add_eq, Nat.zero_add, Nat.add_zero, Nat.reduceAdd, Nat.reduceMul, Nat.reduceSub, Nat.ble_eq, Nat.reduceLeDiff, Nat.reduceBEq, Int.reduceBEq, Int.reduceNeg, Bool.and_true, Bool.and_false, Bool.true_and, Bool.false_and, Bool.not_true, Bool.not_false, Bool.true_eq_false, Bool.false_eq_true, Int.reduceLT, Int.reduceLE, Int.reduceGT, Int.reduceGE, decide_true, decide_false, Bool.not_eq_true, loopN_norm, loopN_exit, tf, ft, ff, op_nilchk, p_nilchk, op_faddr, p_faddr, p_load, r0, AV.ofCells, decide_eq_false c1, decide_eq_true c2]
  · have hm : x ∈ o := by
      refine Classical.byContradiction fun hm => hx ⟨by omega, by omega, hm⟩
    obtain ⟨k, hp, hk, hke, _⟩ := placeOf_mem hm
    rw [hp] at e1
    have v1 : decide ((k : Int) ≥ 0) = true := decide_eq_true (by omega)
    simp only [enter_eq, ev_seq, seqK_norm, seqK_exit, seqK_ret, ev_reg, ev_cond, condK_true, condK_false, ev_block, blockK_norm, blockK_ret, blockK_exit, ev_loop, ev_skip, ev_exit, ev_ret, regK_cons, regK_nil, guard_none, guard_some, regG_true, regG_false, regO_some, op_mov, op_conv, op_bin, op_bsl, op_box, op_mks, op_s2b, op_pick, op_un, op_eq, op_len, op_ext, op_load, op_iaddr, op_slice, op_b2s, op_idxS, op_mx, op_mn, op_call, op_store, op_app, op_copy, args_eq, result_one', rv_loc, finish_norm, finish_ret, outK_some, keep_true, keep_false, keep_nil, p_bin, p_pick, p_un, p_eq, p_conv, evNew, pureK_some, newK_some, X.eval, set_none, set_some, List.map_cons, List.map_nil, List.getD_cons_zero, List.getD_cons_succ, List.getD_nil, List.set_cons_zero, List.set_cons_succ, binCV, unCV, isShift, intArithF_eq, shiftF_eq, wrapF_eq, intArith, shift, eqVal, bound, asNat_cast, cond_true, cond_false, BEq.rfl, beq_self_eq_true, evalParts, fillParts, AV.cells, AV.ofCells, XV.av, AV.xv, List.length_cons, List.length_nil, zeros, patch, setMany, List.nil_append, List.cons_append, Nat.ble, Nat.add_eq, Nat.zero_add, Nat.add_zero, Nat.reduceAdd, Nat.reduceMul, Nat.reduceSub, Nat.ble_eq, Nat.reduceLeDiff, Nat.reduceBEq, Int.reduceBEq, Int.reduceNeg, Bool.and_true, Bool.and_false, Bool.true_and, Bool.false_and, Bool.not_true, Bool.not_false, Bool.true_eq_false, Bool.false_eq_true, Int.reduceLT, Int.reduceLE, Int.reduceGT, Int.reduceGE, decide_true, decide_false, Bool.not_eq_true, loopN_norm, loopN_exit, tf, ft, ff, op_nilchk, p_nilchk, op_faddr, p_faddr, p_load, r0, r1, AV.ofCells, decide_eq_false c1, decide_eq_false c2, e1, v1]
theorem rback_no (r : RL h q bad n o) {x : Int} (hx : ¬ (0 ≤ x ∧ x < n ∧ x ∉ o)) (hN : o.length + 2 ≤ N) (hl : o.length < 1000000) : evCallT table 23 N (d + 2) 27 [.c (.ptr q 0), .c (.int .i64 x)] h = some (.c (.bool false), h) := by
  obtain ⟨y, h1, h2, h3, h4, _⟩ := r
  have r0 : h.read q 0 1 = some [.int .i64 n] := read_cells h1 rfl
  have r1 : h.read q 1 1 = some [y] := read_cells h1 rfl
  have e1 := place_ok (N := N) (d := d) h2 x hN hl
  rw [evCallT_eq (F := ir27) rfl rfl rfl]
  unfold ir27
  rw [bodyK_eq]
  by_cases c1 : x < 0
  · simp only [enter_eq, ev_seq, seqK_norm, seqK_exit, seqK_ret, ev_reg, ev_cond, condK_true, condK_false, ev_block, blockK_norm, blockK_ret, blockK_exit, ev_loop, ev_skip, ev_exit, ev_ret, regK_cons, regK_nil, guard_none, guard_some, regG_true, regG_false, regO_some, op_mov, op_conv, op_bin, op_bsl, op_box, op_mks, op_s2b, op_pick, op_un, op_eq, op_len, op_ext, op_load, op_iaddr, op_slice, op_b2s, op_idxS, op_mx, op_mn, op_call, op_store, op_app, op_copy, args_eq, result_one', rv_loc, finish_norm, finish_ret, outK_some, keep_true, keep_false, keep_nil, p_bin, p_pick, p_un, p_eq, p_conv, evNew, pureK_some, newK_some, X.eval, set_none, set_some, List.map_cons, List.map_nil, List.getD_cons_zero, List.getD_cons_succ, List.getD_nil, List.set_cons_zero, List.set_cons_succ, binCV, unCV, isShift, intArithF_eq, shiftF_eq, wrapF_eq, intArith, shift, eqVal, bound, asNat_cast, cond_true, cond_false, BEq.rfl, beq_self_eq_true, evalParts, fillParts, AV.cells, AV.ofCells, XV.av, AV.xv, List.length_cons, List.length_nil, zeros, patch, setMany, List.nil_append, List.cons_append, Nat.ble, Nat.add_eq, Nat.zero_add, Nat.add_zero, Nat.reduceAdd, Nat.reduceMul, Nat.reduceSub, Nat.ble_eq, Nat.reduceLeDiff, Nat.reduceBEq, Int.reduceBEq, Int.reduceNeg, Bool.and_true, Bool.and_false, Bool.true_and, Bool.false_and, Bool.not_true, Bool.not_false, Bool.true_eq_false, Bool.false_eq_true, Int.reduceLT, Int.reduceLE, Int.reduceGT, Int.reduceGE, decide_true, decide_false, Bool.not_eq_true, loopN_norm, loopN_exit, tf, ft, ff, decide_eq_true c1]
  by_cases c2 : x ≥ n
  · simp only [enter_eq, ev_seq, seqK_norm, seqK_exit, seqK_ret, ev_reg, ev_cond, condK_true, condK_false, ev_block, blockK_norm, blockK_ret, blockK_exit, ev_loop, ev_skip, ev_exit, ev_ret, regK_cons, regK_nil, guard_none, guard_some, regG_true, regG_false, regO_some, op_mov, op_conv, op_bin, op_bsl, op_box, op_mks, op_s2b, op_pick, op_un, op_eq, op_len, op_ext, op_load, op_iaddr, op_slice, op_b2s, op_idxS, op_mx, op_mn, op_call, op_store, op_app, op_copy, args_eq, result_one', rv_loc, finish_norm, finish_ret, outK_some, keep_true, keep_false, keep_nil, p_bin, p_pick, p_un, p_eq, p_conv, evNew, pureK_some, newK_some, X.eval, set_none, set_some, List.map_cons, List.map_nil, List.getD_cons_zero, List.getD_cons_succ, List.getD_nil, List.set_cons_zero, List.set_cons_succ, binCV, unCV, isShift, intArithF_eq, shiftF_eq, wrapF_eq, intArith, shift, eqVal, bound, asNat_cast, cond_true, cond_false, BEq.rfl, beq_self_eq_true, evalParts, fillParts, AV.cells, AV.ofCells, XV.av, AV.xv, List.length_cons, List.length_nil, zeros, patch, setMany, List.nil_append, List.cons_append, Nat.ble, Nat.add_eq, Nat.zero_add, Nat.add_zero, Nat.reduceAdd, Nat.reduceMul, Nat.reduceSub, Nat.ble_eq, Nat.reduceLeDiff, Nat.reduceBEq, Int.reduceBEq, Int.reduceNeg, Bool.and_true, Bool.and_false, Bool.true_and, Bool.false_and, Bool.not_true, Bool.not_false, Bool.true_eq_false, Bool.false_eq_true, Int.reduceLT, Int.reduceLE, Int.reduceGT, Int.reduceGE, decide_true, decide_false, Bool.not_eq_true, loopN_norm, loopN_exit, tf, ft, ff, op_nilchk, p_nilchk, op_faddr, p_faddr, p_load, r0, AV.ofCells, decide_eq_false c1, decide_eq_true c2]
  · have hm : x ∈ o := by
      refine Classical.byContradiction fun hm => hx ⟨by omega, by omega, hm⟩
    obtain ⟨k, hp, hk, hke, _⟩ := placeOf_mem hm
    rw [hp] at e1
    have v1 : decide ((k : Int) ≥ 0) = true := decide_eq_true (by omega)
    simp only [enter_eq, ev_seq, seqK_norm, seqK_exit, seqK_ret, ev_reg, ev_cond, condK_true, condK_false, ev_block, blockK_norm, blockK_ret, blockK_exit, ev_loop, ev_skip, ev_exit, ev_ret, regK_cons, regK_nil, guard_none, guard_some, regG_true, regG_false, regO_some, op_mov, op_conv, op_bin, op_bsl, op_box, op_mks, op_s2b, op_pick, op_un, op_eq, op_len, op_ext, op_load, op_iaddr, op_slice, op_b2s, op_idxS, op_mx, op_mn, op_call, op_store, op_app, op_copy, args_eq, result_one', rv_loc, finish_norm, finish_ret, outK_some, keep_true, keep_false, keep_nil, p_bin, p_pick, p_un, p_eq, p_conv, evNew, pureK_some, newK_some, X.eval, set_none, set_some, List.map_cons, List.map_nil, List.getD_cons_zero, List.getD_cons_succ, List.getD_nil, List.set_cons_zero, List.set_cons_succ, binCV, unCV, isShift, intArithF_eq, shiftF_eq, wrapF_eq, intArith, shift, eqVal, bound, asNat_cast, cond_true, cond_false, BEq.rfl, beq_self_eq_true, evalParts, fillParts, AV.cells, AV.ofCells, XV.av, AV.xv, List.length_cons, List.length_nil, zeros, patch, setMany, List.nil_append, List.cons_append, Nat.ble, Nat.add_eq, Nat.zero_add, Nat.add_zero, Nat.reduceAdd, Nat.reduceMul, Nat.reduceSub, Nat.ble_eq, Nat.reduceLeDiff, Nat.reduceBEq, Int.reduceBEq, Int.reduceNeg, Bool.and_true, Bool.and_false, Bool.true_and, Bool.false_and, Bool.not_true, Bool.not_false, Bool.true_eq_false, Bool.false_eq_true, Int.reduceLT, Int.reduceLE, Int.reduceGT, Int.reduceGE, decide_true, decide_false, Bool.not_eq_true, loopN_norm, loopN_exit, tf, ft, ff, op_nilchk, p_nilchk, op_faddr, p_faddr, p_load, r0, r1, AV.ofCells, decide_eq_false c1, decide_eq_false c2, e1, v1]
theorem rout_no (r : RL h q bad n o) {x : Int} (hx : x ∉ o) (hN : o.length + 2 ≤ N) (hl : o.length < 1000000) : evCallT table 23 N (d + 2) 29 [.c (.ptr q 0), .c (.int .i64 x)] h = some (.c (.bool false), h) := by
  obtain ⟨y, h1, h2, h3, h4, _⟩ := r
  have r1 : h.read q 1 1 = some [y] := read_cells h1 rfl
  have e1 := place_ok (N := N) (d := d) h2 x hN hl
  rw [placeOf_not hx] at e1
  rw [evCallT_eq (F := ir29) rfl rfl rfl]
  unfold ir29
  rw [bodyK_eq]
  simp only [enter_eq, ev_seq, seqK_norm, seqK_exit, seqK_ret, ev_reg, ev_cond, condK_true, condK_false, ev_block, blockK_norm, blockK_ret, blockK_exit, ev_loop, ev_skip, ev_exit, ev_ret, regK_cons, regK_nil, guard_none, guard_some, regG_true, regG_false, regO_some, op_mov, op_conv, op_bin, op_bsl, op_box, op_mks, op_s2b, op_pick, op_un, op_eq, op_len, op_ext, op_load, op_iaddr, op_slice, op_b2s, op_idxS, op_mx, op_mn, op_call, op_store, op_app, op_copy, args_eq, result_one', rv_loc, finish_norm, finish_ret, outK_some, keep_true, keep_false, keep_nil, p_bin, p_pick, p_un, p_eq, p_conv, evNew, pureK_some, newK_some, X.eval, set_none, set_some, List.map_cons, List.map_nil, List.getD_cons_zero, List.getD_cons_succ, List.getD_nil, List.set_cons_zero, List.set_cons_succ, binCV, unCV, isShift, intArithF_eq, shiftF_eq, wrapF_eq, intArith, shift, eqVal, bound, asNat_cast, cond_true, cond_false, BEq.rfl, beq_self_eq_true, evalParts, fillParts, AV.cells, AV.ofCells, XV.av, AV.xv, List.length_cons, List.length_nil, zeros, patch, setMany, List.nil_append, List.cons_append, Nat.ble, Nat.add_eq, Nat.zero_add, Nat.add_zero, Nat.reduceAdd, Nat.reduceMul, Nat.reduceSub, Nat.ble_eq, Nat.reduceLeDiff, Nat.reduceBEq, Int.reduceBEq, Int.reduceNeg, Bool.and_true, Bool.and_false, Bool.true_and, Bool.false_and, Bool.not_true, Bool.not_false, Bool.true_eq_false, Bool.false_eq_true, Int.reduceLT, Int.reduceLE, Int.reduceGT, Int.reduceGE, decide_true, decide_false, Bool.not_eq_true, loopN_norm, loopN_exit, tf, ft, ff, op_nilchk, p_nilchk, op_faddr, p_faddr, p_load, r1, AV.ofCells, e1]

theorem rfront_ok (r : RL h q bad n o) (hbn : ∀ k ∈ bad, k < h.next) {x : Int} (h0 : 0 ≤ x) (hn : x < n) (hx : x ∉ o) (hN : o.length + 2 ≤ N) (hl : o.length < 900000) :
    ∃ h', evCallT table 23 N (d + 2) 25 [.c (.ptr q 0), .c (.int .i64 x)] h = some (.c (.bool true), h') ∧ RL h' q bad n (x :: o) ∧ ExtB [q] h h' := by
  obtain ⟨y, h1, h2, h3, h4, _⟩ := r
  have r0 : h.read q 0 1 = some [.int .i64 n] := read_cells h1 rfl
  have r1 : h.read q 1 1 = some [y] := read_cells h1 rfl
  have e1 := place_ok (N := N) (d := d) h2 x hN (by omega)
  rw [placeOf_not hx] at e1
  have e0 : Ext h (h.new (.cells [icell x])) := (Ext.refl _).new _
  have r1' : (h.new (.cells [icell x])).read q 1 1 = some [y] := read_cells (e0.at_ h1 h3) rfl
  obtain ⟨z, h', a1, a2, a3, a4⟩ := app_ints (h0 := h) (h := h.new (.cells [icell x])) (x := .sl h.next 0 1 (.ex 1)) (vs := [x]) (.inr ⟨h.next, .ex 1, rfl, .inr rfl, get_new_at, Nat.le_refl _, Nat.lt_succ_self _⟩) (Nat.le_succ _) (h2.ext e0) (by simp; omega)
  simp only [icell] at a1 r1'
  have gq : h'.get q = some (.cells [.int .i64 n, y]) := by rw [a4 q h3]; exact e0.at_ h1 h3
  have W := write_one (o := 1) (v := z) gq (by simp)
  have xx : ExtB [q] h (h'.put q (.cells ([.int .i64 n, y].set 1 z))) := by
    refine ExtB.put ⟨Nat.le_trans (Nat.le_succ _) a3, fun k hk _ => ?_⟩ (.inr (by simp)) _
    rw [a4 k hk]; exact e0.2 k hk
  rw [evCallT_eq (F := ir25) rfl rfl rfl]
  unfold ir25
  rw [bodyK_eq]
  simp only [enter_eq, ev_seq, seqK_norm, seqK_exit, seqK_ret, ev_reg, ev_cond, condK_true, condK_false, ev_block, blockK_norm, blockK_ret, blockK_exit, ev_loop, ev_skip, ev_exit, ev_ret, regK_cons, regK_nil, guard_none, guard_some, regG_true, regG_false, regO_some, op_mov, op_conv, op_bin, op_bsl, op_box, op_mks, op_s2b, op_pick, op_un, op_eq, op_len, op_ext, op_load, op_iaddr, op_slice, op_b2s, op_idxS, op_mx, op_mn, op_call, op_store, op_app, op_copy, args_eq, result_one', rv_loc, finish_norm, finish_ret, outK_some, keep_true, keep_false, keep_nil, p_bin, p_pick, p_un, p_eq, p_conv, evNew, pureK_some, newK_some, X.eval, set_none, set_some, List.map_cons, List.map_nil, List.getD_cons_zero, List.getD_cons_succ, List.getD_nil, List.set_cons_zero, List.set_cons_succ, binCV, unCV, isShift, intArithF_eq, shiftF_eq, wrapF_eq, intArith, shift, eqVal, bound, asNat_cast, cond_true, cond_false, BEq.rfl, beq_self_eq_true, evalParts, fillParts, AV.cells, AV.ofCells, XV.av, AV.xv, List.length_cons, List.length_nil, zeros, patch, setMany, List.nil_append, List.cons_append, Nat.ble, Nat.add_eq, Nat.zero_add, Nat.add_zero, Nat.reduceAdd, Nat.reduceMul, Nat.reduceSub, Nat.ble_eq, Nat.reduceLeDiff, Nat.reduceBEq, Int.reduceBEq, Int.reduceNeg, Bool.and_true, Bool.and_false, Bool.true_and, Bool.false_and, Bool.not_true, Bool.not_false, Bool.true_eq_false, Bool.false_eq_true, Int.reduceLT, Int.reduceLE, Int.reduceGT, Int.reduceGE, decide_true, decide_false, Bool.not_eq_true, loopN_norm, loopN_exit, tf, ft, ff, op_nilchk, p_nilchk, op_faddr, p_faddr, p_load, r0, r1, r1', AV.ofCells, decide_eq_false (show ¬ x < 0 by omega), decide_eq_false (show ¬ x ≥ n by omega), e1, a1, evEff, W]
  refine ⟨_, rfl, ⟨z, get_put_at, ?_, Nat.lt_of_lt_of_le h3 xx.1, fun k hk hm => ?_, a2.shape⟩, xx⟩
  · refine a2.ints.keepB ((ExtB.refl _ _).put (.inr (List.mem_singleton.2 rfl)) _) fun k hk => ?_
    have := a2.young k hk
    simp; omega
  · have := a2.young k hk
    have := hbn k hm; omega

theorem rback_ok (r : RL h q bad n o) (hbn : ∀ k ∈ bad, k < h.next) {x : Int} (h0 : 0 ≤ x) (hn : x < n) (hx : x ∉ o) (hN : o.length + 2 ≤ N) (hl : o.length < 900000) :
    ∃ h', evCallT table 23 N (d + 2) 27 [.c (.ptr q 0), .c (.int .i64 x)] h = some (.c (.bool true), h') ∧ RL h' q bad n (o ++ [x]) ∧ ExtB [q] h h' := by
  obtain ⟨y, h1, h2, h3, h4, _⟩ := r
  have r0 : h.read q 0 1 = some [.int .i64 n] := read_cells h1 rfl
  have r1 : h.read q 1 1 = some [y] := read_cells h1 rfl
  have e1 := place_ok (N := N) (d := d) h2 x hN (by omega)
  rw [placeOf_not hx] at e1
  have e0 : Ext h (h.new (.cells [])) := (Ext.refl _).new _
  have r1' : (h.new (.cells [])).read q 1 1 = some [y] := read_cells (e0.at_ h1 h3) rfl
  obtain ⟨z1, h1', a1, a2, a3, a4⟩ := app_ints (h0 := h) (h := h.new (.cells [])) (x := .sl h.next 0 0 (.ex 0)) (vs := []) (.inr ⟨h.next, .ex 0, rfl, .inr rfl, get_new_at, Nat.le_refl _, Nat.lt_succ_self _⟩) (Nat.le_succ _) (h2.ext e0) (by simp; omega)
  rw [List.nil_append] at a2
  have hle1 : h.next ≤ h1'.next := Nat.le_trans (Nat.le_succ _) a3
  obtain ⟨z, h', b1, b2, b3, b4⟩ := app_ints (h0 := h) (h := h1'.new (.cells [icell x])) (x := z1) (y := .sl h1'.next 0 1 (.ex 1)) (ws := [x]) (a2.keep ((Ext.refl _).new _)) (Nat.le_trans hle1 (Nat.le_succ _)) (ints_cells (h := h1'.new (.cells [icell x])) (i := h1'.next) (xs := [x]) (c := .ex 1) (Nat.lt_succ_self _) get_new_at) (by simp; omega)
  simp only [icell] at b1
  have gk : ∀ k, k < h.next → h'.get k = h.get k := fun k hk => by rw [b4 k hk, get_new_old (Nat.lt_of_lt_of_le hk hle1), a4 k hk]; exact e0.2 k hk
  have gq : h'.get q = some (.cells [.int .i64 n, y]) := (gk q h3).trans h1
  have W := write_one (o := 1) (v := z) gq (by simp)
  have xx : ExtB [q] h (h'.put q (.cells ([.int .i64 n, y].set 1 z))) :=
    ExtB.put ⟨Nat.le_trans hle1 (Nat.le_trans (Nat.le_succ _) b3), fun k hk _ => gk k hk⟩ (.inr (by simp)) _
  rw [evCallT_eq (F := ir27) rfl rfl rfl]
  unfold ir27
  rw [bodyK_eq]
  simp only [enter_eq, ev_seq, seqK_norm, seqK_exit, seqK_ret, ev_reg, ev_cond, condK_true, condK_false, ev_block, blockK_norm, blockK_ret, blockK_exit, ev_loop, ev_skip, ev_exit, ev_ret, regK_cons, regK_nil, guard_none, guard_some, regG_true, regG_false, regO_some, op_mov, op_conv, op_bin, op_bsl, op_box, op_mks, op_s2b, op_pick, op_un, op_eq, op_len, op_ext, op_load, op_iaddr, op_slice, op_b2s, op_idxS, op_mx, op_mn, op_call, op_store, op_app, op_copy, args_eq, result_one', rv_loc, finish_norm, finish_ret, outK_some, keep_true, keep_false, keep_nil, p_bin, p_pick, p_un, p_eq, p_conv, evNew, pureK_some, newK_some, X.eval, set_none, set_some, List.map_cons, List.map_nil, List.getD_cons_zero, List.getD_cons_succ, List.getD_nil, List.set_cons_zero, List.set_cons_succ, binCV, unCV, isShift, intArithF_eq, shiftF_eq, wrapF_eq, intArith, shift, eqVal, bound, asNat_cast, cond_true, cond_false, BEq.rfl, beq_self_eq_true, evalParts, fillParts, AV.cells, AV.ofCells, XV.av, AV.xv, List.length_cons, List.length_nil, zeros, patch, setMany, List.nil_append, List.cons_append, Nat.ble, Nat.add_eq, Nat.zero_add, Nat.add_zero, Nat.reduceAdd, Nat.reduceMul, Nat.reduceSub, Nat.ble_eq, Nat.reduceLeDiff, Nat.reduceBEq, Int.reduceBEq, Int.reduceNeg, Bool.and_true, Bool.and_false, Bool.true_and, Bool.false_and, Bool.not_true, Bool.not_false, Bool.true_eq_false, Bool.false_eq_true, Int.reduceLT, Int.reduceLE, Int.reduceGT, Int.reduceGE, decide_true, decide_false, Bool.not_eq_true, loopN_norm, loopN_exit, tf, ft, ff, op_nilchk, p_nilchk, op_faddr, p_faddr, p_load, r0, r1, r1', AV.ofCells, decide_eq_false (show ¬ x < 0 by omega), decide_eq_false (show ¬ x ≥ n by omega), e1, a1, b1, evEff, W]
  refine ⟨_, rfl, ⟨z, get_put_at, ?_, Nat.lt_of_lt_of_le h3 xx.1, fun k hk hm => ?_, b2.shape⟩, xx⟩
  · refine b2.ints.keepB ((ExtB.refl _ _).put (.inr (List.mem_singleton.2 rfl)) _) fun k hk => ?_
    have := b2.young k hk
    simp; omega
  · have := b2.young k hk
    have := hbn k hm; omega

/-- A part of ints. -/
theorem Ints.part {i o' m : Nat} {c : Cap} (hx : Ints h (.sl i o' m c) o) (a k : Nat) (hk : a + k ≤ o.length) (c' : Cap) : Ints h (.sl i (o' + a * 1) k c') ((o.drop a).take k) := by
  rcases hx with ⟨h1, _⟩ | ⟨i', o2, c2, h1, h2, h3⟩
  · cases h1
  · cases h1
    refine .inr ⟨_, o' + a * 1, c', by congr 1; simp; omega, h2, fun j v hj => ?_⟩
    rw [List.getElem?_take] at hj
    split at hj
    · rw [List.getElem?_drop] at hj
      have := h3 (a + j) v hj
      rw [show o' + a * 1 + j * 1 = o' + (a + j) * 1 by omega]; exact this
    · cases hj

theorem without_ok {i o' m : Nat} {c : Cap} (hy : Ints h (.sl i o' m c) o) (hc : c = .dy 1 ∨ c = .ex m) {k : Nat} (hk : k < o.length) (hl : o.length < 900000) :
    ∃ z h', evCallT table 23 N (d + 1) 44 [.c (.sl i o' m c), .c (.int .i64 (k : Int))] h = some (.c z, h') ∧ Sole h h' z (o.take k ++ o.drop (k + 1)) ∧ h.next ≤ h'.next ∧ ∀ j, j < h.next → h'.get j = h.get j := by
  have hm : m = o.length := by
    rcases hy with ⟨h1, _⟩ | ⟨_, _, _, h1, _⟩
    · cases h1
    · cases h1; rfl
  subst hm
  have e0 : Ext h ((h.skip 1).put h.next (.cells [])) := ((Ext.refl _).skip 1).put (Nat.le_refl _) _
  have v2 := succI (i := k) (by omega)
  have b1 : Nat.ble k o.length = true := Nat.ble_eq_true_of_le (by omega)
  have b2 : Nat.ble (k + 1) o.length = true := Nat.ble_eq_true_of_le (by omega)
  have b3 : Nat.ble o.length o.length = true := Nat.ble_eq_true_of_le (Nat.le_refl _)
  have p1 : ∀ c', Ints ((h.skip 1).put h.next (.cells [])) (.sl i (o' + 0 * 1) (k - 0) c') (o.take k) := fun c' => by
    have := (hy.ext e0).part 0 k (by omega) c'
    rwa [List.drop_zero] at this
  have p2 : ∀ c', Ints h (.sl i (o' + (k + 1) * 1) (o.length - (k + 1)) c') (o.drop (k + 1)) := fun c' => by
    have := hy.part (k + 1) (o.length - (k + 1)) (by omega) c'
    rwa [List.take_of_length_le (by simp)] at this
  rw [evCallT_eq (F := ir44) rfl rfl rfl]
  unfold ir44
  rw [bodyK_eq]
  have two : ∀ c1 c2, ∃ z1 h1, evApp ((h.skip 1).put h.next (.cells [])) 1 (.c (.sl h.next 0 0 (.ex 0))) (.c (.sl i (o' + 0 * 1) (k - 0) c1)) = some (.c z1, h1) ∧ ∃ z h', evApp h1 1 (.c z1) (.c (.sl i (o' + (k + 1) * 1) (o.length - (k + 1)) c2)) = some (.c z, h') ∧ Sole h h' z (o.take k ++ o.drop (k + 1)) ∧ h.next ≤ h'.next ∧ ∀ j, j < h.next → h'.get j = h.get j := fun c1 c2 => by
    obtain ⟨z1, h1, a1, a2, a3, a4⟩ := app_ints (h0 := h) (h := (h.skip 1).put h.next (.cells [])) (x := .sl h.next 0 0 (.ex 0)) (vs := []) (.inr ⟨h.next, .ex 0, rfl, .inr rfl, get_put_at, Nat.le_refl _, Nat.lt_succ_self _⟩) (Nat.le_succ _) (p1 c1) (by simp; omega)
    rw [List.nil_append] at a2
    have hle : h.next ≤ h1.next := Nat.le_trans (Nat.le_succ _) a3
    have ext1 : Ext h h1 := ⟨hle, fun j hj => by rw [a4 j hj]; exact e0.2 j hj⟩
    obtain ⟨z, h', c1', c2', c3, c4⟩ := app_ints (h0 := h) (h := h1) (x := z1) a2 hle ((p2 c2).ext ext1) (by simp; omega)
    exact ⟨z1, h1, a1, z, h', c1', c2', Nat.le_trans hle c3, fun j hj => by rw [c4 j hj]; exact ext1.2 j hj⟩
  rcases hc with rfl | rfl
  · obtain ⟨z1, h1, a1, z, h', a2, a3, a4, a5⟩ := two (.dy 1) (.dy 1)
    simp only [Nat.zero_mul, Nat.add_zero, Nat.sub_zero, Nat.mul_one] at a1 a2
    simp only [enter_eq, ev_seq, seqK_norm, seqK_exit, seqK_ret, ev_reg, ev_cond, condK_true, condK_false, ev_block, blockK_norm, blockK_ret, blockK_exit, ev_loop, ev_skip, ev_exit, ev_ret, regK_cons, regK_nil, guard_none, guard_some, regG_true, regG_false, regO_some, op_mov, op_conv, op_bin, op_bsl, op_box, op_mks, op_s2b, op_pick, op_un, op_eq, op_len, op_ext, op_load, op_iaddr, op_slice, op_b2s, op_idxS, op_mx, op_mn, op_call, op_store, op_app, op_copy, args_eq, result_one', rv_loc, finish_norm, finish_ret, outK_some, keep_true, keep_false, keep_nil, evPure, evNew, pureK_some, newK_some, X.eval, set_none, set_some, List.map_cons, List.map_nil, List.getD_cons_zero, List.getD_cons_succ, List.getD_nil, List.set_cons_zero, List.set_cons_succ, binCV, unCV, isShift, intArithF_eq, shiftF_eq, wrapF_eq, intArith, shift, eqVal, bound, asNat_cast, cond_true, cond_false, BEq.rfl, beq_self_eq_true, evalParts, fillParts, AV.cells, AV.ofCells, XV.av, AV.xv, List.length_cons, List.length_nil, zeros, patch, setMany, List.nil_append, List.cons_append, Nat.ble, Nat.add_eq, Nat.zero_add, Nat.add_zero, Nat.reduceAdd, Nat.reduceMul, Nat.reduceSub, Nat.ble_eq, Nat.reduceLeDiff, Nat.reduceBEq, Int.reduceBEq, Int.reduceNeg, Bool.and_true, Bool.and_false, Bool.true_and, Bool.false_and, Bool.not_true, Bool.not_false, Bool.true_eq_false, Bool.false_eq_true, Int.reduceLT, Int.reduceLE, Int.reduceGT, Int.reduceGE, decide_true, decide_false, Bool.not_eq_true, loopN_norm, loopN_exit, tf, ft, ff, ev_dreg, dregK_nil, dregK_cons, dregE_true, dregP_some, dregX_some, d_mov, d_bin, d_eq, d_pick, d_un, d_conv, d_b2s, d_len, d_load, d_iaddr, d_slice, d_ext, d_call, d_store, chk_done, chk_none, chk_some, chkG_true, chkG_false, chkOne_nil, chkOne_cons, chkH_some, chkV_same, stage_none, stage_some, look_hit, look_miss, news_nil, wb_cons, wb_nil, skip0, List.reverse_cons, List.reverse_nil, d_bsl, d_app, dregW_some, b1, b2, b3, v2, Nat.zero_mul, Nat.add_zero, Nat.sub_zero, Nat.mul_one, a1, a2]
    exact ⟨_, _, rfl, a3, a4, a5⟩
  · obtain ⟨z1, h1, a1, z, h', a2, a3, a4, a5⟩ := two (.ex o.length) (.ex (o.length - (k + 1)))
    simp only [Nat.zero_mul, Nat.add_zero, Nat.sub_zero, Nat.mul_one] at a1 a2
    simp only [enter_eq, ev_seq, seqK_norm, seqK_exit, seqK_ret, ev_reg, ev_cond, condK_true, condK_false, ev_block, blockK_norm, blockK_ret, blockK_exit, ev_loop, ev_skip, ev_exit, ev_ret, regK_cons, regK_nil, guard_none, guard_some, regG_true, regG_false, regO_some, op_mov, op_conv, op_bin, op_bsl, op_box, op_mks, op_s2b, op_pick, op_un, op_eq, op_len, op_ext, op_load, op_iaddr, op_slice, op_b2s, op_idxS, op_mx, op_mn, op_call, op_store, op_app, op_copy, args_eq, result_one', rv_loc, finish_norm, finish_ret, outK_some, keep_true, keep_false, keep_nil, evPure, evNew, pureK_some, newK_some, X.eval, set_none, set_some, List.map_cons, List.map_nil, List.getD_cons_zero, List.getD_cons_succ, List.getD_nil, List.set_cons_zero, List.set_cons_succ, binCV, unCV, isShift, intArithF_eq, shiftF_eq, wrapF_eq, intArith, shift, eqVal, bound, asNat_cast, cond_true, cond_false, BEq.rfl, beq_self_eq_true, evalParts, fillParts, AV.cells, AV.ofCells, XV.av, AV.xv, List.length_cons, List.length_nil, zeros, patch, setMany, List.nil_append, List.cons_append, Nat.ble, Nat.add_eq, Nat.zero_add, Nat.add_zero, Nat.reduceAdd, Nat.reduceMul, Nat.reduceSub, Nat.ble_eq, Nat.reduceLeDiff, Nat.reduceBEq, Int.reduceBEq, Int.reduceNeg, Bool.and_true, Bool.and_false, Bool.true_and, Bool.false_and, Bool.not_true, Bool.not_false, Bool.true_eq_false, Bool.false_eq_true, Int.reduceLT, Int.reduceLE, Int.reduceGT, Int.reduceGE, decide_true, decide_false, Bool.not_eq_true, loopN_norm, loopN_exit, tf, ft, ff, ev_dreg, dregK_nil, dregK_cons, dregE_true, dregP_some, dregX_some, d_mov, d_bin, d_eq, d_pick, d_un, d_conv, d_b2s, d_len, d_load, d_iaddr, d_slice, d_ext, d_call, d_store, chk_done, chk_none, chk_some, chkG_true, chkG_false, chkOne_nil, chkOne_cons, chkH_some, chkV_same, stage_none, stage_some, look_hit, look_miss, news_nil, wb_cons, wb_nil, skip0, List.reverse_cons, List.reverse_nil, d_bsl, d_app, dregW_some, b1, b2, b3, v2, Nat.zero_mul, Nat.add_zero, Nat.sub_zero, Nat.mul_one, a1, a2]
    exact ⟨_, _, rfl, a3, a4, a5⟩

theorem erase_place {x : Int} {k : Nat} (hk : k < o.length) (e : o[k] = x) (hno : x ∉ o.take k) : o.erase x = o.take k ++ o.drop (k + 1) := by
  have h1 : o = o.take k ++ x :: o.drop (k + 1) := by rw [← e, ← List.drop_eq_getElem_cons hk, List.take_append_drop]
  rw [show o.erase x = (o.take k ++ x :: o.drop (k + 1)).erase x from congrArg (·.erase x) h1, List.erase_append_right _ hno, List.erase_cons_head]

theorem rout_ok (r : RL h q bad n o) (hbn : ∀ k ∈ bad, k < h.next) {x : Int} (hx : x ∈ o) (hN : o.length + 2 ≤ N) (hl : o.length < 900000) :
    ∃ h', evCallT table 23 N (d + 2) 29 [.c (.ptr q 0), .c (.int .i64 x)] h = some (.c (.bool true), h') ∧ RL h' q bad n (o.erase x) ∧ ExtB [q] h h' := by
  obtain ⟨y, h1, h2, h3, h4, h5⟩ := r
  have r1 : h.read q 1 1 = some [y] := read_cells h1 rfl
  have e1 := place_ok (N := N) (d := d) h2 x hN (by omega)
  obtain ⟨k, hp, hk, hke, hno⟩ := placeOf_mem hx
  rw [hp] at e1
  rw [erase_place hk hke hno]
  have v1 : decide ((k : Int) < 0) = false := decide_eq_false (by omega)
  obtain ⟨i, o', c, rfl, _, _⟩ := h2.sl (by omega)
  obtain ⟨z, h', a1, a2, a3, a4⟩ := without_ok (N := N) (d := d) h2 (h5 i o' _ c rfl) hk hl
  have gq : h'.get q = some (.cells [.int .i64 n, .sl i o' o.length c]) := by rw [a4 q h3]; exact h1
  have W := write_one (o := 1) (v := z) gq (by simp)
  have xx : ExtB [q] h (h'.put q (.cells ([.int .i64 n, .sl i o' o.length c].set 1 z))) := ExtB.put ⟨a3, fun k hk _ => a4 k hk⟩ (.inr (by simp)) _
  rw [evCallT_eq (F := ir29) rfl rfl rfl]
  unfold ir29
  rw [bodyK_eq]
  simp only [enter_eq, ev_seq, seqK_norm, seqK_exit, seqK_ret, ev_reg, ev_cond, condK_true, condK_false, ev_block, blockK_norm, blockK_ret, blockK_exit, ev_loop, ev_skip, ev_exit, ev_ret, regK_cons, regK_nil, guard_none, guard_some, regG_true, regG_false, regO_some, op_mov, op_conv, op_bin, op_bsl, op_box, op_mks, op_s2b, op_pick, op_un, op_eq, op_len, op_ext, op_load, op_iaddr, op_slice, op_b2s, op_idxS, op_mx, op_mn, op_call, op_store, op_app, op_copy, args_eq, result_one', rv_loc, finish_norm, finish_ret, outK_some, keep_true, keep_false, keep_nil, p_bin, p_pick, p_un, p_eq, p_conv, evNew, pureK_some, newK_some, X.eval, set_none, set_some, List.map_cons, List.map_nil, List.getD_cons_zero, List.getD_cons_succ, List.getD_nil, List.set_cons_zero, List.set_cons_succ, binCV, unCV, isShift, intArithF_eq, shiftF_eq, wrapF_eq, intArith, shift, eqVal, bound, asNat_cast, cond_true, cond_false, BEq.rfl, beq_self_eq_true, evalParts, fillParts, AV.cells, AV.ofCells, XV.av, AV.xv, List.length_cons, List.length_nil, zeros, patch, setMany, List.nil_append, List.cons_append, Nat.ble, Nat.add_eq, Nat.zero_add, Nat.add_zero, Nat.reduceAdd, Nat.reduceMul, Nat.reduceSub, Nat.ble_eq, Nat.reduceLeDiff, Nat.reduceBEq, Int.reduceBEq, Int.reduceNeg, Bool.and_true, Bool.and_false, Bool.true_and, Bool.false_and, Bool.not_true, Bool.not_false, Bool.true_eq_false, Bool.false_eq_true, Int.reduceLT, Int.reduceLE, Int.reduceGT, Int.reduceGE, decide_true, decide_false, Bool.not_eq_true, loopN_norm, loopN_exit, tf, ft, ff, op_nilchk, p_nilchk, op_faddr, p_faddr, p_load, r1, AV.ofCells, e1, v1, a1, evEff, W]
  refine ⟨_, rfl, ⟨z, get_put_at, ?_, Nat.lt_of_lt_of_le h3 xx.1, fun k hk hm => ?_, a2.shape⟩, xx⟩
  · refine a2.ints.keepB ((ExtB.refl _ _).put (.inr (List.mem_singleton.2 rfl)) _) fun k hk => ?_
    have := a2.young k hk
    simp; omega
  · have := a2.young k hk
    have := hbn k hm; omega
end
end Lav
