/-
  Layer 4: what a list's functions do with its order.
-/
import Derived.Test.YtdilhnnbfkiacaaAList2
set_option maxRecDepth 100000
set_option linter.unusedSimpArgs false
namespace Lav
open Go (IntKind)

/-- A list of n, in its order. -/
def LL (h : Heap) (p b n : Nat) (o : List Int) : Prop := ∃ st, LS h p b st (o.length : Int) ∧ Ord st n o

section
variable {N d n : Nat} {h : Heap} {p b : Nat} {o : List Int}

theorem LL.ext {h' : Heap} (t : LL h p b n o) {S : List Nat} (e : ExtB S h h') (hp : p ∉ S) (hb : b ∉ S) : LL h' p b n o := by
  obtain ⟨st, t, r⟩ := t
  exact ⟨st, t.ext e hp hb, r⟩
theorem LL.pn (t : LL h p b n o) : p < h.next := by obtain ⟨st, t, _⟩ := t; exact t.pn
theorem LL.bn (t : LL h p b n o) : b < h.next := by obtain ⟨st, t, _⟩ := t; exact t.bn
theorem LL.nd (t : LL h p b n o) : o.Nodup := by obtain ⟨st, _, r⟩ := t; exact r.nd
theorem LL.lt (t : LL h p b n o) : ∀ x ∈ o, 0 ≤ x ∧ x < (n : Int) := by obtain ⟨st, _, r⟩ := t; exact r.lt

theorem has_ok (t : LL h p b n o) (x : Int) : evCallT table 18 N (d + 1) 49 [.c (.ptr p 0), .c (.int .i64 x)] h = some (.c (.bool (decide (x ∈ o))), h) := by
  obtain ⟨st, t, r⟩ := t
  rw [has_raw t, r.has]
theorem first_ok (t : LL h p b n o) : evCallT table 18 N (d + 1) 37 [.c (.ptr p 0)] h = some (.c (.int .i64 (o.headD (-1))), h) := by
  obtain ⟨st, t, r⟩ := t
  rw [first_raw t, r.first]
theorem len_ok' (t : LL h p b n o) : evCallT table 18 N (d + 1) 36 [.c (.ptr p 0)] h = some (.c (.int .i64 (o.length : Int)), h) := by
  obtain ⟨st, t, r⟩ := t
  exact len_raw t
theorem back_no (t : LL h p b n o) {x : Int} (hx : ¬ (0 ≤ x ∧ x < (n : Int) ∧ x ∉ o)) : evCallT table 18 N (d + 2) 42 [.c (.ptr p 0), .c (.int .i64 x)] h = some (.c (.bool false), h) := by
  obtain ⟨st, t, r⟩ := t
  have e1 := may_raw (N := N) (d := d) t x
  rw [r.may, decide_eq_false hx] at e1
  rw [evCallT_eq (F := ir42) rfl rfl rfl]
  unfold ir42
  rw [bodyK_eq]
  simp only [enter_eq, ev_seq, seqK_norm, seqK_exit, seqK_ret, ev_reg, ev_cond, condK_true, condK_false, ev_block, blockK_norm, blockK_ret, blockK_exit, ev_loop, ev_skip, ev_exit, ev_ret, regK_cons, regK_nil, guard_none, guard_some, regG_true, regG_false, regO_some, op_mov, op_conv, op_bin, op_bsl, op_box, op_mks, op_s2b, op_pick, op_un, op_eq, op_len, op_ext, op_load, op_iaddr, op_slice, op_b2s, op_idxS, op_mx, op_mn, op_call, op_store, op_app, op_copy, args_eq, result_one', rv_loc, finish_norm, finish_ret, outK_some, keep_true, keep_false, keep_nil, p_bin, p_pick, p_un, p_eq, p_conv, evNew, pureK_some, newK_some, X.eval, set_none, set_some, List.map_cons, List.map_nil, List.getD_cons_zero, List.getD_cons_succ, List.getD_nil, List.set_cons_zero, List.set_cons_succ, binCV, unCV, isShift, intArithF_eq, shiftF_eq, wrapF_eq, intArith, shift, eqVal, bound, asNat_cast, cond_true, cond_false, BEq.rfl, beq_self_eq_true, evalParts, fillParts, AV.cells, AV.ofCells, XV.av, AV.xv, List.length_cons, List.length_nil, zeros, patch, setMany, List.nil_append, List.cons_append, Nat.ble, Nat.add_eq, Nat.zero_add, Nat.add_zero, Nat.reduceAdd, Nat.reduceMul, Nat.reduceSub, Nat.ble_eq, Nat.reduceLeDiff, Nat.reduceBEq, Int.reduceBEq, Int.reduceNeg, Bool.and_true, Bool.and_false, Bool.true_and, Bool.false_and, Bool.not_true, Bool.not_false, Bool.true_eq_false, Bool.false_eq_true, Int.reduceLT, Int.reduceLE, Int.reduceGT, Int.reduceGE, decide_true, decide_false, Bool.not_eq_true, loopN_norm, loopN_exit, tf, ft, ff, e1]
theorem out_no (t : LL h p b n o) {x : Int} (hx : x ∉ o) : evCallT table 18 N (d + 2) 38 [.c (.ptr p 0), .c (.int .i64 x)] h = some (.c (.bool false), h) := by
  obtain ⟨st, t, r⟩ := t
  have e1 := has_raw (N := N) (d := d) t x
  rw [r.has, decide_eq_false hx] at e1
  rw [evCallT_eq (F := ir38) rfl rfl rfl]
  unfold ir38
  rw [bodyK_eq]
  simp only [enter_eq, ev_seq, seqK_norm, seqK_exit, seqK_ret, ev_reg, ev_cond, condK_true, condK_false, ev_block, blockK_norm, blockK_ret, blockK_exit, ev_loop, ev_skip, ev_exit, ev_ret, regK_cons, regK_nil, guard_none, guard_some, regG_true, regG_false, regO_some, op_mov, op_conv, op_bin, op_bsl, op_box, op_mks, op_s2b, op_pick, op_un, op_eq, op_len, op_ext, op_load, op_iaddr, op_slice, op_b2s, op_idxS, op_mx, op_mn, op_call, op_store, op_app, op_copy, args_eq, result_one', rv_loc, finish_norm, finish_ret, outK_some, keep_true, keep_false, keep_nil, p_bin, p_pick, p_un, p_eq, p_conv, evNew, pureK_some, newK_some, X.eval, set_none, set_some, List.map_cons, List.map_nil, List.getD_cons_zero, List.getD_cons_succ, List.getD_nil, List.set_cons_zero, List.set_cons_succ, binCV, unCV, isShift, intArithF_eq, shiftF_eq, wrapF_eq, intArith, shift, eqVal, bound, asNat_cast, cond_true, cond_false, BEq.rfl, beq_self_eq_true, evalParts, fillParts, AV.cells, AV.ofCells, XV.av, AV.xv, List.length_cons, List.length_nil, zeros, patch, setMany, List.nil_append, List.cons_append, Nat.ble, Nat.add_eq, Nat.zero_add, Nat.add_zero, Nat.reduceAdd, Nat.reduceMul, Nat.reduceSub, Nat.ble_eq, Nat.reduceLeDiff, Nat.reduceBEq, Int.reduceBEq, Int.reduceNeg, Bool.and_true, Bool.and_false, Bool.true_and, Bool.false_and, Bool.not_true, Bool.not_false, Bool.true_eq_false, Bool.false_eq_true, Int.reduceLT, Int.reduceLE, Int.reduceGT, Int.reduceGE, decide_true, decide_false, Bool.not_eq_true, loopN_norm, loopN_exit, tf, ft, ff, e1]

theorem Ord.head {st : St} (r : Ord st n o) : (o ++ [-1]).head (by simp) = st.f := by
  rw [r.first]; cases o <;> rfl
theorem Ord.getLast {st : St} (r : Ord st n o) : (-1 :: o).getLast (by simp) = st.l := by
  rw [r.last]
  cases o with
  | nil => rfl
  | cons a l => rw [List.getLast_cons (by simp)]; simp [List.getLastD, List.getLast?_eq_some_getLast]

theorem back_ok (t : LL h p b n o) {x : Int} (h0 : 0 ≤ x) (h1 : x < (n : Int)) (hx : x ∉ o) (hl : o.length < 1000000) :
    ∃ h', evCallT table 18 N (d + 2) 42 [.c (.ptr p 0), .c (.int .i64 x)] h = some (.c (.bool true), h') ∧ LL h' p b n (o ++ [x]) ∧ ExtB [p, b] h h' := by
  obtain ⟨st, t, r⟩ := t
  have e1 := may_raw (N := N) (d := d) t x
  rw [r.may, decide_eq_true ⟨h0, h1, hx⟩] at e1
  obtain ⟨i, rfl⟩ : ∃ i : Nat, x = (i : Int) := ⟨x.toNat, by omega⟩
  have hi : i < st.es.length := by have := r.len; omega
  obtain ⟨h2, w2, t2, x2, _⟩ := t.win hi true
  obtain ⟨h3, w3, t3, x3, _⟩ := t2.wc ((o.length + 1 : Nat) : Int)
  obtain ⟨st1, hst1⟩ : ∃ s, s = (⟨st.es.set i (true, st.es[i].2), st.f, st.l⟩ : St) := ⟨_, rfl⟩
  rw [← hst1] at t2 t3
  have l1 : st1.es.length = st.es.length := by rw [hst1]; simp
  have f1 : st1.f = st.f := by rw [hst1]
  have ll1 : st1.l = st.l := by rw [hst1]
  have en1 : ∀ y, 0 ≤ y → ent st1 y = if y = (i : Int) then (true, (ent st y).2) else ent st y := fun y hy => by rw [hst1]; exact ent_setIn hi true y hy
  have nx1 : ∀ y, Valid n y → nx st1 y = nx st y := fun y hy => by
    unfold nx
    by_cases e : y = -1
    · rw [if_pos e, if_pos e, f1]
    · rw [if_neg e, if_neg e, en1 y (hy.pos e)]; split <;> rfl
  have pv1 : ∀ y, Valid n y → pv st1 y = pv st y := fun y hy => by
    unfold pv
    by_cases e : y = -1
    · rw [if_pos e, if_pos e, ll1]
    · rw [if_neg e, if_neg e, en1 y (hy.pos e)]; split <;> rfl
  have hnn := r.len
  have vi : Valid st1.es.length (i : Int) := .inr ⟨i, rfl, by omega⟩
  have vl : Valid st1.es.length st.l := by
    rw [l1, ← r.getLast]
    have hm : (-1 :: o).getLast (by simp) ∈ -1 :: o := List.getLast_mem _
    exact r.valid' (by rw [← List.cons_append]; exact List.mem_append_left _ hm)
  obtain ⟨h4, e4, t4, x4⟩ := tie_ok (N := N) (d := d) t3 vl vi
  have vi2 : Valid (tie st1 st.l (i : Int)).es.length (i : Int) := by rw [tie_len]; exact vi
  obtain ⟨h5, e5, t5, x5⟩ := tie_ok (N := N) (d := d) t4 (y := -1) vi2 (.inl rfl)
  have r0 := t.r0
  have r3 := t2.r3
  have r1 := t3.r2
  rw [ll1] at r1
  have m1 : Nat.blt i st.es.length = true := bltT hi
  have v2 := succI (i := o.length) hl
  have vm : ∀ m : Nat, Valid m (-1) := fun m => .inl rfl
  have O : Ord (tie (tie st1 st.l (i : Int)) (i : Int) (-1)) n (o ++ (i : Int) :: []) := by
    refine Ord.put (o1 := o) (o2 := []) (a := st.l) (c := -1) (by simpa using r) hi (by simpa using hx) r.getLast rfl _ (by rw [tie_len, tie_len, l1, hnn]) (fun y hy => ?_) (fun y hy => ?_) (fun y hy => ?_)
    · rw [in_tie vi2 (vm _) hy, in_tie vl vi hy, en1 y hy]; split <;> rfl
    · have hy' : Valid st1.es.length y := by rw [l1, hnn]; exact hy
      rw [nx_tie vi2 (vm _) (by rw [tie_len]; exact hy'), nx_tie vl vi hy', nx1 y hy]
    · have hy' : Valid st1.es.length y := by rw [l1, hnn]; exact hy
      rw [pv_tie vi2 (vm _) (by rw [tie_len]; exact hy'), pv_tie vl vi hy', pv1 y hy]
      by_cases e : y = -1
      · rw [if_pos e, if_neg (by omega), if_pos e]
      · rw [if_neg e]
        split <;> rfl
  rw [evCallT_eq (F := ir42) rfl rfl rfl]
  unfold ir42
  rw [bodyK_eq]
  simp only [enter_eq, ev_seq, seqK_norm, seqK_exit, seqK_ret, ev_reg, ev_cond, condK_true, condK_false, ev_block, blockK_norm, blockK_ret, blockK_exit, ev_loop, ev_skip, ev_exit, ev_ret, regK_cons, regK_nil, guard_none, guard_some, regG_true, regG_false, regO_some, op_mov, op_conv, op_bin, op_bsl, op_box, op_mks, op_s2b, op_pick, op_un, op_eq, op_len, op_ext, op_load, op_iaddr, op_slice, op_b2s, op_idxS, op_mx, op_mn, op_call, op_store, op_app, op_copy, args_eq, result_one', rv_loc, finish_norm, finish_ret, outK_some, keep_true, keep_false, keep_nil, p_bin, p_pick, p_un, p_eq, p_conv, evNew, pureK_some, newK_some, X.eval, set_none, set_some, List.map_cons, List.map_nil, List.getD_cons_zero, List.getD_cons_succ, List.getD_nil, List.set_cons_zero, List.set_cons_succ, binCV, unCV, isShift, intArithF_eq, shiftF_eq, wrapF_eq, intArith, shift, eqVal, bound, asNat_cast, cond_true, cond_false, BEq.rfl, beq_self_eq_true, evalParts, fillParts, AV.cells, AV.ofCells, XV.av, AV.xv, List.length_cons, List.length_nil, zeros, patch, setMany, List.nil_append, List.cons_append, Nat.ble, Nat.add_eq, Nat.zero_add, Nat.add_zero, Nat.reduceAdd, Nat.reduceMul, Nat.reduceSub, Nat.ble_eq, Nat.reduceLeDiff, Nat.reduceBEq, Int.reduceBEq, Int.reduceNeg, Bool.and_true, Bool.and_false, Bool.true_and, Bool.false_and, Bool.not_true, Bool.not_false, Bool.true_eq_false, Bool.false_eq_true, Int.reduceLT, Int.reduceLE, Int.reduceGT, Int.reduceGE, decide_true, decide_false, Bool.not_eq_true, loopN_norm, loopN_exit, tf, ft, ff, e1, op_nilchk, p_nilchk, op_faddr, p_faddr, p_iaddr, p_load, r0, r3, r1, m1, v2, AV.ofCells, evEff, w2, w3, e4, e5]
  exact ⟨_, rfl, ⟨_, by rw [List.length_append]; exact t5, O⟩, ((x2.trans x3).trans x4).trans x5⟩

theorem out_ok (t : LL h p b n o) {x : Int} (hx : x ∈ o) (hl : o.length < 1000000) :
    ∃ h', evCallT table 18 N (d + 2) 38 [.c (.ptr p 0), .c (.int .i64 x)] h = some (.c (.bool true), h') ∧ LL h' p b n (o.erase x) ∧ ExtB [p, b] h h' := by
  obtain ⟨st, t, r⟩ := t
  have e1 := has_raw (N := N) (d := d) t x
  rw [r.has, decide_eq_true hx] at e1
  have hb := r.lt x hx
  obtain ⟨i, rfl⟩ : ∃ i : Nat, x = (i : Int) := ⟨x.toNat, by omega⟩
  have hi : i < st.es.length := by have := r.len; omega
  have hnn := r.len
  obtain ⟨o1, o2, rfl⟩ := List.append_of_mem hx
  have nd := List.nodup_append.1 r.nd
  have hi1 : (i : Int) ∉ o1 := fun h => nd.2.2 _ h _ (by simp) rfl
  have her : (o1 ++ (i : Int) :: o2).erase (i : Int) = o1 ++ o2 := by rw [List.erase_append_right _ hi1, List.erase_cons_head]
  rw [her]
  have hen := ent_eq hi
  have hpe : pv st (i : Int) = st.es[i].2.1 := by unfold pv; rw [if_neg (by omega), hen]
  have hne : nx st (i : Int) = st.es[i].2.2 := by unfold nx; rw [if_neg (by omega), hen]
  -- its neighbours
  have hadj := r.adj
  obtain ⟨a, A, hA⟩ : ∃ a A, -1 :: o1 = A ++ [a] := ⟨(-1 :: o1).getLast (by simp), (-1 :: o1).dropLast, by rw [List.dropLast_concat_getLast]⟩
  obtain ⟨c, C, hC⟩ : ∃ c C, o2 ++ [-1] = c :: C := ⟨(o2 ++ [-1]).head (by simp), (o2 ++ [-1]).tail, by rw [List.cons_head_tail]⟩
  have hf : -1 :: ((o1 ++ (i : Int) :: o2) ++ [-1]) = A ++ a :: (i : Int) :: c :: C := by
    rw [List.append_assoc, ← List.cons_append, hA, List.cons_append, hC, List.append_assoc]; rfl
  rw [hf, Adj.split] at hadj
  obtain ⟨_, _, h3, h4, _⟩ := hadj
  have va : Valid st.es.length (pv st (i : Int)) := by rw [h3]; exact r.valid' (by rw [hf]; simp)
  have vc : Valid st.es.length (nx st (i : Int)) := by rw [h4]; exact r.valid' (by rw [hf]; simp)
  rw [hpe] at va
  rw [hne] at vc
  obtain ⟨h1, W, gb, x1, n1⟩ := box_store (h := h) (z := [.bool false, .int .i64 0, .int .i64 0]) (v := [.bool st.es[i].1, .int .i64 st.es[i].2.1, .int .i64 st.es[i].2.2]) rfl
  have t1 : LS h1 p b st _ := t.ext (x1.b []) (by simp) (by simp)
  obtain ⟨h2, w2, t2, x2, n2⟩ := t1.wno hi
  obtain ⟨h3', w3, t3, x3, n3⟩ := t2.wc (((o1 ++ o2).length : Nat) : Int)
  obtain ⟨st1, hst1⟩ : ∃ s, s = (⟨st.es.set i (false, 0, 0), st.f, st.l⟩ : St) := ⟨_, rfl⟩
  rw [← hst1] at t2 t3
  have l1 : st1.es.length = st.es.length := by rw [hst1]; simp
  have en1 : ∀ y, 0 ≤ y → ent st1 y = if y = (i : Int) then (false, 0, 0) else ent st y := fun y hy => by rw [hst1]; exact ent_setNo hi y hy
  rw [← l1] at va vc
  obtain ⟨h4', e4, t4, x4⟩ := tie_ok (N := N) (d := d) t3 va vc
  have O : Ord (tie st1 st.es[i].2.1 st.es[i].2.2) n (o1 ++ o2) := by
    refine Ord.cut (i := i) r _ (by rw [tie_len, l1, hnn]) (fun y hy => ?_) (fun y hy hyi => ?_) (fun y hy hyi => ?_)
    · rw [in_tie va vc hy, en1 y hy]; split <;> rfl
    · have hy' : Valid st1.es.length y := by rw [l1, hnn]; exact hy
      rw [nx_tie va vc hy', hpe, hne]
      have : nx st1 y = nx st y := by
        unfold nx
        by_cases e : y = -1
        · rw [if_pos e, if_pos e, hst1]
        · rw [if_neg e, if_neg e, en1 y (hy.pos e), if_neg hyi]
      rw [this]
    · have hy' : Valid st1.es.length y := by rw [l1, hnn]; exact hy
      rw [pv_tie va vc hy', hpe, hne]
      have : pv st1 y = pv st y := by
        unfold pv
        by_cases e : y = -1
        · rw [if_pos e, if_pos e, hst1]
        · rw [if_neg e, if_neg e, en1 y (hy.pos e), if_neg hyi]
      rw [this]
  have r0 := t.r0
  have r0' := t1.r0
  have r3 := t2.r3
  have ra := t.rall hi
  have m1 : Nat.blt i st.es.length = true := bltT hi
  have hb3 : h3'.get h.next = some (.cells [.bool st.es[i].1, .int .i64 st.es[i].2.1, .int .i64 st.es[i].2.2]) := by
    have pb := t.pn
    have bb := t.bn
    exact (x2.trans x3).at_ gb (by omega) (by simp; omega)
  have k1 : h3'.read h.next 1 1 = some [.int .i64 st.es[i].2.1] := read_cells hb3 rfl
  have k2 : h3'.read h.next 2 1 = some [.int .i64 st.es[i].2.2] := read_cells hb3 rfl
  have hlen : (o1 ++ (i : Int) :: o2).length = (o1 ++ o2).length + 1 := by simp; omega
  rw [hlen] at r3
  have v2 : IntKind.i64.wrap ((((o1 ++ o2).length + 1 : Nat) : Int) - 1) = (((o1 ++ o2).length : Nat) : Int) := by rw [wrapI (by omega) (by omega)]; omega
  rw [evCallT_eq (F := ir38) rfl rfl rfl]
  unfold ir38
  rw [bodyK_eq]
  simp only [enter_eq, ev_seq, seqK_norm, seqK_exit, seqK_ret, ev_reg, ev_cond, condK_true, condK_false, ev_block, blockK_norm, blockK_ret, blockK_exit, ev_loop, ev_skip, ev_exit, ev_ret, regK_cons, regK_nil, guard_none, guard_some, regG_true, regG_false, regO_some, op_mov, op_conv, op_bin, op_bsl, op_box, op_mks, op_s2b, op_pick, op_un, op_eq, op_len, op_ext, op_load, op_iaddr, op_slice, op_b2s, op_idxS, op_mx, op_mn, op_call, op_store, op_app, op_copy, args_eq, result_one', rv_loc, finish_norm, finish_ret, outK_some, keep_true, keep_false, keep_nil, p_bin, p_pick, p_un, p_eq, p_conv, evNew, pureK_some, newK_some, X.eval, set_none, set_some, List.map_cons, List.map_nil, List.getD_cons_zero, List.getD_cons_succ, List.getD_nil, List.set_cons_zero, List.set_cons_succ, binCV, unCV, isShift, intArithF_eq, shiftF_eq, wrapF_eq, intArith, shift, eqVal, bound, asNat_cast, cond_true, cond_false, BEq.rfl, beq_self_eq_true, evalParts, fillParts, AV.cells, AV.ofCells, XV.av, AV.xv, List.length_cons, List.length_nil, zeros, patch, setMany, List.nil_append, List.cons_append, Nat.ble, Nat.add_eq, Nat.zero_add, Nat.add_zero, Nat.reduceAdd, Nat.reduceMul, Nat.reduceSub, Nat.ble_eq, Nat.reduceLeDiff, Nat.reduceBEq, Int.reduceBEq, Int.reduceNeg, Bool.and_true, Bool.and_false, Bool.true_and, Bool.false_and, Bool.not_true, Bool.not_false, Bool.true_eq_false, Bool.false_eq_true, Int.reduceLT, Int.reduceLE, Int.reduceGT, Int.reduceGE, decide_true, decide_false, Bool.not_eq_true, loopN_norm, loopN_exit, tf, ft, ff, e1, op_nilchk, p_nilchk, op_faddr, p_faddr, p_iaddr, p_load, op_build, p_build', r0, r0', r3, ra, k1, k2, m1, v2, AV.ofCells, evEff, W, w2, w3, e4]
  exact ⟨_, rfl, ⟨_, t4, O⟩, (((x1.b _).trans x2).trans x3).trans x4⟩

theorem zeros3 : ∀ n : Nat, zeros n [.bool false, .int .i64 0, .int .i64 0] = entC (List.replicate n (false, 0, 0))
  | 0 => rfl
  | n + 1 => by
    show _ :: _ :: _ :: zeros n _ = _
    rw [zeros3 n]; rfl

theorem new_ok' (n : Nat) (h : Heap) (h2 : n ≤ 1024) :
    ∃ p b h', evCallT table 18 N (d + 1) 33 [.c (.int .i64 (n : Int))] h = some (.c (.ptr p 0), h') ∧ LL h' p b n [] ∧ Ext h h' ∧ h.next ≤ p ∧ h.next ≤ b := by
  have c1 : decide ((n : Int) < 0) = false := decide_eq_false (by omega)
  have c2 : decide ((n : Int) > 1024) = false := decide_eq_false (by omega)
  have m1 : Nat.ble n n = true := Nat.ble_eq_true_of_le (Nat.le_refl _)
  have m2 : Nat.ble n 1073741824 = true := Nat.ble_eq_true_of_le (by omega)
  rw [evCallT_eq (F := ir33) rfl rfl rfl]
  unfold ir33
  rw [bodyK_eq]
  simp only [enter_eq, ev_seq, seqK_norm, seqK_exit, seqK_ret, ev_reg, ev_cond, condK_true, condK_false, ev_block, blockK_norm, blockK_ret, blockK_exit, ev_loop, ev_skip, ev_exit, ev_ret, regK_cons, regK_nil, guard_none, guard_some, regG_true, regG_false, regO_some, op_mov, op_conv, op_bin, op_bsl, op_box, op_mks, op_s2b, op_pick, op_un, op_eq, op_len, op_ext, op_load, op_iaddr, op_slice, op_b2s, op_idxS, op_mx, op_mn, op_call, op_store, op_app, op_copy, args_eq, result_one', rv_loc, finish_norm, finish_ret, outK_some, keep_true, keep_false, keep_nil, p_bin, p_pick, p_un, p_eq, p_conv, evNew, pureK_some, newK_some, X.eval, set_none, set_some, List.map_cons, List.map_nil, List.getD_cons_zero, List.getD_cons_succ, List.getD_nil, List.set_cons_zero, List.set_cons_succ, binCV, unCV, isShift, intArithF_eq, shiftF_eq, wrapF_eq, intArith, shift, eqVal, bound, asNat_cast, cond_true, cond_false, BEq.rfl, beq_self_eq_true, evalParts, fillParts, AV.cells, AV.ofCells, XV.av, AV.xv, List.length_cons, List.length_nil, zeros, patch, setMany, List.nil_append, List.cons_append, Nat.ble, Nat.add_eq, Nat.zero_add, Nat.add_zero, Nat.reduceAdd, Nat.reduceMul, Nat.reduceSub, Nat.ble_eq, Nat.reduceLeDiff, Nat.reduceBEq, Int.reduceBEq, Int.reduceNeg, Bool.and_true, Bool.and_false, Bool.true_and, Bool.false_and, Bool.not_true, Bool.not_false, Bool.true_eq_false, Bool.false_eq_true, Int.reduceLT, Int.reduceLE, Int.reduceGT, Int.reduceGE, decide_true, decide_false, Bool.not_eq_true, loopN_norm, loopN_exit, tf, ft, ff, c1, c2, m1, m2, op_build, p_build']
  refine ⟨h.next + 1, h.next, _, rfl, ⟨⟨List.replicate n (false, 0, 0), -1, -1⟩, ⟨by rw [List.length_replicate]; exact get_new_at, by rw [get_new_old (Nat.lt_succ_self _), get_new_at, zeros3], by omega, Nat.lt_succ_self _, Nat.lt_succ_of_lt (Nat.lt_succ_self _)⟩, ?_⟩, ((Ext.refl _).new _).new _, Nat.le_succ _, Nat.le_refl _⟩
  refine ⟨List.length_replicate, by simp, by simp, fun x h0 h1 => ?_, ?_⟩
  · simp only [ent, List.getD_eq_getElem?_getD]
    rw [List.getElem?_replicate_of_lt (by omega)]
    simp
  · exact ⟨rfl, rfl, trivial⟩
theorem new_no' (size : Int) (hs : size < 0 ∨ size > 1024) : evCallT table 18 N (d + 1) 33 [.c (.int .i64 size)] h = some (.c .nilp, h) := by
  rw [evCallT_eq (F := ir33) rfl rfl rfl]
  unfold ir33
  rw [bodyK_eq]
  by_cases c1 : size < 0
  · simp only [enter_eq, ev_seq, seqK_norm, seqK_exit, seqK_ret, ev_reg, ev_cond, condK_true, condK_false, ev_block, blockK_norm, blockK_ret, blockK_exit, ev_loop, ev_skip, ev_exit, ev_ret, regK_cons, regK_nil, guard_none, guard_some, regG_true, regG_false, regO_some, op_mov, op_conv, op_bin, op_bsl, op_box, op_mks, op_s2b, op_pick, op_un, op_eq, op_len, op_ext, op_load, op_iaddr, op_slice, op_b2s, op_idxS, op_mx, op_mn, op_call, op_store, op_app, op_copy, args_eq, result_one', rv_loc, finish_norm, finish_ret, outK_some, keep_true, keep_false, keep_nil, p_bin, p_pick, p_un, p_eq, p_conv, evNew, pureK_some, newK_some, X.eval, set_none, set_some, List.map_cons, List.map_nil, List.getD_cons_zero, List.getD_cons_succ, List.getD_nil, List.set_cons_zero, List.set_cons_succ, binCV, unCV, isShift, intArithF_eq, shiftF_eq, wrapF_eq, intArith, shift, eqVal, bound, asNat_cast, cond_true, cond_false, BEq.rfl, beq_self_eq_true, evalParts, fillParts, AV.cells, AV.ofCells, XV.av, AV.xv, List.length_cons, List.length_nil, zeros, patch, setMany, List.nil_append, List.cons_append, Nat.ble, Nat.add_eq, Nat.zero_add, Nat.add_zero, Nat.reduceAdd, Nat.reduceMul, Nat.reduceSub, Nat.ble_eq, Nat.reduceLeDiff, Nat.reduceBEq, Int.reduceBEq, Int.reduceNeg, Bool.and_true, Bool.and_false, Bool.true_and, Bool.false_and, Bool.not_true, Bool.not_false, Bool.true_eq_false, Bool.false_eq_true, Int.reduceLT, Int.reduceLE, Int.reduceGT, Int.reduceGE, decide_true, decide_false, Bool.not_eq_true, loopN_norm, loopN_exit, tf, ft, ff, decide_eq_true c1]
  · simp only [enter_eq, ev_seq, seqK_norm, seqK_exit, seqK_ret, ev_reg, ev_cond, condK_true, condK_false, ev_block, blockK_norm, blockK_ret, blockK_exit, ev_loop, ev_skip, ev_exit, ev_ret, regK_cons, regK_nil, guard_none, guard_some, regG_true, regG_false, regO_some, op_mov, op_conv, op_bin, op_bsl, op_box, op_mks, op_s2b, op_pick, op_un, op_eq, op_len, op_ext, op_load, op_iaddr, op_slice, op_b2s, op_idxS, op_mx, op_mn, op_call, op_store, op_app, op_copy, args_eq, result_one', rv_loc, finish_norm, finish_ret, outK_some, keep_true, keep_false, keep_nil, p_bin, p_pick, p_un, p_eq, p_conv, evNew, pureK_some, newK_some, X.eval, set_none, set_some, List.map_cons, List.map_nil, List.getD_cons_zero, List.getD_cons_succ, List.getD_nil, List.set_cons_zero, List.set_cons_succ, binCV, unCV, isShift, intArithF_eq, shiftF_eq, wrapF_eq, intArith, shift, eqVal, bound, asNat_cast, cond_true, cond_false, BEq.rfl, beq_self_eq_true, evalParts, fillParts, AV.cells, AV.ofCells, XV.av, AV.xv, List.length_cons, List.length_nil, zeros, patch, setMany, List.nil_append, List.cons_append, Nat.ble, Nat.add_eq, Nat.zero_add, Nat.add_zero, Nat.reduceAdd, Nat.reduceMul, Nat.reduceSub, Nat.ble_eq, Nat.reduceLeDiff, Nat.reduceBEq, Int.reduceBEq, Int.reduceNeg, Bool.and_true, Bool.and_false, Bool.true_and, Bool.false_and, Bool.not_true, Bool.not_false, Bool.true_eq_false, Bool.false_eq_true, Int.reduceLT, Int.reduceLE, Int.reduceGT, Int.reduceGE, decide_true, decide_false, Bool.not_eq_true, loopN_norm, loopN_exit, tf, ft, ff, decide_eq_false c1, decide_eq_true (show size > 1024 by omega)]

theorem nextOf_at : ∀ {o : List Int}, o.Nodup → ∀ (i : Nat) (hi : i < o.length), nextOf o o[i] = (o.drop (i + 1)).headD (-1)
  | a :: l, _, 0, _ => by simp [nextOf]
  | a :: l, nd, i + 1, hi => by
    rw [List.nodup_cons] at nd
    have hi' : i < l.length := by simpa using hi
    have hne : a ≠ l[i] := fun e => nd.1 (by rw [e]; exact List.getElem_mem _)
    rw [List.getElem_cons_succ, nextOf, if_neg hne, List.drop_succ_cons]
    exact nextOf_at nd.2 i hi'

end
end Lav
