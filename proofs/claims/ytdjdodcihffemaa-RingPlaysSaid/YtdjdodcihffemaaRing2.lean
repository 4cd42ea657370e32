/-
  Layer 8: the document's own ring.
-/
import Derived.Test.YtdjdodcihffemaaRing1
set_option maxRecDepth 100000
set_option linter.unusedSimpArgs false
namespace Lav
open Go (IntKind)

/-- The document's ring: its cell; what waits lies in none of some blocks. -/
def RR (h : Heap) (q : Nat) (bad : List Nat) (xs : List Int) : Prop :=
  ∃ x, h.get q = some (.cells [x]) ∧ Ints h x xs ∧ q < h.next ∧ ∀ k, blk x = some k → k ∉ bad

theorem Ints.extB {S : List Nat} {h h' : Heap} {x : CV} {xs : List Int} (hx : Ints h x xs) (e : ExtB S h h') (hs : ∀ k, blk x = some k → k ∉ S) : Ints h' x xs := by
  rcases hx with h1 | ⟨i, o, c, rfl, h2, h3⟩
  · exact .inl h1
  · refine .inr ⟨i, o, c, rfl, Nat.lt_of_lt_of_le h2 e.1, fun j v hj => ?_⟩
    have := e.2 i h2 (hs i rfl)
    have h4 := h3 j v hj
    simp only [Heap.read] at h4 ⊢
    rw [this]; exact h4

theorem RR.ext {h h' : Heap} {q : Nat} {bad S : List Nat} {xs : List Int} (r : RR h q bad xs) (e : ExtB S h h') (hq : q ∉ S) (hs : ∀ k ∈ S, k ∈ bad) : RR h' q bad xs := by
  obtain ⟨x, h1, h2, h3, h4⟩ := r
  exact ⟨x, e.at_ h1 h3 hq, h2.extB e fun k hk hn => h4 k hk (hs k hn), Nat.lt_of_lt_of_le h3 e.1, h4⟩

section
variable {N d : Nat} {h : Heap} {q : Nat} {bad : List Nat} {xs : List Int}

theorem rdrain_ok (r : RR h q bad xs) (hb : q ∈ bad) : ∃ y h', evCallT table 16 N (d + 1) 20 [.c (.ptr q 0)] h = some (.c y, h') ∧ RR h' q bad [] ∧ Ints h' y xs ∧ ExtB [q] h h' := by
  obtain ⟨x, h1, h2, h3, h4⟩ := r
  rw [evCallT_eq (F := ir20) rfl rfl rfl]
  unfold ir20
  rw [bodyK_eq]
  have r1 : h.read q 0 1 = some [x] := read_cells h1 rfl
  have S := write_one (v := .nils) h1 (show 0 < [x].length by simp)
  have e0 : ExtB [q] h (h.put q (.cells ([x].set 0 .nils))) := (ExtB.refl _ _).put (.inr (by simp)) _
  simp only [enter_eq, ev_seq, seqK_norm, seqK_exit, seqK_ret, ev_reg, ev_cond, condK_true, condK_false, ev_block, blockK_norm, blockK_ret, blockK_exit, ev_loop, ev_skip, ev_exit, ev_ret, regK_cons, regK_nil, guard_none, guard_some, regG_true, regG_false, regO_some, op_mov, op_conv, op_bin, op_bsl, op_box, op_mks, op_s2b, op_pick, op_un, op_eq, op_len, op_ext, op_load, op_iaddr, op_slice, op_b2s, op_idxS, op_mx, op_mn, op_call, op_store, op_app, op_copy, args_eq, result_one', rv_loc, finish_norm, finish_ret, outK_some, keep_true, keep_false, keep_nil, p_bin, p_pick, p_un, p_eq, p_conv, evNew, pureK_some, newK_some, X.eval, set_none, set_some, List.map_cons, List.map_nil, List.getD_cons_zero, List.getD_cons_succ, List.getD_nil, List.set_cons_zero, List.set_cons_succ, binCV, unCV, isShift, intArithF_eq, shiftF_eq, wrapF_eq, intArith, shift, eqVal, bound, asNat_cast, cond_true, cond_false, BEq.rfl, beq_self_eq_true, evalParts, fillParts, AV.cells, AV.ofCells, XV.av, AV.xv, List.length_cons, List.length_nil, zeros, patch, setMany, List.nil_append, List.cons_append, Nat.ble, Nat.add_eq, Nat.zero_add, Nat.add_zero, Nat.reduceAdd, Nat.reduceMul, Nat.reduceSub, Nat.ble_eq, Nat.reduceLeDiff, Nat.reduceBEq, Int.reduceBEq, Int.reduceNeg, Bool.and_true, Bool.and_false, Bool.true_and, Bool.false_and, Bool.not_true, Bool.not_false, Bool.true_eq_false, Bool.false_eq_true, Int.reduceLT, Int.reduceLE, Int.reduceGT, Int.reduceGE, decide_true, decide_false, Bool.not_eq_true, loopN_norm, loopN_exit, tf, ft, ff, op_nilchk, p_nilchk, op_faddr, p_faddr, p_load, r1, AV.ofCells, evEff, S]
  exact ⟨_, _, rfl, ⟨.nils, get_put_at, .inl ⟨rfl, rfl⟩, h3, by simp [blk]⟩, h2.extB e0 fun k hk => by have := h4 k hk; simp; rintro rfl; exact this hb, e0⟩

theorem rtouch_ok (r : RR h q bad xs) (hb : q ∈ bad) (hbn : ∀ k ∈ bad, k < h.next) (f : Int) (h0 : 0 ≤ f) (h1 : f < 32) (hx : xs.length < 8) :
    ∃ y h', evCallT table 16 N (d + 2) 18 [.c (.ptr q 0), .c (.int .i64 f)] h = some (.c y, h') ∧ RR h' q bad (if xs.length + 1 < 8 then xs ++ [f] else []) ∧ Ints h' y (if xs.length + 1 < 8 then [] else xs ++ [f]) ∧ ExtB [q] h h' := by
  obtain ⟨x, g1, g2, g3, g4⟩ := r
  have c1 : decide (f < 0) = false := decide_eq_false (by omega)
  have c2 : decide (f ≥ 32) = false := decide_eq_false (by omega)
  have hn1 : (h.new (.cells [])).next = h.next + 1 := rfl
  have r1 : (h.new (.cells [])).read q 0 1 = some [x] := read_cells ((get_new_old g3).trans g1) rfl
  have sx : source (h.new (.cells [])) 1 (.c x) = some (xs.length, xs.map icell) := (g2.ext ((Ext.refl h).new _)).source
  -- the copy, and one more
  have app : ∃ y2 h2, (∃ y1 h1', evApp (h.new (.cells [])) 1 (.c (.sl h.next 0 0 (.ex 0))) (.c x) = some (.c y1, h1') ∧ evApp (h1'.new (.cells [icell f])) 1 (.c y1) (.c (.sl h1'.next 0 1 (.ex 1))) = some (.c y2, h2)) ∧ Made h h2 y2 (xs ++ [f]) ∧ Ext h h2 := by
    by_cases hnil : xs = []
    · subst hnil
      have a1 := app_none (sz := 1) (h := h.new (.cells [])) (x := .sl h.next 0 0 (.ex 0)) (.inr ⟨_, _, _, _, rfl⟩) sx
      obtain ⟨h2, b1, b2, b3, b4⟩ := app_new (sz := 1) (h0 := h) (h := (h.new (.cells [])).new (.cells [icell f])) (i := h.next) (y := .c (.sl (h.new (.cells [])).next 0 1 (.ex 1))) (m := 0) (new := [icell f])
        (by rw [get_new_old (Nat.lt_succ_self _)]; exact get_new_at) (Nat.le_trans (Nat.le_succ _) (Nat.le_succ _)) (source_new get_new_at rfl) rfl (by omega)
      exact ⟨_, h2, ⟨_, _, a1, b1⟩, Mine.made (vs := [f]) b2, by rw [b3]; show h.next ≤ h.next + 1 + 1 + 1; omega, fun i hi => by
        rw [b4 i (Nat.lt_succ_of_lt (Nat.lt_succ_of_lt hi)), get_new_old (Nat.lt_succ_of_lt hi), get_new_old hi]⟩
    · obtain ⟨m, hm⟩ : ∃ m, xs.length = m + 1 := ⟨xs.length - 1, by have : xs.length ≠ 0 := fun e => hnil (List.eq_nil_of_length_eq_zero e); omega⟩
      rw [hm] at sx
      obtain ⟨h1', a1, a2, a3, a4⟩ := app_new (sz := 1) (h0 := h) (h := h.new (.cells [])) (i := h.next) (y := .c x) get_new_at (Nat.le_succ _) sx (by simp [hm]) (by omega)
      obtain ⟨h2, b1, b2, b3, b4⟩ := app_mine (m := 0) (y := .c (.sl h1'.next 0 1 (.ex 1))) (a2.new (.cells [icell f])) (by rw [next_new, a3]; show h.next ≤ h.next + 1 + 1 + 1; omega) (source_new get_new_at rfl) rfl (by omega)
      have b2' : Mine 1 h h2 (.sl (h1'.new (.cells [icell f])).next 0 (m + 1 + (0 + 1)) (.dy 1)) (m + 1 + (0 + 1)) ((xs ++ [f]).map icell) := by rw [List.map_append]; exact b2
      refine ⟨_, h2, ⟨_, _, a1, b1⟩, b2'.made, by rw [b3, next_new, a3]; show h.next ≤ h.next + 1 + 1 + 1 + 1; omega, fun i hi => ?_⟩
      have n1 : h1'.next = h.next + 2 := a3
      rw [b4 i (by rw [next_new, n1]; omega) (by simp only [blk, ne_eq, Option.some.injEq]; rw [next_new]; omega), get_new_old (by omega), a4 i (Nat.lt_succ_of_lt hi), get_new_old hi]
  obtain ⟨y2, h2, ⟨y1, h1', a1, a2⟩, m2, x2⟩ := app
  simp only [icell] at a2
  have hq2 : h2.get q = some (.cells [x]) := x2.at_ g1 g3
  have S : h2.write q 0 [y2] = some (h2.put q (.cells [y2])) := write_one (v := y2) hq2 (show 0 < [x].length by simp)
  have e0 : ExtB [q] h2 (h2.put q (.cells [y2])) := (ExtB.refl _ _).put (.inr (by simp)) _
  have e1 : ExtB [q] h (h2.put q (.cells [y2])) := (x2.b [q]).trans e0
  have r3 : (h2.put q (.cells [y2])).read q 0 1 = some [y2] := read_cells get_put_at rfl
  have hy : ∀ k, blk y2 = some k → k ∉ bad := fun k hk hn => by have := m2.young k hk; have := hbn k hn; omega
  have R2 : RR (h2.put q (.cells [y2])) q bad (xs ++ [f]) := ⟨y2, get_put_at, m2.ints.extB e0 fun k hk => by have := m2.young k hk; simp; omega, Nat.lt_of_lt_of_le g3 x2.1, hy⟩
  have ly : ∀ (loc vals : List AV) (h : Heap), evPure loc (.c y2 :: vals) h (.len .sl (.val 0)) = some (.c (.int .i64 ((xs.length + 1 : Nat) : Int))) := fun _ _ _ => by
    have := m2.len (h := h2) (loc := []) (vals := [.c y2]) (X := .val 0) rfl
    rcases m2 with ⟨_, hc⟩ | ⟨i, c, rfl, _⟩
    · simp at hc
    · show some (AV.c (.int .i64 (((xs ++ [f]).length : Nat) : Int))) = _
      rw [List.length_append]; rfl
  rw [evCallT_eq (F := ir18) rfl rfl rfl]
  unfold ir18
  rw [bodyK_eq]
  by_cases hl : xs.length + 1 < 8
  · have c3 : decide (((xs.length + 1 : Nat) : Int) < 8) = true := decide_eq_true (by omega)
    rw [if_pos hl, if_pos hl]
    simp only [enter_eq, ev_seq, seqK_norm, seqK_exit, seqK_ret, ev_reg, ev_cond, condK_true, condK_false, ev_block, blockK_norm, blockK_ret, blockK_exit, ev_loop, ev_skip, ev_exit, ev_ret, regK_cons, regK_nil, guard_none, guard_some, regG_true, regG_false, regO_some, op_mov, op_conv, op_bin, op_bsl, op_box, op_mks, op_s2b, op_pick, op_un, op_eq, op_len, op_ext, op_load, op_iaddr, op_slice, op_b2s, op_idxS, op_mx, op_mn, op_call, op_store, op_app, op_copy, args_eq, result_one', rv_loc, finish_norm, finish_ret, outK_some, keep_true, keep_false, keep_nil, p_bin, p_pick, p_un, p_eq, p_conv, evNew, pureK_some, newK_some, X.eval, set_none, set_some, List.map_cons, List.map_nil, List.getD_cons_zero, List.getD_cons_succ, List.getD_nil, List.set_cons_zero, List.set_cons_succ, binCV, unCV, isShift, intArithF_eq, shiftF_eq, wrapF_eq, intArith, shift, eqVal, bound, asNat_cast, cond_true, cond_false, BEq.rfl, beq_self_eq_true, evalParts, fillParts, AV.cells, AV.ofCells, XV.av, AV.xv, List.length_cons, List.length_nil, zeros, patch, setMany, List.nil_append, List.cons_append, Nat.ble, Nat.add_eq, Nat.zero_add, Nat.add_zero, Nat.reduceAdd, Nat.reduceMul, Nat.reduceSub, Nat.ble_eq, Nat.reduceLeDiff, Nat.reduceBEq, Int.reduceBEq, Int.reduceNeg, Bool.and_true, Bool.and_false, Bool.true_and, Bool.false_and, Bool.not_true, Bool.not_false, Bool.true_eq_false, Bool.false_eq_true, Int.reduceLT, Int.reduceLE, Int.reduceGT, Int.reduceGE, decide_true, decide_false, Bool.not_eq_true, loopN_norm, loopN_exit, tf, ft, ff, c1, c2, op_nilchk, p_nilchk, op_faddr, p_faddr, p_load, r1, AV.ofCells, a1, a2, evEff, S, r3, ly, c3]
    exact ⟨_, _, rfl, R2, .inl ⟨rfl, rfl⟩, e1⟩
  · have c3 : decide (((xs.length + 1 : Nat) : Int) < 8) = false := decide_eq_false (by omega)
    rw [if_neg hl, if_neg hl]
    obtain ⟨y, h', f1, f2, f3, f4⟩ := rdrain_ok (N := N) (d := d) R2 hb
    simp only [enter_eq, ev_seq, seqK_norm, seqK_exit, seqK_ret, ev_reg, ev_cond, condK_true, condK_false, ev_block, blockK_norm, blockK_ret, blockK_exit, ev_loop, ev_skip, ev_exit, ev_ret, regK_cons, regK_nil, guard_none, guard_some, regG_true, regG_false, regO_some, op_mov, op_conv, op_bin, op_bsl, op_box, op_mks, op_s2b, op_pick, op_un, op_eq, op_len, op_ext, op_load, op_iaddr, op_slice, op_b2s, op_idxS, op_mx, op_mn, op_call, op_store, op_app, op_copy, args_eq, result_one', rv_loc, finish_norm, finish_ret, outK_some, keep_true, keep_false, keep_nil, p_bin, p_pick, p_un, p_eq, p_conv, evNew, pureK_some, newK_some, X.eval, set_none, set_some, List.map_cons, List.map_nil, List.getD_cons_zero, List.getD_cons_succ, List.getD_nil, List.set_cons_zero, List.set_cons_succ, binCV, unCV, isShift, intArithF_eq, shiftF_eq, wrapF_eq, intArith, shift, eqVal, bound, asNat_cast, cond_true, cond_false, BEq.rfl, beq_self_eq_true, evalParts, fillParts, AV.cells, AV.ofCells, XV.av, AV.xv, List.length_cons, List.length_nil, zeros, patch, setMany, List.nil_append, List.cons_append, Nat.ble, Nat.add_eq, Nat.zero_add, Nat.add_zero, Nat.reduceAdd, Nat.reduceMul, Nat.reduceSub, Nat.ble_eq, Nat.reduceLeDiff, Nat.reduceBEq, Int.reduceBEq, Int.reduceNeg, Bool.and_true, Bool.and_false, Bool.true_and, Bool.false_and, Bool.not_true, Bool.not_false, Bool.true_eq_false, Bool.false_eq_true, Int.reduceLT, Int.reduceLE, Int.reduceGT, Int.reduceGE, decide_true, decide_false, Bool.not_eq_true, loopN_norm, loopN_exit, tf, ft, ff, c1, c2, op_nilchk, p_nilchk, op_faddr, p_faddr, p_load, r1, AV.ofCells, a1, a2, evEff, S, r3, ly, c3, f1]
    exact ⟨_, _, rfl, f2, f3, e1.trans f4⟩

theorem rtouch_no (f : Int) (hf : f < 0 ∨ f ≥ 32) : evCallT table 16 N (d + 1) 18 [.c (.ptr q 0), .c (.int .i64 f)] h = some (.c .nils, h) := by
  rw [evCallT_eq (F := ir18) rfl rfl rfl]
  unfold ir18
  rw [bodyK_eq]
  by_cases c1 : f < 0
  · simp only [enter_eq, ev_seq, seqK_norm, seqK_exit, seqK_ret, ev_reg, ev_cond, condK_true, condK_false, ev_block, blockK_norm, blockK_ret, blockK_exit, ev_loop, ev_skip, ev_exit, ev_ret, regK_cons, regK_nil, guard_none, guard_some, regG_true, regG_false, regO_some, op_mov, op_conv, op_bin, op_bsl, op_box, op_mks, op_s2b, op_pick, op_un, op_eq, op_len, op_ext, op_load, op_iaddr, op_slice, op_b2s, op_idxS, op_mx, op_mn, op_call, op_store, op_app, op_copy, args_eq, result_one', rv_loc, finish_norm, finish_ret, outK_some, keep_true, keep_false, keep_nil, p_bin, p_pick, p_un, p_eq, p_conv, evNew, pureK_some, newK_some, X.eval, set_none, set_some, List.map_cons, List.map_nil, List.getD_cons_zero, List.getD_cons_succ, List.getD_nil, List.set_cons_zero, List.set_cons_succ, binCV, unCV, isShift, intArithF_eq, shiftF_eq, wrapF_eq, intArith, shift, eqVal, bound, asNat_cast, cond_true, cond_false, BEq.rfl, beq_self_eq_true, evalParts, fillParts, AV.cells, AV.ofCells, XV.av, AV.xv, List.length_cons, List.length_nil, zeros, patch, setMany, List.nil_append, List.cons_append, Nat.ble, Nat.add_eq, Nat.zero_add, Nat.add_zero, Nat.reduceAdd, Nat.reduceMul, Nat.reduceSub, Nat.ble_eq, Nat.reduceLeDiff, Nat.reduceBEq, Int.reduceBEq, Int.reduceNeg, Bool.and_true, Bool.and_false, Bool.true_and, Bool.false_and, Bool.not_true, Bool.not_false, Bool.true_eq_false, Bool.false_eq_true, Int.reduceLT, Int.reduceLE, Int.reduceGT, Int.reduceGE, decide_true, decide_false, Bool.not_eq_true, loopN_norm, loopN_exit, tf, ft, ff, decide_eq_true c1]
  · have c2 : f ≥ 32 := by omega
    simp only [enter_eq, ev_seq, seqK_norm, seqK_exit, seqK_ret, ev_reg, ev_cond, condK_true, condK_false, ev_block, blockK_norm, blockK_ret, blockK_exit, ev_loop, ev_skip, ev_exit, ev_ret, regK_cons, regK_nil, guard_none, guard_some, regG_true, regG_false, regO_some, op_mov, op_conv, op_bin, op_bsl, op_box, op_mks, op_s2b, op_pick, op_un, op_eq, op_len, op_ext, op_load, op_iaddr, op_slice, op_b2s, op_idxS, op_mx, op_mn, op_call, op_store, op_app, op_copy, args_eq, result_one', rv_loc, finish_norm, finish_ret, outK_some, keep_true, keep_false, keep_nil, p_bin, p_pick, p_un, p_eq, p_conv, evNew, pureK_some, newK_some, X.eval, set_none, set_some, List.map_cons, List.map_nil, List.getD_cons_zero, List.getD_cons_succ, List.getD_nil, List.set_cons_zero, List.set_cons_succ, binCV, unCV, isShift, intArithF_eq, shiftF_eq, wrapF_eq, intArith, shift, eqVal, bound, asNat_cast, cond_true, cond_false, BEq.rfl, beq_self_eq_true, evalParts, fillParts, AV.cells, AV.ofCells, XV.av, AV.xv, List.length_cons, List.length_nil, zeros, patch, setMany, List.nil_append, List.cons_append, Nat.ble, Nat.add_eq, Nat.zero_add, Nat.add_zero, Nat.reduceAdd, Nat.reduceMul, Nat.reduceSub, Nat.ble_eq, Nat.reduceLeDiff, Nat.reduceBEq, Int.reduceBEq, Int.reduceNeg, Bool.and_true, Bool.and_false, Bool.true_and, Bool.false_and, Bool.not_true, Bool.not_false, Bool.true_eq_false, Bool.false_eq_true, Int.reduceLT, Int.reduceLE, Int.reduceGT, Int.reduceGE, decide_true, decide_false, Bool.not_eq_true, loopN_norm, loopN_exit, tf, ft, ff, decide_eq_false c1, decide_eq_true c2]

theorem rforget_ok (r : RR h q bad xs) (hbn : ∀ k ∈ bad, k < h.next) (f : Int) (hx : xs.length ≤ 8) (hN : 10 ≤ N) :
    ∃ h', evCallT table 16 N (d + 1) 19 [.c (.ptr q 0), .c (.int .i64 f)] h = some (.c (.int .i64 ((xs.length - (xs.filter (· ≠ f)).length : Nat) : Int)), h') ∧ RR h' q bad (xs.filter (· ≠ f)) ∧ ExtB [q] h h' := by
  obtain ⟨x, g1, g2, g3, g4⟩ := r
  have lx : ∀ (loc vals : List AV) (h : Heap), evPure loc (.c x :: vals) h (.len .sl (.val 0)) = some (.c (.int .i64 (xs.length : Int))) := fun _ _ _ => g2.len rfl
  rw [evCallT_eq (F := ir19) rfl rfl rfl]
  unfold ir19
  rw [bodyK_eq]
  have L : ∀ loc, keepOnly ir19_k0 loc = [.c (.ptr q 0), .c (.int .i64 f), .junk, .c .nils, .c (.int .i64 0), .junk, .junk, .junk] →
      ∃ r, loopK (evCallT table 16 N d) N ir19_k0 ir19_l0 N loc h = some r ∧ ∃ y h' a2 a4 a5 l, r = (.exit 0, .c (.ptr q 0) :: .c (.int .i64 f) :: a2 :: .c y :: a4 :: a5 :: l, h') ∧ Made h h' y (xs.filter (· ≠ f)) ∧ Ext h h' := by
    intro loc hloc
    refine loop_inv (n := xs.length) (fun i loc h' => Ext h h' ∧ ∃ y, Mine 1 h h' y ((xs.take i).filter (· ≠ f)).length (((xs.take i).filter (· ≠ f)).map icell) ∧ loc = [.c (.ptr q 0), .c (.int .i64 f), .junk, .c y, .c (.int .i64 (i : Int)), .junk, .junk, .junk]) _ ?_ ⟨Ext.refl h, .nils, Mine.nil, hloc⟩ (by omega)
    rintro i loc h' hi ⟨he, y, hy, rfl⟩
    unfold ir19_l0
    have r1 : h'.read q 0 1 = some [x] := read_cells (he.at_ g1 g3) rfl
    by_cases hlt : i < xs.length
    · left
      refine ⟨hlt, ?_⟩
      have v1 : decide ((i : Int) < (xs.length : Int)) = true := ltNat hlt
      have v2 := succI (i := i) (by omega)
      obtain ⟨b, o, cp, rfl, _, rx⟩ := (g2.ext he).sl (by omega)
      have k1 := rx i hlt
      have m1 : Nat.blt i xs.length = true := bltT hlt
      by_cases hf : xs[i] = f
      · have e : (xs[i] == f) = true := by simp [hf]
        have hft : (xs.take (i + 1)).filter (· ≠ f) = (xs.take i).filter (· ≠ f) := by
          rw [List.take_succ_eq_append_getElem hlt, List.filter_append]; simp [hf]
        simp only [enter_eq, ev_seq, seqK_norm, seqK_exit, seqK_ret, ev_reg, ev_cond, condK_true, condK_false, ev_block, blockK_norm, blockK_ret, blockK_exit, ev_loop, ev_skip, ev_exit, ev_ret, regK_cons, regK_nil, guard_none, guard_some, regG_true, regG_false, regO_some, op_mov, op_conv, op_bin, op_bsl, op_box, op_mks, op_s2b, op_pick, op_un, op_eq, op_len, op_ext, op_load, op_iaddr, op_slice, op_b2s, op_idxS, op_mx, op_mn, op_call, op_store, op_app, op_copy, args_eq, result_one', rv_loc, finish_norm, finish_ret, outK_some, keep_true, keep_false, keep_nil, p_bin, p_pick, p_un, p_eq, p_conv, evNew, pureK_some, newK_some, X.eval, set_none, set_some, List.map_cons, List.map_nil, List.getD_cons_zero, List.getD_cons_succ, List.getD_nil, List.set_cons_zero, List.set_cons_succ, binCV, unCV, isShift, intArithF_eq, shiftF_eq, wrapF_eq, intArith, shift, eqVal, bound, asNat_cast, cond_true, cond_false, BEq.rfl, beq_self_eq_true, evalParts, fillParts, AV.cells, AV.ofCells, XV.av, AV.xv, List.length_cons, List.length_nil, zeros, patch, setMany, List.nil_append, List.cons_append, Nat.ble, Nat.add_eq, Nat.zero_add, Nat.add_zero, Nat.reduceAdd, Nat.reduceMul, Nat.reduceSub, Nat.ble_eq, Nat.reduceLeDiff, Nat.reduceBEq, Int.reduceBEq, Int.reduceNeg, Bool.and_true, Bool.and_false, Bool.true_and, Bool.false_and, Bool.not_true, Bool.not_false, Bool.true_eq_false, Bool.false_eq_true, Int.reduceLT, Int.reduceLE, Int.reduceGT, Int.reduceGE, decide_true, decide_false, Bool.not_eq_true, loopN_norm, loopN_exit, tf, ft, ff, bneI, op_nilchk, p_nilchk, op_faddr, p_faddr, r1, lx, v1, v2, p_iaddr, p_load, m1, Nat.mul_one, k1, AV.ofCells, e]
        exact ⟨_, _, rfl, he, y, by rw [hft]; exact hy, rfl⟩
      · have e : (xs[i] == f) = false := by simp [hf]
        have hft : (xs.take (i + 1)).filter (· ≠ f) = (xs.take i).filter (· ≠ f) ++ [xs[i]] := by
          rw [List.take_succ_eq_append_getElem hlt, List.filter_append]; simp [hf]
        have hfl : ((xs.take i).filter (· ≠ f)).length ≤ i := Nat.le_trans (List.length_filter_le _ _) (by simp; omega)
        obtain ⟨ha, a1, a2, a3, _⟩ := app_int (v := .int .i64 xs[i]) (c := .ex 1) (hy.new (.cells [.int .i64 xs[i]])) (he.new _) get_new_at (by omega)
        simp only [enter_eq, ev_seq, seqK_norm, seqK_exit, seqK_ret, ev_reg, ev_cond, condK_true, condK_false, ev_block, blockK_norm, blockK_ret, blockK_exit, ev_loop, ev_skip, ev_exit, ev_ret, regK_cons, regK_nil, guard_none, guard_some, regG_true, regG_false, regO_some, op_mov, op_conv, op_bin, op_bsl, op_box, op_mks, op_s2b, op_pick, op_un, op_eq, op_len, op_ext, op_load, op_iaddr, op_slice, op_b2s, op_idxS, op_mx, op_mn, op_call, op_store, op_app, op_copy, args_eq, result_one', rv_loc, finish_norm, finish_ret, outK_some, keep_true, keep_false, keep_nil, p_bin, p_pick, p_un, p_eq, p_conv, evNew, pureK_some, newK_some, X.eval, set_none, set_some, List.map_cons, List.map_nil, List.getD_cons_zero, List.getD_cons_succ, List.getD_nil, List.set_cons_zero, List.set_cons_succ, binCV, unCV, isShift, intArithF_eq, shiftF_eq, wrapF_eq, intArith, shift, eqVal, bound, asNat_cast, cond_true, cond_false, BEq.rfl, beq_self_eq_true, evalParts, fillParts, AV.cells, AV.ofCells, XV.av, AV.xv, List.length_cons, List.length_nil, zeros, patch, setMany, List.nil_append, List.cons_append, Nat.ble, Nat.add_eq, Nat.zero_add, Nat.add_zero, Nat.reduceAdd, Nat.reduceMul, Nat.reduceSub, Nat.ble_eq, Nat.reduceLeDiff, Nat.reduceBEq, Int.reduceBEq, Int.reduceNeg, Bool.and_true, Bool.and_false, Bool.true_and, Bool.false_and, Bool.not_true, Bool.not_false, Bool.true_eq_false, Bool.false_eq_true, Int.reduceLT, Int.reduceLE, Int.reduceGT, Int.reduceGE, decide_true, decide_false, Bool.not_eq_true, loopN_norm, loopN_exit, tf, ft, ff, bneI, op_nilchk, p_nilchk, op_faddr, p_faddr, r1, lx, v1, v2, p_iaddr, p_load, m1, Nat.mul_one, k1, AV.ofCells, e, a1]
        exact ⟨_, _, rfl, a3, _, by rw [hft, List.length_append, List.map_append]; exact a2, rfl⟩
    · right
      have hin : i = xs.length := by omega
      subst hin
      have v1 : decide ((xs.length : Int) < (xs.length : Int)) = false := geNat (Nat.le_refl _)
      rw [List.take_length] at hy
      simp only [enter_eq, ev_seq, seqK_norm, seqK_exit, seqK_ret, ev_reg, ev_cond, condK_true, condK_false, ev_block, blockK_norm, blockK_ret, blockK_exit, ev_loop, ev_skip, ev_exit, ev_ret, regK_cons, regK_nil, guard_none, guard_some, regG_true, regG_false, regO_some, op_mov, op_conv, op_bin, op_bsl, op_box, op_mks, op_s2b, op_pick, op_un, op_eq, op_len, op_ext, op_load, op_iaddr, op_slice, op_b2s, op_idxS, op_mx, op_mn, op_call, op_store, op_app, op_copy, args_eq, result_one', rv_loc, finish_norm, finish_ret, outK_some, keep_true, keep_false, keep_nil, p_bin, p_pick, p_un, p_eq, p_conv, evNew, pureK_some, newK_some, X.eval, set_none, set_some, List.map_cons, List.map_nil, List.getD_cons_zero, List.getD_cons_succ, List.getD_nil, List.set_cons_zero, List.set_cons_succ, binCV, unCV, isShift, intArithF_eq, shiftF_eq, wrapF_eq, intArith, shift, eqVal, bound, asNat_cast, cond_true, cond_false, BEq.rfl, beq_self_eq_true, evalParts, fillParts, AV.cells, AV.ofCells, XV.av, AV.xv, List.length_cons, List.length_nil, zeros, patch, setMany, List.nil_append, List.cons_append, Nat.ble, Nat.add_eq, Nat.zero_add, Nat.add_zero, Nat.reduceAdd, Nat.reduceMul, Nat.reduceSub, Nat.ble_eq, Nat.reduceLeDiff, Nat.reduceBEq, Int.reduceBEq, Int.reduceNeg, Bool.and_true, Bool.and_false, Bool.true_and, Bool.false_and, Bool.not_true, Bool.not_false, Bool.true_eq_false, Bool.false_eq_true, Int.reduceLT, Int.reduceLE, Int.reduceGT, Int.reduceGE, decide_true, decide_false, Bool.not_eq_true, loopN_norm, loopN_exit, tf, ft, ff, op_nilchk, p_nilchk, op_faddr, p_faddr, p_load, AV.ofCells, r1, lx, v1]
      exact ⟨_, rfl, by simp, y, h', _, _, _, _, rfl, hy.made, he⟩
  obtain ⟨r, hr, y, h', a2, a4, a5, l, rfl, my, he⟩ := L [.c (.ptr q 0), .c (.int .i64 f), .c (.int .i64 0), .c .nils, .c (.int .i64 0), .tup [], .tup [], .tup []] rfl
  have ly : ∀ (loc vals : List AV) (h : Heap), evPure loc (.c y :: vals) h (.len .sl (.val 0)) = some (.c (.int .i64 ((xs.filter (· ≠ f)).length : Int))) := fun _ _ _ => my.len rfl
  have hfl : (xs.filter (· ≠ f)).length ≤ xs.length := List.length_filter_le _ _
  have r1 : h'.read q 0 1 = some [x] := read_cells (he.at_ g1 g3) rfl
  have S := write_one (v := y) (he.at_ g1 g3) (show 0 < [x].length by simp)
  have e0 : ExtB [q] h' (h'.put q (.cells ([x].set 0 y))) := (ExtB.refl _ _).put (.inr (by simp)) _
  have w1 : IntKind.i64.wrap ((xs.length : Int) - ((xs.filter (· ≠ f)).length : Int)) = ((xs.length - (xs.filter (· ≠ f)).length : Nat) : Int) := by rw [wrapI (by omega) (by omega)]; omega
  simp only [enter_eq, ev_seq, seqK_norm, seqK_exit, seqK_ret, ev_reg, ev_cond, condK_true, condK_false, ev_block, blockK_norm, blockK_ret, blockK_exit, ev_loop, ev_skip, ev_exit, ev_ret, regK_cons, regK_nil, guard_none, guard_some, regG_true, regG_false, regO_some, op_mov, op_conv, op_bin, op_bsl, op_box, op_mks, op_s2b, op_pick, op_un, op_eq, op_len, op_ext, op_load, op_iaddr, op_slice, op_b2s, op_idxS, op_mx, op_mn, op_call, op_store, op_app, op_copy, args_eq, result_one', rv_loc, finish_norm, finish_ret, outK_some, keep_true, keep_false, keep_nil, p_bin, p_pick, p_un, p_eq, p_conv, evNew, pureK_some, newK_some, X.eval, set_none, set_some, List.map_cons, List.map_nil, List.getD_cons_zero, List.getD_cons_succ, List.getD_nil, List.set_cons_zero, List.set_cons_succ, binCV, unCV, isShift, intArithF_eq, shiftF_eq, wrapF_eq, intArith, shift, eqVal, bound, asNat_cast, cond_true, cond_false, BEq.rfl, beq_self_eq_true, evalParts, fillParts, AV.cells, AV.ofCells, XV.av, AV.xv, List.length_cons, List.length_nil, zeros, patch, setMany, List.nil_append, List.cons_append, Nat.ble, Nat.add_eq, Nat.zero_add, Nat.add_zero, Nat.reduceAdd, Nat.reduceMul, Nat.reduceSub, Nat.ble_eq, Nat.reduceLeDiff, Nat.reduceBEq, Int.reduceBEq, Int.reduceNeg, Bool.and_true, Bool.and_false, Bool.true_and, Bool.false_and, Bool.not_true, Bool.not_false, Bool.true_eq_false, Bool.false_eq_true, Int.reduceLT, Int.reduceLE, Int.reduceGT, Int.reduceGE, decide_true, decide_false, Bool.not_eq_true, loopN_norm, loopN_exit, tf, ft, ff, hr, blockK_exit_eq, op_nilchk, p_nilchk, op_faddr, p_faddr, p_load, AV.ofCells, r1, lx, ly, w1, evEff, S]
  exact ⟨_, rfl, ⟨y, get_put_at, my.ints.extB e0 fun k hk => by have := my.young k hk; simp; omega, Nat.lt_of_lt_of_le g3 he.1, fun k hk hn => by have := my.young k hk; have := hbn k hn; omega⟩, (he.b [q]).trans e0⟩
end
end Lav
