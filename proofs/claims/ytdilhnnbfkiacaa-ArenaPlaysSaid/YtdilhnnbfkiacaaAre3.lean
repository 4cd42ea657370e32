/-
  Layer 10: frames that are added; all frames; a new arena.
-/
import Derived.Test.YtdilhnnbfkiacaaAre2
import Derived.Test.YtdilhnnbfkiacaaFwJ
set_option maxRecDepth 100000
set_option linter.unusedSimpArgs false
namespace Lav
open Go (IntKind)

theorem tld10 : ToldOK Go.Proofs.Try.prog 18 := told_of (calls_okF 200 9) (by kernel_rfl)

theorem retIdx_le (fs : List Fm) : retIdx fs ≤ fs.length := List.findIdx_le_length
theorem retIdx_not {fs : List Fm} {k : Nat} (hk : k < retIdx fs) (hl : k < fs.length) : fs[k].st ≠ 4 := by
  have := List.not_of_lt_findIdx hk
  simpa using this
theorem retIdx_at {fs : List Fm} (hl : retIdx fs < fs.length) : fs[retIdx fs].st = 4 := by
  have h2 : (fs[retIdx fs].st == 4) = true := List.findIdx_getElem (p := fun f : Fm => f.st == 4) (w := hl)
  exact eq_of_beq h2

section
variable {N d : Nat} {h : Heap} {p : Nat} {a : AP} {fs : List Fm} {o : List Int} {M : Nat → Option Int} {c : Nat}

theorem add_loop (A : Ra h p a fs o M c) (sm : fs.length ≤ 32) (hN : 100 ≤ N) {call : Nat → List AV → Heap → Option (AV × Heap)} : ∀ loc, keepOnly ir15_k0 loc = [.c (.ptr p 0), .junk, .c (.int .i64 0), .junk, .junk, .junk, .junk, .junk] →
    ∃ r, loopK call N ir15_k0 ir15_l0 N loc h = some r ∧ ∃ a1 l, r = (.exit 0, .c (.ptr p 0) :: a1 :: .c (.int .i64 (retIdx fs : Int)) :: l, h) ∧ l.length = 5 := by
  intro loc hloc
  have hle := retIdx_le fs
  refine loop_inv (n := retIdx fs) (fun k loc G => G = h ∧ k ≤ retIdx fs ∧ loc = [.c (.ptr p 0), .junk, .c (.int .i64 (k : Int)), .junk, .junk, .junk, .junk, .junk]) _ ?_ ⟨rfl, Nat.zero_le _, hloc⟩ (by omega)
  rintro k loc G hk ⟨rfl, hkn, rfl⟩
  unfold ir15_l0
  have r0 := A.r0
  have lx := A.lx
  by_cases hl : k < fs.length
  · obtain ⟨fb, hx, hf, hg⟩ := A.at_ hl
    have a1 := (at_of hg hl).s
    have m1 : Nat.blt k fs.length = true := bltT hl
    have v1 : decide ((k : Int) < (fs.length : Int)) = true := ltNat hl
    have v2 := succI (i := k) (by omega)
    rw [hx] at r0 lx
    by_cases h4 : fs[k].st = 4
    · right
      have e : k = retIdx fs := by
        rcases Nat.lt_or_ge k (retIdx fs) with h' | h'
        · exact absurd h4 (retIdx_not h' hl)
        · omega
      rw [h4] at a1
      simp only [enter_eq, ev_seq, seqK_norm, seqK_exit, seqK_ret, ev_reg, ev_cond, condK_true, condK_false, ev_block, blockK_norm, blockK_ret, blockK_exit, ev_loop, ev_skip, ev_exit, ev_ret, regK_cons, regK_nil, guard_none, guard_some, regG_true, regG_false, regO_some, op_mov, op_conv, op_bin, op_bsl, op_box, op_mks, op_s2b, op_pick, op_un, op_eq, op_len, op_ext, op_load, op_iaddr, op_slice, op_b2s, op_idxS, op_mx, op_mn, op_call, op_store, op_app, op_copy, args_eq, result_one', rv_loc, finish_norm, finish_ret, outK_some, keep_true, keep_false, keep_nil, p_bin, p_pick, p_un, p_eq, p_conv, evNew, pureK_some, newK_some, X.eval, set_none, set_some, List.map_cons, List.map_nil, List.getD_cons_zero, List.getD_cons_succ, List.getD_nil, List.set_cons_zero, List.set_cons_succ, binCV, unCV, isShift, intArithF_eq, shiftF_eq, wrapF_eq, intArith, shift, eqVal, bound, asNat_cast, cond_true, cond_false, BEq.rfl, beq_self_eq_true, evalParts, fillParts, AV.cells, AV.ofCells, XV.av, AV.xv, List.length_cons, List.length_nil, zeros, patch, setMany, List.nil_append, List.cons_append, Nat.ble, Nat.add_eq, Nat.zero_add, Nat.add_zero, Nat.reduceAdd, Nat.reduceMul, Nat.reduceSub, Nat.ble_eq, Nat.reduceLeDiff, Nat.reduceBEq, Int.reduceBEq, Int.reduceNeg, Bool.and_true, Bool.and_false, Bool.true_and, Bool.false_and, Bool.not_true, Bool.not_false, Bool.true_eq_false, Bool.false_eq_true, Int.reduceLT, Int.reduceLE, Int.reduceGT, Int.reduceGE, decide_true, decide_false, Bool.not_eq_true, loopN_norm, loopN_exit, tf, ft, ff, op_nilchk, p_nilchk, op_faddr, p_faddr, p_load, r0, AV.ofCells, lx, v1, p_iaddr, m1, a1, Nat.zero_add]
      exact ⟨_, rfl, by simp, _, _, by rw [← e], rfl⟩
    · left
      have e : k < retIdx fs := by
        rcases Nat.lt_or_ge k (retIdx fs) with h' | h'
        · exact h'
        · have : k = retIdx fs := by omega
          subst this
          exact absurd (retIdx_at hl) h4
      have v3 : (fs[k].st == 4) = false := by simp only [beq_eq_false_iff_ne, ne_eq]; exact h4
      refine ⟨e, ?_⟩
      simp only [enter_eq, ev_seq, seqK_norm, seqK_exit, seqK_ret, ev_reg, ev_cond, condK_true, condK_false, ev_block, blockK_norm, blockK_ret, blockK_exit, ev_loop, ev_skip, ev_exit, ev_ret, regK_cons, regK_nil, guard_none, guard_some, regG_true, regG_false, regO_some, op_mov, op_conv, op_bin, op_bsl, op_box, op_mks, op_s2b, op_pick, op_un, op_eq, op_len, op_ext, op_load, op_iaddr, op_slice, op_b2s, op_idxS, op_mx, op_mn, op_call, op_store, op_app, op_copy, args_eq, result_one', rv_loc, finish_norm, finish_ret, outK_some, keep_true, keep_false, keep_nil, p_bin, p_pick, p_un, p_eq, p_conv, evNew, pureK_some, newK_some, X.eval, set_none, set_some, List.map_cons, List.map_nil, List.getD_cons_zero, List.getD_cons_succ, List.getD_nil, List.set_cons_zero, List.set_cons_succ, binCV, unCV, isShift, intArithF_eq, shiftF_eq, wrapF_eq, intArith, shift, eqVal, bound, asNat_cast, cond_true, cond_false, BEq.rfl, beq_self_eq_true, evalParts, fillParts, AV.cells, AV.ofCells, XV.av, AV.xv, List.length_cons, List.length_nil, zeros, patch, setMany, List.nil_append, List.cons_append, Nat.ble, Nat.add_eq, Nat.zero_add, Nat.add_zero, Nat.reduceAdd, Nat.reduceMul, Nat.reduceSub, Nat.ble_eq, Nat.reduceLeDiff, Nat.reduceBEq, Int.reduceBEq, Int.reduceNeg, Bool.and_true, Bool.and_false, Bool.true_and, Bool.false_and, Bool.not_true, Bool.not_false, Bool.true_eq_false, Bool.false_eq_true, Int.reduceLT, Int.reduceLE, Int.reduceGT, Int.reduceGE, decide_true, decide_false, Bool.not_eq_true, loopN_norm, loopN_exit, tf, ft, ff, op_nilchk, p_nilchk, op_faddr, p_faddr, p_load, r0, AV.ofCells, lx, v1, v2, v3, p_iaddr, m1, a1, Nat.zero_add]
      exact ⟨_, _, rfl, rfl, e, rfl⟩
  · right
    have v1 : decide ((k : Int) < (fs.length : Int)) = false := geNat (by omega)
    simp only [enter_eq, ev_seq, seqK_norm, seqK_exit, seqK_ret, ev_reg, ev_cond, condK_true, condK_false, ev_block, blockK_norm, blockK_ret, blockK_exit, ev_loop, ev_skip, ev_exit, ev_ret, regK_cons, regK_nil, guard_none, guard_some, regG_true, regG_false, regO_some, op_mov, op_conv, op_bin, op_bsl, op_box, op_mks, op_s2b, op_pick, op_un, op_eq, op_len, op_ext, op_load, op_iaddr, op_slice, op_b2s, op_idxS, op_mx, op_mn, op_call, op_store, op_app, op_copy, args_eq, result_one', rv_loc, finish_norm, finish_ret, outK_some, keep_true, keep_false, keep_nil, p_bin, p_pick, p_un, p_eq, p_conv, evNew, pureK_some, newK_some, X.eval, set_none, set_some, List.map_cons, List.map_nil, List.getD_cons_zero, List.getD_cons_succ, List.getD_nil, List.set_cons_zero, List.set_cons_succ, binCV, unCV, isShift, intArithF_eq, shiftF_eq, wrapF_eq, intArith, shift, eqVal, bound, asNat_cast, cond_true, cond_false, BEq.rfl, beq_self_eq_true, evalParts, fillParts, AV.cells, AV.ofCells, XV.av, AV.xv, List.length_cons, List.length_nil, zeros, patch, setMany, List.nil_append, List.cons_append, Nat.ble, Nat.add_eq, Nat.zero_add, Nat.add_zero, Nat.reduceAdd, Nat.reduceMul, Nat.reduceSub, Nat.ble_eq, Nat.reduceLeDiff, Nat.reduceBEq, Int.reduceBEq, Int.reduceNeg, Bool.and_true, Bool.and_false, Bool.true_and, Bool.false_and, Bool.not_true, Bool.not_false, Bool.true_eq_false, Bool.false_eq_true, Int.reduceLT, Int.reduceLE, Int.reduceGT, Int.reduceGE, decide_true, decide_false, Bool.not_eq_true, loopN_norm, loopN_exit, tf, ft, ff, op_nilchk, p_nilchk, op_faddr, p_faddr, p_load, r0, AV.ofCells, lx, v1]
    exact ⟨_, rfl, by simp, _, _, by rw [show k = retIdx fs by omega], rfl⟩

theorem list5 {l : List AV} (h : l.length = 5) : ∃ a b c d e, l = [a, b, c, d, e] := by
  match l, h with
  | [a, b, c, d, e], _ => exact ⟨a, b, c, d, e, rfl⟩

theorem add_full (A : Ra h p a fs o M c) (sm : fs.length ≤ 32) (hr : retIdx fs = 32) (hN : 100 ≤ N) : evCallT table 18 N (d + 3) 15 [.c (.ptr p 0)] h = some (.c (.int .i64 (-1)), h) := by
  obtain ⟨r, hr', a1, l, rfl, hl⟩ := add_loop A sm hN (call := evCallT table 18 N (d + 2)) [.c (.ptr p 0), .c (.int .i64 0), .c (.int .i64 0), .c (.bool false), .tup [], .tup [], .tup [], .tup []] rfl
  obtain ⟨b1, b2, b3, b4, b5, rfl⟩ := list5 hl
  rw [hr] at hr'
  have hr2 : loopK (evCallT table 18 N (d + 2)) N ir15_k0 ir15_l0 N [.c (.ptr p 0), .c (.int .i64 0), .c (.int .i64 0), .c (.bool false), .tup [], .tup [], .tup [], .tup []] h = some (.exit 0, [.c (.ptr p 0), a1, .c (.int .i64 32), b1, b2, b3, b4, b5], h) := hr'
  rw [evCallT_eq (F := ir15) rfl rfl rfl]
  unfold ir15
  rw [bodyK_eq]
  simp only [enter_eq, ev_seq, seqK_norm, seqK_exit, seqK_ret, ev_reg, ev_cond, condK_true, condK_false, ev_block, blockK_norm, blockK_ret, blockK_exit, ev_loop, ev_skip, ev_exit, ev_ret, regK_cons, regK_nil, guard_none, guard_some, regG_true, regG_false, regO_some, op_mov, op_conv, op_bin, op_bsl, op_box, op_mks, op_s2b, op_pick, op_un, op_eq, op_len, op_ext, op_load, op_iaddr, op_slice, op_b2s, op_idxS, op_mx, op_mn, op_call, op_store, op_app, op_copy, args_eq, result_one', rv_loc, finish_norm, finish_ret, outK_some, keep_true, keep_false, keep_nil, p_bin, p_pick, p_un, p_eq, p_conv, evNew, pureK_some, newK_some, X.eval, set_none, set_some, List.map_cons, List.map_nil, List.getD_cons_zero, List.getD_cons_succ, List.getD_nil, List.set_cons_zero, List.set_cons_succ, binCV, unCV, isShift, intArithF_eq, shiftF_eq, wrapF_eq, intArith, shift, eqVal, bound, asNat_cast, cond_true, cond_false, BEq.rfl, beq_self_eq_true, evalParts, fillParts, AV.cells, AV.ofCells, XV.av, AV.xv, List.length_cons, List.length_nil, zeros, patch, setMany, List.nil_append, List.cons_append, Nat.ble, Nat.add_eq, Nat.zero_add, Nat.add_zero, Nat.reduceAdd, Nat.reduceMul, Nat.reduceSub, Nat.ble_eq, Nat.reduceLeDiff, Nat.reduceBEq, Int.reduceBEq, Int.reduceNeg, Bool.and_true, Bool.and_false, Bool.true_and, Bool.false_and, Bool.not_true, Bool.not_false, Bool.true_eq_false, Bool.false_eq_true, Int.reduceLT, Int.reduceLE, Int.reduceGT, Int.reduceGE, decide_true, decide_false, Bool.not_eq_true, loopN_norm, loopN_exit, tf, ft, ff, hr2, blockK_exit_eq]

theorem add_back (A : Ra h p a fs o M c) (hr : retIdx fs < fs.length) (sm : fs.length ≤ 32) (ho : (retIdx fs : Int) ∉ o) (hl : o.length < 1000) (hN : 100 ≤ N) :
    ∃ h', evCallT table 18 N (d + 3) 15 [.c (.ptr p 0)] h = some (.c (.int .i64 (retIdx fs : Int)), h') ∧ Ra h' p a (fs.set (retIdx fs) frZ) (o ++ [(retIdx fs : Int)]) M c ∧ ExtB (own p a) h h' := by
  obtain ⟨r, hr', a1, l, rfl, hl5⟩ := add_loop A sm hN (call := evCallT table 18 N (d + 2)) [.c (.ptr p 0), .c (.int .i64 0), .c (.int .i64 0), .c (.bool false), .tup [], .tup [], .tup [], .tup []] rfl
  obtain ⟨b1, b2, b3, b4, b5, rfl⟩ := list5 hl5
  generalize hi : retIdx fs = i at *
  obtain ⟨fb, hx, hf, hg⟩ := A.at_ hr
  have r0 := A.r0
  have lx := A.lx
  rw [hx] at r0 lx
  have m1 : Nat.blt i fs.length = true := bltT hr
  have v1 : ((i : Int) == 32) = false := by simp only [beq_eq_false_iff_ne, ne_eq]; omega
  have v2 : ((i : Int) == (fs.length : Int)) = false := by simp only [beq_eq_false_iff_ne, ne_eq]; omega
  obtain ⟨H2, w, A2, y2, n2⟩ := A.store hr hx frZ
  have s1 := A2.r1
  obtain ⟨H3, e3, l3, x3⟩ := back_ok (N := N) (d := d) (x := (i : Int)) A2.ll (by omega) (by omega) ho (by omega)
  obtain ⟨A3, y3⟩ := A2.list l3 x3
  rw [evCallT_eq (F := ir15) rfl rfl rfl]
  unfold ir15
  rw [bodyK_eq]
  simp only [enter_eq, ev_seq, seqK_norm, seqK_exit, seqK_ret, ev_reg, ev_cond, condK_true, condK_false, ev_block, blockK_norm, blockK_ret, blockK_exit, ev_loop, ev_skip, ev_exit, ev_ret, regK_cons, regK_nil, guard_none, guard_some, regG_true, regG_false, regO_some, op_mov, op_conv, op_bin, op_bsl, op_box, op_mks, op_s2b, op_pick, op_un, op_eq, op_len, op_ext, op_load, op_iaddr, op_slice, op_b2s, op_idxS, op_mx, op_mn, op_call, op_store, op_app, op_copy, args_eq, result_one', rv_loc, finish_norm, finish_ret, outK_some, keep_true, keep_false, keep_nil, p_bin, p_pick, p_un, p_eq, p_conv, evNew, pureK_some, newK_some, X.eval, set_none, set_some, List.map_cons, List.map_nil, List.getD_cons_zero, List.getD_cons_succ, List.getD_nil, List.set_cons_zero, List.set_cons_succ, binCV, unCV, isShift, intArithF_eq, shiftF_eq, wrapF_eq, intArith, shift, eqVal, bound, asNat_cast, cond_true, cond_false, BEq.rfl, beq_self_eq_true, evalParts, fillParts, AV.cells, AV.ofCells, XV.av, AV.xv, List.length_cons, List.length_nil, zeros, patch, setMany, List.nil_append, List.cons_append, Nat.ble, Nat.add_eq, Nat.zero_add, Nat.add_zero, Nat.reduceAdd, Nat.reduceMul, Nat.reduceSub, Nat.ble_eq, Nat.reduceLeDiff, Nat.reduceBEq, Int.reduceBEq, Int.reduceNeg, Bool.and_true, Bool.and_false, Bool.true_and, Bool.false_and, Bool.not_true, Bool.not_false, Bool.true_eq_false, Bool.false_eq_true, Int.reduceLT, Int.reduceLE, Int.reduceGT, Int.reduceGE, decide_true, decide_false, Bool.not_eq_true, loopN_norm, loopN_exit, tf, ft, ff, hr', blockK_exit_eq, v1, v2, op_nilchk, p_nilchk, op_faddr, p_faddr, p_load, r0, AV.ofCells, lx, p_iaddr, m1, op_build, p_build', evEff, Nat.zero_add, w, s1, e3]
  exact ⟨_, rfl, A3, y2.trans y3⟩

theorem Ra.grow (A : Ra h p a fs o M c) (sm : fs.length ≤ 32) {h1 : Heap} (e1 : h1 = h.new (.cells (frC frO))) :
    ∃ h2 h3, evApp h1 5 (.c a.x) (.c (.sl h.next 0 1 (.ex 1))) = some (.c (.sl h1.next 0 (fs.length + 1) (.dy 5)), h2) ∧ h2.read p 0 1 = some [a.x] ∧ h2.write p 0 [.sl h1.next 0 (fs.length + 1) (.dy 5)] = some h3 ∧ Ra h3 p ⟨.sl h1.next 0 (fs.length + 1) (.dy 5), a.q, a.lb, a.r, a.tb⟩ (fs ++ [frO]) o M c ∧ ExtB (own p a) h h3 ∧ h.next ≤ h1.next := by
  have n1 : h1.next = h.next + 1 := by rw [e1]; rfl
  have x1 : Ext h h1 := by rw [e1]; exact (Ext.refl _).new _
  have A1 := A.ext' x1
  have src : source h1 5 (.c (.sl h.next 0 1 (.ex 1))) = some (0 + 1, frC frO) := source_new (by rw [e1]; exact get_new_at) rfl
  obtain ⟨h2, a1, a2, a3, a4⟩ := app_mine A1.fr (Nat.zero_le _) src rfl (by omega)
  have e2 : ExtB (own p a) h1 h2 := ⟨by omega, fun k hk hn => a4 k hk fun hb => hn (mem_own.2 (by simp [hb]))⟩
  have kk : ∀ k, k ∈ [p, a.q, a.lb, a.r, a.tb] → h2.get k = h1.get k := fun k hk => by
    have ho : k ∈ own p a := by
      simp at hk
      exact mem_own.2 (by rcases hk with h | h | h | h | h <;> simp [h])
    exact a4 k (A1.old k ho) fun hb => A.xn k hb hk
  have hbx := A1.box
  have g2 : h2.get p = some (.cells [a.x, .ptr a.q 0, .ptr a.r 0]) := (kk p (by simp)).trans hbx
  obtain ⟨h3, b1, b2, b3, b4⟩ : ∃ h', h2.write p 0 [.sl h1.next 0 (fs.length + 1) (.dy 5)] = some h' ∧ h'.get p = some (.cells [.sl h1.next 0 (fs.length + 1) (.dy 5), .ptr a.q 0, .ptr a.r 0]) ∧ (∀ k, k ≠ p → h'.get k = h2.get k) ∧ h'.next = h2.next :=
    ⟨_, write_one g2 (by simp), get_put_at, fun _ hk => get_put_ne hk, rfl⟩
  have nd := A.nd
  simp at nd
  obtain ⟨⟨p1, p2, p3, p4⟩, ⟨q1, q2, q3⟩, ⟨l1, l2⟩, r1⟩ := nd
  have kq : ∀ k, k ∈ [a.q, a.lb, a.r, a.tb] → h3.get k = h1.get k := fun k hk => by
    refine (b3 k ?_).trans (kk k (by simp at hk ⊢; rcases hk with h | h | h | h <;> simp [h]))
    rintro rfl
    simp at hk
    rcases hk with h | h | h | h
    · exact p1 h
    · exact p2 h
    · exact p3 h
    · exact p4 h
  have sub : ExtB [p] h2 h3 := ⟨by omega, fun k _ hk => b3 k (by simpa using hk)⟩
  have all : ExtB (own p a) h h3 := ((x1.b _).trans e2).trans (sub.mono fun k hk => mem_own.2 (.inl (by simpa using hk)))
  have eqx : ∀ S : List Nat, (∀ k ∈ S, k ∉ [a.q, a.lb, a.r, a.tb]) → True := fun _ _ => trivial
  have mk : ExtB (p :: (blk a.x).toList) h1 h3 := ⟨by omega, fun k hk hn => by
    simp [Option.mem_toList] at hn
    exact (b3 k hn.1).trans (a4 k hk hn.2)⟩
  have xq : ∀ k, k ∈ [a.q, a.lb, a.r, a.tb] → k ∉ p :: (blk a.x).toList := fun k hk hm => by
    simp [Option.mem_toList] at hm
    rcases hm with rfl | hm
    · simp at hk
      rcases hk with h | h | h | h
      · exact p1 h
      · exact p2 h
      · exact p3 h
      · exact p4 h
    · exact A.xn k hm (by simp at hk ⊢; rcases hk with h | h | h | h <;> simp [h])
  refine ⟨h2, h3, a1, read_cells g2 rfl, b1, ⟨b2, by have := A1.pn; omega, ?_, A1.ll.ext mk (xq _ (by simp)) (xq _ (by simp)), A1.dt.ext mk (xq _ (by simp)) (xq _ (by simp)), A.nd, ?_⟩, all, by omega⟩
  · rw [frsC_app, List.length_append]
    exact a2.keep (by omega) fun k hk hb => b3 k (fun e => by
      have := A1.pn
      simp [blk] at hb
      omega)
  · intro k hk
    simp [blk] at hk
    have ho := A1.old
    intro hm
    have : k ∈ own p a := by
      simp at hm
      exact mem_own.2 (by rcases hm with h | h | h | h | h <;> simp [h])
    have := ho k this
    omega

theorem add_new (A : Ra h p a fs o M c) (hr : retIdx fs = fs.length) (sm : fs.length < 32) (ho : (fs.length : Int) ∉ o) (hl : o.length < 1000) (hN : 100 ≤ N) :
    ∃ x h', evCallT table 18 N (d + 3) 15 [.c (.ptr p 0)] h = some (.c (.int .i64 (fs.length : Int)), h') ∧ Ra h' p ⟨x, a.q, a.lb, a.r, a.tb⟩ (fs ++ [frZ]) (o ++ [(fs.length : Int)]) M c ∧ ExtB (own p a) h h' ∧ ∀ k, blk x = some k → h.next ≤ k := by
  obtain ⟨r, hr', a1, l, rfl, hl5⟩ := add_loop A (by omega) hN (call := evCallT table 18 N (d + 2)) [.c (.ptr p 0), .c (.int .i64 0), .c (.int .i64 0), .c (.bool false), .tup [], .tup [], .tup [], .tup []] rfl
  obtain ⟨b1, b2, b3, b4, b5, rfl⟩ := list5 hl5
  rw [hr] at hr'
  obtain ⟨n, hn⟩ : ∃ n, n = fs.length := ⟨_, rfl⟩
  have r0 := A.r0
  have lx := A.lx
  have v1 : ((fs.length : Int) == 32) = false := by simp only [beq_eq_false_iff_ne, ne_eq]; omega
  obtain ⟨H1, hH1⟩ : ∃ H, H = h.new (.cells (frC frO)) := ⟨_, rfl⟩
  obtain ⟨H2, H3, e2, q2, w3, A3, y3, nn⟩ := A.grow (by omega) hH1
  have hH1' : H1 = h.new (.cells [.int .i64 0, .int .i64 0, .int .i64 0, .bool false, .nils]) := hH1
  have hlen : (fs ++ [frO]).length = fs.length + 1 := by simp
  have hx3 : (⟨CV.sl H1.next 0 (fs.length + 1) (.dy 5), a.q, a.lb, a.r, a.tb⟩ : AP).x = .sl H1.next 0 (fs ++ [frO]).length (.dy 5) := by rw [hlen]
  obtain ⟨H4, w4, A4, y4, n4⟩ := A3.store (i := fs.length) (by rw [hlen]; omega) hx3 frZ
  have es : (fs ++ [frO]).set fs.length frZ = fs ++ [frZ] := by rw [List.set_append_right _ _ (Nat.le_refl _), Nat.sub_self]; rfl
  rw [es] at A4
  have s0 := A3.r0
  have s1 := A4.r1
  have m1 : Nat.blt fs.length (fs.length + 1) = true := bltT (by omega)
  have rx : h.read p 0 1 = some [a.x] := r0
  obtain ⟨H5, e5, l5, x5⟩ := back_ok (N := N) (d := d) (x := (fs.length : Int)) A4.ll (by omega) (by omega) ho (by omega)
  obtain ⟨A5, y5⟩ := A4.list l5 x5
  have own_sub : ∀ k, k < h.next → k ∉ own p a → k ∉ own p ⟨CV.sl H1.next 0 (fs.length + 1) (.dy 5), a.q, a.lb, a.r, a.tb⟩ := fun k hk hno hm => by
    rcases mem_own.1 hm with h | h | h | h | h | h
    · exact hno (mem_own.2 (.inl h))
    · exact hno (mem_own.2 (.inr (.inl h)))
    · exact hno (mem_own.2 (.inr (.inr (.inl h))))
    · exact hno (mem_own.2 (.inr (.inr (.inr (.inl h)))))
    · exact hno (mem_own.2 (.inr (.inr (.inr (.inr (.inl h))))))
    · simp [blk] at h; omega
  rw [evCallT_eq (F := ir15) rfl rfl rfl]
  unfold ir15
  rw [bodyK_eq]
  simp only [enter_eq, ev_seq, seqK_norm, seqK_exit, seqK_ret, ev_reg, ev_cond, condK_true, condK_false, ev_block, blockK_norm, blockK_ret, blockK_exit, ev_loop, ev_skip, ev_exit, ev_ret, regK_cons, regK_nil, guard_none, guard_some, regG_true, regG_false, regO_some, op_mov, op_conv, op_bin, op_bsl, op_box, op_mks, op_s2b, op_pick, op_un, op_eq, op_len, op_ext, op_load, op_iaddr, op_slice, op_b2s, op_idxS, op_mx, op_mn, op_call, op_store, op_app, op_copy, args_eq, result_one', rv_loc, finish_norm, finish_ret, outK_some, keep_true, keep_false, keep_nil, p_bin, p_pick, p_un, p_eq, p_conv, evNew, pureK_some, newK_some, X.eval, set_none, set_some, List.map_cons, List.map_nil, List.getD_cons_zero, List.getD_cons_succ, List.getD_nil, List.set_cons_zero, List.set_cons_succ, binCV, unCV, isShift, intArithF_eq, shiftF_eq, wrapF_eq, intArith, shift, eqVal, bound, asNat_cast, cond_true, cond_false, BEq.rfl, beq_self_eq_true, evalParts, fillParts, AV.cells, AV.ofCells, XV.av, AV.xv, List.length_cons, List.length_nil, zeros, patch, setMany, List.nil_append, List.cons_append, Nat.ble, Nat.add_eq, Nat.zero_add, Nat.add_zero, Nat.reduceAdd, Nat.reduceMul, Nat.reduceSub, Nat.ble_eq, Nat.reduceLeDiff, Nat.reduceBEq, Int.reduceBEq, Int.reduceNeg, Bool.and_true, Bool.and_false, Bool.true_and, Bool.false_and, Bool.not_true, Bool.not_false, Bool.true_eq_false, Bool.false_eq_true, Int.reduceLT, Int.reduceLE, Int.reduceGT, Int.reduceGE, decide_true, decide_false, Bool.not_eq_true, loopN_norm, loopN_exit, tf, ft, ff, hr', blockK_exit_eq, v1, op_nilchk, p_nilchk, op_faddr, p_faddr, p_load, r0, AV.ofCells, lx, p_iaddr, m1, op_build, p_build', ← hH1', e2, evEff, w3, s0, Nat.zero_add, w4, s1, e5]
  refine ⟨_, _, rfl, A5, ⟨by have := y3.1; have := y4.1; have := y5.1; omega, fun k hk hno => ?_⟩, fun k hk => by simp [blk] at hk; omega⟩
  have hk3 := y3.1
  exact (y5.2 k (by have := y4.1; omega) (own_sub k hk hno)).trans ((y4.2 k (by omega) (own_sub k hk hno)).trans (y3.2 k hk hno))
end
end Lav
