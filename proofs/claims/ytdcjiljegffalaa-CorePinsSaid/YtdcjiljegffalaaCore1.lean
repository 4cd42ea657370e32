/-
  Layer 11: a shard's frames: what lies where; frames that left the order.
-/
import Derived.Test.YtdcjiljegffalaaCApply1
import Derived.Test.YtdcjiljegffalaaMix1
set_option maxRecDepth 100000
set_option linter.unusedSimpArgs false
namespace Lav
open Go (IntKind)

/-- Where a core's parts lie. -/
structure CP where
  p : Nat
  a : AP
  q : Nat
  b : Nat
  r : Nat
  c : Nat
/-- What is its own. -/
def CP.own (z : CP) (k : Nat) : List Nat := k :: z.q :: z.b :: z.r :: z.c :: Lav.own z.p z.a

def usedB (fs : List Fm) (x : Int) : Bool := match fs[x.toNat]? with
  | some f => f.st == 1
  | none => false

structure CH (h : Heap) (k : Nat) (z : CP) (fs : List Fm) (o : List Int) (M : Nat → Option Int) (od ts : List Int) : Prop where
  box : h.get k = some (.cells [.ptr z.p 0, .ptr z.q 0, .ptr z.r 0])
  kn : k < h.next
  ah : AH h z.p z.a fs o M
  ll : LL h z.q z.b 32 od
  rg : RG h z.r z.c ts
  few : ts.length < 8
  nd : [k, z.q, z.b, z.r, z.c].Nodup
  ap : ∀ j ∈ [k, z.q, z.b, z.r, z.c], j ∉ Lav.own z.p z.a
  lo : ∀ x ∈ od, ∃ i : Nat, x = (i : Int) ∧ i < fs.length
  hi : ∀ (i : Nat) (f : Fm), fs[i]? = some f → f.st = 1 → (i : Int) ∈ od

section
variable {N d : Nat} {h : Heap} {k : Nat} {z : CP} {fs : List Fm} {o : List Int} {M : Nat → Option Int} {od ts : List Int}

theorem CH.old (C : CH h k z fs o M od ts) : ∀ j ∈ z.own k, j < h.next := by
  intro j hj
  simp only [CP.own, List.mem_cons] at hj
  rcases hj with rfl | rfl | rfl | rfl | rfl | hj
  · exact C.kn
  · exact C.ll.pn
  · exact C.ll.bn
  · exact C.rg.pn
  · exact C.rg.cn
  · exact C.ah.ar.old j hj
theorem CH.ext {S : List Nat} {h' : Heap} (C : CH h k z fs o M od ts) (e : ExtB S h h') (hd : ∀ j ∈ z.own k, j ∉ S) : CH h' k z fs o M od ts :=
  ⟨e.at_ C.box C.kn (hd k (by simp [CP.own])), Nat.lt_of_lt_of_le C.kn e.1, C.ah.ext e fun j hj => hd j (by simp [CP.own, hj]),
    C.ll.ext e (hd _ (by simp [CP.own])) (hd _ (by simp [CP.own])), C.rg.ext e (hd _ (by simp [CP.own])) (hd _ (by simp [CP.own])), C.few, C.nd, C.ap, C.lo, C.hi⟩
theorem CH.ext' {h' : Heap} (C : CH h k z fs o M od ts) (e : Ext h h') : CH h' k z fs o M od ts := C.ext (e.b []) (by simp)
theorem CH.r0 (C : CH h k z fs o M od ts) : h.read k 0 1 = some [.ptr z.p 0] := read_cells C.box rfl
theorem CH.r1 (C : CH h k z fs o M od ts) : h.read k 1 1 = some [.ptr z.q 0] := read_cells C.box rfl
theorem CH.r2 (C : CH h k z fs o M od ts) : h.read k 2 1 = some [.ptr z.r 0] := read_cells C.box rfl
theorem CH.len (C : CH h k z fs o M od ts) : od.length ≤ 32 := C.ll.le

/-- The order's steps. -/
theorem CH.list {h' : Heap} {od' : List Int} (C : CH h k z fs o M od ts) (l : LL h' z.q z.b 32 od') (e : ExtB [z.q, z.b] h h')
    (lo : ∀ x ∈ od', ∃ i : Nat, x = (i : Int) ∧ i < fs.length) (hi : ∀ (i : Nat) (f : Fm), fs[i]? = some f → f.st = 1 → (i : Int) ∈ od') : CH h' k z fs o M od' ts ∧ ExtB (z.own k) h h' := by
  have n1 := C.nd
  have a1 := C.ap
  simp only [List.nodup_cons, List.mem_cons, not_or, List.not_mem_nil, not_false_eq_true, List.nodup_nil, and_true] at n1
  obtain ⟨⟨p1, p2, p3, p4⟩, ⟨q1, q2, q3⟩, ⟨l1, l2⟩, r1⟩ := n1
  refine ⟨⟨e.at_ C.box C.kn (by simp [p1, p2]), Nat.lt_of_lt_of_le C.kn e.1, C.ah.ext e fun j hj hm => ?_, l, C.rg.ext e (by simp; exact ⟨fun h => q2 h.symm, fun h => l1 h.symm⟩) (by simp; exact ⟨fun h => q3 h.symm, fun h => l2 h.symm⟩), C.few, C.nd, C.ap, lo, hi⟩, e.mono fun j hj => by simp at hj; rcases hj with h | h <;> simp [CP.own, h]⟩
  simp at hm
  rcases hm with rfl | rfl
  · exact a1 _ (by simp) hj
  · exact a1 _ (by simp) hj
/-- The ring's steps. -/
theorem CH.ring {h' : Heap} {ts' : List Int} (C : CH h k z fs o M od ts) (l : RG h' z.r z.c ts') (e : ExtB [z.c] h h') (few : ts'.length < 8) : CH h' k z fs o M od ts' ∧ ExtB (z.own k) h h' := by
  have n1 := C.nd
  have a1 := C.ap
  simp only [List.nodup_cons, List.mem_cons, not_or, List.not_mem_nil, not_false_eq_true, List.nodup_nil, and_true] at n1
  obtain ⟨⟨p1, p2, p3, p4⟩, ⟨q1, q2, q3⟩, ⟨l1, l2⟩, r1⟩ := n1
  refine ⟨⟨e.at_ C.box C.kn (by simp [p4]), Nat.lt_of_lt_of_le C.kn e.1, C.ah.ext e fun j hj hm => ?_, C.ll.ext e (by simp [q3]) (by simp [l2]), l, few, C.nd, C.ap, C.lo, C.hi⟩, e.mono fun j hj => by simp at hj; simp [CP.own, hj]⟩
  simp at hm
  subst hm
  exact a1 _ (by simp) hj
/-- The arena's steps. -/
theorem CH.arena {h' : Heap} {fs' : List Fm} {o' : List Int} {M' : Nat → Option Int} (C : CH h k z fs o M od ts) (l : AH h' z.p z.a fs' o' M') (e : ExtB (Lav.own z.p z.a) h h')
    (lo : ∀ x ∈ od, ∃ i : Nat, x = (i : Int) ∧ i < fs'.length) (hi : ∀ (i : Nat) (f : Fm), fs'[i]? = some f → f.st = 1 → (i : Int) ∈ od) : CH h' k z fs' o' M' od ts ∧ ExtB (z.own k) h h' := by
  have a1 := C.ap
  exact ⟨⟨e.at_ C.box C.kn (a1 _ (by simp)), Nat.lt_of_lt_of_le C.kn e.1, l, C.ll.ext e (a1 _ (by simp)) (a1 _ (by simp)), C.rg.ext e (a1 _ (by simp)) (a1 _ (by simp)), C.few, C.nd, C.ap, lo, hi⟩, e.mono fun j hj => by simp [CP.own, hj]⟩

theorem usedB_eq {i : Nat} (hi : i < fs.length) : usedB fs (i : Int) = (fs[i].st == 1) := by
  simp [usedB, List.getElem?_eq_getElem hi]

/-- Frames that are used no more leave the order. -/
theorem tidy_ok (C : CH h k z fs o M od ts) (hN : 100 ≤ N) : ∃ h', evCallT table 15 N (d + 5) 20 [.c (.ptr k 0)] h = some (.tup [], h') ∧ CH h' k z fs o M (od.filter (usedB fs)) ts ∧ ExtB (z.own k) h h' := by
  have r0 := C.r0
  have sm := C.ah.sm
  have hlen := C.len
  obtain ⟨y, h1, e1, T, x1⟩ : ∃ y h', evCallT table 15 N (d + 4) 9 [.c (.ptr z.p 0)] h = some (.c y, h') ∧ Tells h h' y fs ∧ Ext h h' := frames_ok (N := N) (d := d + 3) C.ah.ar sm hN
  have C1 := C.ext' x1
  have r1 := C1.r1
  obtain ⟨w, h2, e2, W, x2⟩ : ∃ x h', evCallT table 15 N (d + 4) 33 [.c (.ptr z.q 0)] h1 = some (.c x, h') ∧ Made h1 h' x od ∧ Ext h1 h' := all_ok (N := N) (d := d + 1) C1.ll (by omega) (by omega)
  have C2 := C1.ext' x2
  have lw : ∀ loc vals H, evPure loc (.c w :: vals) H (.len .sl (.val 0)) = some (.c (.int .i64 (od.length : Int))) := fun _ _ _ => W.len rfl
  have ynew : ∀ j, blk y = some j → h.next ≤ j := Mine.young T
  have wnew : ∀ j, blk w = some j → h1.next ≤ j := W.young
  have L : ∀ loc, keepOnly ir20_k0 loc = [.c (.ptr k 0), .c y, .junk, .c w, .c (.int .i64 (od.length : Int)), .c (.int .i64 0), .junk, .junk] →
      ∃ r, loopK (evCallT table 15 N (d + 4)) N ir20_k0 ir20_l0 N loc h2 = some r ∧ ∃ l G, r = (.exit 0, l, G) ∧ CH G k z fs o M (od.filter (usedB fs)) ts ∧ ExtB (z.own k) h2 G := by
    intro loc hloc
    refine loop_inv (n := od.length) (fun i loc G => CH G k z fs o M ((od.take i).filter (usedB fs) ++ od.drop i) ts ∧ ExtB (z.own k) h2 G ∧ loc = [.c (.ptr k 0), .c y, .junk, .c w, .c (.int .i64 (od.length : Int)), .c (.int .i64 (i : Int)), .junk, .junk]) _ ?_ ⟨by simpa using C2, ExtB.refl _ _, hloc⟩ (by omega)
    rintro i loc G hi ⟨CG, xg, rfl⟩
    unfold ir20_l0
    by_cases hlt : i < od.length
    · left
      refine ⟨hlt, ?_⟩
      have v1 : decide ((i : Int) < (od.length : Int)) = true := ltNat hlt
      have v2 := succI (i := i) (by omega)
      have m1 : Nat.blt i od.length = true := bltT hlt
      have hold := C.old
      have WG : Made h1 G w od := W.keepB xg fun j hj hm => by have := wnew j hj; have := hold j hm; have := x1.1; omega
      have TG : Tells h G y fs := (show Tells h h2 y fs from Mine.keepB T (x2.b []) (by simp)).keepB xg fun j hj hm => by have := ynew j hj; have := hold j hm; omega
      obtain ⟨bw, ow, cw, rfl, _, rw_⟩ := WG.ints.sl (by omega)
      have k1 := rw_ i hlt
      obtain ⟨f, hf, hfl⟩ := C.lo od[i] (List.getElem_mem hlt)
      obtain ⟨fb, rfl, _, TT⟩ := TG.at_ hfl
      have k2 := TT.s
      have m2 : Nat.blt f fs.length = true := bltT hfl
      rw [hf] at k1
      have hd : od.drop i = (f : Int) :: od.drop (i + 1) := by rw [← hf]; exact List.drop_eq_getElem_cons hlt
      have ht : (od.take (i + 1)).filter (usedB fs) = (od.take i).filter (usedB fs) ++ (if fs[f].st = 1 then [(f : Int)] else []) := by
        rw [List.take_succ_eq_append_getElem hlt, List.filter_append, hf]
        congr 1
        simp only [List.filter_cons, List.filter_nil, usedB_eq hfl]
        by_cases h1 : fs[f].st = 1 <;> simp [h1]
      have nd := CG.ll.nd
      by_cases h1 : fs[f].st = 1
      · rw [h1] at k2
        rw [if_pos h1] at ht
        simp only [enter_eq, ev_seq, seqK_norm, seqK_exit, seqK_ret, ev_reg, ev_cond, condK_true, condK_false, ev_block, blockK_norm, blockK_ret, blockK_exit, ev_loop, ev_skip, ev_exit, ev_ret, regK_cons, regK_nil, guard_none, guard_some, regG_true, regG_false, regO_some, op_mov, op_conv, op_bin, op_bsl, op_box, op_mks, op_s2b, op_pick, op_un, op_eq, op_len, op_ext, op_load, op_iaddr, op_slice, op_b2s, op_idxS, op_mx, op_mn, op_call, op_store, op_app, op_copy, args_eq, result_one', rv_loc, finish_norm, finish_ret, outK_some, keep_true, keep_false, keep_nil, p_bin, p_pick, p_un, p_eq, p_conv, evNew, pureK_some, newK_some, X.eval, set_none, set_some, List.map_cons, List.map_nil, List.getD_cons_zero, List.getD_cons_succ, List.getD_nil, List.set_cons_zero, List.set_cons_succ, binCV, unCV, isShift, intArithF_eq, shiftF_eq, wrapF_eq, intArith, shift, eqVal, bound, asNat_cast, cond_true, cond_false, BEq.rfl, beq_self_eq_true, evalParts, fillParts, AV.cells, AV.ofCells, XV.av, AV.xv, List.length_cons, List.length_nil, zeros, patch, setMany, List.nil_append, List.cons_append, Nat.ble, Nat.add_eq, Nat.zero_add, Nat.add_zero, Nat.reduceAdd, Nat.reduceMul, Nat.reduceSub, Nat.ble_eq, Nat.reduceLeDiff, Nat.reduceBEq, Int.reduceBEq, Int.reduceNeg, Bool.and_true, Bool.and_false, Bool.true_and, Bool.false_and, Bool.not_true, Bool.not_false, Bool.true_eq_false, Bool.false_eq_true, Int.reduceLT, Int.reduceLE, Int.reduceGT, Int.reduceGE, decide_true, decide_false, Bool.not_eq_true, loopN_norm, loopN_exit, tf, ft, ff, v1, v2, p_iaddr, op_faddr, p_faddr, op_nilchk, p_nilchk, p_load, AV.ofCells, m1, k1, m2, k2, bneI, Nat.mul_one]
        refine ⟨_, _, rfl, ?_, xg, rfl⟩
        rw [ht, List.append_assoc, List.singleton_append, ← hd]
        exact CG
      · have u1 : (fs[f].st == 1) = false := by simp only [beq_eq_false_iff_ne, ne_eq]; exact h1
        rw [if_neg h1, List.append_nil] at ht
        have r1 := CG.r1
        have hm : (f : Int) ∈ (od.take i).filter (usedB fs) ++ od.drop i := by rw [hd]; simp
        have hnot : (f : Int) ∉ (od.take i).filter (usedB fs) := fun hh => by
          have := (List.mem_filter.1 hh).2
          rw [usedB_eq hfl, u1] at this
          cases this
        have hl := CG.len
        obtain ⟨G1, e3, l3, x3⟩ : ∃ h', evCallT table 15 N (d + 4) 26 [.c (.ptr z.q 0), .c (.int .i64 (f : Int))] G = some (.c (.bool true), h') ∧ LL h' z.q z.b 32 (((od.take i).filter (usedB fs) ++ od.drop i).erase (f : Int)) ∧ ExtB [z.q, z.b] G h' := out_ok (N := N) (d := d + 2) CG.ll hm (by omega)
        have he : ((od.take i).filter (usedB fs) ++ od.drop i).erase (f : Int) = (od.take (i + 1)).filter (usedB fs) ++ od.drop (i + 1) := by
          rw [List.erase_append_right _ hnot, hd, List.erase_cons_head, ht]
        rw [he] at l3
        obtain ⟨C3, y3⟩ := CG.list l3 x3 (fun x hx => CG.lo x (by rw [← he] at hx; exact List.mem_of_mem_erase hx)) (fun j g hg hs => by
          have := CG.hi j g hg hs
          rw [← he, nd.mem_erase_iff]
          refine ⟨fun e => ?_, this⟩
          have : j = f := by omega
          subst this
          rw [List.getElem?_eq_getElem hfl] at hg
          simp only [Option.some.injEq] at hg
          exact h1 (hg ▸ hs))
        simp only [enter_eq, ev_seq, seqK_norm, seqK_exit, seqK_ret, ev_reg, ev_cond, condK_true, condK_false, ev_block, blockK_norm, blockK_ret, blockK_exit, ev_loop, ev_skip, ev_exit, ev_ret, regK_cons, regK_nil, guard_none, guard_some, regG_true, regG_false, regO_some, op_mov, op_conv, op_bin, op_bsl, op_box, op_mks, op_s2b, op_pick, op_un, op_eq, op_len, op_ext, op_load, op_iaddr, op_slice, op_b2s, op_idxS, op_mx, op_mn, op_call, op_store, op_app, op_copy, args_eq, result_one', rv_loc, finish_norm, finish_ret, outK_some, keep_true, keep_false, keep_nil, p_bin, p_pick, p_un, p_eq, p_conv, evNew, pureK_some, newK_some, X.eval, set_none, set_some, List.map_cons, List.map_nil, List.getD_cons_zero, List.getD_cons_succ, List.getD_nil, List.set_cons_zero, List.set_cons_succ, binCV, unCV, isShift, intArithF_eq, shiftF_eq, wrapF_eq, intArith, shift, eqVal, bound, asNat_cast, cond_true, cond_false, BEq.rfl, beq_self_eq_true, evalParts, fillParts, AV.cells, AV.ofCells, XV.av, AV.xv, List.length_cons, List.length_nil, zeros, patch, setMany, List.nil_append, List.cons_append, Nat.ble, Nat.add_eq, Nat.zero_add, Nat.add_zero, Nat.reduceAdd, Nat.reduceMul, Nat.reduceSub, Nat.ble_eq, Nat.reduceLeDiff, Nat.reduceBEq, Int.reduceBEq, Int.reduceNeg, Bool.and_true, Bool.and_false, Bool.true_and, Bool.false_and, Bool.not_true, Bool.not_false, Bool.true_eq_false, Bool.false_eq_true, Int.reduceLT, Int.reduceLE, Int.reduceGT, Int.reduceGE, decide_true, decide_false, Bool.not_eq_true, loopN_norm, loopN_exit, tf, ft, ff, v1, v2, p_iaddr, op_faddr, p_faddr, op_nilchk, p_nilchk, p_load, AV.ofCells, m1, k1, m2, k2, bneI, u1, r1, e3, Nat.mul_one]
        exact ⟨_, _, rfl, C3, xg.trans y3, rfl⟩
    · right
      have hin : i = od.length := by omega
      subst hin
      have v1 : decide ((od.length : Int) < (od.length : Int)) = false := geNat (Nat.le_refl _)
      rw [List.take_length, List.drop_length, List.append_nil] at CG
      simp only [enter_eq, ev_seq, seqK_norm, seqK_exit, seqK_ret, ev_reg, ev_cond, condK_true, condK_false, ev_block, blockK_norm, blockK_ret, blockK_exit, ev_loop, ev_skip, ev_exit, ev_ret, regK_cons, regK_nil, guard_none, guard_some, regG_true, regG_false, regO_some, op_mov, op_conv, op_bin, op_bsl, op_box, op_mks, op_s2b, op_pick, op_un, op_eq, op_len, op_ext, op_load, op_iaddr, op_slice, op_b2s, op_idxS, op_mx, op_mn, op_call, op_store, op_app, op_copy, args_eq, result_one', rv_loc, finish_norm, finish_ret, outK_some, keep_true, keep_false, keep_nil, p_bin, p_pick, p_un, p_eq, p_conv, evNew, pureK_some, newK_some, X.eval, set_none, set_some, List.map_cons, List.map_nil, List.getD_cons_zero, List.getD_cons_succ, List.getD_nil, List.set_cons_zero, List.set_cons_succ, binCV, unCV, isShift, intArithF_eq, shiftF_eq, wrapF_eq, intArith, shift, eqVal, bound, asNat_cast, cond_true, cond_false, BEq.rfl, beq_self_eq_true, evalParts, fillParts, AV.cells, AV.ofCells, XV.av, AV.xv, List.length_cons, List.length_nil, zeros, patch, setMany, List.nil_append, List.cons_append, Nat.ble, Nat.add_eq, Nat.zero_add, Nat.add_zero, Nat.reduceAdd, Nat.reduceMul, Nat.reduceSub, Nat.ble_eq, Nat.reduceLeDiff, Nat.reduceBEq, Int.reduceBEq, Int.reduceNeg, Bool.and_true, Bool.and_false, Bool.true_and, Bool.false_and, Bool.not_true, Bool.not_false, Bool.true_eq_false, Bool.false_eq_true, Int.reduceLT, Int.reduceLE, Int.reduceGT, Int.reduceGE, decide_true, decide_false, Bool.not_eq_true, loopN_norm, loopN_exit, tf, ft, ff, v1]
      exact ⟨_, rfl, by simp, _, _, rfl, CG, xg⟩
  obtain ⟨r, ⟨l, G, rfl, CG, xg⟩, hr⟩ := loop_any L rfl
  rw [evCallT_eq (F := ir20) rfl rfl rfl]
  unfold ir20
  rw [bodyK_eq]
  simp only [enter_eq, ev_seq, seqK_norm, seqK_exit, seqK_ret, ev_reg, ev_cond, condK_true, condK_false, ev_block, blockK_norm, blockK_ret, blockK_exit, ev_loop, ev_skip, ev_exit, ev_ret, regK_cons, regK_nil, guard_none, guard_some, regG_true, regG_false, regO_some, op_mov, op_conv, op_bin, op_bsl, op_box, op_mks, op_s2b, op_pick, op_un, op_eq, op_len, op_ext, op_load, op_iaddr, op_slice, op_b2s, op_idxS, op_mx, op_mn, op_call, op_store, op_app, op_copy, args_eq, result_one', rv_loc, finish_norm, finish_ret, outK_some, keep_true, keep_false, keep_nil, p_bin, p_pick, p_un, p_eq, p_conv, evNew, pureK_some, newK_some, X.eval, set_none, set_some, List.map_cons, List.map_nil, List.getD_cons_zero, List.getD_cons_succ, List.getD_nil, List.set_cons_zero, List.set_cons_succ, binCV, unCV, isShift, intArithF_eq, shiftF_eq, wrapF_eq, intArith, shift, eqVal, bound, asNat_cast, cond_true, cond_false, BEq.rfl, beq_self_eq_true, evalParts, fillParts, AV.cells, AV.ofCells, XV.av, AV.xv, List.length_cons, List.length_nil, zeros, patch, setMany, List.nil_append, List.cons_append, Nat.ble, Nat.add_eq, Nat.zero_add, Nat.add_zero, Nat.reduceAdd, Nat.reduceMul, Nat.reduceSub, Nat.ble_eq, Nat.reduceLeDiff, Nat.reduceBEq, Int.reduceBEq, Int.reduceNeg, Bool.and_true, Bool.and_false, Bool.true_and, Bool.false_and, Bool.not_true, Bool.not_false, Bool.true_eq_false, Bool.false_eq_true, Int.reduceLT, Int.reduceLE, Int.reduceGT, Int.reduceGE, decide_true, decide_false, Bool.not_eq_true, loopN_norm, loopN_exit, tf, ft, ff, op_faddr, p_faddr, op_nilchk, p_nilchk, p_load, AV.ofCells, r0, e1, r1, e2, lw]
  rw [hr _ rfl]
  simp only [enter_eq, ev_seq, seqK_norm, seqK_exit, seqK_ret, ev_reg, ev_cond, condK_true, condK_false, ev_block, blockK_norm, blockK_ret, blockK_exit, ev_loop, ev_skip, ev_exit, ev_ret, regK_cons, regK_nil, guard_none, guard_some, regG_true, regG_false, regO_some, op_mov, op_conv, op_bin, op_bsl, op_box, op_mks, op_s2b, op_pick, op_un, op_eq, op_len, op_ext, op_load, op_iaddr, op_slice, op_b2s, op_idxS, op_mx, op_mn, op_call, op_store, op_app, op_copy, args_eq, result_one', rv_loc, finish_norm, finish_ret, outK_some, keep_true, keep_false, keep_nil, p_bin, p_pick, p_un, p_eq, p_conv, evNew, pureK_some, newK_some, X.eval, set_none, set_some, List.map_cons, List.map_nil, List.getD_cons_zero, List.getD_cons_succ, List.getD_nil, List.set_cons_zero, List.set_cons_succ, binCV, unCV, isShift, intArithF_eq, shiftF_eq, wrapF_eq, intArith, shift, eqVal, bound, asNat_cast, cond_true, cond_false, BEq.rfl, beq_self_eq_true, evalParts, fillParts, AV.cells, AV.ofCells, XV.av, AV.xv, List.length_cons, List.length_nil, zeros, patch, setMany, List.nil_append, List.cons_append, Nat.ble, Nat.add_eq, Nat.zero_add, Nat.add_zero, Nat.reduceAdd, Nat.reduceMul, Nat.reduceSub, Nat.ble_eq, Nat.reduceLeDiff, Nat.reduceBEq, Int.reduceBEq, Int.reduceNeg, Bool.and_true, Bool.and_false, Bool.true_and, Bool.false_and, Bool.not_true, Bool.not_false, Bool.true_eq_false, Bool.false_eq_true, Int.reduceLT, Int.reduceLE, Int.reduceGT, Int.reduceGE, decide_true, decide_false, Bool.not_eq_true, loopN_norm, loopN_exit, tf, ft, ff, blockK_exit_eq, result, evResults]
  exact ⟨_, rfl, CG, ((x1.b _).trans (x2.b _)).trans xg⟩
end
end Lav
