/-
  Proved: whatever steps come in, lavabolaw5.TableFinds returns true and changes nothing that was there. No conditions beyond the given statement's.
-/
import Derived.Test.YtgjceiiddcbfoaaRows
import Derived.Test.YtgjceiiddcbfoaaTable1
import Derived.Test.YtgjceiiddcbfoaaTable2
import Derived.Test.YtgjceiiddcbfoaaTable3
import Derived.Test.YtgjceiiddcbfoaaFwO
import Derived.Test.YtgjceiiddcbfoaaFwR
import Derived.WalkKit
import Derived.ProofKit
import Derived.OpenShut
import Derived.ShutString
import Derived.ChangeOld
import Derived.Below
set_option maxRecDepth 100000
set_option linter.unusedSimpArgs false
namespace Lav
open Go (IntKind)
/-- What the law's own notes say of the table. -/
def Notes (M : Nat → Option Int) (ins : List Bool) (vs : List Int) : Prop := ins.length = 30 ∧ vs.length = 30 ∧ (∀ v ∈ vs, 0 ≤ v) ∧ (∀ k, M k = if ins.getD k false = true then some (vs.getD k 0) else none)

theorem rep_false (n k : Nat) : (List.replicate n false).getD k false = false := by
  rw [List.getD_eq_getElem?_getD, List.getElem?_replicate]
  split <;> rfl

theorem bneI {a b : Int} : (a != b) = !(a == b) := rfl

theorem inner {x : CV} {h : Heap} {p b i1 i2 : Nat} {M : Nat → Option Int} {ins : List Bool} {vs : List Int} {c i : Nat} (t : DT h p b 30 M c) (hN : Notes M ins vs) (g1 : h.get i1 = some (.cells (ins.map bcell))) (g2 : h.get i2 = some (.cells (vs.map icell))) :
    ∀ loc, keepOnly ir7_k0 loc = [.c x, .junk, .c (.ptr p 0), .c (.ptr i1 0), .c (.ptr i2 0), .c (.int .i64 (c : Int)), .c (.int .i64 (i : Int)), .junk, .junk, .junk, .junk, .c (.int .i64 0), .junk, .junk, .junk, .junk, .junk, .junk, .junk, .junk, .junk] →
    ∃ r, loopK (evCallT table 25 200 8) 200 ir7_k0 ir7_l0 200 loc h = some r ∧ ∃ l, r = (.exit 2, .c x :: .junk :: .c (.ptr p 0) :: .c (.ptr i1 0) :: .c (.ptr i2 0) :: .c (.int .i64 (c : Int)) :: .c (.int .i64 (i : Int)) :: l, h) ∧ l.length = 14 := by
  intro loc hloc
  obtain ⟨hl1, hl2, hv, hM⟩ := hN
  refine loop_inv (n := 30) (fun j loc h' => h' = h ∧ loc = [.c x, .junk, .c (.ptr p 0), .c (.ptr i1 0), .c (.ptr i2 0), .c (.int .i64 (c : Int)), .c (.int .i64 (i : Int)), .junk, .junk, .junk, .junk, .c (.int .i64 (j : Int)), .junk, .junk, .junk, .junk, .junk, .junk, .junk, .junk, .junk]) _ ?_ ⟨rfl, hloc⟩ (by omega)
  rintro j loc h' hj ⟨rfl, rfl⟩
  unfold ir7_l0
  by_cases hlt : j < 30
  · left
    refine ⟨hlt, ?_⟩
    have v1 : decide ((j : Int) < 30) = true := ltNat (n := 30) hlt
    have v2 := succI (i := j) (by omega)
    have m1 : Nat.blt j 30 = true := bltT hlt
    have e1 : evCallT table 25 200 8 30 [.c (.ptr p 0), .c (.int .i64 (j : Int))] h' = some (.c (.int .i64 ((M j).getD (-1))), h') := t.get (N := 200) (d := 5) j (by omega)
    have k1 : h'.read i1 j 1 = some [.bool ins[j]] := read_cells g1 (by simp [bcell, hl1, hlt])
    have k2 : h'.read i2 j 1 = some [.int .i64 vs[j]] := read_cells g2 (by simp [icell, hl2, hlt])
    have hMj := hM j
    have g0 : ins.getD j false = ins[j] := by simp [List.getD_eq_getElem?_getD, hl1, hlt]
    have g0' : vs.getD j 0 = vs[j] := by simp [List.getD_eq_getElem?_getD, hl2, hlt]
    rw [g0, g0'] at hMj
    have eqq : ∀ a : Int, (a == a) = true := fun a => by simp
    cases hb : ins[j] with
    | false =>
      rw [hb] at k1 hMj
      rw [if_neg (by simp)] at hMj
      rw [hMj] at e1
      have e1' : evCallT table 25 200 8 30 [.c (.ptr p 0), .c (.int .i64 (j : Int))] h' = some (.c (.int .i64 (-1)), h') := e1
      simp only [enter_eq, ev_seq, seqK_norm, seqK_exit, seqK_ret, ev_reg, ev_cond, condK_true, condK_false, ev_block, blockK_norm, blockK_ret, blockK_exit, ev_loop, ev_skip, ev_exit, ev_ret, regK_cons, regK_nil, guard_none, guard_some, regG_true, regG_false, regO_some, op_mov, op_conv, op_bin, op_bsl, op_box, op_mks, op_s2b, op_pick, op_un, op_eq, op_len, op_ext, op_load, op_iaddr, op_slice, op_b2s, op_idxS, op_mx, op_mn, op_call, op_store, op_app, op_copy, args_eq, result_one', rv_loc, finish_norm, finish_ret, outK_some, keep_true, keep_false, keep_nil, p_bin, p_pick, p_un, p_eq, p_conv, evNew, pureK_some, newK_some, X.eval, set_none, set_some, List.map_cons, List.map_nil, List.getD_cons_zero, List.getD_cons_succ, List.getD_nil, List.set_cons_zero, List.set_cons_succ, binCV, unCV, isShift, intArithF_eq, shiftF_eq, wrapF_eq, intArith, shift, eqVal, bound, asNat_cast, cond_true, cond_false, BEq.rfl, beq_self_eq_true, evalParts, fillParts, AV.cells, AV.ofCells, XV.av, AV.xv, List.length_cons, List.length_nil, zeros, patch, setMany, List.nil_append, List.cons_append, Nat.ble, Nat.add_eq, Nat.zero_add, Nat.add_zero, Nat.reduceAdd, Nat.reduceMul, Nat.reduceSub, Nat.ble_eq, Nat.reduceLeDiff, Nat.reduceBEq, Int.reduceBEq, Int.reduceNeg, Bool.and_true, Bool.and_false, Bool.true_and, Bool.false_and, Bool.not_true, Bool.not_false, Bool.true_eq_false, Bool.false_eq_true, Int.reduceLT, Int.reduceLE, Int.reduceGT, Int.reduceGE, decide_true, decide_false, Bool.not_eq_true, loopN_norm, loopN_exit, tf, ft, ff, ev_dreg, dregK_nil, dregK_cons, dregE_true, dregP_some, dregX_some, d_mov, d_bin, d_eq, d_pick, d_un, d_conv, d_b2s, d_len, d_load, d_iaddr, d_slice, d_ext, d_call, d_store, chk_done, chk_none, chk_some, chkG_true, chkG_false, chkOne_nil, chkOne_cons, chkH_some, chkV_same, stage_none, stage_some, look_hit, look_miss, news_nil, wb_cons, wb_nil, skip0, List.reverse_cons, List.reverse_nil, d_iaddrA, d_iaddrA_not, d_mov_not, d_bin_not, d_load_not, d_pick_not, d_un_not, d_call_not, bneI, v1, v2, p_iaddrA, p_load, m1, Nat.mul_one, k1, k2, e1', AV.ofCells, eqq]
      exact ⟨_, _, rfl, rfl, rfl⟩
    | true =>
      rw [hb] at k1 hMj
      rw [if_pos rfl] at hMj
      rw [hMj] at e1
      have e1' : evCallT table 25 200 8 30 [.c (.ptr p 0), .c (.int .i64 (j : Int))] h' = some (.c (.int .i64 vs[j]), h') := e1
      simp only [enter_eq, ev_seq, seqK_norm, seqK_exit, seqK_ret, ev_reg, ev_cond, condK_true, condK_false, ev_block, blockK_norm, blockK_ret, blockK_exit, ev_loop, ev_skip, ev_exit, ev_ret, regK_cons, regK_nil, guard_none, guard_some, regG_true, regG_false, regO_some, op_mov, op_conv, op_bin, op_bsl, op_box, op_mks, op_s2b, op_pick, op_un, op_eq, op_len, op_ext, op_load, op_iaddr, op_slice, op_b2s, op_idxS, op_mx, op_mn, op_call, op_store, op_app, op_copy, args_eq, result_one', rv_loc, finish_norm, finish_ret, outK_some, keep_true, keep_false, keep_nil, p_bin, p_pick, p_un, p_eq, p_conv, evNew, pureK_some, newK_some, X.eval, set_none, set_some, List.map_cons, List.map_nil, List.getD_cons_zero, List.getD_cons_succ, List.getD_nil, List.set_cons_zero, List.set_cons_succ, binCV, unCV, isShift, intArithF_eq, shiftF_eq, wrapF_eq, intArith, shift, eqVal, bound, asNat_cast, cond_true, cond_false, BEq.rfl, beq_self_eq_true, evalParts, fillParts, AV.cells, AV.ofCells, XV.av, AV.xv, List.length_cons, List.length_nil, zeros, patch, setMany, List.nil_append, List.cons_append, Nat.ble, Nat.add_eq, Nat.zero_add, Nat.add_zero, Nat.reduceAdd, Nat.reduceMul, Nat.reduceSub, Nat.ble_eq, Nat.reduceLeDiff, Nat.reduceBEq, Int.reduceBEq, Int.reduceNeg, Bool.and_true, Bool.and_false, Bool.true_and, Bool.false_and, Bool.not_true, Bool.not_false, Bool.true_eq_false, Bool.false_eq_true, Int.reduceLT, Int.reduceLE, Int.reduceGT, Int.reduceGE, decide_true, decide_false, Bool.not_eq_true, loopN_norm, loopN_exit, tf, ft, ff, ev_dreg, dregK_nil, dregK_cons, dregE_true, dregP_some, dregX_some, d_mov, d_bin, d_eq, d_pick, d_un, d_conv, d_b2s, d_len, d_load, d_iaddr, d_slice, d_ext, d_call, d_store, chk_done, chk_none, chk_some, chkG_true, chkG_false, chkOne_nil, chkOne_cons, chkH_some, chkV_same, stage_none, stage_some, look_hit, look_miss, news_nil, wb_cons, wb_nil, skip0, List.reverse_cons, List.reverse_nil, d_iaddrA, d_iaddrA_not, d_mov_not, d_bin_not, d_load_not, d_pick_not, d_un_not, d_call_not, bneI, v1, v2, p_iaddrA, p_load, m1, Nat.mul_one, k1, k2, e1', AV.ofCells, eqq]
      exact ⟨_, _, rfl, rfl, rfl⟩
  · right
    have hj30 : j = 30 := by omega
    subst hj30
    simp only [enter_eq, ev_seq, seqK_norm, seqK_exit, seqK_ret, ev_reg, ev_cond, condK_true, condK_false, ev_block, blockK_norm, blockK_ret, blockK_exit, ev_loop, ev_skip, ev_exit, ev_ret, regK_cons, regK_nil, guard_none, guard_some, regG_true, regG_false, regO_some, op_mov, op_conv, op_bin, op_bsl, op_box, op_mks, op_s2b, op_pick, op_un, op_eq, op_len, op_ext, op_load, op_iaddr, op_slice, op_b2s, op_idxS, op_mx, op_mn, op_call, op_store, op_app, op_copy, args_eq, result_one', rv_loc, finish_norm, finish_ret, outK_some, keep_true, keep_false, keep_nil, p_bin, p_pick, p_un, p_eq, p_conv, evNew, pureK_some, newK_some, X.eval, set_none, set_some, List.map_cons, List.map_nil, List.getD_cons_zero, List.getD_cons_succ, List.getD_nil, List.set_cons_zero, List.set_cons_succ, binCV, unCV, isShift, intArithF_eq, shiftF_eq, wrapF_eq, intArith, shift, eqVal, bound, asNat_cast, cond_true, cond_false, BEq.rfl, beq_self_eq_true, evalParts, fillParts, AV.cells, AV.ofCells, XV.av, AV.xv, List.length_cons, List.length_nil, zeros, patch, setMany, List.nil_append, List.cons_append, Nat.ble, Nat.add_eq, Nat.zero_add, Nat.add_zero, Nat.reduceAdd, Nat.reduceMul, Nat.reduceSub, Nat.ble_eq, Nat.reduceLeDiff, Nat.reduceBEq, Int.reduceBEq, Int.reduceNeg, Bool.and_true, Bool.and_false, Bool.true_and, Bool.false_and, Bool.not_true, Bool.not_false, Bool.true_eq_false, Bool.false_eq_true, Int.reduceLT, Int.reduceLE, Int.reduceGT, Int.reduceGE, decide_true, decide_false, Bool.not_eq_true, loopN_norm, loopN_exit, tf, ft, ff]
    exact ⟨_, rfl, by simp, _, rfl, rfl⟩

theorem tableFinds {x : CV} {h : Heap} {n : Nat} {xs : List Int} (hx : Recs 3 h x n xs) : good (evCallT table 25 200 9 7 [.c x] h) = true := by
  have lx : ∀ (loc vals : List AV) (h : Heap), evPure loc (.c x :: vals) h (.len .sl (.val 0)) = some (.c (.int .i64 (n : Int))) := fun _ _ _ => hx.len rfl
  obtain ⟨p, b, h1, e1, t1, x1, hp1, hb1, hpn, hbn⟩ : ∃ p b h', evCallT table 25 200 8 27 [.c (.int .i64 30)] h = some (.c (.ptr p 0), h') ∧ DT h' p b 30 (fun _ => none) 0 ∧ Ext h h' ∧ h.next ≤ p ∧ h.next ≤ b ∧ p < h'.next ∧ b < h'.next := DT.new (N := 200) (d := 6) 30 h (by omega) (by omega) (by omega)
  generalize hA : (h1.new (.cells ((List.replicate 30 false).map bcell))) = hA' 
  generalize hB : (hA'.new (.cells ((List.replicate 30 (0 : Int)).map icell))) = h2
  obtain ⟨i1, hi1⟩ : ∃ i, i = h1.next := ⟨_, rfl⟩
  obtain ⟨i2, hi2⟩ : ∃ i, i = hA'.next := ⟨_, rfl⟩
  have nA : hA'.next = h1.next + 1 := by rw [← hA]; rfl
  have n2 : h2.next = h1.next + 2 := by rw [← hB]; show hA'.next + 1 = _; omega
  have x2 : Ext h1 h2 := by rw [← hB, ← hA]; exact ((Ext.refl _).new _).new _
  have g1 : h2.get i1 = some (.cells ((List.replicate 30 false).map bcell)) := by rw [← hB, get_new_old (by omega), ← hA, hi1]; exact get_new_at
  have g2 : h2.get i2 = some (.cells ((List.replicate 30 (0 : Int)).map icell)) := by rw [← hB, hi2]; exact get_new_at
  have t2 : DT h2 p b 30 (fun _ => none) 0 := t1.ext (x2.b []) (by simp) (by simp)
  have hx2 : Recs 3 h2 x n xs := (hx.ext x1).ext x2
  have hxb : ∀ k, blk x = some k → k ∉ [p, b] ∧ k ≠ i1 ∧ k ≠ i2 := fun k hk => by
    rcases hx.2 with ⟨rfl, _⟩ | ⟨i, o, cc, rfl, hi, _⟩
    · cases hk
    · simp [blk] at hk; have := x1.1; simp; omega
  rw [evCallT_eq (F := ir7) rfl rfl rfl]
  unfold ir7
  rw [bodyK_eq]
  have eqq : ∀ a : Int, (a == a) = true := fun a => by simp
  have L : ∀ loc, keepOnly ir7_k1 loc = [.c x, .junk, .c (.ptr p 0), .c (.ptr i1 0), .c (.ptr i2 0), .c (.int .i64 0), .c (.int .i64 0), .junk, .junk, .junk, .junk, .junk, .junk, .junk, .junk, .junk, .junk, .junk, .junk, .junk, .junk] →
      ∃ r, loopK (evCallT table 25 200 8) 200 ir7_k1 ir7_l1 200 loc h2 = some r ∧ ∃ l h' M, ∃ c : Nat, r = (.exit 0, .c x :: .junk :: .c (.ptr p 0) :: .c (.ptr i1 0) :: .c (.ptr i2 0) :: .c (.int .i64 (c : Int)) :: l, h') ∧ DT h' p b 30 M c := by
    intro loc hloc
    refine loop_inv (n := min n 100) (fun i loc h' => ∃ (M : Nat → Option Int) (ins : List Bool) (vs : List Int), DT h' p b 30 M (bcnt ins) ∧ Notes M ins vs ∧ h'.get i1 = some (.cells (ins.map bcell)) ∧ h'.get i2 = some (.cells (vs.map icell)) ∧ i1 < h'.next ∧ i2 < h'.next ∧ Recs 3 h' x n xs ∧
      loc = [.c x, .junk, .c (.ptr p 0), .c (.ptr i1 0), .c (.ptr i2 0), .c (.int .i64 ((bcnt ins : Nat) : Int)), .c (.int .i64 (i : Int)), .junk, .junk, .junk, .junk, .junk, .junk, .junk, .junk, .junk, .junk, .junk, .junk, .junk, .junk]) _ ?_
      ⟨_, List.replicate 30 false, List.replicate 30 0, t2, ⟨by simp, by simp, by simp, fun k => by rw [rep_false 30 k]; rfl⟩, g1, g2, by omega, by omega, hx2, hloc⟩ (by omega)
    rintro i loc h' hi ⟨M, ins, vs, t, hN, g1, g2, hn1, hn2, hx', rfl⟩
    unfold ir7_l1
    by_cases hlt : i < min n 100
    · left
      refine ⟨hlt, ?_⟩
      have v1 : decide ((i : Int) < (n : Int)) = true := ltNat (by omega)
      have v4 : decide ((i : Int) < 100) = true := ltNat (n := 100) (by omega)
      have v2 := succI (i := i) (by omega)
      obtain ⟨bx, o, cc, rfl, hbn', rx⟩ := hx'.sl (by omega)
      obtain ⟨hb1', hb2', hb3'⟩ := hxb bx rfl
      have m0 : Nat.blt i n = true := bltT (by omega)
      have r0 := rx i 0 (by omega) (by omega)
      have r1 := rx i 1 (by omega) (by omega)
      have r2 := rx i 2 (by omega) (by omega)
      simp only [Nat.add_zero] at r0
      obtain ⟨k, hk, ek⟩ := few (a := xs.getD (i * 3 + 1) 0) (m := 30) (by omega) (by omega)
      have ek' : IntKind.i64.wrap (Int.tmod (IntKind.u64.wrap (xs.getD (i * 3 + 1) 0)) 30) = (k : Int) := ek
      obtain ⟨v, hv, ev⟩ := few (a := xs.getD (i * 3 + 2) 0) (m := 1000) (by omega) (by omega)
      have ev' : IntKind.i64.wrap (Int.tmod (IntKind.u64.wrap (xs.getD (i * 3 + 2) 0)) 1000) = (v : Int) := ev
      have hN' := hN
      obtain ⟨hl1, hl2, hpos, hM⟩ := hN'
      have mk : Nat.blt k 30 = true := bltT hk
      have hMk := hM k
      have q0 : ins.getD k false = ins[k] := by simp [List.getD_eq_getElem?_getD, hl1, hk]
      have q0' : vs.getD k 0 = vs[k] := by simp [List.getD_eq_getElem?_getD, hl2, hk]
      rw [q0, q0'] at hMk
      have hcount : bcnt ins ≤ 30 := by
        have h1 : ∀ l : List Bool, bcnt l ≤ l.length := fun l => by
          induction l with
          | nil => exact Nat.le_refl _
          | cons c l ih => cases c <;> simp [bcnt] <;> omega
        have := h1 ins; omega
      have hne12 : i1 ≠ i2 := by omega
      have hp12 : p ≠ i1 ∧ p ≠ i2 ∧ b ≠ i1 ∧ b ≠ i2 := by omega
      -- the notes turned
      have turn : ∀ (bb : Bool) (w : Int), 0 ≤ w → Notes (fun j => if j = k then (if bb = true then some w else none) else M j) (ins.set k bb) (vs.set k w) := fun bb w hw => by
        refine ⟨by simpa using hl1, by simpa using hl2, fun z hz => ?_, fun j => ?_⟩
        · rcases List.mem_or_eq_of_mem_set hz with h3 | h3
          · exact hpos z h3
          · omega
        · by_cases ej : j = k
          · subst ej
            simp [List.getD_eq_getElem?_getD, hl1, hl2, hk]
          · show (if j = k then (if bb = true then some w else none) else M j) = _
            rw [if_neg ej, hM j]
            simp only [List.getD_eq_getElem?_getD, List.getElem?_set_ne (Ne.symm ej)]
      have rdH : ∀ H : Heap, H.get bx = h'.get bx → H.read bx (o + i * 3) 1 = some [.int .i64 (xs.getD (i * 3) 0)] ∧ H.read bx (o + i * 3 + 1) 1 = some [.int .i64 (xs.getD (i * 3 + 1) 0)] ∧ H.read bx (o + i * 3 + 2) 1 = some [.int .i64 (xs.getD (i * 3 + 2) 0)] := fun H e => by
        simp only [Heap.read] at r0 r1 r2 ⊢
        rw [e]; exact ⟨r0, r1, r2⟩
      cases hkind : (IntKind.i64.wrap ((BitVec.ofInt IntKind.i64.bits (xs.getD (i * 3) 0) &&& BitVec.ofInt IntKind.i64.bits 1).toNat : Int) == 0) with
      | true =>
        cases hb : ins[k] with
        | true =>
          rw [hb, if_pos rfl] at hMk
          have e2 : evCallT table 25 200 8 28 [.c (.ptr p 0), .c (.int .i64 (k : Int)), .c (.int .i64 (v : Int))] h' = some (.c (.int .i64 13), h') := t.put_held (N := 200) (d := 5) hMk (v : Int) (by omega)
          have k1 : h'.read i1 k 1 = some [.bool true] := read_cells g1 (by simp [bcell, hl1, hk, hb])
          obtain ⟨r, hr, l, rfl, hl⟩ := inner (x := .sl bx o n cc) (i := i) t hN g1 g2 [.c (.sl bx o n cc), .junk, .c (.ptr p 0), .c (.ptr i1 0), .c (.ptr i2 0), .c (.int .i64 (bcnt ins : Int)), .c (.int .i64 (i : Int)), .c (.int .i64 (k : Int)), .c (.int .i64 (v : Int)), .c (.int .i64 13), .junk, .c (.int .i64 0), .junk, .c (.bool true), .c (.bool true), .c (.bool false), .c (.bool false), .junk, .junk, .junk, .junk] rfl
          match l, hl with
          | [l0, l1, l2, l3, l4, l5, l6, l7, l8, l9, l10, l11, l12, l13], _ =>
            simp only [enter_eq, ev_seq, seqK_norm, seqK_exit, seqK_ret, ev_reg, ev_cond, condK_true, condK_false, ev_block, blockK_norm, blockK_ret, blockK_exit, ev_loop, ev_skip, ev_exit, ev_ret, regK_cons, regK_nil, guard_none, guard_some, regG_true, regG_false, regO_some, op_mov, op_conv, op_bin, op_bsl, op_box, op_mks, op_s2b, op_pick, op_un, op_eq, op_len, op_ext, op_load, op_iaddr, op_slice, op_b2s, op_idxS, op_mx, op_mn, op_call, op_store, op_app, op_copy, args_eq, result_one', rv_loc, finish_norm, finish_ret, outK_some, keep_true, keep_false, keep_nil, p_bin, p_pick, p_un, p_eq, p_conv, evNew, pureK_some, newK_some, X.eval, set_none, set_some, List.map_cons, List.map_nil, List.getD_cons_zero, List.getD_cons_succ, List.getD_nil, List.set_cons_zero, List.set_cons_succ, binCV, unCV, isShift, intArithF_eq, shiftF_eq, wrapF_eq, intArith, shift, eqVal, bound, asNat_cast, cond_true, cond_false, BEq.rfl, beq_self_eq_true, evalParts, fillParts, AV.cells, AV.ofCells, XV.av, AV.xv, List.length_cons, List.length_nil, zeros, patch, setMany, List.nil_append, List.cons_append, Nat.ble, Nat.add_eq, Nat.zero_add, Nat.add_zero, Nat.reduceAdd, Nat.reduceMul, Nat.reduceSub, Nat.ble_eq, Nat.reduceLeDiff, Nat.reduceBEq, Int.reduceBEq, Int.reduceNeg, Bool.and_true, Bool.and_false, Bool.true_and, Bool.false_and, Bool.not_true, Bool.not_false, Bool.true_eq_false, Bool.false_eq_true, Int.reduceLT, Int.reduceLE, Int.reduceGT, Int.reduceGE, decide_true, decide_false, Bool.not_eq_true, loopN_norm, loopN_exit, tf, ft, ff, bneI, lx, v1, v2, v4, p_iaddr, p_faddr, op_faddr, p_load, AV.ofCells, m0, r0, r1, r2, ek', ev', hkind, e2, op_iaddrA, p_iaddrA, mk, Nat.mul_one, k1, hr, blockK_exit_eq]
            exact ⟨_, _, rfl, M, ins, vs, t, hN, g1, g2, hn1, hn2, hx', rfl⟩
        | false =>
          rw [hb, if_neg (by simp)] at hMk
          have hlt30 : bcnt ins < 30 := by have := bcnt_lt ins k (by omega) hb; omega
          obtain ⟨h3, e2, t3, x3⟩ : ∃ h'', evCallT table 25 200 8 28 [.c (.ptr p 0), .c (.int .i64 (k : Int)), .c (.int .i64 (v : Int))] h' = some (.c (.int .i64 0), h'') ∧ DT h'' p b 30 (fun j => if j = k then some (v : Int) else M j) (bcnt ins + 1) ∧ ExtB [p, b] h' h'' := t.put_new (N := 200) (d := 5) hMk (v : Int) hlt30 (by omega)
          have g1' := x3.at_ g1 hn1 (by simp; omega)
          have g2' := x3.at_ g2 hn2 (by simp; omega)
          have k1 : h3.read i1 k 1 = some [.bool false] := read_cells g1' (by simp [bcell, hl1, hk, hb])
          have W1 := write_one (v := .bool true) g1' (show k < (ins.map bcell).length by simp [hl1, hk])
          have W2 : (h3.put i1 (.cells ((ins.map bcell).set k (.bool true)))).write i2 k [.int .i64 (v : Int)] = some ((h3.put i1 (.cells ((ins.map bcell).set k (.bool true)))).put i2 (.cells ((vs.map icell).set k (.int .i64 (v : Int))))) :=
            write_one (v := .int .i64 (v : Int)) ((get_put_ne (Ne.symm hne12)).trans g2') (show k < (vs.map icell).length by simp [hl2, hk])
          generalize hH : (h3.put i1 (.cells ((ins.map bcell).set k (.bool true)))).put i2 (.cells ((vs.map icell).set k (.int .i64 (v : Int)))) = H at *
          have xH : ExtB [i1, i2] h3 H := by rw [← hH]; exact ((ExtB.refl _ _).put (.inr (by simp)) _).put (.inr (by simp)) _
          have gH1 : H.get i1 = some (.cells ((ins.set k true).map bcell)) := by rw [← hH, get_put_ne hne12, get_put_at, List.map_set]; rfl
          have gH2 : H.get i2 = some (.cells ((vs.set k (v : Int)).map icell)) := by rw [← hH, get_put_at, List.map_set]; rfl
          have hcs := bcnt_set ins k (by omega) true
          rw [hb] at hcs
          have hcs' : bcnt (ins.set k true) = bcnt ins + 1 := by simpa using hcs
          have tH : DT H p b 30 (fun j => if j = k then (if true = true then some (v : Int) else none) else M j) (bcnt (ins.set k true)) := by
            have := t3.ext xH (by simp; omega) (by simp; omega)
            rw [hcs']; simpa using this
          have nH := turn true (v : Int) (by omega)
          have hxH : Recs 3 H (.sl bx o n cc) n xs := (hx'.extB x3 (by simpa [blk] using hb1')).extB xH (by simp [blk]; omega)
          have nxt : h3.next ≤ H.next := xH.1
          have nx3 := x3.1
          have v5 := succI (i := bcnt ins) (by omega)
          rw [← hcs'] at v5
          obtain ⟨r, hr, l, rfl, hl⟩ := inner (x := .sl bx o n cc) (i := i) tH nH gH1 gH2 [.c (.sl bx o n cc), .junk, .c (.ptr p 0), .c (.ptr i1 0), .c (.ptr i2 0), .c (.int .i64 (bcnt (ins.set k true) : Int)), .c (.int .i64 (i : Int)), .c (.int .i64 (k : Int)), .c (.int .i64 (v : Int)), .c (.int .i64 0), .junk, .c (.int .i64 0), .junk, .c (.bool true), .c (.bool true), .c (.bool false), .c (.bool true), .junk, .junk, .junk, .junk] rfl
          match l, hl with
          | [l0, l1, l2, l3, l4, l5, l6, l7, l8, l9, l10, l11, l12, l13], _ =>
            simp only [enter_eq, ev_seq, seqK_norm, seqK_exit, seqK_ret, ev_reg, ev_cond, condK_true, condK_false, ev_block, blockK_norm, blockK_ret, blockK_exit, ev_loop, ev_skip, ev_exit, ev_ret, regK_cons, regK_nil, guard_none, guard_some, regG_true, regG_false, regO_some, op_mov, op_conv, op_bin, op_bsl, op_box, op_mks, op_s2b, op_pick, op_un, op_eq, op_len, op_ext, op_load, op_iaddr, op_slice, op_b2s, op_idxS, op_mx, op_mn, op_call, op_store, op_app, op_copy, args_eq, result_one', rv_loc, finish_norm, finish_ret, outK_some, keep_true, keep_false, keep_nil, p_bin, p_pick, p_un, p_eq, p_conv, evNew, pureK_some, newK_some, X.eval, set_none, set_some, List.map_cons, List.map_nil, List.getD_cons_zero, List.getD_cons_succ, List.getD_nil, List.set_cons_zero, List.set_cons_succ, binCV, unCV, isShift, intArithF_eq, shiftF_eq, wrapF_eq, intArith, shift, eqVal, bound, asNat_cast, cond_true, cond_false, BEq.rfl, beq_self_eq_true, evalParts, fillParts, AV.cells, AV.ofCells, XV.av, AV.xv, List.length_cons, List.length_nil, zeros, patch, setMany, List.nil_append, List.cons_append, Nat.ble, Nat.add_eq, Nat.zero_add, Nat.add_zero, Nat.reduceAdd, Nat.reduceMul, Nat.reduceSub, Nat.ble_eq, Nat.reduceLeDiff, Nat.reduceBEq, Int.reduceBEq, Int.reduceNeg, Bool.and_true, Bool.and_false, Bool.true_and, Bool.false_and, Bool.not_true, Bool.not_false, Bool.true_eq_false, Bool.false_eq_true, Int.reduceLT, Int.reduceLE, Int.reduceGT, Int.reduceGE, decide_true, decide_false, Bool.not_eq_true, loopN_norm, loopN_exit, tf, ft, ff, bneI, lx, v1, v2, v4, v5, p_iaddr, p_faddr, op_faddr, p_load, AV.ofCells, m0, r0, r1, r2, ek', ev', hkind, e2, op_iaddrA, p_iaddrA, mk, Nat.mul_one, k1, evEff, W1, W2, hr, blockK_exit_eq]
            exact ⟨_, _, rfl, _, _, _, tH, nH, gH1, gH2, by omega, by omega, hxH, rfl⟩
      | false =>
        cases hb : ins[k] with
        | true =>
          rw [hb, if_pos rfl] at hMk
          obtain ⟨h3, e2, t3, x3, hc1⟩ : ∃ h'', evCallT table 25 200 8 29 [.c (.ptr p 0), .c (.int .i64 (k : Int))] h' = some (.c (.int .i64 vs[k]), h'') ∧ DT h'' p b 30 (fun j => if j = k then none else M j) (bcnt ins - 1) ∧ ExtB [p, b] h' h'' ∧ 1 ≤ bcnt ins := t.out_some (N := 200) (d := 5) hMk (by omega) (by omega)
          have g1' := x3.at_ g1 hn1 (by simp; omega)
          have g2' := x3.at_ g2 hn2 (by simp; omega)
          have k1 : h3.read i1 k 1 = some [.bool true] := read_cells g1' (by simp [bcell, hl1, hk, hb])
          have k2 : h3.read i2 k 1 = some [.int .i64 vs[k]] := read_cells g2' (by simp [icell, hl2, hk])
          have W1 := write_one (v := .bool false) g1' (show k < (ins.map bcell).length by simp [hl1, hk])
          generalize hH : h3.put i1 (.cells ((ins.map bcell).set k (.bool false))) = H at *
          have xH : ExtB [i1] h3 H := by rw [← hH]; exact (ExtB.refl _ _).put (.inr (by simp)) _
          have gH1 : H.get i1 = some (.cells ((ins.set k false).map bcell)) := by rw [← hH, get_put_at, List.map_set]; rfl
          have hvk : vs.set k vs[k] = vs := List.set_getElem_self _
          have gH2 : H.get i2 = some (.cells ((vs.set k vs[k]).map icell)) := by rw [hvk, ← hH, get_put_ne (Ne.symm hne12)]; exact g2'
          have hcs := bcnt_set ins k (by omega) false
          rw [hb] at hcs
          have hcs' : bcnt (ins.set k false) = bcnt ins - 1 := by simp at hcs; omega
          have tH : DT H p b 30 (fun j => if j = k then (if false = true then some vs[k] else none) else M j) (bcnt (ins.set k false)) := by
            have := t3.ext xH (by simp; omega) (by simp; omega)
            rw [hcs']; simpa using this
          have nH := turn false vs[k] (hpos _ (List.getElem_mem _))
          have hxH : Recs 3 H (.sl bx o n cc) n xs := (hx'.extB x3 (by simpa [blk] using hb1')).extB xH (by simp [blk]; omega)
          have nxt : h3.next ≤ H.next := xH.1
          have nx3 := x3.1
          have v5 : IntKind.i64.wrap ((bcnt ins : Int) - 1) = ((bcnt (ins.set k false) : Nat) : Int) := by rw [wrapI (by omega) (by omega)]; omega
          obtain ⟨r, hr, l, rfl, hl⟩ := inner (x := .sl bx o n cc) (i := i) tH nH gH1 gH2 [.c (.sl bx o n cc), .junk, .c (.ptr p 0), .c (.ptr i1 0), .c (.ptr i2 0), .c (.int .i64 (bcnt (ins.set k false) : Int)), .c (.int .i64 (i : Int)), .c (.int .i64 (k : Int)), .c (.int .i64 (v : Int)), .junk, .c (.int .i64 vs[k]), .c (.int .i64 0), .junk, .c (.bool true), .c (.bool false), .junk, .junk, .c (.bool false), .c (.bool true), .junk, .junk] rfl
          match l, hl with
          | [l0, l1, l2, l3, l4, l5, l6, l7, l8, l9, l10, l11, l12, l13], _ =>
            simp only [enter_eq, ev_seq, seqK_norm, seqK_exit, seqK_ret, ev_reg, ev_cond, condK_true, condK_false, ev_block, blockK_norm, blockK_ret, blockK_exit, ev_loop, ev_skip, ev_exit, ev_ret, regK_cons, regK_nil, guard_none, guard_some, regG_true, regG_false, regO_some, op_mov, op_conv, op_bin, op_bsl, op_box, op_mks, op_s2b, op_pick, op_un, op_eq, op_len, op_ext, op_load, op_iaddr, op_slice, op_b2s, op_idxS, op_mx, op_mn, op_call, op_store, op_app, op_copy, args_eq, result_one', rv_loc, finish_norm, finish_ret, outK_some, keep_true, keep_false, keep_nil, p_bin, p_pick, p_un, p_eq, p_conv, evNew, pureK_some, newK_some, X.eval, set_none, set_some, List.map_cons, List.map_nil, List.getD_cons_zero, List.getD_cons_succ, List.getD_nil, List.set_cons_zero, List.set_cons_succ, binCV, unCV, isShift, intArithF_eq, shiftF_eq, wrapF_eq, intArith, shift, eqVal, bound, asNat_cast, cond_true, cond_false, BEq.rfl, beq_self_eq_true, evalParts, fillParts, AV.cells, AV.ofCells, XV.av, AV.xv, List.length_cons, List.length_nil, zeros, patch, setMany, List.nil_append, List.cons_append, Nat.ble, Nat.add_eq, Nat.zero_add, Nat.add_zero, Nat.reduceAdd, Nat.reduceMul, Nat.reduceSub, Nat.ble_eq, Nat.reduceLeDiff, Nat.reduceBEq, Int.reduceBEq, Int.reduceNeg, Bool.and_true, Bool.and_false, Bool.true_and, Bool.false_and, Bool.not_true, Bool.not_false, Bool.true_eq_false, Bool.false_eq_true, Int.reduceLT, Int.reduceLE, Int.reduceGT, Int.reduceGE, decide_true, decide_false, Bool.not_eq_true, loopN_norm, loopN_exit, tf, ft, ff, bneI, lx, v1, v2, v4, v5, p_iaddr, p_faddr, op_faddr, p_load, AV.ofCells, m0, r0, r1, r2, ek', ev', hkind, e2, op_iaddrA, p_iaddrA, mk, Nat.mul_one, k1, k2, eqq, evEff, W1, hr, blockK_exit_eq]
            exact ⟨_, _, rfl, _, _, _, tH, nH, gH1, gH2, by omega, by omega, hxH, rfl⟩
        | false =>
          rw [hb, if_neg (by simp)] at hMk
          have e2 : evCallT table 25 200 8 29 [.c (.ptr p 0), .c (.int .i64 (k : Int))] h' = some (.c (.int .i64 (-1)), h') := t.out_none (N := 200) (d := 5) hMk (by omega)
          have k1 : h'.read i1 k 1 = some [.bool false] := read_cells g1 (by simp [bcell, hl1, hk, hb])
          have q1 : ((-1 : Int) == -1) = true := rfl
          obtain ⟨r, hr, l, rfl, hl⟩ := inner (x := .sl bx o n cc) (i := i) t hN g1 g2 [.c (.sl bx o n cc), .junk, .c (.ptr p 0), .c (.ptr i1 0), .c (.ptr i2 0), .c (.int .i64 (bcnt ins : Int)), .c (.int .i64 (i : Int)), .c (.int .i64 (k : Int)), .c (.int .i64 (v : Int)), .junk, .c (.int .i64 (-1)), .c (.int .i64 0), .junk, .c (.bool true), .c (.bool false), .junk, .junk, .c (.bool false), .c (.bool false), .junk, .junk] rfl
          match l, hl with
          | [l0, l1, l2, l3, l4, l5, l6, l7, l8, l9, l10, l11, l12, l13], _ =>
            simp only [enter_eq, ev_seq, seqK_norm, seqK_exit, seqK_ret, ev_reg, ev_cond, condK_true, condK_false, ev_block, blockK_norm, blockK_ret, blockK_exit, ev_loop, ev_skip, ev_exit, ev_ret, regK_cons, regK_nil, guard_none, guard_some, regG_true, regG_false, regO_some, op_mov, op_conv, op_bin, op_bsl, op_box, op_mks, op_s2b, op_pick, op_un, op_eq, op_len, op_ext, op_load, op_iaddr, op_slice, op_b2s, op_idxS, op_mx, op_mn, op_call, op_store, op_app, op_copy, args_eq, result_one', rv_loc, finish_norm, finish_ret, outK_some, keep_true, keep_false, keep_nil, p_bin, p_pick, p_un, p_eq, p_conv, evNew, pureK_some, newK_some, X.eval, set_none, set_some, List.map_cons, List.map_nil, List.getD_cons_zero, List.getD_cons_succ, List.getD_nil, List.set_cons_zero, List.set_cons_succ, binCV, unCV, isShift, intArithF_eq, shiftF_eq, wrapF_eq, intArith, shift, eqVal, bound, asNat_cast, cond_true, cond_false, BEq.rfl, beq_self_eq_true, evalParts, fillParts, AV.cells, AV.ofCells, XV.av, AV.xv, List.length_cons, List.length_nil, zeros, patch, setMany, List.nil_append, List.cons_append, Nat.ble, Nat.add_eq, Nat.zero_add, Nat.add_zero, Nat.reduceAdd, Nat.reduceMul, Nat.reduceSub, Nat.ble_eq, Nat.reduceLeDiff, Nat.reduceBEq, Int.reduceBEq, Int.reduceNeg, Bool.and_true, Bool.and_false, Bool.true_and, Bool.false_and, Bool.not_true, Bool.not_false, Bool.true_eq_false, Bool.false_eq_true, Int.reduceLT, Int.reduceLE, Int.reduceGT, Int.reduceGE, decide_true, decide_false, Bool.not_eq_true, loopN_norm, loopN_exit, tf, ft, ff, bneI, lx, v1, v2, v4, p_iaddr, p_faddr, op_faddr, p_load, AV.ofCells, m0, r0, r1, r2, ek', ev', hkind, e2, op_iaddrA, p_iaddrA, mk, Nat.mul_one, k1, q1, hr, blockK_exit_eq]
            exact ⟨_, _, rfl, M, ins, vs, t, hN, g1, g2, hn1, hn2, hx', rfl⟩
    · right
      by_cases h3 : i < n
      · have v1 : decide ((i : Int) < (n : Int)) = true := ltNat h3
        have v4 : decide ((i : Int) < 100) = false := geNat (n := 100) (by omega)
        simp only [enter_eq, ev_seq, seqK_norm, seqK_exit, seqK_ret, ev_reg, ev_cond, condK_true, condK_false, ev_block, blockK_norm, blockK_ret, blockK_exit, ev_loop, ev_skip, ev_exit, ev_ret, regK_cons, regK_nil, guard_none, guard_some, regG_true, regG_false, regO_some, op_mov, op_conv, op_bin, op_bsl, op_box, op_mks, op_s2b, op_pick, op_un, op_eq, op_len, op_ext, op_load, op_iaddr, op_slice, op_b2s, op_idxS, op_mx, op_mn, op_call, op_store, op_app, op_copy, args_eq, result_one', rv_loc, finish_norm, finish_ret, outK_some, keep_true, keep_false, keep_nil, p_bin, p_pick, p_un, p_eq, p_conv, evNew, pureK_some, newK_some, X.eval, set_none, set_some, List.map_cons, List.map_nil, List.getD_cons_zero, List.getD_cons_succ, List.getD_nil, List.set_cons_zero, List.set_cons_succ, binCV, unCV, isShift, intArithF_eq, shiftF_eq, wrapF_eq, intArith, shift, eqVal, bound, asNat_cast, cond_true, cond_false, BEq.rfl, beq_self_eq_true, evalParts, fillParts, AV.cells, AV.ofCells, XV.av, AV.xv, List.length_cons, List.length_nil, zeros, patch, setMany, List.nil_append, List.cons_append, Nat.ble, Nat.add_eq, Nat.zero_add, Nat.add_zero, Nat.reduceAdd, Nat.reduceMul, Nat.reduceSub, Nat.ble_eq, Nat.reduceLeDiff, Nat.reduceBEq, Int.reduceBEq, Int.reduceNeg, Bool.and_true, Bool.and_false, Bool.true_and, Bool.false_and, Bool.not_true, Bool.not_false, Bool.true_eq_false, Bool.false_eq_true, Int.reduceLT, Int.reduceLE, Int.reduceGT, Int.reduceGE, decide_true, decide_false, Bool.not_eq_true, loopN_norm, loopN_exit, tf, ft, ff, lx, v1, v4]
        exact ⟨_, rfl, by simp, _, h', M, bcnt ins, rfl, t⟩
      · have v1 : decide ((i : Int) < (n : Int)) = false := geNat (by omega)
        simp only [enter_eq, ev_seq, seqK_norm, seqK_exit, seqK_ret, ev_reg, ev_cond, condK_true, condK_false, ev_block, blockK_norm, blockK_ret, blockK_exit, ev_loop, ev_skip, ev_exit, ev_ret, regK_cons, regK_nil, guard_none, guard_some, regG_true, regG_false, regO_some, op_mov, op_conv, op_bin, op_bsl, op_box, op_mks, op_s2b, op_pick, op_un, op_eq, op_len, op_ext, op_load, op_iaddr, op_slice, op_b2s, op_idxS, op_mx, op_mn, op_call, op_store, op_app, op_copy, args_eq, result_one', rv_loc, finish_norm, finish_ret, outK_some, keep_true, keep_false, keep_nil, p_bin, p_pick, p_un, p_eq, p_conv, evNew, pureK_some, newK_some, X.eval, set_none, set_some, List.map_cons, List.map_nil, List.getD_cons_zero, List.getD_cons_succ, List.getD_nil, List.set_cons_zero, List.set_cons_succ, binCV, unCV, isShift, intArithF_eq, shiftF_eq, wrapF_eq, intArith, shift, eqVal, bound, asNat_cast, cond_true, cond_false, BEq.rfl, beq_self_eq_true, evalParts, fillParts, AV.cells, AV.ofCells, XV.av, AV.xv, List.length_cons, List.length_nil, zeros, patch, setMany, List.nil_append, List.cons_append, Nat.ble, Nat.add_eq, Nat.zero_add, Nat.add_zero, Nat.reduceAdd, Nat.reduceMul, Nat.reduceSub, Nat.ble_eq, Nat.reduceLeDiff, Nat.reduceBEq, Int.reduceBEq, Int.reduceNeg, Bool.and_true, Bool.and_false, Bool.true_and, Bool.false_and, Bool.not_true, Bool.not_false, Bool.true_eq_false, Bool.false_eq_true, Int.reduceLT, Int.reduceLE, Int.reduceGT, Int.reduceGE, decide_true, decide_false, Bool.not_eq_true, loopN_norm, loopN_exit, tf, ft, ff, lx, v1]
        exact ⟨_, rfl, by simp, _, h', M, bcnt ins, rfl, t⟩
  obtain ⟨r, hr, l, h', M, c, rfl, t⟩ := L [.c x, .c (.bool false), .c (.ptr p 0), .c (.ptr i1 0), .c (.ptr i2 0), .c (.int .i64 0), .c (.int .i64 0), .tup [], .tup [], .tup [], .tup [], .tup [], .c (.bool false), .tup [], .tup [], .tup [], .tup [], .tup [], .tup [], .tup [], .tup []] rfl
  have e3 : evCallT table 25 200 8 31 [.c (.ptr p 0)] h' = some (.c (.int .i64 (c : Int)), h') := t.len (N := 200) (d := 7)
  rw [hi2, hi1, ← hB, ← hA] at hr
  simp only [List.replicate, List.map_cons, List.map_nil, bcell, icell, next_new] at hr
  simp only [enter_eq, ev_seq, seqK_norm, seqK_exit, seqK_ret, ev_reg, ev_cond, condK_true, condK_false, ev_block, blockK_norm, blockK_ret, blockK_exit, ev_loop, ev_skip, ev_exit, ev_ret, regK_cons, regK_nil, guard_none, guard_some, regG_true, regG_false, regO_some, op_mov, op_conv, op_bin, op_bsl, op_box, op_mks, op_s2b, op_pick, op_un, op_eq, op_len, op_ext, op_load, op_iaddr, op_slice, op_b2s, op_idxS, op_mx, op_mn, op_call, op_store, op_app, op_copy, args_eq, result_one', rv_loc, finish_norm, finish_ret, outK_some, keep_true, keep_false, keep_nil, p_bin, p_pick, p_un, p_eq, p_conv, evNew, pureK_some, newK_some, X.eval, set_none, set_some, List.map_cons, List.map_nil, List.getD_cons_zero, List.getD_cons_succ, List.getD_nil, List.set_cons_zero, List.set_cons_succ, binCV, unCV, isShift, intArithF_eq, shiftF_eq, wrapF_eq, intArith, shift, eqVal, bound, asNat_cast, cond_true, cond_false, BEq.rfl, beq_self_eq_true, evalParts, fillParts, AV.cells, AV.ofCells, XV.av, AV.xv, List.length_cons, List.length_nil, zeros, patch, setMany, List.nil_append, List.cons_append, Nat.ble, Nat.add_eq, Nat.zero_add, Nat.add_zero, Nat.reduceAdd, Nat.reduceMul, Nat.reduceSub, Nat.ble_eq, Nat.reduceLeDiff, Nat.reduceBEq, Int.reduceBEq, Int.reduceNeg, Bool.and_true, Bool.and_false, Bool.true_and, Bool.false_and, Bool.not_true, Bool.not_false, Bool.true_eq_false, Bool.false_eq_true, Int.reduceLT, Int.reduceLE, Int.reduceGT, Int.reduceGE, decide_true, decide_false, Bool.not_eq_true, loopN_norm, loopN_exit, tf, ft, ff, e1, hr, next_new, blockK_exit_eq, evCallT_told, e3, eqq]
  rfl

end Lav

namespace Go.Proofs.Ytgjceiiddcbfoaa.tableFinds
open Go.ChangeShapes Go.WideShapes Go.ChangeAt Go.RowKit
open Go.ChangeMaps (open_string shut_string)
set_option linter.unusedVariables false

theorem own : ownKnob Try.prog.godebug = none := by kernel_rfl
theorem laidOut : laidOutB Try.prog = true := by kernel_rfl

/-- What the walk is told of a slice of records of ints that came in: it is nil; or it leads to a row of 'cap' records, 'sz' cells each. -/
def IsRecs (sz : Nat) (w : World) (a : Option Addr) (len cap : Nat) (zs : List Int) : Prop :=
  (a = none ∧ len = 0 ∧ cap = 0 ∧ zs = []) ∨
  ∃ x, a = some x ∧ len ≤ cap ∧ cap ≤ maxLen ∧ zs.length = cap * sz ∧ (∀ i, i < zs.length → w.cell? (x.add i) = some (.int .i64 (zs.getD i 0))) ∧ ∀ n ∈ zs, (Lit.int .i64 n).wf = true

theorem walk (a0 : Option Addr) (len0 cap0 : Nat) (z0 : List Int) (w : World) (w0 : IsRecs 3 w a0 len0 cap0 z0) :
    Calls Try.prog 7 #[.slice a0 len0 cap0] w fun e w' => e = .returned (.bool true) ∧ Below w.heap.size w w' := by
  obtain ⟨ι, h, x, I, hle, hx, hr⟩ := (Lav.Init.empty w).recs (sz := 3) (by omega) w0
  exact Lav.walk_of (Lav.evCallT_sound Lav.mixed Lav.table_ok Lav.tld5 200 9) I (args := [.c x]) (vs := [.slice a0 len0 cap0]) ⟨hx, trivial⟩ (Lav.tableFinds (Lav.recs_of hr))

set_option maxRecDepth 100000 in
theorem lifted (os : Os) (started : os.Started) (H : Type) (enc : TypeId × Value → H) :
    ReturnsInHanded {} Try.checked os 7 .any (Rows.tableFindsSpec.pre6 enc Try.prog Try.f7 Rows.tableFindsRow.domain false) (Rows.tableFindsSpec.post enc Try.prog Try.f7 false true false false) := by
  refine returnsInHanded_of_change (C := Try.checked) own started (by kernel_rfl) Try.func7
    (ChangeSpec.witness6 (enc := enc) (C := Try.checked) false ⟨#[], #[.slice none 0 0], []⟩ 8 (by kernel_rfl) (by kernel_rfl) (by kernel_rfl) (by kernel_rfl)) ?_
  intro W base args ds gs before hval0 hW hcnd _
  have hval : ∀ (j : Nat) t v, Try.f7.params[j]? = some t → args[j]? = some v → Value.okWide Try.prog W .any base t v := hval0
  have hW' := hW
  obtain ⟨p, q, hA0, hV, rfl, hfz, hnd⟩ := hW
  have hA : DataW.TrodAll enc Try.prog W 0 (fun _ => true) true Try.f7.params.toList args.toList ds p := hA0
  rw [Try.params7] at hA hval
  obtain ⟨v0, vs0, d0, ds0, p0, q0, hargs, rfl, rfl, h0, r0⟩ := trodAll_cons hA
  obtain ⟨rfl, rfl, rfl⟩ := trodAll_nil r0
  obtain rfl : args = #[v0] := by cases args; simp_all
  obtain ⟨rfl, rfl⟩ := trodVars_none hV
  obtain ⟨a0, len0, cap0, rfl⟩ := okWide_slice Try.underlying44 (hval 0 44 v0 rfl rfl)
  have k0 := h0
  have lt0 : ∀ x ∈ p0, x.block < W.heap.size := by obtain ⟨m, hm⟩ := k0; exact DataW.trod_lt m _ _ _ hm
  obtain ⟨z0, w0⟩ : ∃ zs, IsRecs 3 W a0 len0 cap0 zs := by
    obtain ⟨fuel, hf⟩ := h0
    rcases Lav.open_recs (sz := 3) Try.underlying44 Try.underlying50 (by kernel_rfl) (by
        intro j hj
        match j, hj with
        | 0, _ => exact ⟨0, _, rfl, rfl, Try.underlying3, by kernel_rfl⟩
        | 1, _ => exact ⟨1, _, rfl, rfl, Try.underlying3, by kernel_rfl⟩
        | 2, _ => exact ⟨2, _, rfl, rfl, Try.underlying3, by kernel_rfl⟩
        | j + 3, hj => omega) hf with hcs | ⟨x, l, c, zs, hcs, hl, hm, hz, hcell, hwz⟩
    · simp [Value.cells] at hcs
      obtain ⟨rfl, rfl, rfl⟩ := hcs
      exact ⟨[], .inl ⟨rfl, rfl, rfl, rfl⟩⟩
    · simp [Value.cells] at hcs
      obtain ⟨rfl, rfl, rfl⟩ := hcs
      exact ⟨zs, .inr ⟨_, rfl, hl, hm, by simpa using hz, hcell, hwz⟩⟩
  clear hA0 hval0
  refine (walk a0 len0 cap0 z0 W w0).mono fun e W' ⟨he, bel⟩ => ?_
  subst he
  exact ⟨_, rfl, _, _, _, [], _, [], hW', trodAll_mk1 (shut_bool Try.underlying4 _), (trodAll_cons_mk (Below.trod laidOut (by kernel_rfl) (of_decide_eq_true (by kernel_rfl)) k0 bel lt0) trodAll_mk0), rfl, bel.frame _, fun h => by cases h⟩

theorem over : Rows.tableFindsRow.holds Try.pinned (OpenSpec.ofChange Rows.tableFindsSpec) :=
  OpenClaim.holds_of_wide 7 Try.f7 rfl rfl rfl rfl rfl rfl rfl ⟨rfl, rfl, rfl, rfl, rfl⟩ rfl rfl rfl rfl rfl (by kernel_rfl) Try.func7 (by kernel_rfl)
    (of_decide_eq_true (by kernel_rfl)) (by unfold Func.isWrapper; first | (rw [if_pos (by decide +kernel)]; kernel_rfl) | (rw [if_neg (by decide +kernel)]; exact ⟨rfl, rfl⟩))
    (fun os started H enc _ => lifted os started H enc)

theorem proved : Rows.TableFindsSaid := over
end Go.Proofs.Ytgjceiiddcbfoaa.tableFinds
