/-
  Proved: whatever numbers come in, lavabolaw7.SchedPicks returns true and changes nothing that was there. No conditions beyond the given statement's.
-/
import Derived.Test.YtakkkibaaipmcaaRows
import Derived.Test.YtakkkibaaipmcaaSched1
import Derived.Test.YtakkkibaaipmcaaSched2
import Derived.Test.YtakkkibaaipmcaaSched3
import Derived.WalkKit
import Derived.ProofKit
import Derived.OpenShut
import Derived.Below
import Derived.ShutString
set_option maxRecDepth 100000
set_option linter.unusedSimpArgs false
namespace Lav
open Go (IntKind)
/-- A bit of the mask. -/
def bitX (mask : Int) (j : Nat) : Int := IntKind.i64.wrap ((BitVec.ofInt IntKind.i64.bits (mask.fdiv (2 ^ (min (Int.toNat (j : Int)) IntKind.i64.bits))) &&& BitVec.ofInt IntKind.i64.bits 1).toNat : Int)
theorem bitX_01 (mask : Int) (j : Nat) : bitX mask j = 0 ∨ bitX mask j = 1 := by
  unfold bitX
  generalize mask.fdiv (2 ^ (min (Int.toNat (j : Int)) IntKind.i64.bits)) = m
  have e : BitVec.ofInt 64 1 = (1#64 : BitVec 64) := by decide
  have key : ∀ b : BitVec 64, (b &&& 1#64).toNat = 0 ∨ (b &&& 1#64).toNat = 1 := fun b => by
    rw [BitVec.and_one_eq_setWidth_ofBool_getLsbD]
    cases b.getLsbD 0
    · exact .inl (by decide)
    · exact .inr (by decide)
  have h := key (BitVec.ofInt 64 m)
  show IntKind.i64.wrap (((BitVec.ofInt 64 m &&& BitVec.ofInt 64 1).toNat : Nat) : Int) = 0 ∨ IntKind.i64.wrap (((BitVec.ofInt 64 m &&& BitVec.ofInt 64 1).toNat : Nat) : Int) = 1
  rw [e]
  rcases h with h | h
  · left; rw [h]; rfl
  · right; rw [h]; rfl
def bitD (mask : Int) (j : Nat) : Bool := bitX mask j == 1

/-- Which tasks are ready. -/
def tkD (mask : Int) (j : Nat) : Tk := if bitD mask j = true then ⟨1, j, -1⟩ else tk0
def stD (mask : Int) (i : Nat) : Tks := (List.range i).map (tkD mask) ++ List.replicate (12 - i) tk0
theorem stD_len {mask : Int} {i : Nat} (h : i ≤ 12) : (stD mask i).length = 12 := by simp [stD]; omega
theorem stD_at {mask : Int} {i : Nat} (h : i < 12) : (stD mask i)[i]'(by rw [stD_len (by omega)]; exact h) = tk0 := by
  unfold stD
  rw [List.getElem_append_right (by simp)]
  simp
theorem stD_next {mask : Int} {i : Nat} (h : i < 12) : (stD mask i).set i (tkD mask i) = stD mask (i + 1) := by
  unfold stD
  rw [List.set_append_right _ _ (by simp)]
  have e : i - ((List.range i).map (tkD mask)).length = 0 := by simp
  rw [e, show 12 - i = (12 - (i + 1)) + 1 by omega, List.replicate_succ, List.set_cons_zero, List.range_succ, List.map_append]
  simp
theorem stD_same {mask : Int} {i : Nat} (h : i < 12) (hb : bitD mask i = false) : stD mask i = stD mask (i + 1) := by
  rw [← stD_next h]
  have : tkD mask i = (stD mask i)[i]'(by rw [stD_len (by omega)]; exact h) := by rw [stD_at h]; simp [tkD, hb]
  rw [this, List.set_getElem_self]

theorem ready_range (mask : Int) : ∀ n, readyGo 0 ((List.range n).map (tkD mask)) = (List.range n).filter (bitD mask)
  | 0 => rfl
  | n + 1 => by
    rw [List.range_succ, List.map_append, List.filter_append, List.map_cons, List.map_nil, ready_app, ready_range mask n]
    congr 1
    simp only [List.length_map, List.length_range, Nat.zero_add]
    cases hb : bitD mask n
    · simp [tkD, hb, tk0]
    · simp [tkD, hb]

theorem p_iaddrA12 {sz m : Nat} {loc vals : List AV} {h : Heap} {x y : X} : evPure loc vals h (.iaddrA sz m x y) = (match x.eval loc vals, asNat (y.eval loc vals) with
    | .c (.ptr b o), some j => bif Nat.blt j m then some (.c (.ptr b (o + j * sz))) else none
    | _, _ => none) := rfl

theorem schedPicks (mask n : Int) : good (evCallT table 28 200 9 8 [.c (.int .i64 mask), .c (.int .i64 n)] Heap.empty) = true := by
  obtain ⟨p, b, h0, e0, s0⟩ := new12
  have s0' : SB h0 p b (stD mask 0) := by simpa [stD] using s0
  rw [evCallT_eq (F := ir8) rfl rfl rfl]
  unfold ir8
  rw [bodyK_eq]
  have eqq : ∀ a : Int, (a == a) = true := fun a => by simp
  have L1 : ∀ loc, keepOnly ir8_k1 loc = [.c (.int .i64 mask), .c (.int .i64 n), .junk, .c (.ptr p 0), .c (.int .i64 0), .c (.int .i64 0), .junk, .junk, .junk, .junk, .junk, .junk, .junk, .junk, .junk, .junk] →
      ∃ r, loopK (evCallT table 28 200 8) 200 ir8_k1 ir8_l1 200 loc h0 = some r ∧ ∃ h' a5 a11 a12, SB h' p b (stD mask 12) ∧ r = (.exit 0, [.c (.int .i64 mask), .c (.int .i64 n), .junk, .c (.ptr p 0), .c (.int .i64 ((((List.range 12).filter (bitD mask)).length : Nat) : Int)), a5, .junk, .junk, .junk, .junk, .junk, a11, a12, .junk, .junk, .junk], h') := by
    intro loc hloc
    refine loop_inv (n := 12) (fun i loc h' => SB h' p b (stD mask i) ∧ loc = [.c (.int .i64 mask), .c (.int .i64 n), .junk, .c (.ptr p 0), .c (.int .i64 ((((List.range i).filter (bitD mask)).length : Nat) : Int)), .c (.int .i64 (i : Int)), .junk, .junk, .junk, .junk, .junk, .junk, .junk, .junk, .junk, .junk]) _ ?_ ⟨s0', hloc⟩ (by omega)
    rintro i loc h' hi ⟨s, rfl⟩
    unfold ir8_l1
    by_cases hlt : i < 12
    · left
      refine ⟨hlt, ?_⟩
      have v1 : decide ((i : Int) < 12) = true := ltNat (n := 12) hlt
      have v2 := succI (i := i) (by omega)
      have v3 : IntKind.u64.wrap (i : Int) = (i : Int) := wrapUNat (by omega)
      have v4 : decide ((i : Int) < 0) = false := decide_eq_false (by omega)
      have hfl : ((List.range i).filter (bitD mask)).length ≤ i := Nat.le_trans (List.length_filter_le _ _) (by simp)
      have v5 := succI (i := ((List.range i).filter (bitD mask)).length) (by omega)
      have h8 : i < (stD mask i).length := by rw [stD_len (by omega)]; exact hlt
      have hX : (IntKind.i64.wrap ((BitVec.ofInt IntKind.i64.bits (mask.fdiv (2 ^ (min (Int.toNat (i : Int)) IntKind.i64.bits))) &&& BitVec.ofInt IntKind.i64.bits 1).toNat : Int) == 1) = bitD mask i := rfl
      cases hb : bitD mask i with
      | false =>
        have hf : (List.range (i + 1)).filter (bitD mask) = (List.range i).filter (bitD mask) := by rw [List.range_succ, List.filter_append]; simp [hb]
        rw [hb] at hX
        simp only [enter_eq, ev_seq, seqK_norm, seqK_exit, seqK_ret, ev_reg, ev_cond, condK_true, condK_false, ev_block, blockK_norm, blockK_ret, blockK_exit, ev_loop, ev_skip, ev_exit, ev_ret, regK_cons, regK_nil, guard_none, guard_some, regG_true, regG_false, regO_some, op_mov, op_conv, op_bin, op_bsl, op_box, op_mks, op_s2b, op_pick, op_un, op_eq, op_len, op_ext, op_load, op_iaddr, op_slice, op_b2s, op_idxS, op_mx, op_mn, op_call, op_store, op_app, op_copy, args_eq, result_one', rv_loc, finish_norm, finish_ret, outK_some, keep_true, keep_false, keep_nil, p_bin, p_pick, p_un, p_eq, p_conv, evNew, pureK_some, newK_some, X.eval, set_none, set_some, List.map_cons, List.map_nil, List.getD_cons_zero, List.getD_cons_succ, List.getD_nil, List.set_cons_zero, List.set_cons_succ, binCV, unCV, isShift, intArithF_eq, shiftF_eq, wrapF_eq, intArith, shift, eqVal, bound, asNat_cast, cond_true, cond_false, BEq.rfl, beq_self_eq_true, evalParts, fillParts, AV.cells, AV.ofCells, XV.av, AV.xv, List.length_cons, List.length_nil, zeros, patch, setMany, List.nil_append, List.cons_append, Nat.ble, Nat.add_eq, Nat.zero_add, Nat.add_zero, Nat.reduceAdd, Nat.reduceMul, Nat.reduceSub, Nat.ble_eq, Nat.reduceLeDiff, Nat.reduceBEq, Int.reduceBEq, Int.reduceNeg, Bool.and_true, Bool.and_false, Bool.true_and, Bool.false_and, Bool.not_true, Bool.not_false, Bool.true_eq_false, Bool.false_eq_true, Int.reduceLT, Int.reduceLE, Int.reduceGT, Int.reduceGE, decide_true, decide_false, Bool.not_eq_true, loopN_norm, loopN_exit, tf, ft, ff, v1, v2, v3, v4, hX]
        exact ⟨_, _, rfl, by rw [← stD_same hlt hb]; exact s, by rw [hf]; rfl⟩
      | true =>
        have hf : (List.range (i + 1)).filter (bitD mask) = (List.range i).filter (bitD mask) ++ [i] := by rw [List.range_succ, List.filter_append]; simp [hb]
        rw [hb] at hX
        have e1 : evCallT table 28 200 8 29 [.c (.ptr p 0), .c (.int .i64 (i : Int)), .c (.int .i64 (i : Int))] h' = some (.c (.bool true), h'.put b (.cells (tksC (stD mask (i + 1))))) := by
          have := wake_ok (N := 200) (d := 5) s h8 i
          rw [stD_at hlt, if_pos (.inl rfl)] at this
          rw [← stD_next hlt]
          have ht : tkD mask i = ⟨1, i, -1⟩ := by simp [tkD, hb]
          rw [ht]; exact this
        simp only [enter_eq, ev_seq, seqK_norm, seqK_exit, seqK_ret, ev_reg, ev_cond, condK_true, condK_false, ev_block, blockK_norm, blockK_ret, blockK_exit, ev_loop, ev_skip, ev_exit, ev_ret, regK_cons, regK_nil, guard_none, guard_some, regG_true, regG_false, regO_some, op_mov, op_conv, op_bin, op_bsl, op_box, op_mks, op_s2b, op_pick, op_un, op_eq, op_len, op_ext, op_load, op_iaddr, op_slice, op_b2s, op_idxS, op_mx, op_mn, op_call, op_store, op_app, op_copy, args_eq, result_one', rv_loc, finish_norm, finish_ret, outK_some, keep_true, keep_false, keep_nil, p_bin, p_pick, p_un, p_eq, p_conv, evNew, pureK_some, newK_some, X.eval, set_none, set_some, List.map_cons, List.map_nil, List.getD_cons_zero, List.getD_cons_succ, List.getD_nil, List.set_cons_zero, List.set_cons_succ, binCV, unCV, isShift, intArithF_eq, shiftF_eq, wrapF_eq, intArith, shift, eqVal, bound, asNat_cast, cond_true, cond_false, BEq.rfl, beq_self_eq_true, evalParts, fillParts, AV.cells, AV.ofCells, XV.av, AV.xv, List.length_cons, List.length_nil, zeros, patch, setMany, List.nil_append, List.cons_append, Nat.ble, Nat.add_eq, Nat.zero_add, Nat.add_zero, Nat.reduceAdd, Nat.reduceMul, Nat.reduceSub, Nat.ble_eq, Nat.reduceLeDiff, Nat.reduceBEq, Int.reduceBEq, Int.reduceNeg, Bool.and_true, Bool.and_false, Bool.true_and, Bool.false_and, Bool.not_true, Bool.not_false, Bool.true_eq_false, Bool.false_eq_true, Int.reduceLT, Int.reduceLE, Int.reduceGT, Int.reduceGE, decide_true, decide_false, Bool.not_eq_true, loopN_norm, loopN_exit, tf, ft, ff, v1, v2, v3, v4, v5, hX, e1]
        exact ⟨_, _, rfl, s.put (by rw [stD_len (by omega), stD_len (by omega)]), by rw [hf, List.length_append]; rfl⟩
    · right
      have hi12 : i = 12 := by omega
      subst hi12
      simp only [enter_eq, ev_seq, seqK_norm, seqK_exit, seqK_ret, ev_reg, ev_cond, condK_true, condK_false, ev_block, blockK_norm, blockK_ret, blockK_exit, ev_loop, ev_skip, ev_exit, ev_ret, regK_cons, regK_nil, guard_none, guard_some, regG_true, regG_false, regO_some, op_mov, op_conv, op_bin, op_bsl, op_box, op_mks, op_s2b, op_pick, op_un, op_eq, op_len, op_ext, op_load, op_iaddr, op_slice, op_b2s, op_idxS, op_mx, op_mn, op_call, op_store, op_app, op_copy, args_eq, result_one', rv_loc, finish_norm, finish_ret, outK_some, keep_true, keep_false, keep_nil, p_bin, p_pick, p_un, p_eq, p_conv, evNew, pureK_some, newK_some, X.eval, set_none, set_some, List.map_cons, List.map_nil, List.getD_cons_zero, List.getD_cons_succ, List.getD_nil, List.set_cons_zero, List.set_cons_succ, binCV, unCV, isShift, intArithF_eq, shiftF_eq, wrapF_eq, intArith, shift, eqVal, bound, asNat_cast, cond_true, cond_false, BEq.rfl, beq_self_eq_true, evalParts, fillParts, AV.cells, AV.ofCells, XV.av, AV.xv, List.length_cons, List.length_nil, zeros, patch, setMany, List.nil_append, List.cons_append, Nat.ble, Nat.add_eq, Nat.zero_add, Nat.add_zero, Nat.reduceAdd, Nat.reduceMul, Nat.reduceSub, Nat.ble_eq, Nat.reduceLeDiff, Nat.reduceBEq, Int.reduceBEq, Int.reduceNeg, Bool.and_true, Bool.and_false, Bool.true_and, Bool.false_and, Bool.not_true, Bool.not_false, Bool.true_eq_false, Bool.false_eq_true, Int.reduceLT, Int.reduceLE, Int.reduceGT, Int.reduceGE, decide_true, decide_false, Bool.not_eq_true, loopN_norm, loopN_exit, tf, ft, ff]
      exact ⟨_, rfl, by simp, h', _, _, _, s, rfl⟩
  obtain ⟨r, hr1, h1, a5, a11, a12, s1, rfl⟩ := L1 [.c (.int .i64 mask), .c (.int .i64 n), .c (.bool false), .c (.ptr p 0), .c (.int .i64 0), .c (.int .i64 0), .tup [], .tup [], .tup [], .tup [], .c (.bool false), .tup [], .tup [], .tup [], .tup [], .tup []] rfl
  have l12 : (stD mask 12).length = 12 := stD_len (by omega)
  have hR : readyM (stD mask 12) = (List.range 12).filter (bitD mask) := by
    have : stD mask 12 = (List.range 12).map (tkD mask) := by simp [stD]
    rw [this]; exact ready_range mask 12
  have hnd : ((List.range 12).filter (bitD mask)).Nodup := List.Pairwise.filter _ List.nodup_range
  have hmem : ∀ y ∈ (List.range 12).filter (bitD mask), y < 12 ∧ bitD mask y = true := fun y hy => by simpa using hy
  have hRl : ((List.range 12).filter (bitD mask)).length ≤ 12 := Nat.le_trans (List.length_filter_le _ _) (by simp)
  generalize hRR : (List.range 12).filter (bitD mask) = R at *
  by_cases hz : R.length = 0
  · have hnil : R = [] := List.eq_nil_of_length_eq_zero hz
    obtain ⟨h2, e2, _⟩ := pick_none (N := 200) (d := 6) s1 n (by rw [hR]; exact hnil) (by omega) (by omega)
    have q1 : ((R.length : Int) == 0) = true := by simp [hz]
    simp only [enter_eq, ev_seq, seqK_norm, seqK_exit, seqK_ret, ev_reg, ev_cond, condK_true, condK_false, ev_block, blockK_norm, blockK_ret, blockK_exit, ev_loop, ev_skip, ev_exit, ev_ret, regK_cons, regK_nil, guard_none, guard_some, regG_true, regG_false, regO_some, op_mov, op_conv, op_bin, op_bsl, op_box, op_mks, op_s2b, op_pick, op_un, op_eq, op_len, op_ext, op_load, op_iaddr, op_slice, op_b2s, op_idxS, op_mx, op_mn, op_call, op_store, op_app, op_copy, args_eq, result_one', rv_loc, finish_norm, finish_ret, outK_some, keep_true, keep_false, keep_nil, p_bin, p_pick, p_un, p_eq, p_conv, evNew, pureK_some, newK_some, X.eval, set_none, set_some, List.map_cons, List.map_nil, List.getD_cons_zero, List.getD_cons_succ, List.getD_nil, List.set_cons_zero, List.set_cons_succ, binCV, unCV, isShift, intArithF_eq, shiftF_eq, wrapF_eq, intArith, shift, eqVal, bound, asNat_cast, cond_true, cond_false, BEq.rfl, beq_self_eq_true, evalParts, fillParts, AV.cells, AV.ofCells, XV.av, AV.xv, List.length_cons, List.length_nil, zeros, patch, setMany, List.nil_append, List.cons_append, Nat.ble, Nat.add_eq, Nat.zero_add, Nat.add_zero, Nat.reduceAdd, Nat.reduceMul, Nat.reduceSub, Nat.ble_eq, Nat.reduceLeDiff, Nat.reduceBEq, Int.reduceBEq, Int.reduceNeg, Bool.and_true, Bool.and_false, Bool.true_and, Bool.false_and, Bool.not_true, Bool.not_false, Bool.true_eq_false, Bool.false_eq_true, Int.reduceLT, Int.reduceLE, Int.reduceGT, Int.reduceGE, decide_true, decide_false, Bool.not_eq_true, loopN_norm, loopN_exit, tf, ft, ff, e0, hr1, blockK_exit_eq, q1, e2, evCallT_told]
    rfl
  have q1 : ((R.length : Int) == 0) = false := by simp only [beq_eq_false_iff_ne, ne_eq]; omega
  have hne : readyM (stD mask 12) ≠ [] := by rw [hR]; intro e; rw [e] at hz; exact hz rfl
  have b0 : 0 ≤ IntKind.u64.wrap n := by simp only [IntKind.wrap, IntKind.bits, IntKind.signed]; simp; omega
  have b1 : 0 ≤ Int.tmod (IntKind.u64.wrap n) 100000 := Int.tmod_nonneg _ b0
  have b2 : Int.tmod (IntKind.u64.wrap n) 100000 < 100000 := Int.tmod_lt_of_pos _ (by omega)
  obtain ⟨f, hf⟩ : ∃ f : Nat, Int.tmod (IntKind.u64.wrap n) 100000 = (f : Int) := ⟨(Int.tmod (IntKind.u64.wrap n) 100000).toNat, by omega⟩
  have ef : IntKind.i64.wrap (Int.tmod (IntKind.u64.wrap n) 100000) = (f : Int) := by rw [hf]; exact wrapNat (by omega)
  generalize hB : h1.new (.cells ((List.replicate 12 false).map bcell)) = h2
  obtain ⟨i0, hi0⟩ : ∃ i, i = h1.next := ⟨_, rfl⟩
  have n2 : h2.next = h1.next + 1 := by rw [← hB]; rfl
  have x2 : Ext h1 h2 := by rw [← hB]; exact (Ext.refl _).new _
  have s2 := s1.ext (x2.b []) (by simp) (by simp)
  have g2 : h2.get i0 = some (.cells ((List.replicate 12 false).map bcell)) := by rw [← hB, hi0]; exact get_new_at
  have rep : ∀ k, (List.replicate 12 false).getD k false = false := fun k => by
    rw [List.getD_eq_getElem?_getD, List.getElem?_replicate]; split <;> rfl
  have hip : i0 ≠ p ∧ i0 ≠ b := by have := s1.pn; have := s1.bn; omega
  have L0 : ∀ loc, keepOnly ir8_k0 loc = [.c (.int .i64 mask), .c (.int .i64 n), .junk, .c (.ptr p 0), .c (.int .i64 (R.length : Int)), .junk, .c (.ptr i0 0), .c (.int .i64 (f : Int)), .c (.int .i64 0), .junk, .junk, .junk, .junk, .junk, .junk, .junk] →
      ∃ r, loopK (evCallT table 28 200 8) 200 ir8_k0 ir8_l0 200 loc h2 = some r ∧ ∃ h' a0 a2 l, SB h' p b (stD mask 12) ∧ r = (.exit 2, a0 :: .c (.int .i64 n) :: a2 :: .c (.ptr p 0) :: l, h') := by
    intro loc hloc
    refine loop_inv (n := R.length) (fun i loc h' => SB h' p b (stD mask 12) ∧ (∃ S : List Bool, S.length = 12 ∧ h'.get i0 = some (.cells (S.map bcell)) ∧ i0 < h'.next ∧ ∀ y, S.getD y false = true → ∃ j, j < i ∧ R[(f + j) % R.length]? = some y) ∧
      loc = [.c (.int .i64 mask), .c (.int .i64 n), .junk, .c (.ptr p 0), .c (.int .i64 (R.length : Int)), .junk, .c (.ptr i0 0), .c (.int .i64 (f : Int)), .c (.int .i64 (i : Int)), .junk, .junk, .junk, .junk, .junk, .junk, .junk]) _ ?_ ⟨s2, ⟨_, by simp, g2, by omega, fun y hy => by rw [rep y] at hy; cases hy⟩, hloc⟩ (by omega)
    rintro i loc h' hi ⟨s, ⟨S, hS, gS, ni, hseen⟩, rfl⟩
    unfold ir8_l0
    by_cases hlt : i < R.length
    · left
      refine ⟨hlt, ?_⟩
      have v1 : decide ((i : Int) < (R.length : Int)) = true := ltNat hlt
      have v2 := succI (i := i) (by omega)
      have v3 : IntKind.i64.wrap ((f : Int) + (i : Int)) = ((f + i : Nat) : Int) := by rw [wrapI (by omega) (by omega)]; omega
      obtain ⟨h3, kk, hkk, e3, hmod, x3⟩ := pick_some (N := 200) (d := 6) s ((f + i : Nat) : Int) hne (by omega) (by omega)
      have hkl : kk < R.length := by rw [hR] at hkk; exact hkk
      have hget : (readyM (stD mask 12))[kk]'hkk = R[kk] := by simp only [hR]
      have hkm : kk = (f + i) % R.length := by rw [hR] at hmod; omega
      rw [hget] at e3
      have e3' : evCallT table 28 200 8 39 [.c (.ptr p 0), .c (.int .i64 ((f + i : Nat) : Int))] h' = some (.c (.int .i64 (R[kk] : Int)), h3) := e3
      obtain ⟨ht12, htb⟩ := hmem R[kk] (List.getElem_mem _)
      have s3 := s.ext (x3.b []) (by simp) (by simp)
      have g3 := x3.at_ gS ni
      have hfalse : S[R[kk]]'(by omega) = false := by
        cases hv : S[R[kk]]'(by omega) with
        | false => rfl
        | true =>
          obtain ⟨j, hj, hRj⟩ := hseen R[kk] (by simp [List.getD_eq_getElem?_getD, hS, ht12, hv])
          have hjl : (f + j) % R.length < R.length := Nat.mod_lt _ (by omega)
          rw [List.getElem?_eq_getElem hjl] at hRj
          have heq : R[(f + j) % R.length] = R[kk] := by simpa using hRj
          have hidx : (f + j) % R.length = kk := by
            rcases Nat.lt_trichotomy ((f + j) % R.length) kk with h | h | h
            · exact absurd heq (List.pairwise_iff_getElem.1 hnd _ _ hjl hkl h)
            · exact h
            · exact absurd heq.symm (List.pairwise_iff_getElem.1 hnd _ _ hkl hjl h)
          have hm : (f + i) % R.length = (f + j) % R.length := by rw [← hkm, hidx]
          have hz2 := Nat.sub_mod_eq_zero_of_mod_eq hm
          rw [show f + i - (f + j) = i - j by omega, Nat.mod_eq_of_lt (by omega)] at hz2
          omega
      have k1 : h3.read i0 R[kk] 1 = some [.bool false] := read_cells g3 (by simp [bcell, hS, ht12, hfalse])
      have W := write_one (v := .bool true) g3 (show R[kk] < (S.map bcell).length by simp [hS, ht12])
      have m1 : Nat.blt R[kk] 12 = true := bltT ht12
      have c1 : decide ((R[kk] : Int) < 0) = false := decide_eq_false (by omega)
      have c2 : decide ((R[kk] : Int) ≥ 12) = false := decide_eq_false (by omega)
      have c3 : IntKind.u64.wrap (R[kk] : Int) = (R[kk] : Int) := wrapUNat (by omega)
      have hX : (IntKind.i64.wrap ((BitVec.ofInt IntKind.i64.bits (mask.fdiv (2 ^ (min (Int.toNat (R[kk] : Int)) IntKind.i64.bits))) &&& BitVec.ofInt IntKind.i64.bits 1).toNat : Int) == 0) = false := by
        show (bitX mask R[kk] == 0) = false
        have : bitX mask R[kk] = 1 := by simpa [bitD] using htb
        rw [this]; rfl
      simp only [enter_eq, ev_seq, seqK_norm, seqK_exit, seqK_ret, ev_reg, ev_cond, condK_true, condK_false, ev_block, blockK_norm, blockK_ret, blockK_exit, ev_loop, ev_skip, ev_exit, ev_ret, regK_cons, regK_nil, guard_none, guard_some, regG_true, regG_false, regO_some, op_mov, op_conv, op_bin, op_bsl, op_box, op_mks, op_s2b, op_pick, op_un, op_eq, op_len, op_ext, op_load, op_iaddr, op_slice, op_b2s, op_idxS, op_mx, op_mn, op_call, op_store, op_app, op_copy, args_eq, result_one', rv_loc, finish_norm, finish_ret, outK_some, keep_true, keep_false, keep_nil, p_bin, p_pick, p_un, p_eq, p_conv, evNew, pureK_some, newK_some, X.eval, set_none, set_some, List.map_cons, List.map_nil, List.getD_cons_zero, List.getD_cons_succ, List.getD_nil, List.set_cons_zero, List.set_cons_succ, binCV, unCV, isShift, intArithF_eq, shiftF_eq, wrapF_eq, intArith, shift, eqVal, bound, asNat_cast, cond_true, cond_false, BEq.rfl, beq_self_eq_true, evalParts, fillParts, AV.cells, AV.ofCells, XV.av, AV.xv, List.length_cons, List.length_nil, zeros, patch, setMany, List.nil_append, List.cons_append, Nat.ble, Nat.add_eq, Nat.zero_add, Nat.add_zero, Nat.reduceAdd, Nat.reduceMul, Nat.reduceSub, Nat.ble_eq, Nat.reduceLeDiff, Nat.reduceBEq, Int.reduceBEq, Int.reduceNeg, Bool.and_true, Bool.and_false, Bool.true_and, Bool.false_and, Bool.not_true, Bool.not_false, Bool.true_eq_false, Bool.false_eq_true, Int.reduceLT, Int.reduceLE, Int.reduceGT, Int.reduceGE, decide_true, decide_false, Bool.not_eq_true, loopN_norm, loopN_exit, tf, ft, ff, v1, v2, v3, e3', c1, c2, c3, op_iaddrA, p_iaddrA, m1, Nat.mul_one, p_load, k1, AV.ofCells, hX, evEff, W]
      refine ⟨_, _, rfl, s3.ext (S := [i0]) ((ExtB.refl _ _).put (.inr (by simp)) _) (by simpa using hip.1.symm) (by simpa using hip.2.symm), ⟨S.set R[kk] true, by simpa using hS, by rw [get_put_at, List.map_set]; rfl, Nat.lt_of_lt_of_le ni x3.1, fun y hy => ?_⟩, rfl⟩
      by_cases ey : y = R[kk]
      · exact ⟨i, by omega, by rw [← hkm, List.getElem?_eq_getElem hkl, ey]⟩
      · obtain ⟨j, hj, hRj⟩ := hseen y (by simpa only [List.getD_eq_getElem?_getD, List.getElem?_set_ne (Ne.symm ey)] using hy)
        exact ⟨j, by omega, hRj⟩
    · right
      have hin : i = R.length := by omega
      subst hin
      have v1 : decide ((R.length : Int) < (R.length : Int)) = false := geNat (Nat.le_refl _)
      simp only [enter_eq, ev_seq, seqK_norm, seqK_exit, seqK_ret, ev_reg, ev_cond, condK_true, condK_false, ev_block, blockK_norm, blockK_ret, blockK_exit, ev_loop, ev_skip, ev_exit, ev_ret, regK_cons, regK_nil, guard_none, guard_some, regG_true, regG_false, regO_some, op_mov, op_conv, op_bin, op_bsl, op_box, op_mks, op_s2b, op_pick, op_un, op_eq, op_len, op_ext, op_load, op_iaddr, op_slice, op_b2s, op_idxS, op_mx, op_mn, op_call, op_store, op_app, op_copy, args_eq, result_one', rv_loc, finish_norm, finish_ret, outK_some, keep_true, keep_false, keep_nil, p_bin, p_pick, p_un, p_eq, p_conv, evNew, pureK_some, newK_some, X.eval, set_none, set_some, List.map_cons, List.map_nil, List.getD_cons_zero, List.getD_cons_succ, List.getD_nil, List.set_cons_zero, List.set_cons_succ, binCV, unCV, isShift, intArithF_eq, shiftF_eq, wrapF_eq, intArith, shift, eqVal, bound, asNat_cast, cond_true, cond_false, BEq.rfl, beq_self_eq_true, evalParts, fillParts, AV.cells, AV.ofCells, XV.av, AV.xv, List.length_cons, List.length_nil, zeros, patch, setMany, List.nil_append, List.cons_append, Nat.ble, Nat.add_eq, Nat.zero_add, Nat.add_zero, Nat.reduceAdd, Nat.reduceMul, Nat.reduceSub, Nat.ble_eq, Nat.reduceLeDiff, Nat.reduceBEq, Int.reduceBEq, Int.reduceNeg, Bool.and_true, Bool.and_false, Bool.true_and, Bool.false_and, Bool.not_true, Bool.not_false, Bool.true_eq_false, Bool.false_eq_true, Int.reduceLT, Int.reduceLE, Int.reduceGT, Int.reduceGE, decide_true, decide_false, Bool.not_eq_true, loopN_norm, loopN_exit, tf, ft, ff, v1]
      exact ⟨_, rfl, by simp, h', _, _, _, s, rfl⟩
  obtain ⟨r, hr0, h3, a0, a2, l, s3, rfl⟩ := L0 [.c (.int .i64 mask), .c (.int .i64 n), .junk, .c (.ptr p 0), .c (.int .i64 (R.length : Int)), a5, .c (.ptr i0 0), .c (.int .i64 (f : Int)), .c (.int .i64 0), .junk, .junk, a11, a12, .c (.bool false), .junk, .junk] rfl
  obtain ⟨h4, kk, hkk, e4, _, _⟩ := pick_some (N := 200) (d := 6) s3 n hne (by omega) (by omega)
  have e4' : evCallT table 28 200 8 39 [.c (.ptr p 0), .c (.int .i64 n)] h3 = some (.c (.int .i64 ((readyM (stD mask 12))[kk] : Int)), h4) := e4
  have c9 : decide (((readyM (stD mask 12))[kk] : Int) ≥ 0) = true := decide_eq_true (by omega)
  rw [hi0, ← hB] at hr0
  simp only [List.replicate, List.map_cons, List.map_nil, bcell] at hr0
  simp only [enter_eq, ev_seq, seqK_norm, seqK_exit, seqK_ret, ev_reg, ev_cond, condK_true, condK_false, ev_block, blockK_norm, blockK_ret, blockK_exit, ev_loop, ev_skip, ev_exit, ev_ret, regK_cons, regK_nil, guard_none, guard_some, regG_true, regG_false, regO_some, op_mov, op_conv, op_bin, op_bsl, op_box, op_mks, op_s2b, op_pick, op_un, op_eq, op_len, op_ext, op_load, op_iaddr, op_slice, op_b2s, op_idxS, op_mx, op_mn, op_call, op_store, op_app, op_copy, args_eq, result_one', rv_loc, finish_norm, finish_ret, outK_some, keep_true, keep_false, keep_nil, p_bin, p_pick, p_un, p_eq, p_conv, evNew, pureK_some, newK_some, X.eval, set_none, set_some, List.map_cons, List.map_nil, List.getD_cons_zero, List.getD_cons_succ, List.getD_nil, List.set_cons_zero, List.set_cons_succ, binCV, unCV, isShift, intArithF_eq, shiftF_eq, wrapF_eq, intArith, shift, eqVal, bound, asNat_cast, cond_true, cond_false, BEq.rfl, beq_self_eq_true, evalParts, fillParts, AV.cells, AV.ofCells, XV.av, AV.xv, List.length_cons, List.length_nil, zeros, patch, setMany, List.nil_append, List.cons_append, Nat.ble, Nat.add_eq, Nat.zero_add, Nat.add_zero, Nat.reduceAdd, Nat.reduceMul, Nat.reduceSub, Nat.ble_eq, Nat.reduceLeDiff, Nat.reduceBEq, Int.reduceBEq, Int.reduceNeg, Bool.and_true, Bool.and_false, Bool.true_and, Bool.false_and, Bool.not_true, Bool.not_false, Bool.true_eq_false, Bool.false_eq_true, Int.reduceLT, Int.reduceLE, Int.reduceGT, Int.reduceGE, decide_true, decide_false, Bool.not_eq_true, loopN_norm, loopN_exit, tf, ft, ff, e0, hr1, blockK_exit_eq, q1, ef, hr0, evCallT_told, e4', c9]
  rfl

end Lav

namespace Go.Proofs.Ytakkkibaaipmcaa.schedPicks
open Go.ChangeShapes Go.WideShapes Go.ChangeAt Go.RowKit
open Go.ChangeMaps (open_string shut_string)
set_option linter.unusedVariables false      -- a walk need not use every 'w<i>' (that an integer argument fits its kind)

theorem own : ownKnob Try.prog.godebug = none := by kernel_rfl

/-! ### STEP 1: THE WALK: the Go text returns true. 'Below w.heap.size w w'': the world has at most new blocks (Derived/RowKit3.lean). Part the cases AHEAD of 'go_enter' where a test parts the walk; take each callee by a contract of your own. -/
theorem walk (a0 : Int) (a1 : Int) (w0 : (Lit.int .i64 a0).wf = true) (w1 : (Lit.int .i64 a1).wf = true) (w : World) :
    Calls Try.prog 8 #[.int .i64 a0, .int .i64 a1] w fun e w' => e = .returned (.bool true) ∧ Below w.heap.size w w' := by
  exact Lav.walk_of (Lav.evCallT_sound Lav.mixed Lav.table_ok Lav.tld7 200 9) (Lav.Init.empty w) (args := [.c (.int .i64 a0), .c (.int .i64 a1)]) (vs := [.int .i64 a0, .int .i64 a1]) ⟨rfl, rfl, trivial⟩ (Lav.schedPicks a0 a1)

/-! ### THE ROW's STEP: WRITTEN OUT: LEAVE IT -/
set_option maxRecDepth 100000 in
theorem lifted (os : Os) (started : os.Started) (H : Type) (enc : TypeId × Value → H) :
    ReturnsInHanded {} Try.checked os 8 .any (Rows.schedPicksSpec.pre6 enc Try.prog Try.f8 Rows.schedPicksRow.domain false) (Rows.schedPicksSpec.post enc Try.prog Try.f8 false true false false) := by
  refine returnsInHanded_of_change (C := Try.checked) own started (by kernel_rfl) Try.func8
    (ChangeSpec.witness6 (enc := enc) (C := Try.checked) false ⟨#[], #[.int .i64 0, .int .i64 0], []⟩ 8 (by kernel_rfl) (by kernel_rfl) (by kernel_rfl) (by kernel_rfl)) ?_
  intro W base args ds gs before hval0 hW hcnd _
  have hval : ∀ (j : Nat) t v, Try.f8.params[j]? = some t → args[j]? = some v → Value.okWide Try.prog W .any base t v := hval0
  have hW' := hW
  obtain ⟨p, q, hA0, hV, rfl, hfz, hnd⟩ := hW
  have hA : DataW.TrodAll enc Try.prog W 0 (fun _ => true) true Try.f8.params.toList args.toList ds p := hA0
  rw [Try.params8] at hA hval
  obtain ⟨v0, vs0, d0, ds0, p0, q0, hargs, rfl, rfl, h0, r0⟩ := trodAll_cons hA
  obtain ⟨v1, vs1, d1, ds1, p1, q1, rfl, rfl, rfl, h1, r1⟩ := trodAll_cons r0
  obtain ⟨rfl, rfl, rfl⟩ := trodAll_nil r1
  obtain rfl : args = #[v0, v1] := by cases args; simp_all
  obtain ⟨rfl, rfl⟩ := trodVars_none hV
  obtain ⟨a0, rfl, rfl, rfl, w0⟩ := open_int Try.underlying3 (hval 0 3 v0 rfl rfl) h0
  obtain ⟨a1, rfl, rfl, rfl, w1⟩ := open_int Try.underlying3 (hval 1 3 v1 rfl rfl) h1
  clear hA0 hval0
  refine (walk a0 a1 w0 w1 W).mono fun e W' ⟨he, hg⟩ => ?_
  subst he
  exact ⟨_, rfl, _, _, _, [], _, [], hW', trodAll_mk1 (shut_bool Try.underlying4 _), (trodAll_cons_mk (shut_int Try.underlying3 w0) (trodAll_cons_mk (shut_int Try.underlying3 w1) trodAll_mk0)), rfl, hg.frame _, fun h => by cases h⟩

theorem over : Rows.schedPicksRow.holds Try.pinned (OpenSpec.ofChange Rows.schedPicksSpec) :=
  OpenClaim.holds_of_wide 8 Try.f8 rfl rfl rfl rfl rfl rfl rfl ⟨rfl, rfl, rfl, rfl, rfl⟩ rfl rfl rfl rfl rfl (by kernel_rfl) Try.func8 (by kernel_rfl)
    (of_decide_eq_true (by kernel_rfl)) (by unfold Func.isWrapper; first | (rw [if_pos (by decide +kernel)]; kernel_rfl) | (rw [if_neg (by decide +kernel)]; exact ⟨rfl, rfl⟩))
    (fun os started H enc _ => lifted os started H enc)

/-- ████ THE STATEMENT ████ -/
theorem proved : Rows.SchedPicksSaid :=
  over
end Go.Proofs.Ytakkkibaaipmcaa.schedPicks
