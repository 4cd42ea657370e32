/-
  Proved: whatever numbers come in, lavabolaw7.SchedFrees returns true and changes nothing that was there. No conditions beyond the given statement's.
-/
import Derived.Test.YtakkkibaaipmcaaRows
import Derived.Test.YtakkkibaaipmcaaSched1
import Derived.Test.YtakkkibaaipmcaaSched2
import Derived.Test.YtakkkibaaipmcaaSched3
import Derived.Test.YtakkkibaaipmcaaSched4
import Derived.WalkKit
import Derived.ProofKit
import Derived.OpenShut
import Derived.ShutString
import Derived.ChangeOld
import Derived.Below
set_option maxRecDepth 100000
set_option linter.unusedSimpArgs false
namespace Lav
open Go (IntKind)
theorem bneI {a b : Int} : (a != b) = !(a == b) := rfl
/-- A task that waits on a number. -/
def bk (k : Nat) : Tk := ⟨2, 0, k⟩
def stK (K : List Nat) : Tks := K.map bk ++ List.replicate (8 - K.length) tk0

theorem stK_len {K : List Nat} (h : K.length ≤ 8) : (stK K).length = 8 := by simp [stK]; omega
theorem stK_at {K : List Nat} (h : K.length < 8) : (stK K)[K.length]'(by rw [stK_len (by omega)]; exact h) = tk0 := by
  unfold stK
  rw [List.getElem_append_right (by simp)]
  simp
theorem stK_set {K : List Nat} (h : K.length < 8) (k : Nat) : (stK K).set K.length (bk k) = stK (K ++ [k]) := by
  unfold stK
  rw [List.set_append_right _ _ (by simp)]
  have e : K.length - (K.map bk).length = 0 := by simp
  rw [e, show 8 - K.length = (8 - (K ++ [k]).length) + 1 by simp; omega, List.replicate_succ, List.set_cons_zero]
  simp

theorem woken_count (w : Nat) (K : List Nat) : (idxGo (waitsOn (w : Int)) 0 (K.map bk)).length = K.countP (· == w) := by
  rw [idx_count, List.countP_map]
  congr 1
  funext k
  show waitsOn (w : Int) (bk k) = _
  simp only [waitsOn, bk]
  by_cases e : k = w
  · subst e; simp
  · have : ((k : Int) == (w : Int)) = false := by simp; omega
    simp [this, e]
theorem ready_count (w : Nat) (K : List Nat) : (readyM ((K.map bk).map (freed (w : Int)))).length = K.countP (· == w) := by
  unfold readyM
  rw [ready_idx, idx_count, List.countP_map, List.countP_map]
  congr 1
  funext k
  show ((freed (w : Int) (bk k)).st == 1) = _
  by_cases e : k = w
  · subst e; simp [freed, waitsOn, bk]
  · have : ((k : Int) == (w : Int)) = false := by simp; omega
    simp [freed, waitsOn, bk, this, e]

theorem hrow {l : List Int} : ∀ H : Heap, H.get 0 = some (.ro (l.map (.int .i64))) → ∀ i (hi : i < l.length), H.read 0 i 1 = some [.int .i64 l[i]] := fun H hg i hi => read_ro hg (by simp [hi])

theorem build_ {h0 : Heap} {l : List Int} {p b w : Nat} (s0 : SB h0 p b (List.replicate 8 tk0)) (g0 : h0.get 0 = some (.ro (l.map (.int .i64)))) (hb0 : 0 < b) (hl : ¬ l.length < 8) :
    ∀ loc, keepOnly ir9_k1 loc = [.c (.sl Heap.empty.next 0 l.length (.dy 1)), .junk, .junk, .c (.ptr p 0), .c (.int .i64 (w : Int)), .c (.int .i64 0), .c (.int .i64 0), .junk, .junk, .junk, .junk, .junk, .junk, .junk, .junk, .junk, .junk] →
      ∃ r, loopK (evCallT table 28 200 8) 200 ir9_k1 ir9_l1 200 loc h0 = some r ∧ ∃ h', ∃ K : List Nat, ∃ a6 a7 a11 a12 a13, K.length = 8 ∧ (∀ j (hj : j < K.length) (hj' : j < l.length), IntKind.i64.wrap (Int.tmod (IntKind.u64.wrap l[j]) 3) = (K[j] : Int)) ∧ SB h' p b (stK K) ∧ h'.get 0 = some (.ro (l.map (.int .i64))) ∧
        r = (.exit 0, [.c (.sl Heap.empty.next 0 l.length (.dy 1)), .junk, .junk, .c (.ptr p 0), .c (.int .i64 (w : Int)), .c (.int .i64 ((K.countP (· == w) : Nat) : Int)), a6, a7, .junk, .junk, .junk, a11, a12, a13, .junk, .junk, .junk], h') := by
    intro loc hloc
    refine loop_inv (n := 8) (fun i loc h' => ∃ K : List Nat, K.length = i ∧ (∀ j (hj : j < K.length) (hj' : j < l.length), IntKind.i64.wrap (Int.tmod (IntKind.u64.wrap l[j]) 3) = (K[j] : Int)) ∧ SB h' p b (stK K) ∧ h'.get 0 = some (.ro (l.map (.int .i64))) ∧
      loc = [.c (.sl Heap.empty.next 0 l.length (.dy 1)), .junk, .junk, .c (.ptr p 0), .c (.int .i64 (w : Int)), .c (.int .i64 ((K.countP (· == w) : Nat) : Int)), .c (.int .i64 (i : Int)), .junk, .junk, .junk, .junk, .junk, .junk, .junk, .junk, .junk, .junk]) _ ?_ ⟨[], rfl, by simp, s0, g0, hloc⟩ (by omega)
    rintro i loc h' hi ⟨K, rfl, hK, s, g, rfl⟩
    unfold ir9_l1
    by_cases hlt : K.length < 8
    · left
      refine ⟨hlt, ?_⟩
      have v1 : decide ((K.length : Int) < 8) = true := ltNat (n := 8) hlt
      have v2 := succI (i := K.length) (by omega)
      have hcp : K.countP (· == w) ≤ K.length := List.countP_le_length
      have v3 := succI (i := K.countP (· == w)) (by omega)
      have m1 : Nat.blt K.length l.length = true := bltT (by omega)
      have k1 := hrow h' g K.length (by omega)
      obtain ⟨k, hk, ek⟩ := few (a := l[K.length]'(by omega)) (m := 3) (by omega) (by omega)
      have ek' : IntKind.i64.wrap (Int.tmod (IntKind.u64.wrap (l[K.length]'(by omega))) 3) = (k : Int) := ek
      have h8 : K.length < (stK K).length := by rw [stK_len (by omega)]; exact hlt
      have e1 : evCallT table 28 200 8 29 [.c (.ptr p 0), .c (.int .i64 (K.length : Int)), .c (.int .i64 0)] h' = some (.c (.bool true), h'.put b (.cells (tksC ((stK K).set K.length ⟨1, 0, -1⟩)))) := by
        have := wake_ok (N := 200) (d := 5) s h8 0
        rw [stK_at hlt, if_pos (.inl rfl)] at this; exact this
      have s1 : SB (h'.put b (.cells (tksC ((stK K).set K.length ⟨1, 0, -1⟩)))) p b ((stK K).set K.length ⟨1, 0, -1⟩) := s.put (by simp)
      have g1 : (h'.put b (.cells (tksC ((stK K).set K.length ⟨1, 0, -1⟩)))).get 0 = some (.ro (l.map (.int .i64))) := (get_put_ne (by omega)).trans g
      generalize h'.put b (.cells (tksC ((stK K).set K.length ⟨1, 0, -1⟩))) = h1 at *
      have e2 : evCallT table 28 200 8 33 [.c (.ptr p 0), .c (.int .i64 (K.length : Int)), .c (.int .i64 (k : Int))] h1 = some (.c (.bool true), (h1.put b (.cells (tksC ((stK K).set K.length ⟨2, 0, -1⟩)))).put b (.cells (tksC (stK (K ++ [k]))))) := by
        have := block_ok (N := 200) (d := 5) s1 (t := K.length) (by simpa using h8) k
        simp only [List.getElem_set_self, if_true, List.set_set] at this
        rw [← stK_set hlt k]; exact this
      have s2' : SB (h1.put b (.cells (tksC ((stK K).set K.length ⟨2, 0, -1⟩)))) p b ((stK K).set K.length ⟨2, 0, -1⟩) := s1.put (by simp)
      have s2 : SB ((h1.put b (.cells (tksC ((stK K).set K.length ⟨2, 0, -1⟩)))).put b (.cells (tksC (stK (K ++ [k]))))) p b (stK (K ++ [k])) := s2'.put (by rw [stK_len (by simp; omega)]; simp [stK_len (show K.length ≤ 8 by omega)])
      have g2 : ((h1.put b (.cells (tksC ((stK K).set K.length ⟨2, 0, -1⟩)))).put b (.cells (tksC (stK (K ++ [k]))))).get 0 = some (.ro (l.map (.int .i64))) := (get_put_ne (by omega)).trans ((get_put_ne (by omega)).trans g1)
      generalize (h1.put b (.cells (tksC ((stK K).set K.length ⟨2, 0, -1⟩)))).put b (.cells (tksC (stK (K ++ [k])))) = h2 at *
      have hK' : ∀ j (hj : j < (K ++ [k]).length) (hj' : j < l.length), IntKind.i64.wrap (Int.tmod (IntKind.u64.wrap l[j]) 3) = ((K ++ [k])[j] : Int) := fun j hj hj' => by
        by_cases hjk : j < K.length
        · rw [List.getElem_append_left hjk]; exact hK j hjk hj'
        · have : j = K.length := by simp at hj; omega
          subst this
          rw [List.getElem_append_right (by omega)]; simpa using ek'
      by_cases hkw : k = w
      · have q : ((k : Int) == (w : Int)) = true := by simp [hkw]
        have hc : (K ++ [k]).countP (· == w) = K.countP (· == w) + 1 := by simp [List.countP_append, hkw]
        simp only [enter_eq, ev_seq, seqK_norm, seqK_exit, seqK_ret, ev_reg, ev_cond, condK_true, condK_false, ev_block, blockK_norm, blockK_ret, blockK_exit, ev_loop, ev_skip, ev_exit, ev_ret, regK_cons, regK_nil, guard_none, guard_some, regG_true, regG_false, regO_some, op_mov, op_conv, op_bin, op_bsl, op_box, op_mks, op_s2b, op_pick, op_un, op_eq, op_len, op_ext, op_load, op_iaddr, op_slice, op_b2s, op_idxS, op_mx, op_mn, op_call, op_store, op_app, op_copy, args_eq, result_one', rv_loc, finish_norm, finish_ret, outK_some, keep_true, keep_false, keep_nil, p_bin, p_pick, p_un, p_eq, p_conv, evNew, pureK_some, newK_some, X.eval, set_none, set_some, List.map_cons, List.map_nil, List.getD_cons_zero, List.getD_cons_succ, List.getD_nil, List.set_cons_zero, List.set_cons_succ, binCV, unCV, isShift, intArithF_eq, shiftF_eq, wrapF_eq, intArith, shift, eqVal, bound, asNat_cast, cond_true, cond_false, BEq.rfl, beq_self_eq_true, evalParts, fillParts, AV.cells, AV.ofCells, XV.av, AV.xv, List.length_cons, List.length_nil, zeros, patch, setMany, List.nil_append, List.cons_append, Nat.ble, Nat.add_eq, Nat.zero_add, Nat.add_zero, Nat.reduceAdd, Nat.reduceMul, Nat.reduceSub, Nat.ble_eq, Nat.reduceLeDiff, Nat.reduceBEq, Int.reduceBEq, Int.reduceNeg, Bool.and_true, Bool.and_false, Bool.true_and, Bool.false_and, Bool.not_true, Bool.not_false, Bool.true_eq_false, Bool.false_eq_true, Int.reduceLT, Int.reduceLE, Int.reduceGT, Int.reduceGE, decide_true, decide_false, Bool.not_eq_true, loopN_norm, loopN_exit, tf, ft, ff, bneI, v1, v2, v3, p_iaddr, p_load, AV.ofCells, m1, Nat.mul_one, show Heap.empty.next = 0 from rfl, k1, ek', e1, e2, q]
        exact ⟨_, _, rfl, K ++ [k], by simp, hK', s2, g2, by rw [hc]; rfl⟩
      · have q : ((k : Int) == (w : Int)) = false := by simp; omega
        have hc : (K ++ [k]).countP (· == w) = K.countP (· == w) := by simp [List.countP_append, hkw]
        simp only [enter_eq, ev_seq, seqK_norm, seqK_exit, seqK_ret, ev_reg, ev_cond, condK_true, condK_false, ev_block, blockK_norm, blockK_ret, blockK_exit, ev_loop, ev_skip, ev_exit, ev_ret, regK_cons, regK_nil, guard_none, guard_some, regG_true, regG_false, regO_some, op_mov, op_conv, op_bin, op_bsl, op_box, op_mks, op_s2b, op_pick, op_un, op_eq, op_len, op_ext, op_load, op_iaddr, op_slice, op_b2s, op_idxS, op_mx, op_mn, op_call, op_store, op_app, op_copy, args_eq, result_one', rv_loc, finish_norm, finish_ret, outK_some, keep_true, keep_false, keep_nil, p_bin, p_pick, p_un, p_eq, p_conv, evNew, pureK_some, newK_some, X.eval, set_none, set_some, List.map_cons, List.map_nil, List.getD_cons_zero, List.getD_cons_succ, List.getD_nil, List.set_cons_zero, List.set_cons_succ, binCV, unCV, isShift, intArithF_eq, shiftF_eq, wrapF_eq, intArith, shift, eqVal, bound, asNat_cast, cond_true, cond_false, BEq.rfl, beq_self_eq_true, evalParts, fillParts, AV.cells, AV.ofCells, XV.av, AV.xv, List.length_cons, List.length_nil, zeros, patch, setMany, List.nil_append, List.cons_append, Nat.ble, Nat.add_eq, Nat.zero_add, Nat.add_zero, Nat.reduceAdd, Nat.reduceMul, Nat.reduceSub, Nat.ble_eq, Nat.reduceLeDiff, Nat.reduceBEq, Int.reduceBEq, Int.reduceNeg, Bool.and_true, Bool.and_false, Bool.true_and, Bool.false_and, Bool.not_true, Bool.not_false, Bool.true_eq_false, Bool.false_eq_true, Int.reduceLT, Int.reduceLE, Int.reduceGT, Int.reduceGE, decide_true, decide_false, Bool.not_eq_true, loopN_norm, loopN_exit, tf, ft, ff, bneI, v1, v2, v3, p_iaddr, p_load, AV.ofCells, m1, Nat.mul_one, show Heap.empty.next = 0 from rfl, k1, ek', e1, e2, q]
        exact ⟨_, _, rfl, K ++ [k], by simp, hK', s2, g2, by rw [hc]; rfl⟩
    · right
      have hi8 : K.length = 8 := by omega
      have v1 : decide ((K.length : Int) < 8) = false := geNat (n := 8) (by omega)
      simp only [enter_eq, ev_seq, seqK_norm, seqK_exit, seqK_ret, ev_reg, ev_cond, condK_true, condK_false, ev_block, blockK_norm, blockK_ret, blockK_exit, ev_loop, ev_skip, ev_exit, ev_ret, regK_cons, regK_nil, guard_none, guard_some, regG_true, regG_false, regO_some, op_mov, op_conv, op_bin, op_bsl, op_box, op_mks, op_s2b, op_pick, op_un, op_eq, op_len, op_ext, op_load, op_iaddr, op_slice, op_b2s, op_idxS, op_mx, op_mn, op_call, op_store, op_app, op_copy, args_eq, result_one', rv_loc, finish_norm, finish_ret, outK_some, keep_true, keep_false, keep_nil, p_bin, p_pick, p_un, p_eq, p_conv, evNew, pureK_some, newK_some, X.eval, set_none, set_some, List.map_cons, List.map_nil, List.getD_cons_zero, List.getD_cons_succ, List.getD_nil, List.set_cons_zero, List.set_cons_succ, binCV, unCV, isShift, intArithF_eq, shiftF_eq, wrapF_eq, intArith, shift, eqVal, bound, asNat_cast, cond_true, cond_false, BEq.rfl, beq_self_eq_true, evalParts, fillParts, AV.cells, AV.ofCells, XV.av, AV.xv, List.length_cons, List.length_nil, zeros, patch, setMany, List.nil_append, List.cons_append, Nat.ble, Nat.add_eq, Nat.zero_add, Nat.add_zero, Nat.reduceAdd, Nat.reduceMul, Nat.reduceSub, Nat.ble_eq, Nat.reduceLeDiff, Nat.reduceBEq, Int.reduceBEq, Int.reduceNeg, Bool.and_true, Bool.and_false, Bool.true_and, Bool.false_and, Bool.not_true, Bool.not_false, Bool.true_eq_false, Bool.false_eq_true, Int.reduceLT, Int.reduceLE, Int.reduceGT, Int.reduceGE, decide_true, decide_false, Bool.not_eq_true, loopN_norm, loopN_exit, tf, ft, ff, v1]
      exact ⟨_, rfl, by simp, h', K, _, _, _, _, _, hi8, hK, s, g, rfl⟩

theorem walkF {h3 : Heap} {l : List Int} {p b w : Nat} {K F : List Nat} {f : CV} {h2 : Heap} (s3 : SB h3 p b ((K.map bk).map (freed (w : Int)))) (g3 : h3.get 0 = some (.ro (l.map (.int .i64)))) (mf : Made h2 h3 f (natL F)) (hK8 : K.length = 8) (hl : ¬ l.length < 8) (hb0 : 0 < b)
    (hK : ∀ j (hj : j < K.length) (hj' : j < l.length), IntKind.i64.wrap (Int.tmod (IntKind.u64.wrap l[j]) 3) = (K[j] : Int)) (hF : ∀ y ∈ F, ∃ hj : y < K.length, K[y] = w) (hFl : F.length = K.countP (· == w)) (hcp : K.countP (· == w) ≤ 8)
    (lf : ∀ (loc vals : List AV) (h : Heap), evPure loc (.c f :: vals) h (.len .sl (.val 0)) = some (.c (.int .i64 ((K.countP (· == w) : Nat) : Int)))) :
    ∀ loc, keepOnly ir9_k0 loc = [.c (.sl Heap.empty.next 0 l.length (.dy 1)), .junk, .junk, .c (.ptr p 0), .c (.int .i64 (w : Int)), .c (.int .i64 ((K.countP (· == w) : Nat) : Int)), .junk, .junk, .c f, .c (.int .i64 0), .junk, .junk, .junk, .junk, .junk, .junk, .junk] →
      ∃ r, loopK (evCallT table 28 200 8) 200 ir9_k0 ir9_l0 200 loc h3 = some r ∧ ∃ h' a0 a1 a2 a6 a7 rest, SB h' p b ((K.map bk).map (freed (w : Int))) ∧
        r = (.exit 2, a0 :: a1 :: a2 :: .c (.ptr p 0) :: .c (.int .i64 (w : Int)) :: .c (.int .i64 ((K.countP (· == w) : Nat) : Int)) :: a6 :: a7 :: .c f :: rest, h') := by
    intro loc hloc
    have hlen3 : ((K.map bk).map (freed (w : Int))).length = 8 := by simpa using hK8
    refine loop_inv (n := F.length) (fun i loc h' => Ext h3 h' ∧ loc = [.c (.sl Heap.empty.next 0 l.length (.dy 1)), .junk, .junk, .c (.ptr p 0), .c (.int .i64 (w : Int)), .c (.int .i64 ((K.countP (· == w) : Nat) : Int)), .junk, .junk, .c f, .c (.int .i64 (i : Int)), .junk, .junk, .junk, .junk, .junk, .junk, .junk]) _ ?_ ⟨Ext.refl _, hloc⟩ (by omega)
    rintro i loc h' hi ⟨he, rfl⟩
    unfold ir9_l0
    have s' := s3.ext (he.b []) (by simp) (by simp)
    by_cases hlt : i < F.length
    · left
      refine ⟨hlt, ?_⟩
      have v1 : decide ((i : Int) < ((K.countP (· == w) : Nat) : Int)) = true := ltNat (by omega)
      have v2 := succI (i := i) (by omega)
      have hnl : (natL F).length = F.length := by simp [natL]
      obtain ⟨bf, o, cf, rfl, _, rf⟩ := (mf.ext he).ints.sl (by omega)
      have k1 := rf i (by omega)
      have hnat : (natL F)[i]'(by omega) = (F[i] : Int) := by simp [natL]
      rw [hnat] at k1
      have m1 : Nat.blt i (natL F).length = true := bltT (by omega)
      obtain ⟨hj, hKj⟩ := hF F[i] (List.getElem_mem _)
      have c1 : decide ((F[i] : Int) < 0) = false := decide_eq_false (by omega)
      have c2 : decide ((F[i] : Int) ≥ 8) = false := decide_eq_false (by omega)
      have g' := he.at_ g3 (by have := s3.bn; omega)
      have k2 := hrow h' g' F[i] (by omega)
      have m2 : Nat.blt F[i] l.length = true := bltT (by omega)
      have ek := hK F[i] hj (by omega)
      rw [hKj] at ek
      have q1 : ((w : Int) == (w : Int)) = true := by simp
      obtain ⟨h4, e4, x4⟩ := task_ok (N := 200) (d := 6) s' (t := F[i]) (by omega)
      have hst : (((K.map bk).map (freed (w : Int)))[F[i]]'(by omega)).st = 1 := by
        simp only [List.getElem_map, hKj]
        simp [freed, waitsOn, bk]
      rw [hst] at e4
      have hfield : ∀ a c : CV, cut [CV.int .i64 1, a, c] 0 1 = some [.int .i64 1] := fun _ _ => rfl
      simp only [enter_eq, ev_seq, seqK_norm, seqK_exit, seqK_ret, ev_reg, ev_cond, condK_true, condK_false, ev_block, blockK_norm, blockK_ret, blockK_exit, ev_loop, ev_skip, ev_exit, ev_ret, regK_cons, regK_nil, guard_none, guard_some, regG_true, regG_false, regO_some, op_mov, op_conv, op_bin, op_bsl, op_box, op_mks, op_s2b, op_pick, op_un, op_eq, op_len, op_ext, op_load, op_iaddr, op_slice, op_b2s, op_idxS, op_mx, op_mn, op_call, op_store, op_app, op_copy, args_eq, result_one', rv_loc, finish_norm, finish_ret, outK_some, keep_true, keep_false, keep_nil, p_bin, p_pick, p_un, p_eq, p_conv, evNew, pureK_some, newK_some, X.eval, set_none, set_some, List.map_cons, List.map_nil, List.getD_cons_zero, List.getD_cons_succ, List.getD_nil, List.set_cons_zero, List.set_cons_succ, binCV, unCV, isShift, intArithF_eq, shiftF_eq, wrapF_eq, intArith, shift, eqVal, bound, asNat_cast, cond_true, cond_false, BEq.rfl, beq_self_eq_true, evalParts, fillParts, AV.cells, AV.ofCells, XV.av, AV.xv, List.length_cons, List.length_nil, zeros, patch, setMany, List.nil_append, List.cons_append, Nat.ble, Nat.add_eq, Nat.zero_add, Nat.add_zero, Nat.reduceAdd, Nat.reduceMul, Nat.reduceSub, Nat.ble_eq, Nat.reduceLeDiff, Nat.reduceBEq, Int.reduceBEq, Int.reduceNeg, Bool.and_true, Bool.and_false, Bool.true_and, Bool.false_and, Bool.not_true, Bool.not_false, Bool.true_eq_false, Bool.false_eq_true, Int.reduceLT, Int.reduceLE, Int.reduceGT, Int.reduceGE, decide_true, decide_false, Bool.not_eq_true, loopN_norm, loopN_exit, tf, ft, ff, bneI, op_field, p_field', lf, v1, v2, p_iaddr, p_load, AV.ofCells, m1, m2, Nat.mul_one, show Heap.empty.next = 0 from rfl, k1, k2, c1, c2, ek, q1, e4, hfield]
      exact ⟨_, _, rfl, he.trans x4, rfl⟩
    · right
      have v1 : decide ((i : Int) < ((K.countP (· == w) : Nat) : Int)) = false := geNat (by omega)
      simp only [enter_eq, ev_seq, seqK_norm, seqK_exit, seqK_ret, ev_reg, ev_cond, condK_true, condK_false, ev_block, blockK_norm, blockK_ret, blockK_exit, ev_loop, ev_skip, ev_exit, ev_ret, regK_cons, regK_nil, guard_none, guard_some, regG_true, regG_false, regO_some, op_mov, op_conv, op_bin, op_bsl, op_box, op_mks, op_s2b, op_pick, op_un, op_eq, op_len, op_ext, op_load, op_iaddr, op_slice, op_b2s, op_idxS, op_mx, op_mn, op_call, op_store, op_app, op_copy, args_eq, result_one', rv_loc, finish_norm, finish_ret, outK_some, keep_true, keep_false, keep_nil, p_bin, p_pick, p_un, p_eq, p_conv, evNew, pureK_some, newK_some, X.eval, set_none, set_some, List.map_cons, List.map_nil, List.getD_cons_zero, List.getD_cons_succ, List.getD_nil, List.set_cons_zero, List.set_cons_succ, binCV, unCV, isShift, intArithF_eq, shiftF_eq, wrapF_eq, intArith, shift, eqVal, bound, asNat_cast, cond_true, cond_false, BEq.rfl, beq_self_eq_true, evalParts, fillParts, AV.cells, AV.ofCells, XV.av, AV.xv, List.length_cons, List.length_nil, zeros, patch, setMany, List.nil_append, List.cons_append, Nat.ble, Nat.add_eq, Nat.zero_add, Nat.add_zero, Nat.reduceAdd, Nat.reduceMul, Nat.reduceSub, Nat.ble_eq, Nat.reduceLeDiff, Nat.reduceBEq, Int.reduceBEq, Int.reduceNeg, Bool.and_true, Bool.and_false, Bool.true_and, Bool.false_and, Bool.not_true, Bool.not_false, Bool.true_eq_false, Bool.false_eq_true, Int.reduceLT, Int.reduceLE, Int.reduceGT, Int.reduceGE, decide_true, decide_false, Bool.not_eq_true, loopN_norm, loopN_exit, tf, ft, ff, lf, v1]
      exact ⟨_, rfl, by simp, h', _, _, _, _, _, _, s', rfl⟩

theorem schedFrees {x : CV} {h : Heap} {l : List Int} (which : Int) (hr : RowIs .i64 Heap.empty x h l) : good (evCallT table 28 200 9 9 [.c x, .c (.int .i64 which)] h) = true := by
  obtain ⟨w, hw, ew⟩ := few (a := which) (m := 3) (by omega) (by omega)
  have ew' : IntKind.i64.wrap (Int.tmod (IntKind.u64.wrap which) 3) = (w : Int) := ew
  have hx := ints_of hr
  have lx : ∀ (loc vals : List AV) (h : Heap), evPure loc (.c x :: vals) h (.len .sl (.val 0)) = some (.c (.int .i64 (l.length : Int))) := fun _ _ _ => hx.len rfl
  obtain ⟨_, _, hcase⟩ := hr
  have short : l.length < 8 → ∀ p h', evCallT table 28 200 8 26 [.c (.int .i64 8)] h = some (.c (.ptr p 0), h') → good (evCallT table 28 200 9 9 [.c x, .c (.int .i64 which)] h) = true := by
    intro hl p h' e0
    have v0 : decide ((l.length : Int) < 8) = true := by simp; omega
    rw [evCallT_eq (F := ir9) rfl rfl rfl]
    unfold ir9
    rw [bodyK_eq]
    simp only [enter_eq, ev_seq, seqK_norm, seqK_exit, seqK_ret, ev_reg, ev_cond, condK_true, condK_false, ev_block, blockK_norm, blockK_ret, blockK_exit, ev_loop, ev_skip, ev_exit, ev_ret, regK_cons, regK_nil, guard_none, guard_some, regG_true, regG_false, regO_some, op_mov, op_conv, op_bin, op_bsl, op_box, op_mks, op_s2b, op_pick, op_un, op_eq, op_len, op_ext, op_load, op_iaddr, op_slice, op_b2s, op_idxS, op_mx, op_mn, op_call, op_store, op_app, op_copy, args_eq, result_one', rv_loc, finish_norm, finish_ret, outK_some, keep_true, keep_false, keep_nil, p_bin, p_pick, p_un, p_eq, p_conv, evNew, pureK_some, newK_some, X.eval, set_none, set_some, List.map_cons, List.map_nil, List.getD_cons_zero, List.getD_cons_succ, List.getD_nil, List.set_cons_zero, List.set_cons_succ, binCV, unCV, isShift, intArithF_eq, shiftF_eq, wrapF_eq, intArith, shift, eqVal, bound, asNat_cast, cond_true, cond_false, BEq.rfl, beq_self_eq_true, evalParts, fillParts, AV.cells, AV.ofCells, XV.av, AV.xv, List.length_cons, List.length_nil, zeros, patch, setMany, List.nil_append, List.cons_append, Nat.ble, Nat.add_eq, Nat.zero_add, Nat.add_zero, Nat.reduceAdd, Nat.reduceMul, Nat.reduceSub, Nat.ble_eq, Nat.reduceLeDiff, Nat.reduceBEq, Int.reduceBEq, Int.reduceNeg, Bool.and_true, Bool.and_false, Bool.true_and, Bool.false_and, Bool.not_true, Bool.not_false, Bool.true_eq_false, Bool.false_eq_true, Int.reduceLT, Int.reduceLE, Int.reduceGT, Int.reduceGE, decide_true, decide_false, Bool.not_eq_true, loopN_norm, loopN_exit, tf, ft, ff, ew', e0, lx, v0, evCallT_told]
    rfl
  rcases hcase with ⟨rfl, rfl, rfl⟩ | ⟨rfl, rfl, rfl⟩ | ⟨rfl, rfl⟩
  · obtain ⟨p, h', e0⟩ := new8_none
    exact short (by simp) p h' e0
  · obtain ⟨p, h', e0⟩ := new8_skip
    exact short (by simp) p h' e0
  obtain ⟨p, b, h0, e0, s0, g0, hb0, hp0⟩ := new8_row (l.map (.int .i64))
  by_cases hl : l.length < 8
  · exact short hl p h0 e0
  clear short
  have v0 : decide ((l.length : Int) < 8) = false := by simp; omega
  rw [evCallT_eq (F := ir9) rfl rfl rfl]
  unfold ir9
  rw [bodyK_eq]
  obtain ⟨r, hr1, h1, K, a6, a7, a11, a12, a13, hK8, hK, s1, g1, rfl⟩ := build_ s0 g0 hb0 hl [.c (.sl Heap.empty.next 0 l.length (.dy 1)), .c (.int .i64 which), .c (.bool false), .c (.ptr p 0), .c (.int .i64 (w : Int)), .c (.int .i64 0), .c (.int .i64 0), .tup [], .tup [], .tup [], .c (.bool false), .tup [], .tup [], .tup [], .tup [], .tup [], .tup []] rfl
  have hts : stK K = K.map bk := by unfold stK; rw [hK8]; simp
  rw [hts] at s1
  have hlen : (K.map bk).length = 8 := by simpa using hK8
  have hready0 : readyM (K.map bk) = [] := by
    unfold readyM; rw [ready_idx, idx_none]
    intro t ht
    obtain ⟨k, _, rfl⟩ := List.mem_map.1 ht
    rfl
  obtain ⟨h2, e2, x2⟩ := stuck_true (N := 200) (d := 4) s1 hready0 (by omega) (by simp [bk]) (by omega) (by omega)
  have s2 := s1.ext (x2.b []) (by simp) (by simp)
  have g2 := x2.at_ g1 (by have := s1.bn; omega)
  obtain ⟨f, h3, e3, mf, s3, x3⟩ := free_ok (N := 200) (d := 7) s2 w (by omega) (by omega)
  have g3 := x3.at_ g2 (by have := s2.bn; omega) (by simp; omega)
  have n3 := x3.1
  have hF : ∀ y ∈ idxGo (waitsOn (w : Int)) 0 (K.map bk), ∃ hj : y < K.length, K[y] = w := fun y hy => by
    obtain ⟨j, hj, rfl, hp⟩ := (idx_mem _ _ 0 y).1 hy
    have hj' : j < K.length := by simpa using hj
    refine ⟨by omega, ?_⟩
    simp [waitsOn, bk] at hp
    simp only [Nat.zero_add]; omega
  have hFl := woken_count w K
  generalize hFF : idxGo (waitsOn (w : Int)) 0 (K.map bk) = F at *
  have lf : ∀ (loc vals : List AV) (h : Heap), evPure loc (.c f :: vals) h (.len .sl (.val 0)) = some (.c (.int .i64 ((K.countP (· == w) : Nat) : Int))) := fun _ _ _ => by
    have : (natL F).length = K.countP (· == w) := by rw [← hFl]; simp [natL]
    rw [← this]; exact mf.len rfl
  have hlen3 : ((K.map bk).map (freed (w : Int))).length = 8 := by simpa using hK8
  have hcp : K.countP (· == w) ≤ 8 := by rw [← hK8]; exact List.countP_le_length
  obtain ⟨r, hr0, h4, b0, b1, b2, b6, b7, rest, s4, rfl⟩ := walkF s3 g3 mf hK8 hl hb0 hK hF hFl hcp lf [.c (.sl Heap.empty.next 0 l.length (.dy 1)), .junk, .junk, .c (.ptr p 0), .c (.int .i64 (w : Int)), .c (.int .i64 ((K.countP (· == w) : Nat) : Int)), a6, a7, .c f, .c (.int .i64 0), .junk, a11, a12, a13, .c (.bool false), .junk, .junk] rfl
  have hrl := ready_count w K
  obtain ⟨z, h5, e5, mz, x5⟩ := ready_ok (N := 200) (d := 7) s4 (by omega) (by omega)
  have lz : ∀ (loc vals : List AV) (h : Heap), evPure loc (.c z :: vals) h (.len .sl (.val 0)) = some (.c (.int .i64 ((K.countP (· == w) : Nat) : Int))) := fun _ _ _ => by
    have : (natL (readyM ((K.map bk).map (freed (w : Int))))).length = K.countP (· == w) := by rw [← hrl]; simp [natL]
    rw [← this]; exact mz.len rfl
  have s5 := s4.ext (x5.b []) (by simp) (by simp)
  have eqq : ∀ a : Int, (a == a) = true := fun a => by simp
  have fin : ∃ h6, evCallT table 28 200 8 43 [.c (.ptr p 0)] h5 = some (.c (.bool (((K.countP (· == w) : Nat) : Int) == 0)), h6) := by
    by_cases hz : K.countP (· == w) = 0
    · have hno : readyM ((K.map bk).map (freed (w : Int))) = [] := List.eq_nil_of_length_eq_zero (by omega)
      have h0 : (((K.map bk).map (freed (w : Int)))[0]'(by omega)).st = 2 := by
        have hne : K[0]'(by omega) ≠ w := fun e => by
          have := List.countP_eq_zero.1 hz _ (List.getElem_mem (show 0 < K.length by omega))
          simp [e] at this
        have : (((K[0]'(by omega) : Nat) : Int) == (w : Int)) = false := by simp; omega
        simp only [List.getElem_map]
        simp [freed, waitsOn, bk, this]
      obtain ⟨h6, e6, _⟩ := stuck_true (N := 200) (d := 4) s5 hno (by omega) h0 (by omega) (by omega)
      rw [hz]; exact ⟨h6, e6⟩
    · obtain ⟨h6, e6, _⟩ := stuck_false (N := 200) (d := 4) s5 (by omega) (by omega) (by omega)
      have : (((K.countP (· == w) : Nat) : Int) == 0) = false := by simp only [beq_eq_false_iff_ne, ne_eq]; omega
      rw [this]; exact ⟨h6, e6⟩
  obtain ⟨h6, e6⟩ := fin
  simp only [enter_eq, ev_seq, seqK_norm, seqK_exit, seqK_ret, ev_reg, ev_cond, condK_true, condK_false, ev_block, blockK_norm, blockK_ret, blockK_exit, ev_loop, ev_skip, ev_exit, ev_ret, regK_cons, regK_nil, guard_none, guard_some, regG_true, regG_false, regO_some, op_mov, op_conv, op_bin, op_bsl, op_box, op_mks, op_s2b, op_pick, op_un, op_eq, op_len, op_ext, op_load, op_iaddr, op_slice, op_b2s, op_idxS, op_mx, op_mn, op_call, op_store, op_app, op_copy, args_eq, result_one', rv_loc, finish_norm, finish_ret, outK_some, keep_true, keep_false, keep_nil, p_bin, p_pick, p_un, p_eq, p_conv, evNew, pureK_some, newK_some, X.eval, set_none, set_some, List.map_cons, List.map_nil, List.getD_cons_zero, List.getD_cons_succ, List.getD_nil, List.set_cons_zero, List.set_cons_succ, binCV, unCV, isShift, intArithF_eq, shiftF_eq, wrapF_eq, intArith, shift, eqVal, bound, asNat_cast, cond_true, cond_false, BEq.rfl, beq_self_eq_true, evalParts, fillParts, AV.cells, AV.ofCells, XV.av, AV.xv, List.length_cons, List.length_nil, zeros, patch, setMany, List.nil_append, List.cons_append, Nat.ble, Nat.add_eq, Nat.zero_add, Nat.add_zero, Nat.reduceAdd, Nat.reduceMul, Nat.reduceSub, Nat.ble_eq, Nat.reduceLeDiff, Nat.reduceBEq, Int.reduceBEq, Int.reduceNeg, Bool.and_true, Bool.and_false, Bool.true_and, Bool.false_and, Bool.not_true, Bool.not_false, Bool.true_eq_false, Bool.false_eq_true, Int.reduceLT, Int.reduceLE, Int.reduceGT, Int.reduceGE, decide_true, decide_false, Bool.not_eq_true, loopN_norm, loopN_exit, tf, ft, ff, ev_dreg, dregK_nil, dregK_cons, dregE_true, dregP_some, dregX_some, d_mov, d_bin, d_eq, d_pick, d_un, d_conv, d_b2s, d_len, d_load, d_iaddr, d_slice, d_ext, d_call, d_store, chk_done, chk_none, chk_some, chkG_true, chkG_false, chkOne_nil, chkOne_cons, chkH_some, chkV_same, stage_none, stage_some, look_hit, look_miss, news_nil, wb_cons, wb_nil, skip0, List.reverse_cons, List.reverse_nil, ew', e0, lx, v0, hr1, blockK_exit_eq, e2, e3, hr0, evCallT_told, lf, lz, eqq, e5, e6]
  rfl

end Lav

namespace Go.Proofs.Ytakkkibaaipmcaa.schedFrees
open Go.ChangeShapes Go.WideShapes Go.ChangeAt Go.RowKit
open Go.ChangeMaps (open_string shut_string)
set_option linter.unusedVariables false

theorem own : ownKnob Try.prog.godebug = none := by kernel_rfl
theorem laidOut : laidOutB Try.prog = true := by kernel_rfl

/-- WHAT THE WALK IS TOLD OF A SLICE OF INTEGERS THAT CAME IN: it is nil; or it leads to a row of 'cap' cells, the numbers 'zs' (the first 'len' are its elements, the rest its spare room), each fitting its kind. -/
def IsRow (k : IntKind) (w : World) (a : Option Addr) (len cap : Nat) (zs : List Int) : Prop :=
  (a = none ∧ len = 0 ∧ cap = 0 ∧ zs = []) ∨
  ∃ x, a = some x ∧ len ≤ cap ∧ cap ≤ maxLen ∧ zs.length = cap ∧ (∀ i, i < zs.length → w.cell? (x.add i) = some (.int k (zs.getD i 0))) ∧ ∀ n ∈ zs, (Lit.int k n).wf = true

/-! ### STEP 1: THE WALK: the Go text returns true, AND WRITES NOTHING THAT WAS THERE: 'Below w.heap.size w w'' (Derived/Below.lean: '.refl', '.alloc', '.drew', '.setCell' at a new block, '.trans'). Open each 'IsRow' by 'rcases' AHEAD of 'go_enter'; part every test ahead of the walk. -/
theorem walk (a0 : Option Addr) (len0 cap0 : Nat) (z0 : List Int) (a1 : Int) (w : World) (w0 : IsRow .i64 w a0 len0 cap0 z0) (w1 : (Lit.int .i64 a1).wf = true) :
    Calls Try.prog 9 #[.slice a0 len0 cap0, .int .i64 a1] w fun e w' => e = .returned (.bool true) ∧ Below w.heap.size w w' := by
  obtain ⟨ι, h, x, I, hle, hx, hr⟩ := (Lav.Init.empty w).slice w0
  exact Lav.walk_of (Lav.evCallT_sound Lav.mixed Lav.table_ok Lav.tld7 200 9) I (args := [.c x, .c (.int .i64 a1)]) (vs := [.slice a0 len0 cap0, .int .i64 a1]) ⟨hx, rfl, trivial⟩ (Lav.schedFrees a1 hr)

/-! ### THE ROW's STEP: WRITTEN OUT: LEAVE IT -/
set_option maxRecDepth 100000 in
theorem lifted (os : Os) (started : os.Started) (H : Type) (enc : TypeId × Value → H) :
    ReturnsInHanded {} Try.checked os 9 .any (Rows.schedFreesSpec.pre6 enc Try.prog Try.f9 Rows.schedFreesRow.domain false) (Rows.schedFreesSpec.post enc Try.prog Try.f9 false true false false) := by
  refine returnsInHanded_of_change (C := Try.checked) own started (by kernel_rfl) Try.func9
    (ChangeSpec.witness6 (enc := enc) (C := Try.checked) false ⟨#[], #[.slice none 0 0, .int .i64 0], []⟩ 8 (by kernel_rfl) (by kernel_rfl) (by kernel_rfl) (by kernel_rfl)) ?_
  intro W base args ds gs before hval0 hW hcnd _
  have hval : ∀ (j : Nat) t v, Try.f9.params[j]? = some t → args[j]? = some v → Value.okWide Try.prog W .any base t v := hval0
  have hW' := hW
  obtain ⟨p, q, hA0, hV, rfl, hfz, hnd⟩ := hW
  have hA : DataW.TrodAll enc Try.prog W 0 (fun _ => true) true Try.f9.params.toList args.toList ds p := hA0
  rw [Try.params9] at hA hval
  obtain ⟨v0, vs0, d0, ds0, p0, q0, hargs, rfl, rfl, h0, r0⟩ := trodAll_cons hA
  obtain ⟨v1, vs1, d1, ds1, p1, q1, rfl, rfl, rfl, h1, r1⟩ := trodAll_cons r0
  obtain ⟨rfl, rfl, rfl⟩ := trodAll_nil r1
  obtain rfl : args = #[v0, v1] := by cases args; simp_all
  obtain ⟨rfl, rfl⟩ := trodVars_none hV
  obtain ⟨a0, len0, cap0, rfl⟩ := okWide_slice Try.underlying28 (hval 0 28 v0 rfl rfl)
  have k0 := h0
  have lt0 : ∀ x ∈ p0, x.block < W.heap.size := by obtain ⟨m, hm⟩ := k0; exact DataW.trod_lt m _ _ _ hm
  obtain ⟨z0, w0⟩ : ∃ zs, IsRow .i64 W a0 len0 cap0 zs := by
    obtain ⟨fuel, hf⟩ := h0
    rcases open_ints Try.underlying28 Try.underlying3 (by kernel_rfl) hf with ⟨hcs, _⟩ | ⟨x, l, c, zs, hcs, _, hl, hm, hz, _, hcell, hwz⟩
    · simp [Value.cells] at hcs
      obtain ⟨rfl, rfl, rfl⟩ := hcs
      exact ⟨[], .inl ⟨rfl, rfl, rfl, rfl⟩⟩
    · simp [Value.cells] at hcs
      obtain ⟨rfl, rfl, rfl⟩ := hcs
      exact ⟨zs, .inr ⟨_, rfl, hl, hm, by simpa using hz, hcell, hwz⟩⟩
  obtain ⟨a1, rfl, rfl, rfl, w1⟩ := open_int Try.underlying3 (hval 1 3 v1 rfl rfl) h1
  clear hA0 hval0
  refine (walk a0 len0 cap0 z0 a1 W w0 w1).mono fun e W' ⟨he, bel⟩ => ?_
  subst he
  exact ⟨_, rfl, _, _, _, [], _, [], hW', trodAll_mk1 (shut_bool Try.underlying4 _), (trodAll_cons_mk (Below.trod laidOut (by kernel_rfl) (of_decide_eq_true (by kernel_rfl)) k0 bel lt0) (trodAll_cons_mk (shut_int Try.underlying3 w1) trodAll_mk0)), rfl, bel.frame _, fun h => by cases h⟩

theorem over : Rows.schedFreesRow.holds Try.pinned (OpenSpec.ofChange Rows.schedFreesSpec) :=
  OpenClaim.holds_of_wide 9 Try.f9 rfl rfl rfl rfl rfl rfl rfl ⟨rfl, rfl, rfl, rfl, rfl⟩ rfl rfl rfl rfl rfl (by kernel_rfl) Try.func9 (by kernel_rfl)
    (of_decide_eq_true (by kernel_rfl)) (by unfold Func.isWrapper; first | (rw [if_pos (by decide +kernel)]; kernel_rfl) | (rw [if_neg (by decide +kernel)]; exact ⟨rfl, rfl⟩))
    (fun os started H enc _ => lifted os started H enc)

/-- ████ THE STATEMENT ████ -/
theorem proved : Rows.SchedFreesSaid := over
end Go.Proofs.Ytakkkibaaipmcaa.schedFrees
