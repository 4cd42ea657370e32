/-
  Proved: whatever numbers come in, lavabolaw5.TableOrders returns true and changes nothing that was there. No conditions beyond the given statement's.
-/
import Derived.Test.YtgjceiiddcbfoaaRows
import Derived.Test.YtgjceiiddcbfoaaTable1
import Derived.Test.YtgjceiiddcbfoaaTable2
import Derived.Test.YtgjceiiddcbfoaaTable3
import Derived.WalkKit
import Derived.ProofKit
import Derived.OpenShut
import Derived.ShutString
import Derived.ChangeOld
import Derived.Below
set_option maxRecDepth 100000
set_option linter.unusedSimpArgs false
namespace Lav
open Go (IntKind)
theorem p_mn' {loc vals : List AV} {h : Heap} {x : X} {r : List X} : evPure loc vals h (.mn (x :: r)) = (match x.eval loc vals with
      | .c (.int k n) => foldInt loc vals (fun a b => if b < a then b else a) (.c (.int k n)) r
      | _ => none) := rfl

theorem bneI {a b : Int} : (a != b) = !(a == b) := rfl

/-- Which keys are in: each with seven times itself. -/
def inM (K : Nat → Bool) : Nat → Option Int := fun k => if K k = true then some (7 * (k : Int)) else none
/-- How many. -/
def kcnt (K : Nat → Bool) : Nat → Nat
  | 0 => 0
  | n + 1 => (K n).toNat + kcnt K n
theorem kcnt_same {K K' : Nat → Bool} : ∀ n, (∀ k, k < n → K k = K' k) → kcnt K n = kcnt K' n
  | 0, _ => rfl
  | n + 1, h => by simp only [kcnt]; rw [h n (by omega), kcnt_same n fun k hk => h k (by omega)]
theorem kcnt_add {K : Nat → Bool} {k : Nat} (hk : K k = false) : ∀ n, kcnt (fun j => if j = k then true else K j) n = kcnt K n + (if k < n then 1 else 0)
  | 0 => by simp [kcnt]
  | n + 1 => by
    simp only [kcnt, kcnt_add hk n]
    by_cases e : n = k
    · subst e; rw [if_pos rfl, hk, if_neg (by omega), if_pos (by omega)]; simp; omega
    · rw [if_neg e]
      by_cases h1 : k < n
      · rw [if_pos h1, if_pos (by omega)]; omega
      · rw [if_neg h1, if_neg (by omega)]; omega
theorem kcnt_zero : ∀ n, kcnt (fun _ => false) n = 0
  | 0 => rfl
  | n + 1 => by simp [kcnt, kcnt_zero n]

/-- One key is put in, there or not. -/
theorem put_any {h : Heap} {p b n : Nat} {K : Nat → Bool} {c : Nat} (t : DT h p b n (inM K) c) (hc : c = kcnt K 50) {k : Nat} (hk : k < 50) (hcn : c < n) (hn : n ≤ 29) :
    ∃ (e : Int) (h' : Heap) (c' : Nat), evCallT table 25 200 8 28 [.c (.ptr p 0), .c (.int .i64 (k : Int)), .c (.int .i64 (7 * (k : Int)))] h = some (.c (.int .i64 e), h') ∧ DT h' p b n (inM fun j => if j = k then true else K j) c' ∧ c' = kcnt (fun j => if j = k then true else K j) 50 ∧ c' ≤ c + 1 ∧ ExtB [p, b] h h' := by
  cases hK : K k with
  | true =>
    have same : (fun j => if j = k then true else K j) = K := by funext j; split; · rename_i e; rw [e, hK]
                                                                 · rfl
    rw [same]
    exact ⟨13, h, c, t.put_held (N := 200) (d := 5) (k := k) (w := 7 * (k : Int)) (by simp [inM, hK]) _ (by omega), t, hc, by omega, ExtB.refl _ _⟩
  | false =>
    obtain ⟨h', e1, t1, x1⟩ := t.put_new (N := 200) (d := 5) (k := k) (by simp [inM, hK]) (7 * (k : Int)) hcn (by omega)
    have hM : (fun j => if j = k then some (7 * (k : Int)) else inM K j) = inM (fun j => if j = k then true else K j) := by
      funext j
      unfold inM
      by_cases e : j = k
      · subst e; simp
      · simp [e]
    rw [hM] at t1
    exact ⟨0, h', c + 1, e1, t1, by rw [kcnt_add hK, hc, if_pos hk], by omega, x1⟩

theorem tableOrders {x : CV} {h : Heap} {xs : List Int} (size : Int) (hx : Ints h x xs) : good (evCallT table 25 200 9 8 [.c x, .c (.int .i64 size)] h) = true := by
  have lx : ∀ (loc vals : List AV) (h : Heap), evPure loc (.c x :: vals) h (.len .sl (.val 0)) = some (.c (.int .i64 (xs.length : Int))) := fun _ _ _ => hx.len rfl
  obtain ⟨s, hs, es⟩ := few (a := size) (m := 10) (by omega) (by omega)
  have es' : IntKind.i64.wrap (Int.tmod (IntKind.u64.wrap size) 10) = (s : Int) := es
  have es2 : IntKind.i64.wrap (20 + (s : Int)) = ((20 + s : Nat) : Int) := by rw [wrapI (by omega) (by omega)]; omega
  have e0 : (fun _ => none : Nat → Option Int) = inM fun _ => false := by funext k; simp [inM]
  obtain ⟨p, b, h1, e1, t1, x1, hp1, hb1, hpn, hbn⟩ : ∃ p b h', evCallT table 25 200 8 27 [.c (.int .i64 ((20 + s : Nat) : Int))] h = some (.c (.ptr p 0), h') ∧ DT h' p b (20 + s) (fun _ => none) 0 ∧ Ext h h' ∧ h.next ≤ p ∧ h.next ≤ b ∧ p < h'.next ∧ b < h'.next := DT.new (N := 200) (d := 6) (20 + s) h (by omega) (by omega) (by omega)
  obtain ⟨q, d, h2, e2, t2, x2, hq1, hd1, hqn, hdn⟩ : ∃ p b h', evCallT table 25 200 8 27 [.c (.int .i64 ((20 + s : Nat) : Int))] h1 = some (.c (.ptr p 0), h') ∧ DT h' p b (20 + s) (fun _ => none) 0 ∧ Ext h1 h' ∧ h1.next ≤ p ∧ h1.next ≤ b ∧ p < h'.next ∧ b < h'.next := DT.new (N := 200) (d := 6) (20 + s) h1 (by omega) (by omega) (by omega)
  have t1' : DT h2 p b (20 + s) (inM fun _ => false) 0 := by rw [← e0]; exact t1.ext (x2.b []) (by simp) (by simp)
  rw [e0] at t2
  have hx2 : Ints h2 x xs := (hx.ext x1).ext x2
  have hbx : ∀ k, blk x = some k → k < h.next := fun k hk => by
    rcases hx with ⟨rfl, _⟩ | ⟨i, o, c, rfl, hi, _⟩
    · cases hk
    · simp [blk] at hk; omega
  have keepI : ∀ {H H' : Heap} {S : List Nat}, Ints H x xs → ExtB S H H' → (∀ k ∈ S, h.next ≤ k) → Ints H' x xs := fun {H H' S} hI e hS => by
    rcases hI with h3 | ⟨i, o, c, rfl, h4, h5⟩
    · exact .inl h3
    · refine .inr ⟨i, o, c, rfl, Nat.lt_of_lt_of_le h4 e.1, fun j v hj => ?_⟩
      have hi := hbx i rfl
      have := e.2 i h4 (fun hn => by have := hS i hn; omega)
      have h6 := h5 j v hj
      simp only [Heap.read] at h6 ⊢
      rw [this]; exact h6
  have hS1 : ∀ k ∈ [p, b], h.next ≤ k := by simp; omega
  have hS2 : ∀ k ∈ [q, d], h.next ≤ k := by simp; have := x1.1; omega
  have dis : p ∉ [q, d] ∧ b ∉ [q, d] ∧ q ∉ [p, b] ∧ d ∉ [p, b] := by simp; omega
  obtain ⟨m, hm⟩ : ∃ m, m = min xs.length 20 := ⟨_, rfl⟩
  let key : Nat → Nat := fun i => (IntKind.i64.wrap (Int.tmod (IntKind.u64.wrap (xs.getD i 0)) 50)).toNat
  have hkey : ∀ i, key i < 50 ∧ IntKind.i64.wrap (Int.tmod (IntKind.u64.wrap (xs.getD i 0)) 50) = (key i : Int) := fun i => by
    obtain ⟨k, hk, ek⟩ := few (a := xs.getD i 0) (m := 50) (by omega) (by omega)
    have ek' : IntKind.i64.wrap (Int.tmod (IntKind.u64.wrap (xs.getD i 0)) 50) = (k : Int) := ek
    have : key i = k := by show (IntKind.i64.wrap _).toNat = k; rw [ek']; rfl
    rw [this]; exact ⟨hk, ek'⟩
  let KA : Nat → Nat → Bool := fun i k => decide (∃ j, j < i ∧ key j = k)
  let KB : Nat → Nat → Bool := fun i k => decide (∃ j, j < m ∧ i ≤ j ∧ key j = k)
  have KA_succ : ∀ i, (fun j => if j = key i then true else KA i j) = KA (i + 1) := fun i => by
    funext k
    by_cases e : k = key i
    · subst e; simp only [if_true]; exact (decide_eq_true ⟨i, by omega, rfl⟩).symm
    · rw [if_neg e]
      show decide _ = decide _
      congr 1
      apply propext
      constructor
      · rintro ⟨j, h1, h2⟩; exact ⟨j, by omega, h2⟩
      · rintro ⟨j, h1, h2⟩
        have : j ≠ i := fun e' => by subst e'; exact e h2.symm
        exact ⟨j, by omega, h2⟩
  have KB_succ : ∀ i, i < m → (fun j => if j = key i then true else KB (i + 1) j) = KB i := fun i hi => by
    funext k
    by_cases e : k = key i
    · subst e; simp only [if_true]; exact (decide_eq_true ⟨i, hi, by omega, rfl⟩).symm
    · rw [if_neg e]
      show decide _ = decide _
      congr 1
      apply propext
      constructor
      · rintro ⟨j, h2, h1, h3⟩; exact ⟨j, h2, by omega, h3⟩
      · rintro ⟨j, h2, h1, h3⟩
        have : j ≠ i := fun e' => by subst e'; exact e h3.symm
        exact ⟨j, h2, by omega, h3⟩
  have getx : ∀ {H : Heap} {i : Nat}, Ints H x xs → i < xs.length → ∃ bx ox cx, x = .sl bx ox xs.length cx ∧ H.read bx (ox + i) 1 = some [.int .i64 (xs.getD i 0)] := fun {H i} hI hi => by
    obtain ⟨bx, ox, cx, e, _, r⟩ := hI.sl (by omega)
    refine ⟨bx, ox, cx, e, ?_⟩
    rw [r i hi]; simp [List.getD_eq_getElem?_getD, hi]
  rw [evCallT_eq (F := ir8) rfl rfl rfl]
  unfold ir8
  rw [bodyK_eq]
  have eqq : ∀ a : Int, (a == a) = true := fun a => by simp
  have w7 : ∀ k : Nat, k < 50 → IntKind.i64.wrap (7 * (k : Int)) = 7 * (k : Int) := fun k hk => wrapI (by omega) (by omega)
  have L2 : ∀ loc, keepOnly ir8_k2 loc = [.c x, .junk, .junk, .junk, .c (.ptr p 0), .c (.ptr q 0), .c (.int .i64 0), .junk, .junk, .junk, .junk, .junk, .junk, .junk, .junk, .junk] →
      ∃ r, loopK (evCallT table 25 200 8) 200 ir8_k2 ir8_l2 200 loc h2 = some r ∧ ∃ h' c a6 a7 a12, DT h' p b (20 + s) (inM (KA m)) c ∧ c = kcnt (KA m) 50 ∧ DT h' q d (20 + s) (inM fun _ => false) 0 ∧ Ints h' x xs ∧ r = (.exit 0, [.c x, .junk, .junk, .junk, .c (.ptr p 0), .c (.ptr q 0), a6, a7, .junk, .junk, .junk, .junk, a12, .junk, .junk, .junk], h') := by
    intro loc hloc
    refine loop_inv (n := m) (fun i loc h' => ∃ c : Nat, DT h' p b (20 + s) (inM (KA i)) c ∧ c = kcnt (KA i) 50 ∧ c ≤ i ∧ DT h' q d (20 + s) (inM fun _ => false) 0 ∧ Ints h' x xs ∧ loc = [.c x, .junk, .junk, .junk, .c (.ptr p 0), .c (.ptr q 0), .c (.int .i64 (i : Int)), .junk, .junk, .junk, .junk, .junk, .junk, .junk, .junk, .junk]) _ ?_ ⟨0, ?_, ?_, by omega, t2, hx2, hloc⟩ (by omega)
    rotate_left
    · have : KA 0 = fun _ => false := by funext k; exact decide_eq_false (by rintro ⟨j, h1, _⟩; omega)
      rw [this]; exact t1'
    · have : KA 0 = fun _ => false := by funext k; exact decide_eq_false (by rintro ⟨j, h1, _⟩; omega)
      rw [this, kcnt_zero]
    rintro i loc h' hi ⟨c, ta, hc, hci, tb, hI, rfl⟩
    unfold ir8_l2
    by_cases hlt : i < m
    · left
      refine ⟨hlt, ?_⟩
      have v1 : decide ((i : Int) < (xs.length : Int)) = true := ltNat (by omega)
      have v4 : decide ((i : Int) < 20) = true := ltNat (n := 20) (by omega)
      have v2 := succI (i := i) (by omega)
      obtain ⟨bx, ox, cx, rfl, k1⟩ := getx hI (show i < xs.length by omega)
      have m1 : Nat.blt i xs.length = true := bltT (by omega)
      obtain ⟨hk, ek⟩ := hkey i
      obtain ⟨e, h3, c', e3, t3, hc3, hc3', x3⟩ := put_any ta hc hk (by omega) (by omega)
      rw [KA_succ i] at t3 hc3
      simp only [enter_eq, ev_seq, seqK_norm, seqK_exit, seqK_ret, ev_reg, ev_cond, condK_true, condK_false, ev_block, blockK_norm, blockK_ret, blockK_exit, ev_loop, ev_skip, ev_exit, ev_ret, regK_cons, regK_nil, guard_none, guard_some, regG_true, regG_false, regO_some, op_mov, op_conv, op_bin, op_bsl, op_box, op_mks, op_s2b, op_pick, op_un, op_eq, op_len, op_ext, op_load, op_iaddr, op_slice, op_b2s, op_idxS, op_mx, op_mn, op_call, op_store, op_app, op_copy, args_eq, result_one', rv_loc, finish_norm, finish_ret, outK_some, keep_true, keep_false, keep_nil, p_bin, p_pick, p_un, p_eq, p_conv, evNew, pureK_some, newK_some, X.eval, set_none, set_some, List.map_cons, List.map_nil, List.getD_cons_zero, List.getD_cons_succ, List.getD_nil, List.set_cons_zero, List.set_cons_succ, binCV, unCV, isShift, intArithF_eq, shiftF_eq, wrapF_eq, intArith, shift, eqVal, bound, asNat_cast, cond_true, cond_false, BEq.rfl, beq_self_eq_true, evalParts, fillParts, AV.cells, AV.ofCells, XV.av, AV.xv, List.length_cons, List.length_nil, zeros, patch, setMany, List.nil_append, List.cons_append, Nat.ble, Nat.add_eq, Nat.zero_add, Nat.add_zero, Nat.reduceAdd, Nat.reduceMul, Nat.reduceSub, Nat.ble_eq, Nat.reduceLeDiff, Nat.reduceBEq, Int.reduceBEq, Int.reduceNeg, Bool.and_true, Bool.and_false, Bool.true_and, Bool.false_and, Bool.not_true, Bool.not_false, Bool.true_eq_false, Bool.false_eq_true, Int.reduceLT, Int.reduceLE, Int.reduceGT, Int.reduceGE, decide_true, decide_false, Bool.not_eq_true, loopN_norm, loopN_exit, tf, ft, ff, lx, v1, v2, v4, p_iaddr, p_load, AV.ofCells, m1, Nat.mul_one, k1, ek, w7 (key i) hk, e3]
      exact ⟨_, _, rfl, c', t3, hc3, by omega, tb.ext x3 dis.2.2.1 dis.2.2.2, keepI hI x3 hS1, rfl⟩
    · right
      have him : i = m := by omega
      subst him
      by_cases h3 : i < xs.length
      · have v1 : decide ((i : Int) < (xs.length : Int)) = true := ltNat h3
        have v4 : decide ((i : Int) < 20) = false := geNat (n := 20) (by omega)
        simp only [enter_eq, ev_seq, seqK_norm, seqK_exit, seqK_ret, ev_reg, ev_cond, condK_true, condK_false, ev_block, blockK_norm, blockK_ret, blockK_exit, ev_loop, ev_skip, ev_exit, ev_ret, regK_cons, regK_nil, guard_none, guard_some, regG_true, regG_false, regO_some, op_mov, op_conv, op_bin, op_bsl, op_box, op_mks, op_s2b, op_pick, op_un, op_eq, op_len, op_ext, op_load, op_iaddr, op_slice, op_b2s, op_idxS, op_mx, op_mn, op_call, op_store, op_app, op_copy, args_eq, result_one', rv_loc, finish_norm, finish_ret, outK_some, keep_true, keep_false, keep_nil, p_bin, p_pick, p_un, p_eq, p_conv, evNew, pureK_some, newK_some, X.eval, set_none, set_some, List.map_cons, List.map_nil, List.getD_cons_zero, List.getD_cons_succ, List.getD_nil, List.set_cons_zero, List.set_cons_succ, binCV, unCV, isShift, intArithF_eq, shiftF_eq, wrapF_eq, intArith, shift, eqVal, bound, asNat_cast, cond_true, cond_false, BEq.rfl, beq_self_eq_true, evalParts, fillParts, AV.cells, AV.ofCells, XV.av, AV.xv, List.length_cons, List.length_nil, zeros, patch, setMany, List.nil_append, List.cons_append, Nat.ble, Nat.add_eq, Nat.zero_add, Nat.add_zero, Nat.reduceAdd, Nat.reduceMul, Nat.reduceSub, Nat.ble_eq, Nat.reduceLeDiff, Nat.reduceBEq, Int.reduceBEq, Int.reduceNeg, Bool.and_true, Bool.and_false, Bool.true_and, Bool.false_and, Bool.not_true, Bool.not_false, Bool.true_eq_false, Bool.false_eq_true, Int.reduceLT, Int.reduceLE, Int.reduceGT, Int.reduceGE, decide_true, decide_false, Bool.not_eq_true, loopN_norm, loopN_exit, tf, ft, ff, lx, v1, v4]
        exact ⟨_, rfl, by simp, h', c, _, _, _, ta, hc, tb, hI, rfl⟩
      · have v1 : decide ((i : Int) < (xs.length : Int)) = false := geNat (by omega)
        simp only [enter_eq, ev_seq, seqK_norm, seqK_exit, seqK_ret, ev_reg, ev_cond, condK_true, condK_false, ev_block, blockK_norm, blockK_ret, blockK_exit, ev_loop, ev_skip, ev_exit, ev_ret, regK_cons, regK_nil, guard_none, guard_some, regG_true, regG_false, regO_some, op_mov, op_conv, op_bin, op_bsl, op_box, op_mks, op_s2b, op_pick, op_un, op_eq, op_len, op_ext, op_load, op_iaddr, op_slice, op_b2s, op_idxS, op_mx, op_mn, op_call, op_store, op_app, op_copy, args_eq, result_one', rv_loc, finish_norm, finish_ret, outK_some, keep_true, keep_false, keep_nil, p_bin, p_pick, p_un, p_eq, p_conv, evNew, pureK_some, newK_some, X.eval, set_none, set_some, List.map_cons, List.map_nil, List.getD_cons_zero, List.getD_cons_succ, List.getD_nil, List.set_cons_zero, List.set_cons_succ, binCV, unCV, isShift, intArithF_eq, shiftF_eq, wrapF_eq, intArith, shift, eqVal, bound, asNat_cast, cond_true, cond_false, BEq.rfl, beq_self_eq_true, evalParts, fillParts, AV.cells, AV.ofCells, XV.av, AV.xv, List.length_cons, List.length_nil, zeros, patch, setMany, List.nil_append, List.cons_append, Nat.ble, Nat.add_eq, Nat.zero_add, Nat.add_zero, Nat.reduceAdd, Nat.reduceMul, Nat.reduceSub, Nat.ble_eq, Nat.reduceLeDiff, Nat.reduceBEq, Int.reduceBEq, Int.reduceNeg, Bool.and_true, Bool.and_false, Bool.true_and, Bool.false_and, Bool.not_true, Bool.not_false, Bool.true_eq_false, Bool.false_eq_true, Int.reduceLT, Int.reduceLE, Int.reduceGT, Int.reduceGE, decide_true, decide_false, Bool.not_eq_true, loopN_norm, loopN_exit, tf, ft, ff, lx, v1]
        exact ⟨_, rfl, by simp, h', c, _, _, _, ta, hc, tb, hI, rfl⟩
  obtain ⟨r, hr2, h3, ca, a6, a7, a12, ta, hca, tb, hI, rfl⟩ := L2 [.c x, .c (.int .i64 size), .c (.bool false), .c (.int .i64 ((20 + s : Nat) : Int)), .c (.ptr p 0), .c (.ptr q 0), .c (.int .i64 0), .tup [], .tup [], .tup [], .tup [], .c (.bool false), .tup [], .tup [], .tup [], .tup []] rfl
  have L1 : ∀ loc, keepOnly ir8_k1 loc = [.c x, .junk, .junk, .junk, .c (.ptr p 0), .c (.ptr q 0), .junk, .junk, .c (.int .i64 ((m : Int) - 1)), .junk, .junk, .junk, .junk, .junk, .junk, .junk] →
      ∃ r, loopK (evCallT table 25 200 8) 200 ir8_k1 ir8_l1 200 loc h3 = some r ∧ ∃ h' c a8 a9 a13, DT h' p b (20 + s) (inM (KA m)) ca ∧ DT h' q d (20 + s) (inM (KB 0)) c ∧ c = kcnt (KB 0) 50 ∧ r = (.exit 2, [.c x, .junk, .junk, .junk, .c (.ptr p 0), .c (.ptr q 0), .junk, .junk, a8, a9, .junk, .junk, .junk, a13, .junk, .junk], h') := by
    intro loc hloc
    refine loop_inv (n := m) (fun i loc h' => ∃ c : Nat, DT h' p b (20 + s) (inM (KA m)) ca ∧ DT h' q d (20 + s) (inM (KB (m - i))) c ∧ c = kcnt (KB (m - i)) 50 ∧ c ≤ i ∧ Ints h' x xs ∧ loc = [.c x, .junk, .junk, .junk, .c (.ptr p 0), .c (.ptr q 0), .junk, .junk, .c (.int .i64 ((m : Int) - 1 - (i : Int))), .junk, .junk, .junk, .junk, .junk, .junk, .junk]) _ ?_ ⟨0, ta, ?_, ?_, by omega, hI, by rw [hloc]; simp⟩ (by omega)
    rotate_left
    · have : KB (m - 0) = fun _ => false := by funext k; exact decide_eq_false (by rintro ⟨j, h2, h1, _⟩; omega)
      rw [this]; exact tb
    · have : KB (m - 0) = fun _ => false := by funext k; exact decide_eq_false (by rintro ⟨j, h2, h1, _⟩; omega)
      rw [this, kcnt_zero]
    rintro i loc h' hi ⟨c, ta', tb', hc, hci, hI', rfl⟩
    unfold ir8_l1
    by_cases hlt : i < m
    · left
      refine ⟨hlt, ?_⟩
      obtain ⟨j, hj⟩ : ∃ j : Nat, (m : Int) - 1 - (i : Int) = (j : Int) ∧ m - i = j + 1 := ⟨m - 1 - i, by omega, by omega⟩
      rw [hj.1]
      have v1 : decide ((j : Int) ≥ 0) = true := decide_eq_true (by omega)
      have v2 : IntKind.i64.wrap ((j : Int) - 1) = (m : Int) - 1 - ((i + 1 : Nat) : Int) := by rw [wrapI (by omega) (by omega)]; omega
      obtain ⟨bx, ox, cx, rfl, k1⟩ := getx hI' (show j < xs.length by omega)
      have m1 : Nat.blt j xs.length = true := bltT (by omega)
      obtain ⟨hk, ek⟩ := hkey j
      rw [hj.2] at tb' hc
      obtain ⟨e, h4, c', e3, t3, hc3, hc3', x3⟩ := put_any tb' hc hk (by omega) (by omega)
      rw [KB_succ j (by omega)] at t3 hc3
      simp only [enter_eq, ev_seq, seqK_norm, seqK_exit, seqK_ret, ev_reg, ev_cond, condK_true, condK_false, ev_block, blockK_norm, blockK_ret, blockK_exit, ev_loop, ev_skip, ev_exit, ev_ret, regK_cons, regK_nil, guard_none, guard_some, regG_true, regG_false, regO_some, op_mov, op_conv, op_bin, op_bsl, op_box, op_mks, op_s2b, op_pick, op_un, op_eq, op_len, op_ext, op_load, op_iaddr, op_slice, op_b2s, op_idxS, op_mx, op_mn, op_call, op_store, op_app, op_copy, args_eq, result_one', rv_loc, finish_norm, finish_ret, outK_some, keep_true, keep_false, keep_nil, p_bin, p_pick, p_un, p_eq, p_conv, evNew, pureK_some, newK_some, X.eval, set_none, set_some, List.map_cons, List.map_nil, List.getD_cons_zero, List.getD_cons_succ, List.getD_nil, List.set_cons_zero, List.set_cons_succ, binCV, unCV, isShift, intArithF_eq, shiftF_eq, wrapF_eq, intArith, shift, eqVal, bound, asNat_cast, cond_true, cond_false, BEq.rfl, beq_self_eq_true, evalParts, fillParts, AV.cells, AV.ofCells, XV.av, AV.xv, List.length_cons, List.length_nil, zeros, patch, setMany, List.nil_append, List.cons_append, Nat.ble, Nat.add_eq, Nat.zero_add, Nat.add_zero, Nat.reduceAdd, Nat.reduceMul, Nat.reduceSub, Nat.ble_eq, Nat.reduceLeDiff, Nat.reduceBEq, Int.reduceBEq, Int.reduceNeg, Bool.and_true, Bool.and_false, Bool.true_and, Bool.false_and, Bool.not_true, Bool.not_false, Bool.true_eq_false, Bool.false_eq_true, Int.reduceLT, Int.reduceLE, Int.reduceGT, Int.reduceGE, decide_true, decide_false, Bool.not_eq_true, loopN_norm, loopN_exit, tf, ft, ff, v1, v2, p_iaddr, p_load, AV.ofCells, m1, Nat.mul_one, k1, ek, w7 (key j) hk, e3]
      exact ⟨_, _, rfl, c', ta'.ext x3 dis.1 dis.2.1, by rw [show m - (i + 1) = j by omega]; exact t3, by rw [show m - (i + 1) = j by omega]; exact hc3, by omega, keepI hI' x3 hS2, rfl⟩
    · right
      have him : i = m := by omega
      subst him
      have v1 : decide ((i : Int) - 1 - (i : Int) ≥ 0) = false := decide_eq_false (by omega)
      rw [Nat.sub_self] at tb' hc
      simp only [enter_eq, ev_seq, seqK_norm, seqK_exit, seqK_ret, ev_reg, ev_cond, condK_true, condK_false, ev_block, blockK_norm, blockK_ret, blockK_exit, ev_loop, ev_skip, ev_exit, ev_ret, regK_cons, regK_nil, guard_none, guard_some, regG_true, regG_false, regO_some, op_mov, op_conv, op_bin, op_bsl, op_box, op_mks, op_s2b, op_pick, op_un, op_eq, op_len, op_ext, op_load, op_iaddr, op_slice, op_b2s, op_idxS, op_mx, op_mn, op_call, op_store, op_app, op_copy, args_eq, result_one', rv_loc, finish_norm, finish_ret, outK_some, keep_true, keep_false, keep_nil, p_bin, p_pick, p_un, p_eq, p_conv, evNew, pureK_some, newK_some, X.eval, set_none, set_some, List.map_cons, List.map_nil, List.getD_cons_zero, List.getD_cons_succ, List.getD_nil, List.set_cons_zero, List.set_cons_succ, binCV, unCV, isShift, intArithF_eq, shiftF_eq, wrapF_eq, intArith, shift, eqVal, bound, asNat_cast, cond_true, cond_false, BEq.rfl, beq_self_eq_true, evalParts, fillParts, AV.cells, AV.ofCells, XV.av, AV.xv, List.length_cons, List.length_nil, zeros, patch, setMany, List.nil_append, List.cons_append, Nat.ble, Nat.add_eq, Nat.zero_add, Nat.add_zero, Nat.reduceAdd, Nat.reduceMul, Nat.reduceSub, Nat.ble_eq, Nat.reduceLeDiff, Nat.reduceBEq, Int.reduceBEq, Int.reduceNeg, Bool.and_true, Bool.and_false, Bool.true_and, Bool.false_and, Bool.not_true, Bool.not_false, Bool.true_eq_false, Bool.false_eq_true, Int.reduceLT, Int.reduceLE, Int.reduceGT, Int.reduceGE, decide_true, decide_false, Bool.not_eq_true, loopN_norm, loopN_exit, tf, ft, ff, v1]
      exact ⟨_, rfl, by simp, h', c, _, _, _, ta', tb', hc, rfl⟩
  obtain ⟨r, hr1, h4, cb, a8, a9, a13, ta4, tb4, hcb, rfl⟩ := L1 [.c x, .junk, .junk, .junk, .c (.ptr p 0), .c (.ptr q 0), a6, a7, .c (.int .i64 ((m : Int) - 1)), .junk, .junk, .junk, a12, .junk, .junk, .junk] rfl
  have hKK : KB 0 = KA m := by
    funext k
    show decide _ = decide _
    congr 1
    apply propext
    constructor
    · rintro ⟨j, h2, _, h3⟩; exact ⟨j, h2, h3⟩
    · rintro ⟨j, h2, h3⟩; exact ⟨j, h2, by omega, h3⟩
  rw [hKK] at tb4 hcb
  have hcc : cb = ca := by rw [hcb, hca]
  subst hcc
  have L0 : ∀ loc, keepOnly ir8_k0 loc = [.junk, .junk, .junk, .junk, .c (.ptr p 0), .c (.ptr q 0), .junk, .junk, .junk, .junk, .c (.int .i64 0), .junk, .junk, .junk, .junk, .junk] →
      ∃ r, loopK (evCallT table 25 200 8) 200 ir8_k0 ir8_l0 200 loc h4 = some r ∧ ∃ a0 a1 a2 a3 l, r = (.exit 4, a0 :: a1 :: a2 :: a3 :: .c (.ptr p 0) :: .c (.ptr q 0) :: l, h4) := by
    intro loc hloc
    refine loop_inv (n := 50) (fun j loc h' => h' = h4 ∧ loc = [.junk, .junk, .junk, .junk, .c (.ptr p 0), .c (.ptr q 0), .junk, .junk, .junk, .junk, .c (.int .i64 (j : Int)), .junk, .junk, .junk, .junk, .junk]) _ ?_ ⟨rfl, hloc⟩ (by omega)
    rintro j loc h' hj ⟨rfl, rfl⟩
    unfold ir8_l0
    by_cases hlt : j < 50
    · left
      refine ⟨hlt, ?_⟩
      have v1 : decide ((j : Int) < 50) = true := ltNat (n := 50) hlt
      have v2 := succI (i := j) (by omega)
      have ga : evCallT table 25 200 8 30 [.c (.ptr p 0), .c (.int .i64 (j : Int))] h' = some (.c (.int .i64 ((inM (KA m) j).getD (-1))), h') := ta4.get (N := 200) (d := 5) j (by omega)
      have gb : evCallT table 25 200 8 30 [.c (.ptr q 0), .c (.int .i64 (j : Int))] h' = some (.c (.int .i64 ((inM (KA m) j).getD (-1))), h') := tb4.get (N := 200) (d := 5) j (by omega)
      cases hK : KA m j with
      | true =>
        have e : (inM (KA m) j).getD (-1) = 7 * (j : Int) := by simp [inM, hK]
        rw [e] at ga gb
        have q1 : (7 * (j : Int) == -1) = false := by simp; omega
        simp only [enter_eq, ev_seq, seqK_norm, seqK_exit, seqK_ret, ev_reg, ev_cond, condK_true, condK_false, ev_block, blockK_norm, blockK_ret, blockK_exit, ev_loop, ev_skip, ev_exit, ev_ret, regK_cons, regK_nil, guard_none, guard_some, regG_true, regG_false, regO_some, op_mov, op_conv, op_bin, op_bsl, op_box, op_mks, op_s2b, op_pick, op_un, op_eq, op_len, op_ext, op_load, op_iaddr, op_slice, op_b2s, op_idxS, op_mx, op_mn, op_call, op_store, op_app, op_copy, args_eq, result_one', rv_loc, finish_norm, finish_ret, outK_some, keep_true, keep_false, keep_nil, p_bin, p_pick, p_un, p_eq, p_conv, evNew, pureK_some, newK_some, X.eval, set_none, set_some, List.map_cons, List.map_nil, List.getD_cons_zero, List.getD_cons_succ, List.getD_nil, List.set_cons_zero, List.set_cons_succ, binCV, unCV, isShift, intArithF_eq, shiftF_eq, wrapF_eq, intArith, shift, eqVal, bound, asNat_cast, cond_true, cond_false, BEq.rfl, beq_self_eq_true, evalParts, fillParts, AV.cells, AV.ofCells, XV.av, AV.xv, List.length_cons, List.length_nil, zeros, patch, setMany, List.nil_append, List.cons_append, Nat.ble, Nat.add_eq, Nat.zero_add, Nat.add_zero, Nat.reduceAdd, Nat.reduceMul, Nat.reduceSub, Nat.ble_eq, Nat.reduceLeDiff, Nat.reduceBEq, Int.reduceBEq, Int.reduceNeg, Bool.and_true, Bool.and_false, Bool.true_and, Bool.false_and, Bool.not_true, Bool.not_false, Bool.true_eq_false, Bool.false_eq_true, Int.reduceLT, Int.reduceLE, Int.reduceGT, Int.reduceGE, decide_true, decide_false, Bool.not_eq_true, loopN_norm, loopN_exit, tf, ft, ff, bneI, v1, v2, ga, gb, eqq, q1, w7 j hlt]
        exact ⟨_, _, rfl, rfl, rfl⟩
      | false =>
        have e : (inM (KA m) j).getD (-1) = -1 := by simp [inM, hK]
        rw [e] at ga gb
        simp only [enter_eq, ev_seq, seqK_norm, seqK_exit, seqK_ret, ev_reg, ev_cond, condK_true, condK_false, ev_block, blockK_norm, blockK_ret, blockK_exit, ev_loop, ev_skip, ev_exit, ev_ret, regK_cons, regK_nil, guard_none, guard_some, regG_true, regG_false, regO_some, op_mov, op_conv, op_bin, op_bsl, op_box, op_mks, op_s2b, op_pick, op_un, op_eq, op_len, op_ext, op_load, op_iaddr, op_slice, op_b2s, op_idxS, op_mx, op_mn, op_call, op_store, op_app, op_copy, args_eq, result_one', rv_loc, finish_norm, finish_ret, outK_some, keep_true, keep_false, keep_nil, p_bin, p_pick, p_un, p_eq, p_conv, evNew, pureK_some, newK_some, X.eval, set_none, set_some, List.map_cons, List.map_nil, List.getD_cons_zero, List.getD_cons_succ, List.getD_nil, List.set_cons_zero, List.set_cons_succ, binCV, unCV, isShift, intArithF_eq, shiftF_eq, wrapF_eq, intArith, shift, eqVal, bound, asNat_cast, cond_true, cond_false, BEq.rfl, beq_self_eq_true, evalParts, fillParts, AV.cells, AV.ofCells, XV.av, AV.xv, List.length_cons, List.length_nil, zeros, patch, setMany, List.nil_append, List.cons_append, Nat.ble, Nat.add_eq, Nat.zero_add, Nat.add_zero, Nat.reduceAdd, Nat.reduceMul, Nat.reduceSub, Nat.ble_eq, Nat.reduceLeDiff, Nat.reduceBEq, Int.reduceBEq, Int.reduceNeg, Bool.and_true, Bool.and_false, Bool.true_and, Bool.false_and, Bool.not_true, Bool.not_false, Bool.true_eq_false, Bool.false_eq_true, Int.reduceLT, Int.reduceLE, Int.reduceGT, Int.reduceGE, decide_true, decide_false, Bool.not_eq_true, loopN_norm, loopN_exit, tf, ft, ff, bneI, v1, v2, ga, gb, eqq]
        exact ⟨_, _, rfl, rfl, rfl⟩
    · right
      have hj50 : j = 50 := by omega
      subst hj50
      simp only [enter_eq, ev_seq, seqK_norm, seqK_exit, seqK_ret, ev_reg, ev_cond, condK_true, condK_false, ev_block, blockK_norm, blockK_ret, blockK_exit, ev_loop, ev_skip, ev_exit, ev_ret, regK_cons, regK_nil, guard_none, guard_some, regG_true, regG_false, regO_some, op_mov, op_conv, op_bin, op_bsl, op_box, op_mks, op_s2b, op_pick, op_un, op_eq, op_len, op_ext, op_load, op_iaddr, op_slice, op_b2s, op_idxS, op_mx, op_mn, op_call, op_store, op_app, op_copy, args_eq, result_one', rv_loc, finish_norm, finish_ret, outK_some, keep_true, keep_false, keep_nil, p_bin, p_pick, p_un, p_eq, p_conv, evNew, pureK_some, newK_some, X.eval, set_none, set_some, List.map_cons, List.map_nil, List.getD_cons_zero, List.getD_cons_succ, List.getD_nil, List.set_cons_zero, List.set_cons_succ, binCV, unCV, isShift, intArithF_eq, shiftF_eq, wrapF_eq, intArith, shift, eqVal, bound, asNat_cast, cond_true, cond_false, BEq.rfl, beq_self_eq_true, evalParts, fillParts, AV.cells, AV.ofCells, XV.av, AV.xv, List.length_cons, List.length_nil, zeros, patch, setMany, List.nil_append, List.cons_append, Nat.ble, Nat.add_eq, Nat.zero_add, Nat.add_zero, Nat.reduceAdd, Nat.reduceMul, Nat.reduceSub, Nat.ble_eq, Nat.reduceLeDiff, Nat.reduceBEq, Int.reduceBEq, Int.reduceNeg, Bool.and_true, Bool.and_false, Bool.true_and, Bool.false_and, Bool.not_true, Bool.not_false, Bool.true_eq_false, Bool.false_eq_true, Int.reduceLT, Int.reduceLE, Int.reduceGT, Int.reduceGE, decide_true, decide_false, Bool.not_eq_true, loopN_norm, loopN_exit, tf, ft, ff]
      exact ⟨_, rfl, by simp, _, _, _, _, _, rfl⟩
  obtain ⟨r, hr0, a0, a1, a2, a3, l, rfl⟩ := L0 [.c x, .junk, .junk, .junk, .c (.ptr p 0), .c (.ptr q 0), .junk, .junk, a8, a9, .c (.int .i64 0), .junk, .junk, a13, .junk, .junk] rfl
  have la : evCallT table 25 200 8 31 [.c (.ptr p 0)] h4 = some (.c (.int .i64 (cb : Int)), h4) := ta4.len (N := 200) (d := 7)
  have lb : evCallT table 25 200 8 31 [.c (.ptr q 0)] h4 = some (.c (.int .i64 (cb : Int)), h4) := tb4.len (N := 200) (d := 7)
  have mnE : (if (20 : Int) < (xs.length : Int) then (20 : Int) else (xs.length : Int)) = (m : Int) := by split <;> omega
  have w1 : IntKind.i64.wrap ((m : Int) - 1) = (m : Int) - 1 := wrapI (by omega) (by omega)
  simp only [enter_eq, ev_seq, seqK_norm, seqK_exit, seqK_ret, ev_reg, ev_cond, condK_true, condK_false, ev_block, blockK_norm, blockK_ret, blockK_exit, ev_loop, ev_skip, ev_exit, ev_ret, regK_cons, regK_nil, guard_none, guard_some, regG_true, regG_false, regO_some, op_mov, op_conv, op_bin, op_bsl, op_box, op_mks, op_s2b, op_pick, op_un, op_eq, op_len, op_ext, op_load, op_iaddr, op_slice, op_b2s, op_idxS, op_mx, op_mn, op_call, op_store, op_app, op_copy, args_eq, result_one', rv_loc, finish_norm, finish_ret, outK_some, keep_true, keep_false, keep_nil, p_bin, p_pick, p_un, p_eq, p_conv, evNew, pureK_some, newK_some, X.eval, set_none, set_some, List.map_cons, List.map_nil, List.getD_cons_zero, List.getD_cons_succ, List.getD_nil, List.set_cons_zero, List.set_cons_succ, binCV, unCV, isShift, intArithF_eq, shiftF_eq, wrapF_eq, intArith, shift, eqVal, bound, asNat_cast, cond_true, cond_false, BEq.rfl, beq_self_eq_true, evalParts, fillParts, AV.cells, AV.ofCells, XV.av, AV.xv, List.length_cons, List.length_nil, zeros, patch, setMany, List.nil_append, List.cons_append, Nat.ble, Nat.add_eq, Nat.zero_add, Nat.add_zero, Nat.reduceAdd, Nat.reduceMul, Nat.reduceSub, Nat.ble_eq, Nat.reduceLeDiff, Nat.reduceBEq, Int.reduceBEq, Int.reduceNeg, Bool.and_true, Bool.and_false, Bool.true_and, Bool.false_and, Bool.not_true, Bool.not_false, Bool.true_eq_false, Bool.false_eq_true, Int.reduceLT, Int.reduceLE, Int.reduceGT, Int.reduceGE, decide_true, decide_false, Bool.not_eq_true, loopN_norm, loopN_exit, tf, ft, ff, ev_dreg, dregK_nil, dregK_cons, dregE_true, dregP_some, dregX_some, d_mov, d_bin, d_eq, d_pick, d_un, d_conv, d_b2s, d_len, d_load, d_iaddr, d_slice, d_ext, d_call, d_store, chk_done, chk_none, chk_some, chkG_true, chkG_false, chkOne_nil, chkOne_cons, chkH_some, chkV_same, stage_none, stage_some, look_hit, look_miss, news_nil, wb_cons, wb_nil, skip0, List.reverse_cons, List.reverse_nil, es', es2, e1, e2, hr2, blockK_exit_eq, lx, p_mn', foldInt, mnE, w1, hr1, hr0, evCallT_told, la, lb, eqq]
  rfl

end Lav

namespace Go.Proofs.Ytgjceiiddcbfoaa.tableOrders
open Go.ChangeShapes Go.WideShapes Go.ChangeAt Go.RowKit
open Go.ChangeMaps (open_string shut_string)
set_option linter.unusedVariables false

theorem own : ownKnob Try.prog.godebug = none := by kernel_rfl
theorem laidOut : laidOutB Try.prog = true := by kernel_rfl

/-- WHAT THE WALK IS TOLD OF A SLICE OF INTEGERS THAT CAME IN: it is nil; or it leads to a row of 'cap' cells, the numbers 'zs' (the first 'len' are its elements, the rest its spare room), each fitting its kind. -/
def IsRow (k : IntKind) (w : World) (a : Option Addr) (len cap : Nat) (zs : List Int) : Prop :=
  (a = none ∧ len = 0 ∧ cap = 0 ∧ zs = []) ∨
  ∃ x, a = some x ∧ len ≤ cap ∧ cap ≤ maxLen ∧ zs.length = cap ∧ (∀ i, i < zs.length → w.cell? (x.add i) = some (.int k (zs.getD i 0))) ∧ ∀ n ∈ zs, (Lit.int k n).wf = true

/-! ### STEP 1: THE WALK: the Go text returns true, AND WRITES NOTHING THAT WAS THERE: 'Below w.heap.size w w'' (Derived/Below.lean: '.refl', '.alloc', '.drew', '.setCell' at a new block, '.trans'). Open each 'IsRow' by 'rcases' AHEAD of 'go_enter'; part every test ahead of the walk. -/
theorem walk (a0 : Option Addr) (len0 cap0 : Nat) (z0 : List Int) (a1 : Int) (w : World) (w0 : IsRow .i64 w a0 len0 cap0 z0) (w1 : (Lit.int .i64 a1).wf = true) :
    Calls Try.prog 8 #[.slice a0 len0 cap0, .int .i64 a1] w fun e w' => e = .returned (.bool true) ∧ Below w.heap.size w w' := by
  obtain ⟨ι, h, x, I, hle, hx, hr⟩ := (Lav.Init.empty w).slice w0
  exact Lav.walk_of (Lav.evCallT_sound Lav.mixed Lav.table_ok Lav.tld5 200 9) I (args := [.c x, .c (.int .i64 a1)]) (vs := [.slice a0 len0 cap0, .int .i64 a1]) ⟨hx, rfl, trivial⟩ (Lav.tableOrders a1 (Lav.ints_of hr))

/-! ### THE ROW's STEP: WRITTEN OUT: LEAVE IT -/
set_option maxRecDepth 100000 in
theorem lifted (os : Os) (started : os.Started) (H : Type) (enc : TypeId × Value → H) :
    ReturnsInHanded {} Try.checked os 8 .any (Rows.tableOrdersSpec.pre6 enc Try.prog Try.f8 Rows.tableOrdersRow.domain false) (Rows.tableOrdersSpec.post enc Try.prog Try.f8 false true false false) := by
  refine returnsInHanded_of_change (C := Try.checked) own started (by kernel_rfl) Try.func8
    (ChangeSpec.witness6 (enc := enc) (C := Try.checked) false ⟨#[], #[.slice none 0 0, .int .i64 0], []⟩ 8 (by kernel_rfl) (by kernel_rfl) (by kernel_rfl) (by kernel_rfl)) ?_
  intro W base args ds gs before hval0 hW hcnd _
  have hval : ∀ (j : Nat) t v, Try.f8.params[j]? = some t → args[j]? = some v → Value.okWide Try.prog W .any base t v := hval0
  have hW' := hW
  obtain ⟨p, q, hA0, hV, rfl, hfz, hnd⟩ := hW
  have hA : DataW.TrodAll enc Try.prog W 0 (fun _ => true) true Try.f8.params.toList args.toList ds p := hA0
  rw [Try.params8] at hA hval
  obtain ⟨v0, vs0, d0, ds0, p0, q0, hargs, rfl, rfl, h0, r0⟩ := trodAll_cons hA
  obtain ⟨v1, vs1, d1, ds1, p1, q1, rfl, rfl, rfl, h1, r1⟩ := trodAll_cons r0
  obtain ⟨rfl, rfl, rfl⟩ := trodAll_nil r1
  obtain rfl : args = #[v0, v1] := by cases args; simp_all
  obtain ⟨rfl, rfl⟩ := trodVars_none hV
  obtain ⟨a0, len0, cap0, rfl⟩ := okWide_slice Try.underlying27 (hval 0 27 v0 rfl rfl)
  have k0 := h0
  have lt0 : ∀ x ∈ p0, x.block < W.heap.size := by obtain ⟨m, hm⟩ := k0; exact DataW.trod_lt m _ _ _ hm
  obtain ⟨z0, w0⟩ : ∃ zs, IsRow .i64 W a0 len0 cap0 zs := by
    obtain ⟨fuel, hf⟩ := h0
    rcases open_ints Try.underlying27 Try.underlying3 (by kernel_rfl) hf with ⟨hcs, _⟩ | ⟨x, l, c, zs, hcs, _, hl, hm, hz, _, hcell, hwz⟩
    · simp [Value.cells] at hcs
      obtain ⟨rfl, rfl, rfl⟩ := hcs
      exact ⟨[], .inl ⟨rfl, rfl, rfl, rfl⟩⟩
    · simp [Value.cells] at hcs
      obtain ⟨rfl, rfl, rfl⟩ := hcs
      exact ⟨zs, .inr ⟨_, rfl, hl, hm, by simpa using hz, hcell, hwz⟩⟩
  obtain ⟨a1, rfl, rfl, rfl, w1⟩ := open_int Try.underlying3 (hval 1 3 v1 rfl rfl) h1
  clear hA0 hval0
  refine (walk a0 len0 cap0 z0 a1 W w0 w1).mono fun e W' ⟨he, bel⟩ => ?_
  subst he
  exact ⟨_, rfl, _, _, _, [], _, [], hW', trodAll_mk1 (shut_bool Try.underlying4 _), (trodAll_cons_mk (Below.trod laidOut (by kernel_rfl) (of_decide_eq_true (by kernel_rfl)) k0 bel lt0) (trodAll_cons_mk (shut_int Try.underlying3 w1) trodAll_mk0)), rfl, bel.frame _, fun h => by cases h⟩

theorem over : Rows.tableOrdersRow.holds Try.pinned (OpenSpec.ofChange Rows.tableOrdersSpec) :=
  OpenClaim.holds_of_wide 8 Try.f8 rfl rfl rfl rfl rfl rfl rfl ⟨rfl, rfl, rfl, rfl, rfl⟩ rfl rfl rfl rfl rfl (by kernel_rfl) Try.func8 (by kernel_rfl)
    (of_decide_eq_true (by kernel_rfl)) (by unfold Func.isWrapper; first | (rw [if_pos (by decide +kernel)]; kernel_rfl) | (rw [if_neg (by decide +kernel)]; exact ⟨rfl, rfl⟩))
    (fun os started H enc _ => lifted os started H enc)

/-- ████ THE STATEMENT ████ -/
theorem proved : Rows.TableOrdersSaid := over
end Go.Proofs.Ytgjceiiddcbfoaa.tableOrders
