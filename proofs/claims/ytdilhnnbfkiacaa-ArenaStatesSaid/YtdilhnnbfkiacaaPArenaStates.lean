/-
  Proved: whatever number and steps come in, lavabolaw10.ArenaStates returns true and changes nothing that was there. No conditions beyond the given statement's.
-/
import Derived.Test.YtdilhnnbfkiacaaRows
import Derived.Test.YtdilhnnbfkiacaaAre5
import Derived.Test.YtdilhnnbfkiacaaMix1
import Derived.WalkKit
import Derived.ProofKit
import Derived.OpenShut
import Derived.ShutString
import Derived.ChangeOld
import Derived.Below
set_option maxRecDepth 100000
set_option linter.unusedSimpArgs false
namespace Lav
open Go (IntKind)
/-- How many are free. -/
def cz : List Fm → Nat
  | [] => 0
  | f :: fs => (if f.st = 0 then 1 else 0) + cz fs
theorem cz_app : ∀ (fs gs : List Fm), cz (fs ++ gs) = cz fs + cz gs
  | [], _ => by simp [cz]
  | f :: fs, gs => by simp [cz, cz_app fs gs]; omega
theorem cz_take {fs : List Fm} {n : Nat} (h : n < fs.length) : cz (fs.take (n + 1)) = cz (fs.take n) + if fs[n].st = 0 then 1 else 0 := by
  rw [List.take_succ_eq_append_getElem h, cz_app]; simp [cz]
theorem cz_le : ∀ (fs : List Fm), cz fs ≤ fs.length
  | [] => Nat.le_refl _
  | f :: fs => by have := cz_le fs; simp only [cz, List.length_cons]; split <;> omega
theorem free_part (fs : List Fm) : ∀ (n : Nat), n ≤ fs.length → ∀ (o : List Int), o.Nodup → (∀ x, x ∈ o ↔ ∃ (i : Nat) (f : Fm), i < n ∧ x = (i : Int) ∧ fs[i]? = some f ∧ f.st = 0) → o.length = cz (fs.take n)
  | 0, _, o, _, h => by
    cases o with
    | nil => rfl
    | cons a l =>
      obtain ⟨i, f, hi, _⟩ := (h a).1 (by simp)
      omega
  | n + 1, hn, o, nd, h => by
    rw [cz_take (by omega)]
    by_cases h0 : fs[n].st = 0
    · have hm : (n : Int) ∈ o := (h n).2 ⟨n, fs[n], by omega, rfl, List.getElem?_eq_getElem (by omega), h0⟩
      have := free_part fs n (by omega) (o.erase (n : Int)) (nd.erase _) fun x => by
        rw [nd.mem_erase_iff, h x]
        constructor
        · rintro ⟨hne, i, f, hi, rfl, hf⟩
          exact ⟨i, f, by omega, rfl, hf⟩
        · rintro ⟨i, f, hi, rfl, hf⟩
          exact ⟨by omega, i, f, by omega, rfl, hf⟩
      rw [List.length_erase_of_mem hm] at this
      have : 0 < o.length := List.length_pos_of_mem hm
      rw [if_pos h0]; omega
    · have := free_part fs n (by omega) o nd fun x => by
        rw [h x]
        constructor
        · rintro ⟨i, f, hi, rfl, hf, h1⟩
          refine ⟨i, f, ?_, rfl, hf, h1⟩
          rcases Nat.lt_or_ge i n with h' | h'
          · exact h'
          · have : i = n := by omega
            subst this
            rw [List.getElem?_eq_getElem (by omega)] at hf
            simp only [Option.some.injEq] at hf
            exact absurd (hf ▸ h1) h0
        · rintro ⟨i, f, hi, rfl, hf⟩
          exact ⟨i, f, by omega, rfl, hf⟩
      rw [if_neg h0]; omega
theorem AH.free {h : Heap} {p : Nat} {a : AP} {fs : List Fm} {o : List Int} {M : Nat → Option Int} (A : AH h p a fs o M) : o.length = cz fs := by
  have := free_part fs fs.length (Nat.le_refl _) o A.ar.ll.nd fun x => by
    rw [A.fo x]
    constructor
    · rintro ⟨i, f, rfl, hf, h0⟩
      exact ⟨i, f, (List.getElem?_eq_some_iff.1 hf).1, rfl, hf, h0⟩
    · rintro ⟨i, f, _, rfl, hf, h0⟩
      exact ⟨i, f, rfl, hf, h0⟩
  rwa [List.take_length] at this
theorem bneB2 {a b : Bool} : (a != b) = !(a == b) := rfl
abbrev ks5 : List CK := [.int, .int, .int, .bool, .bytes]

/-- The frames that were told are looked at. -/
theorem frLooks {hh h : Heap} {p i : Nat} {a : AP} {fs : List Fm} {o : List Int} {M : Nat → Option Int} {x y : CV} (A : AH h p a fs o M) (t : Tells hh h y fs) :
    ∀ loc, keepOnly ir3_k0 loc = [.junk, .c x, .junk, .c (.ptr p 0), .c (.int .i64 (i : Int)), .junk, .junk, .junk, .junk, .junk, .junk, .c y, .c (.int .i64 0), .c (.int .i64 0), .junk, .junk, .junk, .junk, .junk, .junk, .junk, .junk, .junk, .junk, .junk, .junk] →
      ∃ r, loopK (evCallT table 18 200 8) 200 ir3_k0 ir3_l0 200 loc h = some r ∧ ∃ b0 b2 b5 b6 b7 b8 b9 b10 b13 b14 b15 b16 b17 b18 b19 b20 b21 b22 b23 b24 b25, r = (.exit 3, [b0, .c x, b2, .c (.ptr p 0), .c (.int .i64 (i : Int)), b5, b6, b7, b8, b9, b10, .c y, .c (.int .i64 (cz fs : Int)), b13, b14, b15, b16, b17, b18, b19, b20, b21, b22, b23, b24, b25], h) := by
  intro loc hloc
  have sm := A.sm
  have ly := t.len
  refine loop_inv (n := fs.length) (fun j loc G => G = h ∧ j ≤ fs.length ∧ loc = [.junk, .c x, .junk, .c (.ptr p 0), .c (.int .i64 (i : Int)), .junk, .junk, .junk, .junk, .junk, .junk, .c y, .c (.int .i64 (cz (fs.take j) : Int)), .c (.int .i64 (j : Int)), .junk, .junk, .junk, .junk, .junk, .junk, .junk, .junk, .junk, .junk, .junk, .junk]) _ ?_ ⟨rfl, Nat.zero_le _, hloc⟩ (by omega)
  rintro j loc G hj ⟨rfl, hjn, rfl⟩
  unfold ir3_l0
  by_cases hlt : j < fs.length
  · left
    refine ⟨hlt, ?_⟩
    obtain ⟨fb, rfl, hfb, T⟩ := t.at_ hlt
    have v1 : decide ((j : Int) < (fs.length : Int)) = true := ltNat hlt
    have v2 := succI (i := j) (by omega)
    have m1 : Nat.blt j fs.length = true := bltT hlt
    have k := A.ok j fs[j] (List.getElem?_eq_getElem hlt)
    have hc := cz_take hlt
    have hcl := cz_le (fs.take j)
    rw [List.length_take] at hcl
    have v3 := succI (i := cz (fs.take j)) (by omega)
    have r1 := T.s
    have r2 := T.g
    have r3 := T.n
    have r4 := T.d
    have ef := A.find (N := 200) (d := 4) fs[j].pg (by omega)
    generalize hg : fs[j] = g at *
    by_cases h1 : g.st = 1
    · have k1 := k.u h1
      obtain ⟨q, hq⟩ : ∃ q : Nat, g.pg = (q : Int) := ⟨g.pg.toNat, by omega⟩
      have em : findF fs g.pg = (j : Int) := by
        have h2 := A.fm.one hlt (by rw [hg]; exact h1) (q := q) (by rw [hg]; exact hq)
        have h3 := findF_eq A.fm q
        rw [h2] at h3
        rw [hq, ← h3]; rfl
      rw [em] at ef
      rw [h1] at r1 hc
      rw [hc]
      simp only [enter_eq, ev_seq, seqK_norm, seqK_exit, seqK_ret, ev_reg, ev_cond, condK_true, condK_false, ev_block, blockK_norm, blockK_ret, blockK_exit, ev_loop, ev_skip, ev_exit, ev_ret, regK_cons, regK_nil, guard_none, guard_some, regG_true, regG_false, regO_some, op_mov, op_conv, op_bin, op_bsl, op_box, op_mks, op_s2b, op_pick, op_un, op_eq, op_len, op_ext, op_load, op_iaddr, op_slice, op_b2s, op_idxS, op_mx, op_mn, op_call, op_store, op_app, op_copy, args_eq, result_one', rv_loc, finish_norm, finish_ret, outK_some, keep_true, keep_false, keep_nil, p_bin, p_pick, p_un, p_eq, p_conv, evNew, pureK_some, newK_some, X.eval, set_none, set_some, List.map_cons, List.map_nil, List.getD_cons_zero, List.getD_cons_succ, List.getD_nil, List.set_cons_zero, List.set_cons_succ, binCV, unCV, isShift, intArithF_eq, shiftF_eq, wrapF_eq, intArith, shift, eqVal, bound, asNat_cast, cond_true, cond_false, BEq.rfl, beq_self_eq_true, evalParts, fillParts, AV.cells, AV.ofCells, XV.av, AV.xv, List.length_cons, List.length_nil, zeros, patch, setMany, List.nil_append, List.cons_append, Nat.ble, Nat.add_eq, Nat.zero_add, Nat.add_zero, Nat.reduceAdd, Nat.reduceMul, Nat.reduceSub, Nat.ble_eq, Nat.reduceLeDiff, Nat.reduceBEq, Int.reduceBEq, Int.reduceNeg, Bool.and_true, Bool.and_false, Bool.true_and, Bool.false_and, Bool.not_true, Bool.not_false, Bool.true_eq_false, Bool.false_eq_true, Int.reduceLT, Int.reduceLE, Int.reduceGT, Int.reduceGE, decide_true, decide_false, Bool.not_eq_true, loopN_norm, loopN_exit, tf, ft, ff, ly, v1, v2, m1, p_iaddr, op_faddr, p_faddr, p_load, AV.ofCells, r1, r2, r3, r4, ef, bneI, eqq]
      exact ⟨_, _, rfl, rfl, by omega, rfl⟩
    · obtain ⟨e1, e2, e3⟩ := k.n h1
      rw [e1] at r2
      rw [e2] at r3
      rw [e3] at r4
      have u1 : (g.st == 1) = false := by simp only [beq_eq_false_iff_ne, ne_eq]; exact h1
      by_cases h0 : g.st = 0
      · rw [if_pos h0] at hc
        rw [h0] at r1
        rw [hc]
        simp only [enter_eq, ev_seq, seqK_norm, seqK_exit, seqK_ret, ev_reg, ev_cond, condK_true, condK_false, ev_block, blockK_norm, blockK_ret, blockK_exit, ev_loop, ev_skip, ev_exit, ev_ret, regK_cons, regK_nil, guard_none, guard_some, regG_true, regG_false, regO_some, op_mov, op_conv, op_bin, op_bsl, op_box, op_mks, op_s2b, op_pick, op_un, op_eq, op_len, op_ext, op_load, op_iaddr, op_slice, op_b2s, op_idxS, op_mx, op_mn, op_call, op_store, op_app, op_copy, args_eq, result_one', rv_loc, finish_norm, finish_ret, outK_some, keep_true, keep_false, keep_nil, p_bin, p_pick, p_un, p_eq, p_conv, evNew, pureK_some, newK_some, X.eval, set_none, set_some, List.map_cons, List.map_nil, List.getD_cons_zero, List.getD_cons_succ, List.getD_nil, List.set_cons_zero, List.set_cons_succ, binCV, unCV, isShift, intArithF_eq, shiftF_eq, wrapF_eq, intArith, shift, eqVal, bound, asNat_cast, cond_true, cond_false, BEq.rfl, beq_self_eq_true, evalParts, fillParts, AV.cells, AV.ofCells, XV.av, AV.xv, List.length_cons, List.length_nil, zeros, patch, setMany, List.nil_append, List.cons_append, Nat.ble, Nat.add_eq, Nat.zero_add, Nat.add_zero, Nat.reduceAdd, Nat.reduceMul, Nat.reduceSub, Nat.ble_eq, Nat.reduceLeDiff, Nat.reduceBEq, Int.reduceBEq, Int.reduceNeg, Bool.and_true, Bool.and_false, Bool.true_and, Bool.false_and, Bool.not_true, Bool.not_false, Bool.true_eq_false, Bool.false_eq_true, Int.reduceLT, Int.reduceLE, Int.reduceGT, Int.reduceGE, decide_true, decide_false, Bool.not_eq_true, loopN_norm, loopN_exit, tf, ft, ff, ly, v1, v2, v3, m1, p_iaddr, op_faddr, p_faddr, p_load, AV.ofCells, r1, r2, r3, r4, bneI]
        exact ⟨_, _, rfl, rfl, by omega, rfl⟩
      · rw [if_neg h0] at hc
        have u0 : (g.st == 0) = false := by simp only [beq_eq_false_iff_ne, ne_eq]; exact h0
        rw [hc]
        simp only [enter_eq, ev_seq, seqK_norm, seqK_exit, seqK_ret, ev_reg, ev_cond, condK_true, condK_false, ev_block, blockK_norm, blockK_ret, blockK_exit, ev_loop, ev_skip, ev_exit, ev_ret, regK_cons, regK_nil, guard_none, guard_some, regG_true, regG_false, regO_some, op_mov, op_conv, op_bin, op_bsl, op_box, op_mks, op_s2b, op_pick, op_un, op_eq, op_len, op_ext, op_load, op_iaddr, op_slice, op_b2s, op_idxS, op_mx, op_mn, op_call, op_store, op_app, op_copy, args_eq, result_one', rv_loc, finish_norm, finish_ret, outK_some, keep_true, keep_false, keep_nil, p_bin, p_pick, p_un, p_eq, p_conv, evNew, pureK_some, newK_some, X.eval, set_none, set_some, List.map_cons, List.map_nil, List.getD_cons_zero, List.getD_cons_succ, List.getD_nil, List.set_cons_zero, List.set_cons_succ, binCV, unCV, isShift, intArithF_eq, shiftF_eq, wrapF_eq, intArith, shift, eqVal, bound, asNat_cast, cond_true, cond_false, BEq.rfl, beq_self_eq_true, evalParts, fillParts, AV.cells, AV.ofCells, XV.av, AV.xv, List.length_cons, List.length_nil, zeros, patch, setMany, List.nil_append, List.cons_append, Nat.ble, Nat.add_eq, Nat.zero_add, Nat.add_zero, Nat.reduceAdd, Nat.reduceMul, Nat.reduceSub, Nat.ble_eq, Nat.reduceLeDiff, Nat.reduceBEq, Int.reduceBEq, Int.reduceNeg, Bool.and_true, Bool.and_false, Bool.true_and, Bool.false_and, Bool.not_true, Bool.not_false, Bool.true_eq_false, Bool.false_eq_true, Int.reduceLT, Int.reduceLE, Int.reduceGT, Int.reduceGE, decide_true, decide_false, Bool.not_eq_true, loopN_norm, loopN_exit, tf, ft, ff, ly, v1, v2, m1, p_iaddr, op_faddr, p_faddr, p_load, AV.ofCells, r1, r2, r3, r4, u0, u1, bneI]
        exact ⟨_, _, rfl, rfl, by omega, rfl⟩
  · right
    have hjn' : j = fs.length := by omega
    subst hjn'
    have v1 : decide ((fs.length : Int) < (fs.length : Int)) = false := geNat (Nat.le_refl _)
    rw [List.take_length]
    simp only [enter_eq, ev_seq, seqK_norm, seqK_exit, seqK_ret, ev_reg, ev_cond, condK_true, condK_false, ev_block, blockK_norm, blockK_ret, blockK_exit, ev_loop, ev_skip, ev_exit, ev_ret, regK_cons, regK_nil, guard_none, guard_some, regG_true, regG_false, regO_some, op_mov, op_conv, op_bin, op_bsl, op_box, op_mks, op_s2b, op_pick, op_un, op_eq, op_len, op_ext, op_load, op_iaddr, op_slice, op_b2s, op_idxS, op_mx, op_mn, op_call, op_store, op_app, op_copy, args_eq, result_one', rv_loc, finish_norm, finish_ret, outK_some, keep_true, keep_false, keep_nil, p_bin, p_pick, p_un, p_eq, p_conv, evNew, pureK_some, newK_some, X.eval, set_none, set_some, List.map_cons, List.map_nil, List.getD_cons_zero, List.getD_cons_succ, List.getD_nil, List.set_cons_zero, List.set_cons_succ, binCV, unCV, isShift, intArithF_eq, shiftF_eq, wrapF_eq, intArith, shift, eqVal, bound, asNat_cast, cond_true, cond_false, BEq.rfl, beq_self_eq_true, evalParts, fillParts, AV.cells, AV.ofCells, XV.av, AV.xv, List.length_cons, List.length_nil, zeros, patch, setMany, List.nil_append, List.cons_append, Nat.ble, Nat.add_eq, Nat.zero_add, Nat.add_zero, Nat.reduceAdd, Nat.reduceMul, Nat.reduceSub, Nat.ble_eq, Nat.reduceLeDiff, Nat.reduceBEq, Int.reduceBEq, Int.reduceNeg, Bool.and_true, Bool.and_false, Bool.true_and, Bool.false_and, Bool.not_true, Bool.not_false, Bool.true_eq_false, Bool.false_eq_true, Int.reduceLT, Int.reduceLE, Int.reduceGT, Int.reduceGE, decide_true, decide_false, Bool.not_eq_true, loopN_norm, loopN_exit, tf, ft, ff, ly, v1]
    exact ⟨_, rfl, by simp, _, _, _, _, _, _, _, _, _, _, _, _, _, _, _, _, _, _, _, _, _, rfl⟩
theorem arenaStates {h : Heap} {x : CV} {m : Nat} {cs : List CV} (n : Int) (hx : Mix ks5 h x m cs) : good (evCallT table 18 200 9 3 [.c (.int .i64 n), .c x] h) = true := by
  obtain ⟨k, hk, e1⟩ : ∃ k : Nat, k < 13 ∧ IntKind.i64.wrap (Int.tmod (IntKind.u64.wrap n) 13) = k := few (by omega) (by omega)
  obtain ⟨p, a, H0, e4, A0, x0, y0⟩ := new_ar (N := 200) (d := 4) (h := h) k (by omega) (by omega)
  have L : ∀ loc, keepOnly ir3_k1 loc = [.junk, .c x, .junk, .c (.ptr p 0), .c (.int .i64 0), .junk, .junk, .junk, .junk, .junk, .junk, .junk, .junk, .junk, .junk, .junk, .junk, .junk, .junk, .junk, .junk, .junk, .junk, .junk, .junk, .junk] →
      ∃ r, loopK (evCallT table 18 200 8) 200 ir3_k1 ir3_l1 200 loc H0 = some r ∧ ∃ a0 a1 a2 l G, r = (.exit 0, a0 :: a1 :: a2 :: l, G) := by
    intro loc hloc
    refine loop_inv (n := min 100 m) (fun i loc G => i ≤ min 100 m ∧ (∃ a fs o M, AH G p a fs o M ∧ ∀ k ∈ own p a, h.next ≤ k) ∧ Ext h G ∧ loc = [.junk, .c x, .junk, .c (.ptr p 0), .c (.int .i64 (i : Int)), .junk, .junk, .junk, .junk, .junk, .junk, .junk, .junk, .junk, .junk, .junk, .junk, .junk, .junk, .junk, .junk, .junk, .junk, .junk, .junk, .junk]) _ ?_ ⟨Nat.zero_le _, ⟨a, _, _, _, A0, y0⟩, x0, hloc⟩ (by omega)
    rintro i loc G hi ⟨hin, ⟨a, fs, o, M, A, yg⟩, xg, rfl⟩
    have lx : ∀ (loc vals : List AV) (h : Heap), evPure loc (.c x :: vals) h (.len .sl (.val 0)) = some (.c (.int .i64 (m : Int))) := fun _ _ _ => hx.len rfl
    unfold ir3_l1
    by_cases hlt : i < min 100 m
    · left
      refine ⟨hlt, ?_⟩
      have v1 : decide ((i : Int) < (m : Int)) = true := ltNat (by omega)
      have v3 : decide ((i : Int) < 100) = true := decide_eq_true (by omega)
      have v2 := succI (i := i) (by omega)
      have m1 : Nat.blt i m = true := bltT (by omega)
      have hxg := hx.ext xg
      obtain ⟨bx, rfl, hb, hg⟩ : ∃ b, x = .sl b 0 m (.dy 5) ∧ b < G.next ∧ G.get b = some (.ro cs) := hxg.sl (by omega)
      obtain ⟨kd, r0⟩ : ∃ v : Int, G.read bx (i * 5) 1 = some [.int .i64 v] := hxg.int (j := 0) hg (by omega) rfl
      obtain ⟨pp, r1⟩ : ∃ v : Int, G.read bx (i * 5 + 1) 1 = some [.int .i64 v] := hxg.int (j := 1) hg (by omega) rfl
      obtain ⟨fv, r2⟩ : ∃ v : Int, G.read bx (i * 5 + 2) 1 = some [.int .i64 v] := hxg.int (j := 2) hg (by omega) rfl
      obtain ⟨K, hK, ek⟩ : ∃ k : Nat, k < 8 ∧ Int.tmod (IntKind.i64.wrap (Int.tmod kd 8 + 8)) 8 = (k : Int) := kindM (m := 8) (by omega) (by omega) kd
      obtain ⟨q, hq, ep⟩ : ∃ k : Nat, k < 20 ∧ IntKind.i64.wrap (Int.tmod (IntKind.u64.wrap pp) 20) = k := few (by omega) (by omega)
      obtain ⟨f, hf, ef⟩ : ∃ k : Nat, k < 14 ∧ IntKind.i64.wrap (Int.tmod (IntKind.u64.wrap fv) 14) = k := few (by omega) (by omega)
      by_cases c3 : K < 3
      · have u1 : decide ((K : Int) < 3) = true := decide_eq_true (by omega)
        have eW : evCallT table 18 200 8 9 [.c (.ptr p 0), .c (.int .i64 (q : Int))] G = some (.c (.int .i64 (findF fs q)), G) := A.find (N := 200) (d := 4) q (by omega)
        have eR : evCallT table 18 200 8 10 [.c (.ptr p 0)] G = some (.c (.int .i64 (o.length : Int)), G) := free_ok (N := 200) (d := 6) A.ar
        obtain ⟨z, M1, G1, eT, A1, x1, _⟩ : ∃ y M' h', evCallT table 18 200 8 11 [.c (.ptr p 0), .c (.int .i64 (q : Int))] G = some (.c (.int .i64 (takeF fs o q y).1), h') ∧ AH h' p a (takeF fs o q y).2.1 (takeF fs o q y).2.2 M' ∧ ExtB (own p a) G h' ∧ _ := A.take (N := 200) (d := 3) (q : Int) (by omega)
        obtain ⟨a1, ha⟩ : ∃ b, b = a := ⟨_, rfl⟩
        have y1 : ∀ k ∈ own p a1, k ∈ own p a ∨ G.next ≤ k := fun _ h => .inl (ha ▸ h)
        by_cases h0 : 0 ≤ findF fs q
        · have et : takeF fs o q z = (-1, fs, o) := by unfold takeF; rw [if_pos (.inr (.inr h0))]
          rw [et] at eT A1
          obtain ⟨fs1, hfs⟩ : ∃ b, b = fs := ⟨_, rfl⟩
          obtain ⟨o1, ho⟩ : ∃ b, b = o := ⟨_, rfl⟩
          simp only [← ha, ← hfs, ← ho] at A1
          have u2 : decide (findF fs q ≥ 0) = true := decide_eq_true h0
          have eT' : evCallT table 18 200 8 11 [.c (.ptr p 0), .c (.int .i64 (q : Int))] G = some (.c (.int .i64 (-1)), G1) := eT
          obtain ⟨y, G2, eF, T, x2⟩ : ∃ y h', evCallT table 18 200 8 17 [.c (.ptr p 0)] G1 = some (.c y, h') ∧ Tells G1 h' y fs1 ∧ Ext G1 h' := frames_ok (N := 200) (d := 7) A1.ar A1.sm (by omega)
          have A2 := A1.ext' x2
          obtain ⟨r, ⟨b0, b2, b5, b6, b7, b8, b9, b10, b13, b14, b15, b16, b17, b18, b19, b20, b21, b22, b23, b24, b25, rfl⟩, hr⟩ := loop_any (frLooks (x := .sl bx 0 m (.dy 5)) (i := i) A2 T) rfl
          have e9 : evCallT table 18 200 8 10 [.c (.ptr p 0)] G2 = some (.c (.int .i64 (o1.length : Int)), G2) := free_ok (N := 200) (d := 6) A2.ar
          rw [A1.free] at e9
          have ly := T.len
          have sm := A1.sm
          have v9 : decide ((fs1.length : Int) > 32) = false := decide_eq_false (by omega)
          simp only [enter_eq, ev_seq, seqK_norm, seqK_exit, seqK_ret, ev_reg, ev_cond, condK_true, condK_false, ev_block, blockK_norm, blockK_ret, blockK_exit, ev_loop, ev_skip, ev_exit, ev_ret, regK_cons, regK_nil, guard_none, guard_some, regG_true, regG_false, regO_some, op_mov, op_conv, op_bin, op_bsl, op_box, op_mks, op_s2b, op_pick, op_un, op_eq, op_len, op_ext, op_load, op_iaddr, op_slice, op_b2s, op_idxS, op_mx, op_mn, op_call, op_store, op_app, op_copy, args_eq, result_one', rv_loc, finish_norm, finish_ret, outK_some, keep_true, keep_false, keep_nil, p_bin, p_pick, p_un, p_eq, p_conv, evNew, pureK_some, newK_some, X.eval, set_none, set_some, List.map_cons, List.map_nil, List.getD_cons_zero, List.getD_cons_succ, List.getD_nil, List.set_cons_zero, List.set_cons_succ, binCV, unCV, isShift, intArithF_eq, shiftF_eq, wrapF_eq, intArith, shift, eqVal, bound, asNat_cast, cond_true, cond_false, BEq.rfl, beq_self_eq_true, evalParts, fillParts, AV.cells, AV.ofCells, XV.av, AV.xv, List.length_cons, List.length_nil, zeros, patch, setMany, List.nil_append, List.cons_append, Nat.ble, Nat.add_eq, Nat.zero_add, Nat.add_zero, Nat.reduceAdd, Nat.reduceMul, Nat.reduceSub, Nat.ble_eq, Nat.reduceLeDiff, Nat.reduceBEq, Int.reduceBEq, Int.reduceNeg, Bool.and_true, Bool.and_false, Bool.true_and, Bool.false_and, Bool.not_true, Bool.not_false, Bool.true_eq_false, Bool.false_eq_true, Int.reduceLT, Int.reduceLE, Int.reduceGT, Int.reduceGE, decide_true, decide_false, Bool.not_eq_true, loopN_norm, loopN_exit, tf, ft, ff, ev_dreg, dregK_nil, dregK_cons, dregE_true, dregP_some, dregX_some, d_mov, d_bin, d_eq, d_pick, d_un, d_conv, d_b2s, d_len, d_load, d_iaddr, d_slice, d_ext, d_call, d_store, chk_done, chk_none, chk_some, chkG_true, chkG_false, chkOne_nil, chkOne_cons, chkH_some, chkV_same, stage_none, stage_some, look_hit, look_miss, news_nil, wb_cons, wb_nil, skip0, List.reverse_cons, List.reverse_nil, lx, v1, v3, m1, p_iaddr, d_faddr, d_nilchk, op_faddr, p_faddr, p_load, AV.ofCells, r0, r1, r2, ek, ep, ef, bneI, u1, eW, eR, eT', u2, eF]
          rw [hr _ rfl]
          simp only [enter_eq, ev_seq, seqK_norm, seqK_exit, seqK_ret, ev_reg, ev_cond, condK_true, condK_false, ev_block, blockK_norm, blockK_ret, blockK_exit, ev_loop, ev_skip, ev_exit, ev_ret, regK_cons, regK_nil, guard_none, guard_some, regG_true, regG_false, regO_some, op_mov, op_conv, op_bin, op_bsl, op_box, op_mks, op_s2b, op_pick, op_un, op_eq, op_len, op_ext, op_load, op_iaddr, op_slice, op_b2s, op_idxS, op_mx, op_mn, op_call, op_store, op_app, op_copy, args_eq, result_one', rv_loc, finish_norm, finish_ret, outK_some, keep_true, keep_false, keep_nil, p_bin, p_pick, p_un, p_eq, p_conv, evNew, pureK_some, newK_some, X.eval, set_none, set_some, List.map_cons, List.map_nil, List.getD_cons_zero, List.getD_cons_succ, List.getD_nil, List.set_cons_zero, List.set_cons_succ, binCV, unCV, isShift, intArithF_eq, shiftF_eq, wrapF_eq, intArith, shift, eqVal, bound, asNat_cast, cond_true, cond_false, BEq.rfl, beq_self_eq_true, evalParts, fillParts, AV.cells, AV.ofCells, XV.av, AV.xv, List.length_cons, List.length_nil, zeros, patch, setMany, List.nil_append, List.cons_append, Nat.ble, Nat.add_eq, Nat.zero_add, Nat.add_zero, Nat.reduceAdd, Nat.reduceMul, Nat.reduceSub, Nat.ble_eq, Nat.reduceLeDiff, Nat.reduceBEq, Int.reduceBEq, Int.reduceNeg, Bool.and_true, Bool.and_false, Bool.true_and, Bool.false_and, Bool.not_true, Bool.not_false, Bool.true_eq_false, Bool.false_eq_true, Int.reduceLT, Int.reduceLE, Int.reduceGT, Int.reduceGE, decide_true, decide_false, Bool.not_eq_true, loopN_norm, loopN_exit, tf, ft, ff, ev_dreg, dregK_nil, dregK_cons, dregE_true, dregP_some, dregX_some, d_mov, d_bin, d_eq, d_pick, d_un, d_conv, d_b2s, d_len, d_load, d_iaddr, d_slice, d_ext, d_call, d_store, chk_done, chk_none, chk_some, chkG_true, chkG_false, chkOne_nil, chkOne_cons, chkH_some, chkV_same, stage_none, stage_some, look_hit, look_miss, news_nil, wb_cons, wb_nil, skip0, List.reverse_cons, List.reverse_nil, blockK_exit_eq, e9, ly, v9, v2, bneI, eqq]
          exact ⟨_, _, rfl, by omega, ⟨a1, fs1, o1, M1, A2, fun k hk => (y1 k hk).elim (yg k) fun h' => by have := xg.1; omega⟩, (xg.own x1 yg).trans x2, rfl⟩
        · have u2 : decide (findF fs q ≥ 0) = false := decide_eq_false (by omega)
          cases o with
          | nil =>
            have et : takeF fs [] q z = (-1, fs, []) := by unfold takeF; rw [if_neg (by omega)]
            rw [et] at eT A1
            obtain ⟨fs1, hfs⟩ : ∃ b, b = fs := ⟨_, rfl⟩
            obtain ⟨o1, ho⟩ : ∃ b : List Int, b = [] := ⟨_, rfl⟩
            simp only [← ha, ← hfs, ← ho] at A1
            have eT' : evCallT table 18 200 8 11 [.c (.ptr p 0), .c (.int .i64 (q : Int))] G = some (.c (.int .i64 (-1)), G1) := eT
            have eR' : evCallT table 18 200 8 10 [.c (.ptr p 0)] G = some (.c (.int .i64 0), G) := eR
            obtain ⟨y, G2, eF, T, x2⟩ : ∃ y h', evCallT table 18 200 8 17 [.c (.ptr p 0)] G1 = some (.c y, h') ∧ Tells G1 h' y fs1 ∧ Ext G1 h' := frames_ok (N := 200) (d := 7) A1.ar A1.sm (by omega)
            have A2 := A1.ext' x2
            obtain ⟨r, ⟨b0, b2, b5, b6, b7, b8, b9, b10, b13, b14, b15, b16, b17, b18, b19, b20, b21, b22, b23, b24, b25, rfl⟩, hr⟩ := loop_any (frLooks (x := .sl bx 0 m (.dy 5)) (i := i) A2 T) rfl
            have e9 : evCallT table 18 200 8 10 [.c (.ptr p 0)] G2 = some (.c (.int .i64 (o1.length : Int)), G2) := free_ok (N := 200) (d := 6) A2.ar
            rw [A1.free] at e9
            have ly := T.len
            have sm := A1.sm
            have v9 : decide ((fs1.length : Int) > 32) = false := decide_eq_false (by omega)
            simp only [enter_eq, ev_seq, seqK_norm, seqK_exit, seqK_ret, ev_reg, ev_cond, condK_true, condK_false, ev_block, blockK_norm, blockK_ret, blockK_exit, ev_loop, ev_skip, ev_exit, ev_ret, regK_cons, regK_nil, guard_none, guard_some, regG_true, regG_false, regO_some, op_mov, op_conv, op_bin, op_bsl, op_box, op_mks, op_s2b, op_pick, op_un, op_eq, op_len, op_ext, op_load, op_iaddr, op_slice, op_b2s, op_idxS, op_mx, op_mn, op_call, op_store, op_app, op_copy, args_eq, result_one', rv_loc, finish_norm, finish_ret, outK_some, keep_true, keep_false, keep_nil, p_bin, p_pick, p_un, p_eq, p_conv, evNew, pureK_some, newK_some, X.eval, set_none, set_some, List.map_cons, List.map_nil, List.getD_cons_zero, List.getD_cons_succ, List.getD_nil, List.set_cons_zero, List.set_cons_succ, binCV, unCV, isShift, intArithF_eq, shiftF_eq, wrapF_eq, intArith, shift, eqVal, bound, asNat_cast, cond_true, cond_false, BEq.rfl, beq_self_eq_true, evalParts, fillParts, AV.cells, AV.ofCells, XV.av, AV.xv, List.length_cons, List.length_nil, zeros, patch, setMany, List.nil_append, List.cons_append, Nat.ble, Nat.add_eq, Nat.zero_add, Nat.add_zero, Nat.reduceAdd, Nat.reduceMul, Nat.reduceSub, Nat.ble_eq, Nat.reduceLeDiff, Nat.reduceBEq, Int.reduceBEq, Int.reduceNeg, Bool.and_true, Bool.and_false, Bool.true_and, Bool.false_and, Bool.not_true, Bool.not_false, Bool.true_eq_false, Bool.false_eq_true, Int.reduceLT, Int.reduceLE, Int.reduceGT, Int.reduceGE, decide_true, decide_false, Bool.not_eq_true, loopN_norm, loopN_exit, tf, ft, ff, ev_dreg, dregK_nil, dregK_cons, dregE_true, dregP_some, dregX_some, d_mov, d_bin, d_eq, d_pick, d_un, d_conv, d_b2s, d_len, d_load, d_iaddr, d_slice, d_ext, d_call, d_store, chk_done, chk_none, chk_some, chkG_true, chkG_false, chkOne_nil, chkOne_cons, chkH_some, chkV_same, stage_none, stage_some, look_hit, look_miss, news_nil, wb_cons, wb_nil, skip0, List.reverse_cons, List.reverse_nil, lx, v1, v3, m1, p_iaddr, d_faddr, d_nilchk, op_faddr, p_faddr, p_load, AV.ofCells, r0, r1, r2, ek, ep, ef, bneI, u1, eW, eR', eT', u2, eF]
            rw [hr _ rfl]
            simp only [enter_eq, ev_seq, seqK_norm, seqK_exit, seqK_ret, ev_reg, ev_cond, condK_true, condK_false, ev_block, blockK_norm, blockK_ret, blockK_exit, ev_loop, ev_skip, ev_exit, ev_ret, regK_cons, regK_nil, guard_none, guard_some, regG_true, regG_false, regO_some, op_mov, op_conv, op_bin, op_bsl, op_box, op_mks, op_s2b, op_pick, op_un, op_eq, op_len, op_ext, op_load, op_iaddr, op_slice, op_b2s, op_idxS, op_mx, op_mn, op_call, op_store, op_app, op_copy, args_eq, result_one', rv_loc, finish_norm, finish_ret, outK_some, keep_true, keep_false, keep_nil, p_bin, p_pick, p_un, p_eq, p_conv, evNew, pureK_some, newK_some, X.eval, set_none, set_some, List.map_cons, List.map_nil, List.getD_cons_zero, List.getD_cons_succ, List.getD_nil, List.set_cons_zero, List.set_cons_succ, binCV, unCV, isShift, intArithF_eq, shiftF_eq, wrapF_eq, intArith, shift, eqVal, bound, asNat_cast, cond_true, cond_false, BEq.rfl, beq_self_eq_true, evalParts, fillParts, AV.cells, AV.ofCells, XV.av, AV.xv, List.length_cons, List.length_nil, zeros, patch, setMany, List.nil_append, List.cons_append, Nat.ble, Nat.add_eq, Nat.zero_add, Nat.add_zero, Nat.reduceAdd, Nat.reduceMul, Nat.reduceSub, Nat.ble_eq, Nat.reduceLeDiff, Nat.reduceBEq, Int.reduceBEq, Int.reduceNeg, Bool.and_true, Bool.and_false, Bool.true_and, Bool.false_and, Bool.not_true, Bool.not_false, Bool.true_eq_false, Bool.false_eq_true, Int.reduceLT, Int.reduceLE, Int.reduceGT, Int.reduceGE, decide_true, decide_false, Bool.not_eq_true, loopN_norm, loopN_exit, tf, ft, ff, ev_dreg, dregK_nil, dregK_cons, dregE_true, dregP_some, dregX_some, d_mov, d_bin, d_eq, d_pick, d_un, d_conv, d_b2s, d_len, d_load, d_iaddr, d_slice, d_ext, d_call, d_store, chk_done, chk_none, chk_some, chkG_true, chkG_false, chkOne_nil, chkOne_cons, chkH_some, chkV_same, stage_none, stage_some, look_hit, look_miss, news_nil, wb_cons, wb_nil, skip0, List.reverse_cons, List.reverse_nil, blockK_exit_eq, e9, ly, v9, v2, bneI, eqq]
            exact ⟨_, _, rfl, by omega, ⟨a1, fs1, o1, M1, A2, fun k hk => (y1 k hk).elim (yg k) fun h' => by have := xg.1; omega⟩, (xg.own x1 yg).trans x2, rfl⟩
          | cons f0 o1 =>
            obtain ⟨j, hj, rfl, hj0⟩ := A.fo.lt (x := f0) (by simp)
            have et : takeF fs ((j : Int) :: o1) q z = ((j : Int), fs.set j ⟨1, q, 0, false, z⟩, o1) := by unfold takeF; rw [if_neg (by omega)]; simp only [Int.toNat_natCast]
            rw [et] at eT A1
            obtain ⟨fs1, hfs⟩ : ∃ b, b = fs.set j ⟨1, q, 0, false, z⟩ := ⟨_, rfl⟩
            simp only [← ha, ← hfs] at A1
            have eT' : evCallT table 18 200 8 11 [.c (.ptr p 0), .c (.int .i64 (q : Int))] G = some (.c (.int .i64 (j : Int)), G1) := eT
            have eR' : evCallT table 18 200 8 10 [.c (.ptr p 0)] G = some (.c (.int .i64 ((o1.length + 1 : Nat) : Int)), G) := eR
            have eW1 : evCallT table 18 200 8 9 [.c (.ptr p 0), .c (.int .i64 (q : Int))] G1 = some (.c (.int .i64 (findF fs1 q)), G1) := A1.find (N := 200) (d := 4) q (by omega)
            have hl1 : j < fs1.length := by rw [hfs, List.length_set]; exact hj
            have hg1 : fs1[j] = ⟨1, q, 0, false, z⟩ := by simp [hfs]
            have ew : findF fs1 q = (j : Int) := by
              have h2 := A1.fm.one hl1 (by rw [hg1]) (q := q) (by rw [hg1])
              have h3 := findF_eq A1.fm q
              rw [h2] at h3
              rw [← h3]; rfl
            rw [ew] at eW1
            have u3 : (((o1.length + 1 : Nat) : Int) == 0) = false := by simp only [beq_eq_false_iff_ne, ne_eq]; omega
            have u4 : decide ((j : Int) < 0) = false := decide_eq_false (by omega)
            have u5 : decide ((j : Int) ≥ 0) = true := decide_eq_true (by omega)
            obtain ⟨y, G2, eF, T, x2⟩ : ∃ y h', evCallT table 18 200 8 17 [.c (.ptr p 0)] G1 = some (.c y, h') ∧ Tells G1 h' y fs1 ∧ Ext G1 h' := frames_ok (N := 200) (d := 7) A1.ar A1.sm (by omega)
            have A2 := A1.ext' x2
            obtain ⟨r, ⟨b0, b2, b5, b6, b7, b8, b9, b10, b13, b14, b15, b16, b17, b18, b19, b20, b21, b22, b23, b24, b25, rfl⟩, hr⟩ := loop_any (frLooks (x := .sl bx 0 m (.dy 5)) (i := i) A2 T) rfl
            have e9 : evCallT table 18 200 8 10 [.c (.ptr p 0)] G2 = some (.c (.int .i64 (o1.length : Int)), G2) := free_ok (N := 200) (d := 6) A2.ar
            rw [A1.free] at e9
            have ly := T.len
            have sm := A1.sm
            have v9 : decide ((fs1.length : Int) > 32) = false := decide_eq_false (by omega)
            simp only [enter_eq, ev_seq, seqK_norm, seqK_exit, seqK_ret, ev_reg, ev_cond, condK_true, condK_false, ev_block, blockK_norm, blockK_ret, blockK_exit, ev_loop, ev_skip, ev_exit, ev_ret, regK_cons, regK_nil, guard_none, guard_some, regG_true, regG_false, regO_some, op_mov, op_conv, op_bin, op_bsl, op_box, op_mks, op_s2b, op_pick, op_un, op_eq, op_len, op_ext, op_load, op_iaddr, op_slice, op_b2s, op_idxS, op_mx, op_mn, op_call, op_store, op_app, op_copy, args_eq, result_one', rv_loc, finish_norm, finish_ret, outK_some, keep_true, keep_false, keep_nil, p_bin, p_pick, p_un, p_eq, p_conv, evNew, pureK_some, newK_some, X.eval, set_none, set_some, List.map_cons, List.map_nil, List.getD_cons_zero, List.getD_cons_succ, List.getD_nil, List.set_cons_zero, List.set_cons_succ, binCV, unCV, isShift, intArithF_eq, shiftF_eq, wrapF_eq, intArith, shift, eqVal, bound, asNat_cast, cond_true, cond_false, BEq.rfl, beq_self_eq_true, evalParts, fillParts, AV.cells, AV.ofCells, XV.av, AV.xv, List.length_cons, List.length_nil, zeros, patch, setMany, List.nil_append, List.cons_append, Nat.ble, Nat.add_eq, Nat.zero_add, Nat.add_zero, Nat.reduceAdd, Nat.reduceMul, Nat.reduceSub, Nat.ble_eq, Nat.reduceLeDiff, Nat.reduceBEq, Int.reduceBEq, Int.reduceNeg, Bool.and_true, Bool.and_false, Bool.true_and, Bool.false_and, Bool.not_true, Bool.not_false, Bool.true_eq_false, Bool.false_eq_true, Int.reduceLT, Int.reduceLE, Int.reduceGT, Int.reduceGE, decide_true, decide_false, Bool.not_eq_true, loopN_norm, loopN_exit, tf, ft, ff, ev_dreg, dregK_nil, dregK_cons, dregE_true, dregP_some, dregX_some, d_mov, d_bin, d_eq, d_pick, d_un, d_conv, d_b2s, d_len, d_load, d_iaddr, d_slice, d_ext, d_call, d_store, chk_done, chk_none, chk_some, chkG_true, chkG_false, chkOne_nil, chkOne_cons, chkH_some, chkV_same, stage_none, stage_some, look_hit, look_miss, news_nil, wb_cons, wb_nil, skip0, List.reverse_cons, List.reverse_nil, lx, v1, v3, m1, p_iaddr, d_faddr, d_nilchk, op_faddr, p_faddr, p_load, AV.ofCells, r0, r1, r2, ek, ep, ef, bneI, u1, eW, eR', eT', u2, u3, u4, u5, eW1, eqq, eF]
            rw [hr _ rfl]
            simp only [enter_eq, ev_seq, seqK_norm, seqK_exit, seqK_ret, ev_reg, ev_cond, condK_true, condK_false, ev_block, blockK_norm, blockK_ret, blockK_exit, ev_loop, ev_skip, ev_exit, ev_ret, regK_cons, regK_nil, guard_none, guard_some, regG_true, regG_false, regO_some, op_mov, op_conv, op_bin, op_bsl, op_box, op_mks, op_s2b, op_pick, op_un, op_eq, op_len, op_ext, op_load, op_iaddr, op_slice, op_b2s, op_idxS, op_mx, op_mn, op_call, op_store, op_app, op_copy, args_eq, result_one', rv_loc, finish_norm, finish_ret, outK_some, keep_true, keep_false, keep_nil, p_bin, p_pick, p_un, p_eq, p_conv, evNew, pureK_some, newK_some, X.eval, set_none, set_some, List.map_cons, List.map_nil, List.getD_cons_zero, List.getD_cons_succ, List.getD_nil, List.set_cons_zero, List.set_cons_succ, binCV, unCV, isShift, intArithF_eq, shiftF_eq, wrapF_eq, intArith, shift, eqVal, bound, asNat_cast, cond_true, cond_false, BEq.rfl, beq_self_eq_true, evalParts, fillParts, AV.cells, AV.ofCells, XV.av, AV.xv, List.length_cons, List.length_nil, zeros, patch, setMany, List.nil_append, List.cons_append, Nat.ble, Nat.add_eq, Nat.zero_add, Nat.add_zero, Nat.reduceAdd, Nat.reduceMul, Nat.reduceSub, Nat.ble_eq, Nat.reduceLeDiff, Nat.reduceBEq, Int.reduceBEq, Int.reduceNeg, Bool.and_true, Bool.and_false, Bool.true_and, Bool.false_and, Bool.not_true, Bool.not_false, Bool.true_eq_false, Bool.false_eq_true, Int.reduceLT, Int.reduceLE, Int.reduceGT, Int.reduceGE, decide_true, decide_false, Bool.not_eq_true, loopN_norm, loopN_exit, tf, ft, ff, ev_dreg, dregK_nil, dregK_cons, dregE_true, dregP_some, dregX_some, d_mov, d_bin, d_eq, d_pick, d_un, d_conv, d_b2s, d_len, d_load, d_iaddr, d_slice, d_ext, d_call, d_store, chk_done, chk_none, chk_some, chkG_true, chkG_false, chkOne_nil, chkOne_cons, chkH_some, chkV_same, stage_none, stage_some, look_hit, look_miss, news_nil, wb_cons, wb_nil, skip0, List.reverse_cons, List.reverse_nil, blockK_exit_eq, e9, ly, v9, v2, bneI, eqq]
            exact ⟨_, _, rfl, by omega, ⟨a1, fs1, o1, M1, A2, fun k hk => (y1 k hk).elim (yg k) fun h' => by have := xg.1; omega⟩, (xg.own x1 yg).trans x2, rfl⟩
      have u1 : decide ((K : Int) < 3) = false := decide_eq_false (by omega)
      by_cases c4 : K = 3
      · subst c4
        have ek : Int.tmod (IntKind.i64.wrap (Int.tmod kd 8 + 8)) 8 = (3 : Int) := ek
        obtain ⟨G1, eO, A1, x1⟩ := A.pin (N := 200) (d := 6) (f : Int)
        obtain ⟨fs1, hfs⟩ : ∃ b, b = (pinF fs f).2 := ⟨_, rfl⟩
        obtain ⟨o1, ho⟩ : ∃ b, b = o := ⟨_, rfl⟩
        obtain ⟨M1, hM⟩ : ∃ b, b = M := ⟨_, rfl⟩
        obtain ⟨a1, ha⟩ : ∃ b, b = a := ⟨_, rfl⟩
        rw [← hfs, ← ho, ← hM, ← ha] at A1
        have y1 : ∀ k ∈ own p a1, k ∈ own p a ∨ G.next ≤ k := fun _ h => .inl (ha ▸ h)
        obtain ⟨y, G2, eF, T, x2⟩ : ∃ y h', evCallT table 18 200 8 17 [.c (.ptr p 0)] G1 = some (.c y, h') ∧ Tells G1 h' y fs1 ∧ Ext G1 h' := frames_ok (N := 200) (d := 7) A1.ar A1.sm (by omega)
        have A2 := A1.ext' x2
        obtain ⟨r, ⟨b0, b2, b5, b6, b7, b8, b9, b10, b13, b14, b15, b16, b17, b18, b19, b20, b21, b22, b23, b24, b25, rfl⟩, hr⟩ := loop_any (frLooks (x := .sl bx 0 m (.dy 5)) (i := i) A2 T) rfl
        have e9 : evCallT table 18 200 8 10 [.c (.ptr p 0)] G2 = some (.c (.int .i64 (o1.length : Int)), G2) := free_ok (N := 200) (d := 6) A2.ar
        rw [A1.free] at e9
        have ly := T.len
        have sm := A1.sm
        have v9 : decide ((fs1.length : Int) > 32) = false := decide_eq_false (by omega)
        simp only [enter_eq, ev_seq, seqK_norm, seqK_exit, seqK_ret, ev_reg, ev_cond, condK_true, condK_false, ev_block, blockK_norm, blockK_ret, blockK_exit, ev_loop, ev_skip, ev_exit, ev_ret, regK_cons, regK_nil, guard_none, guard_some, regG_true, regG_false, regO_some, op_mov, op_conv, op_bin, op_bsl, op_box, op_mks, op_s2b, op_pick, op_un, op_eq, op_len, op_ext, op_load, op_iaddr, op_slice, op_b2s, op_idxS, op_mx, op_mn, op_call, op_store, op_app, op_copy, args_eq, result_one', rv_loc, finish_norm, finish_ret, outK_some, keep_true, keep_false, keep_nil, p_bin, p_pick, p_un, p_eq, p_conv, evNew, pureK_some, newK_some, X.eval, set_none, set_some, List.map_cons, List.map_nil, List.getD_cons_zero, List.getD_cons_succ, List.getD_nil, List.set_cons_zero, List.set_cons_succ, binCV, unCV, isShift, intArithF_eq, shiftF_eq, wrapF_eq, intArith, shift, eqVal, bound, asNat_cast, cond_true, cond_false, BEq.rfl, beq_self_eq_true, evalParts, fillParts, AV.cells, AV.ofCells, XV.av, AV.xv, List.length_cons, List.length_nil, zeros, patch, setMany, List.nil_append, List.cons_append, Nat.ble, Nat.add_eq, Nat.zero_add, Nat.add_zero, Nat.reduceAdd, Nat.reduceMul, Nat.reduceSub, Nat.ble_eq, Nat.reduceLeDiff, Nat.reduceBEq, Int.reduceBEq, Int.reduceNeg, Bool.and_true, Bool.and_false, Bool.true_and, Bool.false_and, Bool.not_true, Bool.not_false, Bool.true_eq_false, Bool.false_eq_true, Int.reduceLT, Int.reduceLE, Int.reduceGT, Int.reduceGE, decide_true, decide_false, Bool.not_eq_true, loopN_norm, loopN_exit, tf, ft, ff, ev_dreg, dregK_nil, dregK_cons, dregE_true, dregP_some, dregX_some, d_mov, d_bin, d_eq, d_pick, d_un, d_conv, d_b2s, d_len, d_load, d_iaddr, d_slice, d_ext, d_call, d_store, chk_done, chk_none, chk_some, chkG_true, chkG_false, chkOne_nil, chkOne_cons, chkH_some, chkV_same, stage_none, stage_some, look_hit, look_miss, news_nil, wb_cons, wb_nil, skip0, List.reverse_cons, List.reverse_nil, lx, v1, v3, m1, p_iaddr, d_faddr, d_nilchk, op_faddr, p_faddr, p_load, AV.ofCells, r0, r1, r2, ek, ep, ef, bneI, eO, eF]
        rw [hr _ rfl]
        simp only [enter_eq, ev_seq, seqK_norm, seqK_exit, seqK_ret, ev_reg, ev_cond, condK_true, condK_false, ev_block, blockK_norm, blockK_ret, blockK_exit, ev_loop, ev_skip, ev_exit, ev_ret, regK_cons, regK_nil, guard_none, guard_some, regG_true, regG_false, regO_some, op_mov, op_conv, op_bin, op_bsl, op_box, op_mks, op_s2b, op_pick, op_un, op_eq, op_len, op_ext, op_load, op_iaddr, op_slice, op_b2s, op_idxS, op_mx, op_mn, op_call, op_store, op_app, op_copy, args_eq, result_one', rv_loc, finish_norm, finish_ret, outK_some, keep_true, keep_false, keep_nil, p_bin, p_pick, p_un, p_eq, p_conv, evNew, pureK_some, newK_some, X.eval, set_none, set_some, List.map_cons, List.map_nil, List.getD_cons_zero, List.getD_cons_succ, List.getD_nil, List.set_cons_zero, List.set_cons_succ, binCV, unCV, isShift, intArithF_eq, shiftF_eq, wrapF_eq, intArith, shift, eqVal, bound, asNat_cast, cond_true, cond_false, BEq.rfl, beq_self_eq_true, evalParts, fillParts, AV.cells, AV.ofCells, XV.av, AV.xv, List.length_cons, List.length_nil, zeros, patch, setMany, List.nil_append, List.cons_append, Nat.ble, Nat.add_eq, Nat.zero_add, Nat.add_zero, Nat.reduceAdd, Nat.reduceMul, Nat.reduceSub, Nat.ble_eq, Nat.reduceLeDiff, Nat.reduceBEq, Int.reduceBEq, Int.reduceNeg, Bool.and_true, Bool.and_false, Bool.true_and, Bool.false_and, Bool.not_true, Bool.not_false, Bool.true_eq_false, Bool.false_eq_true, Int.reduceLT, Int.reduceLE, Int.reduceGT, Int.reduceGE, decide_true, decide_false, Bool.not_eq_true, loopN_norm, loopN_exit, tf, ft, ff, ev_dreg, dregK_nil, dregK_cons, dregE_true, dregP_some, dregX_some, d_mov, d_bin, d_eq, d_pick, d_un, d_conv, d_b2s, d_len, d_load, d_iaddr, d_slice, d_ext, d_call, d_store, chk_done, chk_none, chk_some, chkG_true, chkG_false, chkOne_nil, chkOne_cons, chkH_some, chkV_same, stage_none, stage_some, look_hit, look_miss, news_nil, wb_cons, wb_nil, skip0, List.reverse_cons, List.reverse_nil, blockK_exit_eq, e9, ly, v9, v2, bneI, eqq]
        exact ⟨_, _, rfl, by omega, ⟨a1, fs1, o1, M1, A2, fun k hk => (y1 k hk).elim (yg k) fun h' => by have := xg.1; omega⟩, (xg.own x1 yg).trans x2, rfl⟩
      by_cases c5 : K = 4
      · subst c5
        have ek : Int.tmod (IntKind.i64.wrap (Int.tmod kd 8 + 8)) 8 = (4 : Int) := ek
        obtain ⟨G1, eO, A1, x1⟩ := A.unpin (N := 200) (d := 6) (f : Int)
        obtain ⟨fs1, hfs⟩ : ∃ b, b = (unpinF fs f).2 := ⟨_, rfl⟩
        obtain ⟨o1, ho⟩ : ∃ b, b = o := ⟨_, rfl⟩
        obtain ⟨M1, hM⟩ : ∃ b, b = M := ⟨_, rfl⟩
        obtain ⟨a1, ha⟩ : ∃ b, b = a := ⟨_, rfl⟩
        rw [← hfs, ← ho, ← hM, ← ha] at A1
        have y1 : ∀ k ∈ own p a1, k ∈ own p a ∨ G.next ≤ k := fun _ h => .inl (ha ▸ h)
        obtain ⟨y, G2, eF, T, x2⟩ : ∃ y h', evCallT table 18 200 8 17 [.c (.ptr p 0)] G1 = some (.c y, h') ∧ Tells G1 h' y fs1 ∧ Ext G1 h' := frames_ok (N := 200) (d := 7) A1.ar A1.sm (by omega)
        have A2 := A1.ext' x2
        obtain ⟨r, ⟨b0, b2, b5, b6, b7, b8, b9, b10, b13, b14, b15, b16, b17, b18, b19, b20, b21, b22, b23, b24, b25, rfl⟩, hr⟩ := loop_any (frLooks (x := .sl bx 0 m (.dy 5)) (i := i) A2 T) rfl
        have e9 : evCallT table 18 200 8 10 [.c (.ptr p 0)] G2 = some (.c (.int .i64 (o1.length : Int)), G2) := free_ok (N := 200) (d := 6) A2.ar
        rw [A1.free] at e9
        have ly := T.len
        have sm := A1.sm
        have v9 : decide ((fs1.length : Int) > 32) = false := decide_eq_false (by omega)
        simp only [enter_eq, ev_seq, seqK_norm, seqK_exit, seqK_ret, ev_reg, ev_cond, condK_true, condK_false, ev_block, blockK_norm, blockK_ret, blockK_exit, ev_loop, ev_skip, ev_exit, ev_ret, regK_cons, regK_nil, guard_none, guard_some, regG_true, regG_false, regO_some, op_mov, op_conv, op_bin, op_bsl, op_box, op_mks, op_s2b, op_pick, op_un, op_eq, op_len, op_ext, op_load, op_iaddr, op_slice, op_b2s, op_idxS, op_mx, op_mn, op_call, op_store, op_app, op_copy, args_eq, result_one', rv_loc, finish_norm, finish_ret, outK_some, keep_true, keep_false, keep_nil, p_bin, p_pick, p_un, p_eq, p_conv, evNew, pureK_some, newK_some, X.eval, set_none, set_some, List.map_cons, List.map_nil, List.getD_cons_zero, List.getD_cons_succ, List.getD_nil, List.set_cons_zero, List.set_cons_succ, binCV, unCV, isShift, intArithF_eq, shiftF_eq, wrapF_eq, intArith, shift, eqVal, bound, asNat_cast, cond_true, cond_false, BEq.rfl, beq_self_eq_true, evalParts, fillParts, AV.cells, AV.ofCells, XV.av, AV.xv, List.length_cons, List.length_nil, zeros, patch, setMany, List.nil_append, List.cons_append, Nat.ble, Nat.add_eq, Nat.zero_add, Nat.add_zero, Nat.reduceAdd, Nat.reduceMul, Nat.reduceSub, Nat.ble_eq, Nat.reduceLeDiff, Nat.reduceBEq, Int.reduceBEq, Int.reduceNeg, Bool.and_true, Bool.and_false, Bool.true_and, Bool.false_and, Bool.not_true, Bool.not_false, Bool.true_eq_false, Bool.false_eq_true, Int.reduceLT, Int.reduceLE, Int.reduceGT, Int.reduceGE, decide_true, decide_false, Bool.not_eq_true, loopN_norm, loopN_exit, tf, ft, ff, ev_dreg, dregK_nil, dregK_cons, dregE_true, dregP_some, dregX_some, d_mov, d_bin, d_eq, d_pick, d_un, d_conv, d_b2s, d_len, d_load, d_iaddr, d_slice, d_ext, d_call, d_store, chk_done, chk_none, chk_some, chkG_true, chkG_false, chkOne_nil, chkOne_cons, chkH_some, chkV_same, stage_none, stage_some, look_hit, look_miss, news_nil, wb_cons, wb_nil, skip0, List.reverse_cons, List.reverse_nil, lx, v1, v3, m1, p_iaddr, d_faddr, d_nilchk, op_faddr, p_faddr, p_load, AV.ofCells, r0, r1, r2, ek, ep, ef, bneI, eO, eF]
        rw [hr _ rfl]
        simp only [enter_eq, ev_seq, seqK_norm, seqK_exit, seqK_ret, ev_reg, ev_cond, condK_true, condK_false, ev_block, blockK_norm, blockK_ret, blockK_exit, ev_loop, ev_skip, ev_exit, ev_ret, regK_cons, regK_nil, guard_none, guard_some, regG_true, regG_false, regO_some, op_mov, op_conv, op_bin, op_bsl, op_box, op_mks, op_s2b, op_pick, op_un, op_eq, op_len, op_ext, op_load, op_iaddr, op_slice, op_b2s, op_idxS, op_mx, op_mn, op_call, op_store, op_app, op_copy, args_eq, result_one', rv_loc, finish_norm, finish_ret, outK_some, keep_true, keep_false, keep_nil, p_bin, p_pick, p_un, p_eq, p_conv, evNew, pureK_some, newK_some, X.eval, set_none, set_some, List.map_cons, List.map_nil, List.getD_cons_zero, List.getD_cons_succ, List.getD_nil, List.set_cons_zero, List.set_cons_succ, binCV, unCV, isShift, intArithF_eq, shiftF_eq, wrapF_eq, intArith, shift, eqVal, bound, asNat_cast, cond_true, cond_false, BEq.rfl, beq_self_eq_true, evalParts, fillParts, AV.cells, AV.ofCells, XV.av, AV.xv, List.length_cons, List.length_nil, zeros, patch, setMany, List.nil_append, List.cons_append, Nat.ble, Nat.add_eq, Nat.zero_add, Nat.add_zero, Nat.reduceAdd, Nat.reduceMul, Nat.reduceSub, Nat.ble_eq, Nat.reduceLeDiff, Nat.reduceBEq, Int.reduceBEq, Int.reduceNeg, Bool.and_true, Bool.and_false, Bool.true_and, Bool.false_and, Bool.not_true, Bool.not_false, Bool.true_eq_false, Bool.false_eq_true, Int.reduceLT, Int.reduceLE, Int.reduceGT, Int.reduceGE, decide_true, decide_false, Bool.not_eq_true, loopN_norm, loopN_exit, tf, ft, ff, ev_dreg, dregK_nil, dregK_cons, dregE_true, dregP_some, dregX_some, d_mov, d_bin, d_eq, d_pick, d_un, d_conv, d_b2s, d_len, d_load, d_iaddr, d_slice, d_ext, d_call, d_store, chk_done, chk_none, chk_some, chkG_true, chkG_false, chkOne_nil, chkOne_cons, chkH_some, chkV_same, stage_none, stage_some, look_hit, look_miss, news_nil, wb_cons, wb_nil, skip0, List.reverse_cons, List.reverse_nil, blockK_exit_eq, e9, ly, v9, v2, bneI, eqq]
        exact ⟨_, _, rfl, by omega, ⟨a1, fs1, o1, M1, A2, fun k hk => (y1 k hk).elim (yg k) fun h' => by have := xg.1; omega⟩, (xg.own x1 yg).trans x2, rfl⟩
      by_cases c6 : K = 5
      · subst c6
        have ek : Int.tmod (IntKind.i64.wrap (Int.tmod kd 8 + 8)) 8 = (5 : Int) := ek
        obtain ⟨M1, G1, eO, A1, x1⟩ := A.drop (N := 200) (d := 4) (f : Int) (by omega)
        obtain ⟨fs1, hfs⟩ : ∃ b, b = (dropF fs o f).2.1 := ⟨_, rfl⟩
        obtain ⟨o1, ho⟩ : ∃ b, b = (dropF fs o f).2.2 := ⟨_, rfl⟩
        obtain ⟨a1, ha⟩ : ∃ b, b = a := ⟨_, rfl⟩
        rw [← hfs, ← ho, ← ha] at A1
        have y1 : ∀ k ∈ own p a1, k ∈ own p a ∨ G.next ≤ k := fun _ h => .inl (ha ▸ h)
        obtain ⟨y, G2, eF, T, x2⟩ : ∃ y h', evCallT table 18 200 8 17 [.c (.ptr p 0)] G1 = some (.c y, h') ∧ Tells G1 h' y fs1 ∧ Ext G1 h' := frames_ok (N := 200) (d := 7) A1.ar A1.sm (by omega)
        have A2 := A1.ext' x2
        obtain ⟨r, ⟨b0, b2, b5, b6, b7, b8, b9, b10, b13, b14, b15, b16, b17, b18, b19, b20, b21, b22, b23, b24, b25, rfl⟩, hr⟩ := loop_any (frLooks (x := .sl bx 0 m (.dy 5)) (i := i) A2 T) rfl
        have e9 : evCallT table 18 200 8 10 [.c (.ptr p 0)] G2 = some (.c (.int .i64 (o1.length : Int)), G2) := free_ok (N := 200) (d := 6) A2.ar
        rw [A1.free] at e9
        have ly := T.len
        have sm := A1.sm
        have v9 : decide ((fs1.length : Int) > 32) = false := decide_eq_false (by omega)
        simp only [enter_eq, ev_seq, seqK_norm, seqK_exit, seqK_ret, ev_reg, ev_cond, condK_true, condK_false, ev_block, blockK_norm, blockK_ret, blockK_exit, ev_loop, ev_skip, ev_exit, ev_ret, regK_cons, regK_nil, guard_none, guard_some, regG_true, regG_false, regO_some, op_mov, op_conv, op_bin, op_bsl, op_box, op_mks, op_s2b, op_pick, op_un, op_eq, op_len, op_ext, op_load, op_iaddr, op_slice, op_b2s, op_idxS, op_mx, op_mn, op_call, op_store, op_app, op_copy, args_eq, result_one', rv_loc, finish_norm, finish_ret, outK_some, keep_true, keep_false, keep_nil, p_bin, p_pick, p_un, p_eq, p_conv, evNew, pureK_some, newK_some, X.eval, set_none, set_some, List.map_cons, List.map_nil, List.getD_cons_zero, List.getD_cons_succ, List.getD_nil, List.set_cons_zero, List.set_cons_succ, binCV, unCV, isShift, intArithF_eq, shiftF_eq, wrapF_eq, intArith, shift, eqVal, bound, asNat_cast, cond_true, cond_false, BEq.rfl, beq_self_eq_true, evalParts, fillParts, AV.cells, AV.ofCells, XV.av, AV.xv, List.length_cons, List.length_nil, zeros, patch, setMany, List.nil_append, List.cons_append, Nat.ble, Nat.add_eq, Nat.zero_add, Nat.add_zero, Nat.reduceAdd, Nat.reduceMul, Nat.reduceSub, Nat.ble_eq, Nat.reduceLeDiff, Nat.reduceBEq, Int.reduceBEq, Int.reduceNeg, Bool.and_true, Bool.and_false, Bool.true_and, Bool.false_and, Bool.not_true, Bool.not_false, Bool.true_eq_false, Bool.false_eq_true, Int.reduceLT, Int.reduceLE, Int.reduceGT, Int.reduceGE, decide_true, decide_false, Bool.not_eq_true, loopN_norm, loopN_exit, tf, ft, ff, ev_dreg, dregK_nil, dregK_cons, dregE_true, dregP_some, dregX_some, d_mov, d_bin, d_eq, d_pick, d_un, d_conv, d_b2s, d_len, d_load, d_iaddr, d_slice, d_ext, d_call, d_store, chk_done, chk_none, chk_some, chkG_true, chkG_false, chkOne_nil, chkOne_cons, chkH_some, chkV_same, stage_none, stage_some, look_hit, look_miss, news_nil, wb_cons, wb_nil, skip0, List.reverse_cons, List.reverse_nil, lx, v1, v3, m1, p_iaddr, d_faddr, d_nilchk, op_faddr, p_faddr, p_load, AV.ofCells, r0, r1, r2, ek, ep, ef, bneI, eO, eF]
        rw [hr _ rfl]
        simp only [enter_eq, ev_seq, seqK_norm, seqK_exit, seqK_ret, ev_reg, ev_cond, condK_true, condK_false, ev_block, blockK_norm, blockK_ret, blockK_exit, ev_loop, ev_skip, ev_exit, ev_ret, regK_cons, regK_nil, guard_none, guard_some, regG_true, regG_false, regO_some, op_mov, op_conv, op_bin, op_bsl, op_box, op_mks, op_s2b, op_pick, op_un, op_eq, op_len, op_ext, op_load, op_iaddr, op_slice, op_b2s, op_idxS, op_mx, op_mn, op_call, op_store, op_app, op_copy, args_eq, result_one', rv_loc, finish_norm, finish_ret, outK_some, keep_true, keep_false, keep_nil, p_bin, p_pick, p_un, p_eq, p_conv, evNew, pureK_some, newK_some, X.eval, set_none, set_some, List.map_cons, List.map_nil, List.getD_cons_zero, List.getD_cons_succ, List.getD_nil, List.set_cons_zero, List.set_cons_succ, binCV, unCV, isShift, intArithF_eq, shiftF_eq, wrapF_eq, intArith, shift, eqVal, bound, asNat_cast, cond_true, cond_false, BEq.rfl, beq_self_eq_true, evalParts, fillParts, AV.cells, AV.ofCells, XV.av, AV.xv, List.length_cons, List.length_nil, zeros, patch, setMany, List.nil_append, List.cons_append, Nat.ble, Nat.add_eq, Nat.zero_add, Nat.add_zero, Nat.reduceAdd, Nat.reduceMul, Nat.reduceSub, Nat.ble_eq, Nat.reduceLeDiff, Nat.reduceBEq, Int.reduceBEq, Int.reduceNeg, Bool.and_true, Bool.and_false, Bool.true_and, Bool.false_and, Bool.not_true, Bool.not_false, Bool.true_eq_false, Bool.false_eq_true, Int.reduceLT, Int.reduceLE, Int.reduceGT, Int.reduceGE, decide_true, decide_false, Bool.not_eq_true, loopN_norm, loopN_exit, tf, ft, ff, ev_dreg, dregK_nil, dregK_cons, dregE_true, dregP_some, dregX_some, d_mov, d_bin, d_eq, d_pick, d_un, d_conv, d_b2s, d_len, d_load, d_iaddr, d_slice, d_ext, d_call, d_store, chk_done, chk_none, chk_some, chkG_true, chkG_false, chkOne_nil, chkOne_cons, chkH_some, chkV_same, stage_none, stage_some, look_hit, look_miss, news_nil, wb_cons, wb_nil, skip0, List.reverse_cons, List.reverse_nil, blockK_exit_eq, e9, ly, v9, v2, bneI, eqq]
        exact ⟨_, _, rfl, by omega, ⟨a1, fs1, o1, M1, A2, fun k hk => (y1 k hk).elim (yg k) fun h' => by have := xg.1; omega⟩, (xg.own x1 yg).trans x2, rfl⟩
      by_cases c7 : K = 6
      · subst c7
        have ek : Int.tmod (IntKind.i64.wrap (Int.tmod kd 8 + 8)) 8 = (6 : Int) := ek
        obtain ⟨a1, G1, eO, A1, x1, y1⟩ := A.add (N := 200) (d := 5) (by omega)
        obtain ⟨fs1, hfs⟩ : ∃ b, b = (addF fs o).2.1 := ⟨_, rfl⟩
        obtain ⟨o1, ho⟩ : ∃ b, b = (addF fs o).2.2 := ⟨_, rfl⟩
        obtain ⟨M1, hM⟩ : ∃ b, b = M := ⟨_, rfl⟩
        rw [← hfs, ← ho, ← hM] at A1
        obtain ⟨y, G2, eF, T, x2⟩ : ∃ y h', evCallT table 18 200 8 17 [.c (.ptr p 0)] G1 = some (.c y, h') ∧ Tells G1 h' y fs1 ∧ Ext G1 h' := frames_ok (N := 200) (d := 7) A1.ar A1.sm (by omega)
        have A2 := A1.ext' x2
        obtain ⟨r, ⟨b0, b2, b5, b6, b7, b8, b9, b10, b13, b14, b15, b16, b17, b18, b19, b20, b21, b22, b23, b24, b25, rfl⟩, hr⟩ := loop_any (frLooks (x := .sl bx 0 m (.dy 5)) (i := i) A2 T) rfl
        have e9 : evCallT table 18 200 8 10 [.c (.ptr p 0)] G2 = some (.c (.int .i64 (o1.length : Int)), G2) := free_ok (N := 200) (d := 6) A2.ar
        rw [A1.free] at e9
        have ly := T.len
        have sm := A1.sm
        have v9 : decide ((fs1.length : Int) > 32) = false := decide_eq_false (by omega)
        simp only [enter_eq, ev_seq, seqK_norm, seqK_exit, seqK_ret, ev_reg, ev_cond, condK_true, condK_false, ev_block, blockK_norm, blockK_ret, blockK_exit, ev_loop, ev_skip, ev_exit, ev_ret, regK_cons, regK_nil, guard_none, guard_some, regG_true, regG_false, regO_some, op_mov, op_conv, op_bin, op_bsl, op_box, op_mks, op_s2b, op_pick, op_un, op_eq, op_len, op_ext, op_load, op_iaddr, op_slice, op_b2s, op_idxS, op_mx, op_mn, op_call, op_store, op_app, op_copy, args_eq, result_one', rv_loc, finish_norm, finish_ret, outK_some, keep_true, keep_false, keep_nil, p_bin, p_pick, p_un, p_eq, p_conv, evNew, pureK_some, newK_some, X.eval, set_none, set_some, List.map_cons, List.map_nil, List.getD_cons_zero, List.getD_cons_succ, List.getD_nil, List.set_cons_zero, List.set_cons_succ, binCV, unCV, isShift, intArithF_eq, shiftF_eq, wrapF_eq, intArith, shift, eqVal, bound, asNat_cast, cond_true, cond_false, BEq.rfl, beq_self_eq_true, evalParts, fillParts, AV.cells, AV.ofCells, XV.av, AV.xv, List.length_cons, List.length_nil, zeros, patch, setMany, List.nil_append, List.cons_append, Nat.ble, Nat.add_eq, Nat.zero_add, Nat.add_zero, Nat.reduceAdd, Nat.reduceMul, Nat.reduceSub, Nat.ble_eq, Nat.reduceLeDiff, Nat.reduceBEq, Int.reduceBEq, Int.reduceNeg, Bool.and_true, Bool.and_false, Bool.true_and, Bool.false_and, Bool.not_true, Bool.not_false, Bool.true_eq_false, Bool.false_eq_true, Int.reduceLT, Int.reduceLE, Int.reduceGT, Int.reduceGE, decide_true, decide_false, Bool.not_eq_true, loopN_norm, loopN_exit, tf, ft, ff, ev_dreg, dregK_nil, dregK_cons, dregE_true, dregP_some, dregX_some, d_mov, d_bin, d_eq, d_pick, d_un, d_conv, d_b2s, d_len, d_load, d_iaddr, d_slice, d_ext, d_call, d_store, chk_done, chk_none, chk_some, chkG_true, chkG_false, chkOne_nil, chkOne_cons, chkH_some, chkV_same, stage_none, stage_some, look_hit, look_miss, news_nil, wb_cons, wb_nil, skip0, List.reverse_cons, List.reverse_nil, lx, v1, v3, m1, p_iaddr, d_faddr, d_nilchk, op_faddr, p_faddr, p_load, AV.ofCells, r0, r1, r2, ek, ep, ef, bneI, eO, eF]
        rw [hr _ rfl]
        simp only [enter_eq, ev_seq, seqK_norm, seqK_exit, seqK_ret, ev_reg, ev_cond, condK_true, condK_false, ev_block, blockK_norm, blockK_ret, blockK_exit, ev_loop, ev_skip, ev_exit, ev_ret, regK_cons, regK_nil, guard_none, guard_some, regG_true, regG_false, regO_some, op_mov, op_conv, op_bin, op_bsl, op_box, op_mks, op_s2b, op_pick, op_un, op_eq, op_len, op_ext, op_load, op_iaddr, op_slice, op_b2s, op_idxS, op_mx, op_mn, op_call, op_store, op_app, op_copy, args_eq, result_one', rv_loc, finish_norm, finish_ret, outK_some, keep_true, keep_false, keep_nil, p_bin, p_pick, p_un, p_eq, p_conv, evNew, pureK_some, newK_some, X.eval, set_none, set_some, List.map_cons, List.map_nil, List.getD_cons_zero, List.getD_cons_succ, List.getD_nil, List.set_cons_zero, List.set_cons_succ, binCV, unCV, isShift, intArithF_eq, shiftF_eq, wrapF_eq, intArith, shift, eqVal, bound, asNat_cast, cond_true, cond_false, BEq.rfl, beq_self_eq_true, evalParts, fillParts, AV.cells, AV.ofCells, XV.av, AV.xv, List.length_cons, List.length_nil, zeros, patch, setMany, List.nil_append, List.cons_append, Nat.ble, Nat.add_eq, Nat.zero_add, Nat.add_zero, Nat.reduceAdd, Nat.reduceMul, Nat.reduceSub, Nat.ble_eq, Nat.reduceLeDiff, Nat.reduceBEq, Int.reduceBEq, Int.reduceNeg, Bool.and_true, Bool.and_false, Bool.true_and, Bool.false_and, Bool.not_true, Bool.not_false, Bool.true_eq_false, Bool.false_eq_true, Int.reduceLT, Int.reduceLE, Int.reduceGT, Int.reduceGE, decide_true, decide_false, Bool.not_eq_true, loopN_norm, loopN_exit, tf, ft, ff, ev_dreg, dregK_nil, dregK_cons, dregE_true, dregP_some, dregX_some, d_mov, d_bin, d_eq, d_pick, d_un, d_conv, d_b2s, d_len, d_load, d_iaddr, d_slice, d_ext, d_call, d_store, chk_done, chk_none, chk_some, chkG_true, chkG_false, chkOne_nil, chkOne_cons, chkH_some, chkV_same, stage_none, stage_some, look_hit, look_miss, news_nil, wb_cons, wb_nil, skip0, List.reverse_cons, List.reverse_nil, blockK_exit_eq, e9, ly, v9, v2, bneI, eqq]
        exact ⟨_, _, rfl, by omega, ⟨a1, fs1, o1, M1, A2, fun k hk => (y1 k hk).elim (yg k) fun h' => by have := xg.1; omega⟩, (xg.own x1 yg).trans x2, rfl⟩
      by_cases c8 : K = 7
      · subst c8
        have ek : Int.tmod (IntKind.i64.wrap (Int.tmod kd 8 + 8)) 8 = (7 : Int) := ek
        obtain ⟨G1, eO, A1, x1⟩ := A.retire (N := 200) (d := 5)
        obtain ⟨fs1, hfs⟩ : ∃ b, b = (retireF fs o).2.1 := ⟨_, rfl⟩
        obtain ⟨o1, ho⟩ : ∃ b, b = (retireF fs o).2.2 := ⟨_, rfl⟩
        obtain ⟨M1, hM⟩ : ∃ b, b = M := ⟨_, rfl⟩
        obtain ⟨a1, ha⟩ : ∃ b, b = a := ⟨_, rfl⟩
        rw [← hfs, ← ho, ← hM, ← ha] at A1
        have y1 : ∀ k ∈ own p a1, k ∈ own p a ∨ G.next ≤ k := fun _ h => .inl (ha ▸ h)
        obtain ⟨y, G2, eF, T, x2⟩ : ∃ y h', evCallT table 18 200 8 17 [.c (.ptr p 0)] G1 = some (.c y, h') ∧ Tells G1 h' y fs1 ∧ Ext G1 h' := frames_ok (N := 200) (d := 7) A1.ar A1.sm (by omega)
        have A2 := A1.ext' x2
        obtain ⟨r, ⟨b0, b2, b5, b6, b7, b8, b9, b10, b13, b14, b15, b16, b17, b18, b19, b20, b21, b22, b23, b24, b25, rfl⟩, hr⟩ := loop_any (frLooks (x := .sl bx 0 m (.dy 5)) (i := i) A2 T) rfl
        have e9 : evCallT table 18 200 8 10 [.c (.ptr p 0)] G2 = some (.c (.int .i64 (o1.length : Int)), G2) := free_ok (N := 200) (d := 6) A2.ar
        rw [A1.free] at e9
        have ly := T.len
        have sm := A1.sm
        have v9 : decide ((fs1.length : Int) > 32) = false := decide_eq_false (by omega)
        simp only [enter_eq, ev_seq, seqK_norm, seqK_exit, seqK_ret, ev_reg, ev_cond, condK_true, condK_false, ev_block, blockK_norm, blockK_ret, blockK_exit, ev_loop, ev_skip, ev_exit, ev_ret, regK_cons, regK_nil, guard_none, guard_some, regG_true, regG_false, regO_some, op_mov, op_conv, op_bin, op_bsl, op_box, op_mks, op_s2b, op_pick, op_un, op_eq, op_len, op_ext, op_load, op_iaddr, op_slice, op_b2s, op_idxS, op_mx, op_mn, op_call, op_store, op_app, op_copy, args_eq, result_one', rv_loc, finish_norm, finish_ret, outK_some, keep_true, keep_false, keep_nil, p_bin, p_pick, p_un, p_eq, p_conv, evNew, pureK_some, newK_some, X.eval, set_none, set_some, List.map_cons, List.map_nil, List.getD_cons_zero, List.getD_cons_succ, List.getD_nil, List.set_cons_zero, List.set_cons_succ, binCV, unCV, isShift, intArithF_eq, shiftF_eq, wrapF_eq, intArith, shift, eqVal, bound, asNat_cast, cond_true, cond_false, BEq.rfl, beq_self_eq_true, evalParts, fillParts, AV.cells, AV.ofCells, XV.av, AV.xv, List.length_cons, List.length_nil, zeros, patch, setMany, List.nil_append, List.cons_append, Nat.ble, Nat.add_eq, Nat.zero_add, Nat.add_zero, Nat.reduceAdd, Nat.reduceMul, Nat.reduceSub, Nat.ble_eq, Nat.reduceLeDiff, Nat.reduceBEq, Int.reduceBEq, Int.reduceNeg, Bool.and_true, Bool.and_false, Bool.true_and, Bool.false_and, Bool.not_true, Bool.not_false, Bool.true_eq_false, Bool.false_eq_true, Int.reduceLT, Int.reduceLE, Int.reduceGT, Int.reduceGE, decide_true, decide_false, Bool.not_eq_true, loopN_norm, loopN_exit, tf, ft, ff, ev_dreg, dregK_nil, dregK_cons, dregE_true, dregP_some, dregX_some, d_mov, d_bin, d_eq, d_pick, d_un, d_conv, d_b2s, d_len, d_load, d_iaddr, d_slice, d_ext, d_call, d_store, chk_done, chk_none, chk_some, chkG_true, chkG_false, chkOne_nil, chkOne_cons, chkH_some, chkV_same, stage_none, stage_some, look_hit, look_miss, news_nil, wb_cons, wb_nil, skip0, List.reverse_cons, List.reverse_nil, lx, v1, v3, m1, p_iaddr, d_faddr, d_nilchk, op_faddr, p_faddr, p_load, AV.ofCells, r0, r1, r2, ek, ep, ef, bneI, eO, eF]
        rw [hr _ rfl]
        simp only [enter_eq, ev_seq, seqK_norm, seqK_exit, seqK_ret, ev_reg, ev_cond, condK_true, condK_false, ev_block, blockK_norm, blockK_ret, blockK_exit, ev_loop, ev_skip, ev_exit, ev_ret, regK_cons, regK_nil, guard_none, guard_some, regG_true, regG_false, regO_some, op_mov, op_conv, op_bin, op_bsl, op_box, op_mks, op_s2b, op_pick, op_un, op_eq, op_len, op_ext, op_load, op_iaddr, op_slice, op_b2s, op_idxS, op_mx, op_mn, op_call, op_store, op_app, op_copy, args_eq, result_one', rv_loc, finish_norm, finish_ret, outK_some, keep_true, keep_false, keep_nil, p_bin, p_pick, p_un, p_eq, p_conv, evNew, pureK_some, newK_some, X.eval, set_none, set_some, List.map_cons, List.map_nil, List.getD_cons_zero, List.getD_cons_succ, List.getD_nil, List.set_cons_zero, List.set_cons_succ, binCV, unCV, isShift, intArithF_eq, shiftF_eq, wrapF_eq, intArith, shift, eqVal, bound, asNat_cast, cond_true, cond_false, BEq.rfl, beq_self_eq_true, evalParts, fillParts, AV.cells, AV.ofCells, XV.av, AV.xv, List.length_cons, List.length_nil, zeros, patch, setMany, List.nil_append, List.cons_append, Nat.ble, Nat.add_eq, Nat.zero_add, Nat.add_zero, Nat.reduceAdd, Nat.reduceMul, Nat.reduceSub, Nat.ble_eq, Nat.reduceLeDiff, Nat.reduceBEq, Int.reduceBEq, Int.reduceNeg, Bool.and_true, Bool.and_false, Bool.true_and, Bool.false_and, Bool.not_true, Bool.not_false, Bool.true_eq_false, Bool.false_eq_true, Int.reduceLT, Int.reduceLE, Int.reduceGT, Int.reduceGE, decide_true, decide_false, Bool.not_eq_true, loopN_norm, loopN_exit, tf, ft, ff, ev_dreg, dregK_nil, dregK_cons, dregE_true, dregP_some, dregX_some, d_mov, d_bin, d_eq, d_pick, d_un, d_conv, d_b2s, d_len, d_load, d_iaddr, d_slice, d_ext, d_call, d_store, chk_done, chk_none, chk_some, chkG_true, chkG_false, chkOne_nil, chkOne_cons, chkH_some, chkV_same, stage_none, stage_some, look_hit, look_miss, news_nil, wb_cons, wb_nil, skip0, List.reverse_cons, List.reverse_nil, blockK_exit_eq, e9, ly, v9, v2, bneI, eqq]
        exact ⟨_, _, rfl, by omega, ⟨a1, fs1, o1, M1, A2, fun k hk => (y1 k hk).elim (yg k) fun h' => by have := xg.1; omega⟩, (xg.own x1 yg).trans x2, rfl⟩
      · omega
    · right
      have v2 : decide ((i : Int) < (m : Int)) = true ∧ decide ((i : Int) < 100) = false ∨ decide ((i : Int) < (m : Int)) = false := by
        by_cases h : i < m
        · exact .inl ⟨ltNat h, decide_eq_false (by omega)⟩
        · exact .inr (geNat (by omega))
      rcases v2 with ⟨v1, v2⟩ | v1
      · simp only [enter_eq, ev_seq, seqK_norm, seqK_exit, seqK_ret, ev_reg, ev_cond, condK_true, condK_false, ev_block, blockK_norm, blockK_ret, blockK_exit, ev_loop, ev_skip, ev_exit, ev_ret, regK_cons, regK_nil, guard_none, guard_some, regG_true, regG_false, regO_some, op_mov, op_conv, op_bin, op_bsl, op_box, op_mks, op_s2b, op_pick, op_un, op_eq, op_len, op_ext, op_load, op_iaddr, op_slice, op_b2s, op_idxS, op_mx, op_mn, op_call, op_store, op_app, op_copy, args_eq, result_one', rv_loc, finish_norm, finish_ret, outK_some, keep_true, keep_false, keep_nil, p_bin, p_pick, p_un, p_eq, p_conv, evNew, pureK_some, newK_some, X.eval, set_none, set_some, List.map_cons, List.map_nil, List.getD_cons_zero, List.getD_cons_succ, List.getD_nil, List.set_cons_zero, List.set_cons_succ, binCV, unCV, isShift, intArithF_eq, shiftF_eq, wrapF_eq, intArith, shift, eqVal, bound, asNat_cast, cond_true, cond_false, BEq.rfl, beq_self_eq_true, evalParts, fillParts, AV.cells, AV.ofCells, XV.av, AV.xv, List.length_cons, List.length_nil, zeros, patch, setMany, List.nil_append, List.cons_append, Nat.ble, Nat.add_eq, Nat.zero_add, Nat.add_zero, Nat.reduceAdd, Nat.reduceMul, Nat.reduceSub, Nat.ble_eq, Nat.reduceLeDiff, Nat.reduceBEq, Int.reduceBEq, Int.reduceNeg, Bool.and_true, Bool.and_false, Bool.true_and, Bool.false_and, Bool.not_true, Bool.not_false, Bool.true_eq_false, Bool.false_eq_true, Int.reduceLT, Int.reduceLE, Int.reduceGT, Int.reduceGE, decide_true, decide_false, Bool.not_eq_true, loopN_norm, loopN_exit, tf, ft, ff, lx, v1, v2]
        exact ⟨_, rfl, by simp, _, _, _, _, _, rfl⟩
      · simp only [enter_eq, ev_seq, seqK_norm, seqK_exit, seqK_ret, ev_reg, ev_cond, condK_true, condK_false, ev_block, blockK_norm, blockK_ret, blockK_exit, ev_loop, ev_skip, ev_exit, ev_ret, regK_cons, regK_nil, guard_none, guard_some, regG_true, regG_false, regO_some, op_mov, op_conv, op_bin, op_bsl, op_box, op_mks, op_s2b, op_pick, op_un, op_eq, op_len, op_ext, op_load, op_iaddr, op_slice, op_b2s, op_idxS, op_mx, op_mn, op_call, op_store, op_app, op_copy, args_eq, result_one', rv_loc, finish_norm, finish_ret, outK_some, keep_true, keep_false, keep_nil, p_bin, p_pick, p_un, p_eq, p_conv, evNew, pureK_some, newK_some, X.eval, set_none, set_some, List.map_cons, List.map_nil, List.getD_cons_zero, List.getD_cons_succ, List.getD_nil, List.set_cons_zero, List.set_cons_succ, binCV, unCV, isShift, intArithF_eq, shiftF_eq, wrapF_eq, intArith, shift, eqVal, bound, asNat_cast, cond_true, cond_false, BEq.rfl, beq_self_eq_true, evalParts, fillParts, AV.cells, AV.ofCells, XV.av, AV.xv, List.length_cons, List.length_nil, zeros, patch, setMany, List.nil_append, List.cons_append, Nat.ble, Nat.add_eq, Nat.zero_add, Nat.add_zero, Nat.reduceAdd, Nat.reduceMul, Nat.reduceSub, Nat.ble_eq, Nat.reduceLeDiff, Nat.reduceBEq, Int.reduceBEq, Int.reduceNeg, Bool.and_true, Bool.and_false, Bool.true_and, Bool.false_and, Bool.not_true, Bool.not_false, Bool.true_eq_false, Bool.false_eq_true, Int.reduceLT, Int.reduceLE, Int.reduceGT, Int.reduceGE, decide_true, decide_false, Bool.not_eq_true, loopN_norm, loopN_exit, tf, ft, ff, lx, v1]
        exact ⟨_, rfl, by simp, _, _, _, _, _, rfl⟩
  obtain ⟨r, ⟨a0, a1, a2, l, G, rfl⟩, hr⟩ := loop_any L rfl
  rw [evCallT_eq (F := ir3) rfl rfl rfl]
  unfold ir3
  rw [bodyK_eq]
  simp only [enter_eq, ev_seq, seqK_norm, seqK_exit, seqK_ret, ev_reg, ev_cond, condK_true, condK_false, ev_block, blockK_norm, blockK_ret, blockK_exit, ev_loop, ev_skip, ev_exit, ev_ret, regK_cons, regK_nil, guard_none, guard_some, regG_true, regG_false, regO_some, op_mov, op_conv, op_bin, op_bsl, op_box, op_mks, op_s2b, op_pick, op_un, op_eq, op_len, op_ext, op_load, op_iaddr, op_slice, op_b2s, op_idxS, op_mx, op_mn, op_call, op_store, op_app, op_copy, args_eq, result_one', rv_loc, finish_norm, finish_ret, outK_some, keep_true, keep_false, keep_nil, p_bin, p_pick, p_un, p_eq, p_conv, evNew, pureK_some, newK_some, X.eval, set_none, set_some, List.map_cons, List.map_nil, List.getD_cons_zero, List.getD_cons_succ, List.getD_nil, List.set_cons_zero, List.set_cons_succ, binCV, unCV, isShift, intArithF_eq, shiftF_eq, wrapF_eq, intArith, shift, eqVal, bound, asNat_cast, cond_true, cond_false, BEq.rfl, beq_self_eq_true, evalParts, fillParts, AV.cells, AV.ofCells, XV.av, AV.xv, List.length_cons, List.length_nil, zeros, patch, setMany, List.nil_append, List.cons_append, Nat.ble, Nat.add_eq, Nat.zero_add, Nat.add_zero, Nat.reduceAdd, Nat.reduceMul, Nat.reduceSub, Nat.ble_eq, Nat.reduceLeDiff, Nat.reduceBEq, Int.reduceBEq, Int.reduceNeg, Bool.and_true, Bool.and_false, Bool.true_and, Bool.false_and, Bool.not_true, Bool.not_false, Bool.true_eq_false, Bool.false_eq_true, Int.reduceLT, Int.reduceLE, Int.reduceGT, Int.reduceGE, decide_true, decide_false, Bool.not_eq_true, loopN_norm, loopN_exit, tf, ft, ff, e1, e4]
  rw [hr _ rfl]
  simp only [enter_eq, ev_seq, seqK_norm, seqK_exit, seqK_ret, ev_reg, ev_cond, condK_true, condK_false, ev_block, blockK_norm, blockK_ret, blockK_exit, ev_loop, ev_skip, ev_exit, ev_ret, regK_cons, regK_nil, guard_none, guard_some, regG_true, regG_false, regO_some, op_mov, op_conv, op_bin, op_bsl, op_box, op_mks, op_s2b, op_pick, op_un, op_eq, op_len, op_ext, op_load, op_iaddr, op_slice, op_b2s, op_idxS, op_mx, op_mn, op_call, op_store, op_app, op_copy, args_eq, result_one', rv_loc, finish_norm, finish_ret, outK_some, keep_true, keep_false, keep_nil, p_bin, p_pick, p_un, p_eq, p_conv, evNew, pureK_some, newK_some, X.eval, set_none, set_some, List.map_cons, List.map_nil, List.getD_cons_zero, List.getD_cons_succ, List.getD_nil, List.set_cons_zero, List.set_cons_succ, binCV, unCV, isShift, intArithF_eq, shiftF_eq, wrapF_eq, intArith, shift, eqVal, bound, asNat_cast, cond_true, cond_false, BEq.rfl, beq_self_eq_true, evalParts, fillParts, AV.cells, AV.ofCells, XV.av, AV.xv, List.length_cons, List.length_nil, zeros, patch, setMany, List.nil_append, List.cons_append, Nat.ble, Nat.add_eq, Nat.zero_add, Nat.add_zero, Nat.reduceAdd, Nat.reduceMul, Nat.reduceSub, Nat.ble_eq, Nat.reduceLeDiff, Nat.reduceBEq, Int.reduceBEq, Int.reduceNeg, Bool.and_true, Bool.and_false, Bool.true_and, Bool.false_and, Bool.not_true, Bool.not_false, Bool.true_eq_false, Bool.false_eq_true, Int.reduceLT, Int.reduceLE, Int.reduceGT, Int.reduceGE, decide_true, decide_false, Bool.not_eq_true, loopN_norm, loopN_exit, tf, ft, ff, blockK_exit_eq, evCallT_told]
  rfl
end Lav

namespace Go.Proofs.Ytdilhnnbfkiacaa.arenaStates
open Go.ChangeShapes Go.WideShapes Go.ChangeAt Go.RowKit
open Go.ChangeMaps (open_string shut_string)
set_option linter.unusedVariables false

theorem own : ownKnob Try.prog.godebug = none := by kernel_rfl
theorem laidOut : laidOutB Try.prog = true := by kernel_rfl

/-- What the walk is told of a slice of ints that came in. -/
def IsRow (k : IntKind) (w : World) (a : Option Addr) (len cap : Nat) (zs : List Int) : Prop :=
  (a = none ∧ len = 0 ∧ cap = 0 ∧ zs = []) ∨
  ∃ x, a = some x ∧ len ≤ cap ∧ cap ≤ maxLen ∧ zs.length = cap ∧ (∀ i, i < zs.length → w.cell? (x.add i) = some (.int k (zs.getD i 0))) ∧ ∀ n ∈ zs, (Lit.int k n).wf = true

/-- What the walk is told of a slice of records of ints that came in: it is nil; or it leads to a row of 'cap' records, 'sz' cells each. -/
def IsRecs (sz : Nat) (w : World) (a : Option Addr) (len cap : Nat) (zs : List Int) : Prop :=
  (a = none ∧ len = 0 ∧ cap = 0 ∧ zs = []) ∨
  ∃ x, a = some x ∧ len ≤ cap ∧ cap ≤ maxLen ∧ zs.length = cap * sz ∧ (∀ i, i < zs.length → w.cell? (x.add i) = some (.int .i64 (zs.getD i 0))) ∧ ∀ n ∈ zs, (Lit.int .i64 n).wf = true

theorem walk (a0 : Int) (a1 : Option Addr) (len1 cap1 : Nat) (w : World) (w0 : (Lit.int .i64 a0).wf = true) (w1 : Lav.MixIs [.int, .int, .int, .bool, .bytes] w a1 len1 cap1) :
    Calls Try.prog 3 #[.int .i64 a0, .slice a1 len1 cap1] w fun e w' => e = .returned (.bool true) ∧ Below w.heap.size w w' := by
  obtain ⟨ι, h, x, cs, I, hle, _, hx, hr⟩ := (Lav.Init.empty w).mix (by decide) w1
  exact Lav.walk_of (Lav.evCallT_sound Lav.mixed Lav.table_ok Lav.tld10 200 9) I (args := [.c (.int .i64 a0), .c x]) (vs := [.int .i64 a0, .slice a1 len1 cap1]) ⟨rfl, hx, trivial⟩ (Lav.arenaStates a0 hr)

set_option maxRecDepth 100000 in
theorem lifted (os : Os) (started : os.Started) (H : Type) (enc : TypeId × Value → H) :
    ReturnsInHanded {} Try.checked os 3 .any (Rows.arenaStatesSpec.pre6 enc Try.prog Try.f3 Rows.arenaStatesRow.domain false) (Rows.arenaStatesSpec.post enc Try.prog Try.f3 false true false false) := by
  refine returnsInHanded_of_change (C := Try.checked) own started (by kernel_rfl) Try.func3
    (ChangeSpec.witness6 (enc := enc) (C := Try.checked) false ⟨#[], #[.int .i64 0, .slice none 0 0], []⟩ 8 (by kernel_rfl) (by kernel_rfl) (by kernel_rfl) (by kernel_rfl)) ?_
  intro W base args ds gs before hval0 hW hcnd _
  have hval : ∀ (j : Nat) t v, Try.f3.params[j]? = some t → args[j]? = some v → Value.okWide Try.prog W .any base t v := hval0
  have hW' := hW
  obtain ⟨p, q, hA0, hV, rfl, hfz, hnd⟩ := hW
  have hA : DataW.TrodAll enc Try.prog W 0 (fun _ => true) true Try.f3.params.toList args.toList ds p := hA0
  rw [Try.params3] at hA hval
  obtain ⟨v0, vs0, d0, ds0, p0, q0, hargs, rfl, rfl, h0, r0⟩ := trodAll_cons hA
  obtain ⟨v1, vs1, d1, ds1, p1, q1, rfl, rfl, rfl, h1, r1⟩ := trodAll_cons r0
  obtain ⟨rfl, rfl, rfl⟩ := trodAll_nil r1
  obtain rfl : args = #[v0, v1] := by cases args; simp_all
  obtain ⟨rfl, rfl⟩ := trodVars_none hV
  obtain ⟨a0, rfl, rfl, rfl, w0⟩ := open_int Try.underlying3 (hval 0 3 v0 rfl rfl) h0
  obtain ⟨a1, len1, cap1, rfl⟩ := okWide_slice Try.underlying22 (hval 1 22 v1 rfl rfl)
  have k1 := h1
  have lt1 : ∀ x ∈ p1, x.block < W.heap.size := by obtain ⟨m, hm⟩ := k1; exact DataW.trod_lt m _ _ _ hm
  have w1 : Lav.MixIs [.int, .int, .int, .bool, .bytes] W a1 len1 cap1 := by
    obtain ⟨fuel, hf⟩ := h1
    obtain ⟨x, l, c, hcs, hw⟩ := Lav.open_mix (d := 1) (ks := [.int, .int, .int, .bool, .bytes]) Try.underlying22 (by kernel_rfl) (.inr ⟨_, Try.underlying28, by kernel_rfl, by
        intro j k hj
        match j, hj with
        | 0, hj => exact ⟨0, _, 0, [.int], rfl, rfl, by kernel_rfl, hj, (Lav.Flat.int Try.underlying3)⟩
        | 1, hj => exact ⟨1, _, 0, [.int], rfl, rfl, by kernel_rfl, hj, (Lav.Flat.int Try.underlying3)⟩
        | 2, hj => exact ⟨2, _, 0, [.int], rfl, rfl, by kernel_rfl, hj, (Lav.Flat.int Try.underlying3)⟩
        | 3, hj => exact ⟨3, _, 0, [.bool], rfl, rfl, by kernel_rfl, hj, (Lav.Flat.bool Try.underlying4)⟩
        | 4, hj => exact ⟨4, _, 0, [.bytes], rfl, rfl, by kernel_rfl, hj, (Lav.Flat.bytes Try.underlying26 Try.underlying5 (by kernel_rfl))⟩
        | j + 5, hj => cases hj⟩) hf
    simp [Value.cells] at hcs
    obtain ⟨rfl, rfl, rfl⟩ := hcs
    exact hw
  clear hA0 hval0
  refine (walk a0 a1 len1 cap1 W w0 w1).mono fun e W' ⟨he, bel⟩ => ?_
  subst he
  exact ⟨_, rfl, _, _, _, [], _, [], hW', trodAll_mk1 (shut_bool Try.underlying4 _), (trodAll_cons_mk (shut_int Try.underlying3 w0) (trodAll_cons_mk (Below.trod laidOut (by kernel_rfl) (of_decide_eq_true (by kernel_rfl)) k1 bel lt1) trodAll_mk0)), rfl, bel.frame _, fun h => by cases h⟩

theorem over : Rows.arenaStatesRow.holds Try.pinned (OpenSpec.ofChange Rows.arenaStatesSpec) :=
  OpenClaim.holds_of_wide 3 Try.f3 rfl rfl rfl rfl rfl rfl rfl ⟨rfl, rfl, rfl, rfl, rfl⟩ rfl rfl rfl rfl rfl (by kernel_rfl) Try.func3 (by kernel_rfl)
    (of_decide_eq_true (by kernel_rfl)) (by unfold Func.isWrapper; first | (rw [if_pos (by decide +kernel)]; kernel_rfl) | (rw [if_neg (by decide +kernel)]; exact ⟨rfl, rfl⟩))
    (fun os started H enc _ => lifted os started H enc)

theorem proved : Rows.ArenaStatesSaid := over
end Go.Proofs.Ytdilhnnbfkiacaa.arenaStates
