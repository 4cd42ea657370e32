/-
  Proved: whatever number and order come in, lavabolaw10.ArenaQueue returns true and changes nothing that was there. No conditions beyond the given statement's.
-/
import Derived.Test.YtdilhnnbfkiacaaRows
import Derived.Test.YtdilhnnbfkiacaaAre5
import Derived.WalkKit
import Derived.ProofKit
import Derived.OpenShut
import Derived.ShutString
import Derived.ChangeOld
import Derived.Below
set_option maxRecDepth 100000
set_option linter.unusedSimpArgs false
namespace Lav
open Go (IntKind)
theorem few' {a : Int} {k : Nat} (h0 : 0 < k) (hk : k < 100000) : ∃ f : Nat, f < k ∧ IntKind.i64.wrap (Int.tmod (IntKind.u64.wrap a) (k : Int)) = f := few h0 hk
theorem findF_no {fs : List Fm} {k : Int} (h : ∀ (i : Nat) (f : Fm), fs[i]? = some f → f.st = 1 → f.pg ≠ k) : findF fs k = -1 := by
  unfold findF
  cases hf : fs.findIdx? (fun f => f.st == 1 && f.pg == k) with
  | none => rfl
  | some i =>
    obtain ⟨hi, hp, _⟩ := List.findIdx?_eq_some_iff_getElem.1 hf
    rw [Bool.and_eq_true] at hp
    exact absurd (eq_of_beq hp.2) (h i fs[i] (List.getElem?_eq_getElem hi) (eq_of_beq hp.1))
/-- Used frames have these pages and no pins. -/
def Pages (fs : List Fm) (P : Int → Prop) : Prop := ∀ (i : Nat) (f : Fm), fs[i]? = some f → f.st = 1 → f.pn = 0 ∧ P f.pg
theorem Pages.set {fs : List Fm} {P Q : Int → Prop} (h : Pages fs P) (hPQ : ∀ x, P x → Q x) {i : Nat} (hi : i < fs.length) {g : Fm} (hg : g.st = 1 → g.pn = 0 ∧ Q g.pg) : Pages (fs.set i g) Q := by
  intro j f hf h1
  rcases (set_at hi).1 hf with ⟨_, rfl⟩ | ⟨_, h'⟩
  · exact hg h1
  · exact ⟨(h j f h' h1).1, hPQ _ (h j f h' h1).2⟩
theorem Pages.rep (n : Nat) (P : Int → Prop) : Pages (List.replicate n frZ) P := by
  intro i f hf h1
  have : f = frZ := List.eq_of_mem_replicate (List.mem_of_getElem? hf)
  subst this
  cases h1
theorem arenaQueue {h : Heap} {x : CV} {xs : List Int} (n : Int) (hx : Ints h x xs) : good (evCallT table 18 200 9 5 [.c (.int .i64 n), .c x] h) = true := by
  obtain ⟨k0, hk0, e1⟩ : ∃ k : Nat, k < 16 ∧ IntKind.i64.wrap (Int.tmod (IntKind.u64.wrap n) 16) = k := few (by omega) (by omega)
  have w1 : IntKind.i64.wrap (1 + (k0 : Int)) = ((k0 + 1 : Nat) : Int) := by rw [wrapI (by omega) (by omega)]; omega
  obtain ⟨k, hk⟩ : ∃ k, k = k0 + 1 := ⟨_, rfl⟩
  rw [← hk] at w1
  obtain ⟨p, a, H0, e4, A0, x0, y0⟩ := new_ar (N := 200) (d := 4) (h := h) k (by omega) (by omega)
  have lx : ∀ loc vals H, evPure loc (.c x :: vals) H (.len .sl (.val 0)) = some (.c (.int .i64 (xs.length : Int))) := fun _ _ _ => hx.len rfl
  have L1 : ∀ loc, keepOnly ir5_k2 loc = [.junk, .c x, .junk, .c (.int .i64 (k : Int)), .c (.ptr p 0), .c (.int .i64 0), .junk, .junk, .junk, .junk, .junk, .junk, .junk, .junk, .junk, .junk, .junk, .junk] →
      ∃ r, loopK (evCallT table 18 200 8) 200 ir5_k2 ir5_l2 200 loc H0 = some r ∧ ∃ a0 a2 a5 a6 a7 a8 a9 a10 a11 a12 a13 a14 a15 a16 a17 G fs M, r = (.exit 0, [a0, .c x, a2, .c (.int .i64 (k : Int)), .c (.ptr p 0), a5, a6, a7, a8, a9, a10, a11, a12, a13, a14, a15, a16, a17], G) ∧ AH G p a fs [] M ∧ fs.length = k ∧ Pages fs (fun q => 0 ≤ q ∧ q < 16) ∧ Ext h G := by
    intro loc hloc
    refine loop_inv (n := k) (fun i loc G => i ≤ k ∧ (∃ fs M, AH G p a fs ((ints k).drop i) M ∧ fs.length = k ∧ Pages fs (fun q => 0 ≤ q ∧ q < (i : Int))) ∧ Ext h G ∧ loc = [.junk, .c x, .junk, .c (.int .i64 (k : Int)), .c (.ptr p 0), .c (.int .i64 (i : Int)), .junk, .junk, .junk, .junk, .junk, .junk, .junk, .junk, .junk, .junk, .junk, .junk]) _ ?_ ⟨Nat.zero_le _, ⟨_, _, A0, by simp, Pages.rep _ _⟩, x0, hloc⟩ (by omega)
    rintro i loc G hi ⟨hik, ⟨fs, M, A, hl, hp⟩, xg, rfl⟩
    unfold ir5_l2
    by_cases hlt : i < k
    · left
      refine ⟨hlt, ?_⟩
      have v1 : decide ((i : Int) < (k : Int)) = true := ltNat hlt
      have v2 := succI (i := i) (by omega)
      obtain ⟨y, M', G', e, A', x', _⟩ := A.take (N := 200) (d := 3) (i : Int) (by omega)
      have hf : findF fs (i : Int) = -1 := findF_no fun j f hf h1 => by have := (hp j f hf h1).2; omega
      have et : takeF fs ((ints k).drop i) (i : Int) y = ((i : Int), fs.set i ⟨1, (i : Int), 0, false, y⟩, (ints k).drop (i + 1)) := by
        unfold takeF
        rw [if_neg (by omega), ints_drop hlt]
        simp only [Int.toNat_natCast]
      rw [et] at e A'
      simp only [enter_eq, ev_seq, seqK_norm, seqK_exit, seqK_ret, ev_reg, ev_cond, condK_true, condK_false, ev_block, blockK_norm, blockK_ret, blockK_exit, ev_loop, ev_skip, ev_exit, ev_ret, regK_cons, regK_nil, guard_none, guard_some, regG_true, regG_false, regO_some, op_mov, op_conv, op_bin, op_bsl, op_box, op_mks, op_s2b, op_pick, op_un, op_eq, op_len, op_ext, op_load, op_iaddr, op_slice, op_b2s, op_idxS, op_mx, op_mn, op_call, op_store, op_app, op_copy, args_eq, result_one', rv_loc, finish_norm, finish_ret, outK_some, keep_true, keep_false, keep_nil, p_bin, p_pick, p_un, p_eq, p_conv, evNew, pureK_some, newK_some, X.eval, set_none, set_some, List.map_cons, List.map_nil, List.getD_cons_zero, List.getD_cons_succ, List.getD_nil, List.set_cons_zero, List.set_cons_succ, binCV, unCV, isShift, intArithF_eq, shiftF_eq, wrapF_eq, intArith, shift, eqVal, bound, asNat_cast, cond_true, cond_false, BEq.rfl, beq_self_eq_true, evalParts, fillParts, AV.cells, AV.ofCells, XV.av, AV.xv, List.length_cons, List.length_nil, zeros, patch, setMany, List.nil_append, List.cons_append, Nat.ble, Nat.add_eq, Nat.zero_add, Nat.add_zero, Nat.reduceAdd, Nat.reduceMul, Nat.reduceSub, Nat.ble_eq, Nat.reduceLeDiff, Nat.reduceBEq, Int.reduceBEq, Int.reduceNeg, Bool.and_true, Bool.and_false, Bool.true_and, Bool.false_and, Bool.not_true, Bool.not_false, Bool.true_eq_false, Bool.false_eq_true, Int.reduceLT, Int.reduceLE, Int.reduceGT, Int.reduceGE, decide_true, decide_false, Bool.not_eq_true, loopN_norm, loopN_exit, tf, ft, ff, v1, v2, e, bneI]
      refine ⟨_, _, rfl, by omega, ⟨_, M', A', by simp [hl], hp.set (fun q hq => by omega) (by omega) fun _ => ⟨rfl, by show 0 ≤ (i : Int) ∧ (i : Int) < ((i + 1 : Nat) : Int); omega⟩⟩, ⟨by have := x'.1; have := xg.1; omega, fun j hj => (x'.2 j (by have := xg.1; omega) fun hm => by have := y0 j hm; omega).trans (xg.2 j hj)⟩, rfl⟩
    · right
      have hik' : i = k := by omega
      subst hik'
      have v1 : decide ((i : Int) < (i : Int)) = false := geNat (Nat.le_refl _)
      have hd : (ints i).drop i = [] := List.drop_of_length_le (by rw [ints_len]; omega)
      rw [hd] at A
      simp only [enter_eq, ev_seq, seqK_norm, seqK_exit, seqK_ret, ev_reg, ev_cond, condK_true, condK_false, ev_block, blockK_norm, blockK_ret, blockK_exit, ev_loop, ev_skip, ev_exit, ev_ret, regK_cons, regK_nil, guard_none, guard_some, regG_true, regG_false, regO_some, op_mov, op_conv, op_bin, op_bsl, op_box, op_mks, op_s2b, op_pick, op_un, op_eq, op_len, op_ext, op_load, op_iaddr, op_slice, op_b2s, op_idxS, op_mx, op_mn, op_call, op_store, op_app, op_copy, args_eq, result_one', rv_loc, finish_norm, finish_ret, outK_some, keep_true, keep_false, keep_nil, p_bin, p_pick, p_un, p_eq, p_conv, evNew, pureK_some, newK_some, X.eval, set_none, set_some, List.map_cons, List.map_nil, List.getD_cons_zero, List.getD_cons_succ, List.getD_nil, List.set_cons_zero, List.set_cons_succ, binCV, unCV, isShift, intArithF_eq, shiftF_eq, wrapF_eq, intArith, shift, eqVal, bound, asNat_cast, cond_true, cond_false, BEq.rfl, beq_self_eq_true, evalParts, fillParts, AV.cells, AV.ofCells, XV.av, AV.xv, List.length_cons, List.length_nil, zeros, patch, setMany, List.nil_append, List.cons_append, Nat.ble, Nat.add_eq, Nat.zero_add, Nat.add_zero, Nat.reduceAdd, Nat.reduceMul, Nat.reduceSub, Nat.ble_eq, Nat.reduceLeDiff, Nat.reduceBEq, Int.reduceBEq, Int.reduceNeg, Bool.and_true, Bool.and_false, Bool.true_and, Bool.false_and, Bool.not_true, Bool.not_false, Bool.true_eq_false, Bool.false_eq_true, Int.reduceLT, Int.reduceLE, Int.reduceGT, Int.reduceGE, decide_true, decide_false, Bool.not_eq_true, loopN_norm, loopN_exit, tf, ft, ff, v1]
      exact ⟨_, rfl, by simp, _, _, _, _, _, _, _, _, _, _, _, _, _, _, _, G, fs, M, rfl, A, hl, fun j f hf h1 => ⟨(hp j f hf h1).1, by have := (hp j f hf h1).2; omega⟩, xg⟩
  obtain ⟨r1, hr1, a0, a2, a5, a6, a7, a8, a9, a10, a11, a12, a13, a14, a15, a16, a17, G1, fs1, M1, rfl, A1, hl1, hp1, x1⟩ := L1 [.c (.int .i64 n), .c x, .c (.bool false), .c (.int .i64 (k : Int)), .c (.ptr p 0), .c (.int .i64 0), .tup [], .tup [], .tup [], .tup [], .c (.bool false), .tup [], .tup [], .tup [], .tup [], .tup [], .tup [], .tup []] rfl
  have L2 : ∀ loc, keepOnly ir5_k1 loc = [.junk, .c x, .junk, .c (.int .i64 (k : Int)), .c (.ptr p 0), .junk, .c .nils, .c (.int .i64 0), .junk, .junk, .junk, .junk, .junk, .junk, .junk, .junk, .junk, .junk] →
      ∃ r, loopK (evCallT table 18 200 8) 200 ir5_k1 ir5_l1 200 loc G1 = some r ∧ ∃ a0 a1 a2 a3 a5 a7 a8 a9 a10 a11 a12 a13 a14 a15 a16 a17 y G fs M o, r = (.exit 2, [a0, a1, a2, a3, .c (.ptr p 0), a5, .c y, a7, a8, a9, a10, a11, a12, a13, a14, a15, a16, a17], G) ∧ AH G p a fs o M ∧ Made h G y o ∧ (∀ j, blk y = some j → j ∉ own p a) ∧ fs.length = k ∧ Pages fs (fun q => 0 ≤ q ∧ q < 16) ∧ Ext h G := by
    intro loc hloc
    refine loop_inv (n := min 40 xs.length) (fun i loc G => i ≤ min 40 xs.length ∧ (∃ fs M o y, AH G p a fs o M ∧ Mine 1 h G y o.length (o.map icell) ∧ (∀ j, blk y = some j → j ∉ own p a) ∧ fs.length = k ∧ Pages fs (fun q => 0 ≤ q ∧ q < 16) ∧ Ext h G ∧ loc = [.junk, .c x, .junk, .c (.int .i64 (k : Int)), .c (.ptr p 0), .junk, .c y, .c (.int .i64 (i : Int)), .junk, .junk, .junk, .junk, .junk, .junk, .junk, .junk, .junk, .junk])) _ ?_ ⟨Nat.zero_le _, fs1, M1, [], .nils, A1, Mine.nil, fun j hj => (by cases hj), hl1, hp1, x1, hloc⟩ (by omega)
    rintro i loc G hi ⟨hik, fs, M, o, y, A, my, yo, hl, hp, xg, rfl⟩
    unfold ir5_l1
    by_cases hlt : i < min 40 xs.length
    · left
      refine ⟨hlt, ?_⟩
      have v1 : decide ((i : Int) < (xs.length : Int)) = true := ltNat (by omega)
      have v2 := succI (i := i) (by omega)
      have v3 : decide ((i : Int) < 40) = true := decide_eq_true (by omega)
      obtain ⟨ix, ox, cx, ex, hix, rx⟩ := (hx.ext xg).sl (by omega)
      have m1 : Nat.blt i xs.length = true := bltT (by omega)
      have r1 := rx i (by omega)
      obtain ⟨f, hf, ef⟩ := few' (a := xs[i]'(by omega)) (k := k) (by omega) (by omega)
      have w2 : IntKind.u64.wrap (k : Int) = (k : Int) := wrapUNat (by omega)
      have w3 : ((k : Int) == 0) = false := by simp only [beq_eq_false_iff_ne, ne_eq]; omega
      obtain ⟨M', G', e, A', x'⟩ := A.drop (N := 200) (d := 4) (f : Int) (by omega)
      have xg' : Ext h G' := ⟨by have := x'.1; have := xg.1; omega, fun j hj => (x'.2 j (by have := xg.1; omega) fun hm => by have := y0 j hm; omega).trans (xg.2 j hj)⟩
      have my' : Mine 1 h G' y o.length (o.map icell) := my.keepB x' yo
      rw [ex] at lx
      cases hu : usedF fs (f : Int) with
      | none =>
        have ed : dropF fs o (f : Int) = (2, fs, o) := by unfold dropF; rw [hu]
        rw [ed] at e A'
        simp only [enter_eq, ev_seq, seqK_norm, seqK_exit, seqK_ret, ev_reg, ev_cond, condK_true, condK_false, ev_block, blockK_norm, blockK_ret, blockK_exit, ev_loop, ev_skip, ev_exit, ev_ret, regK_cons, regK_nil, guard_none, guard_some, regG_true, regG_false, regO_some, op_mov, op_conv, op_bin, op_bsl, op_box, op_mks, op_s2b, op_pick, op_un, op_eq, op_len, op_ext, op_load, op_iaddr, op_slice, op_b2s, op_idxS, op_mx, op_mn, op_call, op_store, op_app, op_copy, args_eq, result_one', rv_loc, finish_norm, finish_ret, outK_some, keep_true, keep_false, keep_nil, p_bin, p_pick, p_un, p_eq, p_conv, evNew, pureK_some, newK_some, X.eval, set_none, set_some, List.map_cons, List.map_nil, List.getD_cons_zero, List.getD_cons_succ, List.getD_nil, List.set_cons_zero, List.set_cons_succ, binCV, unCV, isShift, intArithF_eq, shiftF_eq, wrapF_eq, intArith, shift, eqVal, bound, asNat_cast, cond_true, cond_false, BEq.rfl, beq_self_eq_true, evalParts, fillParts, AV.cells, AV.ofCells, XV.av, AV.xv, List.length_cons, List.length_nil, zeros, patch, setMany, List.nil_append, List.cons_append, Nat.ble, Nat.add_eq, Nat.zero_add, Nat.add_zero, Nat.reduceAdd, Nat.reduceMul, Nat.reduceSub, Nat.ble_eq, Nat.reduceLeDiff, Nat.reduceBEq, Int.reduceBEq, Int.reduceNeg, Bool.and_true, Bool.and_false, Bool.true_and, Bool.false_and, Bool.not_true, Bool.not_false, Bool.true_eq_false, Bool.false_eq_true, Int.reduceLT, Int.reduceLE, Int.reduceGT, Int.reduceGE, decide_true, decide_false, Bool.not_eq_true, loopN_norm, loopN_exit, tf, ft, ff, lx, v1, v2, v3, ex, p_iaddr, m1, p_load, AV.ofCells, Nat.mul_one, r1, w2, w3, ef, e]
        exact ⟨_, _, rfl, by omega, fs, M', o, y, A', my', yo, hl, hp, xg', rfl⟩
      | some u =>
        obtain ⟨j, g⟩ := u
        obtain ⟨ej, hj, eg, h1⟩ := usedF_some hu
        have hjf : j = f := by omega
        subst hjf
        have hpn := (hp j g (by rw [List.getElem?_eq_getElem hj, eg]) h1).1
        have ed : dropF fs o (j : Int) = (0, fs.set j frZ, o ++ [(j : Int)]) := by unfold dropF; rw [hu]; simp only [hpn]; rfl
        rw [ed] at e A'
        obtain ⟨G2, hG2⟩ : ∃ H, H = G'.new (.cells [.int .i64 (j : Int)]) := ⟨_, rfl⟩
        have x2 : Ext G' G2 := by rw [hG2]; exact (Ext.refl _).new _
        have src : source G2 1 (.c (.sl G'.next 0 1 (.ex 1))) = some (0 + 1, [.int .i64 (j : Int)]) := source_new (by rw [hG2]; exact get_new_at) rfl
        have my2 : Mine 1 h G2 y o.length (o.map icell) := by rw [hG2]; exact my'.new _
        obtain ⟨G3, b1, b2, b3, b4⟩ := app_mine my2 (by have := xg'.1; have := x2.1; omega) src rfl (by have := A.len; omega)
        have A2 := A'.ext' x2
        have e23 : ExtB (blk y).toList G2 G3 := ⟨by omega, fun q hq hn => b4 q hq fun hb => hn (by simp [hb])⟩
        have A3 := A2.ext e23 fun q hq hm => by simp [Option.mem_toList] at hm; exact yo q hm hq
        have xg3 : Ext h G3 := by
          have xx := xg'.trans x2
          exact ⟨by have := xx.1; omega, fun q hq => (b4 q (by have := xx.1; omega) (fun hb => by have := my.young q hb; omega)).trans (xx.2 q hq)⟩
        simp only [enter_eq, ev_seq, seqK_norm, seqK_exit, seqK_ret, ev_reg, ev_cond, condK_true, condK_false, ev_block, blockK_norm, blockK_ret, blockK_exit, ev_loop, ev_skip, ev_exit, ev_ret, regK_cons, regK_nil, guard_none, guard_some, regG_true, regG_false, regO_some, op_mov, op_conv, op_bin, op_bsl, op_box, op_mks, op_s2b, op_pick, op_un, op_eq, op_len, op_ext, op_load, op_iaddr, op_slice, op_b2s, op_idxS, op_mx, op_mn, op_call, op_store, op_app, op_copy, args_eq, result_one', rv_loc, finish_norm, finish_ret, outK_some, keep_true, keep_false, keep_nil, p_bin, p_pick, p_un, p_eq, p_conv, evNew, pureK_some, newK_some, X.eval, set_none, set_some, List.map_cons, List.map_nil, List.getD_cons_zero, List.getD_cons_succ, List.getD_nil, List.set_cons_zero, List.set_cons_succ, binCV, unCV, isShift, intArithF_eq, shiftF_eq, wrapF_eq, intArith, shift, eqVal, bound, asNat_cast, cond_true, cond_false, BEq.rfl, beq_self_eq_true, evalParts, fillParts, AV.cells, AV.ofCells, XV.av, AV.xv, List.length_cons, List.length_nil, zeros, patch, setMany, List.nil_append, List.cons_append, Nat.ble, Nat.add_eq, Nat.zero_add, Nat.add_zero, Nat.reduceAdd, Nat.reduceMul, Nat.reduceSub, Nat.ble_eq, Nat.reduceLeDiff, Nat.reduceBEq, Int.reduceBEq, Int.reduceNeg, Bool.and_true, Bool.and_false, Bool.true_and, Bool.false_and, Bool.not_true, Bool.not_false, Bool.true_eq_false, Bool.false_eq_true, Int.reduceLT, Int.reduceLE, Int.reduceGT, Int.reduceGE, decide_true, decide_false, Bool.not_eq_true, loopN_norm, loopN_exit, tf, ft, ff, lx, v1, v2, v3, ex, p_iaddr, m1, p_load, AV.ofCells, Nat.mul_one, r1, w2, w3, ef, e, ← hG2, b1]
        refine ⟨_, _, rfl, by omega, _, M', o ++ [(j : Int)], _, A3, ?_, fun q hq hm => ?_, by simp [hl], hp.set (fun _ h => h) hj (fun h => absurd h (by decide)), xg3, rfl⟩
        · rw [List.length_append, List.map_append]; exact b2
        · simp [blk] at hq
          have := A2.ar.old q hm
          omega
    · right
      have v2 : decide ((i : Int) < (xs.length : Int)) = true ∧ decide ((i : Int) < 40) = false ∨ decide ((i : Int) < (xs.length : Int)) = false := by
        by_cases h : i < xs.length
        · exact .inl ⟨ltNat h, decide_eq_false (by omega)⟩
        · exact .inr (geNat (by omega))
      rcases v2 with ⟨v1, v2⟩ | v1
      · simp only [enter_eq, ev_seq, seqK_norm, seqK_exit, seqK_ret, ev_reg, ev_cond, condK_true, condK_false, ev_block, blockK_norm, blockK_ret, blockK_exit, ev_loop, ev_skip, ev_exit, ev_ret, regK_cons, regK_nil, guard_none, guard_some, regG_true, regG_false, regO_some, op_mov, op_conv, op_bin, op_bsl, op_box, op_mks, op_s2b, op_pick, op_un, op_eq, op_len, op_ext, op_load, op_iaddr, op_slice, op_b2s, op_idxS, op_mx, op_mn, op_call, op_store, op_app, op_copy, args_eq, result_one', rv_loc, finish_norm, finish_ret, outK_some, keep_true, keep_false, keep_nil, p_bin, p_pick, p_un, p_eq, p_conv, evNew, pureK_some, newK_some, X.eval, set_none, set_some, List.map_cons, List.map_nil, List.getD_cons_zero, List.getD_cons_succ, List.getD_nil, List.set_cons_zero, List.set_cons_succ, binCV, unCV, isShift, intArithF_eq, shiftF_eq, wrapF_eq, intArith, shift, eqVal, bound, asNat_cast, cond_true, cond_false, BEq.rfl, beq_self_eq_true, evalParts, fillParts, AV.cells, AV.ofCells, XV.av, AV.xv, List.length_cons, List.length_nil, zeros, patch, setMany, List.nil_append, List.cons_append, Nat.ble, Nat.add_eq, Nat.zero_add, Nat.add_zero, Nat.reduceAdd, Nat.reduceMul, Nat.reduceSub, Nat.ble_eq, Nat.reduceLeDiff, Nat.reduceBEq, Int.reduceBEq, Int.reduceNeg, Bool.and_true, Bool.and_false, Bool.true_and, Bool.false_and, Bool.not_true, Bool.not_false, Bool.true_eq_false, Bool.false_eq_true, Int.reduceLT, Int.reduceLE, Int.reduceGT, Int.reduceGE, decide_true, decide_false, Bool.not_eq_true, loopN_norm, loopN_exit, tf, ft, ff, lx, v1, v2]
        exact ⟨_, rfl, by simp, _, _, _, _, _, _, _, _, _, _, _, _, _, _, _, _, y, G, fs, M, o, rfl, A, my.made, yo, hl, hp, xg⟩
      · simp only [enter_eq, ev_seq, seqK_norm, seqK_exit, seqK_ret, ev_reg, ev_cond, condK_true, condK_false, ev_block, blockK_norm, blockK_ret, blockK_exit, ev_loop, ev_skip, ev_exit, ev_ret, regK_cons, regK_nil, guard_none, guard_some, regG_true, regG_false, regO_some, op_mov, op_conv, op_bin, op_bsl, op_box, op_mks, op_s2b, op_pick, op_un, op_eq, op_len, op_ext, op_load, op_iaddr, op_slice, op_b2s, op_idxS, op_mx, op_mn, op_call, op_store, op_app, op_copy, args_eq, result_one', rv_loc, finish_norm, finish_ret, outK_some, keep_true, keep_false, keep_nil, p_bin, p_pick, p_un, p_eq, p_conv, evNew, pureK_some, newK_some, X.eval, set_none, set_some, List.map_cons, List.map_nil, List.getD_cons_zero, List.getD_cons_succ, List.getD_nil, List.set_cons_zero, List.set_cons_succ, binCV, unCV, isShift, intArithF_eq, shiftF_eq, wrapF_eq, intArith, shift, eqVal, bound, asNat_cast, cond_true, cond_false, BEq.rfl, beq_self_eq_true, evalParts, fillParts, AV.cells, AV.ofCells, XV.av, AV.xv, List.length_cons, List.length_nil, zeros, patch, setMany, List.nil_append, List.cons_append, Nat.ble, Nat.add_eq, Nat.zero_add, Nat.add_zero, Nat.reduceAdd, Nat.reduceMul, Nat.reduceSub, Nat.ble_eq, Nat.reduceLeDiff, Nat.reduceBEq, Int.reduceBEq, Int.reduceNeg, Bool.and_true, Bool.and_false, Bool.true_and, Bool.false_and, Bool.not_true, Bool.not_false, Bool.true_eq_false, Bool.false_eq_true, Int.reduceLT, Int.reduceLE, Int.reduceGT, Int.reduceGE, decide_true, decide_false, Bool.not_eq_true, loopN_norm, loopN_exit, tf, ft, ff, lx, v1]
        exact ⟨_, rfl, by simp, _, _, _, _, _, _, _, _, _, _, _, _, _, _, _, _, y, G, fs, M, o, rfl, A, my.made, yo, hl, hp, xg⟩
  obtain ⟨r2, hr2, b0, b1, b2, b3, b5, b7, b8, b9, b10, b11, b12, b13, b14, b15, b16, b17, y, G2, fs2, M2, o, rfl, A2, my, yo, hl2, hp2, x2⟩ := L2 [a0, .c x, a2, .c (.int .i64 (k : Int)), .c (.ptr p 0), a5, .c .nils, .c (.int .i64 0), a8, a9, a10, a11, a12, a13, a14, a15, a16, a17] rfl
  have e5 := free_ok (N := 200) (d := 6) A2.ar
  have ly : ∀ loc vals H, evPure loc (.c y :: vals) H (.len .sl (.val 0)) = some (.c (.int .i64 (o.length : Int))) := fun _ _ _ => my.len rfl
  have ho16 : o.length ≤ 16 := by
    have := nodup_le k o A2.ar.ll.nd fun z hz => by
      obtain ⟨i, hi, e, _⟩ := A2.fo.lt hz
      omega
    omega
  have L3 : ∀ loc, keepOnly ir5_k0 loc = [.junk, .junk, .junk, .junk, .c (.ptr p 0), .junk, .c y, .junk, .junk, .c (.int .i64 0), .junk, .junk, .junk, .junk, .junk, .junk, .junk, .junk] →
      ∃ r, loopK (evCallT table 18 200 8) 200 ir5_k0 ir5_l0 200 loc G2 = some r ∧ ∃ a0 a1 a2 a3 l G fs M, r = (.exit 4, a0 :: a1 :: a2 :: a3 :: .c (.ptr p 0) :: l, G) ∧ AH G p a fs [] M := by
    intro loc hloc
    refine loop_inv (n := o.length) (fun i loc G => i ≤ o.length ∧ (∃ fs M, AH G p a fs (o.drop i) M ∧ Pages fs (fun q => 0 ≤ q ∧ q < 16 ∨ 30 ≤ q ∧ q < 30 + (i : Int))) ∧ ExtB (own p a) G2 G ∧ loc = [.junk, .junk, .junk, .junk, .c (.ptr p 0), .junk, .c y, .junk, .junk, .c (.int .i64 (i : Int)), .junk, .junk, .junk, .junk, .junk, .junk, .junk, .junk]) _ ?_ ⟨Nat.zero_le _, ⟨fs2, M2, A2, fun j f hf h1 => ⟨(hp2 j f hf h1).1, .inl (hp2 j f hf h1).2⟩⟩, ExtB.refl _ _, hloc⟩ (by omega)
    rintro i loc G hi ⟨hio, ⟨fs, M, A, hp⟩, xg, rfl⟩
    unfold ir5_l0
    by_cases hlt : i < o.length
    · left
      refine ⟨hlt, ?_⟩
      have v1 : decide ((i : Int) < (o.length : Int)) = true := ltNat hlt
      have v2 := succI (i := i) (by omega)
      have w2 : IntKind.i64.wrap (30 + (i : Int)) = 30 + (i : Int) := wrapI (by omega) (by omega)
      obtain ⟨yy, M', G', e, A', x', _⟩ := A.take (N := 200) (d := 3) (30 + (i : Int)) (by omega)
      have hf : findF fs (30 + (i : Int)) = -1 := findF_no fun j f hf h1 => by have := (hp j f hf h1).2; omega
      have hd : o.drop i = o[i] :: o.drop (i + 1) := List.drop_eq_getElem_cons hlt
      have et : takeF fs (o.drop i) (30 + (i : Int)) yy = (o[i], fs.set o[i].toNat ⟨1, 30 + (i : Int), 0, false, yy⟩, o.drop (i + 1)) := by
        unfold takeF
        rw [if_neg (by omega), hd]
      rw [et] at e A'
      obtain ⟨q, hq, eq, _⟩ := A.fo.lt (x := o[i]) (hd ▸ List.mem_cons_self)
      have myG := (my.keepB xg yo).ints
      obtain ⟨iy, oy, cy, ey, hiy, ry⟩ := myG.sl (by omega)
      have m1 : Nat.blt i o.length = true := bltT hlt
      have r1 := ry i hlt
      have myG' := ((my.keepB xg yo).keepB x' yo).ints
      obtain ⟨iy', oy', cy', ey', hiy', ry'⟩ := myG'.sl (by omega)
      have r2 := ry' i hlt
      rw [ey] at ey' ly
      cases ey'
      simp only [enter_eq, ev_seq, seqK_norm, seqK_exit, seqK_ret, ev_reg, ev_cond, condK_true, condK_false, ev_block, blockK_norm, blockK_ret, blockK_exit, ev_loop, ev_skip, ev_exit, ev_ret, regK_cons, regK_nil, guard_none, guard_some, regG_true, regG_false, regO_some, op_mov, op_conv, op_bin, op_bsl, op_box, op_mks, op_s2b, op_pick, op_un, op_eq, op_len, op_ext, op_load, op_iaddr, op_slice, op_b2s, op_idxS, op_mx, op_mn, op_call, op_store, op_app, op_copy, args_eq, result_one', rv_loc, finish_norm, finish_ret, outK_some, keep_true, keep_false, keep_nil, p_bin, p_pick, p_un, p_eq, p_conv, evNew, pureK_some, newK_some, X.eval, set_none, set_some, List.map_cons, List.map_nil, List.getD_cons_zero, List.getD_cons_succ, List.getD_nil, List.set_cons_zero, List.set_cons_succ, binCV, unCV, isShift, intArithF_eq, shiftF_eq, wrapF_eq, intArith, shift, eqVal, bound, asNat_cast, cond_true, cond_false, BEq.rfl, beq_self_eq_true, evalParts, fillParts, AV.cells, AV.ofCells, XV.av, AV.xv, List.length_cons, List.length_nil, zeros, patch, setMany, List.nil_append, List.cons_append, Nat.ble, Nat.add_eq, Nat.zero_add, Nat.add_zero, Nat.reduceAdd, Nat.reduceMul, Nat.reduceSub, Nat.ble_eq, Nat.reduceLeDiff, Nat.reduceBEq, Int.reduceBEq, Int.reduceNeg, Bool.and_true, Bool.and_false, Bool.true_and, Bool.false_and, Bool.not_true, Bool.not_false, Bool.true_eq_false, Bool.false_eq_true, Int.reduceLT, Int.reduceLE, Int.reduceGT, Int.reduceGE, decide_true, decide_false, Bool.not_eq_true, loopN_norm, loopN_exit, tf, ft, ff, ev_dreg, dregK_nil, dregK_cons, dregE_true, dregP_some, dregX_some, d_mov, d_bin, d_eq, d_pick, d_un, d_conv, d_b2s, d_len, d_load, d_iaddr, d_slice, d_ext, d_call, d_store, chk_done, chk_none, chk_some, chkG_true, chkG_false, chkOne_nil, chkOne_cons, chkH_some, chkV_same, stage_none, stage_some, look_hit, look_miss, news_nil, wb_cons, wb_nil, skip0, List.reverse_cons, List.reverse_nil, ly, v1, v2, w2, ey, e, p_iaddr, m1, p_load, AV.ofCells, Nat.mul_one, r1, r2, bneI]
      refine ⟨_, _, rfl, by omega, ⟨_, M', A', ?_⟩, xg.trans x', rfl⟩
      refine hp.set (fun z hz => by omega) (by omega) fun _ => ⟨rfl, .inr ?_⟩
      show 30 ≤ 30 + (i : Int) ∧ 30 + (i : Int) < 30 + ((i + 1 : Nat) : Int)
      omega
    · right
      have hio' : i = o.length := by omega
      have v1 : decide ((i : Int) < (o.length : Int)) = false := geNat (by omega)
      rw [hio', List.drop_length] at A
      simp only [enter_eq, ev_seq, seqK_norm, seqK_exit, seqK_ret, ev_reg, ev_cond, condK_true, condK_false, ev_block, blockK_norm, blockK_ret, blockK_exit, ev_loop, ev_skip, ev_exit, ev_ret, regK_cons, regK_nil, guard_none, guard_some, regG_true, regG_false, regO_some, op_mov, op_conv, op_bin, op_bsl, op_box, op_mks, op_s2b, op_pick, op_un, op_eq, op_len, op_ext, op_load, op_iaddr, op_slice, op_b2s, op_idxS, op_mx, op_mn, op_call, op_store, op_app, op_copy, args_eq, result_one', rv_loc, finish_norm, finish_ret, outK_some, keep_true, keep_false, keep_nil, p_bin, p_pick, p_un, p_eq, p_conv, evNew, pureK_some, newK_some, X.eval, set_none, set_some, List.map_cons, List.map_nil, List.getD_cons_zero, List.getD_cons_succ, List.getD_nil, List.set_cons_zero, List.set_cons_succ, binCV, unCV, isShift, intArithF_eq, shiftF_eq, wrapF_eq, intArith, shift, eqVal, bound, asNat_cast, cond_true, cond_false, BEq.rfl, beq_self_eq_true, evalParts, fillParts, AV.cells, AV.ofCells, XV.av, AV.xv, List.length_cons, List.length_nil, zeros, patch, setMany, List.nil_append, List.cons_append, Nat.ble, Nat.add_eq, Nat.zero_add, Nat.add_zero, Nat.reduceAdd, Nat.reduceMul, Nat.reduceSub, Nat.ble_eq, Nat.reduceLeDiff, Nat.reduceBEq, Int.reduceBEq, Int.reduceNeg, Bool.and_true, Bool.and_false, Bool.true_and, Bool.false_and, Bool.not_true, Bool.not_false, Bool.true_eq_false, Bool.false_eq_true, Int.reduceLT, Int.reduceLE, Int.reduceGT, Int.reduceGE, decide_true, decide_false, Bool.not_eq_true, loopN_norm, loopN_exit, tf, ft, ff, ly, v1]
      exact ⟨_, rfl, by simp, _, _, _, _, _, G, fs, M, rfl, A⟩
  obtain ⟨r3, hr3, c0, c1, c2, c3, l, G3, fs3, M3, rfl, A3⟩ := L3 [b0, b1, b2, b3, .c (.ptr p 0), b5, .c y, b7, b8, .c (.int .i64 0), b10, b11, b12, b13, b14, .c (.bool false), b16, b17] rfl
  obtain ⟨yy, M4, G4, e6, _⟩ := A3.take (N := 200) (d := 3) 47 (by omega)
  have e6' : evCallT table 18 200 8 11 [.c (.ptr p 0), .c (.int .i64 47)] G3 = some (.c (.int .i64 (-1)), G4) := by
    have : (takeF fs3 [] 47 yy).1 = -1 := by unfold takeF; split <;> rfl
    rw [this] at e6
    exact e6
  rw [evCallT_eq (F := ir5) rfl rfl rfl]
  unfold ir5
  rw [bodyK_eq]
  simp only [enter_eq, ev_seq, seqK_norm, seqK_exit, seqK_ret, ev_reg, ev_cond, condK_true, condK_false, ev_block, blockK_norm, blockK_ret, blockK_exit, ev_loop, ev_skip, ev_exit, ev_ret, regK_cons, regK_nil, guard_none, guard_some, regG_true, regG_false, regO_some, op_mov, op_conv, op_bin, op_bsl, op_box, op_mks, op_s2b, op_pick, op_un, op_eq, op_len, op_ext, op_load, op_iaddr, op_slice, op_b2s, op_idxS, op_mx, op_mn, op_call, op_store, op_app, op_copy, args_eq, result_one', rv_loc, finish_norm, finish_ret, outK_some, keep_true, keep_false, keep_nil, p_bin, p_pick, p_un, p_eq, p_conv, evNew, pureK_some, newK_some, X.eval, set_none, set_some, List.map_cons, List.map_nil, List.getD_cons_zero, List.getD_cons_succ, List.getD_nil, List.set_cons_zero, List.set_cons_succ, binCV, unCV, isShift, intArithF_eq, shiftF_eq, wrapF_eq, intArith, shift, eqVal, bound, asNat_cast, cond_true, cond_false, BEq.rfl, beq_self_eq_true, evalParts, fillParts, AV.cells, AV.ofCells, XV.av, AV.xv, List.length_cons, List.length_nil, zeros, patch, setMany, List.nil_append, List.cons_append, Nat.ble, Nat.add_eq, Nat.zero_add, Nat.add_zero, Nat.reduceAdd, Nat.reduceMul, Nat.reduceSub, Nat.ble_eq, Nat.reduceLeDiff, Nat.reduceBEq, Int.reduceBEq, Int.reduceNeg, Bool.and_true, Bool.and_false, Bool.true_and, Bool.false_and, Bool.not_true, Bool.not_false, Bool.true_eq_false, Bool.false_eq_true, Int.reduceLT, Int.reduceLE, Int.reduceGT, Int.reduceGE, decide_true, decide_false, Bool.not_eq_true, loopN_norm, loopN_exit, tf, ft, ff, e1, w1, e4, hr1, blockK_exit_eq, hr2, e5, ly, bneI, hr3, evCallT_told, e6']
  rfl
end Lav

namespace Go.Proofs.Ytdilhnnbfkiacaa.arenaQueue
open Go.ChangeShapes Go.WideShapes Go.ChangeAt Go.RowKit
open Go.ChangeMaps (open_string shut_string)
set_option linter.unusedVariables false

theorem own : ownKnob Try.prog.godebug = none := by kernel_rfl
theorem laidOut : laidOutB Try.prog = true := by kernel_rfl

/-- WHAT THE WALK IS TOLD OF A SLICE OF INTEGERS THAT CAME IN: it is nil; or it leads to a row of 'cap' cells, the numbers 'zs' (the first 'len' are its elements, the rest its spare room), each fitting its kind. -/
def IsRow (k : IntKind) (w : World) (a : Option Addr) (len cap : Nat) (zs : List Int) : Prop :=
  (a = none ∧ len = 0 ∧ cap = 0 ∧ zs = []) ∨
  ∃ x, a = some x ∧ len ≤ cap ∧ cap ≤ maxLen ∧ zs.length = cap ∧ (∀ i, i < zs.length → w.cell? (x.add i) = some (.int k (zs.getD i 0))) ∧ ∀ n ∈ zs, (Lit.int k n).wf = true

/-! ### STEP 1: THE WALK: the Go text returns true, AND WRITES NOTHING THAT WAS THERE: 'Below w.heap.size w w'' (Derived/Below.lean: '.refl', '.alloc', '.drew', '.setCell' at a new block, '.trans'). Open each 'IsRow' by 'rcases' AHEAD of 'go_enter'; part every test ahead of the walk. -/
theorem walk (a0 : Int) (a1 : Option Addr) (len1 cap1 : Nat) (z1 : List Int) (w : World) (w0 : (Lit.int .i64 a0).wf = true) (w1 : IsRow .i64 w a1 len1 cap1 z1) :
    Calls Try.prog 5 #[.int .i64 a0, .slice a1 len1 cap1] w fun e w' => e = .returned (.bool true) ∧ Below w.heap.size w w' := by
  obtain ⟨ι, h, x, I, hle, hx, hr⟩ := (Lav.Init.empty w).slice w1
  exact Lav.walk_of (Lav.evCallT_sound Lav.mixed Lav.table_ok Lav.tld10 200 9) I (args := [.c (.int .i64 a0), .c x]) (vs := [.int .i64 a0, .slice a1 len1 cap1]) ⟨rfl, hx, trivial⟩ (Lav.arenaQueue a0 (Lav.ints_of hr))

/-! ### THE ROW's STEP: WRITTEN OUT: LEAVE IT -/
set_option maxRecDepth 100000 in
theorem lifted (os : Os) (started : os.Started) (H : Type) (enc : TypeId × Value → H) :
    ReturnsInHanded {} Try.checked os 5 .any (Rows.arenaQueueSpec.pre6 enc Try.prog Try.f5 Rows.arenaQueueRow.domain false) (Rows.arenaQueueSpec.post enc Try.prog Try.f5 false true false false) := by
  refine returnsInHanded_of_change (C := Try.checked) own started (by kernel_rfl) Try.func5
    (ChangeSpec.witness6 (enc := enc) (C := Try.checked) false ⟨#[], #[.int .i64 0, .slice none 0 0], []⟩ 8 (by kernel_rfl) (by kernel_rfl) (by kernel_rfl) (by kernel_rfl)) ?_
  intro W base args ds gs before hval0 hW hcnd _
  have hval : ∀ (j : Nat) t v, Try.f5.params[j]? = some t → args[j]? = some v → Value.okWide Try.prog W .any base t v := hval0
  have hW' := hW
  obtain ⟨p, q, hA0, hV, rfl, hfz, hnd⟩ := hW
  have hA : DataW.TrodAll enc Try.prog W 0 (fun _ => true) true Try.f5.params.toList args.toList ds p := hA0
  rw [Try.params5] at hA hval
  obtain ⟨v0, vs0, d0, ds0, p0, q0, hargs, rfl, rfl, h0, r0⟩ := trodAll_cons hA
  obtain ⟨v1, vs1, d1, ds1, p1, q1, rfl, rfl, rfl, h1, r1⟩ := trodAll_cons r0
  obtain ⟨rfl, rfl, rfl⟩ := trodAll_nil r1
  obtain rfl : args = #[v0, v1] := by cases args; simp_all
  obtain ⟨rfl, rfl⟩ := trodVars_none hV
  obtain ⟨a0, rfl, rfl, rfl, w0⟩ := open_int Try.underlying3 (hval 0 3 v0 rfl rfl) h0
  obtain ⟨a1, len1, cap1, rfl⟩ := okWide_slice Try.underlying40 (hval 1 40 v1 rfl rfl)
  have k1 := h1
  have lt1 : ∀ x ∈ p1, x.block < W.heap.size := by obtain ⟨m, hm⟩ := k1; exact DataW.trod_lt m _ _ _ hm
  obtain ⟨z1, w1⟩ : ∃ zs, IsRow .i64 W a1 len1 cap1 zs := by
    obtain ⟨fuel, hf⟩ := h1
    rcases open_ints Try.underlying40 Try.underlying3 (by kernel_rfl) hf with ⟨hcs, _⟩ | ⟨x, l, c, zs, hcs, _, hl, hm, hz, _, hcell, hwz⟩
    · simp [Value.cells] at hcs
      obtain ⟨rfl, rfl, rfl⟩ := hcs
      exact ⟨[], .inl ⟨rfl, rfl, rfl, rfl⟩⟩
    · simp [Value.cells] at hcs
      obtain ⟨rfl, rfl, rfl⟩ := hcs
      exact ⟨zs, .inr ⟨_, rfl, hl, hm, by simpa using hz, hcell, hwz⟩⟩
  clear hA0 hval0
  refine (walk a0 a1 len1 cap1 z1 W w0 w1).mono fun e W' ⟨he, bel⟩ => ?_
  subst he
  exact ⟨_, rfl, _, _, _, [], _, [], hW', trodAll_mk1 (shut_bool Try.underlying4 _), (trodAll_cons_mk (shut_int Try.underlying3 w0) (trodAll_cons_mk (Below.trod laidOut (by kernel_rfl) (of_decide_eq_true (by kernel_rfl)) k1 bel lt1) trodAll_mk0)), rfl, bel.frame _, fun h => by cases h⟩

theorem over : Rows.arenaQueueRow.holds Try.pinned (OpenSpec.ofChange Rows.arenaQueueSpec) :=
  OpenClaim.holds_of_wide 5 Try.f5 rfl rfl rfl rfl rfl rfl rfl ⟨rfl, rfl, rfl, rfl, rfl⟩ rfl rfl rfl rfl rfl (by kernel_rfl) Try.func5 (by kernel_rfl)
    (of_decide_eq_true (by kernel_rfl)) (by unfold Func.isWrapper; first | (rw [if_pos (by decide +kernel)]; kernel_rfl) | (rw [if_neg (by decide +kernel)]; exact ⟨rfl, rfl⟩))
    (fun os started H enc _ => lifted os started H enc)

/-- ████ THE STATEMENT ████ -/
theorem proved : Rows.ArenaQueueSaid := over
end Go.Proofs.Ytdilhnnbfkiacaa.arenaQueue
