/-
  Proved: whatever steps come in, lavabolaw8.RingPlays returns true and changes nothing that was there. No conditions beyond the given statement's.
-/
import Derived.Test.YtdjdodcihffemaaRows
import Derived.Test.YtdjdodcihffemaaInts0
import Derived.Test.YtdjdodcihffemaaRing1
import Derived.Test.YtdjdodcihffemaaRing2
import Derived.Test.YtdjdodcihffemaaFwR
import Derived.WalkKit
import Derived.ProofKit
import Derived.OpenShut
import Derived.ShutString
import Derived.ChangeOld
import Derived.Below
set_option maxRecDepth 100000
set_option linter.unusedSimpArgs false
namespace Lav
open Go (IntKind)
theorem seven (v : Int) : ∃ k : Nat, k < 7 ∧ Int.tmod (IntKind.i64.wrap (Int.tmod v 7 + 7)) 7 = (k : Int) := by
  have h1 : Int.tmod v 7 < 7 := Int.tmod_lt_of_pos _ (by omega)
  have h2 : -7 < Int.tmod v 7 := Int.lt_tmod_of_pos _ (by omega)
  rw [wrapI (by omega) (by omega)]
  have h0 : 0 ≤ Int.tmod v 7 + 7 := by omega
  generalize Int.tmod v 7 + 7 = x at *
  by_cases hx : 0 ≤ x
  · have h3 : 0 ≤ Int.tmod x 7 := Int.tmod_nonneg _ hx
    have h4 : Int.tmod x 7 < 7 := Int.tmod_lt_of_pos _ (by omega)
    exact ⟨(Int.tmod x 7).toNat, by omega, by omega⟩
  · omega

theorem ringPlays {x : CV} {h : Heap} {n : Nat} {xs : List Int} (hx : Recs 2 h x n xs) : good (evCallT table 16 300 9 4 [.c x] h) = true := by
  have lx : ∀ (loc vals : List AV) (h : Heap), evPure loc (.c x :: vals) h (.len .sl (.val 0)) = some (.c (.int .i64 (n : Int))) := fun _ _ _ => hx.len rfl
  obtain ⟨p, c, h1, e1, g1, x1, hp1, hc1⟩ : ∃ p c h', evCallT table 16 300 8 12 [] h = some (.c (.ptr p 0), h') ∧ RG h' p c [] ∧ Ext h h' ∧ h.next ≤ p ∧ h.next ≤ c := new_ok (N := 300) (d := 7) h
  generalize hh2 : h1.new (.cells [.nils]) = h2
  obtain ⟨q, hq⟩ : ∃ q, q = h1.next := ⟨_, rfl⟩
  have x2 : Ext h1 h2 := by rw [← hh2]; exact (Ext.refl _).new _
  have hn2 : h2.next = h1.next + 1 := by rw [← hh2]; rfl
  have g2 : RG h2 p c [] := g1.ext (x2.b []) (by simp) (by simp)
  have r2 : RR h2 q [q, c] [] := ⟨.nils, by rw [← hh2, hq]; exact get_new_at, .inl ⟨rfl, rfl⟩, by omega, by simp [blk]⟩
  have hx2 : Recs 2 h2 x n xs := (hx.ext x1).ext x2
  have hxb : ∀ k, blk x = some k → k ∉ [c, q] := fun k hk => by
    rcases hx.2 with ⟨rfl, _⟩ | ⟨i, o, cc, rfl, hi, _⟩
    · cases hk
    · simp [blk] at hk; have := x1.1; have := g1.cn; simp; omega
  rw [evCallT_eq (F := ir4) rfl rfl rfl]
  unfold ir4
  rw [bodyK_eq]
  have eqq : ∀ a : Int, (a == a) = true := fun a => by simp
  by_cases hn : n ≤ 200
  · have v0 : decide ((n : Int) > 200) = false := by simp; omega
    have L : ∀ loc, keepOnly ir4_k0 loc = [.c x, .junk, .c (.ptr p 0), .c (.ptr q 0), .c (.int .i64 0), .junk, .junk, .junk, .junk, .junk, .junk, .junk, .junk, .junk, .junk] →
        ∃ r, loopK (evCallT table 16 300 8) 300 ir4_k0 ir4_l0 300 loc h2 = some r ∧ ∃ a0 a1 l h', r = (.exit 0, a0 :: a1 :: l, h') := by
      intro loc hloc
      refine loop_inv (n := n) (fun i loc h' => ∃ ts : List Int, ts.length < 8 ∧ RG h' p c ts ∧ RR h' q [q, c] ts ∧ ExtB [c, q] h2 h' ∧ loc = [.c x, .junk, .c (.ptr p 0), .c (.ptr q 0), .c (.int .i64 (i : Int)), .junk, .junk, .junk, .junk, .junk, .junk, .junk, .junk, .junk, .junk]) _ ?_ ⟨[], by simp, g2, r2, ExtB.refl _ _, hloc⟩ (by omega)
      rintro i loc h' hi ⟨ts, hts, g', r', he, rfl⟩
      unfold ir4_l0
      by_cases hlt : i < n
      · left
        refine ⟨hlt, ?_⟩
        have v1 : decide ((i : Int) < (n : Int)) = true := ltNat hlt
        have v2 := succI (i := i) (by omega)
        have hx' := hx2.extB he hxb
        obtain ⟨b, o, cc, rfl, hbn, rx⟩ := hx'.sl (by omega)
        have hbo := hxb b rfl
        have m1 : Nat.blt i n = true := bltT hlt
        have k0 := rx i 0 hlt (by omega)
        have k1 := rx i 1 hlt (by omega)
        simp only [Nat.add_zero] at k0
        obtain ⟨kk, hkk, ekk⟩ := seven (xs.getD (i * 2) 0)
        have ekk' : Int.tmod (IntKind.i64.wrap (Int.tmod (xs.getD (i * 2) 0) 7 + 7)) 7 = (kk : Int) := ekk
        generalize hfv : xs.getD (i * 2 + 1) 0 = f at *
        have bad : ∀ k ∈ [q, c], k < h'.next := fun k hk => by
          have := he.1
          have := g2.cn
          simp at hk; rcases hk with rfl | rfl <;> omega
        have mc : ∀ k ∈ [c], k ∈ [q, c] := by simp
        have ms : ∀ k ∈ [c], k ∈ [c, q] := by simp
        have ms' : ∀ k ∈ [q], k ∈ [c, q] := by simp
        have hqc : q ≠ c := by have := g1.cn; omega
        have hpq : p ≠ q := by have := g1.pn; omega
        have rd : ∀ H, ExtB [c, q] h' H → H.read b (o + i * 2) 1 = some [.int .i64 (xs.getD (i * 2) 0)] ∧ H.read b (o + i * 2 + 1) 1 = some [.int .i64 f] := fun H e => by
          have := e.2 b hbn (by simpa using hbo)
          simp only [Heap.read] at k0 k1 ⊢
          rw [this]; exact ⟨k0, k1⟩
        -- behind the step: the same waits in both; so many
        have fin : ∀ (H : Heap) (ts' : List Int), ts'.length < 8 → RG H p c ts' → RR H q [q, c] ts' → ∃ z, H.read q 0 1 = some [z] ∧ (∀ (loc vals : List AV) (h : Heap), evPure loc (.c z :: vals) h (.len .sl (.val 0)) = some (.c (.int .i64 (ts'.length : Int)))) ∧ evCallT table 16 300 8 21 [.c (.ptr p 0)] H = some (.c (.int .i64 (ts'.length : Int)), H) := fun H ts' _ g r => by
          obtain ⟨z, z1, z2, _⟩ := r
          exact ⟨z, read_cells z1 rfl, fun _ _ _ => z2.len rfl, len_ok (N := 300) (d := 7) g⟩
        by_cases c5 : kk < 5
        · have v5 : decide ((kk : Int) < 5) = true := decide_eq_true (by omega)
          by_cases hf : 0 ≤ f ∧ f < 32
          · obtain ⟨y, h3, e3, g3, my, x3⟩ : ∃ y h'', evCallT table 16 300 8 13 [.c (.ptr p 0), .c (.int .i64 f)] h' = some (.c y, h'') ∧ RG h'' p c (if ts.length + 1 < 8 then ts ++ [f] else []) ∧ Made h' h'' y (if ts.length + 1 < 8 then [] else ts ++ [f]) ∧ ExtB [c] h' h'' := touch_ok (N := 300) (d := 6) g' f hf.1 hf.2 hts (by omega)
            have r3 := r'.ext x3 (by simpa using hqc) mc
            have bad3 : ∀ k ∈ [q, c], k < h3.next := fun k hk => Nat.lt_of_lt_of_le (bad k hk) x3.1
            obtain ⟨z, h4, e4, r4, iz, x4⟩ : ∃ y h'', evCallT table 16 300 8 18 [.c (.ptr q 0), .c (.int .i64 f)] h3 = some (.c y, h'') ∧ RR h'' q [q, c] (if ts.length + 1 < 8 then ts ++ [f] else []) ∧ Ints h'' y (if ts.length + 1 < 8 then [] else ts ++ [f]) ∧ ExtB [q] h3 h'' := rtouch_ok (N := 300) (d := 6) r3 (by simp) bad3 f hf.1 hf.2 hts
            have g4 := g3.ext x4 (by simpa using hpq) (by simpa using fun e => hqc e.symm)
            have my4 := my.keepB x4 fun k hk => by have := my.young k hk; have := bad q (by simp); simp; omega
            have e5 : evCallT table 16 300 8 17 [.c y, .c z] h4 = some (.c (.bool true), h4) := by
              have := ints_ok (T := 16) (N := 300) (d := 7) rfl my4.ints iz (by split <;> simp <;> omega) (by split <;> simp <;> omega)
              rw [decide_eq_true rfl] at this; exact this
            have xx : ExtB [c, q] h' h4 := (x3.mono ms).trans (x4.mono ms')
            have hl' : (if ts.length + 1 < 8 then ts ++ [f] else []).length < 8 := by split <;> simp <;> omega
            obtain ⟨w, w1, w2, w3⟩ := fin h4 _ hl' g4 r4
            have q0 := (rd h' (ExtB.refl _ _)).1
            have q1 := (rd h' (ExtB.refl _ _)).2
            have q3 := (rd h3 (x3.mono ms)).2
            generalize hT : (if ts.length + 1 < 8 then ts ++ [f] else []) = T at *
            simp only [enter_eq, ev_seq, seqK_norm, seqK_exit, seqK_ret, ev_reg, ev_cond, condK_true, condK_false, ev_block, blockK_norm, blockK_ret, blockK_exit, ev_loop, ev_skip, ev_exit, ev_ret, regK_cons, regK_nil, guard_none, guard_some, regG_true, regG_false, regO_some, op_mov, op_conv, op_bin, op_bsl, op_box, op_mks, op_s2b, op_pick, op_un, op_eq, op_len, op_ext, op_load, op_iaddr, op_slice, op_b2s, op_idxS, op_mx, op_mn, op_call, op_store, op_app, op_copy, args_eq, result_one', rv_loc, finish_norm, finish_ret, outK_some, keep_true, keep_false, keep_nil, p_bin, p_pick, p_un, p_eq, p_conv, evNew, pureK_some, newK_some, X.eval, set_none, set_some, List.map_cons, List.map_nil, List.getD_cons_zero, List.getD_cons_succ, List.getD_nil, List.set_cons_zero, List.set_cons_succ, binCV, unCV, isShift, intArithF_eq, shiftF_eq, wrapF_eq, intArith, shift, eqVal, bound, asNat_cast, cond_true, cond_false, BEq.rfl, beq_self_eq_true, evalParts, fillParts, AV.cells, AV.ofCells, XV.av, AV.xv, List.length_cons, List.length_nil, zeros, patch, setMany, List.nil_append, List.cons_append, Nat.ble, Nat.add_eq, Nat.zero_add, Nat.add_zero, Nat.reduceAdd, Nat.reduceMul, Nat.reduceSub, Nat.ble_eq, Nat.reduceLeDiff, Nat.reduceBEq, Int.reduceBEq, Int.reduceNeg, Bool.and_true, Bool.and_false, Bool.true_and, Bool.false_and, Bool.not_true, Bool.not_false, Bool.true_eq_false, Bool.false_eq_true, Int.reduceLT, Int.reduceLE, Int.reduceGT, Int.reduceGE, decide_true, decide_false, Bool.not_eq_true, loopN_norm, loopN_exit, tf, ft, ff, ev_dreg, dregK_nil, dregK_cons, dregE_true, dregP_some, dregX_some, d_mov, d_bin, d_eq, d_pick, d_un, d_conv, d_b2s, d_len, d_load, d_iaddr, d_slice, d_ext, d_call, d_store, chk_done, chk_none, chk_some, chkG_true, chkG_false, chkOne_nil, chkOne_cons, chkH_some, chkV_same, stage_none, stage_some, look_hit, look_miss, news_nil, wb_cons, wb_nil, skip0, List.reverse_cons, List.reverse_nil, bneI, lx, v1, v2, v5, p_iaddr, m1, p_faddr, op_faddr, d_faddr, d_nilchk, p_nilchk, p_load, AV.ofCells, Nat.mul_one, q0, q1, q3, ekk', e3, e4, e5, w1, w2, w3, eqq]
            exact ⟨_, _, rfl, T, hl', g4, r4, he.trans xx, rfl⟩
          · have hf' : f < 0 ∨ f ≥ 32 := by omega
            have e3 : evCallT table 16 300 8 13 [.c (.ptr p 0), .c (.int .i64 f)] h' = some (.c .nils, h') := touch_no (N := 300) (d := 7) f hf'
            have e4 : evCallT table 16 300 8 18 [.c (.ptr q 0), .c (.int .i64 f)] h' = some (.c .nils, h') := rtouch_no (N := 300) (d := 7) f hf'
            have e5 : evCallT table 16 300 8 17 [.c .nils, .c .nils] h' = some (.c (.bool true), h') := by
              have := ints_ok (T := 16) (N := 300) (d := 7) (h := h') (a := []) (b := []) rfl (.inl ⟨rfl, rfl⟩) (.inl ⟨rfl, rfl⟩) (by simp) (by simp)
              rw [decide_eq_true rfl] at this; exact this
            obtain ⟨w, w1, w2, w3⟩ := fin h' ts hts g' r'
            have q0 := (rd h' (ExtB.refl _ _)).1
            have q1 := (rd h' (ExtB.refl _ _)).2
            simp only [enter_eq, ev_seq, seqK_norm, seqK_exit, seqK_ret, ev_reg, ev_cond, condK_true, condK_false, ev_block, blockK_norm, blockK_ret, blockK_exit, ev_loop, ev_skip, ev_exit, ev_ret, regK_cons, regK_nil, guard_none, guard_some, regG_true, regG_false, regO_some, op_mov, op_conv, op_bin, op_bsl, op_box, op_mks, op_s2b, op_pick, op_un, op_eq, op_len, op_ext, op_load, op_iaddr, op_slice, op_b2s, op_idxS, op_mx, op_mn, op_call, op_store, op_app, op_copy, args_eq, result_one', rv_loc, finish_norm, finish_ret, outK_some, keep_true, keep_false, keep_nil, p_bin, p_pick, p_un, p_eq, p_conv, evNew, pureK_some, newK_some, X.eval, set_none, set_some, List.map_cons, List.map_nil, List.getD_cons_zero, List.getD_cons_succ, List.getD_nil, List.set_cons_zero, List.set_cons_succ, binCV, unCV, isShift, intArithF_eq, shiftF_eq, wrapF_eq, intArith, shift, eqVal, bound, asNat_cast, cond_true, cond_false, BEq.rfl, beq_self_eq_true, evalParts, fillParts, AV.cells, AV.ofCells, XV.av, AV.xv, List.length_cons, List.length_nil, zeros, patch, setMany, List.nil_append, List.cons_append, Nat.ble, Nat.add_eq, Nat.zero_add, Nat.add_zero, Nat.reduceAdd, Nat.reduceMul, Nat.reduceSub, Nat.ble_eq, Nat.reduceLeDiff, Nat.reduceBEq, Int.reduceBEq, Int.reduceNeg, Bool.and_true, Bool.and_false, Bool.true_and, Bool.false_and, Bool.not_true, Bool.not_false, Bool.true_eq_false, Bool.false_eq_true, Int.reduceLT, Int.reduceLE, Int.reduceGT, Int.reduceGE, decide_true, decide_false, Bool.not_eq_true, loopN_norm, loopN_exit, tf, ft, ff, ev_dreg, dregK_nil, dregK_cons, dregE_true, dregP_some, dregX_some, d_mov, d_bin, d_eq, d_pick, d_un, d_conv, d_b2s, d_len, d_load, d_iaddr, d_slice, d_ext, d_call, d_store, chk_done, chk_none, chk_some, chkG_true, chkG_false, chkOne_nil, chkOne_cons, chkH_some, chkV_same, stage_none, stage_some, look_hit, look_miss, news_nil, wb_cons, wb_nil, skip0, List.reverse_cons, List.reverse_nil, bneI, lx, v1, v2, v5, p_iaddr, m1, p_faddr, op_faddr, d_faddr, d_nilchk, p_nilchk, p_load, AV.ofCells, Nat.mul_one, q0, q1, ekk', e3, e4, e5, w1, w2, w3, eqq]
            exact ⟨_, _, rfl, ts, hts, g', r', he, rfl⟩
        · have v5 : decide ((kk : Int) < 5) = false := decide_eq_false (by omega)
          by_cases c6 : kk = 5
          · have v6 : ((kk : Int) == 5) = true := by simp; omega
            obtain ⟨h3, e3, g3, x3⟩ : ∃ h'', evCallT table 16 300 8 14 [.c (.ptr p 0), .c (.int .i64 f)] h' = some (.c (.int .i64 ((ts.length - (ts.filter (· ≠ f)).length : Nat) : Int)), h'') ∧ RG h'' p c (ts.filter (· ≠ f)) ∧ ExtB [c] h' h'' := forget_ok (N := 300) (d := 6) g' f (by omega) (by omega)
            have r3 := r'.ext x3 (by simpa using hqc) mc
            have bad3 : ∀ k ∈ [q, c], k < h3.next := fun k hk => Nat.lt_of_lt_of_le (bad k hk) x3.1
            obtain ⟨h4, e4, r4, x4⟩ : ∃ h'', evCallT table 16 300 8 19 [.c (.ptr q 0), .c (.int .i64 f)] h3 = some (.c (.int .i64 ((ts.length - (ts.filter (· ≠ f)).length : Nat) : Int)), h'') ∧ RR h'' q [q, c] (ts.filter (· ≠ f)) ∧ ExtB [q] h3 h'' := rforget_ok (N := 300) (d := 7) r3 bad3 f (by omega) (by omega)
            have g4 := g3.ext x4 (by simpa using hpq) (by simpa using fun e => hqc e.symm)
            have xx : ExtB [c, q] h' h4 := (x3.mono ms).trans (x4.mono ms')
            have hl' : (ts.filter (· ≠ f)).length < 8 := Nat.lt_of_le_of_lt (List.length_filter_le _ _) hts
            obtain ⟨w, w1, w2, w3⟩ := fin h4 _ hl' g4 r4
            have q0 := (rd h' (ExtB.refl _ _)).1
            have q1 := (rd h' (ExtB.refl _ _)).2
            have q3 := (rd h3 (x3.mono ms)).2
            generalize hT : ts.filter (· ≠ f) = T at *
            simp only [enter_eq, ev_seq, seqK_norm, seqK_exit, seqK_ret, ev_reg, ev_cond, condK_true, condK_false, ev_block, blockK_norm, blockK_ret, blockK_exit, ev_loop, ev_skip, ev_exit, ev_ret, regK_cons, regK_nil, guard_none, guard_some, regG_true, regG_false, regO_some, op_mov, op_conv, op_bin, op_bsl, op_box, op_mks, op_s2b, op_pick, op_un, op_eq, op_len, op_ext, op_load, op_iaddr, op_slice, op_b2s, op_idxS, op_mx, op_mn, op_call, op_store, op_app, op_copy, args_eq, result_one', rv_loc, finish_norm, finish_ret, outK_some, keep_true, keep_false, keep_nil, p_bin, p_pick, p_un, p_eq, p_conv, evNew, pureK_some, newK_some, X.eval, set_none, set_some, List.map_cons, List.map_nil, List.getD_cons_zero, List.getD_cons_succ, List.getD_nil, List.set_cons_zero, List.set_cons_succ, binCV, unCV, isShift, intArithF_eq, shiftF_eq, wrapF_eq, intArith, shift, eqVal, bound, asNat_cast, cond_true, cond_false, BEq.rfl, beq_self_eq_true, evalParts, fillParts, AV.cells, AV.ofCells, XV.av, AV.xv, List.length_cons, List.length_nil, zeros, patch, setMany, List.nil_append, List.cons_append, Nat.ble, Nat.add_eq, Nat.zero_add, Nat.add_zero, Nat.reduceAdd, Nat.reduceMul, Nat.reduceSub, Nat.ble_eq, Nat.reduceLeDiff, Nat.reduceBEq, Int.reduceBEq, Int.reduceNeg, Bool.and_true, Bool.and_false, Bool.true_and, Bool.false_and, Bool.not_true, Bool.not_false, Bool.true_eq_false, Bool.false_eq_true, Int.reduceLT, Int.reduceLE, Int.reduceGT, Int.reduceGE, decide_true, decide_false, Bool.not_eq_true, loopN_norm, loopN_exit, tf, ft, ff, ev_dreg, dregK_nil, dregK_cons, dregE_true, dregP_some, dregX_some, d_mov, d_bin, d_eq, d_pick, d_un, d_conv, d_b2s, d_len, d_load, d_iaddr, d_slice, d_ext, d_call, d_store, chk_done, chk_none, chk_some, chkG_true, chkG_false, chkOne_nil, chkOne_cons, chkH_some, chkV_same, stage_none, stage_some, look_hit, look_miss, news_nil, wb_cons, wb_nil, skip0, List.reverse_cons, List.reverse_nil, bneI, lx, v1, v2, v5, v6, p_iaddr, m1, p_faddr, op_faddr, d_faddr, d_nilchk, p_nilchk, p_load, AV.ofCells, Nat.mul_one, q0, q1, q3, ekk', e3, e4, w1, w2, w3, eqq]
            exact ⟨_, _, rfl, T, hl', g4, r4, he.trans xx, rfl⟩
          · have v6 : ((kk : Int) == 5) = false := by simp; omega
            obtain ⟨y, h3, e3, g3, my, x3⟩ : ∃ y h'', evCallT table 16 300 8 15 [.c (.ptr p 0)] h' = some (.c y, h'') ∧ RG h'' p c [] ∧ Made h' h'' y ts ∧ ExtB [c] h' h'' := drain_ok (N := 300) (d := 7) g' (by omega) (by omega)
            have r3 := r'.ext x3 (by simpa using hqc) mc
            obtain ⟨z, h4, e4, r4, iz, x4⟩ : ∃ y h'', evCallT table 16 300 8 20 [.c (.ptr q 0)] h3 = some (.c y, h'') ∧ RR h'' q [q, c] [] ∧ Ints h'' y ts ∧ ExtB [q] h3 h'' := rdrain_ok (N := 300) (d := 7) r3 (by simp)
            have g4 := g3.ext x4 (by simpa using hpq) (by simpa using fun e => hqc e.symm)
            have my4 := my.keepB x4 fun k hk => by have := my.young k hk; have := bad q (by simp); simp; omega
            have e5 : evCallT table 16 300 8 17 [.c y, .c z] h4 = some (.c (.bool true), h4) := by
              have := ints_ok (T := 16) (N := 300) (d := 7) rfl my4.ints iz (by omega) (by omega)
              rw [decide_eq_true rfl] at this; exact this
            have xx : ExtB [c, q] h' h4 := (x3.mono ms).trans (x4.mono ms')
            obtain ⟨w, w1, w2, w3⟩ := fin h4 [] (by simp) g4 r4
            have q0 := (rd h' (ExtB.refl _ _)).1
            simp only [enter_eq, ev_seq, seqK_norm, seqK_exit, seqK_ret, ev_reg, ev_cond, condK_true, condK_false, ev_block, blockK_norm, blockK_ret, blockK_exit, ev_loop, ev_skip, ev_exit, ev_ret, regK_cons, regK_nil, guard_none, guard_some, regG_true, regG_false, regO_some, op_mov, op_conv, op_bin, op_bsl, op_box, op_mks, op_s2b, op_pick, op_un, op_eq, op_len, op_ext, op_load, op_iaddr, op_slice, op_b2s, op_idxS, op_mx, op_mn, op_call, op_store, op_app, op_copy, args_eq, result_one', rv_loc, finish_norm, finish_ret, outK_some, keep_true, keep_false, keep_nil, p_bin, p_pick, p_un, p_eq, p_conv, evNew, pureK_some, newK_some, X.eval, set_none, set_some, List.map_cons, List.map_nil, List.getD_cons_zero, List.getD_cons_succ, List.getD_nil, List.set_cons_zero, List.set_cons_succ, binCV, unCV, isShift, intArithF_eq, shiftF_eq, wrapF_eq, intArith, shift, eqVal, bound, asNat_cast, cond_true, cond_false, BEq.rfl, beq_self_eq_true, evalParts, fillParts, AV.cells, AV.ofCells, XV.av, AV.xv, List.length_cons, List.length_nil, zeros, patch, setMany, List.nil_append, List.cons_append, Nat.ble, Nat.add_eq, Nat.zero_add, Nat.add_zero, Nat.reduceAdd, Nat.reduceMul, Nat.reduceSub, Nat.ble_eq, Nat.reduceLeDiff, Nat.reduceBEq, Int.reduceBEq, Int.reduceNeg, Bool.and_true, Bool.and_false, Bool.true_and, Bool.false_and, Bool.not_true, Bool.not_false, Bool.true_eq_false, Bool.false_eq_true, Int.reduceLT, Int.reduceLE, Int.reduceGT, Int.reduceGE, decide_true, decide_false, Bool.not_eq_true, loopN_norm, loopN_exit, tf, ft, ff, ev_dreg, dregK_nil, dregK_cons, dregE_true, dregP_some, dregX_some, d_mov, d_bin, d_eq, d_pick, d_un, d_conv, d_b2s, d_len, d_load, d_iaddr, d_slice, d_ext, d_call, d_store, chk_done, chk_none, chk_some, chkG_true, chkG_false, chkOne_nil, chkOne_cons, chkH_some, chkV_same, stage_none, stage_some, look_hit, look_miss, news_nil, wb_cons, wb_nil, skip0, List.reverse_cons, List.reverse_nil, bneI, lx, v1, v2, v5, v6, p_iaddr, m1, p_faddr, op_faddr, d_faddr, d_nilchk, p_nilchk, p_load, AV.ofCells, Nat.mul_one, q0, ekk', e3, e4, e5, w1, w2, w3, eqq]
            exact ⟨_, _, rfl, [], by simp, g4, r4, he.trans xx, rfl⟩
      · right
        have hin : i = n := by omega
        subst hin
        have v1 : decide ((i : Int) < (i : Int)) = false := geNat (Nat.le_refl _)
        simp only [enter_eq, ev_seq, seqK_norm, seqK_exit, seqK_ret, ev_reg, ev_cond, condK_true, condK_false, ev_block, blockK_norm, blockK_ret, blockK_exit, ev_loop, ev_skip, ev_exit, ev_ret, regK_cons, regK_nil, guard_none, guard_some, regG_true, regG_false, regO_some, op_mov, op_conv, op_bin, op_bsl, op_box, op_mks, op_s2b, op_pick, op_un, op_eq, op_len, op_ext, op_load, op_iaddr, op_slice, op_b2s, op_idxS, op_mx, op_mn, op_call, op_store, op_app, op_copy, args_eq, result_one', rv_loc, finish_norm, finish_ret, outK_some, keep_true, keep_false, keep_nil, p_bin, p_pick, p_un, p_eq, p_conv, evNew, pureK_some, newK_some, X.eval, set_none, set_some, List.map_cons, List.map_nil, List.getD_cons_zero, List.getD_cons_succ, List.getD_nil, List.set_cons_zero, List.set_cons_succ, binCV, unCV, isShift, intArithF_eq, shiftF_eq, wrapF_eq, intArith, shift, eqVal, bound, asNat_cast, cond_true, cond_false, BEq.rfl, beq_self_eq_true, evalParts, fillParts, AV.cells, AV.ofCells, XV.av, AV.xv, List.length_cons, List.length_nil, zeros, patch, setMany, List.nil_append, List.cons_append, Nat.ble, Nat.add_eq, Nat.zero_add, Nat.add_zero, Nat.reduceAdd, Nat.reduceMul, Nat.reduceSub, Nat.ble_eq, Nat.reduceLeDiff, Nat.reduceBEq, Int.reduceBEq, Int.reduceNeg, Bool.and_true, Bool.and_false, Bool.true_and, Bool.false_and, Bool.not_true, Bool.not_false, Bool.true_eq_false, Bool.false_eq_true, Int.reduceLT, Int.reduceLE, Int.reduceGT, Int.reduceGE, decide_true, decide_false, Bool.not_eq_true, loopN_norm, loopN_exit, tf, ft, ff, lx, v1]
        exact ⟨_, rfl, by simp, _, _, _, _, rfl⟩
    obtain ⟨r, hr, a0, a1, l, h', rfl⟩ := L [.c x, .c (.bool false), .c (.ptr p 0), .c (.ptr q 0), .c (.int .i64 0), .tup [], .c (.bool false), .c (.bool false), .tup [], .tup [], .tup [], .tup [], .tup [], .tup [], .tup []] rfl
    rw [hq, ← hh2] at hr
    simp only [enter_eq, ev_seq, seqK_norm, seqK_exit, seqK_ret, ev_reg, ev_cond, condK_true, condK_false, ev_block, blockK_norm, blockK_ret, blockK_exit, ev_loop, ev_skip, ev_exit, ev_ret, regK_cons, regK_nil, guard_none, guard_some, regG_true, regG_false, regO_some, op_mov, op_conv, op_bin, op_bsl, op_box, op_mks, op_s2b, op_pick, op_un, op_eq, op_len, op_ext, op_load, op_iaddr, op_slice, op_b2s, op_idxS, op_mx, op_mn, op_call, op_store, op_app, op_copy, args_eq, result_one', rv_loc, finish_norm, finish_ret, outK_some, keep_true, keep_false, keep_nil, p_bin, p_pick, p_un, p_eq, p_conv, evNew, pureK_some, newK_some, X.eval, set_none, set_some, List.map_cons, List.map_nil, List.getD_cons_zero, List.getD_cons_succ, List.getD_nil, List.set_cons_zero, List.set_cons_succ, binCV, unCV, isShift, intArithF_eq, shiftF_eq, wrapF_eq, intArith, shift, eqVal, bound, asNat_cast, cond_true, cond_false, BEq.rfl, beq_self_eq_true, evalParts, fillParts, AV.cells, AV.ofCells, XV.av, AV.xv, List.length_cons, List.length_nil, zeros, patch, setMany, List.nil_append, List.cons_append, Nat.ble, Nat.add_eq, Nat.zero_add, Nat.add_zero, Nat.reduceAdd, Nat.reduceMul, Nat.reduceSub, Nat.ble_eq, Nat.reduceLeDiff, Nat.reduceBEq, Int.reduceBEq, Int.reduceNeg, Bool.and_true, Bool.and_false, Bool.true_and, Bool.false_and, Bool.not_true, Bool.not_false, Bool.true_eq_false, Bool.false_eq_true, Int.reduceLT, Int.reduceLE, Int.reduceGT, Int.reduceGE, decide_true, decide_false, Bool.not_eq_true, loopN_norm, loopN_exit, tf, ft, ff, op_build, p_build', e1, lx, v0, hr, blockK_exit_eq, evCallT_told]
    rfl
  · have v0 : decide ((n : Int) > 200) = true := by simp; omega
    simp only [enter_eq, ev_seq, seqK_norm, seqK_exit, seqK_ret, ev_reg, ev_cond, condK_true, condK_false, ev_block, blockK_norm, blockK_ret, blockK_exit, ev_loop, ev_skip, ev_exit, ev_ret, regK_cons, regK_nil, guard_none, guard_some, regG_true, regG_false, regO_some, op_mov, op_conv, op_bin, op_bsl, op_box, op_mks, op_s2b, op_pick, op_un, op_eq, op_len, op_ext, op_load, op_iaddr, op_slice, op_b2s, op_idxS, op_mx, op_mn, op_call, op_store, op_app, op_copy, args_eq, result_one', rv_loc, finish_norm, finish_ret, outK_some, keep_true, keep_false, keep_nil, p_bin, p_pick, p_un, p_eq, p_conv, evNew, pureK_some, newK_some, X.eval, set_none, set_some, List.map_cons, List.map_nil, List.getD_cons_zero, List.getD_cons_succ, List.getD_nil, List.set_cons_zero, List.set_cons_succ, binCV, unCV, isShift, intArithF_eq, shiftF_eq, wrapF_eq, intArith, shift, eqVal, bound, asNat_cast, cond_true, cond_false, BEq.rfl, beq_self_eq_true, evalParts, fillParts, AV.cells, AV.ofCells, XV.av, AV.xv, List.length_cons, List.length_nil, zeros, patch, setMany, List.nil_append, List.cons_append, Nat.ble, Nat.add_eq, Nat.zero_add, Nat.add_zero, Nat.reduceAdd, Nat.reduceMul, Nat.reduceSub, Nat.ble_eq, Nat.reduceLeDiff, Nat.reduceBEq, Int.reduceBEq, Int.reduceNeg, Bool.and_true, Bool.and_false, Bool.true_and, Bool.false_and, Bool.not_true, Bool.not_false, Bool.true_eq_false, Bool.false_eq_true, Int.reduceLT, Int.reduceLE, Int.reduceGT, Int.reduceGE, decide_true, decide_false, Bool.not_eq_true, loopN_norm, loopN_exit, tf, ft, ff, op_build, p_build', e1, lx, v0, evCallT_told]
    rfl

end Lav

namespace Go.Proofs.Ytdjdodcihffemaa.ringPlays
open Go.ChangeShapes Go.WideShapes Go.ChangeAt Go.RowKit
open Go.ChangeMaps (open_string shut_string)
set_option linter.unusedVariables false

theorem own : ownKnob Try.prog.godebug = none := by kernel_rfl
theorem laidOut : laidOutB Try.prog = true := by kernel_rfl

/-- What the walk is told of a slice of records of ints that came in: it is nil; or it leads to a row of 'cap' records, 'sz' cells each. -/
def IsRecs (sz : Nat) (w : World) (a : Option Addr) (len cap : Nat) (zs : List Int) : Prop :=
  (a = none ∧ len = 0 ∧ cap = 0 ∧ zs = []) ∨
  ∃ x, a = some x ∧ len ≤ cap ∧ cap ≤ maxLen ∧ zs.length = cap * sz ∧ (∀ i, i < zs.length → w.cell? (x.add i) = some (.int .i64 (zs.getD i 0))) ∧ ∀ n ∈ zs, (Lit.int .i64 n).wf = true

theorem walk (a0 : Option Addr) (len0 cap0 : Nat) (z0 : List Int) (w : World) (w0 : IsRecs 2 w a0 len0 cap0 z0) :
    Calls Try.prog 4 #[.slice a0 len0 cap0] w fun e w' => e = .returned (.bool true) ∧ Below w.heap.size w w' := by
  obtain ⟨ι, h, x, I, hle, hx, hr⟩ := (Lav.Init.empty w).recs (sz := 2) (by omega) w0
  exact Lav.walk_of (Lav.evCallT_sound Lav.mixed Lav.table_ok Lav.tld8 300 9) I (args := [.c x]) (vs := [.slice a0 len0 cap0]) ⟨hx, trivial⟩ (Lav.ringPlays (Lav.recs_of hr))

set_option maxRecDepth 100000 in
theorem lifted (os : Os) (started : os.Started) (H : Type) (enc : TypeId × Value → H) :
    ReturnsInHanded {} Try.checked os 4 .any (Rows.ringPlaysSpec.pre6 enc Try.prog Try.f4 Rows.ringPlaysRow.domain false) (Rows.ringPlaysSpec.post enc Try.prog Try.f4 false true false false) := by
  refine returnsInHanded_of_change (C := Try.checked) own started (by kernel_rfl) Try.func4
    (ChangeSpec.witness6 (enc := enc) (C := Try.checked) false ⟨#[], #[.slice none 0 0], []⟩ 8 (by kernel_rfl) (by kernel_rfl) (by kernel_rfl) (by kernel_rfl)) ?_
  intro W base args ds gs before hval0 hW hcnd _
  have hval : ∀ (j : Nat) t v, Try.f4.params[j]? = some t → args[j]? = some v → Value.okWide Try.prog W .any base t v := hval0
  have hW' := hW
  obtain ⟨p, q, hA0, hV, rfl, hfz, hnd⟩ := hW
  have hA : DataW.TrodAll enc Try.prog W 0 (fun _ => true) true Try.f4.params.toList args.toList ds p := hA0
  rw [Try.params4] at hA hval
  obtain ⟨v0, vs0, d0, ds0, p0, q0, hargs, rfl, rfl, h0, r0⟩ := trodAll_cons hA
  obtain ⟨rfl, rfl, rfl⟩ := trodAll_nil r0
  obtain rfl : args = #[v0] := by cases args; simp_all
  obtain ⟨rfl, rfl⟩ := trodVars_none hV
  obtain ⟨a0, len0, cap0, rfl⟩ := okWide_slice Try.underlying31 (hval 0 31 v0 rfl rfl)
  have k0 := h0
  have lt0 : ∀ x ∈ p0, x.block < W.heap.size := by obtain ⟨m, hm⟩ := k0; exact DataW.trod_lt m _ _ _ hm
  obtain ⟨z0, w0⟩ : ∃ zs, IsRecs 2 W a0 len0 cap0 zs := by
    obtain ⟨fuel, hf⟩ := h0
    rcases Lav.open_recs (sz := 2) Try.underlying31 Try.underlying36 (by kernel_rfl) (by
        intro j hj
        match j, hj with
        | 0, _ => exact ⟨0, _, rfl, rfl, Try.underlying3, by kernel_rfl⟩
        | 1, _ => exact ⟨1, _, rfl, rfl, Try.underlying3, by kernel_rfl⟩
        | j + 2, hj => omega) hf with hcs | ⟨x, l, c, zs, hcs, hl, hm, hz, hcell, hwz⟩
    · simp [Value.cells] at hcs
      obtain ⟨rfl, rfl, rfl⟩ := hcs
      exact ⟨[], .inl ⟨rfl, rfl, rfl, rfl⟩⟩
    · simp [Value.cells] at hcs
      obtain ⟨rfl, rfl, rfl⟩ := hcs
      exact ⟨zs, .inr ⟨_, rfl, hl, hm, by simpa using hz, hcell, hwz⟩⟩
  clear hA0 hval0
  refine (walk a0 len0 cap0 z0 W w0).mono fun e W' ⟨he, bel⟩ => ?_
  subst he
  exact ⟨_, rfl, _, _, _, [], _, [], hW', trodAll_mk1 (shut_bool Try.underlying4 _), (trodAll_cons_mk (Below.trod laidOut (by kernel_rfl) (of_decide_eq_true (by kernel_rfl)) k0 bel lt0) trodAll_mk0), rfl, bel.frame _, fun h => by cases h⟩

theorem over : Rows.ringPlaysRow.holds Try.pinned (OpenSpec.ofChange Rows.ringPlaysSpec) :=
  OpenClaim.holds_of_wide 4 Try.f4 rfl rfl rfl rfl rfl rfl rfl ⟨rfl, rfl, rfl, rfl, rfl⟩ rfl rfl rfl rfl rfl (by kernel_rfl) Try.func4 (by kernel_rfl)
    (of_decide_eq_true (by kernel_rfl)) (by unfold Func.isWrapper; first | (rw [if_pos (by decide +kernel)]; kernel_rfl) | (rw [if_neg (by decide +kernel)]; exact ⟨rfl, rfl⟩))
    (fun os started H enc _ => lifted os started H enc)

theorem proved : Rows.RingPlaysSaid := over
end Go.Proofs.Ytdjdodcihffemaa.ringPlays
