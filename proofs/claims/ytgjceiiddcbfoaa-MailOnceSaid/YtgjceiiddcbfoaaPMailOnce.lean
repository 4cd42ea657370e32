/-
  Proved: whatever steps come in, lavabolaw9.MailOnce returns true and changes nothing that was there. No conditions beyond the given statement's.
-/
import Derived.Test.YtgjceiiddcbfoaaRows
import Derived.Test.YtgjceiiddcbfoaaFwP
import Derived.Test.YtgjceiiddcbfoaaOps0
import Derived.Test.YtgjceiiddcbfoaaMail1
import Derived.Test.YtgjceiiddcbfoaaMail2
import Derived.Test.YtgjceiiddcbfoaaMail3
import Derived.Test.YtgjceiiddcbfoaaMail4
import Derived.Test.YtgjceiiddcbfoaaMail5
import Derived.WalkKit
import Derived.ProofKit
import Derived.OpenShut
import Derived.ShutString
import Derived.ChangeOld
import Derived.Below
set_option maxRecDepth 100000
set_option linter.unusedSimpArgs false
namespace Lav
open Go (IntKind)
theorem tld9 : ToldOK Go.Proofs.Try.prog 13 := told_of (calls_okF 200 9) (by kernel_rfl)
abbrev J15 : List AV := [.junk, .junk, .junk, .junk, .junk, .junk, .junk, .junk, .junk, .junk, .junk, .junk, .junk, .junk, .junk]
abbrev Ot (x y : CV) (p b3 b4 b5 i : Nat) : List AV := .c x :: .junk :: .c (.ptr p 0) :: .c (.ptr b3 0) :: .c (.ptr b4 0) :: .c (.ptr b5 0) :: .c y :: .c (.int .i64 (i : Int)) :: .junk :: .junk :: .junk :: .junk :: J15
abbrev In (x y z : CV) (p b3 b4 b5 i k : Nat) : List AV := .c x :: .junk :: .c (.ptr p 0) :: .c (.ptr b3 0) :: .c (.ptr b4 0) :: .c (.ptr b5 0) :: .c y :: .c (.int .i64 (i : Int)) :: .junk :: .junk :: .c z :: .c (.int .i64 (k : Int)) :: J15

section
variable {h : Heap} {p w b3 b4 b5 A B m bx ox : Nat} {cs : List Nat} {sent got heard : Nat → Nat} {T R : List Nat} {y : CV} {cc : Cap} {xs : List Int}

theorem wds_at (sent : Nat → Nat) (T : List Nat) {k : Nat} (hk : k < T.length) : (wds sent T)[k]'(by simpa [wds] using hk) = ((T[k] : Int), ((100 * T[k] + sent T[k] - 1 : Nat) : Int)) := by simp [wds]

theorem inner (x z : CV) (i : Nat) (O : On h p w cs b3 b4 b5 A B sent got heard T R y) (hz : Recs 2 h z T.length (flat (wds sent T))) (zb : ∀ k, blk z = some k → B ≤ k ∧ blk y ≠ some k) :
    ∀ loc, keepOnly ir4_k0 loc = In x y z p b3 b4 b5 i 0 → ∃ r, loopK (evCallT table 13 200 8) 200 ir4_k0 ir4_l0 200 loc h = some r ∧
      ∃ got' y' h', r = (.exit 3, [.c x, .junk, .c (.ptr p 0), .c (.ptr b3 0), .c (.ptr b4 0), .c (.ptr b5 0), .c y', .c (.int .i64 (i : Int)), .junk, .junk, .c z, .c (.int .i64 (T.length : Int)), .junk, .junk, .junk, .junk, .junk, .junk, .junk, .junk, .junk, .junk, .junk, .junk, .c (.bool false), .junk, .junk], h') ∧ On h' p w cs b3 b4 b5 A B sent got' heard [] R y' ∧ Old A h h' := by
  have bneI : ∀ {a b : Int}, (a != b) = !(a == b) := rfl
  intro loc hloc
  refine loop_inv (n := T.length) (fun k loc h' => ∃ got' y', On h' p w cs b3 b4 b5 A B sent got' heard (T.drop k) R y' ∧ Recs 2 h' z T.length (flat (wds sent T)) ∧ blk y' = blk y ∧ Old A h h' ∧ loc = In x y' z p b3 b4 b5 i k) _ ?_ ⟨got, y, O, hz, rfl, Old.refl, hloc⟩ (by have := O.r8; simp at this; omega)
  rintro k loc h' hk ⟨got', y', O', hz', hyy, old, rfl⟩
  have lz : ∀ (loc vals : List AV) (h : Heap), evPure loc (.c z :: vals) h (.len .sl (.val 0)) = some (.c (.int .i64 (T.length : Int))) := fun _ _ _ => hz'.len rfl
  unfold ir4_l0
  have r8 := O.r8
  rw [List.length_append] at r8
  by_cases hlt : k < T.length
  · left
    refine ⟨hlt, ?_⟩
    have v1 : decide ((k : Int) < (T.length : Int)) = true := ltNat hlt
    have v2 := succI (i := k) (by omega)
    have m1 : Nat.blt k T.length = true := bltT hlt
    rw [List.drop_eq_getElem_cons hlt] at O'
    obtain ⟨t, ht⟩ : ∃ t, t = T[k] := ⟨_, rfl⟩
    rw [← ht] at O'
    have h12 := O'.lt t (by simp)
    have hin := O'.inn t (by simp)
    have hbig := O'.big t
    obtain ⟨iz, oz, cz, ez, _, rz⟩ := hz'.sl (by omega)
    have z0 := rz k 0 hlt (by omega)
    have z1 := rz k 1 hlt (by omega)
    have fa := flat_at (wds sent T) (i := k) (by simpa [wds] using hlt)
    rw [wds_at sent T hlt, ← ht] at fa
    rw [Nat.add_zero, Nat.add_zero, fa.1] at z0
    rw [fa.2] at z1
    simp only at z0 z1
    have q0 := O'.qu
    rw [List.cons_append] at q0
    obtain ⟨iq, oq, ey, rq, q1⟩ := q0.first
    have hyb : blk (CV.sl iq (oq + 1) ((T.drop (k + 1)) ++ R).length (.dy 1)) = blk y' := by rw [ey]; rfl
    obtain ⟨W, h1, e1, e2, O1, old1, xx⟩ := on_answer (N := 200) (d := 6) O' q1 hyb
    have e1' : evCallT table 13 200 8 19 [.c (.ptr p 0), .c (.int .i64 (t : Int)), .c (.int .i64 ((7 * (100 * t + sent t - 1) : Nat) : Int))] (h'.put b4 (.cells (nums (upd1 got' t)))) = some (.c (.int .i64 0), h1) := e1
    have e2' : evCallT table 13 200 8 19 [.c (.ptr p 0), .c (.int .i64 (t : Int)), .c (.int .i64 1)] h1 = some (.c (.int .i64 2), h1) := e2
    obtain ⟨n, hn⟩ : ∃ n, n = ((T.drop (k + 1)) ++ R).length := ⟨_, rfl⟩
    rw [← hn] at ey q1 O1
    have hn8 : n ≤ 8 := by rw [hn]; simp; omega
    have ly : ∀ (loc vals : List AV) (h : Heap), evPure loc (.c (.sl iq oq (n + 1) (.dy 1)) :: vals) h (.len .sl (.val 0)) = some (.c (.int .i64 ((n + 1 : Nat) : Int))) := fun _ _ _ => rfl
    have lq : (((n + 1 : Nat) : Int) == 0) = false := by simp; omega
    have sl : ∀ (loc vals : List AV) (H : Heap), evPure loc (.c (.sl iq oq (n + 1) (.dy 1)) :: vals) H (.slice 1 (.val 0) (some (.k (.c (.int .i64 1)))) none none) = some (.c (.sl iq (oq + 1) n (.dy 1))) := fun loc vals H => by
      have b1 : Nat.ble 1 (n + 1) = true := Nat.ble_eq_true_of_le (by omega)
      have b2 : Nat.ble (n + 1) (n + 1) = true := Nat.ble_eq_true_of_le (by omega)
      simp only [evPure, X.eval, List.getD_cons_zero, bound, asNat, b1, b2, Bool.true_and, BEq.rfl, cond_true, Nat.one_mul, Nat.add_sub_cancel]
    have xz : ∀ k, blk z = some k → k ∉ b4 :: p :: w :: cs := fun k' hk' hS => by
      have h1 := (zb k' hk').1
      rcases List.mem_cons.1 hS with rfl | hS
      · have := O.lo k' (by simp); omega
      rcases List.mem_cons.1 hS with rfl | hS
      · have := O.lo k' (by simp); omega
      rcases List.mem_cons.1 hS with rfl | hS
      · have := O.lo k' (by simp); omega
      · have := O.loc k' hS; omega
    have hz1 := hz'.extB xx xz
    have x4 : ExtB [b4] h' (h'.put b4 (.cells (nums (upd1 got' t)))) := (ExtB.refl _ _).put (.inr (by simp)) _
    have hz4 := hz'.extB x4 fun k' hk' hS => xz k' hk' (by simp at hS; simp [hS])
    subst ez
    have y0 : ∀ {H}, Recs 2 H (.sl iz oz T.length cz) T.length (flat (wds sent T)) → H.read iz (oz + k * 2) 1 = some [.int .i64 (t : Int)] := fun {H} hr => by
      have := hr.at_ (i := k) (k := 0) hlt (by omega)
      rw [Nat.add_zero, Nat.add_zero, fa.1] at this; exact this
    have y1 : ∀ {H}, Recs 2 H (.sl iz oz T.length cz) T.length (flat (wds sent T)) → H.read iz (oz + k * 2 + 1) 1 = some [.int .i64 ((100 * t + sent t - 1 : Nat) : Int)] := fun {H} hr => by
      have := hr.at_ (i := k) (k := 1) hlt (by omega)
      rw [fa.2] at this; exact this
    subst ey
    have a0 : asNat (.c (.int .i64 0)) = some 0 := rfl
    have a1 : asNat (.c (.int .i64 1)) = some 1 := rfl
    have m2 : Nat.blt 0 2 = true := rfl
    have m3 : Nat.blt 1 2 = true := rfl
    have m4 : Nat.blt 0 (n + 1) = true := bltT (by omega)
    have m5 : Nat.blt t 12 = true := bltT h12
    have w1 : IntKind.i64.wrap (100 * (t : Int)) = ((100 * t : Nat) : Int) := by rw [wrapI (by omega) (by omega)]; omega
    have w2 : IntKind.i64.wrap (((100 * t : Nat) : Int) + (sent t : Int)) = ((100 * t + sent t : Nat) : Int) := by rw [wrapI (by omega) (by omega)]; omega
    have w3 : IntKind.i64.wrap (((100 * t + sent t : Nat) : Int) - 1) = ((100 * t + sent t - 1 : Nat) : Int) := by rw [wrapI (by omega) (by omega)]; omega
    have w4 : IntKind.i64.wrap (7 * ((100 * t + sent t - 1 : Nat) : Int)) = ((7 * (100 * t + sent t - 1) : Nat) : Int) := by rw [wrapI (by omega) (by omega)]; omega
    have w5 := succI (i := got' t) (by omega)
    have r3 := O'.r3 h12
    have r4 := O'.r4 h12
    simp only [enter_eq, ev_seq, seqK_norm, seqK_exit, seqK_ret, ev_reg, ev_cond, condK_true, condK_false, ev_block, blockK_norm, blockK_ret, blockK_exit, ev_loop, ev_skip, ev_exit, ev_ret, regK_cons, regK_nil, guard_none, guard_some, regG_true, regG_false, regO_some, op_mov, op_conv, op_bin, op_bsl, op_box, op_mks, op_s2b, op_pick, op_un, op_eq, op_len, op_ext, op_load, op_iaddr, op_slice, op_b2s, op_idxS, op_mx, op_mn, op_call, op_store, op_app, op_copy, args_eq, result_one', rv_loc, finish_norm, finish_ret, outK_some, keep_true, keep_false, keep_nil, p_bin, p_pick, p_un, p_eq, p_conv, evNew, pureK_some, newK_some, X.eval, set_none, set_some, List.map_cons, List.map_nil, List.getD_cons_zero, List.getD_cons_succ, List.getD_nil, List.set_cons_zero, List.set_cons_succ, binCV, unCV, isShift, intArithF_eq, shiftF_eq, wrapF_eq, intArith, shift, eqVal, bound, asNat_cast, cond_true, cond_false, BEq.rfl, beq_self_eq_true, evalParts, fillParts, AV.cells, AV.ofCells, XV.av, AV.xv, List.length_cons, List.length_nil, zeros, patch, setMany, List.nil_append, List.cons_append, Nat.ble, Nat.add_eq, Nat.zero_add, Nat.add_zero, Nat.reduceAdd, Nat.reduceMul, Nat.reduceSub, Nat.ble_eq, Nat.reduceLeDiff, Nat.reduceBEq, Int.reduceBEq, Int.reduceNeg, Bool.and_true, Bool.and_false, Bool.true_and, Bool.false_and, Bool.not_true, Bool.not_false, Bool.true_eq_false, Bool.false_eq_true, Int.reduceLT, Int.reduceLE, Int.reduceGT, Int.reduceGE, decide_true, decide_false, Bool.not_eq_true, loopN_norm, loopN_exit, tf, ft, ff, ev_dreg, dregK_nil, dregK_cons, dregE_true, dregP_some, dregX_some, d_mov, d_bin, d_eq, d_pick, d_un, d_conv, d_b2s, d_len, d_load, d_iaddr, d_slice, d_ext, d_call, d_store, chk_done, chk_none, chk_some, chkG_true, chkG_false, chkOne_nil, chkOne_cons, chkH_some, chkV_same, stage_none, stage_some, look_hit, look_miss, news_nil, wb_cons, wb_nil, skip0, List.reverse_cons, List.reverse_nil, bneI, lz, ly, lq, v1, v2, m1, m2, m3, m4, m5, a0, a1, p_iaddr, op_iaddrA, d_iaddrA, p_iaddrA, p_load, AV.ofCells, Nat.zero_mul, Nat.mul_one, y0 hz', y1 hz', y0 hz1, y1 hz1, y0 hz4, y1 hz4, rq, r3, r4, w1, w2, w3, w4, w5, sl, evEff, W, e1', e2']
    exact ⟨_, _, rfl, _, _, O1, hz1, hyb.trans hyy, old.trans old1, rfl⟩
  · right
    have hin : k = T.length := by omega
    subst hin
    have v1 : decide ((T.length : Int) < (T.length : Int)) = false := geNat (Nat.le_refl _)
    rw [List.drop_of_length_le (Nat.le_refl _)] at O'
    simp only [enter_eq, ev_seq, seqK_norm, seqK_exit, seqK_ret, ev_reg, ev_cond, condK_true, condK_false, ev_block, blockK_norm, blockK_ret, blockK_exit, ev_loop, ev_skip, ev_exit, ev_ret, regK_cons, regK_nil, guard_none, guard_some, regG_true, regG_false, regO_some, op_mov, op_conv, op_bin, op_bsl, op_box, op_mks, op_s2b, op_pick, op_un, op_eq, op_len, op_ext, op_load, op_iaddr, op_slice, op_b2s, op_idxS, op_mx, op_mn, op_call, op_store, op_app, op_copy, args_eq, result_one', rv_loc, finish_norm, finish_ret, outK_some, keep_true, keep_false, keep_nil, p_bin, p_pick, p_un, p_eq, p_conv, evNew, pureK_some, newK_some, X.eval, set_none, set_some, List.map_cons, List.map_nil, List.getD_cons_zero, List.getD_cons_succ, List.getD_nil, List.set_cons_zero, List.set_cons_succ, binCV, unCV, isShift, intArithF_eq, shiftF_eq, wrapF_eq, intArith, shift, eqVal, bound, asNat_cast, cond_true, cond_false, BEq.rfl, beq_self_eq_true, evalParts, fillParts, AV.cells, AV.ofCells, XV.av, AV.xv, List.length_cons, List.length_nil, zeros, patch, setMany, List.nil_append, List.cons_append, Nat.ble, Nat.add_eq, Nat.zero_add, Nat.add_zero, Nat.reduceAdd, Nat.reduceMul, Nat.reduceSub, Nat.ble_eq, Nat.reduceLeDiff, Nat.reduceBEq, Int.reduceBEq, Int.reduceNeg, Bool.and_true, Bool.and_false, Bool.true_and, Bool.false_and, Bool.not_true, Bool.not_false, Bool.true_eq_false, Bool.false_eq_true, Int.reduceLT, Int.reduceLE, Int.reduceGT, Int.reduceGE, decide_true, decide_false, Bool.not_eq_true, loopN_norm, loopN_exit, tf, ft, ff, lz, v1]
    exact ⟨_, rfl, by simp, _, _, _, rfl, O', old⟩
theorem stepHeld (O : On h p w cs b3 b4 b5 A B sent got heard [] R y) (hx : Recs 3 h (.sl bx ox m cc) m xs) {i t : Nat} (hi : i < m) (hi2 : i < 150) (ht : t < 12) (et : IntKind.i64.wrap (Int.tmod (IntKind.u64.wrap (xs.getD (i * 3 + 1) 0)) 12) = (t : Int)) {K : Int} (eK : IntKind.i64.wrap ((BitVec.ofInt IntKind.i64.bits (xs.getD (i * 3) 0) &&& BitVec.ofInt IntKind.i64.bits 3).toNat : Int) = K) (hK : (K == 0) = true) (hs : ∀ j, sent j ≤ i) (hn : sent t ≠ heard t) :
    ∃ l H sent' got' heard' R' y', ev (evCallT table 13 200 8) 200 ir4_l1 (Ot (.sl bx ox m cc) y p b3 b4 b5 i) h = some (.norm, l, H) ∧ keepOnly ir4_k1 l = Ot (.sl bx ox m cc) y' p b3 b4 b5 (i + 1) ∧ On H p w cs b3 b4 b5 A B sent' got' heard' [] R' y' ∧ (∀ j, sent' j ≤ i + 1) ∧ Old A h H := by
  have bneI : ∀ {a b : Int}, (a != b) = !(a == b) := rfl
  have lx : ∀ (loc vals : List AV) (h : Heap), evPure loc (.c (.sl bx ox m cc) :: vals) h (.len .sl (.val 0)) = some (.c (.int .i64 (m : Int))) := fun _ _ _ => hx.len rfl
  have ly : ∀ (loc vals : List AV) (h : Heap), evPure loc (.c y :: vals) h (.len .sl (.val 0)) = some (.c (.int .i64 (R.length : Int))) := fun _ _ _ => O.qu.len rfl
  have v1 : decide ((i : Int) < (m : Int)) = true := ltNat hi
  have v3 : decide ((i : Int) < 150) = true := decide_eq_true (by omega)
  have v2 := succI (i := i) (by omega)
  have m1 : Nat.blt i m = true := bltT hi
  have m5 : Nat.blt t 12 = true := bltT ht
  have k0 := hx.at_ (i := i) (k := 0) hi (by omega)
  have k1 := hx.at_ (i := i) (k := 1) hi (by omega)
  simp only [Nat.add_zero] at k0
  have hbig := O.big t
  have w1 : IntKind.i64.wrap (100 * (t : Int)) = ((100 * t : Nat) : Int) := by rw [wrapI (by omega) (by omega)]; omega
  have w2 : IntKind.i64.wrap (((100 * t : Nat) : Int) + (sent t : Int)) = ((100 * t + sent t : Nat) : Int) := by rw [wrapI (by omega) (by omega)]; omega
  have r3 := O.r3 ht
  have r4 := O.r4 ht
  have r5 := O.r5 ht
  have e1 : evCallT table 13 200 8 14 [.c (.ptr p 0), .c (.int .i64 (t : Int)), .c (.int .i64 ((100 * t + sent t : Nat) : Int))] h = some (.c (.int .i64 13), h) := on_held (N := 200) (d := 6) O ht hn _
  have q1 : ((sent t : Int) == (heard t : Int)) = false := by simp; omega
  unfold ir4_l1
  simp only [enter_eq, ev_seq, seqK_norm, seqK_exit, seqK_ret, ev_reg, ev_cond, condK_true, condK_false, ev_block, blockK_norm, blockK_ret, blockK_exit, ev_loop, ev_skip, ev_exit, ev_ret, regK_cons, regK_nil, guard_none, guard_some, regG_true, regG_false, regO_some, op_mov, op_conv, op_bin, op_bsl, op_box, op_mks, op_s2b, op_pick, op_un, op_eq, op_len, op_ext, op_load, op_iaddr, op_slice, op_b2s, op_idxS, op_mx, op_mn, op_call, op_store, op_app, op_copy, args_eq, result_one', rv_loc, finish_norm, finish_ret, outK_some, keep_true, keep_false, keep_nil, p_bin, p_pick, p_un, p_eq, p_conv, evNew, pureK_some, newK_some, X.eval, set_none, set_some, List.map_cons, List.map_nil, List.getD_cons_zero, List.getD_cons_succ, List.getD_nil, List.set_cons_zero, List.set_cons_succ, binCV, unCV, isShift, intArithF_eq, shiftF_eq, wrapF_eq, intArith, shift, eqVal, bound, asNat_cast, cond_true, cond_false, BEq.rfl, beq_self_eq_true, evalParts, fillParts, AV.cells, AV.ofCells, XV.av, AV.xv, List.length_cons, List.length_nil, zeros, patch, setMany, List.nil_append, List.cons_append, Nat.ble, Nat.add_eq, Nat.zero_add, Nat.add_zero, Nat.reduceAdd, Nat.reduceMul, Nat.reduceSub, Nat.ble_eq, Nat.reduceLeDiff, Nat.reduceBEq, Int.reduceBEq, Int.reduceNeg, Bool.and_true, Bool.and_false, Bool.true_and, Bool.false_and, Bool.not_true, Bool.not_false, Bool.true_eq_false, Bool.false_eq_true, Int.reduceLT, Int.reduceLE, Int.reduceGT, Int.reduceGE, decide_true, decide_false, Bool.not_eq_true, loopN_norm, loopN_exit, tf, ft, ff, ev_dreg, dregK_nil, dregK_cons, dregE_true, dregP_some, dregX_some, d_mov, d_bin, d_eq, d_pick, d_un, d_conv, d_b2s, d_len, d_load, d_iaddr, d_slice, d_ext, d_call, d_store, chk_done, chk_none, chk_some, chkG_true, chkG_false, chkOne_nil, chkOne_cons, chkH_some, chkV_same, stage_none, stage_some, look_hit, look_miss, news_nil, wb_cons, wb_nil, skip0, List.reverse_cons, List.reverse_nil, bneI, lx, ly, v1, v2, v3, m1, m5, p_iaddr, p_faddr, op_faddr, op_iaddrA, d_iaddrA, p_iaddrA, p_load, AV.ofCells, Nat.mul_one, k0, k1, et, eK, w1, w2, r3, r4, r5, d_mov_not, d_call_not, d_bin_not, d_eq_not, d_un_not, d_pick_not, d_load_not, d_len_not, d_faddr_not, d_nilchk_not, d_iaddr_not, d_iaddrA_not, hK, e1, q1]
  refine ⟨_, _, sent, got, heard, R, y, rfl, ?_, O, fun j => Nat.le_succ_of_le (hs j), Old.refl⟩; rfl

theorem stepFull (O : On h p w cs b3 b4 b5 A B sent got heard [] R y) (hx : Recs 3 h (.sl bx ox m cc) m xs) {i t : Nat} (hi : i < m) (hi2 : i < 150) (ht : t < 12) (et : IntKind.i64.wrap (Int.tmod (IntKind.u64.wrap (xs.getD (i * 3 + 1) 0)) 12) = (t : Int)) {K : Int} (eK : IntKind.i64.wrap ((BitVec.ofInt IntKind.i64.bits (xs.getD (i * 3) 0) &&& BitVec.ofInt IntKind.i64.bits 3).toNat : Int) = K) (hK : (K == 0) = true) (hs : ∀ j, sent j ≤ i) (hn : sent t = heard t) (h8 : 8 ≤ R.length) :
    ∃ l H sent' got' heard' R' y', ev (evCallT table 13 200 8) 200 ir4_l1 (Ot (.sl bx ox m cc) y p b3 b4 b5 i) h = some (.norm, l, H) ∧ keepOnly ir4_k1 l = Ot (.sl bx ox m cc) y' p b3 b4 b5 (i + 1) ∧ On H p w cs b3 b4 b5 A B sent' got' heard' [] R' y' ∧ (∀ j, sent' j ≤ i + 1) ∧ Old A h H := by
  have bneI : ∀ {a b : Int}, (a != b) = !(a == b) := rfl
  have lx : ∀ (loc vals : List AV) (h : Heap), evPure loc (.c (.sl bx ox m cc) :: vals) h (.len .sl (.val 0)) = some (.c (.int .i64 (m : Int))) := fun _ _ _ => hx.len rfl
  have ly : ∀ (loc vals : List AV) (h : Heap), evPure loc (.c y :: vals) h (.len .sl (.val 0)) = some (.c (.int .i64 (R.length : Int))) := fun _ _ _ => O.qu.len rfl
  have v1 : decide ((i : Int) < (m : Int)) = true := ltNat hi
  have v3 : decide ((i : Int) < 150) = true := decide_eq_true (by omega)
  have v2 := succI (i := i) (by omega)
  have m1 : Nat.blt i m = true := bltT hi
  have m5 : Nat.blt t 12 = true := bltT ht
  have k0 := hx.at_ (i := i) (k := 0) hi (by omega)
  have k1 := hx.at_ (i := i) (k := 1) hi (by omega)
  simp only [Nat.add_zero] at k0
  have hbig := O.big t
  have w1 : IntKind.i64.wrap (100 * (t : Int)) = ((100 * t : Nat) : Int) := by rw [wrapI (by omega) (by omega)]; omega
  have w2 : IntKind.i64.wrap (((100 * t : Nat) : Int) + (sent t : Int)) = ((100 * t + sent t : Nat) : Int) := by rw [wrapI (by omega) (by omega)]; omega
  have r3 := O.r3 ht
  have r4 := O.r4 ht
  have r5 := O.r5 ht
  obtain ⟨h1, e1, O1, old⟩ : ∃ h', evCallT table 13 200 8 14 [.c (.ptr p 0), .c (.int .i64 (t : Int)), .c (.int .i64 ((100 * t + sent t : Nat) : Int))] h = some (.c (.int .i64 8), h') ∧ On h' p w cs b3 b4 b5 A B sent got heard [] R y ∧ Old A h h' := on_full (N := 200) (d := 6) O ht hn h8 _
  unfold ir4_l1
  simp only [enter_eq, ev_seq, seqK_norm, seqK_exit, seqK_ret, ev_reg, ev_cond, condK_true, condK_false, ev_block, blockK_norm, blockK_ret, blockK_exit, ev_loop, ev_skip, ev_exit, ev_ret, regK_cons, regK_nil, guard_none, guard_some, regG_true, regG_false, regO_some, op_mov, op_conv, op_bin, op_bsl, op_box, op_mks, op_s2b, op_pick, op_un, op_eq, op_len, op_ext, op_load, op_iaddr, op_slice, op_b2s, op_idxS, op_mx, op_mn, op_call, op_store, op_app, op_copy, args_eq, result_one', rv_loc, finish_norm, finish_ret, outK_some, keep_true, keep_false, keep_nil, p_bin, p_pick, p_un, p_eq, p_conv, evNew, pureK_some, newK_some, X.eval, set_none, set_some, List.map_cons, List.map_nil, List.getD_cons_zero, List.getD_cons_succ, List.getD_nil, List.set_cons_zero, List.set_cons_succ, binCV, unCV, isShift, intArithF_eq, shiftF_eq, wrapF_eq, intArith, shift, eqVal, bound, asNat_cast, cond_true, cond_false, BEq.rfl, beq_self_eq_true, evalParts, fillParts, AV.cells, AV.ofCells, XV.av, AV.xv, List.length_cons, List.length_nil, zeros, patch, setMany, List.nil_append, List.cons_append, Nat.ble, Nat.add_eq, Nat.zero_add, Nat.add_zero, Nat.reduceAdd, Nat.reduceMul, Nat.reduceSub, Nat.ble_eq, Nat.reduceLeDiff, Nat.reduceBEq, Int.reduceBEq, Int.reduceNeg, Bool.and_true, Bool.and_false, Bool.true_and, Bool.false_and, Bool.not_true, Bool.not_false, Bool.true_eq_false, Bool.false_eq_true, Int.reduceLT, Int.reduceLE, Int.reduceGT, Int.reduceGE, decide_true, decide_false, Bool.not_eq_true, loopN_norm, loopN_exit, tf, ft, ff, ev_dreg, dregK_nil, dregK_cons, dregE_true, dregP_some, dregX_some, d_mov, d_bin, d_eq, d_pick, d_un, d_conv, d_b2s, d_len, d_load, d_iaddr, d_slice, d_ext, d_call, d_store, chk_done, chk_none, chk_some, chkG_true, chkG_false, chkOne_nil, chkOne_cons, chkH_some, chkV_same, stage_none, stage_some, look_hit, look_miss, news_nil, wb_cons, wb_nil, skip0, List.reverse_cons, List.reverse_nil, bneI, lx, ly, v1, v2, v3, m1, m5, p_iaddr, p_faddr, op_faddr, op_iaddrA, d_iaddrA, p_iaddrA, p_load, AV.ofCells, Nat.mul_one, k0, k1, et, eK, w1, w2, r3, r4, r5, d_mov_not, d_call_not, d_bin_not, d_eq_not, d_un_not, d_pick_not, d_load_not, d_len_not, d_faddr_not, d_nilchk_not, d_iaddr_not, d_iaddrA_not, hK, e1]
  refine ⟨_, _, sent, got, heard, R, y, rfl, ?_, O1, fun j => Nat.le_succ_of_le (hs j), old⟩; rfl

theorem stepPost (O : On h p w cs b3 b4 b5 A B sent got heard [] R y) (hx : Recs 3 h (.sl bx ox m cc) m xs) {i t : Nat} (hi : i < m) (hi2 : i < 150) (ht : t < 12) (et : IntKind.i64.wrap (Int.tmod (IntKind.u64.wrap (xs.getD (i * 3 + 1) 0)) 12) = (t : Int)) {K : Int} (eK : IntKind.i64.wrap ((BitVec.ofInt IntKind.i64.bits (xs.getD (i * 3) 0) &&& BitVec.ofInt IntKind.i64.bits 3).toNat : Int) = K) (hK : (K == 0) = true) (hs : ∀ j, sent j ≤ i) (hn : sent t = heard t) (h8 : R.length < 8) :
    ∃ l H sent' got' heard' R' y', ev (evCallT table 13 200 8) 200 ir4_l1 (Ot (.sl bx ox m cc) y p b3 b4 b5 i) h = some (.norm, l, H) ∧ keepOnly ir4_k1 l = Ot (.sl bx ox m cc) y' p b3 b4 b5 (i + 1) ∧ On H p w cs b3 b4 b5 A B sent' got' heard' [] R' y' ∧ (∀ j, sent' j ≤ i + 1) ∧ Old A h H := by
  have bneI : ∀ {a b : Int}, (a != b) = !(a == b) := rfl
  have lx : ∀ (loc vals : List AV) (h : Heap), evPure loc (.c (.sl bx ox m cc) :: vals) h (.len .sl (.val 0)) = some (.c (.int .i64 (m : Int))) := fun _ _ _ => hx.len rfl
  have ly : ∀ (loc vals : List AV) (h : Heap), evPure loc (.c y :: vals) h (.len .sl (.val 0)) = some (.c (.int .i64 (R.length : Int))) := fun _ _ _ => O.qu.len rfl
  have v1 : decide ((i : Int) < (m : Int)) = true := ltNat hi
  have v3 : decide ((i : Int) < 150) = true := decide_eq_true (by omega)
  have v2 := succI (i := i) (by omega)
  have m1 : Nat.blt i m = true := bltT hi
  have m5 : Nat.blt t 12 = true := bltT ht
  have k0 := hx.at_ (i := i) (k := 0) hi (by omega)
  have k1 := hx.at_ (i := i) (k := 1) hi (by omega)
  simp only [Nat.add_zero] at k0
  have hbig := O.big t
  have w1 : IntKind.i64.wrap (100 * (t : Int)) = ((100 * t : Nat) : Int) := by rw [wrapI (by omega) (by omega)]; omega
  have w2 : IntKind.i64.wrap (((100 * t : Nat) : Int) + (sent t : Int)) = ((100 * t + sent t : Nat) : Int) := by rw [wrapI (by omega) (by omega)]; omega
  have r3 := O.r3 ht
  have r4 := O.r4 ht
  have r5 := O.r5 ht
  obtain ⟨h1, e1, s3, s5, W, z, h2, a1, O2, old⟩ := on_post (N := 200) (d := 6) O ht hn h8 (by have := hs t; omega)
  have e1' : evCallT table 13 200 8 14 [.c (.ptr p 0), .c (.int .i64 (t : Int)), .c (.int .i64 ((100 * t + sent t : Nat) : Int))] h = some (.c (.int .i64 0), h1) := e1
  have q1 : ((sent t : Int) == (heard t : Int)) = true := by simp; omega
  have q2 : decide ((R.length : Int) ≥ 8) = false := decide_eq_false (by omega)
  have w5 := succI (i := sent t) (by omega)
  unfold ir4_l1
  simp only [enter_eq, ev_seq, seqK_norm, seqK_exit, seqK_ret, ev_reg, ev_cond, condK_true, condK_false, ev_block, blockK_norm, blockK_ret, blockK_exit, ev_loop, ev_skip, ev_exit, ev_ret, regK_cons, regK_nil, guard_none, guard_some, regG_true, regG_false, regO_some, op_mov, op_conv, op_bin, op_bsl, op_box, op_mks, op_s2b, op_pick, op_un, op_eq, op_len, op_ext, op_load, op_iaddr, op_slice, op_b2s, op_idxS, op_mx, op_mn, op_call, op_store, op_app, op_copy, args_eq, result_one', rv_loc, finish_norm, finish_ret, outK_some, keep_true, keep_false, keep_nil, p_bin, p_pick, p_un, p_eq, p_conv, evNew, pureK_some, newK_some, X.eval, set_none, set_some, List.map_cons, List.map_nil, List.getD_cons_zero, List.getD_cons_succ, List.getD_nil, List.set_cons_zero, List.set_cons_succ, binCV, unCV, isShift, intArithF_eq, shiftF_eq, wrapF_eq, intArith, shift, eqVal, bound, asNat_cast, cond_true, cond_false, BEq.rfl, beq_self_eq_true, evalParts, fillParts, AV.cells, AV.ofCells, XV.av, AV.xv, List.length_cons, List.length_nil, zeros, patch, setMany, List.nil_append, List.cons_append, Nat.ble, Nat.add_eq, Nat.zero_add, Nat.add_zero, Nat.reduceAdd, Nat.reduceMul, Nat.reduceSub, Nat.ble_eq, Nat.reduceLeDiff, Nat.reduceBEq, Int.reduceBEq, Int.reduceNeg, Bool.and_true, Bool.and_false, Bool.true_and, Bool.false_and, Bool.not_true, Bool.not_false, Bool.true_eq_false, Bool.false_eq_true, Int.reduceLT, Int.reduceLE, Int.reduceGT, Int.reduceGE, decide_true, decide_false, Bool.not_eq_true, loopN_norm, loopN_exit, tf, ft, ff, ev_dreg, dregK_nil, dregK_cons, dregE_true, dregP_some, dregX_some, d_mov, d_bin, d_eq, d_pick, d_un, d_conv, d_b2s, d_len, d_load, d_iaddr, d_slice, d_ext, d_call, d_store, chk_done, chk_none, chk_some, chkG_true, chkG_false, chkOne_nil, chkOne_cons, chkH_some, chkV_same, stage_none, stage_some, look_hit, look_miss, news_nil, wb_cons, wb_nil, skip0, List.reverse_cons, List.reverse_nil, bneI, lx, ly, v1, v2, v3, m1, m5, p_iaddr, p_faddr, op_faddr, op_iaddrA, d_iaddrA, p_iaddrA, p_load, AV.ofCells, Nat.mul_one, k0, k1, et, eK, w1, w2, r3, r4, r5, d_mov_not, d_call_not, d_bin_not, d_eq_not, d_un_not, d_pick_not, d_load_not, d_len_not, d_faddr_not, d_nilchk_not, d_iaddr_not, d_iaddrA_not, hK, e1', s3, s5, q1, q2, w5, evEff, W, a1, next_put]
  refine ⟨_, _, _, got, heard, _, z, rfl, ?_, O2, fun j => ?_, old⟩
  · rfl
  · have := hs j
    unfold upd1; split <;> omega

theorem stepTake (O : On h p w cs b3 b4 b5 A B sent got heard [] R y) (hx : Recs 3 h (.sl bx ox m cc) m xs) {i t : Nat} (hi : i < m) (hi2 : i < 150) (ht : t < 12) (et : IntKind.i64.wrap (Int.tmod (IntKind.u64.wrap (xs.getD (i * 3 + 1) 0)) 12) = (t : Int)) {K : Int} (eK : IntKind.i64.wrap ((BitVec.ofInt IntKind.i64.bits (xs.getD (i * 3) 0) &&& BitVec.ofInt IntKind.i64.bits 3).toNat : Int) = K) (hK : (K == 0) = false) (hK1 : (K == 1) = true) (hs : ∀ j, sent j ≤ i) :
    ∃ l H sent' got' heard' R' y', ev (evCallT table 13 200 8) 200 ir4_l1 (Ot (.sl bx ox m cc) y p b3 b4 b5 i) h = some (.norm, l, H) ∧ keepOnly ir4_k1 l = Ot (.sl bx ox m cc) y' p b3 b4 b5 (i + 1) ∧ On H p w cs b3 b4 b5 A B sent' got' heard' [] R' y' ∧ (∀ j, sent' j ≤ i + 1) ∧ Old A h H := by
  have bneI : ∀ {a b : Int}, (a != b) = !(a == b) := rfl
  have lx : ∀ (loc vals : List AV) (h : Heap), evPure loc (.c (.sl bx ox m cc) :: vals) h (.len .sl (.val 0)) = some (.c (.int .i64 (m : Int))) := fun _ _ _ => hx.len rfl
  have ly : ∀ (loc vals : List AV) (h : Heap), evPure loc (.c y :: vals) h (.len .sl (.val 0)) = some (.c (.int .i64 (R.length : Int))) := fun _ _ _ => O.qu.len rfl
  have v1 : decide ((i : Int) < (m : Int)) = true := ltNat hi
  have v3 : decide ((i : Int) < 150) = true := decide_eq_true (by omega)
  have v2 := succI (i := i) (by omega)
  have m1 : Nat.blt i m = true := bltT hi
  have m5 : Nat.blt t 12 = true := bltT ht
  have k0 := hx.at_ (i := i) (k := 0) hi (by omega)
  have k1 := hx.at_ (i := i) (k := 1) hi (by omega)
  simp only [Nat.add_zero] at k0
  have hbig := O.big t
  have w1 : IntKind.i64.wrap (100 * (t : Int)) = ((100 * t : Nat) : Int) := by rw [wrapI (by omega) (by omega)]; omega
  have w2 : IntKind.i64.wrap (((100 * t : Nat) : Int) + (sent t : Int)) = ((100 * t + sent t : Nat) : Int) := by rw [wrapI (by omega) (by omega)]; omega
  have r3 := O.r3 ht
  have r4 := O.r4 ht
  have r5 := O.r5 ht
  obtain ⟨x, h1, e1, hx1, xb, O1, old⟩ : ∃ x h1, evCallT table 13 200 8 17 [.c (.ptr p 0), .c (.int .i64 2)] h = some (.c x, h1) ∧ Recs 2 h1 x (R.take 2).length (flat (wds sent (R.take 2))) ∧ (∀ k, blk x = some k → B ≤ k ∧ blk y ≠ some k) ∧ On h1 p w cs b3 b4 b5 A B sent got heard (R.take 2) (R.drop 2) y ∧ Old A h h1 := on_take (N := 200) (d := 7) O (by omega)
  have loop := inner (.sl bx ox m cc) x i O1 hx1 xb
  unfold ir4_l1
  simp only [enter_eq, ev_seq, seqK_norm, seqK_exit, seqK_ret, ev_reg, ev_cond, condK_true, condK_false, ev_block, blockK_norm, blockK_ret, blockK_exit, ev_loop, ev_skip, ev_exit, ev_ret, regK_cons, regK_nil, guard_none, guard_some, regG_true, regG_false, regO_some, op_mov, op_conv, op_bin, op_bsl, op_box, op_mks, op_s2b, op_pick, op_un, op_eq, op_len, op_ext, op_load, op_iaddr, op_slice, op_b2s, op_idxS, op_mx, op_mn, op_call, op_store, op_app, op_copy, args_eq, result_one', rv_loc, finish_norm, finish_ret, outK_some, keep_true, keep_false, keep_nil, p_bin, p_pick, p_un, p_eq, p_conv, evNew, pureK_some, newK_some, X.eval, set_none, set_some, List.map_cons, List.map_nil, List.getD_cons_zero, List.getD_cons_succ, List.getD_nil, List.set_cons_zero, List.set_cons_succ, binCV, unCV, isShift, intArithF_eq, shiftF_eq, wrapF_eq, intArith, shift, eqVal, bound, asNat_cast, cond_true, cond_false, BEq.rfl, beq_self_eq_true, evalParts, fillParts, AV.cells, AV.ofCells, XV.av, AV.xv, List.length_cons, List.length_nil, zeros, patch, setMany, List.nil_append, List.cons_append, Nat.ble, Nat.add_eq, Nat.zero_add, Nat.add_zero, Nat.reduceAdd, Nat.reduceMul, Nat.reduceSub, Nat.ble_eq, Nat.reduceLeDiff, Nat.reduceBEq, Int.reduceBEq, Int.reduceNeg, Bool.and_true, Bool.and_false, Bool.true_and, Bool.false_and, Bool.not_true, Bool.not_false, Bool.true_eq_false, Bool.false_eq_true, Int.reduceLT, Int.reduceLE, Int.reduceGT, Int.reduceGE, decide_true, decide_false, Bool.not_eq_true, loopN_norm, loopN_exit, tf, ft, ff, ev_dreg, dregK_nil, dregK_cons, dregE_true, dregP_some, dregX_some, d_mov, d_bin, d_eq, d_pick, d_un, d_conv, d_b2s, d_len, d_load, d_iaddr, d_slice, d_ext, d_call, d_store, chk_done, chk_none, chk_some, chkG_true, chkG_false, chkOne_nil, chkOne_cons, chkH_some, chkV_same, stage_none, stage_some, look_hit, look_miss, news_nil, wb_cons, wb_nil, skip0, List.reverse_cons, List.reverse_nil, bneI, lx, ly, v1, v2, v3, m1, m5, p_iaddr, p_faddr, op_faddr, op_iaddrA, d_iaddrA, p_iaddrA, p_load, AV.ofCells, Nat.mul_one, k0, k1, et, eK, w1, w2, r3, r4, r5, d_mov_not, d_call_not, d_bin_not, d_eq_not, d_un_not, d_pick_not, d_load_not, d_len_not, d_faddr_not, d_nilchk_not, d_iaddr_not, d_iaddrA_not, hK, hK1, e1]
  obtain ⟨r, hr, got', y', h', rfl, O2, old2⟩ := loop [.c (.sl bx ox m cc), .junk, .c (.ptr p 0), .c (.ptr b3 0), .c (.ptr b4 0), .c (.ptr b5 0), .c y, .c (.int .i64 (i : Int)), .c (.int .i64 (t : Int)), .junk, .c x, .c (.int .i64 0), .junk, .junk, .junk, .c (.bool true), .c (.int .i64 K), .junk, .junk, .c (.bool false), .junk, .junk, .junk, .c (.bool true), .junk, .junk, .junk] rfl
  simp only [enter_eq, ev_seq, seqK_norm, seqK_exit, seqK_ret, ev_reg, ev_cond, condK_true, condK_false, ev_block, blockK_norm, blockK_ret, blockK_exit, ev_loop, ev_skip, ev_exit, ev_ret, regK_cons, regK_nil, guard_none, guard_some, regG_true, regG_false, regO_some, op_mov, op_conv, op_bin, op_bsl, op_box, op_mks, op_s2b, op_pick, op_un, op_eq, op_len, op_ext, op_load, op_iaddr, op_slice, op_b2s, op_idxS, op_mx, op_mn, op_call, op_store, op_app, op_copy, args_eq, result_one', rv_loc, finish_norm, finish_ret, outK_some, keep_true, keep_false, keep_nil, p_bin, p_pick, p_un, p_eq, p_conv, evNew, pureK_some, newK_some, X.eval, set_none, set_some, List.map_cons, List.map_nil, List.getD_cons_zero, List.getD_cons_succ, List.getD_nil, List.set_cons_zero, List.set_cons_succ, binCV, unCV, isShift, intArithF_eq, shiftF_eq, wrapF_eq, intArith, shift, eqVal, bound, asNat_cast, cond_true, cond_false, BEq.rfl, beq_self_eq_true, evalParts, fillParts, AV.cells, AV.ofCells, XV.av, AV.xv, List.length_cons, List.length_nil, zeros, patch, setMany, List.nil_append, List.cons_append, Nat.ble, Nat.add_eq, Nat.zero_add, Nat.add_zero, Nat.reduceAdd, Nat.reduceMul, Nat.reduceSub, Nat.ble_eq, Nat.reduceLeDiff, Nat.reduceBEq, Int.reduceBEq, Int.reduceNeg, Bool.and_true, Bool.and_false, Bool.true_and, Bool.false_and, Bool.not_true, Bool.not_false, Bool.true_eq_false, Bool.false_eq_true, Int.reduceLT, Int.reduceLE, Int.reduceGT, Int.reduceGE, decide_true, decide_false, Bool.not_eq_true, loopN_norm, loopN_exit, tf, ft, ff, hr, blockK_exit_eq, v2]
  refine ⟨_, _, sent, got', heard, _, y', rfl, ?_, O2, fun j => Nat.le_succ_of_le (hs j), old.trans old2⟩
  rfl

theorem stepHear (O : On h p w cs b3 b4 b5 A B sent got heard [] R y) (hx : Recs 3 h (.sl bx ox m cc) m xs) {i t : Nat} (hi : i < m) (hi2 : i < 150) (ht : t < 12) (et : IntKind.i64.wrap (Int.tmod (IntKind.u64.wrap (xs.getD (i * 3 + 1) 0)) 12) = (t : Int)) {K : Int} (eK : IntKind.i64.wrap ((BitVec.ofInt IntKind.i64.bits (xs.getD (i * 3) 0) &&& BitVec.ofInt IntKind.i64.bits 3).toNat : Int) = K) (hK : (K == 0) = false) (hK1 : (K == 1) = false) (hs : ∀ j, sent j ≤ i) :
    ∃ l H sent' got' heard' R' y', ev (evCallT table 13 200 8) 200 ir4_l1 (Ot (.sl bx ox m cc) y p b3 b4 b5 i) h = some (.norm, l, H) ∧ keepOnly ir4_k1 l = Ot (.sl bx ox m cc) y' p b3 b4 b5 (i + 1) ∧ On H p w cs b3 b4 b5 A B sent' got' heard' [] R' y' ∧ (∀ j, sent' j ≤ i + 1) ∧ Old A h H := by
  have bneI : ∀ {a b : Int}, (a != b) = !(a == b) := rfl
  have lx : ∀ (loc vals : List AV) (h : Heap), evPure loc (.c (.sl bx ox m cc) :: vals) h (.len .sl (.val 0)) = some (.c (.int .i64 (m : Int))) := fun _ _ _ => hx.len rfl
  have ly : ∀ (loc vals : List AV) (h : Heap), evPure loc (.c y :: vals) h (.len .sl (.val 0)) = some (.c (.int .i64 (R.length : Int))) := fun _ _ _ => O.qu.len rfl
  have v1 : decide ((i : Int) < (m : Int)) = true := ltNat hi
  have v3 : decide ((i : Int) < 150) = true := decide_eq_true (by omega)
  have v2 := succI (i := i) (by omega)
  have m1 : Nat.blt i m = true := bltT hi
  have m5 : Nat.blt t 12 = true := bltT ht
  have k0 := hx.at_ (i := i) (k := 0) hi (by omega)
  have k1 := hx.at_ (i := i) (k := 1) hi (by omega)
  simp only [Nat.add_zero] at k0
  have hbig := O.big t
  have w1 : IntKind.i64.wrap (100 * (t : Int)) = ((100 * t : Nat) : Int) := by rw [wrapI (by omega) (by omega)]; omega
  have w2 : IntKind.i64.wrap (((100 * t : Nat) : Int) + (sent t : Int)) = ((100 * t + sent t : Nat) : Int) := by rw [wrapI (by omega) (by omega)]; omega
  have r3 := O.r3 ht
  have r4 := O.r4 ht
  have r5 := O.r5 ht
  rcases on_hear (N := 200) (d := 6) O ht with ⟨hg, e1⟩ | ⟨hg, h1s, h1, e1, s3, s4, s5, W, O1, old⟩
  · have e1' : evCallT table 13 200 8 21 [.c (.ptr p 0), .c (.int .i64 (t : Int))] h = some (.tup [.c (.int .i64 0), .c (.bool false)], h) := e1
    have q1 : decide ((got t : Int) > (heard t : Int)) = false := decide_eq_false (by omega)
    unfold ir4_l1
    simp only [enter_eq, ev_seq, seqK_norm, seqK_exit, seqK_ret, ev_reg, ev_cond, condK_true, condK_false, ev_block, blockK_norm, blockK_ret, blockK_exit, ev_loop, ev_skip, ev_exit, ev_ret, regK_cons, regK_nil, guard_none, guard_some, regG_true, regG_false, regO_some, op_mov, op_conv, op_bin, op_bsl, op_box, op_mks, op_s2b, op_pick, op_un, op_eq, op_len, op_ext, op_load, op_iaddr, op_slice, op_b2s, op_idxS, op_mx, op_mn, op_call, op_store, op_app, op_copy, args_eq, result_one', rv_loc, finish_norm, finish_ret, outK_some, keep_true, keep_false, keep_nil, p_bin, p_pick, p_un, p_eq, p_conv, evNew, pureK_some, newK_some, X.eval, set_none, set_some, List.map_cons, List.map_nil, List.getD_cons_zero, List.getD_cons_succ, List.getD_nil, List.set_cons_zero, List.set_cons_succ, binCV, unCV, isShift, intArithF_eq, shiftF_eq, wrapF_eq, intArith, shift, eqVal, bound, asNat_cast, cond_true, cond_false, BEq.rfl, beq_self_eq_true, evalParts, fillParts, AV.cells, AV.ofCells, XV.av, AV.xv, List.length_cons, List.length_nil, zeros, patch, setMany, List.nil_append, List.cons_append, Nat.ble, Nat.add_eq, Nat.zero_add, Nat.add_zero, Nat.reduceAdd, Nat.reduceMul, Nat.reduceSub, Nat.ble_eq, Nat.reduceLeDiff, Nat.reduceBEq, Int.reduceBEq, Int.reduceNeg, Bool.and_true, Bool.and_false, Bool.true_and, Bool.false_and, Bool.not_true, Bool.not_false, Bool.true_eq_false, Bool.false_eq_true, Int.reduceLT, Int.reduceLE, Int.reduceGT, Int.reduceGE, decide_true, decide_false, Bool.not_eq_true, loopN_norm, loopN_exit, tf, ft, ff, ev_dreg, dregK_nil, dregK_cons, dregE_true, dregP_some, dregX_some, d_mov, d_bin, d_eq, d_pick, d_un, d_conv, d_b2s, d_len, d_load, d_iaddr, d_slice, d_ext, d_call, d_store, chk_done, chk_none, chk_some, chkG_true, chkG_false, chkOne_nil, chkOne_cons, chkH_some, chkV_same, stage_none, stage_some, look_hit, look_miss, news_nil, wb_cons, wb_nil, skip0, List.reverse_cons, List.reverse_nil, bneI, lx, ly, v1, v2, v3, m1, m5, p_iaddr, p_faddr, op_faddr, op_iaddrA, d_iaddrA, p_iaddrA, p_load, AV.ofCells, Nat.mul_one, k0, k1, et, eK, w1, w2, r3, r4, r5, d_mov_not, d_call_not, d_bin_not, d_eq_not, d_un_not, d_pick_not, d_load_not, d_len_not, d_faddr_not, d_nilchk_not, d_iaddr_not, d_iaddrA_not, hK, hK1, e1', q1, op_ext, p_ext, List.getElem?_cons_zero, List.getElem?_cons_succ, bne_self_eq_false]
    refine ⟨_, _, sent, got, heard, R, y, rfl, ?_, O, fun j => Nat.le_succ_of_le (hs j), Old.refl⟩; rfl
  · have e1' : evCallT table 13 200 8 21 [.c (.ptr p 0), .c (.int .i64 (t : Int))] h = some (.tup [.c (.int .i64 ((7 * (100 * t + sent t - 1) : Nat) : Int)), .c (.bool true)], h1) := e1
    have q1 : decide ((got t : Int) > (heard t : Int)) = true := decide_eq_true (by omega)
    have w3 : IntKind.i64.wrap (((100 * t + sent t : Nat) : Int) - 1) = ((100 * t + sent t - 1 : Nat) : Int) := by rw [wrapI (by omega) (by omega)]; omega
    have w4 : IntKind.i64.wrap (7 * ((100 * t + sent t - 1 : Nat) : Int)) = ((7 * (100 * t + sent t - 1) : Nat) : Int) := by rw [wrapI (by omega) (by omega)]; omega
    have hh : heard t < 1000 := by
      have hR : t ∉ R := fun hR => by have := O.inn t hR; omega
      have := O.out t ht hR
      omega
    have w5 := succI (i := heard t) (by omega)
    unfold ir4_l1
    simp only [enter_eq, ev_seq, seqK_norm, seqK_exit, seqK_ret, ev_reg, ev_cond, condK_true, condK_false, ev_block, blockK_norm, blockK_ret, blockK_exit, ev_loop, ev_skip, ev_exit, ev_ret, regK_cons, regK_nil, guard_none, guard_some, regG_true, regG_false, regO_some, op_mov, op_conv, op_bin, op_bsl, op_box, op_mks, op_s2b, op_pick, op_un, op_eq, op_len, op_ext, op_load, op_iaddr, op_slice, op_b2s, op_idxS, op_mx, op_mn, op_call, op_store, op_app, op_copy, args_eq, result_one', rv_loc, finish_norm, finish_ret, outK_some, keep_true, keep_false, keep_nil, p_bin, p_pick, p_un, p_eq, p_conv, evNew, pureK_some, newK_some, X.eval, set_none, set_some, List.map_cons, List.map_nil, List.getD_cons_zero, List.getD_cons_succ, List.getD_nil, List.set_cons_zero, List.set_cons_succ, binCV, unCV, isShift, intArithF_eq, shiftF_eq, wrapF_eq, intArith, shift, eqVal, bound, asNat_cast, cond_true, cond_false, BEq.rfl, beq_self_eq_true, evalParts, fillParts, AV.cells, AV.ofCells, XV.av, AV.xv, List.length_cons, List.length_nil, zeros, patch, setMany, List.nil_append, List.cons_append, Nat.ble, Nat.add_eq, Nat.zero_add, Nat.add_zero, Nat.reduceAdd, Nat.reduceMul, Nat.reduceSub, Nat.ble_eq, Nat.reduceLeDiff, Nat.reduceBEq, Int.reduceBEq, Int.reduceNeg, Bool.and_true, Bool.and_false, Bool.true_and, Bool.false_and, Bool.not_true, Bool.not_false, Bool.true_eq_false, Bool.false_eq_true, Int.reduceLT, Int.reduceLE, Int.reduceGT, Int.reduceGE, decide_true, decide_false, Bool.not_eq_true, loopN_norm, loopN_exit, tf, ft, ff, ev_dreg, dregK_nil, dregK_cons, dregE_true, dregP_some, dregX_some, d_mov, d_bin, d_eq, d_pick, d_un, d_conv, d_b2s, d_len, d_load, d_iaddr, d_slice, d_ext, d_call, d_store, chk_done, chk_none, chk_some, chkG_true, chkG_false, chkOne_nil, chkOne_cons, chkH_some, chkV_same, stage_none, stage_some, look_hit, look_miss, news_nil, wb_cons, wb_nil, skip0, List.reverse_cons, List.reverse_nil, bneI, lx, ly, v1, v2, v3, m1, m5, p_iaddr, p_faddr, op_faddr, op_iaddrA, d_iaddrA, p_iaddrA, p_load, AV.ofCells, Nat.mul_one, k0, k1, et, eK, w1, w2, r3, r4, r5, d_mov_not, d_call_not, d_bin_not, d_eq_not, d_un_not, d_pick_not, d_load_not, d_len_not, d_faddr_not, d_nilchk_not, d_iaddr_not, d_iaddrA_not, hK, hK1, e1', q1, w3, w4, w5, s3, s4, s5, evEff, W, op_ext, p_ext, List.getElem?_cons_zero, List.getElem?_cons_succ, bne_self_eq_false]
    refine ⟨_, _, sent, got, _, R, y, rfl, ?_, O1, fun j => Nat.le_succ_of_le (hs j), old⟩; rfl
end

theorem mailOnce {x : CV} {h : Heap} {m : Nat} {xs : List Int} (hx : Recs 3 h x m xs) : good (evCallT table 13 200 9 4 [.c x] h) = true := by
  have lx : ∀ (loc vals : List AV) (h : Heap), evPure loc (.c x :: vals) h (.len .sl (.val 0)) = some (.c (.int .i64 (m : Int))) := fun _ _ _ => hx.len rfl
  obtain ⟨p, w, cs, h1, e1, m1, x1, hp, hw, hc⟩ : ∃ p w cs h', evCallT table 13 200 8 12 [] h = some (.c (.ptr p 0), h') ∧ MB h' p w cs [] (fun _ => false) (fun _ => false) (fun _ => none) ∧ Ext h h' ∧ h.next ≤ p ∧ h.next ≤ w ∧ ∀ a ∈ cs, h.next ≤ a := new_box (N := 200) (d := 7) (by omega)
  obtain ⟨z, hz⟩ : ∃ z : List CV, z = [.int .i64 0, .int .i64 0, .int .i64 0, .int .i64 0, .int .i64 0, .int .i64 0, .int .i64 0, .int .i64 0, .int .i64 0, .int .i64 0, .int .i64 0, .int .i64 0] := ⟨_, rfl⟩
  have zn : z = nums (fun _ => 0) := by rw [hz]; rfl
  have n2 : (h1.new (.cells z)).next = h1.next + 1 := rfl
  have n3 : ((h1.new (.cells z)).new (.cells z)).next = h1.next + 2 := rfl
  have n4 : (((h1.new (.cells z)).new (.cells z)).new (.cells z)).next = h1.next + 3 := rfl
  have x4 : Ext h1 (((h1.new (.cells z)).new (.cells z)).new (.cells z)) := (((Ext.refl _).new _).new _).new _
  have hpn := m1.pn
  have hwn := m1.wn
  have hx1n := x1.1
  have notin : ∀ k, h1.next ≤ k → k ∉ p :: w :: cs := fun k hk hm => by
    rcases List.mem_cons.1 hm with rfl | hm
    · omega
    rcases List.mem_cons.1 hm with rfl | hm
    · omega
    · have := m1.an k hm; omega
  have O : On (((h1.new (.cells z)).new (.cells z)).new (.cells z)) p w cs h1.next (h1.next + 1) (h1.next + 2) h.next (h1.next + 3) (fun _ => 0) (fun _ => 0) (fun _ => 0) [] [] .nils :=
    ⟨(m1.ext (x4.b []) (by simp) (by simp) (by simp)).congr (fun j _ => by simp) (fun j _ => by simp) (fun j _ => by simp [ansF]),
      by rw [get_new_old (h := (h1.new (.cells z)).new (.cells z)) (by omega), get_new_old (h := h1.new (.cells z)) (by omega), ← zn]; exact get_new_at,
      by rw [get_new_old (h := (h1.new (.cells z)).new (.cells z)) (by omega), ← zn]; exact get_new_at (h := h1.new (.cells z)),
      by rw [← zn]; exact get_new_at (h := (h1.new (.cells z)).new (.cells z)),
      .inl ⟨rfl, rfl⟩, by simp, by simp, by simp, fun t _ _ => ⟨rfl, .inl rfl⟩, by simp, fun _ => by simp,
      fun k hk => by simp at hk; omega, fun k hk => by have := m1.an k hk; omega, Nat.le_refl _, fun k hk => by simp at hk; omega, fun k hk => hc k hk, by omega, by omega, by omega, notin _ (Nat.le_refl _), notin _ (by omega), notin _ (by omega)⟩
  have hx2 : Recs 3 (((h1.new (.cells z)).new (.cells z)).new (.cells z)) x m xs := (hx.ext x1).ext x4
  have hxb : ∀ k, blk x = some k → k < h.next := fun k hk => by
    rcases hx.is with ⟨rfl, _⟩ | ⟨i, o, c, rfl, hi⟩
    · cases hk
    · simp [blk] at hk; omega
  rw [evCallT_eq (F := ir4) rfl rfl rfl]
  unfold ir4
  rw [bodyK_eq]
  have L : ∀ loc, keepOnly ir4_k1 loc = Ot x .nils p h1.next (h1.next + 1) (h1.next + 2) 0 → ∃ r, loopK (evCallT table 13 200 8) 200 ir4_k1 ir4_l1 200 loc (((h1.new (.cells z)).new (.cells z)).new (.cells z)) = some r ∧
      ∃ sent got heard R y h' a1 b1 b2 b3 l, r = (.exit 0, .c x :: a1 :: .c (.ptr p 0) :: b1 :: b2 :: b3 :: .c y :: l, h') ∧ On h' p w cs h1.next (h1.next + 1) (h1.next + 2) h.next (h1.next + 3) sent got heard [] R y := by
    intro loc hloc
    refine loop_inv (n := min m 150) (fun i loc h' => ∃ sent got heard R y, On h' p w cs h1.next (h1.next + 1) (h1.next + 2) h.next (h1.next + 3) sent got heard [] R y ∧ (∀ j, sent j ≤ i) ∧ Recs 3 h' x m xs ∧ loc = Ot x y p h1.next (h1.next + 1) (h1.next + 2) i) _ ?_ ⟨_, _, _, _, _, O, fun _ => Nat.le_refl _, hx2, hloc⟩ (by omega)
    rintro i loc h' hi ⟨sent, got, heard, R, y, O', hs, hx', rfl⟩
    by_cases hlt : i < m ∧ i < 150
    · left
      refine ⟨by omega, ?_⟩
      obtain ⟨hl1, hl2⟩ := hlt
      obtain ⟨t, ht, et⟩ := few (a := xs.getD (i * 3 + 1) 0) (m := 12) (by omega) (by omega)
      have et' : IntKind.i64.wrap (Int.tmod (IntKind.u64.wrap (xs.getD (i * 3 + 1) 0)) 12) = (t : Int) := et
      obtain ⟨K, eK⟩ : ∃ K, IntKind.i64.wrap ((BitVec.ofInt IntKind.i64.bits (xs.getD (i * 3) 0) &&& BitVec.ofInt IntKind.i64.bits 3).toNat : Int) = K := ⟨_, rfl⟩
      obtain ⟨bx, ox, cc, rfl, _⟩ : ∃ i o c, x = .sl i o m c ∧ i < h'.next := by
        rcases hx'.is with ⟨_, h0⟩ | h1
        · omega
        · exact h1
      have fin : (∃ l H sent' got' heard' R' y', ev (evCallT table 13 200 8) 200 ir4_l1 (Ot (.sl bx ox m cc) y p h1.next (h1.next + 1) (h1.next + 2) i) h' = some (.norm, l, H) ∧ keepOnly ir4_k1 l = Ot (.sl bx ox m cc) y' p h1.next (h1.next + 1) (h1.next + 2) (i + 1) ∧ On H p w cs h1.next (h1.next + 1) (h1.next + 2) h.next (h1.next + 3) sent' got' heard' [] R' y' ∧ (∀ j, sent' j ≤ i + 1) ∧ Old h.next h' H) →
          ∃ loc' H', ev (evCallT table 13 200 8) 200 ir4_l1 (Ot (.sl bx ox m cc) y p h1.next (h1.next + 1) (h1.next + 2) i) h' = some (.norm, loc', H') ∧ ∃ sent got heard R y, On H' p w cs h1.next (h1.next + 1) (h1.next + 2) h.next (h1.next + 3) sent got heard [] R y ∧ (∀ j, sent j ≤ i + 1) ∧ Recs 3 H' (.sl bx ox m cc) m xs ∧ keepOnly ir4_k1 loc' = Ot (.sl bx ox m cc) y p h1.next (h1.next + 1) (h1.next + 2) (i + 1) := by
        rintro ⟨l, H, sent', got', heard', R', y', e1, e2, O2, hs2, old⟩
        exact ⟨_, _, e1, _, _, _, _, _, O2, hs2, hx'.keep old.1 (fun k hk => old.2 k (hxb k hk)), e2⟩
      apply fin
      cases h0 : (K == 0) with
      | true =>
        by_cases hn : sent t = heard t
        · by_cases h8 : R.length < 8
          · exact stepPost O' hx' hl1 hl2 ht et' eK h0 hs hn h8
          · exact stepFull O' hx' hl1 hl2 ht et' eK h0 hs hn (by omega)
        · exact stepHeld O' hx' hl1 hl2 ht et' eK h0 hs hn
      | false =>
        cases h1' : (K == 1) with
        | true => exact stepTake O' hx' hl1 hl2 ht et' eK h0 h1' hs
        | false => exact stepHear O' hx' hl1 hl2 ht et' eK h0 h1' hs
    · right
      unfold ir4_l1
      by_cases h3 : i < m
      · have v1 : decide ((i : Int) < (m : Int)) = true := ltNat h3
        have v3 : decide ((i : Int) < 150) = false := decide_eq_false (by omega)
        simp only [enter_eq, ev_seq, seqK_norm, seqK_exit, seqK_ret, ev_reg, ev_cond, condK_true, condK_false, ev_block, blockK_norm, blockK_ret, blockK_exit, ev_loop, ev_skip, ev_exit, ev_ret, regK_cons, regK_nil, guard_none, guard_some, regG_true, regG_false, regO_some, op_mov, op_conv, op_bin, op_bsl, op_box, op_mks, op_s2b, op_pick, op_un, op_eq, op_len, op_ext, op_load, op_iaddr, op_slice, op_b2s, op_idxS, op_mx, op_mn, op_call, op_store, op_app, op_copy, args_eq, result_one', rv_loc, finish_norm, finish_ret, outK_some, keep_true, keep_false, keep_nil, p_bin, p_pick, p_un, p_eq, p_conv, evNew, pureK_some, newK_some, X.eval, set_none, set_some, List.map_cons, List.map_nil, List.getD_cons_zero, List.getD_cons_succ, List.getD_nil, List.set_cons_zero, List.set_cons_succ, binCV, unCV, isShift, intArithF_eq, shiftF_eq, wrapF_eq, intArith, shift, eqVal, bound, asNat_cast, cond_true, cond_false, BEq.rfl, beq_self_eq_true, evalParts, fillParts, AV.cells, AV.ofCells, XV.av, AV.xv, List.length_cons, List.length_nil, zeros, patch, setMany, List.nil_append, List.cons_append, Nat.ble, Nat.add_eq, Nat.zero_add, Nat.add_zero, Nat.reduceAdd, Nat.reduceMul, Nat.reduceSub, Nat.ble_eq, Nat.reduceLeDiff, Nat.reduceBEq, Int.reduceBEq, Int.reduceNeg, Bool.and_true, Bool.and_false, Bool.true_and, Bool.false_and, Bool.not_true, Bool.not_false, Bool.true_eq_false, Bool.false_eq_true, Int.reduceLT, Int.reduceLE, Int.reduceGT, Int.reduceGE, decide_true, decide_false, Bool.not_eq_true, loopN_norm, loopN_exit, tf, ft, ff, lx, v1, v3]
        exact ⟨_, rfl, by simp, _, _, _, _, _, _, _, _, _, _, _, rfl, O'⟩
      · have v1 : decide ((i : Int) < (m : Int)) = false := geNat (by omega)
        simp only [enter_eq, ev_seq, seqK_norm, seqK_exit, seqK_ret, ev_reg, ev_cond, condK_true, condK_false, ev_block, blockK_norm, blockK_ret, blockK_exit, ev_loop, ev_skip, ev_exit, ev_ret, regK_cons, regK_nil, guard_none, guard_some, regG_true, regG_false, regO_some, op_mov, op_conv, op_bin, op_bsl, op_box, op_mks, op_s2b, op_pick, op_un, op_eq, op_len, op_ext, op_load, op_iaddr, op_slice, op_b2s, op_idxS, op_mx, op_mn, op_call, op_store, op_app, op_copy, args_eq, result_one', rv_loc, finish_norm, finish_ret, outK_some, keep_true, keep_false, keep_nil, p_bin, p_pick, p_un, p_eq, p_conv, evNew, pureK_some, newK_some, X.eval, set_none, set_some, List.map_cons, List.map_nil, List.getD_cons_zero, List.getD_cons_succ, List.getD_nil, List.set_cons_zero, List.set_cons_succ, binCV, unCV, isShift, intArithF_eq, shiftF_eq, wrapF_eq, intArith, shift, eqVal, bound, asNat_cast, cond_true, cond_false, BEq.rfl, beq_self_eq_true, evalParts, fillParts, AV.cells, AV.ofCells, XV.av, AV.xv, List.length_cons, List.length_nil, zeros, patch, setMany, List.nil_append, List.cons_append, Nat.ble, Nat.add_eq, Nat.zero_add, Nat.add_zero, Nat.reduceAdd, Nat.reduceMul, Nat.reduceSub, Nat.ble_eq, Nat.reduceLeDiff, Nat.reduceBEq, Int.reduceBEq, Int.reduceNeg, Bool.and_true, Bool.and_false, Bool.true_and, Bool.false_and, Bool.not_true, Bool.not_false, Bool.true_eq_false, Bool.false_eq_true, Int.reduceLT, Int.reduceLE, Int.reduceGT, Int.reduceGE, decide_true, decide_false, Bool.not_eq_true, loopN_norm, loopN_exit, tf, ft, ff, lx, v1]
        exact ⟨_, rfl, by simp, _, _, _, _, _, _, _, _, _, _, _, rfl, O'⟩
  obtain ⟨r, hr, sent, got, heard, R, y, h', a1, b1, b2, b3, l, rfl, O'⟩ := L [.c x, .c (.bool false), .c (.ptr p 0), .c (.ptr h1.next 0), .c (.ptr (h1.next + 1) 0), .c (.ptr (h1.next + 2) 0), .c .nils, .c (.int .i64 0), .tup [], .tup [], .tup [], .tup [], .tup [], .tup [], .c (.bool false), .tup [], .tup [], .tup [], .tup [], .tup [], .tup [], .tup [], .tup [], .tup [], .tup [], .tup [], .tup []] rfl
  have e2 : evCallT table 13 200 8 23 [.c (.ptr p 0)] h' = some (.c (.int .i64 (R.length : Int)), h') := by
    have := len_ok (N := 200) (d := 7) O'.m
    rw [show (wds sent R).length = R.length by simp [wds]] at this; exact this
  have ly : ∀ (loc vals : List AV) (h : Heap), evPure loc (.c y :: vals) h (.len .sl (.val 0)) = some (.c (.int .i64 (R.length : Int))) := fun _ _ _ => O'.qu.len rfl
  have q1 : ((R.length : Int) == (R.length : Int)) = true := by simp
  simp only [enter_eq, ev_seq, seqK_norm, seqK_exit, seqK_ret, ev_reg, ev_cond, condK_true, condK_false, ev_block, blockK_norm, blockK_ret, blockK_exit, ev_loop, ev_skip, ev_exit, ev_ret, regK_cons, regK_nil, guard_none, guard_some, regG_true, regG_false, regO_some, op_mov, op_conv, op_bin, op_bsl, op_box, op_mks, op_s2b, op_pick, op_un, op_eq, op_len, op_ext, op_load, op_iaddr, op_slice, op_b2s, op_idxS, op_mx, op_mn, op_call, op_store, op_app, op_copy, args_eq, result_one', rv_loc, finish_norm, finish_ret, outK_some, keep_true, keep_false, keep_nil, p_bin, p_pick, p_un, p_eq, p_conv, evNew, pureK_some, newK_some, X.eval, set_none, set_some, List.map_cons, List.map_nil, List.getD_cons_zero, List.getD_cons_succ, List.getD_nil, List.set_cons_zero, List.set_cons_succ, binCV, unCV, isShift, intArithF_eq, shiftF_eq, wrapF_eq, intArith, shift, eqVal, bound, asNat_cast, cond_true, cond_false, BEq.rfl, beq_self_eq_true, evalParts, fillParts, AV.cells, AV.ofCells, XV.av, AV.xv, List.length_cons, List.length_nil, zeros, patch, setMany, List.nil_append, List.cons_append, Nat.ble, Nat.add_eq, Nat.zero_add, Nat.add_zero, Nat.reduceAdd, Nat.reduceMul, Nat.reduceSub, Nat.ble_eq, Nat.reduceLeDiff, Nat.reduceBEq, Int.reduceBEq, Int.reduceNeg, Bool.and_true, Bool.and_false, Bool.true_and, Bool.false_and, Bool.not_true, Bool.not_false, Bool.true_eq_false, Bool.false_eq_true, Int.reduceLT, Int.reduceLE, Int.reduceGT, Int.reduceGE, decide_true, decide_false, Bool.not_eq_true, loopN_norm, loopN_exit, tf, ft, ff, e1, ← hz, n2, n3, hr, blockK_exit_eq, evCallT_told, e2, ly, q1]
  rfl

end Lav

namespace Go.Proofs.Ytgjceiiddcbfoaa.mailOnce
open Go.ChangeShapes Go.WideShapes Go.ChangeAt Go.RowKit
open Go.ChangeMaps (open_string shut_string)
set_option linter.unusedVariables false

theorem own : ownKnob Try.prog.godebug = none := by kernel_rfl
theorem laidOut : laidOutB Try.prog = true := by kernel_rfl

/-- What the walk is told of a slice of records of ints that came in: it is nil; or it leads to a row of 'cap' records, 'sz' cells each. -/
def IsRecs (sz : Nat) (w : World) (a : Option Addr) (len cap : Nat) (zs : List Int) : Prop :=
  (a = none ∧ len = 0 ∧ cap = 0 ∧ zs = []) ∨
  ∃ x, a = some x ∧ len ≤ cap ∧ cap ≤ maxLen ∧ zs.length = cap * sz ∧ (∀ i, i < zs.length → w.cell? (x.add i) = some (.int .i64 (zs.getD i 0))) ∧ ∀ n ∈ zs, (Lit.int .i64 n).wf = true

theorem walk (a0 : Option Addr) (len0 cap0 : Nat) (z0 : List Int) (w : World) (w0 : IsRecs 3 w a0 len0 cap0 z0) :
    Calls Try.prog 4 #[.slice a0 len0 cap0] w fun e w' => e = .returned (.bool true) ∧ Below w.heap.size w w' := by
  obtain ⟨ι, h, x, I, hle, hx, hr⟩ := (Lav.Init.empty w).recs (sz := 3) (by omega) w0
  exact Lav.walk_of (Lav.evCallT_sound Lav.mixed Lav.table_ok Lav.tld9 200 9) I (args := [.c x]) (vs := [.slice a0 len0 cap0]) ⟨hx, trivial⟩ (Lav.mailOnce (Lav.recs_of hr))

set_option maxRecDepth 100000 in
theorem lifted (os : Os) (started : os.Started) (H : Type) (enc : TypeId × Value → H) :
    ReturnsInHanded {} Try.checked os 4 .any (Rows.mailOnceSpec.pre6 enc Try.prog Try.f4 Rows.mailOnceRow.domain false) (Rows.mailOnceSpec.post enc Try.prog Try.f4 false true false false) := by
  refine returnsInHanded_of_change (C := Try.checked) own started (by kernel_rfl) Try.func4
    (ChangeSpec.witness6 (enc := enc) (C := Try.checked) false ⟨#[], #[.slice none 0 0], []⟩ 8 (by kernel_rfl) (by kernel_rfl) (by kernel_rfl) (by kernel_rfl)) ?_
  intro W base args ds gs before hval0 hW hcnd _
  have hval : ∀ (j : Nat) t v, Try.f4.params[j]? = some t → args[j]? = some v → Value.okWide Try.prog W .any base t v := hval0
  have hW' := hW
  obtain ⟨p, q, hA0, hV, rfl, hfz, hnd⟩ := hW
  have hA : DataW.TrodAll enc Try.prog W 0 (fun _ => true) true Try.f4.params.toList args.toList ds p := hA0
  rw [Try.params4] at hA hval
  obtain ⟨v0, vs0, d0, ds0, p0, q0, hargs, rfl, rfl, h0, r0⟩ := trodAll_cons hA
  obtain ⟨rfl, rfl, rfl⟩ := trodAll_nil r0
  obtain rfl : args = #[v0] := by cases args; simp_all
  obtain ⟨rfl, rfl⟩ := trodVars_none hV
  obtain ⟨a0, len0, cap0, rfl⟩ := okWide_slice Try.underlying22 (hval 0 22 v0 rfl rfl)
  have k0 := h0
  have lt0 : ∀ x ∈ p0, x.block < W.heap.size := by obtain ⟨m, hm⟩ := k0; exact DataW.trod_lt m _ _ _ hm
  obtain ⟨z0, w0⟩ : ∃ zs, IsRecs 3 W a0 len0 cap0 zs := by
    obtain ⟨fuel, hf⟩ := h0
    rcases Lav.open_recs (sz := 3) Try.underlying22 Try.underlying32 (by kernel_rfl) (by
        intro j hj
        match j, hj with
        | 0, _ => exact ⟨0, _, rfl, rfl, Try.underlying3, by kernel_rfl⟩
        | 1, _ => exact ⟨1, _, rfl, rfl, Try.underlying3, by kernel_rfl⟩
        | 2, _ => exact ⟨2, _, rfl, rfl, Try.underlying3, by kernel_rfl⟩
        | j + 3, hj => omega) hf with hcs | ⟨x, l, c, zs, hcs, hl, hm, hz, hcell, hwz⟩
    · simp [Value.cells] at hcs
      obtain ⟨rfl, rfl, rfl⟩ := hcs
      exact ⟨[], .inl ⟨rfl, rfl, rfl, rfl⟩⟩
    · simp [Value.cells] at hcs
      obtain ⟨rfl, rfl, rfl⟩ := hcs
      exact ⟨zs, .inr ⟨_, rfl, hl, hm, by simpa using hz, hcell, hwz⟩⟩
  clear hA0 hval0
  refine (walk a0 len0 cap0 z0 W w0).mono fun e W' ⟨he, bel⟩ => ?_
  subst he
  exact ⟨_, rfl, _, _, _, [], _, [], hW', trodAll_mk1 (shut_bool Try.underlying4 _), (trodAll_cons_mk (Below.trod laidOut (by kernel_rfl) (of_decide_eq_true (by kernel_rfl)) k0 bel lt0) trodAll_mk0), rfl, bel.frame _, fun h => by cases h⟩

theorem over : Rows.mailOnceRow.holds Try.pinned (OpenSpec.ofChange Rows.mailOnceSpec) :=
  OpenClaim.holds_of_wide 4 Try.f4 rfl rfl rfl rfl rfl rfl rfl ⟨rfl, rfl, rfl, rfl, rfl⟩ rfl rfl rfl rfl rfl (by kernel_rfl) Try.func4 (by kernel_rfl)
    (of_decide_eq_true (by kernel_rfl)) (by unfold Func.isWrapper; first | (rw [if_pos (by decide +kernel)]; kernel_rfl) | (rw [if_neg (by decide +kernel)]; exact ⟨rfl, rfl⟩))
    (fun os started H enc _ => lifted os started H enc)

theorem proved : Rows.MailOnceSaid := over
end Go.Proofs.Ytgjceiiddcbfoaa.mailOnce
