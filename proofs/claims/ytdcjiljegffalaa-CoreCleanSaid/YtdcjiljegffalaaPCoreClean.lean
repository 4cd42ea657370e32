/-
  Proved: whatever numbers come in, lavabolaw11.CoreClean returns true and changes nothing that was there. No conditions beyond the given statement's.
-/
import Derived.Test.YtdcjiljegffalaaRows
import Derived.Test.YtdcjiljegffalaaCore7
import Derived.WalkKit
import Derived.ProofKit
import Derived.OpenShut
import Derived.Below
import Derived.ShutString
set_option maxRecDepth 100000
set_option linter.unusedSimpArgs false
namespace Lav
open Go (IntKind)
/-- What is left by a mask of low bits. -/
theorem and_low (a : Int) (m : Nat) (hm : m < 1000000) : ∃ k : Nat, k ≤ m ∧ IntKind.i64.wrap ((BitVec.ofInt IntKind.i64.bits a &&& BitVec.ofInt IntKind.i64.bits (m : Int)).toNat : Int) = (k : Int) := by
  have h : (BitVec.ofInt IntKind.i64.bits a &&& BitVec.ofInt IntKind.i64.bits (m : Int)).toNat ≤ m := by
    rw [BitVec.toNat_and]
    refine Nat.le_trans Nat.and_le_right ?_
    rw [BitVec.ofInt_natCast, BitVec.toNat_ofNat]
    exact Nat.mod_le _ _
  exact ⟨_, h, wrapNat (by omega)⟩
abbrev JC : List AV := [.junk, .junk, .junk, .junk, .junk, .junk, .junk, .junk, .junk, .junk, .junk, .junk, .junk, .junk, .junk, .junk, .junk]

theorem coreClean (n mask : Int) : good (evCallT table 15 200 9 5 [.c (.int .i64 n), .c (.int .i64 mask)] Heap.empty) = true := by
  obtain ⟨k0, hk0, e1⟩ : ∃ k : Nat, k < 6 ∧ IntKind.i64.wrap (Int.tmod (IntKind.u64.wrap n) 6) = k := few (by omega) (by omega)
  have w1 : IntKind.i64.wrap (1 + (k0 : Int)) = ((k0 + 1 : Nat) : Int) := by rw [wrapI (by omega) (by omega)]; omega
  obtain ⟨k, hk⟩ : ∃ k, k = k0 + 1 := ⟨_, rfl⟩
  rw [← hk] at w1
  have bits : ∀ j : Nat, ∃ v : Nat, v ≤ 1 ∧ IntKind.i64.wrap ((BitVec.ofInt IntKind.i64.bits (mask.fdiv (2 ^ (min (Int.toNat (j : Int)) IntKind.i64.bits))) &&& BitVec.ofInt IntKind.i64.bits (1 : Int)).toNat : Int) = (v : Int) := fun j => and_low _ 1 (by omega)
  obtain ⟨m0, hm0, em⟩ : ∃ v : Nat, v ≤ 1 ∧ IntKind.i64.wrap ((BitVec.ofInt IntKind.i64.bits mask &&& BitVec.ofInt IntKind.i64.bits (1 : Int)).toNat : Int) = (v : Int) := and_low _ 1 (by omega)
  obtain ⟨vb, hvb⟩ : ∃ v : Nat → Nat, ∀ j, v j ≤ 1 ∧ IntKind.i64.wrap ((BitVec.ofInt IntKind.i64.bits (mask.fdiv (2 ^ (min (Int.toNat (j : Int)) IntKind.i64.bits))) &&& BitVec.ofInt IntKind.i64.bits (1 : Int)).toNat : Int) = (v j : Int) := ⟨fun j => (bits j).choose, fun j => (bits j).choose_spec⟩
  have h0m : vb 0 = m0 := by
    have := (hvb 0).2
    have e : mask.fdiv (2 ^ (min (Int.toNat ((0 : Nat) : Int)) IntKind.i64.bits)) = mask := by
      show mask.fdiv 1 = mask
      exact Int.fdiv_one mask
    rw [e, em] at this
    omega
  obtain ⟨q, z, H0, e3, C0, x0, _⟩ := core_new (N := 200) (d := 3) (h := Heap.empty) k (by omega) (by omega)
  have e3' : evCallT table 15 200 8 7 [.c (.int .i64 (k : Int))] Heap.empty = some (.c (.ptr q 0), H0) := e3
  have a0 : evCallT table 15 200 8 8 [.c (.ptr q 0)] H0 = some (.c (.ptr z.p 0), H0) := arena_ok (N := 200) (d := 7) C0
  have L : ∀ loc, keepOnly ir5_k0 loc = .junk :: .c (.int .i64 mask) :: .junk :: .c (.int .i64 (k : Int)) :: .c (.ptr q 0) :: .c (.int .i64 0) :: JC →
      ∃ r, loopK (evCallT table 15 200 8) 200 ir5_k0 ir5_l0 200 loc H0 = some r ∧ ∃ a0 a2 a3 a5 a6 a7 a8 a9 a10 a11 a12 a13 a14 a15 a16 a17 a18 a19 a20 a21 a22 G, r = (.exit 0, [a0, .c (.int .i64 mask), a2, a3, .c (.ptr q 0), a5, a6, a7, a8, a9, a10, a11, a12, a13, a14, a15, a16, a17, a18, a19, a20, a21, a22], G) ∧ ∃ fs M, CH G q z fs [] M (rv k) [] ∧ Fill k k (fun j => vb j == 1) fs := by
    intro loc hloc
    refine loop_inv (n := k) (fun i loc G => i ≤ k ∧ (∃ fs M, CH G q z fs ((ints k).drop i) M (rv i) [] ∧ Fill k i (fun j => vb j == 1) fs) ∧ loc = .junk :: .c (.int .i64 mask) :: .junk :: .c (.int .i64 (k : Int)) :: .c (.ptr q 0) :: .c (.int .i64 (i : Int)) :: JC) _ ?_ ⟨Nat.zero_le _, ⟨_, _, C0, by simp, fun j f _ h => by omega, fun j f hf _ => List.eq_of_mem_replicate (List.mem_of_getElem? hf)⟩, hloc⟩ (by omega)
    rintro i loc G hi ⟨hik, ⟨fs, M, C, F⟩, rfl⟩
    unfold ir5_l0
    by_cases hlt : i < k
    · left
      refine ⟨hlt, ?_⟩
      have v1 : decide ((i : Int) < (k : Int)) = true := ltNat hlt
      have v2 := succI (i := i) (by omega)
      have v3 : IntKind.u64.wrap (i : Int) = (i : Int) := wrapUNat (by omega)
      have v4 : decide ((i : Int) < 0) = false := decide_eq_false (by omega)
      have hl : i < fs.length := by rw [F.len]; exact hlt
      rw [ints_drop hlt] at C
      obtain ⟨y, M1, G1, e4, C1, x1, _⟩ := room_free (N := 200) (d := 1) C (g := i) (by omega) (F.no (Nat.le_refl _)) (by omega)
      rw [F.used hik] at C1
      have e4' : evCallT table 15 200 8 11 [.c (.ptr q 0), .c (.int .i64 (i : Int))] G = some (.tup [.c (.int .i64 0), .c (.int .i64 (i : Int)), .c (.int .i64 (-1))], G1) := e4
      obtain ⟨G2, e5, C2, x2⟩ := let_ok (N := 200) (d := 5) C1 (i : Int)
      have hl1 : i < (fs.set i ⟨1, (i : Int), 1, false, y⟩).length := by simp; exact hl
      have hg1 : (fs.set i ⟨1, (i : Int), 1, false, y⟩)[i] = ⟨1, (i : Int), 1, false, y⟩ := by simp
      have eu : unpinF (fs.set i ⟨1, (i : Int), 1, false, y⟩) (i : Int) = (0, fs.set i ⟨1, (i : Int), 0, false, y⟩) := by
        unfold unpinF
        rw [usedF_eq hl1 (by rw [hg1]), hg1]
        simp only [List.set_set]
        rfl
      rw [eu] at e5 C2
      have e5' : evCallT table 15 200 8 13 [.c (.ptr q 0), .c (.int .i64 (i : Int))] G1 = some (.c (.int .i64 0), G2) := e5
      have a2 : evCallT table 15 200 8 8 [.c (.ptr q 0)] G2 = some (.c (.ptr z.p 0), G2) := arena_ok (N := 200) (d := 7) C2
      obtain ⟨G3, e6, C3, x3⟩ := C2.mark (N := 200) (d := 6) (i : Int) ((vb i : Int) == 1)
      have hl2 : i < (fs.set i ⟨1, (i : Int), 0, false, y⟩).length := by simp; exact hl
      have hg2 : (fs.set i ⟨1, (i : Int), 0, false, y⟩)[i] = ⟨1, (i : Int), 0, false, y⟩ := by simp
      have emk : markF (fs.set i ⟨1, (i : Int), 0, false, y⟩) (i : Int) ((vb i : Int) == 1) = (0, fs.set i ⟨1, (i : Int), 0, ((vb i : Int) == 1), y⟩) := by
        unfold markF
        rw [usedF_eq hl2 (by rw [hg2]), hg2]
        simp only [List.set_set]
      rw [emk] at e6 C3
      have e6' : evCallT table 15 200 8 14 [.c (.ptr z.p 0), .c (.int .i64 (i : Int)), .c (.bool ((vb i : Int) == 1))] G2 = some (.c (.int .i64 0), G3) := e6
      have vi := (hvb i).2
      simp only [enter_eq, ev_seq, seqK_norm, seqK_exit, seqK_ret, ev_reg, ev_cond, condK_true, condK_false, ev_block, blockK_norm, blockK_ret, blockK_exit, ev_loop, ev_skip, ev_exit, ev_ret, regK_cons, regK_nil, guard_none, guard_some, regG_true, regG_false, regO_some, op_mov, op_conv, op_bin, op_bsl, op_box, op_mks, op_s2b, op_pick, op_un, op_eq, op_len, op_ext, op_load, op_iaddr, op_slice, op_b2s, op_idxS, op_mx, op_mn, op_call, op_store, op_app, op_copy, args_eq, result_one', rv_loc, finish_norm, finish_ret, outK_some, keep_true, keep_false, keep_nil, p_bin, p_pick, p_un, p_eq, p_conv, evNew, pureK_some, newK_some, X.eval, set_none, set_some, List.map_cons, List.map_nil, List.getD_cons_zero, List.getD_cons_succ, List.getD_nil, List.set_cons_zero, List.set_cons_succ, binCV, unCV, isShift, intArithF_eq, shiftF_eq, wrapF_eq, intArith, shift, eqVal, bound, asNat_cast, cond_true, cond_false, BEq.rfl, beq_self_eq_true, evalParts, fillParts, AV.cells, AV.ofCells, XV.av, AV.xv, List.length_cons, List.length_nil, zeros, patch, setMany, List.nil_append, List.cons_append, Nat.ble, Nat.add_eq, Nat.zero_add, Nat.add_zero, Nat.reduceAdd, Nat.reduceMul, Nat.reduceSub, Nat.ble_eq, Nat.reduceLeDiff, Nat.reduceBEq, Int.reduceBEq, Int.reduceNeg, Bool.and_true, Bool.and_false, Bool.true_and, Bool.false_and, Bool.not_true, Bool.not_false, Bool.true_eq_false, Bool.false_eq_true, Int.reduceLT, Int.reduceLE, Int.reduceGT, Int.reduceGE, decide_true, decide_false, Bool.not_eq_true, loopN_norm, loopN_exit, tf, ft, ff, v1, v2, v3, v4, e4', p_ext, List.getElem?_cons_zero, List.getElem?_cons_succ, e5', a2, vi, e6', bneI]
      refine ⟨_, _, rfl, by omega, ⟨_, M1, C3, by simp [F.len], fun j f hf hj => ?_, fun j f hf hj => ?_⟩, rfl⟩
      · rcases (set_at hl).1 hf with ⟨rfl, rfl⟩ | ⟨hne, hf'⟩
        · refine ⟨rfl, rfl, rfl, ?_⟩
          show ((vb j : Int) == 1) = (vb j == 1)
          have := (hvb j).1
          match vb j, this with
          | 0, _ => rfl
          | 1, _ => rfl
        · exact F.full j f hf' (by omega)
      · rcases (set_at hl).1 hf with ⟨rfl, rfl⟩ | ⟨hne, hf'⟩
        · omega
        · exact F.rest j f hf' (by omega)
    · right
      have hik' : i = k := by omega
      subst hik'
      have v1 : decide ((i : Int) < (i : Int)) = false := geNat (Nat.le_refl _)
      have hd : (ints i).drop i = [] := List.drop_of_length_le (by rw [ints_len]; omega)
      rw [hd] at C
      simp only [enter_eq, ev_seq, seqK_norm, seqK_exit, seqK_ret, ev_reg, ev_cond, condK_true, condK_false, ev_block, blockK_norm, blockK_ret, blockK_exit, ev_loop, ev_skip, ev_exit, ev_ret, regK_cons, regK_nil, guard_none, guard_some, regG_true, regG_false, regO_some, op_mov, op_conv, op_bin, op_bsl, op_box, op_mks, op_s2b, op_pick, op_un, op_eq, op_len, op_ext, op_load, op_iaddr, op_slice, op_b2s, op_idxS, op_mx, op_mn, op_call, op_store, op_app, op_copy, args_eq, result_one', rv_loc, finish_norm, finish_ret, outK_some, keep_true, keep_false, keep_nil, p_bin, p_pick, p_un, p_eq, p_conv, evNew, pureK_some, newK_some, X.eval, set_none, set_some, List.map_cons, List.map_nil, List.getD_cons_zero, List.getD_cons_succ, List.getD_nil, List.set_cons_zero, List.set_cons_succ, binCV, unCV, isShift, intArithF_eq, shiftF_eq, wrapF_eq, intArith, shift, eqVal, bound, asNat_cast, cond_true, cond_false, BEq.rfl, beq_self_eq_true, evalParts, fillParts, AV.cells, AV.ofCells, XV.av, AV.xv, List.length_cons, List.length_nil, zeros, patch, setMany, List.nil_append, List.cons_append, Nat.ble, Nat.add_eq, Nat.zero_add, Nat.add_zero, Nat.reduceAdd, Nat.reduceMul, Nat.reduceSub, Nat.ble_eq, Nat.reduceLeDiff, Nat.reduceBEq, Int.reduceBEq, Int.reduceNeg, Bool.and_true, Bool.and_false, Bool.true_and, Bool.false_and, Bool.not_true, Bool.not_false, Bool.true_eq_false, Bool.false_eq_true, Int.reduceLT, Int.reduceLE, Int.reduceGT, Int.reduceGE, decide_true, decide_false, Bool.not_eq_true, loopN_norm, loopN_exit, tf, ft, ff, v1]
      exact ⟨_, rfl, by simp, _, _, _, _, _, _, _, _, _, _, _, _, _, _, _, _, _, _, _, _, _, G, rfl, fs, M, C, F⟩
  obtain ⟨r, ⟨b0, b2, b3, b5, b6, b7, b8, b9, b10, b11, b12, b13, b14, b15, b16, b17, b18, b19, b20, b21, b22, G1, rfl, fs, M1, C1, F⟩, hr⟩ := loop_any L rfl
  have hl0 : 0 < fs.length := by rw [F.len]; omega
  have f0 := F.full 0 fs[0] (List.getElem?_eq_getElem hl0) (by omega)
  have hsp : ∀ gs : List Fm, (frm gs 0).pn = 0 → spareF gs (rv k) = ((if (frm gs 0).dt then 12 else 0), 0, (frm gs 0).pg) := fun gs hg => by
    obtain ⟨l, h⟩ := rv_last k0
    unfold spareF
    rw [hk, h, List.reverse_append]
    have : idleB gs 0 = true := by unfold idleB; rw [hg]; rfl
    show (match List.find? (idleB gs) (0 :: l.reverse) with | none => _ | some x => _) = _
    rw [List.find?_cons_of_pos this]
  have hfr : frm fs 0 = fs[0] := frm_eq (i := 0) hl0
  have hs1 := hsp fs (by rw [hfr]; exact f0.2.2.1)
  rw [hfr, f0.2.2.2, f0.2.1] at hs1
  have hu := F.used (Nat.le_refl _)
  have hno : findF fs ((20 : Nat) : Int) < 0 := by
    rw [findF_no fun j f hf hs hp => by
      by_cases hj : j < k
      · have := (F.full j f hf hj).2.1
        omega
      · have := F.rest j f hf (by omega)
        subst this
        cases hs]
    decide
  rw [evCallT_eq (F := ir5) rfl rfl rfl]
  unfold ir5
  rw [bodyK_eq]
  by_cases hz : m0 = 0
  · -- it is clean
    subst hz
    have em' : IntKind.i64.wrap ((BitVec.ofInt IntKind.i64.bits mask &&& BitVec.ofInt IntKind.i64.bits (1 : Int)).toNat : Int) = 0 := em
    rw [h0m] at hs1
    obtain ⟨y, M2, G2, e7, C2, x2, _⟩ := room_go (N := 200) (d := 1) (g := 20) (i := 0) (old := 0) C1 (by omega) hno (by rw [hu]; exact hs1) (by omega)
    have e7' : evCallT table 15 200 8 11 [.c (.ptr q 0), .c (.int .i64 20)] G1 = some (.tup [.c (.int .i64 0), .c (.int .i64 0), .c (.int .i64 0)], G2) := e7
    simp only [enter_eq, ev_seq, seqK_norm, seqK_exit, seqK_ret, ev_reg, ev_cond, condK_true, condK_false, ev_block, blockK_norm, blockK_ret, blockK_exit, ev_loop, ev_skip, ev_exit, ev_ret, regK_cons, regK_nil, guard_none, guard_some, regG_true, regG_false, regO_some, op_mov, op_conv, op_bin, op_bsl, op_box, op_mks, op_s2b, op_pick, op_un, op_eq, op_len, op_ext, op_load, op_iaddr, op_slice, op_b2s, op_idxS, op_mx, op_mn, op_call, op_store, op_app, op_copy, args_eq, result_one', rv_loc, finish_norm, finish_ret, outK_some, keep_true, keep_false, keep_nil, p_bin, p_pick, p_un, p_eq, p_conv, evNew, pureK_some, newK_some, X.eval, set_none, set_some, List.map_cons, List.map_nil, List.getD_cons_zero, List.getD_cons_succ, List.getD_nil, List.set_cons_zero, List.set_cons_succ, binCV, unCV, isShift, intArithF_eq, shiftF_eq, wrapF_eq, intArith, shift, eqVal, bound, asNat_cast, cond_true, cond_false, BEq.rfl, beq_self_eq_true, evalParts, fillParts, AV.cells, AV.ofCells, XV.av, AV.xv, List.length_cons, List.length_nil, zeros, patch, setMany, List.nil_append, List.cons_append, Nat.ble, Nat.add_eq, Nat.zero_add, Nat.add_zero, Nat.reduceAdd, Nat.reduceMul, Nat.reduceSub, Nat.ble_eq, Nat.reduceLeDiff, Nat.reduceBEq, Int.reduceBEq, Int.reduceNeg, Bool.and_true, Bool.and_false, Bool.true_and, Bool.false_and, Bool.not_true, Bool.not_false, Bool.true_eq_false, Bool.false_eq_true, Int.reduceLT, Int.reduceLE, Int.reduceGT, Int.reduceGE, decide_true, decide_false, Bool.not_eq_true, loopN_norm, loopN_exit, tf, ft, ff, e1, w1, e3', a0]
    rw [hr _ rfl]
    simp only [enter_eq, ev_seq, seqK_norm, seqK_exit, seqK_ret, ev_reg, ev_cond, condK_true, condK_false, ev_block, blockK_norm, blockK_ret, blockK_exit, ev_loop, ev_skip, ev_exit, ev_ret, regK_cons, regK_nil, guard_none, guard_some, regG_true, regG_false, regO_some, op_mov, op_conv, op_bin, op_bsl, op_box, op_mks, op_s2b, op_pick, op_un, op_eq, op_len, op_ext, op_load, op_iaddr, op_slice, op_b2s, op_idxS, op_mx, op_mn, op_call, op_store, op_app, op_copy, args_eq, result_one', rv_loc, finish_norm, finish_ret, outK_some, keep_true, keep_false, keep_nil, p_bin, p_pick, p_un, p_eq, p_conv, evNew, pureK_some, newK_some, X.eval, set_none, set_some, List.map_cons, List.map_nil, List.getD_cons_zero, List.getD_cons_succ, List.getD_nil, List.set_cons_zero, List.set_cons_succ, binCV, unCV, isShift, intArithF_eq, shiftF_eq, wrapF_eq, intArith, shift, eqVal, bound, asNat_cast, cond_true, cond_false, BEq.rfl, beq_self_eq_true, evalParts, fillParts, AV.cells, AV.ofCells, XV.av, AV.xv, List.length_cons, List.length_nil, zeros, patch, setMany, List.nil_append, List.cons_append, Nat.ble, Nat.add_eq, Nat.zero_add, Nat.add_zero, Nat.reduceAdd, Nat.reduceMul, Nat.reduceSub, Nat.ble_eq, Nat.reduceLeDiff, Nat.reduceBEq, Int.reduceBEq, Int.reduceNeg, Bool.and_true, Bool.and_false, Bool.true_and, Bool.false_and, Bool.not_true, Bool.not_false, Bool.true_eq_false, Bool.false_eq_true, Int.reduceLT, Int.reduceLE, Int.reduceGT, Int.reduceGE, decide_true, decide_false, Bool.not_eq_true, loopN_norm, loopN_exit, tf, ft, ff, blockK_exit_eq, e7', p_ext, List.getElem?_cons_zero, List.getElem?_cons_succ, em', bneI, evCallT_told]
    rfl
  · have hm1 : m0 = 1 := by omega
    subst hm1
    have em' : IntKind.i64.wrap ((BitVec.ofInt IntKind.i64.bits mask &&& BitVec.ofInt IntKind.i64.bits (1 : Int)).toNat : Int) = 1 := em
    rw [h0m] at hs1
    have hs1' : spareF fs (rv k) = (12, 0, 0) := hs1
    obtain ⟨G2, e7, C2, x2⟩ := room_stay (N := 200) (d := 1) (g := 20) C1 (by omega) hno (by rw [hu]; show (spareF fs (rv k)).1 ≠ 0; rw [hs1']; decide) (by omega)
    rw [hu] at e7 C2
    have e7' : evCallT table 15 200 8 11 [.c (.ptr q 0), .c (.int .i64 20)] G1 = some (.tup [.c (.int .i64 12), .c (.int .i64 0), .c (.int .i64 0)], G2) := by
      have e : evCallT table 15 200 8 11 [.c (.ptr q 0), .c (.int .i64 20)] G1 = some (.tup [.c (.int .i64 (spareF fs (rv k)).1), .c (.int .i64 (spareF fs (rv k)).2.1), .c (.int .i64 (spareF fs (rv k)).2.2)], G2) := e7
      rw [hs1'] at e; exact e
    have C2' : CH G2 q z fs [] M1 (rv k) [] := C2
    obtain ⟨G3, e8, C3, x3⟩ := room_stay (N := 200) (d := 1) (g := 20) C2' (by omega) hno (by rw [hu]; show (spareF fs (rv k)).1 ≠ 0; rw [hs1']; decide) (by omega)
    rw [hu] at e8 C3
    have e8' : evCallT table 15 200 8 11 [.c (.ptr q 0), .c (.int .i64 20)] G2 = some (.tup [.c (.int .i64 12), .c (.int .i64 0), .c (.int .i64 0)], G3) := by
      have e : evCallT table 15 200 8 11 [.c (.ptr q 0), .c (.int .i64 20)] G2 = some (.tup [.c (.int .i64 (spareF fs (rv k)).1), .c (.int .i64 (spareF fs (rv k)).2.1), .c (.int .i64 (spareF fs (rv k)).2.2)], G3) := e8
      rw [hs1'] at e; exact e
    have C3' : CH G3 q z fs [] M1 (rv k) [] := C3
    have a3 : evCallT table 15 200 8 8 [.c (.ptr q 0)] G3 = some (.c (.ptr z.p 0), G3) := arena_ok (N := 200) (d := 7) C3'
    obtain ⟨G4, e9, C4, x4⟩ := C3'.mark (N := 200) (d := 6) 0 false
    have emk : markF fs 0 false = ((0 : Int), fs.set 0 ⟨1, 0, 0, false, fs[0].y⟩) := by
      unfold markF
      rw [show usedF fs 0 = some (0, fs[0]) from usedF_eq (i := 0) hl0 f0.1]
      simp only [f0.1, f0.2.1, f0.2.2.1]
      rfl
    rw [emk] at e9 C4
    have e9' : evCallT table 15 200 8 14 [.c (.ptr z.p 0), .c (.int .i64 0), .c (.bool false)] G3 = some (.c (.int .i64 0), G4) := e9
    obtain ⟨gs, hgs⟩ : ∃ g, g = fs.set 0 ⟨1, 0, 0, false, fs[0].y⟩ := ⟨_, rfl⟩
    rw [← hgs] at C4
    have hgl : gs.length = fs.length := by rw [hgs]; simp
    have hg0 : gs[0]'(by omega) = ⟨1, 0, 0, false, fs[0].y⟩ := by simp [hgs]
    have hfrg : frm gs 0 = ⟨1, 0, 0, false, fs[0].y⟩ := by rw [← hg0]; exact frm_eq (i := 0) (by omega)
    have hs2 := hsp gs (by rw [hfrg])
    rw [hfrg] at hs2
    have hat : ∀ (j : Nat) (f : Fm), gs[j]? = some f → j ≠ 0 → fs[j]? = some f := fun j f hf hj => by
      rw [hgs] at hf
      rcases (set_at hl0).1 hf with ⟨h, _⟩ | ⟨_, h⟩
      · exact absurd h hj
      · exact h
    have hu2 : (rv k).filter (usedB gs) = rv k := by
      rw [List.filter_eq_self]
      intro x hx
      obtain ⟨j, hj, rfl⟩ := rv_mem.1 hx
      have hjl : j < gs.length := by rw [hgl, F.len]; omega
      rw [usedB_eq hjl]
      by_cases hj0 : j = 0
      · subst hj0; rw [hg0]; rfl
      · rw [(F.full j gs[j] (hat j gs[j] (List.getElem?_eq_getElem hjl) hj0) hj).1]; rfl
    have pages : ∀ (j : Nat) (f : Fm), gs[j]? = some f → f.st = 1 → j ≠ 0 → f.pg = (j : Int) ∧ j < k := fun j f hf hs hj => by
      have h := hat j f hf hj
      have hjk : j < k := by rw [← F.len]; exact (List.getElem?_eq_some_iff.1 h).1
      exact ⟨(F.full j f h hjk).2.1, hjk⟩
    have hno2 : findF gs ((20 : Nat) : Int) < 0 := by
      rw [findF_no fun j f hf hs hp => by
        by_cases hj : j = 0
        · subst hj
          rw [List.getElem?_eq_getElem (by omega), hg0] at hf
          simp only [Option.some.injEq] at hf
          subst hf
          simp at hp
        · have := pages j f hf hs hj
          omega]
      decide
    obtain ⟨y, M5, G5, e10, C5, x5, _⟩ := room_go (N := 200) (d := 1) (g := 20) (i := 0) (old := 0) C4 (by omega) hno2 (by rw [hu2]; exact hs2) (by omega)
    have e10' : evCallT table 15 200 8 11 [.c (.ptr q 0), .c (.int .i64 20)] G4 = some (.tup [.c (.int .i64 0), .c (.int .i64 0), .c (.int .i64 0)], G5) := e10
    have hh0 : findF (gs.set 0 ⟨1, ((20 : Nat) : Int), 1, false, y⟩) 0 < 0 := by
      rw [findF_no fun j f hf hs hp => by
        rcases (set_at (by omega : 0 < gs.length)).1 hf with ⟨rfl, rfl⟩ | ⟨hj, hf'⟩
        · simp at hp
        · have := pages j f hf' hs hj
          omega]
      decide
    obtain ⟨G6, e11, C6, x6⟩ := hit_no (N := 200) (d := 2) C5 (g := 0) hh0 (by omega)
    have hl5 : 0 < (gs.set 0 ⟨1, ((20 : Nat) : Int), 1, false, y⟩).length := by simp; omega
    have hg5 : (gs.set 0 ⟨1, ((20 : Nat) : Int), 1, false, y⟩)[0] = ⟨1, ((20 : Nat) : Int), 1, false, y⟩ := by simp
    have hf20 : findF (gs.set 0 ⟨1, ((20 : Nat) : Int), 1, false, y⟩) ((20 : Nat) : Int) = ((0 : Nat) : Int) := by
      have h2 := C6.ah.fm.one hl5 (by rw [hg5]) (q := 20) (by rw [hg5])
      have h3 := findF_eq C6.ah.fm 20
      rw [h2] at h3
      rw [← h3]; rfl
    obtain ⟨G7, e12, C7, x7⟩ := hit_yes (N := 200) (d := 2) C6 hf20 hl5 (by rw [hg5]) (by rw [hg5]; show (1 : Int) < 1000; decide) (by omega)
    have e11' : evCallT table 15 200 8 10 [.c (.ptr q 0), .c (.int .i64 0)] G5 = some (.c (.int .i64 (-1)), G6) := e11
    have e12' : evCallT table 15 200 8 10 [.c (.ptr q 0), .c (.int .i64 20)] G6 = some (.c (.int .i64 0), G7) := e12
    simp only [enter_eq, ev_seq, seqK_norm, seqK_exit, seqK_ret, ev_reg, ev_cond, condK_true, condK_false, ev_block, blockK_norm, blockK_ret, blockK_exit, ev_loop, ev_skip, ev_exit, ev_ret, regK_cons, regK_nil, guard_none, guard_some, regG_true, regG_false, regO_some, op_mov, op_conv, op_bin, op_bsl, op_box, op_mks, op_s2b, op_pick, op_un, op_eq, op_len, op_ext, op_load, op_iaddr, op_slice, op_b2s, op_idxS, op_mx, op_mn, op_call, op_store, op_app, op_copy, args_eq, result_one', rv_loc, finish_norm, finish_ret, outK_some, keep_true, keep_false, keep_nil, p_bin, p_pick, p_un, p_eq, p_conv, evNew, pureK_some, newK_some, X.eval, set_none, set_some, List.map_cons, List.map_nil, List.getD_cons_zero, List.getD_cons_succ, List.getD_nil, List.set_cons_zero, List.set_cons_succ, binCV, unCV, isShift, intArithF_eq, shiftF_eq, wrapF_eq, intArith, shift, eqVal, bound, asNat_cast, cond_true, cond_false, BEq.rfl, beq_self_eq_true, evalParts, fillParts, AV.cells, AV.ofCells, XV.av, AV.xv, List.length_cons, List.length_nil, zeros, patch, setMany, List.nil_append, List.cons_append, Nat.ble, Nat.add_eq, Nat.zero_add, Nat.add_zero, Nat.reduceAdd, Nat.reduceMul, Nat.reduceSub, Nat.ble_eq, Nat.reduceLeDiff, Nat.reduceBEq, Int.reduceBEq, Int.reduceNeg, Bool.and_true, Bool.and_false, Bool.true_and, Bool.false_and, Bool.not_true, Bool.not_false, Bool.true_eq_false, Bool.false_eq_true, Int.reduceLT, Int.reduceLE, Int.reduceGT, Int.reduceGE, decide_true, decide_false, Bool.not_eq_true, loopN_norm, loopN_exit, tf, ft, ff, e1, w1, e3', a0]
    rw [hr _ rfl]
    simp only [enter_eq, ev_seq, seqK_norm, seqK_exit, seqK_ret, ev_reg, ev_cond, condK_true, condK_false, ev_block, blockK_norm, blockK_ret, blockK_exit, ev_loop, ev_skip, ev_exit, ev_ret, regK_cons, regK_nil, guard_none, guard_some, regG_true, regG_false, regO_some, op_mov, op_conv, op_bin, op_bsl, op_box, op_mks, op_s2b, op_pick, op_un, op_eq, op_len, op_ext, op_load, op_iaddr, op_slice, op_b2s, op_idxS, op_mx, op_mn, op_call, op_store, op_app, op_copy, args_eq, result_one', rv_loc, finish_norm, finish_ret, outK_some, keep_true, keep_false, keep_nil, p_bin, p_pick, p_un, p_eq, p_conv, evNew, pureK_some, newK_some, X.eval, set_none, set_some, List.map_cons, List.map_nil, List.getD_cons_zero, List.getD_cons_succ, List.getD_nil, List.set_cons_zero, List.set_cons_succ, binCV, unCV, isShift, intArithF_eq, shiftF_eq, wrapF_eq, intArith, shift, eqVal, bound, asNat_cast, cond_true, cond_false, BEq.rfl, beq_self_eq_true, evalParts, fillParts, AV.cells, AV.ofCells, XV.av, AV.xv, List.length_cons, List.length_nil, zeros, patch, setMany, List.nil_append, List.cons_append, Nat.ble, Nat.add_eq, Nat.zero_add, Nat.add_zero, Nat.reduceAdd, Nat.reduceMul, Nat.reduceSub, Nat.ble_eq, Nat.reduceLeDiff, Nat.reduceBEq, Int.reduceBEq, Int.reduceNeg, Bool.and_true, Bool.and_false, Bool.true_and, Bool.false_and, Bool.not_true, Bool.not_false, Bool.true_eq_false, Bool.false_eq_true, Int.reduceLT, Int.reduceLE, Int.reduceGT, Int.reduceGE, decide_true, decide_false, Bool.not_eq_true, loopN_norm, loopN_exit, tf, ft, ff, blockK_exit_eq, e7', e8', a3, e9', e10', e11', e12', p_ext, List.getElem?_cons_zero, List.getElem?_cons_succ, em', bneI, evCallT_told]
    rfl
end Lav

namespace Go.Proofs.Ytdcjiljegffalaa.coreClean
open Go.ChangeShapes Go.WideShapes Go.ChangeAt Go.RowKit
open Go.ChangeMaps (open_string shut_string)
set_option linter.unusedVariables false      -- a walk need not use every 'w<i>' (that an integer argument fits its kind)

theorem own : ownKnob Try.prog.godebug = none := by kernel_rfl

/-! ### STEP 1: THE WALK: the Go text returns true. 'Below w.heap.size w w'': the world has at most new blocks (Derived/RowKit3.lean). Part the cases AHEAD of 'go_enter' where a test parts the walk; take each callee by a contract of your own. -/
theorem walk (a0 : Int) (a1 : Int) (w0 : (Lit.int .i64 a0).wf = true) (w1 : (Lit.int .i64 a1).wf = true) (w : World) :
    Calls Try.prog 5 #[.int .i64 a0, .int .i64 a1] w fun e w' => e = .returned (.bool true) ∧ Below w.heap.size w w' := by
  exact Lav.walk_of (Lav.evCallT_sound Lav.mixed Lav.table_ok Lav.tld11 200 9) (Lav.Init.empty w) (args := [.c (.int .i64 a0), .c (.int .i64 a1)]) (vs := [.int .i64 a0, .int .i64 a1]) ⟨rfl, rfl, trivial⟩ (Lav.coreClean a0 a1)

/-! ### THE ROW's STEP: WRITTEN OUT: LEAVE IT -/
set_option maxRecDepth 100000 in
theorem lifted (os : Os) (started : os.Started) (H : Type) (enc : TypeId × Value → H) :
    ReturnsInHanded {} Try.checked os 5 .any (Rows.coreCleanSpec.pre6 enc Try.prog Try.f5 Rows.coreCleanRow.domain false) (Rows.coreCleanSpec.post enc Try.prog Try.f5 false true false false) := by
  refine returnsInHanded_of_change (C := Try.checked) own started (by kernel_rfl) Try.func5
    (ChangeSpec.witness6 (enc := enc) (C := Try.checked) false ⟨#[], #[.int .i64 0, .int .i64 0], []⟩ 8 (by kernel_rfl) (by kernel_rfl) (by kernel_rfl) (by kernel_rfl)) ?_
  intro W base args ds gs before hval0 hW hcnd _
  have hval : ∀ (j : Nat) t v, Try.f5.params[j]? = some t → args[j]? = some v → Value.okWide Try.prog W .any base t v := hval0
  have hW' := hW
  obtain ⟨p, q, hA0, hV, rfl, hfz, hnd⟩ := hW
  have hA : DataW.TrodAll enc Try.prog W 0 (fun _ => true) true Try.f5.params.toList args.toList ds p := hA0
  rw [Try.params5] at hA hval
  obtain ⟨v0, vs0, d0, ds0, p0, q0, hargs, rfl, rfl, h0, r0⟩ := trodAll_cons hA
  obtain ⟨v1, vs1, d1, ds1, p1, q1, rfl, rfl, rfl, h1, r1⟩ := trodAll_cons r0
  obtain ⟨rfl, rfl, rfl⟩ := trodAll_nil r1
  obtain rfl : args = #[v0, v1] := by cases args; simp_all
  obtain ⟨rfl, rfl⟩ := trodVars_none hV
  obtain ⟨a0, rfl, rfl, rfl, w0⟩ := open_int Try.underlying3 (hval 0 3 v0 rfl rfl) h0
  obtain ⟨a1, rfl, rfl, rfl, w1⟩ := open_int Try.underlying3 (hval 1 3 v1 rfl rfl) h1
  clear hA0 hval0
  refine (walk a0 a1 w0 w1 W).mono fun e W' ⟨he, hg⟩ => ?_
  subst he
  exact ⟨_, rfl, _, _, _, [], _, [], hW', trodAll_mk1 (shut_bool Try.underlying4 _), (trodAll_cons_mk (shut_int Try.underlying3 w0) (trodAll_cons_mk (shut_int Try.underlying3 w1) trodAll_mk0)), rfl, hg.frame _, fun h => by cases h⟩

theorem over : Rows.coreCleanRow.holds Try.pinned (OpenSpec.ofChange Rows.coreCleanSpec) :=
  OpenClaim.holds_of_wide 5 Try.f5 rfl rfl rfl rfl rfl rfl rfl ⟨rfl, rfl, rfl, rfl, rfl⟩ rfl rfl rfl rfl rfl (by kernel_rfl) Try.func5 (by kernel_rfl)
    (of_decide_eq_true (by kernel_rfl)) (by unfold Func.isWrapper; first | (rw [if_pos (by decide +kernel)]; kernel_rfl) | (rw [if_neg (by decide +kernel)]; exact ⟨rfl, rfl⟩))
    (fun os started H enc _ => lifted os started H enc)

/-- ████ THE STATEMENT ████ -/
theorem proved : Rows.CoreCleanSaid :=
  over
end Go.Proofs.Ytdcjiljegffalaa.coreClean
