/-
  Proved: whatever numbers come in, lavabolaw19.DirStops returns true and changes nothing that was there. No conditions beyond the given statement's.
-/
import Derived.Test.YtdeehmncnfdmkaaRows
import Derived.Test.YtdeehmncnfdmkaaFwP
import Derived.Test.YtdeehmncnfdmkaaDir1
import Derived.WalkKit
import Derived.ProofKit
import Derived.OpenShut
import Derived.Below
import Derived.ShutString
set_option maxRecDepth 100000
set_option linter.unusedSimpArgs false
namespace Lav
open Go (IntKind)
theorem tld19 : ToldOK Go.Proofs.Try.prog 12 := told_of (calls_okF 200 9) (by kernel_rfl)

theorem own_at {n b : Nat} (h : b < (ownN n 16).length) : (ownN n 16)[b] = ((b % n : Nat) : Int) := by simp [ownN]
theorem ok_new {n : Nat} (h1 : 1 ≤ n) (h4 : n ≤ 4) : OkD ⟨1, ownN n 16, -1, 0, 0⟩ 4 :=
  ⟨Int.le_refl _, by show (1 : Int) ≤ 1000000; decide, fun s hs => by
    obtain ⟨j, _, rfl⟩ := List.mem_map.1 hs
    have := Nat.mod_lt j (show 0 < n by omega)
    omega, .inl ⟨rfl, rfl, rfl⟩⟩
theorem box5 (h : Heap) (x : Dr) (i : Nat) : ∃ h', (h.new (.cells dz)).write h.next 0 (dc x i) = some h' ∧ h'.get h.next = some (.cells (dc x i)) ∧ Ext h h' ∧ h'.next = h.next + 1 := box_store rfl

theorem tailD {H : Heap} {m : Dr} {k : Nat} (v : DV H m k) (o : OkD m 4) (b : m.bk ≠ -1) {q : Dr} (hq : q = ⟨m.ver, m.own, -1, 0, 0⟩) : ∃ k7 h7 h8 h9 h10, evCallT table 12 100 8 18 [.agg (dc m k)] H = some (.tup [.agg (dc q k7), .c (.int .i64 0)], h7) ∧ (h7.new (.cells dz)).write h7.next 0 (dc q k7) = some h8 ∧ h8.read h7.next 0 5 = some (dc q k7) ∧
    evCallT table 12 100 8 18 [.agg (dc q k7)] h8 = some (.tup [.agg (dc q k7), .c (.int .i64 12)], h9) ∧ (h9.new (.cells dz)).write h9.next 0 (dc q k7) = some h10 ∧ h10.read h7.next 0 5 = some (dc q k7) ∧ DV h10 q k7 ∧ Ext H h10 := by
  have key := stop_ok (N := 100) (d := 5) v o b (by omega)
  rw [← hq] at key
  obtain ⟨k7, h7, e7, v7, x7⟩ := key
  obtain ⟨h8, w8, g8, x8, n8⟩ := box5 h7 q k7
  have o' : OkD q 4 := by rw [hq]; exact ⟨o.v1, o.v2, o.ow, .inl ⟨rfl, rfl, rfl⟩⟩
  obtain ⟨h9, e9, v9, x9⟩ := stop_no (N := 100) (d := 5) (v7.ext x8) o' (by rw [hq]) (by omega)
  obtain ⟨h10, w10, g10, x10, n10⟩ := box5 h9 q k7
  exact ⟨k7, h7, h8, h9, h10, e7, w8, rd5 g8, e9, w10, rd5 ((x9.trans x10).at_ g8 (by omega)), v9.ext x10, ((x7.trans x8).trans x9).trans x10⟩

theorem dirStops (a0 a1 a2 a3 : Int) (cb : Bool) (h : Heap) : good (evCallT table 12 100 9 6 [.c (.int .i64 a0), .c (.int .i64 a1), .c (.int .i64 a2), .c (.int .i64 a3), .c (.bool cb)] h) = true := by
  obtain ⟨s, hs, es⟩ := few (a := a0) (m := 3) (by omega) (by omega)
  obtain ⟨n, hn⟩ : ∃ n : Nat, n = 2 + s := ⟨_, rfl⟩
  have es' : IntKind.i64.wrap (Int.tmod (IntKind.u64.wrap a0) 3) = (s : Int) := es
  have en : IntKind.i64.wrap (2 + (s : Int)) = (n : Int) := by rw [wrapI (by omega) (by omega)]; omega
  have un : IntKind.u64.wrap (n : Int) = (n : Int) := wrapUNat (by omega)
  have n0 : ((n : Int) == 0) = false := by simp only [beq_eq_false_iff_ne, ne_eq]; omega
  obtain ⟨x, hx, ex⟩ := few (a := a1) (m := 16) (by omega) (by omega)
  have ex' : IntKind.i64.wrap (Int.tmod (IntKind.u64.wrap a1) 16) = (x : Int) := ex
  obtain ⟨y, hy, ey⟩ := few (a := a2) (m := 16) (by omega) (by omega)
  have ey' : IntKind.i64.wrap (Int.tmod (IntKind.u64.wrap a2) 16) = (y : Int) := ey
  obtain ⟨t, ht, et⟩ := few (a := a3) (m := n) (by omega) (by omega)
  have xm : Int.tmod (x : Int) (n : Int) = ((x % n : Nat) : Int) := by rw [Int.tmod_eq_emod_of_nonneg (by omega)]; omega
  have tm : Int.tmod ((t + 1 : Nat) : Int) (n : Int) = (((t + 1) % n : Nat) : Int) := by rw [Int.tmod_eq_emod_of_nonneg (by omega)]; omega
  have t1 := succI (i := t) (by omega)
  obtain ⟨k, h1, e1, v1, x1⟩ : ∃ k h', evCallT table 12 100 8 11 [.c (.int .i64 (n : Int))] h = some (.agg (dc ⟨1, ownN n 16, -1, 0, 0⟩ k), h') ∧ DV h' ⟨1, ownN n 16, -1, 0, 0⟩ k ∧ Ext h h' := new_ok (N := 100) (d := 7) (by omega) (by omega) (by omega)
  have ok := ok_new (n := n) (by omega) (by omega)
  obtain ⟨h2, w2, g2, x2, n2⟩ := box5 h1 ⟨1, ownN n 16, -1, 0, 0⟩ k
  have v2 := v1.ext x2
  have r2 : h2.read h1.next 0 5 = some (dc ⟨1, ownN n 16, -1, 0, 0⟩ k) := rd5 g2
  have bneI : ∀ {a b : Int}, (a != b) = !(a == b) := rfl
  rw [evCallT_eq (F := ir6) rfl rfl rfl]
  unfold ir6
  rw [bodyK_eq]
  by_cases hxt : x % n = t
  · have q1 : (((x % n : Nat) : Int) == (t : Int)) = true := by simp only [beq_iff_eq]; omega
    obtain ⟨h3, e3, v3, x3⟩ : ∃ h', evCallT table 12 100 8 13 [.agg (dc ⟨1, ownN n 16, -1, 0, 0⟩ k), .c (.int .i64 (x : Int)), .c (.int .i64 (t : Int))] h2 = some (.tup [.agg (dc ⟨1, ownN n 16, -1, 0, 0⟩ k), .c (.int .i64 1)], h') ∧ DV h' ⟨1, ownN n 16, -1, 0, 0⟩ k ∧ Ext h2 h' := begin_same (N := 100) (d := 5) v2 ok rfl hx (by omega) (by rw [own_at, hxt]) (by omega)
    obtain ⟨h4, w4, g4, x4, n4⟩ := box5 h3 ⟨1, ownN n 16, -1, 0, 0⟩ k
    have r4 : h4.read h3.next 0 5 = some (dc ⟨1, ownN n 16, -1, 0, 0⟩ k) := rd5 g4
    have r24 : h4.read h1.next 0 5 = some (dc ⟨1, ownN n 16, -1, 0, 0⟩ k) := rd5 ((x3.trans x4).at_ g2 (by omega))
    obtain ⟨h5, e5, x5⟩ : ∃ h', evCallT table 12 100 8 16 [.agg (dc ⟨1, ownN n 16, -1, 0, 0⟩ k), .agg (dc ⟨1, ownN n 16, -1, 0, 0⟩ k)] h4 = some (.c (.bool true), h') ∧ Ext h4 h' := same_ok (N := 100) (d := 6) (v3.ext x4) (v3.ext x4) (by omega)
    simp only [enter_eq, ev_seq, seqK_norm, seqK_exit, seqK_ret, ev_reg, ev_cond, condK_true, condK_false, ev_block, blockK_norm, blockK_ret, blockK_exit, ev_loop, ev_skip, ev_exit, ev_ret, regK_cons, regK_nil, guard_none, guard_some, regG_true, regG_false, regO_some, op_mov, op_conv, op_bin, op_bsl, op_box, op_mks, op_s2b, op_pick, op_un, op_eq, op_len, op_ext, op_load, op_iaddr, op_slice, op_b2s, op_idxS, op_mx, op_mn, op_call, op_store, op_app, op_copy, args_eq, result_one', rv_loc, finish_norm, finish_ret, outK_some, keep_true, keep_false, keep_nil, p_bin, p_pick, p_un, p_eq, p_conv, evNew, pureK_some, newK_some, X.eval, set_none, set_some, List.map_cons, List.map_nil, List.getD_cons_zero, List.getD_cons_succ, List.getD_nil, List.set_cons_zero, List.set_cons_succ, binCV, unCV, isShift, intArithF_eq, shiftF_eq, wrapF_eq, intArith, shift, eqVal, bound, asNat_cast, cond_true, cond_false, BEq.rfl, beq_self_eq_true, evalParts, fillParts, AV.cells, AV.ofCells, XV.av, AV.xv, List.length_cons, List.length_nil, zeros, patch, setMany, List.nil_append, List.cons_append, Nat.ble, Nat.add_eq, Nat.zero_add, Nat.add_zero, Nat.reduceAdd, Nat.reduceMul, Nat.reduceSub, Nat.ble_eq, Nat.reduceLeDiff, Nat.reduceBEq, Int.reduceBEq, Int.reduceNeg, Bool.and_true, Bool.and_false, Bool.true_and, Bool.false_and, Bool.not_true, Bool.not_false, Bool.true_eq_false, Bool.false_eq_true, Int.reduceLT, Int.reduceLE, Int.reduceGT, Int.reduceGE, decide_true, decide_false, Bool.not_eq_true, loopN_norm, loopN_exit, tf, ft, ff, ev_dreg, dregK_nil, dregK_cons, dregE_true, dregP_some, dregX_some, d_mov, d_bin, d_eq, d_pick, d_un, d_conv, d_b2s, d_len, d_load, d_iaddr, d_slice, d_ext, d_call, d_store, chk_done, chk_none, chk_some, chkG_true, chkG_false, chkOne_nil, chkOne_cons, chkH_some, chkV_same, stage_none, stage_some, look_hit, look_miss, news_nil, wb_cons, wb_nil, skip0, List.reverse_cons, List.reverse_nil, bneI, es', en, un, n0, ex', ey', et, e1, evEff, dc_five, w2, p_load, r2, AV.ofCells, e3, op_ext, p_ext, List.getElem?_cons_zero, List.getElem?_cons_succ, w4, xm, q1, evCallT_told, r4, r24, e5]
    rfl
  · have q1 : (((x % n : Nat) : Int) == (t : Int)) = false := by simp only [beq_eq_false_iff_ne, ne_eq]; omega
    have tn : ((t + 1) % n : Nat) < n := Nat.mod_lt _ (by omega)
    obtain ⟨m, hm⟩ : ∃ m : Dr, m = ⟨1, ownN n 16, (x : Int), (t : Int), 1⟩ := ⟨_, rfl⟩
    obtain ⟨k3, h3, e3, v3, x3⟩ : ∃ k3 h', evCallT table 12 100 8 13 [.agg (dc ⟨1, ownN n 16, -1, 0, 0⟩ k), .c (.int .i64 (x : Int)), .c (.int .i64 (t : Int))] h2 = some (.tup [.agg (dc m k3), .c (.int .i64 0)], h') ∧ DV h' m k3 ∧ Ext h2 h' := by
      rw [hm]; exact begin_ok (N := 100) (d := 5) v2 ok rfl hx (by omega) (by rw [own_at]; omega) (by omega)
    have okm : ∀ ph, ph = 1 ∨ ph = 2 → OkD ⟨1, ownN n 16, (x : Int), (t : Int), ph⟩ 4 := fun ph hp => ⟨ok.v1, ok.v2, ok.ow, .inr ⟨by show (0 : Int) ≤ (x : Int); omega, by show (x : Int) < 16; omega, by show (0 : Int) ≤ (t : Int); omega, by show (t : Int) < 4; omega, by
      show (ownN n 16)[(x : Int).toNat]? ≠ some (t : Int)
      rw [Int.toNat_natCast, List.getElem?_eq_getElem (by rw [ownN_len]; exact hx), own_at]
      intro e; simp only [Option.some.injEq] at e; omega, hp⟩⟩
    have ok3 : OkD m 4 := by rw [hm]; exact okm 1 (.inl rfl)
    have b3 : m.bk ≠ -1 := by rw [hm]; show (x : Int) ≠ -1; omega
    obtain ⟨h4, w4, g4, x4, n4⟩ := box5 h3 m k3
    have r4 : h4.read h3.next 0 5 = some (dc m k3) := rd5 g4
    -- the other move is not begun
    have v4 := v3.ext x4
    have e0 : Ext h4 (h4.skip 1) := (Ext.refl _).skip 1
    have r40 : (h4.skip 1).read h3.next 0 5 = some (dc m k3) := r4
    obtain ⟨h5, e5, v5, x5⟩ : ∃ h', evCallT table 12 100 8 13 [.agg (dc m k3), .c (.int .i64 (y : Int)), .c (.int .i64 (((t + 1) % n : Nat) : Int))] (h4.skip 1) = some (.tup [.agg (dc m k3), .c (.int .i64 13)], h') ∧ DV h' m k3 ∧ Ext (h4.skip 1) h' := begin_held (N := 100) (d := 5) (v4.ext e0) ok3 b3 _ _ (by omega)
    have x5n := x5.1
    rw [next_skip] at x5n
    obtain ⟨h6, w6, g6, o6, n6⟩ := wr (h := h5.put h4.next (.cells dz)) (e := h4.next) (o := 0) (l := dz) (v := dc m k3) get_put_at (by simp [dc, dz])
    have x6 : Ext h4 h6 := ⟨by rw [n6, next_put]; omega, fun j hj => by rw [o6 j (by omega), get_put_ne (by omega)]; exact x5.2 j (by rw [next_skip]; omega)⟩
    have r6 : h6.read h3.next 0 5 = some (dc m k3) := rd5 (x6.at_ g4 (by omega))
    have v6 := v4.ext x6
    have own2 : m.ver = 1 ∧ m.own = ownN n 16 := by rw [hm]; exact ⟨rfl, rfl⟩
    cases cb with
    | false =>
      obtain ⟨k7, h7, h8, h9, h10, e7, w8, r8, e9, w10, r10, v10, x10⟩ := tailD v6 ok3 b3 (q := ⟨1, ownN n 16, -1, 0, 0⟩) (by rw [own2.1, own2.2])
      have x16 := (x6.trans x10)
      have r210 : h10.read h1.next 0 5 = some (dc ⟨1, ownN n 16, -1, 0, 0⟩ k) := rd5 (((x3.trans x4).trans x16).at_ g2 (by omega))
      obtain ⟨h11, e11, x11⟩ : ∃ h', evCallT table 12 100 8 16 [.agg (dc ⟨1, ownN n 16, -1, 0, 0⟩ k7), .agg (dc ⟨1, ownN n 16, -1, 0, 0⟩ k)] h10 = some (.c (.bool true), h') ∧ Ext h10 h' := same_ok (N := 100) (d := 6) v10 (v2.ext ((x3.trans x4).trans x16)) (by omega)
      simp only [enter_eq, ev_seq, seqK_norm, seqK_exit, seqK_ret, ev_reg, ev_cond, condK_true, condK_false, ev_block, blockK_norm, blockK_ret, blockK_exit, ev_loop, ev_skip, ev_exit, ev_ret, regK_cons, regK_nil, guard_none, guard_some, regG_true, regG_false, regO_some, op_mov, op_conv, op_bin, op_bsl, op_box, op_mks, op_s2b, op_pick, op_un, op_eq, op_len, op_ext, op_load, op_iaddr, op_slice, op_b2s, op_idxS, op_mx, op_mn, op_call, op_store, op_app, op_copy, args_eq, result_one', rv_loc, finish_norm, finish_ret, outK_some, keep_true, keep_false, keep_nil, p_bin, p_pick, p_un, p_eq, p_conv, evNew, pureK_some, newK_some, X.eval, set_none, set_some, List.map_cons, List.map_nil, List.getD_cons_zero, List.getD_cons_succ, List.getD_nil, List.set_cons_zero, List.set_cons_succ, binCV, unCV, isShift, intArithF_eq, shiftF_eq, wrapF_eq, intArith, shift, eqVal, bound, asNat_cast, cond_true, cond_false, BEq.rfl, beq_self_eq_true, evalParts, fillParts, AV.cells, AV.ofCells, XV.av, AV.xv, List.length_cons, List.length_nil, zeros, patch, setMany, List.nil_append, List.cons_append, Nat.ble, Nat.add_eq, Nat.zero_add, Nat.add_zero, Nat.reduceAdd, Nat.reduceMul, Nat.reduceSub, Nat.ble_eq, Nat.reduceLeDiff, Nat.reduceBEq, Int.reduceBEq, Int.reduceNeg, Bool.and_true, Bool.and_false, Bool.true_and, Bool.false_and, Bool.not_true, Bool.not_false, Bool.true_eq_false, Bool.false_eq_true, Int.reduceLT, Int.reduceLE, Int.reduceGT, Int.reduceGE, decide_true, decide_false, Bool.not_eq_true, loopN_norm, loopN_exit, tf, ft, ff, ev_dreg, dregK_nil, dregK_cons, dregE_true, dregP_some, dregX_some, d_mov, d_bin, d_eq, d_pick, d_un, d_conv, d_b2s, d_len, d_load, d_iaddr, d_slice, d_ext, d_call, d_store, chk_done, chk_none, chk_some, chkG_true, chkG_false, chkOne_nil, chkOne_cons, chkH_some, chkV_same, stage_none, stage_some, look_hit, look_miss, news_nil, wb_cons, wb_nil, skip0, List.reverse_cons, List.reverse_nil, bneI, es', en, un, n0, ex', ey', et, e1, evEff, dc_five, w2, p_load, r2, AV.ofCells, e3, op_ext, p_ext, List.getElem?_cons_zero, List.getElem?_cons_succ, w4, xm, q1, evCallT_told, r4, r40, t1, tm, d_box, dregW_some, e5, w6, r6, e7, w8, r8, e9, w10, r10, r210, e11]
      rfl
    | true =>
      obtain ⟨ka, ha, ea, va, xa⟩ : ∃ k h', evCallT table 12 100 8 14 [.agg (dc m k3)] h6 = some (.tup [.agg (dc ⟨m.ver, m.own, m.bk, m.to, 2⟩ k), .c (.int .i64 0)], h') ∧ DV h' ⟨m.ver, m.own, m.bk, m.to, 2⟩ k ∧ Ext h6 h' := carry_ok (N := 100) (d := 5) v6 ok3 (by rw [hm]) (by omega)
      obtain ⟨hb, wb, gb, xb, nb⟩ := box5 ha ⟨m.ver, m.own, m.bk, m.to, 2⟩ ka
      have rb : hb.read ha.next 0 5 = some (dc ⟨m.ver, m.own, m.bk, m.to, 2⟩ ka) := rd5 gb
      have xab := xa.trans xb
      have xan := xa.1
      have g3b : hb.get h3.next = some (.cells (dc m k3)) := ((x6.trans xab).at_ g4 (by omega))
      obtain ⟨hc, wc, gc, oc, nc⟩ := wr (o := 0) (v := dc ⟨m.ver, m.own, m.bk, m.to, 2⟩ ka) g3b (by simp [dc])
      have gc' : hc.get h3.next = some (.cells (dc ⟨m.ver, m.own, m.bk, m.to, 2⟩ ka)) := by rw [gc]; simp [dc]
      have rc : hc.read h3.next 0 5 = some (dc ⟨m.ver, m.own, m.bk, m.to, 2⟩ ka) := rd5 gc'
      have okc : OkD ⟨m.ver, m.own, m.bk, m.to, 2⟩ 4 := by rw [hm]; exact okm 2 (.inr rfl)
      have vab := va.ext xb
      have vlt := vab.lt
      have kne : ka ≠ h3.next := fun e => by
        have h1 := vab.own
        rw [e, g3b] at h1
        simp [dc, icell] at h1
        have := congrArg List.length h1
        rw [List.length_map, va.len] at this
        simp at this
      have vc : DV hc ⟨m.ver, m.own, m.bk, m.to, 2⟩ ka := ⟨by rw [oc ka kne]; exact vab.own, by omega, va.len⟩
      obtain ⟨k7, h7, h8, h9, h10, e7, w8, r8, e9, w10, r10, v10, x10⟩ := tailD vc okc b3 (q := ⟨1, ownN n 16, -1, 0, 0⟩) (by rw [own2.1, own2.2])
      have x46 := (x3.trans x4).trans (x6.trans xab)
      have x46n := x46.1
      have g2c : hc.get h1.next = some (.cells (dc ⟨1, ownN n 16, -1, 0, 0⟩ k)) := by rw [oc _ (by have := x3.1; omega)]; exact x46.at_ g2 (by omega)
      have r210 : h10.read h1.next 0 5 = some (dc ⟨1, ownN n 16, -1, 0, 0⟩ k) := rd5 (x10.at_ g2c (by omega))
      have v2b := v2.ext x46
      have kl := v2.lt
      have v2c : DV hc ⟨1, ownN n 16, -1, 0, 0⟩ k := ⟨by rw [oc k (by have := x3.1; omega)]; exact v2b.own, by have := v2b.lt; omega, v2.len⟩
      obtain ⟨h11, e11, x11⟩ : ∃ h', evCallT table 12 100 8 16 [.agg (dc ⟨1, ownN n 16, -1, 0, 0⟩ k7), .agg (dc ⟨1, ownN n 16, -1, 0, 0⟩ k)] h10 = some (.c (.bool true), h') ∧ Ext h10 h' := same_ok (N := 100) (d := 6) v10 (v2c.ext x10) (by omega)
      simp only [enter_eq, ev_seq, seqK_norm, seqK_exit, seqK_ret, ev_reg, ev_cond, condK_true, condK_false, ev_block, blockK_norm, blockK_ret, blockK_exit, ev_loop, ev_skip, ev_exit, ev_ret, regK_cons, regK_nil, guard_none, guard_some, regG_true, regG_false, regO_some, op_mov, op_conv, op_bin, op_bsl, op_box, op_mks, op_s2b, op_pick, op_un, op_eq, op_len, op_ext, op_load, op_iaddr, op_slice, op_b2s, op_idxS, op_mx, op_mn, op_call, op_store, op_app, op_copy, args_eq, result_one', rv_loc, finish_norm, finish_ret, outK_some, keep_true, keep_false, keep_nil, p_bin, p_pick, p_un, p_eq, p_conv, evNew, pureK_some, newK_some, X.eval, set_none, set_some, List.map_cons, List.map_nil, List.getD_cons_zero, List.getD_cons_succ, List.getD_nil, List.set_cons_zero, List.set_cons_succ, binCV, unCV, isShift, intArithF_eq, shiftF_eq, wrapF_eq, intArith, shift, eqVal, bound, asNat_cast, cond_true, cond_false, BEq.rfl, beq_self_eq_true, evalParts, fillParts, AV.cells, AV.ofCells, XV.av, AV.xv, List.length_cons, List.length_nil, zeros, patch, setMany, List.nil_append, List.cons_append, Nat.ble, Nat.add_eq, Nat.zero_add, Nat.add_zero, Nat.reduceAdd, Nat.reduceMul, Nat.reduceSub, Nat.ble_eq, Nat.reduceLeDiff, Nat.reduceBEq, Int.reduceBEq, Int.reduceNeg, Bool.and_true, Bool.and_false, Bool.true_and, Bool.false_and, Bool.not_true, Bool.not_false, Bool.true_eq_false, Bool.false_eq_true, Int.reduceLT, Int.reduceLE, Int.reduceGT, Int.reduceGE, decide_true, decide_false, Bool.not_eq_true, loopN_norm, loopN_exit, tf, ft, ff, ev_dreg, dregK_nil, dregK_cons, dregE_true, dregP_some, dregX_some, d_mov, d_bin, d_eq, d_pick, d_un, d_conv, d_b2s, d_len, d_load, d_iaddr, d_slice, d_ext, d_call, d_store, chk_done, chk_none, chk_some, chkG_true, chkG_false, chkOne_nil, chkOne_cons, chkH_some, chkV_same, stage_none, stage_some, look_hit, look_miss, news_nil, wb_cons, wb_nil, skip0, List.reverse_cons, List.reverse_nil, bneI, es', en, un, n0, ex', ey', et, e1, evEff, dc_five, w2, p_load, r2, AV.ofCells, e3, op_ext, p_ext, List.getElem?_cons_zero, List.getElem?_cons_succ, w4, xm, q1, evCallT_told, r4, r40, t1, tm, d_box, dregW_some, e5, w6, r6, ea, wb, rb, wc, rc, e7, w8, r8, e9, w10, r10, r210, e11]
      rfl

end Lav

namespace Go.Proofs.Ytdeehmncnfdmkaa.dirStops
open Go.ChangeShapes Go.WideShapes Go.ChangeAt Go.RowKit
open Go.ChangeMaps (open_string shut_string)
set_option linter.unusedVariables false      -- a walk need not use every 'w<i>' (that an integer argument fits its kind)

theorem own : ownKnob Try.prog.godebug = none := by kernel_rfl

/-! ### STEP 1: THE WALK: the Go text returns true. 'Below w.heap.size w w'': the world has at most new blocks (Derived/RowKit3.lean). Part the cases AHEAD of 'go_enter' where a test parts the walk; take each callee by a contract of your own. -/
theorem walk (a0 : Int) (a1 : Int) (a2 : Int) (a3 : Int) (a4 : Bool) (w0 : (Lit.int .i64 a0).wf = true) (w1 : (Lit.int .i64 a1).wf = true) (w2 : (Lit.int .i64 a2).wf = true) (w3 : (Lit.int .i64 a3).wf = true) (w : World) :
    Calls Try.prog 6 #[.int .i64 a0, .int .i64 a1, .int .i64 a2, .int .i64 a3, .bool a4] w fun e w' => e = .returned (.bool true) ∧ Below w.heap.size w w' := by
  exact Lav.walk_of (Lav.evCallT_sound Lav.mixed Lav.table_ok Lav.tld19 100 9) (Lav.Init.empty w) (args := [.c (.int .i64 a0), .c (.int .i64 a1), .c (.int .i64 a2), .c (.int .i64 a3), .c (.bool a4)]) (vs := [.int .i64 a0, .int .i64 a1, .int .i64 a2, .int .i64 a3, .bool a4]) ⟨rfl, rfl, rfl, rfl, rfl, trivial⟩ (Lav.dirStops a0 a1 a2 a3 a4 _)

/-! ### THE ROW's STEP: WRITTEN OUT: LEAVE IT -/
set_option maxRecDepth 100000 in
theorem lifted (os : Os) (started : os.Started) (H : Type) (enc : TypeId × Value → H) :
    ReturnsInHanded {} Try.checked os 6 .any (Rows.dirStopsSpec.pre6 enc Try.prog Try.f6 Rows.dirStopsRow.domain false) (Rows.dirStopsSpec.post enc Try.prog Try.f6 false true false false) := by
  refine returnsInHanded_of_change (C := Try.checked) own started (by kernel_rfl) Try.func6
    (ChangeSpec.witness6 (enc := enc) (C := Try.checked) false ⟨#[], #[.int .i64 0, .int .i64 0, .int .i64 0, .int .i64 0, .bool false], []⟩ 8 (by kernel_rfl) (by kernel_rfl) (by kernel_rfl) (by kernel_rfl)) ?_
  intro W base args ds gs before hval0 hW hcnd _
  have hval : ∀ (j : Nat) t v, Try.f6.params[j]? = some t → args[j]? = some v → Value.okWide Try.prog W .any base t v := hval0
  have hW' := hW
  obtain ⟨p, q, hA0, hV, rfl, hfz, hnd⟩ := hW
  have hA : DataW.TrodAll enc Try.prog W 0 (fun _ => true) true Try.f6.params.toList args.toList ds p := hA0
  rw [Try.params6] at hA hval
  obtain ⟨v0, vs0, d0, ds0, p0, q0, hargs, rfl, rfl, h0, r0⟩ := trodAll_cons hA
  obtain ⟨v1, vs1, d1, ds1, p1, q1, rfl, rfl, rfl, h1, r1⟩ := trodAll_cons r0
  obtain ⟨v2, vs2, d2, ds2, p2, q2, rfl, rfl, rfl, h2, r2⟩ := trodAll_cons r1
  obtain ⟨v3, vs3, d3, ds3, p3, q3, rfl, rfl, rfl, h3, r3⟩ := trodAll_cons r2
  obtain ⟨v4, vs4, d4, ds4, p4, q4, rfl, rfl, rfl, h4, r4⟩ := trodAll_cons r3
  obtain ⟨rfl, rfl, rfl⟩ := trodAll_nil r4
  obtain rfl : args = #[v0, v1, v2, v3, v4] := by cases args; simp_all
  obtain ⟨rfl, rfl⟩ := trodVars_none hV
  obtain ⟨a0, rfl, rfl, rfl, w0⟩ := open_int Try.underlying3 (hval 0 3 v0 rfl rfl) h0
  obtain ⟨a1, rfl, rfl, rfl, w1⟩ := open_int Try.underlying3 (hval 1 3 v1 rfl rfl) h1
  obtain ⟨a2, rfl, rfl, rfl, w2⟩ := open_int Try.underlying3 (hval 2 3 v2 rfl rfl) h2
  obtain ⟨a3, rfl, rfl, rfl, w3⟩ := open_int Try.underlying3 (hval 3 3 v3 rfl rfl) h3
  obtain ⟨a4, rfl, rfl, rfl⟩ := open_bool Try.underlying4 (hval 4 4 v4 rfl rfl) h4
  clear hA0 hval0
  refine (walk a0 a1 a2 a3 a4 w0 w1 w2 w3 W).mono fun e W' ⟨he, hg⟩ => ?_
  subst he
  exact ⟨_, rfl, _, _, _, [], _, [], hW', trodAll_mk1 (shut_bool Try.underlying4 _), (trodAll_cons_mk (shut_int Try.underlying3 w0) (trodAll_cons_mk (shut_int Try.underlying3 w1) (trodAll_cons_mk (shut_int Try.underlying3 w2) (trodAll_cons_mk (shut_int Try.underlying3 w3) (trodAll_cons_mk (shut_bool Try.underlying4 _) trodAll_mk0))))), rfl, hg.frame _, fun h => by cases h⟩

theorem over : Rows.dirStopsRow.holds Try.pinned (OpenSpec.ofChange Rows.dirStopsSpec) :=
  OpenClaim.holds_of_wide 6 Try.f6 rfl rfl rfl rfl rfl rfl rfl ⟨rfl, rfl, rfl, rfl, rfl⟩ rfl rfl rfl rfl rfl (by kernel_rfl) Try.func6 (by kernel_rfl)
    (of_decide_eq_true (by kernel_rfl)) (by unfold Func.isWrapper; first | (rw [if_pos (by decide +kernel)]; kernel_rfl) | (rw [if_neg (by decide +kernel)]; exact ⟨rfl, rfl⟩))
    (fun os started H enc _ => lifted os started H enc)

/-- ████ THE STATEMENT ████ -/
theorem proved : Rows.DirStopsSaid :=
  over
end Go.Proofs.Ytdeehmncnfdmkaa.dirStops
