/-
  Proved: whatever number and steps come in, lavabolaw10.ArenaPlays returns true and changes nothing that was there. No conditions beyond the given statement's.
-/
import Derived.Test.YtdilhnnbfkiacaaRows
import Derived.Test.YtdilhnnbfkiacaaRarB
import Derived.WalkKit
import Derived.ProofKit
import Derived.OpenShut
import Derived.ShutString
import Derived.ChangeOld
import Derived.Below
set_option maxRecDepth 100000
set_option linter.unusedSimpArgs false
namespace Lav
open Go (IntKind)
theorem BH.rep {h : Heap} {p : Nat} {a : AP} (n : Nat) : BH h p a (List.replicate n frZ) (fun _ => []) := by
  refine ⟨fun i f hf hs => ?_, fun i j f g hf hg hs _ _ => ?_⟩
  all_goals
    have : f = frZ := List.eq_of_mem_replicate (List.mem_of_getElem? hf)
    subst this
    cases hs

theorem arenaPlays {h : Heap} {x : CV} {m : Nat} {cs : List CV} (n : Int) (hx : Mix ks5 h x m cs) : good (evCallT table 18 200 9 7 [.c (.int .i64 n), .c x] h) = true := by
  have lx : ∀ (loc vals : List AV) (h : Heap), evPure loc (.c x :: vals) h (.len .sl (.val 0)) = some (.c (.int .i64 (m : Int))) := fun _ _ _ => hx.len rfl
  by_cases hn : n < 0 ∨ n > 32
  · have e1 : evCallT table 18 200 8 8 [.c (.int .i64 n)] h = some (.c .nilp, h) := new_none (N := 200) (d := 7) hn
    have e2 : evCallT table 18 200 8 21 [.c (.int .i64 n)] h = some (.c .nilp, h) := rnew_no (N := 200) (d := 7) hn
    rw [evCallT_eq (F := ir7) rfl rfl rfl]
    unfold ir7
    rw [bodyK_eq]
    simp only [enter_eq, ev_seq, seqK_norm, seqK_exit, seqK_ret, ev_reg, ev_cond, condK_true, condK_false, ev_block, blockK_norm, blockK_ret, blockK_exit, ev_loop, ev_skip, ev_exit, ev_ret, regK_cons, regK_nil, guard_none, guard_some, regG_true, regG_false, regO_some, op_mov, op_conv, op_bin, op_bsl, op_box, op_mks, op_s2b, op_pick, op_un, op_eq, op_len, op_ext, op_load, op_iaddr, op_slice, op_b2s, op_idxS, op_mx, op_mn, op_call, op_store, op_app, op_copy, args_eq, result_one', rv_loc, finish_norm, finish_ret, outK_some, keep_true, keep_false, keep_nil, p_bin, p_pick, p_un, p_eq, p_conv, evNew, pureK_some, newK_some, X.eval, set_none, set_some, List.map_cons, List.map_nil, List.getD_cons_zero, List.getD_cons_succ, List.getD_nil, List.set_cons_zero, List.set_cons_succ, binCV, unCV, isShift, intArithF_eq, shiftF_eq, wrapF_eq, intArith, shift, eqVal, bound, asNat_cast, cond_true, cond_false, BEq.rfl, beq_self_eq_true, evalParts, fillParts, AV.cells, AV.ofCells, XV.av, AV.xv, List.length_cons, List.length_nil, zeros, patch, setMany, List.nil_append, List.cons_append, Nat.ble, Nat.add_eq, Nat.zero_add, Nat.add_zero, Nat.reduceAdd, Nat.reduceMul, Nat.reduceSub, Nat.ble_eq, Nat.reduceLeDiff, Nat.reduceBEq, Int.reduceBEq, Int.reduceNeg, Bool.and_true, Bool.and_false, Bool.true_and, Bool.false_and, Bool.not_true, Bool.not_false, Bool.true_eq_false, Bool.false_eq_true, Int.reduceLT, Int.reduceLE, Int.reduceGT, Int.reduceGE, decide_true, decide_false, Bool.not_eq_true, loopN_norm, loopN_exit, tf, ft, ff, e1, e2, evCallT_told]
    rfl
  obtain ⟨n, rfl⟩ : ∃ k : Nat, n = (k : Int) := ⟨n.toNat, by omega⟩
  obtain ⟨p, a, H0, e1, A0, x0, y0⟩ := new_ar (N := 200) (d := 4) (h := h) n (by omega) (by omega)
  obtain ⟨q, ux, uy, uv, S, H1, e2, R0, x1, y1⟩ := rnew_ok (N := 200) (d := 6) (h := H0) n (by omega) (by omega)
  have e1' : evCallT table 18 200 8 8 [.c (.int .i64 (n : Int))] h = some (.c (.ptr p 0), H0) := e1
  have e2' : evCallT table 18 200 8 21 [.c (.int .i64 (n : Int))] H0 = some (.c (.ptr q 0), H1) := e2
  have no0 : bods (List.replicate n frZ) = [] := by
    cases hb : bods (List.replicate n frZ) with
    | nil => rfl
    | cons k l =>
      obtain ⟨i, f, hf, hs, _⟩ := mem_bods.1 (show k ∈ bods (List.replicate n frZ) by rw [hb]; simp)
      have : f = frZ := List.eq_of_mem_replicate (List.mem_of_getElem? hf)
      subst this
      cases hs
  have all0 : ∀ k ∈ all p a (List.replicate n frZ), k ∈ own p a := fun k hk => by unfold all at hk; rw [no0, List.append_nil] at hk; exact hk
  have T0 : Two h H1 p a (List.replicate n frZ) (ints n) (fun _ => none) (fun _ => []) q ux uy uv S := by
    refine ⟨(AB.mk A0 (BH.rep n)).ext' x1, R0, fun i f hf hs => ?_, fun k hk hm => ?_, fun k hk => y0 k (all0 k hk), fun k hk => ?_⟩
    · have : f = frZ := List.eq_of_mem_replicate (List.mem_of_getElem? hf)
      subst this
      cases hs
    · have h1 := A0.ar.old k (all0 k hk)
      have h2 := y1 k hm
      omega
    · have h2 := y1 k hk; have := x0.1; omega
  by_cases hm : m ≤ 120
  · have v0 : decide ((m : Int) > 120) = false := decide_eq_false (by omega)
    have L : ∀ loc, keepOnly ir7_k0 loc = [.junk, .c x, .junk, .c (.ptr p 0), .c (.ptr q 0), .c (.int .i64 0), .junk, .junk, .junk, .junk, .junk, .junk, .junk, .junk, .junk, .junk, .junk, .junk, .junk, .junk, .junk, .junk, .junk] →
        ∃ r, loopK (evCallT table 18 200 8) 200 ir7_k0 ir7_l0 200 loc H1 = some r ∧ ∃ a0 a1 a2 l G, r = (.exit 0, a0 :: a1 :: a2 :: l, G) ∨ r = (.ret, a0 :: a1 :: .c (.bool true) :: l, G) := by
      intro loc hloc
      refine loop_inv (n := m) (fun i loc G => i ≤ m ∧ (∃ a fs o M B ux uy uv S, Two h G p a fs o M B q ux uy uv S) ∧ Ext h G ∧ loc = [.junk, .c x, .junk, .c (.ptr p 0), .c (.ptr q 0), .c (.int .i64 (i : Int)), .junk, .junk, .junk, .junk, .junk, .junk, .junk, .junk, .junk, .junk, .junk, .junk, .junk, .junk, .junk, .junk, .junk]) _ ?_ ⟨Nat.zero_le _, ⟨_, _, _, _, _, _, _, _, _, T0⟩, x0.trans x1, hloc⟩ (by omega)
      rintro i loc G hi ⟨hin, ⟨a, fs, o, M, B, ux, uy, uv, S, T⟩, xg, rfl⟩
      unfold ir7_l0
      by_cases hlt : i < m
      · have v1 : decide ((i : Int) < (m : Int)) = true := ltNat hlt
        have v2 := succI (i := i) (by omega)
        have m1 : Nat.blt i m = true := bltT hlt
        have hxg := hx.ext xg
        obtain ⟨bx, rfl, hb, hg⟩ : ∃ b, x = .sl b 0 m (.dy 5) ∧ b < G.next ∧ G.get b = some (.ro cs) := hxg.sl (by omega)
        have hhx := hx.sl (by omega)
        obtain ⟨bx', ex', hb', hg'⟩ : ∃ b, CV.sl bx 0 m (.dy 5) = .sl b 0 m (.dy 5) ∧ b < h.next ∧ h.get b = some (.ro cs) := hhx
        cases ex'
        obtain ⟨kd, pp, qf, db, bb, bl, rop0, brow⟩ := hx.op5 hg' hlt
        have rop : G.read bx (i * 5) 5 = some [.int .i64 kd, .int .i64 pp, .int .i64 qf, .bool db, bb] := (xg.read hb').trans rop0
        obtain ⟨bs, hbs, hrow⟩ := bytes_row brow
        have lbb : ∀ (loc vals : List AV) (h : Heap), evPure loc (.c bb :: vals) h (.len .sl (.val 0)) = some (.c (.int .i64 (bs.length : Int))) := fun _ _ _ => hbs.len rfl
        obtain ⟨G1, w1, g1, x1, n1⟩ := box_store (h := G) (z := [.int .i64 0, .int .i64 0, .int .i64 0, .bool false, .nils]) (v := [.int .i64 kd, .int .i64 pp, .int .i64 qf, .bool db, bb]) rfl
        have o0 : G1.read G.next 0 1 = some [.int .i64 kd] := read_cells g1 rfl
        have o1 : G1.read G.next 1 1 = some [.int .i64 pp] := read_cells g1 rfl
        have o2 : G1.read G.next 2 1 = some [.int .i64 qf] := read_cells g1 rfl
        have o3 : G1.read G.next 3 1 = some [.bool db] := read_cells g1 rfl
        have o4 : G1.read G.next 4 1 = some [bb] := read_cells g1 rfl
        by_cases h30 : bs.length > 30
        · right
          have v30 : decide ((bs.length : Int) > 30) = true := decide_eq_true (by omega)
          simp only [enter_eq, ev_seq, seqK_norm, seqK_exit, seqK_ret, ev_reg, ev_cond, condK_true, condK_false, ev_block, blockK_norm, blockK_ret, blockK_exit, ev_loop, ev_skip, ev_exit, ev_ret, regK_cons, regK_nil, guard_none, guard_some, regG_true, regG_false, regO_some, op_mov, op_conv, op_bin, op_bsl, op_box, op_mks, op_s2b, op_pick, op_un, op_eq, op_len, op_ext, op_load, op_iaddr, op_slice, op_b2s, op_idxS, op_mx, op_mn, op_call, op_store, op_app, op_copy, args_eq, result_one', rv_loc, finish_norm, finish_ret, outK_some, keep_true, keep_false, keep_nil, p_bin, p_pick, p_un, p_eq, p_conv, evNew, pureK_some, newK_some, X.eval, set_none, set_some, List.map_cons, List.map_nil, List.getD_cons_zero, List.getD_cons_succ, List.getD_nil, List.set_cons_zero, List.set_cons_succ, binCV, unCV, isShift, intArithF_eq, shiftF_eq, wrapF_eq, intArith, shift, eqVal, bound, asNat_cast, cond_true, cond_false, BEq.rfl, beq_self_eq_true, evalParts, fillParts, AV.cells, AV.ofCells, XV.av, AV.xv, List.length_cons, List.length_nil, zeros, patch, setMany, List.nil_append, List.cons_append, Nat.ble, Nat.add_eq, Nat.zero_add, Nat.add_zero, Nat.reduceAdd, Nat.reduceMul, Nat.reduceSub, Nat.ble_eq, Nat.reduceLeDiff, Nat.reduceBEq, Int.reduceBEq, Int.reduceNeg, Bool.and_true, Bool.and_false, Bool.true_and, Bool.false_and, Bool.not_true, Bool.not_false, Bool.true_eq_false, Bool.false_eq_true, Int.reduceLT, Int.reduceLE, Int.reduceGT, Int.reduceGE, decide_true, decide_false, Bool.not_eq_true, loopN_norm, loopN_exit, tf, ft, ff, ev_dreg, dregK_nil, dregK_cons, dregE_true, dregP_some, dregX_some, d_mov, d_bin, d_eq, d_pick, d_un, d_conv, d_b2s, d_len, d_load, d_iaddr, d_slice, d_ext, d_call, d_store, chk_done, chk_none, chk_some, chkG_true, chkG_false, chkOne_nil, chkOne_cons, chkH_some, chkV_same, stage_none, stage_some, look_hit, look_miss, news_nil, wb_cons, wb_nil, skip0, List.reverse_cons, List.reverse_nil, lx, v1, p_iaddr, m1, p_load, AV.ofCells, Nat.zero_add, rop, evEff, w1, op_faddr, p_faddr, o4, lbb, v30, evCallT_told]
          exact ⟨_, rfl, by simp, _, _, .junk, _, _, .inr rfl⟩
        left
        refine ⟨hlt, ?_⟩
        have v30 : decide ((bs.length : Int) > 30) = false := decide_eq_false (by omega)
        have hG0 : h.next ≤ G1.next := (xg.trans x1).1
        have T1 := T.ext' x1
        have hbK1 : Bytes G1 bb bs := hbs.ext (xg.trans x1)
        have own1 : G.next ∉ all p a fs ++ rown q ux uy uv := fun hm => by
          rcases List.mem_append.1 hm with h | h
          · have := T.ab.old _ h; omega
          · have := T.r.old _ h; omega
        obtain ⟨K, hK, ek⟩ : ∃ k : Nat, k < 10 ∧ Int.tmod (IntKind.i64.wrap (Int.tmod kd 10 + 10)) 10 = (k : Int) := kindM (m := 10) (by omega) (by omega) kd
        by_cases c0 : K = 0
        · subst c0
          have ek : Int.tmod (IntKind.i64.wrap (Int.tmod kd 10 + 10)) 10 = (0 : Int) := ek
          obtain ⟨z, M', B', K2, eA, A2, xA, yA, hB⟩ := T1.ab.take (N := 200) (d := 3) pp (by omega)
          subst hB
          have b2 : K2.get G.next = _ := xA.at_ g1 (by omega) (fun hm => own1 (List.mem_append.2 (.inl hm)))
          have R1 := T1.r1 xA
          obtain ⟨v', K3, eB, R2, xR, yR⟩ := rtake_ok (N := 200) (d := 6) R1 T1.ab.ah.sm (fun f hf => let ⟨i, hi, e, _⟩ := T1.ab.ah.fo.lt hf; ⟨i, e, hi⟩) pp z (by omega)
          have sb2 := T1.sb.take T1.r.sl T1.ab.ah.fo pp z
          have p2 : K2.read G.next 1 1 = some [.int .i64 pp] := read_cells b2 rfl
          obtain ⟨T2, xx⟩ := T1.step hG0 A2 xA yA R2 xR yR sb2
          have b3 : K3.get G.next = _ := xx.at_ g1 (by omega) own1
          have p3 : K3.read G.next 1 1 = some [.int .i64 pp] := read_cells b3 rfl
          have eF : evCallT table 18 200 8 9 [.c (.ptr p 0), .c (.int .i64 pp)] K3 = some (.c (.int .i64 (findF _ pp)), K3) := T2.ab.ah.find (N := 200) (d := 4) pp (by omega)
          have eR : evCallT table 18 200 8 31 [.c (.ptr q 0), .c (.int .i64 pp)] K3 = some (.c (.int .i64 (findF _ pp)), K3) := rfind_ok (N := 200) (d := 7) T2.r T2.ab.ah.sm pp (by omega)
          obtain ⟨K4, eS, x4⟩ : ∃ h', evCallT table 18 200 8 32 [.c (.ptr p 0), .c (.ptr q 0)] K3 = some (.c (.bool true), h') ∧ Ext K3 h' := same_ok (N := 200) (d := 5) T2 (by omega)
          simp only [enter_eq, ev_seq, seqK_norm, seqK_exit, seqK_ret, ev_reg, ev_cond, condK_true, condK_false, ev_block, blockK_norm, blockK_ret, blockK_exit, ev_loop, ev_skip, ev_exit, ev_ret, regK_cons, regK_nil, guard_none, guard_some, regG_true, regG_false, regO_some, op_mov, op_conv, op_bin, op_bsl, op_box, op_mks, op_s2b, op_pick, op_un, op_eq, op_len, op_ext, op_load, op_iaddr, op_slice, op_b2s, op_idxS, op_mx, op_mn, op_call, op_store, op_app, op_copy, args_eq, result_one', rv_loc, finish_norm, finish_ret, outK_some, keep_true, keep_false, keep_nil, p_bin, p_pick, p_un, p_eq, p_conv, evNew, pureK_some, newK_some, X.eval, set_none, set_some, List.map_cons, List.map_nil, List.getD_cons_zero, List.getD_cons_succ, List.getD_nil, List.set_cons_zero, List.set_cons_succ, binCV, unCV, isShift, intArithF_eq, shiftF_eq, wrapF_eq, intArith, shift, eqVal, bound, asNat_cast, cond_true, cond_false, BEq.rfl, beq_self_eq_true, evalParts, fillParts, AV.cells, AV.ofCells, XV.av, AV.xv, List.length_cons, List.length_nil, zeros, patch, setMany, List.nil_append, List.cons_append, Nat.ble, Nat.add_eq, Nat.zero_add, Nat.add_zero, Nat.reduceAdd, Nat.reduceMul, Nat.reduceSub, Nat.ble_eq, Nat.reduceLeDiff, Nat.reduceBEq, Int.reduceBEq, Int.reduceNeg, Bool.and_true, Bool.and_false, Bool.true_and, Bool.false_and, Bool.not_true, Bool.not_false, Bool.true_eq_false, Bool.false_eq_true, Int.reduceLT, Int.reduceLE, Int.reduceGT, Int.reduceGE, decide_true, decide_false, Bool.not_eq_true, loopN_norm, loopN_exit, tf, ft, ff, ev_dreg, dregK_nil, dregK_cons, dregE_true, dregP_some, dregX_some, d_mov, d_bin, d_eq, d_pick, d_un, d_conv, d_b2s, d_len, d_load, d_iaddr, d_slice, d_ext, d_call, d_store, chk_done, chk_none, chk_some, chkG_true, chkG_false, chkOne_nil, chkOne_cons, chkH_some, chkV_same, stage_none, stage_some, look_hit, look_miss, news_nil, wb_cons, wb_nil, skip0, List.reverse_cons, List.reverse_nil, lx, v1, p_iaddr, m1, p_load, AV.ofCells, Nat.zero_add, rop, evEff, w1, op_faddr, p_faddr, d_faddr, o0, o1, o2, o3, o4, lbb, v30, ek, eA, p2, eB, p3, eF, eR, eS, bneI, eqq, v2]
          exact ⟨_, _, rfl, by omega, ⟨_, _, _, _, _, _, _, _, _, T2.ext' x4⟩, ((xg.trans x1).own xx (fun k hk => (List.mem_append.1 hk).elim (T1.ya k) (T1.yr k))).trans x4, rfl⟩
        by_cases c1 : K = 1
        · subst c1
          have ek : Int.tmod (IntKind.i64.wrap (Int.tmod kd 10 + 10)) 10 = (1 : Int) := ek
          obtain ⟨z, M', B', K2, eA, A2, xA, yA, hB⟩ := T1.ab.take (N := 200) (d := 3) pp (by omega)
          subst hB
          have b2 : K2.get G.next = _ := xA.at_ g1 (by omega) (fun hm => own1 (List.mem_append.2 (.inl hm)))
          have R1 := T1.r1 xA
          obtain ⟨v', K3, eB, R2, xR, yR⟩ := rtake_ok (N := 200) (d := 6) R1 T1.ab.ah.sm (fun f hf => let ⟨i, hi, e, _⟩ := T1.ab.ah.fo.lt hf; ⟨i, e, hi⟩) pp z (by omega)
          have sb2 := T1.sb.take T1.r.sl T1.ab.ah.fo pp z
          have p2 : K2.read G.next 1 1 = some [.int .i64 pp] := read_cells b2 rfl
          obtain ⟨T2, xx⟩ := T1.step hG0 A2 xA yA R2 xR yR sb2
          have b3 : K3.get G.next = _ := xx.at_ g1 (by omega) own1
          have p3 : K3.read G.next 1 1 = some [.int .i64 pp] := read_cells b3 rfl
          have eF : evCallT table 18 200 8 9 [.c (.ptr p 0), .c (.int .i64 pp)] K3 = some (.c (.int .i64 (findF _ pp)), K3) := T2.ab.ah.find (N := 200) (d := 4) pp (by omega)
          have eR : evCallT table 18 200 8 31 [.c (.ptr q 0), .c (.int .i64 pp)] K3 = some (.c (.int .i64 (findF _ pp)), K3) := rfind_ok (N := 200) (d := 7) T2.r T2.ab.ah.sm pp (by omega)
          obtain ⟨K4, eS, x4⟩ : ∃ h', evCallT table 18 200 8 32 [.c (.ptr p 0), .c (.ptr q 0)] K3 = some (.c (.bool true), h') ∧ Ext K3 h' := same_ok (N := 200) (d := 5) T2 (by omega)
          simp only [enter_eq, ev_seq, seqK_norm, seqK_exit, seqK_ret, ev_reg, ev_cond, condK_true, condK_false, ev_block, blockK_norm, blockK_ret, blockK_exit, ev_loop, ev_skip, ev_exit, ev_ret, regK_cons, regK_nil, guard_none, guard_some, regG_true, regG_false, regO_some, op_mov, op_conv, op_bin, op_bsl, op_box, op_mks, op_s2b, op_pick, op_un, op_eq, op_len, op_ext, op_load, op_iaddr, op_slice, op_b2s, op_idxS, op_mx, op_mn, op_call, op_store, op_app, op_copy, args_eq, result_one', rv_loc, finish_norm, finish_ret, outK_some, keep_true, keep_false, keep_nil, p_bin, p_pick, p_un, p_eq, p_conv, evNew, pureK_some, newK_some, X.eval, set_none, set_some, List.map_cons, List.map_nil, List.getD_cons_zero, List.getD_cons_succ, List.getD_nil, List.set_cons_zero, List.set_cons_succ, binCV, unCV, isShift, intArithF_eq, shiftF_eq, wrapF_eq, intArith, shift, eqVal, bound, asNat_cast, cond_true, cond_false, BEq.rfl, beq_self_eq_true, evalParts, fillParts, AV.cells, AV.ofCells, XV.av, AV.xv, List.length_cons, List.length_nil, zeros, patch, setMany, List.nil_append, List.cons_append, Nat.ble, Nat.add_eq, Nat.zero_add, Nat.add_zero, Nat.reduceAdd, Nat.reduceMul, Nat.reduceSub, Nat.ble_eq, Nat.reduceLeDiff, Nat.reduceBEq, Int.reduceBEq, Int.reduceNeg, Bool.and_true, Bool.and_false, Bool.true_and, Bool.false_and, Bool.not_true, Bool.not_false, Bool.true_eq_false, Bool.false_eq_true, Int.reduceLT, Int.reduceLE, Int.reduceGT, Int.reduceGE, decide_true, decide_false, Bool.not_eq_true, loopN_norm, loopN_exit, tf, ft, ff, ev_dreg, dregK_nil, dregK_cons, dregE_true, dregP_some, dregX_some, d_mov, d_bin, d_eq, d_pick, d_un, d_conv, d_b2s, d_len, d_load, d_iaddr, d_slice, d_ext, d_call, d_store, chk_done, chk_none, chk_some, chkG_true, chkG_false, chkOne_nil, chkOne_cons, chkH_some, chkV_same, stage_none, stage_some, look_hit, look_miss, news_nil, wb_cons, wb_nil, skip0, List.reverse_cons, List.reverse_nil, lx, v1, p_iaddr, m1, p_load, AV.ofCells, Nat.zero_add, rop, evEff, w1, op_faddr, p_faddr, d_faddr, o0, o1, o2, o3, o4, lbb, v30, ek, eA, p2, eB, p3, eF, eR, eS, bneI, eqq, v2]
          exact ⟨_, _, rfl, by omega, ⟨_, _, _, _, _, _, _, _, _, T2.ext' x4⟩, ((xg.trans x1).own xx (fun k hk => (List.mem_append.1 hk).elim (T1.ya k) (T1.yr k))).trans x4, rfl⟩
        by_cases c2 : K = 2
        · subst c2
          have ek : Int.tmod (IntKind.i64.wrap (Int.tmod kd 10 + 10)) 10 = (2 : Int) := ek
          obtain ⟨K2, eA, A2, xA, yA⟩ := T1.ab.pin (N := 200) (d := 6) qf
          have b2 : K2.get G.next = _ := xA.at_ g1 (by omega) (fun hm => own1 (List.mem_append.2 (.inl hm)))
          have R1 := T1.r1 xA
          obtain ⟨K3, eB, R2, xR⟩ := rpin_ok (N := 200) (d := 6) R1 T1.ab.ah.ok qf
          have sb2 := T1.sb.sub (pinF_sub fs qf)
          have yR : YoungR K2 q ux uy uv ux uy uv := fun k hk => .inl hk
          have p2 : K2.read G.next 2 1 = some [.int .i64 qf] := read_cells b2 rfl
          obtain ⟨T2, xx⟩ := T1.step hG0 A2 xA yA R2 xR yR sb2
          have b3 : K3.get G.next = _ := xx.at_ g1 (by omega) own1
          have p3 : K3.read G.next 1 1 = some [.int .i64 pp] := read_cells b3 rfl
          have eF : evCallT table 18 200 8 9 [.c (.ptr p 0), .c (.int .i64 pp)] K3 = some (.c (.int .i64 (findF _ pp)), K3) := T2.ab.ah.find (N := 200) (d := 4) pp (by omega)
          have eR : evCallT table 18 200 8 31 [.c (.ptr q 0), .c (.int .i64 pp)] K3 = some (.c (.int .i64 (findF _ pp)), K3) := rfind_ok (N := 200) (d := 7) T2.r T2.ab.ah.sm pp (by omega)
          obtain ⟨K4, eS, x4⟩ : ∃ h', evCallT table 18 200 8 32 [.c (.ptr p 0), .c (.ptr q 0)] K3 = some (.c (.bool true), h') ∧ Ext K3 h' := same_ok (N := 200) (d := 5) T2 (by omega)
          simp only [enter_eq, ev_seq, seqK_norm, seqK_exit, seqK_ret, ev_reg, ev_cond, condK_true, condK_false, ev_block, blockK_norm, blockK_ret, blockK_exit, ev_loop, ev_skip, ev_exit, ev_ret, regK_cons, regK_nil, guard_none, guard_some, regG_true, regG_false, regO_some, op_mov, op_conv, op_bin, op_bsl, op_box, op_mks, op_s2b, op_pick, op_un, op_eq, op_len, op_ext, op_load, op_iaddr, op_slice, op_b2s, op_idxS, op_mx, op_mn, op_call, op_store, op_app, op_copy, args_eq, result_one', rv_loc, finish_norm, finish_ret, outK_some, keep_true, keep_false, keep_nil, p_bin, p_pick, p_un, p_eq, p_conv, evNew, pureK_some, newK_some, X.eval, set_none, set_some, List.map_cons, List.map_nil, List.getD_cons_zero, List.getD_cons_succ, List.getD_nil, List.set_cons_zero, List.set_cons_succ, binCV, unCV, isShift, intArithF_eq, shiftF_eq, wrapF_eq, intArith, shift, eqVal, bound, asNat_cast, cond_true, cond_false, BEq.rfl, beq_self_eq_true, evalParts, fillParts, AV.cells, AV.ofCells, XV.av, AV.xv, List.length_cons, List.length_nil, zeros, patch, setMany, List.nil_append, List.cons_append, Nat.ble, Nat.add_eq, Nat.zero_add, Nat.add_zero, Nat.reduceAdd, Nat.reduceMul, Nat.reduceSub, Nat.ble_eq, Nat.reduceLeDiff, Nat.reduceBEq, Int.reduceBEq, Int.reduceNeg, Bool.and_true, Bool.and_false, Bool.true_and, Bool.false_and, Bool.not_true, Bool.not_false, Bool.true_eq_false, Bool.false_eq_true, Int.reduceLT, Int.reduceLE, Int.reduceGT, Int.reduceGE, decide_true, decide_false, Bool.not_eq_true, loopN_norm, loopN_exit, tf, ft, ff, ev_dreg, dregK_nil, dregK_cons, dregE_true, dregP_some, dregX_some, d_mov, d_bin, d_eq, d_pick, d_un, d_conv, d_b2s, d_len, d_load, d_iaddr, d_slice, d_ext, d_call, d_store, chk_done, chk_none, chk_some, chkG_true, chkG_false, chkOne_nil, chkOne_cons, chkH_some, chkV_same, stage_none, stage_some, look_hit, look_miss, news_nil, wb_cons, wb_nil, skip0, List.reverse_cons, List.reverse_nil, lx, v1, p_iaddr, m1, p_load, AV.ofCells, Nat.zero_add, rop, evEff, w1, op_faddr, p_faddr, d_faddr, o0, o1, o2, o3, o4, lbb, v30, ek, eA, p2, eB, p3, eF, eR, eS, bneI, eqq, v2]
          exact ⟨_, _, rfl, by omega, ⟨_, _, _, _, _, _, _, _, _, T2.ext' x4⟩, ((xg.trans x1).own xx (fun k hk => (List.mem_append.1 hk).elim (T1.ya k) (T1.yr k))).trans x4, rfl⟩
        by_cases c3 : K = 3
        · subst c3
          have ek : Int.tmod (IntKind.i64.wrap (Int.tmod kd 10 + 10)) 10 = (3 : Int) := ek
          obtain ⟨K2, eA, A2, xA, yA⟩ := T1.ab.unpin (N := 200) (d := 6) qf
          have b2 : K2.get G.next = _ := xA.at_ g1 (by omega) (fun hm => own1 (List.mem_append.2 (.inl hm)))
          have R1 := T1.r1 xA
          obtain ⟨K3, eB, R2, xR⟩ := runpin_ok (N := 200) (d := 6) R1 T1.ab.ah.ok qf
          have sb2 := T1.sb.sub (unpinF_sub fs qf)
          have yR : YoungR K2 q ux uy uv ux uy uv := fun k hk => .inl hk
          have p2 : K2.read G.next 2 1 = some [.int .i64 qf] := read_cells b2 rfl
          obtain ⟨T2, xx⟩ := T1.step hG0 A2 xA yA R2 xR yR sb2
          have b3 : K3.get G.next = _ := xx.at_ g1 (by omega) own1
          have p3 : K3.read G.next 1 1 = some [.int .i64 pp] := read_cells b3 rfl
          have eF : evCallT table 18 200 8 9 [.c (.ptr p 0), .c (.int .i64 pp)] K3 = some (.c (.int .i64 (findF _ pp)), K3) := T2.ab.ah.find (N := 200) (d := 4) pp (by omega)
          have eR : evCallT table 18 200 8 31 [.c (.ptr q 0), .c (.int .i64 pp)] K3 = some (.c (.int .i64 (findF _ pp)), K3) := rfind_ok (N := 200) (d := 7) T2.r T2.ab.ah.sm pp (by omega)
          obtain ⟨K4, eS, x4⟩ : ∃ h', evCallT table 18 200 8 32 [.c (.ptr p 0), .c (.ptr q 0)] K3 = some (.c (.bool true), h') ∧ Ext K3 h' := same_ok (N := 200) (d := 5) T2 (by omega)
          simp only [enter_eq, ev_seq, seqK_norm, seqK_exit, seqK_ret, ev_reg, ev_cond, condK_true, condK_false, ev_block, blockK_norm, blockK_ret, blockK_exit, ev_loop, ev_skip, ev_exit, ev_ret, regK_cons, regK_nil, guard_none, guard_some, regG_true, regG_false, regO_some, op_mov, op_conv, op_bin, op_bsl, op_box, op_mks, op_s2b, op_pick, op_un, op_eq, op_len, op_ext, op_load, op_iaddr, op_slice, op_b2s, op_idxS, op_mx, op_mn, op_call, op_store, op_app, op_copy, args_eq, result_one', rv_loc, finish_norm, finish_ret, outK_some, keep_true, keep_false, keep_nil, p_bin, p_pick, p_un, p_eq, p_conv, evNew, pureK_some, newK_some, X.eval, set_none, set_some, List.map_cons, List.map_nil, List.getD_cons_zero, List.getD_cons_succ, List.getD_nil, List.set_cons_zero, List.set_cons_succ, binCV, unCV, isShift, intArithF_eq, shiftF_eq, wrapF_eq, intArith, shift, eqVal, bound, asNat_cast, cond_true, cond_false, BEq.rfl, beq_self_eq_true, evalParts, fillParts, AV.cells, AV.ofCells, XV.av, AV.xv, List.length_cons, List.length_nil, zeros, patch, setMany, List.nil_append, List.cons_append, Nat.ble, Nat.add_eq, Nat.zero_add, Nat.add_zero, Nat.reduceAdd, Nat.reduceMul, Nat.reduceSub, Nat.ble_eq, Nat.reduceLeDiff, Nat.reduceBEq, Int.reduceBEq, Int.reduceNeg, Bool.and_true, Bool.and_false, Bool.true_and, Bool.false_and, Bool.not_true, Bool.not_false, Bool.true_eq_false, Bool.false_eq_true, Int.reduceLT, Int.reduceLE, Int.reduceGT, Int.reduceGE, decide_true, decide_false, Bool.not_eq_true, loopN_norm, loopN_exit, tf, ft, ff, ev_dreg, dregK_nil, dregK_cons, dregE_true, dregP_some, dregX_some, d_mov, d_bin, d_eq, d_pick, d_un, d_conv, d_b2s, d_len, d_load, d_iaddr, d_slice, d_ext, d_call, d_store, chk_done, chk_none, chk_some, chkG_true, chkG_false, chkOne_nil, chkOne_cons, chkH_some, chkV_same, stage_none, stage_some, look_hit, look_miss, news_nil, wb_cons, wb_nil, skip0, List.reverse_cons, List.reverse_nil, lx, v1, p_iaddr, m1, p_load, AV.ofCells, Nat.zero_add, rop, evEff, w1, op_faddr, p_faddr, d_faddr, o0, o1, o2, o3, o4, lbb, v30, ek, eA, p2, eB, p3, eF, eR, eS, bneI, eqq, v2]
          exact ⟨_, _, rfl, by omega, ⟨_, _, _, _, _, _, _, _, _, T2.ext' x4⟩, ((xg.trans x1).own xx (fun k hk => (List.mem_append.1 hk).elim (T1.ya k) (T1.yr k))).trans x4, rfl⟩
        by_cases c4 : K = 4
        · subst c4
          have ek : Int.tmod (IntKind.i64.wrap (Int.tmod kd 10 + 10)) 10 = (4 : Int) := ek
          obtain ⟨K2, eA, A2, xA, yA⟩ := T1.ab.mark (N := 200) (d := 6) qf db
          have b2 : K2.get G.next = _ := xA.at_ g1 (by omega) (fun hm => own1 (List.mem_append.2 (.inl hm)))
          have R1 := T1.r1 xA
          obtain ⟨K3, eB, R2, xR⟩ := rmark_ok (N := 200) (d := 6) R1 qf db
          have sb2 := T1.sb.sub (markF_sub fs qf db)
          have yR : YoungR K2 q ux uy uv ux uy uv := fun k hk => .inl hk
          have p2 : K2.read G.next 2 1 = some [.int .i64 qf] := read_cells b2 rfl
          have p22 : K2.read G.next 3 1 = some [.bool db] := read_cells b2 rfl
          obtain ⟨T2, xx⟩ := T1.step hG0 A2 xA yA R2 xR yR sb2
          have b3 : K3.get G.next = _ := xx.at_ g1 (by omega) own1
          have p3 : K3.read G.next 1 1 = some [.int .i64 pp] := read_cells b3 rfl
          have eF : evCallT table 18 200 8 9 [.c (.ptr p 0), .c (.int .i64 pp)] K3 = some (.c (.int .i64 (findF _ pp)), K3) := T2.ab.ah.find (N := 200) (d := 4) pp (by omega)
          have eR : evCallT table 18 200 8 31 [.c (.ptr q 0), .c (.int .i64 pp)] K3 = some (.c (.int .i64 (findF _ pp)), K3) := rfind_ok (N := 200) (d := 7) T2.r T2.ab.ah.sm pp (by omega)
          obtain ⟨K4, eS, x4⟩ : ∃ h', evCallT table 18 200 8 32 [.c (.ptr p 0), .c (.ptr q 0)] K3 = some (.c (.bool true), h') ∧ Ext K3 h' := same_ok (N := 200) (d := 5) T2 (by omega)
          simp only [enter_eq, ev_seq, seqK_norm, seqK_exit, seqK_ret, ev_reg, ev_cond, condK_true, condK_false, ev_block, blockK_norm, blockK_ret, blockK_exit, ev_loop, ev_skip, ev_exit, ev_ret, regK_cons, regK_nil, guard_none, guard_some, regG_true, regG_false, regO_some, op_mov, op_conv, op_bin, op_bsl, op_box, op_mks, op_s2b, op_pick, op_un, op_eq, op_len, op_ext, op_load, op_iaddr, op_slice, op_b2s, op_idxS, op_mx, op_mn, op_call, op_store, op_app, op_copy, args_eq, result_one', rv_loc, finish_norm, finish_ret, outK_some, keep_true, keep_false, keep_nil, p_bin, p_pick, p_un, p_eq, p_conv, evNew, pureK_some, newK_some, X.eval, set_none, set_some, List.map_cons, List.map_nil, List.getD_cons_zero, List.getD_cons_succ, List.getD_nil, List.set_cons_zero, List.set_cons_succ, binCV, unCV, isShift, intArithF_eq, shiftF_eq, wrapF_eq, intArith, shift, eqVal, bound, asNat_cast, cond_true, cond_false, BEq.rfl, beq_self_eq_true, evalParts, fillParts, AV.cells, AV.ofCells, XV.av, AV.xv, List.length_cons, List.length_nil, zeros, patch, setMany, List.nil_append, List.cons_append, Nat.ble, Nat.add_eq, Nat.zero_add, Nat.add_zero, Nat.reduceAdd, Nat.reduceMul, Nat.reduceSub, Nat.ble_eq, Nat.reduceLeDiff, Nat.reduceBEq, Int.reduceBEq, Int.reduceNeg, Bool.and_true, Bool.and_false, Bool.true_and, Bool.false_and, Bool.not_true, Bool.not_false, Bool.true_eq_false, Bool.false_eq_true, Int.reduceLT, Int.reduceLE, Int.reduceGT, Int.reduceGE, decide_true, decide_false, Bool.not_eq_true, loopN_norm, loopN_exit, tf, ft, ff, ev_dreg, dregK_nil, dregK_cons, dregE_true, dregP_some, dregX_some, d_mov, d_bin, d_eq, d_pick, d_un, d_conv, d_b2s, d_len, d_load, d_iaddr, d_slice, d_ext, d_call, d_store, chk_done, chk_none, chk_some, chkG_true, chkG_false, chkOne_nil, chkOne_cons, chkH_some, chkV_same, stage_none, stage_some, look_hit, look_miss, news_nil, wb_cons, wb_nil, skip0, List.reverse_cons, List.reverse_nil, lx, v1, p_iaddr, m1, p_load, AV.ofCells, Nat.zero_add, rop, evEff, w1, op_faddr, p_faddr, d_faddr, o0, o1, o2, o3, o4, lbb, v30, ek, eA, p2, p22, eB, p3, eF, eR, eS, bneI, eqq, v2]
          exact ⟨_, _, rfl, by omega, ⟨_, _, _, _, _, _, _, _, _, T2.ext' x4⟩, ((xg.trans x1).own xx (fun k hk => (List.mem_append.1 hk).elim (T1.ya k) (T1.yr k))).trans x4, rfl⟩
        by_cases c5 : K = 5
        · subst c5
          have ek : Int.tmod (IntKind.i64.wrap (Int.tmod kd 10 + 10)) 10 = (5 : Int) := ek
          obtain ⟨K2, eA, A2, xA, yA⟩ := T1.ab.set (N := 200) (d := 6) qf pp hbK1
          have b2 : K2.get G.next = _ := xA.at_ g1 (by omega) (fun hm => own1 (List.mem_append.2 (.inl hm)))
          have R1 := T1.r1 xA
          obtain ⟨S', K3, eB, R2, xR, sb2⟩ := rset_ok (N := 200) (d := 6) R1 T1.sb qf pp bs (by omega)
          have yR : YoungR K2 q ux uy uv ux uy uv := fun k hk => .inl hk
          have p2 : K2.read G.next 2 1 = some [.int .i64 qf] := read_cells b2 rfl
          have p22 : K2.read G.next 1 1 = some [.int .i64 pp] := read_cells b2 rfl
          have p23 : K2.read G.next 4 1 = some [bb] := read_cells b2 rfl
          have xh2 : Ext h K2 := (xg.trans x1).own xA T1.ya
          have t2 : ∀ loc vals, evPure loc (.c bb :: vals) K2 (.b2s (.val 0)) = some (.c (.str (strOf bs))) := row_text hrow xh2
          have t1 : ∀ loc vals, evPure loc (.c bb :: vals) G1 (.b2s (.val 0)) = some (.c (.str (strOf bs))) := row_text hrow (xg.trans x1)
          obtain ⟨T2, xx⟩ := T1.step hG0 A2 xA yA R2 xR yR sb2
          have b3 : K3.get G.next = _ := xx.at_ g1 (by omega) own1
          have p3 : K3.read G.next 1 1 = some [.int .i64 pp] := read_cells b3 rfl
          have eF : evCallT table 18 200 8 9 [.c (.ptr p 0), .c (.int .i64 pp)] K3 = some (.c (.int .i64 (findF _ pp)), K3) := T2.ab.ah.find (N := 200) (d := 4) pp (by omega)
          have eR : evCallT table 18 200 8 31 [.c (.ptr q 0), .c (.int .i64 pp)] K3 = some (.c (.int .i64 (findF _ pp)), K3) := rfind_ok (N := 200) (d := 7) T2.r T2.ab.ah.sm pp (by omega)
          obtain ⟨K4, eS, x4⟩ : ∃ h', evCallT table 18 200 8 32 [.c (.ptr p 0), .c (.ptr q 0)] K3 = some (.c (.bool true), h') ∧ Ext K3 h' := same_ok (N := 200) (d := 5) T2 (by omega)
          simp only [enter_eq, ev_seq, seqK_norm, seqK_exit, seqK_ret, ev_reg, ev_cond, condK_true, condK_false, ev_block, blockK_norm, blockK_ret, blockK_exit, ev_loop, ev_skip, ev_exit, ev_ret, regK_cons, regK_nil, guard_none, guard_some, regG_true, regG_false, regO_some, op_mov, op_conv, op_bin, op_bsl, op_box, op_mks, op_s2b, op_pick, op_un, op_eq, op_len, op_ext, op_load, op_iaddr, op_slice, op_b2s, op_idxS, op_mx, op_mn, op_call, op_store, op_app, op_copy, args_eq, result_one', rv_loc, finish_norm, finish_ret, outK_some, keep_true, keep_false, keep_nil, p_bin, p_pick, p_un, p_eq, p_conv, evNew, pureK_some, newK_some, X.eval, set_none, set_some, List.map_cons, List.map_nil, List.getD_cons_zero, List.getD_cons_succ, List.getD_nil, List.set_cons_zero, List.set_cons_succ, binCV, unCV, isShift, intArithF_eq, shiftF_eq, wrapF_eq, intArith, shift, eqVal, bound, asNat_cast, cond_true, cond_false, BEq.rfl, beq_self_eq_true, evalParts, fillParts, AV.cells, AV.ofCells, XV.av, AV.xv, List.length_cons, List.length_nil, zeros, patch, setMany, List.nil_append, List.cons_append, Nat.ble, Nat.add_eq, Nat.zero_add, Nat.add_zero, Nat.reduceAdd, Nat.reduceMul, Nat.reduceSub, Nat.ble_eq, Nat.reduceLeDiff, Nat.reduceBEq, Int.reduceBEq, Int.reduceNeg, Bool.and_true, Bool.and_false, Bool.true_and, Bool.false_and, Bool.not_true, Bool.not_false, Bool.true_eq_false, Bool.false_eq_true, Int.reduceLT, Int.reduceLE, Int.reduceGT, Int.reduceGE, decide_true, decide_false, Bool.not_eq_true, loopN_norm, loopN_exit, tf, ft, ff, ev_dreg, dregK_nil, dregK_cons, dregE_true, dregP_some, dregX_some, d_mov, d_bin, d_eq, d_pick, d_un, d_conv, d_b2s, d_len, d_load, d_iaddr, d_slice, d_ext, d_call, d_store, chk_done, chk_none, chk_some, chkG_true, chkG_false, chkOne_nil, chkOne_cons, chkH_some, chkV_same, stage_none, stage_some, look_hit, look_miss, news_nil, wb_cons, wb_nil, skip0, List.reverse_cons, List.reverse_nil, lx, v1, p_iaddr, m1, p_load, AV.ofCells, Nat.zero_add, rop, evEff, w1, op_faddr, p_faddr, d_faddr, o0, o1, o2, o3, o4, lbb, v30, ek, eA, p2, p22, p23, t2, t1, eB, p3, eF, eR, eS, bneI, eqq, v2]
          exact ⟨_, _, rfl, by omega, ⟨_, _, _, _, _, _, _, _, _, T2.ext' x4⟩, ((xg.trans x1).own xx (fun k hk => (List.mem_append.1 hk).elim (T1.ya k) (T1.yr k))).trans x4, rfl⟩
        by_cases c6 : K = 6
        · subst c6
          have ek : Int.tmod (IntKind.i64.wrap (Int.tmod kd 10 + 10)) 10 = (6 : Int) := ek
          obtain ⟨M', K2, eA, A2, xA, yA⟩ := T1.ab.drop (N := 200) (d := 4) qf (by omega)
          have b2 : K2.get G.next = _ := xA.at_ g1 (by omega) (fun hm => own1 (List.mem_append.2 (.inl hm)))
          have R1 := T1.r1 xA
          have hol := T1.ab.ah.len
          obtain ⟨v', K3, eB, R2, xR, yR⟩ := rdrop_ok (N := 200) (d := 6) R1 T1.ab.ah.ok qf (by omega)
          have sb2 := T1.sb.sub (dropF_sub fs o qf)
          have p2 : K2.read G.next 2 1 = some [.int .i64 qf] := read_cells b2 rfl
          obtain ⟨T2, xx⟩ := T1.step hG0 A2 xA yA R2 xR yR sb2
          have b3 : K3.get G.next = _ := xx.at_ g1 (by omega) own1
          have p3 : K3.read G.next 1 1 = some [.int .i64 pp] := read_cells b3 rfl
          have eF : evCallT table 18 200 8 9 [.c (.ptr p 0), .c (.int .i64 pp)] K3 = some (.c (.int .i64 (findF _ pp)), K3) := T2.ab.ah.find (N := 200) (d := 4) pp (by omega)
          have eR : evCallT table 18 200 8 31 [.c (.ptr q 0), .c (.int .i64 pp)] K3 = some (.c (.int .i64 (findF _ pp)), K3) := rfind_ok (N := 200) (d := 7) T2.r T2.ab.ah.sm pp (by omega)
          obtain ⟨K4, eS, x4⟩ : ∃ h', evCallT table 18 200 8 32 [.c (.ptr p 0), .c (.ptr q 0)] K3 = some (.c (.bool true), h') ∧ Ext K3 h' := same_ok (N := 200) (d := 5) T2 (by omega)
          simp only [enter_eq, ev_seq, seqK_norm, seqK_exit, seqK_ret, ev_reg, ev_cond, condK_true, condK_false, ev_block, blockK_norm, blockK_ret, blockK_exit, ev_loop, ev_skip, ev_exit, ev_ret, regK_cons, regK_nil, guard_none, guard_some, regG_true, regG_false, regO_some, op_mov, op_conv, op_bin, op_bsl, op_box, op_mks, op_s2b, op_pick, op_un, op_eq, op_len, op_ext, op_load, op_iaddr, op_slice, op_b2s, op_idxS, op_mx, op_mn, op_call, op_store, op_app, op_copy, args_eq, result_one', rv_loc, finish_norm, finish_ret, outK_some, keep_true, keep_false, keep_nil, p_bin, p_pick, p_un, p_eq, p_conv, evNew, pureK_some, newK_some, X.eval, set_none, set_some, List.map_cons, List.map_nil, List.getD_cons_zero, List.getD_cons_succ, List.getD_nil, List.set_cons_zero, List.set_cons_succ, binCV, unCV, isShift, intArithF_eq, shiftF_eq, wrapF_eq, intArith, shift, eqVal, bound, asNat_cast, cond_true, cond_false, BEq.rfl, beq_self_eq_true, evalParts, fillParts, AV.cells, AV.ofCells, XV.av, AV.xv, List.length_cons, List.length_nil, zeros, patch, setMany, List.nil_append, List.cons_append, Nat.ble, Nat.add_eq, Nat.zero_add, Nat.add_zero, Nat.reduceAdd, Nat.reduceMul, Nat.reduceSub, Nat.ble_eq, Nat.reduceLeDiff, Nat.reduceBEq, Int.reduceBEq, Int.reduceNeg, Bool.and_true, Bool.and_false, Bool.true_and, Bool.false_and, Bool.not_true, Bool.not_false, Bool.true_eq_false, Bool.false_eq_true, Int.reduceLT, Int.reduceLE, Int.reduceGT, Int.reduceGE, decide_true, decide_false, Bool.not_eq_true, loopN_norm, loopN_exit, tf, ft, ff, ev_dreg, dregK_nil, dregK_cons, dregE_true, dregP_some, dregX_some, d_mov, d_bin, d_eq, d_pick, d_un, d_conv, d_b2s, d_len, d_load, d_iaddr, d_slice, d_ext, d_call, d_store, chk_done, chk_none, chk_some, chkG_true, chkG_false, chkOne_nil, chkOne_cons, chkH_some, chkV_same, stage_none, stage_some, look_hit, look_miss, news_nil, wb_cons, wb_nil, skip0, List.reverse_cons, List.reverse_nil, lx, v1, p_iaddr, m1, p_load, AV.ofCells, Nat.zero_add, rop, evEff, w1, op_faddr, p_faddr, d_faddr, o0, o1, o2, o3, o4, lbb, v30, ek, eA, p2, eB, p3, eF, eR, eS, bneI, eqq, v2]
          exact ⟨_, _, rfl, by omega, ⟨_, _, _, _, _, _, _, _, _, T2.ext' x4⟩, ((xg.trans x1).own xx (fun k hk => (List.mem_append.1 hk).elim (T1.ya k) (T1.yr k))).trans x4, rfl⟩
        by_cases c7 : K = 7
        · subst c7
          have ek : Int.tmod (IntKind.i64.wrap (Int.tmod kd 10 + 10)) 10 = (7 : Int) := ek
          obtain ⟨M', K2, eA, A2, xA, yA⟩ := T1.ab.drop (N := 200) (d := 4) qf (by omega)
          have b2 : K2.get G.next = _ := xA.at_ g1 (by omega) (fun hm => own1 (List.mem_append.2 (.inl hm)))
          have R1 := T1.r1 xA
          have hol := T1.ab.ah.len
          obtain ⟨v', K3, eB, R2, xR, yR⟩ := rdrop_ok (N := 200) (d := 6) R1 T1.ab.ah.ok qf (by omega)
          have sb2 := T1.sb.sub (dropF_sub fs o qf)
          have p2 : K2.read G.next 2 1 = some [.int .i64 qf] := read_cells b2 rfl
          obtain ⟨T2, xx⟩ := T1.step hG0 A2 xA yA R2 xR yR sb2
          have b3 : K3.get G.next = _ := xx.at_ g1 (by omega) own1
          have p3 : K3.read G.next 1 1 = some [.int .i64 pp] := read_cells b3 rfl
          have eF : evCallT table 18 200 8 9 [.c (.ptr p 0), .c (.int .i64 pp)] K3 = some (.c (.int .i64 (findF _ pp)), K3) := T2.ab.ah.find (N := 200) (d := 4) pp (by omega)
          have eR : evCallT table 18 200 8 31 [.c (.ptr q 0), .c (.int .i64 pp)] K3 = some (.c (.int .i64 (findF _ pp)), K3) := rfind_ok (N := 200) (d := 7) T2.r T2.ab.ah.sm pp (by omega)
          obtain ⟨K4, eS, x4⟩ : ∃ h', evCallT table 18 200 8 32 [.c (.ptr p 0), .c (.ptr q 0)] K3 = some (.c (.bool true), h') ∧ Ext K3 h' := same_ok (N := 200) (d := 5) T2 (by omega)
          simp only [enter_eq, ev_seq, seqK_norm, seqK_exit, seqK_ret, ev_reg, ev_cond, condK_true, condK_false, ev_block, blockK_norm, blockK_ret, blockK_exit, ev_loop, ev_skip, ev_exit, ev_ret, regK_cons, regK_nil, guard_none, guard_some, regG_true, regG_false, regO_some, op_mov, op_conv, op_bin, op_bsl, op_box, op_mks, op_s2b, op_pick, op_un, op_eq, op_len, op_ext, op_load, op_iaddr, op_slice, op_b2s, op_idxS, op_mx, op_mn, op_call, op_store, op_app, op_copy, args_eq, result_one', rv_loc, finish_norm, finish_ret, outK_some, keep_true, keep_false, keep_nil, p_bin, p_pick, p_un, p_eq, p_conv, evNew, pureK_some, newK_some, X.eval, set_none, set_some, List.map_cons, List.map_nil, List.getD_cons_zero, List.getD_cons_succ, List.getD_nil, List.set_cons_zero, List.set_cons_succ, binCV, unCV, isShift, intArithF_eq, shiftF_eq, wrapF_eq, intArith, shift, eqVal, bound, asNat_cast, cond_true, cond_false, BEq.rfl, beq_self_eq_true, evalParts, fillParts, AV.cells, AV.ofCells, XV.av, AV.xv, List.length_cons, List.length_nil, zeros, patch, setMany, List.nil_append, List.cons_append, Nat.ble, Nat.add_eq, Nat.zero_add, Nat.add_zero, Nat.reduceAdd, Nat.reduceMul, Nat.reduceSub, Nat.ble_eq, Nat.reduceLeDiff, Nat.reduceBEq, Int.reduceBEq, Int.reduceNeg, Bool.and_true, Bool.and_false, Bool.true_and, Bool.false_and, Bool.not_true, Bool.not_false, Bool.true_eq_false, Bool.false_eq_true, Int.reduceLT, Int.reduceLE, Int.reduceGT, Int.reduceGE, decide_true, decide_false, Bool.not_eq_true, loopN_norm, loopN_exit, tf, ft, ff, ev_dreg, dregK_nil, dregK_cons, dregE_true, dregP_some, dregX_some, d_mov, d_bin, d_eq, d_pick, d_un, d_conv, d_b2s, d_len, d_load, d_iaddr, d_slice, d_ext, d_call, d_store, chk_done, chk_none, chk_some, chkG_true, chkG_false, chkOne_nil, chkOne_cons, chkH_some, chkV_same, stage_none, stage_some, look_hit, look_miss, news_nil, wb_cons, wb_nil, skip0, List.reverse_cons, List.reverse_nil, lx, v1, p_iaddr, m1, p_load, AV.ofCells, Nat.zero_add, rop, evEff, w1, op_faddr, p_faddr, d_faddr, o0, o1, o2, o3, o4, lbb, v30, ek, eA, p2, eB, p3, eF, eR, eS, bneI, eqq, v2]
          exact ⟨_, _, rfl, by omega, ⟨_, _, _, _, _, _, _, _, _, T2.ext' x4⟩, ((xg.trans x1).own xx (fun k hk => (List.mem_append.1 hk).elim (T1.ya k) (T1.yr k))).trans x4, rfl⟩
        by_cases c8 : K = 8
        · subst c8
          have ek : Int.tmod (IntKind.i64.wrap (Int.tmod kd 10 + 10)) 10 = (8 : Int) := ek
          obtain ⟨a', K2, eA, A2, xA, yA⟩ := T1.ab.add (N := 200) (d := 5) (by omega)
          have b2 : K2.get G.next = _ := xA.at_ g1 (by omega) (fun hm => own1 (List.mem_append.2 (.inl hm)))
          have R1 := T1.r1 xA
          have hol := T1.ab.ah.len
          obtain ⟨x', y', v', S', K3, eB, R2, xR, yR, hS⟩ := radd_ok (N := 200) (d := 7) R1 T1.ab.ah.sm (by omega) (by omega)
          have sb2 : SB (addF fs o).2.1 S' B := fun i g hg hs => by
            obtain ⟨f, hf, h1⟩ := addF_sub fs o i g hg hs
            rw [hS i (List.getElem?_eq_some_iff.1 hf).1]
            exact T1.sb i f hf h1
          obtain ⟨T2, xx⟩ := T1.step hG0 A2 xA yA R2 xR yR sb2
          have b3 : K3.get G.next = _ := xx.at_ g1 (by omega) own1
          have p3 : K3.read G.next 1 1 = some [.int .i64 pp] := read_cells b3 rfl
          have eF : evCallT table 18 200 8 9 [.c (.ptr p 0), .c (.int .i64 pp)] K3 = some (.c (.int .i64 (findF _ pp)), K3) := T2.ab.ah.find (N := 200) (d := 4) pp (by omega)
          have eR : evCallT table 18 200 8 31 [.c (.ptr q 0), .c (.int .i64 pp)] K3 = some (.c (.int .i64 (findF _ pp)), K3) := rfind_ok (N := 200) (d := 7) T2.r T2.ab.ah.sm pp (by omega)
          obtain ⟨K4, eS, x4⟩ : ∃ h', evCallT table 18 200 8 32 [.c (.ptr p 0), .c (.ptr q 0)] K3 = some (.c (.bool true), h') ∧ Ext K3 h' := same_ok (N := 200) (d := 5) T2 (by omega)
          simp only [enter_eq, ev_seq, seqK_norm, seqK_exit, seqK_ret, ev_reg, ev_cond, condK_true, condK_false, ev_block, blockK_norm, blockK_ret, blockK_exit, ev_loop, ev_skip, ev_exit, ev_ret, regK_cons, regK_nil, guard_none, guard_some, regG_true, regG_false, regO_some, op_mov, op_conv, op_bin, op_bsl, op_box, op_mks, op_s2b, op_pick, op_un, op_eq, op_len, op_ext, op_load, op_iaddr, op_slice, op_b2s, op_idxS, op_mx, op_mn, op_call, op_store, op_app, op_copy, args_eq, result_one', rv_loc, finish_norm, finish_ret, outK_some, keep_true, keep_false, keep_nil, p_bin, p_pick, p_un, p_eq, p_conv, evNew, pureK_some, newK_some, X.eval, set_none, set_some, List.map_cons, List.map_nil, List.getD_cons_zero, List.getD_cons_succ, List.getD_nil, List.set_cons_zero, List.set_cons_succ, binCV, unCV, isShift, intArithF_eq, shiftF_eq, wrapF_eq, intArith, shift, eqVal, bound, asNat_cast, cond_true, cond_false, BEq.rfl, beq_self_eq_true, evalParts, fillParts, AV.cells, AV.ofCells, XV.av, AV.xv, List.length_cons, List.length_nil, zeros, patch, setMany, List.nil_append, List.cons_append, Nat.ble, Nat.add_eq, Nat.zero_add, Nat.add_zero, Nat.reduceAdd, Nat.reduceMul, Nat.reduceSub, Nat.ble_eq, Nat.reduceLeDiff, Nat.reduceBEq, Int.reduceBEq, Int.reduceNeg, Bool.and_true, Bool.and_false, Bool.true_and, Bool.false_and, Bool.not_true, Bool.not_false, Bool.true_eq_false, Bool.false_eq_true, Int.reduceLT, Int.reduceLE, Int.reduceGT, Int.reduceGE, decide_true, decide_false, Bool.not_eq_true, loopN_norm, loopN_exit, tf, ft, ff, ev_dreg, dregK_nil, dregK_cons, dregE_true, dregP_some, dregX_some, d_mov, d_bin, d_eq, d_pick, d_un, d_conv, d_b2s, d_len, d_load, d_iaddr, d_slice, d_ext, d_call, d_store, chk_done, chk_none, chk_some, chkG_true, chkG_false, chkOne_nil, chkOne_cons, chkH_some, chkV_same, stage_none, stage_some, look_hit, look_miss, news_nil, wb_cons, wb_nil, skip0, List.reverse_cons, List.reverse_nil, lx, v1, p_iaddr, m1, p_load, AV.ofCells, Nat.zero_add, rop, evEff, w1, op_faddr, p_faddr, d_faddr, o0, o1, o2, o3, o4, lbb, v30, ek, eA, eB, p3, eF, eR, eS, bneI, eqq, v2]
          exact ⟨_, _, rfl, by omega, ⟨_, _, _, _, _, _, _, _, _, T2.ext' x4⟩, ((xg.trans x1).own xx (fun k hk => (List.mem_append.1 hk).elim (T1.ya k) (T1.yr k))).trans x4, rfl⟩
        have c9 : K = 9 := by omega
        subst c9
        have ek : Int.tmod (IntKind.i64.wrap (Int.tmod kd 10 + 10)) 10 = (9 : Int) := ek
        obtain ⟨K2, eA, A2, xA, yA⟩ := T1.ab.retire (N := 200) (d := 5)
        have b2 : K2.get G.next = _ := xA.at_ g1 (by omega) (fun hm => own1 (List.mem_append.2 (.inl hm)))
        have R1 := T1.r1 xA
        obtain ⟨v', K3, eB, R2, xR, yR⟩ := rretire_ok (N := 200) (d := 7) R1 T1.ab.ah.ok (fun f hf => let ⟨i, hi, e, h0⟩ := T1.ab.ah.fo.lt hf; ⟨i, hi, e, h0⟩)
        have sb2 := T1.sb.sub (retireF_sub T1.ab.ah.fo)
        obtain ⟨T2, xx⟩ := T1.step hG0 A2 xA yA R2 xR yR sb2
        have b3 : K3.get G.next = _ := xx.at_ g1 (by omega) own1
        have p3 : K3.read G.next 1 1 = some [.int .i64 pp] := read_cells b3 rfl
        have eF : evCallT table 18 200 8 9 [.c (.ptr p 0), .c (.int .i64 pp)] K3 = some (.c (.int .i64 (findF _ pp)), K3) := T2.ab.ah.find (N := 200) (d := 4) pp (by omega)
        have eR : evCallT table 18 200 8 31 [.c (.ptr q 0), .c (.int .i64 pp)] K3 = some (.c (.int .i64 (findF _ pp)), K3) := rfind_ok (N := 200) (d := 7) T2.r T2.ab.ah.sm pp (by omega)
        obtain ⟨K4, eS, x4⟩ : ∃ h', evCallT table 18 200 8 32 [.c (.ptr p 0), .c (.ptr q 0)] K3 = some (.c (.bool true), h') ∧ Ext K3 h' := same_ok (N := 200) (d := 5) T2 (by omega)
        simp only [enter_eq, ev_seq, seqK_norm, seqK_exit, seqK_ret, ev_reg, ev_cond, condK_true, condK_false, ev_block, blockK_norm, blockK_ret, blockK_exit, ev_loop, ev_skip, ev_exit, ev_ret, regK_cons, regK_nil, guard_none, guard_some, regG_true, regG_false, regO_some, op_mov, op_conv, op_bin, op_bsl, op_box, op_mks, op_s2b, op_pick, op_un, op_eq, op_len, op_ext, op_load, op_iaddr, op_slice, op_b2s, op_idxS, op_mx, op_mn, op_call, op_store, op_app, op_copy, args_eq, result_one', rv_loc, finish_norm, finish_ret, outK_some, keep_true, keep_false, keep_nil, p_bin, p_pick, p_un, p_eq, p_conv, evNew, pureK_some, newK_some, X.eval, set_none, set_some, List.map_cons, List.map_nil, List.getD_cons_zero, List.getD_cons_succ, List.getD_nil, List.set_cons_zero, List.set_cons_succ, binCV, unCV, isShift, intArithF_eq, shiftF_eq, wrapF_eq, intArith, shift, eqVal, bound, asNat_cast, cond_true, cond_false, BEq.rfl, beq_self_eq_true, evalParts, fillParts, AV.cells, AV.ofCells, XV.av, AV.xv, List.length_cons, List.length_nil, zeros, patch, setMany, List.nil_append, List.cons_append, Nat.ble, Nat.add_eq, Nat.zero_add, Nat.add_zero, Nat.reduceAdd, Nat.reduceMul, Nat.reduceSub, Nat.ble_eq, Nat.reduceLeDiff, Nat.reduceBEq, Int.reduceBEq, Int.reduceNeg, Bool.and_true, Bool.and_false, Bool.true_and, Bool.false_and, Bool.not_true, Bool.not_false, Bool.true_eq_false, Bool.false_eq_true, Int.reduceLT, Int.reduceLE, Int.reduceGT, Int.reduceGE, decide_true, decide_false, Bool.not_eq_true, loopN_norm, loopN_exit, tf, ft, ff, ev_dreg, dregK_nil, dregK_cons, dregE_true, dregP_some, dregX_some, d_mov, d_bin, d_eq, d_pick, d_un, d_conv, d_b2s, d_len, d_load, d_iaddr, d_slice, d_ext, d_call, d_store, chk_done, chk_none, chk_some, chkG_true, chkG_false, chkOne_nil, chkOne_cons, chkH_some, chkV_same, stage_none, stage_some, look_hit, look_miss, news_nil, wb_cons, wb_nil, skip0, List.reverse_cons, List.reverse_nil, lx, v1, p_iaddr, m1, p_load, AV.ofCells, Nat.zero_add, rop, evEff, w1, op_faddr, p_faddr, d_faddr, o0, o1, o2, o3, o4, lbb, v30, ek, eA, eB, p3, eF, eR, eS, bneI, eqq, v2]
        exact ⟨_, _, rfl, by omega, ⟨_, _, _, _, _, _, _, _, _, T2.ext' x4⟩, ((xg.trans x1).own xx (fun k hk => (List.mem_append.1 hk).elim (T1.ya k) (T1.yr k))).trans x4, rfl⟩
      · right
        have v1 : decide ((i : Int) < (m : Int)) = false := geNat (by omega)
        simp only [enter_eq, ev_seq, seqK_norm, seqK_exit, seqK_ret, ev_reg, ev_cond, condK_true, condK_false, ev_block, blockK_norm, blockK_ret, blockK_exit, ev_loop, ev_skip, ev_exit, ev_ret, regK_cons, regK_nil, guard_none, guard_some, regG_true, regG_false, regO_some, op_mov, op_conv, op_bin, op_bsl, op_box, op_mks, op_s2b, op_pick, op_un, op_eq, op_len, op_ext, op_load, op_iaddr, op_slice, op_b2s, op_idxS, op_mx, op_mn, op_call, op_store, op_app, op_copy, args_eq, result_one', rv_loc, finish_norm, finish_ret, outK_some, keep_true, keep_false, keep_nil, p_bin, p_pick, p_un, p_eq, p_conv, evNew, pureK_some, newK_some, X.eval, set_none, set_some, List.map_cons, List.map_nil, List.getD_cons_zero, List.getD_cons_succ, List.getD_nil, List.set_cons_zero, List.set_cons_succ, binCV, unCV, isShift, intArithF_eq, shiftF_eq, wrapF_eq, intArith, shift, eqVal, bound, asNat_cast, cond_true, cond_false, BEq.rfl, beq_self_eq_true, evalParts, fillParts, AV.cells, AV.ofCells, XV.av, AV.xv, List.length_cons, List.length_nil, zeros, patch, setMany, List.nil_append, List.cons_append, Nat.ble, Nat.add_eq, Nat.zero_add, Nat.add_zero, Nat.reduceAdd, Nat.reduceMul, Nat.reduceSub, Nat.ble_eq, Nat.reduceLeDiff, Nat.reduceBEq, Int.reduceBEq, Int.reduceNeg, Bool.and_true, Bool.and_false, Bool.true_and, Bool.false_and, Bool.not_true, Bool.not_false, Bool.true_eq_false, Bool.false_eq_true, Int.reduceLT, Int.reduceLE, Int.reduceGT, Int.reduceGE, decide_true, decide_false, Bool.not_eq_true, loopN_norm, loopN_exit, tf, ft, ff, lx, v1]
        exact ⟨_, rfl, by simp, _, _, _, _, _, .inl rfl⟩
    obtain ⟨r, ⟨a0, a1, a2, l, G, hp⟩, hr⟩ := loop_any L rfl
    rw [evCallT_eq (F := ir7) rfl rfl rfl]
    unfold ir7
    rw [bodyK_eq]
    simp only [enter_eq, ev_seq, seqK_norm, seqK_exit, seqK_ret, ev_reg, ev_cond, condK_true, condK_false, ev_block, blockK_norm, blockK_ret, blockK_exit, ev_loop, ev_skip, ev_exit, ev_ret, regK_cons, regK_nil, guard_none, guard_some, regG_true, regG_false, regO_some, op_mov, op_conv, op_bin, op_bsl, op_box, op_mks, op_s2b, op_pick, op_un, op_eq, op_len, op_ext, op_load, op_iaddr, op_slice, op_b2s, op_idxS, op_mx, op_mn, op_call, op_store, op_app, op_copy, args_eq, result_one', rv_loc, finish_norm, finish_ret, outK_some, keep_true, keep_false, keep_nil, p_bin, p_pick, p_un, p_eq, p_conv, evNew, pureK_some, newK_some, X.eval, set_none, set_some, List.map_cons, List.map_nil, List.getD_cons_zero, List.getD_cons_succ, List.getD_nil, List.set_cons_zero, List.set_cons_succ, binCV, unCV, isShift, intArithF_eq, shiftF_eq, wrapF_eq, intArith, shift, eqVal, bound, asNat_cast, cond_true, cond_false, BEq.rfl, beq_self_eq_true, evalParts, fillParts, AV.cells, AV.ofCells, XV.av, AV.xv, List.length_cons, List.length_nil, zeros, patch, setMany, List.nil_append, List.cons_append, Nat.ble, Nat.add_eq, Nat.zero_add, Nat.add_zero, Nat.reduceAdd, Nat.reduceMul, Nat.reduceSub, Nat.ble_eq, Nat.reduceLeDiff, Nat.reduceBEq, Int.reduceBEq, Int.reduceNeg, Bool.and_true, Bool.and_false, Bool.true_and, Bool.false_and, Bool.not_true, Bool.not_false, Bool.true_eq_false, Bool.false_eq_true, Int.reduceLT, Int.reduceLE, Int.reduceGT, Int.reduceGE, decide_true, decide_false, Bool.not_eq_true, loopN_norm, loopN_exit, tf, ft, ff, e1', e2', lx, v0]
    rw [hr _ rfl]
    rcases hp with rfl | rfl
    · simp only [enter_eq, ev_seq, seqK_norm, seqK_exit, seqK_ret, ev_reg, ev_cond, condK_true, condK_false, ev_block, blockK_norm, blockK_ret, blockK_exit, ev_loop, ev_skip, ev_exit, ev_ret, regK_cons, regK_nil, guard_none, guard_some, regG_true, regG_false, regO_some, op_mov, op_conv, op_bin, op_bsl, op_box, op_mks, op_s2b, op_pick, op_un, op_eq, op_len, op_ext, op_load, op_iaddr, op_slice, op_b2s, op_idxS, op_mx, op_mn, op_call, op_store, op_app, op_copy, args_eq, result_one', rv_loc, finish_norm, finish_ret, outK_some, keep_true, keep_false, keep_nil, p_bin, p_pick, p_un, p_eq, p_conv, evNew, pureK_some, newK_some, X.eval, set_none, set_some, List.map_cons, List.map_nil, List.getD_cons_zero, List.getD_cons_succ, List.getD_nil, List.set_cons_zero, List.set_cons_succ, binCV, unCV, isShift, intArithF_eq, shiftF_eq, wrapF_eq, intArith, shift, eqVal, bound, asNat_cast, cond_true, cond_false, BEq.rfl, beq_self_eq_true, evalParts, fillParts, AV.cells, AV.ofCells, XV.av, AV.xv, List.length_cons, List.length_nil, zeros, patch, setMany, List.nil_append, List.cons_append, Nat.ble, Nat.add_eq, Nat.zero_add, Nat.add_zero, Nat.reduceAdd, Nat.reduceMul, Nat.reduceSub, Nat.ble_eq, Nat.reduceLeDiff, Nat.reduceBEq, Int.reduceBEq, Int.reduceNeg, Bool.and_true, Bool.and_false, Bool.true_and, Bool.false_and, Bool.not_true, Bool.not_false, Bool.true_eq_false, Bool.false_eq_true, Int.reduceLT, Int.reduceLE, Int.reduceGT, Int.reduceGE, decide_true, decide_false, Bool.not_eq_true, loopN_norm, loopN_exit, tf, ft, ff, blockK_exit_eq, evCallT_told]
      rfl
    · simp only [enter_eq, ev_seq, seqK_norm, seqK_exit, seqK_ret, ev_reg, ev_cond, condK_true, condK_false, ev_block, blockK_norm, blockK_ret, blockK_exit, ev_loop, ev_skip, ev_exit, ev_ret, regK_cons, regK_nil, guard_none, guard_some, regG_true, regG_false, regO_some, op_mov, op_conv, op_bin, op_bsl, op_box, op_mks, op_s2b, op_pick, op_un, op_eq, op_len, op_ext, op_load, op_iaddr, op_slice, op_b2s, op_idxS, op_mx, op_mn, op_call, op_store, op_app, op_copy, args_eq, result_one', rv_loc, finish_norm, finish_ret, outK_some, keep_true, keep_false, keep_nil, p_bin, p_pick, p_un, p_eq, p_conv, evNew, pureK_some, newK_some, X.eval, set_none, set_some, List.map_cons, List.map_nil, List.getD_cons_zero, List.getD_cons_succ, List.getD_nil, List.set_cons_zero, List.set_cons_succ, binCV, unCV, isShift, intArithF_eq, shiftF_eq, wrapF_eq, intArith, shift, eqVal, bound, asNat_cast, cond_true, cond_false, BEq.rfl, beq_self_eq_true, evalParts, fillParts, AV.cells, AV.ofCells, XV.av, AV.xv, List.length_cons, List.length_nil, zeros, patch, setMany, List.nil_append, List.cons_append, Nat.ble, Nat.add_eq, Nat.zero_add, Nat.add_zero, Nat.reduceAdd, Nat.reduceMul, Nat.reduceSub, Nat.ble_eq, Nat.reduceLeDiff, Nat.reduceBEq, Int.reduceBEq, Int.reduceNeg, Bool.and_true, Bool.and_false, Bool.true_and, Bool.false_and, Bool.not_true, Bool.not_false, Bool.true_eq_false, Bool.false_eq_true, Int.reduceLT, Int.reduceLE, Int.reduceGT, Int.reduceGE, decide_true, decide_false, Bool.not_eq_true, loopN_norm, loopN_exit, tf, ft, ff]
      rfl
  · have v0 : decide ((m : Int) > 120) = true := decide_eq_true (by omega)
    rw [evCallT_eq (F := ir7) rfl rfl rfl]
    unfold ir7
    rw [bodyK_eq]
    simp only [enter_eq, ev_seq, seqK_norm, seqK_exit, seqK_ret, ev_reg, ev_cond, condK_true, condK_false, ev_block, blockK_norm, blockK_ret, blockK_exit, ev_loop, ev_skip, ev_exit, ev_ret, regK_cons, regK_nil, guard_none, guard_some, regG_true, regG_false, regO_some, op_mov, op_conv, op_bin, op_bsl, op_box, op_mks, op_s2b, op_pick, op_un, op_eq, op_len, op_ext, op_load, op_iaddr, op_slice, op_b2s, op_idxS, op_mx, op_mn, op_call, op_store, op_app, op_copy, args_eq, result_one', rv_loc, finish_norm, finish_ret, outK_some, keep_true, keep_false, keep_nil, p_bin, p_pick, p_un, p_eq, p_conv, evNew, pureK_some, newK_some, X.eval, set_none, set_some, List.map_cons, List.map_nil, List.getD_cons_zero, List.getD_cons_succ, List.getD_nil, List.set_cons_zero, List.set_cons_succ, binCV, unCV, isShift, intArithF_eq, shiftF_eq, wrapF_eq, intArith, shift, eqVal, bound, asNat_cast, cond_true, cond_false, BEq.rfl, beq_self_eq_true, evalParts, fillParts, AV.cells, AV.ofCells, XV.av, AV.xv, List.length_cons, List.length_nil, zeros, patch, setMany, List.nil_append, List.cons_append, Nat.ble, Nat.add_eq, Nat.zero_add, Nat.add_zero, Nat.reduceAdd, Nat.reduceMul, Nat.reduceSub, Nat.ble_eq, Nat.reduceLeDiff, Nat.reduceBEq, Int.reduceBEq, Int.reduceNeg, Bool.and_true, Bool.and_false, Bool.true_and, Bool.false_and, Bool.not_true, Bool.not_false, Bool.true_eq_false, Bool.false_eq_true, Int.reduceLT, Int.reduceLE, Int.reduceGT, Int.reduceGE, decide_true, decide_false, Bool.not_eq_true, loopN_norm, loopN_exit, tf, ft, ff, e1', e2', lx, v0, evCallT_told]
    rfl
end Lav

namespace Go.Proofs.Ytdilhnnbfkiacaa.arenaPlays
open Go.ChangeShapes Go.WideShapes Go.ChangeAt Go.RowKit
open Go.ChangeMaps (open_string shut_string)
set_option linter.unusedVariables false

theorem own : ownKnob Try.prog.godebug = none := by kernel_rfl
theorem laidOut : laidOutB Try.prog = true := by kernel_rfl

/-- What the walk is told of a slice of ints that came in. -/
def IsRow (k : IntKind) (w : World) (a : Option Addr) (len cap : Nat) (zs : List Int) : Prop :=
  (a = none ∧ len = 0 ∧ cap = 0 ∧ zs = []) ∨
  ∃ x, a = some x ∧ len ≤ cap ∧ cap ≤ maxLen ∧ zs.length = cap ∧ (∀ i, i < zs.length → w.cell? (x.add i) = some (.int k (zs.getD i 0))) ∧ ∀ n ∈ zs, (Lit.int k n).wf = true

/-- What the walk is told of a slice of records of ints that came in: it is nil; or it leads to a row of 'cap' records, 'sz' cells each. -/
def IsRecs (sz : Nat) (w : World) (a : Option Addr) (len cap : Nat) (zs : List Int) : Prop :=
  (a = none ∧ len = 0 ∧ cap = 0 ∧ zs = []) ∨
  ∃ x, a = some x ∧ len ≤ cap ∧ cap ≤ maxLen ∧ zs.length = cap * sz ∧ (∀ i, i < zs.length → w.cell? (x.add i) = some (.int .i64 (zs.getD i 0))) ∧ ∀ n ∈ zs, (Lit.int .i64 n).wf = true

theorem walk (a0 : Int) (a1 : Option Addr) (len1 cap1 : Nat) (w : World) (w0 : (Lit.int .i64 a0).wf = true) (w1 : Lav.MixIs [.int, .int, .int, .bool, .bytes] w a1 len1 cap1) :
    Calls Try.prog 7 #[.int .i64 a0, .slice a1 len1 cap1] w fun e w' => e = .returned (.bool true) ∧ Below w.heap.size w w' := by
  obtain ⟨ι, h, x, cs, I, hle, _, hx, hr⟩ := (Lav.Init.empty w).mix (by decide) w1
  exact Lav.walk_of (Lav.evCallT_sound Lav.mixed Lav.table_ok Lav.tld10 200 9) I (args := [.c (.int .i64 a0), .c x]) (vs := [.int .i64 a0, .slice a1 len1 cap1]) ⟨rfl, hx, trivial⟩ (Lav.arenaPlays a0 hr)

set_option maxRecDepth 100000 in
theorem lifted (os : Os) (started : os.Started) (H : Type) (enc : TypeId × Value → H) :
    ReturnsInHanded {} Try.checked os 7 .any (Rows.arenaPlaysSpec.pre6 enc Try.prog Try.f7 Rows.arenaPlaysRow.domain false) (Rows.arenaPlaysSpec.post enc Try.prog Try.f7 false true false false) := by
  refine returnsInHanded_of_change (C := Try.checked) own started (by kernel_rfl) Try.func7
    (ChangeSpec.witness6 (enc := enc) (C := Try.checked) false ⟨#[], #[.int .i64 0, .slice none 0 0], []⟩ 8 (by kernel_rfl) (by kernel_rfl) (by kernel_rfl) (by kernel_rfl)) ?_
  intro W base args ds gs before hval0 hW hcnd _
  have hval : ∀ (j : Nat) t v, Try.f7.params[j]? = some t → args[j]? = some v → Value.okWide Try.prog W .any base t v := hval0
  have hW' := hW
  obtain ⟨p, q, hA0, hV, rfl, hfz, hnd⟩ := hW
  have hA : DataW.TrodAll enc Try.prog W 0 (fun _ => true) true Try.f7.params.toList args.toList ds p := hA0
  rw [Try.params7] at hA hval
  obtain ⟨v0, vs0, d0, ds0, p0, q0, hargs, rfl, rfl, h0, r0⟩ := trodAll_cons hA
  obtain ⟨v1, vs1, d1, ds1, p1, q1, rfl, rfl, rfl, h1, r1⟩ := trodAll_cons r0
  obtain ⟨rfl, rfl, rfl⟩ := trodAll_nil r1
  obtain rfl : args = #[v0, v1] := by cases args; simp_all
  obtain ⟨rfl, rfl⟩ := trodVars_none hV
  obtain ⟨a0, rfl, rfl, rfl, w0⟩ := open_int Try.underlying3 (hval 0 3 v0 rfl rfl) h0
  obtain ⟨a1, len1, cap1, rfl⟩ := okWide_slice Try.underlying22 (hval 1 22 v1 rfl rfl)
  have k1 := h1
  have lt1 : ∀ x ∈ p1, x.block < W.heap.size := by obtain ⟨m, hm⟩ := k1; exact DataW.trod_lt m _ _ _ hm
  have w1 : Lav.MixIs [.int, .int, .int, .bool, .bytes] W a1 len1 cap1 := by
    obtain ⟨fuel, hf⟩ := h1
    obtain ⟨x, l, c, hcs, hw⟩ := Lav.open_mix (d := 1) (ks := [.int, .int, .int, .bool, .bytes]) Try.underlying22 (by kernel_rfl) (.inr ⟨_, Try.underlying28, by kernel_rfl, by
        intro j k hj
        match j, hj with
        | 0, hj => exact ⟨0, _, 0, [.int], rfl, rfl, by kernel_rfl, hj, (Lav.Flat.int Try.underlying3)⟩
        | 1, hj => exact ⟨1, _, 0, [.int], rfl, rfl, by kernel_rfl, hj, (Lav.Flat.int Try.underlying3)⟩
        | 2, hj => exact ⟨2, _, 0, [.int], rfl, rfl, by kernel_rfl, hj, (Lav.Flat.int Try.underlying3)⟩
        | 3, hj => exact ⟨3, _, 0, [.bool], rfl, rfl, by kernel_rfl, hj, (Lav.Flat.bool Try.underlying4)⟩
        | 4, hj => exact ⟨4, _, 0, [.bytes], rfl, rfl, by kernel_rfl, hj, (Lav.Flat.bytes Try.underlying26 Try.underlying5 (by kernel_rfl))⟩
        | j + 5, hj => cases hj⟩) hf
    simp [Value.cells] at hcs
    obtain ⟨rfl, rfl, rfl⟩ := hcs
    exact hw
  clear hA0 hval0
  refine (walk a0 a1 len1 cap1 W w0 w1).mono fun e W' ⟨he, bel⟩ => ?_
  subst he
  exact ⟨_, rfl, _, _, _, [], _, [], hW', trodAll_mk1 (shut_bool Try.underlying4 _), (trodAll_cons_mk (shut_int Try.underlying3 w0) (trodAll_cons_mk (Below.trod laidOut (by kernel_rfl) (of_decide_eq_true (by kernel_rfl)) k1 bel lt1) trodAll_mk0)), rfl, bel.frame _, fun h => by cases h⟩

theorem over : Rows.arenaPlaysRow.holds Try.pinned (OpenSpec.ofChange Rows.arenaPlaysSpec) :=
  OpenClaim.holds_of_wide 7 Try.f7 rfl rfl rfl rfl rfl rfl rfl ⟨rfl, rfl, rfl, rfl, rfl⟩ rfl rfl rfl rfl rfl (by kernel_rfl) Try.func7 (by kernel_rfl)
    (of_decide_eq_true (by kernel_rfl)) (by unfold Func.isWrapper; first | (rw [if_pos (by decide +kernel)]; kernel_rfl) | (rw [if_neg (by decide +kernel)]; exact ⟨rfl, rfl⟩))
    (fun os started H enc _ => lifted os started H enc)

theorem proved : Rows.ArenaPlaysSaid := over
end Go.Proofs.Ytdilhnnbfkiacaa.arenaPlays
