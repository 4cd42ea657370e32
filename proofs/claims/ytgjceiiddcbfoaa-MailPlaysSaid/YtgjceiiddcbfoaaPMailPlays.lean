/-
  Proved: whatever steps come in, lavabolaw9.MailPlays returns true and changes nothing that was there. No conditions beyond the given statement's.
-/
import Derived.Test.YtgjceiiddcbfoaaRows
import Derived.Test.YtgjceiiddcbfoaaFwP
import Derived.Test.YtgjceiiddcbfoaaOps0
import Derived.Test.YtgjceiiddcbfoaaMail1
import Derived.Test.YtgjceiiddcbfoaaMail2
import Derived.Test.YtgjceiiddcbfoaaMail3
import Derived.Test.YtgjceiiddcbfoaaMail4
import Derived.WalkKit
import Derived.ProofKit
import Derived.OpenShut
import Derived.ShutString
import Derived.ChangeOld
import Derived.Below
set_option maxRecDepth 100000
set_option linter.unusedSimpArgs false
namespace Lav
open Go (IntKind)
theorem tld9 : ToldOK Go.Proofs.Try.prog 13 := told_of (calls_okF 200 9) (by kernel_rfl)
abbrev At9 (x : CV) (p q i : Nat) : List AV := [.c x, .junk, .c (.ptr p 0), .c (.ptr q 0), .c (.int .i64 (i : Int)), .junk, .junk, .junk, .junk, .junk, .junk, .junk, .junk, .junk, .junk, .junk, .junk, .junk, .junk, .junk, .junk, .junk]

section
variable {h : Heap} {p w q B m bx ox : Nat} {cs : List Nat} {ws an : Wd} {op : List Int} {cc : Cap} {xs : List Int}

/-- What is compared behind a step. -/
theorem alike (D : Duo h p w cs q B ws an op) : ∃ y, evCallT table 13 300 8 23 [.c (.ptr p 0)] h = some (.c (.int .i64 (ws.length : Int)), h) ∧ h.read q 0 1 = some [y] ∧ (∀ loc vals H, evPure loc (.c y :: vals) H (.len .sl (.val 0)) = some (.c (.int .i64 (ws.length : Int)))) := by
  obtain ⟨x1, x2, x3, r⟩ := D.r
  exact ⟨x1, len_ok (N := 300) (d := 7) D.m, r.c0, fun _ _ _ => r.r1.len rfl⟩

theorem Duo.qn (D : Duo h p w cs q B ws an op) : q < h.next := by
  obtain ⟨x1, x2, x3, r⟩ := D.r
  exact r.qn

/-- The step's own copy stands where the boxes are turned. -/
theorem own_at (D : Duo h p w cs q B ws an op) {h1 H : Heap} {k v n : Int} (g : h1.get h.next = some (.cells [.int .i64 k, .int .i64 v, .int .i64 n])) (n1 : h1.next = h.next + 1) (x : ExtB (q :: p :: w :: cs) h1 H) :
    H.read h.next 0 1 = some [.int .i64 k] ∧ H.read h.next 1 1 = some [.int .i64 v] ∧ H.read h.next 2 1 = some [.int .i64 n] := by
  have hq := D.qn
  have hB := D.hB
  have g' : H.get h.next = some (.cells [.int .i64 k, .int .i64 v, .int .i64 n]) := x.at_ g (by omega) (fun e => by
    rcases List.mem_cons.1 e with e | e
    · omega
    · have := D.lo _ e; omega)
  exact ⟨read_cells g' rfl, read_cells g' rfl, read_cells g' rfl⟩

theorem stepP (D : Duo h p w cs q B ws an op) (hx : Recs 3 h (.sl bx ox m cc) m xs) {i : Nat} (hi : i < m) (hm : m ≤ 200) {K : Int} (hK : K < 3) (ek : Int.tmod (IntKind.i64.wrap (Int.tmod (xs.getD (i * 3) 0) 8 + 8)) 8 = K) :
    ∃ l H ws' an' op', ev (evCallT table 13 300 8) 300 ir3_l0 (At9 (.sl bx ox m cc) p q i) h = some (.norm, l, H) ∧ keepOnly ir3_k0 l = At9 (.sl bx ox m cc) p q (i + 1) ∧ Duo H p w cs q B ws' an' op' ∧ ExtB (q :: p :: w :: cs) h H := by
  have bneI : ∀ {a b : Int}, (a != b) = !(a == b) := rfl
  have lx : ∀ (loc vals : List AV) (h : Heap), evPure loc (.c (.sl bx ox m cc) :: vals) h (.len .sl (.val 0)) = some (.c (.int .i64 (m : Int))) := fun _ _ _ => hx.len rfl
  have v1 : decide ((i : Int) < (m : Int)) = true := ltNat hi
  have v2 := succI (i := i) (by omega)
  have m1 : Nat.blt i m = true := bltT hi
  have k0 := hx.op3 hi
  generalize xs.getD (i * 3 + 1) 0 = a at *
  generalize xs.getD (i * 3 + 2) 0 = b at *
  obtain ⟨h1, w1, g1, x1, n1⟩ := box_store (h := h) (z := [.int .i64 0, .int .i64 0, .int .i64 0]) (v := [.int .i64 (xs.getD (i * 3) 0), .int .i64 a, .int .i64 b]) rfl
  have D1 := D.ext x1
  obtain ⟨c, h2, h3, ws', e2, e3, D3, xa, xb⟩ : ∃ c h2 h3 ws', evCallT table 13 300 8 14 [.c (.ptr p 0), .c (.int .i64 a), .c (.int .i64 b)] h1 = some (.c (.int .i64 c), h2) ∧
    evCallT table 13 300 8 15 [.c (.ptr q 0), .c (.int .i64 a), .c (.int .i64 b)] h2 = some (.c (.int .i64 c), h3) ∧ Duo h3 p w cs q B ws' an op ∧ ExtB (q :: p :: w :: cs) h1 h2 ∧ ExtB (q :: p :: w :: cs) h1 h3 := duo_post (N := 300) (d := 6) D1 a b (by omega) (by omega)
  obtain ⟨r10, r11, r12⟩ := own_at D g1 n1 (ExtB.refl _ _)
  obtain ⟨r20, r21, r22⟩ := own_at D g1 n1 xa
  obtain ⟨r30, r31, r32⟩ := own_at D g1 n1 xb
  obtain ⟨y, l1, l2, l3⟩ := alike D3
  have c1 : decide (K < 3) = true := decide_eq_true hK
  unfold ir3_l0
  simp only [enter_eq, ev_seq, seqK_norm, seqK_exit, seqK_ret, ev_reg, ev_cond, condK_true, condK_false, ev_block, blockK_norm, blockK_ret, blockK_exit, ev_loop, ev_skip, ev_exit, ev_ret, regK_cons, regK_nil, guard_none, guard_some, regG_true, regG_false, regO_some, op_mov, op_conv, op_bin, op_bsl, op_box, op_mks, op_s2b, op_pick, op_un, op_eq, op_len, op_ext, op_load, op_iaddr, op_slice, op_b2s, op_idxS, op_mx, op_mn, op_call, op_store, op_app, op_copy, args_eq, result_one', rv_loc, finish_norm, finish_ret, outK_some, keep_true, keep_false, keep_nil, p_bin, p_pick, p_un, p_eq, p_conv, evNew, pureK_some, newK_some, X.eval, set_none, set_some, List.map_cons, List.map_nil, List.getD_cons_zero, List.getD_cons_succ, List.getD_nil, List.set_cons_zero, List.set_cons_succ, binCV, unCV, isShift, intArithF_eq, shiftF_eq, wrapF_eq, intArith, shift, eqVal, bound, asNat_cast, cond_true, cond_false, BEq.rfl, beq_self_eq_true, evalParts, fillParts, AV.cells, AV.ofCells, XV.av, AV.xv, List.length_cons, List.length_nil, zeros, patch, setMany, List.nil_append, List.cons_append, Nat.ble, Nat.add_eq, Nat.zero_add, Nat.add_zero, Nat.reduceAdd, Nat.reduceMul, Nat.reduceSub, Nat.ble_eq, Nat.reduceLeDiff, Nat.reduceBEq, Int.reduceBEq, Int.reduceNeg, Bool.and_true, Bool.and_false, Bool.true_and, Bool.false_and, Bool.not_true, Bool.not_false, Bool.true_eq_false, Bool.false_eq_true, Int.reduceLT, Int.reduceLE, Int.reduceGT, Int.reduceGE, decide_true, decide_false, Bool.not_eq_true, loopN_norm, loopN_exit, tf, ft, ff, ev_dreg, dregK_nil, dregK_cons, dregE_true, dregP_some, dregX_some, d_mov, d_bin, d_eq, d_pick, d_un, d_conv, d_b2s, d_len, d_load, d_iaddr, d_slice, d_ext, d_call, d_store, chk_done, chk_none, chk_some, chkG_true, chkG_false, chkOne_nil, chkOne_cons, chkH_some, chkV_same, stage_none, stage_some, look_hit, look_miss, news_nil, wb_cons, wb_nil, skip0, List.reverse_cons, List.reverse_nil, bneI, lx, v1, v2, m1, p_iaddr, p_faddr, op_faddr, d_faddr, d_nilchk, p_nilchk, p_load, AV.ofCells, k0, ek, evEff, w1, c1, r10, r11, r12, r20, r21, r22, r30, r31, r32, e2, e3, l1, l2, l3]
  refine ⟨_, _, ws', an, op, rfl, ?_, D3, (x1.b _).trans xb⟩; rfl
theorem stepT (D : Duo h p w cs q B ws an op) (hx : Recs 3 h (.sl bx ox m cc) m xs) {i : Nat} (hi : i < m) (hm : m ≤ 200) {K : Int} (hK : K = 3) (ek : Int.tmod (IntKind.i64.wrap (Int.tmod (xs.getD (i * 3) 0) 8 + 8)) 8 = K) :
    ∃ l H ws' an' op', ev (evCallT table 13 300 8) 300 ir3_l0 (At9 (.sl bx ox m cc) p q i) h = some (.norm, l, H) ∧ keepOnly ir3_k0 l = At9 (.sl bx ox m cc) p q (i + 1) ∧ Duo H p w cs q B ws' an' op' ∧ ExtB (q :: p :: w :: cs) h H := by
  have bneI : ∀ {a b : Int}, (a != b) = !(a == b) := rfl
  have lx : ∀ (loc vals : List AV) (h : Heap), evPure loc (.c (.sl bx ox m cc) :: vals) h (.len .sl (.val 0)) = some (.c (.int .i64 (m : Int))) := fun _ _ _ => hx.len rfl
  have v1 : decide ((i : Int) < (m : Int)) = true := ltNat hi
  have v2 := succI (i := i) (by omega)
  have m1 : Nat.blt i m = true := bltT hi
  have k0 := hx.op3 hi
  generalize xs.getD (i * 3 + 1) 0 = a at *
  generalize xs.getD (i * 3 + 2) 0 = b at *
  obtain ⟨h1, w1, g1, x1, n1⟩ := box_store (h := h) (z := [.int .i64 0, .int .i64 0, .int .i64 0]) (v := [.int .i64 (xs.getD (i * 3) 0), .int .i64 a, .int .i64 b]) rfl
  have D1 := D.ext x1
  obtain ⟨y1, h2, y2, h3, ws', op', e2, e3, e4, D3, xa, xb⟩ : ∃ y1 h2 y2 h3 ws' op', evCallT table 13 300 8 17 [.c (.ptr p 0), .c (.int .i64 b)] h1 = some (.c y1, h2) ∧
    evCallT table 13 300 8 18 [.c (.ptr q 0), .c (.int .i64 b)] h2 = some (.c y2, h3) ∧ evCallT table 13 300 8 16 [.c y1, .c y2] h3 = some (.c (.bool true), h3) ∧ Duo h3 p w cs q B ws' an op' ∧ ExtB (q :: p :: w :: cs) h1 h2 ∧ ExtB (q :: p :: w :: cs) h1 h3 := duo_take (N := 300) (d := 7) D1 b (by omega)
  obtain ⟨r10, r11, r12⟩ := own_at D g1 n1 (ExtB.refl _ _)
  obtain ⟨r20, r21, r22⟩ := own_at D g1 n1 xa
  obtain ⟨r30, r31, r32⟩ := own_at D g1 n1 xb
  obtain ⟨y, l1, l2, l3⟩ := alike D3
  have c1 : decide (K < 3) = false := decide_eq_false (by omega)
  have c2 : (K == 3) = true := by simp [hK]
  unfold ir3_l0
  simp only [enter_eq, ev_seq, seqK_norm, seqK_exit, seqK_ret, ev_reg, ev_cond, condK_true, condK_false, ev_block, blockK_norm, blockK_ret, blockK_exit, ev_loop, ev_skip, ev_exit, ev_ret, regK_cons, regK_nil, guard_none, guard_some, regG_true, regG_false, regO_some, op_mov, op_conv, op_bin, op_bsl, op_box, op_mks, op_s2b, op_pick, op_un, op_eq, op_len, op_ext, op_load, op_iaddr, op_slice, op_b2s, op_idxS, op_mx, op_mn, op_call, op_store, op_app, op_copy, args_eq, result_one', rv_loc, finish_norm, finish_ret, outK_some, keep_true, keep_false, keep_nil, p_bin, p_pick, p_un, p_eq, p_conv, evNew, pureK_some, newK_some, X.eval, set_none, set_some, List.map_cons, List.map_nil, List.getD_cons_zero, List.getD_cons_succ, List.getD_nil, List.set_cons_zero, List.set_cons_succ, binCV, unCV, isShift, intArithF_eq, shiftF_eq, wrapF_eq, intArith, shift, eqVal, bound, asNat_cast, cond_true, cond_false, BEq.rfl, beq_self_eq_true, evalParts, fillParts, AV.cells, AV.ofCells, XV.av, AV.xv, List.length_cons, List.length_nil, zeros, patch, setMany, List.nil_append, List.cons_append, Nat.ble, Nat.add_eq, Nat.zero_add, Nat.add_zero, Nat.reduceAdd, Nat.reduceMul, Nat.reduceSub, Nat.ble_eq, Nat.reduceLeDiff, Nat.reduceBEq, Int.reduceBEq, Int.reduceNeg, Bool.and_true, Bool.and_false, Bool.true_and, Bool.false_and, Bool.not_true, Bool.not_false, Bool.true_eq_false, Bool.false_eq_true, Int.reduceLT, Int.reduceLE, Int.reduceGT, Int.reduceGE, decide_true, decide_false, Bool.not_eq_true, loopN_norm, loopN_exit, tf, ft, ff, ev_dreg, dregK_nil, dregK_cons, dregE_true, dregP_some, dregX_some, d_mov, d_bin, d_eq, d_pick, d_un, d_conv, d_b2s, d_len, d_load, d_iaddr, d_slice, d_ext, d_call, d_store, chk_done, chk_none, chk_some, chkG_true, chkG_false, chkOne_nil, chkOne_cons, chkH_some, chkV_same, stage_none, stage_some, look_hit, look_miss, news_nil, wb_cons, wb_nil, skip0, List.reverse_cons, List.reverse_nil, bneI, lx, v1, v2, m1, p_iaddr, p_faddr, op_faddr, d_faddr, d_nilchk, p_nilchk, p_load, AV.ofCells, k0, ek, evEff, w1, c1, c2, r10, r11, r12, r20, r21, r22, r30, r31, r32, e2, e3, e4, l1, l2, l3]
  refine ⟨_, _, ws', an, op', rfl, ?_, D3, (x1.b _).trans xb⟩; rfl
theorem stepA (D : Duo h p w cs q B ws an op) (hx : Recs 3 h (.sl bx ox m cc) m xs) {i : Nat} (hi : i < m) (hm : m ≤ 200) {K : Int} (hK : 3 < K) (hK6 : K < 6) (ek : Int.tmod (IntKind.i64.wrap (Int.tmod (xs.getD (i * 3) 0) 8 + 8)) 8 = K) :
    ∃ l H ws' an' op', ev (evCallT table 13 300 8) 300 ir3_l0 (At9 (.sl bx ox m cc) p q i) h = some (.norm, l, H) ∧ keepOnly ir3_k0 l = At9 (.sl bx ox m cc) p q (i + 1) ∧ Duo H p w cs q B ws' an' op' ∧ ExtB (q :: p :: w :: cs) h H := by
  have bneI : ∀ {a b : Int}, (a != b) = !(a == b) := rfl
  have lx : ∀ (loc vals : List AV) (h : Heap), evPure loc (.c (.sl bx ox m cc) :: vals) h (.len .sl (.val 0)) = some (.c (.int .i64 (m : Int))) := fun _ _ _ => hx.len rfl
  have v1 : decide ((i : Int) < (m : Int)) = true := ltNat hi
  have v2 := succI (i := i) (by omega)
  have m1 : Nat.blt i m = true := bltT hi
  have k0 := hx.op3 hi
  generalize xs.getD (i * 3 + 1) 0 = a at *
  generalize xs.getD (i * 3 + 2) 0 = b at *
  obtain ⟨h1, w1, g1, x1, n1⟩ := box_store (h := h) (z := [.int .i64 0, .int .i64 0, .int .i64 0]) (v := [.int .i64 (xs.getD (i * 3) 0), .int .i64 a, .int .i64 b]) rfl
  have D1 := D.ext x1
  obtain ⟨c, h2, h3, an', op', e2, e3, D3, xa, xb⟩ : ∃ c h2 h3 an' op', evCallT table 13 300 8 19 [.c (.ptr p 0), .c (.int .i64 a), .c (.int .i64 b)] h1 = some (.c (.int .i64 c), h2) ∧
    evCallT table 13 300 8 20 [.c (.ptr q 0), .c (.int .i64 a), .c (.int .i64 b)] h2 = some (.c (.int .i64 c), h3) ∧ Duo h3 p w cs q B ws an' op' ∧ ExtB (q :: p :: w :: cs) h1 h2 ∧ ExtB (q :: p :: w :: cs) h1 h3 := duo_answer (N := 300) (d := 6) D1 a b (by omega) (by omega)
  obtain ⟨r10, r11, r12⟩ := own_at D g1 n1 (ExtB.refl _ _)
  obtain ⟨r20, r21, r22⟩ := own_at D g1 n1 xa
  obtain ⟨r30, r31, r32⟩ := own_at D g1 n1 xb
  obtain ⟨y, l1, l2, l3⟩ := alike D3
  have c1 : decide (K < 3) = false := decide_eq_false (by omega)
  have c2 : (K == 3) = false := by simp; omega
  have c3 : decide (K < 6) = true := decide_eq_true hK6
  unfold ir3_l0
  simp only [enter_eq, ev_seq, seqK_norm, seqK_exit, seqK_ret, ev_reg, ev_cond, condK_true, condK_false, ev_block, blockK_norm, blockK_ret, blockK_exit, ev_loop, ev_skip, ev_exit, ev_ret, regK_cons, regK_nil, guard_none, guard_some, regG_true, regG_false, regO_some, op_mov, op_conv, op_bin, op_bsl, op_box, op_mks, op_s2b, op_pick, op_un, op_eq, op_len, op_ext, op_load, op_iaddr, op_slice, op_b2s, op_idxS, op_mx, op_mn, op_call, op_store, op_app, op_copy, args_eq, result_one', rv_loc, finish_norm, finish_ret, outK_some, keep_true, keep_false, keep_nil, p_bin, p_pick, p_un, p_eq, p_conv, evNew, pureK_some, newK_some, X.eval, set_none, set_some, List.map_cons, List.map_nil, List.getD_cons_zero, List.getD_cons_succ, List.getD_nil, List.set_cons_zero, List.set_cons_succ, binCV, unCV, isShift, intArithF_eq, shiftF_eq, wrapF_eq, intArith, shift, eqVal, bound, asNat_cast, cond_true, cond_false, BEq.rfl, beq_self_eq_true, evalParts, fillParts, AV.cells, AV.ofCells, XV.av, AV.xv, List.length_cons, List.length_nil, zeros, patch, setMany, List.nil_append, List.cons_append, Nat.ble, Nat.add_eq, Nat.zero_add, Nat.add_zero, Nat.reduceAdd, Nat.reduceMul, Nat.reduceSub, Nat.ble_eq, Nat.reduceLeDiff, Nat.reduceBEq, Int.reduceBEq, Int.reduceNeg, Bool.and_true, Bool.and_false, Bool.true_and, Bool.false_and, Bool.not_true, Bool.not_false, Bool.true_eq_false, Bool.false_eq_true, Int.reduceLT, Int.reduceLE, Int.reduceGT, Int.reduceGE, decide_true, decide_false, Bool.not_eq_true, loopN_norm, loopN_exit, tf, ft, ff, ev_dreg, dregK_nil, dregK_cons, dregE_true, dregP_some, dregX_some, d_mov, d_bin, d_eq, d_pick, d_un, d_conv, d_b2s, d_len, d_load, d_iaddr, d_slice, d_ext, d_call, d_store, chk_done, chk_none, chk_some, chkG_true, chkG_false, chkOne_nil, chkOne_cons, chkH_some, chkV_same, stage_none, stage_some, look_hit, look_miss, news_nil, wb_cons, wb_nil, skip0, List.reverse_cons, List.reverse_nil, bneI, lx, v1, v2, m1, p_iaddr, p_faddr, op_faddr, d_faddr, d_nilchk, p_nilchk, p_load, AV.ofCells, k0, ek, evEff, w1, c1, c2, c3, r10, r11, r12, r20, r21, r22, r30, r31, r32, e2, e3, l1, l2, l3]
  refine ⟨_, _, ws, an', op', rfl, ?_, D3, (x1.b _).trans xb⟩; rfl
theorem stepH (D : Duo h p w cs q B ws an op) (hx : Recs 3 h (.sl bx ox m cc) m xs) {i : Nat} (hi : i < m) (hm : m ≤ 200) {K : Int} (hK : 5 < K) (ek : Int.tmod (IntKind.i64.wrap (Int.tmod (xs.getD (i * 3) 0) 8 + 8)) 8 = K) :
    ∃ l H ws' an' op', ev (evCallT table 13 300 8) 300 ir3_l0 (At9 (.sl bx ox m cc) p q i) h = some (.norm, l, H) ∧ keepOnly ir3_k0 l = At9 (.sl bx ox m cc) p q (i + 1) ∧ Duo H p w cs q B ws' an' op' ∧ ExtB (q :: p :: w :: cs) h H := by
  have bneI : ∀ {a b : Int}, (a != b) = !(a == b) := rfl
  have lx : ∀ (loc vals : List AV) (h : Heap), evPure loc (.c (.sl bx ox m cc) :: vals) h (.len .sl (.val 0)) = some (.c (.int .i64 (m : Int))) := fun _ _ _ => hx.len rfl
  have v1 : decide ((i : Int) < (m : Int)) = true := ltNat hi
  have v2 := succI (i := i) (by omega)
  have m1 : Nat.blt i m = true := bltT hi
  have k0 := hx.op3 hi
  generalize xs.getD (i * 3 + 1) 0 = a at *
  generalize xs.getD (i * 3 + 2) 0 = b at *
  obtain ⟨h1, w1, g1, x1, n1⟩ := box_store (h := h) (z := [.int .i64 0, .int .i64 0, .int .i64 0]) (v := [.int .i64 (xs.getD (i * 3) 0), .int .i64 a, .int .i64 b]) rfl
  have D1 := D.ext x1
  obtain ⟨c, bb, h2, h3, an', e2, e3, D3, xa, xb⟩ : ∃ c b h2 h3 an', evCallT table 13 300 8 21 [.c (.ptr p 0), .c (.int .i64 a)] h1 = some (.tup [.c (.int .i64 c), .c (.bool b)], h2) ∧
    evCallT table 13 300 8 22 [.c (.ptr q 0), .c (.int .i64 a)] h2 = some (.tup [.c (.int .i64 c), .c (.bool b)], h3) ∧ Duo h3 p w cs q B ws an' op ∧ ExtB (q :: p :: w :: cs) h1 h2 ∧ ExtB (q :: p :: w :: cs) h1 h3 := duo_hear (N := 300) (d := 6) D1 a (by omega) (by omega)
  obtain ⟨r10, r11, r12⟩ := own_at D g1 n1 (ExtB.refl _ _)
  obtain ⟨r20, r21, r22⟩ := own_at D g1 n1 xa
  obtain ⟨r30, r31, r32⟩ := own_at D g1 n1 xb
  obtain ⟨y, l1, l2, l3⟩ := alike D3
  have c1 : decide (K < 3) = false := decide_eq_false (by omega)
  have c2 : (K == 3) = false := by simp; omega
  have c3 : decide (K < 6) = false := decide_eq_false (by omega)
  have bneB : ∀ {x : Bool}, (x != x) = false := by simp
  unfold ir3_l0
  simp only [enter_eq, ev_seq, seqK_norm, seqK_exit, seqK_ret, ev_reg, ev_cond, condK_true, condK_false, ev_block, blockK_norm, blockK_ret, blockK_exit, ev_loop, ev_skip, ev_exit, ev_ret, regK_cons, regK_nil, guard_none, guard_some, regG_true, regG_false, regO_some, op_mov, op_conv, op_bin, op_bsl, op_box, op_mks, op_s2b, op_pick, op_un, op_eq, op_len, op_ext, op_load, op_iaddr, op_slice, op_b2s, op_idxS, op_mx, op_mn, op_call, op_store, op_app, op_copy, args_eq, result_one', rv_loc, finish_norm, finish_ret, outK_some, keep_true, keep_false, keep_nil, p_bin, p_pick, p_un, p_eq, p_conv, evNew, pureK_some, newK_some, X.eval, set_none, set_some, List.map_cons, List.map_nil, List.getD_cons_zero, List.getD_cons_succ, List.getD_nil, List.set_cons_zero, List.set_cons_succ, binCV, unCV, isShift, intArithF_eq, shiftF_eq, wrapF_eq, intArith, shift, eqVal, bound, asNat_cast, cond_true, cond_false, BEq.rfl, beq_self_eq_true, evalParts, fillParts, AV.cells, AV.ofCells, XV.av, AV.xv, List.length_cons, List.length_nil, zeros, patch, setMany, List.nil_append, List.cons_append, Nat.ble, Nat.add_eq, Nat.zero_add, Nat.add_zero, Nat.reduceAdd, Nat.reduceMul, Nat.reduceSub, Nat.ble_eq, Nat.reduceLeDiff, Nat.reduceBEq, Int.reduceBEq, Int.reduceNeg, Bool.and_true, Bool.and_false, Bool.true_and, Bool.false_and, Bool.not_true, Bool.not_false, Bool.true_eq_false, Bool.false_eq_true, Int.reduceLT, Int.reduceLE, Int.reduceGT, Int.reduceGE, decide_true, decide_false, Bool.not_eq_true, loopN_norm, loopN_exit, tf, ft, ff, ev_dreg, dregK_nil, dregK_cons, dregE_true, dregP_some, dregX_some, d_mov, d_bin, d_eq, d_pick, d_un, d_conv, d_b2s, d_len, d_load, d_iaddr, d_slice, d_ext, d_call, d_store, chk_done, chk_none, chk_some, chkG_true, chkG_false, chkOne_nil, chkOne_cons, chkH_some, chkV_same, stage_none, stage_some, look_hit, look_miss, news_nil, wb_cons, wb_nil, skip0, List.reverse_cons, List.reverse_nil, bneI, lx, v1, v2, m1, p_iaddr, p_faddr, op_faddr, d_faddr, d_nilchk, p_nilchk, p_load, AV.ofCells, k0, ek, evEff, w1, c1, c2, c3, r10, r11, r12, r20, r21, r22, r30, r31, r32, e2, e3, l1, l2, l3, op_ext, p_ext, List.getElem?_cons_zero, List.getElem?_cons_succ, bneB]
  refine ⟨_, _, ws, an', op, rfl, ?_, D3, (x1.b _).trans xb⟩; rfl
end

theorem mailPlays {x : CV} {h : Heap} {m : Nat} {xs : List Int} (hx : Recs 3 h x m xs) : good (evCallT table 13 300 9 3 [.c x] h) = true := by
  have lx : ∀ (loc vals : List AV) (h : Heap), evPure loc (.c x :: vals) h (.len .sl (.val 0)) = some (.c (.int .i64 (m : Int))) := fun _ _ _ => hx.len rfl
  obtain ⟨p, w, cs, h1, e1, m1, x1, hp, hw, hc⟩ : ∃ p w cs h', evCallT table 13 300 8 12 [] h = some (.c (.ptr p 0), h') ∧ MB h' p w cs [] (fun _ => false) (fun _ => false) (fun _ => none) ∧ Ext h h' ∧ h.next ≤ p ∧ h.next ≤ w ∧ ∀ a ∈ cs, h.next ≤ a := new_box (N := 300) (d := 7) (by omega)
  have x2 : Ext h1 (h1.new (.cells [.nils, .nils, .nils])) := (Ext.refl _).new _
  rw [evCallT_eq (F := ir3) rfl rfl rfl]
  unfold ir3
  rw [bodyK_eq]
  by_cases hm : m ≤ 200
  · have v0 : decide ((m : Int) > 200) = false := by simp; omega
    have D : Duo (h1.new (.cells [.nils, .nils, .nils])) p w cs h1.next (h1.next + 1) [] [] [] :=
      ⟨(m1.ext (x2.b []) (by simp) (by simp) (by simp)).congr (fun j _ => by simp [keys]) (fun j _ => by simp) (fun _ _ => rfl), ⟨.nils, .nils, .nils, get_new_at, ⟨rfl, .inl ⟨rfl, rfl⟩⟩, ⟨rfl, .inl ⟨rfl, rfl⟩⟩, .inl ⟨rfl, rfl⟩, Nat.lt_succ_self _, Nat.lt_succ_self _, fun k hk => by simp [blk] at hk, fun k hk => by simp [blk] at hk, fun k hk => by simp [blk] at hk, fun _ _ _ _ hk => by simp at hk, fun _ _ _ _ hk => by simp at hk, fun _ _ _ _ hk => by simp at hk⟩,
        by simp [keys], by simp [keys], by simp, Nat.le_refl _, fun k hk => by
          have h1 := m1.pn
          have h2 := m1.wn
          rcases List.mem_cons.1 hk with rfl | hk
          · omega
          · rcases List.mem_cons.1 hk with rfl | hk
            · omega
            · have := m1.an k hk; omega, fun hk => by
          have h1 := m1.pn
          have h2 := m1.wn
          rcases List.mem_cons.1 hk with hk | hk
          · omega
          · rcases List.mem_cons.1 hk with hk | hk
            · omega
            · have := m1.an _ hk; omega⟩
    have hx2 : Recs 3 (h1.new (.cells [.nils, .nils, .nils])) x m xs := (hx.ext x1).ext x2
    have hxb : ∀ k, blk x = some k → k ∉ h1.next :: p :: w :: cs := fun k hk => by
      rcases hx.is with ⟨rfl, _⟩ | ⟨i, o, c, rfl, hi⟩
      · cases hk
      · simp [blk] at hk
        subst hk
        have := x1.1
        simp only [List.mem_cons, not_or]
        exact ⟨by omega, by omega, by omega, fun h => by have := hc _ h; omega⟩
    have L : ∀ loc, keepOnly ir3_k0 loc = At9 x p h1.next 0 → ∃ r, loopK (evCallT table 13 300 8) 300 ir3_k0 ir3_l0 300 loc (h1.new (.cells [.nils, .nils, .nils])) = some r ∧ ∃ a0 a1 l h', r = (.exit 0, a0 :: a1 :: l, h') := by
      intro loc hloc
      refine loop_inv (n := m) (fun i loc h' => ∃ ws an op, Duo h' p w cs h1.next (h1.next + 1) ws an op ∧ Recs 3 h' x m xs ∧ loc = At9 x p h1.next i) _ ?_ ⟨_, _, _, D, hx2, hloc⟩ (by omega)
      rintro i loc h' hi ⟨ws, an, op, D', hx', rfl⟩
      by_cases hlt : i < m
      · left
        refine ⟨hlt, ?_⟩
        obtain ⟨k, hk, ek⟩ := kindM (m := 8) (by omega) (by omega) (xs.getD (i * 3) 0)
        have ek' : Int.tmod (IntKind.i64.wrap (Int.tmod (xs.getD (i * 3) 0) 8 + 8)) 8 = (k : Int) := ek
        obtain ⟨bx, ox, cc, rfl, _⟩ : ∃ i o c, x = .sl i o m c ∧ i < h'.next := by
          rcases hx'.is with ⟨_, h0⟩ | h1
          · omega
          · exact h1
        have fin : ∀ {l H ws' an' op'}, ev (evCallT table 13 300 8) 300 ir3_l0 (At9 (.sl bx ox m cc) p h1.next i) h' = some (.norm, l, H) → keepOnly ir3_k0 l = At9 (.sl bx ox m cc) p h1.next (i + 1) → Duo H p w cs h1.next (h1.next + 1) ws' an' op' → ExtB (h1.next :: p :: w :: cs) h' H →
            ∃ loc' H', ev (evCallT table 13 300 8) 300 ir3_l0 (At9 (.sl bx ox m cc) p h1.next i) h' = some (.norm, loc', H') ∧ ∃ ws an op, Duo H' p w cs h1.next (h1.next + 1) ws an op ∧ Recs 3 H' (.sl bx ox m cc) m xs ∧ keepOnly ir3_k0 loc' = At9 (.sl bx ox m cc) p h1.next (i + 1) :=
          fun e1 e2 d x => ⟨_, _, e1, _, _, _, d, hx'.extB x hxb, e2⟩
        by_cases c1 : k < 3
        · obtain ⟨l, H, ws', an', op', e1, e2, d, x⟩ := stepP D' hx' hlt hm (K := (k : Int)) (by omega) ek'
          exact fin e1 e2 d x
        by_cases c2 : k = 3
        · obtain ⟨l, H, ws', an', op', e1, e2, d, x⟩ := stepT D' hx' hlt hm (K := (k : Int)) (by omega) ek'
          exact fin e1 e2 d x
        by_cases c3 : k < 6
        · obtain ⟨l, H, ws', an', op', e1, e2, d, x⟩ := stepA D' hx' hlt hm (K := (k : Int)) (by omega) (by omega) ek'
          exact fin e1 e2 d x
        · obtain ⟨l, H, ws', an', op', e1, e2, d, x⟩ := stepH D' hx' hlt hm (K := (k : Int)) (by omega) ek'
          exact fin e1 e2 d x
      · right
        have v1 : decide ((i : Int) < (m : Int)) = false := geNat (by omega)
        unfold ir3_l0
        simp only [enter_eq, ev_seq, seqK_norm, seqK_exit, seqK_ret, ev_reg, ev_cond, condK_true, condK_false, ev_block, blockK_norm, blockK_ret, blockK_exit, ev_loop, ev_skip, ev_exit, ev_ret, regK_cons, regK_nil, guard_none, guard_some, regG_true, regG_false, regO_some, op_mov, op_conv, op_bin, op_bsl, op_box, op_mks, op_s2b, op_pick, op_un, op_eq, op_len, op_ext, op_load, op_iaddr, op_slice, op_b2s, op_idxS, op_mx, op_mn, op_call, op_store, op_app, op_copy, args_eq, result_one', rv_loc, finish_norm, finish_ret, outK_some, keep_true, keep_false, keep_nil, p_bin, p_pick, p_un, p_eq, p_conv, evNew, pureK_some, newK_some, X.eval, set_none, set_some, List.map_cons, List.map_nil, List.getD_cons_zero, List.getD_cons_succ, List.getD_nil, List.set_cons_zero, List.set_cons_succ, binCV, unCV, isShift, intArithF_eq, shiftF_eq, wrapF_eq, intArith, shift, eqVal, bound, asNat_cast, cond_true, cond_false, BEq.rfl, beq_self_eq_true, evalParts, fillParts, AV.cells, AV.ofCells, XV.av, AV.xv, List.length_cons, List.length_nil, zeros, patch, setMany, List.nil_append, List.cons_append, Nat.ble, Nat.add_eq, Nat.zero_add, Nat.add_zero, Nat.reduceAdd, Nat.reduceMul, Nat.reduceSub, Nat.ble_eq, Nat.reduceLeDiff, Nat.reduceBEq, Int.reduceBEq, Int.reduceNeg, Bool.and_true, Bool.and_false, Bool.true_and, Bool.false_and, Bool.not_true, Bool.not_false, Bool.true_eq_false, Bool.false_eq_true, Int.reduceLT, Int.reduceLE, Int.reduceGT, Int.reduceGE, decide_true, decide_false, Bool.not_eq_true, loopN_norm, loopN_exit, tf, ft, ff, lx, v1]
        exact ⟨_, rfl, by simp, _, _, _, _, rfl⟩
    obtain ⟨r, hr, a0, a1, l, h', rfl⟩ := L [.c x, .c (.bool false), .c (.ptr p 0), .c (.ptr h1.next 0), .c (.int .i64 0), .tup [], .tup [], .tup [], .tup [], .tup [], .tup [], .c (.bool false), .c (.bool false), .tup [], .tup [], .tup [], .tup [], .tup [], .tup [], .tup [], .tup [], .tup []] rfl
    simp only [enter_eq, ev_seq, seqK_norm, seqK_exit, seqK_ret, ev_reg, ev_cond, condK_true, condK_false, ev_block, blockK_norm, blockK_ret, blockK_exit, ev_loop, ev_skip, ev_exit, ev_ret, regK_cons, regK_nil, guard_none, guard_some, regG_true, regG_false, regO_some, op_mov, op_conv, op_bin, op_bsl, op_box, op_mks, op_s2b, op_pick, op_un, op_eq, op_len, op_ext, op_load, op_iaddr, op_slice, op_b2s, op_idxS, op_mx, op_mn, op_call, op_store, op_app, op_copy, args_eq, result_one', rv_loc, finish_norm, finish_ret, outK_some, keep_true, keep_false, keep_nil, p_bin, p_pick, p_un, p_eq, p_conv, evNew, pureK_some, newK_some, X.eval, set_none, set_some, List.map_cons, List.map_nil, List.getD_cons_zero, List.getD_cons_succ, List.getD_nil, List.set_cons_zero, List.set_cons_succ, binCV, unCV, isShift, intArithF_eq, shiftF_eq, wrapF_eq, intArith, shift, eqVal, bound, asNat_cast, cond_true, cond_false, BEq.rfl, beq_self_eq_true, evalParts, fillParts, AV.cells, AV.ofCells, XV.av, AV.xv, List.length_cons, List.length_nil, zeros, patch, setMany, List.nil_append, List.cons_append, Nat.ble, Nat.add_eq, Nat.zero_add, Nat.add_zero, Nat.reduceAdd, Nat.reduceMul, Nat.reduceSub, Nat.ble_eq, Nat.reduceLeDiff, Nat.reduceBEq, Int.reduceBEq, Int.reduceNeg, Bool.and_true, Bool.and_false, Bool.true_and, Bool.false_and, Bool.not_true, Bool.not_false, Bool.true_eq_false, Bool.false_eq_true, Int.reduceLT, Int.reduceLE, Int.reduceGT, Int.reduceGE, decide_true, decide_false, Bool.not_eq_true, loopN_norm, loopN_exit, tf, ft, ff, e1, lx, v0, op_build, p_build', hr, blockK_exit_eq, evCallT_told]
    rfl
  · have v0 : decide ((m : Int) > 200) = true := by simp; omega
    simp only [enter_eq, ev_seq, seqK_norm, seqK_exit, seqK_ret, ev_reg, ev_cond, condK_true, condK_false, ev_block, blockK_norm, blockK_ret, blockK_exit, ev_loop, ev_skip, ev_exit, ev_ret, regK_cons, regK_nil, guard_none, guard_some, regG_true, regG_false, regO_some, op_mov, op_conv, op_bin, op_bsl, op_box, op_mks, op_s2b, op_pick, op_un, op_eq, op_len, op_ext, op_load, op_iaddr, op_slice, op_b2s, op_idxS, op_mx, op_mn, op_call, op_store, op_app, op_copy, args_eq, result_one', rv_loc, finish_norm, finish_ret, outK_some, keep_true, keep_false, keep_nil, p_bin, p_pick, p_un, p_eq, p_conv, evNew, pureK_some, newK_some, X.eval, set_none, set_some, List.map_cons, List.map_nil, List.getD_cons_zero, List.getD_cons_succ, List.getD_nil, List.set_cons_zero, List.set_cons_succ, binCV, unCV, isShift, intArithF_eq, shiftF_eq, wrapF_eq, intArith, shift, eqVal, bound, asNat_cast, cond_true, cond_false, BEq.rfl, beq_self_eq_true, evalParts, fillParts, AV.cells, AV.ofCells, XV.av, AV.xv, List.length_cons, List.length_nil, zeros, patch, setMany, List.nil_append, List.cons_append, Nat.ble, Nat.add_eq, Nat.zero_add, Nat.add_zero, Nat.reduceAdd, Nat.reduceMul, Nat.reduceSub, Nat.ble_eq, Nat.reduceLeDiff, Nat.reduceBEq, Int.reduceBEq, Int.reduceNeg, Bool.and_true, Bool.and_false, Bool.true_and, Bool.false_and, Bool.not_true, Bool.not_false, Bool.true_eq_false, Bool.false_eq_true, Int.reduceLT, Int.reduceLE, Int.reduceGT, Int.reduceGE, decide_true, decide_false, Bool.not_eq_true, loopN_norm, loopN_exit, tf, ft, ff, e1, lx, v0, op_build, p_build', evCallT_told]
    rfl

end Lav

namespace Go.Proofs.Ytgjceiiddcbfoaa.mailPlays
open Go.ChangeShapes Go.WideShapes Go.ChangeAt Go.RowKit
open Go.ChangeMaps (open_string shut_string)
set_option linter.unusedVariables false

theorem own : ownKnob Try.prog.godebug = none := by kernel_rfl
theorem laidOut : laidOutB Try.prog = true := by kernel_rfl

/-- What the walk is told of a slice of records of ints that came in: it is nil; or it leads to a row of 'cap' records, 'sz' cells each. -/
def IsRecs (sz : Nat) (w : World) (a : Option Addr) (len cap : Nat) (zs : List Int) : Prop :=
  (a = none ∧ len = 0 ∧ cap = 0 ∧ zs = []) ∨
  ∃ x, a = some x ∧ len ≤ cap ∧ cap ≤ maxLen ∧ zs.length = cap * sz ∧ (∀ i, i < zs.length → w.cell? (x.add i) = some (.int .i64 (zs.getD i 0))) ∧ ∀ n ∈ zs, (Lit.int .i64 n).wf = true

theorem walk (a0 : Option Addr) (len0 cap0 : Nat) (z0 : List Int) (w : World) (w0 : IsRecs 3 w a0 len0 cap0 z0) :
    Calls Try.prog 3 #[.slice a0 len0 cap0] w fun e w' => e = .returned (.bool true) ∧ Below w.heap.size w w' := by
  obtain ⟨ι, h, x, I, hle, hx, hr⟩ := (Lav.Init.empty w).recs (sz := 3) (by omega) w0
  exact Lav.walk_of (Lav.evCallT_sound Lav.mixed Lav.table_ok Lav.tld9 300 9) I (args := [.c x]) (vs := [.slice a0 len0 cap0]) ⟨hx, trivial⟩ (Lav.mailPlays (Lav.recs_of hr))

set_option maxRecDepth 100000 in
theorem lifted (os : Os) (started : os.Started) (H : Type) (enc : TypeId × Value → H) :
    ReturnsInHanded {} Try.checked os 3 .any (Rows.mailPlaysSpec.pre6 enc Try.prog Try.f3 Rows.mailPlaysRow.domain false) (Rows.mailPlaysSpec.post enc Try.prog Try.f3 false true false false) := by
  refine returnsInHanded_of_change (C := Try.checked) own started (by kernel_rfl) Try.func3
    (ChangeSpec.witness6 (enc := enc) (C := Try.checked) false ⟨#[], #[.slice none 0 0], []⟩ 8 (by kernel_rfl) (by kernel_rfl) (by kernel_rfl) (by kernel_rfl)) ?_
  intro W base args ds gs before hval0 hW hcnd _
  have hval : ∀ (j : Nat) t v, Try.f3.params[j]? = some t → args[j]? = some v → Value.okWide Try.prog W .any base t v := hval0
  have hW' := hW
  obtain ⟨p, q, hA0, hV, rfl, hfz, hnd⟩ := hW
  have hA : DataW.TrodAll enc Try.prog W 0 (fun _ => true) true Try.f3.params.toList args.toList ds p := hA0
  rw [Try.params3] at hA hval
  obtain ⟨v0, vs0, d0, ds0, p0, q0, hargs, rfl, rfl, h0, r0⟩ := trodAll_cons hA
  obtain ⟨rfl, rfl, rfl⟩ := trodAll_nil r0
  obtain rfl : args = #[v0] := by cases args; simp_all
  obtain ⟨rfl, rfl⟩ := trodVars_none hV
  obtain ⟨a0, len0, cap0, rfl⟩ := okWide_slice Try.underlying22 (hval 0 22 v0 rfl rfl)
  have k0 := h0
  have lt0 : ∀ x ∈ p0, x.block < W.heap.size := by obtain ⟨m, hm⟩ := k0; exact DataW.trod_lt m _ _ _ hm
  obtain ⟨z0, w0⟩ : ∃ zs, IsRecs 3 W a0 len0 cap0 zs := by
    obtain ⟨fuel, hf⟩ := h0
    rcases Lav.open_recs (sz := 3) Try.underlying22 Try.underlying32 (by kernel_rfl) (by
        intro j hj
        match j, hj with
        | 0, _ => exact ⟨0, _, rfl, rfl, Try.underlying3, by kernel_rfl⟩
        | 1, _ => exact ⟨1, _, rfl, rfl, Try.underlying3, by kernel_rfl⟩
        | 2, _ => exact ⟨2, _, rfl, rfl, Try.underlying3, by kernel_rfl⟩
        | j + 3, hj => omega) hf with hcs | ⟨x, l, c, zs, hcs, hl, hm, hz, hcell, hwz⟩
    · simp [Value.cells] at hcs
      obtain ⟨rfl, rfl, rfl⟩ := hcs
      exact ⟨[], .inl ⟨rfl, rfl, rfl, rfl⟩⟩
    · simp [Value.cells] at hcs
      obtain ⟨rfl, rfl, rfl⟩ := hcs
      exact ⟨zs, .inr ⟨_, rfl, hl, hm, by simpa using hz, hcell, hwz⟩⟩
  clear hA0 hval0
  refine (walk a0 len0 cap0 z0 W w0).mono fun e W' ⟨he, bel⟩ => ?_
  subst he
  exact ⟨_, rfl, _, _, _, [], _, [], hW', trodAll_mk1 (shut_bool Try.underlying4 _), (trodAll_cons_mk (Below.trod laidOut (by kernel_rfl) (of_decide_eq_true (by kernel_rfl)) k0 bel lt0) trodAll_mk0), rfl, bel.frame _, fun h => by cases h⟩

theorem over : Rows.mailPlaysRow.holds Try.pinned (OpenSpec.ofChange Rows.mailPlaysSpec) :=
  OpenClaim.holds_of_wide 3 Try.f3 rfl rfl rfl rfl rfl rfl rfl ⟨rfl, rfl, rfl, rfl, rfl⟩ rfl rfl rfl rfl rfl (by kernel_rfl) Try.func3 (by kernel_rfl)
    (of_decide_eq_true (by kernel_rfl)) (by unfold Func.isWrapper; first | (rw [if_pos (by decide +kernel)]; kernel_rfl) | (rw [if_neg (by decide +kernel)]; exact ⟨rfl, rfl⟩))
    (fun os started H enc _ => lifted os started H enc)

theorem proved : Rows.MailPlaysSaid := over
end Go.Proofs.Ytgjceiiddcbfoaa.mailPlays
