/-
  Proved: whatever bytes, pool and three more bytes come in, lavabolaw15.ScriptAsks returns true and changes nothing that was there. No conditions beyond the given statement's.
-/
import Derived.Test.YtdeehmncnfdmkaaRows
import Derived.Test.YtdeehmncnfdmkaaScr8
import Derived.Test.YtdeehmncnfdmkaaScr10
import Derived.WalkKit
import Derived.ProofKit
import Derived.OpenShut
import Derived.ShutString
import Derived.ChangeOld
import Derived.Below
set_option maxRecDepth 100000
set_option linter.unusedSimpArgs false
namespace Lav
open Go (IntKind)
theorem scriptAsks {h : Heap} {s : List Nat} {b : CV} (c : Cf) (t : Txt h b s) (sh : b = .nils ∨ ∃ i o, b = .sl i o s.length (.dy 1)) {x y z : Nat} (hx : x < 256) (hy : y < 256) (hz : z < 256) :
    good (evCallX table 21 37 200 10 7 [.c b, .agg (cfC c), .c (.int .u8 (x : Int)), .c (.int .u8 (y : Int)), .c (.int .u8 (z : Int))] h) = true := by
  obtain ⟨H0, hH0⟩ : ∃ H, H = h.new (.cells (cfC c)) := ⟨_, rfl⟩
  have x0 : Ext h H0 := by rw [hH0]; exact (Ext.refl _).new _
  have n0 : H0.next = h.next + 1 := by rw [hH0]; rfl
  have g0 : H0.get h.next = some (.cells (cfC c)) := by rw [hH0]; exact get_new_at
  have q0 : H0.read h.next 0 4 = some (cfC c) := read_all g0 rfl
  have bx : AV.cells (.agg (cfC c)) = some (cfC c) := rfl
  have lb : ∀ loc vals H, evPure loc (.c b :: vals) H (.len .sl (.val 0)) = some (.c (.int .i64 (s.length : Int))) := fun _ _ _ => t.len rfl
  rw [evCallX_eq (F := ir7) rfl rfl rfl rfl]
  unfold ir7
  rw [bodyK_eq]
  by_cases c1 : s.length > 300
  · have v1 : decide ((s.length : Int) > 300) = true := decide_eq_true (by omega)
    simp only [enter_eq, ev_seq, seqK_norm, seqK_exit, seqK_ret, ev_reg, ev_cond, condK_true, condK_false, ev_block, blockK_norm, blockK_ret, blockK_exit, ev_loop, ev_skip, ev_exit, ev_ret, regK_cons, regK_nil, guard_none, guard_some, regG_true, regG_false, regO_some, op_mov, op_conv, op_bin, op_bsl, op_box, op_mks, op_s2b, op_pick, op_un, op_eq, op_len, op_ext, op_load, op_iaddr, op_slice, op_b2s, op_idxS, op_mx, op_mn, op_call, op_store, op_app, op_copy, args_eq, result_one', rv_loc, finish_norm, finish_ret, outK_some, keep_true, keep_false, keep_nil, p_bin, p_pick, p_un, p_eq, p_conv, evNew, pureK_some, newK_some, X.eval, set_none, set_some, List.map_cons, List.map_nil, List.getD_cons_zero, List.getD_cons_succ, List.getD_nil, List.set_cons_zero, List.set_cons_succ, binCV, unCV, isShift, intArithF_eq, shiftF_eq, wrapF_eq, intArith, shift, eqVal, bound, asNat_cast, cond_true, cond_false, BEq.rfl, beq_self_eq_true, evalParts, fillParts, AV.cells, AV.ofCells, XV.av, AV.xv, List.length_cons, List.length_nil, zeros, patch, setMany, List.nil_append, List.cons_append, Nat.ble, Nat.add_eq, Nat.zero_add, Nat.add_zero, Nat.reduceAdd, Nat.reduceMul, Nat.reduceSub, Nat.ble_eq, Nat.reduceLeDiff, Nat.reduceBEq, Int.reduceBEq, Int.reduceNeg, Bool.and_true, Bool.and_false, Bool.true_and, Bool.false_and, Bool.not_true, Bool.not_false, Bool.true_eq_false, Bool.false_eq_true, Int.reduceLT, Int.reduceLE, Int.reduceGT, Int.reduceGE, decide_true, decide_false, Bool.not_eq_true, loopN_norm, loopN_exit, tf, ft, ff, bx, ← hH0, lb, v1, evCallX_told]
    rfl
  have v1 : decide ((s.length : Int) > 300) = false := decide_eq_false (by omega)
  obtain ⟨z1, H1, e1, R1, x1⟩ := all_any (N := 200) (d := 2) (h := H0) c (t.ext x0) sh (by omega) (by omega)
  obtain ⟨z2, H2, e2, R2, x2⟩ := steps_any (N := 200) (d := 2) (h := H1) (s := s) c (by omega) (t.small) (by omega)
  have hn0 := x1.1
  have hn1 := x2.1
  have q1 : H1.read h.next 0 4 = some (cfC c) := read_all (x1.at_ g0 (by omega)) rfl
  have q2 : H2.read h.next 0 4 = some (cfC c) := read_all (x2.at_ (x1.at_ g0 (by omega)) (by omega)) rfl
  have b0 : ∀ loc vals, evPure loc (.c b :: vals) H0 (.b2s (.val 0)) = some (.c (.str s)) := fun _ _ => t.text x0 rfl
  have b1 : ∀ loc vals, evPure loc (.c b :: vals) H1 (.b2s (.val 0)) = some (.c (.str s)) := fun _ _ => t.text (x0.trans x1) rfl
  have b2 : ∀ loc vals, evPure loc (.c b :: vals) H2 (.b2s (.val 0)) = some (.c (.str s)) := fun _ _ => t.text ((x0.trans x1).trans x2) rfl
  have R1' := R1.ext x2
  obtain ⟨n, hn, hle⟩ : ∃ n, n = (if c.ok then s.length / 4 else 0) ∧ n ≤ 75 := ⟨_, rfl, by split <;> omega⟩
  rw [← hn] at R1' R2
  have y1 : ∀ loc vals H, evPure loc (.c z1 :: vals) H (.len .sl (.val 0)) = some (.c (.int .i64 (n : Int))) := fun _ _ _ => R1'.len rfl
  have y2 : ∀ loc vals H, evPure loc (.c z2 :: vals) H (.len .sl (.val 0)) = some (.c (.int .i64 (n : Int))) := fun _ _ _ => R2.len rfl
  have bneI : ∀ {a b : Int}, (a != b) = !(a == b) := rfl
  have gc2 : H2.get h.next = some (.cells (cfC c)) := x2.at_ (x1.at_ g0 (by omega)) (by omega)
  have L : ∀ loc, keepOnly ir7_k0 loc = [.junk, .junk, .c (.int .u8 (x : Int)), .c (.int .u8 (y : Int)), .c (.int .u8 (z : Int)), .c (.ptr h.next 0), .junk, .c z1, .c z2, .c (.int .i64 0), .junk, .junk, .junk, .junk] →
      ∃ r, loopK (evCallX table 21 37 200 9) 200 ir7_k0 ir7_l0 200 loc H2 = some r ∧ ∃ a0 a1 a6 l G, r = (.exit 0, a0 :: a1 :: .c (.int .u8 (x : Int)) :: .c (.int .u8 (y : Int)) :: .c (.int .u8 (z : Int)) :: .c (.ptr h.next 0) :: a6 :: l, G) ∧ Ext H2 G := by
    intro loc hloc
    refine loop_inv (n := n) (fun i loc G => i ≤ n ∧ Ext H2 G ∧ loc = [.junk, .junk, .c (.int .u8 (x : Int)), .c (.int .u8 (y : Int)), .c (.int .u8 (z : Int)), .c (.ptr h.next 0), .junk, .c z1, .c z2, .c (.int .i64 (i : Int)), .junk, .junk, .junk, .junk]) _ ?_ ⟨Nat.zero_le _, Ext.refl _, hloc⟩ (by omega)
    rintro i loc G hi ⟨hin, xg, rfl⟩
    unfold ir7_l0
    by_cases hlt : i < n
    · left
      refine ⟨hlt, ?_⟩
      have v3 : decide ((i : Int) < (n : Int)) = true := ltNat hlt
      have v4 := succI (i := i) (by omega)
      obtain ⟨a1, u1, u1', rfl, _, r1, t1, t1'⟩ := (R1'.ext xg).at_ hlt
      obtain ⟨a2, u2, u2', rfl, _, r2, t2, t2'⟩ := (R2.ext xg).at_ hlt
      have m1 : Nat.blt i n = true := bltT hlt
      obtain ⟨G', e5, xg'⟩ := same_ok (N := 200) (d := 7) t1 t1' t2 t2'
      simp only [enter_eq, ev_seq, seqK_norm, seqK_exit, seqK_ret, ev_reg, ev_cond, condK_true, condK_false, ev_block, blockK_norm, blockK_ret, blockK_exit, ev_loop, ev_skip, ev_exit, ev_ret, regK_cons, regK_nil, guard_none, guard_some, regG_true, regG_false, regO_some, op_mov, op_conv, op_bin, op_bsl, op_box, op_mks, op_s2b, op_pick, op_un, op_eq, op_len, op_ext, op_load, op_iaddr, op_slice, op_b2s, op_idxS, op_mx, op_mn, op_call, op_store, op_app, op_copy, args_eq, result_one', rv_loc, finish_norm, finish_ret, outK_some, keep_true, keep_false, keep_nil, p_bin, p_pick, p_un, p_eq, p_conv, evNew, pureK_some, newK_some, X.eval, set_none, set_some, List.map_cons, List.map_nil, List.getD_cons_zero, List.getD_cons_succ, List.getD_nil, List.set_cons_zero, List.set_cons_succ, binCV, unCV, isShift, intArithF_eq, shiftF_eq, wrapF_eq, intArith, shift, eqVal, bound, asNat_cast, cond_true, cond_false, BEq.rfl, beq_self_eq_true, evalParts, fillParts, AV.cells, AV.ofCells, XV.av, AV.xv, List.length_cons, List.length_nil, zeros, patch, setMany, List.nil_append, List.cons_append, Nat.ble, Nat.add_eq, Nat.zero_add, Nat.add_zero, Nat.reduceAdd, Nat.reduceMul, Nat.reduceSub, Nat.ble_eq, Nat.reduceLeDiff, Nat.reduceBEq, Int.reduceBEq, Int.reduceNeg, Bool.and_true, Bool.and_false, Bool.true_and, Bool.false_and, Bool.not_true, Bool.not_false, Bool.true_eq_false, Bool.false_eq_true, Int.reduceLT, Int.reduceLE, Int.reduceGT, Int.reduceGE, decide_true, decide_false, Bool.not_eq_true, loopN_norm, loopN_exit, tf, ft, ff, ev_dreg, dregK_nil, dregK_cons, dregE_true, dregP_some, dregX_some, d_mov, d_bin, d_eq, d_pick, d_un, d_conv, d_b2s, d_len, d_load, d_iaddr, d_slice, d_ext, d_call, d_store, chk_done, chk_none, chk_some, chkG_true, chkG_false, chkOne_nil, chkOne_cons, chkH_some, chkV_same, stage_none, stage_some, look_hit, look_miss, news_nil, wb_cons, wb_nil, skip0, List.reverse_cons, List.reverse_nil, y1, y2, v3, v4, p_iaddr, m1, r1, r2, p_load, AV.ofCells, Nat.zero_add, e5]
      exact ⟨_, _, rfl, by omega, xg.trans xg', rfl⟩
    · right
      have hin' : i = n := by omega
      subst hin'
      have v3 : decide ((i : Int) < (i : Int)) = false := geNat (Nat.le_refl _)
      simp only [enter_eq, ev_seq, seqK_norm, seqK_exit, seqK_ret, ev_reg, ev_cond, condK_true, condK_false, ev_block, blockK_norm, blockK_ret, blockK_exit, ev_loop, ev_skip, ev_exit, ev_ret, regK_cons, regK_nil, guard_none, guard_some, regG_true, regG_false, regO_some, op_mov, op_conv, op_bin, op_bsl, op_box, op_mks, op_s2b, op_pick, op_un, op_eq, op_len, op_ext, op_load, op_iaddr, op_slice, op_b2s, op_idxS, op_mx, op_mn, op_call, op_store, op_app, op_copy, args_eq, result_one', rv_loc, finish_norm, finish_ret, outK_some, keep_true, keep_false, keep_nil, p_bin, p_pick, p_un, p_eq, p_conv, evNew, pureK_some, newK_some, X.eval, set_none, set_some, List.map_cons, List.map_nil, List.getD_cons_zero, List.getD_cons_succ, List.getD_nil, List.set_cons_zero, List.set_cons_succ, binCV, unCV, isShift, intArithF_eq, shiftF_eq, wrapF_eq, intArith, shift, eqVal, bound, asNat_cast, cond_true, cond_false, BEq.rfl, beq_self_eq_true, evalParts, fillParts, AV.cells, AV.ofCells, XV.av, AV.xv, List.length_cons, List.length_nil, zeros, patch, setMany, List.nil_append, List.cons_append, Nat.ble, Nat.add_eq, Nat.zero_add, Nat.add_zero, Nat.reduceAdd, Nat.reduceMul, Nat.reduceSub, Nat.ble_eq, Nat.reduceLeDiff, Nat.reduceBEq, Int.reduceBEq, Int.reduceNeg, Bool.and_true, Bool.and_false, Bool.true_and, Bool.false_and, Bool.not_true, Bool.not_false, Bool.true_eq_false, Bool.false_eq_true, Int.reduceLT, Int.reduceLE, Int.reduceGT, Int.reduceGE, decide_true, decide_false, Bool.not_eq_true, loopN_norm, loopN_exit, tf, ft, ff, y1, v3]
      exact ⟨_, rfl, by simp, _, _, _, _, _, rfl, xg⟩
  obtain ⟨r, hr, a0, a1, a6, l, G, rfl, xg⟩ := L [.c b, .agg (cfC c), .c (.int .u8 (x : Int)), .c (.int .u8 (y : Int)), .c (.int .u8 (z : Int)), .c (.ptr h.next 0), .c (.bool false), .c z1, .c z2, .c (.int .i64 0), .c (.bool false), .c (.bool false), .tup [], .tup []] rfl
  have gcG := xg.at_ gc2 (by omega)
  obtain ⟨o1, G1, e3, t3, x3⟩ := op_ok (N := 200) (d := 4) (h := G) c hx hy hz (by omega)
  obtain ⟨o2, G2, e4, t4, x4⟩ := rop_ok (N := 200) (d := 4) (h := G1) c hx hy hz (by omega)
  obtain ⟨G3, e5, x5⟩ := sameop_ok (N := 200) (d := 8) (h := G2) (o := opOf c x y z) (t3.1.ext x4) t4.1
  have ng := xg.1
  have ng1 := x3.1
  have r0 : G.read h.next 0 4 = some (cfC c) := read_all gcG rfl
  have r1 : G1.read h.next 0 4 = some (cfC c) := read_all (x3.at_ gcG (by omega)) rfl
  have r2 : G2.read h.next 0 4 = some (cfC c) := read_all (x4.at_ (x3.at_ gcG (by omega)) (by omega)) rfl
  have r3 : G3.read h.next 0 4 = some (cfC c) := read_all (x5.at_ (x4.at_ (x3.at_ gcG (by omega)) (by omega)) (by have := x4.1; omega)) rfl
  simp only [enter_eq, ev_seq, seqK_norm, seqK_exit, seqK_ret, ev_reg, ev_cond, condK_true, condK_false, ev_block, blockK_norm, blockK_ret, blockK_exit, ev_loop, ev_skip, ev_exit, ev_ret, regK_cons, regK_nil, guard_none, guard_some, regG_true, regG_false, regO_some, op_mov, op_conv, op_bin, op_bsl, op_box, op_mks, op_s2b, op_pick, op_un, op_eq, op_len, op_ext, op_load, op_iaddr, op_slice, op_b2s, op_idxS, op_mx, op_mn, op_call, op_store, op_app, op_copy, args_eq, result_one', rv_loc, finish_norm, finish_ret, outK_some, keep_true, keep_false, keep_nil, p_bin, p_pick, p_un, p_eq, p_conv, evNew, pureK_some, newK_some, X.eval, set_none, set_some, List.map_cons, List.map_nil, List.getD_cons_zero, List.getD_cons_succ, List.getD_nil, List.set_cons_zero, List.set_cons_succ, binCV, unCV, isShift, intArithF_eq, shiftF_eq, wrapF_eq, intArith, shift, eqVal, bound, asNat_cast, cond_true, cond_false, BEq.rfl, beq_self_eq_true, evalParts, fillParts, AV.cells, AV.ofCells, XV.av, AV.xv, List.length_cons, List.length_nil, zeros, patch, setMany, List.nil_append, List.cons_append, Nat.ble, Nat.add_eq, Nat.zero_add, Nat.add_zero, Nat.reduceAdd, Nat.reduceMul, Nat.reduceSub, Nat.ble_eq, Nat.reduceLeDiff, Nat.reduceBEq, Int.reduceBEq, Int.reduceNeg, Bool.and_true, Bool.and_false, Bool.true_and, Bool.false_and, Bool.not_true, Bool.not_false, Bool.true_eq_false, Bool.false_eq_true, Int.reduceLT, Int.reduceLE, Int.reduceGT, Int.reduceGE, decide_true, decide_false, Bool.not_eq_true, loopN_norm, loopN_exit, tf, ft, ff, ev_dreg, dregK_nil, dregK_cons, dregE_true, dregP_some, dregX_some, d_mov, d_bin, d_eq, d_pick, d_un, d_conv, d_b2s, d_len, d_load, d_iaddr, d_slice, d_ext, d_call, d_store, chk_done, chk_none, chk_some, chkG_true, chkG_false, chkOne_nil, chkOne_cons, chkH_some, chkV_same, stage_none, stage_some, look_hit, look_miss, news_nil, wb_cons, wb_nil, skip0, List.reverse_cons, List.reverse_nil, bx, ← hH0, lb, v1, p_load, AV.ofCells, q0, q1, q2, b0, b1, b2, e1, e2, e3, e4, e5, y1, y2, bneI, hr, blockK_exit_eq, evCallX_told, r0, r1, r2, r3]
  rfl
end Lav

namespace Go.Proofs.Ytdeehmncnfdmkaa.scriptAsks
open Go.ChangeShapes Go.WideShapes Go.ChangeAt Go.RowKit
open Go.ChangeMaps (open_string shut_string)
set_option linter.unusedVariables false

theorem own : ownKnob Try.prog.godebug = none := by kernel_rfl
theorem laidOut : laidOutB Try.prog = true := by kernel_rfl

/-- What the walk is told of a slice of ints that came in. -/
def IsRow (k : IntKind) (w : World) (a : Option Addr) (len cap : Nat) (zs : List Int) : Prop :=
  (a = none ∧ len = 0 ∧ cap = 0 ∧ zs = []) ∨
  ∃ x, a = some x ∧ len ≤ cap ∧ cap ≤ maxLen ∧ zs.length = cap ∧ (∀ i, i < zs.length → w.cell? (x.add i) = some (.int k (zs.getD i 0))) ∧ ∀ n ∈ zs, (Lit.int k n).wf = true

/-- What the walk is told of a slice of records of ints that came in: it is nil; or it leads to a row of 'cap' records, 'sz' cells each. -/
def IsRecs (sz : Nat) (w : World) (a : Option Addr) (len cap : Nat) (zs : List Int) : Prop :=
  (a = none ∧ len = 0 ∧ cap = 0 ∧ zs = []) ∨
  ∃ x, a = some x ∧ len ≤ cap ∧ cap ≤ maxLen ∧ zs.length = cap * sz ∧ (∀ i, i < zs.length → w.cell? (x.add i) = some (.int .i64 (zs.getD i 0))) ∧ ∀ n ∈ zs, (Lit.int .i64 n).wf = true

theorem walk (a0 : Option Addr) (len0 cap0 : Nat) (z0 : List Int) (z1 : List Int) (a2 : Int) (a3 : Int) (a4 : Int) (w : World) (w0 : IsRow .u8 w a0 len0 cap0 z0) (w1 : z1.length = 4 ∧ ∀ n ∈ z1, (Lit.int .i64 n).wf = true) (w2 : (Lit.int .u8 a2).wf = true) (w3 : (Lit.int .u8 a3).wf = true) (w4 : (Lit.int .u8 a4).wf = true) :
    Calls Try.prog 7 #[.slice a0 len0 cap0, .agg (z1.map (Value.int .i64)).toArray, .int .u8 a2, .int .u8 a3, .int .u8 a4] w fun e w' => e = .returned (.bool true) ∧ Below w.heap.size w w' := by
  obtain ⟨p, f, s, c, rfl⟩ : ∃ p f s c, z1 = [p, f, s, c] := by
    obtain ⟨h4, _⟩ := w1
    match z1, h4 with
    | [p, f, s, c], _ => exact ⟨p, f, s, c, rfl⟩
  obtain ⟨ι, h, x, I, hle, hx, hr⟩ := (Lav.Init.empty w).slice w0
  obtain ⟨b, tb, sh⟩ := Lav.txt_of hr
  obtain ⟨r2, h2, c2⟩ := Lav.byte_of a2 w2
  obtain ⟨r3, h3, c3⟩ := Lav.byte_of a3 w3
  obtain ⟨r4, h4, c4⟩ := Lav.byte_of a4 w4
  exact Lav.walk_of (Lav.topX_sound Lav.mixed Lav.table_ok Lav.tld15 Lav.mnz_ok 200 9) I (args := [.c x, .agg (Lav.cfC ⟨p, f, s, c⟩), .c (.int .u8 (r2 : Int)), .c (.int .u8 (r3 : Int)), .c (.int .u8 (r4 : Int))]) (vs := [.slice a0 len0 cap0, .agg ([p, f, s, c].map (Value.int .i64)).toArray, .int .u8 a2, .int .u8 a3, .int .u8 a4]) ⟨hx, Lav.ar_ints, c2 _, c3 _, c4 _, trivial⟩ (Lav.good_top rfl rfl (Lav.scriptAsks ⟨p, f, s, c⟩ tb sh h2 h3 h4))

set_option maxRecDepth 100000 in
theorem lifted (os : Os) (started : os.Started) (H : Type) (enc : TypeId × Value → H) :
    ReturnsInHanded {} Try.checked os 7 .any (Rows.scriptAsksSpec.pre6 enc Try.prog Try.f7 Rows.scriptAsksRow.domain false) (Rows.scriptAsksSpec.post enc Try.prog Try.f7 false true false false) := by
  refine returnsInHanded_of_change (C := Try.checked) own started (by kernel_rfl) Try.func7
    (ChangeSpec.witness6 (enc := enc) (C := Try.checked) false ⟨#[], #[.slice none 0 0, .agg #[.int .i64 0, .int .i64 0, .int .i64 0, .int .i64 0], .int .u8 0, .int .u8 0, .int .u8 0], []⟩ 8 (by kernel_rfl) (by kernel_rfl) (by kernel_rfl) (by kernel_rfl)) ?_
  intro W base args ds gs before hval0 hW hcnd _
  have hval : ∀ (j : Nat) t v, Try.f7.params[j]? = some t → args[j]? = some v → Value.okWide Try.prog W .any base t v := hval0
  have hW' := hW
  obtain ⟨p, q, hA0, hV, rfl, hfz, hnd⟩ := hW
  have hA : DataW.TrodAll enc Try.prog W 0 (fun _ => true) true Try.f7.params.toList args.toList ds p := hA0
  rw [Try.params7] at hA hval
  obtain ⟨v0, vs0, d0, ds0, p0, q0, hargs, rfl, rfl, h0, r0⟩ := trodAll_cons hA
  obtain ⟨v1, vs1, d1, ds1, p1, q1, rfl, rfl, rfl, h1, r1⟩ := trodAll_cons r0
  obtain ⟨v2, vs2, d2, ds2, p2, q2, rfl, rfl, rfl, h2, r2⟩ := trodAll_cons r1
  obtain ⟨v3, vs3, d3, ds3, p3, q3, rfl, rfl, rfl, h3, r3⟩ := trodAll_cons r2
  obtain ⟨v4, vs4, d4, ds4, p4, q4, rfl, rfl, rfl, h4, r4⟩ := trodAll_cons r3
  obtain ⟨rfl, rfl, rfl⟩ := trodAll_nil r4
  obtain rfl : args = #[v0, v1, v2, v3, v4] := by cases args; simp_all
  obtain ⟨rfl, rfl⟩ := trodVars_none hV
  obtain ⟨a0, len0, cap0, rfl⟩ := okWide_slice Try.underlying39 (hval 0 39 v0 rfl rfl)
  have k0 := h0
  have lt0 : ∀ x ∈ p0, x.block < W.heap.size := by obtain ⟨m, hm⟩ := k0; exact DataW.trod_lt m _ _ _ hm
  obtain ⟨z0, w0⟩ : ∃ zs, IsRow .u8 W a0 len0 cap0 zs := by
    obtain ⟨fuel, hf⟩ := h0
    rcases open_ints Try.underlying39 Try.underlying5 (by kernel_rfl) hf with ⟨hcs, _⟩ | ⟨x, l, c, zs, hcs, _, hl, hm, hz, _, hcell, hwz⟩
    · simp [Value.cells] at hcs
      obtain ⟨rfl, rfl, rfl⟩ := hcs
      exact ⟨[], .inl ⟨rfl, rfl, rfl, rfl⟩⟩
    · simp [Value.cells] at hcs
      obtain ⟨rfl, rfl, rfl⟩ := hcs
      exact ⟨zs, .inr ⟨_, rfl, hl, hm, by simpa using hz, hcell, hwz⟩⟩
  obtain ⟨cs1, rfl, hs1⟩ := okWide_struct Try.underlying41 (hval 1 41 v1 rfl rfl)
  have k1 := h1
  have lt1 : ∀ x ∈ p1, x.block < W.heap.size := by obtain ⟨m, hm⟩ := k1; exact DataW.trod_lt m _ _ _ hm
  have hc1 : Try.prog.cellsOf 41 = 4 := by kernel_rfl
  rw [hc1] at hs1
  obtain ⟨z1, rfl, w1⟩ := Lav.open_struct Try.underlying41 hs1 (by
    intro j hj
    match j, hj with
    | 0, _ => exact ⟨0, _, rfl, rfl, Try.underlying3, by kernel_rfl⟩
    | 1, _ => exact ⟨1, _, rfl, rfl, Try.underlying3, by kernel_rfl⟩
    | 2, _ => exact ⟨2, _, rfl, rfl, Try.underlying3, by kernel_rfl⟩
    | 3, _ => exact ⟨3, _, rfl, rfl, Try.underlying3, by kernel_rfl⟩
    | j + 4, hj => omega) h1
  obtain ⟨a2, rfl, rfl, rfl, w2⟩ := open_int Try.underlying5 (hval 2 5 v2 rfl rfl) h2
  obtain ⟨a3, rfl, rfl, rfl, w3⟩ := open_int Try.underlying5 (hval 3 5 v3 rfl rfl) h3
  obtain ⟨a4, rfl, rfl, rfl, w4⟩ := open_int Try.underlying5 (hval 4 5 v4 rfl rfl) h4
  clear hA0 hval0
  refine (walk a0 len0 cap0 z0 z1 a2 a3 a4 W w0 w1 w2 w3 w4).mono fun e W' ⟨he, bel⟩ => ?_
  subst he
  exact ⟨_, rfl, _, _, _, [], _, [], hW', trodAll_mk1 (shut_bool Try.underlying4 _), (trodAll_cons_mk (Below.trod laidOut (by kernel_rfl) (of_decide_eq_true (by kernel_rfl)) k0 bel lt0) (trodAll_cons_mk (Below.trod laidOut (by kernel_rfl) (of_decide_eq_true (by kernel_rfl)) k1 bel lt1) (trodAll_cons_mk (shut_int Try.underlying5 w2) (trodAll_cons_mk (shut_int Try.underlying5 w3) (trodAll_cons_mk (shut_int Try.underlying5 w4) trodAll_mk0))))), rfl, bel.frame _, fun h => by cases h⟩

theorem over : Rows.scriptAsksRow.holds Try.pinned (OpenSpec.ofChange Rows.scriptAsksSpec) :=
  OpenClaim.holds_of_wide 7 Try.f7 rfl rfl rfl rfl rfl rfl rfl ⟨rfl, rfl, rfl, rfl, rfl⟩ rfl rfl rfl rfl rfl (by kernel_rfl) Try.func7 (by kernel_rfl)
    (of_decide_eq_true (by kernel_rfl)) (by unfold Func.isWrapper; first | (rw [if_pos (by decide +kernel)]; kernel_rfl) | (rw [if_neg (by decide +kernel)]; exact ⟨rfl, rfl⟩))
    (fun os started H enc _ => lifted os started H enc)

theorem proved : Rows.ScriptAsksSaid := over
end Go.Proofs.Ytdeehmncnfdmkaa.scriptAsks
