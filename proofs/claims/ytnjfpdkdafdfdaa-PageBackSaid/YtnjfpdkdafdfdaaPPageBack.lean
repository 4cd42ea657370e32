/-
  Proved: whatever comes in, lavabolaw2.PageBack returns true and changes nothing that was there. No conditions beyond the given statement's.
-/
import Derived.Test.YtnjfpdkdafdfdaaRows
import Derived.Test.YtnjfpdkdafdfdaaSumT
import Derived.Test.YtnjfpdkdafdfdaaPage1
import Derived.Test.YtnjfpdkdafdfdaaPage2
import Derived.Test.YtnjfpdkdafdfdaaPage3
import Derived.Test.YtnjfpdkdafdfdaaPage4
import Derived.WalkKit
import Derived.ProofKit
import Derived.OpenShut
import Derived.Below
import Derived.ShutString
set_option maxRecDepth 100000
set_option linter.unusedSimpArgs false
namespace Lav
open Go (IntKind)
theorem pageBack (a at_ where_ : Int) (c e t : BitVec 8) : good (evCallT table 24 200 9 10 [.c (.int .i64 a), .c (.int .u8 (c.toNat : Int)), .c (.int .i64 at_), .c (.int .u8 (e.toNat : Int)), .c (.int .i64 where_), .c (.int .u8 (t.toNat : Int))] Heap.empty) = true := by
  obtain ⟨p, hp, ep⟩ := few (a := a) (m := 48) (by omega) (by omega)
  have ep' : IntKind.i64.wrap (Int.tmod (IntKind.u64.wrap a) 48) = (p : Int) := ep
  obtain ⟨k, hk, ek⟩ := few (a := at_) (m := 16) (by omega) (by omega)
  have ek' : IntKind.i64.wrap (Int.tmod (IntKind.u64.wrap at_) 16) = (k : Int) := ek
  obtain ⟨w, hw, ew⟩ := few (a := where_) (m := 24) (by omega) (by omega)
  have ew' : IntKind.i64.wrap (Int.tmod (IntKind.u64.wrap where_) 24) = (w : Int) := ew
  obtain ⟨i, h1, e1, g1, _, n1, x1⟩ : ∃ j h', evCallT table 24 200 8 31 [.c (.int .u8 (c.toNat : Int)), .c (.int .i64 at_), .c (.int .u8 (e.toNat : Int))] Heap.empty = some (.c (.sl j 0 16 (.ex 16)), h') ∧ h'.get j = some (.cells (u8s (fillB c k e))) ∧ Heap.empty.next ≤ j ∧ j < h'.next ∧ Ext Heap.empty h' := fill_ok (N := 200) (d := 7) (h := Heap.empty) c e at_ hk ek' (by omega)
  have hB : Bytes h1 (.sl i 0 16 (.ex 16)) (fillB c k e) := by
    have := bytes_at (o := 0) (n := 16) (c := .ex 16) n1 g1 (by rw [fillB_len]); simpa using this
  obtain ⟨j, h2, e2, g2, _, n2, x2⟩ : ∃ j h', evCallT table 24 200 8 25 [.c (.int .i64 (p : Int)), .c (.sl i 0 16 (.ex 16))] h1 = some (.tup [.c (.sl j 0 24 (.ex 24)), .c (.int .i64 0)], h') ∧ h'.get j = some (.cells (u8s (imgOf p (fillB c k e)))) ∧ h1.next ≤ j ∧ j < h'.next ∧ Ext h1 h' := seal_ok (N := 200) (d := 4) hp hB fillB_len (by omega)
  have hbl : (fillB c k e).length = 16 := fillB_len
  have O := open_ok (N := 200) (d := 3) (h := h2) hp g2 n2 (img_len fillB_len) (img_nz fillB_len) (by omega)
  rw [img_drop] at O
  obtain ⟨_, q, h3, e3, g3, n3, x3⟩ := O.resolve_right (fun h => h.1 rfl)
  have e3' : evCallT table 24 200 8 27 [.c (.int .i64 (p : Int)), .c (.sl j 0 24 (.ex 24))] h2 = some (.tup [.c (.sl q 0 16 (.dy 1)), .c (.int .i64 0)], h3) := e3
  obtain ⟨z, h4, e4, g4, _, n4, x4⟩ : ∃ j h', evCallT table 24 200 8 31 [.c (.int .u8 (c.toNat : Int)), .c (.int .i64 at_), .c (.int .u8 (e.toNat : Int))] h3 = some (.c (.sl j 0 16 (.ex 16)), h') ∧ h'.get j = some (.cells (u8s (fillB c k e))) ∧ h3.next ≤ j ∧ j < h'.next ∧ Ext h3 h' := fill_ok (N := 200) (d := 7) (h := h3) c e at_ hk ek' (by omega)
  generalize hbody : fillB c k e = B at *
  have full : ∀ {H : Heap} {y : Nat}, H.get y = some (.cells (u8s B)) → H.read y 0 16 = some (u8s B) := fun hg => by
    have := read_u8 (o := 0) (n := 16) hg (by omega); simpa using this
  have s3 : ∀ loc vals, evPure loc (.c (.sl q 0 16 (.dy 1)) :: vals) h3 (.b2s (.val 0)) = some (.c (.str (strOf B))) := fun _ _ => b2s_at rfl (full g3)
  have s4' : ∀ loc vals, evPure loc (.c (.sl q 0 16 (.dy 1)) :: vals) h4 (.b2s (.val 0)) = some (.c (.str (strOf B))) := fun _ _ => b2s_at rfl (full (x4.at_ g3 n3))
  have s4 : ∀ loc vals, evPure loc (.c (.sl z 0 16 (.ex 16)) :: vals) h4 (.b2s (.val 0)) = some (.c (.str (strOf B))) := fun _ _ => b2s_at rfl (full g4)
  have q1 : (strOf B == strOf B) = true := by rw [strOf_beq]; simp
  have gj := (x3.trans x4).at_ g2 n2
  have hl := img_len (id := p) hbl
  have k1 : h4.read j w 1 = some [.int .u8 (((imgOf p B)[w]'(by omega)).toNat : Int)] := read_cells gj (by simp [u8s, u8c, hl, hw])
  have W : h4.write j w [.int .u8 (((imgOf p B)[w]'(by omega) ^^^ t).toNat : Int)] = some (h4.put j (.cells (u8s ((imgOf p B).set w ((imgOf p B)[w]'(by omega) ^^^ t))))) := by
    rw [← set_u8]; exact write_one (v := u8c _) gj (by rw [u8s_len]; omega)
  have m1 : Nat.blt w 24 = true := bltT hw
  have ll : ∀ loc vals H, evPure loc (.c (.sl j 0 24 (.ex 24)) :: vals) H (.len .sl (.val 0)) = some (.c (.int .i64 24)) := fun _ _ _ => rfl
  have bneI : ∀ {a b : Int}, (a != b) = !(a == b) := rfl
  have g5 : (h4.put j (.cells (u8s ((imgOf p B).set w ((imgOf p B)[w]'(by omega) ^^^ t))))).get j = some (.cells (u8s ((imgOf p B).set w ((imgOf p B)[w]'(by omega) ^^^ t)))) := get_put_at
  have n5 : j < (h4.put j (.cells (u8s ((imgOf p B).set w ((imgOf p B)[w]'(by omega) ^^^ t))))).next := Nat.lt_of_lt_of_le n2 (x3.trans x4).1
  generalize h4.put j (.cells (u8s ((imgOf p B).set w ((imgOf p B)[w]'(by omega) ^^^ t)))) = h5 at *
  have O2 := open_ok (N := 200) (d := 3) (h := h5) hp g5 n5 (by simpa using hl) (turn_nz hbl _) (by omega)
  rw [evCallT_eq (F := ir10) rfl rfl rfl]
  unfold ir10
  rw [bodyK_eq]
  by_cases ht : t = 0#8
  · have hsame : (imgOf p B).set w ((imgOf p B)[w]'(by omega) ^^^ t) = imgOf p B := by
      rw [ht, BitVec.xor_zero]; exact List.set_getElem_self _
    have q2 : ((t.toNat : Int) == 0) = true := by rw [ht]; rfl
    rw [hsame, img_drop] at O2
    rcases O2 with ⟨_, y, h6, e6, _⟩ | ⟨hne, _⟩
    · have e6' : evCallT table 24 200 8 27 [.c (.int .i64 (p : Int)), .c (.sl j 0 24 (.ex 24))] h5 = some (.tup [.c (.sl y 0 16 (.dy 1)), .c (.int .i64 0)], h6) := e6
      simp only [enter_eq, ev_seq, seqK_norm, seqK_exit, seqK_ret, ev_reg, ev_cond, condK_true, condK_false, ev_block, blockK_norm, blockK_ret, blockK_exit, ev_loop, ev_skip, ev_exit, ev_ret, regK_cons, regK_nil, guard_none, guard_some, regG_true, regG_false, regO_some, op_mov, op_conv, op_bin, op_bsl, op_box, op_mks, op_s2b, op_pick, op_un, op_eq, op_len, op_ext, op_load, op_iaddr, op_slice, op_b2s, op_idxS, op_mx, op_mn, op_call, op_store, op_app, op_copy, args_eq, result_one', rv_loc, finish_norm, finish_ret, outK_some, keep_true, keep_false, keep_nil, p_bin, p_pick, p_un, p_eq, p_conv, evNew, pureK_some, newK_some, X.eval, set_none, set_some, List.map_cons, List.map_nil, List.getD_cons_zero, List.getD_cons_succ, List.getD_nil, List.set_cons_zero, List.set_cons_succ, binCV, unCV, isShift, intArithF_eq, shiftF_eq, wrapF_eq, intArith, shift, eqVal, bound, asNat_cast, cond_true, cond_false, BEq.rfl, beq_self_eq_true, evalParts, fillParts, AV.cells, AV.ofCells, XV.av, AV.xv, List.length_cons, List.length_nil, zeros, patch, setMany, List.nil_append, List.cons_append, Nat.ble, Nat.add_eq, Nat.zero_add, Nat.add_zero, Nat.reduceAdd, Nat.reduceMul, Nat.reduceSub, Nat.ble_eq, Nat.reduceLeDiff, Nat.reduceBEq, Int.reduceBEq, Int.reduceNeg, Bool.and_true, Bool.and_false, Bool.true_and, Bool.false_and, Bool.not_true, Bool.not_false, Bool.true_eq_false, Bool.false_eq_true, Int.reduceLT, Int.reduceLE, Int.reduceGT, Int.reduceGE, decide_true, decide_false, Bool.not_eq_true, loopN_norm, loopN_exit, tf, ft, ff, ev_dreg, dregK_nil, dregK_cons, dregE_true, dregP_some, dregX_some, d_mov, d_bin, d_eq, d_pick, d_un, d_conv, d_b2s, d_len, d_load, d_iaddr, d_slice, d_ext, d_call, d_store, chk_done, chk_none, chk_some, chkG_true, chkG_false, chkOne_nil, chkOne_cons, chkH_some, chkV_same, stage_none, stage_some, look_hit, look_miss, news_nil, wb_cons, wb_nil, skip0, List.reverse_cons, List.reverse_nil, bneI, ep', e1, e2, p_ext, List.getElem?_cons_zero, List.getElem?_cons_succ, ll, e3', e4, s3, s4, s4', q1, ew', p_iaddr, p_load, AV.ofCells, m1, Nat.mul_one, k1, xor8, evEff, W, e6', evCallT_told, q2]
      rfl
    · exact absurd rfl hne
  · have hdiff : (imgOf p B)[w]'(by omega) ^^^ t ≠ (imgOf p B)[w]'(by omega) := fun h => ht (by
      have h2 : (imgOf p B)[w]'(by omega) ^^^ t = (imgOf p B)[w]'(by omega) ^^^ 0#8 := by rw [BitVec.xor_zero]; exact h
      exact (BitVec.xor_right_inj _).1 h2)
    have q2 : ((t.toNat : Int) == 0) = false := by
      have : t.toNat ≠ 0 := fun h => ht (BitVec.eq_of_toNat_eq h)
      simp only [beq_eq_false_iff_ne, ne_eq]; omega
    rcases O2 with ⟨heq, _⟩ | ⟨_, h6, e6, _⟩
    · exact absurd heq (img_turn hbl hw _ hdiff)
    · have e6' : evCallT table 24 200 8 27 [.c (.int .i64 (p : Int)), .c (.sl j 0 24 (.ex 24))] h5 = some (.tup [.c .nils, .c (.int .i64 10)], h6) := e6
      simp only [enter_eq, ev_seq, seqK_norm, seqK_exit, seqK_ret, ev_reg, ev_cond, condK_true, condK_false, ev_block, blockK_norm, blockK_ret, blockK_exit, ev_loop, ev_skip, ev_exit, ev_ret, regK_cons, regK_nil, guard_none, guard_some, regG_true, regG_false, regO_some, op_mov, op_conv, op_bin, op_bsl, op_box, op_mks, op_s2b, op_pick, op_un, op_eq, op_len, op_ext, op_load, op_iaddr, op_slice, op_b2s, op_idxS, op_mx, op_mn, op_call, op_store, op_app, op_copy, args_eq, result_one', rv_loc, finish_norm, finish_ret, outK_some, keep_true, keep_false, keep_nil, p_bin, p_pick, p_un, p_eq, p_conv, evNew, pureK_some, newK_some, X.eval, set_none, set_some, List.map_cons, List.map_nil, List.getD_cons_zero, List.getD_cons_succ, List.getD_nil, List.set_cons_zero, List.set_cons_succ, binCV, unCV, isShift, intArithF_eq, shiftF_eq, wrapF_eq, intArith, shift, eqVal, bound, asNat_cast, cond_true, cond_false, BEq.rfl, beq_self_eq_true, evalParts, fillParts, AV.cells, AV.ofCells, XV.av, AV.xv, List.length_cons, List.length_nil, zeros, patch, setMany, List.nil_append, List.cons_append, Nat.ble, Nat.add_eq, Nat.zero_add, Nat.add_zero, Nat.reduceAdd, Nat.reduceMul, Nat.reduceSub, Nat.ble_eq, Nat.reduceLeDiff, Nat.reduceBEq, Int.reduceBEq, Int.reduceNeg, Bool.and_true, Bool.and_false, Bool.true_and, Bool.false_and, Bool.not_true, Bool.not_false, Bool.true_eq_false, Bool.false_eq_true, Int.reduceLT, Int.reduceLE, Int.reduceGT, Int.reduceGE, decide_true, decide_false, Bool.not_eq_true, loopN_norm, loopN_exit, tf, ft, ff, ev_dreg, dregK_nil, dregK_cons, dregE_true, dregP_some, dregX_some, d_mov, d_bin, d_eq, d_pick, d_un, d_conv, d_b2s, d_len, d_load, d_iaddr, d_slice, d_ext, d_call, d_store, chk_done, chk_none, chk_some, chkG_true, chkG_false, chkOne_nil, chkOne_cons, chkH_some, chkV_same, stage_none, stage_some, look_hit, look_miss, news_nil, wb_cons, wb_nil, skip0, List.reverse_cons, List.reverse_nil, bneI, ep', e1, e2, p_ext, List.getElem?_cons_zero, List.getElem?_cons_succ, ll, e3', e4, s3, s4, s4', q1, ew', p_iaddr, p_load, AV.ofCells, m1, Nat.mul_one, k1, xor8, evEff, W, e6', evCallT_told, q2]
      rfl

end Lav

namespace Go.Proofs.Ytnjfpdkdafdfdaa.pageBack
open Go.ChangeShapes Go.WideShapes Go.ChangeAt Go.RowKit
open Go.ChangeMaps (open_string shut_string)
set_option linter.unusedVariables false      -- a walk need not use every 'w<i>' (that an integer argument fits its kind)

theorem own : ownKnob Try.prog.godebug = none := by kernel_rfl

/-! ### STEP 1: THE WALK: the Go text returns true. 'Below w.heap.size w w'': the world has at most new blocks (Derived/RowKit3.lean). Part the cases AHEAD of 'go_enter' where a test parts the walk; take each callee by a contract of your own. -/
theorem walk (a0 : Int) (a1 : Int) (a2 : Int) (a3 : Int) (a4 : Int) (a5 : Int) (w0 : (Lit.int .i64 a0).wf = true) (w1 : (Lit.int .u8 a1).wf = true) (w2 : (Lit.int .i64 a2).wf = true) (w3 : (Lit.int .u8 a3).wf = true) (w4 : (Lit.int .i64 a4).wf = true) (w5 : (Lit.int .u8 a5).wf = true) (w : World) :
    Calls Try.prog 10 #[.int .i64 a0, .int .u8 a1, .int .i64 a2, .int .u8 a3, .int .i64 a4, .int .u8 a5] w fun e w' => e = .returned (.bool true) ∧ Below w.heap.size w w' := by
  obtain ⟨c, rfl⟩ := Lav.u8_of w1
  obtain ⟨e, rfl⟩ := Lav.u8_of w3
  obtain ⟨t, rfl⟩ := Lav.u8_of w5
  exact Lav.walk_of (Lav.evCallT_sound Lav.mixed Lav.table_ok Lav.tld2 200 9) (Lav.Init.empty w) (args := [.c (.int .i64 a0), .c (.int .u8 (c.toNat : Int)), .c (.int .i64 a2), .c (.int .u8 (e.toNat : Int)), .c (.int .i64 a4), .c (.int .u8 (t.toNat : Int))]) (vs := [.int .i64 a0, .int .u8 c.toNat, .int .i64 a2, .int .u8 e.toNat, .int .i64 a4, .int .u8 t.toNat]) ⟨rfl, rfl, rfl, rfl, rfl, rfl, trivial⟩ (Lav.pageBack a0 a2 a4 c e t)

/-! ### THE ROW's STEP: WRITTEN OUT: LEAVE IT -/
set_option maxRecDepth 100000 in
theorem lifted (os : Os) (started : os.Started) (H : Type) (enc : TypeId × Value → H) :
    ReturnsInHanded {} Try.checked os 10 .any (Rows.pageBackSpec.pre6 enc Try.prog Try.f10 Rows.pageBackRow.domain false) (Rows.pageBackSpec.post enc Try.prog Try.f10 false true false false) := by
  refine returnsInHanded_of_change (C := Try.checked) own started (by kernel_rfl) Try.func10
    (ChangeSpec.witness6 (enc := enc) (C := Try.checked) false ⟨#[], #[.int .i64 0, .int .u8 0, .int .i64 0, .int .u8 0, .int .i64 0, .int .u8 0], []⟩ 8 (by kernel_rfl) (by kernel_rfl) (by kernel_rfl) (by kernel_rfl)) ?_
  intro W base args ds gs before hval0 hW hcnd _
  have hval : ∀ (j : Nat) t v, Try.f10.params[j]? = some t → args[j]? = some v → Value.okWide Try.prog W .any base t v := hval0
  have hW' := hW
  obtain ⟨p, q, hA0, hV, rfl, hfz, hnd⟩ := hW
  have hA : DataW.TrodAll enc Try.prog W 0 (fun _ => true) true Try.f10.params.toList args.toList ds p := hA0
  rw [Try.params10] at hA hval
  obtain ⟨v0, vs0, d0, ds0, p0, q0, hargs, rfl, rfl, h0, r0⟩ := trodAll_cons hA
  obtain ⟨v1, vs1, d1, ds1, p1, q1, rfl, rfl, rfl, h1, r1⟩ := trodAll_cons r0
  obtain ⟨v2, vs2, d2, ds2, p2, q2, rfl, rfl, rfl, h2, r2⟩ := trodAll_cons r1
  obtain ⟨v3, vs3, d3, ds3, p3, q3, rfl, rfl, rfl, h3, r3⟩ := trodAll_cons r2
  obtain ⟨v4, vs4, d4, ds4, p4, q4, rfl, rfl, rfl, h4, r4⟩ := trodAll_cons r3
  obtain ⟨v5, vs5, d5, ds5, p5, q5, rfl, rfl, rfl, h5, r5⟩ := trodAll_cons r4
  obtain ⟨rfl, rfl, rfl⟩ := trodAll_nil r5
  obtain rfl : args = #[v0, v1, v2, v3, v4, v5] := by cases args; simp_all
  obtain ⟨rfl, rfl⟩ := trodVars_none hV
  obtain ⟨a0, rfl, rfl, rfl, w0⟩ := open_int Try.underlying3 (hval 0 3 v0 rfl rfl) h0
  obtain ⟨a1, rfl, rfl, rfl, w1⟩ := open_int Try.underlying5 (hval 1 5 v1 rfl rfl) h1
  obtain ⟨a2, rfl, rfl, rfl, w2⟩ := open_int Try.underlying3 (hval 2 3 v2 rfl rfl) h2
  obtain ⟨a3, rfl, rfl, rfl, w3⟩ := open_int Try.underlying5 (hval 3 5 v3 rfl rfl) h3
  obtain ⟨a4, rfl, rfl, rfl, w4⟩ := open_int Try.underlying3 (hval 4 3 v4 rfl rfl) h4
  obtain ⟨a5, rfl, rfl, rfl, w5⟩ := open_int Try.underlying5 (hval 5 5 v5 rfl rfl) h5
  clear hA0 hval0
  refine (walk a0 a1 a2 a3 a4 a5 w0 w1 w2 w3 w4 w5 W).mono fun e W' ⟨he, hg⟩ => ?_
  subst he
  exact ⟨_, rfl, _, _, _, [], _, [], hW', trodAll_mk1 (shut_bool Try.underlying4 _), (trodAll_cons_mk (shut_int Try.underlying3 w0) (trodAll_cons_mk (shut_int Try.underlying5 w1) (trodAll_cons_mk (shut_int Try.underlying3 w2) (trodAll_cons_mk (shut_int Try.underlying5 w3) (trodAll_cons_mk (shut_int Try.underlying3 w4) (trodAll_cons_mk (shut_int Try.underlying5 w5) trodAll_mk0)))))), rfl, hg.frame _, fun h => by cases h⟩

theorem over : Rows.pageBackRow.holds Try.pinned (OpenSpec.ofChange Rows.pageBackSpec) :=
  OpenClaim.holds_of_wide 10 Try.f10 rfl rfl rfl rfl rfl rfl rfl ⟨rfl, rfl, rfl, rfl, rfl⟩ rfl rfl rfl rfl rfl (by kernel_rfl) Try.func10 (by kernel_rfl)
    (of_decide_eq_true (by kernel_rfl)) (by unfold Func.isWrapper; first | (rw [if_pos (by decide +kernel)]; kernel_rfl) | (rw [if_neg (by decide +kernel)]; exact ⟨rfl, rfl⟩))
    (fun os started H enc _ => lifted os started H enc)

/-- ████ THE STATEMENT ████ -/
theorem proved : Rows.PageBackSaid :=
  over
end Go.Proofs.Ytnjfpdkdafdfdaa.pageBack
