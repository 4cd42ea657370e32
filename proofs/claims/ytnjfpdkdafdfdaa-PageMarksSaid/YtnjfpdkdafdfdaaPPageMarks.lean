/-
  Proved: whatever comes in, lavabolaw2.PageMarks returns true and changes nothing that was there. No conditions beyond the given statement's.
-/
import Derived.Test.YtnjfpdkdafdfdaaRows
import Derived.Test.YtnjfpdkdafdfdaaSumT
import Derived.Test.YtnjfpdkdafdfdaaPage1
import Derived.Test.YtnjfpdkdafdfdaaPage2
import Derived.Test.YtnjfpdkdafdfdaaPage3
import Derived.WalkKit
import Derived.ProofKit
import Derived.OpenShut
import Derived.Below
import Derived.ShutString
set_option maxRecDepth 100000
set_option linter.unusedSimpArgs false
namespace Lav
open Go (IntKind)
theorem pageMarks (a at_ : Int) (c e : BitVec 8) : good (evCallT table 24 200 9 12 [.c (.int .i64 a), .c (.int .u8 (c.toNat : Int)), .c (.int .i64 at_), .c (.int .u8 (e.toNat : Int))] Heap.empty) = true := by
  obtain ⟨p, hp, ep⟩ := few (a := a) (m := 48) (by omega) (by omega)
  have ep' : IntKind.i64.wrap (Int.tmod (IntKind.u64.wrap a) 48) = (p : Int) := ep
  obtain ⟨k, hk, ek⟩ := few (a := at_) (m := 16) (by omega) (by omega)
  have ek' : IntKind.i64.wrap (Int.tmod (IntKind.u64.wrap at_) 16) = (k : Int) := ek
  obtain ⟨i, h1, e1, g1, _, n1, x1⟩ : ∃ j h', evCallT table 24 200 8 31 [.c (.int .u8 (c.toNat : Int)), .c (.int .i64 at_), .c (.int .u8 (e.toNat : Int))] Heap.empty = some (.c (.sl j 0 16 (.ex 16)), h') ∧ h'.get j = some (.cells (u8s (fillB c k e))) ∧ Heap.empty.next ≤ j ∧ j < h'.next ∧ Ext Heap.empty h' := fill_ok (N := 200) (d := 7) (h := Heap.empty) c e at_ hk ek' (by omega)
  have hB : Bytes h1 (.sl i 0 16 (.ex 16)) (fillB c k e) := by
    have := bytes_at (o := 0) (n := 16) (c := .ex 16) n1 g1 (by rw [fillB_len]); simpa using this
  obtain ⟨j, h2, e2, g2, _, n2, x2⟩ : ∃ j h', evCallT table 24 200 8 25 [.c (.int .i64 (p : Int)), .c (.sl i 0 16 (.ex 16))] h1 = some (.tup [.c (.sl j 0 24 (.ex 24)), .c (.int .i64 0)], h') ∧ h'.get j = some (.cells (u8s (imgOf p (fillB c k e)))) ∧ h1.next ≤ j ∧ j < h'.next ∧ Ext h1 h' := seal_ok (N := 200) (d := 4) hp hB fillB_len (by omega)
  have g1' := x2.at_ g1 n1
  have rb : ∀ n (b : BitVec 8), (imgOf p (fillB c k e))[n]? = some b → h2.read j n 1 = some [.int .u8 (b.toNat : Int)] := fun n b hb => read_cells g2 (by simp [u8s, u8c, hb])
  have r4 := rb 4 (BitVec.ofNat 8 (p + 1)) rfl
  have r5 : h2.read j 5 1 = some [.int .u8 0] := rb 5 0#8 rfl
  have r6 : h2.read j 6 1 = some [.int .u8 90] := rb 6 90#8 rfl
  have r7 : h2.read j 7 1 = some [.int .u8 165] := rb 7 165#8 rfl
  have c4 : IntKind.i64.wrap ((BitVec.ofNat 8 (p + 1)).toNat : Int) = ((p + 1 : Nat) : Int) := by
    rw [BitVec.toNat_ofNat, Nat.mod_eq_of_lt (by omega)]; exact wrapNat (by omega)
  have c1 : IntKind.i64.wrap ((p : Int) + 1) = ((p + 1 : Nat) : Int) := succI (by omega)
  have w8 : h2.read j 8 16 = some (u8s (fillB c k e)) := by
    have := read_u8 (o := 8) (n := 16) g2 (by rw [img_len fillB_len]); rwa [img_drop] at this
  have w0 : h2.read i 0 16 = some (u8s (fillB c k e)) := by
    have := read_u8 (o := 0) (n := 16) g1' (by rw [fillB_len]); simpa using this
  have ll : ∀ loc vals H, evPure loc (.c (.sl j 0 24 (.ex 24)) :: vals) H (.len .sl (.val 0)) = some (.c (.int .i64 24)) := fun _ _ _ => rfl
  have sl8 : ∀ loc vals H, evPure loc (.c (.sl j 0 24 (.ex 24)) :: vals) H (.slice 1 (.val 0) (some (.k (.c (.int .i64 8)))) none none) = some (.c (.sl j 8 16 (.ex 16))) := fun _ _ _ => rfl
  have s1 : ∀ loc vals, evPure loc (.c (.sl j 8 16 (.ex 16)) :: vals) h2 (.b2s (.val 0)) = some (.c (.str (strOf (fillB c k e)))) := fun _ _ => b2s_at rfl w8
  have s2 : ∀ loc vals, evPure loc (.c (.sl i 0 16 (.ex 16)) :: vals) h2 (.b2s (.val 0)) = some (.c (.str (strOf (fillB c k e)))) := fun _ _ => b2s_at rfl w0
  have q1 : (strOf (fillB c k e) == strOf (fillB c k e)) = true := by rw [strOf_beq]; simp
  have eqq : ∀ a : Int, (a == a) = true := fun a => by simp
  have bneI : ∀ {a b : Int}, (a != b) = !(a == b) := rfl
  have a4 : asNat (.c (.int .i64 4)) = some 4 := rfl
  have a5 : asNat (.c (.int .i64 5)) = some 5 := rfl
  have a6 : asNat (.c (.int .i64 6)) = some 6 := rfl
  have a7 : asNat (.c (.int .i64 7)) = some 7 := rfl
  have b4 : Nat.blt 4 24 = true := rfl
  have b5 : Nat.blt 5 24 = true := rfl
  have b6 : Nat.blt 6 24 = true := rfl
  have b7 : Nat.blt 7 24 = true := rfl
  rw [evCallT_eq (F := ir12) rfl rfl rfl]
  unfold ir12
  rw [bodyK_eq]
  simp only [enter_eq, ev_seq, seqK_norm, seqK_exit, seqK_ret, ev_reg, ev_cond, condK_true, condK_false, ev_block, blockK_norm, blockK_ret, blockK_exit, ev_loop, ev_skip, ev_exit, ev_ret, regK_cons, regK_nil, guard_none, guard_some, regG_true, regG_false, regO_some, op_mov, op_conv, op_bin, op_bsl, op_box, op_mks, op_s2b, op_pick, op_un, op_eq, op_len, op_ext, op_load, op_iaddr, op_slice, op_b2s, op_idxS, op_mx, op_mn, op_call, op_store, op_app, op_copy, args_eq, result_one', rv_loc, finish_norm, finish_ret, outK_some, keep_true, keep_false, keep_nil, p_bin, p_pick, p_un, p_eq, p_conv, evNew, pureK_some, newK_some, X.eval, set_none, set_some, List.map_cons, List.map_nil, List.getD_cons_zero, List.getD_cons_succ, List.getD_nil, List.set_cons_zero, List.set_cons_succ, binCV, unCV, isShift, intArithF_eq, shiftF_eq, wrapF_eq, intArith, shift, eqVal, bound, asNat_cast, cond_true, cond_false, BEq.rfl, beq_self_eq_true, evalParts, fillParts, AV.cells, AV.ofCells, XV.av, AV.xv, List.length_cons, List.length_nil, zeros, patch, setMany, List.nil_append, List.cons_append, Nat.ble, Nat.add_eq, Nat.zero_add, Nat.add_zero, Nat.reduceAdd, Nat.reduceMul, Nat.reduceSub, Nat.ble_eq, Nat.reduceLeDiff, Nat.reduceBEq, Int.reduceBEq, Int.reduceNeg, Bool.and_true, Bool.and_false, Bool.true_and, Bool.false_and, Bool.not_true, Bool.not_false, Bool.true_eq_false, Bool.false_eq_true, Int.reduceLT, Int.reduceLE, Int.reduceGT, Int.reduceGE, decide_true, decide_false, Bool.not_eq_true, loopN_norm, loopN_exit, tf, ft, ff, ev_dreg, dregK_nil, dregK_cons, dregE_true, dregP_some, dregX_some, d_mov, d_bin, d_eq, d_pick, d_un, d_conv, d_b2s, d_len, d_load, d_iaddr, d_slice, d_ext, d_call, d_store, chk_done, chk_none, chk_some, chkG_true, chkG_false, chkOne_nil, chkOne_cons, chkH_some, chkV_same, stage_none, stage_some, look_hit, look_miss, news_nil, wb_cons, wb_nil, skip0, List.reverse_cons, List.reverse_nil, bneI, ep', e1, e2, p_ext, List.getElem?_cons_zero, List.getElem?_cons_succ, ll, evCallT_told, p_iaddr, p_load, AV.ofCells, a4, a5, a6, a7, b4, b5, b6, b7, Nat.mul_one, r4, r5, r6, r7, c1, c4, eqq, sl8, s1, s2, q1]
  rfl

end Lav

namespace Go.Proofs.Ytnjfpdkdafdfdaa.pageMarks
open Go.ChangeShapes Go.WideShapes Go.ChangeAt Go.RowKit
open Go.ChangeMaps (open_string shut_string)
set_option linter.unusedVariables false      -- a walk need not use every 'w<i>' (that an integer argument fits its kind)

theorem own : ownKnob Try.prog.godebug = none := by kernel_rfl

/-! ### STEP 1: THE WALK: the Go text returns true. 'Below w.heap.size w w'': the world has at most new blocks (Derived/RowKit3.lean). Part the cases AHEAD of 'go_enter' where a test parts the walk; take each callee by a contract of your own. -/
theorem walk (a0 : Int) (a1 : Int) (a2 : Int) (a3 : Int) (w0 : (Lit.int .i64 a0).wf = true) (w1 : (Lit.int .u8 a1).wf = true) (w2 : (Lit.int .i64 a2).wf = true) (w3 : (Lit.int .u8 a3).wf = true) (w : World) :
    Calls Try.prog 12 #[.int .i64 a0, .int .u8 a1, .int .i64 a2, .int .u8 a3] w fun e w' => e = .returned (.bool true) ∧ Below w.heap.size w w' := by
  obtain ⟨c, rfl⟩ := Lav.u8_of w1
  obtain ⟨e, rfl⟩ := Lav.u8_of w3
  exact Lav.walk_of (Lav.evCallT_sound Lav.mixed Lav.table_ok Lav.tld2 200 9) (Lav.Init.empty w) (args := [.c (.int .i64 a0), .c (.int .u8 (c.toNat : Int)), .c (.int .i64 a2), .c (.int .u8 (e.toNat : Int))]) (vs := [.int .i64 a0, .int .u8 c.toNat, .int .i64 a2, .int .u8 e.toNat]) ⟨rfl, rfl, rfl, rfl, trivial⟩ (Lav.pageMarks a0 a2 c e)

/-! ### THE ROW's STEP: WRITTEN OUT: LEAVE IT -/
set_option maxRecDepth 100000 in
theorem lifted (os : Os) (started : os.Started) (H : Type) (enc : TypeId × Value → H) :
    ReturnsInHanded {} Try.checked os 12 .any (Rows.pageMarksSpec.pre6 enc Try.prog Try.f12 Rows.pageMarksRow.domain false) (Rows.pageMarksSpec.post enc Try.prog Try.f12 false true false false) := by
  refine returnsInHanded_of_change (C := Try.checked) own started (by kernel_rfl) Try.func12
    (ChangeSpec.witness6 (enc := enc) (C := Try.checked) false ⟨#[], #[.int .i64 0, .int .u8 0, .int .i64 0, .int .u8 0], []⟩ 8 (by kernel_rfl) (by kernel_rfl) (by kernel_rfl) (by kernel_rfl)) ?_
  intro W base args ds gs before hval0 hW hcnd _
  have hval : ∀ (j : Nat) t v, Try.f12.params[j]? = some t → args[j]? = some v → Value.okWide Try.prog W .any base t v := hval0
  have hW' := hW
  obtain ⟨p, q, hA0, hV, rfl, hfz, hnd⟩ := hW
  have hA : DataW.TrodAll enc Try.prog W 0 (fun _ => true) true Try.f12.params.toList args.toList ds p := hA0
  rw [Try.params12] at hA hval
  obtain ⟨v0, vs0, d0, ds0, p0, q0, hargs, rfl, rfl, h0, r0⟩ := trodAll_cons hA
  obtain ⟨v1, vs1, d1, ds1, p1, q1, rfl, rfl, rfl, h1, r1⟩ := trodAll_cons r0
  obtain ⟨v2, vs2, d2, ds2, p2, q2, rfl, rfl, rfl, h2, r2⟩ := trodAll_cons r1
  obtain ⟨v3, vs3, d3, ds3, p3, q3, rfl, rfl, rfl, h3, r3⟩ := trodAll_cons r2
  obtain ⟨rfl, rfl, rfl⟩ := trodAll_nil r3
  obtain rfl : args = #[v0, v1, v2, v3] := by cases args; simp_all
  obtain ⟨rfl, rfl⟩ := trodVars_none hV
  obtain ⟨a0, rfl, rfl, rfl, w0⟩ := open_int Try.underlying3 (hval 0 3 v0 rfl rfl) h0
  obtain ⟨a1, rfl, rfl, rfl, w1⟩ := open_int Try.underlying5 (hval 1 5 v1 rfl rfl) h1
  obtain ⟨a2, rfl, rfl, rfl, w2⟩ := open_int Try.underlying3 (hval 2 3 v2 rfl rfl) h2
  obtain ⟨a3, rfl, rfl, rfl, w3⟩ := open_int Try.underlying5 (hval 3 5 v3 rfl rfl) h3
  clear hA0 hval0
  refine (walk a0 a1 a2 a3 w0 w1 w2 w3 W).mono fun e W' ⟨he, hg⟩ => ?_
  subst he
  exact ⟨_, rfl, _, _, _, [], _, [], hW', trodAll_mk1 (shut_bool Try.underlying4 _), (trodAll_cons_mk (shut_int Try.underlying3 w0) (trodAll_cons_mk (shut_int Try.underlying5 w1) (trodAll_cons_mk (shut_int Try.underlying3 w2) (trodAll_cons_mk (shut_int Try.underlying5 w3) trodAll_mk0)))), rfl, hg.frame _, fun h => by cases h⟩

theorem over : Rows.pageMarksRow.holds Try.pinned (OpenSpec.ofChange Rows.pageMarksSpec) :=
  OpenClaim.holds_of_wide 12 Try.f12 rfl rfl rfl rfl rfl rfl rfl ⟨rfl, rfl, rfl, rfl, rfl⟩ rfl rfl rfl rfl rfl (by kernel_rfl) Try.func12 (by kernel_rfl)
    (of_decide_eq_true (by kernel_rfl)) (by unfold Func.isWrapper; first | (rw [if_pos (by decide +kernel)]; kernel_rfl) | (rw [if_neg (by decide +kernel)]; exact ⟨rfl, rfl⟩))
    (fun os started H enc _ => lifted os started H enc)

/-- ████ THE STATEMENT ████ -/
theorem proved : Rows.PageMarksSaid :=
  over
end Go.Proofs.Ytnjfpdkdafdfdaa.pageMarks
