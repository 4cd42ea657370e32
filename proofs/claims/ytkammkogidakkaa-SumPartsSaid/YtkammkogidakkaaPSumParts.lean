/-
  Proved: whatever bytes and numbers come in, lavabolaw1.SumParts returns true and changes nothing that was there. No conditions beyond the given statement's.
-/
import Derived.Test.YtkammkogidakkaaRows
import Derived.Test.YtkammkogidakkaaSum1
import Derived.Test.YtkammkogidakkaaSum2
import Derived.Test.YtkammkogidakkaaSum3
import Derived.WalkKit
import Derived.ProofKit
import Derived.OpenShut
import Derived.ShutString
import Derived.ChangeOld
import Derived.Below
set_option maxRecDepth 100000
set_option linter.unusedSimpArgs false
namespace Lav
open Go (IntKind)
theorem wrap64 {n : Nat} (h : n < 1000000) : IntKind.u64.wrap (n : Int) = (n : Int) := by
  simp only [IntKind.wrap, IntKind.bits, IntKind.signed]
  simp
  omega

theorem bmore_append (s : BitVec 32) (a b : List (BitVec 8)) : bmore (bmore s a) b = bmore s (a ++ b) := by simp [bmore]

theorem parts_rest {x x1 x2 : CV} {h : Heap} {bs : List (BitVec 8)} {k : Nat} (s : BitVec 32) (hx : Bytes h x bs) (h1 : Bytes h x1 (bs.take k)) (h2 : Bytes h x2 (bs.drop k)) (hn : bs.length ≤ 300) :
    let H := h.new (.cells [.int .u8 97])
    evCall table 400 8 16 [.c (.int .u32 (s.toNat : Int)), .c x1] H = some (.c (.int .u32 ((bmore s (bs.take k)).toNat : Int)), H) ∧
    evCall table 400 8 16 [.c (.int .u32 ((bmore s (bs.take k)).toNat : Int)), .c x2] H = some (.c (.int .u32 ((bmore s bs).toNat : Int)), H) ∧
    evCall table 400 8 16 [.c (.int .u32 (s.toNat : Int)), .c x] H = some (.c (.int .u32 ((bmore s bs).toNat : Int)), H) ∧
    evCall table 400 8 14 [.c x] H = some (.c (.int .u32 ((bof bs).toNat : Int)), H) ∧
    evCall table 400 8 16 [.c (.int .u32 4294967295), .c x] H = some (.c (.int .u32 ((bmore 4294967295#32 bs).toNat : Int)), H) := by
  intro H
  refine ⟨more_ok (by simp; omega) (by simp; omega) (h1.new _), ?_, more_ok (by omega) (by omega) (hx.new _), of_ok (by omega) (by omega) (hx.new _), more_ok (s := 4294967295#32) (by omega) (by omega) (hx.new _)⟩
  have := more_ok (N := 400) (d := 6) (s := bmore s (bs.take k)) (by simp; omega) (by simp; omega) (h2.new (.cells [.int .u8 97]))
  rw [bmore_append, List.take_append_drop] at this
  exact this

theorem sumParts {x : CV} {h : Heap} {bs : List (BitVec 8)} (hx : Bytes h x bs) (hsh : x = .nils ∨ ∃ i o, x = .sl i o bs.length (.dy 1)) (a : Int) (s : BitVec 32) :
    good (evCall table 400 9 4 [.c x, .c (.int .i64 a), .c (.int .u32 (s.toNat : Int))] h) = true := by
  have e1 : (((bmore s bs).toNat : Int) == ((bmore s bs).toNat : Int)) = true := by simp
  have e2 : (((bof bs).toNat : Int) == ((~~~(bmore 4294967295#32 bs)).toNat : Int)) = true := by rw [eq32]; exact decide_eq_true rfl
  rw [evCall_eq (F := ir4) rfl rfl]
  unfold ir4
  rw [bodyK_eq]
  rcases hsh with rfl | ⟨i, o, rfl⟩
  · have hb : bs = [] := by
      rcases hx with ⟨_, h1⟩ | ⟨i, o, c, h1, _⟩
      · exact h1
      · cases h1
    subst hb
    obtain ⟨k, hk, e⟩ := few (a := a) (m := 1) (by decide) (by decide)
    have hk0 : k = 0 := by omega
    subst hk0
    have w1 : IntKind.i64.wrap (0 + 1) = 1 := by decide
    have w2 : IntKind.u64.wrap 1 = 1 := by decide
    have w3 : ((1 : Int) == 0) = false := by decide
    have e' : IntKind.i64.wrap ((IntKind.u64.wrap a).tmod 1) = 0 := e
    have a0 : asNat (.c (.int .i64 0)) = some 0 := rfl
    obtain ⟨r1, r2, r3, r4, r5⟩ := parts_rest (x := .nils) (x1 := .nils) (x2 := .nils) (k := 0) s hx hx hx (by simp)
    rw [List.take_zero] at r1 r2
    simp only [enter_eq, ev_seq, seqK_norm, seqK_exit, seqK_ret, ev_reg, ev_cond, condK_true, condK_false, ev_block, blockK_norm, blockK_ret, blockK_exit, ev_loop, ev_skip, ev_exit, ev_ret, regK_cons, regK_nil, guard_none, guard_some, regG_true, regG_false, regO_some, op_mov, op_conv, op_bin, op_bsl, op_box, op_mks, op_s2b, op_pick, op_un, op_eq, op_len, op_ext, op_load, op_iaddr, op_slice, op_b2s, op_idxS, op_mx, op_mn, op_call, op_store, op_app, op_copy, args_eq, result_one', rv_loc, finish_norm, finish_ret, outK_some, keep_true, keep_false, keep_nil, evPure, evNew, pureK_some, newK_some, X.eval, set_none, set_some, List.map_cons, List.map_nil, List.getD_cons_zero, List.getD_cons_succ, List.getD_nil, List.set_cons_zero, List.set_cons_succ, binCV, unCV, isShift, intArithF_eq, shiftF_eq, wrapF_eq, intArith, shift, eqVal, bound, asNat_cast, cond_true, cond_false, BEq.rfl, beq_self_eq_true, evalParts, fillParts, AV.cells, AV.ofCells, XV.av, AV.xv, List.length_cons, List.length_nil, zeros, patch, setMany, List.nil_append, List.cons_append, Nat.ble, Nat.add_eq, Nat.zero_add, Nat.add_zero, Nat.reduceAdd, Nat.reduceMul, Nat.reduceSub, Nat.ble_eq, Nat.reduceLeDiff, Nat.reduceBEq, Int.reduceBEq, Int.reduceNeg, Bool.and_true, Bool.and_false, Bool.true_and, Bool.false_and, Bool.not_true, Bool.not_false, Bool.true_eq_false, Bool.false_eq_true, Int.reduceLT, Int.reduceLE, Int.reduceGT, Int.reduceGE, decide_true, decide_false, Bool.not_eq_true, loopN_norm, loopN_exit, ev_dreg, dregK_nil, dregK_cons, dregE_true, dregP_some, dregX_some, d_mov, d_bin, d_eq, d_pick, d_un, d_conv, d_b2s, d_len, d_load, d_iaddr, d_slice, d_ext, d_call, d_store, chk_done, chk_none, chk_some, chkG_true, chkG_false, chkOne_nil, chkOne_cons, chkH_some, chkV_same, stage_none, stage_some, look_hit, news_nil, wb_cons, wb_nil, skip0, w1, w2, w3, e', a0, told_any, r1, r2, r3, r4, r5, e1, e2, not32]
    rfl
  · by_cases hlen : bs.length ≤ 300
    · obtain ⟨k, hk, e⟩ := few (a := a) (m := bs.length + 1) (by omega) (by omega)
      have w0 : decide ((bs.length : Int) > 300) = false := by simp; omega
      have w1 : IntKind.i64.wrap ((bs.length : Int) + 1) = ((bs.length + 1 : Nat) : Int) := succ64 (by omega)
      have w2 : IntKind.u64.wrap ((bs.length + 1 : Nat) : Int) = ((bs.length + 1 : Nat) : Int) := wrap64 (by omega)
      have w3 : (((bs.length + 1 : Nat) : Int) == 0) = false := by simp; omega
      have l1 : Nat.ble 0 k = true := Nat.ble_eq_true_of_le (Nat.zero_le _)
      have l2 : Nat.ble k bs.length = true := Nat.ble_eq_true_of_le (by omega)
      have l3 : Nat.ble bs.length bs.length = true := Nat.ble_eq_true_of_le (Nat.le_refl _)
      have p1 : Bytes h (.sl i o (k - 0) (.dy 1)) (bs.take k) := by
        have := hx.part (a := 0) (m := k - 0) (by omega) (.dy 1)
        simpa using this
      have p2 : Bytes h (.sl i (o + k * 1) (bs.length - k) (.dy 1)) (bs.drop k) := by
        have := hx.part (a := k) (m := bs.length - k) (by omega) (.dy 1)
        rwa [List.take_of_length_le (by simp)] at this
      obtain ⟨r1, r2, r3, r4, r5⟩ := parts_rest s hx p1 p2 hlen
      simp only [enter_eq, ev_seq, seqK_norm, seqK_exit, seqK_ret, ev_reg, ev_cond, condK_true, condK_false, ev_block, blockK_norm, blockK_ret, blockK_exit, ev_loop, ev_skip, ev_exit, ev_ret, regK_cons, regK_nil, guard_none, guard_some, regG_true, regG_false, regO_some, op_mov, op_conv, op_bin, op_bsl, op_box, op_mks, op_s2b, op_pick, op_un, op_eq, op_len, op_ext, op_load, op_iaddr, op_slice, op_b2s, op_idxS, op_mx, op_mn, op_call, op_store, op_app, op_copy, args_eq, result_one', rv_loc, finish_norm, finish_ret, outK_some, keep_true, keep_false, keep_nil, evPure, evNew, pureK_some, newK_some, X.eval, set_none, set_some, List.map_cons, List.map_nil, List.getD_cons_zero, List.getD_cons_succ, List.getD_nil, List.set_cons_zero, List.set_cons_succ, binCV, unCV, isShift, intArithF_eq, shiftF_eq, wrapF_eq, intArith, shift, eqVal, bound, asNat_cast, cond_true, cond_false, BEq.rfl, beq_self_eq_true, evalParts, fillParts, AV.cells, AV.ofCells, XV.av, AV.xv, List.length_cons, List.length_nil, zeros, patch, setMany, List.nil_append, List.cons_append, Nat.ble, Nat.add_eq, Nat.zero_add, Nat.add_zero, Nat.reduceAdd, Nat.reduceMul, Nat.reduceSub, Nat.ble_eq, Nat.reduceLeDiff, Nat.reduceBEq, Int.reduceBEq, Int.reduceNeg, Bool.and_true, Bool.and_false, Bool.true_and, Bool.false_and, Bool.not_true, Bool.not_false, Bool.true_eq_false, Bool.false_eq_true, Int.reduceLT, Int.reduceLE, Int.reduceGT, Int.reduceGE, decide_true, decide_false, Bool.not_eq_true, loopN_norm, loopN_exit, ev_dreg, dregK_nil, dregK_cons, dregE_true, dregP_some, dregX_some, d_mov, d_bin, d_eq, d_pick, d_un, d_conv, d_b2s, d_len, d_load, d_iaddr, d_slice, d_ext, d_call, d_store, chk_done, chk_none, chk_some, chkG_true, chkG_false, chkOne_nil, chkOne_cons, chkH_some, chkV_same, stage_none, stage_some, look_hit, news_nil, wb_cons, wb_nil, skip0, ofNat_cast, w0, w1, w2, w3, e, l1, l2, l3, told_any, r1, r2, r3, r4, r5, e1, e2, not32]
      rfl
    · have w0 : decide ((bs.length : Int) > 300) = true := by simp; omega
      simp only [enter_eq, ev_seq, seqK_norm, seqK_exit, seqK_ret, ev_reg, ev_cond, condK_true, condK_false, ev_block, blockK_norm, blockK_ret, blockK_exit, ev_loop, ev_skip, ev_exit, ev_ret, regK_cons, regK_nil, guard_none, guard_some, regG_true, regG_false, regO_some, op_mov, op_conv, op_bin, op_bsl, op_box, op_mks, op_s2b, op_pick, op_un, op_eq, op_len, op_ext, op_load, op_iaddr, op_slice, op_b2s, op_idxS, op_mx, op_mn, op_call, op_store, op_app, op_copy, args_eq, result_one', rv_loc, finish_norm, finish_ret, outK_some, keep_true, keep_false, keep_nil, evPure, evNew, pureK_some, newK_some, X.eval, set_none, set_some, List.map_cons, List.map_nil, List.getD_cons_zero, List.getD_cons_succ, List.getD_nil, List.set_cons_zero, List.set_cons_succ, binCV, unCV, isShift, intArithF_eq, shiftF_eq, wrapF_eq, intArith, shift, eqVal, bound, asNat_cast, cond_true, cond_false, BEq.rfl, beq_self_eq_true, evalParts, fillParts, AV.cells, AV.ofCells, XV.av, AV.xv, List.length_cons, List.length_nil, zeros, patch, setMany, List.nil_append, List.cons_append, Nat.ble, Nat.add_eq, Nat.zero_add, Nat.add_zero, Nat.reduceAdd, Nat.reduceMul, Nat.reduceSub, Nat.ble_eq, Nat.reduceLeDiff, Nat.reduceBEq, Int.reduceBEq, Int.reduceNeg, Bool.and_true, Bool.and_false, Bool.true_and, Bool.false_and, Bool.not_true, Bool.not_false, Bool.true_eq_false, Bool.false_eq_true, Int.reduceLT, Int.reduceLE, Int.reduceGT, Int.reduceGE, decide_true, decide_false, Bool.not_eq_true, loopN_norm, loopN_exit, ev_dreg, dregK_nil, dregK_cons, dregE_true, dregP_some, dregX_some, d_mov, d_bin, d_eq, d_pick, d_un, d_conv, d_b2s, d_len, d_load, d_iaddr, d_slice, d_ext, d_call, d_store, chk_done, chk_none, chk_some, chkG_true, chkG_false, chkOne_nil, chkOne_cons, chkH_some, chkV_same, stage_none, stage_some, look_hit, news_nil, wb_cons, wb_nil, skip0, ofNat_cast, w0, told_any]
      rfl

end Lav

namespace Go.Proofs.Ytkammkogidakkaa.sumParts
open Go.ChangeShapes Go.WideShapes Go.ChangeAt Go.RowKit
open Go.ChangeMaps (open_string shut_string)
set_option linter.unusedVariables false

theorem own : ownKnob Try.prog.godebug = none := by kernel_rfl
theorem laidOut : laidOutB Try.prog = true := by kernel_rfl

/-- WHAT THE WALK IS TOLD OF A SLICE OF INTEGERS THAT CAME IN: it is nil; or it leads to a row of 'cap' cells, the numbers 'zs' (the first 'len' are its elements, the rest its spare room), each fitting its kind. -/
def IsRow (k : IntKind) (w : World) (a : Option Addr) (len cap : Nat) (zs : List Int) : Prop :=
  (a = none ∧ len = 0 ∧ cap = 0 ∧ zs = []) ∨
  ∃ x, a = some x ∧ len ≤ cap ∧ cap ≤ maxLen ∧ zs.length = cap ∧ (∀ i, i < zs.length → w.cell? (x.add i) = some (.int k (zs.getD i 0))) ∧ ∀ n ∈ zs, (Lit.int k n).wf = true

/-! ### STEP 1: THE WALK: the Go text returns true, AND WRITES NOTHING THAT WAS THERE: 'Below w.heap.size w w'' (Derived/Below.lean: '.refl', '.alloc', '.drew', '.setCell' at a new block, '.trans'). Open each 'IsRow' by 'rcases' AHEAD of 'go_enter'; part every test ahead of the walk. -/
theorem walk (a0 : Option Addr) (len0 cap0 : Nat) (z0 : List Int) (a1 : Int) (a2 : Int) (w : World) (w0 : IsRow .u8 w a0 len0 cap0 z0) (w1 : (Lit.int .i64 a1).wf = true) (w2 : (Lit.int .u32 a2).wf = true) :
    Calls Try.prog 4 #[.slice a0 len0 cap0, .int .i64 a1, .int .u32 a2] w fun e w' => e = .returned (.bool true) ∧ Below w.heap.size w w' := by
  obtain ⟨ι, h, x, I, hle, hx, hr⟩ := (Lav.Init.empty w).slice w0
  obtain ⟨bs, hbs, hB, hsh⟩ := Lav.bytes_of hr
  obtain ⟨s, rfl⟩ := Lav.u32_of w2
  exact Lav.walk_of (Lav.calls_ok 400 9) I (args := [.c x, .c (.int .i64 a1), .c (.int .u32 (s.toNat : Int))]) (vs := [.slice a0 len0 cap0, .int .i64 a1, .int .u32 s.toNat]) ⟨hx, rfl, rfl, trivial⟩ (Lav.sumParts hB hsh a1 s)

/-! ### THE ROW's STEP: WRITTEN OUT: LEAVE IT -/
set_option maxRecDepth 100000 in
theorem lifted (os : Os) (started : os.Started) (H : Type) (enc : TypeId × Value → H) :
    ReturnsInHanded {} Try.checked os 4 .any (Rows.sumPartsSpec.pre6 enc Try.prog Try.f4 Rows.sumPartsRow.domain false) (Rows.sumPartsSpec.post enc Try.prog Try.f4 false true false false) := by
  refine returnsInHanded_of_change (C := Try.checked) own started (by kernel_rfl) Try.func4
    (ChangeSpec.witness6 (enc := enc) (C := Try.checked) false ⟨#[], #[.slice none 0 0, .int .i64 0, .int .u32 0], []⟩ 8 (by kernel_rfl) (by kernel_rfl) (by kernel_rfl) (by kernel_rfl)) ?_
  intro W base args ds gs before hval0 hW hcnd _
  have hval : ∀ (j : Nat) t v, Try.f4.params[j]? = some t → args[j]? = some v → Value.okWide Try.prog W .any base t v := hval0
  have hW' := hW
  obtain ⟨p, q, hA0, hV, rfl, hfz, hnd⟩ := hW
  have hA : DataW.TrodAll enc Try.prog W 0 (fun _ => true) true Try.f4.params.toList args.toList ds p := hA0
  rw [Try.params4] at hA hval
  obtain ⟨v0, vs0, d0, ds0, p0, q0, hargs, rfl, rfl, h0, r0⟩ := trodAll_cons hA
  obtain ⟨v1, vs1, d1, ds1, p1, q1, rfl, rfl, rfl, h1, r1⟩ := trodAll_cons r0
  obtain ⟨v2, vs2, d2, ds2, p2, q2, rfl, rfl, rfl, h2, r2⟩ := trodAll_cons r1
  obtain ⟨rfl, rfl, rfl⟩ := trodAll_nil r2
  obtain rfl : args = #[v0, v1, v2] := by cases args; simp_all
  obtain ⟨rfl, rfl⟩ := trodVars_none hV
  obtain ⟨a0, len0, cap0, rfl⟩ := okWide_slice Try.underlying22 (hval 0 22 v0 rfl rfl)
  have k0 := h0
  have lt0 : ∀ x ∈ p0, x.block < W.heap.size := by obtain ⟨m, hm⟩ := k0; exact DataW.trod_lt m _ _ _ hm
  obtain ⟨z0, w0⟩ : ∃ zs, IsRow .u8 W a0 len0 cap0 zs := by
    obtain ⟨fuel, hf⟩ := h0
    rcases open_ints Try.underlying22 Try.underlying5 (by kernel_rfl) hf with ⟨hcs, _⟩ | ⟨x, l, c, zs, hcs, _, hl, hm, hz, _, hcell, hwz⟩
    · simp [Value.cells] at hcs
      obtain ⟨rfl, rfl, rfl⟩ := hcs
      exact ⟨[], .inl ⟨rfl, rfl, rfl, rfl⟩⟩
    · simp [Value.cells] at hcs
      obtain ⟨rfl, rfl, rfl⟩ := hcs
      exact ⟨zs, .inr ⟨_, rfl, hl, hm, by simpa using hz, hcell, hwz⟩⟩
  obtain ⟨a1, rfl, rfl, rfl, w1⟩ := open_int Try.underlying3 (hval 1 3 v1 rfl rfl) h1
  obtain ⟨a2, rfl, rfl, rfl, w2⟩ := open_int Try.underlying23 (hval 2 23 v2 rfl rfl) h2
  clear hA0 hval0
  refine (walk a0 len0 cap0 z0 a1 a2 W w0 w1 w2).mono fun e W' ⟨he, bel⟩ => ?_
  subst he
  exact ⟨_, rfl, _, _, _, [], _, [], hW', trodAll_mk1 (shut_bool Try.underlying4 _), (trodAll_cons_mk (Below.trod laidOut (by kernel_rfl) (of_decide_eq_true (by kernel_rfl)) k0 bel lt0) (trodAll_cons_mk (shut_int Try.underlying3 w1) (trodAll_cons_mk (shut_int Try.underlying23 w2) trodAll_mk0))), rfl, bel.frame _, fun h => by cases h⟩

theorem over : Rows.sumPartsRow.holds Try.pinned (OpenSpec.ofChange Rows.sumPartsSpec) :=
  OpenClaim.holds_of_wide 4 Try.f4 rfl rfl rfl rfl rfl rfl rfl ⟨rfl, rfl, rfl, rfl, rfl⟩ rfl rfl rfl rfl rfl (by kernel_rfl) Try.func4 (by kernel_rfl)
    (of_decide_eq_true (by kernel_rfl)) (by unfold Func.isWrapper; first | (rw [if_pos (by decide +kernel)]; kernel_rfl) | (rw [if_neg (by decide +kernel)]; exact ⟨rfl, rfl⟩))
    (fun os started H enc _ => lifted os started H enc)

/-- ████ THE STATEMENT ████ -/
theorem proved : Rows.SumPartsSaid := over
end Go.Proofs.Ytkammkogidakkaa.sumParts
