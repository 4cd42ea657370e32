/-
  Proved: whatever bytes and numbers come in, lavabolaw1.SumAsks returns true and changes nothing that was there. No conditions beyond the given statement's.
-/
import Derived.Test.YtkammkogidakkaaRows
import Derived.Test.YtkammkogidakkaaSum1
import Derived.Test.YtkammkogidakkaaSum2
import Derived.Test.YtkammkogidakkaaSum3
import Derived.Test.YtkammkogidakkaaSum4
import Derived.WalkKit
import Derived.ProofKit
import Derived.OpenShut
import Derived.ShutString
import Derived.ChangeOld
import Derived.Below
set_option maxRecDepth 100000
set_option linter.unusedSimpArgs false
namespace Lav
open Go (IntKind)
theorem sumAsks {x : CV} {h : Heap} {bs : List (BitVec 8)} (hx : Bytes h x bs) (hsh : x = .nils ∨ ∃ i o, x = .sl i o bs.length (.dy 1)) (hw : Whole h x bs) (s : BitVec 32) (c : BitVec 8) :
    good (evCall table 400 9 3 [.c x, .c (.int .u32 (s.toNat : Int)), .c (.int .u8 (c.toNat : Int))] h) = true := by
  have hl : ∀ loc : List AV, evPure loc [.c x] h (.len .sl (.val 0)) = some (.c (.int .i64 (bs.length : Int))) := by
    intro loc
    rcases hx with ⟨rfl, rfl⟩ | ⟨i, o, c, rfl, _, _⟩ <;> rfl
  have e1 : ∀ b : BitVec 32, ((b.toNat : Int) == (b.toNat : Int)) = true := fun b => by simp
  rw [evCall_eq (F := ir3) rfl rfl]
  unfold ir3
  rw [bodyK_eq]
  by_cases hlen : bs.length ≤ 300
  · have w0 : decide ((bs.length : Int) > 300) = false := by simp; omega
    have q1 : ∀ loc vals, evPure loc (.c x :: vals) (h.new (.cells [.int .u8 97])) (.b2s (.val 0)) = some (.c (.str (strOf bs))) := fun loc vals => b2s_ok rfl (hx.new _) hsh (hw.new _ hx)
    have r1 : evCall table 400 8 14 [.c x] (h.new (.cells [.int .u8 97])) = some (.c (.int .u32 ((bof bs).toNat : Int)), h.new (.cells [.int .u8 97])) := of_ok (by omega) (by omega) (hx.new _)
    have r2 : evCall table 400 8 15 [.c (.str (strOf bs))] (h.new (.cells [.int .u8 97])) = some (.c (.int .u32 ((bof bs).toNat : Int)), h.new (.cells [.int .u8 97])) := rof_ok (by omega) (by omega)
    have r3 : evCall table 400 8 16 [.c (.int .u32 (s.toNat : Int)), .c x] (h.new (.cells [.int .u8 97])) = some (.c (.int .u32 ((bmore s bs).toNat : Int)), h.new (.cells [.int .u8 97])) := more_ok (by omega) (by omega) (hx.new _)
    have r4 : evCall table 400 8 17 [.c (.int .u32 (s.toNat : Int)), .c (.str (strOf bs))] (h.new (.cells [.int .u8 97])) = some (.c (.int .u32 ((bmore s bs).toNat : Int)), h.new (.cells [.int .u8 97])) := rmore_ok (by omega) (by omega)
    have r5 : evCall table 400 8 18 [.c (.int .u32 (s.toNat : Int)), .c (.int .u8 (c.toNat : Int))] (h.new (.cells [.int .u8 97])) = some (.c (.int .u32 ((bturn s c).toNat : Int)), h.new (.cells [.int .u8 97])) := turn_ok (M := 391) s c _
    have r6 : evCall table 400 8 19 [.c (.int .u32 (s.toNat : Int)), .c (.int .u8 (c.toNat : Int))] (h.new (.cells [.int .u8 97])) = some (.c (.int .u32 ((bturn s c).toNat : Int)), h.new (.cells [.int .u8 97])) := rturn_ok (M := 391) s c _
    simp only [hl, q1, enter_eq, ev_seq, seqK_norm, seqK_exit, seqK_ret, ev_reg, ev_cond, condK_true, condK_false, ev_block, blockK_norm, blockK_ret, blockK_exit, ev_loop, ev_skip, ev_exit, ev_ret, regK_cons, regK_nil, guard_none, guard_some, regG_true, regG_false, regO_some, op_mov, op_conv, op_bin, op_bsl, op_box, op_mks, op_s2b, op_pick, op_un, op_eq, op_len, op_ext, op_load, op_iaddr, op_slice, op_b2s, op_idxS, op_mx, op_mn, op_call, op_store, op_app, op_copy, args_eq, result_one', rv_loc, finish_norm, finish_ret, outK_some, keep_true, keep_false, keep_nil, p_bin, p_pick, p_un, p_eq, evNew, pureK_some, newK_some, X.eval, set_none, set_some, List.map_cons, List.map_nil, List.getD_cons_zero, List.getD_cons_succ, List.getD_nil, List.set_cons_zero, List.set_cons_succ, binCV, unCV, isShift, intArithF_eq, shiftF_eq, wrapF_eq, intArith, shift, eqVal, bound, asNat_cast, cond_true, cond_false, BEq.rfl, beq_self_eq_true, evalParts, fillParts, AV.cells, AV.ofCells, XV.av, AV.xv, List.length_cons, List.length_nil, zeros, patch, setMany, List.nil_append, List.cons_append, Nat.ble, Nat.add_eq, Nat.zero_add, Nat.add_zero, Nat.reduceAdd, Nat.reduceMul, Nat.reduceSub, Nat.ble_eq, Nat.reduceLeDiff, Nat.reduceBEq, Int.reduceBEq, Int.reduceNeg, Bool.and_true, Bool.and_false, Bool.true_and, Bool.false_and, Bool.not_true, Bool.not_false, Bool.true_eq_false, Bool.false_eq_true, Int.reduceLT, Int.reduceLE, Int.reduceGT, Int.reduceGE, decide_true, decide_false, Bool.not_eq_true, loopN_norm, loopN_exit, ev_dreg, dregK_nil, dregK_cons, dregE_true, dregP_some, dregX_some, d_mov, d_bin, d_eq, d_pick, d_un, d_conv, d_b2s, d_len, d_load, d_iaddr, d_slice, d_ext, d_call, d_store, chk_done, chk_none, chk_some, chkG_true, chkG_false, chkOne_nil, chkOne_cons, chkH_some, chkV_same, stage_none, stage_some, look_hit, look_miss, news_nil, wb_cons, wb_nil, skip0, List.reverse_cons, List.reverse_nil, w0, told_any, r1, r2, r3, r4, r5, r6, e1]
    rfl
  · have w0 : decide ((bs.length : Int) > 300) = true := by simp; omega
    simp only [hl, enter_eq, ev_seq, seqK_norm, seqK_exit, seqK_ret, ev_reg, ev_cond, condK_true, condK_false, ev_block, blockK_norm, blockK_ret, blockK_exit, ev_loop, ev_skip, ev_exit, ev_ret, regK_cons, regK_nil, guard_none, guard_some, regG_true, regG_false, regO_some, op_mov, op_conv, op_bin, op_bsl, op_box, op_mks, op_s2b, op_pick, op_un, op_eq, op_len, op_ext, op_load, op_iaddr, op_slice, op_b2s, op_idxS, op_mx, op_mn, op_call, op_store, op_app, op_copy, args_eq, result_one', rv_loc, finish_norm, finish_ret, outK_some, keep_true, keep_false, keep_nil, p_bin, p_pick, p_un, p_eq, evNew, pureK_some, newK_some, X.eval, set_none, set_some, List.map_cons, List.map_nil, List.getD_cons_zero, List.getD_cons_succ, List.getD_nil, List.set_cons_zero, List.set_cons_succ, binCV, unCV, isShift, intArithF_eq, shiftF_eq, wrapF_eq, intArith, shift, eqVal, bound, asNat_cast, cond_true, cond_false, BEq.rfl, beq_self_eq_true, evalParts, fillParts, AV.cells, AV.ofCells, XV.av, AV.xv, List.length_cons, List.length_nil, zeros, patch, setMany, List.nil_append, List.cons_append, Nat.ble, Nat.add_eq, Nat.zero_add, Nat.add_zero, Nat.reduceAdd, Nat.reduceMul, Nat.reduceSub, Nat.ble_eq, Nat.reduceLeDiff, Nat.reduceBEq, Int.reduceBEq, Int.reduceNeg, Bool.and_true, Bool.and_false, Bool.true_and, Bool.false_and, Bool.not_true, Bool.not_false, Bool.true_eq_false, Bool.false_eq_true, Int.reduceLT, Int.reduceLE, Int.reduceGT, Int.reduceGE, decide_true, decide_false, Bool.not_eq_true, loopN_norm, loopN_exit, ev_dreg, dregK_nil, dregK_cons, dregE_true, dregP_some, dregX_some, d_mov, d_bin, d_eq, d_pick, d_un, d_conv, d_b2s, d_len, d_load, d_iaddr, d_slice, d_ext, d_call, d_store, chk_done, chk_none, chk_some, chkG_true, chkG_false, chkOne_nil, chkOne_cons, chkH_some, chkV_same, stage_none, stage_some, look_hit, look_miss, news_nil, wb_cons, wb_nil, skip0, List.reverse_cons, List.reverse_nil, w0, told_any]
    rfl

end Lav

namespace Go.Proofs.Ytkammkogidakkaa.sumAsks
open Go.ChangeShapes Go.WideShapes Go.ChangeAt Go.RowKit
open Go.ChangeMaps (open_string shut_string)
set_option linter.unusedVariables false

theorem own : ownKnob Try.prog.godebug = none := by kernel_rfl
theorem laidOut : laidOutB Try.prog = true := by kernel_rfl

/-- WHAT THE WALK IS TOLD OF A SLICE OF INTEGERS THAT CAME IN: it is nil; or it leads to a row of 'cap' cells, the numbers 'zs' (the first 'len' are its elements, the rest its spare room), each fitting its kind. -/
def IsRow (k : IntKind) (w : World) (a : Option Addr) (len cap : Nat) (zs : List Int) : Prop :=
  (a = none ∧ len = 0 ∧ cap = 0 ∧ zs = []) ∨
  ∃ x, a = some x ∧ len ≤ cap ∧ cap ≤ maxLen ∧ zs.length = cap ∧ (∀ i, i < zs.length → w.cell? (x.add i) = some (.int k (zs.getD i 0))) ∧ ∀ n ∈ zs, (Lit.int k n).wf = true

/-! ### STEP 1: THE WALK: the Go text returns true, AND WRITES NOTHING THAT WAS THERE: 'Below w.heap.size w w'' (Derived/Below.lean: '.refl', '.alloc', '.drew', '.setCell' at a new block, '.trans'). Open each 'IsRow' by 'rcases' AHEAD of 'go_enter'; part every test ahead of the walk. -/
theorem walk (a0 : Option Addr) (len0 cap0 : Nat) (z0 : List Int) (a1 : Int) (a2 : Int) (w : World) (w0 : IsRow .u8 w a0 len0 cap0 z0) (w1 : (Lit.int .u32 a1).wf = true) (w2 : (Lit.int .u8 a2).wf = true) :
    Calls Try.prog 3 #[.slice a0 len0 cap0, .int .u32 a1, .int .u8 a2] w fun e w' => e = .returned (.bool true) ∧ Below w.heap.size w w' := by
  obtain ⟨ι, h, x, I, hle, hx, hr⟩ := (Lav.Init.empty w).slice w0
  obtain ⟨bs, hbs, hB, hsh⟩ := Lav.bytes_of hr
  rw [hbs] at hr
  obtain ⟨s, rfl⟩ := Lav.u32_of w1
  obtain ⟨c, rfl⟩ := Lav.u8_of w2
  exact Lav.walk_of (Lav.calls_ok 400 9) I (args := [.c x, .c (.int .u32 (s.toNat : Int)), .c (.int .u8 (c.toNat : Int))]) (vs := [.slice a0 len0 cap0, .int .u32 s.toNat, .int .u8 c.toNat]) ⟨hx, rfl, rfl, trivial⟩ (Lav.sumAsks hB hsh (Lav.whole_of hr) s c)

/-! ### THE ROW's STEP: WRITTEN OUT: LEAVE IT -/
set_option maxRecDepth 100000 in
theorem lifted (os : Os) (started : os.Started) (H : Type) (enc : TypeId × Value → H) :
    ReturnsInHanded {} Try.checked os 3 .any (Rows.sumAsksSpec.pre6 enc Try.prog Try.f3 Rows.sumAsksRow.domain false) (Rows.sumAsksSpec.post enc Try.prog Try.f3 false true false false) := by
  refine returnsInHanded_of_change (C := Try.checked) own started (by kernel_rfl) Try.func3
    (ChangeSpec.witness6 (enc := enc) (C := Try.checked) false ⟨#[], #[.slice none 0 0, .int .u32 0, .int .u8 0], []⟩ 8 (by kernel_rfl) (by kernel_rfl) (by kernel_rfl) (by kernel_rfl)) ?_
  intro W base args ds gs before hval0 hW hcnd _
  have hval : ∀ (j : Nat) t v, Try.f3.params[j]? = some t → args[j]? = some v → Value.okWide Try.prog W .any base t v := hval0
  have hW' := hW
  obtain ⟨p, q, hA0, hV, rfl, hfz, hnd⟩ := hW
  have hA : DataW.TrodAll enc Try.prog W 0 (fun _ => true) true Try.f3.params.toList args.toList ds p := hA0
  rw [Try.params3] at hA hval
  obtain ⟨v0, vs0, d0, ds0, p0, q0, hargs, rfl, rfl, h0, r0⟩ := trodAll_cons hA
  obtain ⟨v1, vs1, d1, ds1, p1, q1, rfl, rfl, rfl, h1, r1⟩ := trodAll_cons r0
  obtain ⟨v2, vs2, d2, ds2, p2, q2, rfl, rfl, rfl, h2, r2⟩ := trodAll_cons r1
  obtain ⟨rfl, rfl, rfl⟩ := trodAll_nil r2
  obtain rfl : args = #[v0, v1, v2] := by cases args; simp_all
  obtain ⟨rfl, rfl⟩ := trodVars_none hV
  obtain ⟨a0, len0, cap0, rfl⟩ := okWide_slice Try.underlying22 (hval 0 22 v0 rfl rfl)
  have k0 := h0
  have lt0 : ∀ x ∈ p0, x.block < W.heap.size := by obtain ⟨m, hm⟩ := k0; exact DataW.trod_lt m _ _ _ hm
  obtain ⟨z0, w0⟩ : ∃ zs, IsRow .u8 W a0 len0 cap0 zs := by
    obtain ⟨fuel, hf⟩ := h0
    rcases open_ints Try.underlying22 Try.underlying5 (by kernel_rfl) hf with ⟨hcs, _⟩ | ⟨x, l, c, zs, hcs, _, hl, hm, hz, _, hcell, hwz⟩
    · simp [Value.cells] at hcs
      obtain ⟨rfl, rfl, rfl⟩ := hcs
      exact ⟨[], .inl ⟨rfl, rfl, rfl, rfl⟩⟩
    · simp [Value.cells] at hcs
      obtain ⟨rfl, rfl, rfl⟩ := hcs
      exact ⟨zs, .inr ⟨_, rfl, hl, hm, by simpa using hz, hcell, hwz⟩⟩
  obtain ⟨a1, rfl, rfl, rfl, w1⟩ := open_int Try.underlying23 (hval 1 23 v1 rfl rfl) h1
  obtain ⟨a2, rfl, rfl, rfl, w2⟩ := open_int Try.underlying5 (hval 2 5 v2 rfl rfl) h2
  clear hA0 hval0
  refine (walk a0 len0 cap0 z0 a1 a2 W w0 w1 w2).mono fun e W' ⟨he, bel⟩ => ?_
  subst he
  exact ⟨_, rfl, _, _, _, [], _, [], hW', trodAll_mk1 (shut_bool Try.underlying4 _), (trodAll_cons_mk (Below.trod laidOut (by kernel_rfl) (of_decide_eq_true (by kernel_rfl)) k0 bel lt0) (trodAll_cons_mk (shut_int Try.underlying23 w1) (trodAll_cons_mk (shut_int Try.underlying5 w2) trodAll_mk0))), rfl, bel.frame _, fun h => by cases h⟩

theorem over : Rows.sumAsksRow.holds Try.pinned (OpenSpec.ofChange Rows.sumAsksSpec) :=
  OpenClaim.holds_of_wide 3 Try.f3 rfl rfl rfl rfl rfl rfl rfl ⟨rfl, rfl, rfl, rfl, rfl⟩ rfl rfl rfl rfl rfl (by kernel_rfl) Try.func3 (by kernel_rfl)
    (of_decide_eq_true (by kernel_rfl)) (by unfold Func.isWrapper; first | (rw [if_pos (by decide +kernel)]; kernel_rfl) | (rw [if_neg (by decide +kernel)]; exact ⟨rfl, rfl⟩))
    (fun os started H enc _ => lifted os started H enc)

/-- ████ THE STATEMENT ████ -/
theorem proved : Rows.SumAsksSaid := over
end Go.Proofs.Ytkammkogidakkaa.sumAsks
