/-
  Proved: whatever numbers come in, lavabolaw18.SizeAsks returns true and changes nothing that was there. No conditions beyond the given statement's.
-/
import Derived.Test.YtnjfpdkdafdfdaaRows
import Derived.Test.YtnjfpdkdafdfdaaInts1
import Derived.Test.YtnjfpdkdafdfdaaSize1
import Derived.Test.YtnjfpdkdafdfdaaSize2
import Derived.Test.YtnjfpdkdafdfdaaSize3
import Derived.WalkKit
import Derived.ProofKit
import Derived.OpenShut
import Derived.ShutString
import Derived.ChangeOld
import Derived.Below
set_option maxRecDepth 100000
set_option linter.unusedSimpArgs false
namespace Lav
open Go (IntKind)
theorem tld18 : ToldOK Go.Proofs.Try.prog 14 := told_of (calls_okF 100 8) (by kernel_rfl)

theorem sizeAsks {x : CV} {h : Heap} {hv : List Int} (n s : Int) (hx : Ints h x hv) (hw : Wf hv) : good (evCallT table 14 100 8 3 [.c (.int .i64 n), .c (.int .i64 s), .c x] h) = true := by
  have lx : ∀ (loc vals : List AV) (h : Heap), evPure loc (.c x :: vals) h (.len .sl (.val 0)) = some (.c (.int .i64 (hv.length : Int))) := fun _ _ _ => hx.len rfl
  rw [evCallT_eq (F := ir3) rfl rfl rfl]
  unfold ir3
  rw [bodyK_eq]
  by_cases hl : hv.length ≤ 8
  · have v0 : decide ((hv.length : Int) > 8) = false := by simp; omega
    obtain ⟨h1, e1, x1⟩ : ∃ h', evCallT table 14 100 7 15 [.c x, .c (.int .i64 n)] h = some (.tup [.c (.int .i64 (nextL hv n).1), .c (.int .i64 (nextL hv n).2)], h') ∧ Ext h h' := next_ok (N := 100) (d := 2) n hx hw (by omega) hl
    have hx1 := hx.ext x1
    obtain ⟨h2, e2, x2⟩ : ∃ h', evCallT table 14 100 7 16 [.c x, .c (.int .i64 n)] h1 = some (.tup [.c (.int .i64 (nextL hv n).1), .c (.int .i64 (nextL hv n).2)], h') ∧ Ext h1 h' := rnext_ok (N := 100) (d := 2) n hx1 hw (by omega) hl
    have hx2 := hx1.ext x2
    obtain ⟨y3, h3, e3, m3, x3⟩ : ∃ x h', evCallT table 14 100 7 18 [.c (.int .i64 n), .c (.int .i64 s)] h2 = some (.c x, h') ∧ Made h2 h' x (shareL n s) ∧ Ext h2 h' := share_ok (N := 100) (d := 6) n s h2 (by omega)
    obtain ⟨y4, h4, e4, m4, x4⟩ : ∃ x h', evCallT table 14 100 7 19 [.c (.int .i64 n), .c (.int .i64 s)] h3 = some (.c x, h') ∧ Made h3 h' x (shareL n s) ∧ Ext h3 h' := rshare_ok (N := 100) (d := 6) n s h3 (by omega)
    have hx4 := (hx2.ext x3).ext x4
    have hsl : (shareL n s).length ≤ 8 := by
      by_cases e : shareL n s = []
      · rw [e]; simp
      · obtain ⟨_, _, _, _, e5⟩ := shareL_len e; omega
    have e5 : evCallT table 14 100 7 17 [.c y3, .c y4] h4 = some (.c (.bool (decide (shareL n s = shareL n s))), h4) := ints_ok (N := 100) (d := 6) rfl (m3.ints.ext x4) m4.ints (by omega) (by omega)
    obtain ⟨y6, h6, e6, m6, x6⟩ : ∃ y h', evCallT table 14 100 7 20 [.c x, .c (.int .i64 n)] h4 = some (.c y, h') ∧ Made h4 h' y (stepsL hv n) ∧ Ext h4 h' := steps_ok (N := 100) (d := 3) n hx4 hw (by omega) hl
    obtain ⟨y7, h7, e7, m7, x7⟩ : ∃ y h', evCallT table 14 100 7 21 [.c x, .c (.int .i64 n)] h6 = some (.c y, h') ∧ Made h6 h' y (stepsL hv n) ∧ Ext h6 h' := rsteps_ok (N := 100) (d := 3) n (hx4.ext x6) hw (by omega) hl
    have hst : (stepsL hv n).length ≤ 8 := by
      by_cases f : Fit hv n
      · have := f.inv.2.2.2; omega
      · have e : stepsL hv n = [] := Classical.not_not.1 f
        rw [e]; simp
    have e8 : evCallT table 14 100 7 17 [.c y6, .c y7] h7 = some (.c (.bool (decide (stepsL hv n = stepsL hv n))), h7) := ints_ok (N := 100) (d := 6) rfl (m6.ints.ext x7) m7.ints (by omega) (by omega)
    rw [decide_eq_true rfl] at e5 e8
    simp only [enter_eq, ev_seq, seqK_norm, seqK_exit, seqK_ret, ev_reg, ev_cond, condK_true, condK_false, ev_block, blockK_norm, blockK_ret, blockK_exit, ev_loop, ev_skip, ev_exit, ev_ret, regK_cons, regK_nil, guard_none, guard_some, regG_true, regG_false, regO_some, op_mov, op_conv, op_bin, op_bsl, op_box, op_mks, op_s2b, op_pick, op_un, op_eq, op_len, op_ext, op_load, op_iaddr, op_slice, op_b2s, op_idxS, op_mx, op_mn, op_call, op_store, op_app, op_copy, args_eq, result_one', rv_loc, finish_norm, finish_ret, outK_some, keep_true, keep_false, keep_nil, p_bin, p_pick, p_un, p_eq, p_conv, evNew, pureK_some, newK_some, X.eval, set_none, set_some, List.map_cons, List.map_nil, List.getD_cons_zero, List.getD_cons_succ, List.getD_nil, List.set_cons_zero, List.set_cons_succ, binCV, unCV, isShift, intArithF_eq, shiftF_eq, wrapF_eq, intArith, shift, eqVal, bound, asNat_cast, cond_true, cond_false, BEq.rfl, beq_self_eq_true, evalParts, fillParts, AV.cells, AV.ofCells, XV.av, AV.xv, List.length_cons, List.length_nil, zeros, patch, setMany, List.nil_append, List.cons_append, Nat.ble, Nat.add_eq, Nat.zero_add, Nat.add_zero, Nat.reduceAdd, Nat.reduceMul, Nat.reduceSub, Nat.ble_eq, Nat.reduceLeDiff, Nat.reduceBEq, Int.reduceBEq, Int.reduceNeg, Bool.and_true, Bool.and_false, Bool.true_and, Bool.false_and, Bool.not_true, Bool.not_false, Bool.true_eq_false, Bool.false_eq_true, Int.reduceLT, Int.reduceLE, Int.reduceGT, Int.reduceGE, decide_true, decide_false, Bool.not_eq_true, loopN_norm, loopN_exit, tf, ft, ff, lx, v0, e1, e2, e3, e4, e5, e6, e7, e8, evCallT_told, p_ext, List.getElem?_cons_zero, List.getElem?_cons_succ]
    rfl
  · have v0 : decide ((hv.length : Int) > 8) = true := by simp; omega
    simp only [enter_eq, ev_seq, seqK_norm, seqK_exit, seqK_ret, ev_reg, ev_cond, condK_true, condK_false, ev_block, blockK_norm, blockK_ret, blockK_exit, ev_loop, ev_skip, ev_exit, ev_ret, regK_cons, regK_nil, guard_none, guard_some, regG_true, regG_false, regO_some, op_mov, op_conv, op_bin, op_bsl, op_box, op_mks, op_s2b, op_pick, op_un, op_eq, op_len, op_ext, op_load, op_iaddr, op_slice, op_b2s, op_idxS, op_mx, op_mn, op_call, op_store, op_app, op_copy, args_eq, result_one', rv_loc, finish_norm, finish_ret, outK_some, keep_true, keep_false, keep_nil, p_bin, p_pick, p_un, p_eq, p_conv, evNew, pureK_some, newK_some, X.eval, set_none, set_some, List.map_cons, List.map_nil, List.getD_cons_zero, List.getD_cons_succ, List.getD_nil, List.set_cons_zero, List.set_cons_succ, binCV, unCV, isShift, intArithF_eq, shiftF_eq, wrapF_eq, intArith, shift, eqVal, bound, asNat_cast, cond_true, cond_false, BEq.rfl, beq_self_eq_true, evalParts, fillParts, AV.cells, AV.ofCells, XV.av, AV.xv, List.length_cons, List.length_nil, zeros, patch, setMany, List.nil_append, List.cons_append, Nat.ble, Nat.add_eq, Nat.zero_add, Nat.add_zero, Nat.reduceAdd, Nat.reduceMul, Nat.reduceSub, Nat.ble_eq, Nat.reduceLeDiff, Nat.reduceBEq, Int.reduceBEq, Int.reduceNeg, Bool.and_true, Bool.and_false, Bool.true_and, Bool.false_and, Bool.not_true, Bool.not_false, Bool.true_eq_false, Bool.false_eq_true, Int.reduceLT, Int.reduceLE, Int.reduceGT, Int.reduceGE, decide_true, decide_false, Bool.not_eq_true, loopN_norm, loopN_exit, tf, ft, ff, lx, v0, evCallT_told]
    rfl

theorem wf_of {h h' : Heap} {x : CV} {l : List Int} (r : RowIs .i64 h x h' l) : Wf l := fun v hv => by
  have := r.1 v hv
  simp only [Go.Lit.wf, IntKind.min, IntKind.max, IntKind.bits, IntKind.signed] at this
  simp at this
  omega

end Lav

namespace Go.Proofs.Ytnjfpdkdafdfdaa.sizeAsks
open Go.ChangeShapes Go.WideShapes Go.ChangeAt Go.RowKit
open Go.ChangeMaps (open_string shut_string)
set_option linter.unusedVariables false

theorem own : ownKnob Try.prog.godebug = none := by kernel_rfl
theorem laidOut : laidOutB Try.prog = true := by kernel_rfl

/-- WHAT THE WALK IS TOLD OF A SLICE OF INTEGERS THAT CAME IN: it is nil; or it leads to a row of 'cap' cells, the numbers 'zs' (the first 'len' are its elements, the rest its spare room), each fitting its kind. -/
def IsRow (k : IntKind) (w : World) (a : Option Addr) (len cap : Nat) (zs : List Int) : Prop :=
  (a = none ∧ len = 0 ∧ cap = 0 ∧ zs = []) ∨
  ∃ x, a = some x ∧ len ≤ cap ∧ cap ≤ maxLen ∧ zs.length = cap ∧ (∀ i, i < zs.length → w.cell? (x.add i) = some (.int k (zs.getD i 0))) ∧ ∀ n ∈ zs, (Lit.int k n).wf = true

/-! ### STEP 1: THE WALK: the Go text returns true, AND WRITES NOTHING THAT WAS THERE: 'Below w.heap.size w w'' (Derived/Below.lean: '.refl', '.alloc', '.drew', '.setCell' at a new block, '.trans'). Open each 'IsRow' by 'rcases' AHEAD of 'go_enter'; part every test ahead of the walk. -/
theorem walk (a0 : Int) (a1 : Int) (a2 : Option Addr) (len2 cap2 : Nat) (z2 : List Int) (w : World) (w0 : (Lit.int .i64 a0).wf = true) (w1 : (Lit.int .i64 a1).wf = true) (w2 : IsRow .i64 w a2 len2 cap2 z2) :
    Calls Try.prog 3 #[.int .i64 a0, .int .i64 a1, .slice a2 len2 cap2] w fun e w' => e = .returned (.bool true) ∧ Below w.heap.size w w' := by
  obtain ⟨ι, h, x, I, hle, hx, hr⟩ := (Lav.Init.empty w).slice w2
  exact Lav.walk_of (Lav.evCallT_sound Lav.mixed Lav.table_ok Lav.tld18 100 8) I (args := [.c (.int .i64 a0), .c (.int .i64 a1), .c x]) (vs := [.int .i64 a0, .int .i64 a1, .slice a2 len2 cap2]) ⟨rfl, rfl, hx, trivial⟩ (Lav.sizeAsks a0 a1 (Lav.ints_of hr) (Lav.wf_of hr))

/-! ### THE ROW's STEP: WRITTEN OUT: LEAVE IT -/
set_option maxRecDepth 100000 in
theorem lifted (os : Os) (started : os.Started) (H : Type) (enc : TypeId × Value → H) :
    ReturnsInHanded {} Try.checked os 3 .any (Rows.sizeAsksSpec.pre6 enc Try.prog Try.f3 Rows.sizeAsksRow.domain false) (Rows.sizeAsksSpec.post enc Try.prog Try.f3 false true false false) := by
  refine returnsInHanded_of_change (C := Try.checked) own started (by kernel_rfl) Try.func3
    (ChangeSpec.witness6 (enc := enc) (C := Try.checked) false ⟨#[], #[.int .i64 0, .int .i64 0, .slice none 0 0], []⟩ 8 (by kernel_rfl) (by kernel_rfl) (by kernel_rfl) (by kernel_rfl)) ?_
  intro W base args ds gs before hval0 hW hcnd _
  have hval : ∀ (j : Nat) t v, Try.f3.params[j]? = some t → args[j]? = some v → Value.okWide Try.prog W .any base t v := hval0
  have hW' := hW
  obtain ⟨p, q, hA0, hV, rfl, hfz, hnd⟩ := hW
  have hA : DataW.TrodAll enc Try.prog W 0 (fun _ => true) true Try.f3.params.toList args.toList ds p := hA0
  rw [Try.params3] at hA hval
  obtain ⟨v0, vs0, d0, ds0, p0, q0, hargs, rfl, rfl, h0, r0⟩ := trodAll_cons hA
  obtain ⟨v1, vs1, d1, ds1, p1, q1, rfl, rfl, rfl, h1, r1⟩ := trodAll_cons r0
  obtain ⟨v2, vs2, d2, ds2, p2, q2, rfl, rfl, rfl, h2, r2⟩ := trodAll_cons r1
  obtain ⟨rfl, rfl, rfl⟩ := trodAll_nil r2
  obtain rfl : args = #[v0, v1, v2] := by cases args; simp_all
  obtain ⟨rfl, rfl⟩ := trodVars_none hV
  obtain ⟨a0, rfl, rfl, rfl, w0⟩ := open_int Try.underlying3 (hval 0 3 v0 rfl rfl) h0
  obtain ⟨a1, rfl, rfl, rfl, w1⟩ := open_int Try.underlying3 (hval 1 3 v1 rfl rfl) h1
  obtain ⟨a2, len2, cap2, rfl⟩ := okWide_slice Try.underlying22 (hval 2 22 v2 rfl rfl)
  have k2 := h2
  have lt2 : ∀ x ∈ p2, x.block < W.heap.size := by obtain ⟨m, hm⟩ := k2; exact DataW.trod_lt m _ _ _ hm
  obtain ⟨z2, w2⟩ : ∃ zs, IsRow .i64 W a2 len2 cap2 zs := by
    obtain ⟨fuel, hf⟩ := h2
    rcases open_ints Try.underlying22 Try.underlying3 (by kernel_rfl) hf with ⟨hcs, _⟩ | ⟨x, l, c, zs, hcs, _, hl, hm, hz, _, hcell, hwz⟩
    · simp [Value.cells] at hcs
      obtain ⟨rfl, rfl, rfl⟩ := hcs
      exact ⟨[], .inl ⟨rfl, rfl, rfl, rfl⟩⟩
    · simp [Value.cells] at hcs
      obtain ⟨rfl, rfl, rfl⟩ := hcs
      exact ⟨zs, .inr ⟨_, rfl, hl, hm, by simpa using hz, hcell, hwz⟩⟩
  clear hA0 hval0
  refine (walk a0 a1 a2 len2 cap2 z2 W w0 w1 w2).mono fun e W' ⟨he, bel⟩ => ?_
  subst he
  exact ⟨_, rfl, _, _, _, [], _, [], hW', trodAll_mk1 (shut_bool Try.underlying4 _), (trodAll_cons_mk (shut_int Try.underlying3 w0) (trodAll_cons_mk (shut_int Try.underlying3 w1) (trodAll_cons_mk (Below.trod laidOut (by kernel_rfl) (of_decide_eq_true (by kernel_rfl)) k2 bel lt2) trodAll_mk0))), rfl, bel.frame _, fun h => by cases h⟩

theorem over : Rows.sizeAsksRow.holds Try.pinned (OpenSpec.ofChange Rows.sizeAsksSpec) :=
  OpenClaim.holds_of_wide 3 Try.f3 rfl rfl rfl rfl rfl rfl rfl ⟨rfl, rfl, rfl, rfl, rfl⟩ rfl rfl rfl rfl rfl (by kernel_rfl) Try.func3 (by kernel_rfl)
    (of_decide_eq_true (by kernel_rfl)) (by unfold Func.isWrapper; first | (rw [if_pos (by decide +kernel)]; kernel_rfl) | (rw [if_neg (by decide +kernel)]; exact ⟨rfl, rfl⟩))
    (fun os started H enc _ => lifted os started H enc)

/-- ████ THE STATEMENT ████ -/
theorem proved : Rows.SizeAsksSaid := over
end Go.Proofs.Ytnjfpdkdafdfdaa.sizeAsks
