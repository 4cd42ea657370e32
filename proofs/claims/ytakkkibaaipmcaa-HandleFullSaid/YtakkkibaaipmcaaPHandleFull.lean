/-
  Proved: whatever comes in, HandleFull returns true and changes nothing that was there. No conditions beyond the given statement's.
-/
import Derived.Test.YtakkkibaaipmcaaRows
import Derived.Test.YtakkkibaaipmcaaIr
import Derived.WalkKit
import Derived.ProofKit
import Derived.OpenShut
import Derived.Below
import Derived.ShutString
set_option maxRecDepth 100000
set_option linter.unusedSimpArgs false
namespace Lav
open Go (IntKind)
theorem tld : ToldOK Go.Proofs.Try.prog 14 := told_of (calls_okF 200 9) (by kernel_rfl)
noncomputable def handleFullP (r0 : Nat) : Bool := allLt (fun r1 => good (evCallT table 14 200 9 5 [.c (.res false (48) r0), .c (.res false (6) r1)] Heap.empty)) (6)
theorem handleFull_0 : handleFullP 0 = true := by kernel_rfl
theorem handleFull_1 : handleFullP 1 = true := by kernel_rfl
theorem handleFull_2 : handleFullP 2 = true := by kernel_rfl
theorem handleFull_3 : handleFullP 3 = true := by kernel_rfl
theorem handleFull_4 : handleFullP 4 = true := by kernel_rfl
theorem handleFull_5 : handleFullP 5 = true := by kernel_rfl
theorem handleFull_6 : handleFullP 6 = true := by kernel_rfl
theorem handleFull_7 : handleFullP 7 = true := by kernel_rfl
theorem handleFull_8 : handleFullP 8 = true := by kernel_rfl
theorem handleFull_9 : handleFullP 9 = true := by kernel_rfl
theorem handleFull_10 : handleFullP 10 = true := by kernel_rfl
theorem handleFull_11 : handleFullP 11 = true := by kernel_rfl
theorem handleFull_12 : handleFullP 12 = true := by kernel_rfl
theorem handleFull_13 : handleFullP 13 = true := by kernel_rfl
theorem handleFull_14 : handleFullP 14 = true := by kernel_rfl
theorem handleFull_15 : handleFullP 15 = true := by kernel_rfl
theorem handleFull_16 : handleFullP 16 = true := by kernel_rfl
theorem handleFull_17 : handleFullP 17 = true := by kernel_rfl
theorem handleFull_18 : handleFullP 18 = true := by kernel_rfl
theorem handleFull_19 : handleFullP 19 = true := by kernel_rfl
theorem handleFull_20 : handleFullP 20 = true := by kernel_rfl
theorem handleFull_21 : handleFullP 21 = true := by kernel_rfl
theorem handleFull_22 : handleFullP 22 = true := by kernel_rfl
theorem handleFull_23 : handleFullP 23 = true := by kernel_rfl
theorem handleFull_24 : handleFullP 24 = true := by kernel_rfl
theorem handleFull_25 : handleFullP 25 = true := by kernel_rfl
theorem handleFull_26 : handleFullP 26 = true := by kernel_rfl
theorem handleFull_27 : handleFullP 27 = true := by kernel_rfl
theorem handleFull_28 : handleFullP 28 = true := by kernel_rfl
theorem handleFull_29 : handleFullP 29 = true := by kernel_rfl
theorem handleFull_30 : handleFullP 30 = true := by kernel_rfl
theorem handleFull_31 : handleFullP 31 = true := by kernel_rfl
theorem handleFull_32 : handleFullP 32 = true := by kernel_rfl
theorem handleFull_33 : handleFullP 33 = true := by kernel_rfl
theorem handleFull_34 : handleFullP 34 = true := by kernel_rfl
theorem handleFull_35 : handleFullP 35 = true := by kernel_rfl
theorem handleFull_36 : handleFullP 36 = true := by kernel_rfl
theorem handleFull_37 : handleFullP 37 = true := by kernel_rfl
theorem handleFull_38 : handleFullP 38 = true := by kernel_rfl
theorem handleFull_39 : handleFullP 39 = true := by kernel_rfl
theorem handleFull_40 : handleFullP 40 = true := by kernel_rfl
theorem handleFull_41 : handleFullP 41 = true := by kernel_rfl
theorem handleFull_42 : handleFullP 42 = true := by kernel_rfl
theorem handleFull_43 : handleFullP 43 = true := by kernel_rfl
theorem handleFull_44 : handleFullP 44 = true := by kernel_rfl
theorem handleFull_45 : handleFullP 45 = true := by kernel_rfl
theorem handleFull_46 : handleFullP 46 = true := by kernel_rfl
theorem handleFull_47 : handleFullP 47 = true := by kernel_rfl
theorem handleFull : allLt (fun r0 => handleFullP r0) (48) = true := allLt_succ handleFull_47 (allLt_succ handleFull_46 (allLt_succ handleFull_45 (allLt_succ handleFull_44 (allLt_succ handleFull_43 (allLt_succ handleFull_42 (allLt_succ handleFull_41 (allLt_succ handleFull_40 (allLt_succ handleFull_39 (allLt_succ handleFull_38 (allLt_succ handleFull_37 (allLt_succ handleFull_36 (allLt_succ handleFull_35 (allLt_succ handleFull_34 (allLt_succ handleFull_33 (allLt_succ handleFull_32 (allLt_succ handleFull_31 (allLt_succ handleFull_30 (allLt_succ handleFull_29 (allLt_succ handleFull_28 (allLt_succ handleFull_27 (allLt_succ handleFull_26 (allLt_succ handleFull_25 (allLt_succ handleFull_24 (allLt_succ handleFull_23 (allLt_succ handleFull_22 (allLt_succ handleFull_21 (allLt_succ handleFull_20 (allLt_succ handleFull_19 (allLt_succ handleFull_18 (allLt_succ handleFull_17 (allLt_succ handleFull_16 (allLt_succ handleFull_15 (allLt_succ handleFull_14 (allLt_succ handleFull_13 (allLt_succ handleFull_12 (allLt_succ handleFull_11 (allLt_succ handleFull_10 (allLt_succ handleFull_9 (allLt_succ handleFull_8 (allLt_succ handleFull_7 (allLt_succ handleFull_6 (allLt_succ handleFull_5 (allLt_succ handleFull_4 (allLt_succ handleFull_3 (allLt_succ handleFull_2 (allLt_succ handleFull_1 (allLt_succ handleFull_0 (rfl))))))))))))))))))))))))))))))))))))))))))))))))

end Lav

namespace Go.Proofs.Ytakkkibaaipmcaa.handleFull
open Go.ChangeShapes Go.WideShapes Go.ChangeAt Go.RowKit
open Go.ChangeMaps (open_string shut_string)
set_option linter.unusedVariables false      -- a walk need not use every 'w<i>' (that an integer argument fits its kind)

theorem own : ownKnob Try.prog.godebug = none := by kernel_rfl

/-! ### STEP 1: THE WALK: the Go text returns true. 'Below w.heap.size w w'': the world has at most new blocks (Derived/RowKit3.lean). Part the cases AHEAD of 'go_enter' where a test parts the walk; take each callee by a contract of your own. -/
theorem walk (a0 : Int) (a1 : Int) (w0 : (Lit.int .i64 a0).wf = true) (w1 : (Lit.int .i64 a1).wf = true) (w : World) :
    Calls Try.prog 5 #[.int .i64 a0, .int .i64 a1] w fun e w' => e = .returned (.bool true) ∧ Below w.heap.size w w' := by
  obtain ⟨r0, h0, c0⟩ := Lav.res_of a0 (48) (by omega)
  obtain ⟨r1, h1, c1⟩ := Lav.res_of a1 (6) (by omega)
  have g := Lav.handleFull
  replace g := Lav.allLt_spec g r0 h0
  replace g := Lav.allLt_spec g r1 h1
  exact Lav.walk_of (Lav.evCallT_sound Lav.mixed Lav.table_ok Lav.tld 200 9) (Lav.Init.empty w) (args := [.c (.res false (48) r0), .c (.res false (6) r1)]) (vs := [.int .i64 a0, .int .i64 a1]) ⟨c0 _, c1 _, trivial⟩ g

/-! ### THE ROW's STEP: WRITTEN OUT: LEAVE IT -/
set_option maxRecDepth 100000 in
theorem lifted (os : Os) (started : os.Started) (H : Type) (enc : TypeId × Value → H) :
    ReturnsInHanded {} Try.checked os 5 .any (Rows.handleFullSpec.pre6 enc Try.prog Try.f5 Rows.handleFullRow.domain false) (Rows.handleFullSpec.post enc Try.prog Try.f5 false true false false) := by
  refine returnsInHanded_of_change (C := Try.checked) own started (by kernel_rfl) Try.func5
    (ChangeSpec.witness6 (enc := enc) (C := Try.checked) false ⟨#[], #[.int .i64 0, .int .i64 0], []⟩ 8 (by kernel_rfl) (by kernel_rfl) (by kernel_rfl) (by kernel_rfl)) ?_
  intro W base args ds gs before hval0 hW hcnd _
  have hval : ∀ (j : Nat) t v, Try.f5.params[j]? = some t → args[j]? = some v → Value.okWide Try.prog W .any base t v := hval0
  have hW' := hW
  obtain ⟨p, q, hA0, hV, rfl, hfz, hnd⟩ := hW
  have hA : DataW.TrodAll enc Try.prog W 0 (fun _ => true) true Try.f5.params.toList args.toList ds p := hA0
  rw [Try.params5] at hA hval
  obtain ⟨v0, vs0, d0, ds0, p0, q0, hargs, rfl, rfl, h0, r0⟩ := trodAll_cons hA
  obtain ⟨v1, vs1, d1, ds1, p1, q1, rfl, rfl, rfl, h1, r1⟩ := trodAll_cons r0
  obtain ⟨rfl, rfl, rfl⟩ := trodAll_nil r1
  obtain rfl : args = #[v0, v1] := by cases args; simp_all
  obtain ⟨rfl, rfl⟩ := trodVars_none hV
  obtain ⟨a0, rfl, rfl, rfl, w0⟩ := open_int Try.underlying3 (hval 0 3 v0 rfl rfl) h0
  obtain ⟨a1, rfl, rfl, rfl, w1⟩ := open_int Try.underlying3 (hval 1 3 v1 rfl rfl) h1
  clear hA0 hval0
  refine (walk a0 a1 w0 w1 W).mono fun e W' ⟨he, hg⟩ => ?_
  subst he
  exact ⟨_, rfl, _, _, _, [], _, [], hW', trodAll_mk1 (shut_bool Try.underlying4 _), (trodAll_cons_mk (shut_int Try.underlying3 w0) (trodAll_cons_mk (shut_int Try.underlying3 w1) trodAll_mk0)), rfl, hg.frame _, fun h => by cases h⟩

theorem over : Rows.handleFullRow.holds Try.pinned (OpenSpec.ofChange Rows.handleFullSpec) :=
  OpenClaim.holds_of_wide 5 Try.f5 rfl rfl rfl rfl rfl rfl rfl ⟨rfl, rfl, rfl, rfl, rfl⟩ rfl rfl rfl rfl rfl (by kernel_rfl) Try.func5 (by kernel_rfl)
    (of_decide_eq_true (by kernel_rfl)) (by unfold Func.isWrapper; first | (rw [if_pos (by decide +kernel)]; kernel_rfl) | (rw [if_neg (by decide +kernel)]; exact ⟨rfl, rfl⟩))
    (fun os started H enc _ => lifted os started H enc)

/-- ████ THE STATEMENT ████ -/
theorem proved : Rows.HandleFullSaid :=
  over
end Go.Proofs.Ytakkkibaaipmcaa.handleFull
