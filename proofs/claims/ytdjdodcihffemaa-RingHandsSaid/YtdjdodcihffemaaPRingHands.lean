/-
  Proved: whatever comes in, RingHands returns true and changes nothing that was there. No conditions beyond the given statement's.
-/
import Derived.Test.YtdjdodcihffemaaRows
import Derived.Test.YtdjdodcihffemaaIr
import Derived.WalkKit
import Derived.ProofKit
import Derived.OpenShut
import Derived.Below
import Derived.ShutString
set_option maxRecDepth 100000
set_option linter.unusedSimpArgs false
namespace Lav
open Go (IntKind)
noncomputable def ringHandsP (r0 : Nat) : Bool := good (evCallF table 200 9 5 [.c (.res false (61) r0)] Heap.empty)
theorem ringHands_0 : ringHandsP 0 = true := by kernel_rfl
theorem ringHands_1 : ringHandsP 1 = true := by kernel_rfl
theorem ringHands_2 : ringHandsP 2 = true := by kernel_rfl
theorem ringHands_3 : ringHandsP 3 = true := by kernel_rfl
theorem ringHands_4 : ringHandsP 4 = true := by kernel_rfl
theorem ringHands_5 : ringHandsP 5 = true := by kernel_rfl
theorem ringHands_6 : ringHandsP 6 = true := by kernel_rfl
theorem ringHands_7 : ringHandsP 7 = true := by kernel_rfl
theorem ringHands_8 : ringHandsP 8 = true := by kernel_rfl
theorem ringHands_9 : ringHandsP 9 = true := by kernel_rfl
theorem ringHands_10 : ringHandsP 10 = true := by kernel_rfl
theorem ringHands_11 : ringHandsP 11 = true := by kernel_rfl
theorem ringHands_12 : ringHandsP 12 = true := by kernel_rfl
theorem ringHands_13 : ringHandsP 13 = true := by kernel_rfl
theorem ringHands_14 : ringHandsP 14 = true := by kernel_rfl
theorem ringHands_15 : ringHandsP 15 = true := by kernel_rfl
theorem ringHands_16 : ringHandsP 16 = true := by kernel_rfl
theorem ringHands_17 : ringHandsP 17 = true := by kernel_rfl
theorem ringHands_18 : ringHandsP 18 = true := by kernel_rfl
theorem ringHands_19 : ringHandsP 19 = true := by kernel_rfl
theorem ringHands_20 : ringHandsP 20 = true := by kernel_rfl
theorem ringHands_21 : ringHandsP 21 = true := by kernel_rfl
theorem ringHands_22 : ringHandsP 22 = true := by kernel_rfl
theorem ringHands_23 : ringHandsP 23 = true := by kernel_rfl
theorem ringHands_24 : ringHandsP 24 = true := by kernel_rfl
theorem ringHands_25 : ringHandsP 25 = true := by kernel_rfl
theorem ringHands_26 : ringHandsP 26 = true := by kernel_rfl
theorem ringHands_27 : ringHandsP 27 = true := by kernel_rfl
theorem ringHands_28 : ringHandsP 28 = true := by kernel_rfl
theorem ringHands_29 : ringHandsP 29 = true := by kernel_rfl
theorem ringHands_30 : ringHandsP 30 = true := by kernel_rfl
theorem ringHands_31 : ringHandsP 31 = true := by kernel_rfl
theorem ringHands_32 : ringHandsP 32 = true := by kernel_rfl
theorem ringHands_33 : ringHandsP 33 = true := by kernel_rfl
theorem ringHands_34 : ringHandsP 34 = true := by kernel_rfl
theorem ringHands_35 : ringHandsP 35 = true := by kernel_rfl
theorem ringHands_36 : ringHandsP 36 = true := by kernel_rfl
theorem ringHands_37 : ringHandsP 37 = true := by kernel_rfl
theorem ringHands_38 : ringHandsP 38 = true := by kernel_rfl
theorem ringHands_39 : ringHandsP 39 = true := by kernel_rfl
theorem ringHands_40 : ringHandsP 40 = true := by kernel_rfl
theorem ringHands_41 : ringHandsP 41 = true := by kernel_rfl
theorem ringHands_42 : ringHandsP 42 = true := by kernel_rfl
theorem ringHands_43 : ringHandsP 43 = true := by kernel_rfl
theorem ringHands_44 : ringHandsP 44 = true := by kernel_rfl
theorem ringHands_45 : ringHandsP 45 = true := by kernel_rfl
theorem ringHands_46 : ringHandsP 46 = true := by kernel_rfl
theorem ringHands_47 : ringHandsP 47 = true := by kernel_rfl
theorem ringHands_48 : ringHandsP 48 = true := by kernel_rfl
theorem ringHands_49 : ringHandsP 49 = true := by kernel_rfl
theorem ringHands_50 : ringHandsP 50 = true := by kernel_rfl
theorem ringHands_51 : ringHandsP 51 = true := by kernel_rfl
theorem ringHands_52 : ringHandsP 52 = true := by kernel_rfl
theorem ringHands_53 : ringHandsP 53 = true := by kernel_rfl
theorem ringHands_54 : ringHandsP 54 = true := by kernel_rfl
theorem ringHands_55 : ringHandsP 55 = true := by kernel_rfl
theorem ringHands_56 : ringHandsP 56 = true := by kernel_rfl
theorem ringHands_57 : ringHandsP 57 = true := by kernel_rfl
theorem ringHands_58 : ringHandsP 58 = true := by kernel_rfl
theorem ringHands_59 : ringHandsP 59 = true := by kernel_rfl
theorem ringHands_60 : ringHandsP 60 = true := by kernel_rfl
theorem ringHands : allLt (fun r0 => ringHandsP r0) (61) = true := allLt_succ ringHands_60 (allLt_succ ringHands_59 (allLt_succ ringHands_58 (allLt_succ ringHands_57 (allLt_succ ringHands_56 (allLt_succ ringHands_55 (allLt_succ ringHands_54 (allLt_succ ringHands_53 (allLt_succ ringHands_52 (allLt_succ ringHands_51 (allLt_succ ringHands_50 (allLt_succ ringHands_49 (allLt_succ ringHands_48 (allLt_succ ringHands_47 (allLt_succ ringHands_46 (allLt_succ ringHands_45 (allLt_succ ringHands_44 (allLt_succ ringHands_43 (allLt_succ ringHands_42 (allLt_succ ringHands_41 (allLt_succ ringHands_40 (allLt_succ ringHands_39 (allLt_succ ringHands_38 (allLt_succ ringHands_37 (allLt_succ ringHands_36 (allLt_succ ringHands_35 (allLt_succ ringHands_34 (allLt_succ ringHands_33 (allLt_succ ringHands_32 (allLt_succ ringHands_31 (allLt_succ ringHands_30 (allLt_succ ringHands_29 (allLt_succ ringHands_28 (allLt_succ ringHands_27 (allLt_succ ringHands_26 (allLt_succ ringHands_25 (allLt_succ ringHands_24 (allLt_succ ringHands_23 (allLt_succ ringHands_22 (allLt_succ ringHands_21 (allLt_succ ringHands_20 (allLt_succ ringHands_19 (allLt_succ ringHands_18 (allLt_succ ringHands_17 (allLt_succ ringHands_16 (allLt_succ ringHands_15 (allLt_succ ringHands_14 (allLt_succ ringHands_13 (allLt_succ ringHands_12 (allLt_succ ringHands_11 (allLt_succ ringHands_10 (allLt_succ ringHands_9 (allLt_succ ringHands_8 (allLt_succ ringHands_7 (allLt_succ ringHands_6 (allLt_succ ringHands_5 (allLt_succ ringHands_4 (allLt_succ ringHands_3 (allLt_succ ringHands_2 (allLt_succ ringHands_1 (allLt_succ ringHands_0 (rfl)))))))))))))))))))))))))))))))))))))))))))))))))))))))))))))

end Lav

namespace Go.Proofs.Ytdjdodcihffemaa.ringHands
open Go.ChangeShapes Go.WideShapes Go.ChangeAt Go.RowKit
open Go.ChangeMaps (open_string shut_string)
set_option linter.unusedVariables false      -- a walk need not use every 'w<i>' (that an integer argument fits its kind)

theorem own : ownKnob Try.prog.godebug = none := by kernel_rfl

/-! ### STEP 1: THE WALK: the Go text returns true. 'Below w.heap.size w w'': the world has at most new blocks (Derived/RowKit3.lean). Part the cases AHEAD of 'go_enter' where a test parts the walk; take each callee by a contract of your own. -/
theorem walk (a0 : Int) (w0 : (Lit.int .i64 a0).wf = true) (w : World) :
    Calls Try.prog 5 #[.int .i64 a0] w fun e w' => e = .returned (.bool true) ∧ Below w.heap.size w w' := by
  obtain ⟨r0, h0, c0⟩ := Lav.res_of a0 (61) (by omega)
  have g := Lav.ringHands
  replace g := Lav.allLt_spec g r0 h0
  exact Lav.walk_of (Lav.calls_okF 200 9) (Lav.Init.empty w) (args := [.c (.res false (61) r0)]) (vs := [.int .i64 a0]) ⟨c0 _, trivial⟩ g

/-! ### THE ROW's STEP: WRITTEN OUT: LEAVE IT -/
set_option maxRecDepth 100000 in
theorem lifted (os : Os) (started : os.Started) (H : Type) (enc : TypeId × Value → H) :
    ReturnsInHanded {} Try.checked os 5 .any (Rows.ringHandsSpec.pre6 enc Try.prog Try.f5 Rows.ringHandsRow.domain false) (Rows.ringHandsSpec.post enc Try.prog Try.f5 false true false false) := by
  refine returnsInHanded_of_change (C := Try.checked) own started (by kernel_rfl) Try.func5
    (ChangeSpec.witness6 (enc := enc) (C := Try.checked) false ⟨#[], #[.int .i64 0], []⟩ 8 (by kernel_rfl) (by kernel_rfl) (by kernel_rfl) (by kernel_rfl)) ?_
  intro W base args ds gs before hval0 hW hcnd _
  have hval : ∀ (j : Nat) t v, Try.f5.params[j]? = some t → args[j]? = some v → Value.okWide Try.prog W .any base t v := hval0
  have hW' := hW
  obtain ⟨p, q, hA0, hV, rfl, hfz, hnd⟩ := hW
  have hA : DataW.TrodAll enc Try.prog W 0 (fun _ => true) true Try.f5.params.toList args.toList ds p := hA0
  rw [Try.params5] at hA hval
  obtain ⟨v0, vs0, d0, ds0, p0, q0, hargs, rfl, rfl, h0, r0⟩ := trodAll_cons hA
  obtain ⟨rfl, rfl, rfl⟩ := trodAll_nil r0
  obtain rfl : args = #[v0] := by cases args; simp_all
  obtain ⟨rfl, rfl⟩ := trodVars_none hV
  obtain ⟨a0, rfl, rfl, rfl, w0⟩ := open_int Try.underlying3 (hval 0 3 v0 rfl rfl) h0
  clear hA0 hval0
  refine (walk a0 w0 W).mono fun e W' ⟨he, hg⟩ => ?_
  subst he
  exact ⟨_, rfl, _, _, _, [], _, [], hW', trodAll_mk1 (shut_bool Try.underlying4 _), (trodAll_cons_mk (shut_int Try.underlying3 w0) trodAll_mk0), rfl, hg.frame _, fun h => by cases h⟩

theorem over : Rows.ringHandsRow.holds Try.pinned (OpenSpec.ofChange Rows.ringHandsSpec) :=
  OpenClaim.holds_of_wide 5 Try.f5 rfl rfl rfl rfl rfl rfl rfl ⟨rfl, rfl, rfl, rfl, rfl⟩ rfl rfl rfl rfl rfl (by kernel_rfl) Try.func5 (by kernel_rfl)
    (of_decide_eq_true (by kernel_rfl)) (by unfold Func.isWrapper; first | (rw [if_pos (by decide +kernel)]; kernel_rfl) | (rw [if_neg (by decide +kernel)]; exact ⟨rfl, rfl⟩))
    (fun os started H enc _ => lifted os started H enc)

/-- ████ THE STATEMENT ████ -/
theorem proved : Rows.RingHandsSaid :=
  over
end Go.Proofs.Ytdjdodcihffemaa.ringHands
