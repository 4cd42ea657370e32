/-
  Proved: whatever comes in, HandleOwn returns true and changes nothing that was there. No conditions beyond the given statement's.
-/
import Derived.Test.YtakkkibaaipmcaaRows
import Derived.Test.YtakkkibaaipmcaaIr
import Derived.WalkKit
import Derived.ProofKit
import Derived.OpenShut
import Derived.Below
import Derived.ShutString
set_option maxRecDepth 100000
set_option linter.unusedSimpArgs false
namespace Lav
open Go (IntKind)
theorem tld : ToldOK Go.Proofs.Try.prog 14 := told_of (calls_okF 200 9) (by kernel_rfl)
noncomputable def handleOwnP (r0 : Nat) : Bool := allLt (fun r1 => good (evCallT table 14 200 9 3 [.c (.res false (41) r0), .c (.res false (2) r1)] Heap.empty)) (2)
theorem handleOwn_0 : handleOwnP 0 = true := by kernel_rfl
theorem handleOwn_1 : handleOwnP 1 = true := by kernel_rfl
theorem handleOwn_2 : handleOwnP 2 = true := by kernel_rfl
theorem handleOwn_3 : handleOwnP 3 = true := by kernel_rfl
theorem handleOwn_4 : handleOwnP 4 = true := by kernel_rfl
theorem handleOwn_5 : handleOwnP 5 = true := by kernel_rfl
theorem handleOwn_6 : handleOwnP 6 = true := by kernel_rfl
theorem handleOwn_7 : handleOwnP 7 = true := by kernel_rfl
theorem handleOwn_8 : handleOwnP 8 = true := by kernel_rfl
theorem handleOwn_9 : handleOwnP 9 = true := by kernel_rfl
theorem handleOwn_10 : handleOwnP 10 = true := by kernel_rfl
theorem handleOwn_11 : handleOwnP 11 = true := by kernel_rfl
theorem handleOwn_12 : handleOwnP 12 = true := by kernel_rfl
theorem handleOwn_13 : handleOwnP 13 = true := by kernel_rfl
theorem handleOwn_14 : handleOwnP 14 = true := by kernel_rfl
theorem handleOwn_15 : handleOwnP 15 = true := by kernel_rfl
theorem handleOwn_16 : handleOwnP 16 = true := by kernel_rfl
theorem handleOwn_17 : handleOwnP 17 = true := by kernel_rfl
theorem handleOwn_18 : handleOwnP 18 = true := by kernel_rfl
theorem handleOwn_19 : handleOwnP 19 = true := by kernel_rfl
theorem handleOwn_20 : handleOwnP 20 = true := by kernel_rfl
theorem handleOwn_21 : handleOwnP 21 = true := by kernel_rfl
theorem handleOwn_22 : handleOwnP 22 = true := by kernel_rfl
theorem handleOwn_23 : handleOwnP 23 = true := by kernel_rfl
theorem handleOwn_24 : handleOwnP 24 = true := by kernel_rfl
theorem handleOwn_25 : handleOwnP 25 = true := by kernel_rfl
theorem handleOwn_26 : handleOwnP 26 = true := by kernel_rfl
theorem handleOwn_27 : handleOwnP 27 = true := by kernel_rfl
theorem handleOwn_28 : handleOwnP 28 = true := by kernel_rfl
theorem handleOwn_29 : handleOwnP 29 = true := by kernel_rfl
theorem handleOwn_30 : handleOwnP 30 = true := by kernel_rfl
theorem handleOwn_31 : handleOwnP 31 = true := by kernel_rfl
theorem handleOwn_32 : handleOwnP 32 = true := by kernel_rfl
theorem handleOwn_33 : handleOwnP 33 = true := by kernel_rfl
theorem handleOwn_34 : handleOwnP 34 = true := by kernel_rfl
theorem handleOwn_35 : handleOwnP 35 = true := by kernel_rfl
theorem handleOwn_36 : handleOwnP 36 = true := by kernel_rfl
theorem handleOwn_37 : handleOwnP 37 = true := by kernel_rfl
theorem handleOwn_38 : handleOwnP 38 = true := by kernel_rfl
theorem handleOwn_39 : handleOwnP 39 = true := by kernel_rfl
theorem handleOwn_40 : handleOwnP 40 = true := by kernel_rfl
theorem handleOwn : allLt (fun r0 => handleOwnP r0) (41) = true := allLt_succ handleOwn_40 (allLt_succ handleOwn_39 (allLt_succ handleOwn_38 (allLt_succ handleOwn_37 (allLt_succ handleOwn_36 (allLt_succ handleOwn_35 (allLt_succ handleOwn_34 (allLt_succ handleOwn_33 (allLt_succ handleOwn_32 (allLt_succ handleOwn_31 (allLt_succ handleOwn_30 (allLt_succ handleOwn_29 (allLt_succ handleOwn_28 (allLt_succ handleOwn_27 (allLt_succ handleOwn_26 (allLt_succ handleOwn_25 (allLt_succ handleOwn_24 (allLt_succ handleOwn_23 (allLt_succ handleOwn_22 (allLt_succ handleOwn_21 (allLt_succ handleOwn_20 (allLt_succ handleOwn_19 (allLt_succ handleOwn_18 (allLt_succ handleOwn_17 (allLt_succ handleOwn_16 (allLt_succ handleOwn_15 (allLt_succ handleOwn_14 (allLt_succ handleOwn_13 (allLt_succ handleOwn_12 (allLt_succ handleOwn_11 (allLt_succ handleOwn_10 (allLt_succ handleOwn_9 (allLt_succ handleOwn_8 (allLt_succ handleOwn_7 (allLt_succ handleOwn_6 (allLt_succ handleOwn_5 (allLt_succ handleOwn_4 (allLt_succ handleOwn_3 (allLt_succ handleOwn_2 (allLt_succ handleOwn_1 (allLt_succ handleOwn_0 (rfl)))))))))))))))))))))))))))))))))))))))))

end Lav

namespace Go.Proofs.Ytakkkibaaipmcaa.handleOwn
open Go.ChangeShapes Go.WideShapes Go.ChangeAt Go.RowKit
open Go.ChangeMaps (open_string shut_string)
set_option linter.unusedVariables false      -- a walk need not use every 'w<i>' (that an integer argument fits its kind)

theorem own : ownKnob Try.prog.godebug = none := by kernel_rfl

/-! ### STEP 1: THE WALK: the Go text returns true. 'Below w.heap.size w w'': the world has at most new blocks (Derived/RowKit3.lean). Part the cases AHEAD of 'go_enter' where a test parts the walk; take each callee by a contract of your own. -/
theorem walk (a0 : Int) (a1 : Int) (w0 : (Lit.int .i64 a0).wf = true) (w1 : (Lit.int .i64 a1).wf = true) (w : World) :
    Calls Try.prog 3 #[.int .i64 a0, .int .i64 a1] w fun e w' => e = .returned (.bool true) ∧ Below w.heap.size w w' := by
  obtain ⟨r0, h0, c0⟩ := Lav.res_of a0 (41) (by omega)
  obtain ⟨r1, h1, c1⟩ := Lav.res_of a1 (2) (by omega)
  have g := Lav.handleOwn
  replace g := Lav.allLt_spec g r0 h0
  replace g := Lav.allLt_spec g r1 h1
  exact Lav.walk_of (Lav.evCallT_sound Lav.mixed Lav.table_ok Lav.tld 200 9) (Lav.Init.empty w) (args := [.c (.res false (41) r0), .c (.res false (2) r1)]) (vs := [.int .i64 a0, .int .i64 a1]) ⟨c0 _, c1 _, trivial⟩ g

/-! ### THE ROW's STEP: WRITTEN OUT: LEAVE IT -/
set_option maxRecDepth 100000 in
theorem lifted (os : Os) (started : os.Started) (H : Type) (enc : TypeId × Value → H) :
    ReturnsInHanded {} Try.checked os 3 .any (Rows.handleOwnSpec.pre6 enc Try.prog Try.f3 Rows.handleOwnRow.domain false) (Rows.handleOwnSpec.post enc Try.prog Try.f3 false true false false) := by
  refine returnsInHanded_of_change (C := Try.checked) own started (by kernel_rfl) Try.func3
    (ChangeSpec.witness6 (enc := enc) (C := Try.checked) false ⟨#[], #[.int .i64 0, .int .i64 0], []⟩ 8 (by kernel_rfl) (by kernel_rfl) (by kernel_rfl) (by kernel_rfl)) ?_
  intro W base args ds gs before hval0 hW hcnd _
  have hval : ∀ (j : Nat) t v, Try.f3.params[j]? = some t → args[j]? = some v → Value.okWide Try.prog W .any base t v := hval0
  have hW' := hW
  obtain ⟨p, q, hA0, hV, rfl, hfz, hnd⟩ := hW
  have hA : DataW.TrodAll enc Try.prog W 0 (fun _ => true) true Try.f3.params.toList args.toList ds p := hA0
  rw [Try.params3] at hA hval
  obtain ⟨v0, vs0, d0, ds0, p0, q0, hargs, rfl, rfl, h0, r0⟩ := trodAll_cons hA
  obtain ⟨v1, vs1, d1, ds1, p1, q1, rfl, rfl, rfl, h1, r1⟩ := trodAll_cons r0
  obtain ⟨rfl, rfl, rfl⟩ := trodAll_nil r1
  obtain rfl : args = #[v0, v1] := by cases args; simp_all
  obtain ⟨rfl, rfl⟩ := trodVars_none hV
  obtain ⟨a0, rfl, rfl, rfl, w0⟩ := open_int Try.underlying3 (hval 0 3 v0 rfl rfl) h0
  obtain ⟨a1, rfl, rfl, rfl, w1⟩ := open_int Try.underlying3 (hval 1 3 v1 rfl rfl) h1
  clear hA0 hval0
  refine (walk a0 a1 w0 w1 W).mono fun e W' ⟨he, hg⟩ => ?_
  subst he
  exact ⟨_, rfl, _, _, _, [], _, [], hW', trodAll_mk1 (shut_bool Try.underlying4 _), (trodAll_cons_mk (shut_int Try.underlying3 w0) (trodAll_cons_mk (shut_int Try.underlying3 w1) trodAll_mk0)), rfl, hg.frame _, fun h => by cases h⟩

theorem over : Rows.handleOwnRow.holds Try.pinned (OpenSpec.ofChange Rows.handleOwnSpec) :=
  OpenClaim.holds_of_wide 3 Try.f3 rfl rfl rfl rfl rfl rfl rfl ⟨rfl, rfl, rfl, rfl, rfl⟩ rfl rfl rfl rfl rfl (by kernel_rfl) Try.func3 (by kernel_rfl)
    (of_decide_eq_true (by kernel_rfl)) (by unfold Func.isWrapper; first | (rw [if_pos (by decide +kernel)]; kernel_rfl) | (rw [if_neg (by decide +kernel)]; exact ⟨rfl, rfl⟩))
    (fun os started H enc _ => lifted os started H enc)

/-- ████ THE STATEMENT ████ -/
theorem proved : Rows.HandleOwnSaid :=
  over
end Go.Proofs.Ytakkkibaaipmcaa.handleOwn
