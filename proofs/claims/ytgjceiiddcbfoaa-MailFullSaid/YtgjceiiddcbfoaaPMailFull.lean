/-
  Proved: whatever comes in, MailFull returns true and changes nothing that was there. No conditions beyond the given statement's.
-/
import Derived.Test.YtgjceiiddcbfoaaRows
import Derived.Test.YtgjceiiddcbfoaaIr
import Derived.WalkKit
import Derived.ProofKit
import Derived.OpenShut
import Derived.Below
import Derived.ShutString
set_option maxRecDepth 100000
set_option linter.unusedSimpArgs false
namespace Lav
open Go (IntKind)
theorem tld : ToldOK Go.Proofs.Try.prog 13 := told_of (calls_okF 200 9) (by kernel_rfl)
noncomputable def mailFullP (r0 : Nat) : Bool := allLt (fun r1 => good (evCallT table 13 200 9 5 [.c (.res false (21) r0), .c (.res false (10) r1)] Heap.empty)) (10)
theorem mailFull_0 : mailFullP 0 = true := by kernel_rfl
theorem mailFull_1 : mailFullP 1 = true := by kernel_rfl
theorem mailFull_2 : mailFullP 2 = true := by kernel_rfl
theorem mailFull_3 : mailFullP 3 = true := by kernel_rfl
theorem mailFull_4 : mailFullP 4 = true := by kernel_rfl
theorem mailFull_5 : mailFullP 5 = true := by kernel_rfl
theorem mailFull_6 : mailFullP 6 = true := by kernel_rfl
theorem mailFull_7 : mailFullP 7 = true := by kernel_rfl
theorem mailFull_8 : mailFullP 8 = true := by kernel_rfl
theorem mailFull_9 : mailFullP 9 = true := by kernel_rfl
theorem mailFull_10 : mailFullP 10 = true := by kernel_rfl
theorem mailFull_11 : mailFullP 11 = true := by kernel_rfl
theorem mailFull_12 : mailFullP 12 = true := by kernel_rfl
theorem mailFull_13 : mailFullP 13 = true := by kernel_rfl
theorem mailFull_14 : mailFullP 14 = true := by kernel_rfl
theorem mailFull_15 : mailFullP 15 = true := by kernel_rfl
theorem mailFull_16 : mailFullP 16 = true := by kernel_rfl
theorem mailFull_17 : mailFullP 17 = true := by kernel_rfl
theorem mailFull_18 : mailFullP 18 = true := by kernel_rfl
theorem mailFull_19 : mailFullP 19 = true := by kernel_rfl
theorem mailFull_20 : mailFullP 20 = true := by kernel_rfl
theorem mailFull : allLt (fun r0 => mailFullP r0) (21) = true := allLt_succ mailFull_20 (allLt_succ mailFull_19 (allLt_succ mailFull_18 (allLt_succ mailFull_17 (allLt_succ mailFull_16 (allLt_succ mailFull_15 (allLt_succ mailFull_14 (allLt_succ mailFull_13 (allLt_succ mailFull_12 (allLt_succ mailFull_11 (allLt_succ mailFull_10 (allLt_succ mailFull_9 (allLt_succ mailFull_8 (allLt_succ mailFull_7 (allLt_succ mailFull_6 (allLt_succ mailFull_5 (allLt_succ mailFull_4 (allLt_succ mailFull_3 (allLt_succ mailFull_2 (allLt_succ mailFull_1 (allLt_succ mailFull_0 (rfl)))))))))))))))))))))

end Lav

namespace Go.Proofs.Ytgjceiiddcbfoaa.mailFull
open Go.ChangeShapes Go.WideShapes Go.ChangeAt Go.RowKit
open Go.ChangeMaps (open_string shut_string)
set_option linter.unusedVariables false      -- a walk need not use every 'w<i>' (that an integer argument fits its kind)

theorem own : ownKnob Try.prog.godebug = none := by kernel_rfl

/-! ### STEP 1: THE WALK: the Go text returns true. 'Below w.heap.size w w'': the world has at most new blocks (Derived/RowKit3.lean). Part the cases AHEAD of 'go_enter' where a test parts the walk; take each callee by a contract of your own. -/
theorem walk (a0 : Int) (a1 : Int) (w0 : (Lit.int .i64 a0).wf = true) (w1 : (Lit.int .i64 a1).wf = true) (w : World) :
    Calls Try.prog 5 #[.int .i64 a0, .int .i64 a1] w fun e w' => e = .returned (.bool true) ∧ Below w.heap.size w w' := by
  obtain ⟨r0, h0, c0⟩ := Lav.res_of a0 (21) (by omega)
  obtain ⟨r1, h1, c1⟩ := Lav.res_of a1 (10) (by omega)
  have g := Lav.mailFull
  replace g := Lav.allLt_spec g r0 h0
  replace g := Lav.allLt_spec g r1 h1
  exact Lav.walk_of (Lav.evCallT_sound Lav.mixed Lav.table_ok Lav.tld 200 9) (Lav.Init.empty w) (args := [.c (.res false (21) r0), .c (.res false (10) r1)]) (vs := [.int .i64 a0, .int .i64 a1]) ⟨c0 _, c1 _, trivial⟩ g

/-! ### THE ROW's STEP: WRITTEN OUT: LEAVE IT -/
set_option maxRecDepth 100000 in
theorem lifted (os : Os) (started : os.Started) (H : Type) (enc : TypeId × Value → H) :
    ReturnsInHanded {} Try.checked os 5 .any (Rows.mailFullSpec.pre6 enc Try.prog Try.f5 Rows.mailFullRow.domain false) (Rows.mailFullSpec.post enc Try.prog Try.f5 false true false false) := by
  refine returnsInHanded_of_change (C := Try.checked) own started (by kernel_rfl) Try.func5
    (ChangeSpec.witness6 (enc := enc) (C := Try.checked) false ⟨#[], #[.int .i64 0, .int .i64 0], []⟩ 8 (by kernel_rfl) (by kernel_rfl) (by kernel_rfl) (by kernel_rfl)) ?_
  intro W base args ds gs before hval0 hW hcnd _
  have hval : ∀ (j : Nat) t v, Try.f5.params[j]? = some t → args[j]? = some v → Value.okWide Try.prog W .any base t v := hval0
  have hW' := hW
  obtain ⟨p, q, hA0, hV, rfl, hfz, hnd⟩ := hW
  have hA : DataW.TrodAll enc Try.prog W 0 (fun _ => true) true Try.f5.params.toList args.toList ds p := hA0
  rw [Try.params5] at hA hval
  obtain ⟨v0, vs0, d0, ds0, p0, q0, hargs, rfl, rfl, h0, r0⟩ := trodAll_cons hA
  obtain ⟨v1, vs1, d1, ds1, p1, q1, rfl, rfl, rfl, h1, r1⟩ := trodAll_cons r0
  obtain ⟨rfl, rfl, rfl⟩ := trodAll_nil r1
  obtain rfl : args = #[v0, v1] := by cases args; simp_all
  obtain ⟨rfl, rfl⟩ := trodVars_none hV
  obtain ⟨a0, rfl, rfl, rfl, w0⟩ := open_int Try.underlying3 (hval 0 3 v0 rfl rfl) h0
  obtain ⟨a1, rfl, rfl, rfl, w1⟩ := open_int Try.underlying3 (hval 1 3 v1 rfl rfl) h1
  clear hA0 hval0
  refine (walk a0 a1 w0 w1 W).mono fun e W' ⟨he, hg⟩ => ?_
  subst he
  exact ⟨_, rfl, _, _, _, [], _, [], hW', trodAll_mk1 (shut_bool Try.underlying4 _), (trodAll_cons_mk (shut_int Try.underlying3 w0) (trodAll_cons_mk (shut_int Try.underlying3 w1) trodAll_mk0)), rfl, hg.frame _, fun h => by cases h⟩

theorem over : Rows.mailFullRow.holds Try.pinned (OpenSpec.ofChange Rows.mailFullSpec) :=
  OpenClaim.holds_of_wide 5 Try.f5 rfl rfl rfl rfl rfl rfl rfl ⟨rfl, rfl, rfl, rfl, rfl⟩ rfl rfl rfl rfl rfl (by kernel_rfl) Try.func5 (by kernel_rfl)
    (of_decide_eq_true (by kernel_rfl)) (by unfold Func.isWrapper; first | (rw [if_pos (by decide +kernel)]; kernel_rfl) | (rw [if_neg (by decide +kernel)]; exact ⟨rfl, rfl⟩))
    (fun os started H enc _ => lifted os started H enc)

/-- ████ THE STATEMENT ████ -/
theorem proved : Rows.MailFullSaid :=
  over
end Go.Proofs.Ytgjceiiddcbfoaa.mailFull
