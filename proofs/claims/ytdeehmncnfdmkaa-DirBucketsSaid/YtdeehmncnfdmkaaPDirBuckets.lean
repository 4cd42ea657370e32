/-
  Proved: whatever comes in, DirBuckets returns true and changes nothing that was there. No conditions beyond the given statement's.
-/
import Derived.Test.YtdeehmncnfdmkaaRows
import Derived.Test.YtdeehmncnfdmkaaIr
import Derived.WalkKit
import Derived.ProofKit
import Derived.OpenShut
import Derived.Below
import Derived.ShutString
set_option maxRecDepth 100000
set_option linter.unusedSimpArgs false
namespace Lav
open Go (IntKind)
noncomputable def dirBucketsP (r0 : Nat) : Bool := good (evCallF table 200 9 5 [.c (.res false (16) r0)] Heap.empty)
theorem dirBuckets_0 : dirBucketsP 0 = true := by kernel_rfl
theorem dirBuckets_1 : dirBucketsP 1 = true := by kernel_rfl
theorem dirBuckets_2 : dirBucketsP 2 = true := by kernel_rfl
theorem dirBuckets_3 : dirBucketsP 3 = true := by kernel_rfl
theorem dirBuckets_4 : dirBucketsP 4 = true := by kernel_rfl
theorem dirBuckets_5 : dirBucketsP 5 = true := by kernel_rfl
theorem dirBuckets_6 : dirBucketsP 6 = true := by kernel_rfl
theorem dirBuckets_7 : dirBucketsP 7 = true := by kernel_rfl
theorem dirBuckets_8 : dirBucketsP 8 = true := by kernel_rfl
theorem dirBuckets_9 : dirBucketsP 9 = true := by kernel_rfl
theorem dirBuckets_10 : dirBucketsP 10 = true := by kernel_rfl
theorem dirBuckets_11 : dirBucketsP 11 = true := by kernel_rfl
theorem dirBuckets_12 : dirBucketsP 12 = true := by kernel_rfl
theorem dirBuckets_13 : dirBucketsP 13 = true := by kernel_rfl
theorem dirBuckets_14 : dirBucketsP 14 = true := by kernel_rfl
theorem dirBuckets_15 : dirBucketsP 15 = true := by kernel_rfl
theorem dirBuckets : allLt (fun r0 => dirBucketsP r0) (16) = true := allLt_succ dirBuckets_15 (allLt_succ dirBuckets_14 (allLt_succ dirBuckets_13 (allLt_succ dirBuckets_12 (allLt_succ dirBuckets_11 (allLt_succ dirBuckets_10 (allLt_succ dirBuckets_9 (allLt_succ dirBuckets_8 (allLt_succ dirBuckets_7 (allLt_succ dirBuckets_6 (allLt_succ dirBuckets_5 (allLt_succ dirBuckets_4 (allLt_succ dirBuckets_3 (allLt_succ dirBuckets_2 (allLt_succ dirBuckets_1 (allLt_succ dirBuckets_0 (rfl))))))))))))))))

end Lav

namespace Go.Proofs.Ytdeehmncnfdmkaa.dirBuckets
open Go.ChangeShapes Go.WideShapes Go.ChangeAt Go.RowKit
open Go.ChangeMaps (open_string shut_string)
set_option linter.unusedVariables false      -- a walk need not use every 'w<i>' (that an integer argument fits its kind)

theorem own : ownKnob Try.prog.godebug = none := by kernel_rfl

/-! ### STEP 1: THE WALK: the Go text returns true. 'Below w.heap.size w w'': the world has at most new blocks (Derived/RowKit3.lean). Part the cases AHEAD of 'go_enter' where a test parts the walk; take each callee by a contract of your own. -/
theorem walk (a0 : Int) (w0 : (Lit.int .i64 a0).wf = true) (w : World) :
    Calls Try.prog 5 #[.int .i64 a0] w fun e w' => e = .returned (.bool true) ∧ Below w.heap.size w w' := by
  obtain ⟨r0, h0, c0⟩ := Lav.res_of a0 (16) (by omega)
  have g := Lav.dirBuckets
  replace g := Lav.allLt_spec g r0 h0
  exact Lav.walk_of (Lav.calls_okF 200 9) (Lav.Init.empty w) (args := [.c (.res false (16) r0)]) (vs := [.int .i64 a0]) ⟨c0 _, trivial⟩ g

/-! ### THE ROW's STEP: WRITTEN OUT: LEAVE IT -/
set_option maxRecDepth 100000 in
theorem lifted (os : Os) (started : os.Started) (H : Type) (enc : TypeId × Value → H) :
    ReturnsInHanded {} Try.checked os 5 .any (Rows.dirBucketsSpec.pre6 enc Try.prog Try.f5 Rows.dirBucketsRow.domain false) (Rows.dirBucketsSpec.post enc Try.prog Try.f5 false true false false) := by
  refine returnsInHanded_of_change (C := Try.checked) own started (by kernel_rfl) Try.func5
    (ChangeSpec.witness6 (enc := enc) (C := Try.checked) false ⟨#[], #[.int .i64 0], []⟩ 8 (by kernel_rfl) (by kernel_rfl) (by kernel_rfl) (by kernel_rfl)) ?_
  intro W base args ds gs before hval0 hW hcnd _
  have hval : ∀ (j : Nat) t v, Try.f5.params[j]? = some t → args[j]? = some v → Value.okWide Try.prog W .any base t v := hval0
  have hW' := hW
  obtain ⟨p, q, hA0, hV, rfl, hfz, hnd⟩ := hW
  have hA : DataW.TrodAll enc Try.prog W 0 (fun _ => true) true Try.f5.params.toList args.toList ds p := hA0
  rw [Try.params5] at hA hval
  obtain ⟨v0, vs0, d0, ds0, p0, q0, hargs, rfl, rfl, h0, r0⟩ := trodAll_cons hA
  obtain ⟨rfl, rfl, rfl⟩ := trodAll_nil r0
  obtain rfl : args = #[v0] := by cases args; simp_all
  obtain ⟨rfl, rfl⟩ := trodVars_none hV
  obtain ⟨a0, rfl, rfl, rfl, w0⟩ := open_int Try.underlying3 (hval 0 3 v0 rfl rfl) h0
  clear hA0 hval0
  refine (walk a0 w0 W).mono fun e W' ⟨he, hg⟩ => ?_
  subst he
  exact ⟨_, rfl, _, _, _, [], _, [], hW', trodAll_mk1 (shut_bool Try.underlying4 _), (trodAll_cons_mk (shut_int Try.underlying3 w0) trodAll_mk0), rfl, hg.frame _, fun h => by cases h⟩

theorem over : Rows.dirBucketsRow.holds Try.pinned (OpenSpec.ofChange Rows.dirBucketsSpec) :=
  OpenClaim.holds_of_wide 5 Try.f5 rfl rfl rfl rfl rfl rfl rfl ⟨rfl, rfl, rfl, rfl, rfl⟩ rfl rfl rfl rfl rfl (by kernel_rfl) Try.func5 (by kernel_rfl)
    (of_decide_eq_true (by kernel_rfl)) (by unfold Func.isWrapper; first | (rw [if_pos (by decide +kernel)]; kernel_rfl) | (rw [if_neg (by decide +kernel)]; exact ⟨rfl, rfl⟩))
    (fun os started H enc _ => lifted os started H enc)

/-- ████ THE STATEMENT ████ -/
theorem proved : Rows.DirBucketsSaid :=
  over
end Go.Proofs.Ytdeehmncnfdmkaa.dirBuckets
