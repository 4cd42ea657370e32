/-
  Proved: whatever comes in, SizeLists returns true and changes nothing that was there. No conditions beyond the given statement's.
-/
import Derived.Test.YtnjfpdkdafdfdaaRows
import Derived.Test.YtnjfpdkdafdfdaaIr
import Derived.WalkKit
import Derived.ProofKit
import Derived.OpenShut
import Derived.Below
import Derived.ShutString
set_option maxRecDepth 100000
set_option linter.unusedSimpArgs false
namespace Lav
open Go (IntKind)
theorem tld : ToldOK Go.Proofs.Try.prog 14 := told_of (calls_okF 200 9) (by kernel_rfl)
noncomputable def sizeListsP (r0 : Nat) : Bool := allLt (fun r1 => allLt (fun r2 => good (evCallT table 14 200 9 6 [.c (.res false (33) r0), .c (.res false (4) r1), .c (.res false (1+r1) r2)] Heap.empty)) (1+r1)) (4)
theorem sizeLists_0 : sizeListsP 0 = true := by kernel_rfl
theorem sizeLists_1 : sizeListsP 1 = true := by kernel_rfl
theorem sizeLists_2 : sizeListsP 2 = true := by kernel_rfl
theorem sizeLists_3 : sizeListsP 3 = true := by kernel_rfl
theorem sizeLists_4 : sizeListsP 4 = true := by kernel_rfl
theorem sizeLists_5 : sizeListsP 5 = true := by kernel_rfl
theorem sizeLists_6 : sizeListsP 6 = true := by kernel_rfl
theorem sizeLists_7 : sizeListsP 7 = true := by kernel_rfl
theorem sizeLists_8 : sizeListsP 8 = true := by kernel_rfl
theorem sizeLists_9 : sizeListsP 9 = true := by kernel_rfl
theorem sizeLists_10 : sizeListsP 10 = true := by kernel_rfl
theorem sizeLists_11 : sizeListsP 11 = true := by kernel_rfl
theorem sizeLists_12 : sizeListsP 12 = true := by kernel_rfl
theorem sizeLists_13 : sizeListsP 13 = true := by kernel_rfl
theorem sizeLists_14 : sizeListsP 14 = true := by kernel_rfl
theorem sizeLists_15 : sizeListsP 15 = true := by kernel_rfl
theorem sizeLists_16 : sizeListsP 16 = true := by kernel_rfl
theorem sizeLists_17 : sizeListsP 17 = true := by kernel_rfl
theorem sizeLists_18 : sizeListsP 18 = true := by kernel_rfl
theorem sizeLists_19 : sizeListsP 19 = true := by kernel_rfl
theorem sizeLists_20 : sizeListsP 20 = true := by kernel_rfl
theorem sizeLists_21 : sizeListsP 21 = true := by kernel_rfl
theorem sizeLists_22 : sizeListsP 22 = true := by kernel_rfl
theorem sizeLists_23 : sizeListsP 23 = true := by kernel_rfl
theorem sizeLists_24 : sizeListsP 24 = true := by kernel_rfl
theorem sizeLists_25 : sizeListsP 25 = true := by kernel_rfl
theorem sizeLists_26 : sizeListsP 26 = true := by kernel_rfl
theorem sizeLists_27 : sizeListsP 27 = true := by kernel_rfl
theorem sizeLists_28 : sizeListsP 28 = true := by kernel_rfl
theorem sizeLists_29 : sizeListsP 29 = true := by kernel_rfl
theorem sizeLists_30 : sizeListsP 30 = true := by kernel_rfl
theorem sizeLists_31 : sizeListsP 31 = true := by kernel_rfl
theorem sizeLists_32 : sizeListsP 32 = true := by kernel_rfl
theorem sizeLists : allLt (fun r0 => sizeListsP r0) (33) = true := allLt_succ sizeLists_32 (allLt_succ sizeLists_31 (allLt_succ sizeLists_30 (allLt_succ sizeLists_29 (allLt_succ sizeLists_28 (allLt_succ sizeLists_27 (allLt_succ sizeLists_26 (allLt_succ sizeLists_25 (allLt_succ sizeLists_24 (allLt_succ sizeLists_23 (allLt_succ sizeLists_22 (allLt_succ sizeLists_21 (allLt_succ sizeLists_20 (allLt_succ sizeLists_19 (allLt_succ sizeLists_18 (allLt_succ sizeLists_17 (allLt_succ sizeLists_16 (allLt_succ sizeLists_15 (allLt_succ sizeLists_14 (allLt_succ sizeLists_13 (allLt_succ sizeLists_12 (allLt_succ sizeLists_11 (allLt_succ sizeLists_10 (allLt_succ sizeLists_9 (allLt_succ sizeLists_8 (allLt_succ sizeLists_7 (allLt_succ sizeLists_6 (allLt_succ sizeLists_5 (allLt_succ sizeLists_4 (allLt_succ sizeLists_3 (allLt_succ sizeLists_2 (allLt_succ sizeLists_1 (allLt_succ sizeLists_0 (rfl)))))))))))))))))))))))))))))))))

end Lav

namespace Go.Proofs.Ytnjfpdkdafdfdaa.sizeLists
open Go.ChangeShapes Go.WideShapes Go.ChangeAt Go.RowKit
open Go.ChangeMaps (open_string shut_string)
set_option linter.unusedVariables false      -- a walk need not use every 'w<i>' (that an integer argument fits its kind)

theorem own : ownKnob Try.prog.godebug = none := by kernel_rfl

/-! ### STEP 1: THE WALK: the Go text returns true. 'Below w.heap.size w w'': the world has at most new blocks (Derived/RowKit3.lean). Part the cases AHEAD of 'go_enter' where a test parts the walk; take each callee by a contract of your own. -/
theorem walk (a0 : Int) (a1 : Int) (a2 : Int) (w0 : (Lit.int .i64 a0).wf = true) (w1 : (Lit.int .i64 a1).wf = true) (w2 : (Lit.int .i64 a2).wf = true) (w : World) :
    Calls Try.prog 6 #[.int .i64 a0, .int .i64 a1, .int .i64 a2] w fun e w' => e = .returned (.bool true) ∧ Below w.heap.size w w' := by
  obtain ⟨r0, h0, c0⟩ := Lav.res_of a0 (33) (by omega)
  obtain ⟨r1, h1, c1⟩ := Lav.res_of a1 (4) (by omega)
  obtain ⟨r2, h2, c2⟩ := Lav.res_of a2 (1+r1) (by omega)
  have g := Lav.sizeLists
  replace g := Lav.allLt_spec g r0 h0
  replace g := Lav.allLt_spec g r1 h1
  replace g := Lav.allLt_spec g r2 h2
  exact Lav.walk_of (Lav.evCallT_sound Lav.mixed Lav.table_ok Lav.tld 200 9) (Lav.Init.empty w) (args := [.c (.res false (33) r0), .c (.res false (4) r1), .c (.res false (1+r1) r2)]) (vs := [.int .i64 a0, .int .i64 a1, .int .i64 a2]) ⟨c0 _, c1 _, c2 _, trivial⟩ g

/-! ### THE ROW's STEP: WRITTEN OUT: LEAVE IT -/
set_option maxRecDepth 100000 in
theorem lifted (os : Os) (started : os.Started) (H : Type) (enc : TypeId × Value → H) :
    ReturnsInHanded {} Try.checked os 6 .any (Rows.sizeListsSpec.pre6 enc Try.prog Try.f6 Rows.sizeListsRow.domain false) (Rows.sizeListsSpec.post enc Try.prog Try.f6 false true false false) := by
  refine returnsInHanded_of_change (C := Try.checked) own started (by kernel_rfl) Try.func6
    (ChangeSpec.witness6 (enc := enc) (C := Try.checked) false ⟨#[], #[.int .i64 0, .int .i64 0, .int .i64 0], []⟩ 8 (by kernel_rfl) (by kernel_rfl) (by kernel_rfl) (by kernel_rfl)) ?_
  intro W base args ds gs before hval0 hW hcnd _
  have hval : ∀ (j : Nat) t v, Try.f6.params[j]? = some t → args[j]? = some v → Value.okWide Try.prog W .any base t v := hval0
  have hW' := hW
  obtain ⟨p, q, hA0, hV, rfl, hfz, hnd⟩ := hW
  have hA : DataW.TrodAll enc Try.prog W 0 (fun _ => true) true Try.f6.params.toList args.toList ds p := hA0
  rw [Try.params6] at hA hval
  obtain ⟨v0, vs0, d0, ds0, p0, q0, hargs, rfl, rfl, h0, r0⟩ := trodAll_cons hA
  obtain ⟨v1, vs1, d1, ds1, p1, q1, rfl, rfl, rfl, h1, r1⟩ := trodAll_cons r0
  obtain ⟨v2, vs2, d2, ds2, p2, q2, rfl, rfl, rfl, h2, r2⟩ := trodAll_cons r1
  obtain ⟨rfl, rfl, rfl⟩ := trodAll_nil r2
  obtain rfl : args = #[v0, v1, v2] := by cases args; simp_all
  obtain ⟨rfl, rfl⟩ := trodVars_none hV
  obtain ⟨a0, rfl, rfl, rfl, w0⟩ := open_int Try.underlying3 (hval 0 3 v0 rfl rfl) h0
  obtain ⟨a1, rfl, rfl, rfl, w1⟩ := open_int Try.underlying3 (hval 1 3 v1 rfl rfl) h1
  obtain ⟨a2, rfl, rfl, rfl, w2⟩ := open_int Try.underlying3 (hval 2 3 v2 rfl rfl) h2
  clear hA0 hval0
  refine (walk a0 a1 a2 w0 w1 w2 W).mono fun e W' ⟨he, hg⟩ => ?_
  subst he
  exact ⟨_, rfl, _, _, _, [], _, [], hW', trodAll_mk1 (shut_bool Try.underlying4 _), (trodAll_cons_mk (shut_int Try.underlying3 w0) (trodAll_cons_mk (shut_int Try.underlying3 w1) (trodAll_cons_mk (shut_int Try.underlying3 w2) trodAll_mk0))), rfl, hg.frame _, fun h => by cases h⟩

theorem over : Rows.sizeListsRow.holds Try.pinned (OpenSpec.ofChange Rows.sizeListsSpec) :=
  OpenClaim.holds_of_wide 6 Try.f6 rfl rfl rfl rfl rfl rfl rfl ⟨rfl, rfl, rfl, rfl, rfl⟩ rfl rfl rfl rfl rfl (by kernel_rfl) Try.func6 (by kernel_rfl)
    (of_decide_eq_true (by kernel_rfl)) (by unfold Func.isWrapper; first | (rw [if_pos (by decide +kernel)]; kernel_rfl) | (rw [if_neg (by decide +kernel)]; exact ⟨rfl, rfl⟩))
    (fun os started H enc _ => lifted os started H enc)

/-- ████ THE STATEMENT ████ -/
theorem proved : Rows.SizeListsSaid :=
  over
end Go.Proofs.Ytnjfpdkdafdfdaa.sizeLists
