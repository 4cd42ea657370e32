/-
  Proved: whatever comes in, TableFull returns true and changes nothing that was there. No conditions beyond the given statement's.
-/
import Derived.Test.YtgjceiiddcbfoaaRows
import Derived.Test.YtgjceiiddcbfoaaIr
import Derived.WalkKit
import Derived.ProofKit
import Derived.OpenShut
import Derived.Below
import Derived.ShutString
set_option maxRecDepth 100000
set_option linter.unusedSimpArgs false
namespace Lav
open Go (IntKind)
theorem tld : ToldOK Go.Proofs.Try.prog 25 := told_of (calls_okF 200 9) (by kernel_rfl)
noncomputable def tableFullP (r0 : Nat) : Bool := good (evCallT table 25 200 9 11 [.c (.res false (40) r0)] Heap.empty)
theorem tableFull_0 : tableFullP 0 = true := by kernel_rfl
theorem tableFull_1 : tableFullP 1 = true := by kernel_rfl
theorem tableFull_2 : tableFullP 2 = true := by kernel_rfl
theorem tableFull_3 : tableFullP 3 = true := by kernel_rfl
theorem tableFull_4 : tableFullP 4 = true := by kernel_rfl
theorem tableFull_5 : tableFullP 5 = true := by kernel_rfl
theorem tableFull_6 : tableFullP 6 = true := by kernel_rfl
theorem tableFull_7 : tableFullP 7 = true := by kernel_rfl
theorem tableFull_8 : tableFullP 8 = true := by kernel_rfl
theorem tableFull_9 : tableFullP 9 = true := by kernel_rfl
theorem tableFull_10 : tableFullP 10 = true := by kernel_rfl
theorem tableFull_11 : tableFullP 11 = true := by kernel_rfl
theorem tableFull_12 : tableFullP 12 = true := by kernel_rfl
theorem tableFull_13 : tableFullP 13 = true := by kernel_rfl
theorem tableFull_14 : tableFullP 14 = true := by kernel_rfl
theorem tableFull_15 : tableFullP 15 = true := by kernel_rfl
theorem tableFull_16 : tableFullP 16 = true := by kernel_rfl
theorem tableFull_17 : tableFullP 17 = true := by kernel_rfl
theorem tableFull_18 : tableFullP 18 = true := by kernel_rfl
theorem tableFull_19 : tableFullP 19 = true := by kernel_rfl
theorem tableFull_20 : tableFullP 20 = true := by kernel_rfl
theorem tableFull_21 : tableFullP 21 = true := by kernel_rfl
theorem tableFull_22 : tableFullP 22 = true := by kernel_rfl
theorem tableFull_23 : tableFullP 23 = true := by kernel_rfl
theorem tableFull_24 : tableFullP 24 = true := by kernel_rfl
theorem tableFull_25 : tableFullP 25 = true := by kernel_rfl
theorem tableFull_26 : tableFullP 26 = true := by kernel_rfl
theorem tableFull_27 : tableFullP 27 = true := by kernel_rfl
theorem tableFull_28 : tableFullP 28 = true := by kernel_rfl
theorem tableFull_29 : tableFullP 29 = true := by kernel_rfl
theorem tableFull_30 : tableFullP 30 = true := by kernel_rfl
theorem tableFull_31 : tableFullP 31 = true := by kernel_rfl
theorem tableFull_32 : tableFullP 32 = true := by kernel_rfl
theorem tableFull_33 : tableFullP 33 = true := by kernel_rfl
theorem tableFull_34 : tableFullP 34 = true := by kernel_rfl
theorem tableFull_35 : tableFullP 35 = true := by kernel_rfl
theorem tableFull_36 : tableFullP 36 = true := by kernel_rfl
theorem tableFull_37 : tableFullP 37 = true := by kernel_rfl
theorem tableFull_38 : tableFullP 38 = true := by kernel_rfl
theorem tableFull_39 : tableFullP 39 = true := by kernel_rfl
theorem tableFull : allLt (fun r0 => tableFullP r0) (40) = true := allLt_succ tableFull_39 (allLt_succ tableFull_38 (allLt_succ tableFull_37 (allLt_succ tableFull_36 (allLt_succ tableFull_35 (allLt_succ tableFull_34 (allLt_succ tableFull_33 (allLt_succ tableFull_32 (allLt_succ tableFull_31 (allLt_succ tableFull_30 (allLt_succ tableFull_29 (allLt_succ tableFull_28 (allLt_succ tableFull_27 (allLt_succ tableFull_26 (allLt_succ tableFull_25 (allLt_succ tableFull_24 (allLt_succ tableFull_23 (allLt_succ tableFull_22 (allLt_succ tableFull_21 (allLt_succ tableFull_20 (allLt_succ tableFull_19 (allLt_succ tableFull_18 (allLt_succ tableFull_17 (allLt_succ tableFull_16 (allLt_succ tableFull_15 (allLt_succ tableFull_14 (allLt_succ tableFull_13 (allLt_succ tableFull_12 (allLt_succ tableFull_11 (allLt_succ tableFull_10 (allLt_succ tableFull_9 (allLt_succ tableFull_8 (allLt_succ tableFull_7 (allLt_succ tableFull_6 (allLt_succ tableFull_5 (allLt_succ tableFull_4 (allLt_succ tableFull_3 (allLt_succ tableFull_2 (allLt_succ tableFull_1 (allLt_succ tableFull_0 (rfl))))))))))))))))))))))))))))))))))))))))

end Lav

namespace Go.Proofs.Ytgjceiiddcbfoaa.tableFull
open Go.ChangeShapes Go.WideShapes Go.ChangeAt Go.RowKit
open Go.ChangeMaps (open_string shut_string)
set_option linter.unusedVariables false      -- a walk need not use every 'w<i>' (that an integer argument fits its kind)

theorem own : ownKnob Try.prog.godebug = none := by kernel_rfl

/-! ### STEP 1: THE WALK: the Go text returns true. 'Below w.heap.size w w'': the world has at most new blocks (Derived/RowKit3.lean). Part the cases AHEAD of 'go_enter' where a test parts the walk; take each callee by a contract of your own. -/
theorem walk (a0 : Int) (w0 : (Lit.int .i64 a0).wf = true) (w : World) :
    Calls Try.prog 11 #[.int .i64 a0] w fun e w' => e = .returned (.bool true) ∧ Below w.heap.size w w' := by
  obtain ⟨r0, h0, c0⟩ := Lav.res_of a0 (40) (by omega)
  have g := Lav.tableFull
  replace g := Lav.allLt_spec g r0 h0
  exact Lav.walk_of (Lav.evCallT_sound Lav.mixed Lav.table_ok Lav.tld 200 9) (Lav.Init.empty w) (args := [.c (.res false (40) r0)]) (vs := [.int .i64 a0]) ⟨c0 _, trivial⟩ g

/-! ### THE ROW's STEP: WRITTEN OUT: LEAVE IT -/
set_option maxRecDepth 100000 in
theorem lifted (os : Os) (started : os.Started) (H : Type) (enc : TypeId × Value → H) :
    ReturnsInHanded {} Try.checked os 11 .any (Rows.tableFullSpec.pre6 enc Try.prog Try.f11 Rows.tableFullRow.domain false) (Rows.tableFullSpec.post enc Try.prog Try.f11 false true false false) := by
  refine returnsInHanded_of_change (C := Try.checked) own started (by kernel_rfl) Try.func11
    (ChangeSpec.witness6 (enc := enc) (C := Try.checked) false ⟨#[], #[.int .i64 0], []⟩ 8 (by kernel_rfl) (by kernel_rfl) (by kernel_rfl) (by kernel_rfl)) ?_
  intro W base args ds gs before hval0 hW hcnd _
  have hval : ∀ (j : Nat) t v, Try.f11.params[j]? = some t → args[j]? = some v → Value.okWide Try.prog W .any base t v := hval0
  have hW' := hW
  obtain ⟨p, q, hA0, hV, rfl, hfz, hnd⟩ := hW
  have hA : DataW.TrodAll enc Try.prog W 0 (fun _ => true) true Try.f11.params.toList args.toList ds p := hA0
  rw [Try.params11] at hA hval
  obtain ⟨v0, vs0, d0, ds0, p0, q0, hargs, rfl, rfl, h0, r0⟩ := trodAll_cons hA
  obtain ⟨rfl, rfl, rfl⟩ := trodAll_nil r0
  obtain rfl : args = #[v0] := by cases args; simp_all
  obtain ⟨rfl, rfl⟩ := trodVars_none hV
  obtain ⟨a0, rfl, rfl, rfl, w0⟩ := open_int Try.underlying3 (hval 0 3 v0 rfl rfl) h0
  clear hA0 hval0
  refine (walk a0 w0 W).mono fun e W' ⟨he, hg⟩ => ?_
  subst he
  exact ⟨_, rfl, _, _, _, [], _, [], hW', trodAll_mk1 (shut_bool Try.underlying4 _), (trodAll_cons_mk (shut_int Try.underlying3 w0) trodAll_mk0), rfl, hg.frame _, fun h => by cases h⟩

theorem over : Rows.tableFullRow.holds Try.pinned (OpenSpec.ofChange Rows.tableFullSpec) :=
  OpenClaim.holds_of_wide 11 Try.f11 rfl rfl rfl rfl rfl rfl rfl ⟨rfl, rfl, rfl, rfl, rfl⟩ rfl rfl rfl rfl rfl (by kernel_rfl) Try.func11 (by kernel_rfl)
    (of_decide_eq_true (by kernel_rfl)) (by unfold Func.isWrapper; first | (rw [if_pos (by decide +kernel)]; kernel_rfl) | (rw [if_neg (by decide +kernel)]; exact ⟨rfl, rfl⟩))
    (fun os started H enc _ => lifted os started H enc)

/-- ████ THE STATEMENT ████ -/
theorem proved : Rows.TableFullSaid :=
  over
end Go.Proofs.Ytgjceiiddcbfoaa.tableFull
