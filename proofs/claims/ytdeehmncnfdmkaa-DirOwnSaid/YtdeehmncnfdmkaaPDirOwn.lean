/-
  Proved: whatever comes in, DirOwn returns true and changes nothing that was there. No conditions beyond the given statement's.
-/
import Derived.Test.YtdeehmncnfdmkaaRows
import Derived.Test.YtdeehmncnfdmkaaIr
import Derived.WalkKit
import Derived.ProofKit
import Derived.OpenShut
import Derived.Below
import Derived.ShutString
set_option maxRecDepth 100000
set_option linter.unusedSimpArgs false
namespace Lav
open Go (IntKind)
theorem tld : ToldOK Go.Proofs.Try.prog 12 := told_of (calls_okF 200 9) (by kernel_rfl)
noncomputable def dirOwnP (r0 r1 : Nat) : Bool := allLt (fun r2 => good (evCallT table 12 200 9 3 [.c (.res false (3) r0), .c (.res false (16) r1), .c (.res false (2+r0) r2)] Heap.empty)) (2+r0)
theorem dirOwn_0_0 : dirOwnP 0 0 = true := by kernel_rfl
theorem dirOwn_0_1 : dirOwnP 0 1 = true := by kernel_rfl
theorem dirOwn_0_2 : dirOwnP 0 2 = true := by kernel_rfl
theorem dirOwn_0_3 : dirOwnP 0 3 = true := by kernel_rfl
theorem dirOwn_0_4 : dirOwnP 0 4 = true := by kernel_rfl
theorem dirOwn_0_5 : dirOwnP 0 5 = true := by kernel_rfl
theorem dirOwn_0_6 : dirOwnP 0 6 = true := by kernel_rfl
theorem dirOwn_0_7 : dirOwnP 0 7 = true := by kernel_rfl
theorem dirOwn_0_8 : dirOwnP 0 8 = true := by kernel_rfl
theorem dirOwn_0_9 : dirOwnP 0 9 = true := by kernel_rfl
theorem dirOwn_0_10 : dirOwnP 0 10 = true := by kernel_rfl
theorem dirOwn_0_11 : dirOwnP 0 11 = true := by kernel_rfl
theorem dirOwn_0_12 : dirOwnP 0 12 = true := by kernel_rfl
theorem dirOwn_0_13 : dirOwnP 0 13 = true := by kernel_rfl
theorem dirOwn_0_14 : dirOwnP 0 14 = true := by kernel_rfl
theorem dirOwn_0_15 : dirOwnP 0 15 = true := by kernel_rfl
theorem dirOwn_0 : allLt (fun r1 => dirOwnP 0 r1) 16 = true := allLt_succ dirOwn_0_15 (allLt_succ dirOwn_0_14 (allLt_succ dirOwn_0_13 (allLt_succ dirOwn_0_12 (allLt_succ dirOwn_0_11 (allLt_succ dirOwn_0_10 (allLt_succ dirOwn_0_9 (allLt_succ dirOwn_0_8 (allLt_succ dirOwn_0_7 (allLt_succ dirOwn_0_6 (allLt_succ dirOwn_0_5 (allLt_succ dirOwn_0_4 (allLt_succ dirOwn_0_3 (allLt_succ dirOwn_0_2 (allLt_succ dirOwn_0_1 (allLt_succ dirOwn_0_0 (rfl))))))))))))))))
theorem dirOwn_1_0 : dirOwnP 1 0 = true := by kernel_rfl
theorem dirOwn_1_1 : dirOwnP 1 1 = true := by kernel_rfl
theorem dirOwn_1_2 : dirOwnP 1 2 = true := by kernel_rfl
theorem dirOwn_1_3 : dirOwnP 1 3 = true := by kernel_rfl
theorem dirOwn_1_4 : dirOwnP 1 4 = true := by kernel_rfl
theorem dirOwn_1_5 : dirOwnP 1 5 = true := by kernel_rfl
theorem dirOwn_1_6 : dirOwnP 1 6 = true := by kernel_rfl
theorem dirOwn_1_7 : dirOwnP 1 7 = true := by kernel_rfl
theorem dirOwn_1_8 : dirOwnP 1 8 = true := by kernel_rfl
theorem dirOwn_1_9 : dirOwnP 1 9 = true := by kernel_rfl
theorem dirOwn_1_10 : dirOwnP 1 10 = true := by kernel_rfl
theorem dirOwn_1_11 : dirOwnP 1 11 = true := by kernel_rfl
theorem dirOwn_1_12 : dirOwnP 1 12 = true := by kernel_rfl
theorem dirOwn_1_13 : dirOwnP 1 13 = true := by kernel_rfl
theorem dirOwn_1_14 : dirOwnP 1 14 = true := by kernel_rfl
theorem dirOwn_1_15 : dirOwnP 1 15 = true := by kernel_rfl
theorem dirOwn_1 : allLt (fun r1 => dirOwnP 1 r1) 16 = true := allLt_succ dirOwn_1_15 (allLt_succ dirOwn_1_14 (allLt_succ dirOwn_1_13 (allLt_succ dirOwn_1_12 (allLt_succ dirOwn_1_11 (allLt_succ dirOwn_1_10 (allLt_succ dirOwn_1_9 (allLt_succ dirOwn_1_8 (allLt_succ dirOwn_1_7 (allLt_succ dirOwn_1_6 (allLt_succ dirOwn_1_5 (allLt_succ dirOwn_1_4 (allLt_succ dirOwn_1_3 (allLt_succ dirOwn_1_2 (allLt_succ dirOwn_1_1 (allLt_succ dirOwn_1_0 (rfl))))))))))))))))
theorem dirOwn_2_0 : dirOwnP 2 0 = true := by kernel_rfl
theorem dirOwn_2_1 : dirOwnP 2 1 = true := by kernel_rfl
theorem dirOwn_2_2 : dirOwnP 2 2 = true := by kernel_rfl
theorem dirOwn_2_3 : dirOwnP 2 3 = true := by kernel_rfl
theorem dirOwn_2_4 : dirOwnP 2 4 = true := by kernel_rfl
theorem dirOwn_2_5 : dirOwnP 2 5 = true := by kernel_rfl
theorem dirOwn_2_6 : dirOwnP 2 6 = true := by kernel_rfl
theorem dirOwn_2_7 : dirOwnP 2 7 = true := by kernel_rfl
theorem dirOwn_2_8 : dirOwnP 2 8 = true := by kernel_rfl
theorem dirOwn_2_9 : dirOwnP 2 9 = true := by kernel_rfl
theorem dirOwn_2_10 : dirOwnP 2 10 = true := by kernel_rfl
theorem dirOwn_2_11 : dirOwnP 2 11 = true := by kernel_rfl
theorem dirOwn_2_12 : dirOwnP 2 12 = true := by kernel_rfl
theorem dirOwn_2_13 : dirOwnP 2 13 = true := by kernel_rfl
theorem dirOwn_2_14 : dirOwnP 2 14 = true := by kernel_rfl
theorem dirOwn_2_15 : dirOwnP 2 15 = true := by kernel_rfl
theorem dirOwn_2 : allLt (fun r1 => dirOwnP 2 r1) 16 = true := allLt_succ dirOwn_2_15 (allLt_succ dirOwn_2_14 (allLt_succ dirOwn_2_13 (allLt_succ dirOwn_2_12 (allLt_succ dirOwn_2_11 (allLt_succ dirOwn_2_10 (allLt_succ dirOwn_2_9 (allLt_succ dirOwn_2_8 (allLt_succ dirOwn_2_7 (allLt_succ dirOwn_2_6 (allLt_succ dirOwn_2_5 (allLt_succ dirOwn_2_4 (allLt_succ dirOwn_2_3 (allLt_succ dirOwn_2_2 (allLt_succ dirOwn_2_1 (allLt_succ dirOwn_2_0 (rfl))))))))))))))))
theorem dirOwn : allLt (fun r0 => allLt (fun r1 => dirOwnP r0 r1) (16)) (3) = true := allLt_succ dirOwn_2 (allLt_succ dirOwn_1 (allLt_succ dirOwn_0 (rfl)))

end Lav

namespace Go.Proofs.Ytdeehmncnfdmkaa.dirOwn
open Go.ChangeShapes Go.WideShapes Go.ChangeAt Go.RowKit
open Go.ChangeMaps (open_string shut_string)
set_option linter.unusedVariables false      -- a walk need not use every 'w<i>' (that an integer argument fits its kind)

theorem own : ownKnob Try.prog.godebug = none := by kernel_rfl

/-! ### STEP 1: THE WALK: the Go text returns true. 'Below w.heap.size w w'': the world has at most new blocks (Derived/RowKit3.lean). Part the cases AHEAD of 'go_enter' where a test parts the walk; take each callee by a contract of your own. -/
theorem walk (a0 : Int) (a1 : Int) (a2 : Int) (w0 : (Lit.int .i64 a0).wf = true) (w1 : (Lit.int .i64 a1).wf = true) (w2 : (Lit.int .i64 a2).wf = true) (w : World) :
    Calls Try.prog 3 #[.int .i64 a0, .int .i64 a1, .int .i64 a2] w fun e w' => e = .returned (.bool true) ∧ Below w.heap.size w w' := by
  obtain ⟨r0, h0, c0⟩ := Lav.res_of a0 (3) (by omega)
  obtain ⟨r1, h1, c1⟩ := Lav.res_of a1 (16) (by omega)
  obtain ⟨r2, h2, c2⟩ := Lav.res_of a2 (2+r0) (by omega)
  have g := Lav.dirOwn
  replace g := Lav.allLt_spec g r0 h0
  replace g := Lav.allLt_spec g r1 h1
  replace g := Lav.allLt_spec g r2 h2
  exact Lav.walk_of (Lav.evCallT_sound Lav.mixed Lav.table_ok Lav.tld 200 9) (Lav.Init.empty w) (args := [.c (.res false (3) r0), .c (.res false (16) r1), .c (.res false (2+r0) r2)]) (vs := [.int .i64 a0, .int .i64 a1, .int .i64 a2]) ⟨c0 _, c1 _, c2 _, trivial⟩ g

/-! ### THE ROW's STEP: WRITTEN OUT: LEAVE IT -/
set_option maxRecDepth 100000 in
theorem lifted (os : Os) (started : os.Started) (H : Type) (enc : TypeId × Value → H) :
    ReturnsInHanded {} Try.checked os 3 .any (Rows.dirOwnSpec.pre6 enc Try.prog Try.f3 Rows.dirOwnRow.domain false) (Rows.dirOwnSpec.post enc Try.prog Try.f3 false true false false) := by
  refine returnsInHanded_of_change (C := Try.checked) own started (by kernel_rfl) Try.func3
    (ChangeSpec.witness6 (enc := enc) (C := Try.checked) false ⟨#[], #[.int .i64 0, .int .i64 0, .int .i64 0], []⟩ 8 (by kernel_rfl) (by kernel_rfl) (by kernel_rfl) (by kernel_rfl)) ?_
  intro W base args ds gs before hval0 hW hcnd _
  have hval : ∀ (j : Nat) t v, Try.f3.params[j]? = some t → args[j]? = some v → Value.okWide Try.prog W .any base t v := hval0
  have hW' := hW
  obtain ⟨p, q, hA0, hV, rfl, hfz, hnd⟩ := hW
  have hA : DataW.TrodAll enc Try.prog W 0 (fun _ => true) true Try.f3.params.toList args.toList ds p := hA0
  rw [Try.params3] at hA hval
  obtain ⟨v0, vs0, d0, ds0, p0, q0, hargs, rfl, rfl, h0, r0⟩ := trodAll_cons hA
  obtain ⟨v1, vs1, d1, ds1, p1, q1, rfl, rfl, rfl, h1, r1⟩ := trodAll_cons r0
  obtain ⟨v2, vs2, d2, ds2, p2, q2, rfl, rfl, rfl, h2, r2⟩ := trodAll_cons r1
  obtain ⟨rfl, rfl, rfl⟩ := trodAll_nil r2
  obtain rfl : args = #[v0, v1, v2] := by cases args; simp_all
  obtain ⟨rfl, rfl⟩ := trodVars_none hV
  obtain ⟨a0, rfl, rfl, rfl, w0⟩ := open_int Try.underlying3 (hval 0 3 v0 rfl rfl) h0
  obtain ⟨a1, rfl, rfl, rfl, w1⟩ := open_int Try.underlying3 (hval 1 3 v1 rfl rfl) h1
  obtain ⟨a2, rfl, rfl, rfl, w2⟩ := open_int Try.underlying3 (hval 2 3 v2 rfl rfl) h2
  clear hA0 hval0
  refine (walk a0 a1 a2 w0 w1 w2 W).mono fun e W' ⟨he, hg⟩ => ?_
  subst he
  exact ⟨_, rfl, _, _, _, [], _, [], hW', trodAll_mk1 (shut_bool Try.underlying4 _), (trodAll_cons_mk (shut_int Try.underlying3 w0) (trodAll_cons_mk (shut_int Try.underlying3 w1) (trodAll_cons_mk (shut_int Try.underlying3 w2) trodAll_mk0))), rfl, hg.frame _, fun h => by cases h⟩

theorem over : Rows.dirOwnRow.holds Try.pinned (OpenSpec.ofChange Rows.dirOwnSpec) :=
  OpenClaim.holds_of_wide 3 Try.f3 rfl rfl rfl rfl rfl rfl rfl ⟨rfl, rfl, rfl, rfl, rfl⟩ rfl rfl rfl rfl rfl (by kernel_rfl) Try.func3 (by kernel_rfl)
    (of_decide_eq_true (by kernel_rfl)) (by unfold Func.isWrapper; first | (rw [if_pos (by decide +kernel)]; kernel_rfl) | (rw [if_neg (by decide +kernel)]; exact ⟨rfl, rfl⟩))
    (fun os started H enc _ => lifted os started H enc)

/-- ████ THE STATEMENT ████ -/
theorem proved : Rows.DirOwnSaid :=
  over
end Go.Proofs.Ytdeehmncnfdmkaa.dirOwn
