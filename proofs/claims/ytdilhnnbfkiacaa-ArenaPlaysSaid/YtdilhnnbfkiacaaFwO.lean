/-
  Symbolic execution: arrays.
-/
import Derived.Test.YtdilhnnbfkiacaaFwN
namespace Lav
open Go (IntKind BinOp UnOp)
section
variable {call : Nat → List AV → Heap → Option (AV × Heap)} {loc vals : List AV} {h cur : Heap} {n j k : Nat} {l r : List Inst} {ks : List (Nat × Heap)} {news : List (Nat × Nat × Blk)}
theorem p_iaddrA {sz m : Nat} {x y : X} : evPure loc vals h (.iaddrA sz m x y) = (match x.eval loc vals, asNat (y.eval loc vals) with
    | .c (.ptr b o), some j => bif Nat.blt j m then some (.c (.ptr b (o + j * sz))) else none
    | _, _ => none) := rfl
theorem op_iaddrA {sz m : Nat} {x y : X} : evOp loc vals call h (.iaddrA sz m x y) = pureK h (evPure loc vals h (.iaddrA sz m x y)) := rfl
theorem d_iaddrA {sz m : Nat} {x y : X} : dregG call n l loc h (.iaddrA sz m x y) r j k vals cur ks news (some true) = dregP call n l loc h r j k vals cur ks news (evPure loc vals cur (.iaddrA sz m x y)) := rfl
theorem d_iaddrA_not {sz m : Nat} {x y : X} : dregG call n l loc h (.iaddrA sz m x y) r j k vals cur ks news (some false) = dregK call n l loc h r (j + 1) k (.tup [] :: vals) cur ks news := rfl
theorem d_build {z : List CV} {ps : List (Nat × Nat × X)} : dregG call n l loc h (.build z ps) r j k vals cur ks news (some true) = dregP call n l loc h r j k vals cur ks news (evPure loc vals cur (.build z ps)) := rfl
end

/-! ### Bools cell by cell -/
def bcell (b : Bool) : CV := .bool b
def bcnt : List Bool → Nat
  | [] => 0
  | b :: l => b.toNat + bcnt l
theorem bcnt_set : ∀ (l : List Bool) (i : Nat) (hi : i < l.length) (b : Bool), bcnt (l.set i b) + l[i].toNat = bcnt l + b.toNat
  | c :: l, 0, _, b => by simp only [List.set_cons_zero, bcnt, List.getElem_cons_zero]; omega
  | c :: l, i + 1, hi, b => by
    have := bcnt_set l i (by simpa using hi) b
    simp only [List.set_cons_succ, bcnt, List.getElem_cons_succ]; omega
theorem bcnt_lt : ∀ (l : List Bool) (i : Nat) (hi : i < l.length), l[i] = false → bcnt l < l.length
  | c :: l, 0, _, h => by
    have h1 : ∀ l : List Bool, bcnt l ≤ l.length := fun l => by
      induction l with
      | nil => exact Nat.le_refl _
      | cons c l ih => cases c <;> simp [bcnt] <;> omega
    have : c = false := by simpa using h
    subst this
    have := h1 l
    simp [bcnt]; omega
  | c :: l, i + 1, hi, h => by
    have := bcnt_lt l i (by simpa using hi) (by simpa using h)
    have hc : c.toNat ≤ 1 := by cases c <;> simp
    simp only [bcnt, List.length_cons]; omega
end Lav
