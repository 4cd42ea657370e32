/-
  Layer 11: frames that are filled one by one.
-/
import Derived.Test.YtdcjiljegffalaaCore6
set_option maxRecDepth 100000
set_option linter.unusedSimpArgs false
namespace Lav
open Go (IntKind)

def rv : Nat → List Int
  | 0 => []
  | i + 1 => (i : Int) :: rv i
theorem rv_mem {x : Int} : ∀ {i : Nat}, x ∈ rv i ↔ ∃ j : Nat, j < i ∧ x = (j : Int)
  | 0 => by simp [rv]
  | i + 1 => by
    simp only [rv, List.mem_cons, rv_mem (i := i)]
    constructor
    · rintro (rfl | ⟨j, h, rfl⟩)
      · exact ⟨i, by omega, rfl⟩
      · exact ⟨j, by omega, rfl⟩
    · rintro ⟨j, h, rfl⟩
      by_cases e : j = i
      · exact .inl (by rw [e])
      · exact .inr ⟨j, by omega, rfl⟩
theorem rv_last : ∀ (i : Nat), ∃ l, rv (i + 1) = l ++ [0]
  | 0 => ⟨[], rfl⟩
  | i + 1 => by
    obtain ⟨l, h⟩ := rv_last i
    exact ⟨((i + 1 : Nat) : Int) :: l, by rw [rv, h]; rfl⟩
/-- Frames that are filled one by one. -/
structure Fill (k i : Nat) (bit : Nat → Bool) (fs : List Fm) : Prop where
  len : fs.length = k
  full : ∀ (j : Nat) (f : Fm), fs[j]? = some f → j < i → f.st = 1 ∧ f.pg = (j : Int) ∧ f.pn = 0 ∧ f.dt = bit j
  rest : ∀ (j : Nat) (f : Fm), fs[j]? = some f → i ≤ j → f = frZ
theorem Fill.used {k i : Nat} {bit : Nat → Bool} {fs : List Fm} (F : Fill k i bit fs) (hi : i ≤ k) : (rv i).filter (usedB fs) = rv i := by
  rw [List.filter_eq_self]
  intro x hx
  obtain ⟨j, hj, rfl⟩ := rv_mem.1 hx
  have hl : j < fs.length := by rw [F.len]; omega
  rw [usedB_eq hl, (F.full j fs[j] (List.getElem?_eq_getElem hl) hj).1]; rfl
theorem Fill.no {k i : Nat} {bit : Nat → Bool} {fs : List Fm} (F : Fill k i bit fs) {g : Nat} (h : i ≤ g) : findF fs (g : Int) < 0 := by
  rw [findF_no fun j f hf hs hp => by
    by_cases hj : j < i
    · have := (F.full j f hf hj).2.1
      omega
    · have := F.rest j f hf (by omega)
      subst this
      cases hs]
  decide

theorem spare_last {gs : List Fm} {l : List Int} {x : Int} (h : (frm gs x).pn ≤ 0) : spareF gs (l ++ [x]) = ((if (frm gs x).dt then 12 else 0), x, (frm gs x).pg) := by
  unfold spareF
  rw [List.reverse_append]
  have : idleB gs x = true := by
    unfold idleB
    rw [decide_eq_false (by omega)]; rfl
  show (match List.find? (idleB gs) (x :: l.reverse) with | none => _ | some x => _) = _
  rw [List.find?_cons_of_pos this]
end Lav
