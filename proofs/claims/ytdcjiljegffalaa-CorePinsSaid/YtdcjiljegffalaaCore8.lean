/-
  Layer 11: how many are free, how many are pinned.
-/
import Derived.Test.YtdcjiljegffalaaCore6
set_option maxRecDepth 100000
set_option linter.unusedSimpArgs false
namespace Lav
open Go (IntKind)

/-- How many are free. -/
def cz : List Fm → Nat
  | [] => 0
  | f :: fs => (if f.st = 0 then 1 else 0) + cz fs
theorem cz_app : ∀ (fs gs : List Fm), cz (fs ++ gs) = cz fs + cz gs
  | [], _ => by simp [cz]
  | f :: fs, gs => by simp [cz, cz_app fs gs]; omega
theorem cz_take {fs : List Fm} {n : Nat} (h : n < fs.length) : cz (fs.take (n + 1)) = cz (fs.take n) + if fs[n].st = 0 then 1 else 0 := by
  rw [List.take_succ_eq_append_getElem h, cz_app]; simp [cz]
theorem cz_le : ∀ (fs : List Fm), cz fs ≤ fs.length
  | [] => Nat.le_refl _
  | f :: fs => by have := cz_le fs; simp only [cz, List.length_cons]; split <;> omega
theorem free_part (fs : List Fm) : ∀ (n : Nat), n ≤ fs.length → ∀ (o : List Int), o.Nodup → (∀ x, x ∈ o ↔ ∃ (i : Nat) (f : Fm), i < n ∧ x = (i : Int) ∧ fs[i]? = some f ∧ f.st = 0) → o.length = cz (fs.take n)
  | 0, _, o, _, h => by
    cases o with
    | nil => rfl
    | cons a l =>
      obtain ⟨i, f, hi, _⟩ := (h a).1 (by simp)
      omega
  | n + 1, hn, o, nd, h => by
    rw [cz_take (by omega)]
    by_cases h0 : fs[n].st = 0
    · have hm : (n : Int) ∈ o := (h n).2 ⟨n, fs[n], by omega, rfl, List.getElem?_eq_getElem (by omega), h0⟩
      have := free_part fs n (by omega) (o.erase (n : Int)) (nd.erase _) fun x => by
        rw [nd.mem_erase_iff, h x]
        constructor
        · rintro ⟨hne, i, f, hi, rfl, hf⟩
          exact ⟨i, f, by omega, rfl, hf⟩
        · rintro ⟨i, f, hi, rfl, hf⟩
          exact ⟨by omega, i, f, by omega, rfl, hf⟩
      rw [List.length_erase_of_mem hm] at this
      have : 0 < o.length := List.length_pos_of_mem hm
      rw [if_pos h0]; omega
    · have := free_part fs n (by omega) o nd fun x => by
        rw [h x]
        constructor
        · rintro ⟨i, f, hi, rfl, hf, h1⟩
          refine ⟨i, f, ?_, rfl, hf, h1⟩
          rcases Nat.lt_or_ge i n with h' | h'
          · exact h'
          · have : i = n := by omega
            subst this
            rw [List.getElem?_eq_getElem (by omega)] at hf
            simp only [Option.some.injEq] at hf
            exact absurd (hf ▸ h1) h0
        · rintro ⟨i, f, hi, rfl, hf⟩
          exact ⟨i, f, by omega, rfl, hf⟩
      rw [if_neg h0]; omega
theorem AH.free {h : Heap} {p : Nat} {a : AP} {fs : List Fm} {o : List Int} {M : Nat → Option Int} (A : AH h p a fs o M) : o.length = cz fs := by
  have := free_part fs fs.length (Nat.le_refl _) o A.ar.ll.nd fun x => by
    rw [A.fo x]
    constructor
    · rintro ⟨i, f, rfl, hf, h0⟩
      exact ⟨i, f, (List.getElem?_eq_some_iff.1 hf).1, rfl, hf, h0⟩
    · rintro ⟨i, f, _, rfl, hf, h0⟩
      exact ⟨i, f, rfl, hf, h0⟩
  rwa [List.take_length] at this
/-- How many are pinned. -/
def cp : List Fm → Nat
  | [] => 0
  | f :: fs => (if f.pn > 0 then 1 else 0) + cp fs
theorem cp_app : ∀ (fs gs : List Fm), cp (fs ++ gs) = cp fs + cp gs
  | [], _ => by simp [cp]
  | f :: fs, gs => by simp [cp, cp_app fs gs]; omega
theorem cp_take {fs : List Fm} {n : Nat} (h : n < fs.length) : cp (fs.take (n + 1)) = cp (fs.take n) + if fs[n].pn > 0 then 1 else 0 := by
  rw [List.take_succ_eq_append_getElem h, cp_app]; simp [cp]
theorem cp_le : ∀ (fs : List Fm), cp fs ≤ fs.length
  | [] => Nat.le_refl _
  | f :: fs => by have := cp_le fs; simp only [cp, List.length_cons]; split <;> omega
theorem cp_all : ∀ (fs : List Fm), (∀ f ∈ fs, f.pn > 0) → cp fs = fs.length
  | [], _ => rfl
  | f :: fs, h => by
    have := cp_all fs fun g hg => h g (by simp [hg])
    simp only [cp, List.length_cons, if_pos (h f (by simp)), this]; omega
end Lav
