/-
  Layer 10: frames, without the program.
-/
import Derived.Test.YtdilhnnbfkiacaaIr
import Derived.Test.YtdilhnnbfkiacaaFwN
set_option maxRecDepth 100000
set_option linter.unusedSimpArgs false
namespace Lav
open Go (IntKind)

/-- A frame: its state, page, pins, mark; where its body lies. -/
structure Fm where
  st : Int
  pg : Int
  pn : Int
  dt : Bool
  y : CV
abbrev frC (f : Fm) : List CV := [.int .i64 f.st, .int .i64 f.pg, .int .i64 f.pn, .bool f.dt, f.y]
def frsC : List Fm → List CV
  | [] => []
  | f :: fs => frC f ++ frsC fs
theorem frsC_len : ∀ (fs : List Fm), (frsC fs).length = fs.length * 5
  | [] => rfl
  | f :: fs => by simp [frsC, frsC_len fs]; omega
theorem frsC_app : ∀ (fs gs : List Fm), frsC (fs ++ gs) = frsC fs ++ frsC gs
  | [], _ => rfl
  | f :: fs, gs => by simp [frsC, frsC_app fs gs]
theorem frsC_drop : ∀ (fs : List Fm) (i : Nat) (hi : i < fs.length), (frsC fs).drop (i * 5) = frC fs[i] ++ frsC (fs.drop (i + 1))
  | f :: fs, 0, _ => rfl
  | f :: fs, i + 1, h => by
    rw [show (i + 1) * 5 = 5 + i * 5 by omega, ← List.drop_drop]
    exact frsC_drop fs i (by simpa using h)
theorem frsC_at {fs : List Fm} {i : Nat} (hi : i < fs.length) {k : Nat} (hk : k < 5) : (frsC fs)[i * 5 + k]? = (frC fs[i])[k]? := by
  have := frsC_drop fs i hi
  rw [← List.getElem?_drop, this, List.getElem?_append_left (by simpa using hk)]
theorem frsC_put : ∀ (fs : List Fm) (i : Nat) (_ : i < fs.length) (g : Fm), (frsC fs).take (i * 5) ++ frC g ++ (frsC fs).drop (i * 5 + 5) = frsC (fs.set i g)
  | f :: fs, 0, _, g => rfl
  | f :: fs, i + 1, h, g => by
    have := frsC_put fs i (by simpa using h) g
    rw [show (i + 1) * 5 = i * 5 + 5 by omega]
    simp only [List.set_cons_succ, frsC, List.cons_append, List.nil_append, List.take_succ_cons, List.drop_succ_cons]
    rw [← this]
theorem frsC_set {fs : List Fm} {i : Nat} (hi : i < fs.length) {k : Nat} (hk : k < 5) {v : CV} {g : Fm} (hg : frC g = (frC fs[i]).set k v) : (frsC fs).set (i * 5 + k) v = frsC (fs.set i g) := by
  rw [← frsC_put fs i hi g, hg]
  have e : frsC fs = (frsC fs).take (i * 5) ++ ((frC fs[i]) ++ (frsC fs).drop (i * 5 + 5)) := by
    rw [← List.drop_drop, frsC_drop fs i hi]
    have : List.drop 5 (frC fs[i] ++ frsC (fs.drop (i + 1))) = frsC (fs.drop (i + 1)) := rfl
    rw [this, ← frsC_drop fs i hi, List.take_append_drop]
  have ht : ((frsC fs).take (i * 5)).length = i * 5 := by rw [List.length_take, frsC_len]; omega
  conv => lhs; rw [e]
  rw [List.set_append_right _ _ (by omega), ht, Nat.add_sub_cancel_left, List.set_append_left _ _ (by simpa using hk), List.append_assoc]

/-- How many are used. -/
def cu : List Fm → Nat
  | [] => 0
  | f :: fs => (if f.st = 1 then 1 else 0) + cu fs
theorem cu_set : ∀ (fs : List Fm) (i : Nat) (hi : i < fs.length) (g : Fm), cu (fs.set i g) + (if fs[i].st = 1 then 1 else 0) = cu fs + (if g.st = 1 then 1 else 0)
  | f :: fs, 0, _, g => by simp only [List.set_cons_zero, cu, List.getElem_cons_zero]; omega
  | f :: fs, i + 1, h, g => by
    have := cu_set fs i (by simpa using h) g
    simp only [List.set_cons_succ, cu, List.getElem_cons_succ]; omega
theorem cu_app : ∀ (fs gs : List Fm), cu (fs ++ gs) = cu fs + cu gs
  | [], _ => by simp [cu]
  | f :: fs, gs => by simp [cu, cu_app fs gs]; omega
theorem cu_le : ∀ (fs : List Fm), cu fs ≤ fs.length
  | [] => Nat.le_refl _
  | f :: fs => by have := cu_le fs; simp only [cu, List.length_cons]; split <;> omega

/-- The free ones. -/
def FO (fs : List Fm) (o : List Int) : Prop := ∀ x, x ∈ o ↔ ∃ (i : Nat) (f : Fm), x = (i : Int) ∧ fs[i]? = some f ∧ f.st = 0
/-- Where pages are. -/
def FM (fs : List Fm) (M : Nat → Option Int) : Prop := ∀ g v, M g = some v ↔ ∃ (i : Nat) (f : Fm), v = (i : Int) ∧ fs[i]? = some f ∧ f.st = 1 ∧ f.pg = (g : Int)
structure Okf (f : Fm) : Prop where
  s : f.st = 0 ∨ f.st = 1 ∨ f.st = 4
  u : f.st = 1 → 0 ≤ f.pg ∧ f.pg < 48 ∧ 0 ≤ f.pn ∧ f.pn ≤ 1000
  n : f.st ≠ 1 → f.pg = -1 ∧ f.pn = 0 ∧ f.dt = false
def OKs (fs : List Fm) : Prop := ∀ (i : Nat) (f : Fm), fs[i]? = some f → Okf f

theorem set_at {fs : List Fm} {i j : Nat} {f g : Fm} (hi : i < fs.length) : (fs.set i g)[j]? = some f ↔ (j = i ∧ f = g) ∨ (j ≠ i ∧ fs[j]? = some f) := by
  rw [List.getElem?_set]
  by_cases h : i = j
  · subst h; simp [hi]; exact eq_comm
  · rw [if_neg h]
    constructor
    · intro e; exact .inr ⟨fun e' => h e'.symm, e⟩
    · rintro (⟨e, _⟩ | ⟨_, e⟩)
      · exact absurd e.symm h
      · exact e
theorem app_at {fs : List Fm} {j : Nat} {f g : Fm} : (fs ++ [g])[j]? = some f ↔ (j = fs.length ∧ f = g) ∨ (fs[j]? = some f) := by
  rcases Nat.lt_trichotomy j fs.length with h | h | h
  · rw [List.getElem?_append_left h]
    constructor
    · intro e; exact .inr e
    · rintro (⟨e, _⟩ | e)
      · omega
      · exact e
  · subst h
    rw [List.getElem?_append_right (Nat.le_refl _), Nat.sub_self, List.getElem?_eq_none (Nat.le_refl fs.length)]
    simp; exact eq_comm
  · rw [List.getElem?_eq_none (by simp; omega), List.getElem?_eq_none (by omega)]
    simp; omega

section
variable {fs : List Fm} {o : List Int} {M : Nat → Option Int} {i : Nat} {g : Fm}
theorem OKs.set (k : OKs fs) (hi : i < fs.length) (hg : Okf g) : OKs (fs.set i g) := by
  intro j f hf
  rcases (set_at hi).1 hf with ⟨_, rfl⟩ | ⟨_, h⟩
  · exact hg
  · exact k j f h
theorem OKs.app (k : OKs fs) (hg : Okf g) : OKs (fs ++ [g]) := by
  intro j f hf
  rcases app_at.1 hf with ⟨_, rfl⟩ | h
  · exact hg
  · exact k j f h
theorem FO.lt (k : FO fs o) {x : Int} (hx : x ∈ o) : ∃ (i : Nat) (hi : i < fs.length), x = (i : Int) ∧ fs[i].st = 0 := by
  obtain ⟨i, f, rfl, hf, h0⟩ := (k x).1 hx
  obtain ⟨hi, e⟩ := List.getElem?_eq_some_iff.1 hf
  exact ⟨i, hi, rfl, by rw [e]; exact h0⟩
theorem FO.not (k : FO fs o) (hi : i < fs.length) (h : fs[i].st ≠ 0) : (i : Int) ∉ o := by
  intro hx
  obtain ⟨j, hj, e, h0⟩ := k.lt hx
  have : i = j := by omega
  subst this
  exact h h0
theorem FO.keep (k : FO fs o) (hi : i < fs.length) (h : fs[i].st ≠ 0) (hg : g.st ≠ 0) : FO (fs.set i g) o := by
  intro x
  rw [k x]
  constructor
  · rintro ⟨j, f, rfl, hf, h0⟩
    refine ⟨j, f, rfl, (set_at hi).2 (.inr ⟨fun e => ?_, hf⟩), h0⟩
    subst e
    rw [List.getElem?_eq_getElem hi] at hf
    cases hf
    exact h h0
  · rintro ⟨j, f, rfl, hf, h0⟩
    rcases (set_at hi).1 hf with ⟨_, rfl⟩ | ⟨_, h'⟩
    · exact absurd h0 hg
    · exact ⟨j, f, rfl, h', h0⟩
theorem FO.free (k : FO fs o) (hi : i < fs.length) (hg : g.st = 0) : FO (fs.set i g) (o ++ [(i : Int)]) := by
  intro x
  rw [List.mem_append, List.mem_singleton, k x]
  constructor
  · rintro (⟨j, f, rfl, hf, h0⟩ | rfl)
    · by_cases e : j = i
      · subst e; exact ⟨j, g, rfl, (set_at hi).2 (.inl ⟨rfl, rfl⟩), hg⟩
      · exact ⟨j, f, rfl, (set_at hi).2 (.inr ⟨e, hf⟩), h0⟩
    · exact ⟨i, g, rfl, (set_at hi).2 (.inl ⟨rfl, rfl⟩), hg⟩
  · rintro ⟨j, f, rfl, hf, h0⟩
    rcases (set_at hi).1 hf with ⟨rfl, rfl⟩ | ⟨_, h'⟩
    · exact .inr rfl
    · exact .inl ⟨j, f, rfl, h', h0⟩
theorem FO.app (k : FO fs o) (hg : g.st = 0) : FO (fs ++ [g]) (o ++ [(fs.length : Int)]) := by
  intro x
  rw [List.mem_append, List.mem_singleton, k x]
  constructor
  · rintro (⟨j, f, rfl, hf, h0⟩ | rfl)
    · exact ⟨j, f, rfl, app_at.2 (.inr hf), h0⟩
    · exact ⟨fs.length, g, rfl, app_at.2 (.inl ⟨rfl, rfl⟩), hg⟩
  · rintro ⟨j, f, rfl, hf, h0⟩
    rcases app_at.1 hf with ⟨rfl, rfl⟩ | h'
    · exact .inr rfl
    · exact .inl ⟨j, f, rfl, h', h0⟩
theorem FO.take (k : FO fs o) (nd : o.Nodup) (hi : i < fs.length) (hg : g.st ≠ 0) : FO (fs.set i g) (o.erase (i : Int)) := by
  intro x
  rw [nd.mem_erase_iff, k x]
  constructor
  · rintro ⟨hne, j, f, rfl, hf, h0⟩
    exact ⟨j, f, rfl, (set_at hi).2 (.inr ⟨fun e => hne (by rw [e]), hf⟩), h0⟩
  · rintro ⟨j, f, rfl, hf, h0⟩
    rcases (set_at hi).1 hf with ⟨_, rfl⟩ | ⟨hj, h'⟩
    · exact absurd h0 hg
    · exact ⟨by omega, j, f, rfl, h', h0⟩
theorem FM.one (k : FM fs M) (hi : i < fs.length) (h1 : fs[i].st = 1) {q : Nat} (hq : fs[i].pg = (q : Int)) : M q = some (i : Int) := (k q i).2 ⟨i, fs[i], rfl, List.getElem?_eq_getElem hi, h1, hq⟩
theorem FM.keep (k : FM fs M) (hi : i < fs.length) (h : (fs[i].st = 1 ↔ g.st = 1)) (hp : g.st = 1 → g.pg = fs[i].pg) : FM (fs.set i g) M := by
  intro q v
  rw [k q v]
  constructor
  · rintro ⟨j, f, rfl, hf, h1, h2⟩
    by_cases e : j = i
    · subst e
      rw [List.getElem?_eq_getElem hi] at hf
      cases hf
      exact ⟨j, g, rfl, (set_at hi).2 (.inl ⟨rfl, rfl⟩), h.1 h1, by rw [hp (h.1 h1)]; exact h2⟩
    · exact ⟨j, f, rfl, (set_at hi).2 (.inr ⟨e, hf⟩), h1, h2⟩
  · rintro ⟨j, f, rfl, hf, h1, h2⟩
    rcases (set_at hi).1 hf with ⟨rfl, rfl⟩ | ⟨_, h'⟩
    · exact ⟨j, fs[j], rfl, List.getElem?_eq_getElem hi, h.2 h1, by rw [← hp h1]; exact h2⟩
    · exact ⟨j, f, rfl, h', h1, h2⟩
theorem FM.app (k : FM fs M) (h : g.st ≠ 1) : FM (fs ++ [g]) M := by
  intro q v
  rw [k q v]
  constructor
  · rintro ⟨j, f, rfl, hf, h1, h2⟩
    exact ⟨j, f, rfl, app_at.2 (.inr hf), h1, h2⟩
  · rintro ⟨j, f, rfl, hf, h1, h2⟩
    rcases app_at.1 hf with ⟨rfl, rfl⟩ | h'
    · exact absurd h1 h
    · exact ⟨j, f, rfl, h', h1, h2⟩
theorem FM.take (k : FM fs M) (hi : i < fs.length) (h0 : fs[i].st ≠ 1) {q : Nat} (hq : M q = none) (h1 : g.st = 1) (h2 : g.pg = (q : Int)) : FM (fs.set i g) (fun j => if j = q then some (i : Int) else M j) := by
  intro p v
  by_cases e : p = q
  · subst e
    simp only [if_true]
    constructor
    · intro e
      cases e
      exact ⟨i, g, rfl, (set_at hi).2 (.inl ⟨rfl, rfl⟩), h1, h2⟩
    · rintro ⟨j, f, rfl, hf, h3, h4⟩
      rcases (set_at hi).1 hf with ⟨rfl, rfl⟩ | ⟨_, h'⟩
      · rfl
      · have := (k p j).2 ⟨j, f, rfl, h', h3, h4⟩
        rw [hq] at this; cases this
  · simp only [if_neg e]
    rw [k p v]
    constructor
    · rintro ⟨j, f, rfl, hf, h3, h4⟩
      refine ⟨j, f, rfl, (set_at hi).2 (.inr ⟨fun e => ?_, hf⟩), h3, h4⟩
      subst e
      rw [List.getElem?_eq_getElem hi] at hf
      cases hf
      exact h0 h3
    · rintro ⟨j, f, rfl, hf, h3, h4⟩
      rcases (set_at hi).1 hf with ⟨rfl, rfl⟩ | ⟨_, h'⟩
      · omega
      · exact ⟨j, f, rfl, h', h3, h4⟩
theorem FM.drop (k : FM fs M) (hi : i < fs.length) (h1 : fs[i].st = 1) {q : Nat} (hq : fs[i].pg = (q : Int)) (h0 : g.st ≠ 1) : FM (fs.set i g) (fun j => if j = q then none else M j) := by
  have hM := k.one hi h1 hq
  intro p v
  by_cases e : p = q
  · subst e
    simp only [if_true]
    constructor
    · intro e; cases e
    · rintro ⟨j, f, rfl, hf, h3, h4⟩
      rcases (set_at hi).1 hf with ⟨rfl, rfl⟩ | ⟨hj, h'⟩
      · exact absurd h3 h0
      · have := (k p j).2 ⟨j, f, rfl, h', h3, h4⟩
        rw [hM] at this
        simp at this
        omega
  · simp only [if_neg e]
    rw [k p v]
    constructor
    · rintro ⟨j, f, rfl, hf, h3, h4⟩
      refine ⟨j, f, rfl, (set_at hi).2 (.inr ⟨fun e' => ?_, hf⟩), h3, h4⟩
      subst e'
      rw [List.getElem?_eq_getElem hi] at hf
      cases hf
      omega
    · rintro ⟨j, f, rfl, hf, h3, h4⟩
      rcases (set_at hi).1 hf with ⟨rfl, rfl⟩ | ⟨_, h'⟩
      · exact absurd h3 h0
      · exact ⟨j, f, rfl, h', h3, h4⟩
end
end Lav
