/-
  Layer 7: one task among idle ones.
-/
import Derived.Test.YtakkkibaaipmcaaSched2
set_option maxRecDepth 100000
set_option linter.unusedSimpArgs false
namespace Lav
open Go (IntKind)

theorem idx_none (P : Tk → Bool) : ∀ (l : Tks) (i : Nat), (∀ t ∈ l, P t = false) → idxGo P i l = []
  | [], _, _ => rfl
  | t :: l, i, h => by
    simp only [idxGo, h t (by simp)]
    exact idx_none P l (i + 1) fun u hu => h u (by simp [hu])
theorem idx_set (P : Tk → Bool) (x : Tk) : ∀ (l : Tks) (i k : Nat), (∀ t ∈ l, P t = false) → k < l.length → idxGo P i (l.set k x) = if P x = true then [i + k] else []
  | t :: l, i, 0, h, _ => by
    simp only [List.set_cons_zero, idxGo]
    rw [idx_none P l (i + 1) fun u hu => h u (by simp [hu])]
    simp
  | t :: l, i, k + 1, h, hk => by
    have := idx_set P x l (i + 1) k (fun u hu => h u (by simp [hu])) (by simpa using hk)
    simp only [List.set_cons_succ, idxGo, h t (by simp), Bool.false_eq_true, if_false, this]
    rw [show i + 1 + k = i + (k + 1) by omega]
theorem ready_idx : ∀ (l : Tks) (i : Nat), readyGo i l = idxGo (fun t => t.st == 1) i l
  | [], _ => rfl
  | t :: l, i => by
    simp only [readyGo, idxGo, ready_idx l (i + 1), beq_iff_eq]

/-- One task so, all others idle. -/
def one (n k : Nat) (x : Tk) : Tks := (List.replicate n tk0).set k x
theorem one_len {n k : Nat} {x : Tk} : (one n k x).length = n := by simp [one]
theorem one_at {n k : Nat} {x : Tk} (hk : k < n) : (one n k x)[k]'(by rw [one_len]; exact hk) = x := by simp [one]
theorem one_set {n k : Nat} {x y : Tk} : (one n k x).set k y = one n k y := by simp [one]
theorem one_idle {n k : Nat} (hk : k < n) : one n k tk0 = List.replicate n tk0 := by
  have : tk0 = (List.replicate n tk0)[k]'(by simpa using hk) := by simp
  unfold one
  conv => lhs; arg 3; rw [this]
  exact List.set_getElem_self _
theorem one_idx {n k : Nat} {x : Tk} (P : Tk → Bool) (h0 : P tk0 = false) (hk : k < n) : idxGo P 0 (one n k x) = if P x = true then [k] else [] := by
  have := idx_set P x (List.replicate n tk0) 0 k (fun t ht => by rw [(List.mem_replicate.1 ht).2]; exact h0) (by simpa using hk)
  rw [Nat.zero_add] at this; exact this
theorem one_freed {n k on : Nat} {x : Tk} : (one n k x).map (freed on) = one n k (freed on x) := by
  have h0 : freed on tk0 = tk0 := by simp [freed, waitsOn, tk0]
  unfold one
  rw [List.map_set, List.map_replicate, h0]
end Lav
