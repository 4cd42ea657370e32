/-
  Steps that come in as records of ints: a record is read as a whole; its local copy; its kind.
-/
import Derived.Test.YtdilhnnbfkiacaaFwR
import Derived.Test.YtdilhnnbfkiacaaFwN
set_option maxRecDepth 100000
set_option linter.unusedSimpArgs false
namespace Lav
open Go (IntKind)

theorem cut_join {l l1 l2 : List CV} {o m n : Nat} (h1 : cut l o m = some l1) (h2 : cut l (o + m) n = some l2) : cut l o (m + n) = some (l1 ++ l2) := by
  unfold cut at *
  cases hb : Nat.ble (o + m + n) l.length with
  | false => rw [hb] at h2; cases h2
  | true =>
    have hle : o + m + n ≤ l.length := Nat.le_of_ble_eq_true hb
    have hb1 : Nat.ble (o + m) l.length = true := Nat.ble_eq_true_of_le (by omega)
    have hb2 : Nat.ble (o + (m + n)) l.length = true := Nat.ble_eq_true_of_le (by omega)
    rw [hb] at h2
    rw [hb1] at h1
    rw [hb2]
    simp only [cond_true, Option.some.injEq] at *
    rw [← h1, ← h2, ← List.drop_drop, List.take_add]
theorem read_join {h : Heap} {i o m n : Nat} {l1 l2 : List CV} (h1 : h.read i o m = some l1) (h2 : h.read i (o + m) n = some l2) : h.read i o (m + n) = some (l1 ++ l2) := by
  unfold Heap.read at *
  cases hg : h.get i with
  | none => rw [hg] at h1; cases h1
  | some b =>
    rw [hg] at h1 h2
    cases b <;> first | exact cut_join h1 h2 | cases h1

theorem kindM {m : Nat} (h0 : 0 < m) (h1 : m < 1000000) (v : Int) : ∃ k : Nat, k < m ∧ Int.tmod (IntKind.i64.wrap (Int.tmod v (m : Int) + (m : Int))) (m : Int) = (k : Int) := by
  have h2 : Int.tmod v (m : Int) < (m : Int) := Int.tmod_lt_of_pos _ (by omega)
  have h3 : -(m : Int) < Int.tmod v (m : Int) := Int.lt_tmod_of_pos _ (by omega)
  rw [wrapI (by omega) (by omega)]
  have h4 : 0 ≤ Int.tmod v (m : Int) + (m : Int) := by omega
  generalize Int.tmod v (m : Int) + (m : Int) = x at *
  have h5 : 0 ≤ Int.tmod x (m : Int) := Int.tmod_nonneg _ h4
  have h6 : Int.tmod x (m : Int) < (m : Int) := Int.tmod_lt_of_pos _ (by omega)
  exact ⟨(Int.tmod x (m : Int)).toNat, by omega, by omega⟩

section
variable {h : Heap} {n bx o : Nat} {cc : Cap} {xs : List Int}
theorem Recs.at_ {sz : Nat} (hx : Recs sz h (.sl bx o n cc) n xs) {i k : Nat} (hi : i < n) (hk : k < sz) : h.read bx (o + i * sz + k) 1 = some [.int .i64 (xs.getD (i * sz + k) 0)] := by
  obtain ⟨i', o', c', e, _, r⟩ := hx.sl (by omega)
  cases e
  exact r i k hi hk
theorem Recs.lt {sz : Nat} (hx : Recs sz h (.sl bx o n cc) n xs) (hn : 0 < n) : bx < h.next := by
  obtain ⟨i', o', c', e, h1, _⟩ := hx.sl hn
  cases e
  exact h1
theorem Recs.op2 (hx : Recs 2 h (.sl bx o n cc) n xs) {i : Nat} (hi : i < n) : h.read bx (o + i * 2) 2 = some [.int .i64 (xs.getD (i * 2) 0), .int .i64 (xs.getD (i * 2 + 1) 0)] :=
  read_join (m := 1) (n := 1) (hx.at_ (k := 0) hi (by omega)) (hx.at_ (k := 1) hi (by omega))
theorem Recs.op3 (hx : Recs 3 h (.sl bx o n cc) n xs) {i : Nat} (hi : i < n) : h.read bx (o + i * 3) 3 = some [.int .i64 (xs.getD (i * 3) 0), .int .i64 (xs.getD (i * 3 + 1) 0), .int .i64 (xs.getD (i * 3 + 2) 0)] :=
  read_join (m := 2) (n := 1) (read_join (m := 1) (n := 1) (hx.at_ (k := 0) hi (by omega)) (hx.at_ (k := 1) hi (by omega))) (hx.at_ (k := 2) hi (by omega))
theorem Recs.op4 (hx : Recs 4 h (.sl bx o n cc) n xs) {i : Nat} (hi : i < n) : h.read bx (o + i * 4) 4 = some [.int .i64 (xs.getD (i * 4) 0), .int .i64 (xs.getD (i * 4 + 1) 0), .int .i64 (xs.getD (i * 4 + 2) 0), .int .i64 (xs.getD (i * 4 + 3) 0)] :=
  read_join (m := 3) (n := 1) (read_join (m := 2) (n := 1) (read_join (m := 1) (n := 1) (hx.at_ (k := 0) hi (by omega)) (hx.at_ (k := 1) hi (by omega))) (hx.at_ (k := 2) hi (by omega))) (hx.at_ (k := 3) hi (by omega))
end
/-- The slice that came in is none, or a slice. -/
theorem Recs.is {sz : Nat} {h : Heap} {x : CV} {n : Nat} {l : List Int} (r : Recs sz h x n l) : (x = .nils ∧ n = 0) ∨ ∃ i o c, x = .sl i o n c ∧ i < h.next := by
  rcases r.2 with ⟨rfl, h⟩ | ⟨i, o, c, rfl, hi, _⟩
  · exact .inl ⟨rfl, h⟩
  · exact .inr ⟨i, o, c, rfl, hi⟩
end Lav
