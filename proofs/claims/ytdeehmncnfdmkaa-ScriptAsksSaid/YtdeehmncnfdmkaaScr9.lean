/-
  Layer 15: what steps may be.
-/
import Derived.Test.YtdeehmncnfdmkaaScr8
set_option maxRecDepth 100000
set_option linter.unusedSimpArgs false
namespace Lav
open Go (IntKind)

structure OpMay (c : Cf) (o : Clp) : Prop where
  k1 : 1 ≤ o.kind
  k2 : o.kind ≤ 8
  p1 : 0 ≤ o.page
  p2 : o.page ≤ c.pages
  h1 : 0 ≤ o.handle
  h2 : o.handle ≤ 6
  f2 : o.off ≤ 15
  n2 : o.n ≤ 15
  d2 : o.data.length ≤ 15

theorem op_may {c : Cf} (hc : c.ok = true) {a b e : Nat} (he : e < 256) : OpMay c (opOf c a b e) := by
  have ok := Cf.ok_iff.1 hc
  have p0 := Int.emod_nonneg (b : Int) (b := c.pages + 1) (by omega)
  have p1 := Int.emod_lt_of_pos (b : Int) (b := c.pages + 1) (by omega)
  have h8 : a % 8 = 0 ∨ a % 8 = 1 ∨ a % 8 = 2 ∨ a % 8 = 3 ∨ a % 8 = 4 ∨ a % 8 = 5 ∨ a % 8 = 6 ∨ a % 8 = 7 := by omega
  unfold opOf
  rw [if_pos hc]
  rcases h8 with k | k | k | k | k | k | k | k <;> rw [k] <;> constructor <;> simp only [opK, List.length_nil, List.length_replicate] <;> omega

def StMay (c : Cf) (s : Stp) : Prop :=
  (s.kind = 1 ∧ 0 ≤ s.client ∧ s.client < c.clients ∧ OpMay c s.op) ∨ (s.kind = 2 ∧ 0 ≤ s.n ∧ s.n ≤ 65535) ∨ (s.kind = 3 ∧ 0 ≤ s.n ∧ s.n ≤ 15) ∨
  (s.kind = 5 ∧ c.shards ≤ s.n ∧ s.n ≤ 32) ∨ (s.kind = 6 ∧ 0 ≤ s.n ∧ s.n < 16 ∧ 0 ≤ s.to ∧ s.to < c.shards) ∨ (s.kind = 4 ∧ s.bits.length = 2)

theorem st_may {c : Cf} (hc : c.ok = true) {b0 b1 b2 b3 : Nat} (h1 : b1 < 256) (h2 : b2 < 256) (h3 : b3 < 256) : StMay c (stepOf c b0 b1 b2 b3) := by
  have ok := Cf.ok_iff.1 hc
  have p0 := Int.emod_nonneg (b1 : Int) (b := c.clients) (by omega)
  have p1 := Int.emod_lt_of_pos (b1 : Int) (b := c.clients) (by omega)
  have p2 := Int.emod_nonneg (b3 : Int) (b := 32 - c.shards + 1) (by omega)
  have p3 := Int.emod_lt_of_pos (b3 : Int) (b := 32 - c.shards + 1) (by omega)
  have p4 := Int.emod_nonneg (b2 : Int) (b := c.shards) (by omega)
  have p5 := Int.emod_lt_of_pos (b2 : Int) (b := c.shards) (by omega)
  have om : OpMay c (opOf c (b0 / 8) b2 b3) := op_may hc h3
  have h8 : b0 % 8 = 0 ∨ b0 % 8 = 1 ∨ b0 % 8 = 2 ∨ b0 % 8 = 3 ∨ b0 % 8 = 4 ∨ b0 % 8 = 5 ∨ b0 % 8 = 6 ∨ b0 % 8 = 7 := by omega
  unfold stepOf
  rcases h8 with k | k | k | k | k | k | k | k <;> rw [k]
  · exact .inl ⟨rfl, p0, p1, om⟩
  · exact .inl ⟨rfl, p0, p1, om⟩
  · exact .inl ⟨rfl, p0, p1, om⟩
  · exact .inr (.inl ⟨rfl, by simp only [stepK]; omega, by simp only [stepK]; omega⟩)
  · exact .inr (.inl ⟨rfl, by simp only [stepK]; omega, by simp only [stepK]; omega⟩)
  · exact .inr (.inl ⟨rfl, by simp only [stepK]; omega, by simp only [stepK]; omega⟩)
  · by_cases hb : b2 % 2 = 1
    · simp only [stepK, if_pos hb]
      exact .inr (.inr (.inr (.inl ⟨rfl, by simp only; omega, by simp only; omega⟩)))
    · simp only [stepK, if_neg hb]
      exact .inr (.inr (.inl ⟨rfl, by simp only; omega, by simp only; omega⟩))
  · by_cases hb : b1 = 255
    · simp only [stepK, if_pos hb]
      exact .inr (.inr (.inr (.inr (.inr ⟨rfl, rfl⟩))))
    · simp only [stepK, if_neg hb]
      exact .inr (.inr (.inr (.inr (.inl ⟨rfl, by simp only; omega, by simp only; omega, p4, p5⟩))))

theorem Txt.small {h : Heap} {x : CV} {s : List Nat} (t : Txt h x s) (j : Nat) : s.getD j 0 < 256 := by
  rw [List.getD_eq_getElem?_getD]
  rcases Nat.lt_or_ge j s.length with hj | hj
  · rw [List.getElem?_eq_getElem hj]
    rcases t with ⟨_, rfl⟩ | ⟨i, o, c, _, _, _, h4⟩
    · simp at hj
    · exact h4 _ (List.getElem_mem _)
  · rw [List.getElem?_eq_none hj]; simp
end Lav
