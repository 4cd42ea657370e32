/-
  Symbolic execution: slices of records that are read whole, made, added to; arrays of bools and of channels.
-/
import Derived.Test.YtdeehmncnfdmkaaFwR
import Derived.Test.YtdeehmncnfdmkaaFwO
namespace Lav
open Go (IntKind BinOp UnOp)

theorem cut_sub {m r : List CV} {o a b c : Nat} (h : cut m o a = some r) (hb : b + c ≤ a) : cut m (o + b) c = some ((r.drop b).take c) := by
  unfold cut at h
  cases hl : Nat.ble (o + a) m.length with
  | false => rw [hl] at h; cases h
  | true =>
    rw [hl] at h
    have hle := Nat.le_of_ble_eq_true hl
    simp only [cond_true, Option.some.injEq] at h
    subst h
    rw [cut_part (by omega), List.drop_take, List.take_take, List.drop_drop, Nat.min_eq_left (by omega)]
theorem read_sub {h : Heap} {i o a b c : Nat} {r : List CV} (hr : h.read i o a = some r) (hb : b + c ≤ a) : h.read i (o + b) c = some ((r.drop b).take c) := by
  unfold Heap.read at *
  split at hr
  · exact cut_sub hr hb
  · exact cut_sub hr hb
  · cases hr

/-- All of a slice of records, at once. -/
theorem Recs.whole {sz n : Nat} {h : Heap} {x : CV} {l : List Int} (r : Recs sz h x n l) (hn : 0 < n) (hsz : 0 < sz) : ∃ i o c, x = .sl i o n c ∧ i < h.next ∧ h.read i o (n * sz) = some (l.map icell) := by
  obtain ⟨hl, ⟨_, h0⟩ | ⟨i, o, c, rfl, h2, h3⟩⟩ := r
  · omega
  · refine ⟨i, o, c, rfl, h2, ?_⟩
    have hI : Ints h (.sl i o l.length c) l := .inr ⟨i, o, c, rfl, h2, fun j v hj => by rw [Nat.mul_one]; exact h3 j v hj⟩
    have hs := hI.source
    have hp : 0 < l.length := by rw [hl]; exact Nat.mul_pos hn hsz
    obtain ⟨k, hk⟩ : ∃ k, l.length = k + 1 := ⟨l.length - 1, by omega⟩
    rw [← hl]
    simp only [Lav.source, Nat.mul_one] at hs
    cases hr : h.read i o l.length with
    | none => rw [hr, hk] at hs; cases hs
    | some y => rw [hr] at hs; simp only [Option.some.injEq, Prod.mk.injEq, true_and] at hs; rw [hs]
theorem Recs.source {sz n : Nat} {h : Heap} {x : CV} {l : List Int} (r : Recs sz h x n l) (hsz : 0 < sz) : Lav.source h sz (.c x) = some (n, l.map icell) := by
  by_cases hn : 0 < n
  · obtain ⟨i, o, c, rfl, _, hr⟩ := r.whole hn hsz
    simp only [Lav.source, hr]
  · have h0 : n = 0 := by omega
    subst h0
    obtain ⟨hl, ⟨rfl, _⟩ | ⟨i, o, c, rfl, h2, h3⟩⟩ := r
    · have : l = [] := List.eq_nil_of_length_eq_zero (by simpa using hl)
      subst this; rfl
    · have : l = [] := List.eq_nil_of_length_eq_zero (by simpa using hl)
      subst this
      simp only [Lav.source, Nat.zero_mul]
      cases hr : h.read i o 0 with
      | none => rfl
      | some y =>
        have := read_sub hr (b := 0) (c := 0) (by omega)
        rw [Nat.add_zero, hr] at this
        simp at this; rw [this]; rfl

/-- A slice of records that was made since h0, the only one of its block. -/
def SoleR (sz : Nat) (h0 h : Heap) (x : CV) (n : Nat) (l : List Int) : Prop :=
  l.length = n * sz ∧ ((x = .nils ∧ n = 0) ∨ ∃ i c, x = .sl i 0 n c ∧ (c = .dy sz ∨ c = .ex n) ∧ h.get i = some (.cells (l.map icell)) ∧ h0.next ≤ i ∧ i < h.next)

theorem SoleR.recs {sz n : Nat} {h0 h : Heap} {x : CV} {l : List Int} (m : SoleR sz h0 h x n l) : Recs sz h x n l := by
  obtain ⟨hl, ⟨rfl, rfl⟩ | ⟨i, c, rfl, _, hg, _, hi⟩⟩ := m
  · exact ⟨hl, .inl ⟨rfl, rfl⟩⟩
  · exact ⟨hl, .inr ⟨i, 0, c, rfl, hi, fun j v hj => by rw [Nat.zero_add]; exact read_cells hg (by simp [hj, icell])⟩⟩
theorem SoleR.young {sz n : Nat} {h0 h : Heap} {x : CV} {l : List Int} (m : SoleR sz h0 h x n l) : ∀ k, blk x = some k → h0.next ≤ k := by
  obtain ⟨_, ⟨rfl, _⟩ | ⟨i, c, rfl, _, _, h1, _⟩⟩ := m <;> intro k hk <;> simp [blk] at hk
  omega
theorem SoleR.shape {sz n : Nat} {h0 h : Heap} {x : CV} {l : List Int} (m : SoleR sz h0 h x n l) : ∀ i o' n c, x = .sl i o' n c → c = .dy sz ∨ c = .ex n := by
  obtain ⟨_, ⟨rfl, _⟩ | ⟨i, c, rfl, h1, _⟩⟩ := m <;> intro i o' n c' e <;> cases e
  exact h1
theorem SoleR.keep {sz n : Nat} {h0 h h' : Heap} {x : CV} {l : List Int} (m : SoleR sz h0 h x n l) (hn : h.next ≤ h'.next) (hk : ∀ k, k < h.next → blk x = some k → h'.get k = h.get k) : SoleR sz h0 h' x n l := by
  obtain ⟨hl, h1 | ⟨i, c, rfl, h2, hg, h3, h4⟩⟩ := m
  · exact ⟨hl, .inl h1⟩
  · exact ⟨hl, .inr ⟨i, c, rfl, h2, (hk i h4 rfl).trans hg, h3, Nat.lt_of_lt_of_le h4 hn⟩⟩
theorem SoleR.keepB {sz n : Nat} {S : List Nat} {h0 h h' : Heap} {x : CV} {l : List Int} (m : SoleR sz h0 h x n l) (e : ExtB S h h') (hs : ∀ k, blk x = some k → k ∉ S) : SoleR sz h0 h' x n l := m.keep e.1 fun k hk hb => e.2 k hk (hs k hb)

/-- Records are added to it. -/
theorem app_recs {sz n m : Nat} {h0 h : Heap} {x y : CV} {l k : List Int} (hsz : 0 < sz) (a : SoleR sz h0 h x n l) (he : h0.next ≤ h.next) (hy : Recs sz h y m k) (hb : n + m ≤ 1000000) :
    ∃ z h', evApp h sz (.c x) (.c y) = some (.c z, h') ∧ SoleR sz h0 h' z (n + m) (l ++ k) ∧ h.next ≤ h'.next ∧ (∀ j, j < h.next → blk x ≠ some j → h'.get j = h.get j) := by
  have hs := hy.source hsz
  have hkl := hy.1
  cases m with
  | zero =>
    have : k = [] := List.eq_nil_of_length_eq_zero (by simpa using hkl)
    subst this
    refine ⟨x, h, app_none ?_ hs, by simpa using a, Nat.le_refl _, fun _ _ _ => rfl⟩
    obtain ⟨_, ⟨rfl, _⟩ | ⟨i, c, rfl, _⟩⟩ := a
    · exact .inl rfl
    · exact .inr ⟨_, _, _, _, rfl⟩
  | succ m =>
    have hlen : (l ++ k).length = (n + (m + 1)) * sz := by rw [List.length_append, a.1, hkl, ← Nat.add_mul]
    obtain ⟨hl, ⟨rfl, rfl⟩ | ⟨i, c, rfl, hc, hg, h1, h2⟩⟩ := a
    · have hnil : l = [] := List.eq_nil_of_length_eq_zero (by simpa using hl)
      subst hnil
      have b1 : Nat.ble (m + 1) 1073741824 = true := Nat.ble_eq_true_of_le (by omega)
      refine ⟨.sl h.next 0 (m + 1) (.dy sz), h.new (.cells (k.map icell)), ?_, ⟨hlen, .inr ⟨h.next, .dy sz, by rw [Nat.zero_add], .inl rfl, get_new_at, he, Nat.lt_succ_self _⟩⟩, Nat.le_succ _, fun j hj _ => get_new_old hj⟩
      unfold evApp
      simp only [hs, b1, cond_true]
    · have b1 : Nat.ble (n + (m + 1)) 1073741824 = true := Nat.ble_eq_true_of_le (by omega)
      rcases hc with rfl | rfl
      · have b2 : (sz == sz && 0 + n * sz == (l.map icell).length) = true := by simp [hl]
        refine ⟨.sl h.next 0 (n + (m + 1)) (.dy sz), (h.kill i).new (.cells ((l ++ k).map icell)), ?_, ⟨hlen, .inr ⟨h.next, .dy sz, rfl, .inl rfl, get_new_at, he, Nat.lt_succ_self _⟩⟩, Nat.le_succ _, fun j hj hn => ?_⟩
        · unfold evApp
          simp only [hs, b1, hg, b2, cond_true, List.drop_zero, List.map_append]
        · have : j ≠ i := fun e => hn (by rw [e]; rfl)
          rw [get_new_old (h := h.kill i) hj, get_kill_ne this]
      · have b2 : Nat.ble (n + (m + 1)) n = false := by
          cases hb : Nat.ble (n + (m + 1)) n with
          | false => rfl
          | true => have := Nat.le_of_ble_eq_true hb; omega
        have hr : h.read i 0 (n * sz) = some (l.map icell) := by
          rw [read_part hg (by simp [hl]), List.drop_zero, List.take_of_length_le (by simp [hl])]
        refine ⟨.sl h.next 0 (n + (m + 1)) (.dy sz), h.new (.cells ((l ++ k).map icell)), ?_, ⟨hlen, .inr ⟨h.next, .dy sz, rfl, .inl rfl, get_new_at, he, Nat.lt_succ_self _⟩⟩, Nat.le_succ _, fun j hj _ => get_new_old hj⟩
        unfold evApp
        simp only [hs, b1, b2, hr, cond_true, cond_false, List.map_append]

/-- A part of records. -/
theorem Recs.part {sz n m : Nat} {h : Heap} {i o : Nat} {c : Cap} {l : List Int} (hx : Recs sz h (.sl i o m c) n l) (a k : Nat) (hk : a + k ≤ n) (c' : Cap) : Recs sz h (.sl i (o + a * sz) k c') k ((l.drop (a * sz)).take (k * sz)) := by
  obtain ⟨hl, ⟨h1, _⟩ | ⟨i', o2, c2, h1, h2, h3⟩⟩ := hx
  · cases h1
  · cases h1
    have hle : a * sz + k * sz ≤ l.length := by rw [hl, ← Nat.add_mul]; exact Nat.mul_le_mul_right _ hk
    refine ⟨by simp; omega, .inr ⟨_, o + a * sz, c', rfl, h2, fun j v hj => ?_⟩⟩
    rw [List.getElem?_take] at hj
    split at hj
    · rw [List.getElem?_drop] at hj
      rw [Nat.add_assoc]; exact h3 _ _ hj
    · cases hj
theorem Recs.count {sz n m : Nat} {h : Heap} {i o : Nat} {c : Cap} {l : List Int} (hx : Recs sz h (.sl i o m c) n l) : m = n := by
  obtain ⟨hl, ⟨h1, _⟩ | ⟨i', o2, c2, h1, h2, h3⟩⟩ := hx
  · cases h1
  · cases h1; rfl

/-- Bools cell by cell, by a function. -/
def bits (n : Nat) (f : Nat → Bool) : List CV := (List.range n).map fun j => .bool (f j)
theorem bits_len {n : Nat} {f : Nat → Bool} : (bits n f).length = n := by simp [bits]
theorem bits_get {n : Nat} {f : Nat → Bool} {j : Nat} (h : j < n) : (bits n f)[j]? = some (.bool (f j)) := by simp [bits, h]
theorem bits_set {n : Nat} {f : Nat → Bool} {k : Nat} {b : Bool} : (bits n f).set k (.bool b) = bits n (fun j => if j = k then b else f j) := by
  apply List.ext_getElem?
  intro j
  rw [List.getElem?_set]
  rcases Nat.lt_or_ge j n with hj | hj
  · rw [bits_get hj, bits_get hj]
    by_cases e : k = j
    · subst e; simp [bits_len, hj]
    · rw [if_neg e]; simp [show ¬ j = k from fun e' => e e'.symm]
  · rw [List.getElem?_eq_none (by simp [bits_len]; omega : (bits n f).length ≤ j), List.getElem?_eq_none (by simp [bits_len]; omega)]
    split
    · rename_i e; subst e; simp [bits_len]; omega
    · rfl
theorem bits_congr {n : Nat} {f g : Nat → Bool} (h : ∀ j, j < n → f j = g j) : bits n f = bits n g := by
  apply List.map_congr_left
  intro j hj
  rw [h j (List.mem_range.1 hj)]

section
variable {call : Nat → List AV → Heap → Option (AV × Heap)} {loc vals : List AV} {h cur : Heap} {n j k : Nat} {l r : List Inst} {ks : List (Nat × Heap)} {news : List (Nat × Nat × Blk)}
theorem d_mkch {m : Nat} {x : X} : dregG call n l loc h (.mkch m x) r j k vals cur ks news (some true) = dregW call n l loc h r j k vals cur ks news (evNew loc vals (.mkch m x)) := rfl
end
end Lav
