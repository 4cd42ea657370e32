/-
  Layer 15: all steps, of any pool; parts of bytes; bytes that come in.
-/
import Derived.Test.YtdeehmncnfdmkaaScr7
import Derived.Test.YtdeehmncnfdmkaaFwY
set_option maxRecDepth 100000
set_option linter.unusedSimpArgs false
namespace Lav
open Go (IntKind)

theorem u8s_nat : ∀ {l : List Int}, (∀ x ∈ l, (Go.Lit.int .u8 x).wf = true) → ∃ s : List Nat, l = s.map (fun b : Nat => (b : Int)) ∧ ∀ b ∈ s, b < 256
  | [], _ => ⟨[], rfl, by simp⟩
  | x :: l, h => by
    obtain ⟨s, hl, hs⟩ := u8s_nat (l := l) fun y hy => h y (by simp [hy])
    have hx := h x (by simp)
    simp only [Go.Lit.wf, IntKind.min, IntKind.max, IntKind.bits, IntKind.signed] at hx
    simp at hx
    refine ⟨x.toNat :: s, by rw [List.map_cons, ← hl]; congr 1; omega, ?_⟩
    intro b hb
    rcases List.mem_cons.1 hb with rfl | hb
    · omega
    · exact hs b hb
theorem txt_of {h h' : Heap} {x : CV} {l : List Int} (r : RowIs .u8 h x h' l) : ∃ s : List Nat, Txt h' x s ∧ (x = .nils ∨ ∃ i o, x = .sl i o s.length (.dy 1)) := by
  obtain ⟨hw, _, hr⟩ := r
  obtain ⟨s, rfl, hb⟩ := u8s_nat hw
  refine ⟨s, ?_⟩
  rcases hr with ⟨rfl, rfl, e⟩ | ⟨rfl, rfl, e⟩ | ⟨rfl, rfl⟩
  · have : s = [] := by simpa using e
    exact ⟨.inl ⟨rfl, this⟩, .inl rfl⟩
  · have : s = [] := by simpa using e
    subst this
    exact ⟨.inr ⟨h.next, 0, .dy 1, rfl, Nat.lt_succ_self _, .inl rfl, by simp⟩, .inr ⟨_, _, rfl⟩⟩
  · rw [List.length_map]
    refine ⟨.inr ⟨h.next, 0, .dy 1, rfl, Nat.lt_succ_self _, .inr ?_, hb⟩, .inr ⟨h.next, 0, rfl⟩⟩
    have hg : (h.new (.ro ((s.map fun b : Nat => (b : Int)).map (.int .u8)))).get h.next = some (.ro ((s.map fun b : Nat => (b : Int)).map (.int .u8))) := get_new_at
    simp only [Heap.read, hg]
    rw [cut_part (by simp), List.drop_zero, List.take_of_length_le (by simp)]
    simp [byteCells]

theorem good_top {table : List (Nat × IRF)} {T X N d f : Nat} {args : List AV} {h : Heap} (hT : Nat.beq f T = false) (hX : Nat.beq f X = false) (hg : good (evCallX table T X N (d + 1) f args h) = true) : good (topX table T X N d f args h) = true := by
  rw [evCallX_succ, hT, cond_false, hX, cond_false] at hg
  exact hg

/-- A part of bytes. -/
theorem Txt.part {h : Heap} {i o : Nat} {c : Cap} {s : List Nat} (t : Txt h (.sl i o s.length c) s) {a m : Nat} (hm : a + m ≤ s.length) (c' : Cap) : Txt h (.sl i (o + a) m c') ((s.drop a).take m) := by
  rcases t with ⟨h1, _⟩ | ⟨i', o', c0, h1, h2, h3, h4⟩
  · cases h1
  cases h1
  have hl : ((s.drop a).take m).length = m := by simp; omega
  refine .inr ⟨i, o + a, c', by rw [hl], h2, ?_, fun b hb => h4 b (List.mem_of_mem_drop (List.mem_of_mem_take hb))⟩
  rcases h3 with rfl | h3
  · left; simp
  · right
    rw [hl, read_sub h3 hm]
    simp [byteCells, List.map_take, List.map_drop]

/-- Both parts. -/
theorem parts_ok {h : Heap} {s : List Nat} {b : CV} (t : Txt h b s) (sh : b = .nils ∨ ∃ i o, b = .sl i o s.length (.dy 1)) {k : Nat} (hk : k ≤ s.length) :
    ∃ b1 b2, (∀ loc vals H, evPure loc (.c (.int .i64 (k : Int)) :: .c b :: vals) H (.slice 1 (.val 1) none (some (.val 0)) none) = some (.c b1)) ∧
      (∀ loc vals H, evPure loc (.c (.int .i64 (k : Int)) :: .c b :: vals) H (.slice 1 (.val 1) (some (.val 0)) none none) = some (.c b2)) ∧
      Txt h b1 (s.take k) ∧ (b1 = .nils ∨ ∃ i o, b1 = .sl i o (s.take k).length (.dy 1)) ∧ Txt h b2 (s.drop k) ∧ (b2 = .nils ∨ ∃ i o, b2 = .sl i o (s.drop k).length (.dy 1)) := by
  rcases sh with rfl | ⟨i, o, rfl⟩
  · have hs : s = [] := by
      rcases t with ⟨_, h1⟩ | ⟨i, o, c, h1, _⟩
      · exact h1
      · cases h1
    subst hs
    have h0 : k = 0 := by simpa using hk
    subst h0
    exact ⟨.nils, .nils, fun _ _ _ => rfl, fun _ _ _ => rfl, .nil, .inl rfl, .nil, .inl rfl⟩
  · have b1 : Nat.ble 0 k = true := Nat.ble_eq_true_of_le (Nat.zero_le _)
    have b2 : Nat.ble k s.length = true := Nat.ble_eq_true_of_le hk
    have b3 : Nat.ble s.length s.length = true := Nat.ble_eq_true_of_le (Nat.le_refl _)
    have l1 : (s.take k).length = k := by simp; omega
    have l2 : (s.drop k).length = s.length - k := by simp
    refine ⟨.sl i o k (.dy 1), .sl i (o + k) (s.length - k) (.dy 1), fun loc vals H => ?_, fun loc vals H => ?_, ?_, .inr ⟨i, o, by rw [l1]⟩, ?_, .inr ⟨i, o + k, by rw [l2]⟩⟩
    · simp only [evPure, X.eval, List.getD_cons_zero, List.getD_cons_succ, bound, asNat_cast, b1, b2, Bool.true_and, cond_true, beq_self_eq_true, Nat.zero_mul, Nat.add_zero, Nat.sub_zero]
    · simp only [evPure, X.eval, List.getD_cons_zero, List.getD_cons_succ, bound, asNat_cast, b2, b3, Bool.true_and, cond_true, beq_self_eq_true, Nat.mul_one]
    · have := t.part (a := 0) (m := k) (by omega) (.dy 1)
      rw [List.drop_zero, Nat.add_zero] at this
      exact this
    · have := t.part (a := k) (m := s.length - k) (by omega) (.dy 1)
      rw [List.take_of_length_le (by omega)] at this
      exact this

theorem stp_take {c : Cf} {s : List Nat} {k j : Nat} (hj : j < k) : stp c (s.take (4 * k)) j = stp c s j := by
  have e : ∀ p, p < 4 * k → (s.take (4 * k)).getD p 0 = s.getD p 0 := fun p hp => by
    rw [List.getD_eq_getElem?_getD, List.getD_eq_getElem?_getD, List.getElem?_take, if_pos hp]
  unfold stp
  rw [e _ (by omega), e _ (by omega), e _ (by omega), e _ (by omega)]
theorem stp_drop {c : Cf} {s : List Nat} {k j : Nat} : stp c (s.drop (4 * k)) j = stp c s (k + j) := by
  have e : ∀ p, (s.drop (4 * k)).getD p 0 = s.getD (4 * k + p) 0 := fun p => by
    rw [List.getD_eq_getElem?_getD, List.getD_eq_getElem?_getD, List.getElem?_drop]
  unfold stp
  rw [e, e, e, e, show 4 * (k + j) = 4 * k + 4 * j by omega, Nat.add_assoc, Nat.add_assoc, Nat.add_assoc]

section
variable {N d : Nat} {h : Heap}
/-- All steps of bytes, of any pool. -/
theorem all_any (c : Cf) {s : List Nat} {b : CV} (t : Txt h b s) (sh : b = .nils ∨ ∃ i o, b = .sl i o s.length (.dy 1)) (hs : s.length ≤ 300) (hN : 100 ≤ N) :
    ∃ z h', evCallX table 21 37 N (d + 7) 22 [.c b, .agg (cfC c)] h = some (.c z, h') ∧ Rows h h' z (if c.ok then s.length / 4 else 0) (stp c s) ∧ Ext h h' := by
  cases hc : c.ok with
  | true => exact all_ok c hc t sh hs hN
  | false =>
    obtain ⟨h', e1, x1⟩ := all_no (N := N) (d := d) (h := h) c hc (.c b)
    exact ⟨_, _, e1, .nil, x1⟩
end
end Lav
