/-
  Layer 17: two lists that are added to at once.
-/
import Derived.Test.YtnjfpdkdafdfdaaGive1
set_option maxRecDepth 100000
set_option linter.unusedSimpArgs false
namespace Lav
open Go (IntKind)

theorem read_of {h h' : Heap} {i o n : Nat} (e : h'.get i = h.get i) : h'.read i o n = h.read i o n := by simp only [Heap.read, e]

theorem getP {l : List Int} {i : Nat} {v : Int} (hl : l.length = i) : ((l ++ [v]).map icell)[i]? = some (icell v) := by
  rw [List.map_append, List.getElem?_append_right (by simp [hl])]; simp [hl]

/-- Two lists that are added to at once, a new block each. -/
theorem app_two {h1 h' : Heap} {a b : CV} {la lb : List Int} {i : Nat} (v w : Int) (hn : h1.next ≤ h'.next) (ha : Mine 1 h1 h' a i (la.map icell)) (hb : Mine 1 h1 h' b i (lb.map icell)) (hab : ∀ k, blk a = some k → blk b ≠ some k) (hi : i < 1000) :
    ∃ H1 H2, evApp ((h'.skip 2).put h'.next (.cells [icell v])) 1 (.c a) (.c (.sl h'.next 0 1 (.ex 1))) = some (.c (.sl (h'.next + 2) 0 (i + 1) (.dy 1)), H1) ∧
      evApp (H1.put (h'.next + 1) (.cells [icell w])) 1 (.c b) (.c (.sl (h'.next + 1) 0 1 (.ex 1))) = some (.c (.sl (h'.next + 3) 0 (i + 1) (.dy 1)), H2) ∧
      Mine 1 h1 H2 (.sl (h'.next + 2) 0 (i + 1) (.dy 1)) (i + 1) ((la ++ [v]).map icell) ∧ Mine 1 h1 H2 (.sl (h'.next + 3) 0 (i + 1) (.dy 1)) (i + 1) ((lb ++ [w]).map icell) ∧
      (∀ k, k < h1.next → H1.get k = h'.get k ∧ H2.get k = h'.get k) ∧ H2.next = h'.next + 4 := by
  have e0 : ∀ k, k < h'.next → ((h'.skip 2).put h'.next (.cells [icell v])).get k = h'.get k := fun k hk => get_put_ne (by omega)
  have ha0 : Mine 1 h1 ((h'.skip 2).put h'.next (.cells [icell v])) a i (la.map icell) := Mine.keep ha (by show h'.next ≤ h'.next + 2; omega) fun k hk _ => e0 k hk
  obtain ⟨H1, a1, a2, a3, a4⟩ := app_mine (m := 0) (y := .c (.sl h'.next 0 1 (.ex 1))) ha0 (Nat.le_trans hn (show h'.next ≤ h'.next + 2 by omega)) (source_new get_put_at rfl) rfl (by omega)
  have a3' : H1.next = h'.next + 3 := a3
  have a1' : evApp ((h'.skip 2).put h'.next (.cells [icell v])) 1 (.c a) (.c (.sl h'.next 0 1 (.ex 1))) = some (.c (.sl (h'.next + 2) 0 (i + 1) (.dy 1)), H1) := a1
  have hay : ∀ k, blk a = some k → h1.next ≤ k ∧ k < h'.next := fun k hk => ⟨ha.young k hk, by
    obtain ⟨_, ⟨rfl, _⟩ | ⟨j, rfl, _, _, hj⟩⟩ := ha
    · cases hk
    · simp [blk] at hk; omega⟩
  have e1 : ∀ k, k < h'.next → blk a ≠ some k → H1.get k = h'.get k := fun k hk hne => by rw [a4 k (by show k < h'.next + 2; omega) hne, e0 k hk]
  have hb1 : Mine 1 h1 (H1.put (h'.next + 1) (.cells [icell w])) b i (lb.map icell) := Mine.keep hb (by show h'.next ≤ H1.next; omega) fun k hk hbk => by
    rw [get_put_ne (by omega), e1 k hk fun e => hab k e hbk]
  obtain ⟨H2, b1, b2, b3, b4⟩ := app_mine (m := 0) (y := .c (.sl (h'.next + 1) 0 1 (.ex 1))) hb1 (by show h1.next ≤ H1.next; omega) (source_new get_put_at rfl) rfl (by omega)
  have b3' : H2.next = h'.next + 4 := by rw [b3]; show H1.next + 1 = _; omega
  have hby : ∀ k, blk b = some k → h1.next ≤ k ∧ k < h'.next := fun k hk => ⟨hb.young k hk, by
    obtain ⟨_, ⟨rfl, _⟩ | ⟨j, rfl, _, _, hj⟩⟩ := hb
    · cases hk
    · simp [blk] at hk; omega⟩
  have b1' : evApp (H1.put (h'.next + 1) (.cells [icell w])) 1 (.c b) (.c (.sl (h'.next + 1) 0 1 (.ex 1))) = some (.c (.sl (h'.next + 3) 0 (i + 1) (.dy 1)), H2) := by
    have : (H1.put (h'.next + 1) (.cells [icell w])).next = h'.next + 3 := a3'
    rw [this] at b1; exact b1
  have a2' : Mine 1 h1 H2 (.sl (h'.next + 2) 0 (i + 1) (.dy 1)) (i + 1) ((la ++ [v]).map icell) := by
    rw [List.map_append]
    refine Mine.keep a2 (by omega) fun k hk hbk => ?_
    have hk2 : k = h'.next + 2 := by
      have : some ((h'.skip 2).put h'.next (.cells [icell v])).next = some k := hbk
      have e : ((h'.skip 2).put h'.next (.cells [icell v])).next = h'.next + 2 := rfl
      rw [e] at this; simpa using this.symm
    rw [b4 k (by show k < H1.next; omega) (fun e => by have := (hby k e).2; omega), get_put_ne (by omega)]
  have b2' : Mine 1 h1 H2 (.sl (h'.next + 3) 0 (i + 1) (.dy 1)) (i + 1) ((lb ++ [w]).map icell) := by
    have : (H1.put (h'.next + 1) (.cells [icell w])).next = h'.next + 3 := a3'
    rw [this] at b2
    rw [List.map_append]; exact b2
  refine ⟨H1, H2, a1', b1', a2', b2', fun k hk => ?_, b3'⟩
  have k1 : blk a ≠ some k := fun e => by have := (hay k e).1; omega
  have k2 : blk b ≠ some k := fun e => by have := (hby k e).1; omega
  exact ⟨e1 k (by omega) k1, by rw [b4 k (by show k < H1.next; omega) k2, get_put_ne (by omega), e1 k (by omega) k1]⟩

end Lav
