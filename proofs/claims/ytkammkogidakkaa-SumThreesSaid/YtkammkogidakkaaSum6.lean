/-
  Layer 1: sums of texts that are laid one over another.
-/
import Derived.Test.YtkammkogidakkaaSum5
import Derived.Test.YtkammkogidakkaaFwL
set_option maxRecDepth 100000
set_option linter.unusedSimpArgs false
namespace Lav
open Go (IntKind)

theorem bstep_xor (a b : BitVec 32) : bstep (a ^^^ b) = bstep a ^^^ bstep b := by
  have hl : low (a ^^^ b) = (low a ^^ low b) := by rw [low_bit, low_bit, low_bit, BitVec.getLsbD_xor]
  have hs : (a ^^^ b) >>> 1 = (a >>> 1) ^^^ (b >>> 1) := BitVec.ushiftRight_xor_distrib a b 1
  rw [bstep_low, bstep_low a, bstep_low b, hl, hs]
  cases low a <;> cases low b <;> simp only [Bool.xor_false, Bool.xor_true, Bool.false_eq_true, if_true, if_false, Bool.not_false, Bool.not_true]
  · rw [BitVec.xor_assoc]
  · rw [BitVec.xor_assoc, BitVec.xor_assoc, BitVec.xor_comm (b >>> 1)]
  · have e : ∀ x y z : BitVec 32, x ^^^ z ^^^ (y ^^^ z) = x ^^^ y := fun x y z => by
      rw [BitVec.xor_assoc, BitVec.xor_comm y z, ← BitVec.xor_assoc z z y, BitVec.xor_self, BitVec.zero_xor]
    rw [e]

theorem bsteps_xor : ∀ (n : Nat) (a b : BitVec 32), bsteps n (a ^^^ b) = bsteps n a ^^^ bsteps n b
  | 0, _, _ => rfl
  | n + 1, a, b => by simp only [bsteps, bstep_xor, bsteps_xor n]

theorem Bytes.ext {h h' : Heap} {x : CV} {bs : List (BitVec 8)} (hx : Bytes h x bs) (e : Ext h h') : Bytes h' x bs := by
  rcases hx with h1 | ⟨i, o, c, h1, h2, h3⟩
  · exact .inl h1
  · exact .inr ⟨i, o, c, h1, Nat.lt_of_lt_of_le h2 e.1, fun j b hj => (e.read h2).trans (h3 j b hj)⟩

theorem Bytes.sl {h : Heap} {x : CV} {bs : List (BitVec 8)} (hx : Bytes h x bs) (hn : 0 < bs.length) : ∃ i o c, x = .sl i o bs.length c ∧ i < h.next ∧ ∀ j (hj : j < bs.length), h.read i (o + j) 1 = some [.int .u8 (bs[j].toNat : Int)] := by
  rcases hx with ⟨_, rfl⟩ | ⟨i, o, c, h1, h2, h3⟩
  · simp at hn
  · exact ⟨i, o, c, h1, h2, fun j hj => by have := h3 j bs[j] (by simp [hj]); rwa [Nat.mul_one] at this⟩

theorem Bytes.len {h h0 : Heap} {x : CV} {bs : List (BitVec 8)} (hx : Bytes h0 x bs) {loc vals : List AV} {X' : X} (hX : X'.eval loc vals = .c x) : evPure loc vals h (.len .sl X') = some (.c (.int .i64 (bs.length : Int))) := by
  rcases hx with ⟨rfl, rfl⟩ | ⟨i, o, c, rfl, _, _⟩ <;> simp only [evPure, hX] <;> rfl

def cellsOf (bs : List (BitVec 8)) : List CV := bs.map fun b => .int .u8 (b.toNat : Int)

theorem bytes_cells {h : Heap} {j : Nat} {c : Cap} {bs : List (BitVec 8)} (hj : j < h.next) (hg : h.get j = some (.cells (cellsOf bs))) : Bytes h (.sl j 0 bs.length c) bs :=
  .inr ⟨j, 0, c, rfl, hj, fun k b hk => by
    simp only [Heap.read, hg, Nat.zero_add, Nat.mul_one]
    exact cut_one (by simp [cellsOf, hk])⟩

/-- The first so many. -/
def takeSl : CV → Nat → CV
  | .sl i o _ _, n => .sl i (o + 0 * 1) (n - 0) (.dy 1)
  | x, _ => x

theorem slice_take {loc vals : List AV} {h h0 : Heap} {X' Y : X} {x : CV} {bs : List (BitVec 8)} {n : Nat} (hx : Bytes h0 x bs) (hX : X'.eval loc vals = .c x) (hY : Y.eval loc vals = .c (.int .i64 (n : Int))) (hsh : x = .nils ∨ ∃ i o, x = .sl i o bs.length (.dy 1)) (hn : n ≤ bs.length) :
    evPure loc vals h (.slice 1 X' none (some Y) none) = some (.c (takeSl x n)) := by
  rcases hsh with rfl | ⟨i, o, rfl⟩
  · have : bs = [] := by
      rcases hx with ⟨_, h1⟩ | ⟨i, o, c, h1, _⟩
      · exact h1
      · cases h1
    subst this
    have : n = 0 := by simpa using hn
    subst this
    simp only [evPure, hX, hY, bound]; rfl
  · have l1 : Nat.ble 0 n = true := Nat.ble_eq_true_of_le (Nat.zero_le _)
    have l2 : Nat.ble n bs.length = true := Nat.ble_eq_true_of_le hn
    simp only [evPure, hX, hY, bound, asNat_cast, l1, l2, BEq.rfl, Bool.and_true, cond_true, takeSl]

theorem bytes_take {h : Heap} {x : CV} {bs : List (BitVec 8)} {n : Nat} (hx : Bytes h x bs) (hsh : x = .nils ∨ ∃ i o, x = .sl i o bs.length (.dy 1)) (hn : n ≤ bs.length) : Bytes h (takeSl x n) (bs.take n) := by
  rcases hsh with rfl | ⟨i, o, rfl⟩
  · rcases hx with ⟨_, h1⟩ | ⟨i, o, c, h1, _⟩
    · exact .inl ⟨rfl, by simp [h1]⟩
    · cases h1
  · have := hx.part (a := 0) (m := n - 0) (by omega) (.dy 1)
    simpa [takeSl] using this

theorem bturn_xor3 (a b c : BitVec 32) (x y z : BitVec 8) : bturn (a ^^^ b ^^^ c) (x ^^^ y ^^^ z) = bturn a x ^^^ bturn b y ^^^ bturn c z := by
  unfold bturn
  rw [← bsteps_xor, ← bsteps_xor]
  congr 1
  rw [BitVec.setWidth_xor, BitVec.setWidth_xor]
  ac_rfl

def xor3 : List (BitVec 8) → List (BitVec 8) → List (BitVec 8) → List (BitVec 8)
  | a :: as', b :: bs, c :: cs => (a ^^^ b ^^^ c) :: xor3 as' bs cs
  | _, _, _ => []

theorem bmore_xor3 : ∀ (as' bs cs : List (BitVec 8)) (s t u : BitVec 32), as'.length = bs.length → bs.length = cs.length → bmore (s ^^^ t ^^^ u) (xor3 as' bs cs) = bmore s as' ^^^ bmore t bs ^^^ bmore u cs
  | [], [], [], _, _, _, _, _ => rfl
  | a :: as', b :: bs, c :: cs, s, t, u, h1, h2 => by
    show bmore (bturn (s ^^^ t ^^^ u) (a ^^^ b ^^^ c)) (xor3 as' bs cs) = _
    rw [bturn_xor3]
    exact bmore_xor3 as' bs cs _ _ _ (by simpa using h1) (by simpa using h2)
  | [], _ :: _, _, _, _, _, h1, _ => by simp at h1
  | _ :: _, [], _, _, _, _, h1, _ => by simp at h1
  | [], [], _ :: _, _, _, _, _, h2 => by simp at h2
  | _ :: _, _ :: _, [], _, _, _, _, h2 => by simp at h2

theorem xor3_len : ∀ (as' bs cs : List (BitVec 8)), as'.length = bs.length → bs.length = cs.length → (xor3 as' bs cs).length = as'.length
  | [], [], [], _, _ => rfl
  | a :: as', b :: bs, c :: cs, h1, h2 => by simp [xor3, xor3_len as' bs cs (by simpa using h1) (by simpa using h2)]
  | [], _ :: _, _, h1, _ => by simp at h1
  | _ :: _, [], _, h1, _ => by simp at h1
  | [], [], _ :: _, _, h2 => by simp at h2
  | _ :: _, _ :: _, [], _, h2 => by simp at h2

theorem xor3_get : ∀ (as' bs cs : List (BitVec 8)) (j : Nat) (h1 : j < as'.length) (h2 : j < bs.length) (h3 : j < cs.length), (xor3 as' bs cs)[j]? = some (as'[j] ^^^ bs[j] ^^^ cs[j])
  | a :: as', b :: bs, c :: cs, 0, _, _, _ => rfl
  | a :: as', b :: bs, c :: cs, j + 1, h1, h2, h3 => by
    have := xor3_get as' bs cs j (by simpa using h1) (by simpa using h2) (by simpa using h3)
    simpa [xor3] using this

theorem bof_xor3 (as' bs cs : List (BitVec 8)) (h1 : as'.length = bs.length) (h2 : bs.length = cs.length) : bof (xor3 as' bs cs) = bof as' ^^^ bof bs ^^^ bof cs := by
  have key := bmore_xor3 as' bs cs 4294967295#32 4294967295#32 4294967295#32 h1 h2
  have e : (4294967295#32 : BitVec 32) ^^^ 4294967295#32 ^^^ 4294967295#32 = 4294967295#32 := by decide
  rw [e] at key
  have n : ∀ x : BitVec 32, ~~~x = BitVec.allOnes 32 ^^^ x := fun x => BitVec.allOnes_xor.symm
  have k : ∀ x y z o : BitVec 32, o ^^^ x ^^^ (o ^^^ y) ^^^ (o ^^^ z) = (o ^^^ o) ^^^ (o ^^^ (x ^^^ y ^^^ z)) := fun x y z o => by ac_rfl
  unfold bof
  rw [key, n, n, n, n, k, BitVec.xor_self, BitVec.zero_xor]

theorem xor8 (b c : BitVec 8) : IntKind.u8.wrap ((BitVec.ofInt IntKind.u8.bits (b.toNat : Int) ^^^ BitVec.ofInt IntKind.u8.bits (c.toNat : Int)).toNat : Int) = ((b ^^^ c).toNat : Int) := by
  have o : ∀ b : BitVec 8, BitVec.ofInt IntKind.u8.bits (b.toNat : Int) = b := fun b => by
    show BitVec.ofInt 8 _ = b
    rw [BitVec.ofInt_natCast]; simp
  rw [o, o]
  have hl := (b ^^^ c).isLt
  show IntKind.u8.wrap (((b ^^^ c).toNat : Nat) : Int) = _
  generalize (b ^^^ c).toNat = n at *
  simp only [IntKind.wrap, IntKind.bits, IntKind.signed]
  simp
  omega
end Lav
