/-
  Layer 1: one byte turned.
-/
import Derived.Test.YtkammkogidakkaaSum4
set_option maxRecDepth 100000
set_option linter.unusedSimpArgs false
namespace Lav
open Go (IntKind)

theorem bmore_inj : ∀ (l : List (BitVec 8)) {s t : BitVec 32}, bmore s l = bmore t l → s = t
  | [], _, _, h => h
  | b :: l, s, t, h => bturn_inj (bmore_inj l (h : bmore (bturn s b) l = bmore (bturn t b) l))

theorem bof_set {bs : List (BitVec 8)} {k : Nat} (hk : k < bs.length) (c : BitVec 8) : bof (bs.set k c) = bof bs ↔ c = bs[k] := by
  have hs : bs.set k c = bs.take k ++ c :: bs.drop (k + 1) := List.set_eq_take_append_cons_drop ▸ (by simp [hk])
  have hd : bs = bs.take k ++ bs[k] :: bs.drop (k + 1) := by
    rw [← List.drop_eq_getElem_cons hk, List.take_append_drop]
  constructor
  · intro h
    unfold bof at h
    have h' : bmore 4294967295#32 (bs.set k c) = bmore 4294967295#32 bs := by simpa using h
    have key : ∀ x, bmore 4294967295#32 (bs.take k ++ x :: bs.drop (k + 1)) = bmore (bturn (bmore 4294967295#32 (bs.take k)) x) (bs.drop (k + 1)) := fun x => by simp [bmore]
    have e1 : bmore 4294967295#32 (bs.set k c) = bmore (bturn (bmore 4294967295#32 (bs.take k)) c) (bs.drop (k + 1)) := by rw [hs, key]
    have e2 : bmore 4294967295#32 bs = bmore (bturn (bmore 4294967295#32 (bs.take k)) bs[k]) (bs.drop (k + 1)) := by
      rw [← key]; exact congrArg _ hd
    rw [e1, e2] at h'
    exact bturn_byte (bmore_inj _ h')
  · intro h
    rw [h, List.set_getElem_self]
end Lav
