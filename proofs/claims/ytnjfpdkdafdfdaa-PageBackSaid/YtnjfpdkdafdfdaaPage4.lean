/-
  Layer 2: one byte of an image turned, without the program.
-/
import Derived.Test.YtnjfpdkdafdfdaaPage3
set_option maxRecDepth 100000
set_option linter.unusedSimpArgs false
namespace Lav
open Go (IntKind)

theorem bmore_inj : ∀ (l : List (BitVec 8)) {s t : BitVec 32}, bmore s l = bmore t l → s = t
  | [], _, _, h => h
  | b :: l, s, t, h => bturn_inj (bmore_inj l (h : bmore (bturn s b) l = bmore (bturn t b) l))

theorem bof_set {bs : List (BitVec 8)} {k : Nat} (hk : k < bs.length) (c : BitVec 8) : bof (bs.set k c) = bof bs ↔ c = bs[k] := by
  have hs : bs.set k c = bs.take k ++ c :: bs.drop (k + 1) := List.set_eq_take_append_cons_drop ▸ (by simp [hk])
  have hd : bs = bs.take k ++ bs[k] :: bs.drop (k + 1) := by
    rw [← List.drop_eq_getElem_cons hk, List.take_append_drop]
  constructor
  · intro h
    unfold bof at h
    have h' : bmore 4294967295#32 (bs.set k c) = bmore 4294967295#32 bs := by simpa using h
    have key : ∀ x, bmore 4294967295#32 (bs.take k ++ x :: bs.drop (k + 1)) = bmore (bturn (bmore 4294967295#32 (bs.take k)) x) (bs.drop (k + 1)) := fun x => by simp [bmore]
    have e1 : bmore 4294967295#32 (bs.set k c) = bmore (bturn (bmore 4294967295#32 (bs.take k)) c) (bs.drop (k + 1)) := by rw [hs, key]
    have e2 : bmore 4294967295#32 bs = bmore (bturn (bmore 4294967295#32 (bs.take k)) bs[k]) (bs.drop (k + 1)) := by
      rw [← key]; exact congrArg _ hd
    rw [e1, e2] at h'
    exact bturn_byte (bmore_inj _ h')
  · intro h
    rw [h, List.set_getElem_self]

theorem xor8 (b c : BitVec 8) : IntKind.u8.wrap ((BitVec.ofInt IntKind.u8.bits (b.toNat : Int) ^^^ BitVec.ofInt IntKind.u8.bits (c.toNat : Int)).toNat : Int) = ((b ^^^ c).toNat : Int) := by
  have o : ∀ b : BitVec 8, BitVec.ofInt IntKind.u8.bits (b.toNat : Int) = b := fun b => by
    show BitVec.ofInt 8 _ = b
    rw [BitVec.ofInt_natCast]; simp
  rw [o, o]
  have hl := (b ^^^ c).isLt
  show IntKind.u8.wrap (((b ^^^ c).toNat : Nat) : Int) = _
  generalize (b ^^^ c).toNat = n at *
  simp only [IntKind.wrap, IntKind.bits, IntKind.signed]
  simp
  omega

theorem byteOf_bit (s : BitVec 32) (i j : Nat) (hj : j < 8) : (byteOf s i).getLsbD j = s.getLsbD (8 * i + j) := by
  unfold byteOf
  rw [BitVec.getLsbD_setWidth, BitVec.getLsbD_ushiftRight]
  simp [hj]
theorem bytes_eq {s t : BitVec 32} (h : ∀ i, i < 4 → byteOf s i = byteOf t i) : s = t := by
  apply BitVec.eq_of_getLsbD_eq
  intro n hn
  have e : n = 8 * (n / 8) + n % 8 := by omega
  rw [e, ← byteOf_bit s (n / 8) (n % 8) (by omega), ← byteOf_bit t (n / 8) (n % 8) (by omega), h (n / 8) (by omega)]

theorem img_turn {p k : Nat} {body : List (BitVec 8)} (hb : body.length = 16) (hk : k < 24) (v : BitVec 8) (hv : v ≠ (imgOf p body)[k]'(by rw [img_len hb]; exact hk)) :
    (imgOf p body).set k v ≠ imgOf p (((imgOf p body).set k v).drop 8) := by
  intro h
  have hl := img_len (id := p) hb
  by_cases hk8 : k < 8
  · have hd : ((imgOf p body).set k v).drop 8 = body := by
      rw [List.drop_set_of_lt hk8]; exact img_drop
    rw [hd] at h
    have := congrArg (fun l => l[k]?) h
    simp only [List.getElem?_set_self (show k < (imgOf p body).length by omega), List.getElem?_eq_getElem (show k < (imgOf p body).length by omega), Option.some.injEq] at this
    exact hv this
  · have hhl : (headOf p body).length = 20 := by simp [headOf, hb]
    have hi : imgOf p body = [byteOf (bof (headOf p body)) 0, byteOf (bof (headOf p body)) 1, byteOf (bof (headOf p body)) 2, byteOf (bof (headOf p body)) 3] ++ headOf p body := rfl
    have hd : ((imgOf p body).set k v).drop 8 = body.set (k - 8) v := by
      rw [List.drop_set, if_neg (by omega)]; rfl
    rw [hd] at h
    have hs : headOf p (body.set (k - 8) v) = (headOf p body).set (k - 4) v := by
      unfold headOf
      rw [List.set_append_right _ _ (by simp; omega)]
      have : k - 4 - [BitVec.ofNat 8 (p + 1), 0#8, 90#8, 165#8].length = k - 8 := by simp; omega
      rw [this]
    have heq : bof (headOf p (body.set (k - 8) v)) = bof (headOf p body) := by
      apply bytes_eq
      intro i hi4
      have h1 := congrArg (fun l => l[i]?) h
      simp only [List.getElem?_set_ne (show k ≠ i by omega)] at h1
      match i, hi4 with
      | 0, _ => simpa [imgOf] using h1.symm
      | 1, _ => simpa [imgOf] using h1.symm
      | 2, _ => simpa [imgOf] using h1.symm
      | 3, _ => simpa [imgOf] using h1.symm
    rw [hs] at heq
    have hv2 := (bof_set (bs := headOf p body) (k := k - 4) (by omega) v).1 heq
    apply hv
    rw [hv2]
    have h3 : (imgOf p body)[k]? = (headOf p body)[k - 4]? := by
      rw [hi, List.getElem?_append_right (by simp; omega)]; rfl
    rw [List.getElem?_eq_getElem (by omega), List.getElem?_eq_getElem (by omega)] at h3
    simpa using h3.symm

theorem turn_nz {p k : Nat} {body : List (BitVec 8)} (hb : body.length = 16) (v : BitVec 8) : ∃ i, ∃ hi : i < ((imgOf p body).set k v).length, ((imgOf p body).set k v)[i] ≠ 0#8 := by
  have hl := img_len (id := p) hb
  by_cases h6 : k = 6
  · refine ⟨7, by simp; omega, ?_⟩
    rw [List.getElem_set_ne (by omega)]; simp [imgOf, headOf]
  · refine ⟨6, by simp; omega, ?_⟩
    rw [List.getElem_set_ne h6]; simp [imgOf, headOf]
end Lav
