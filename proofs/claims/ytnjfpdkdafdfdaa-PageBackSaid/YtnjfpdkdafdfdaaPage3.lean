/-
  Layer 2: images, without the program.
-/
import Derived.Test.YtnjfpdkdafdfdaaPage2
set_option maxRecDepth 100000
set_option linter.unusedSimpArgs false
namespace Lav
open Go (IntKind)

theorem img_len {id : Nat} {body : List (BitVec 8)} (h : body.length = 16) : (imgOf id body).length = 24 := by simp [imgOf, headOf, h]
theorem img_drop {id : Nat} {body : List (BitVec 8)} : (imgOf id body).drop 8 = body := rfl
theorem img_nz {id : Nat} {body : List (BitVec 8)} (h : body.length = 16) : ∃ k, ∃ hk : k < (imgOf id body).length, (imgOf id body)[k] ≠ 0#8 :=
  ⟨6, by rw [img_len h]; omega, by simp [imgOf, headOf]⟩
theorem ofNat8_inj {a b : Nat} (ha : a < 256) (hb : b < 256) (h : BitVec.ofNat 8 a = BitVec.ofNat 8 b) : a = b := by
  have := congrArg BitVec.toNat h
  simp only [BitVec.toNat_ofNat] at this
  omega
theorem img_other {p q : Nat} {body : List (BitVec 8)} (hp : p < 48) (hq : q < 48) (h : imgOf p body = imgOf q body) : p = q := by
  have := congrArg (fun l => l[4]?) h
  simp only [imgOf, headOf, List.cons_append, List.nil_append, List.getElem?_cons_succ, List.getElem?_cons_zero, Option.some.injEq] at this
  have := ofNat8_inj (by omega) (by omega) this
  omega
/-- The body that the laws make. -/
def fillB (c : BitVec 8) (k : Nat) (e : BitVec 8) : List (BitVec 8) := (List.replicate 16 c).set k e
theorem fillB_len {c e : BitVec 8} {k : Nat} : (fillB c k e).length = 16 := by simp [fillB]
end Lav
