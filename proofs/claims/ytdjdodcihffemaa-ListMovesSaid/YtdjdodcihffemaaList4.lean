/-
  Layer 4: what all laws of lists use.
-/
import Derived.Test.YtdjdodcihffemaaList3
import Derived.Test.YtdjdodcihffemaaFwJ
set_option maxRecDepth 100000
set_option linter.unusedSimpArgs false
namespace Lav
open Go (IntKind)
theorem tld4 : ToldOK Go.Proofs.Try.prog 23 := told_of (calls_okF 200 9) (by kernel_rfl)
theorem bneI {a b : Int} : (a != b) = !(a == b) := rfl
theorem eqq (a : Int) : (a == a) = true := by simp
/-- What is left by a mask of low bits. -/
theorem and_low (a : Int) (m : Nat) (hm : m < 1000000) : ∃ k : Nat, k ≤ m ∧ IntKind.i64.wrap ((BitVec.ofInt IntKind.i64.bits a &&& BitVec.ofInt IntKind.i64.bits (m : Int)).toNat : Int) = (k : Int) := by
  have h : (BitVec.ofInt IntKind.i64.bits a &&& BitVec.ofInt IntKind.i64.bits (m : Int)).toNat ≤ m := by
    rw [BitVec.toNat_and]
    refine Nat.le_trans Nat.and_le_right ?_
    rw [BitVec.ofInt_natCast, BitVec.toNat_ofNat]
    exact Nat.mod_le _ _
  exact ⟨_, h, wrapNat (by omega)⟩
/-- So many can be members. -/
theorem nodup_le : ∀ (n : Nat) (o : List Int), o.Nodup → (∀ x ∈ o, 0 ≤ x ∧ x < (n : Int)) → o.length ≤ n
  | 0, o, _, h => by
    cases o with
    | nil => simp
    | cons a l => have := h a (by simp); omega
  | n + 1, o, nd, h => by
    by_cases hm : (n : Int) ∈ o
    · have := nodup_le n (o.erase (n : Int)) (nd.erase _) fun x hx => by
        have h1 := (nd.mem_erase_iff).1 hx
        have := h x h1.2; have := h1.1; omega
      rw [List.length_erase_of_mem hm] at this
      omega
    · have := nodup_le n o nd fun x hx => by
        have := h x hx
        have : x ≠ (n : Int) := fun e => hm (e ▸ hx)
        omega
      omega
theorem LL.le {h : Heap} {p b n : Nat} {o : List Int} (t : LL h p b n o) : o.length ≤ n := nodup_le n o t.nd t.lt
end Lav
