/-
  The evaluator, step by step, continued: what is parted into cases.
-/
import Derived.Test.YtdilhnnbfkiacaaFwJ
import Derived.Test.YtdilhnnbfkiacaaFwS
namespace Lav
open Go (IntKind BinOp UnOp)

theorem allLt_succ {p : Nat → Bool} {n : Nat} (h : p n = true) (hs : allLt p n = true) : allLt p (n + 1) = true := by
  simp only [allLt, h, hs, Bool.and_self]
end Lav
