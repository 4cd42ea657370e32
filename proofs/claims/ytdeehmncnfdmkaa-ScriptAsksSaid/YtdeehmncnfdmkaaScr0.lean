/-
  Layer 15: the entry that makes new bytes; the law's own 'told'.
-/
import Derived.Test.YtdeehmncnfdmkaaIr
import Derived.Test.YtdeehmncnfdmkaaFwX
import Derived.KernelRfl
set_option maxRecDepth 100000
namespace Lav
open Go

noncomputable def mnzT : TypeId := (Go.Proofs.Try.f37.resultTypes[0]?).getD 0
noncomputable def mnzE : TypeId := match Go.Proofs.Try.prog.underlying mnzT with
  | some (.slice e) => e
  | _ => 0
theorem mnz_ok : MnzOK Go.Proofs.Try.prog 37 :=
  ⟨Go.Proofs.Try.f37, Go.Proofs.Try.f37.params, mnzT, mnzE, Go.Proofs.Try.func37, by kernel_rfl, by kernel_rfl, by kernel_rfl, by kernel_rfl, by kernel_rfl⟩
theorem tld15 : ToldOK Go.Proofs.Try.prog 21 := told_of (topM_sound mixed table_ok mnz_ok 200 9) (by kernel_rfl)
end Lav
