/-
  No cell of these rows narrows 'for every input' (looked for: loops, veiled, ifaces, maps, wideKeys, modest, calm, conditions, laid).
  DERIVED. THE GIVEN ROWS OF THIS SEAT. 9 by the template 'for every input the law returns true; each argument reads behind the call as it read before'; 0 by the template 'total and deterministic' (their statements: YtgjceiiddcbfoaaTotals.lean).
  GIVEN WITH THE SEED: the statements are not yours to turn. If you find one false, say at which input.
  Laid BY PROGRAM, IN A SANDBOX (cutbox-rows.mjs): the forced cells as the released guide's own fill.sh prints them over the translation 3edbce49d4d25ee3… (all of the seat's roots in one cut). By AI agents, Wed Nov 11 2026. No macro, syntax, notation, axiom, sorry.
-/
import Derived.Test.YtgjceiiddcbfoaaChecked
import GoSem.Claim
import GoSem.ClaimJoined
import GoSem.ClaimMapViews
import Derived.JoinedTies
import Derived.KernelRfl
namespace Go.Proofs.Ytgjceiiddcbfoaa
/- THE CELL 'sum', in the pinned program and in every row, IS THE sha256 OF THE DUMP (.gsa) THAT YtgjceiiddcbfoaaProg.lean LOADS. Nothing in Lean hashes anything: it is a label: what it is worth is what the hold of that sum in a sandbox is worth. -/
noncomputable def Try.pinned : Pinned := { name := "ytgjceiiddcbfoaa", sum := "3edbce49d4d25ee31e17a17c1518d35f49f2da5342d2f64cc889fb063fd60ddc", checked := Try.checked }
namespace Rows
def none {H : Type} : Left H := { results := [], args := [] }

/-- 'lavabolaw9.MailPlays': WHATEVER THE INPUT: true; the input reads as it did. -/
def mailPlaysSpec : ChangeSpec := { name := "mailPlays", fn := fun _ => fun
  | [d] => { results := [.lit (.bool true)], args := [d] }
  | _ => none }
def mailPlaysRow : OpenClaim := { program := "ytgjceiiddcbfoaa", sum := "3edbce49d4d25ee31e17a17c1518d35f49f2da5342d2f64cc889fb063fd60ddc", func := "lavabo/lavabolaw9.MailPlays", spec := "mailPlays", apart := false }
def MailPlaysSaid : Prop := mailPlaysRow.holds Try.pinned (OpenSpec.ofChange mailPlaysSpec)

/-- ITS FALSE NEIGHBOUR: 'it returns false'. Refute it at one input. -/
def mailPlaysWrong : ChangeSpec := { name := "mailPlays", fn := fun _ => fun
  | [d] => { results := [.lit (.bool false)], args := [d] }
  | _ => none }
def MailPlaysWrongFalsely : Prop := mailPlaysRow.holds Try.pinned (OpenSpec.ofChange mailPlaysWrong)

/-- 'lavabolaw9.MailOnce': WHATEVER THE INPUT: true; the input reads as it did. -/
def mailOnceSpec : ChangeSpec := { name := "mailOnce", fn := fun _ => fun
  | [d] => { results := [.lit (.bool true)], args := [d] }
  | _ => none }
def mailOnceRow : OpenClaim := { program := "ytgjceiiddcbfoaa", sum := "3edbce49d4d25ee31e17a17c1518d35f49f2da5342d2f64cc889fb063fd60ddc", func := "lavabo/lavabolaw9.MailOnce", spec := "mailOnce", apart := false }
def MailOnceSaid : Prop := mailOnceRow.holds Try.pinned (OpenSpec.ofChange mailOnceSpec)

/-- ITS FALSE NEIGHBOUR: 'it returns false'. Refute it at one input. -/
def mailOnceWrong : ChangeSpec := { name := "mailOnce", fn := fun _ => fun
  | [d] => { results := [.lit (.bool false)], args := [d] }
  | _ => none }
def MailOnceWrongFalsely : Prop := mailOnceRow.holds Try.pinned (OpenSpec.ofChange mailOnceWrong)

/-- 'lavabolaw9.MailFull': WHATEVER THE INPUT: true; the input reads as it did. -/
def mailFullSpec : ChangeSpec := { name := "mailFull", fn := fun _ => fun
  | [d1, d2] => { results := [.lit (.bool true)], args := [d1, d2] }
  | _ => none }
def mailFullRow : OpenClaim := { program := "ytgjceiiddcbfoaa", sum := "3edbce49d4d25ee31e17a17c1518d35f49f2da5342d2f64cc889fb063fd60ddc", func := "lavabo/lavabolaw9.MailFull", spec := "mailFull", apart := false }
def MailFullSaid : Prop := mailFullRow.holds Try.pinned (OpenSpec.ofChange mailFullSpec)

/-- ITS FALSE NEIGHBOUR: 'it returns false'. Refute it at one input. -/
def mailFullWrong : ChangeSpec := { name := "mailFull", fn := fun _ => fun
  | [d1, d2] => { results := [.lit (.bool false)], args := [d1, d2] }
  | _ => none }
def MailFullWrongFalsely : Prop := mailFullRow.holds Try.pinned (OpenSpec.ofChange mailFullWrong)

/-- 'lavabolaw5.TablePlaces': WHATEVER THE INPUT: true; the input reads as it did. -/
def tablePlacesSpec : ChangeSpec := { name := "tablePlaces", fn := fun _ => fun
  | [d1, d2] => { results := [.lit (.bool true)], args := [d1, d2] }
  | _ => none }
def tablePlacesRow : OpenClaim := { program := "ytgjceiiddcbfoaa", sum := "3edbce49d4d25ee31e17a17c1518d35f49f2da5342d2f64cc889fb063fd60ddc", func := "lavabo/lavabolaw5.TablePlaces", spec := "tablePlaces", apart := false }
def TablePlacesSaid : Prop := tablePlacesRow.holds Try.pinned (OpenSpec.ofChange tablePlacesSpec)

/-- ITS FALSE NEIGHBOUR: 'it returns false'. Refute it at one input. -/
def tablePlacesWrong : ChangeSpec := { name := "tablePlaces", fn := fun _ => fun
  | [d1, d2] => { results := [.lit (.bool false)], args := [d1, d2] }
  | _ => none }
def TablePlacesWrongFalsely : Prop := tablePlacesRow.holds Try.pinned (OpenSpec.ofChange tablePlacesWrong)

/-- 'lavabolaw5.TableFinds': WHATEVER THE INPUT: true; the input reads as it did. -/
def tableFindsSpec : ChangeSpec := { name := "tableFinds", fn := fun _ => fun
  | [d] => { results := [.lit (.bool true)], args := [d] }
  | _ => none }
def tableFindsRow : OpenClaim := { program := "ytgjceiiddcbfoaa", sum := "3edbce49d4d25ee31e17a17c1518d35f49f2da5342d2f64cc889fb063fd60ddc", func := "lavabo/lavabolaw5.TableFinds", spec := "tableFinds", apart := false }
def TableFindsSaid : Prop := tableFindsRow.holds Try.pinned (OpenSpec.ofChange tableFindsSpec)

/-- ITS FALSE NEIGHBOUR: 'it returns false'. Refute it at one input. -/
def tableFindsWrong : ChangeSpec := { name := "tableFinds", fn := fun _ => fun
  | [d] => { results := [.lit (.bool false)], args := [d] }
  | _ => none }
def TableFindsWrongFalsely : Prop := tableFindsRow.holds Try.pinned (OpenSpec.ofChange tableFindsWrong)

/-- 'lavabolaw5.TableOrders': WHATEVER THE INPUT: true; the input reads as it did. -/
def tableOrdersSpec : ChangeSpec := { name := "tableOrders", fn := fun _ => fun
  | [d1, d2] => { results := [.lit (.bool true)], args := [d1, d2] }
  | _ => none }
def tableOrdersRow : OpenClaim := { program := "ytgjceiiddcbfoaa", sum := "3edbce49d4d25ee31e17a17c1518d35f49f2da5342d2f64cc889fb063fd60ddc", func := "lavabo/lavabolaw5.TableOrders", spec := "tableOrders", apart := false }
def TableOrdersSaid : Prop := tableOrdersRow.holds Try.pinned (OpenSpec.ofChange tableOrdersSpec)

/-- ITS FALSE NEIGHBOUR: 'it returns false'. Refute it at one input. -/
def tableOrdersWrong : ChangeSpec := { name := "tableOrders", fn := fun _ => fun
  | [d1, d2] => { results := [.lit (.bool false)], args := [d1, d2] }
  | _ => none }
def TableOrdersWrongFalsely : Prop := tableOrdersRow.holds Try.pinned (OpenSpec.ofChange tableOrdersWrong)

/-- 'lavabolaw5.TableOwn': WHATEVER THE INPUT: true; the input reads as it did. -/
def tableOwnSpec : ChangeSpec := { name := "tableOwn", fn := fun _ => fun
  | [d1, d2] => { results := [.lit (.bool true)], args := [d1, d2] }
  | _ => none }
def tableOwnRow : OpenClaim := { program := "ytgjceiiddcbfoaa", sum := "3edbce49d4d25ee31e17a17c1518d35f49f2da5342d2f64cc889fb063fd60ddc", func := "lavabo/lavabolaw5.TableOwn", spec := "tableOwn", apart := false }
def TableOwnSaid : Prop := tableOwnRow.holds Try.pinned (OpenSpec.ofChange tableOwnSpec)

/-- ITS FALSE NEIGHBOUR: 'it returns false'. Refute it at one input. -/
def tableOwnWrong : ChangeSpec := { name := "tableOwn", fn := fun _ => fun
  | [d1, d2] => { results := [.lit (.bool false)], args := [d1, d2] }
  | _ => none }
def TableOwnWrongFalsely : Prop := tableOwnRow.holds Try.pinned (OpenSpec.ofChange tableOwnWrong)

/-- 'lavabolaw5.TablePlays': WHATEVER THE INPUT: true; the input reads as it did. -/
def tablePlaysSpec : ChangeSpec := { name := "tablePlays", fn := fun _ => fun
  | [d1, d2] => { results := [.lit (.bool true)], args := [d1, d2] }
  | _ => none }
def tablePlaysRow : OpenClaim := { program := "ytgjceiiddcbfoaa", sum := "3edbce49d4d25ee31e17a17c1518d35f49f2da5342d2f64cc889fb063fd60ddc", func := "lavabo/lavabolaw5.TablePlays", spec := "tablePlays", apart := false }
def TablePlaysSaid : Prop := tablePlaysRow.holds Try.pinned (OpenSpec.ofChange tablePlaysSpec)

/-- ITS FALSE NEIGHBOUR: 'it returns false'. Refute it at one input. -/
def tablePlaysWrong : ChangeSpec := { name := "tablePlays", fn := fun _ => fun
  | [d1, d2] => { results := [.lit (.bool false)], args := [d1, d2] }
  | _ => none }
def TablePlaysWrongFalsely : Prop := tablePlaysRow.holds Try.pinned (OpenSpec.ofChange tablePlaysWrong)

/-- 'lavabolaw5.TableFull': WHATEVER THE INPUT: true; the input reads as it did. -/
def tableFullSpec : ChangeSpec := { name := "tableFull", fn := fun _ => fun
  | [d] => { results := [.lit (.bool true)], args := [d] }
  | _ => none }
def tableFullRow : OpenClaim := { program := "ytgjceiiddcbfoaa", sum := "3edbce49d4d25ee31e17a17c1518d35f49f2da5342d2f64cc889fb063fd60ddc", func := "lavabo/lavabolaw5.TableFull", spec := "tableFull", apart := false }
def TableFullSaid : Prop := tableFullRow.holds Try.pinned (OpenSpec.ofChange tableFullSpec)

/-- ITS FALSE NEIGHBOUR: 'it returns false'. Refute it at one input. -/
def tableFullWrong : ChangeSpec := { name := "tableFull", fn := fun _ => fun
  | [d] => { results := [.lit (.bool false)], args := [d] }
  | _ => none }
def TableFullWrongFalsely : Prop := tableFullRow.holds Try.pinned (OpenSpec.ofChange tableFullWrong)

/- THE SECOND FORM. 'bulk': how many values and letters a reading holds, each counted each time it is reached (what is shared counts as often as it is met; a slice's spare places count too). A statement '..UptoSaid' is the law's where the arguments, and the package variables that the reading takes, are together of bulk at most 1048576: NARROWER than '..Said'. Prove '..Said' where nothing that the law and all that it calls make is longer than what came in: it says more and counts as full. Else prove '..UptoSaid'. A law counts once. -/
mutual
def uptoBulk {H : Type} : DataW H → Nat
  | .lit (.string bytes) => bytes.length + 1
  | .lit _ => 1
  | .nil => 1
  | .ptr d => uptoBulk d + 1
  | .slice elems spare => uptoBulkAll elems + uptoBulkAll spare + 1
  | .agg parts => uptoBulkAll parts + 1
  | .iface _ d => uptoBulk d + 1
  | .map entries => uptoBulkEntries entries + 1
  | .held _ => 1
def uptoBulkAll {H : Type} : List (DataW H) → Nat
  | [] => 0
  | d :: r => uptoBulk d + uptoBulkAll r
def uptoBulkEntries {H : Type} : List (Lit × DataW H) → Nat
  | [] => 0
  | x :: r => uptoBulkEntry x + uptoBulkEntries r
def uptoBulkEntry {H : Type} : Lit × DataW H → Nat
  | (.string bytes, d) => bytes.length + uptoBulk d + 1
  | (_, d) => uptoBulk d + 1
 end
def uptoSmall : (H : Type) → List (DataW H) → Bool := fun _ ds => decide (uptoBulkAll ds ≤ 1048576)
def OpenSpec.upto (s : _root_.Go.ChangeSpec) : _root_.Go.OpenSpec := { _root_.Go.OpenSpec.ofChange s with cond := some uptoSmall }

/-- 'lavabolaw9.MailPlays', WHERE WHAT IT READS IS OF BULK AT MOST 1048576: true; the input reads as it did. -/
def mailPlaysUptoRow : OpenClaim := { program := "ytgjceiiddcbfoaa", sum := "3edbce49d4d25ee31e17a17c1518d35f49f2da5342d2f64cc889fb063fd60ddc", func := "lavabo/lavabolaw9.MailPlays", spec := "mailPlays", apart := false, narrowed := true }
def MailPlaysUptoSaid : Prop := mailPlaysUptoRow.holds Try.pinned (OpenSpec.upto mailPlaysSpec)

/-- 'lavabolaw9.MailOnce', WHERE WHAT IT READS IS OF BULK AT MOST 1048576: true; the input reads as it did. -/
def mailOnceUptoRow : OpenClaim := { program := "ytgjceiiddcbfoaa", sum := "3edbce49d4d25ee31e17a17c1518d35f49f2da5342d2f64cc889fb063fd60ddc", func := "lavabo/lavabolaw9.MailOnce", spec := "mailOnce", apart := false, narrowed := true }
def MailOnceUptoSaid : Prop := mailOnceUptoRow.holds Try.pinned (OpenSpec.upto mailOnceSpec)

/-- 'lavabolaw9.MailFull', WHERE WHAT IT READS IS OF BULK AT MOST 1048576: true; the input reads as it did. -/
def mailFullUptoRow : OpenClaim := { program := "ytgjceiiddcbfoaa", sum := "3edbce49d4d25ee31e17a17c1518d35f49f2da5342d2f64cc889fb063fd60ddc", func := "lavabo/lavabolaw9.MailFull", spec := "mailFull", apart := false, narrowed := true }
def MailFullUptoSaid : Prop := mailFullUptoRow.holds Try.pinned (OpenSpec.upto mailFullSpec)

/-- 'lavabolaw5.TablePlaces', WHERE WHAT IT READS IS OF BULK AT MOST 1048576: true; the input reads as it did. -/
def tablePlacesUptoRow : OpenClaim := { program := "ytgjceiiddcbfoaa", sum := "3edbce49d4d25ee31e17a17c1518d35f49f2da5342d2f64cc889fb063fd60ddc", func := "lavabo/lavabolaw5.TablePlaces", spec := "tablePlaces", apart := false, narrowed := true }
def TablePlacesUptoSaid : Prop := tablePlacesUptoRow.holds Try.pinned (OpenSpec.upto tablePlacesSpec)

/-- 'lavabolaw5.TableFinds', WHERE WHAT IT READS IS OF BULK AT MOST 1048576: true; the input reads as it did. -/
def tableFindsUptoRow : OpenClaim := { program := "ytgjceiiddcbfoaa", sum := "3edbce49d4d25ee31e17a17c1518d35f49f2da5342d2f64cc889fb063fd60ddc", func := "lavabo/lavabolaw5.TableFinds", spec := "tableFinds", apart := false, narrowed := true }
def TableFindsUptoSaid : Prop := tableFindsUptoRow.holds Try.pinned (OpenSpec.upto tableFindsSpec)

/-- 'lavabolaw5.TableOrders', WHERE WHAT IT READS IS OF BULK AT MOST 1048576: true; the input reads as it did. -/
def tableOrdersUptoRow : OpenClaim := { program := "ytgjceiiddcbfoaa", sum := "3edbce49d4d25ee31e17a17c1518d35f49f2da5342d2f64cc889fb063fd60ddc", func := "lavabo/lavabolaw5.TableOrders", spec := "tableOrders", apart := false, narrowed := true }
def TableOrdersUptoSaid : Prop := tableOrdersUptoRow.holds Try.pinned (OpenSpec.upto tableOrdersSpec)

/-- 'lavabolaw5.TableOwn', WHERE WHAT IT READS IS OF BULK AT MOST 1048576: true; the input reads as it did. -/
def tableOwnUptoRow : OpenClaim := { program := "ytgjceiiddcbfoaa", sum := "3edbce49d4d25ee31e17a17c1518d35f49f2da5342d2f64cc889fb063fd60ddc", func := "lavabo/lavabolaw5.TableOwn", spec := "tableOwn", apart := false, narrowed := true }
def TableOwnUptoSaid : Prop := tableOwnUptoRow.holds Try.pinned (OpenSpec.upto tableOwnSpec)

/-- 'lavabolaw5.TablePlays', WHERE WHAT IT READS IS OF BULK AT MOST 1048576: true; the input reads as it did. -/
def tablePlaysUptoRow : OpenClaim := { program := "ytgjceiiddcbfoaa", sum := "3edbce49d4d25ee31e17a17c1518d35f49f2da5342d2f64cc889fb063fd60ddc", func := "lavabo/lavabolaw5.TablePlays", spec := "tablePlays", apart := false, narrowed := true }
def TablePlaysUptoSaid : Prop := tablePlaysUptoRow.holds Try.pinned (OpenSpec.upto tablePlaysSpec)

/-- 'lavabolaw5.TableFull', WHERE WHAT IT READS IS OF BULK AT MOST 1048576: true; the input reads as it did. -/
def tableFullUptoRow : OpenClaim := { program := "ytgjceiiddcbfoaa", sum := "3edbce49d4d25ee31e17a17c1518d35f49f2da5342d2f64cc889fb063fd60ddc", func := "lavabo/lavabolaw5.TableFull", spec := "tableFull", apart := false, narrowed := true }
def TableFullUptoSaid : Prop := tableFullUptoRow.holds Try.pinned (OpenSpec.upto tableFullSpec)

end Rows
end Go.Proofs.Ytgjceiiddcbfoaa
