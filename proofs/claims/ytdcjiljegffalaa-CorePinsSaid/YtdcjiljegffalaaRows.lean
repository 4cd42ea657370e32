/-
  No cell of these rows narrows 'for every input' (looked for: loops, veiled, ifaces, maps, wideKeys, modest, calm, conditions, laid).
  DERIVED. THE GIVEN ROWS OF THIS SEAT. 4 by the template 'for every input the law returns true; each argument reads behind the call as it read before'; 0 by the template 'total and deterministic' (their statements: YtdcjiljegffalaaTotals.lean).
  GIVEN WITH THE SEED: the statements are not yours to turn. If you find one false, say at which input.
  Laid BY PROGRAM, IN A SANDBOX (cutbox-rows.mjs): the forced cells as the released guide's own fill.sh prints them over the translation 71b03e25c616790d… (all of the seat's roots in one cut). By AI agents, Wed Nov 11 2026. No macro, syntax, notation, axiom, sorry.
-/
import Derived.Test.YtdcjiljegffalaaChecked
import GoSem.Claim
import GoSem.ClaimJoined
import GoSem.ClaimMapViews
import Derived.JoinedTies
import Derived.KernelRfl
namespace Go.Proofs.Ytdcjiljegffalaa
/- THE CELL 'sum', in the pinned program and in every row, IS THE sha256 OF THE DUMP (.gsa) THAT YtdcjiljegffalaaProg.lean LOADS. Nothing in Lean hashes anything: it is a label: what it is worth is what the hold of that sum in a sandbox is worth. -/
noncomputable def Try.pinned : Pinned := { name := "ytdcjiljegffalaa", sum := "71b03e25c616790d141c8e3cafac8dd67f51f216789933962f84f5a95427ec02", checked := Try.checked }
namespace Rows
def none {H : Type} : Left H := { results := [], args := [] }

/-- 'lavabolaw11.CorePins': WHATEVER THE INPUT: true; the input reads as it did. -/
def corePinsSpec : ChangeSpec := { name := "corePins", fn := fun _ => fun
  | [d1, d2] => { results := [.lit (.bool true)], args := [d1, d2] }
  | _ => none }
def corePinsRow : OpenClaim := { program := "ytdcjiljegffalaa", sum := "71b03e25c616790d141c8e3cafac8dd67f51f216789933962f84f5a95427ec02", func := "lavabo/lavabolaw11.CorePins", spec := "corePins", apart := false }
def CorePinsSaid : Prop := corePinsRow.holds Try.pinned (OpenSpec.ofChange corePinsSpec)

/-- ITS FALSE NEIGHBOUR: 'it returns false'. Refute it at one input. -/
def corePinsWrong : ChangeSpec := { name := "corePins", fn := fun _ => fun
  | [d1, d2] => { results := [.lit (.bool false)], args := [d1, d2] }
  | _ => none }
def CorePinsWrongFalsely : Prop := corePinsRow.holds Try.pinned (OpenSpec.ofChange corePinsWrong)

/-- 'lavabolaw11.CoreOrders': WHATEVER THE INPUT: true; the input reads as it did. -/
def coreOrdersSpec : ChangeSpec := { name := "coreOrders", fn := fun _ => fun
  | [d1, d2] => { results := [.lit (.bool true)], args := [d1, d2] }
  | _ => none }
def coreOrdersRow : OpenClaim := { program := "ytdcjiljegffalaa", sum := "71b03e25c616790d141c8e3cafac8dd67f51f216789933962f84f5a95427ec02", func := "lavabo/lavabolaw11.CoreOrders", spec := "coreOrders", apart := false }
def CoreOrdersSaid : Prop := coreOrdersRow.holds Try.pinned (OpenSpec.ofChange coreOrdersSpec)

/-- ITS FALSE NEIGHBOUR: 'it returns false'. Refute it at one input. -/
def coreOrdersWrong : ChangeSpec := { name := "coreOrders", fn := fun _ => fun
  | [d1, d2] => { results := [.lit (.bool false)], args := [d1, d2] }
  | _ => none }
def CoreOrdersWrongFalsely : Prop := coreOrdersRow.holds Try.pinned (OpenSpec.ofChange coreOrdersWrong)

/-- 'lavabolaw11.CoreClean': WHATEVER THE INPUT: true; the input reads as it did. -/
def coreCleanSpec : ChangeSpec := { name := "coreClean", fn := fun _ => fun
  | [d1, d2] => { results := [.lit (.bool true)], args := [d1, d2] }
  | _ => none }
def coreCleanRow : OpenClaim := { program := "ytdcjiljegffalaa", sum := "71b03e25c616790d141c8e3cafac8dd67f51f216789933962f84f5a95427ec02", func := "lavabo/lavabolaw11.CoreClean", spec := "coreClean", apart := false }
def CoreCleanSaid : Prop := coreCleanRow.holds Try.pinned (OpenSpec.ofChange coreCleanSpec)

/-- ITS FALSE NEIGHBOUR: 'it returns false'. Refute it at one input. -/
def coreCleanWrong : ChangeSpec := { name := "coreClean", fn := fun _ => fun
  | [d1, d2] => { results := [.lit (.bool false)], args := [d1, d2] }
  | _ => none }
def CoreCleanWrongFalsely : Prop := coreCleanRow.holds Try.pinned (OpenSpec.ofChange coreCleanWrong)

/-- 'lavabolaw11.CoreHits': WHATEVER THE INPUT: true; the input reads as it did. -/
def coreHitsSpec : ChangeSpec := { name := "coreHits", fn := fun _ => fun
  | [d1, d2] => { results := [.lit (.bool true)], args := [d1, d2] }
  | _ => none }
def coreHitsRow : OpenClaim := { program := "ytdcjiljegffalaa", sum := "71b03e25c616790d141c8e3cafac8dd67f51f216789933962f84f5a95427ec02", func := "lavabo/lavabolaw11.CoreHits", spec := "coreHits", apart := false }
def CoreHitsSaid : Prop := coreHitsRow.holds Try.pinned (OpenSpec.ofChange coreHitsSpec)

/-- ITS FALSE NEIGHBOUR: 'it returns false'. Refute it at one input. -/
def coreHitsWrong : ChangeSpec := { name := "coreHits", fn := fun _ => fun
  | [d1, d2] => { results := [.lit (.bool false)], args := [d1, d2] }
  | _ => none }
def CoreHitsWrongFalsely : Prop := coreHitsRow.holds Try.pinned (OpenSpec.ofChange coreHitsWrong)

/- THE SECOND FORM. 'bulk': how many values and letters a reading holds, each counted each time it is reached (what is shared counts as often as it is met; a slice's spare places count too). A statement '..UptoSaid' is the law's where the arguments, and the package variables that the reading takes, are together of bulk at most 1048576: NARROWER than '..Said'. Prove '..Said' where nothing that the law and all that it calls make is longer than what came in: it says more and counts as full. Else prove '..UptoSaid'. A law counts once. -/
mutual
def uptoBulk {H : Type} : DataW H → Nat
  | .lit (.string bytes) => bytes.length + 1
  | .lit _ => 1
  | .nil => 1
  | .ptr d => uptoBulk d + 1
  | .slice elems spare => uptoBulkAll elems + uptoBulkAll spare + 1
  | .agg parts => uptoBulkAll parts + 1
  | .iface _ d => uptoBulk d + 1
  | .map entries => uptoBulkEntries entries + 1
  | .held _ => 1
def uptoBulkAll {H : Type} : List (DataW H) → Nat
  | [] => 0
  | d :: r => uptoBulk d + uptoBulkAll r
def uptoBulkEntries {H : Type} : List (Lit × DataW H) → Nat
  | [] => 0
  | x :: r => uptoBulkEntry x + uptoBulkEntries r
def uptoBulkEntry {H : Type} : Lit × DataW H → Nat
  | (.string bytes, d) => bytes.length + uptoBulk d + 1
  | (_, d) => uptoBulk d + 1
 end
def uptoSmall : (H : Type) → List (DataW H) → Bool := fun _ ds => decide (uptoBulkAll ds ≤ 1048576)
def OpenSpec.upto (s : _root_.Go.ChangeSpec) : _root_.Go.OpenSpec := { _root_.Go.OpenSpec.ofChange s with cond := some uptoSmall }

/-- 'lavabolaw11.CorePins', WHERE WHAT IT READS IS OF BULK AT MOST 1048576: true; the input reads as it did. -/
def corePinsUptoRow : OpenClaim := { program := "ytdcjiljegffalaa", sum := "71b03e25c616790d141c8e3cafac8dd67f51f216789933962f84f5a95427ec02", func := "lavabo/lavabolaw11.CorePins", spec := "corePins", apart := false, narrowed := true }
def CorePinsUptoSaid : Prop := corePinsUptoRow.holds Try.pinned (OpenSpec.upto corePinsSpec)

/-- 'lavabolaw11.CoreOrders', WHERE WHAT IT READS IS OF BULK AT MOST 1048576: true; the input reads as it did. -/
def coreOrdersUptoRow : OpenClaim := { program := "ytdcjiljegffalaa", sum := "71b03e25c616790d141c8e3cafac8dd67f51f216789933962f84f5a95427ec02", func := "lavabo/lavabolaw11.CoreOrders", spec := "coreOrders", apart := false, narrowed := true }
def CoreOrdersUptoSaid : Prop := coreOrdersUptoRow.holds Try.pinned (OpenSpec.upto coreOrdersSpec)

/-- 'lavabolaw11.CoreClean', WHERE WHAT IT READS IS OF BULK AT MOST 1048576: true; the input reads as it did. -/
def coreCleanUptoRow : OpenClaim := { program := "ytdcjiljegffalaa", sum := "71b03e25c616790d141c8e3cafac8dd67f51f216789933962f84f5a95427ec02", func := "lavabo/lavabolaw11.CoreClean", spec := "coreClean", apart := false, narrowed := true }
def CoreCleanUptoSaid : Prop := coreCleanUptoRow.holds Try.pinned (OpenSpec.upto coreCleanSpec)

/-- 'lavabolaw11.CoreHits', WHERE WHAT IT READS IS OF BULK AT MOST 1048576: true; the input reads as it did. -/
def coreHitsUptoRow : OpenClaim := { program := "ytdcjiljegffalaa", sum := "71b03e25c616790d141c8e3cafac8dd67f51f216789933962f84f5a95427ec02", func := "lavabo/lavabolaw11.CoreHits", spec := "coreHits", apart := false, narrowed := true }
def CoreHitsUptoSaid : Prop := coreHitsUptoRow.holds Try.pinned (OpenSpec.upto coreHitsSpec)

end Rows
end Go.Proofs.Ytdcjiljegffalaa
