/-
  No cell of these rows narrows 'for every input' (looked for: loops, veiled, ifaces, maps, wideKeys, modest, calm, conditions, laid).
  DERIVED. THE GIVEN ROWS OF THIS SEAT. 8 by the template 'for every input the law returns true; each argument reads behind the call as it read before'; 0 by the template 'total and deterministic' (their statements: YtakkkibaaipmcaaTotals.lean).
  GIVEN WITH THE SEED: the statements are not yours to turn. If you find one false, say at which input.
  Laid BY PROGRAM, IN A SANDBOX (cutbox-rows.mjs): the forced cells as the released guide's own fill.sh prints them over the translation d5866b4e138056a8… (all of the seat's roots in one cut). By AI agents, Wed Nov 11 2026. No macro, syntax, notation, axiom, sorry.
-/
import Derived.Test.YtakkkibaaipmcaaChecked
import GoSem.Claim
import GoSem.ClaimJoined
import GoSem.ClaimMapViews
import Derived.JoinedTies
import Derived.KernelRfl
namespace Go.Proofs.Ytakkkibaaipmcaa
/- THE CELL 'sum', in the pinned program and in every row, IS THE sha256 OF THE DUMP (.gsa) THAT YtakkkibaaipmcaaProg.lean LOADS. Nothing in Lean hashes anything: it is a label: what it is worth is what the hold of that sum in a sandbox is worth. -/
noncomputable def Try.pinned : Pinned := { name := "ytakkkibaaipmcaa", sum := "d5866b4e138056a8d46c413cbdbaece7f857691b9bc8756301af25d7867a4c84", checked := Try.checked }
namespace Rows
def none {H : Type} : Left H := { results := [], args := [] }

/-- 'lavabolaw12.HandleOwn': WHATEVER THE INPUT: true; the input reads as it did. -/
def handleOwnSpec : ChangeSpec := { name := "handleOwn", fn := fun _ => fun
  | [d1, d2] => { results := [.lit (.bool true)], args := [d1, d2] }
  | _ => none }
def handleOwnRow : OpenClaim := { program := "ytakkkibaaipmcaa", sum := "d5866b4e138056a8d46c413cbdbaece7f857691b9bc8756301af25d7867a4c84", func := "lavabo/lavabolaw12.HandleOwn", spec := "handleOwn", apart := false }
def HandleOwnSaid : Prop := handleOwnRow.holds Try.pinned (OpenSpec.ofChange handleOwnSpec)

/-- ITS FALSE NEIGHBOUR: 'it returns false'. Refute it at one input. -/
def handleOwnWrong : ChangeSpec := { name := "handleOwn", fn := fun _ => fun
  | [d1, d2] => { results := [.lit (.bool false)], args := [d1, d2] }
  | _ => none }
def HandleOwnWrongFalsely : Prop := handleOwnRow.holds Try.pinned (OpenSpec.ofChange handleOwnWrong)

/-- 'lavabolaw12.HandlePlays': WHATEVER THE INPUT: true; the input reads as it did. -/
def handlePlaysSpec : ChangeSpec := { name := "handlePlays", fn := fun _ => fun
  | [d1, d2] => { results := [.lit (.bool true)], args := [d1, d2] }
  | _ => none }
def handlePlaysRow : OpenClaim := { program := "ytakkkibaaipmcaa", sum := "d5866b4e138056a8d46c413cbdbaece7f857691b9bc8756301af25d7867a4c84", func := "lavabo/lavabolaw12.HandlePlays", spec := "handlePlays", apart := false }
def HandlePlaysSaid : Prop := handlePlaysRow.holds Try.pinned (OpenSpec.ofChange handlePlaysSpec)

/-- ITS FALSE NEIGHBOUR: 'it returns false'. Refute it at one input. -/
def handlePlaysWrong : ChangeSpec := { name := "handlePlays", fn := fun _ => fun
  | [d1, d2] => { results := [.lit (.bool false)], args := [d1, d2] }
  | _ => none }
def HandlePlaysWrongFalsely : Prop := handlePlaysRow.holds Try.pinned (OpenSpec.ofChange handlePlaysWrong)

/-- 'lavabolaw12.HandleFull': WHATEVER THE INPUT: true; the input reads as it did. -/
def handleFullSpec : ChangeSpec := { name := "handleFull", fn := fun _ => fun
  | [d1, d2] => { results := [.lit (.bool true)], args := [d1, d2] }
  | _ => none }
def handleFullRow : OpenClaim := { program := "ytakkkibaaipmcaa", sum := "d5866b4e138056a8d46c413cbdbaece7f857691b9bc8756301af25d7867a4c84", func := "lavabo/lavabolaw12.HandleFull", spec := "handleFull", apart := false }
def HandleFullSaid : Prop := handleFullRow.holds Try.pinned (OpenSpec.ofChange handleFullSpec)

/-- ITS FALSE NEIGHBOUR: 'it returns false'. Refute it at one input. -/
def handleFullWrong : ChangeSpec := { name := "handleFull", fn := fun _ => fun
  | [d1, d2] => { results := [.lit (.bool false)], args := [d1, d2] }
  | _ => none }
def HandleFullWrongFalsely : Prop := handleFullRow.holds Try.pinned (OpenSpec.ofChange handleFullWrong)

/-- 'lavabolaw12.HandlePins': WHATEVER THE INPUT: true; the input reads as it did. -/
def handlePinsSpec : ChangeSpec := { name := "handlePins", fn := fun _ => fun
  | [d] => { results := [.lit (.bool true)], args := [d] }
  | _ => none }
def handlePinsRow : OpenClaim := { program := "ytakkkibaaipmcaa", sum := "d5866b4e138056a8d46c413cbdbaece7f857691b9bc8756301af25d7867a4c84", func := "lavabo/lavabolaw12.HandlePins", spec := "handlePins", apart := false }
def HandlePinsSaid : Prop := handlePinsRow.holds Try.pinned (OpenSpec.ofChange handlePinsSpec)

/-- ITS FALSE NEIGHBOUR: 'it returns false'. Refute it at one input. -/
def handlePinsWrong : ChangeSpec := { name := "handlePins", fn := fun _ => fun
  | [d] => { results := [.lit (.bool false)], args := [d] }
  | _ => none }
def HandlePinsWrongFalsely : Prop := handlePinsRow.holds Try.pinned (OpenSpec.ofChange handlePinsWrong)

/-- 'lavabolaw7.SchedPlays': WHATEVER THE INPUT: true; the input reads as it did. -/
def schedPlaysSpec : ChangeSpec := { name := "schedPlays", fn := fun _ => fun
  | [d1, d2] => { results := [.lit (.bool true)], args := [d1, d2] }
  | _ => none }
def schedPlaysRow : OpenClaim := { program := "ytakkkibaaipmcaa", sum := "d5866b4e138056a8d46c413cbdbaece7f857691b9bc8756301af25d7867a4c84", func := "lavabo/lavabolaw7.SchedPlays", spec := "schedPlays", unfollowed := true, recurses := true, apart := false }
def SchedPlaysSaid : Prop := schedPlaysRow.holds Try.pinned (OpenSpec.ofChange schedPlaysSpec)

/-- ITS FALSE NEIGHBOUR: 'it returns false'. Refute it at one input. -/
def schedPlaysWrong : ChangeSpec := { name := "schedPlays", fn := fun _ => fun
  | [d1, d2] => { results := [.lit (.bool false)], args := [d1, d2] }
  | _ => none }
def SchedPlaysWrongFalsely : Prop := schedPlaysRow.holds Try.pinned (OpenSpec.ofChange schedPlaysWrong)

/-- 'lavabolaw7.SchedPicks': WHATEVER THE INPUT: true; the input reads as it did. -/
def schedPicksSpec : ChangeSpec := { name := "schedPicks", fn := fun _ => fun
  | [d1, d2] => { results := [.lit (.bool true)], args := [d1, d2] }
  | _ => none }
def schedPicksRow : OpenClaim := { program := "ytakkkibaaipmcaa", sum := "d5866b4e138056a8d46c413cbdbaece7f857691b9bc8756301af25d7867a4c84", func := "lavabo/lavabolaw7.SchedPicks", spec := "schedPicks", unfollowed := true, recurses := true, apart := false }
def SchedPicksSaid : Prop := schedPicksRow.holds Try.pinned (OpenSpec.ofChange schedPicksSpec)

/-- ITS FALSE NEIGHBOUR: 'it returns false'. Refute it at one input. -/
def schedPicksWrong : ChangeSpec := { name := "schedPicks", fn := fun _ => fun
  | [d1, d2] => { results := [.lit (.bool false)], args := [d1, d2] }
  | _ => none }
def SchedPicksWrongFalsely : Prop := schedPicksRow.holds Try.pinned (OpenSpec.ofChange schedPicksWrong)

/-- 'lavabolaw7.SchedFrees': WHATEVER THE INPUT: true; the input reads as it did. -/
def schedFreesSpec : ChangeSpec := { name := "schedFrees", fn := fun _ => fun
  | [d1, d2] => { results := [.lit (.bool true)], args := [d1, d2] }
  | _ => none }
def schedFreesRow : OpenClaim := { program := "ytakkkibaaipmcaa", sum := "d5866b4e138056a8d46c413cbdbaece7f857691b9bc8756301af25d7867a4c84", func := "lavabo/lavabolaw7.SchedFrees", spec := "schedFrees", unfollowed := true, recurses := true, apart := false }
def SchedFreesSaid : Prop := schedFreesRow.holds Try.pinned (OpenSpec.ofChange schedFreesSpec)

/-- ITS FALSE NEIGHBOUR: 'it returns false'. Refute it at one input. -/
def schedFreesWrong : ChangeSpec := { name := "schedFrees", fn := fun _ => fun
  | [d1, d2] => { results := [.lit (.bool false)], args := [d1, d2] }
  | _ => none }
def SchedFreesWrongFalsely : Prop := schedFreesRow.holds Try.pinned (OpenSpec.ofChange schedFreesWrong)

/-- 'lavabolaw7.SchedTurns': WHATEVER THE INPUT: true; the input reads as it did. -/
def schedTurnsSpec : ChangeSpec := { name := "schedTurns", fn := fun _ => fun
  | [d1, d2, d3, d4] => { results := [.lit (.bool true)], args := [d1, d2, d3, d4] }
  | _ => none }
def schedTurnsRow : OpenClaim := { program := "ytakkkibaaipmcaa", sum := "d5866b4e138056a8d46c413cbdbaece7f857691b9bc8756301af25d7867a4c84", func := "lavabo/lavabolaw7.SchedTurns", spec := "schedTurns", unfollowed := true, recurses := true, apart := false }
def SchedTurnsSaid : Prop := schedTurnsRow.holds Try.pinned (OpenSpec.ofChange schedTurnsSpec)

/-- ITS FALSE NEIGHBOUR: 'it returns false'. Refute it at one input. -/
def schedTurnsWrong : ChangeSpec := { name := "schedTurns", fn := fun _ => fun
  | [d1, d2, d3, d4] => { results := [.lit (.bool false)], args := [d1, d2, d3, d4] }
  | _ => none }
def SchedTurnsWrongFalsely : Prop := schedTurnsRow.holds Try.pinned (OpenSpec.ofChange schedTurnsWrong)

/- THE SECOND FORM. 'bulk': how many values and letters a reading holds, each counted each time it is reached (what is shared counts as often as it is met; a slice's spare places count too). A statement '..UptoSaid' is the law's where the arguments, and the package variables that the reading takes, are together of bulk at most 1048576: NARROWER than '..Said'. Prove '..Said' where nothing that the law and all that it calls make is longer than what came in: it says more and counts as full. Else prove '..UptoSaid'. A law counts once. -/
mutual
def uptoBulk {H : Type} : DataW H → Nat
  | .lit (.string bytes) => bytes.length + 1
  | .lit _ => 1
  | .nil => 1
  | .ptr d => uptoBulk d + 1
  | .slice elems spare => uptoBulkAll elems + uptoBulkAll spare + 1
  | .agg parts => uptoBulkAll parts + 1
  | .iface _ d => uptoBulk d + 1
  | .map entries => uptoBulkEntries entries + 1
  | .held _ => 1
def uptoBulkAll {H : Type} : List (DataW H) → Nat
  | [] => 0
  | d :: r => uptoBulk d + uptoBulkAll r
def uptoBulkEntries {H : Type} : List (Lit × DataW H) → Nat
  | [] => 0
  | x :: r => uptoBulkEntry x + uptoBulkEntries r
def uptoBulkEntry {H : Type} : Lit × DataW H → Nat
  | (.string bytes, d) => bytes.length + uptoBulk d + 1
  | (_, d) => uptoBulk d + 1
 end
def uptoSmall : (H : Type) → List (DataW H) → Bool := fun _ ds => decide (uptoBulkAll ds ≤ 1048576)
def OpenSpec.upto (s : _root_.Go.ChangeSpec) : _root_.Go.OpenSpec := { _root_.Go.OpenSpec.ofChange s with cond := some uptoSmall }

/-- 'lavabolaw12.HandleOwn', WHERE WHAT IT READS IS OF BULK AT MOST 1048576: true; the input reads as it did. -/
def handleOwnUptoRow : OpenClaim := { program := "ytakkkibaaipmcaa", sum := "d5866b4e138056a8d46c413cbdbaece7f857691b9bc8756301af25d7867a4c84", func := "lavabo/lavabolaw12.HandleOwn", spec := "handleOwn", apart := false, narrowed := true }
def HandleOwnUptoSaid : Prop := handleOwnUptoRow.holds Try.pinned (OpenSpec.upto handleOwnSpec)

/-- 'lavabolaw12.HandlePlays', WHERE WHAT IT READS IS OF BULK AT MOST 1048576: true; the input reads as it did. -/
def handlePlaysUptoRow : OpenClaim := { program := "ytakkkibaaipmcaa", sum := "d5866b4e138056a8d46c413cbdbaece7f857691b9bc8756301af25d7867a4c84", func := "lavabo/lavabolaw12.HandlePlays", spec := "handlePlays", apart := false, narrowed := true }
def HandlePlaysUptoSaid : Prop := handlePlaysUptoRow.holds Try.pinned (OpenSpec.upto handlePlaysSpec)

/-- 'lavabolaw12.HandleFull', WHERE WHAT IT READS IS OF BULK AT MOST 1048576: true; the input reads as it did. -/
def handleFullUptoRow : OpenClaim := { program := "ytakkkibaaipmcaa", sum := "d5866b4e138056a8d46c413cbdbaece7f857691b9bc8756301af25d7867a4c84", func := "lavabo/lavabolaw12.HandleFull", spec := "handleFull", apart := false, narrowed := true }
def HandleFullUptoSaid : Prop := handleFullUptoRow.holds Try.pinned (OpenSpec.upto handleFullSpec)

/-- 'lavabolaw12.HandlePins', WHERE WHAT IT READS IS OF BULK AT MOST 1048576: true; the input reads as it did. -/
def handlePinsUptoRow : OpenClaim := { program := "ytakkkibaaipmcaa", sum := "d5866b4e138056a8d46c413cbdbaece7f857691b9bc8756301af25d7867a4c84", func := "lavabo/lavabolaw12.HandlePins", spec := "handlePins", apart := false, narrowed := true }
def HandlePinsUptoSaid : Prop := handlePinsUptoRow.holds Try.pinned (OpenSpec.upto handlePinsSpec)

/-- 'lavabolaw7.SchedPlays', WHERE WHAT IT READS IS OF BULK AT MOST 1048576: true; the input reads as it did. -/
def schedPlaysUptoRow : OpenClaim := { program := "ytakkkibaaipmcaa", sum := "d5866b4e138056a8d46c413cbdbaece7f857691b9bc8756301af25d7867a4c84", func := "lavabo/lavabolaw7.SchedPlays", spec := "schedPlays", unfollowed := true, recurses := true, apart := false, narrowed := true }
def SchedPlaysUptoSaid : Prop := schedPlaysUptoRow.holds Try.pinned (OpenSpec.upto schedPlaysSpec)

/-- 'lavabolaw7.SchedPicks', WHERE WHAT IT READS IS OF BULK AT MOST 1048576: true; the input reads as it did. -/
def schedPicksUptoRow : OpenClaim := { program := "ytakkkibaaipmcaa", sum := "d5866b4e138056a8d46c413cbdbaece7f857691b9bc8756301af25d7867a4c84", func := "lavabo/lavabolaw7.SchedPicks", spec := "schedPicks", unfollowed := true, recurses := true, apart := false, narrowed := true }
def SchedPicksUptoSaid : Prop := schedPicksUptoRow.holds Try.pinned (OpenSpec.upto schedPicksSpec)

/-- 'lavabolaw7.SchedFrees', WHERE WHAT IT READS IS OF BULK AT MOST 1048576: true; the input reads as it did. -/
def schedFreesUptoRow : OpenClaim := { program := "ytakkkibaaipmcaa", sum := "d5866b4e138056a8d46c413cbdbaece7f857691b9bc8756301af25d7867a4c84", func := "lavabo/lavabolaw7.SchedFrees", spec := "schedFrees", unfollowed := true, recurses := true, apart := false, narrowed := true }
def SchedFreesUptoSaid : Prop := schedFreesUptoRow.holds Try.pinned (OpenSpec.upto schedFreesSpec)

/-- 'lavabolaw7.SchedTurns', WHERE WHAT IT READS IS OF BULK AT MOST 1048576: true; the input reads as it did. -/
def schedTurnsUptoRow : OpenClaim := { program := "ytakkkibaaipmcaa", sum := "d5866b4e138056a8d46c413cbdbaece7f857691b9bc8756301af25d7867a4c84", func := "lavabo/lavabolaw7.SchedTurns", spec := "schedTurns", unfollowed := true, recurses := true, apart := false, narrowed := true }
def SchedTurnsUptoSaid : Prop := schedTurnsUptoRow.holds Try.pinned (OpenSpec.upto schedTurnsSpec)

end Rows
end Go.Proofs.Ytakkkibaaipmcaa
