/-
  No cell of these rows narrows 'for every input' (looked for: loops, veiled, ifaces, maps, wideKeys, modest, calm, conditions, laid).
  DERIVED. THE GIVEN ROWS OF THIS SEAT. 10 by the template 'for every input the law returns true; each argument reads behind the call as it read before'; 0 by the template 'total and deterministic' (their statements: YtkammkogidakkaaTotals.lean).
  GIVEN WITH THE SEED: the statements are not yours to turn. If you find one false, say at which input.
  Laid BY PROGRAM, IN A SANDBOX (cutbox-rows.mjs): the forced cells as the released guide's own fill.sh prints them over the translation 0faab35b600e63ac… (all of the seat's roots in one cut). By AI agents, Wed Nov 11 2026. No macro, syntax, notation, axiom, sorry.
-/
import Derived.Test.YtkammkogidakkaaChecked
import GoSem.Claim
import GoSem.ClaimJoined
import GoSem.ClaimMapViews
import Derived.JoinedTies
import Derived.KernelRfl
namespace Go.Proofs.Ytkammkogidakkaa
/- THE CELL 'sum', in the pinned program and in every row, IS THE sha256 OF THE DUMP (.gsa) THAT YtkammkogidakkaaProg.lean LOADS. Nothing in Lean hashes anything: it is a label: what it is worth is what the hold of that sum in a sandbox is worth. -/
noncomputable def Try.pinned : Pinned := { name := "ytkammkogidakkaa", sum := "0faab35b600e63acf945e94019776d6f30d6db7b7ec32551fcac40bbf90d90e6", checked := Try.checked }
namespace Rows
def none {H : Type} : Left H := { results := [], args := [] }

/-- 'lavabolaw1.SumAsks': WHATEVER THE INPUT: true; the input reads as it did. -/
def sumAsksSpec : ChangeSpec := { name := "sumAsks", fn := fun _ => fun
  | [d1, d2, d3] => { results := [.lit (.bool true)], args := [d1, d2, d3] }
  | _ => none }
def sumAsksRow : OpenClaim := { program := "ytkammkogidakkaa", sum := "0faab35b600e63acf945e94019776d6f30d6db7b7ec32551fcac40bbf90d90e6", func := "lavabo/lavabolaw1.SumAsks", spec := "sumAsks", apart := false }
def SumAsksSaid : Prop := sumAsksRow.holds Try.pinned (OpenSpec.ofChange sumAsksSpec)

/-- ITS FALSE NEIGHBOUR: 'it returns false'. Refute it at one input. -/
def sumAsksWrong : ChangeSpec := { name := "sumAsks", fn := fun _ => fun
  | [d1, d2, d3] => { results := [.lit (.bool false)], args := [d1, d2, d3] }
  | _ => none }
def SumAsksWrongFalsely : Prop := sumAsksRow.holds Try.pinned (OpenSpec.ofChange sumAsksWrong)

/-- 'lavabolaw1.SumParts': WHATEVER THE INPUT: true; the input reads as it did. -/
def sumPartsSpec : ChangeSpec := { name := "sumParts", fn := fun _ => fun
  | [d1, d2, d3] => { results := [.lit (.bool true)], args := [d1, d2, d3] }
  | _ => none }
def sumPartsRow : OpenClaim := { program := "ytkammkogidakkaa", sum := "0faab35b600e63acf945e94019776d6f30d6db7b7ec32551fcac40bbf90d90e6", func := "lavabo/lavabolaw1.SumParts", spec := "sumParts", apart := false }
def SumPartsSaid : Prop := sumPartsRow.holds Try.pinned (OpenSpec.ofChange sumPartsSpec)

/-- ITS FALSE NEIGHBOUR: 'it returns false'. Refute it at one input. -/
def sumPartsWrong : ChangeSpec := { name := "sumParts", fn := fun _ => fun
  | [d1, d2, d3] => { results := [.lit (.bool false)], args := [d1, d2, d3] }
  | _ => none }
def SumPartsWrongFalsely : Prop := sumPartsRow.holds Try.pinned (OpenSpec.ofChange sumPartsWrong)

/-- 'lavabolaw1.SumTells': WHATEVER THE INPUT: true; the input reads as it did. -/
def sumTellsSpec : ChangeSpec := { name := "sumTells", fn := fun _ => fun
  | [d1, d2, d3] => { results := [.lit (.bool true)], args := [d1, d2, d3] }
  | _ => none }
def sumTellsRow : OpenClaim := { program := "ytkammkogidakkaa", sum := "0faab35b600e63acf945e94019776d6f30d6db7b7ec32551fcac40bbf90d90e6", func := "lavabo/lavabolaw1.SumTells", spec := "sumTells", apart := false }
def SumTellsSaid : Prop := sumTellsRow.holds Try.pinned (OpenSpec.ofChange sumTellsSpec)

/-- ITS FALSE NEIGHBOUR: 'it returns false'. Refute it at one input. -/
def sumTellsWrong : ChangeSpec := { name := "sumTells", fn := fun _ => fun
  | [d1, d2, d3] => { results := [.lit (.bool false)], args := [d1, d2, d3] }
  | _ => none }
def SumTellsWrongFalsely : Prop := sumTellsRow.holds Try.pinned (OpenSpec.ofChange sumTellsWrong)

/-- 'lavabolaw1.SumTurns': WHATEVER THE INPUT: true; the input reads as it did. -/
def sumTurnsSpec : ChangeSpec := { name := "sumTurns", fn := fun _ => fun
  | [d1, d2, d3, d4] => { results := [.lit (.bool true)], args := [d1, d2, d3, d4] }
  | _ => none }
def sumTurnsRow : OpenClaim := { program := "ytkammkogidakkaa", sum := "0faab35b600e63acf945e94019776d6f30d6db7b7ec32551fcac40bbf90d90e6", func := "lavabo/lavabolaw1.SumTurns", spec := "sumTurns", apart := false }
def SumTurnsSaid : Prop := sumTurnsRow.holds Try.pinned (OpenSpec.ofChange sumTurnsSpec)

/-- ITS FALSE NEIGHBOUR: 'it returns false'. Refute it at one input. -/
def sumTurnsWrong : ChangeSpec := { name := "sumTurns", fn := fun _ => fun
  | [d1, d2, d3, d4] => { results := [.lit (.bool false)], args := [d1, d2, d3, d4] }
  | _ => none }
def SumTurnsWrongFalsely : Prop := sumTurnsRow.holds Try.pinned (OpenSpec.ofChange sumTurnsWrong)

/-- 'lavabolaw1.SumThrees': WHATEVER THE INPUT: true; the input reads as it did. -/
def sumThreesSpec : ChangeSpec := { name := "sumThrees", fn := fun _ => fun
  | [d1, d2, d3] => { results := [.lit (.bool true)], args := [d1, d2, d3] }
  | _ => none }
def sumThreesRow : OpenClaim := { program := "ytkammkogidakkaa", sum := "0faab35b600e63acf945e94019776d6f30d6db7b7ec32551fcac40bbf90d90e6", func := "lavabo/lavabolaw1.SumThrees", spec := "sumThrees", apart := false }
def SumThreesSaid : Prop := sumThreesRow.holds Try.pinned (OpenSpec.ofChange sumThreesSpec)

/-- ITS FALSE NEIGHBOUR: 'it returns false'. Refute it at one input. -/
def sumThreesWrong : ChangeSpec := { name := "sumThrees", fn := fun _ => fun
  | [d1, d2, d3] => { results := [.lit (.bool false)], args := [d1, d2, d3] }
  | _ => none }
def SumThreesWrongFalsely : Prop := sumThreesRow.holds Try.pinned (OpenSpec.ofChange sumThreesWrong)

/-- 'lavabolaw21.TidyRounds': WHATEVER THE INPUT: true; the input reads as it did. -/
def tidyRoundsSpec : ChangeSpec := { name := "tidyRounds", fn := fun _ => fun
  | [d1, d2] => { results := [.lit (.bool true)], args := [d1, d2] }
  | _ => none }
def tidyRoundsRow : OpenClaim := { program := "ytkammkogidakkaa", sum := "0faab35b600e63acf945e94019776d6f30d6db7b7ec32551fcac40bbf90d90e6", func := "lavabo/lavabolaw21.TidyRounds", spec := "tidyRounds", apart := false }
def TidyRoundsSaid : Prop := tidyRoundsRow.holds Try.pinned (OpenSpec.ofChange tidyRoundsSpec)

/-- ITS FALSE NEIGHBOUR: 'it returns false'. Refute it at one input. -/
def tidyRoundsWrong : ChangeSpec := { name := "tidyRounds", fn := fun _ => fun
  | [d1, d2] => { results := [.lit (.bool false)], args := [d1, d2] }
  | _ => none }
def TidyRoundsWrongFalsely : Prop := tidyRoundsRow.holds Try.pinned (OpenSpec.ofChange tidyRoundsWrong)

/-- 'lavabolaw20.MoveAsks': WHATEVER THE INPUT: true; the input reads as it did. -/
def moveAsksSpec : ChangeSpec := { name := "moveAsks", fn := fun _ => fun
  | [d1, d2] => { results := [.lit (.bool true)], args := [d1, d2] }
  | _ => none }
def moveAsksRow : OpenClaim := { program := "ytkammkogidakkaa", sum := "0faab35b600e63acf945e94019776d6f30d6db7b7ec32551fcac40bbf90d90e6", func := "lavabo/lavabolaw20.MoveAsks", spec := "moveAsks", apart := false }
def MoveAsksSaid : Prop := moveAsksRow.holds Try.pinned (OpenSpec.ofChange moveAsksSpec)

/-- ITS FALSE NEIGHBOUR: 'it returns false'. Refute it at one input. -/
def moveAsksWrong : ChangeSpec := { name := "moveAsks", fn := fun _ => fun
  | [d1, d2] => { results := [.lit (.bool false)], args := [d1, d2] }
  | _ => none }
def MoveAsksWrongFalsely : Prop := moveAsksRow.holds Try.pinned (OpenSpec.ofChange moveAsksWrong)

/-- 'lavabolaw20.MoveWays': WHATEVER THE INPUT: true; the input reads as it did. -/
def moveWaysSpec : ChangeSpec := { name := "moveWays", fn := fun _ => fun
  | [d] => { results := [.lit (.bool true)], args := [d] }
  | _ => none }
def moveWaysRow : OpenClaim := { program := "ytkammkogidakkaa", sum := "0faab35b600e63acf945e94019776d6f30d6db7b7ec32551fcac40bbf90d90e6", func := "lavabo/lavabolaw20.MoveWays", spec := "moveWays", apart := false }
def MoveWaysSaid : Prop := moveWaysRow.holds Try.pinned (OpenSpec.ofChange moveWaysSpec)

/-- ITS FALSE NEIGHBOUR: 'it returns false'. Refute it at one input. -/
def moveWaysWrong : ChangeSpec := { name := "moveWays", fn := fun _ => fun
  | [d] => { results := [.lit (.bool false)], args := [d] }
  | _ => none }
def MoveWaysWrongFalsely : Prop := moveWaysRow.holds Try.pinned (OpenSpec.ofChange moveWaysWrong)

/-- 'lavabolaw20.MoveEnds': WHATEVER THE INPUT: true; the input reads as it did. -/
def moveEndsSpec : ChangeSpec := { name := "moveEnds", fn := fun _ => fun
  | [d] => { results := [.lit (.bool true)], args := [d] }
  | _ => none }
def moveEndsRow : OpenClaim := { program := "ytkammkogidakkaa", sum := "0faab35b600e63acf945e94019776d6f30d6db7b7ec32551fcac40bbf90d90e6", func := "lavabo/lavabolaw20.MoveEnds", spec := "moveEnds", apart := false }
def MoveEndsSaid : Prop := moveEndsRow.holds Try.pinned (OpenSpec.ofChange moveEndsSpec)

/-- ITS FALSE NEIGHBOUR: 'it returns false'. Refute it at one input. -/
def moveEndsWrong : ChangeSpec := { name := "moveEnds", fn := fun _ => fun
  | [d] => { results := [.lit (.bool false)], args := [d] }
  | _ => none }
def MoveEndsWrongFalsely : Prop := moveEndsRow.holds Try.pinned (OpenSpec.ofChange moveEndsWrong)

/-- 'lavabolaw20.MoveStill': WHATEVER THE INPUT: true; the input reads as it did. -/
def moveStillSpec : ChangeSpec := { name := "moveStill", fn := fun _ => fun
  | [d1, d2, d3] => { results := [.lit (.bool true)], args := [d1, d2, d3] }
  | _ => none }
def moveStillRow : OpenClaim := { program := "ytkammkogidakkaa", sum := "0faab35b600e63acf945e94019776d6f30d6db7b7ec32551fcac40bbf90d90e6", func := "lavabo/lavabolaw20.MoveStill", spec := "moveStill", apart := false }
def MoveStillSaid : Prop := moveStillRow.holds Try.pinned (OpenSpec.ofChange moveStillSpec)

/-- ITS FALSE NEIGHBOUR: 'it returns false'. Refute it at one input. -/
def moveStillWrong : ChangeSpec := { name := "moveStill", fn := fun _ => fun
  | [d1, d2, d3] => { results := [.lit (.bool false)], args := [d1, d2, d3] }
  | _ => none }
def MoveStillWrongFalsely : Prop := moveStillRow.holds Try.pinned (OpenSpec.ofChange moveStillWrong)

/- THE SECOND FORM. 'bulk': how many values and letters a reading holds, each counted each time it is reached (what is shared counts as often as it is met; a slice's spare places count too). A statement '..UptoSaid' is the law's where the arguments, and the package variables that the reading takes, are together of bulk at most 1048576: NARROWER than '..Said'. Prove '..Said' where nothing that the law and all that it calls make is longer than what came in: it says more and counts as full. Else prove '..UptoSaid'. A law counts once. -/
mutual
def uptoBulk {H : Type} : DataW H → Nat
  | .lit (.string bytes) => bytes.length + 1
  | .lit _ => 1
  | .nil => 1
  | .ptr d => uptoBulk d + 1
  | .slice elems spare => uptoBulkAll elems + uptoBulkAll spare + 1
  | .agg parts => uptoBulkAll parts + 1
  | .iface _ d => uptoBulk d + 1
  | .map entries => uptoBulkEntries entries + 1
  | .held _ => 1
def uptoBulkAll {H : Type} : List (DataW H) → Nat
  | [] => 0
  | d :: r => uptoBulk d + uptoBulkAll r
def uptoBulkEntries {H : Type} : List (Lit × DataW H) → Nat
  | [] => 0
  | x :: r => uptoBulkEntry x + uptoBulkEntries r
def uptoBulkEntry {H : Type} : Lit × DataW H → Nat
  | (.string bytes, d) => bytes.length + uptoBulk d + 1
  | (_, d) => uptoBulk d + 1
 end
def uptoSmall : (H : Type) → List (DataW H) → Bool := fun _ ds => decide (uptoBulkAll ds ≤ 1048576)
def OpenSpec.upto (s : _root_.Go.ChangeSpec) : _root_.Go.OpenSpec := { _root_.Go.OpenSpec.ofChange s with cond := some uptoSmall }

/-- 'lavabolaw1.SumAsks', WHERE WHAT IT READS IS OF BULK AT MOST 1048576: true; the input reads as it did. -/
def sumAsksUptoRow : OpenClaim := { program := "ytkammkogidakkaa", sum := "0faab35b600e63acf945e94019776d6f30d6db7b7ec32551fcac40bbf90d90e6", func := "lavabo/lavabolaw1.SumAsks", spec := "sumAsks", apart := false, narrowed := true }
def SumAsksUptoSaid : Prop := sumAsksUptoRow.holds Try.pinned (OpenSpec.upto sumAsksSpec)

/-- 'lavabolaw1.SumParts', WHERE WHAT IT READS IS OF BULK AT MOST 1048576: true; the input reads as it did. -/
def sumPartsUptoRow : OpenClaim := { program := "ytkammkogidakkaa", sum := "0faab35b600e63acf945e94019776d6f30d6db7b7ec32551fcac40bbf90d90e6", func := "lavabo/lavabolaw1.SumParts", spec := "sumParts", apart := false, narrowed := true }
def SumPartsUptoSaid : Prop := sumPartsUptoRow.holds Try.pinned (OpenSpec.upto sumPartsSpec)

/-- 'lavabolaw1.SumTells', WHERE WHAT IT READS IS OF BULK AT MOST 1048576: true; the input reads as it did. -/
def sumTellsUptoRow : OpenClaim := { program := "ytkammkogidakkaa", sum := "0faab35b600e63acf945e94019776d6f30d6db7b7ec32551fcac40bbf90d90e6", func := "lavabo/lavabolaw1.SumTells", spec := "sumTells", apart := false, narrowed := true }
def SumTellsUptoSaid : Prop := sumTellsUptoRow.holds Try.pinned (OpenSpec.upto sumTellsSpec)

/-- 'lavabolaw1.SumTurns', WHERE WHAT IT READS IS OF BULK AT MOST 1048576: true; the input reads as it did. -/
def sumTurnsUptoRow : OpenClaim := { program := "ytkammkogidakkaa", sum := "0faab35b600e63acf945e94019776d6f30d6db7b7ec32551fcac40bbf90d90e6", func := "lavabo/lavabolaw1.SumTurns", spec := "sumTurns", apart := false, narrowed := true }
def SumTurnsUptoSaid : Prop := sumTurnsUptoRow.holds Try.pinned (OpenSpec.upto sumTurnsSpec)

/-- 'lavabolaw1.SumThrees', WHERE WHAT IT READS IS OF BULK AT MOST 1048576: true; the input reads as it did. -/
def sumThreesUptoRow : OpenClaim := { program := "ytkammkogidakkaa", sum := "0faab35b600e63acf945e94019776d6f30d6db7b7ec32551fcac40bbf90d90e6", func := "lavabo/lavabolaw1.SumThrees", spec := "sumThrees", apart := false, narrowed := true }
def SumThreesUptoSaid : Prop := sumThreesUptoRow.holds Try.pinned (OpenSpec.upto sumThreesSpec)

/-- 'lavabolaw21.TidyRounds', WHERE WHAT IT READS IS OF BULK AT MOST 1048576: true; the input reads as it did. -/
def tidyRoundsUptoRow : OpenClaim := { program := "ytkammkogidakkaa", sum := "0faab35b600e63acf945e94019776d6f30d6db7b7ec32551fcac40bbf90d90e6", func := "lavabo/lavabolaw21.TidyRounds", spec := "tidyRounds", apart := false, narrowed := true }
def TidyRoundsUptoSaid : Prop := tidyRoundsUptoRow.holds Try.pinned (OpenSpec.upto tidyRoundsSpec)

/-- 'lavabolaw20.MoveAsks', WHERE WHAT IT READS IS OF BULK AT MOST 1048576: true; the input reads as it did. -/
def moveAsksUptoRow : OpenClaim := { program := "ytkammkogidakkaa", sum := "0faab35b600e63acf945e94019776d6f30d6db7b7ec32551fcac40bbf90d90e6", func := "lavabo/lavabolaw20.MoveAsks", spec := "moveAsks", apart := false, narrowed := true }
def MoveAsksUptoSaid : Prop := moveAsksUptoRow.holds Try.pinned (OpenSpec.upto moveAsksSpec)

/-- 'lavabolaw20.MoveWays', WHERE WHAT IT READS IS OF BULK AT MOST 1048576: true; the input reads as it did. -/
def moveWaysUptoRow : OpenClaim := { program := "ytkammkogidakkaa", sum := "0faab35b600e63acf945e94019776d6f30d6db7b7ec32551fcac40bbf90d90e6", func := "lavabo/lavabolaw20.MoveWays", spec := "moveWays", apart := false, narrowed := true }
def MoveWaysUptoSaid : Prop := moveWaysUptoRow.holds Try.pinned (OpenSpec.upto moveWaysSpec)

/-- 'lavabolaw20.MoveEnds', WHERE WHAT IT READS IS OF BULK AT MOST 1048576: true; the input reads as it did. -/
def moveEndsUptoRow : OpenClaim := { program := "ytkammkogidakkaa", sum := "0faab35b600e63acf945e94019776d6f30d6db7b7ec32551fcac40bbf90d90e6", func := "lavabo/lavabolaw20.MoveEnds", spec := "moveEnds", apart := false, narrowed := true }
def MoveEndsUptoSaid : Prop := moveEndsUptoRow.holds Try.pinned (OpenSpec.upto moveEndsSpec)

/-- 'lavabolaw20.MoveStill', WHERE WHAT IT READS IS OF BULK AT MOST 1048576: true; the input reads as it did. -/
def moveStillUptoRow : OpenClaim := { program := "ytkammkogidakkaa", sum := "0faab35b600e63acf945e94019776d6f30d6db7b7ec32551fcac40bbf90d90e6", func := "lavabo/lavabolaw20.MoveStill", spec := "moveStill", apart := false, narrowed := true }
def MoveStillUptoSaid : Prop := moveStillUptoRow.holds Try.pinned (OpenSpec.upto moveStillSpec)

end Rows
end Go.Proofs.Ytkammkogidakkaa
