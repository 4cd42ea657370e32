/-
  No cell of these rows narrows 'for every input' (looked for: loops, veiled, ifaces, maps, wideKeys, modest, calm, conditions, laid).
  DERIVED. THE GIVEN ROWS OF THIS SEAT. 8 by the template 'for every input the law returns true; each argument reads behind the call as it read before'; 0 by the template 'total and deterministic' (their statements: YtdeehmncnfdmkaaTotals.lean).
  GIVEN WITH THE SEED: the statements are not yours to turn. If you find one false, say at which input.
  Laid BY PROGRAM, IN A SANDBOX (cutbox-rows.mjs): the forced cells as the released guide's own fill.sh prints them over the translation 1a6f5c1716d687f3… (all of the seat's roots in one cut). By AI agents, Wed Nov 11 2026. No macro, syntax, notation, axiom, sorry.
-/
import Derived.Test.YtdeehmncnfdmkaaChecked
import GoSem.Claim
import GoSem.ClaimJoined
import GoSem.ClaimMapViews
import Derived.JoinedTies
import Derived.KernelRfl
namespace Go.Proofs.Ytdeehmncnfdmkaa
/- THE CELL 'sum', in the pinned program and in every row, IS THE sha256 OF THE DUMP (.gsa) THAT YtdeehmncnfdmkaaProg.lean LOADS. Nothing in Lean hashes anything: it is a label: what it is worth is what the hold of that sum in a sandbox is worth. -/
noncomputable def Try.pinned : Pinned := { name := "ytdeehmncnfdmkaa", sum := "1a6f5c1716d687f30519a5b204566ae1dc71b2f91567351fcf9006ae3f6e62a2", checked := Try.checked }
namespace Rows
def none {H : Type} : Left H := { results := [], args := [] }

/-- 'lavabolaw19.DirOwn': WHATEVER THE INPUT: true; the input reads as it did. -/
def dirOwnSpec : ChangeSpec := { name := "dirOwn", fn := fun _ => fun
  | [d1, d2, d3] => { results := [.lit (.bool true)], args := [d1, d2, d3] }
  | _ => none }
def dirOwnRow : OpenClaim := { program := "ytdeehmncnfdmkaa", sum := "1a6f5c1716d687f30519a5b204566ae1dc71b2f91567351fcf9006ae3f6e62a2", func := "lavabo/lavabolaw19.DirOwn", spec := "dirOwn", apart := false }
def DirOwnSaid : Prop := dirOwnRow.holds Try.pinned (OpenSpec.ofChange dirOwnSpec)

/-- ITS FALSE NEIGHBOUR: 'it returns false'. Refute it at one input. -/
def dirOwnWrong : ChangeSpec := { name := "dirOwn", fn := fun _ => fun
  | [d1, d2, d3] => { results := [.lit (.bool false)], args := [d1, d2, d3] }
  | _ => none }
def DirOwnWrongFalsely : Prop := dirOwnRow.holds Try.pinned (OpenSpec.ofChange dirOwnWrong)

/-- 'lavabolaw19.DirMoves': WHATEVER THE INPUT: true; the input reads as it did. -/
def dirMovesSpec : ChangeSpec := { name := "dirMoves", fn := fun _ => fun
  | [d1, d2, d3] => { results := [.lit (.bool true)], args := [d1, d2, d3] }
  | _ => none }
def dirMovesRow : OpenClaim := { program := "ytdeehmncnfdmkaa", sum := "1a6f5c1716d687f30519a5b204566ae1dc71b2f91567351fcf9006ae3f6e62a2", func := "lavabo/lavabolaw19.DirMoves", spec := "dirMoves", apart := false }
def DirMovesSaid : Prop := dirMovesRow.holds Try.pinned (OpenSpec.ofChange dirMovesSpec)

/-- ITS FALSE NEIGHBOUR: 'it returns false'. Refute it at one input. -/
def dirMovesWrong : ChangeSpec := { name := "dirMoves", fn := fun _ => fun
  | [d1, d2, d3] => { results := [.lit (.bool false)], args := [d1, d2, d3] }
  | _ => none }
def DirMovesWrongFalsely : Prop := dirMovesRow.holds Try.pinned (OpenSpec.ofChange dirMovesWrong)

/-- 'lavabolaw19.DirBuckets': WHATEVER THE INPUT: true; the input reads as it did. -/
def dirBucketsSpec : ChangeSpec := { name := "dirBuckets", fn := fun _ => fun
  | [d] => { results := [.lit (.bool true)], args := [d] }
  | _ => none }
def dirBucketsRow : OpenClaim := { program := "ytdeehmncnfdmkaa", sum := "1a6f5c1716d687f30519a5b204566ae1dc71b2f91567351fcf9006ae3f6e62a2", func := "lavabo/lavabolaw19.DirBuckets", spec := "dirBuckets", apart := false }
def DirBucketsSaid : Prop := dirBucketsRow.holds Try.pinned (OpenSpec.ofChange dirBucketsSpec)

/-- ITS FALSE NEIGHBOUR: 'it returns false'. Refute it at one input. -/
def dirBucketsWrong : ChangeSpec := { name := "dirBuckets", fn := fun _ => fun
  | [d] => { results := [.lit (.bool false)], args := [d] }
  | _ => none }
def DirBucketsWrongFalsely : Prop := dirBucketsRow.holds Try.pinned (OpenSpec.ofChange dirBucketsWrong)

/-- 'lavabolaw19.DirStops': WHATEVER THE INPUT: true; the input reads as it did. -/
def dirStopsSpec : ChangeSpec := { name := "dirStops", fn := fun _ => fun
  | [d1, d2, d3, d4, d5] => { results := [.lit (.bool true)], args := [d1, d2, d3, d4, d5] }
  | _ => none }
def dirStopsRow : OpenClaim := { program := "ytdeehmncnfdmkaa", sum := "1a6f5c1716d687f30519a5b204566ae1dc71b2f91567351fcf9006ae3f6e62a2", func := "lavabo/lavabolaw19.DirStops", spec := "dirStops", apart := false }
def DirStopsSaid : Prop := dirStopsRow.holds Try.pinned (OpenSpec.ofChange dirStopsSpec)

/-- ITS FALSE NEIGHBOUR: 'it returns false'. Refute it at one input. -/
def dirStopsWrong : ChangeSpec := { name := "dirStops", fn := fun _ => fun
  | [d1, d2, d3, d4, d5] => { results := [.lit (.bool false)], args := [d1, d2, d3, d4, d5] }
  | _ => none }
def DirStopsWrongFalsely : Prop := dirStopsRow.holds Try.pinned (OpenSpec.ofChange dirStopsWrong)

/-- 'lavabolaw15.ScriptAsks': WHATEVER THE INPUT: true; the input reads as it did. -/
def scriptAsksSpec : ChangeSpec := { name := "scriptAsks", fn := fun _ => fun
  | [d1, d2, d3, d4, d5] => { results := [.lit (.bool true)], args := [d1, d2, d3, d4, d5] }
  | _ => none }
def scriptAsksRow : OpenClaim := { program := "ytdeehmncnfdmkaa", sum := "1a6f5c1716d687f30519a5b204566ae1dc71b2f91567351fcf9006ae3f6e62a2", func := "lavabo/lavabolaw15.ScriptAsks", spec := "scriptAsks", inPlace := ["internal/bytealg.MakeNoZero"], apart := false }
def ScriptAsksSaid : Prop := scriptAsksRow.holds Try.pinned (OpenSpec.ofChange scriptAsksSpec)

/-- ITS FALSE NEIGHBOUR: 'it returns false'. Refute it at one input. -/
def scriptAsksWrong : ChangeSpec := { name := "scriptAsks", fn := fun _ => fun
  | [d1, d2, d3, d4, d5] => { results := [.lit (.bool false)], args := [d1, d2, d3, d4, d5] }
  | _ => none }
def ScriptAsksWrongFalsely : Prop := scriptAsksRow.holds Try.pinned (OpenSpec.ofChange scriptAsksWrong)

/-- 'lavabolaw15.ScriptMay': WHATEVER THE INPUT: true; the input reads as it did. -/
def scriptMaySpec : ChangeSpec := { name := "scriptMay", fn := fun _ => fun
  | [d1, d2] => { results := [.lit (.bool true)], args := [d1, d2] }
  | _ => none }
def scriptMayRow : OpenClaim := { program := "ytdeehmncnfdmkaa", sum := "1a6f5c1716d687f30519a5b204566ae1dc71b2f91567351fcf9006ae3f6e62a2", func := "lavabo/lavabolaw15.ScriptMay", spec := "scriptMay", inPlace := ["internal/bytealg.MakeNoZero"], apart := false }
def ScriptMaySaid : Prop := scriptMayRow.holds Try.pinned (OpenSpec.ofChange scriptMaySpec)

/-- ITS FALSE NEIGHBOUR: 'it returns false'. Refute it at one input. -/
def scriptMayWrong : ChangeSpec := { name := "scriptMay", fn := fun _ => fun
  | [d1, d2] => { results := [.lit (.bool false)], args := [d1, d2] }
  | _ => none }
def ScriptMayWrongFalsely : Prop := scriptMayRow.holds Try.pinned (OpenSpec.ofChange scriptMayWrong)

/-- 'lavabolaw15.ScriptParts': WHATEVER THE INPUT: true; the input reads as it did. -/
def scriptPartsSpec : ChangeSpec := { name := "scriptParts", fn := fun _ => fun
  | [d1, d2, d3] => { results := [.lit (.bool true)], args := [d1, d2, d3] }
  | _ => none }
def scriptPartsRow : OpenClaim := { program := "ytdeehmncnfdmkaa", sum := "1a6f5c1716d687f30519a5b204566ae1dc71b2f91567351fcf9006ae3f6e62a2", func := "lavabo/lavabolaw15.ScriptParts", spec := "scriptParts", inPlace := ["internal/bytealg.MakeNoZero"], apart := false }
def ScriptPartsSaid : Prop := scriptPartsRow.holds Try.pinned (OpenSpec.ofChange scriptPartsSpec)

/-- ITS FALSE NEIGHBOUR: 'it returns false'. Refute it at one input. -/
def scriptPartsWrong : ChangeSpec := { name := "scriptParts", fn := fun _ => fun
  | [d1, d2, d3] => { results := [.lit (.bool false)], args := [d1, d2, d3] }
  | _ => none }
def ScriptPartsWrongFalsely : Prop := scriptPartsRow.holds Try.pinned (OpenSpec.ofChange scriptPartsWrong)

/-- 'lavabolaw15.ScriptOps': WHATEVER THE INPUT: true; the input reads as it did. -/
def scriptOpsSpec : ChangeSpec := { name := "scriptOps", fn := fun _ => fun
  | [d1, d2, d3, d4, d5] => { results := [.lit (.bool true)], args := [d1, d2, d3, d4, d5] }
  | _ => none }
def scriptOpsRow : OpenClaim := { program := "ytdeehmncnfdmkaa", sum := "1a6f5c1716d687f30519a5b204566ae1dc71b2f91567351fcf9006ae3f6e62a2", func := "lavabo/lavabolaw15.ScriptOps", spec := "scriptOps", inPlace := ["internal/bytealg.MakeNoZero"], apart := false }
def ScriptOpsSaid : Prop := scriptOpsRow.holds Try.pinned (OpenSpec.ofChange scriptOpsSpec)

/-- ITS FALSE NEIGHBOUR: 'it returns false'. Refute it at one input. -/
def scriptOpsWrong : ChangeSpec := { name := "scriptOps", fn := fun _ => fun
  | [d1, d2, d3, d4, d5] => { results := [.lit (.bool false)], args := [d1, d2, d3, d4, d5] }
  | _ => none }
def ScriptOpsWrongFalsely : Prop := scriptOpsRow.holds Try.pinned (OpenSpec.ofChange scriptOpsWrong)

/- THE SECOND FORM. 'bulk': how many values and letters a reading holds, each counted each time it is reached (what is shared counts as often as it is met; a slice's spare places count too). A statement '..UptoSaid' is the law's where the arguments, and the package variables that the reading takes, are together of bulk at most 1048576: NARROWER than '..Said'. Prove '..Said' where nothing that the law and all that it calls make is longer than what came in: it says more and counts as full. Else prove '..UptoSaid'. A law counts once. -/
mutual
def uptoBulk {H : Type} : DataW H → Nat
  | .lit (.string bytes) => bytes.length + 1
  | .lit _ => 1
  | .nil => 1
  | .ptr d => uptoBulk d + 1
  | .slice elems spare => uptoBulkAll elems + uptoBulkAll spare + 1
  | .agg parts => uptoBulkAll parts + 1
  | .iface _ d => uptoBulk d + 1
  | .map entries => uptoBulkEntries entries + 1
  | .held _ => 1
def uptoBulkAll {H : Type} : List (DataW H) → Nat
  | [] => 0
  | d :: r => uptoBulk d + uptoBulkAll r
def uptoBulkEntries {H : Type} : List (Lit × DataW H) → Nat
  | [] => 0
  | x :: r => uptoBulkEntry x + uptoBulkEntries r
def uptoBulkEntry {H : Type} : Lit × DataW H → Nat
  | (.string bytes, d) => bytes.length + uptoBulk d + 1
  | (_, d) => uptoBulk d + 1
 end
def uptoSmall : (H : Type) → List (DataW H) → Bool := fun _ ds => decide (uptoBulkAll ds ≤ 1048576)
def OpenSpec.upto (s : _root_.Go.ChangeSpec) : _root_.Go.OpenSpec := { _root_.Go.OpenSpec.ofChange s with cond := some uptoSmall }

/-- 'lavabolaw19.DirOwn', WHERE WHAT IT READS IS OF BULK AT MOST 1048576: true; the input reads as it did. -/
def dirOwnUptoRow : OpenClaim := { program := "ytdeehmncnfdmkaa", sum := "1a6f5c1716d687f30519a5b204566ae1dc71b2f91567351fcf9006ae3f6e62a2", func := "lavabo/lavabolaw19.DirOwn", spec := "dirOwn", apart := false, narrowed := true }
def DirOwnUptoSaid : Prop := dirOwnUptoRow.holds Try.pinned (OpenSpec.upto dirOwnSpec)

/-- 'lavabolaw19.DirMoves', WHERE WHAT IT READS IS OF BULK AT MOST 1048576: true; the input reads as it did. -/
def dirMovesUptoRow : OpenClaim := { program := "ytdeehmncnfdmkaa", sum := "1a6f5c1716d687f30519a5b204566ae1dc71b2f91567351fcf9006ae3f6e62a2", func := "lavabo/lavabolaw19.DirMoves", spec := "dirMoves", apart := false, narrowed := true }
def DirMovesUptoSaid : Prop := dirMovesUptoRow.holds Try.pinned (OpenSpec.upto dirMovesSpec)

/-- 'lavabolaw19.DirBuckets', WHERE WHAT IT READS IS OF BULK AT MOST 1048576: true; the input reads as it did. -/
def dirBucketsUptoRow : OpenClaim := { program := "ytdeehmncnfdmkaa", sum := "1a6f5c1716d687f30519a5b204566ae1dc71b2f91567351fcf9006ae3f6e62a2", func := "lavabo/lavabolaw19.DirBuckets", spec := "dirBuckets", apart := false, narrowed := true }
def DirBucketsUptoSaid : Prop := dirBucketsUptoRow.holds Try.pinned (OpenSpec.upto dirBucketsSpec)

/-- 'lavabolaw19.DirStops', WHERE WHAT IT READS IS OF BULK AT MOST 1048576: true; the input reads as it did. -/
def dirStopsUptoRow : OpenClaim := { program := "ytdeehmncnfdmkaa", sum := "1a6f5c1716d687f30519a5b204566ae1dc71b2f91567351fcf9006ae3f6e62a2", func := "lavabo/lavabolaw19.DirStops", spec := "dirStops", apart := false, narrowed := true }
def DirStopsUptoSaid : Prop := dirStopsUptoRow.holds Try.pinned (OpenSpec.upto dirStopsSpec)

/-- 'lavabolaw15.ScriptAsks', WHERE WHAT IT READS IS OF BULK AT MOST 1048576: true; the input reads as it did. -/
def scriptAsksUptoRow : OpenClaim := { program := "ytdeehmncnfdmkaa", sum := "1a6f5c1716d687f30519a5b204566ae1dc71b2f91567351fcf9006ae3f6e62a2", func := "lavabo/lavabolaw15.ScriptAsks", spec := "scriptAsks", inPlace := ["internal/bytealg.MakeNoZero"], apart := false, narrowed := true }
def ScriptAsksUptoSaid : Prop := scriptAsksUptoRow.holds Try.pinned (OpenSpec.upto scriptAsksSpec)

/-- 'lavabolaw15.ScriptMay', WHERE WHAT IT READS IS OF BULK AT MOST 1048576: true; the input reads as it did. -/
def scriptMayUptoRow : OpenClaim := { program := "ytdeehmncnfdmkaa", sum := "1a6f5c1716d687f30519a5b204566ae1dc71b2f91567351fcf9006ae3f6e62a2", func := "lavabo/lavabolaw15.ScriptMay", spec := "scriptMay", inPlace := ["internal/bytealg.MakeNoZero"], apart := false, narrowed := true }
def ScriptMayUptoSaid : Prop := scriptMayUptoRow.holds Try.pinned (OpenSpec.upto scriptMaySpec)

/-- 'lavabolaw15.ScriptParts', WHERE WHAT IT READS IS OF BULK AT MOST 1048576: true; the input reads as it did. -/
def scriptPartsUptoRow : OpenClaim := { program := "ytdeehmncnfdmkaa", sum := "1a6f5c1716d687f30519a5b204566ae1dc71b2f91567351fcf9006ae3f6e62a2", func := "lavabo/lavabolaw15.ScriptParts", spec := "scriptParts", inPlace := ["internal/bytealg.MakeNoZero"], apart := false, narrowed := true }
def ScriptPartsUptoSaid : Prop := scriptPartsUptoRow.holds Try.pinned (OpenSpec.upto scriptPartsSpec)

/-- 'lavabolaw15.ScriptOps', WHERE WHAT IT READS IS OF BULK AT MOST 1048576: true; the input reads as it did. -/
def scriptOpsUptoRow : OpenClaim := { program := "ytdeehmncnfdmkaa", sum := "1a6f5c1716d687f30519a5b204566ae1dc71b2f91567351fcf9006ae3f6e62a2", func := "lavabo/lavabolaw15.ScriptOps", spec := "scriptOps", inPlace := ["internal/bytealg.MakeNoZero"], apart := false, narrowed := true }
def ScriptOpsUptoSaid : Prop := scriptOpsUptoRow.holds Try.pinned (OpenSpec.upto scriptOpsSpec)

end Rows
end Go.Proofs.Ytdeehmncnfdmkaa
