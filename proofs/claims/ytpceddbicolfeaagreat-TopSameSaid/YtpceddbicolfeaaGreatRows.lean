/-
  No cell of these rows narrows 'for every input' (looked for: loops, veiled, ifaces, maps, wideKeys, modest, calm, conditions, laid).
  DERIVED. THE GIVEN ROWS OF THIS SEAT. 5 by the template 'for every input the law returns true; each argument reads behind the call as it read before'; 0 by the template 'total and deterministic' (their statements: YtpceddbicolfeaaGreatTotals.lean).
  GIVEN WITH THE SEED: the statements are not yours to turn. If you find one false, say at which input.
  Laid BY PROGRAM, IN A SANDBOX (cutbox-rows.mjs): the forced cells as the released guide's own fill.sh prints them over the translation c58f2d10b04047f2… (all of the seat's roots in one cut). By AI agents, Wed Nov 11 2026. No macro, syntax, notation, axiom, sorry.
-/
import Derived.Test.YtpceddbicolfeaaGreatChecked
import GoSem.Claim
import GoSem.ClaimJoined
import GoSem.ClaimMapViews
import Derived.JoinedTies
import Derived.KernelRfl
namespace Go.Proofs.YtpceddbicolfeaaGreat
/- THE CELL 'sum', in the pinned program and in every row, IS THE sha256 OF THE DUMP (.gsa) THAT YtpceddbicolfeaaGreatProg.lean LOADS. Nothing in Lean hashes anything: it is a label: what it is worth is what the hold of that sum in a sandbox is worth. -/
noncomputable def Tryz.pinned : Pinned := { name := "ytpceddbicolfeaagreat", sum := "c58f2d10b04047f22428288d0ce2761734f4f7a657a08ca60567d0cb4c78d852", checked := Tryz.checked }
namespace Rows
def none {H : Type} : Left H := { results := [], args := [] }

/-- 'lavabotop.TopFlushed': WHATEVER THE INPUT: true; the input reads as it did. -/
def topFlushedSpec : ChangeSpec := { name := "topFlushed", fn := fun _ => fun
  | [d1, d2, d3] => { results := [.lit (.bool true)], args := [d1, d2, d3] }
  | _ => none }
def topFlushedRow : OpenClaim := { program := "ytpceddbicolfeaagreat", sum := "c58f2d10b04047f22428288d0ce2761734f4f7a657a08ca60567d0cb4c78d852", func := "lavabo/lavabotop.TopFlushed", spec := "topFlushed", inPlace := ["slices.overlaps[int]"], unfollowed := true, recurses := true, apart := false }
def TopFlushedSaid : Prop := topFlushedRow.holds Tryz.pinned (OpenSpec.ofChange topFlushedSpec)

/-- ITS FALSE NEIGHBOUR: 'it returns false'. Refute it at one input. -/
def topFlushedWrong : ChangeSpec := { name := "topFlushed", fn := fun _ => fun
  | [d1, d2, d3] => { results := [.lit (.bool false)], args := [d1, d2, d3] }
  | _ => none }
def TopFlushedWrongFalsely : Prop := topFlushedRow.holds Tryz.pinned (OpenSpec.ofChange topFlushedWrong)

/-- 'lavabotop.TopSteals': WHATEVER THE INPUT: true; the input reads as it did. -/
def topStealsSpec : ChangeSpec := { name := "topSteals", fn := fun _ => fun
  | [d] => { results := [.lit (.bool true)], args := [d] }
  | _ => none }
def topStealsRow : OpenClaim := { program := "ytpceddbicolfeaagreat", sum := "c58f2d10b04047f22428288d0ce2761734f4f7a657a08ca60567d0cb4c78d852", func := "lavabo/lavabotop.TopSteals", spec := "topSteals", inPlace := ["slices.overlaps[int]"], unfollowed := true, recurses := true, apart := false }
def TopStealsSaid : Prop := topStealsRow.holds Tryz.pinned (OpenSpec.ofChange topStealsSpec)

/-- ITS FALSE NEIGHBOUR: 'it returns false'. Refute it at one input. -/
def topStealsWrong : ChangeSpec := { name := "topSteals", fn := fun _ => fun
  | [d] => { results := [.lit (.bool false)], args := [d] }
  | _ => none }
def TopStealsWrongFalsely : Prop := topStealsRow.holds Tryz.pinned (OpenSpec.ofChange topStealsWrong)

/-- 'lavabotop.TopReads': WHATEVER THE INPUT: true; the input reads as it did. -/
def topReadsSpec : ChangeSpec := { name := "topReads", fn := fun _ => fun
  | [d1, d2] => { results := [.lit (.bool true)], args := [d1, d2] }
  | _ => none }
def topReadsRow : OpenClaim := { program := "ytpceddbicolfeaagreat", sum := "c58f2d10b04047f22428288d0ce2761734f4f7a657a08ca60567d0cb4c78d852", func := "lavabo/lavabotop.TopReads", spec := "topReads", inPlace := ["slices.overlaps[int]"], unfollowed := true, recurses := true, apart := false }
def TopReadsSaid : Prop := topReadsRow.holds Tryz.pinned (OpenSpec.ofChange topReadsSpec)

/-- ITS FALSE NEIGHBOUR: 'it returns false'. Refute it at one input. -/
def topReadsWrong : ChangeSpec := { name := "topReads", fn := fun _ => fun
  | [d1, d2] => { results := [.lit (.bool false)], args := [d1, d2] }
  | _ => none }
def TopReadsWrongFalsely : Prop := topReadsRow.holds Tryz.pinned (OpenSpec.ofChange topReadsWrong)

/-- 'lavabotop.TopSame': WHATEVER THE INPUT: true; the input reads as it did. -/
def topSameSpec : ChangeSpec := { name := "topSame", fn := fun _ => fun
  | [d] => { results := [.lit (.bool true)], args := [d] }
  | _ => none }
def topSameRow : OpenClaim := { program := "ytpceddbicolfeaagreat", sum := "c58f2d10b04047f22428288d0ce2761734f4f7a657a08ca60567d0cb4c78d852", func := "lavabo/lavabotop.TopSame", spec := "topSame", inPlace := ["slices.overlaps[int]"], unfollowed := true, recurses := true, apart := false }
def TopSameSaid : Prop := topSameRow.holds Tryz.pinned (OpenSpec.ofChange topSameSpec)

/-- ITS FALSE NEIGHBOUR: 'it returns false'. Refute it at one input. -/
def topSameWrong : ChangeSpec := { name := "topSame", fn := fun _ => fun
  | [d] => { results := [.lit (.bool false)], args := [d] }
  | _ => none }
def TopSameWrongFalsely : Prop := topSameRow.holds Tryz.pinned (OpenSpec.ofChange topSameWrong)

/-- 'lavabotop.TopTorn': WHATEVER THE INPUT: true; the input reads as it did. -/
def topTornSpec : ChangeSpec := { name := "topTorn", fn := fun _ => fun
  | [d1, d2, d3] => { results := [.lit (.bool true)], args := [d1, d2, d3] }
  | _ => none }
def topTornRow : OpenClaim := { program := "ytpceddbicolfeaagreat", sum := "c58f2d10b04047f22428288d0ce2761734f4f7a657a08ca60567d0cb4c78d852", func := "lavabo/lavabotop.TopTorn", spec := "topTorn", inPlace := ["slices.overlaps[int]"], unfollowed := true, recurses := true, apart := false }
def TopTornSaid : Prop := topTornRow.holds Tryz.pinned (OpenSpec.ofChange topTornSpec)

/-- ITS FALSE NEIGHBOUR: 'it returns false'. Refute it at one input. -/
def topTornWrong : ChangeSpec := { name := "topTorn", fn := fun _ => fun
  | [d1, d2, d3] => { results := [.lit (.bool false)], args := [d1, d2, d3] }
  | _ => none }
def TopTornWrongFalsely : Prop := topTornRow.holds Tryz.pinned (OpenSpec.ofChange topTornWrong)

/- THE SECOND FORM. 'bulk': how many values and letters a reading holds, each counted each time it is reached (what is shared counts as often as it is met; a slice's spare places count too). A statement '..UptoSaid' is the law's where the arguments, and the package variables that the reading takes, are together of bulk at most 1048576: NARROWER than '..Said'. Prove '..Said' where nothing that the law and all that it calls make is longer than what came in: it says more and counts as full. Else prove '..UptoSaid'. A law counts once. -/
mutual
def uptoBulk {H : Type} : DataW H → Nat
  | .lit (.string bytes) => bytes.length + 1
  | .lit _ => 1
  | .nil => 1
  | .ptr d => uptoBulk d + 1
  | .slice elems spare => uptoBulkAll elems + uptoBulkAll spare + 1
  | .agg parts => uptoBulkAll parts + 1
  | .iface _ d => uptoBulk d + 1
  | .map entries => uptoBulkEntries entries + 1
  | .held _ => 1
def uptoBulkAll {H : Type} : List (DataW H) → Nat
  | [] => 0
  | d :: r => uptoBulk d + uptoBulkAll r
def uptoBulkEntries {H : Type} : List (Lit × DataW H) → Nat
  | [] => 0
  | x :: r => uptoBulkEntry x + uptoBulkEntries r
def uptoBulkEntry {H : Type} : Lit × DataW H → Nat
  | (.string bytes, d) => bytes.length + uptoBulk d + 1
  | (_, d) => uptoBulk d + 1
 end
def uptoSmall : (H : Type) → List (DataW H) → Bool := fun _ ds => decide (uptoBulkAll ds ≤ 1048576)
def OpenSpec.upto (s : _root_.Go.ChangeSpec) : _root_.Go.OpenSpec := { _root_.Go.OpenSpec.ofChange s with cond := some uptoSmall }

/-- 'lavabotop.TopFlushed', WHERE WHAT IT READS IS OF BULK AT MOST 1048576: true; the input reads as it did. -/
def topFlushedUptoRow : OpenClaim := { program := "ytpceddbicolfeaagreat", sum := "c58f2d10b04047f22428288d0ce2761734f4f7a657a08ca60567d0cb4c78d852", func := "lavabo/lavabotop.TopFlushed", spec := "topFlushed", inPlace := ["slices.overlaps[int]"], unfollowed := true, recurses := true, apart := false, narrowed := true }
def TopFlushedUptoSaid : Prop := topFlushedUptoRow.holds Tryz.pinned (OpenSpec.upto topFlushedSpec)

/-- 'lavabotop.TopSteals', WHERE WHAT IT READS IS OF BULK AT MOST 1048576: true; the input reads as it did. -/
def topStealsUptoRow : OpenClaim := { program := "ytpceddbicolfeaagreat", sum := "c58f2d10b04047f22428288d0ce2761734f4f7a657a08ca60567d0cb4c78d852", func := "lavabo/lavabotop.TopSteals", spec := "topSteals", inPlace := ["slices.overlaps[int]"], unfollowed := true, recurses := true, apart := false, narrowed := true }
def TopStealsUptoSaid : Prop := topStealsUptoRow.holds Tryz.pinned (OpenSpec.upto topStealsSpec)

/-- 'lavabotop.TopReads', WHERE WHAT IT READS IS OF BULK AT MOST 1048576: true; the input reads as it did. -/
def topReadsUptoRow : OpenClaim := { program := "ytpceddbicolfeaagreat", sum := "c58f2d10b04047f22428288d0ce2761734f4f7a657a08ca60567d0cb4c78d852", func := "lavabo/lavabotop.TopReads", spec := "topReads", inPlace := ["slices.overlaps[int]"], unfollowed := true, recurses := true, apart := false, narrowed := true }
def TopReadsUptoSaid : Prop := topReadsUptoRow.holds Tryz.pinned (OpenSpec.upto topReadsSpec)

/-- 'lavabotop.TopSame', WHERE WHAT IT READS IS OF BULK AT MOST 1048576: true; the input reads as it did. -/
def topSameUptoRow : OpenClaim := { program := "ytpceddbicolfeaagreat", sum := "c58f2d10b04047f22428288d0ce2761734f4f7a657a08ca60567d0cb4c78d852", func := "lavabo/lavabotop.TopSame", spec := "topSame", inPlace := ["slices.overlaps[int]"], unfollowed := true, recurses := true, apart := false, narrowed := true }
def TopSameUptoSaid : Prop := topSameUptoRow.holds Tryz.pinned (OpenSpec.upto topSameSpec)

/-- 'lavabotop.TopTorn', WHERE WHAT IT READS IS OF BULK AT MOST 1048576: true; the input reads as it did. -/
def topTornUptoRow : OpenClaim := { program := "ytpceddbicolfeaagreat", sum := "c58f2d10b04047f22428288d0ce2761734f4f7a657a08ca60567d0cb4c78d852", func := "lavabo/lavabotop.TopTorn", spec := "topTorn", inPlace := ["slices.overlaps[int]"], unfollowed := true, recurses := true, apart := false, narrowed := true }
def TopTornUptoSaid : Prop := topTornUptoRow.holds Tryz.pinned (OpenSpec.upto topTornSpec)

end Rows
end Go.Proofs.YtpceddbicolfeaaGreat
