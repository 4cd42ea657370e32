/-
  No cell of these rows narrows 'for every input' (looked for: loops, veiled, ifaces, maps, wideKeys, modest, calm, conditions, laid).
  DERIVED. THE GIVEN ROWS OF THIS SEAT. 9 by the template 'for every input the law returns true; each argument reads behind the call as it read before'; 0 by the template 'total and deterministic' (their statements: YtdjdodcihffemaaTotals.lean).
  GIVEN WITH THE SEED: the statements are not yours to turn. If you find one false, say at which input.
  Laid BY PROGRAM, IN A SANDBOX (cutbox-rows.mjs): the forced cells as the released guide's own fill.sh prints them over the translation d532c9d01b691eb1… (all of the seat's roots in one cut). By AI agents, Wed Nov 11 2026. No macro, syntax, notation, axiom, sorry.
-/
import Derived.Test.YtdjdodcihffemaaChecked
import GoSem.Claim
import GoSem.ClaimJoined
import GoSem.ClaimMapViews
import Derived.JoinedTies
import Derived.KernelRfl
namespace Go.Proofs.Ytdjdodcihffemaa
/- THE CELL 'sum', in the pinned program and in every row, IS THE sha256 OF THE DUMP (.gsa) THAT YtdjdodcihffemaaProg.lean LOADS. Nothing in Lean hashes anything: it is a label: what it is worth is what the hold of that sum in a sandbox is worth. -/
noncomputable def Try.pinned : Pinned := { name := "ytdjdodcihffemaa", sum := "d532c9d01b691eb1c10adc54d1c8e2732c32011b1be778ee0a7272aa4da434aa", checked := Try.checked }
namespace Rows
def none {H : Type} : Left H := { results := [], args := [] }

/-- 'lavabolaw8.RingForgets': WHATEVER THE INPUT: true; the input reads as it did. -/
def ringForgetsSpec : ChangeSpec := { name := "ringForgets", fn := fun _ => fun
  | [d1, d2] => { results := [.lit (.bool true)], args := [d1, d2] }
  | _ => none }
def ringForgetsRow : OpenClaim := { program := "ytdjdodcihffemaa", sum := "d532c9d01b691eb1c10adc54d1c8e2732c32011b1be778ee0a7272aa4da434aa", func := "lavabo/lavabolaw8.RingForgets", spec := "ringForgets", apart := false }
def RingForgetsSaid : Prop := ringForgetsRow.holds Try.pinned (OpenSpec.ofChange ringForgetsSpec)

/-- ITS FALSE NEIGHBOUR: 'it returns false'. Refute it at one input. -/
def ringForgetsWrong : ChangeSpec := { name := "ringForgets", fn := fun _ => fun
  | [d1, d2] => { results := [.lit (.bool false)], args := [d1, d2] }
  | _ => none }
def RingForgetsWrongFalsely : Prop := ringForgetsRow.holds Try.pinned (OpenSpec.ofChange ringForgetsWrong)

/-- 'lavabolaw8.RingPlays': WHATEVER THE INPUT: true; the input reads as it did. -/
def ringPlaysSpec : ChangeSpec := { name := "ringPlays", fn := fun _ => fun
  | [d] => { results := [.lit (.bool true)], args := [d] }
  | _ => none }
def ringPlaysRow : OpenClaim := { program := "ytdjdodcihffemaa", sum := "d532c9d01b691eb1c10adc54d1c8e2732c32011b1be778ee0a7272aa4da434aa", func := "lavabo/lavabolaw8.RingPlays", spec := "ringPlays", apart := false }
def RingPlaysSaid : Prop := ringPlaysRow.holds Try.pinned (OpenSpec.ofChange ringPlaysSpec)

/-- ITS FALSE NEIGHBOUR: 'it returns false'. Refute it at one input. -/
def ringPlaysWrong : ChangeSpec := { name := "ringPlays", fn := fun _ => fun
  | [d] => { results := [.lit (.bool false)], args := [d] }
  | _ => none }
def RingPlaysWrongFalsely : Prop := ringPlaysRow.holds Try.pinned (OpenSpec.ofChange ringPlaysWrong)

/-- 'lavabolaw8.RingHands': WHATEVER THE INPUT: true; the input reads as it did. -/
def ringHandsSpec : ChangeSpec := { name := "ringHands", fn := fun _ => fun
  | [d] => { results := [.lit (.bool true)], args := [d] }
  | _ => none }
def ringHandsRow : OpenClaim := { program := "ytdjdodcihffemaa", sum := "d532c9d01b691eb1c10adc54d1c8e2732c32011b1be778ee0a7272aa4da434aa", func := "lavabo/lavabolaw8.RingHands", spec := "ringHands", apart := false }
def RingHandsSaid : Prop := ringHandsRow.holds Try.pinned (OpenSpec.ofChange ringHandsSpec)

/-- ITS FALSE NEIGHBOUR: 'it returns false'. Refute it at one input. -/
def ringHandsWrong : ChangeSpec := { name := "ringHands", fn := fun _ => fun
  | [d] => { results := [.lit (.bool false)], args := [d] }
  | _ => none }
def RingHandsWrongFalsely : Prop := ringHandsRow.holds Try.pinned (OpenSpec.ofChange ringHandsWrong)

/-- 'lavabolaw4.ListPlays': WHATEVER THE INPUT: true; the input reads as it did. -/
def listPlaysSpec : ChangeSpec := { name := "listPlays", fn := fun _ => fun
  | [d1, d2] => { results := [.lit (.bool true)], args := [d1, d2] }
  | _ => none }
def listPlaysRow : OpenClaim := { program := "ytdjdodcihffemaa", sum := "d532c9d01b691eb1c10adc54d1c8e2732c32011b1be778ee0a7272aa4da434aa", func := "lavabo/lavabolaw4.ListPlays", spec := "listPlays", apart := false }
def ListPlaysSaid : Prop := listPlaysRow.holds Try.pinned (OpenSpec.ofChange listPlaysSpec)

/-- ITS FALSE NEIGHBOUR: 'it returns false'. Refute it at one input. -/
def listPlaysWrong : ChangeSpec := { name := "listPlays", fn := fun _ => fun
  | [d1, d2] => { results := [.lit (.bool false)], args := [d1, d2] }
  | _ => none }
def ListPlaysWrongFalsely : Prop := listPlaysRow.holds Try.pinned (OpenSpec.ofChange listPlaysWrong)

/-- 'lavabolaw4.ListWalks': WHATEVER THE INPUT: true; the input reads as it did. -/
def listWalksSpec : ChangeSpec := { name := "listWalks", fn := fun _ => fun
  | [d] => { results := [.lit (.bool true)], args := [d] }
  | _ => none }
def listWalksRow : OpenClaim := { program := "ytdjdodcihffemaa", sum := "d532c9d01b691eb1c10adc54d1c8e2732c32011b1be778ee0a7272aa4da434aa", func := "lavabo/lavabolaw4.ListWalks", spec := "listWalks", apart := false }
def ListWalksSaid : Prop := listWalksRow.holds Try.pinned (OpenSpec.ofChange listWalksSpec)

/-- ITS FALSE NEIGHBOUR: 'it returns false'. Refute it at one input. -/
def listWalksWrong : ChangeSpec := { name := "listWalks", fn := fun _ => fun
  | [d] => { results := [.lit (.bool false)], args := [d] }
  | _ => none }
def ListWalksWrongFalsely : Prop := listWalksRow.holds Try.pinned (OpenSpec.ofChange listWalksWrong)

/-- 'lavabolaw4.ListMoves': WHATEVER THE INPUT: true; the input reads as it did. -/
def listMovesSpec : ChangeSpec := { name := "listMoves", fn := fun _ => fun
  | [d1, d2] => { results := [.lit (.bool true)], args := [d1, d2] }
  | _ => none }
def listMovesRow : OpenClaim := { program := "ytdjdodcihffemaa", sum := "d532c9d01b691eb1c10adc54d1c8e2732c32011b1be778ee0a7272aa4da434aa", func := "lavabo/lavabolaw4.ListMoves", spec := "listMoves", apart := false }
def ListMovesSaid : Prop := listMovesRow.holds Try.pinned (OpenSpec.ofChange listMovesSpec)

/-- ITS FALSE NEIGHBOUR: 'it returns false'. Refute it at one input. -/
def listMovesWrong : ChangeSpec := { name := "listMoves", fn := fun _ => fun
  | [d1, d2] => { results := [.lit (.bool false)], args := [d1, d2] }
  | _ => none }
def ListMovesWrongFalsely : Prop := listMovesRow.holds Try.pinned (OpenSpec.ofChange listMovesWrong)

/-- 'lavabolaw4.ListEnds': WHATEVER THE INPUT: true; the input reads as it did. -/
def listEndsSpec : ChangeSpec := { name := "listEnds", fn := fun _ => fun
  | [d1, d2] => { results := [.lit (.bool true)], args := [d1, d2] }
  | _ => none }
def listEndsRow : OpenClaim := { program := "ytdjdodcihffemaa", sum := "d532c9d01b691eb1c10adc54d1c8e2732c32011b1be778ee0a7272aa4da434aa", func := "lavabo/lavabolaw4.ListEnds", spec := "listEnds", apart := false }
def ListEndsSaid : Prop := listEndsRow.holds Try.pinned (OpenSpec.ofChange listEndsSpec)

/-- ITS FALSE NEIGHBOUR: 'it returns false'. Refute it at one input. -/
def listEndsWrong : ChangeSpec := { name := "listEnds", fn := fun _ => fun
  | [d1, d2] => { results := [.lit (.bool false)], args := [d1, d2] }
  | _ => none }
def ListEndsWrongFalsely : Prop := listEndsRow.holds Try.pinned (OpenSpec.ofChange listEndsWrong)

/-- 'lavabolaw8.RingApplies': WHATEVER THE INPUT: true; the input reads as it did. -/
def ringAppliesSpec : ChangeSpec := { name := "ringApplies", fn := fun _ => fun
  | [d1, d2] => { results := [.lit (.bool true)], args := [d1, d2] }
  | _ => none }
def ringAppliesRow : OpenClaim := { program := "ytdjdodcihffemaa", sum := "d532c9d01b691eb1c10adc54d1c8e2732c32011b1be778ee0a7272aa4da434aa", func := "lavabo/lavabolaw8.RingApplies", spec := "ringApplies", apart := false }
def RingAppliesSaid : Prop := ringAppliesRow.holds Try.pinned (OpenSpec.ofChange ringAppliesSpec)

/-- ITS FALSE NEIGHBOUR: 'it returns false'. Refute it at one input. -/
def ringAppliesWrong : ChangeSpec := { name := "ringApplies", fn := fun _ => fun
  | [d1, d2] => { results := [.lit (.bool false)], args := [d1, d2] }
  | _ => none }
def RingAppliesWrongFalsely : Prop := ringAppliesRow.holds Try.pinned (OpenSpec.ofChange ringAppliesWrong)

/-- 'lavabolaw8.RingSame': WHATEVER THE INPUT: true; the input reads as it did. -/
def ringSameSpec : ChangeSpec := { name := "ringSame", fn := fun _ => fun
  | [d] => { results := [.lit (.bool true)], args := [d] }
  | _ => none }
def ringSameRow : OpenClaim := { program := "ytdjdodcihffemaa", sum := "d532c9d01b691eb1c10adc54d1c8e2732c32011b1be778ee0a7272aa4da434aa", func := "lavabo/lavabolaw8.RingSame", spec := "ringSame", apart := false }
def RingSameSaid : Prop := ringSameRow.holds Try.pinned (OpenSpec.ofChange ringSameSpec)

/-- ITS FALSE NEIGHBOUR: 'it returns false'. Refute it at one input. -/
def ringSameWrong : ChangeSpec := { name := "ringSame", fn := fun _ => fun
  | [d] => { results := [.lit (.bool false)], args := [d] }
  | _ => none }
def RingSameWrongFalsely : Prop := ringSameRow.holds Try.pinned (OpenSpec.ofChange ringSameWrong)

/- THE SECOND FORM. 'bulk': how many values and letters a reading holds, each counted each time it is reached (what is shared counts as often as it is met; a slice's spare places count too). A statement '..UptoSaid' is the law's where the arguments, and the package variables that the reading takes, are together of bulk at most 1048576: NARROWER than '..Said'. Prove '..Said' where nothing that the law and all that it calls make is longer than what came in: it says more and counts as full. Else prove '..UptoSaid'. A law counts once. -/
mutual
def uptoBulk {H : Type} : DataW H → Nat
  | .lit (.string bytes) => bytes.length + 1
  | .lit _ => 1
  | .nil => 1
  | .ptr d => uptoBulk d + 1
  | .slice elems spare => uptoBulkAll elems + uptoBulkAll spare + 1
  | .agg parts => uptoBulkAll parts + 1
  | .iface _ d => uptoBulk d + 1
  | .map entries => uptoBulkEntries entries + 1
  | .held _ => 1
def uptoBulkAll {H : Type} : List (DataW H) → Nat
  | [] => 0
  | d :: r => uptoBulk d + uptoBulkAll r
def uptoBulkEntries {H : Type} : List (Lit × DataW H) → Nat
  | [] => 0
  | x :: r => uptoBulkEntry x + uptoBulkEntries r
def uptoBulkEntry {H : Type} : Lit × DataW H → Nat
  | (.string bytes, d) => bytes.length + uptoBulk d + 1
  | (_, d) => uptoBulk d + 1
 end
def uptoSmall : (H : Type) → List (DataW H) → Bool := fun _ ds => decide (uptoBulkAll ds ≤ 1048576)
def OpenSpec.upto (s : _root_.Go.ChangeSpec) : _root_.Go.OpenSpec := { _root_.Go.OpenSpec.ofChange s with cond := some uptoSmall }

/-- 'lavabolaw8.RingForgets', WHERE WHAT IT READS IS OF BULK AT MOST 1048576: true; the input reads as it did. -/
def ringForgetsUptoRow : OpenClaim := { program := "ytdjdodcihffemaa", sum := "d532c9d01b691eb1c10adc54d1c8e2732c32011b1be778ee0a7272aa4da434aa", func := "lavabo/lavabolaw8.RingForgets", spec := "ringForgets", apart := false, narrowed := true }
def RingForgetsUptoSaid : Prop := ringForgetsUptoRow.holds Try.pinned (OpenSpec.upto ringForgetsSpec)

/-- 'lavabolaw8.RingPlays', WHERE WHAT IT READS IS OF BULK AT MOST 1048576: true; the input reads as it did. -/
def ringPlaysUptoRow : OpenClaim := { program := "ytdjdodcihffemaa", sum := "d532c9d01b691eb1c10adc54d1c8e2732c32011b1be778ee0a7272aa4da434aa", func := "lavabo/lavabolaw8.RingPlays", spec := "ringPlays", apart := false, narrowed := true }
def RingPlaysUptoSaid : Prop := ringPlaysUptoRow.holds Try.pinned (OpenSpec.upto ringPlaysSpec)

/-- 'lavabolaw8.RingHands', WHERE WHAT IT READS IS OF BULK AT MOST 1048576: true; the input reads as it did. -/
def ringHandsUptoRow : OpenClaim := { program := "ytdjdodcihffemaa", sum := "d532c9d01b691eb1c10adc54d1c8e2732c32011b1be778ee0a7272aa4da434aa", func := "lavabo/lavabolaw8.RingHands", spec := "ringHands", apart := false, narrowed := true }
def RingHandsUptoSaid : Prop := ringHandsUptoRow.holds Try.pinned (OpenSpec.upto ringHandsSpec)

/-- 'lavabolaw4.ListPlays', WHERE WHAT IT READS IS OF BULK AT MOST 1048576: true; the input reads as it did. -/
def listPlaysUptoRow : OpenClaim := { program := "ytdjdodcihffemaa", sum := "d532c9d01b691eb1c10adc54d1c8e2732c32011b1be778ee0a7272aa4da434aa", func := "lavabo/lavabolaw4.ListPlays", spec := "listPlays", apart := false, narrowed := true }
def ListPlaysUptoSaid : Prop := listPlaysUptoRow.holds Try.pinned (OpenSpec.upto listPlaysSpec)

/-- 'lavabolaw4.ListWalks', WHERE WHAT IT READS IS OF BULK AT MOST 1048576: true; the input reads as it did. -/
def listWalksUptoRow : OpenClaim := { program := "ytdjdodcihffemaa", sum := "d532c9d01b691eb1c10adc54d1c8e2732c32011b1be778ee0a7272aa4da434aa", func := "lavabo/lavabolaw4.ListWalks", spec := "listWalks", apart := false, narrowed := true }
def ListWalksUptoSaid : Prop := listWalksUptoRow.holds Try.pinned (OpenSpec.upto listWalksSpec)

/-- 'lavabolaw4.ListMoves', WHERE WHAT IT READS IS OF BULK AT MOST 1048576: true; the input reads as it did. -/
def listMovesUptoRow : OpenClaim := { program := "ytdjdodcihffemaa", sum := "d532c9d01b691eb1c10adc54d1c8e2732c32011b1be778ee0a7272aa4da434aa", func := "lavabo/lavabolaw4.ListMoves", spec := "listMoves", apart := false, narrowed := true }
def ListMovesUptoSaid : Prop := listMovesUptoRow.holds Try.pinned (OpenSpec.upto listMovesSpec)

/-- 'lavabolaw4.ListEnds', WHERE WHAT IT READS IS OF BULK AT MOST 1048576: true; the input reads as it did. -/
def listEndsUptoRow : OpenClaim := { program := "ytdjdodcihffemaa", sum := "d532c9d01b691eb1c10adc54d1c8e2732c32011b1be778ee0a7272aa4da434aa", func := "lavabo/lavabolaw4.ListEnds", spec := "listEnds", apart := false, narrowed := true }
def ListEndsUptoSaid : Prop := listEndsUptoRow.holds Try.pinned (OpenSpec.upto listEndsSpec)

/-- 'lavabolaw8.RingApplies', WHERE WHAT IT READS IS OF BULK AT MOST 1048576: true; the input reads as it did. -/
def ringAppliesUptoRow : OpenClaim := { program := "ytdjdodcihffemaa", sum := "d532c9d01b691eb1c10adc54d1c8e2732c32011b1be778ee0a7272aa4da434aa", func := "lavabo/lavabolaw8.RingApplies", spec := "ringApplies", apart := false, narrowed := true }
def RingAppliesUptoSaid : Prop := ringAppliesUptoRow.holds Try.pinned (OpenSpec.upto ringAppliesSpec)

/-- 'lavabolaw8.RingSame', WHERE WHAT IT READS IS OF BULK AT MOST 1048576: true; the input reads as it did. -/
def ringSameUptoRow : OpenClaim := { program := "ytdjdodcihffemaa", sum := "d532c9d01b691eb1c10adc54d1c8e2732c32011b1be778ee0a7272aa4da434aa", func := "lavabo/lavabolaw8.RingSame", spec := "ringSame", apart := false, narrowed := true }
def RingSameUptoSaid : Prop := ringSameUptoRow.holds Try.pinned (OpenSpec.upto ringSameSpec)

end Rows
end Go.Proofs.Ytdjdodcihffemaa
