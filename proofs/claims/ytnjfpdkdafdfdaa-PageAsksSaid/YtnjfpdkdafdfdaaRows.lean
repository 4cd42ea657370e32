/-
  No cell of these rows narrows 'for every input' (looked for: loops, veiled, ifaces, maps, wideKeys, modest, calm, conditions, laid).
  DERIVED. THE GIVEN ROWS OF THIS SEAT. 11 by the template 'for every input the law returns true; each argument reads behind the call as it read before'; 0 by the template 'total and deterministic' (their statements: YtnjfpdkdafdfdaaTotals.lean).
  GIVEN WITH THE SEED: the statements are not yours to turn. If you find one false, say at which input.
  Laid BY PROGRAM, IN A SANDBOX (cutbox-rows.mjs): the forced cells as the released guide's own fill.sh prints them over the translation b089110e967a5491… (all of the seat's roots in one cut). By AI agents, Wed Nov 11 2026. No macro, syntax, notation, axiom, sorry.
-/
import Derived.Test.YtnjfpdkdafdfdaaChecked
import GoSem.Claim
import GoSem.ClaimJoined
import GoSem.ClaimMapViews
import Derived.JoinedTies
import Derived.KernelRfl
namespace Go.Proofs.Ytnjfpdkdafdfdaa
/- THE CELL 'sum', in the pinned program and in every row, IS THE sha256 OF THE DUMP (.gsa) THAT YtnjfpdkdafdfdaaProg.lean LOADS. Nothing in Lean hashes anything: it is a label: what it is worth is what the hold of that sum in a sandbox is worth. -/
noncomputable def Try.pinned : Pinned := { name := "ytnjfpdkdafdfdaa", sum := "b089110e967a549195bc758b2ccb59a91b39c6bef1bec39f1580a17951a3e3be", checked := Try.checked }
namespace Rows
def none {H : Type} : Left H := { results := [], args := [] }

/-- 'lavabolaw18.SizeAsks': WHATEVER THE INPUT: true; the input reads as it did. -/
def sizeAsksSpec : ChangeSpec := { name := "sizeAsks", fn := fun _ => fun
  | [d1, d2, d3] => { results := [.lit (.bool true)], args := [d1, d2, d3] }
  | _ => none }
def sizeAsksRow : OpenClaim := { program := "ytnjfpdkdafdfdaa", sum := "b089110e967a549195bc758b2ccb59a91b39c6bef1bec39f1580a17951a3e3be", func := "lavabo/lavabolaw18.SizeAsks", spec := "sizeAsks", unfollowed := true, recurses := true, apart := false }
def SizeAsksSaid : Prop := sizeAsksRow.holds Try.pinned (OpenSpec.ofChange sizeAsksSpec)

/-- ITS FALSE NEIGHBOUR: 'it returns false'. Refute it at one input. -/
def sizeAsksWrong : ChangeSpec := { name := "sizeAsks", fn := fun _ => fun
  | [d1, d2, d3] => { results := [.lit (.bool false)], args := [d1, d2, d3] }
  | _ => none }
def SizeAsksWrongFalsely : Prop := sizeAsksRow.holds Try.pinned (OpenSpec.ofChange sizeAsksWrong)

/-- 'lavabolaw18.SizeShares': WHATEVER THE INPUT: true; the input reads as it did. -/
def sizeSharesSpec : ChangeSpec := { name := "sizeShares", fn := fun _ => fun
  | [d1, d2, d3] => { results := [.lit (.bool true)], args := [d1, d2, d3] }
  | _ => none }
def sizeSharesRow : OpenClaim := { program := "ytnjfpdkdafdfdaa", sum := "b089110e967a549195bc758b2ccb59a91b39c6bef1bec39f1580a17951a3e3be", func := "lavabo/lavabolaw18.SizeShares", spec := "sizeShares", unfollowed := true, recurses := true, apart := false }
def SizeSharesSaid : Prop := sizeSharesRow.holds Try.pinned (OpenSpec.ofChange sizeSharesSpec)

/-- ITS FALSE NEIGHBOUR: 'it returns false'. Refute it at one input. -/
def sizeSharesWrong : ChangeSpec := { name := "sizeShares", fn := fun _ => fun
  | [d1, d2, d3] => { results := [.lit (.bool false)], args := [d1, d2, d3] }
  | _ => none }
def SizeSharesWrongFalsely : Prop := sizeSharesRow.holds Try.pinned (OpenSpec.ofChange sizeSharesWrong)

/-- 'lavabolaw18.SizeEnds': WHATEVER THE INPUT: true; the input reads as it did. -/
def sizeEndsSpec : ChangeSpec := { name := "sizeEnds", fn := fun _ => fun
  | [d1, d2] => { results := [.lit (.bool true)], args := [d1, d2] }
  | _ => none }
def sizeEndsRow : OpenClaim := { program := "ytnjfpdkdafdfdaa", sum := "b089110e967a549195bc758b2ccb59a91b39c6bef1bec39f1580a17951a3e3be", func := "lavabo/lavabolaw18.SizeEnds", spec := "sizeEnds", unfollowed := true, recurses := true, apart := false }
def SizeEndsSaid : Prop := sizeEndsRow.holds Try.pinned (OpenSpec.ofChange sizeEndsSpec)

/-- ITS FALSE NEIGHBOUR: 'it returns false'. Refute it at one input. -/
def sizeEndsWrong : ChangeSpec := { name := "sizeEnds", fn := fun _ => fun
  | [d1, d2] => { results := [.lit (.bool false)], args := [d1, d2] }
  | _ => none }
def SizeEndsWrongFalsely : Prop := sizeEndsRow.holds Try.pinned (OpenSpec.ofChange sizeEndsWrong)

/-- 'lavabolaw18.SizeLists': WHATEVER THE INPUT: true; the input reads as it did. -/
def sizeListsSpec : ChangeSpec := { name := "sizeLists", fn := fun _ => fun
  | [d1, d2, d3] => { results := [.lit (.bool true)], args := [d1, d2, d3] }
  | _ => none }
def sizeListsRow : OpenClaim := { program := "ytnjfpdkdafdfdaa", sum := "b089110e967a549195bc758b2ccb59a91b39c6bef1bec39f1580a17951a3e3be", func := "lavabo/lavabolaw18.SizeLists", spec := "sizeLists", unfollowed := true, recurses := true, apart := false }
def SizeListsSaid : Prop := sizeListsRow.holds Try.pinned (OpenSpec.ofChange sizeListsSpec)

/-- ITS FALSE NEIGHBOUR: 'it returns false'. Refute it at one input. -/
def sizeListsWrong : ChangeSpec := { name := "sizeLists", fn := fun _ => fun
  | [d1, d2, d3] => { results := [.lit (.bool false)], args := [d1, d2, d3] }
  | _ => none }
def SizeListsWrongFalsely : Prop := sizeListsRow.holds Try.pinned (OpenSpec.ofChange sizeListsWrong)

/-- 'lavabolaw17.GiveAll': WHATEVER THE INPUT: true; the input reads as it did. -/
def giveAllSpec : ChangeSpec := { name := "giveAll", fn := fun _ => fun
  | [d1, d2] => { results := [.lit (.bool true)], args := [d1, d2] }
  | _ => none }
def giveAllRow : OpenClaim := { program := "ytnjfpdkdafdfdaa", sum := "b089110e967a549195bc758b2ccb59a91b39c6bef1bec39f1580a17951a3e3be", func := "lavabo/lavabolaw17.GiveAll", spec := "giveAll", unfollowed := true, recurses := true, apart := false }
def GiveAllSaid : Prop := giveAllRow.holds Try.pinned (OpenSpec.ofChange giveAllSpec)

/-- ITS FALSE NEIGHBOUR: 'it returns false'. Refute it at one input. -/
def giveAllWrong : ChangeSpec := { name := "giveAll", fn := fun _ => fun
  | [d1, d2] => { results := [.lit (.bool false)], args := [d1, d2] }
  | _ => none }
def GiveAllWrongFalsely : Prop := giveAllRow.holds Try.pinned (OpenSpec.ofChange giveAllWrong)

/-- 'lavabolaw17.GiveBest': WHATEVER THE INPUT: true; the input reads as it did. -/
def giveBestSpec : ChangeSpec := { name := "giveBest", fn := fun _ => fun
  | [d1, d2] => { results := [.lit (.bool true)], args := [d1, d2] }
  | _ => none }
def giveBestRow : OpenClaim := { program := "ytnjfpdkdafdfdaa", sum := "b089110e967a549195bc758b2ccb59a91b39c6bef1bec39f1580a17951a3e3be", func := "lavabo/lavabolaw17.GiveBest", spec := "giveBest", unfollowed := true, recurses := true, apart := false }
def GiveBestSaid : Prop := giveBestRow.holds Try.pinned (OpenSpec.ofChange giveBestSpec)

/-- ITS FALSE NEIGHBOUR: 'it returns false'. Refute it at one input. -/
def giveBestWrong : ChangeSpec := { name := "giveBest", fn := fun _ => fun
  | [d1, d2] => { results := [.lit (.bool false)], args := [d1, d2] }
  | _ => none }
def GiveBestWrongFalsely : Prop := giveBestRow.holds Try.pinned (OpenSpec.ofChange giveBestWrong)

/-- 'lavabolaw2.PageAsks': WHATEVER THE INPUT: true; the input reads as it did. -/
def pageAsksSpec : ChangeSpec := { name := "pageAsks", fn := fun _ => fun
  | [d1, d2, d3] => { results := [.lit (.bool true)], args := [d1, d2, d3] }
  | _ => none }
def pageAsksRow : OpenClaim := { program := "ytnjfpdkdafdfdaa", sum := "b089110e967a549195bc758b2ccb59a91b39c6bef1bec39f1580a17951a3e3be", func := "lavabo/lavabolaw2.PageAsks", spec := "pageAsks", apart := false }
def PageAsksSaid : Prop := pageAsksRow.holds Try.pinned (OpenSpec.ofChange pageAsksSpec)

/-- ITS FALSE NEIGHBOUR: 'it returns false'. Refute it at one input. -/
def pageAsksWrong : ChangeSpec := { name := "pageAsks", fn := fun _ => fun
  | [d1, d2, d3] => { results := [.lit (.bool false)], args := [d1, d2, d3] }
  | _ => none }
def PageAsksWrongFalsely : Prop := pageAsksRow.holds Try.pinned (OpenSpec.ofChange pageAsksWrong)

/-- 'lavabolaw2.PageBack': WHATEVER THE INPUT: true; the input reads as it did. -/
def pageBackSpec : ChangeSpec := { name := "pageBack", fn := fun _ => fun
  | [d1, d2, d3, d4, d5, d6] => { results := [.lit (.bool true)], args := [d1, d2, d3, d4, d5, d6] }
  | _ => none }
def pageBackRow : OpenClaim := { program := "ytnjfpdkdafdfdaa", sum := "b089110e967a549195bc758b2ccb59a91b39c6bef1bec39f1580a17951a3e3be", func := "lavabo/lavabolaw2.PageBack", spec := "pageBack", apart := false }
def PageBackSaid : Prop := pageBackRow.holds Try.pinned (OpenSpec.ofChange pageBackSpec)

/-- ITS FALSE NEIGHBOUR: 'it returns false'. Refute it at one input. -/
def pageBackWrong : ChangeSpec := { name := "pageBack", fn := fun _ => fun
  | [d1, d2, d3, d4, d5, d6] => { results := [.lit (.bool false)], args := [d1, d2, d3, d4, d5, d6] }
  | _ => none }
def PageBackWrongFalsely : Prop := pageBackRow.holds Try.pinned (OpenSpec.ofChange pageBackWrong)

/-- 'lavabolaw2.PageOthers': WHATEVER THE INPUT: true; the input reads as it did. -/
def pageOthersSpec : ChangeSpec := { name := "pageOthers", fn := fun _ => fun
  | [d1, d2, d3, d4, d5] => { results := [.lit (.bool true)], args := [d1, d2, d3, d4, d5] }
  | _ => none }
def pageOthersRow : OpenClaim := { program := "ytnjfpdkdafdfdaa", sum := "b089110e967a549195bc758b2ccb59a91b39c6bef1bec39f1580a17951a3e3be", func := "lavabo/lavabolaw2.PageOthers", spec := "pageOthers", apart := false }
def PageOthersSaid : Prop := pageOthersRow.holds Try.pinned (OpenSpec.ofChange pageOthersSpec)

/-- ITS FALSE NEIGHBOUR: 'it returns false'. Refute it at one input. -/
def pageOthersWrong : ChangeSpec := { name := "pageOthers", fn := fun _ => fun
  | [d1, d2, d3, d4, d5] => { results := [.lit (.bool false)], args := [d1, d2, d3, d4, d5] }
  | _ => none }
def PageOthersWrongFalsely : Prop := pageOthersRow.holds Try.pinned (OpenSpec.ofChange pageOthersWrong)

/-- 'lavabolaw2.PageMarks': WHATEVER THE INPUT: true; the input reads as it did. -/
def pageMarksSpec : ChangeSpec := { name := "pageMarks", fn := fun _ => fun
  | [d1, d2, d3, d4] => { results := [.lit (.bool true)], args := [d1, d2, d3, d4] }
  | _ => none }
def pageMarksRow : OpenClaim := { program := "ytnjfpdkdafdfdaa", sum := "b089110e967a549195bc758b2ccb59a91b39c6bef1bec39f1580a17951a3e3be", func := "lavabo/lavabolaw2.PageMarks", spec := "pageMarks", apart := false }
def PageMarksSaid : Prop := pageMarksRow.holds Try.pinned (OpenSpec.ofChange pageMarksSpec)

/-- ITS FALSE NEIGHBOUR: 'it returns false'. Refute it at one input. -/
def pageMarksWrong : ChangeSpec := { name := "pageMarks", fn := fun _ => fun
  | [d1, d2, d3, d4] => { results := [.lit (.bool false)], args := [d1, d2, d3, d4] }
  | _ => none }
def PageMarksWrongFalsely : Prop := pageMarksRow.holds Try.pinned (OpenSpec.ofChange pageMarksWrong)

/-- 'lavabolaw2.PageSizes': WHATEVER THE INPUT: true; the input reads as it did. -/
def pageSizesSpec : ChangeSpec := { name := "pageSizes", fn := fun _ => fun
  | [d1, d2] => { results := [.lit (.bool true)], args := [d1, d2] }
  | _ => none }
def pageSizesRow : OpenClaim := { program := "ytnjfpdkdafdfdaa", sum := "b089110e967a549195bc758b2ccb59a91b39c6bef1bec39f1580a17951a3e3be", func := "lavabo/lavabolaw2.PageSizes", spec := "pageSizes", apart := false }
def PageSizesSaid : Prop := pageSizesRow.holds Try.pinned (OpenSpec.ofChange pageSizesSpec)

/-- ITS FALSE NEIGHBOUR: 'it returns false'. Refute it at one input. -/
def pageSizesWrong : ChangeSpec := { name := "pageSizes", fn := fun _ => fun
  | [d1, d2] => { results := [.lit (.bool false)], args := [d1, d2] }
  | _ => none }
def PageSizesWrongFalsely : Prop := pageSizesRow.holds Try.pinned (OpenSpec.ofChange pageSizesWrong)

/- THE SECOND FORM. 'bulk': how many values and letters a reading holds, each counted each time it is reached (what is shared counts as often as it is met; a slice's spare places count too). A statement '..UptoSaid' is the law's where the arguments, and the package variables that the reading takes, are together of bulk at most 1048576: NARROWER than '..Said'. Prove '..Said' where nothing that the law and all that it calls make is longer than what came in: it says more and counts as full. Else prove '..UptoSaid'. A law counts once. -/
mutual
def uptoBulk {H : Type} : DataW H → Nat
  | .lit (.string bytes) => bytes.length + 1
  | .lit _ => 1
  | .nil => 1
  | .ptr d => uptoBulk d + 1
  | .slice elems spare => uptoBulkAll elems + uptoBulkAll spare + 1
  | .agg parts => uptoBulkAll parts + 1
  | .iface _ d => uptoBulk d + 1
  | .map entries => uptoBulkEntries entries + 1
  | .held _ => 1
def uptoBulkAll {H : Type} : List (DataW H) → Nat
  | [] => 0
  | d :: r => uptoBulk d + uptoBulkAll r
def uptoBulkEntries {H : Type} : List (Lit × DataW H) → Nat
  | [] => 0
  | x :: r => uptoBulkEntry x + uptoBulkEntries r
def uptoBulkEntry {H : Type} : Lit × DataW H → Nat
  | (.string bytes, d) => bytes.length + uptoBulk d + 1
  | (_, d) => uptoBulk d + 1
 end
def uptoSmall : (H : Type) → List (DataW H) → Bool := fun _ ds => decide (uptoBulkAll ds ≤ 1048576)
def OpenSpec.upto (s : _root_.Go.ChangeSpec) : _root_.Go.OpenSpec := { _root_.Go.OpenSpec.ofChange s with cond := some uptoSmall }

/-- 'lavabolaw18.SizeAsks', WHERE WHAT IT READS IS OF BULK AT MOST 1048576: true; the input reads as it did. -/
def sizeAsksUptoRow : OpenClaim := { program := "ytnjfpdkdafdfdaa", sum := "b089110e967a549195bc758b2ccb59a91b39c6bef1bec39f1580a17951a3e3be", func := "lavabo/lavabolaw18.SizeAsks", spec := "sizeAsks", unfollowed := true, recurses := true, apart := false, narrowed := true }
def SizeAsksUptoSaid : Prop := sizeAsksUptoRow.holds Try.pinned (OpenSpec.upto sizeAsksSpec)

/-- 'lavabolaw18.SizeShares', WHERE WHAT IT READS IS OF BULK AT MOST 1048576: true; the input reads as it did. -/
def sizeSharesUptoRow : OpenClaim := { program := "ytnjfpdkdafdfdaa", sum := "b089110e967a549195bc758b2ccb59a91b39c6bef1bec39f1580a17951a3e3be", func := "lavabo/lavabolaw18.SizeShares", spec := "sizeShares", unfollowed := true, recurses := true, apart := false, narrowed := true }
def SizeSharesUptoSaid : Prop := sizeSharesUptoRow.holds Try.pinned (OpenSpec.upto sizeSharesSpec)

/-- 'lavabolaw18.SizeEnds', WHERE WHAT IT READS IS OF BULK AT MOST 1048576: true; the input reads as it did. -/
def sizeEndsUptoRow : OpenClaim := { program := "ytnjfpdkdafdfdaa", sum := "b089110e967a549195bc758b2ccb59a91b39c6bef1bec39f1580a17951a3e3be", func := "lavabo/lavabolaw18.SizeEnds", spec := "sizeEnds", unfollowed := true, recurses := true, apart := false, narrowed := true }
def SizeEndsUptoSaid : Prop := sizeEndsUptoRow.holds Try.pinned (OpenSpec.upto sizeEndsSpec)

/-- 'lavabolaw18.SizeLists', WHERE WHAT IT READS IS OF BULK AT MOST 1048576: true; the input reads as it did. -/
def sizeListsUptoRow : OpenClaim := { program := "ytnjfpdkdafdfdaa", sum := "b089110e967a549195bc758b2ccb59a91b39c6bef1bec39f1580a17951a3e3be", func := "lavabo/lavabolaw18.SizeLists", spec := "sizeLists", unfollowed := true, recurses := true, apart := false, narrowed := true }
def SizeListsUptoSaid : Prop := sizeListsUptoRow.holds Try.pinned (OpenSpec.upto sizeListsSpec)

/-- 'lavabolaw17.GiveAll', WHERE WHAT IT READS IS OF BULK AT MOST 1048576: true; the input reads as it did. -/
def giveAllUptoRow : OpenClaim := { program := "ytnjfpdkdafdfdaa", sum := "b089110e967a549195bc758b2ccb59a91b39c6bef1bec39f1580a17951a3e3be", func := "lavabo/lavabolaw17.GiveAll", spec := "giveAll", unfollowed := true, recurses := true, apart := false, narrowed := true }
def GiveAllUptoSaid : Prop := giveAllUptoRow.holds Try.pinned (OpenSpec.upto giveAllSpec)

/-- 'lavabolaw17.GiveBest', WHERE WHAT IT READS IS OF BULK AT MOST 1048576: true; the input reads as it did. -/
def giveBestUptoRow : OpenClaim := { program := "ytnjfpdkdafdfdaa", sum := "b089110e967a549195bc758b2ccb59a91b39c6bef1bec39f1580a17951a3e3be", func := "lavabo/lavabolaw17.GiveBest", spec := "giveBest", unfollowed := true, recurses := true, apart := false, narrowed := true }
def GiveBestUptoSaid : Prop := giveBestUptoRow.holds Try.pinned (OpenSpec.upto giveBestSpec)

/-- 'lavabolaw2.PageAsks', WHERE WHAT IT READS IS OF BULK AT MOST 1048576: true; the input reads as it did. -/
def pageAsksUptoRow : OpenClaim := { program := "ytnjfpdkdafdfdaa", sum := "b089110e967a549195bc758b2ccb59a91b39c6bef1bec39f1580a17951a3e3be", func := "lavabo/lavabolaw2.PageAsks", spec := "pageAsks", apart := false, narrowed := true }
def PageAsksUptoSaid : Prop := pageAsksUptoRow.holds Try.pinned (OpenSpec.upto pageAsksSpec)

/-- 'lavabolaw2.PageBack', WHERE WHAT IT READS IS OF BULK AT MOST 1048576: true; the input reads as it did. -/
def pageBackUptoRow : OpenClaim := { program := "ytnjfpdkdafdfdaa", sum := "b089110e967a549195bc758b2ccb59a91b39c6bef1bec39f1580a17951a3e3be", func := "lavabo/lavabolaw2.PageBack", spec := "pageBack", apart := false, narrowed := true }
def PageBackUptoSaid : Prop := pageBackUptoRow.holds Try.pinned (OpenSpec.upto pageBackSpec)

/-- 'lavabolaw2.PageOthers', WHERE WHAT IT READS IS OF BULK AT MOST 1048576: true; the input reads as it did. -/
def pageOthersUptoRow : OpenClaim := { program := "ytnjfpdkdafdfdaa", sum := "b089110e967a549195bc758b2ccb59a91b39c6bef1bec39f1580a17951a3e3be", func := "lavabo/lavabolaw2.PageOthers", spec := "pageOthers", apart := false, narrowed := true }
def PageOthersUptoSaid : Prop := pageOthersUptoRow.holds Try.pinned (OpenSpec.upto pageOthersSpec)

/-- 'lavabolaw2.PageMarks', WHERE WHAT IT READS IS OF BULK AT MOST 1048576: true; the input reads as it did. -/
def pageMarksUptoRow : OpenClaim := { program := "ytnjfpdkdafdfdaa", sum := "b089110e967a549195bc758b2ccb59a91b39c6bef1bec39f1580a17951a3e3be", func := "lavabo/lavabolaw2.PageMarks", spec := "pageMarks", apart := false, narrowed := true }
def PageMarksUptoSaid : Prop := pageMarksUptoRow.holds Try.pinned (OpenSpec.upto pageMarksSpec)

/-- 'lavabolaw2.PageSizes', WHERE WHAT IT READS IS OF BULK AT MOST 1048576: true; the input reads as it did. -/
def pageSizesUptoRow : OpenClaim := { program := "ytnjfpdkdafdfdaa", sum := "b089110e967a549195bc758b2ccb59a91b39c6bef1bec39f1580a17951a3e3be", func := "lavabo/lavabolaw2.PageSizes", spec := "pageSizes", apart := false, narrowed := true }
def PageSizesUptoSaid : Prop := pageSizesUptoRow.holds Try.pinned (OpenSpec.upto pageSizesSpec)

end Rows
end Go.Proofs.Ytnjfpdkdafdfdaa
