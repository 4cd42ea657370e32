/-
  No cell of these rows narrows 'for every input' (looked for: loops, veiled, ifaces, maps, wideKeys, modest, calm, conditions, laid).
  DERIVED. THE GIVEN ROWS OF THIS SEAT. 5 by the template 'for every input the law returns true; each argument reads behind the call as it read before'; 0 by the template 'total and deterministic' (their statements: YtdilhnnbfkiacaaTotals.lean).
  GIVEN WITH THE SEED: the statements are not yours to turn. If you find one false, say at which input.
  Laid BY PROGRAM, IN A SANDBOX (cutbox-rows.mjs): the forced cells as the released guide's own fill.sh prints them over the translation 79818f1bfadb6f99… (all of the seat's roots in one cut). By AI agents, Wed Nov 11 2026. No macro, syntax, notation, axiom, sorry.
-/
import Derived.Test.YtdilhnnbfkiacaaChecked
import GoSem.Claim
import GoSem.ClaimJoined
import GoSem.ClaimMapViews
import Derived.JoinedTies
import Derived.KernelRfl
namespace Go.Proofs.Ytdilhnnbfkiacaa
/- THE CELL 'sum', in the pinned program and in every row, IS THE sha256 OF THE DUMP (.gsa) THAT YtdilhnnbfkiacaaProg.lean LOADS. Nothing in Lean hashes anything: it is a label: what it is worth is what the hold of that sum in a sandbox is worth. -/
noncomputable def Try.pinned : Pinned := { name := "ytdilhnnbfkiacaa", sum := "79818f1bfadb6f992f2ff1ec191bd3d4c9a3e84d775f8f3a011076ee83bf1916", checked := Try.checked }
namespace Rows
def none {H : Type} : Left H := { results := [], args := [] }

/-- 'lavabolaw10.ArenaStates': WHATEVER THE INPUT: true; the input reads as it did. -/
def arenaStatesSpec : ChangeSpec := { name := "arenaStates", fn := fun _ => fun
  | [d1, d2] => { results := [.lit (.bool true)], args := [d1, d2] }
  | _ => none }
def arenaStatesRow : OpenClaim := { program := "ytdilhnnbfkiacaa", sum := "79818f1bfadb6f992f2ff1ec191bd3d4c9a3e84d775f8f3a011076ee83bf1916", func := "lavabo/lavabolaw10.ArenaStates", spec := "arenaStates", apart := false }
def ArenaStatesSaid : Prop := arenaStatesRow.holds Try.pinned (OpenSpec.ofChange arenaStatesSpec)

/-- ITS FALSE NEIGHBOUR: 'it returns false'. Refute it at one input. -/
def arenaStatesWrong : ChangeSpec := { name := "arenaStates", fn := fun _ => fun
  | [d1, d2] => { results := [.lit (.bool false)], args := [d1, d2] }
  | _ => none }
def ArenaStatesWrongFalsely : Prop := arenaStatesRow.holds Try.pinned (OpenSpec.ofChange arenaStatesWrong)

/-- 'lavabolaw10.ArenaBodies': WHATEVER THE INPUT: true; the input reads as it did. -/
def arenaBodiesSpec : ChangeSpec := { name := "arenaBodies", fn := fun _ => fun
  | [d1, d2, d3] => { results := [.lit (.bool true)], args := [d1, d2, d3] }
  | _ => none }
def arenaBodiesRow : OpenClaim := { program := "ytdilhnnbfkiacaa", sum := "79818f1bfadb6f992f2ff1ec191bd3d4c9a3e84d775f8f3a011076ee83bf1916", func := "lavabo/lavabolaw10.ArenaBodies", spec := "arenaBodies", apart := false }
def ArenaBodiesSaid : Prop := arenaBodiesRow.holds Try.pinned (OpenSpec.ofChange arenaBodiesSpec)

/-- ITS FALSE NEIGHBOUR: 'it returns false'. Refute it at one input. -/
def arenaBodiesWrong : ChangeSpec := { name := "arenaBodies", fn := fun _ => fun
  | [d1, d2, d3] => { results := [.lit (.bool false)], args := [d1, d2, d3] }
  | _ => none }
def ArenaBodiesWrongFalsely : Prop := arenaBodiesRow.holds Try.pinned (OpenSpec.ofChange arenaBodiesWrong)

/-- 'lavabolaw10.ArenaQueue': WHATEVER THE INPUT: true; the input reads as it did. -/
def arenaQueueSpec : ChangeSpec := { name := "arenaQueue", fn := fun _ => fun
  | [d1, d2] => { results := [.lit (.bool true)], args := [d1, d2] }
  | _ => none }
def arenaQueueRow : OpenClaim := { program := "ytdilhnnbfkiacaa", sum := "79818f1bfadb6f992f2ff1ec191bd3d4c9a3e84d775f8f3a011076ee83bf1916", func := "lavabo/lavabolaw10.ArenaQueue", spec := "arenaQueue", apart := false }
def ArenaQueueSaid : Prop := arenaQueueRow.holds Try.pinned (OpenSpec.ofChange arenaQueueSpec)

/-- ITS FALSE NEIGHBOUR: 'it returns false'. Refute it at one input. -/
def arenaQueueWrong : ChangeSpec := { name := "arenaQueue", fn := fun _ => fun
  | [d1, d2] => { results := [.lit (.bool false)], args := [d1, d2] }
  | _ => none }
def ArenaQueueWrongFalsely : Prop := arenaQueueRow.holds Try.pinned (OpenSpec.ofChange arenaQueueWrong)

/-- 'lavabolaw10.ArenaSizes': WHATEVER THE INPUT: true; the input reads as it did. -/
def arenaSizesSpec : ChangeSpec := { name := "arenaSizes", fn := fun _ => fun
  | [d1, d2, d3] => { results := [.lit (.bool true)], args := [d1, d2, d3] }
  | _ => none }
def arenaSizesRow : OpenClaim := { program := "ytdilhnnbfkiacaa", sum := "79818f1bfadb6f992f2ff1ec191bd3d4c9a3e84d775f8f3a011076ee83bf1916", func := "lavabo/lavabolaw10.ArenaSizes", spec := "arenaSizes", apart := false }
def ArenaSizesSaid : Prop := arenaSizesRow.holds Try.pinned (OpenSpec.ofChange arenaSizesSpec)

/-- ITS FALSE NEIGHBOUR: 'it returns false'. Refute it at one input. -/
def arenaSizesWrong : ChangeSpec := { name := "arenaSizes", fn := fun _ => fun
  | [d1, d2, d3] => { results := [.lit (.bool false)], args := [d1, d2, d3] }
  | _ => none }
def ArenaSizesWrongFalsely : Prop := arenaSizesRow.holds Try.pinned (OpenSpec.ofChange arenaSizesWrong)

/-- 'lavabolaw10.ArenaPlays': WHATEVER THE INPUT: true; the input reads as it did. -/
def arenaPlaysSpec : ChangeSpec := { name := "arenaPlays", fn := fun _ => fun
  | [d1, d2] => { results := [.lit (.bool true)], args := [d1, d2] }
  | _ => none }
def arenaPlaysRow : OpenClaim := { program := "ytdilhnnbfkiacaa", sum := "79818f1bfadb6f992f2ff1ec191bd3d4c9a3e84d775f8f3a011076ee83bf1916", func := "lavabo/lavabolaw10.ArenaPlays", spec := "arenaPlays", apart := false }
def ArenaPlaysSaid : Prop := arenaPlaysRow.holds Try.pinned (OpenSpec.ofChange arenaPlaysSpec)

/-- ITS FALSE NEIGHBOUR: 'it returns false'. Refute it at one input. -/
def arenaPlaysWrong : ChangeSpec := { name := "arenaPlays", fn := fun _ => fun
  | [d1, d2] => { results := [.lit (.bool false)], args := [d1, d2] }
  | _ => none }
def ArenaPlaysWrongFalsely : Prop := arenaPlaysRow.holds Try.pinned (OpenSpec.ofChange arenaPlaysWrong)

/- THE SECOND FORM. 'bulk': how many values and letters a reading holds, each counted each time it is reached (what is shared counts as often as it is met; a slice's spare places count too). A statement '..UptoSaid' is the law's where the arguments, and the package variables that the reading takes, are together of bulk at most 1048576: NARROWER than '..Said'. Prove '..Said' where nothing that the law and all that it calls make is longer than what came in: it says more and counts as full. Else prove '..UptoSaid'. A law counts once. -/
mutual
def uptoBulk {H : Type} : DataW H → Nat
  | .lit (.string bytes) => bytes.length + 1
  | .lit _ => 1
  | .nil => 1
  | .ptr d => uptoBulk d + 1
  | .slice elems spare => uptoBulkAll elems + uptoBulkAll spare + 1
  | .agg parts => uptoBulkAll parts + 1
  | .iface _ d => uptoBulk d + 1
  | .map entries => uptoBulkEntries entries + 1
  | .held _ => 1
def uptoBulkAll {H : Type} : List (DataW H) → Nat
  | [] => 0
  | d :: r => uptoBulk d + uptoBulkAll r
def uptoBulkEntries {H : Type} : List (Lit × DataW H) → Nat
  | [] => 0
  | x :: r => uptoBulkEntry x + uptoBulkEntries r
def uptoBulkEntry {H : Type} : Lit × DataW H → Nat
  | (.string bytes, d) => bytes.length + uptoBulk d + 1
  | (_, d) => uptoBulk d + 1
 end
def uptoSmall : (H : Type) → List (DataW H) → Bool := fun _ ds => decide (uptoBulkAll ds ≤ 1048576)
def OpenSpec.upto (s : _root_.Go.ChangeSpec) : _root_.Go.OpenSpec := { _root_.Go.OpenSpec.ofChange s with cond := some uptoSmall }

/-- 'lavabolaw10.ArenaStates', WHERE WHAT IT READS IS OF BULK AT MOST 1048576: true; the input reads as it did. -/
def arenaStatesUptoRow : OpenClaim := { program := "ytdilhnnbfkiacaa", sum := "79818f1bfadb6f992f2ff1ec191bd3d4c9a3e84d775f8f3a011076ee83bf1916", func := "lavabo/lavabolaw10.ArenaStates", spec := "arenaStates", apart := false, narrowed := true }
def ArenaStatesUptoSaid : Prop := arenaStatesUptoRow.holds Try.pinned (OpenSpec.upto arenaStatesSpec)

/-- 'lavabolaw10.ArenaBodies', WHERE WHAT IT READS IS OF BULK AT MOST 1048576: true; the input reads as it did. -/
def arenaBodiesUptoRow : OpenClaim := { program := "ytdilhnnbfkiacaa", sum := "79818f1bfadb6f992f2ff1ec191bd3d4c9a3e84d775f8f3a011076ee83bf1916", func := "lavabo/lavabolaw10.ArenaBodies", spec := "arenaBodies", apart := false, narrowed := true }
def ArenaBodiesUptoSaid : Prop := arenaBodiesUptoRow.holds Try.pinned (OpenSpec.upto arenaBodiesSpec)

/-- 'lavabolaw10.ArenaQueue', WHERE WHAT IT READS IS OF BULK AT MOST 1048576: true; the input reads as it did. -/
def arenaQueueUptoRow : OpenClaim := { program := "ytdilhnnbfkiacaa", sum := "79818f1bfadb6f992f2ff1ec191bd3d4c9a3e84d775f8f3a011076ee83bf1916", func := "lavabo/lavabolaw10.ArenaQueue", spec := "arenaQueue", apart := false, narrowed := true }
def ArenaQueueUptoSaid : Prop := arenaQueueUptoRow.holds Try.pinned (OpenSpec.upto arenaQueueSpec)

/-- 'lavabolaw10.ArenaSizes', WHERE WHAT IT READS IS OF BULK AT MOST 1048576: true; the input reads as it did. -/
def arenaSizesUptoRow : OpenClaim := { program := "ytdilhnnbfkiacaa", sum := "79818f1bfadb6f992f2ff1ec191bd3d4c9a3e84d775f8f3a011076ee83bf1916", func := "lavabo/lavabolaw10.ArenaSizes", spec := "arenaSizes", apart := false, narrowed := true }
def ArenaSizesUptoSaid : Prop := arenaSizesUptoRow.holds Try.pinned (OpenSpec.upto arenaSizesSpec)

/-- 'lavabolaw10.ArenaPlays', WHERE WHAT IT READS IS OF BULK AT MOST 1048576: true; the input reads as it did. -/
def arenaPlaysUptoRow : OpenClaim := { program := "ytdilhnnbfkiacaa", sum := "79818f1bfadb6f992f2ff1ec191bd3d4c9a3e84d775f8f3a011076ee83bf1916", func := "lavabo/lavabolaw10.ArenaPlays", spec := "arenaPlays", apart := false, narrowed := true }
def ArenaPlaysUptoSaid : Prop := arenaPlaysUptoRow.holds Try.pinned (OpenSpec.upto arenaPlaysSpec)

end Rows
end Go.Proofs.Ytdilhnnbfkiacaa
