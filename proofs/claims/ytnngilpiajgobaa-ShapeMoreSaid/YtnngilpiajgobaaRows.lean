/-
  No cell of these rows narrows 'for every input' (looked for: loops, veiled, ifaces, maps, wideKeys, modest, calm, conditions, laid).
  DERIVED. THE GIVEN ROWS OF THIS SEAT. 5 by the template 'for every input the law returns true; each argument reads behind the call as it read before'; 0 by the template 'total and deterministic' (their statements: YtnngilpiajgobaaTotals.lean).
  GIVEN WITH THE SEED: the statements are not yours to turn. If you find one false, say at which input.
  Laid BY PROGRAM, IN A SANDBOX (cutbox-rows.mjs): the forced cells as the released guide's own fill.sh prints them over the translation d40b7ff7c7e10616… (all of the seat's roots in one cut). By AI agents, Wed Nov 11 2026. No macro, syntax, notation, axiom, sorry.
-/
import Derived.Test.YtnngilpiajgobaaChecked
import GoSem.Claim
import GoSem.ClaimJoined
import GoSem.ClaimMapViews
import Derived.JoinedTies
import Derived.KernelRfl
namespace Go.Proofs.Ytnngilpiajgobaa
/- THE CELL 'sum', in the pinned program and in every row, IS THE sha256 OF THE DUMP (.gsa) THAT YtnngilpiajgobaaProg.lean LOADS. Nothing in Lean hashes anything: it is a label: what it is worth is what the hold of that sum in a sandbox is worth. -/
noncomputable def Try.pinned : Pinned := { name := "ytnngilpiajgobaa", sum := "d40b7ff7c7e106161ea368b10d005a8680864f9816cdbb7910715837456c4421", checked := Try.checked }
namespace Rows
def none {H : Type} : Left H := { results := [], args := [] }

/-- 'louverlaw17.FrameJoins': WHATEVER THE INPUT: true; the input reads as it did. -/
def frameJoinsSpec : ChangeSpec := { name := "frameJoins", fn := fun _ => fun
  | [d1, d2] => { results := [.lit (.bool true)], args := [d1, d2] }
  | _ => none }
def frameJoinsRow : OpenClaim := { program := "ytnngilpiajgobaa", sum := "d40b7ff7c7e106161ea368b10d005a8680864f9816cdbb7910715837456c4421", func := "louver/louverlaw17.FrameJoins", spec := "frameJoins", apart := false }
def FrameJoinsSaid : Prop := frameJoinsRow.holds Try.pinned (OpenSpec.ofChange frameJoinsSpec)

/-- ITS FALSE NEIGHBOUR: 'it returns false'. Refute it at one input. -/
def frameJoinsWrong : ChangeSpec := { name := "frameJoins", fn := fun _ => fun
  | [d1, d2] => { results := [.lit (.bool false)], args := [d1, d2] }
  | _ => none }
def FrameJoinsWrongFalsely : Prop := frameJoinsRow.holds Try.pinned (OpenSpec.ofChange frameJoinsWrong)

/-- 'louverlaw13.ShapeInstrs': WHATEVER THE INPUT: true; the input reads as it did. -/
def shapeInstrsSpec : ChangeSpec := { name := "shapeInstrs", fn := fun _ => fun
  | [d1, d2, d3] => { results := [.lit (.bool true)], args := [d1, d2, d3] }
  | _ => none }
def shapeInstrsRow : OpenClaim := { program := "ytnngilpiajgobaa", sum := "d40b7ff7c7e106161ea368b10d005a8680864f9816cdbb7910715837456c4421", func := "louver/louverlaw13.ShapeInstrs", spec := "shapeInstrs", apart := false }
def ShapeInstrsSaid : Prop := shapeInstrsRow.holds Try.pinned (OpenSpec.ofChange shapeInstrsSpec)

/-- ITS FALSE NEIGHBOUR: 'it returns false'. Refute it at one input. -/
def shapeInstrsWrong : ChangeSpec := { name := "shapeInstrs", fn := fun _ => fun
  | [d1, d2, d3] => { results := [.lit (.bool false)], args := [d1, d2, d3] }
  | _ => none }
def ShapeInstrsWrongFalsely : Prop := shapeInstrsRow.holds Try.pinned (OpenSpec.ofChange shapeInstrsWrong)

/-- 'louverlaw13.ShapeChecks': WHATEVER THE INPUT: true; the input reads as it did. -/
def shapeChecksSpec : ChangeSpec := { name := "shapeChecks", fn := fun _ => fun
  | [d] => { results := [.lit (.bool true)], args := [d] }
  | _ => none }
def shapeChecksRow : OpenClaim := { program := "ytnngilpiajgobaa", sum := "d40b7ff7c7e106161ea368b10d005a8680864f9816cdbb7910715837456c4421", func := "louver/louverlaw13.ShapeChecks", spec := "shapeChecks", apart := false }
def ShapeChecksSaid : Prop := shapeChecksRow.holds Try.pinned (OpenSpec.ofChange shapeChecksSpec)

/-- ITS FALSE NEIGHBOUR: 'it returns false'. Refute it at one input. -/
def shapeChecksWrong : ChangeSpec := { name := "shapeChecks", fn := fun _ => fun
  | [d] => { results := [.lit (.bool false)], args := [d] }
  | _ => none }
def ShapeChecksWrongFalsely : Prop := shapeChecksRow.holds Try.pinned (OpenSpec.ofChange shapeChecksWrong)

/-- 'louverlaw13.ShapeGraph': WHATEVER THE INPUT: true; the input reads as it did. -/
def shapeGraphSpec : ChangeSpec := { name := "shapeGraph", fn := fun _ => fun
  | [d] => { results := [.lit (.bool true)], args := [d] }
  | _ => none }
def shapeGraphRow : OpenClaim := { program := "ytnngilpiajgobaa", sum := "d40b7ff7c7e106161ea368b10d005a8680864f9816cdbb7910715837456c4421", func := "louver/louverlaw13.ShapeGraph", spec := "shapeGraph", apart := false }
def ShapeGraphSaid : Prop := shapeGraphRow.holds Try.pinned (OpenSpec.ofChange shapeGraphSpec)

/-- ITS FALSE NEIGHBOUR: 'it returns false'. Refute it at one input. -/
def shapeGraphWrong : ChangeSpec := { name := "shapeGraph", fn := fun _ => fun
  | [d] => { results := [.lit (.bool false)], args := [d] }
  | _ => none }
def ShapeGraphWrongFalsely : Prop := shapeGraphRow.holds Try.pinned (OpenSpec.ofChange shapeGraphWrong)

/-- 'louverlaw13.ShapeMore': WHATEVER THE INPUT: true; the input reads as it did. -/
def shapeMoreSpec : ChangeSpec := { name := "shapeMore", fn := fun _ => fun
  | [d1, d2, d3] => { results := [.lit (.bool true)], args := [d1, d2, d3] }
  | _ => none }
def shapeMoreRow : OpenClaim := { program := "ytnngilpiajgobaa", sum := "d40b7ff7c7e106161ea368b10d005a8680864f9816cdbb7910715837456c4421", func := "louver/louverlaw13.ShapeMore", spec := "shapeMore", apart := false }
def ShapeMoreSaid : Prop := shapeMoreRow.holds Try.pinned (OpenSpec.ofChange shapeMoreSpec)

/-- ITS FALSE NEIGHBOUR: 'it returns false'. Refute it at one input. -/
def shapeMoreWrong : ChangeSpec := { name := "shapeMore", fn := fun _ => fun
  | [d1, d2, d3] => { results := [.lit (.bool false)], args := [d1, d2, d3] }
  | _ => none }
def ShapeMoreWrongFalsely : Prop := shapeMoreRow.holds Try.pinned (OpenSpec.ofChange shapeMoreWrong)

/- THE SECOND FORM. 'bulk': how many values and letters a reading holds, each counted each time it is reached (what is shared counts as often as it is met; a slice's spare places count too). A statement '..UptoSaid' is the law's where the arguments, and the package variables that the reading takes, are together of bulk at most 1048576: NARROWER than '..Said'. Prove '..Said' where nothing that the law and all that it calls make is longer than what came in: it says more and counts as full. Else prove '..UptoSaid'. A law counts once. -/
mutual
def uptoBulk {H : Type} : DataW H → Nat
  | .lit (.string bytes) => bytes.length + 1
  | .lit _ => 1
  | .nil => 1
  | .ptr d => uptoBulk d + 1
  | .slice elems spare => uptoBulkAll elems + uptoBulkAll spare + 1
  | .agg parts => uptoBulkAll parts + 1
  | .iface _ d => uptoBulk d + 1
  | .map entries => uptoBulkEntries entries + 1
  | .held _ => 1
def uptoBulkAll {H : Type} : List (DataW H) → Nat
  | [] => 0
  | d :: r => uptoBulk d + uptoBulkAll r
def uptoBulkEntries {H : Type} : List (Lit × DataW H) → Nat
  | [] => 0
  | x :: r => uptoBulkEntry x + uptoBulkEntries r
def uptoBulkEntry {H : Type} : Lit × DataW H → Nat
  | (.string bytes, d) => bytes.length + uptoBulk d + 1
  | (_, d) => uptoBulk d + 1
 end
def uptoSmall : (H : Type) → List (DataW H) → Bool := fun _ ds => decide (uptoBulkAll ds ≤ 1048576)
def OpenSpec.upto (s : _root_.Go.ChangeSpec) : _root_.Go.OpenSpec := { _root_.Go.OpenSpec.ofChange s with cond := some uptoSmall }

/-- 'louverlaw17.FrameJoins', WHERE WHAT IT READS IS OF BULK AT MOST 1048576: true; the input reads as it did. -/
def frameJoinsUptoRow : OpenClaim := { program := "ytnngilpiajgobaa", sum := "d40b7ff7c7e106161ea368b10d005a8680864f9816cdbb7910715837456c4421", func := "louver/louverlaw17.FrameJoins", spec := "frameJoins", apart := false, narrowed := true }
def FrameJoinsUptoSaid : Prop := frameJoinsUptoRow.holds Try.pinned (OpenSpec.upto frameJoinsSpec)

/-- 'louverlaw13.ShapeInstrs', WHERE WHAT IT READS IS OF BULK AT MOST 1048576: true; the input reads as it did. -/
def shapeInstrsUptoRow : OpenClaim := { program := "ytnngilpiajgobaa", sum := "d40b7ff7c7e106161ea368b10d005a8680864f9816cdbb7910715837456c4421", func := "louver/louverlaw13.ShapeInstrs", spec := "shapeInstrs", apart := false, narrowed := true }
def ShapeInstrsUptoSaid : Prop := shapeInstrsUptoRow.holds Try.pinned (OpenSpec.upto shapeInstrsSpec)

/-- 'louverlaw13.ShapeChecks', WHERE WHAT IT READS IS OF BULK AT MOST 1048576: true; the input reads as it did. -/
def shapeChecksUptoRow : OpenClaim := { program := "ytnngilpiajgobaa", sum := "d40b7ff7c7e106161ea368b10d005a8680864f9816cdbb7910715837456c4421", func := "louver/louverlaw13.ShapeChecks", spec := "shapeChecks", apart := false, narrowed := true }
def ShapeChecksUptoSaid : Prop := shapeChecksUptoRow.holds Try.pinned (OpenSpec.upto shapeChecksSpec)

/-- 'louverlaw13.ShapeGraph', WHERE WHAT IT READS IS OF BULK AT MOST 1048576: true; the input reads as it did. -/
def shapeGraphUptoRow : OpenClaim := { program := "ytnngilpiajgobaa", sum := "d40b7ff7c7e106161ea368b10d005a8680864f9816cdbb7910715837456c4421", func := "louver/louverlaw13.ShapeGraph", spec := "shapeGraph", apart := false, narrowed := true }
def ShapeGraphUptoSaid : Prop := shapeGraphUptoRow.holds Try.pinned (OpenSpec.upto shapeGraphSpec)

/-- 'louverlaw13.ShapeMore', WHERE WHAT IT READS IS OF BULK AT MOST 1048576: true; the input reads as it did. -/
def shapeMoreUptoRow : OpenClaim := { program := "ytnngilpiajgobaa", sum := "d40b7ff7c7e106161ea368b10d005a8680864f9816cdbb7910715837456c4421", func := "louver/louverlaw13.ShapeMore", spec := "shapeMore", apart := false, narrowed := true }
def ShapeMoreUptoSaid : Prop := shapeMoreUptoRow.holds Try.pinned (OpenSpec.upto shapeMoreSpec)

end Rows
end Go.Proofs.Ytnngilpiajgobaa
