/-
  No cell of these rows narrows 'for every input' (looked for: loops, veiled, ifaces, maps, wideKeys, modest, calm, conditions, laid).
  DERIVED. THE GIVEN ROWS OF THIS SEAT. 10 by the template 'for every input the law returns true; each argument reads behind the call as it read before'; 0 by the template 'total and deterministic' (their statements: YtollibkfagjnaaaTotals.lean).
  GIVEN WITH THE SEED: the statements are not yours to turn. If you find one false, say at which input.
  Laid BY PROGRAM, IN A SANDBOX (cutbox-rows.mjs): the forced cells as the released guide's own fill.sh prints them over the translation a1bf13e4ff65ee30… (all of the seat's roots in one cut). By AI agents, Wed Nov 11 2026. No macro, syntax, notation, axiom, sorry.
-/
import Derived.Test.YtollibkfagjnaaaChecked
import GoSem.Claim
import GoSem.ClaimJoined
import GoSem.ClaimMapViews
import Derived.JoinedTies
import Derived.KernelRfl
namespace Go.Proofs.Ytollibkfagjnaaa
/- THE CELL 'sum', in the pinned program and in every row, IS THE sha256 OF THE DUMP (.gsa) THAT YtollibkfagjnaaaProg.lean LOADS. Nothing in Lean hashes anything: it is a label: what it is worth is what the hold of that sum in a sandbox is worth. -/
noncomputable def Try.pinned : Pinned := { name := "ytollibkfagjnaaa", sum := "a1bf13e4ff65ee30d60f88dcd59e4d808cc71be630257d6b731ce3ac4e5f0571", checked := Try.checked }
namespace Rows
def none {H : Type} : Left H := { results := [], args := [] }

/-- 'louverlaw17.FrameSteps': WHATEVER THE INPUT: true; the input reads as it did. -/
def frameStepsSpec : ChangeSpec := { name := "frameSteps", fn := fun _ => fun
  | [d1, d2, d3, d4, d5] => { results := [.lit (.bool true)], args := [d1, d2, d3, d4, d5] }
  | _ => none }
def frameStepsRow : OpenClaim := { program := "ytollibkfagjnaaa", sum := "a1bf13e4ff65ee30d60f88dcd59e4d808cc71be630257d6b731ce3ac4e5f0571", func := "louver/louverlaw17.FrameSteps", spec := "frameSteps", unfollowed := true, recurses := true, apart := false }
def FrameStepsSaid : Prop := frameStepsRow.holds Try.pinned (OpenSpec.ofChange frameStepsSpec)

/-- ITS FALSE NEIGHBOUR: 'it returns false'. Refute it at one input. -/
def frameStepsWrong : ChangeSpec := { name := "frameSteps", fn := fun _ => fun
  | [d1, d2, d3, d4, d5] => { results := [.lit (.bool false)], args := [d1, d2, d3, d4, d5] }
  | _ => none }
def FrameStepsWrongFalsely : Prop := frameStepsRow.holds Try.pinned (OpenSpec.ofChange frameStepsWrong)

/-- 'louverlaw17.FrameHeights': WHATEVER THE INPUT: true; the input reads as it did. -/
def frameHeightsSpec : ChangeSpec := { name := "frameHeights", fn := fun _ => fun
  | [d1, d2, d3] => { results := [.lit (.bool true)], args := [d1, d2, d3] }
  | _ => none }
def frameHeightsRow : OpenClaim := { program := "ytollibkfagjnaaa", sum := "a1bf13e4ff65ee30d60f88dcd59e4d808cc71be630257d6b731ce3ac4e5f0571", func := "louver/louverlaw17.FrameHeights", spec := "frameHeights", inPlace := ["slices.overlaps[int]"], unfollowed := true, recurses := true, apart := false }
def FrameHeightsSaid : Prop := frameHeightsRow.holds Try.pinned (OpenSpec.ofChange frameHeightsSpec)

/-- ITS FALSE NEIGHBOUR: 'it returns false'. Refute it at one input. -/
def frameHeightsWrong : ChangeSpec := { name := "frameHeights", fn := fun _ => fun
  | [d1, d2, d3] => { results := [.lit (.bool false)], args := [d1, d2, d3] }
  | _ => none }
def FrameHeightsWrongFalsely : Prop := frameHeightsRow.holds Try.pinned (OpenSpec.ofChange frameHeightsWrong)

/-- 'louverlaw17.FrameOwn': WHATEVER THE INPUT: true; the input reads as it did. -/
def frameOwnSpec : ChangeSpec := { name := "frameOwn", fn := fun _ => fun
  | [d1, d2, d3, d4, d5] => { results := [.lit (.bool true)], args := [d1, d2, d3, d4, d5] }
  | _ => none }
def frameOwnRow : OpenClaim := { program := "ytollibkfagjnaaa", sum := "a1bf13e4ff65ee30d60f88dcd59e4d808cc71be630257d6b731ce3ac4e5f0571", func := "louver/louverlaw17.FrameOwn", spec := "frameOwn", inPlace := ["slices.overlaps[int]"], unfollowed := true, recurses := true, apart := false }
def FrameOwnSaid : Prop := frameOwnRow.holds Try.pinned (OpenSpec.ofChange frameOwnSpec)

/-- ITS FALSE NEIGHBOUR: 'it returns false'. Refute it at one input. -/
def frameOwnWrong : ChangeSpec := { name := "frameOwn", fn := fun _ => fun
  | [d1, d2, d3, d4, d5] => { results := [.lit (.bool false)], args := [d1, d2, d3, d4, d5] }
  | _ => none }
def FrameOwnWrongFalsely : Prop := frameOwnRow.holds Try.pinned (OpenSpec.ofChange frameOwnWrong)

/-- 'louverlaw17.FrameEdges': WHATEVER THE INPUT: true; the input reads as it did. -/
def frameEdgesSpec : ChangeSpec := { name := "frameEdges", fn := fun _ => fun
  | [d1, d2] => { results := [.lit (.bool true)], args := [d1, d2] }
  | _ => none }
def frameEdgesRow : OpenClaim := { program := "ytollibkfagjnaaa", sum := "a1bf13e4ff65ee30d60f88dcd59e4d808cc71be630257d6b731ce3ac4e5f0571", func := "louver/louverlaw17.FrameEdges", spec := "frameEdges", inPlace := ["slices.overlaps[int]"], unfollowed := true, recurses := true, apart := false }
def FrameEdgesSaid : Prop := frameEdgesRow.holds Try.pinned (OpenSpec.ofChange frameEdgesSpec)

/-- ITS FALSE NEIGHBOUR: 'it returns false'. Refute it at one input. -/
def frameEdgesWrong : ChangeSpec := { name := "frameEdges", fn := fun _ => fun
  | [d1, d2] => { results := [.lit (.bool false)], args := [d1, d2] }
  | _ => none }
def FrameEdgesWrongFalsely : Prop := frameEdgesRow.holds Try.pinned (OpenSpec.ofChange frameEdgesWrong)

/-- 'louverlaw17.FrameGreater': WHATEVER THE INPUT: true; the input reads as it did. -/
def frameGreaterSpec : ChangeSpec := { name := "frameGreater", fn := fun _ => fun
  | [d1, d2, d3, d4, d5, d6, d7] => { results := [.lit (.bool true)], args := [d1, d2, d3, d4, d5, d6, d7] }
  | _ => none }
def frameGreaterRow : OpenClaim := { program := "ytollibkfagjnaaa", sum := "a1bf13e4ff65ee30d60f88dcd59e4d808cc71be630257d6b731ce3ac4e5f0571", func := "louver/louverlaw17.FrameGreater", spec := "frameGreater", inPlace := ["slices.overlaps[int]"], unfollowed := true, recurses := true, apart := false }
def FrameGreaterSaid : Prop := frameGreaterRow.holds Try.pinned (OpenSpec.ofChange frameGreaterSpec)

/-- ITS FALSE NEIGHBOUR: 'it returns false'. Refute it at one input. -/
def frameGreaterWrong : ChangeSpec := { name := "frameGreater", fn := fun _ => fun
  | [d1, d2, d3, d4, d5, d6, d7] => { results := [.lit (.bool false)], args := [d1, d2, d3, d4, d5, d6, d7] }
  | _ => none }
def FrameGreaterWrongFalsely : Prop := frameGreaterRow.holds Try.pinned (OpenSpec.ofChange frameGreaterWrong)

/-- 'louverlaw16.RegionLevels': WHATEVER THE INPUT: true; the input reads as it did. -/
def regionLevelsSpec : ChangeSpec := { name := "regionLevels", fn := fun _ => fun
  | [d1, d2, d3] => { results := [.lit (.bool true)], args := [d1, d2, d3] }
  | _ => none }
def regionLevelsRow : OpenClaim := { program := "ytollibkfagjnaaa", sum := "a1bf13e4ff65ee30d60f88dcd59e4d808cc71be630257d6b731ce3ac4e5f0571", func := "louver/louverlaw16.RegionLevels", spec := "regionLevels", unfollowed := true, recurses := true, apart := false }
def RegionLevelsSaid : Prop := regionLevelsRow.holds Try.pinned (OpenSpec.ofChange regionLevelsSpec)

/-- ITS FALSE NEIGHBOUR: 'it returns false'. Refute it at one input. -/
def regionLevelsWrong : ChangeSpec := { name := "regionLevels", fn := fun _ => fun
  | [d1, d2, d3] => { results := [.lit (.bool false)], args := [d1, d2, d3] }
  | _ => none }
def RegionLevelsWrongFalsely : Prop := regionLevelsRow.holds Try.pinned (OpenSpec.ofChange regionLevelsWrong)

/-- 'louverlaw16.RegionTells': WHATEVER THE INPUT: true; the input reads as it did. -/
def regionTellsSpec : ChangeSpec := { name := "regionTells", fn := fun _ => fun
  | [d1, d2] => { results := [.lit (.bool true)], args := [d1, d2] }
  | _ => none }
def regionTellsRow : OpenClaim := { program := "ytollibkfagjnaaa", sum := "a1bf13e4ff65ee30d60f88dcd59e4d808cc71be630257d6b731ce3ac4e5f0571", func := "louver/louverlaw16.RegionTells", spec := "regionTells", unfollowed := true, recurses := true, apart := false }
def RegionTellsSaid : Prop := regionTellsRow.holds Try.pinned (OpenSpec.ofChange regionTellsSpec)

/-- ITS FALSE NEIGHBOUR: 'it returns false'. Refute it at one input. -/
def regionTellsWrong : ChangeSpec := { name := "regionTells", fn := fun _ => fun
  | [d1, d2] => { results := [.lit (.bool false)], args := [d1, d2] }
  | _ => none }
def RegionTellsWrongFalsely : Prop := regionTellsRow.holds Try.pinned (OpenSpec.ofChange regionTellsWrong)

/-- 'louverlaw16.RegionKnown': WHATEVER THE INPUT: true; the input reads as it did. -/
def regionKnownSpec : ChangeSpec := { name := "regionKnown", fn := fun _ => fun
  | [] => { results := [.lit (.bool true)], args := [] }
  | _ => none }
def regionKnownRow : OpenClaim := { program := "ytollibkfagjnaaa", sum := "a1bf13e4ff65ee30d60f88dcd59e4d808cc71be630257d6b731ce3ac4e5f0571", func := "louver/louverlaw16.RegionKnown", spec := "regionKnown", unfollowed := true, recurses := true, apart := false }
def RegionKnownSaid : Prop := regionKnownRow.holds Try.pinned (OpenSpec.ofChange regionKnownSpec)

/-- ITS FALSE NEIGHBOUR: 'it returns false'. Refute it at one input. -/
def regionKnownWrong : ChangeSpec := { name := "regionKnown", fn := fun _ => fun
  | [] => { results := [.lit (.bool false)], args := [] }
  | _ => none }
def RegionKnownWrongFalsely : Prop := regionKnownRow.holds Try.pinned (OpenSpec.ofChange regionKnownWrong)

/-- 'louverlaw16.RegionRises': WHATEVER THE INPUT: true; the input reads as it did. -/
def regionRisesSpec : ChangeSpec := { name := "regionRises", fn := fun _ => fun
  | [d1, d2, d3, d4, d5] => { results := [.lit (.bool true)], args := [d1, d2, d3, d4, d5] }
  | _ => none }
def regionRisesRow : OpenClaim := { program := "ytollibkfagjnaaa", sum := "a1bf13e4ff65ee30d60f88dcd59e4d808cc71be630257d6b731ce3ac4e5f0571", func := "louver/louverlaw16.RegionRises", spec := "regionRises", unfollowed := true, recurses := true, apart := false }
def RegionRisesSaid : Prop := regionRisesRow.holds Try.pinned (OpenSpec.ofChange regionRisesSpec)

/-- ITS FALSE NEIGHBOUR: 'it returns false'. Refute it at one input. -/
def regionRisesWrong : ChangeSpec := { name := "regionRises", fn := fun _ => fun
  | [d1, d2, d3, d4, d5] => { results := [.lit (.bool false)], args := [d1, d2, d3, d4, d5] }
  | _ => none }
def RegionRisesWrongFalsely : Prop := regionRisesRow.holds Try.pinned (OpenSpec.ofChange regionRisesWrong)

/-- 'louverlaw16.RegionClosed': WHATEVER THE INPUT: true; the input reads as it did. -/
def regionClosedSpec : ChangeSpec := { name := "regionClosed", fn := fun _ => fun
  | [d] => { results := [.lit (.bool true)], args := [d] }
  | _ => none }
def regionClosedRow : OpenClaim := { program := "ytollibkfagjnaaa", sum := "a1bf13e4ff65ee30d60f88dcd59e4d808cc71be630257d6b731ce3ac4e5f0571", func := "louver/louverlaw16.RegionClosed", spec := "regionClosed", unfollowed := true, recurses := true, apart := false }
def RegionClosedSaid : Prop := regionClosedRow.holds Try.pinned (OpenSpec.ofChange regionClosedSpec)

/-- ITS FALSE NEIGHBOUR: 'it returns false'. Refute it at one input. -/
def regionClosedWrong : ChangeSpec := { name := "regionClosed", fn := fun _ => fun
  | [d] => { results := [.lit (.bool false)], args := [d] }
  | _ => none }
def RegionClosedWrongFalsely : Prop := regionClosedRow.holds Try.pinned (OpenSpec.ofChange regionClosedWrong)

/- THE SECOND FORM. 'bulk': how many values and letters a reading holds, each counted each time it is reached (what is shared counts as often as it is met; a slice's spare places count too). A statement '..UptoSaid' is the law's where the arguments, and the package variables that the reading takes, are together of bulk at most 1048576: NARROWER than '..Said'. Prove '..Said' where nothing that the law and all that it calls make is longer than what came in: it says more and counts as full. Else prove '..UptoSaid'. A law counts once. -/
mutual
def uptoBulk {H : Type} : DataW H → Nat
  | .lit (.string bytes) => bytes.length + 1
  | .lit _ => 1
  | .nil => 1
  | .ptr d => uptoBulk d + 1
  | .slice elems spare => uptoBulkAll elems + uptoBulkAll spare + 1
  | .agg parts => uptoBulkAll parts + 1
  | .iface _ d => uptoBulk d + 1
  | .map entries => uptoBulkEntries entries + 1
  | .held _ => 1
def uptoBulkAll {H : Type} : List (DataW H) → Nat
  | [] => 0
  | d :: r => uptoBulk d + uptoBulkAll r
def uptoBulkEntries {H : Type} : List (Lit × DataW H) → Nat
  | [] => 0
  | x :: r => uptoBulkEntry x + uptoBulkEntries r
def uptoBulkEntry {H : Type} : Lit × DataW H → Nat
  | (.string bytes, d) => bytes.length + uptoBulk d + 1
  | (_, d) => uptoBulk d + 1
 end
def uptoSmall : (H : Type) → List (DataW H) → Bool := fun _ ds => decide (uptoBulkAll ds ≤ 1048576)
def OpenSpec.upto (s : _root_.Go.ChangeSpec) : _root_.Go.OpenSpec := { _root_.Go.OpenSpec.ofChange s with cond := some uptoSmall }

/-- 'louverlaw17.FrameSteps', WHERE WHAT IT READS IS OF BULK AT MOST 1048576: true; the input reads as it did. -/
def frameStepsUptoRow : OpenClaim := { program := "ytollibkfagjnaaa", sum := "a1bf13e4ff65ee30d60f88dcd59e4d808cc71be630257d6b731ce3ac4e5f0571", func := "louver/louverlaw17.FrameSteps", spec := "frameSteps", unfollowed := true, recurses := true, apart := false, narrowed := true }
def FrameStepsUptoSaid : Prop := frameStepsUptoRow.holds Try.pinned (OpenSpec.upto frameStepsSpec)

/-- 'louverlaw17.FrameHeights', WHERE WHAT IT READS IS OF BULK AT MOST 1048576: true; the input reads as it did. -/
def frameHeightsUptoRow : OpenClaim := { program := "ytollibkfagjnaaa", sum := "a1bf13e4ff65ee30d60f88dcd59e4d808cc71be630257d6b731ce3ac4e5f0571", func := "louver/louverlaw17.FrameHeights", spec := "frameHeights", inPlace := ["slices.overlaps[int]"], unfollowed := true, recurses := true, apart := false, narrowed := true }
def FrameHeightsUptoSaid : Prop := frameHeightsUptoRow.holds Try.pinned (OpenSpec.upto frameHeightsSpec)

/-- 'louverlaw17.FrameOwn', WHERE WHAT IT READS IS OF BULK AT MOST 1048576: true; the input reads as it did. -/
def frameOwnUptoRow : OpenClaim := { program := "ytollibkfagjnaaa", sum := "a1bf13e4ff65ee30d60f88dcd59e4d808cc71be630257d6b731ce3ac4e5f0571", func := "louver/louverlaw17.FrameOwn", spec := "frameOwn", inPlace := ["slices.overlaps[int]"], unfollowed := true, recurses := true, apart := false, narrowed := true }
def FrameOwnUptoSaid : Prop := frameOwnUptoRow.holds Try.pinned (OpenSpec.upto frameOwnSpec)

/-- 'louverlaw17.FrameEdges', WHERE WHAT IT READS IS OF BULK AT MOST 1048576: true; the input reads as it did. -/
def frameEdgesUptoRow : OpenClaim := { program := "ytollibkfagjnaaa", sum := "a1bf13e4ff65ee30d60f88dcd59e4d808cc71be630257d6b731ce3ac4e5f0571", func := "louver/louverlaw17.FrameEdges", spec := "frameEdges", inPlace := ["slices.overlaps[int]"], unfollowed := true, recurses := true, apart := false, narrowed := true }
def FrameEdgesUptoSaid : Prop := frameEdgesUptoRow.holds Try.pinned (OpenSpec.upto frameEdgesSpec)

/-- 'louverlaw17.FrameGreater', WHERE WHAT IT READS IS OF BULK AT MOST 1048576: true; the input reads as it did. -/
def frameGreaterUptoRow : OpenClaim := { program := "ytollibkfagjnaaa", sum := "a1bf13e4ff65ee30d60f88dcd59e4d808cc71be630257d6b731ce3ac4e5f0571", func := "louver/louverlaw17.FrameGreater", spec := "frameGreater", inPlace := ["slices.overlaps[int]"], unfollowed := true, recurses := true, apart := false, narrowed := true }
def FrameGreaterUptoSaid : Prop := frameGreaterUptoRow.holds Try.pinned (OpenSpec.upto frameGreaterSpec)

/-- 'louverlaw16.RegionLevels', WHERE WHAT IT READS IS OF BULK AT MOST 1048576: true; the input reads as it did. -/
def regionLevelsUptoRow : OpenClaim := { program := "ytollibkfagjnaaa", sum := "a1bf13e4ff65ee30d60f88dcd59e4d808cc71be630257d6b731ce3ac4e5f0571", func := "louver/louverlaw16.RegionLevels", spec := "regionLevels", unfollowed := true, recurses := true, apart := false, narrowed := true }
def RegionLevelsUptoSaid : Prop := regionLevelsUptoRow.holds Try.pinned (OpenSpec.upto regionLevelsSpec)

/-- 'louverlaw16.RegionTells', WHERE WHAT IT READS IS OF BULK AT MOST 1048576: true; the input reads as it did. -/
def regionTellsUptoRow : OpenClaim := { program := "ytollibkfagjnaaa", sum := "a1bf13e4ff65ee30d60f88dcd59e4d808cc71be630257d6b731ce3ac4e5f0571", func := "louver/louverlaw16.RegionTells", spec := "regionTells", unfollowed := true, recurses := true, apart := false, narrowed := true }
def RegionTellsUptoSaid : Prop := regionTellsUptoRow.holds Try.pinned (OpenSpec.upto regionTellsSpec)

/-- 'louverlaw16.RegionKnown', WHERE WHAT IT READS IS OF BULK AT MOST 1048576: true; the input reads as it did. -/
def regionKnownUptoRow : OpenClaim := { program := "ytollibkfagjnaaa", sum := "a1bf13e4ff65ee30d60f88dcd59e4d808cc71be630257d6b731ce3ac4e5f0571", func := "louver/louverlaw16.RegionKnown", spec := "regionKnown", unfollowed := true, recurses := true, apart := false, narrowed := true }
def RegionKnownUptoSaid : Prop := regionKnownUptoRow.holds Try.pinned (OpenSpec.upto regionKnownSpec)

/-- 'louverlaw16.RegionRises', WHERE WHAT IT READS IS OF BULK AT MOST 1048576: true; the input reads as it did. -/
def regionRisesUptoRow : OpenClaim := { program := "ytollibkfagjnaaa", sum := "a1bf13e4ff65ee30d60f88dcd59e4d808cc71be630257d6b731ce3ac4e5f0571", func := "louver/louverlaw16.RegionRises", spec := "regionRises", unfollowed := true, recurses := true, apart := false, narrowed := true }
def RegionRisesUptoSaid : Prop := regionRisesUptoRow.holds Try.pinned (OpenSpec.upto regionRisesSpec)

/-- 'louverlaw16.RegionClosed', WHERE WHAT IT READS IS OF BULK AT MOST 1048576: true; the input reads as it did. -/
def regionClosedUptoRow : OpenClaim := { program := "ytollibkfagjnaaa", sum := "a1bf13e4ff65ee30d60f88dcd59e4d808cc71be630257d6b731ce3ac4e5f0571", func := "louver/louverlaw16.RegionClosed", spec := "regionClosed", unfollowed := true, recurses := true, apart := false, narrowed := true }
def RegionClosedUptoSaid : Prop := regionClosedUptoRow.holds Try.pinned (OpenSpec.upto regionClosedSpec)

end Rows
end Go.Proofs.Ytollibkfagjnaaa
