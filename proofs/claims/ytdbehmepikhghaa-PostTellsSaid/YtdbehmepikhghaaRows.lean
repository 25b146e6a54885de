/-
  No cell of these rows narrows 'for every input' (looked for: loops, veiled, ifaces, maps, wideKeys, modest, calm, conditions, laid).
  DERIVED. THE GIVEN ROWS OF THIS SEAT. 9 by the template 'for every input the law returns true; each argument reads behind the call as it read before'; 0 by the template 'total and deterministic' (their statements: YtdbehmepikhghaaTotals.lean).
  GIVEN WITH THE SEED: the statements are not yours to turn. If you find one false, say at which input.
  Laid BY PROGRAM, IN A SANDBOX (cutbox-rows.mjs): the forced cells as the released guide's own fill.sh prints them over the translation ca3aedcde784bee6… (all of the seat's roots in one cut). By AI agents, Wed Nov 11 2026. No macro, syntax, notation, axiom, sorry.
-/
import Derived.Test.YtdbehmepikhghaaChecked
import GoSem.Claim
import GoSem.ClaimJoined
import GoSem.ClaimMapViews
import Derived.JoinedTies
import Derived.KernelRfl
namespace Go.Proofs.Ytdbehmepikhghaa
/- THE CELL 'sum', in the pinned program and in every row, IS THE sha256 OF THE DUMP (.gsa) THAT YtdbehmepikhghaaProg.lean LOADS. Nothing in Lean hashes anything: it is a label: what it is worth is what the hold of that sum in a sandbox is worth. -/
noncomputable def Try.pinned : Pinned := { name := "ytdbehmepikhghaa", sum := "ca3aedcde784bee6cf7b93790975a11b8e8deaa5dac4b2f445599ca251ca9ebd", checked := Try.checked }
namespace Rows
def none {H : Type} : Left H := { results := [], args := [] }

/-- 'louverlaw14.GraphEdges': WHATEVER THE INPUT: true; the input reads as it did. -/
def graphEdgesSpec : ChangeSpec := { name := "graphEdges", fn := fun _ => fun
  | [d1, d2] => { results := [.lit (.bool true)], args := [d1, d2] }
  | _ => none }
def graphEdgesRow : OpenClaim := { program := "ytdbehmepikhghaa", sum := "ca3aedcde784bee6cf7b93790975a11b8e8deaa5dac4b2f445599ca251ca9ebd", func := "louver/louverlaw14.GraphEdges", spec := "graphEdges", unfollowed := true, recurses := true, apart := false }
def GraphEdgesSaid : Prop := graphEdgesRow.holds Try.pinned (OpenSpec.ofChange graphEdgesSpec)

/-- ITS FALSE NEIGHBOUR: 'it returns false'. Refute it at one input. -/
def graphEdgesWrong : ChangeSpec := { name := "graphEdges", fn := fun _ => fun
  | [d1, d2] => { results := [.lit (.bool false)], args := [d1, d2] }
  | _ => none }
def GraphEdgesWrongFalsely : Prop := graphEdgesRow.holds Try.pinned (OpenSpec.ofChange graphEdgesWrong)

/-- 'louverlaw14.GraphTells': WHATEVER THE INPUT: true; the input reads as it did. -/
def graphTellsSpec : ChangeSpec := { name := "graphTells", fn := fun _ => fun
  | [d1, d2] => { results := [.lit (.bool true)], args := [d1, d2] }
  | _ => none }
def graphTellsRow : OpenClaim := { program := "ytdbehmepikhghaa", sum := "ca3aedcde784bee6cf7b93790975a11b8e8deaa5dac4b2f445599ca251ca9ebd", func := "louver/louverlaw14.GraphTells", spec := "graphTells", unfollowed := true, recurses := true, apart := false }
def GraphTellsSaid : Prop := graphTellsRow.holds Try.pinned (OpenSpec.ofChange graphTellsSpec)

/-- ITS FALSE NEIGHBOUR: 'it returns false'. Refute it at one input. -/
def graphTellsWrong : ChangeSpec := { name := "graphTells", fn := fun _ => fun
  | [d1, d2] => { results := [.lit (.bool false)], args := [d1, d2] }
  | _ => none }
def GraphTellsWrongFalsely : Prop := graphTellsRow.holds Try.pinned (OpenSpec.ofChange graphTellsWrong)

/-- 'louverlaw14.GraphKnown': WHATEVER THE INPUT: true; the input reads as it did. -/
def graphKnownSpec : ChangeSpec := { name := "graphKnown", fn := fun _ => fun
  | [] => { results := [.lit (.bool true)], args := [] }
  | _ => none }
def graphKnownRow : OpenClaim := { program := "ytdbehmepikhghaa", sum := "ca3aedcde784bee6cf7b93790975a11b8e8deaa5dac4b2f445599ca251ca9ebd", func := "louver/louverlaw14.GraphKnown", spec := "graphKnown", unfollowed := true, recurses := true, apart := false }
def GraphKnownSaid : Prop := graphKnownRow.holds Try.pinned (OpenSpec.ofChange graphKnownSpec)

/-- ITS FALSE NEIGHBOUR: 'it returns false'. Refute it at one input. -/
def graphKnownWrong : ChangeSpec := { name := "graphKnown", fn := fun _ => fun
  | [] => { results := [.lit (.bool false)], args := [] }
  | _ => none }
def GraphKnownWrongFalsely : Prop := graphKnownRow.holds Try.pinned (OpenSpec.ofChange graphKnownWrong)

/-- 'louverlaw14.GraphWays': WHATEVER THE INPUT: true; the input reads as it did. -/
def graphWaysSpec : ChangeSpec := { name := "graphWays", fn := fun _ => fun
  | [d1, d2] => { results := [.lit (.bool true)], args := [d1, d2] }
  | _ => none }
def graphWaysRow : OpenClaim := { program := "ytdbehmepikhghaa", sum := "ca3aedcde784bee6cf7b93790975a11b8e8deaa5dac4b2f445599ca251ca9ebd", func := "louver/louverlaw14.GraphWays", spec := "graphWays", unfollowed := true, recurses := true, apart := false }
def GraphWaysSaid : Prop := graphWaysRow.holds Try.pinned (OpenSpec.ofChange graphWaysSpec)

/-- ITS FALSE NEIGHBOUR: 'it returns false'. Refute it at one input. -/
def graphWaysWrong : ChangeSpec := { name := "graphWays", fn := fun _ => fun
  | [d1, d2] => { results := [.lit (.bool false)], args := [d1, d2] }
  | _ => none }
def GraphWaysWrongFalsely : Prop := graphWaysRow.holds Try.pinned (OpenSpec.ofChange graphWaysWrong)

/-- 'louverlaw15.PostTells': WHATEVER THE INPUT: true; the input reads as it did. -/
def postTellsSpec : ChangeSpec := { name := "postTells", fn := fun _ => fun
  | [d1, d2, d3] => { results := [.lit (.bool true)], args := [d1, d2, d3] }
  | _ => none }
def postTellsRow : OpenClaim := { program := "ytdbehmepikhghaa", sum := "ca3aedcde784bee6cf7b93790975a11b8e8deaa5dac4b2f445599ca251ca9ebd", func := "louver/louverlaw15.PostTells", spec := "postTells", unfollowed := true, recurses := true, apart := false }
def PostTellsSaid : Prop := postTellsRow.holds Try.pinned (OpenSpec.ofChange postTellsSpec)

/-- ITS FALSE NEIGHBOUR: 'it returns false'. Refute it at one input. -/
def postTellsWrong : ChangeSpec := { name := "postTells", fn := fun _ => fun
  | [d1, d2, d3] => { results := [.lit (.bool false)], args := [d1, d2, d3] }
  | _ => none }
def PostTellsWrongFalsely : Prop := postTellsRow.holds Try.pinned (OpenSpec.ofChange postTellsWrong)

/-- 'louverlaw15.PostKnown': WHATEVER THE INPUT: true; the input reads as it did. -/
def postKnownSpec : ChangeSpec := { name := "postKnown", fn := fun _ => fun
  | [] => { results := [.lit (.bool true)], args := [] }
  | _ => none }
def postKnownRow : OpenClaim := { program := "ytdbehmepikhghaa", sum := "ca3aedcde784bee6cf7b93790975a11b8e8deaa5dac4b2f445599ca251ca9ebd", func := "louver/louverlaw15.PostKnown", spec := "postKnown", unfollowed := true, recurses := true, apart := false }
def PostKnownSaid : Prop := postKnownRow.holds Try.pinned (OpenSpec.ofChange postKnownSpec)

/-- ITS FALSE NEIGHBOUR: 'it returns false'. Refute it at one input. -/
def postKnownWrong : ChangeSpec := { name := "postKnown", fn := fun _ => fun
  | [] => { results := [.lit (.bool false)], args := [] }
  | _ => none }
def PostKnownWrongFalsely : Prop := postKnownRow.holds Try.pinned (OpenSpec.ofChange postKnownWrong)

/-- 'louverlaw15.PostTree': WHATEVER THE INPUT: true; the input reads as it did. -/
def postTreeSpec : ChangeSpec := { name := "postTree", fn := fun _ => fun
  | [d] => { results := [.lit (.bool true)], args := [d] }
  | _ => none }
def postTreeRow : OpenClaim := { program := "ytdbehmepikhghaa", sum := "ca3aedcde784bee6cf7b93790975a11b8e8deaa5dac4b2f445599ca251ca9ebd", func := "louver/louverlaw15.PostTree", spec := "postTree", unfollowed := true, recurses := true, apart := false }
def PostTreeSaid : Prop := postTreeRow.holds Try.pinned (OpenSpec.ofChange postTreeSpec)

/-- ITS FALSE NEIGHBOUR: 'it returns false'. Refute it at one input. -/
def postTreeWrong : ChangeSpec := { name := "postTree", fn := fun _ => fun
  | [d] => { results := [.lit (.bool false)], args := [d] }
  | _ => none }
def PostTreeWrongFalsely : Prop := postTreeRow.holds Try.pinned (OpenSpec.ofChange postTreeWrong)

/-- 'louvertop.TopPost': WHATEVER THE INPUT: true; the input reads as it did. -/
def topPostSpec : ChangeSpec := { name := "topPost", fn := fun _ => fun
  | [d] => { results := [.lit (.bool true)], args := [d] }
  | _ => none }
def topPostRow : OpenClaim := { program := "ytdbehmepikhghaa", sum := "ca3aedcde784bee6cf7b93790975a11b8e8deaa5dac4b2f445599ca251ca9ebd", func := "louver/louvertop.TopPost", spec := "topPost", inPlace := ["slices.overlaps[int]"], unfollowed := true, recurses := true, apart := false }
def TopPostSaid : Prop := topPostRow.holds Try.pinned (OpenSpec.ofChange topPostSpec)

/-- ITS FALSE NEIGHBOUR: 'it returns false'. Refute it at one input. -/
def topPostWrong : ChangeSpec := { name := "topPost", fn := fun _ => fun
  | [d] => { results := [.lit (.bool false)], args := [d] }
  | _ => none }
def TopPostWrongFalsely : Prop := topPostRow.holds Try.pinned (OpenSpec.ofChange topPostWrong)

/-- 'louverlaw15.PostWays': WHATEVER THE INPUT: true; the input reads as it did. -/
def postWaysSpec : ChangeSpec := { name := "postWays", fn := fun _ => fun
  | [d] => { results := [.lit (.bool true)], args := [d] }
  | _ => none }
def postWaysRow : OpenClaim := { program := "ytdbehmepikhghaa", sum := "ca3aedcde784bee6cf7b93790975a11b8e8deaa5dac4b2f445599ca251ca9ebd", func := "louver/louverlaw15.PostWays", spec := "postWays", unfollowed := true, recurses := true, apart := false }
def PostWaysSaid : Prop := postWaysRow.holds Try.pinned (OpenSpec.ofChange postWaysSpec)

/-- ITS FALSE NEIGHBOUR: 'it returns false'. Refute it at one input. -/
def postWaysWrong : ChangeSpec := { name := "postWays", fn := fun _ => fun
  | [d] => { results := [.lit (.bool false)], args := [d] }
  | _ => none }
def PostWaysWrongFalsely : Prop := postWaysRow.holds Try.pinned (OpenSpec.ofChange postWaysWrong)

/- THE SECOND FORM. 'bulk': how many values and letters a reading holds, each counted each time it is reached (what is shared counts as often as it is met; a slice's spare places count too). A statement '..UptoSaid' is the law's where the arguments, and the package variables that the reading takes, are together of bulk at most 1048576: NARROWER than '..Said'. Prove '..Said' where nothing that the law and all that it calls make is longer than what came in: it says more and counts as full. Else prove '..UptoSaid'. A law counts once. -/
mutual
def uptoBulk {H : Type} : DataW H → Nat
  | .lit (.string bytes) => bytes.length + 1
  | .lit _ => 1
  | .nil => 1
  | .ptr d => uptoBulk d + 1
  | .slice elems spare => uptoBulkAll elems + uptoBulkAll spare + 1
  | .agg parts => uptoBulkAll parts + 1
  | .iface _ d => uptoBulk d + 1
  | .map entries => uptoBulkEntries entries + 1
  | .held _ => 1
def uptoBulkAll {H : Type} : List (DataW H) → Nat
  | [] => 0
  | d :: r => uptoBulk d + uptoBulkAll r
def uptoBulkEntries {H : Type} : List (Lit × DataW H) → Nat
  | [] => 0
  | x :: r => uptoBulkEntry x + uptoBulkEntries r
def uptoBulkEntry {H : Type} : Lit × DataW H → Nat
  | (.string bytes, d) => bytes.length + uptoBulk d + 1
  | (_, d) => uptoBulk d + 1
 end
def uptoSmall : (H : Type) → List (DataW H) → Bool := fun _ ds => decide (uptoBulkAll ds ≤ 1048576)
def OpenSpec.upto (s : _root_.Go.ChangeSpec) : _root_.Go.OpenSpec := { _root_.Go.OpenSpec.ofChange s with cond := some uptoSmall }

/-- 'louverlaw14.GraphEdges', WHERE WHAT IT READS IS OF BULK AT MOST 1048576: true; the input reads as it did. -/
def graphEdgesUptoRow : OpenClaim := { program := "ytdbehmepikhghaa", sum := "ca3aedcde784bee6cf7b93790975a11b8e8deaa5dac4b2f445599ca251ca9ebd", func := "louver/louverlaw14.GraphEdges", spec := "graphEdges", unfollowed := true, recurses := true, apart := false, narrowed := true }
def GraphEdgesUptoSaid : Prop := graphEdgesUptoRow.holds Try.pinned (OpenSpec.upto graphEdgesSpec)

/-- 'louverlaw14.GraphTells', WHERE WHAT IT READS IS OF BULK AT MOST 1048576: true; the input reads as it did. -/
def graphTellsUptoRow : OpenClaim := { program := "ytdbehmepikhghaa", sum := "ca3aedcde784bee6cf7b93790975a11b8e8deaa5dac4b2f445599ca251ca9ebd", func := "louver/louverlaw14.GraphTells", spec := "graphTells", unfollowed := true, recurses := true, apart := false, narrowed := true }
def GraphTellsUptoSaid : Prop := graphTellsUptoRow.holds Try.pinned (OpenSpec.upto graphTellsSpec)

/-- 'louverlaw14.GraphKnown', WHERE WHAT IT READS IS OF BULK AT MOST 1048576: true; the input reads as it did. -/
def graphKnownUptoRow : OpenClaim := { program := "ytdbehmepikhghaa", sum := "ca3aedcde784bee6cf7b93790975a11b8e8deaa5dac4b2f445599ca251ca9ebd", func := "louver/louverlaw14.GraphKnown", spec := "graphKnown", unfollowed := true, recurses := true, apart := false, narrowed := true }
def GraphKnownUptoSaid : Prop := graphKnownUptoRow.holds Try.pinned (OpenSpec.upto graphKnownSpec)

/-- 'louverlaw14.GraphWays', WHERE WHAT IT READS IS OF BULK AT MOST 1048576: true; the input reads as it did. -/
def graphWaysUptoRow : OpenClaim := { program := "ytdbehmepikhghaa", sum := "ca3aedcde784bee6cf7b93790975a11b8e8deaa5dac4b2f445599ca251ca9ebd", func := "louver/louverlaw14.GraphWays", spec := "graphWays", unfollowed := true, recurses := true, apart := false, narrowed := true }
def GraphWaysUptoSaid : Prop := graphWaysUptoRow.holds Try.pinned (OpenSpec.upto graphWaysSpec)

/-- 'louverlaw15.PostTells', WHERE WHAT IT READS IS OF BULK AT MOST 1048576: true; the input reads as it did. -/
def postTellsUptoRow : OpenClaim := { program := "ytdbehmepikhghaa", sum := "ca3aedcde784bee6cf7b93790975a11b8e8deaa5dac4b2f445599ca251ca9ebd", func := "louver/louverlaw15.PostTells", spec := "postTells", unfollowed := true, recurses := true, apart := false, narrowed := true }
def PostTellsUptoSaid : Prop := postTellsUptoRow.holds Try.pinned (OpenSpec.upto postTellsSpec)

/-- 'louverlaw15.PostKnown', WHERE WHAT IT READS IS OF BULK AT MOST 1048576: true; the input reads as it did. -/
def postKnownUptoRow : OpenClaim := { program := "ytdbehmepikhghaa", sum := "ca3aedcde784bee6cf7b93790975a11b8e8deaa5dac4b2f445599ca251ca9ebd", func := "louver/louverlaw15.PostKnown", spec := "postKnown", unfollowed := true, recurses := true, apart := false, narrowed := true }
def PostKnownUptoSaid : Prop := postKnownUptoRow.holds Try.pinned (OpenSpec.upto postKnownSpec)

/-- 'louverlaw15.PostTree', WHERE WHAT IT READS IS OF BULK AT MOST 1048576: true; the input reads as it did. -/
def postTreeUptoRow : OpenClaim := { program := "ytdbehmepikhghaa", sum := "ca3aedcde784bee6cf7b93790975a11b8e8deaa5dac4b2f445599ca251ca9ebd", func := "louver/louverlaw15.PostTree", spec := "postTree", unfollowed := true, recurses := true, apart := false, narrowed := true }
def PostTreeUptoSaid : Prop := postTreeUptoRow.holds Try.pinned (OpenSpec.upto postTreeSpec)

/-- 'louvertop.TopPost', WHERE WHAT IT READS IS OF BULK AT MOST 1048576: true; the input reads as it did. -/
def topPostUptoRow : OpenClaim := { program := "ytdbehmepikhghaa", sum := "ca3aedcde784bee6cf7b93790975a11b8e8deaa5dac4b2f445599ca251ca9ebd", func := "louver/louvertop.TopPost", spec := "topPost", inPlace := ["slices.overlaps[int]"], unfollowed := true, recurses := true, apart := false, narrowed := true }
def TopPostUptoSaid : Prop := topPostUptoRow.holds Try.pinned (OpenSpec.upto topPostSpec)

/-- 'louverlaw15.PostWays', WHERE WHAT IT READS IS OF BULK AT MOST 1048576: true; the input reads as it did. -/
def postWaysUptoRow : OpenClaim := { program := "ytdbehmepikhghaa", sum := "ca3aedcde784bee6cf7b93790975a11b8e8deaa5dac4b2f445599ca251ca9ebd", func := "louver/louverlaw15.PostWays", spec := "postWays", unfollowed := true, recurses := true, apart := false, narrowed := true }
def PostWaysUptoSaid : Prop := postWaysUptoRow.holds Try.pinned (OpenSpec.upto postWaysSpec)

end Rows
end Go.Proofs.Ytdbehmepikhghaa
