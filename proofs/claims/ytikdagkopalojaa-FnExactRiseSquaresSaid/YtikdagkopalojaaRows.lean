/-
  No cell of these rows narrows 'for every input' (looked for: loops, veiled, ifaces, maps, wideKeys, modest, calm, conditions, laid).
  DERIVED. THE GIVEN ROWS OF THIS SEAT. 7 by the template 'for every input the law returns true; each argument reads behind the call as it read before'; 0 by the template 'total and deterministic' (their statements: YtikdagkopalojaaTotals.lean).
  GIVEN WITH THE SEED: the statements are not yours to turn. If you find one false, say at which input.
  Laid BY PROGRAM, IN A SANDBOX (cutbox-rows.mjs): the forced cells as the released guide's own fill.sh prints them over the translation 8cb50e65291c9662… (all of the seat's roots in one cut). By AI agents, Wed Nov 11 2026. No macro, syntax, notation, axiom, sorry.
-/
import Derived.Test.YtikdagkopalojaaChecked
import GoSem.Claim
import GoSem.ClaimJoined
import GoSem.ClaimMapViews
import Derived.JoinedTies
import Derived.KernelRfl
namespace Go.Proofs.Ytikdagkopalojaa
/- THE CELL 'sum', in the pinned program and in every row, IS THE sha256 OF THE DUMP (.gsa) THAT YtikdagkopalojaaProg.lean LOADS. Nothing in Lean hashes anything: it is a label: what it is worth is what the hold of that sum in a sandbox is worth. -/
noncomputable def Try.pinned : Pinned := { name := "ytikdagkopalojaa", sum := "8cb50e65291c96626d8570fe58c948a56122b0bec0df0def78d8e4d6c000c150", checked := Try.checked }
namespace Rows
def none {H : Type} : Left H := { results := [], args := [] }

/-- 'laws.FnExactAreRises': WHATEVER THE INPUT: true; the input reads as it did. -/
def fnExactAreRisesSpec : ChangeSpec := { name := "fnExactAreRises", fn := fun _ => fun
  | [d1, d2] => { results := [.lit (.bool true)], args := [d1, d2] }
  | _ => none }
def fnExactAreRisesRow : OpenClaim := { program := "ytikdagkopalojaa", sum := "8cb50e65291c96626d8570fe58c948a56122b0bec0df0def78d8e4d6c000c150", func := "loop.example/g01341/laws.FnExactAreRises", spec := "fnExactAreRises", unfollowed := true, recurses := true, apart := false }
def FnExactAreRisesSaid : Prop := fnExactAreRisesRow.holds Try.pinned (OpenSpec.ofChange fnExactAreRisesSpec)

/-- ITS FALSE NEIGHBOUR: 'it returns false'. Refute it at one input. -/
def fnExactAreRisesWrong : ChangeSpec := { name := "fnExactAreRises", fn := fun _ => fun
  | [d1, d2] => { results := [.lit (.bool false)], args := [d1, d2] }
  | _ => none }
def FnExactAreRisesWrongFalsely : Prop := fnExactAreRisesRow.holds Try.pinned (OpenSpec.ofChange fnExactAreRisesWrong)

/-- 'laws.FnExactAreLegs': WHATEVER THE INPUT: true; the input reads as it did. -/
def fnExactAreLegsSpec : ChangeSpec := { name := "fnExactAreLegs", fn := fun _ => fun
  | [d] => { results := [.lit (.bool true)], args := [d] }
  | _ => none }
def fnExactAreLegsRow : OpenClaim := { program := "ytikdagkopalojaa", sum := "8cb50e65291c96626d8570fe58c948a56122b0bec0df0def78d8e4d6c000c150", func := "loop.example/g01341/laws.FnExactAreLegs", spec := "fnExactAreLegs", unfollowed := true, recurses := true, apart := false }
def FnExactAreLegsSaid : Prop := fnExactAreLegsRow.holds Try.pinned (OpenSpec.ofChange fnExactAreLegsSpec)

/-- ITS FALSE NEIGHBOUR: 'it returns false'. Refute it at one input. -/
def fnExactAreLegsWrong : ChangeSpec := { name := "fnExactAreLegs", fn := fun _ => fun
  | [d] => { results := [.lit (.bool false)], args := [d] }
  | _ => none }
def FnExactAreLegsWrongFalsely : Prop := fnExactAreLegsRow.holds Try.pinned (OpenSpec.ofChange fnExactAreLegsWrong)

/-- 'laws.FnExactRiseSquares': WHATEVER THE INPUT: true; the input reads as it did. -/
def fnExactRiseSquaresSpec : ChangeSpec := { name := "fnExactRiseSquares", fn := fun _ => fun
  | [d1, d2] => { results := [.lit (.bool true)], args := [d1, d2] }
  | _ => none }
def fnExactRiseSquaresRow : OpenClaim := { program := "ytikdagkopalojaa", sum := "8cb50e65291c96626d8570fe58c948a56122b0bec0df0def78d8e4d6c000c150", func := "loop.example/g01341/laws.FnExactRiseSquares", spec := "fnExactRiseSquares", inPlace := ["math.sqrt"], unfollowed := true, recurses := true, apart := false }
def FnExactRiseSquaresSaid : Prop := fnExactRiseSquaresRow.holds Try.pinned (OpenSpec.ofChange fnExactRiseSquaresSpec)

/-- ITS FALSE NEIGHBOUR: 'it returns false'. Refute it at one input. -/
def fnExactRiseSquaresWrong : ChangeSpec := { name := "fnExactRiseSquares", fn := fun _ => fun
  | [d1, d2] => { results := [.lit (.bool false)], args := [d1, d2] }
  | _ => none }
def FnExactRiseSquaresWrongFalsely : Prop := fnExactRiseSquaresRow.holds Try.pinned (OpenSpec.ofChange fnExactRiseSquaresWrong)

/-- 'laws.FnExactRiseMiss': WHATEVER THE INPUT: true; the input reads as it did. -/
def fnExactRiseMissSpec : ChangeSpec := { name := "fnExactRiseMiss", fn := fun _ => fun
  | [d] => { results := [.lit (.bool true)], args := [d] }
  | _ => none }
def fnExactRiseMissRow : OpenClaim := { program := "ytikdagkopalojaa", sum := "8cb50e65291c96626d8570fe58c948a56122b0bec0df0def78d8e4d6c000c150", func := "loop.example/g01341/laws.FnExactRiseMiss", spec := "fnExactRiseMiss", unfollowed := true, recurses := true, apart := false }
def FnExactRiseMissSaid : Prop := fnExactRiseMissRow.holds Try.pinned (OpenSpec.ofChange fnExactRiseMissSpec)

/-- ITS FALSE NEIGHBOUR: 'it returns false'. Refute it at one input. -/
def fnExactRiseMissWrong : ChangeSpec := { name := "fnExactRiseMiss", fn := fun _ => fun
  | [d] => { results := [.lit (.bool false)], args := [d] }
  | _ => none }
def FnExactRiseMissWrongFalsely : Prop := fnExactRiseMissRow.holds Try.pinned (OpenSpec.ofChange fnExactRiseMissWrong)

/-- 'laws.FnExactRiseHeights': WHATEVER THE INPUT: true; the input reads as it did. -/
def fnExactRiseHeightsSpec : ChangeSpec := { name := "fnExactRiseHeights", fn := fun _ => fun
  | [d1, d2] => { results := [.lit (.bool true)], args := [d1, d2] }
  | _ => none }
def fnExactRiseHeightsRow : OpenClaim := { program := "ytikdagkopalojaa", sum := "8cb50e65291c96626d8570fe58c948a56122b0bec0df0def78d8e4d6c000c150", func := "loop.example/g01341/laws.FnExactRiseHeights", spec := "fnExactRiseHeights", unfollowed := true, recurses := true, apart := false }
def FnExactRiseHeightsSaid : Prop := fnExactRiseHeightsRow.holds Try.pinned (OpenSpec.ofChange fnExactRiseHeightsSpec)

/-- ITS FALSE NEIGHBOUR: 'it returns false'. Refute it at one input. -/
def fnExactRiseHeightsWrong : ChangeSpec := { name := "fnExactRiseHeights", fn := fun _ => fun
  | [d1, d2] => { results := [.lit (.bool false)], args := [d1, d2] }
  | _ => none }
def FnExactRiseHeightsWrongFalsely : Prop := fnExactRiseHeightsRow.holds Try.pinned (OpenSpec.ofChange fnExactRiseHeightsWrong)

/-- 'laws.FnExactShareMiss': WHATEVER THE INPUT: true; the input reads as it did. -/
def fnExactShareMissSpec : ChangeSpec := { name := "fnExactShareMiss", fn := fun _ => fun
  | [d] => { results := [.lit (.bool true)], args := [d] }
  | _ => none }
def fnExactShareMissRow : OpenClaim := { program := "ytikdagkopalojaa", sum := "8cb50e65291c96626d8570fe58c948a56122b0bec0df0def78d8e4d6c000c150", func := "loop.example/g01341/laws.FnExactShareMiss", spec := "fnExactShareMiss", unfollowed := true, recurses := true, apart := false }
def FnExactShareMissSaid : Prop := fnExactShareMissRow.holds Try.pinned (OpenSpec.ofChange fnExactShareMissSpec)

/-- ITS FALSE NEIGHBOUR: 'it returns false'. Refute it at one input. -/
def fnExactShareMissWrong : ChangeSpec := { name := "fnExactShareMiss", fn := fun _ => fun
  | [d] => { results := [.lit (.bool false)], args := [d] }
  | _ => none }
def FnExactShareMissWrongFalsely : Prop := fnExactShareMissRow.holds Try.pinned (OpenSpec.ofChange fnExactShareMissWrong)

/-- 'laws.FnExactSolveEven': WHATEVER THE INPUT: true; the input reads as it did. -/
def fnExactSolveEvenSpec : ChangeSpec := { name := "fnExactSolveEven", fn := fun _ => fun
  | [d1, d2] => { results := [.lit (.bool true)], args := [d1, d2] }
  | _ => none }
def fnExactSolveEvenRow : OpenClaim := { program := "ytikdagkopalojaa", sum := "8cb50e65291c96626d8570fe58c948a56122b0bec0df0def78d8e4d6c000c150", func := "loop.example/g01341/laws.FnExactSolveEven", spec := "fnExactSolveEven", inPlace := ["math.sqrt"], apart := false }
def FnExactSolveEvenSaid : Prop := fnExactSolveEvenRow.holds Try.pinned (OpenSpec.ofChange fnExactSolveEvenSpec)

/-- ITS FALSE NEIGHBOUR: 'it returns false'. Refute it at one input. -/
def fnExactSolveEvenWrong : ChangeSpec := { name := "fnExactSolveEven", fn := fun _ => fun
  | [d1, d2] => { results := [.lit (.bool false)], args := [d1, d2] }
  | _ => none }
def FnExactSolveEvenWrongFalsely : Prop := fnExactSolveEvenRow.holds Try.pinned (OpenSpec.ofChange fnExactSolveEvenWrong)

/- THE SECOND FORM. 'bulk': how many values and letters a reading holds, each counted each time it is reached (what is shared counts as often as it is met; a slice's spare places count too). A statement '..UptoSaid' is the law's where the arguments, and the package variables that the reading takes, are together of bulk at most 1048576: NARROWER than '..Said'. Prove '..Said' where nothing that the law and all that it calls make is longer than what came in: it says more and counts as full. Else prove '..UptoSaid'. A law counts once. -/
mutual
def uptoBulk {H : Type} : DataW H → Nat
  | .lit (.string bytes) => bytes.length + 1
  | .lit _ => 1
  | .nil => 1
  | .ptr d => uptoBulk d + 1
  | .slice elems spare => uptoBulkAll elems + uptoBulkAll spare + 1
  | .agg parts => uptoBulkAll parts + 1
  | .iface _ d => uptoBulk d + 1
  | .map entries => uptoBulkEntries entries + 1
  | .held _ => 1
def uptoBulkAll {H : Type} : List (DataW H) → Nat
  | [] => 0
  | d :: r => uptoBulk d + uptoBulkAll r
def uptoBulkEntries {H : Type} : List (Lit × DataW H) → Nat
  | [] => 0
  | x :: r => uptoBulkEntry x + uptoBulkEntries r
def uptoBulkEntry {H : Type} : Lit × DataW H → Nat
  | (.string bytes, d) => bytes.length + uptoBulk d + 1
  | (_, d) => uptoBulk d + 1
 end
def uptoSmall : (H : Type) → List (DataW H) → Bool := fun _ ds => decide (uptoBulkAll ds ≤ 1048576)
def OpenSpec.upto (s : _root_.Go.ChangeSpec) : _root_.Go.OpenSpec := { _root_.Go.OpenSpec.ofChange s with cond := some uptoSmall }

/-- 'laws.FnExactAreRises', WHERE WHAT IT READS IS OF BULK AT MOST 1048576: true; the input reads as it did. -/
def fnExactAreRisesUptoRow : OpenClaim := { program := "ytikdagkopalojaa", sum := "8cb50e65291c96626d8570fe58c948a56122b0bec0df0def78d8e4d6c000c150", func := "loop.example/g01341/laws.FnExactAreRises", spec := "fnExactAreRises", unfollowed := true, recurses := true, apart := false, narrowed := true }
def FnExactAreRisesUptoSaid : Prop := fnExactAreRisesUptoRow.holds Try.pinned (OpenSpec.upto fnExactAreRisesSpec)

/-- 'laws.FnExactAreLegs', WHERE WHAT IT READS IS OF BULK AT MOST 1048576: true; the input reads as it did. -/
def fnExactAreLegsUptoRow : OpenClaim := { program := "ytikdagkopalojaa", sum := "8cb50e65291c96626d8570fe58c948a56122b0bec0df0def78d8e4d6c000c150", func := "loop.example/g01341/laws.FnExactAreLegs", spec := "fnExactAreLegs", unfollowed := true, recurses := true, apart := false, narrowed := true }
def FnExactAreLegsUptoSaid : Prop := fnExactAreLegsUptoRow.holds Try.pinned (OpenSpec.upto fnExactAreLegsSpec)

/-- 'laws.FnExactRiseSquares', WHERE WHAT IT READS IS OF BULK AT MOST 1048576: true; the input reads as it did. -/
def fnExactRiseSquaresUptoRow : OpenClaim := { program := "ytikdagkopalojaa", sum := "8cb50e65291c96626d8570fe58c948a56122b0bec0df0def78d8e4d6c000c150", func := "loop.example/g01341/laws.FnExactRiseSquares", spec := "fnExactRiseSquares", inPlace := ["math.sqrt"], unfollowed := true, recurses := true, apart := false, narrowed := true }
def FnExactRiseSquaresUptoSaid : Prop := fnExactRiseSquaresUptoRow.holds Try.pinned (OpenSpec.upto fnExactRiseSquaresSpec)

/-- 'laws.FnExactRiseMiss', WHERE WHAT IT READS IS OF BULK AT MOST 1048576: true; the input reads as it did. -/
def fnExactRiseMissUptoRow : OpenClaim := { program := "ytikdagkopalojaa", sum := "8cb50e65291c96626d8570fe58c948a56122b0bec0df0def78d8e4d6c000c150", func := "loop.example/g01341/laws.FnExactRiseMiss", spec := "fnExactRiseMiss", unfollowed := true, recurses := true, apart := false, narrowed := true }
def FnExactRiseMissUptoSaid : Prop := fnExactRiseMissUptoRow.holds Try.pinned (OpenSpec.upto fnExactRiseMissSpec)

/-- 'laws.FnExactRiseHeights', WHERE WHAT IT READS IS OF BULK AT MOST 1048576: true; the input reads as it did. -/
def fnExactRiseHeightsUptoRow : OpenClaim := { program := "ytikdagkopalojaa", sum := "8cb50e65291c96626d8570fe58c948a56122b0bec0df0def78d8e4d6c000c150", func := "loop.example/g01341/laws.FnExactRiseHeights", spec := "fnExactRiseHeights", unfollowed := true, recurses := true, apart := false, narrowed := true }
def FnExactRiseHeightsUptoSaid : Prop := fnExactRiseHeightsUptoRow.holds Try.pinned (OpenSpec.upto fnExactRiseHeightsSpec)

/-- 'laws.FnExactShareMiss', WHERE WHAT IT READS IS OF BULK AT MOST 1048576: true; the input reads as it did. -/
def fnExactShareMissUptoRow : OpenClaim := { program := "ytikdagkopalojaa", sum := "8cb50e65291c96626d8570fe58c948a56122b0bec0df0def78d8e4d6c000c150", func := "loop.example/g01341/laws.FnExactShareMiss", spec := "fnExactShareMiss", unfollowed := true, recurses := true, apart := false, narrowed := true }
def FnExactShareMissUptoSaid : Prop := fnExactShareMissUptoRow.holds Try.pinned (OpenSpec.upto fnExactShareMissSpec)

/-- 'laws.FnExactSolveEven', WHERE WHAT IT READS IS OF BULK AT MOST 1048576: true; the input reads as it did. -/
def fnExactSolveEvenUptoRow : OpenClaim := { program := "ytikdagkopalojaa", sum := "8cb50e65291c96626d8570fe58c948a56122b0bec0df0def78d8e4d6c000c150", func := "loop.example/g01341/laws.FnExactSolveEven", spec := "fnExactSolveEven", inPlace := ["math.sqrt"], apart := false, narrowed := true }
def FnExactSolveEvenUptoSaid : Prop := fnExactSolveEvenUptoRow.holds Try.pinned (OpenSpec.upto fnExactSolveEvenSpec)

end Rows
end Go.Proofs.Ytikdagkopalojaa
