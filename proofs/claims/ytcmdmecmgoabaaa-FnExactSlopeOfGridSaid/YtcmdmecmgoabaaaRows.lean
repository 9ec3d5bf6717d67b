/-
  No cell of these rows narrows 'for every input' (looked for: loops, veiled, ifaces, maps, wideKeys, modest, calm, conditions, laid).
  DERIVED. THE GIVEN ROWS OF THIS SEAT. 11 by the template 'for every input the law returns true; each argument reads behind the call as it read before'; 0 by the template 'total and deterministic' (their statements: YtcmdmecmgoabaaaTotals.lean).
  GIVEN WITH THE SEED: the statements are not yours to turn. If you find one false, say at which input.
  Laid BY PROGRAM, IN A SANDBOX (cutbox-rows.mjs): the forced cells as the released guide's own fill.sh prints them over the translation 9bf84e2ba5f07562… (all of the seat's roots in one cut). By AI agents, Wed Nov 11 2026. No macro, syntax, notation, axiom, sorry.
-/
import Derived.Test.YtcmdmecmgoabaaaChecked
import GoSem.Claim
import GoSem.ClaimJoined
import GoSem.ClaimMapViews
import Derived.JoinedTies
import Derived.KernelRfl
namespace Go.Proofs.Ytcmdmecmgoabaaa
/- THE CELL 'sum', in the pinned program and in every row, IS THE sha256 OF THE DUMP (.gsa) THAT YtcmdmecmgoabaaaProg.lean LOADS. Nothing in Lean hashes anything: it is a label: what it is worth is what the hold of that sum in a sandbox is worth. -/
noncomputable def Try.pinned : Pinned := { name := "ytcmdmecmgoabaaa", sum := "9bf84e2ba5f075624b2877ff0a3574cc5eba47ae630c50486c6f7c840bae8205", checked := Try.checked }
namespace Rows
def none {H : Type} : Left H := { results := [], args := [] }

/-- 'laws.FnExactDropOf': WHATEVER THE INPUT: true; the input reads as it did. -/
def fnExactDropOfSpec : ChangeSpec := { name := "fnExactDropOf", fn := fun _ => fun
  | [d1, d2] => { results := [.lit (.bool true)], args := [d1, d2] }
  | _ => none }
def fnExactDropOfRow : OpenClaim := { program := "ytcmdmecmgoabaaa", sum := "9bf84e2ba5f075624b2877ff0a3574cc5eba47ae630c50486c6f7c840bae8205", func := "loop.example/g01341/laws.FnExactDropOf", spec := "fnExactDropOf", apart := false }
def FnExactDropOfSaid : Prop := fnExactDropOfRow.holds Try.pinned (OpenSpec.ofChange fnExactDropOfSpec)

/-- ITS FALSE NEIGHBOUR: 'it returns false'. Refute it at one input. -/
def fnExactDropOfWrong : ChangeSpec := { name := "fnExactDropOf", fn := fun _ => fun
  | [d1, d2] => { results := [.lit (.bool false)], args := [d1, d2] }
  | _ => none }
def FnExactDropOfWrongFalsely : Prop := fnExactDropOfRow.holds Try.pinned (OpenSpec.ofChange fnExactDropOfWrong)

/-- 'laws.FnExactValidGrid': WHATEVER THE INPUT: true; the input reads as it did. -/
def fnExactValidGridSpec : ChangeSpec := { name := "fnExactValidGrid", fn := fun _ => fun
  | [d] => { results := [.lit (.bool true)], args := [d] }
  | _ => none }
def fnExactValidGridRow : OpenClaim := { program := "ytcmdmecmgoabaaa", sum := "9bf84e2ba5f075624b2877ff0a3574cc5eba47ae630c50486c6f7c840bae8205", func := "loop.example/g01341/laws.FnExactValidGrid", spec := "fnExactValidGrid", apart := false }
def FnExactValidGridSaid : Prop := fnExactValidGridRow.holds Try.pinned (OpenSpec.ofChange fnExactValidGridSpec)

/-- ITS FALSE NEIGHBOUR: 'it returns false'. Refute it at one input. -/
def fnExactValidGridWrong : ChangeSpec := { name := "fnExactValidGrid", fn := fun _ => fun
  | [d] => { results := [.lit (.bool false)], args := [d] }
  | _ => none }
def FnExactValidGridWrongFalsely : Prop := fnExactValidGridRow.holds Try.pinned (OpenSpec.ofChange fnExactValidGridWrong)

/-- 'laws.FnExactSameGrid': WHATEVER THE INPUT: true; the input reads as it did. -/
def fnExactSameGridSpec : ChangeSpec := { name := "fnExactSameGrid", fn := fun _ => fun
  | [d1, d2] => { results := [.lit (.bool true)], args := [d1, d2] }
  | _ => none }
def fnExactSameGridRow : OpenClaim := { program := "ytcmdmecmgoabaaa", sum := "9bf84e2ba5f075624b2877ff0a3574cc5eba47ae630c50486c6f7c840bae8205", func := "loop.example/g01341/laws.FnExactSameGrid", spec := "fnExactSameGrid", inPlace := ["math.Float32bits"], unfollowed := true, recurses := true, apart := false }
def FnExactSameGridSaid : Prop := fnExactSameGridRow.holds Try.pinned (OpenSpec.ofChange fnExactSameGridSpec)

/-- ITS FALSE NEIGHBOUR: 'it returns false'. Refute it at one input. -/
def fnExactSameGridWrong : ChangeSpec := { name := "fnExactSameGrid", fn := fun _ => fun
  | [d1, d2] => { results := [.lit (.bool false)], args := [d1, d2] }
  | _ => none }
def FnExactSameGridWrongFalsely : Prop := fnExactSameGridRow.holds Try.pinned (OpenSpec.ofChange fnExactSameGridWrong)

/-- 'laws.FnExactSharesAbove': WHATEVER THE INPUT: true; the input reads as it did. -/
def fnExactSharesAboveSpec : ChangeSpec := { name := "fnExactSharesAbove", fn := fun _ => fun
  | [d1, d2] => { results := [.lit (.bool true)], args := [d1, d2] }
  | _ => none }
def fnExactSharesAboveRow : OpenClaim := { program := "ytcmdmecmgoabaaa", sum := "9bf84e2ba5f075624b2877ff0a3574cc5eba47ae630c50486c6f7c840bae8205", func := "loop.example/g01341/laws.FnExactSharesAbove", spec := "fnExactSharesAbove", apart := false }
def FnExactSharesAboveSaid : Prop := fnExactSharesAboveRow.holds Try.pinned (OpenSpec.ofChange fnExactSharesAboveSpec)

/-- ITS FALSE NEIGHBOUR: 'it returns false'. Refute it at one input. -/
def fnExactSharesAboveWrong : ChangeSpec := { name := "fnExactSharesAbove", fn := fun _ => fun
  | [d1, d2] => { results := [.lit (.bool false)], args := [d1, d2] }
  | _ => none }
def FnExactSharesAboveWrongFalsely : Prop := fnExactSharesAboveRow.holds Try.pinned (OpenSpec.ofChange fnExactSharesAboveWrong)

/-- 'laws.FnExactFlatGrid': WHATEVER THE INPUT: true; the input reads as it did. -/
def fnExactFlatGridSpec : ChangeSpec := { name := "fnExactFlatGrid", fn := fun _ => fun
  | [d1, d2, d3] => { results := [.lit (.bool true)], args := [d1, d2, d3] }
  | _ => none }
def fnExactFlatGridRow : OpenClaim := { program := "ytcmdmecmgoabaaa", sum := "9bf84e2ba5f075624b2877ff0a3574cc5eba47ae630c50486c6f7c840bae8205", func := "loop.example/g01341/laws.FnExactFlatGrid", spec := "fnExactFlatGrid", unfollowed := true, recurses := true, apart := false }
def FnExactFlatGridSaid : Prop := fnExactFlatGridRow.holds Try.pinned (OpenSpec.ofChange fnExactFlatGridSpec)

/-- ITS FALSE NEIGHBOUR: 'it returns false'. Refute it at one input. -/
def fnExactFlatGridWrong : ChangeSpec := { name := "fnExactFlatGrid", fn := fun _ => fun
  | [d1, d2, d3] => { results := [.lit (.bool false)], args := [d1, d2, d3] }
  | _ => none }
def FnExactFlatGridWrongFalsely : Prop := fnExactFlatGridRow.holds Try.pinned (OpenSpec.ofChange fnExactFlatGridWrong)

/-- 'laws.FnExactMassAbove': WHATEVER THE INPUT: true; the input reads as it did. -/
def fnExactMassAboveSpec : ChangeSpec := { name := "fnExactMassAbove", fn := fun _ => fun
  | [d1, d2] => { results := [.lit (.bool true)], args := [d1, d2] }
  | _ => none }
def fnExactMassAboveRow : OpenClaim := { program := "ytcmdmecmgoabaaa", sum := "9bf84e2ba5f075624b2877ff0a3574cc5eba47ae630c50486c6f7c840bae8205", func := "loop.example/g01341/laws.FnExactMassAbove", spec := "fnExactMassAbove", apart := false }
def FnExactMassAboveSaid : Prop := fnExactMassAboveRow.holds Try.pinned (OpenSpec.ofChange fnExactMassAboveSpec)

/-- ITS FALSE NEIGHBOUR: 'it returns false'. Refute it at one input. -/
def fnExactMassAboveWrong : ChangeSpec := { name := "fnExactMassAbove", fn := fun _ => fun
  | [d1, d2] => { results := [.lit (.bool false)], args := [d1, d2] }
  | _ => none }
def FnExactMassAboveWrongFalsely : Prop := fnExactMassAboveRow.holds Try.pinned (OpenSpec.ofChange fnExactMassAboveWrong)

/-- 'laws.FnExactSlopeOfGrid': WHATEVER THE INPUT: true; the input reads as it did. -/
def fnExactSlopeOfGridSpec : ChangeSpec := { name := "fnExactSlopeOfGrid", fn := fun _ => fun
  | [d1, d2] => { results := [.lit (.bool true)], args := [d1, d2] }
  | _ => none }
def fnExactSlopeOfGridRow : OpenClaim := { program := "ytcmdmecmgoabaaa", sum := "9bf84e2ba5f075624b2877ff0a3574cc5eba47ae630c50486c6f7c840bae8205", func := "loop.example/g01341/laws.FnExactSlopeOfGrid", spec := "fnExactSlopeOfGrid", apart := false }
def FnExactSlopeOfGridSaid : Prop := fnExactSlopeOfGridRow.holds Try.pinned (OpenSpec.ofChange fnExactSlopeOfGridSpec)

/-- ITS FALSE NEIGHBOUR: 'it returns false'. Refute it at one input. -/
def fnExactSlopeOfGridWrong : ChangeSpec := { name := "fnExactSlopeOfGrid", fn := fun _ => fun
  | [d1, d2] => { results := [.lit (.bool false)], args := [d1, d2] }
  | _ => none }
def FnExactSlopeOfGridWrongFalsely : Prop := fnExactSlopeOfGridRow.holds Try.pinned (OpenSpec.ofChange fnExactSlopeOfGridWrong)

/-- 'laws.FnExactWeighGrids': WHATEVER THE INPUT: true; the input reads as it did. -/
def fnExactWeighGridsSpec : ChangeSpec := { name := "fnExactWeighGrids", fn := fun _ => fun
  | [d1, d2, d3, d4] => { results := [.lit (.bool true)], args := [d1, d2, d3, d4] }
  | _ => none }
def fnExactWeighGridsRow : OpenClaim := { program := "ytcmdmecmgoabaaa", sum := "9bf84e2ba5f075624b2877ff0a3574cc5eba47ae630c50486c6f7c840bae8205", func := "loop.example/g01341/laws.FnExactWeighGrids", spec := "fnExactWeighGrids", unfollowed := true, recurses := true, apart := false }
def FnExactWeighGridsSaid : Prop := fnExactWeighGridsRow.holds Try.pinned (OpenSpec.ofChange fnExactWeighGridsSpec)

/-- ITS FALSE NEIGHBOUR: 'it returns false'. Refute it at one input. -/
def fnExactWeighGridsWrong : ChangeSpec := { name := "fnExactWeighGrids", fn := fun _ => fun
  | [d1, d2, d3, d4] => { results := [.lit (.bool false)], args := [d1, d2, d3, d4] }
  | _ => none }
def FnExactWeighGridsWrongFalsely : Prop := fnExactWeighGridsRow.holds Try.pinned (OpenSpec.ofChange fnExactWeighGridsWrong)

/-- 'laws.FnExactPeaksOf': WHATEVER THE INPUT: true; the input reads as it did. -/
def fnExactPeaksOfSpec : ChangeSpec := { name := "fnExactPeaksOf", fn := fun _ => fun
  | [d] => { results := [.lit (.bool true)], args := [d] }
  | _ => none }
def fnExactPeaksOfRow : OpenClaim := { program := "ytcmdmecmgoabaaa", sum := "9bf84e2ba5f075624b2877ff0a3574cc5eba47ae630c50486c6f7c840bae8205", func := "loop.example/g01341/laws.FnExactPeaksOf", spec := "fnExactPeaksOf", unfollowed := true, recurses := true, apart := false }
def FnExactPeaksOfSaid : Prop := fnExactPeaksOfRow.holds Try.pinned (OpenSpec.ofChange fnExactPeaksOfSpec)

/-- ITS FALSE NEIGHBOUR: 'it returns false'. Refute it at one input. -/
def fnExactPeaksOfWrong : ChangeSpec := { name := "fnExactPeaksOf", fn := fun _ => fun
  | [d] => { results := [.lit (.bool false)], args := [d] }
  | _ => none }
def FnExactPeaksOfWrongFalsely : Prop := fnExactPeaksOfRow.holds Try.pinned (OpenSpec.ofChange fnExactPeaksOfWrong)

/-- 'laws.FnExactRoughGrid': WHATEVER THE INPUT: true; the input reads as it did. -/
def fnExactRoughGridSpec : ChangeSpec := { name := "fnExactRoughGrid", fn := fun _ => fun
  | [d] => { results := [.lit (.bool true)], args := [d] }
  | _ => none }
def fnExactRoughGridRow : OpenClaim := { program := "ytcmdmecmgoabaaa", sum := "9bf84e2ba5f075624b2877ff0a3574cc5eba47ae630c50486c6f7c840bae8205", func := "loop.example/g01341/laws.FnExactRoughGrid", spec := "fnExactRoughGrid", inPlace := ["math.sqrt"], apart := false }
def FnExactRoughGridSaid : Prop := fnExactRoughGridRow.holds Try.pinned (OpenSpec.ofChange fnExactRoughGridSpec)

/-- ITS FALSE NEIGHBOUR: 'it returns false'. Refute it at one input. -/
def fnExactRoughGridWrong : ChangeSpec := { name := "fnExactRoughGrid", fn := fun _ => fun
  | [d] => { results := [.lit (.bool false)], args := [d] }
  | _ => none }
def FnExactRoughGridWrongFalsely : Prop := fnExactRoughGridRow.holds Try.pinned (OpenSpec.ofChange fnExactRoughGridWrong)

/-- 'laws.FnExactFillPits': WHATEVER THE INPUT: true; the input reads as it did. -/
def fnExactFillPitsSpec : ChangeSpec := { name := "fnExactFillPits", fn := fun _ => fun
  | [d] => { results := [.lit (.bool true)], args := [d] }
  | _ => none }
def fnExactFillPitsRow : OpenClaim := { program := "ytcmdmecmgoabaaa", sum := "9bf84e2ba5f075624b2877ff0a3574cc5eba47ae630c50486c6f7c840bae8205", func := "loop.example/g01341/laws.FnExactFillPits", spec := "fnExactFillPits", apart := false }
def FnExactFillPitsSaid : Prop := fnExactFillPitsRow.holds Try.pinned (OpenSpec.ofChange fnExactFillPitsSpec)

/-- ITS FALSE NEIGHBOUR: 'it returns false'. Refute it at one input. -/
def fnExactFillPitsWrong : ChangeSpec := { name := "fnExactFillPits", fn := fun _ => fun
  | [d] => { results := [.lit (.bool false)], args := [d] }
  | _ => none }
def FnExactFillPitsWrongFalsely : Prop := fnExactFillPitsRow.holds Try.pinned (OpenSpec.ofChange fnExactFillPitsWrong)

/- THE SECOND FORM. 'bulk': how many values and letters a reading holds, each counted each time it is reached (what is shared counts as often as it is met; a slice's spare places count too). A statement '..UptoSaid' is the law's where the arguments, and the package variables that the reading takes, are together of bulk at most 1048576: NARROWER than '..Said'. Prove '..Said' where nothing that the law and all that it calls make is longer than what came in: it says more and counts as full. Else prove '..UptoSaid'. A law counts once. -/
mutual
def uptoBulk {H : Type} : DataW H → Nat
  | .lit (.string bytes) => bytes.length + 1
  | .lit _ => 1
  | .nil => 1
  | .ptr d => uptoBulk d + 1
  | .slice elems spare => uptoBulkAll elems + uptoBulkAll spare + 1
  | .agg parts => uptoBulkAll parts + 1
  | .iface _ d => uptoBulk d + 1
  | .map entries => uptoBulkEntries entries + 1
  | .held _ => 1
def uptoBulkAll {H : Type} : List (DataW H) → Nat
  | [] => 0
  | d :: r => uptoBulk d + uptoBulkAll r
def uptoBulkEntries {H : Type} : List (Lit × DataW H) → Nat
  | [] => 0
  | x :: r => uptoBulkEntry x + uptoBulkEntries r
def uptoBulkEntry {H : Type} : Lit × DataW H → Nat
  | (.string bytes, d) => bytes.length + uptoBulk d + 1
  | (_, d) => uptoBulk d + 1
 end
def uptoSmall : (H : Type) → List (DataW H) → Bool := fun _ ds => decide (uptoBulkAll ds ≤ 1048576)
def OpenSpec.upto (s : _root_.Go.ChangeSpec) : _root_.Go.OpenSpec := { _root_.Go.OpenSpec.ofChange s with cond := some uptoSmall }

/-- 'laws.FnExactDropOf', WHERE WHAT IT READS IS OF BULK AT MOST 1048576: true; the input reads as it did. -/
def fnExactDropOfUptoRow : OpenClaim := { program := "ytcmdmecmgoabaaa", sum := "9bf84e2ba5f075624b2877ff0a3574cc5eba47ae630c50486c6f7c840bae8205", func := "loop.example/g01341/laws.FnExactDropOf", spec := "fnExactDropOf", apart := false, narrowed := true }
def FnExactDropOfUptoSaid : Prop := fnExactDropOfUptoRow.holds Try.pinned (OpenSpec.upto fnExactDropOfSpec)

/-- 'laws.FnExactValidGrid', WHERE WHAT IT READS IS OF BULK AT MOST 1048576: true; the input reads as it did. -/
def fnExactValidGridUptoRow : OpenClaim := { program := "ytcmdmecmgoabaaa", sum := "9bf84e2ba5f075624b2877ff0a3574cc5eba47ae630c50486c6f7c840bae8205", func := "loop.example/g01341/laws.FnExactValidGrid", spec := "fnExactValidGrid", apart := false, narrowed := true }
def FnExactValidGridUptoSaid : Prop := fnExactValidGridUptoRow.holds Try.pinned (OpenSpec.upto fnExactValidGridSpec)

/-- 'laws.FnExactSameGrid', WHERE WHAT IT READS IS OF BULK AT MOST 1048576: true; the input reads as it did. -/
def fnExactSameGridUptoRow : OpenClaim := { program := "ytcmdmecmgoabaaa", sum := "9bf84e2ba5f075624b2877ff0a3574cc5eba47ae630c50486c6f7c840bae8205", func := "loop.example/g01341/laws.FnExactSameGrid", spec := "fnExactSameGrid", inPlace := ["math.Float32bits"], unfollowed := true, recurses := true, apart := false, narrowed := true }
def FnExactSameGridUptoSaid : Prop := fnExactSameGridUptoRow.holds Try.pinned (OpenSpec.upto fnExactSameGridSpec)

/-- 'laws.FnExactSharesAbove', WHERE WHAT IT READS IS OF BULK AT MOST 1048576: true; the input reads as it did. -/
def fnExactSharesAboveUptoRow : OpenClaim := { program := "ytcmdmecmgoabaaa", sum := "9bf84e2ba5f075624b2877ff0a3574cc5eba47ae630c50486c6f7c840bae8205", func := "loop.example/g01341/laws.FnExactSharesAbove", spec := "fnExactSharesAbove", apart := false, narrowed := true }
def FnExactSharesAboveUptoSaid : Prop := fnExactSharesAboveUptoRow.holds Try.pinned (OpenSpec.upto fnExactSharesAboveSpec)

/-- 'laws.FnExactFlatGrid', WHERE WHAT IT READS IS OF BULK AT MOST 1048576: true; the input reads as it did. -/
def fnExactFlatGridUptoRow : OpenClaim := { program := "ytcmdmecmgoabaaa", sum := "9bf84e2ba5f075624b2877ff0a3574cc5eba47ae630c50486c6f7c840bae8205", func := "loop.example/g01341/laws.FnExactFlatGrid", spec := "fnExactFlatGrid", unfollowed := true, recurses := true, apart := false, narrowed := true }
def FnExactFlatGridUptoSaid : Prop := fnExactFlatGridUptoRow.holds Try.pinned (OpenSpec.upto fnExactFlatGridSpec)

/-- 'laws.FnExactMassAbove', WHERE WHAT IT READS IS OF BULK AT MOST 1048576: true; the input reads as it did. -/
def fnExactMassAboveUptoRow : OpenClaim := { program := "ytcmdmecmgoabaaa", sum := "9bf84e2ba5f075624b2877ff0a3574cc5eba47ae630c50486c6f7c840bae8205", func := "loop.example/g01341/laws.FnExactMassAbove", spec := "fnExactMassAbove", apart := false, narrowed := true }
def FnExactMassAboveUptoSaid : Prop := fnExactMassAboveUptoRow.holds Try.pinned (OpenSpec.upto fnExactMassAboveSpec)

/-- 'laws.FnExactSlopeOfGrid', WHERE WHAT IT READS IS OF BULK AT MOST 1048576: true; the input reads as it did. -/
def fnExactSlopeOfGridUptoRow : OpenClaim := { program := "ytcmdmecmgoabaaa", sum := "9bf84e2ba5f075624b2877ff0a3574cc5eba47ae630c50486c6f7c840bae8205", func := "loop.example/g01341/laws.FnExactSlopeOfGrid", spec := "fnExactSlopeOfGrid", apart := false, narrowed := true }
def FnExactSlopeOfGridUptoSaid : Prop := fnExactSlopeOfGridUptoRow.holds Try.pinned (OpenSpec.upto fnExactSlopeOfGridSpec)

/-- 'laws.FnExactWeighGrids', WHERE WHAT IT READS IS OF BULK AT MOST 1048576: true; the input reads as it did. -/
def fnExactWeighGridsUptoRow : OpenClaim := { program := "ytcmdmecmgoabaaa", sum := "9bf84e2ba5f075624b2877ff0a3574cc5eba47ae630c50486c6f7c840bae8205", func := "loop.example/g01341/laws.FnExactWeighGrids", spec := "fnExactWeighGrids", unfollowed := true, recurses := true, apart := false, narrowed := true }
def FnExactWeighGridsUptoSaid : Prop := fnExactWeighGridsUptoRow.holds Try.pinned (OpenSpec.upto fnExactWeighGridsSpec)

/-- 'laws.FnExactPeaksOf', WHERE WHAT IT READS IS OF BULK AT MOST 1048576: true; the input reads as it did. -/
def fnExactPeaksOfUptoRow : OpenClaim := { program := "ytcmdmecmgoabaaa", sum := "9bf84e2ba5f075624b2877ff0a3574cc5eba47ae630c50486c6f7c840bae8205", func := "loop.example/g01341/laws.FnExactPeaksOf", spec := "fnExactPeaksOf", unfollowed := true, recurses := true, apart := false, narrowed := true }
def FnExactPeaksOfUptoSaid : Prop := fnExactPeaksOfUptoRow.holds Try.pinned (OpenSpec.upto fnExactPeaksOfSpec)

/-- 'laws.FnExactRoughGrid', WHERE WHAT IT READS IS OF BULK AT MOST 1048576: true; the input reads as it did. -/
def fnExactRoughGridUptoRow : OpenClaim := { program := "ytcmdmecmgoabaaa", sum := "9bf84e2ba5f075624b2877ff0a3574cc5eba47ae630c50486c6f7c840bae8205", func := "loop.example/g01341/laws.FnExactRoughGrid", spec := "fnExactRoughGrid", inPlace := ["math.sqrt"], apart := false, narrowed := true }
def FnExactRoughGridUptoSaid : Prop := fnExactRoughGridUptoRow.holds Try.pinned (OpenSpec.upto fnExactRoughGridSpec)

/-- 'laws.FnExactFillPits', WHERE WHAT IT READS IS OF BULK AT MOST 1048576: true; the input reads as it did. -/
def fnExactFillPitsUptoRow : OpenClaim := { program := "ytcmdmecmgoabaaa", sum := "9bf84e2ba5f075624b2877ff0a3574cc5eba47ae630c50486c6f7c840bae8205", func := "loop.example/g01341/laws.FnExactFillPits", spec := "fnExactFillPits", apart := false, narrowed := true }
def FnExactFillPitsUptoSaid : Prop := fnExactFillPitsUptoRow.holds Try.pinned (OpenSpec.upto fnExactFillPitsSpec)

end Rows
end Go.Proofs.Ytcmdmecmgoabaaa
