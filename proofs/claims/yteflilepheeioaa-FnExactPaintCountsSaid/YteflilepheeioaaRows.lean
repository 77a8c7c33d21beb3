/-
  No cell of these rows narrows 'for every input' (looked for: loops, veiled, ifaces, maps, wideKeys, modest, calm, conditions, laid).
  DERIVED. THE GIVEN ROWS OF THIS SEAT. 5 by the template 'for every input the law returns true; each argument reads behind the call as it read before'; 0 by the template 'total and deterministic' (their statements: YteflilepheeioaaTotals.lean).
  GIVEN WITH THE SEED: the statements are not yours to turn. If you find one false, say at which input.
  Laid BY PROGRAM, IN A SANDBOX (cutbox-rows.mjs): the forced cells as the released guide's own fill.sh prints them over the translation 36f663c5ebd23e75… (all of the seat's roots in one cut). By AI agents, Wed Nov 11 2026. No macro, syntax, notation, axiom, sorry.
-/
import Derived.Test.YteflilepheeioaaChecked
import GoSem.Claim
import GoSem.ClaimJoined
import GoSem.ClaimMapViews
import Derived.JoinedTies
import Derived.KernelRfl
namespace Go.Proofs.Yteflilepheeioaa
/- THE CELL 'sum', in the pinned program and in every row, IS THE sha256 OF THE DUMP (.gsa) THAT YteflilepheeioaaProg.lean LOADS. Nothing in Lean hashes anything: it is a label: what it is worth is what the hold of that sum in a sandbox is worth. -/
noncomputable def Try.pinned : Pinned := { name := "yteflilepheeioaa", sum := "36f663c5ebd23e75e2804dad7bd8ae288306304863753c299535b7e333e66a2a", checked := Try.checked }
namespace Rows
def none {H : Type} : Left H := { results := [], args := [] }

/-- 'laws.FnExactPaintedFaces': WHATEVER THE INPUT: true; the input reads as it did. -/
def fnExactPaintedFacesSpec : ChangeSpec := { name := "fnExactPaintedFaces", fn := fun _ => fun
  | [d1, d2, d3] => { results := [.lit (.bool true)], args := [d1, d2, d3] }
  | _ => none }
def fnExactPaintedFacesRow : OpenClaim := { program := "yteflilepheeioaa", sum := "36f663c5ebd23e75e2804dad7bd8ae288306304863753c299535b7e333e66a2a", func := "loop.example/g01166/laws.FnExactPaintedFaces", spec := "fnExactPaintedFaces", unfollowed := true, recurses := true, apart := false }
def FnExactPaintedFacesSaid : Prop := fnExactPaintedFacesRow.holds Try.pinned (OpenSpec.ofChange fnExactPaintedFacesSpec)

/-- ITS FALSE NEIGHBOUR: 'it returns false'. Refute it at one input. -/
def fnExactPaintedFacesWrong : ChangeSpec := { name := "fnExactPaintedFaces", fn := fun _ => fun
  | [d1, d2, d3] => { results := [.lit (.bool false)], args := [d1, d2, d3] }
  | _ => none }
def FnExactPaintedFacesWrongFalsely : Prop := fnExactPaintedFacesRow.holds Try.pinned (OpenSpec.ofChange fnExactPaintedFacesWrong)

/-- 'laws.FnExactUnpaintedFaces': WHATEVER THE INPUT: true; the input reads as it did. -/
def fnExactUnpaintedFacesSpec : ChangeSpec := { name := "fnExactUnpaintedFaces", fn := fun _ => fun
  | [d1, d2] => { results := [.lit (.bool true)], args := [d1, d2] }
  | _ => none }
def fnExactUnpaintedFacesRow : OpenClaim := { program := "yteflilepheeioaa", sum := "36f663c5ebd23e75e2804dad7bd8ae288306304863753c299535b7e333e66a2a", func := "loop.example/g01166/laws.FnExactUnpaintedFaces", spec := "fnExactUnpaintedFaces", unfollowed := true, recurses := true, apart := false }
def FnExactUnpaintedFacesSaid : Prop := fnExactUnpaintedFacesRow.holds Try.pinned (OpenSpec.ofChange fnExactUnpaintedFacesSpec)

/-- ITS FALSE NEIGHBOUR: 'it returns false'. Refute it at one input. -/
def fnExactUnpaintedFacesWrong : ChangeSpec := { name := "fnExactUnpaintedFaces", fn := fun _ => fun
  | [d1, d2] => { results := [.lit (.bool false)], args := [d1, d2] }
  | _ => none }
def FnExactUnpaintedFacesWrongFalsely : Prop := fnExactUnpaintedFacesRow.holds Try.pinned (OpenSpec.ofChange fnExactUnpaintedFacesWrong)

/-- 'laws.FnExactPaintCounts': WHATEVER THE INPUT: true; the input reads as it did. -/
def fnExactPaintCountsSpec : ChangeSpec := { name := "fnExactPaintCounts", fn := fun _ => fun
  | [d1, d2] => { results := [.lit (.bool true)], args := [d1, d2] }
  | _ => none }
def fnExactPaintCountsRow : OpenClaim := { program := "yteflilepheeioaa", sum := "36f663c5ebd23e75e2804dad7bd8ae288306304863753c299535b7e333e66a2a", func := "loop.example/g01166/laws.FnExactPaintCounts", spec := "fnExactPaintCounts", unfollowed := true, recurses := true, apart := false }
def FnExactPaintCountsSaid : Prop := fnExactPaintCountsRow.holds Try.pinned (OpenSpec.ofChange fnExactPaintCountsSpec)

/-- ITS FALSE NEIGHBOUR: 'it returns false'. Refute it at one input. -/
def fnExactPaintCountsWrong : ChangeSpec := { name := "fnExactPaintCounts", fn := fun _ => fun
  | [d1, d2] => { results := [.lit (.bool false)], args := [d1, d2] }
  | _ => none }
def FnExactPaintCountsWrongFalsely : Prop := fnExactPaintCountsRow.holds Try.pinned (OpenSpec.ofChange fnExactPaintCountsWrong)

/-- 'laws.FnExactPiecesAfter': WHATEVER THE INPUT: true; the input reads as it did. -/
def fnExactPiecesAfterSpec : ChangeSpec := { name := "fnExactPiecesAfter", fn := fun _ => fun
  | [d1, d2] => { results := [.lit (.bool true)], args := [d1, d2] }
  | _ => none }
def fnExactPiecesAfterRow : OpenClaim := { program := "yteflilepheeioaa", sum := "36f663c5ebd23e75e2804dad7bd8ae288306304863753c299535b7e333e66a2a", func := "loop.example/g01166/laws.FnExactPiecesAfter", spec := "fnExactPiecesAfter", unfollowed := true, recurses := true, apart := false }
def FnExactPiecesAfterSaid : Prop := fnExactPiecesAfterRow.holds Try.pinned (OpenSpec.ofChange fnExactPiecesAfterSpec)

/-- ITS FALSE NEIGHBOUR: 'it returns false'. Refute it at one input. -/
def fnExactPiecesAfterWrong : ChangeSpec := { name := "fnExactPiecesAfter", fn := fun _ => fun
  | [d1, d2] => { results := [.lit (.bool false)], args := [d1, d2] }
  | _ => none }
def FnExactPiecesAfterWrongFalsely : Prop := fnExactPiecesAfterRow.holds Try.pinned (OpenSpec.ofChange fnExactPiecesAfterWrong)

/-- 'laws.FnExactShadowGap': WHATEVER THE INPUT: true; the input reads as it did. -/
def fnExactShadowGapSpec : ChangeSpec := { name := "fnExactShadowGap", fn := fun _ => fun
  | [d] => { results := [.lit (.bool true)], args := [d] }
  | _ => none }
def fnExactShadowGapRow : OpenClaim := { program := "yteflilepheeioaa", sum := "36f663c5ebd23e75e2804dad7bd8ae288306304863753c299535b7e333e66a2a", func := "loop.example/g01166/laws.FnExactShadowGap", spec := "fnExactShadowGap", apart := false }
def FnExactShadowGapSaid : Prop := fnExactShadowGapRow.holds Try.pinned (OpenSpec.ofChange fnExactShadowGapSpec)

/-- ITS FALSE NEIGHBOUR: 'it returns false'. Refute it at one input. -/
def fnExactShadowGapWrong : ChangeSpec := { name := "fnExactShadowGap", fn := fun _ => fun
  | [d] => { results := [.lit (.bool false)], args := [d] }
  | _ => none }
def FnExactShadowGapWrongFalsely : Prop := fnExactShadowGapRow.holds Try.pinned (OpenSpec.ofChange fnExactShadowGapWrong)

/- THE SECOND FORM. 'bulk': how many values and letters a reading holds, each counted each time it is reached (what is shared counts as often as it is met; a slice's spare places count too). A statement '..UptoSaid' is the law's where the arguments, and the package variables that the reading takes, are together of bulk at most 1048576: NARROWER than '..Said'. Prove '..Said' where nothing that the law and all that it calls make is longer than what came in: it says more and counts as full. Else prove '..UptoSaid'. A law counts once. -/
mutual
def uptoBulk {H : Type} : DataW H → Nat
  | .lit (.string bytes) => bytes.length + 1
  | .lit _ => 1
  | .nil => 1
  | .ptr d => uptoBulk d + 1
  | .slice elems spare => uptoBulkAll elems + uptoBulkAll spare + 1
  | .agg parts => uptoBulkAll parts + 1
  | .iface _ d => uptoBulk d + 1
  | .map entries => uptoBulkEntries entries + 1
  | .held _ => 1
def uptoBulkAll {H : Type} : List (DataW H) → Nat
  | [] => 0
  | d :: r => uptoBulk d + uptoBulkAll r
def uptoBulkEntries {H : Type} : List (Lit × DataW H) → Nat
  | [] => 0
  | x :: r => uptoBulkEntry x + uptoBulkEntries r
def uptoBulkEntry {H : Type} : Lit × DataW H → Nat
  | (.string bytes, d) => bytes.length + uptoBulk d + 1
  | (_, d) => uptoBulk d + 1
 end
def uptoSmall : (H : Type) → List (DataW H) → Bool := fun _ ds => decide (uptoBulkAll ds ≤ 1048576)
def OpenSpec.upto (s : _root_.Go.ChangeSpec) : _root_.Go.OpenSpec := { _root_.Go.OpenSpec.ofChange s with cond := some uptoSmall }

/-- 'laws.FnExactPaintedFaces', WHERE WHAT IT READS IS OF BULK AT MOST 1048576: true; the input reads as it did. -/
def fnExactPaintedFacesUptoRow : OpenClaim := { program := "yteflilepheeioaa", sum := "36f663c5ebd23e75e2804dad7bd8ae288306304863753c299535b7e333e66a2a", func := "loop.example/g01166/laws.FnExactPaintedFaces", spec := "fnExactPaintedFaces", unfollowed := true, recurses := true, apart := false, narrowed := true }
def FnExactPaintedFacesUptoSaid : Prop := fnExactPaintedFacesUptoRow.holds Try.pinned (OpenSpec.upto fnExactPaintedFacesSpec)

/-- 'laws.FnExactUnpaintedFaces', WHERE WHAT IT READS IS OF BULK AT MOST 1048576: true; the input reads as it did. -/
def fnExactUnpaintedFacesUptoRow : OpenClaim := { program := "yteflilepheeioaa", sum := "36f663c5ebd23e75e2804dad7bd8ae288306304863753c299535b7e333e66a2a", func := "loop.example/g01166/laws.FnExactUnpaintedFaces", spec := "fnExactUnpaintedFaces", unfollowed := true, recurses := true, apart := false, narrowed := true }
def FnExactUnpaintedFacesUptoSaid : Prop := fnExactUnpaintedFacesUptoRow.holds Try.pinned (OpenSpec.upto fnExactUnpaintedFacesSpec)

/-- 'laws.FnExactPaintCounts', WHERE WHAT IT READS IS OF BULK AT MOST 1048576: true; the input reads as it did. -/
def fnExactPaintCountsUptoRow : OpenClaim := { program := "yteflilepheeioaa", sum := "36f663c5ebd23e75e2804dad7bd8ae288306304863753c299535b7e333e66a2a", func := "loop.example/g01166/laws.FnExactPaintCounts", spec := "fnExactPaintCounts", unfollowed := true, recurses := true, apart := false, narrowed := true }
def FnExactPaintCountsUptoSaid : Prop := fnExactPaintCountsUptoRow.holds Try.pinned (OpenSpec.upto fnExactPaintCountsSpec)

/-- 'laws.FnExactPiecesAfter', WHERE WHAT IT READS IS OF BULK AT MOST 1048576: true; the input reads as it did. -/
def fnExactPiecesAfterUptoRow : OpenClaim := { program := "yteflilepheeioaa", sum := "36f663c5ebd23e75e2804dad7bd8ae288306304863753c299535b7e333e66a2a", func := "loop.example/g01166/laws.FnExactPiecesAfter", spec := "fnExactPiecesAfter", unfollowed := true, recurses := true, apart := false, narrowed := true }
def FnExactPiecesAfterUptoSaid : Prop := fnExactPiecesAfterUptoRow.holds Try.pinned (OpenSpec.upto fnExactPiecesAfterSpec)

/-- 'laws.FnExactShadowGap', WHERE WHAT IT READS IS OF BULK AT MOST 1048576: true; the input reads as it did. -/
def fnExactShadowGapUptoRow : OpenClaim := { program := "yteflilepheeioaa", sum := "36f663c5ebd23e75e2804dad7bd8ae288306304863753c299535b7e333e66a2a", func := "loop.example/g01166/laws.FnExactShadowGap", spec := "fnExactShadowGap", apart := false, narrowed := true }
def FnExactShadowGapUptoSaid : Prop := fnExactShadowGapUptoRow.holds Try.pinned (OpenSpec.upto fnExactShadowGapSpec)

end Rows
end Go.Proofs.Yteflilepheeioaa
