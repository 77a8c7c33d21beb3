/-
  No cell of these rows narrows 'for every input' (looked for: loops, veiled, ifaces, maps, wideKeys, modest, calm, conditions, laid).
  DERIVED. THE GIVEN ROWS OF THIS SEAT. 12 by the template 'for every input the law returns true; each argument reads behind the call as it read before'; 0 by the template 'total and deterministic' (their statements: YteelmankciamoaaTotals.lean).
  GIVEN WITH THE SEED: the statements are not yours to turn. If you find one false, say at which input.
  Laid BY PROGRAM, IN A SANDBOX (cutbox-rows.mjs): the forced cells as the released guide's own fill.sh prints them over the translation af286ba51adcab20… (all of the seat's roots in one cut). By AI agents, Wed Nov 11 2026. No macro, syntax, notation, axiom, sorry.
-/
import Derived.Test.YteelmankciamoaaChecked
import GoSem.Claim
import GoSem.ClaimJoined
import GoSem.ClaimMapViews
import Derived.JoinedTies
import Derived.KernelRfl
namespace Go.Proofs.Yteelmankciamoaa
/- THE CELL 'sum', in the pinned program and in every row, IS THE sha256 OF THE DUMP (.gsa) THAT YteelmankciamoaaProg.lean LOADS. Nothing in Lean hashes anything: it is a label: what it is worth is what the hold of that sum in a sandbox is worth. -/
noncomputable def Try.pinned : Pinned := { name := "yteelmankciamoaa", sum := "af286ba51adcab2046d301b4c2781013534a91f722144a243c130757c9949f7a", checked := Try.checked }
namespace Rows
def none {H : Type} : Left H := { results := [], args := [] }

/-- 'laws.FnExactIsBench': WHATEVER THE INPUT: true; the input reads as it did. -/
def fnExactIsBenchSpec : ChangeSpec := { name := "fnExactIsBench", fn := fun _ => fun
  | [d] => { results := [.lit (.bool true)], args := [d] }
  | _ => none }
def fnExactIsBenchRow : OpenClaim := { program := "yteelmankciamoaa", sum := "af286ba51adcab2046d301b4c2781013534a91f722144a243c130757c9949f7a", func := "loop.example/g01166/laws.FnExactIsBench", spec := "fnExactIsBench", apart := false }
def FnExactIsBenchSaid : Prop := fnExactIsBenchRow.holds Try.pinned (OpenSpec.ofChange fnExactIsBenchSpec)

/-- ITS FALSE NEIGHBOUR: 'it returns false'. Refute it at one input. -/
def fnExactIsBenchWrong : ChangeSpec := { name := "fnExactIsBench", fn := fun _ => fun
  | [d] => { results := [.lit (.bool false)], args := [d] }
  | _ => none }
def FnExactIsBenchWrongFalsely : Prop := fnExactIsBenchRow.holds Try.pinned (OpenSpec.ofChange fnExactIsBenchWrong)

/-- 'laws.FnExactCutFaces': WHATEVER THE INPUT: true; the input reads as it did. -/
def fnExactCutFacesSpec : ChangeSpec := { name := "fnExactCutFaces", fn := fun _ => fun
  | [d1, d2, d3] => { results := [.lit (.bool true)], args := [d1, d2, d3] }
  | _ => none }
def fnExactCutFacesRow : OpenClaim := { program := "yteelmankciamoaa", sum := "af286ba51adcab2046d301b4c2781013534a91f722144a243c130757c9949f7a", func := "loop.example/g01166/laws.FnExactCutFaces", spec := "fnExactCutFaces", apart := false }
def FnExactCutFacesSaid : Prop := fnExactCutFacesRow.holds Try.pinned (OpenSpec.ofChange fnExactCutFacesSpec)

/-- ITS FALSE NEIGHBOUR: 'it returns false'. Refute it at one input. -/
def fnExactCutFacesWrong : ChangeSpec := { name := "fnExactCutFaces", fn := fun _ => fun
  | [d1, d2, d3] => { results := [.lit (.bool false)], args := [d1, d2, d3] }
  | _ => none }
def FnExactCutFacesWrongFalsely : Prop := fnExactCutFacesRow.holds Try.pinned (OpenSpec.ofChange fnExactCutFacesWrong)

/-- 'laws.FnExactFewestCuts': WHATEVER THE INPUT: true; the input reads as it did. -/
def fnExactFewestCutsSpec : ChangeSpec := { name := "fnExactFewestCuts", fn := fun _ => fun
  | [d] => { results := [.lit (.bool true)], args := [d] }
  | _ => none }
def fnExactFewestCutsRow : OpenClaim := { program := "yteelmankciamoaa", sum := "af286ba51adcab2046d301b4c2781013534a91f722144a243c130757c9949f7a", func := "loop.example/g01166/laws.FnExactFewestCuts", spec := "fnExactFewestCuts", apart := false }
def FnExactFewestCutsSaid : Prop := fnExactFewestCutsRow.holds Try.pinned (OpenSpec.ofChange fnExactFewestCutsSpec)

/-- ITS FALSE NEIGHBOUR: 'it returns false'. Refute it at one input. -/
def fnExactFewestCutsWrong : ChangeSpec := { name := "fnExactFewestCuts", fn := fun _ => fun
  | [d] => { results := [.lit (.bool false)], args := [d] }
  | _ => none }
def FnExactFewestCutsWrongFalsely : Prop := fnExactFewestCutsRow.holds Try.pinned (OpenSpec.ofChange fnExactFewestCutsWrong)

/-- 'laws.FnExactNewBench': WHATEVER THE INPUT: true; the input reads as it did. -/
def fnExactNewBenchSpec : ChangeSpec := { name := "fnExactNewBench", fn := fun _ => fun
  | [d] => { results := [.lit (.bool true)], args := [d] }
  | _ => none }
def fnExactNewBenchRow : OpenClaim := { program := "yteelmankciamoaa", sum := "af286ba51adcab2046d301b4c2781013534a91f722144a243c130757c9949f7a", func := "loop.example/g01166/laws.FnExactNewBench", spec := "fnExactNewBench", apart := false }
def FnExactNewBenchSaid : Prop := fnExactNewBenchRow.holds Try.pinned (OpenSpec.ofChange fnExactNewBenchSpec)

/-- ITS FALSE NEIGHBOUR: 'it returns false'. Refute it at one input. -/
def fnExactNewBenchWrong : ChangeSpec := { name := "fnExactNewBench", fn := fun _ => fun
  | [d] => { results := [.lit (.bool false)], args := [d] }
  | _ => none }
def FnExactNewBenchWrongFalsely : Prop := fnExactNewBenchRow.holds Try.pinned (OpenSpec.ofChange fnExactNewBenchWrong)

/-- 'laws.FnExactCutHeap': WHATEVER THE INPUT: true; the input reads as it did. -/
def fnExactCutHeapSpec : ChangeSpec := { name := "fnExactCutHeap", fn := fun _ => fun
  | [d1, d2, d3] => { results := [.lit (.bool true)], args := [d1, d2, d3] }
  | _ => none }
def fnExactCutHeapRow : OpenClaim := { program := "yteelmankciamoaa", sum := "af286ba51adcab2046d301b4c2781013534a91f722144a243c130757c9949f7a", func := "loop.example/g01166/laws.FnExactCutHeap", spec := "fnExactCutHeap", apart := false }
def FnExactCutHeapSaid : Prop := fnExactCutHeapRow.holds Try.pinned (OpenSpec.ofChange fnExactCutHeapSpec)

/-- ITS FALSE NEIGHBOUR: 'it returns false'. Refute it at one input. -/
def fnExactCutHeapWrong : ChangeSpec := { name := "fnExactCutHeap", fn := fun _ => fun
  | [d1, d2, d3] => { results := [.lit (.bool false)], args := [d1, d2, d3] }
  | _ => none }
def FnExactCutHeapWrongFalsely : Prop := fnExactCutHeapRow.holds Try.pinned (OpenSpec.ofChange fnExactCutHeapWrong)

/-- 'laws.FnExactShellHeap': WHATEVER THE INPUT: true; the input reads as it did. -/
def fnExactShellHeapSpec : ChangeSpec := { name := "fnExactShellHeap", fn := fun _ => fun
  | [d1, d2, d3] => { results := [.lit (.bool true)], args := [d1, d2, d3] }
  | _ => none }
def fnExactShellHeapRow : OpenClaim := { program := "yteelmankciamoaa", sum := "af286ba51adcab2046d301b4c2781013534a91f722144a243c130757c9949f7a", func := "loop.example/g01166/laws.FnExactShellHeap", spec := "fnExactShellHeap", unfollowed := true, recurses := true, apart := false }
def FnExactShellHeapSaid : Prop := fnExactShellHeapRow.holds Try.pinned (OpenSpec.ofChange fnExactShellHeapSpec)

/-- ITS FALSE NEIGHBOUR: 'it returns false'. Refute it at one input. -/
def fnExactShellHeapWrong : ChangeSpec := { name := "fnExactShellHeap", fn := fun _ => fun
  | [d1, d2, d3] => { results := [.lit (.bool false)], args := [d1, d2, d3] }
  | _ => none }
def FnExactShellHeapWrongFalsely : Prop := fnExactShellHeapRow.holds Try.pinned (OpenSpec.ofChange fnExactShellHeapWrong)

/-- 'laws.FnExactGlueHeaps': WHATEVER THE INPUT: true; the input reads as it did. -/
def fnExactGlueHeapsSpec : ChangeSpec := { name := "fnExactGlueHeaps", fn := fun _ => fun
  | [d1, d2, d3] => { results := [.lit (.bool true)], args := [d1, d2, d3] }
  | _ => none }
def fnExactGlueHeapsRow : OpenClaim := { program := "yteelmankciamoaa", sum := "af286ba51adcab2046d301b4c2781013534a91f722144a243c130757c9949f7a", func := "loop.example/g01166/laws.FnExactGlueHeaps", spec := "fnExactGlueHeaps", apart := false }
def FnExactGlueHeapsSaid : Prop := fnExactGlueHeapsRow.holds Try.pinned (OpenSpec.ofChange fnExactGlueHeapsSpec)

/-- ITS FALSE NEIGHBOUR: 'it returns false'. Refute it at one input. -/
def fnExactGlueHeapsWrong : ChangeSpec := { name := "fnExactGlueHeaps", fn := fun _ => fun
  | [d1, d2, d3] => { results := [.lit (.bool false)], args := [d1, d2, d3] }
  | _ => none }
def FnExactGlueHeapsWrongFalsely : Prop := fnExactGlueHeapsRow.holds Try.pinned (OpenSpec.ofChange fnExactGlueHeapsWrong)

/-- 'laws.FnExactNewConsole': WHATEVER THE INPUT: true; the input reads as it did. -/
def fnExactNewConsoleSpec : ChangeSpec := { name := "fnExactNewConsole", fn := fun _ => fun
  | [d] => { results := [.lit (.bool true)], args := [d] }
  | _ => none }
def fnExactNewConsoleRow : OpenClaim := { program := "yteelmankciamoaa", sum := "af286ba51adcab2046d301b4c2781013534a91f722144a243c130757c9949f7a", func := "loop.example/g01166/laws.FnExactNewConsole", spec := "fnExactNewConsole", apart := false }
def FnExactNewConsoleSaid : Prop := fnExactNewConsoleRow.holds Try.pinned (OpenSpec.ofChange fnExactNewConsoleSpec)

/-- ITS FALSE NEIGHBOUR: 'it returns false'. Refute it at one input. -/
def fnExactNewConsoleWrong : ChangeSpec := { name := "fnExactNewConsole", fn := fun _ => fun
  | [d] => { results := [.lit (.bool false)], args := [d] }
  | _ => none }
def FnExactNewConsoleWrongFalsely : Prop := fnExactNewConsoleRow.holds Try.pinned (OpenSpec.ofChange fnExactNewConsoleWrong)

/-- 'laws.FnExactFullCounts': WHATEVER THE INPUT: true; the input reads as it did. -/
def fnExactFullCountsSpec : ChangeSpec := { name := "fnExactFullCounts", fn := fun _ => fun
  | [d1, d2, d3] => { results := [.lit (.bool true)], args := [d1, d2, d3] }
  | _ => none }
def fnExactFullCountsRow : OpenClaim := { program := "yteelmankciamoaa", sum := "af286ba51adcab2046d301b4c2781013534a91f722144a243c130757c9949f7a", func := "loop.example/g01166/laws.FnExactFullCounts", spec := "fnExactFullCounts", unfollowed := true, recurses := true, apart := false }
def FnExactFullCountsSaid : Prop := fnExactFullCountsRow.holds Try.pinned (OpenSpec.ofChange fnExactFullCountsSpec)

/-- ITS FALSE NEIGHBOUR: 'it returns false'. Refute it at one input. -/
def fnExactFullCountsWrong : ChangeSpec := { name := "fnExactFullCounts", fn := fun _ => fun
  | [d1, d2, d3] => { results := [.lit (.bool false)], args := [d1, d2, d3] }
  | _ => none }
def FnExactFullCountsWrongFalsely : Prop := fnExactFullCountsRow.holds Try.pinned (OpenSpec.ofChange fnExactFullCountsWrong)

/-- 'laws.FnExactPeelCount': WHATEVER THE INPUT: true; the input reads as it did. -/
def fnExactPeelCountSpec : ChangeSpec := { name := "fnExactPeelCount", fn := fun _ => fun
  | [d] => { results := [.lit (.bool true)], args := [d] }
  | _ => none }
def fnExactPeelCountRow : OpenClaim := { program := "yteelmankciamoaa", sum := "af286ba51adcab2046d301b4c2781013534a91f722144a243c130757c9949f7a", func := "loop.example/g01166/laws.FnExactPeelCount", spec := "fnExactPeelCount", unfollowed := true, recurses := true, apart := false }
def FnExactPeelCountSaid : Prop := fnExactPeelCountRow.holds Try.pinned (OpenSpec.ofChange fnExactPeelCountSpec)

/-- ITS FALSE NEIGHBOUR: 'it returns false'. Refute it at one input. -/
def fnExactPeelCountWrong : ChangeSpec := { name := "fnExactPeelCount", fn := fun _ => fun
  | [d] => { results := [.lit (.bool false)], args := [d] }
  | _ => none }
def FnExactPeelCountWrongFalsely : Prop := fnExactPeelCountRow.holds Try.pinned (OpenSpec.ofChange fnExactPeelCountWrong)

/-- 'laws.FnExactPeelDepth': WHATEVER THE INPUT: true; the input reads as it did. -/
def fnExactPeelDepthSpec : ChangeSpec := { name := "fnExactPeelDepth", fn := fun _ => fun
  | [d1, d2] => { results := [.lit (.bool true)], args := [d1, d2] }
  | _ => none }
def fnExactPeelDepthRow : OpenClaim := { program := "yteelmankciamoaa", sum := "af286ba51adcab2046d301b4c2781013534a91f722144a243c130757c9949f7a", func := "loop.example/g01166/laws.FnExactPeelDepth", spec := "fnExactPeelDepth", unfollowed := true, recurses := true, apart := false }
def FnExactPeelDepthSaid : Prop := fnExactPeelDepthRow.holds Try.pinned (OpenSpec.ofChange fnExactPeelDepthSpec)

/-- ITS FALSE NEIGHBOUR: 'it returns false'. Refute it at one input. -/
def fnExactPeelDepthWrong : ChangeSpec := { name := "fnExactPeelDepth", fn := fun _ => fun
  | [d1, d2] => { results := [.lit (.bool false)], args := [d1, d2] }
  | _ => none }
def FnExactPeelDepthWrongFalsely : Prop := fnExactPeelDepthRow.holds Try.pinned (OpenSpec.ofChange fnExactPeelDepthWrong)

/-- 'laws.FnExactPeelHeap': WHATEVER THE INPUT: true; the input reads as it did. -/
def fnExactPeelHeapSpec : ChangeSpec := { name := "fnExactPeelHeap", fn := fun _ => fun
  | [d] => { results := [.lit (.bool true)], args := [d] }
  | _ => none }
def fnExactPeelHeapRow : OpenClaim := { program := "yteelmankciamoaa", sum := "af286ba51adcab2046d301b4c2781013534a91f722144a243c130757c9949f7a", func := "loop.example/g01166/laws.FnExactPeelHeap", spec := "fnExactPeelHeap", unfollowed := true, recurses := true, apart := false }
def FnExactPeelHeapSaid : Prop := fnExactPeelHeapRow.holds Try.pinned (OpenSpec.ofChange fnExactPeelHeapSpec)

/-- ITS FALSE NEIGHBOUR: 'it returns false'. Refute it at one input. -/
def fnExactPeelHeapWrong : ChangeSpec := { name := "fnExactPeelHeap", fn := fun _ => fun
  | [d] => { results := [.lit (.bool false)], args := [d] }
  | _ => none }
def FnExactPeelHeapWrongFalsely : Prop := fnExactPeelHeapRow.holds Try.pinned (OpenSpec.ofChange fnExactPeelHeapWrong)

/- THE SECOND FORM. 'bulk': how many values and letters a reading holds, each counted each time it is reached (what is shared counts as often as it is met; a slice's spare places count too). A statement '..UptoSaid' is the law's where the arguments, and the package variables that the reading takes, are together of bulk at most 1048576: NARROWER than '..Said'. Prove '..Said' where nothing that the law and all that it calls make is longer than what came in: it says more and counts as full. Else prove '..UptoSaid'. A law counts once. -/
mutual
def uptoBulk {H : Type} : DataW H → Nat
  | .lit (.string bytes) => bytes.length + 1
  | .lit _ => 1
  | .nil => 1
  | .ptr d => uptoBulk d + 1
  | .slice elems spare => uptoBulkAll elems + uptoBulkAll spare + 1
  | .agg parts => uptoBulkAll parts + 1
  | .iface _ d => uptoBulk d + 1
  | .map entries => uptoBulkEntries entries + 1
  | .held _ => 1
def uptoBulkAll {H : Type} : List (DataW H) → Nat
  | [] => 0
  | d :: r => uptoBulk d + uptoBulkAll r
def uptoBulkEntries {H : Type} : List (Lit × DataW H) → Nat
  | [] => 0
  | x :: r => uptoBulkEntry x + uptoBulkEntries r
def uptoBulkEntry {H : Type} : Lit × DataW H → Nat
  | (.string bytes, d) => bytes.length + uptoBulk d + 1
  | (_, d) => uptoBulk d + 1
 end
def uptoSmall : (H : Type) → List (DataW H) → Bool := fun _ ds => decide (uptoBulkAll ds ≤ 1048576)
def OpenSpec.upto (s : _root_.Go.ChangeSpec) : _root_.Go.OpenSpec := { _root_.Go.OpenSpec.ofChange s with cond := some uptoSmall }

/-- 'laws.FnExactIsBench', WHERE WHAT IT READS IS OF BULK AT MOST 1048576: true; the input reads as it did. -/
def fnExactIsBenchUptoRow : OpenClaim := { program := "yteelmankciamoaa", sum := "af286ba51adcab2046d301b4c2781013534a91f722144a243c130757c9949f7a", func := "loop.example/g01166/laws.FnExactIsBench", spec := "fnExactIsBench", apart := false, narrowed := true }
def FnExactIsBenchUptoSaid : Prop := fnExactIsBenchUptoRow.holds Try.pinned (OpenSpec.upto fnExactIsBenchSpec)

/-- 'laws.FnExactCutFaces', WHERE WHAT IT READS IS OF BULK AT MOST 1048576: true; the input reads as it did. -/
def fnExactCutFacesUptoRow : OpenClaim := { program := "yteelmankciamoaa", sum := "af286ba51adcab2046d301b4c2781013534a91f722144a243c130757c9949f7a", func := "loop.example/g01166/laws.FnExactCutFaces", spec := "fnExactCutFaces", apart := false, narrowed := true }
def FnExactCutFacesUptoSaid : Prop := fnExactCutFacesUptoRow.holds Try.pinned (OpenSpec.upto fnExactCutFacesSpec)

/-- 'laws.FnExactFewestCuts', WHERE WHAT IT READS IS OF BULK AT MOST 1048576: true; the input reads as it did. -/
def fnExactFewestCutsUptoRow : OpenClaim := { program := "yteelmankciamoaa", sum := "af286ba51adcab2046d301b4c2781013534a91f722144a243c130757c9949f7a", func := "loop.example/g01166/laws.FnExactFewestCuts", spec := "fnExactFewestCuts", apart := false, narrowed := true }
def FnExactFewestCutsUptoSaid : Prop := fnExactFewestCutsUptoRow.holds Try.pinned (OpenSpec.upto fnExactFewestCutsSpec)

/-- 'laws.FnExactNewBench', WHERE WHAT IT READS IS OF BULK AT MOST 1048576: true; the input reads as it did. -/
def fnExactNewBenchUptoRow : OpenClaim := { program := "yteelmankciamoaa", sum := "af286ba51adcab2046d301b4c2781013534a91f722144a243c130757c9949f7a", func := "loop.example/g01166/laws.FnExactNewBench", spec := "fnExactNewBench", apart := false, narrowed := true }
def FnExactNewBenchUptoSaid : Prop := fnExactNewBenchUptoRow.holds Try.pinned (OpenSpec.upto fnExactNewBenchSpec)

/-- 'laws.FnExactCutHeap', WHERE WHAT IT READS IS OF BULK AT MOST 1048576: true; the input reads as it did. -/
def fnExactCutHeapUptoRow : OpenClaim := { program := "yteelmankciamoaa", sum := "af286ba51adcab2046d301b4c2781013534a91f722144a243c130757c9949f7a", func := "loop.example/g01166/laws.FnExactCutHeap", spec := "fnExactCutHeap", apart := false, narrowed := true }
def FnExactCutHeapUptoSaid : Prop := fnExactCutHeapUptoRow.holds Try.pinned (OpenSpec.upto fnExactCutHeapSpec)

/-- 'laws.FnExactShellHeap', WHERE WHAT IT READS IS OF BULK AT MOST 1048576: true; the input reads as it did. -/
def fnExactShellHeapUptoRow : OpenClaim := { program := "yteelmankciamoaa", sum := "af286ba51adcab2046d301b4c2781013534a91f722144a243c130757c9949f7a", func := "loop.example/g01166/laws.FnExactShellHeap", spec := "fnExactShellHeap", unfollowed := true, recurses := true, apart := false, narrowed := true }
def FnExactShellHeapUptoSaid : Prop := fnExactShellHeapUptoRow.holds Try.pinned (OpenSpec.upto fnExactShellHeapSpec)

/-- 'laws.FnExactGlueHeaps', WHERE WHAT IT READS IS OF BULK AT MOST 1048576: true; the input reads as it did. -/
def fnExactGlueHeapsUptoRow : OpenClaim := { program := "yteelmankciamoaa", sum := "af286ba51adcab2046d301b4c2781013534a91f722144a243c130757c9949f7a", func := "loop.example/g01166/laws.FnExactGlueHeaps", spec := "fnExactGlueHeaps", apart := false, narrowed := true }
def FnExactGlueHeapsUptoSaid : Prop := fnExactGlueHeapsUptoRow.holds Try.pinned (OpenSpec.upto fnExactGlueHeapsSpec)

/-- 'laws.FnExactNewConsole', WHERE WHAT IT READS IS OF BULK AT MOST 1048576: true; the input reads as it did. -/
def fnExactNewConsoleUptoRow : OpenClaim := { program := "yteelmankciamoaa", sum := "af286ba51adcab2046d301b4c2781013534a91f722144a243c130757c9949f7a", func := "loop.example/g01166/laws.FnExactNewConsole", spec := "fnExactNewConsole", apart := false, narrowed := true }
def FnExactNewConsoleUptoSaid : Prop := fnExactNewConsoleUptoRow.holds Try.pinned (OpenSpec.upto fnExactNewConsoleSpec)

/-- 'laws.FnExactFullCounts', WHERE WHAT IT READS IS OF BULK AT MOST 1048576: true; the input reads as it did. -/
def fnExactFullCountsUptoRow : OpenClaim := { program := "yteelmankciamoaa", sum := "af286ba51adcab2046d301b4c2781013534a91f722144a243c130757c9949f7a", func := "loop.example/g01166/laws.FnExactFullCounts", spec := "fnExactFullCounts", unfollowed := true, recurses := true, apart := false, narrowed := true }
def FnExactFullCountsUptoSaid : Prop := fnExactFullCountsUptoRow.holds Try.pinned (OpenSpec.upto fnExactFullCountsSpec)

/-- 'laws.FnExactPeelCount', WHERE WHAT IT READS IS OF BULK AT MOST 1048576: true; the input reads as it did. -/
def fnExactPeelCountUptoRow : OpenClaim := { program := "yteelmankciamoaa", sum := "af286ba51adcab2046d301b4c2781013534a91f722144a243c130757c9949f7a", func := "loop.example/g01166/laws.FnExactPeelCount", spec := "fnExactPeelCount", unfollowed := true, recurses := true, apart := false, narrowed := true }
def FnExactPeelCountUptoSaid : Prop := fnExactPeelCountUptoRow.holds Try.pinned (OpenSpec.upto fnExactPeelCountSpec)

/-- 'laws.FnExactPeelDepth', WHERE WHAT IT READS IS OF BULK AT MOST 1048576: true; the input reads as it did. -/
def fnExactPeelDepthUptoRow : OpenClaim := { program := "yteelmankciamoaa", sum := "af286ba51adcab2046d301b4c2781013534a91f722144a243c130757c9949f7a", func := "loop.example/g01166/laws.FnExactPeelDepth", spec := "fnExactPeelDepth", unfollowed := true, recurses := true, apart := false, narrowed := true }
def FnExactPeelDepthUptoSaid : Prop := fnExactPeelDepthUptoRow.holds Try.pinned (OpenSpec.upto fnExactPeelDepthSpec)

/-- 'laws.FnExactPeelHeap', WHERE WHAT IT READS IS OF BULK AT MOST 1048576: true; the input reads as it did. -/
def fnExactPeelHeapUptoRow : OpenClaim := { program := "yteelmankciamoaa", sum := "af286ba51adcab2046d301b4c2781013534a91f722144a243c130757c9949f7a", func := "loop.example/g01166/laws.FnExactPeelHeap", spec := "fnExactPeelHeap", unfollowed := true, recurses := true, apart := false, narrowed := true }
def FnExactPeelHeapUptoSaid : Prop := fnExactPeelHeapUptoRow.holds Try.pinned (OpenSpec.upto fnExactPeelHeapSpec)

end Rows
end Go.Proofs.Yteelmankciamoaa
