/-
  No cell of these rows narrows 'for every input' (looked for: loops, veiled, ifaces, maps, wideKeys, modest, calm, conditions, laid).
  DERIVED. THE GIVEN ROWS OF THIS SEAT. 2 by the template 'for every input the law returns true; each argument reads behind the call as it read before'; 0 by the template 'total and deterministic' (their statements: YtaopponjedombaaGreatTotals.lean).
  GIVEN WITH THE SEED: the statements are not yours to turn. If you find one false, say at which input.
  Laid BY PROGRAM, IN A SANDBOX (cutbox-rows.mjs): the forced cells as the released guide's own fill.sh prints them over the translation 12833ffe36d6a90f… (all of the seat's roots in one cut). By AI agents, Wed Nov 11 2026. No macro, syntax, notation, axiom, sorry.
-/
import Derived.Test.YtaopponjedombaaGreatChecked
import GoSem.Claim
import GoSem.ClaimJoined
import GoSem.ClaimMapViews
import Derived.JoinedTies
import Derived.KernelRfl
namespace Go.Proofs.YtaopponjedombaaGreat
/- THE CELL 'sum', in the pinned program and in every row, IS THE sha256 OF THE DUMP (.gsa) THAT YtaopponjedombaaGreatProg.lean LOADS. Nothing in Lean hashes anything: it is a label: what it is worth is what the hold of that sum in a sandbox is worth. -/
noncomputable def Tryz.pinned : Pinned := { name := "ytaopponjedombaagreat", sum := "12833ffe36d6a90fa5118234e8b0e467675b47d9286ffe7d3691d1281c593ce6", checked := Tryz.checked }
namespace Rows
def none {H : Type} : Left H := { results := [], args := [] }

/-- 'laws.FnPaint': WHATEVER THE INPUT: true; the input reads as it did. -/
def fnPaintSpec : ChangeSpec := { name := "fnPaint", fn := fun _ => fun
  | [d] => { results := [.lit (.bool true)], args := [d] }
  | _ => none }
def fnPaintRow : OpenClaim := { program := "ytaopponjedombaagreat", sum := "12833ffe36d6a90fa5118234e8b0e467675b47d9286ffe7d3691d1281c593ce6", func := "loop.example/g01166/laws.FnPaint", spec := "fnPaint", unfollowed := true, recurses := true, apart := false }
def FnPaintSaid : Prop := fnPaintRow.holds Tryz.pinned (OpenSpec.ofChange fnPaintSpec)

/-- ITS FALSE NEIGHBOUR: 'it returns false'. Refute it at one input. -/
def fnPaintWrong : ChangeSpec := { name := "fnPaint", fn := fun _ => fun
  | [d] => { results := [.lit (.bool false)], args := [d] }
  | _ => none }
def FnPaintWrongFalsely : Prop := fnPaintRow.holds Tryz.pinned (OpenSpec.ofChange fnPaintWrong)

/-- 'laws.FnBenches': WHATEVER THE INPUT: true; the input reads as it did. -/
def fnBenchesSpec : ChangeSpec := { name := "fnBenches", fn := fun _ => fun
  | [d] => { results := [.lit (.bool true)], args := [d] }
  | _ => none }
def fnBenchesRow : OpenClaim := { program := "ytaopponjedombaagreat", sum := "12833ffe36d6a90fa5118234e8b0e467675b47d9286ffe7d3691d1281c593ce6", func := "loop.example/g01166/laws.FnBenches", spec := "fnBenches", unfollowed := true, recurses := true, apart := false }
def FnBenchesSaid : Prop := fnBenchesRow.holds Tryz.pinned (OpenSpec.ofChange fnBenchesSpec)

/-- ITS FALSE NEIGHBOUR: 'it returns false'. Refute it at one input. -/
def fnBenchesWrong : ChangeSpec := { name := "fnBenches", fn := fun _ => fun
  | [d] => { results := [.lit (.bool false)], args := [d] }
  | _ => none }
def FnBenchesWrongFalsely : Prop := fnBenchesRow.holds Tryz.pinned (OpenSpec.ofChange fnBenchesWrong)

/- THE SECOND FORM. 'bulk': how many values and letters a reading holds, each counted each time it is reached (what is shared counts as often as it is met; a slice's spare places count too). A statement '..UptoSaid' is the law's where the arguments, and the package variables that the reading takes, are together of bulk at most 1048576: NARROWER than '..Said'. Prove '..Said' where nothing that the law and all that it calls make is longer than what came in: it says more and counts as full. Else prove '..UptoSaid'. A law counts once. -/
mutual
def uptoBulk {H : Type} : DataW H → Nat
  | .lit (.string bytes) => bytes.length + 1
  | .lit _ => 1
  | .nil => 1
  | .ptr d => uptoBulk d + 1
  | .slice elems spare => uptoBulkAll elems + uptoBulkAll spare + 1
  | .agg parts => uptoBulkAll parts + 1
  | .iface _ d => uptoBulk d + 1
  | .map entries => uptoBulkEntries entries + 1
  | .held _ => 1
def uptoBulkAll {H : Type} : List (DataW H) → Nat
  | [] => 0
  | d :: r => uptoBulk d + uptoBulkAll r
def uptoBulkEntries {H : Type} : List (Lit × DataW H) → Nat
  | [] => 0
  | x :: r => uptoBulkEntry x + uptoBulkEntries r
def uptoBulkEntry {H : Type} : Lit × DataW H → Nat
  | (.string bytes, d) => bytes.length + uptoBulk d + 1
  | (_, d) => uptoBulk d + 1
 end
def uptoSmall : (H : Type) → List (DataW H) → Bool := fun _ ds => decide (uptoBulkAll ds ≤ 1048576)
def OpenSpec.upto (s : _root_.Go.ChangeSpec) : _root_.Go.OpenSpec := { _root_.Go.OpenSpec.ofChange s with cond := some uptoSmall }

/-- 'laws.FnPaint', WHERE WHAT IT READS IS OF BULK AT MOST 1048576: true; the input reads as it did. -/
def fnPaintUptoRow : OpenClaim := { program := "ytaopponjedombaagreat", sum := "12833ffe36d6a90fa5118234e8b0e467675b47d9286ffe7d3691d1281c593ce6", func := "loop.example/g01166/laws.FnPaint", spec := "fnPaint", unfollowed := true, recurses := true, apart := false, narrowed := true }
def FnPaintUptoSaid : Prop := fnPaintUptoRow.holds Tryz.pinned (OpenSpec.upto fnPaintSpec)

/-- 'laws.FnBenches', WHERE WHAT IT READS IS OF BULK AT MOST 1048576: true; the input reads as it did. -/
def fnBenchesUptoRow : OpenClaim := { program := "ytaopponjedombaagreat", sum := "12833ffe36d6a90fa5118234e8b0e467675b47d9286ffe7d3691d1281c593ce6", func := "loop.example/g01166/laws.FnBenches", spec := "fnBenches", unfollowed := true, recurses := true, apart := false, narrowed := true }
def FnBenchesUptoSaid : Prop := fnBenchesUptoRow.holds Tryz.pinned (OpenSpec.upto fnBenchesSpec)

end Rows
end Go.Proofs.YtaopponjedombaaGreat
