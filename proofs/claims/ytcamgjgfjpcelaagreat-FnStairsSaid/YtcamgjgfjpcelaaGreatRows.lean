/-
  No cell of these rows narrows 'for every input' (looked for: loops, veiled, ifaces, maps, wideKeys, modest, calm, conditions, laid).
  DERIVED. THE GIVEN ROWS OF THIS SEAT. 3 by the template 'for every input the law returns true; each argument reads behind the call as it read before'; 0 by the template 'total and deterministic' (their statements: YtcamgjgfjpcelaaGreatTotals.lean).
  GIVEN WITH THE SEED: the statements are not yours to turn. If you find one false, say at which input.
  Laid BY PROGRAM, IN A SANDBOX (cutbox-rows.mjs): the forced cells as the released guide's own fill.sh prints them over the translation 01aac30a96e647d7… (all of the seat's roots in one cut). By AI agents, Wed Nov 11 2026. No macro, syntax, notation, axiom, sorry.
-/
import Derived.Test.YtcamgjgfjpcelaaGreatChecked
import GoSem.Claim
import GoSem.ClaimJoined
import GoSem.ClaimMapViews
import Derived.JoinedTies
import Derived.KernelRfl
namespace Go.Proofs.YtcamgjgfjpcelaaGreat
/- THE CELL 'sum', in the pinned program and in every row, IS THE sha256 OF THE DUMP (.gsa) THAT YtcamgjgfjpcelaaGreatProg.lean LOADS. Nothing in Lean hashes anything: it is a label: what it is worth is what the hold of that sum in a sandbox is worth. -/
noncomputable def Tryz.pinned : Pinned := { name := "ytcamgjgfjpcelaagreat", sum := "01aac30a96e647d7955cd013f02b99fb1fa6bdef379c67c27f4192c1e6553996", checked := Tryz.checked }
namespace Rows
def none {H : Type} : Left H := { results := [], args := [] }

/-- 'laws.FnStairs': WHATEVER THE INPUT: true; the input reads as it did. -/
def fnStairsSpec : ChangeSpec := { name := "fnStairs", fn := fun _ => fun
  | [d] => { results := [.lit (.bool true)], args := [d] }
  | _ => none }
def fnStairsRow : OpenClaim := { program := "ytcamgjgfjpcelaagreat", sum := "01aac30a96e647d7955cd013f02b99fb1fa6bdef379c67c27f4192c1e6553996", func := "loop.example/g01166/laws.FnStairs", spec := "fnStairs", unfollowed := true, recurses := true, apart := false }
def FnStairsSaid : Prop := fnStairsRow.holds Tryz.pinned (OpenSpec.ofChange fnStairsSpec)

/-- ITS FALSE NEIGHBOUR: 'it returns false'. Refute it at one input. -/
def fnStairsWrong : ChangeSpec := { name := "fnStairs", fn := fun _ => fun
  | [d] => { results := [.lit (.bool false)], args := [d] }
  | _ => none }
def FnStairsWrongFalsely : Prop := fnStairsRow.holds Tryz.pinned (OpenSpec.ofChange fnStairsWrong)

/-- 'laws.FnPackings': WHATEVER THE INPUT: true; the input reads as it did. -/
def fnPackingsSpec : ChangeSpec := { name := "fnPackings", fn := fun _ => fun
  | [d] => { results := [.lit (.bool true)], args := [d] }
  | _ => none }
def fnPackingsRow : OpenClaim := { program := "ytcamgjgfjpcelaagreat", sum := "01aac30a96e647d7955cd013f02b99fb1fa6bdef379c67c27f4192c1e6553996", func := "loop.example/g01166/laws.FnPackings", spec := "fnPackings", unfollowed := true, recurses := true, apart := false }
def FnPackingsSaid : Prop := fnPackingsRow.holds Tryz.pinned (OpenSpec.ofChange fnPackingsSpec)

/-- ITS FALSE NEIGHBOUR: 'it returns false'. Refute it at one input. -/
def fnPackingsWrong : ChangeSpec := { name := "fnPackings", fn := fun _ => fun
  | [d] => { results := [.lit (.bool false)], args := [d] }
  | _ => none }
def FnPackingsWrongFalsely : Prop := fnPackingsRow.holds Tryz.pinned (OpenSpec.ofChange fnPackingsWrong)

/-- 'laws.FnSwitches': WHATEVER THE INPUT: true; the input reads as it did. -/
def fnSwitchesSpec : ChangeSpec := { name := "fnSwitches", fn := fun _ => fun
  | [d] => { results := [.lit (.bool true)], args := [d] }
  | _ => none }
def fnSwitchesRow : OpenClaim := { program := "ytcamgjgfjpcelaagreat", sum := "01aac30a96e647d7955cd013f02b99fb1fa6bdef379c67c27f4192c1e6553996", func := "loop.example/g01166/laws.FnSwitches", spec := "fnSwitches", unfollowed := true, recurses := true, apart := false }
def FnSwitchesSaid : Prop := fnSwitchesRow.holds Tryz.pinned (OpenSpec.ofChange fnSwitchesSpec)

/-- ITS FALSE NEIGHBOUR: 'it returns false'. Refute it at one input. -/
def fnSwitchesWrong : ChangeSpec := { name := "fnSwitches", fn := fun _ => fun
  | [d] => { results := [.lit (.bool false)], args := [d] }
  | _ => none }
def FnSwitchesWrongFalsely : Prop := fnSwitchesRow.holds Tryz.pinned (OpenSpec.ofChange fnSwitchesWrong)

/- THE SECOND FORM. 'bulk': how many values and letters a reading holds, each counted each time it is reached (what is shared counts as often as it is met; a slice's spare places count too). A statement '..UptoSaid' is the law's where the arguments, and the package variables that the reading takes, are together of bulk at most 1048576: NARROWER than '..Said'. Prove '..Said' where nothing that the law and all that it calls make is longer than what came in: it says more and counts as full. Else prove '..UptoSaid'. A law counts once. -/
mutual
def uptoBulk {H : Type} : DataW H → Nat
  | .lit (.string bytes) => bytes.length + 1
  | .lit _ => 1
  | .nil => 1
  | .ptr d => uptoBulk d + 1
  | .slice elems spare => uptoBulkAll elems + uptoBulkAll spare + 1
  | .agg parts => uptoBulkAll parts + 1
  | .iface _ d => uptoBulk d + 1
  | .map entries => uptoBulkEntries entries + 1
  | .held _ => 1
def uptoBulkAll {H : Type} : List (DataW H) → Nat
  | [] => 0
  | d :: r => uptoBulk d + uptoBulkAll r
def uptoBulkEntries {H : Type} : List (Lit × DataW H) → Nat
  | [] => 0
  | x :: r => uptoBulkEntry x + uptoBulkEntries r
def uptoBulkEntry {H : Type} : Lit × DataW H → Nat
  | (.string bytes, d) => bytes.length + uptoBulk d + 1
  | (_, d) => uptoBulk d + 1
 end
def uptoSmall : (H : Type) → List (DataW H) → Bool := fun _ ds => decide (uptoBulkAll ds ≤ 1048576)
def OpenSpec.upto (s : _root_.Go.ChangeSpec) : _root_.Go.OpenSpec := { _root_.Go.OpenSpec.ofChange s with cond := some uptoSmall }

/-- 'laws.FnStairs', WHERE WHAT IT READS IS OF BULK AT MOST 1048576: true; the input reads as it did. -/
def fnStairsUptoRow : OpenClaim := { program := "ytcamgjgfjpcelaagreat", sum := "01aac30a96e647d7955cd013f02b99fb1fa6bdef379c67c27f4192c1e6553996", func := "loop.example/g01166/laws.FnStairs", spec := "fnStairs", unfollowed := true, recurses := true, apart := false, narrowed := true }
def FnStairsUptoSaid : Prop := fnStairsUptoRow.holds Tryz.pinned (OpenSpec.upto fnStairsSpec)

/-- 'laws.FnPackings', WHERE WHAT IT READS IS OF BULK AT MOST 1048576: true; the input reads as it did. -/
def fnPackingsUptoRow : OpenClaim := { program := "ytcamgjgfjpcelaagreat", sum := "01aac30a96e647d7955cd013f02b99fb1fa6bdef379c67c27f4192c1e6553996", func := "loop.example/g01166/laws.FnPackings", spec := "fnPackings", unfollowed := true, recurses := true, apart := false, narrowed := true }
def FnPackingsUptoSaid : Prop := fnPackingsUptoRow.holds Tryz.pinned (OpenSpec.upto fnPackingsSpec)

/-- 'laws.FnSwitches', WHERE WHAT IT READS IS OF BULK AT MOST 1048576: true; the input reads as it did. -/
def fnSwitchesUptoRow : OpenClaim := { program := "ytcamgjgfjpcelaagreat", sum := "01aac30a96e647d7955cd013f02b99fb1fa6bdef379c67c27f4192c1e6553996", func := "loop.example/g01166/laws.FnSwitches", spec := "fnSwitches", unfollowed := true, recurses := true, apart := false, narrowed := true }
def FnSwitchesUptoSaid : Prop := fnSwitchesUptoRow.holds Tryz.pinned (OpenSpec.upto fnSwitchesSpec)

end Rows
end Go.Proofs.YtcamgjgfjpcelaaGreat
