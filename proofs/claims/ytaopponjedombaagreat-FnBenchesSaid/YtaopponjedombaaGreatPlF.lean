/- Plain: cuts. -/
import Derived.Test.YtaopponjedombaaGreatPlE
namespace Go.VI
open Go.Proofs

theorem dir {d : Int} (h0 : 0 ≤ d) (h1 : d ≤ 2) : d = 0 ∨ d = 1 ∨ d = 2 := by omega

theorem inB_dir {d : Int} (h0 : 0 ≤ d) (h1 : d ≤ 2) : inB d 3 = true := by
  rcases dir h0 h1 with rfl | rfl | rfl <;> decide

def side3 (X Y Z d : Int) : Int := bif decide (d = 0) then X else (bif decide (d = 1) then Y else Z)

theorem f_l2Long {X Y Z : Int} (l : List D_A3) {d : Int} (d0 : 0 ≤ d) (d1 : d ≤ 2) : P_spec_l2Long ((X, Y, Z, l, ()), d, ()) = some (side3 X Y Z d, ()) := by
  rw [p_spec_l2Long, inB_dir d0 d1]; rfl

end Go.VI
/- Plain: painting and peeling. -/
namespace Go.VI
open Go.Proofs

/-- The cell behind one of the six faces. -/
def stp (k : Nat) (c : D_A3) : D_A3 := match k with
  | 0 => (c.1 + -1, c.2.1, c.2.2.1, ())
  | 1 => (c.1 + 1, c.2.1, c.2.2.1, ())
  | 2 => (c.1, c.2.1 + -1, c.2.2.1, ())
  | 3 => (c.1, c.2.1 + 1, c.2.2.1, ())
  | 4 => (c.1, c.2.1, c.2.2.1 + -1, ())
  | _ => (c.1, c.2.1, c.2.2.1 + 1, ())

def bareAt (l q : List D_A3) (c : D_A3) (k : Nat) : Bool := !decide (stp k c ∈ l) && !decide (stp k c ∈ q)

def pcount (l q : List D_A3) (c : D_A3) : (d k : Nat) → Nat
  | 0, _ => 0
  | d + 1, k => (if bareAt l q c k then 1 else 0) + pcount l q c d (k + 1)

def painted (l q : List D_A3) (c : D_A3) : Nat := pcount l q c 6 0

theorem pcount_le (l q : List D_A3) (c : D_A3) : ∀ (d k : Nat), pcount l q c d k ≤ d
  | 0, _ => by simp [pcount]
  | d + 1, k => by
    have := pcount_le l q c d (k + 1)
    simp only [pcount]
    split <;> omega

theorem painted_le (l q : List D_A3) (c : D_A3) : painted l q c ≤ 6 := pcount_le l q c 6 0

/-- Cells of which a sum fits. -/
def Near (c : D_A3) : Prop := -1000 ≤ c.1 ∧ c.1 ≤ 1000 ∧ -1000 ≤ c.2.1 ∧ c.2.1 ≤ 1000 ∧ -1000 ≤ c.2.2.1 ∧ c.2.2.1 ≤ 1000

theorem near_of {X Y Z : Int} (hs : sides X Y Z = true) {c : D_A3} (hc : within3 X Y Z c = true) : Near c := by
  obtain ⟨s1, s2, s3⟩ := sides_iff.1 hs
  obtain ⟨w1, w2, w3⟩ := within3_iff.1 hc
  unfold Near; omega

theorem six {k : Nat} (h : k < 6) : k = 0 ∨ k = 1 ∨ k = 2 ∨ k = 3 ∨ k = 4 ∨ k = 5 := by omega

/-- A set of bits that holds the cells of a list. -/
def BitsOf (X Y Z : Int) (v : BitVec 64) (q : List D_A3) : Prop := Ins X Y Z q ∧ ∀ c, within3 X Y Z c = true → v.getLsbD (idx Y Z c) = decide (c ∈ q)

theorem holds_nil (X Y Z : Int) : BitsOf X Y Z 0 [] := ⟨(fun c h => by cases h), (fun c _ => by simp)⟩

/-! ### Peeling -/
end Go.VI
/- Plain: the laws of peeling. -/
namespace Go.VI
open Go.Proofs

def noHeap : D_Heap := (0, (0, (0, (([] : List D_A3), ()))))

end Go.VI
