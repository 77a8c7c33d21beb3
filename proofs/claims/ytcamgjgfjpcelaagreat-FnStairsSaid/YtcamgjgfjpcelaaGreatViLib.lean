/- VI, part 32: library functions by their contracts. -/
import Derived.Test.YtcamgjgfjpcelaaGreatViGen
namespace Go.VI
noncomputable section
open Go.RowKit
def flatTy : Ty → Bool
  | .int _ | .bool | .str => true
  | _ => false
def flatC : (t : Ty) → t.den → Cell
  | .int k, n => .int k n
  | .bool, b => .bool b
  | .str, s => .str s
  | _, _ => .bool false
def resC : (R : List (Bool × Ty)) → denL R → List Cell
  | [], _ => []
  | p :: r, x => flatC p.2 x.1 :: resC r x.2
def flatR (R : List (Bool × Ty)) : Bool := R.all fun p => !p.1 && flatTy p.2
theorem resL_plain : ∀ (R : List (Bool × Ty)) (r : denL R) (ms : List RMode), flatR R = true → resL R r ms = (resC R r).map fun c => (false, [RCell.flat c])
  | [], _, _, _ => rfl
  | (true, t) :: R, r, ms, h => by simp [flatR] at h
  | (false, t) :: R, r, ms, h => by
    have h' : flatTy t = true ∧ flatR R = true := by simpa [flatR] using h
    have ih := resL_plain R r.2
    cases t <;> simp [flatTy] at h' <;> simp [resL, resM, resC, flatC, ih _ h']
end
end Go.VI
