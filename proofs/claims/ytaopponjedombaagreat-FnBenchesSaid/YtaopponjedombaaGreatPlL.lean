/- Plain: cutting a heap. -/
import Derived.Test.YtaopponjedombaaGreatPlF
namespace Go.VI
open Go.Proofs

/-! ### Marks from any number on -/
/-! ### The two parts -/
theorem mask_append (Y Z : Int) (l r : List D_A3) (v : BitVec 64) : mask Y Z (l ++ r) v = mask Y Z r (mask Y Z l v) := by
  unfold mask
  rw [List.foldl_append]

end Go.VI
