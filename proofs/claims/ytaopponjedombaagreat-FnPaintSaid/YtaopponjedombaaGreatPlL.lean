/- Plain: cutting a heap. -/
import Derived.Test.YtaopponjedombaaGreatPlF
namespace Go.VI
open Go.Proofs

/-! ### Marks from any number on -/
/-! ### The two parts -/
end Go.VI
