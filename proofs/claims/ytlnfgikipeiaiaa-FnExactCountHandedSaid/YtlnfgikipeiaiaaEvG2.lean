/- The step of the forms, by evaluation: two cubes. -/
import Derived.Test.YtlnfgikipeiaiaaEvF
namespace Go.VI
open Go.Proofs
set_option maxRecDepth 100000
theorem stepB2 : stepB FL2 = true := by kernel_rfl
theorem memB2 : memB FL3 FL2 = true := by kernel_rfl
end Go.VI
