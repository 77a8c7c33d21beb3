/- The step of the forms, by evaluation: three cubes, their forms. -/
import Derived.Test.YtlnfgikipeiaiaaEvF
namespace Go.VI
open Go.Proofs
set_option maxRecDepth 100000
theorem memB3 : memB FL4 FL3 = true := by kernel_rfl
end Go.VI
