/- The step of the forms, by evaluation: three cubes in a line, the candidates. -/
import Derived.Test.YtlnfgikipeiaiaaEvF
namespace Go.VI
open Go.Proofs
set_option maxRecDepth 100000
theorem cellA0 : cellB [(0,0,0,()),(0,0,1,()),(0,0,2,())] (0,0,0,()) = true := by kernel_rfl
theorem cellA1 : cellB [(0,0,0,()),(0,0,1,()),(0,0,2,())] (0,0,1,()) = true := by kernel_rfl
theorem cellA2 : cellB [(0,0,0,()),(0,0,1,()),(0,0,2,())] (0,0,2,()) = true := by kernel_rfl
end Go.VI
/- The step of the forms, by evaluation: three other cubes, the candidates. -/
namespace Go.VI
open Go.Proofs
set_option maxRecDepth 100000
theorem cellC0 : cellB [(0,0,0,()),(0,0,1,()),(0,1,0,())] (0,0,0,()) = true := by kernel_rfl
theorem cellC1 : cellB [(0,0,0,()),(0,0,1,()),(0,1,0,())] (0,0,1,()) = true := by kernel_rfl
theorem cellC2 : cellB [(0,0,0,()),(0,0,1,()),(0,1,0,())] (0,1,0,()) = true := by kernel_rfl
end Go.VI
