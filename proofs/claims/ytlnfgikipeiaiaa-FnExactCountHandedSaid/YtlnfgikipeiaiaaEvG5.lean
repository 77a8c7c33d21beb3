/- The step of the forms, by evaluation: the reference. -/
import Derived.Test.YtlnfgikipeiaiaaEvF
namespace Go.VI
open Go.Proofs
set_option maxRecDepth 100000
theorem specF1 : E_spec_FormsOf (1, ()) = some (FL1, true, ()) := by kernel_rfl
theorem specF2 : E_spec_FormsOf (2, ()) = some (FL2, true, ()) := by kernel_rfl
theorem specF3 : E_spec_FormsOf (3, ()) = some (FL3, true, ()) := by kernel_rfl
theorem specF4 : E_spec_FormsOf (4, ()) = some (FL4, true, ()) := by kernel_rfl
end Go.VI
