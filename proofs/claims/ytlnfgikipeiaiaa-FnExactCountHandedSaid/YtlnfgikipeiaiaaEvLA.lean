/- Which forms are handed, by evaluation: part A. -/
import Derived.Test.YtlnfgikipeiaiaaEvK
namespace Go.VI
open Go.Proofs
set_option maxRecDepth 100000
theorem hdI0 : E_Heap_handed ((1,1,1,[(0,0,0,())],()), ()) = some (false, ()) := by kernel_rfl
theorem hdS0 : E_spec_l8Handed ((1,1,1,[(0,0,0,())],()), ()) = some (false, ()) := by kernel_rfl
theorem hdI1 : E_Heap_handed ((1,1,2,[(0,0,0,()),(0,0,1,())],()), ()) = some (false, ()) := by kernel_rfl
theorem hdS1 : E_spec_l8Handed ((1,1,2,[(0,0,0,()),(0,0,1,())],()), ()) = some (false, ()) := by kernel_rfl
theorem hdI2 : E_Heap_handed ((1,1,3,[(0,0,0,()),(0,0,1,()),(0,0,2,())],()), ()) = some (false, ()) := by kernel_rfl
theorem hdS2 : E_spec_l8Handed ((1,1,3,[(0,0,0,()),(0,0,1,()),(0,0,2,())],()), ()) = some (false, ()) := by kernel_rfl
theorem hdI3 : E_Heap_handed ((1,2,2,[(0,0,0,()),(0,0,1,()),(0,1,0,())],()), ()) = some (false, ()) := by kernel_rfl
theorem hdS3 : E_spec_l8Handed ((1,2,2,[(0,0,0,()),(0,0,1,()),(0,1,0,())],()), ()) = some (false, ()) := by kernel_rfl
theorem hdI4 : E_Heap_handed ((1,1,4,[(0,0,0,()),(0,0,1,()),(0,0,2,()),(0,0,3,())],()), ()) = some (false, ()) := by kernel_rfl
theorem hdS4 : E_spec_l8Handed ((1,1,4,[(0,0,0,()),(0,0,1,()),(0,0,2,()),(0,0,3,())],()), ()) = some (false, ()) := by kernel_rfl
theorem hdI5 : E_Heap_handed ((1,2,2,[(0,0,0,()),(0,0,1,()),(0,1,0,()),(0,1,1,())],()), ()) = some (false, ()) := by kernel_rfl
theorem hdS5 : E_spec_l8Handed ((1,2,2,[(0,0,0,()),(0,0,1,()),(0,1,0,()),(0,1,1,())],()), ()) = some (false, ()) := by kernel_rfl
end Go.VI
/- Which forms are handed, by evaluation: part B. -/
namespace Go.VI
open Go.Proofs
set_option maxRecDepth 100000
theorem hdI6 : E_Heap_handed ((1,2,3,[(0,0,0,()),(0,0,1,()),(0,0,2,()),(0,1,0,())],()), ()) = some (false, ()) := by kernel_rfl
theorem hdS6 : E_spec_l8Handed ((1,2,3,[(0,0,0,()),(0,0,1,()),(0,0,2,()),(0,1,0,())],()), ()) = some (false, ()) := by kernel_rfl
theorem hdI7 : E_Heap_handed ((1,2,3,[(0,0,0,()),(0,0,1,()),(0,0,2,()),(0,1,1,())],()), ()) = some (false, ()) := by kernel_rfl
theorem hdS7 : E_spec_l8Handed ((1,2,3,[(0,0,0,()),(0,0,1,()),(0,0,2,()),(0,1,1,())],()), ()) = some (false, ()) := by kernel_rfl
theorem hdI8 : E_Heap_handed ((1,2,3,[(0,0,0,()),(0,0,1,()),(0,1,1,()),(0,1,2,())],()), ()) = some (false, ()) := by kernel_rfl
theorem hdS8 : E_spec_l8Handed ((1,2,3,[(0,0,0,()),(0,0,1,()),(0,1,1,()),(0,1,2,())],()), ()) = some (false, ()) := by kernel_rfl
end Go.VI
