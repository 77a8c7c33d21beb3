/- Which forms are handed, by evaluation: part C. -/
import Derived.Test.YtlnfgikipeiaiaaEvK
namespace Go.VI
open Go.Proofs
set_option maxRecDepth 100000
theorem hdI9 : E_Heap_handed ((2,2,2,[(0,0,0,()),(0,0,1,()),(0,1,0,()),(1,0,0,())],()), ()) = some (false, ()) := by kernel_rfl
theorem hdS9 : E_spec_l8Handed ((2,2,2,[(0,0,0,()),(0,0,1,()),(0,1,0,()),(1,0,0,())],()), ()) = some (false, ()) := by kernel_rfl
theorem hdI10 : E_Heap_handed ((2,2,2,[(0,0,0,()),(0,0,1,()),(0,1,0,()),(1,0,1,())],()), ()) = some (true, ()) := by kernel_rfl
theorem hdS10 : E_spec_l8Handed ((2,2,2,[(0,0,0,()),(0,0,1,()),(0,1,0,()),(1,0,1,())],()), ()) = some (true, ()) := by kernel_rfl
theorem hdI11 : E_Heap_handed ((2,2,2,[(0,0,0,()),(0,0,1,()),(0,1,0,()),(1,1,0,())],()), ()) = some (true, ()) := by kernel_rfl
theorem hdS11 : E_spec_l8Handed ((2,2,2,[(0,0,0,()),(0,0,1,()),(0,1,0,()),(1,1,0,())],()), ()) = some (true, ()) := by kernel_rfl
end Go.VI
