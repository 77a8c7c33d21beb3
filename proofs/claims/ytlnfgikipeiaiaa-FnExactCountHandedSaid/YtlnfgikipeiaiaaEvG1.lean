/- The step of the forms, by evaluation: one and two cubes, the order. -/
import Derived.Test.YtlnfgikipeiaiaaEvF
namespace Go.VI
open Go.Proofs
set_option maxRecDepth 100000
theorem stepB1 : stepB FL1 = true := by kernel_rfl
theorem memB1 : memB FL2 FL1 = true := by kernel_rfl
theorem ordB2 : ordB FL2 = true := by kernel_rfl
theorem ordB3 : ordB FL3 = true := by kernel_rfl
theorem ordB4 : ordB FL4 = true := by kernel_rfl
end Go.VI
