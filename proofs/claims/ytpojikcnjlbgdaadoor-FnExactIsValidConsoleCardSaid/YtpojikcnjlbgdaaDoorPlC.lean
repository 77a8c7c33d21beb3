/- Plain: benches. -/
import Derived.Test.YtpojikcnjlbgdaaDoorPlB
namespace Go.VI
open Go.Proofs

def okBench (b : D_Bench) : Bool := okHeap b.1 && within3one b.2.1 b.1.2.2.2.1.length && within3one b.2.2.1 1000
where within3one (x hi : Int) : Bool := decide (0 ≤ x) && decide (x ≤ hi)

theorem f_in0 (x hi : Int) : P_spec_l1In (x, 0, hi, ()) = some (decide (0 ≤ x) && decide (x ≤ hi), ()) := f_spec_l1In x 0 hi

theorem f_impl_IsBench (b : D_Bench) (hl : Small b.1.2.2.2.1) : P_impl_IsBench (b, ()) = some (okBench b, ()) := by
  rw [p_impl_IsBench, f_impl_IsHeap _ hl]
  simp only [Option.bind_some, f_impl_within, okBench, okBench.within3one]
  cases okHeap b.1 <;> simp
  cases decide (0 ≤ b.2.1) <;> cases decide (b.2.1 ≤ (b.1.2.2.2.1.length : Int)) <;> simp

/-! ### Own benches -/
theorem own1 (l : List D_A3) (hl : Small l) : (decide (((List.length ([] : List D_A3)) + (List.length l)) * 24 ≤ 140737488355328) && decide (((List.length ([] : List D_A3)) + (List.length l)) ≤ 140737488355328)) = true := by
  unfold Small at hl
  simp only [List.length_nil, Nat.zero_add, Bool.and_eq_true, decide_eq_true_eq]
  omega

def noBench : D_Bench := ((0, (0, (0, (([] : List D_A3), ())))), (0, (0, ())))
theorem small_nil : Small ([] : List D_A3) := by unfold Small; simp

def newBench (h : D_Heap) : D_Bench × Bool × Unit := if okHeap h then ((h, ((h.2.2.2.1.length : Int), (0, ()))), true, ()) else (noBench, false, ())

theorem newBench_small (h : D_Heap) (hl : Small h.2.2.2.1) : Small (newBench h).1.1.2.2.2.1 := by
  unfold newBench
  split
  · exact hl
  · exact small_nil

def noConsole : D_Console := (noBench, ((([] : List UInt8), (([] : List UInt8), (0, ()))), ()))
def newConsole (b : D_Bench) : D_Console × Bool × Unit := if okBench b then ((b, ((([] : List UInt8), (([] : List UInt8), (0, ()))), ())), true, ()) else (noConsole, false, ())

theorem newConsole_small (b : D_Bench) (hl : Small b.1.2.2.2.1) : Small (newConsole b).1.1.1.2.2.2.1 := by
  unfold newConsole
  split
  · exact hl
  · exact small_nil

theorem f_eqConsole (c : D_Console) (hl : Small c.1.1.2.2.2.1) : P_laws_eqConsole (c, c, ()) = some (true, ()) := by
  rw [p_laws_eqConsole, f_eqBench _ hl, p_laws_eqLog]; simp

end Go.VI
