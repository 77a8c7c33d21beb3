/- Plain: the laws of peeling. -/
import Derived.Test.YteflilepheeioaaPlH
namespace Go.VI
open Go.Proofs

def noHeap : D_Heap := (0, (0, (0, (([] : List D_A3), ()))))

def peelV (h : D_Heap) : D_Heap × Bool × Unit := if okHeap h then ((h.1, h.2.1, h.2.2.1, peel h.2.2.2.1, ()), true, ()) else (noHeap, false, ())

theorem peelV_small (h : D_Heap) (hl : Small h.2.2.2.1) : Small (peelV h).1.2.2.2.1 := by
  unfold peelV
  split
  · exact peel_small hl
  · unfold Small noHeap; simp

end Go.VI
