/- Plain: cutting a heap. -/
import Derived.Test.YteflilepheeioaaGreatPlF
namespace Go.VI
open Go.Proofs

/-! ### Marks from any number on -/
theorem f_markK (h : D_Heap) (k : Int) (hl : Small h.2.2.2.1) (h0 : 0 ≤ k) (h1 : k ≤ 10000000) : P_laws_markHeap (h, k, ()) = some ((k + 3 * (h.2.2.2.1.length : Int), ()), ((0, 0, 0, marked h.2.2.2.1 k, ()), ())) := by
  have := l_mark2 h.2.2.2.1 k hl h0 h1 h.2.2.2.1.length 0 N h.2.2.2.1 (by simp) (by unfold Small at hl; have := N_ge; omega) rfl (by simp)
  rw [p_laws_markHeap, p_laws_markIntA3S]
  simp only [Int.natCast_zero, Int.mul_zero, Int.add_zero] at this
  rw [this]
  rfl

theorem f_heldK (h : D_Heap) (l : List D_A3) (k : Int) (hl : Small l) (h0 : 0 ≤ k) (h1 : k ≤ 10000000) (hh : h.2.2.2.1 = marked l k) : P_laws_heldHeap (h, k, ()) = some (k + 3 * (l.length : Int), ()) := by
  have := l_held2 l k hl h0 h1 l.length 0 N (by simp) (by unfold Small at hl; have := N_ge; omega)
  rw [p_laws_heldHeap, hh, p_laws_heldIntA3S]
  simp only [Int.natCast_zero, Int.mul_zero, Int.add_zero] at this
  rw [this]
  simp only [Option.bind_some]
  rw [decide_eq_false (by omega)]
  rfl

/-! ### The two parts -/
def lowOf (l : List D_A3) (d k : Int) : List D_A3 := l.filter fun c => decide (get3 c d < k)
def highOf (l : List D_A3) (d k : Int) : List D_A3 := (l.filter fun c => !decide (get3 c d < k)).map (sh d (-k))

theorem sh_text {d : Int} (d0 : 0 ≤ d) (d1 : d ≤ 2) (c : D_A3) (hc : Near c) (k : Int) (k0 : 0 ≤ k) (k1 : k ≤ 4) : ((bif decide (d = (0 : Int)) then (IntKind.wrap .i64 ((bif decide (d = (0 : Int)) then c.1 else (bif decide (d = (1 : Int)) then c.2.1 else c.2.2.1)) - k)) else c.1), ((bif decide (d = (1 : Int)) then (IntKind.wrap .i64 ((bif decide (d = (0 : Int)) then c.1 else (bif decide (d = (1 : Int)) then c.2.1 else c.2.2.1)) - k)) else c.2.1), ((bif decide (d = (2 : Int)) then (IntKind.wrap .i64 ((bif decide (d = (0 : Int)) then c.1 else (bif decide (d = (1 : Int)) then c.2.1 else c.2.2.1)) - k)) else c.2.2.1), ()))) = sh d (-k) c := by
  unfold Near at hc
  rw [w64]
  · rcases dir d0 d1 with rfl | rfl | rfl <;> rfl
  all_goals rcases dir d0 d1 with rfl | rfl | rfl <;> simp <;> omega

theorem mask_append (Y Z : Int) (l r : List D_A3) (v : BitVec 64) : mask Y Z (l ++ r) v = mask Y Z r (mask Y Z l v) := by
  unfold mask
  rw [List.foldl_append]

def boxWith (X Y Z d s : Int) (l : List D_A3) : D_Heap := ((bif decide (d = 0) then s else X), (bif decide (d = 1) then s else Y), (bif decide (d = 2) then s else Z), l, ())

def cutV (h : D_Heap) (d k : Int) : D_Heap × D_Heap × Bool × Unit :=
  if okHeap h && isCut h.1 h.2.1 h.2.2.1 d k then (boxWith h.1 h.2.1 h.2.2.1 d k (lowOf h.2.2.2.1 d k), boxWith h.1 h.2.1 h.2.2.1 d (side3 h.1 h.2.1 h.2.2.1 d - k) (highOf h.2.2.2.1 d k), true, ()) else (noHeap, noHeap, false, ())

theorem cutV_small (h : D_Heap) (hl : Small h.2.2.2.1) (d k : Int) : Small (cutV h d k).1.2.2.2.1 ∧ Small (cutV h d k).2.1.2.2.2.1 := by
  unfold cutV
  split
  · refine ⟨Nat.le_trans (List.length_filter_le _ _) hl, ?_⟩
    show (highOf h.2.2.2.1 d k).length ≤ 1048576
    unfold highOf
    rw [List.length_map]
    exact Nat.le_trans (List.length_filter_le _ _) hl
  · exact ⟨by unfold Small noHeap; simp, by unfold Small noHeap; simp⟩

end Go.VI
