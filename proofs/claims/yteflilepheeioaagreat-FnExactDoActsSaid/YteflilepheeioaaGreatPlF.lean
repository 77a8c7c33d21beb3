/- Plain: cuts. -/
import Derived.Test.YteflilepheeioaaGreatPlE
namespace Go.VI
open Go.Proofs

def sh (d s : Int) (c : D_A3) : D_A3 := ((bif decide (d = 0) then c.1 + s else c.1), (bif decide (d = 1) then c.2.1 + s else c.2.1), (bif decide (d = 2) then c.2.2.1 + s else c.2.2.1), ())

theorem ltC_sh (d s : Int) (a b : D_A3) : ltC (sh d s a) (sh d s b) = ltC a b := by
  unfold ltC sh
  cases decide (d = 0) <;> cases decide (d = 1) <;> cases decide (d = 2) <;> simp

theorem srt_sh {l : List D_A3} (h : Srt l) (d s : Int) : Srt (l.map (sh d s)) := by
  unfold Srt
  rw [List.pairwise_map]
  exact List.Pairwise.imp (fun {a b} hab => by rw [ltC_sh]; exact hab) h

theorem dir {d : Int} (h0 : 0 ≤ d) (h1 : d ≤ 2) : d = 0 ∨ d = 1 ∨ d = 2 := by omega

theorem get3_sh {d : Int} (h0 : 0 ≤ d) (h1 : d ≤ 2) (s : Int) (c : D_A3) : get3 (sh d s c) d = get3 c d + s := by
  rcases dir h0 h1 with rfl | rfl | rfl <;> rfl

theorem sh_sh (d s t : Int) (c : D_A3) : sh d t (sh d s c) = sh d (s + t) c := by
  refine cell_ext ?_ ?_ ?_ <;> simp only [sh]
  · cases decide (d = 0) <;> simp; omega
  · cases decide (d = 1) <;> simp; omega
  · cases decide (d = 2) <;> simp; omega

theorem sh_zero (d : Int) (c : D_A3) : sh d 0 c = c := by
  refine cell_ext ?_ ?_ ?_ <;> simp [sh]

def cutN (l : List D_A3) (d k : Int) : Nat := (l.filter fun c => decide (get3 c d = k) && decide (sh d (-1) c ∈ l)).length

theorem inB_dir {d : Int} (h0 : 0 ≤ d) (h1 : d ≤ 2) : inB d 3 = true := by
  rcases dir h0 h1 with rfl | rfl | rfl <;> decide

def side3 (X Y Z d : Int) : Int := bif decide (d = 0) then X else (bif decide (d = 1) then Y else Z)

theorem faces_eq (l : List D_A3) (hr : Srt l) (dr k : Int) (d0 : 0 ≤ dr) (d1 : dr ≤ 2) : (l.filter fun c => decide (get3 c dr = k - 1) && decide (sh dr 1 c ∈ l)).map (sh dr 1) = l.filter fun c => decide (get3 c dr = k) && decide (sh dr (-1) c ∈ l) := by
  refine srt_ext _ _ (srt_sh (hr.filter _) _ _) (hr.filter _) fun c => ?_
  simp only [List.mem_map, List.mem_filter, Bool.and_eq_true, decide_eq_true_eq]
  constructor
  · rintro ⟨a, ⟨h1, h2, h3⟩, rfl⟩
    refine ⟨h3, ?_, ?_⟩
    · rw [get3_sh d0 d1]; omega
    · rw [sh_sh, show (1 : Int) + -1 = 0 from rfl, sh_zero]; exact h1
  · rintro ⟨h1, h2, h3⟩
    refine ⟨sh dr (-1) c, ⟨h3, ?_, ?_⟩, ?_⟩
    · rw [get3_sh d0 d1]; omega
    · rw [sh_sh, show (-1 : Int) + 1 = 0 from rfl, sh_zero]; exact h1
    · rw [sh_sh, show (-1 : Int) + 1 = 0 from rfl, sh_zero]

def isCut (X Y Z d k : Int) : Bool := decide (0 ≤ d) && decide (d ≤ 2) && (decide (1 ≤ k) && decide (k ≤ side3 X Y Z d - 1))

theorem side3_ok {X Y Z : Int} (hs : sides X Y Z = true) (d : Int) : 1 ≤ side3 X Y Z d ∧ side3 X Y Z d ≤ 4 := by
  obtain ⟨s1, s2, s3⟩ := sides_iff.1 hs
  unfold side3
  cases decide (d = 0) <;> cases decide (d = 1) <;> simp <;> omega

theorem f_l2Long {X Y Z : Int} (l : List D_A3) {d : Int} (d0 : 0 ≤ d) (d1 : d ≤ 2) : P_spec_l2Long ((X, Y, Z, l, ()), d, ()) = some (side3 X Y Z d, ()) := by
  rw [p_spec_l2Long, inB_dir d0 d1]; rfl

def cutFacesV (h : D_Heap) (d k : Int) : Int × Bool × Unit := if okHeap h && isCut h.1 h.2.1 h.2.2.1 d k then ((cutN h.2.2.2.1 d k : Int), true, ()) else (0, false, ())

theorem isCut_iff {X Y Z d k : Int} : isCut X Y Z d k = true ↔ 0 ≤ d ∧ d ≤ 2 ∧ 1 ≤ k ∧ k ≤ side3 X Y Z d - 1 := by
  simp [isCut, and_assoc]

end Go.VI
/- Plain: painting and peeling. -/
namespace Go.VI
open Go.Proofs

/-- The cell behind one of the six faces. -/
def stp (k : Nat) (c : D_A3) : D_A3 := match k with
  | 0 => (c.1 + -1, c.2.1, c.2.2.1, ())
  | 1 => (c.1 + 1, c.2.1, c.2.2.1, ())
  | 2 => (c.1, c.2.1 + -1, c.2.2.1, ())
  | 3 => (c.1, c.2.1 + 1, c.2.2.1, ())
  | 4 => (c.1, c.2.1, c.2.2.1 + -1, ())
  | _ => (c.1, c.2.1, c.2.2.1 + 1, ())

def bareAt (l q : List D_A3) (c : D_A3) (k : Nat) : Bool := !decide (stp k c ∈ l) && !decide (stp k c ∈ q)

def pcount (l q : List D_A3) (c : D_A3) : (d k : Nat) → Nat
  | 0, _ => 0
  | d + 1, k => (if bareAt l q c k then 1 else 0) + pcount l q c d (k + 1)

def painted (l q : List D_A3) (c : D_A3) : Nat := pcount l q c 6 0

theorem pcount_le (l q : List D_A3) (c : D_A3) : ∀ (d k : Nat), pcount l q c d k ≤ d
  | 0, _ => by simp [pcount]
  | d + 1, k => by
    have := pcount_le l q c d (k + 1)
    simp only [pcount]
    split <;> omega

theorem painted_le (l q : List D_A3) (c : D_A3) : painted l q c ≤ 6 := pcount_le l q c 6 0

/-- Cells of which a sum fits. -/
def Near (c : D_A3) : Prop := -1000 ≤ c.1 ∧ c.1 ≤ 1000 ∧ -1000 ≤ c.2.1 ∧ c.2.1 ≤ 1000 ∧ -1000 ≤ c.2.2.1 ∧ c.2.2.1 ≤ 1000

theorem near_of {X Y Z : Int} (hs : sides X Y Z = true) {c : D_A3} (hc : within3 X Y Z c = true) : Near c := by
  obtain ⟨s1, s2, s3⟩ := sides_iff.1 hs
  obtain ⟨w1, w2, w3⟩ := within3_iff.1 hc
  unfold Near; omega

theorem six {k : Nat} (h : k < 6) : k = 0 ∨ k = 1 ∨ k = 2 ∨ k = 3 ∨ k = 4 ∨ k = 5 := by omega

theorem stp0 (c : D_A3) (k : Nat) : stp k c = match k with
  | 0 => (c.1 + -1, c.2.1 + 0, c.2.2.1 + 0, ())
  | 1 => (c.1 + 1, c.2.1 + 0, c.2.2.1 + 0, ())
  | 2 => (c.1 + 0, c.2.1 + -1, c.2.2.1 + 0, ())
  | 3 => (c.1 + 0, c.2.1 + 1, c.2.2.1 + 0, ())
  | 4 => (c.1 + 0, c.2.1 + 0, c.2.2.1 + -1, ())
  | _ => (c.1 + 0, c.2.1 + 0, c.2.2.1 + 1, ()) := by
  unfold stp
  split <;> simp

/-- A set of bits that holds the cells of a list. -/
def BitsOf (X Y Z : Int) (v : BitVec 64) (q : List D_A3) : Prop := Ins X Y Z q ∧ ∀ c, within3 X Y Z c = true → v.getLsbD (idx Y Z c) = decide (c ∈ q)

theorem holds_nil (X Y Z : Int) : BitsOf X Y Z 0 [] := ⟨(fun c h => by cases h), (fun c _ => by simp)⟩

/-! ### Peeling -/
def peel (l : List D_A3) : List D_A3 := l.filter fun c => decide (painted l [] c > 0) == false

theorem peel_small {l : List D_A3} (hl : Small l) : Small (peel l) := by
  unfold Small peel at *
  exact Nat.le_trans (List.length_filter_le _ _) hl

theorem peel_lt {l : List D_A3} (hr : Srt l) (h : 0 < l.length) : (peel l).length < l.length := by
  match l, hr, h with
  | a :: r, hr, _ =>
    have hn : stp 0 a ∉ a :: r := by
      intro hm
      have hlt : ltC (stp 0 a) a = true := by rw [ltC_iff]; left; show a.1 + -1 < a.1; omega
      rcases List.mem_cons.1 hm with e | hm'
      · rw [e, ltC_irrefl] at hlt; cases hlt
      · have := ltC_trans hlt ((List.pairwise_cons.1 hr).1 _ hm')
        rw [ltC_irrefl] at this; cases this
    have hp : painted (a :: r) [] a > 0 := by
      have hb : bareAt (a :: r) [] a 0 = true := by
        unfold bareAt
        rw [decide_eq_false hn, decide_eq_false (by simp)]
        rfl
      unfold painted
      simp only [pcount]
      rw [if_pos hb]
      omega
    unfold peel
    rw [List.filter_cons, if_neg (by simp [hp])]
    have := List.length_filter_le (fun c => decide (painted (a :: r) [] c > 0) == false) r
    simp only [List.length_cons]
    omega
end Go.VI
/- Plain: the laws of peeling. -/
namespace Go.VI
open Go.Proofs

def noHeap : D_Heap := (0, (0, (0, (([] : List D_A3), ()))))

def peelV (h : D_Heap) : D_Heap × Bool × Unit := if okHeap h then ((h.1, h.2.1, h.2.2.1, peel h.2.2.2.1, ()), true, ()) else (noHeap, false, ())

theorem peelV_small (h : D_Heap) (hl : Small h.2.2.2.1) : Small (peelV h).1.2.2.2.1 := by
  unfold peelV
  split
  · exact peel_small hl
  · unfold Small noHeap; simp

end Go.VI
