/- Plain facts that the printed equations lean on. -/
import Derived.Test.YtaopponjedombaaGreatG9
namespace Go.VI
open Go.Proofs

theorem w64 {x : Int} (h0 : -9223372036854775808 ≤ x) (h1 : x ≤ 9223372036854775807) : IntKind.wrap .i64 x = x := by rw [IntKind.wrap_i64]; omega

theorem inB_at {k n : Nat} (h : k < n) : inB (k : Int) n = true := by simp [inB]; omega

theorem nthA {t : Ty} {l : List t.den} {k : Nat} (h : k < l.length) : nth t l (k : Int) = l[k] := by simp [nth, List.getD, List.getElem?_eq_getElem h]

theorem ltT {k n : Nat} (h : k < n) : decide ((k : Int) < (n : Int)) = true := decide_eq_true (by omega)
theorem ltF {k n : Nat} (h : ¬ k < n) : decide ((k : Int) < (n : Int)) = false := decide_eq_false (by omega)

theorem succI (k : Nat) (h : k < 1000000000) : IntKind.wrap .i64 ((k : Int) + 1) = ((k + 1 : Nat) : Int) := by rw [w64 (by omega) (by omega)]; omega

theorem drop_at {α : Type} (s : List α) (k : Nat) (h : k < s.length) : s.drop k = s[k] :: s.drop (k + 1) := List.drop_eq_getElem_cons h

/-- A text's length that a statement admits. -/
def Small {α : Type} (l : List α) : Prop := l.length ≤ 1048576

/-! ### Numbers in bounds -/
theorem f_impl_within (a b c : Int) : P_impl_within (a, b, c, ()) = some (decide (b ≤ a) && decide (a ≤ c), ()) := by
  rw [p_impl_within]
  by_cases h : a ≥ b <;> simp [h]

theorem f_spec_l1In (a b c : Int) : P_spec_l1In (a, b, c, ()) = some (decide (b ≤ a) && decide (a ≤ c), ()) := by
  rw [p_spec_l1In]
  by_cases h : a ≥ b <;> simp [h]

/-! ### Cells -/
def get3 (c : D_A3) (i : Int) : Int := bif decide (i = 0) then c.1 else (bif decide (i = 1) then c.2.1 else c.2.2.1)

def within3 (X Y Z : Int) (c : D_A3) : Bool := decide (0 ≤ c.1) && decide (c.1 ≤ X - 1) && (decide (0 ≤ c.2.1) && decide (c.2.1 ≤ Y - 1)) && (decide (0 ≤ c.2.2.1) && decide (c.2.2.1 ≤ Z - 1))

def ltC (a b : D_A3) : Bool := decide (a.1 < b.1) || (decide (a.1 = b.1) && (decide (a.2.1 < b.2.1) || (decide (a.2.1 = b.2.1) && decide (a.2.2.1 < b.2.2.1))))

def side (n : Int) : Bool := decide (1 ≤ n) && decide (n ≤ 4)
def sides (X Y Z : Int) : Bool := side X && side Y && side Z

theorem and3 (a b c : Bool) : (bif a then bif b then some (c, ()) else some (false, ()) else some (false, ())) = some (a && b && c, ()) := by cases a <;> cases b <;> rfl

theorem f_spec_l2Sides (X Y Z : Int) : P_spec_l2Sides (X, Y, Z, ()) = some (sides X Y Z, ()) := by
  simp only [p_spec_l2Sides, f_spec_l1In, Option.bind_some, and3, sides, side]

theorem f_box_valid (b : D_A3) : P_box_valid (b, ()) = some (sides b.1 b.2.1 b.2.2.1, ()) := by
  simp only [p_box_valid, f_impl_within, Option.bind_some, and3, sides, side]

theorem sides_iff {X Y Z : Int} : sides X Y Z = true ↔ (1 ≤ X ∧ X ≤ 4) ∧ (1 ≤ Y ∧ Y ≤ 4) ∧ (1 ≤ Z ∧ Z ≤ 4) := by
  simp [sides, side, and_assoc]

theorem f_spec_l2In (h : D_Heap) (c : D_A3) (hs : sides h.1 h.2.1 h.2.2.1 = true) : P_spec_l2In (h, c, ()) = some (within3 h.1 h.2.1 h.2.2.1 c, ()) := by
  obtain ⟨h1, h2, h3⟩ := sides_iff.1 hs
  simp only [p_spec_l2In, f_spec_l1In, Option.bind_some, and3, within3]
  rw [w64 (by omega) (by omega), w64 (by omega) (by omega), w64 (by omega) (by omega)]

theorem f_box_has (b : D_A3) (c : D_A3) (hs : sides b.1 b.2.1 b.2.2.1 = true) : P_box_has (b, c, ()) = some (within3 b.1 b.2.1 b.2.2.1 c, ()) := by
  obtain ⟨h1, h2, h3⟩ := sides_iff.1 hs
  simp only [p_box_has, f_impl_within, Option.bind_some, and3, within3]
  rw [w64 (by omega) (by omega), w64 (by omega) (by omega), w64 (by omega) (by omega)]

theorem f_Heap_box (h : D_Heap) : P_Heap_box (h, ()) = some ((h.1, h.2.1, h.2.2.1, ()), ()) := p_Heap_box h

theorem N_eq : N = (N - 4) + 4 := by have := N_ge; omega

theorem f_spec_l2Before (a b : D_A3) : P_spec_l2Before (a, b, ()) = some (ltC a b, ()) := by
  rw [p_spec_l2Before, N_eq, q_spec_l2Before_2]
  by_cases h1 : a.1 = b.1
  · have w1 : IntKind.wrap .i64 ((0 : Int) + 1) = 1 := by rw [w64] <;> omega
    simp only [h1, w1]
    rw [q_spec_l2Before_2]
    by_cases h2 : a.2.1 = b.2.1
    · have w2 : IntKind.wrap .i64 ((1 : Int) + 1) = 2 := by rw [w64] <;> omega
      simp only [h2, w2]
      rw [q_spec_l2Before_2]
      by_cases h3 : a.2.2.1 = b.2.2.1
      · have w3 : IntKind.wrap .i64 ((2 : Int) + 1) = 3 := by rw [w64] <;> omega
        simp only [h3, w3]
        rw [q_spec_l2Before_2]
        simp [inB, ltC, h1, h2, h3]
      · simp [inB, ltC, h1, h2, h3]
    · simp [inB, ltC, h1, h2]
  · simp [inB, ltC, h1]

theorem f_cmp (a b : Int) : P_cmp_Compare_int (a, b, ()) = some (if a < b then -1 else if b < a then 1 else 0, ()) := by
  have hn : ∀ x : Int, P_cmp_isNaN_int (x, ()) = some (false, ()) := fun x => by rw [p_cmp_isNaN_int]; simp
  rw [p_cmp_Compare_int]
  simp only [hn, Option.bind_some, cond_false]
  by_cases h1 : a < b
  · simp [h1]
  · by_cases h2 : b < a <;> simp [h1, h2]

def cmpC (a b : D_A3) : Int := if a.1 < b.1 then -1 else if b.1 < a.1 then 1 else if a.2.1 < b.2.1 then -1 else if b.2.1 < a.2.1 then 1 else if a.2.2.1 < b.2.2.1 then -1 else if b.2.2.1 < a.2.2.1 then 1 else 0

theorem f_impl_compareCells (a b : D_A3) : P_impl_compareCells (a, b, ()) = some (cmpC a b, ()) := by
  have n0 : ∀ x y z : Int, nth (.int .i64) [x, y, z] 0 = x := fun _ _ _ => rfl
  have n1 : ∀ x y z : Int, nth (.int .i64) [x, y, z] 1 = y := fun _ _ _ => rfl
  have n2 : ∀ x y z : Int, nth (.int .i64) [x, y, z] 2 = z := fun _ _ _ => rfl
  have w1 : IntKind.wrap .i64 ((0 : Int) + 1) = 1 := by rw [w64] <;> omega
  have w2 : IntKind.wrap .i64 ((1 : Int) + 1) = 2 := by rw [w64] <;> omega
  have w3 : IntKind.wrap .i64 ((2 : Int) + 1) = 3 := by rw [w64] <;> omega
  rw [p_impl_compareCells, p_slices_Compare_int_int, N_eq, q_slices_Compare_int_int_2]
  simp only [f_cmp, n0, List.length_cons, List.length_nil, Option.bind_some]
  by_cases h1 : a.1 = b.1
  · rw [w1, q_slices_Compare_int_int_2]
    simp only [f_cmp, n1, List.length_cons, List.length_nil, Option.bind_some]
    by_cases h2 : a.2.1 = b.2.1
    · rw [w2, q_slices_Compare_int_int_2]
      simp only [f_cmp, n2, List.length_cons, List.length_nil, Option.bind_some]
      by_cases h3 : a.2.2.1 = b.2.2.1
      · rw [w3, q_slices_Compare_int_int_2]
        simp [inB, cmpC, h1, h2, h3]
      · rcases Int.lt_or_gt_of_ne h3 with h | h
        · simp [inB, cmpC, h1, h2, h]
        · have h' : ¬ a.2.2.1 < b.2.2.1 := by omega
          simp [inB, cmpC, h1, h2, h, h']
    · rcases Int.lt_or_gt_of_ne h2 with h | h
      · simp [inB, cmpC, h1, h]
      · have h' : ¬ a.2.1 < b.2.1 := by omega
        simp [inB, cmpC, h1, h, h']
  · rcases Int.lt_or_gt_of_ne h1 with h | h
    · simp [inB, cmpC, h]
    · have h' : ¬ a.1 < b.1 := by omega
      simp [inB, cmpC, h, h']

theorem cmpC_lt (a b : D_A3) : decide (cmpC a b ≥ 0) = !ltC a b := by
  unfold cmpC ltC
  by_cases h1 : a.1 < b.1
  · simp [h1]
  · by_cases h1' : b.1 < a.1
    · have e : ¬ a.1 = b.1 := by omega
      simp [h1, h1', e]
    · have e : a.1 = b.1 := by omega
      by_cases h2 : a.2.1 < b.2.1
      · simp [e, h2]
      · by_cases h2' : b.2.1 < a.2.1
        · have e2 : ¬ a.2.1 = b.2.1 := by omega
          simp [e, h2, h2', e2]
        · have e2 : a.2.1 = b.2.1 := by omega
          by_cases h3 : a.2.2.1 < b.2.2.1
          · simp [e, e2, h3]
          · by_cases h3' : b.2.2.1 < a.2.2.1
            · simp [e, e2, h3, h3']
            · simp [e, e2, h3, h3']

/-! ### Heaps -/
/-- Cells of a box in order, behind one that may be ahead. -/
def okTail (X Y Z : Int) : Option D_A3 → List D_A3 → Bool
  | _, [] => true
  | p, c :: r => within3 X Y Z c && (match p with | none => true | some q => ltC q c) && okTail X Y Z (some c) r

def okHeap (h : D_Heap) : Bool := sides h.1 h.2.1 h.2.2.1 && okTail h.1 h.2.1 h.2.2.1 none h.2.2.2.1

def prevAt (l : List D_A3) (k : Nat) : Option D_A3 := if k = 0 then none else l[k - 1]?

theorem predI {k : Nat} (h0 : 0 < k) (h : k < 1000000000) : IntKind.wrap .i64 ((k : Int) - 1) = ((k - 1 : Nat) : Int) := by rw [w64 (by omega) (by omega)]; omega

theorem l_spec_l2Heap (X Y Z : Int) (l : List D_A3) (hs : sides X Y Z = true) (hl : Small l) : ∀ (d k m : Nat), l.length = k + d → d < m → l_spec_l2Heap_4 m X Y Z l (k : Int) = some (okTail X Y Z (prevAt l k) (l.drop k), ())
  | d, k, 0, hk, hm => by omega
  | d, k, m + 1, hk, hm => by
    unfold Small at hl
    rw [q_spec_l2Heap_4]
    by_cases hlt : k < l.length
    · have ih := l_spec_l2Heap X Y Z l hs hl (d - 1) (k + 1) m (by omega) (by omega)
      have hp : prevAt l (k + 1) = some l[k] := by simp [prevAt, List.getElem?_eq_getElem hlt]
      rw [hp] at ih
      rw [succI k (by omega), ih, drop_at l k hlt, ltT hlt, inB_at hlt, nthA (t := T_A3) hlt, f_spec_l2In _ _ hs]
      simp only [cond_true, Option.bind_some, okTail]
      cases within3 X Y Z l[k] with
      | false => simp
      | true =>
        by_cases h0 : k = 0
        · subst h0
          simp [prevAt]
        · have hk1 : k - 1 < l.length := by omega
          have hpos : decide ((k : Int) > 0) = true := decide_eq_true (by omega)
          rw [hpos, predI (by omega) (by omega), inB_at hk1, nthA (t := T_A3) hk1, f_spec_l2Before]
          simp only [prevAt, h0, if_false, List.getElem?_eq_getElem hk1, cond_true, Option.bind_some, Bool.not_true, cond_false]
          cases ltC l[k - 1] l[k] <;> simp
    · rw [ltF hlt, List.drop_eq_nil_of_le (by omega)]
      simp [okTail]

theorem f_spec_l2Heap (h : D_Heap) (hl : Small h.2.2.2.1) : P_spec_l2Heap (h, ()) = some (okHeap h, ()) := by
  rw [p_spec_l2Heap, f_spec_l2Sides]
  unfold okHeap
  cases hs : sides h.1 h.2.1 h.2.2.1 with
  | false => simp
  | true =>
    have := l_spec_l2Heap _ _ _ h.2.2.2.1 hs hl h.2.2.2.1.length 0 N (by simp) (by unfold Small at hl; have := N_ge; omega)
    simp only [Int.natCast_zero, List.drop_zero, prevAt, if_true] at this
    simp [this]

theorem l_impl_IsHeap (X Y Z : Int) (l : List D_A3) (hs : sides X Y Z = true) (hl : Small l) : ∀ (d k m : Nat), l.length = k + d → d < m → l_impl_IsHeap_4 m X Y Z l l (l.length : Int) (k : Int) = some (okTail X Y Z (prevAt l k) (l.drop k), ())
  | d, k, 0, hk, hm => by omega
  | d, k, m + 1, hk, hm => by
    unfold Small at hl
    rw [q_impl_IsHeap_4]
    by_cases hlt : k < l.length
    · have ih := l_impl_IsHeap X Y Z l hs hl (d - 1) (k + 1) m (by omega) (by omega)
      have hp : prevAt l (k + 1) = some l[k] := by simp [prevAt, List.getElem?_eq_getElem hlt]
      rw [hp] at ih
      rw [succI k (by omega), ih, drop_at l k hlt, ltT hlt, inB_at hlt, nthA (t := T_A3) hlt, f_Heap_box]
      simp only [cond_true, Option.bind_some]
      rw [f_box_has _ _ hs]
      simp only [cond_true, Option.bind_some, okTail]
      cases within3 X Y Z l[k] with
      | false => simp
      | true =>
        by_cases h0 : k = 0
        · subst h0
          simp [prevAt]
        · have hk1 : k - 1 < l.length := by omega
          have hpos : decide ((k : Int) > 0) = true := decide_eq_true (by omega)
          rw [hpos, predI (by omega) (by omega), inB_at hk1, nthA (t := T_A3) hk1, f_impl_compareCells]
          simp only [prevAt, h0, if_false, List.getElem?_eq_getElem hk1, cond_true, Option.bind_some, Bool.not_true, cond_false, cmpC_lt]
          cases ltC l[k - 1] l[k] <;> simp
    · rw [ltF hlt, List.drop_eq_nil_of_le (by omega)]
      simp [okTail]

theorem f_impl_IsHeap (h : D_Heap) (hl : Small h.2.2.2.1) : P_impl_IsHeap (h, ()) = some (okHeap h, ()) := by
  rw [p_impl_IsHeap, f_Heap_box]
  simp only [Option.bind_some]
  rw [f_box_valid]
  unfold okHeap
  cases hs : sides h.1 h.2.1 h.2.2.1 with
  | false => simp [hs]
  | true =>
    have := l_impl_IsHeap _ _ _ h.2.2.2.1 hs hl h.2.2.2.1.length 0 N (by simp) (by unfold Small at hl; have := N_ge; omega)
    simp only [Int.natCast_zero, List.drop_zero, prevAt, if_true] at this
    simp [this, hs]
end Go.VI
