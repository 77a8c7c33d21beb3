/- Plain facts that the printed equations lean on. -/
import Derived.Test.YtkiiaoekkppghaaG17
namespace Go.VI
open Go.Proofs

theorem w64 {x : Int} (h0 : -9223372036854775808 ≤ x) (h1 : x ≤ 9223372036854775807) : IntKind.wrap .i64 x = x := by rw [IntKind.wrap_i64]; omega

theorem inB_at {k n : Nat} (h : k < n) : inB (k : Int) n = true := by simp [inB]; omega

theorem nthA {t : Ty} {l : List t.den} {k : Nat} (h : k < l.length) : nth t l (k : Int) = l[k] := by simp [nth, List.getD, List.getElem?_eq_getElem h]

theorem ltT {k n : Nat} (h : k < n) : decide ((k : Int) < (n : Int)) = true := decide_eq_true (by omega)
theorem ltF {k n : Nat} (h : ¬ k < n) : decide ((k : Int) < (n : Int)) = false := decide_eq_false (by omega)

theorem succI (k : Nat) (h : k < 1000000000) : IntKind.wrap .i64 ((k : Int) + 1) = ((k + 1 : Nat) : Int) := by rw [w64 (by omega) (by omega)]; omega

theorem drop_at {α : Type} (s : List α) (k : Nat) (h : k < s.length) : s.drop k = s[k] :: s.drop (k + 1) := List.drop_eq_getElem_cons h

/-- A text's length that a statement admits. -/
def Small {α : Type} (l : List α) : Prop := l.length ≤ 1048576

/-! ### Numbers in bounds -/
theorem f_impl_within (a b c : Int) : P_impl_within (a, b, c, ()) = some (decide (b ≤ a) && decide (a ≤ c), ()) := by
  rw [p_impl_within]
  by_cases h : a ≥ b <;> simp [h]

theorem f_spec_l1In (a b c : Int) : P_spec_l1In (a, b, c, ()) = some (decide (b ≤ a) && decide (a ≤ c), ()) := by
  rw [p_spec_l1In]
  by_cases h : a ≥ b <;> simp [h]

/-! ### Cells -/
def get3 (c : D_A3) (i : Int) : Int := bif decide (i = 0) then c.1 else (bif decide (i = 1) then c.2.1 else c.2.2.1)

def within3 (X Y Z : Int) (c : D_A3) : Bool := decide (0 ≤ c.1) && decide (c.1 ≤ X - 1) && (decide (0 ≤ c.2.1) && decide (c.2.1 ≤ Y - 1)) && (decide (0 ≤ c.2.2.1) && decide (c.2.2.1 ≤ Z - 1))

def ltC (a b : D_A3) : Bool := decide (a.1 < b.1) || (decide (a.1 = b.1) && (decide (a.2.1 < b.2.1) || (decide (a.2.1 = b.2.1) && decide (a.2.2.1 < b.2.2.1))))

def side (n : Int) : Bool := decide (1 ≤ n) && decide (n ≤ 4)
def sides (X Y Z : Int) : Bool := side X && side Y && side Z

theorem and3 (a b c : Bool) : (bif a then bif b then some (c, ()) else some (false, ()) else some (false, ())) = some (a && b && c, ()) := by cases a <;> cases b <;> rfl

theorem f_spec_l2Sides (X Y Z : Int) : P_spec_l2Sides (X, Y, Z, ()) = some (sides X Y Z, ()) := by
  simp only [p_spec_l2Sides, f_spec_l1In, Option.bind_some, and3, sides, side]

theorem f_box_valid (b : D_A3) : P_box_valid (b, ()) = some (sides b.1 b.2.1 b.2.2.1, ()) := by
  simp only [p_box_valid, f_impl_within, Option.bind_some, and3, sides, side]

theorem sides_iff {X Y Z : Int} : sides X Y Z = true ↔ (1 ≤ X ∧ X ≤ 4) ∧ (1 ≤ Y ∧ Y ≤ 4) ∧ (1 ≤ Z ∧ Z ≤ 4) := by
  simp [sides, side, and_assoc]

theorem f_spec_l2In (h : D_Heap) (c : D_A3) (hs : sides h.1 h.2.1 h.2.2.1 = true) : P_spec_l2In (h, c, ()) = some (within3 h.1 h.2.1 h.2.2.1 c, ()) := by
  obtain ⟨h1, h2, h3⟩ := sides_iff.1 hs
  simp only [p_spec_l2In, f_spec_l1In, Option.bind_some, and3, within3]
  rw [w64 (by omega) (by omega), w64 (by omega) (by omega), w64 (by omega) (by omega)]

theorem f_box_has (b : D_A3) (c : D_A3) (hs : sides b.1 b.2.1 b.2.2.1 = true) : P_box_has (b, c, ()) = some (within3 b.1 b.2.1 b.2.2.1 c, ()) := by
  obtain ⟨h1, h2, h3⟩ := sides_iff.1 hs
  simp only [p_box_has, f_impl_within, Option.bind_some, and3, within3]
  rw [w64 (by omega) (by omega), w64 (by omega) (by omega), w64 (by omega) (by omega)]

theorem f_Heap_box (h : D_Heap) : P_Heap_box (h, ()) = some ((h.1, h.2.1, h.2.2.1, ()), ()) := p_Heap_box h

theorem N_eq : N = (N - 4) + 4 := by have := N_ge; omega

theorem f_spec_l2Before (a b : D_A3) : P_spec_l2Before (a, b, ()) = some (ltC a b, ()) := by
  rw [p_spec_l2Before, N_eq, q_spec_l2Before_2]
  by_cases h1 : a.1 = b.1
  · have w1 : IntKind.wrap .i64 ((0 : Int) + 1) = 1 := by rw [w64] <;> omega
    simp only [h1, w1]
    rw [q_spec_l2Before_2]
    by_cases h2 : a.2.1 = b.2.1
    · have w2 : IntKind.wrap .i64 ((1 : Int) + 1) = 2 := by rw [w64] <;> omega
      simp only [h2, w2]
      rw [q_spec_l2Before_2]
      by_cases h3 : a.2.2.1 = b.2.2.1
      · have w3 : IntKind.wrap .i64 ((2 : Int) + 1) = 3 := by rw [w64] <;> omega
        simp only [h3, w3]
        rw [q_spec_l2Before_2]
        simp [inB, ltC, h1, h2, h3]
      · simp [inB, ltC, h1, h2, h3]
    · simp [inB, ltC, h1, h2]
  · simp [inB, ltC, h1]

theorem f_cmp (a b : Int) : P_cmp_Compare_int (a, b, ()) = some (if a < b then -1 else if b < a then 1 else 0, ()) := by
  have hn : ∀ x : Int, P_cmp_isNaN_int (x, ()) = some (false, ()) := fun x => by rw [p_cmp_isNaN_int]; simp
  rw [p_cmp_Compare_int]
  simp only [hn, Option.bind_some, cond_false]
  by_cases h1 : a < b
  · simp [h1]
  · by_cases h2 : b < a <;> simp [h1, h2]

def cmpC (a b : D_A3) : Int := if a.1 < b.1 then -1 else if b.1 < a.1 then 1 else if a.2.1 < b.2.1 then -1 else if b.2.1 < a.2.1 then 1 else if a.2.2.1 < b.2.2.1 then -1 else if b.2.2.1 < a.2.2.1 then 1 else 0

theorem f_impl_compareCells (a b : D_A3) : P_impl_compareCells (a, b, ()) = some (cmpC a b, ()) := by
  have n0 : ∀ x y z : Int, nth (.int .i64) [x, y, z] 0 = x := fun _ _ _ => rfl
  have n1 : ∀ x y z : Int, nth (.int .i64) [x, y, z] 1 = y := fun _ _ _ => rfl
  have n2 : ∀ x y z : Int, nth (.int .i64) [x, y, z] 2 = z := fun _ _ _ => rfl
  have w1 : IntKind.wrap .i64 ((0 : Int) + 1) = 1 := by rw [w64] <;> omega
  have w2 : IntKind.wrap .i64 ((1 : Int) + 1) = 2 := by rw [w64] <;> omega
  have w3 : IntKind.wrap .i64 ((2 : Int) + 1) = 3 := by rw [w64] <;> omega
  rw [p_impl_compareCells, p_slices_Compare_int_int, N_eq, q_slices_Compare_int_int_2]
  simp only [f_cmp, n0, List.length_cons, List.length_nil, Option.bind_some]
  by_cases h1 : a.1 = b.1
  · rw [w1, q_slices_Compare_int_int_2]
    simp only [f_cmp, n1, List.length_cons, List.length_nil, Option.bind_some]
    by_cases h2 : a.2.1 = b.2.1
    · rw [w2, q_slices_Compare_int_int_2]
      simp only [f_cmp, n2, List.length_cons, List.length_nil, Option.bind_some]
      by_cases h3 : a.2.2.1 = b.2.2.1
      · rw [w3, q_slices_Compare_int_int_2]
        simp [inB, cmpC, h1, h2, h3]
      · rcases Int.lt_or_gt_of_ne h3 with h | h
        · simp [inB, cmpC, h1, h2, h]
        · have h' : ¬ a.2.2.1 < b.2.2.1 := by omega
          simp [inB, cmpC, h1, h2, h, h']
    · rcases Int.lt_or_gt_of_ne h2 with h | h
      · simp [inB, cmpC, h1, h]
      · have h' : ¬ a.2.1 < b.2.1 := by omega
        simp [inB, cmpC, h1, h, h']
  · rcases Int.lt_or_gt_of_ne h1 with h | h
    · simp [inB, cmpC, h]
    · have h' : ¬ a.1 < b.1 := by omega
      simp [inB, cmpC, h, h']

theorem cmpC_lt (a b : D_A3) : decide (cmpC a b ≥ 0) = !ltC a b := by
  unfold cmpC ltC
  by_cases h1 : a.1 < b.1
  · simp [h1]
  · by_cases h1' : b.1 < a.1
    · have e : ¬ a.1 = b.1 := by omega
      simp [h1, h1', e]
    · have e : a.1 = b.1 := by omega
      by_cases h2 : a.2.1 < b.2.1
      · simp [e, h2]
      · by_cases h2' : b.2.1 < a.2.1
        · have e2 : ¬ a.2.1 = b.2.1 := by omega
          simp [e, h2, h2', e2]
        · have e2 : a.2.1 = b.2.1 := by omega
          by_cases h3 : a.2.2.1 < b.2.2.1
          · simp [e, e2, h3]
          · by_cases h3' : b.2.2.1 < a.2.2.1
            · simp [e, e2, h3, h3']
            · simp [e, e2, h3, h3']

/-! ### Heaps -/
/-- Cells of a box in order, behind one that may be ahead. -/
def okTail (X Y Z : Int) : Option D_A3 → List D_A3 → Bool
  | _, [] => true
  | p, c :: r => within3 X Y Z c && (match p with | none => true | some q => ltC q c) && okTail X Y Z (some c) r

def okHeap (h : D_Heap) : Bool := sides h.1 h.2.1 h.2.2.1 && okTail h.1 h.2.1 h.2.2.1 none h.2.2.2.1

def prevAt (l : List D_A3) (k : Nat) : Option D_A3 := if k = 0 then none else l[k - 1]?

theorem predI {k : Nat} (h0 : 0 < k) (h : k < 1000000000) : IntKind.wrap .i64 ((k : Int) - 1) = ((k - 1 : Nat) : Int) := by rw [w64 (by omega) (by omega)]; omega

theorem l_spec_l2Heap (X Y Z : Int) (l : List D_A3) (hs : sides X Y Z = true) (hl : Small l) : ∀ (d k m : Nat), l.length = k + d → d < m → l_spec_l2Heap_4 m X Y Z l (k : Int) = some (okTail X Y Z (prevAt l k) (l.drop k), ())
  | d, k, 0, hk, hm => by omega
  | d, k, m + 1, hk, hm => by
    unfold Small at hl
    rw [q_spec_l2Heap_4]
    by_cases hlt : k < l.length
    · have ih := l_spec_l2Heap X Y Z l hs hl (d - 1) (k + 1) m (by omega) (by omega)
      have hp : prevAt l (k + 1) = some l[k] := by simp [prevAt, List.getElem?_eq_getElem hlt]
      rw [hp] at ih
      rw [succI k (by omega), ih, drop_at l k hlt, ltT hlt, inB_at hlt, nthA (t := T_A3) hlt, f_spec_l2In _ _ hs]
      simp only [cond_true, Option.bind_some, okTail]
      cases within3 X Y Z l[k] with
      | false => simp
      | true =>
        by_cases h0 : k = 0
        · subst h0
          simp [prevAt]
        · have hk1 : k - 1 < l.length := by omega
          have hpos : decide ((k : Int) > 0) = true := decide_eq_true (by omega)
          rw [hpos, predI (by omega) (by omega), inB_at hk1, nthA (t := T_A3) hk1, f_spec_l2Before]
          simp only [prevAt, h0, if_false, List.getElem?_eq_getElem hk1, cond_true, Option.bind_some, Bool.not_true, cond_false]
          cases ltC l[k - 1] l[k] <;> simp
    · rw [ltF hlt, List.drop_eq_nil_of_le (by omega)]
      simp [okTail]

theorem f_spec_l2Heap (h : D_Heap) (hl : Small h.2.2.2.1) : P_spec_l2Heap (h, ()) = some (okHeap h, ()) := by
  rw [p_spec_l2Heap, f_spec_l2Sides]
  unfold okHeap
  cases hs : sides h.1 h.2.1 h.2.2.1 with
  | false => simp
  | true =>
    have := l_spec_l2Heap _ _ _ h.2.2.2.1 hs hl h.2.2.2.1.length 0 N (by simp) (by unfold Small at hl; have := N_ge; omega)
    simp only [Int.natCast_zero, List.drop_zero, prevAt, if_true] at this
    simp [this]

theorem l_impl_IsHeap (X Y Z : Int) (l : List D_A3) (hs : sides X Y Z = true) (hl : Small l) : ∀ (d k m : Nat), l.length = k + d → d < m → l_impl_IsHeap_4 m X Y Z l l (l.length : Int) (k : Int) = some (okTail X Y Z (prevAt l k) (l.drop k), ())
  | d, k, 0, hk, hm => by omega
  | d, k, m + 1, hk, hm => by
    unfold Small at hl
    rw [q_impl_IsHeap_4]
    by_cases hlt : k < l.length
    · have ih := l_impl_IsHeap X Y Z l hs hl (d - 1) (k + 1) m (by omega) (by omega)
      have hp : prevAt l (k + 1) = some l[k] := by simp [prevAt, List.getElem?_eq_getElem hlt]
      rw [hp] at ih
      rw [succI k (by omega), ih, drop_at l k hlt, ltT hlt, inB_at hlt, nthA (t := T_A3) hlt, f_Heap_box]
      simp only [cond_true, Option.bind_some]
      rw [f_box_has _ _ hs]
      simp only [cond_true, Option.bind_some, okTail]
      cases within3 X Y Z l[k] with
      | false => simp
      | true =>
        by_cases h0 : k = 0
        · subst h0
          simp [prevAt]
        · have hk1 : k - 1 < l.length := by omega
          have hpos : decide ((k : Int) > 0) = true := decide_eq_true (by omega)
          rw [hpos, predI (by omega) (by omega), inB_at hk1, nthA (t := T_A3) hk1, f_impl_compareCells]
          simp only [prevAt, h0, if_false, List.getElem?_eq_getElem hk1, cond_true, Option.bind_some, Bool.not_true, cond_false, cmpC_lt]
          cases ltC l[k - 1] l[k] <;> simp
    · rw [ltF hlt, List.drop_eq_nil_of_le (by omega)]
      simp [okTail]

theorem f_impl_IsHeap (h : D_Heap) (hl : Small h.2.2.2.1) : P_impl_IsHeap (h, ()) = some (okHeap h, ()) := by
  rw [p_impl_IsHeap, f_Heap_box]
  simp only [Option.bind_some]
  rw [f_box_valid]
  unfold okHeap
  cases hs : sides h.1 h.2.1 h.2.2.1 with
  | false => simp [hs]
  | true =>
    have := l_impl_IsHeap _ _ _ h.2.2.2.1 hs hl h.2.2.2.1.length 0 N (by simp) (by unfold Small at hl; have := N_ge; omega)
    simp only [Int.natCast_zero, List.drop_zero, prevAt, if_true] at this
    simp [this, hs]
end Go.VI
/- Plain: the laws' own functions on heaps. -/
namespace Go.VI
open Go.Proofs

/-! ### Sizes -/
theorem f_szIntA3S (l : List D_A3) (left : Int) (h0 : 0 ≤ left) (h1 : left ≤ 1048576) (hl : l.length ≤ 9223372036854775807) : ∃ z, P_laws_szIntA3S (l, left, ()) = some (z, ()) ∧ z ≤ left ∧ (z < 0 ∨ (z = left - l.length ∧ (l.length : Int) ≤ left)) := by
  rw [p_laws_szIntA3S, w64 (by omega) (by omega)]
  by_cases h : left - (l.length : Int) < 0
  · exact ⟨-1, by simp [h], by omega, .inl (by omega)⟩
  · exact ⟨left - l.length, by simp [h], by omega, .inr ⟨rfl, by omega⟩⟩

theorem f_szHeap (h : D_Heap) (left : Int) (h0 : 0 ≤ left) (h1 : left ≤ 1048576) (hl : h.2.2.2.1.length ≤ 9223372036854775807) : ∃ z, P_laws_szHeap (h, left, ()) = some (z, ()) ∧ z ≤ left ∧ (z < 0 ∨ Small h.2.2.2.1) := by
  obtain ⟨z, hz, hle, hor⟩ := f_szIntA3S h.2.2.2.1 left h0 h1 hl
  rw [p_laws_szHeap, hz]
  simp only [Option.bind_some]
  by_cases hn : z < 0
  · exact ⟨-1, by simp [hn], by omega, .inl (by omega)⟩
  · exact ⟨z, by simp [hn], hle, .inr (by unfold Small; omega)⟩

/-! ### Copies -/
theorem one64 : IntKind.wrap .i64 ((0 : Int) + 1) = 1 := by rw [w64] <;> omega
theorem two64 : IntKind.wrap .i64 ((1 : Int) + 1) = 2 := by rw [w64] <;> omega
theorem three64 : IntKind.wrap .i64 ((2 : Int) + 1) = 3 := by rw [w64] <;> omega
theorem four64 : IntKind.wrap .i64 ((3 : Int) + 1) = 4 := by rw [w64] <;> omega
theorem five64 : IntKind.wrap .i64 ((4 : Int) + 1) = 5 := by rw [w64] <;> omega
theorem six64 : IntKind.wrap .i64 ((5 : Int) + 1) = 6 := by rw [w64] <;> omega
theorem seven64 : IntKind.wrap .i64 ((6 : Int) + 1) = 7 := by rw [w64] <;> omega

theorem f_toIntA3 (c : D_A3) : P_laws_toIntA3 (c, ()) = some (c, ()) := by
  rw [p_laws_toIntA3, N_eq, q_laws_toIntA3_3, one64]
  simp only [inB, decide_true, Bool.and_self, cond_true]
  rw [q_laws_toIntA3_3, two64, q_laws_toIntA3_3, three64, q_laws_toIntA3_3]
  simp [inB]

theorem set_take {α : Type} (l acc : List α) (k : Nat) (h : k < l.length) (ha : acc.length = l.length) (ht : acc.take k = l.take k) : (acc.set k l[k]).take (k + 1) = l.take (k + 1) := by
  apply List.ext_getElem?
  intro i
  rw [List.getElem?_take, List.getElem?_take]
  by_cases hi : i < k + 1
  · rw [if_pos hi, if_pos hi, List.getElem?_set]
    by_cases hik : k = i
    · subst hik
      simp [ha, h]
    · rw [if_neg hik]
      have := congrArg (fun z => z[i]?) ht
      simpa [List.getElem?_take, show i < k by omega] using this
  · rw [if_neg hi, if_neg hi]

theorem l_toIntA3S (l : List D_A3) (hl : Small l) : ∀ (d k m : Nat) (acc : List D_A3), l.length = k + d → d < m → acc.length = l.length → acc.take k = l.take k → l_laws_toIntA3S_3 m l acc (k : Int) = some (l, ())
  | d, k, 0, acc, hk, hm, ha, ht => by omega
  | d, k, m + 1, acc, hk, hm, ha, ht => by
    unfold Small at hl
    rw [q_laws_toIntA3S_3]
    by_cases hlt : k < l.length
    · rw [ltT hlt, inB_at hlt, nthA (t := T_A3) hlt, f_toIntA3, inB_at (by omega), succI k (by omega)]
      simp only [cond_true, Option.bind_some, Int.toNat_natCast]
      exact l_toIntA3S l hl (d - 1) (k + 1) m _ (by omega) (by omega) (by simp [ha]) (set_take l acc k hlt ha ht)
    · rw [ltF hlt]
      rw [List.take_of_length_le (by omega), List.take_of_length_le (by omega)] at ht
      simp [ht]

theorem f_toIntA3S (l : List D_A3) (hl : Small l) : P_laws_toIntA3S (l, ()) = some (l, ()) := by
  have := l_toIntA3S l hl l.length 0 N (List.replicate l.length (Ty.dflt T_A3)) (by simp) (by unfold Small at hl; have := N_ge; omega) (by simp) (by simp)
  unfold Small at hl
  have h1 : ((l.length : Int)) * ((24 : Nat) : Int) ≤ 140737488355328 := by omega
  have h2 : (l.length : Int) ≤ 140737488355328 := by omega
  have h0 : (0 : Int) ≤ (l.length : Int) := by omega
  rw [p_laws_toIntA3S]
  simp only [h0, h2, Int.le_refl, decide_true, Bool.and_self, Bool.true_and, Bool.and_true, decide_eq_true h1, cond_true, Int.toNat_natCast]
  exact this

theorem f_toHeap (h : D_Heap) (hl : Small h.2.2.2.1) : P_laws_toHeap (h, ()) = some (h, ()) := by
  rw [p_laws_toHeap, f_toIntA3S _ hl]; rfl

/-! ### Comparing -/
theorem f_eqIntA3 (c : D_A3) : P_laws_eqIntA3 (c, c, ()) = some (true, ()) := by
  rw [p_laws_eqIntA3, N_eq, q_laws_eqIntA3_2, one64, q_laws_eqIntA3_2, two64, q_laws_eqIntA3_2, three64, q_laws_eqIntA3_2]
  simp [inB]

theorem l_eqIntA3S (l : List D_A3) (hl : Small l) : ∀ (d k m : Nat), l.length = k + d → d < m → l_laws_eqIntA3S_4 m l l (k : Int) = some (true, ())
  | d, k, 0, hk, hm => by omega
  | d, k, m + 1, hk, hm => by
    unfold Small at hl
    rw [q_laws_eqIntA3S_4]
    by_cases hlt : k < l.length
    · rw [ltT hlt, inB_at hlt, nthA (t := T_A3) hlt, f_eqIntA3, succI k (by omega), l_eqIntA3S l hl (d - 1) (k + 1) m (by omega) (by omega)]
      simp
    · rw [ltF hlt]; rfl

theorem f_eqIntA3S (l : List D_A3) (hl : Small l) : P_laws_eqIntA3S (l, l, ()) = some (true, ()) := by
  have := l_eqIntA3S l hl l.length 0 N (by simp) (by unfold Small at hl; have := N_ge; omega)
  rw [p_laws_eqIntA3S]
  simp only [decide_true, Bool.not_true, cond_false]
  exact this

theorem f_eqHeap (h : D_Heap) (hl : Small h.2.2.2.1) : P_laws_eqHeap (h, h, ()) = some (true, ()) := by
  rw [p_laws_eqHeap, f_eqIntA3S _ hl]; simp

/-! ### Marks -/
def marked : List D_A3 → Int → List D_A3
  | [], _ => []
  | _ :: r, k => (k, k + 1, k + 2, ()) :: marked r (k + 3)

theorem marked_length : ∀ (l : List D_A3) (k : Int), (marked l k).length = l.length
  | [], _ => rfl
  | _ :: r, k => by simp [marked, marked_length r]

theorem marked_at : ∀ (l : List D_A3) (k : Int) (i : Nat) (h : i < (marked l k).length), (marked l k)[i] = (k + 3 * i, k + 3 * i + 1, k + 3 * i + 2, ())
  | [], k, i, h => by simp [marked] at h
  | _ :: r, k, 0, h => by simp [marked]
  | _ :: r, k, i + 1, h => by
    have := marked_at r (k + 3) i (by simpa [marked] using h)
    simp only [marked, List.getElem_cons_succ, this]
    simp only [Prod.mk.injEq, and_true]
    omega

theorem l_mark5 (m0 : Nat) (l : List D_A3) (k : Int) (i : Nat) (hi : i < l.length) (h0 : 0 ≤ k) (h1 : k ≤ 100000000) (h2 : i < 100000000) :
    l_laws_markIntA3S_5 m0 N l k (i : Int) 0 = l_laws_markIntA3S_2 m0 (l.set i (k, k + 1, k + 2, ())) (k + 3) ((i + 1 : Nat) : Int) := by
  have hn : ∀ x : D_A3, nth T_A3 (l.set i x) (i : Int) = x := fun x => by rw [nthA (t := T_A3) (by simpa using hi)]; simp
  rw [N_eq, q_laws_markIntA3S_5, one64, w64 (x := k + 1) (by omega) (by omega)]
  simp only [inB_at hi, show inB 0 3 = true from rfl, show decide ((0 : Int) < 3) = true from rfl, cond_true, Int.toNat_natCast]
  rw [q_laws_markIntA3S_5, two64, w64 (x := k + 1 + 1) (by omega) (by omega)]
  simp only [hn, List.length_set, inB_at hi, show inB 1 3 = true from rfl, show decide ((1 : Int) < 3) = true from rfl, cond_true, Int.toNat_natCast, List.set_set]
  rw [q_laws_markIntA3S_5, three64, w64 (x := k + 1 + 1 + 1) (by omega) (by omega)]
  simp only [hn, List.length_set, inB_at hi, show inB 2 3 = true from rfl, show decide ((2 : Int) < 3) = true from rfl, cond_true, Int.toNat_natCast, List.set_set]
  rw [q_laws_markIntA3S_5, succI i (by omega), show k + 1 + 1 + 1 = k + 3 by omega, show k + 1 + 1 = k + 2 by omega]
  simp

theorem l_mark2 (l : List D_A3) (k : Int) (hl : Small l) (h0 : 0 ≤ k) (h1 : k ≤ 10000000) : ∀ (d i m : Nat) (acc : List D_A3), l.length = i + d → d < m → acc.length = l.length → acc.take i = (marked l k).take i →
    l_laws_markIntA3S_2 m acc (k + 3 * i) (i : Int) = some ((k + 3 * l.length, ()), (marked l k, ()))
  | d, i, 0, acc, hk, hm, ha, ht => by omega
  | d, i, m + 1, acc, hk, hm, ha, ht => by
    unfold Small at hl
    have hml := marked_length l k
    rw [q_laws_markIntA3S_2]
    by_cases hlt : i < acc.length
    · rw [ltT hlt, l_mark5 m acc (k + 3 * i) i hlt (by omega) (by omega) (by omega)]
      simp only [cond_true]
      rw [show k + 3 * (i : Int) + 3 = k + 3 * ((i + 1 : Nat) : Int) by omega]
      refine l_mark2 l k hl h0 h1 (d - 1) (i + 1) m _ (by omega) (by omega) (by simp [ha]) ?_
      rw [← marked_at l k i (by omega)]
      exact set_take (marked l k) acc i (by omega) (by omega) ht
    · rw [ltF hlt]
      rw [List.take_of_length_le (by omega), List.take_of_length_le (by omega)] at ht
      have hil : i = l.length := by omega
      subst hil
      simp [ht]

theorem f_markIntA3S (l : List D_A3) (hl : Small l) : P_laws_markIntA3S (l, 1, ()) = some ((1 + 3 * (l.length : Int), ()), (marked l 1, ())) := by
  have := l_mark2 l 1 hl (by omega) (by omega) l.length 0 N l (by simp) (by unfold Small at hl; have := N_ge; omega) rfl (by simp)
  rw [p_laws_markIntA3S]
  simpa using this

theorem f_markHeap (h : D_Heap) (hl : Small h.2.2.2.1) : P_laws_markHeap (h, 1, ()) = some ((1 + 3 * (h.2.2.2.1.length : Int), ()), ((0, 0, 0, marked h.2.2.2.1 1, ()), ())) := by
  rw [p_laws_markHeap, f_markIntA3S _ hl]; rfl

theorem l_held5 (m0 : Nat) (l : List D_A3) (k : Int) (i : Nat) (hi : i < l.length) (hv : l[i] = (k, k + 1, k + 2, ())) (h0 : 0 ≤ k) (h1 : k ≤ 100000000) (h2 : i < 100000000) :
    l_laws_heldIntA3S_5 m0 N l k (i : Int) 0 = l_laws_heldIntA3S_2 m0 l (k + 3) ((i + 1 : Nat) : Int) := by
  rw [N_eq, q_laws_heldIntA3S_5, one64, w64 (x := k + 1) (by omega) (by omega), nthA (t := T_A3) hi, hv]
  simp only [inB_at hi, show inB 0 3 = true from rfl, show decide ((0 : Int) < 3) = true from rfl, cond_true, decide_true, Bool.not_true, cond_false]
  rw [q_laws_heldIntA3S_5, two64, w64 (x := k + 1 + 1) (by omega) (by omega), nthA (t := T_A3) hi, hv]
  simp only [inB_at hi, show inB 1 3 = true from rfl, show decide ((1 : Int) < 3) = true from rfl, show decide ((1 : Int) = 0) = false from rfl, cond_true, decide_true, Bool.not_true, cond_false]
  rw [q_laws_heldIntA3S_5, three64, w64 (x := k + 1 + 1 + 1) (by omega) (by omega), nthA (t := T_A3) hi, hv, show k + 1 + 1 = k + 2 by omega]
  simp only [inB_at hi, show inB 2 3 = true from rfl, show decide ((2 : Int) < 3) = true from rfl, show decide ((2 : Int) = 0) = false from rfl, show decide ((2 : Int) = 1) = false from rfl, cond_true, decide_true, Bool.not_true, cond_false]
  rw [q_laws_heldIntA3S_5, succI i (by omega), show k + 2 + 1 = k + 3 by omega]
  simp

theorem l_held2 (l : List D_A3) (k : Int) (hl : Small l) (h0 : 0 ≤ k) (h1 : k ≤ 10000000) : ∀ (d i m : Nat), l.length = i + d → d < m → l_laws_heldIntA3S_2 m (marked l k) (k + 3 * i) (i : Int) = some (k + 3 * l.length, ())
  | d, i, 0, hk, hm => by omega
  | d, i, m + 1, hk, hm => by
    unfold Small at hl
    have hml := marked_length l k
    rw [q_laws_heldIntA3S_2]
    by_cases hlt : i < (marked l k).length
    · rw [ltT hlt, l_held5 m (marked l k) (k + 3 * i) i hlt (marked_at l k i hlt) (by omega) (by omega) (by omega)]
      simp only [cond_true]
      rw [show k + 3 * (i : Int) + 3 = k + 3 * ((i + 1 : Nat) : Int) by omega]
      exact l_held2 l k hl h0 h1 (d - 1) (i + 1) m (by omega) (by omega)
    · rw [ltF hlt]
      have hil : i = l.length := by omega
      subst hil
      rfl

theorem f_heldIntA3S (l : List D_A3) (hl : Small l) : P_laws_heldIntA3S (marked l 1, 1, ()) = some (1 + 3 * (l.length : Int), ()) := by
  have := l_held2 l 1 hl (by omega) (by omega) l.length 0 N (by simp) (by unfold Small at hl; have := N_ge; omega)
  rw [p_laws_heldIntA3S]
  simpa using this

end Go.VI
/- Plain: sets of cells by bits, and sorted lists of cells. -/
namespace Go.VI
open Go.Proofs

/-! ### Bits -/
theorem wu64 (n : Int) : IntKind.wrap .u64 n = n % 18446744073709551616 := by simp [IntKind.wrap, IntKind.bits, IntKind.signed]

theorem u64wrap (v : BitVec 64) : IntKind.wrap .u64 (v.toNat : Int) = (v.toNat : Int) := by
  rw [wu64]
  have := v.isLt
  omega

theorem ofInt64 (v : BitVec 64) : BitVec.ofInt 64 (v.toNat : Int) = v := by
  rw [BitVec.ofInt_natCast, BitVec.ofNat_toNat, BitVec.setWidth_eq]

theorem or64 (v w : BitVec 64) : intBits .or .u64 (v.toNat : Int) (w.toNat : Int) = ((v ||| w).toNat : Int) := by
  simp only [intBits]
  rw [show IntKind.bits .u64 = 64 from rfl, ofInt64, ofInt64, u64wrap]

theorem and64 (v w : BitVec 64) : intBits .and .u64 (v.toNat : Int) (w.toNat : Int) = ((v &&& w).toNat : Int) := by
  simp only [intBits]
  rw [show IntKind.bits .u64 = 64 from rfl, ofInt64, ofInt64, u64wrap]

theorem andNot64 (v w : BitVec 64) : intBits .andNot .u64 (v.toNat : Int) (w.toNat : Int) = ((v &&& ~~~w).toNat : Int) := by
  simp only [intBits]
  rw [show IntKind.bits .u64 = 64 from rfl, ofInt64, ofInt64, u64wrap]

theorem shl64 (i : Nat) : shlI .u64 1 (i : Int) = ((BitVec.twoPow 64 i).toNat : Int) := by
  unfold shlI
  rw [show IntKind.bits .u64 = 64 from rfl, BitVec.toNat_twoPow, Int.toNat_natCast, wu64, Int.one_mul]
  by_cases h : i < 64
  · rw [Nat.min_eq_left (by omega), Int.natCast_emod, Int.natCast_pow]
    rfl
  · rw [Nat.min_eq_right (by omega)]
    have : 2 ^ i % 2 ^ 64 = 0 := Nat.mod_eq_zero_of_dvd (Nat.pow_dvd_pow 2 (by omega))
    rw [this]
    decide

theorem shr64 (v : BitVec 64) (i : Nat) : shrI .u64 (v.toNat : Int) (i : Int) = ((v >>> i).toNat : Int) := by
  unfold shrI
  rw [show IntKind.bits .u64 = 64 from rfl, BitVec.toNat_ushiftRight, Int.toNat_natCast, Nat.shiftRight_eq_div_pow, Int.fdiv_eq_ediv_of_nonneg _ (Int.le_of_lt (Int.pow_pos (by decide)))]
  by_cases h : i < 64
  · rw [Nat.min_eq_left (by omega)]
    push_cast
    rfl
  · rw [Nat.min_eq_right (by omega), Nat.div_eq_of_lt (Nat.lt_of_lt_of_le v.isLt (Nat.pow_le_pow_right (by omega) (by omega)))]
    have := v.isLt
    omega

theorem f_set_has (v : BitVec 64) (i : Nat) : P_set_has ((v.toNat : Int), (i : Int), ()) = some (v.getLsbD i, ()) := by
  have h2 : intBits .and .u64 ((v >>> i).toNat : Int) 1 = (((v >>> i) &&& 1#64).toNat : Int) := and64 (v >>> i) 1#64
  rw [p_set_has, shr64, h2, decide_eq_true (Int.natCast_nonneg i), BitVec.and_one_eq_setWidth_ofBool_getLsbD, BitVec.getLsbD_ushiftRight]
  simp only [cond_true, Nat.add_zero]
  cases v.getLsbD i <;> simp

/-! ### Numbers of cells -/
def idx (Y Z : Int) (c : D_A3) : Nat := ((c.1 * Y + c.2.1) * Z + c.2.2.1).toNat

theorem within3_iff {X Y Z : Int} {c : D_A3} : within3 X Y Z c = true ↔ (0 ≤ c.1 ∧ c.1 ≤ X - 1) ∧ (0 ≤ c.2.1 ∧ c.2.1 ≤ Y - 1) ∧ (0 ≤ c.2.2.1 ∧ c.2.2.1 ≤ Z - 1) := by
  simp [within3, and_assoc]

theorem ltC_iff {a b : D_A3} : ltC a b = true ↔ a.1 < b.1 ∨ (a.1 = b.1 ∧ (a.2.1 < b.2.1 ∨ (a.2.1 = b.2.1 ∧ a.2.2.1 < b.2.2.1))) := by
  simp [ltC]

/-- One of the sides. -/
theorem four {n : Int} (h0 : 1 ≤ n) (h1 : n ≤ 4) : n = 1 ∨ n = 2 ∨ n = 3 ∨ n = 4 := by omega

theorem idx_eq {X Y Z : Int} (hs : sides X Y Z = true) {c : D_A3} (hc : within3 X Y Z c = true) : ((idx Y Z c : Nat) : Int) = (c.1 * Y + c.2.1) * Z + c.2.2.1 ∧ idx Y Z c < (X * Y * Z).toNat ∧ X * Y * Z ≤ 64 ∧ c.1 * Y ≤ 16 ∧ 0 ≤ c.1 * Y ∧ 0 ≤ (c.1 * Y + c.2.1) * Z := by
  obtain ⟨h1, h2, h3⟩ := sides_iff.1 hs
  obtain ⟨c1, c2, c3⟩ := within3_iff.1 hc
  unfold idx
  rcases four h1.1 h1.2 with rfl | rfl | rfl | rfl <;> rcases four h2.1 h2.2 with rfl | rfl | rfl | rfl <;> rcases four h3.1 h3.2 with rfl | rfl | rfl | rfl <;> omega

theorem idx_lt {X Y Z : Int} (hs : sides X Y Z = true) {a b : D_A3} (ha : within3 X Y Z a = true) (hb : within3 X Y Z b = true) : idx Y Z a < idx Y Z b ↔ ltC a b = true := by
  obtain ⟨h1, h2, h3⟩ := sides_iff.1 hs
  obtain ⟨a1, a2, a3⟩ := within3_iff.1 ha
  obtain ⟨b1, b2, b3⟩ := within3_iff.1 hb
  rw [ltC_iff]
  unfold idx
  rcases four h2.1 h2.2 with rfl | rfl | rfl | rfl <;> rcases four h3.1 h3.2 with rfl | rfl | rfl | rfl <;> omega

theorem cell_ext {a b : D_A3} (h1 : a.1 = b.1) (h2 : a.2.1 = b.2.1) (h3 : a.2.2.1 = b.2.2.1) : a = b := by
  obtain ⟨a1, a2, a3, ⟨⟩⟩ := a
  obtain ⟨b1, b2, b3, ⟨⟩⟩ := b
  simp_all

theorem ltC_total {a b : D_A3} (h : ltC a b = false) (h' : ltC b a = false) : a = b := by
  have h1 := mt (ltC_iff (a := a) (b := b)).2 (by simp [h])
  have h2 := mt (ltC_iff (a := b) (b := a)).2 (by simp [h'])
  refine cell_ext ?_ ?_ ?_ <;> omega

theorem ltC_irrefl (a : D_A3) : ltC a a = false := by
  rw [Bool.eq_false_iff]; intro h
  have := ltC_iff.1 h
  omega

theorem ltC_trans {a b c : D_A3} (h : ltC a b = true) (h' : ltC b c = true) : ltC a c = true := by
  have h1 := ltC_iff.1 h
  have h2 := ltC_iff.1 h'
  rw [ltC_iff]
  omega

theorem idx_inj {X Y Z : Int} (hs : sides X Y Z = true) {a b : D_A3} (ha : within3 X Y Z a = true) (hb : within3 X Y Z b = true) (h : idx Y Z a = idx Y Z b) : a = b := by
  refine ltC_total ?_ ?_ <;> rw [Bool.eq_false_iff]
  · intro h'; have := (idx_lt hs ha hb).2 h'; omega
  · intro h'; have := (idx_lt hs hb ha).2 h'; omega

theorem f_box_index {X Y Z : Int} (hs : sides X Y Z = true) {c : D_A3} (hc : within3 X Y Z c = true) : P_box_index ((X, Y, Z, ()), c, ()) = some ((idx Y Z c : Int), ()) := by
  obtain ⟨h1, h2, h3, h4, h5, h6⟩ := idx_eq hs hc
  obtain ⟨s1, s2, s3⟩ := sides_iff.1 hs
  obtain ⟨c1, c2, c3⟩ := within3_iff.1 hc
  have hm : 0 ≤ (c.1 * Y + c.2.1) * Z ∧ (c.1 * Y + c.2.1) * Z ≤ 1000 := by omega
  rw [p_box_index, h1]
  simp only
  rw [w64 (x := c.1 * Y) (by omega) (by omega), w64 (x := c.1 * Y + c.2.1) (by omega) (by omega), w64 (x := (c.1 * Y + c.2.1) * Z) (by omega) (by omega), w64 (by omega) (by omega)]
end Go.VI
/- Plain: sorted lists of cells and their sets. -/
namespace Go.VI
open Go.Proofs

/-! ### Sorted lists -/
def Srt (l : List D_A3) : Prop := l.Pairwise fun a b => ltC a b = true
def Ins (X Y Z : Int) (l : List D_A3) : Prop := ∀ c ∈ l, within3 X Y Z c = true

theorem okTail_iff (X Y Z : Int) : ∀ (l : List D_A3) (p : Option D_A3), okTail X Y Z p l = true ↔ Ins X Y Z l ∧ Srt l ∧ ∀ q, p = some q → ∀ c ∈ l, ltC q c = true
  | [], p => by simp [okTail, Ins, Srt]
  | c :: r, p => by
    simp only [okTail, Bool.and_eq_true, okTail_iff X Y Z r (some c), Ins, Srt, List.pairwise_cons, List.mem_cons, forall_eq_or_imp]
    constructor
    · rintro ⟨⟨h1, h2⟩, h3, h4, h5⟩
      refine ⟨⟨h1, h3⟩, ⟨h5 c rfl, h4⟩, ?_⟩
      rintro q rfl
      simp only at h2
      exact ⟨h2, fun d hd => ltC_trans h2 (h5 c rfl d hd)⟩
    · rintro ⟨⟨h1, h3⟩, ⟨h5, h4⟩, h6⟩
      refine ⟨⟨h1, ?_⟩, h3, h4, ?_⟩
      · cases p with
        | none => rfl
        | some q => exact (h6 q rfl).1
      · rintro q ⟨⟩
        exact h5

theorem okHeap_iff {h : D_Heap} : okHeap h = true ↔ sides h.1 h.2.1 h.2.2.1 = true ∧ Ins h.1 h.2.1 h.2.2.1 h.2.2.2.1 ∧ Srt h.2.2.2.1 := by
  unfold okHeap
  rw [Bool.and_eq_true, okTail_iff]
  simp

theorem srt_ext : ∀ (l l' : List D_A3), Srt l → Srt l' → (∀ c, c ∈ l ↔ c ∈ l') → l = l'
  | [], [], _, _, _ => rfl
  | [], b :: r', _, _, h => by have := (h b).2 (by simp); simp at this
  | a :: r, [], _, _, h => by have := (h a).1 (by simp); simp at this
  | a :: r, b :: r', h1, h2, h => by
    unfold Srt at h1 h2
    rw [List.pairwise_cons] at h1 h2
    have hab : a = b := by
      have ha := (h a).1 (by simp)
      have hb := (h b).2 (by simp)
      rcases List.mem_cons.1 ha with e | ha'
      · exact e
      · rcases List.mem_cons.1 hb with e | hb'
        · exact e.symm
        · have x1 := h2.1 a ha'
          have x2 := h1.1 b hb'
          have := ltC_trans x1 x2
          rw [ltC_irrefl] at this
          cases this
    subst hab
    have nr : ∀ c ∈ r, c ≠ a := fun c hc e => by have := h1.1 c hc; rw [e, ltC_irrefl] at this; cases this
    have nr' : ∀ c ∈ r', c ≠ a := fun c hc e => by have := h2.1 c hc; rw [e, ltC_irrefl] at this; cases this
    refine congrArg _ (srt_ext r r' h1.2 h2.2 fun c => ⟨fun hc => ?_, fun hc => ?_⟩)
    · rcases List.mem_cons.1 ((h c).1 (by simp [hc])) with e | k
      · exact absurd e (nr c hc)
      · exact k
    · rcases List.mem_cons.1 ((h c).2 (by simp [hc])) with e | k
      · exact absurd e (nr' c hc)
      · exact k

theorem Srt.filter {l : List D_A3} (h : Srt l) (p : D_A3 → Bool) : Srt (l.filter p) := List.Pairwise.filter p h
theorem Ins.filter {X Y Z : Int} {l : List D_A3} (h : Ins X Y Z l) (p : D_A3 → Bool) : Ins X Y Z (l.filter p) := fun c hc => h c (List.mem_filter.1 hc).1
theorem Srt.nodup {l : List D_A3} (h : Srt l) : l.Nodup := List.Pairwise.imp (fun {a b} hab e => by rw [e, ltC_irrefl] at hab; cases hab) h

/-! ### Masks -/
def mask (Y Z : Int) (l : List D_A3) (v : BitVec 64) : BitVec 64 := l.foldl (fun v c => v ||| BitVec.twoPow 64 (idx Y Z c)) v

theorem mask_bit (Y Z : Int) (i : Nat) : ∀ (l : List D_A3) (v : BitVec 64), (mask Y Z l v).getLsbD i = (v.getLsbD i || (decide (i < 64) && l.any fun c => decide (idx Y Z c = i)))
  | [], v => by simp [mask]
  | c :: r, v => by
    have := mask_bit Y Z i r (v ||| BitVec.twoPow 64 (idx Y Z c))
    simp only [mask, List.foldl_cons, List.any_cons] at this ⊢
    rw [this, BitVec.getLsbD_or, BitVec.getLsbD_twoPow]
    by_cases h : idx Y Z c = i
    · simp only [h, decide_true, Bool.and_true, Bool.true_or]
      cases v.getLsbD i <;> cases decide (i < 64) <;> simp
    · simp [h]

theorem mask_mem {X Y Z : Int} (hs : sides X Y Z = true) {l : List D_A3} (hl : Ins X Y Z l) {c : D_A3} (hc : within3 X Y Z c = true) : (mask Y Z l 0).getLsbD (idx Y Z c) = decide (c ∈ l) := by
  have h64 : idx Y Z c < 64 := by
    obtain ⟨_, h2, h3, _⟩ := idx_eq hs hc
    omega
  rw [mask_bit, decide_eq_true h64]
  simp only [BitVec.ofNat_eq_ofNat, BitVec.getLsbD_zero, Bool.false_or, Bool.true_and]
  by_cases h : c ∈ l
  · rw [decide_eq_true h]
    exact List.any_eq_true.2 ⟨c, h, by simp⟩
  · rw [decide_eq_false h, Bool.eq_false_iff]
    intro ha
    obtain ⟨d, hd, e⟩ := List.any_eq_true.1 ha
    exact h (idx_inj hs (hl d hd) hc (by simpa using e) ▸ hd)

theorem l_cubes (X Y Z : Int) (l : List D_A3) (hs : sides X Y Z = true) (hl : Small l) (hi : Ins X Y Z l) : ∀ (d k m : Nat) (v : BitVec 64), l.length = k + d → d < m →
    l_Heap_cubes_3 m X Y Z l (v.toNat : Int) l (l.length : Int) (k : Int) = some (((mask Y Z (l.drop k) v).toNat : Int), ())
  | d, k, 0, v, hk, hm => by omega
  | d, k, m + 1, v, hk, hm => by
    unfold Small at hl
    rw [q_Heap_cubes_3]
    by_cases hlt : k < l.length
    · rw [ltT hlt, inB_at hlt, nthA (t := T_A3) hlt, f_Heap_box]
      simp only [cond_true, Option.bind_some]
      rw [f_box_index hs (hi _ (List.getElem_mem hlt))]
      simp only [Option.bind_some, decide_eq_true (Int.natCast_nonneg (idx Y Z l[k])), cond_true]
      rw [shl64, or64, succI k (by omega), l_cubes X Y Z l hs hl hi (d - 1) (k + 1) m _ (by omega) (by omega), drop_at l k hlt]
      rfl
    · rw [ltF hlt, List.drop_eq_nil_of_le (by omega)]
      rfl

theorem f_Heap_cubes {X Y Z : Int} {l : List D_A3} (hs : sides X Y Z = true) (hl : Small l) (hi : Ins X Y Z l) : P_Heap_cubes ((X, Y, Z, l, ()), ()) = some (((mask Y Z l 0).toNat : Int), ()) := by
  have := l_cubes X Y Z l hs hl hi l.length 0 N 0 (by simp) (by unfold Small at hl; have := N_ge; omega)
  rw [p_Heap_cubes]
  simpa using this

/-! ### The list of a set -/
def cellOf (Y Z : Int) (i : Nat) : D_A3 := ((i : Int) / Z / Y, (i : Int) / Z % Y, (i : Int) % Z, ())

theorem cellOf_ok {X Y Z : Int} (hs : sides X Y Z = true) {i : Nat} (hi : i < (X * Y * Z).toNat) : within3 X Y Z (cellOf Y Z i) = true ∧ idx Y Z (cellOf Y Z i) = i := by
  obtain ⟨h1, h2, h3⟩ := sides_iff.1 hs
  rw [within3_iff]
  unfold idx cellOf
  rcases four h2.1 h2.2 with rfl | rfl | rfl | rfl <;> rcases four h3.1 h3.2 with rfl | rfl | rfl | rfl <;> simp only at * <;> omega

theorem f_box_cell {X Y Z : Int} (hs : sides X Y Z = true) {i : Nat} (hi : i < 64) : P_box_cell ((X, Y, Z, ()), (i : Int), ()) = some (cellOf Y Z i, ()) := by
  obtain ⟨h1, h2, h3⟩ := sides_iff.1 hs
  have hy : (!decide (Y = 0)) = true := by simp; omega
  have hz : (!decide (Z = 0)) = true := by simp; omega
  rw [p_box_cell]
  simp only [hy, hz, cond_true]
  rw [Int.tdiv_eq_ediv_of_nonneg (Int.natCast_nonneg i), Int.tmod_eq_emod_of_nonneg (Int.natCast_nonneg i)]
  have hq : 0 ≤ (i : Int) / Z ∧ (i : Int) / Z ≤ 64 := by
    rcases four h3.1 h3.2 with rfl | rfl | rfl | rfl <;> omega
  rw [w64 (x := (i : Int) / Z) (by omega) (by omega), Int.tdiv_eq_ediv_of_nonneg hq.1, Int.tmod_eq_emod_of_nonneg hq.1]
  have hq2 : 0 ≤ (i : Int) / Z / Y ∧ (i : Int) / Z / Y ≤ 64 := by
    rcases four h2.1 h2.2 with rfl | rfl | rfl | rfl <;> omega
  rw [w64 (by omega) (by omega)]
  rfl

def listFrom (Y Z : Int) (v : BitVec 64) : (d k : Nat) → List D_A3
  | 0, _ => []
  | d + 1, k => if v.getLsbD k then cellOf Y Z k :: listFrom Y Z v d (k + 1) else listFrom Y Z v d (k + 1)

def bitCells (X Y Z : Int) (v : BitVec 64) : List D_A3 := listFrom Y Z v (X * Y * Z).toNat 0

theorem mem_listFrom (Y Z : Int) (v : BitVec 64) (c : D_A3) : ∀ (d k : Nat), c ∈ listFrom Y Z v d k ↔ ∃ i, k ≤ i ∧ i < k + d ∧ v.getLsbD i = true ∧ cellOf Y Z i = c
  | 0, k => by simp only [listFrom, List.not_mem_nil, false_iff]; rintro ⟨i, h1, h2, _⟩; omega
  | d + 1, k => by
    have ih := mem_listFrom Y Z v c d (k + 1)
    have key : c ∈ listFrom Y Z v (d + 1) k ↔ (v.getLsbD k = true ∧ cellOf Y Z k = c) ∨ c ∈ listFrom Y Z v d (k + 1) := by
      simp only [listFrom]
      by_cases h : v.getLsbD k = true
      · simp [h, eq_comm]
      · simp [h]
    rw [key, ih]
    constructor
    · rintro (⟨h1, h2⟩ | ⟨i, h1, h2, h3⟩)
      · exact ⟨k, by omega, by omega, h1, h2⟩
      · exact ⟨i, by omega, by omega, h3⟩
    · rintro ⟨i, h1, h2, h3, h4⟩
      by_cases e : i = k
      · subst e; exact .inl ⟨h3, h4⟩
      · exact .inr ⟨i, by omega, by omega, h3, h4⟩

theorem mem_listOf {X Y Z : Int} (hs : sides X Y Z = true) (v : BitVec 64) (c : D_A3) : c ∈ bitCells X Y Z v ↔ within3 X Y Z c = true ∧ v.getLsbD (idx Y Z c) = true := by
  unfold bitCells
  rw [mem_listFrom]
  constructor
  · rintro ⟨i, _, h2, h3, rfl⟩
    obtain ⟨w1, w2⟩ := cellOf_ok hs (i := i) (by omega)
    exact ⟨w1, by rw [w2]; exact h3⟩
  · rintro ⟨h1, h2⟩
    obtain ⟨_, hlt, _⟩ := idx_eq hs h1
    obtain ⟨w1, w2⟩ := cellOf_ok hs hlt
    exact ⟨idx Y Z c, by omega, by omega, h2, idx_inj hs w1 h1 w2⟩

theorem srt_listFrom {X Y Z : Int} (hs : sides X Y Z = true) (v : BitVec 64) : ∀ (d k : Nat), k + d ≤ (X * Y * Z).toNat → Srt (listFrom Y Z v d k)
  | 0, k, _ => by simp [listFrom, Srt]
  | d + 1, k, h => by
    have ih := srt_listFrom hs v d (k + 1) (by omega)
    simp only [listFrom]
    by_cases hb : v.getLsbD k = true
    · rw [if_pos hb]
      refine List.pairwise_cons.2 ⟨fun c hc => ?_, ih⟩
      obtain ⟨i, h1, h2, _, rfl⟩ := (mem_listFrom Y Z v c d (k + 1)).1 hc
      obtain ⟨w1, w2⟩ := cellOf_ok hs (i := i) (by omega)
      obtain ⟨x1, x2⟩ := cellOf_ok hs (i := k) (by omega)
      exact (idx_lt hs x1 w1).1 (by omega)
    · rw [if_neg hb]; exact ih

theorem srt_listOf {X Y Z : Int} (hs : sides X Y Z = true) (v : BitVec 64) : Srt (bitCells X Y Z v) := srt_listFrom hs v _ 0 (by omega)

theorem listFrom_length (Y Z : Int) (v : BitVec 64) : ∀ (d k : Nat), (listFrom Y Z v d k).length ≤ d
  | 0, k => by simp [listFrom]
  | d + 1, k => by
    have := listFrom_length Y Z v d (k + 1)
    simp only [listFrom]
    split <;> simp <;> omega

theorem size64 {X Y Z : Int} (hs : sides X Y Z = true) : 1 ≤ X * Y * Z ∧ X * Y * Z ≤ 64 ∧ 1 ≤ X * Y ∧ X * Y ≤ 16 := by
  obtain ⟨h1, h2, h3⟩ := sides_iff.1 hs
  rcases four h1.1 h1.2 with rfl | rfl | rfl | rfl <;> rcases four h2.1 h2.2 with rfl | rfl | rfl | rfl <;> omega

theorem small_listOf {X Y Z : Int} (hs : sides X Y Z = true) (v : BitVec 64) : Small (bitCells X Y Z v) := by
  have := listFrom_length Y Z v (X * Y * Z).toNat 0
  have := size64 hs
  unfold Small bitCells
  omega

theorem l_box_list {X Y Z : Int} (hs : sides X Y Z = true) (v : BitVec 64) : ∀ (d k m : Nat) (acc : List D_A3), (X * Y * Z).toNat = k + d → d < m → acc.length ≤ k →
    l_box_list_3 m X Y Z (v.toNat : Int) acc (X * Y * Z) (k : Int) = some (acc ++ listFrom Y Z v d k, ())
  | d, k, 0, acc, hk, hm, ha => by omega
  | 0, k, m + 1, acc, hk, hm, ha => by
    rw [q_box_list_3, decide_eq_false (by have := size64 hs; omega)]
    simp [listFrom]
  | d + 1, k, m + 1, acc, hk, hm, ha => by
    have hsz := size64 hs
    rw [q_box_list_3, decide_eq_true (by omega), f_set_has, f_box_cell hs (by omega), succI k (by omega)]
    simp only [cond_true, Option.bind_some, listFrom]
    cases hb : v.getLsbD k with
    | false =>
      simp only [cond_false, Bool.false_eq_true, if_false]
      exact l_box_list hs v d (k + 1) m acc (by omega) (by omega) (by omega)
    | true =>
      simp only [List.length_cons, List.length_nil, cond_true, if_true]
      rw [decide_eq_true (by omega), decide_eq_true (by omega), l_box_list hs v d (k + 1) m _ (by omega) (by omega) (by simp; omega)]
      simp

theorem f_box_list {X Y Z : Int} (hs : sides X Y Z = true) (v : BitVec 64) : P_box_list ((X, Y, Z, ()), (v.toNat : Int), ()) = some (bitCells X Y Z v, ()) := by
  have hsz := size64 hs
  have := l_box_list hs v (X * Y * Z).toNat 0 N [] (by omega) (by have := N_ge; omega) (by simp)
  rw [p_box_list, p_box_size]
  simp only [Option.bind_some]
  rw [w64 (x := X * Y) (by omega) (by omega), w64 (by omega) (by omega)]
  exact this

/-- The list of the set of a sorted list is that list. -/
theorem listOf_mask {X Y Z : Int} (hs : sides X Y Z = true) {l : List D_A3} (hi : Ins X Y Z l) (h : Srt l) : bitCells X Y Z (mask Y Z l 0) = l := by
  refine srt_ext _ _ (srt_listOf hs _) h fun c => ?_
  rw [mem_listOf hs]
  constructor
  · rintro ⟨h1, h2⟩
    rw [mask_mem hs hi h1] at h2
    simpa using h2
  · intro hc
    exact ⟨hi c hc, by rw [mask_mem hs hi (hi c hc)]; simpa using hc⟩
end Go.VI
/- Plain: painting and peeling. -/
namespace Go.VI
open Go.Proofs

/-- The cell behind one of the six faces. -/
def stp (k : Nat) (c : D_A3) : D_A3 := match k with
  | 0 => (c.1 + -1, c.2.1, c.2.2.1, ())
  | 1 => (c.1 + 1, c.2.1, c.2.2.1, ())
  | 2 => (c.1, c.2.1 + -1, c.2.2.1, ())
  | 3 => (c.1, c.2.1 + 1, c.2.2.1, ())
  | 4 => (c.1, c.2.1, c.2.2.1 + -1, ())
  | _ => (c.1, c.2.1, c.2.2.1 + 1, ())

def bareAt (l q : List D_A3) (c : D_A3) (k : Nat) : Bool := !decide (stp k c ∈ l) && !decide (stp k c ∈ q)

def pcount (l q : List D_A3) (c : D_A3) : (d k : Nat) → Nat
  | 0, _ => 0
  | d + 1, k => (if bareAt l q c k then 1 else 0) + pcount l q c d (k + 1)

def painted (l q : List D_A3) (c : D_A3) : Nat := pcount l q c 6 0

theorem pcount_le (l q : List D_A3) (c : D_A3) : ∀ (d k : Nat), pcount l q c d k ≤ d
  | 0, _ => by simp [pcount]
  | d + 1, k => by
    have := pcount_le l q c d (k + 1)
    simp only [pcount]
    split <;> omega

theorem painted_le (l q : List D_A3) (c : D_A3) : painted l q c ≤ 6 := pcount_le l q c 6 0

/-- Cells of which a sum fits. -/
def Near (c : D_A3) : Prop := -1000 ≤ c.1 ∧ c.1 ≤ 1000 ∧ -1000 ≤ c.2.1 ∧ c.2.1 ≤ 1000 ∧ -1000 ≤ c.2.2.1 ∧ c.2.2.1 ≤ 1000

theorem near_of {X Y Z : Int} (hs : sides X Y Z = true) {c : D_A3} (hc : within3 X Y Z c = true) : Near c := by
  obtain ⟨s1, s2, s3⟩ := sides_iff.1 hs
  obtain ⟨w1, w2, w3⟩ := within3_iff.1 hc
  unfold Near; omega

theorem six {k : Nat} (h : k < 6) : k = 0 ∨ k = 1 ∨ k = 2 ∨ k = 3 ∨ k = 4 ∨ k = 5 := by omega

theorem stp0 (c : D_A3) (k : Nat) : stp k c = match k with
  | 0 => (c.1 + -1, c.2.1 + 0, c.2.2.1 + 0, ())
  | 1 => (c.1 + 1, c.2.1 + 0, c.2.2.1 + 0, ())
  | 2 => (c.1 + 0, c.2.1 + -1, c.2.2.1 + 0, ())
  | 3 => (c.1 + 0, c.2.1 + 1, c.2.2.1 + 0, ())
  | 4 => (c.1 + 0, c.2.1 + 0, c.2.2.1 + -1, ())
  | _ => (c.1 + 0, c.2.1 + 0, c.2.2.1 + 1, ()) := by
  unfold stp
  split <;> simp

/-- A set of bits that holds the cells of a list. -/
def BitsOf (X Y Z : Int) (v : BitVec 64) (q : List D_A3) : Prop := Ins X Y Z q ∧ ∀ c, within3 X Y Z c = true → v.getLsbD (idx Y Z c) = decide (c ∈ q)

theorem holds_nil (X Y Z : Int) : BitsOf X Y Z 0 [] := ⟨(fun c h => by cases h), (fun c _ => by simp)⟩

/-! ### Peeling -/
def peel (l : List D_A3) : List D_A3 := l.filter fun c => decide (painted l [] c > 0) == false

theorem peel_small {l : List D_A3} (hl : Small l) : Small (peel l) := by
  unfold Small peel at *
  exact Nat.le_trans (List.length_filter_le _ _) hl

theorem peel_lt {l : List D_A3} (hr : Srt l) (h : 0 < l.length) : (peel l).length < l.length := by
  match l, hr, h with
  | a :: r, hr, _ =>
    have hn : stp 0 a ∉ a :: r := by
      intro hm
      have hlt : ltC (stp 0 a) a = true := by rw [ltC_iff]; left; show a.1 + -1 < a.1; omega
      rcases List.mem_cons.1 hm with e | hm'
      · rw [e, ltC_irrefl] at hlt; cases hlt
      · have := ltC_trans hlt ((List.pairwise_cons.1 hr).1 _ hm')
        rw [ltC_irrefl] at this; cases this
    have hp : painted (a :: r) [] a > 0 := by
      have hb : bareAt (a :: r) [] a 0 = true := by
        unfold bareAt
        rw [decide_eq_false hn, decide_eq_false (by simp)]
        rfl
      unfold painted
      simp only [pcount]
      rw [if_pos hb]
      omega
    unfold peel
    rw [List.filter_cons, if_neg (by simp [hp])]
    have := List.length_filter_le (fun c => decide (painted (a :: r) [] c > 0) == false) r
    simp only [List.length_cons]
    omega
end Go.VI
/- Plain: the laws of peeling. -/
namespace Go.VI
open Go.Proofs

def noHeap : D_Heap := (0, (0, (0, (([] : List D_A3), ()))))

def peelV (h : D_Heap) : D_Heap × Bool × Unit := if okHeap h then ((h.1, h.2.1, h.2.2.1, peel h.2.2.2.1, ()), true, ()) else (noHeap, false, ())

theorem peelV_small (h : D_Heap) (hl : Small h.2.2.2.1) : Small (peelV h).1.2.2.2.1 := by
  unfold peelV
  split
  · exact peel_small hl
  · unfold Small noHeap; simp

end Go.VI
/- Plain: full heaps and shells. -/
namespace Go.VI
open Go.Proofs

/-! ### All bits -/
def fullBits (n : Nat) : BitVec 64 := BitVec.ofNat 64 (2 ^ n - 1)

theorem fullBits_toNat {n : Nat} (h : n ≤ 64) : (fullBits n).toNat = 2 ^ n - 1 := by
  unfold fullBits
  rw [BitVec.toNat_ofNat, Nat.mod_eq_of_lt]
  have := Nat.pow_le_pow_right (show 0 < 2 by decide) h
  have := Nat.pow_pos (n := n) (show 0 < 2 by decide)
  omega

theorem fullBits_bit {n : Nat} (h : n ≤ 64) (i : Nat) : (fullBits n).getLsbD i = decide (i < n) := by
  unfold BitVec.getLsbD
  rw [fullBits_toNat h, Nat.testBit_two_pow_sub_one]

theorem full64 {n : Nat} (h : n ≤ 64) : IntKind.wrap .u64 (shlI .u64 1 (n : Int) - 1) = ((fullBits n).toNat : Int) := by
  rw [shl64, BitVec.toNat_twoPow, fullBits_toNat h, wu64]
  by_cases h' : n = 64
  · subst h'; decide
  · have hlt : 2 ^ n < 2 ^ 64 := Nat.pow_lt_pow_right (by decide) (by omega)
    have hp := Nat.pow_pos (n := n) (show 0 < 2 by decide)
    rw [Nat.mod_eq_of_lt hlt]
    have h64 : (2 : Nat) ^ 64 = 18446744073709551616 := by decide
    rw [h64] at hlt
    omega

/-- All cells of a box, in order. -/
def allCells (X Y Z : Int) : List D_A3 := bitCells X Y Z (fullBits (X * Y * Z).toNat)

theorem mem_allCells {X Y Z : Int} (hs : sides X Y Z = true) (c : D_A3) : c ∈ allCells X Y Z ↔ within3 X Y Z c = true := by
  unfold allCells
  rw [mem_listOf hs, fullBits_bit (by have := size64 hs; omega)]
  constructor
  · exact fun h => h.1
  · intro h
    exact ⟨h, by have := (idx_eq hs h).2.1; simpa using this⟩

theorem allCells_ok {X Y Z : Int} (hs : sides X Y Z = true) : Small (allCells X Y Z) ∧ Ins X Y Z (allCells X Y Z) ∧ Srt (allCells X Y Z) :=
  ⟨small_listOf hs _, fun c h => (mem_allCells hs c).1 h, srt_listOf hs _⟩

/-! ### All cells by three loops -/
def upto (Y Z : Int) (k : Nat) : List D_A3 := (List.range k).map (cellOf Y Z)

theorem upto_succ (Y Z : Int) (k : Nat) : upto Y Z (k + 1) = upto Y Z k ++ [cellOf Y Z k] := by
  unfold upto
  rw [List.range_succ, List.map_append]
  rfl

theorem listFrom_full (Y Z : Int) (v : BitVec 64) : ∀ (d k : Nat), (∀ i, k ≤ i → i < k + d → v.getLsbD i = true) → listFrom Y Z v d k = (List.range' k d).map (cellOf Y Z)
  | 0, k, _ => by simp [listFrom]
  | d + 1, k, h => by
    rw [listFrom, if_pos (h k (by omega) (by omega)), listFrom_full Y Z v d (k + 1) (fun i h1 h2 => h i (by omega) (by omega))]
    simp [List.range'_succ]

theorem upto_all {X Y Z : Int} (hs : sides X Y Z = true) : upto Y Z (X * Y * Z).toNat = allCells X Y Z := by
  have hsz := size64 hs
  unfold upto allCells bitCells
  rw [listFrom_full Y Z _ _ 0 (fun i _ h => by rw [fullBits_bit (by omega)]; simpa using h), List.range_eq_range']

theorem cellOf_idx {X Y Z : Int} (hs : sides X Y Z = true) {c : D_A3} (hc : within3 X Y Z c = true) : cellOf Y Z (idx Y Z c) = c := by
  obtain ⟨_, hlt, _⟩ := idx_eq hs hc
  obtain ⟨w1, w2⟩ := cellOf_ok hs hlt
  exact idx_inj hs w1 hc w2

theorem idx_z {X Y Z : Int} (hs : sides X Y Z = true) {x y z : Int} (hx : 0 ≤ x) (hy : 0 ≤ y) (hz : 0 ≤ z) : idx Y Z (x, y, z + 1, ()) = idx Y Z (x, y, z, ()) + 1 := by
  obtain ⟨_, h2, h3⟩ := sides_iff.1 hs
  unfold idx
  rcases four h2.1 h2.2 with rfl | rfl | rfl | rfl <;> rcases four h3.1 h3.2 with rfl | rfl | rfl | rfl <;> simp only <;> omega

theorem idx_y (Y Z x y : Int) : idx Y Z (x, y, Z, ()) = idx Y Z (x, y + 1, 0, ()) := by
  unfold idx
  simp only
  rw [show (x * Y + (y + 1)) * Z + 0 = (x * Y + y) * Z + Z by rw [← Int.add_assoc, Int.add_mul (x * Y + y) 1 Z]; omega]

theorem idx_x (Y Z x : Int) : idx Y Z (x, Y, 0, ()) = idx Y Z (x + 1, 0, 0, ()) := by
  unfold idx
  simp only
  rw [show (x + 1) * Y + 0 = x * Y + Y by rw [Int.add_mul]; omega]

/-! ### Shells -/
def shellV (X Y Z : Int) : D_Heap × Bool × Unit := if sides X Y Z then ((X, Y, Z, (allCells X Y Z).filter fun c => decide (painted (allCells X Y Z) [] c > 0) == true, ()), true, ()) else (noHeap, false, ())

theorem shellV_small (X Y Z : Int) : Small (shellV X Y Z).1.2.2.2.1 := by
  unfold shellV
  cases hs : sides X Y Z with
  | false => unfold Small noHeap; simp
  | true => exact Nat.le_trans (List.length_filter_le _ _) (allCells_ok hs).1

end Go.VI
