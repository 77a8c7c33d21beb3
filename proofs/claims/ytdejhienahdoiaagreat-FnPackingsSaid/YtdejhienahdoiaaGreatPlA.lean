/- Plain facts that the printed equations lean on. -/
import Derived.Test.YtdejhienahdoiaaGreatG42
namespace Go.VI
open Go.Proofs
theorem w64 {x : Int} (h0 : -9223372036854775808 ≤ x) (h1 : x ≤ 9223372036854775807) : IntKind.wrap .i64 x = x := by rw [IntKind.wrap_i64]; omega
theorem inB_at {k n : Nat} (h : k < n) : inB (k : Int) n = true := by simp [inB]; omega
theorem nthA {t : Ty} {l : List t.den} {k : Nat} (h : k < l.length) : nth t l (k : Int) = l[k] := by simp [nth, List.getD, List.getElem?_eq_getElem h]
theorem ltT {k n : Nat} (h : k < n) : decide ((k : Int) < (n : Int)) = true := decide_eq_true (by omega)
theorem ltF {k n : Nat} (h : ¬ k < n) : decide ((k : Int) < (n : Int)) = false := decide_eq_false (by omega)
theorem succI (k : Nat) (h : k < 1000000000) : IntKind.wrap .i64 ((k : Int) + 1) = ((k + 1 : Nat) : Int) := by rw [w64 (by omega) (by omega)]; omega
theorem drop_at {α : Type} (s : List α) (k : Nat) (h : k < s.length) : s.drop k = s[k] :: s.drop (k + 1) := List.drop_eq_getElem_cons h
def Small {α : Type} (l : List α) : Prop := l.length ≤ 1048576
theorem f_impl_within (a b c : Int) : P_impl_within (a, b, c, ()) = some (decide (b ≤ a) && decide (a ≤ c), ()) := by
  rw [p_impl_within]
  by_cases h : a ≥ b <;> simp [h]
theorem f_spec_l1In (a b c : Int) : P_spec_l1In (a, b, c, ()) = some (decide (b ≤ a) && decide (a ≤ c), ()) := by
  rw [p_spec_l1In]
  by_cases h : a ≥ b <;> simp [h]
def get3 (c : D_A3) (i : Int) : Int := bif decide (i = 0) then c.1 else (bif decide (i = 1) then c.2.1 else c.2.2.1)
def within3 (X Y Z : Int) (c : D_A3) : Bool := decide (0 ≤ c.1) && decide (c.1 ≤ X - 1) && (decide (0 ≤ c.2.1) && decide (c.2.1 ≤ Y - 1)) && (decide (0 ≤ c.2.2.1) && decide (c.2.2.1 ≤ Z - 1))
def ltC (a b : D_A3) : Bool := decide (a.1 < b.1) || (decide (a.1 = b.1) && (decide (a.2.1 < b.2.1) || (decide (a.2.1 = b.2.1) && decide (a.2.2.1 < b.2.2.1))))
def side (n : Int) : Bool := decide (1 ≤ n) && decide (n ≤ 4)
def sides (X Y Z : Int) : Bool := side X && side Y && side Z
theorem and3 (a b c : Bool) : (bif a then bif b then some (c, ()) else some (false, ()) else some (false, ())) = some (a && b && c, ()) := by cases a <;> cases b <;> rfl
theorem f_spec_l2Sides (X Y Z : Int) : P_spec_l2Sides (X, Y, Z, ()) = some (sides X Y Z, ()) := by
  simp only [p_spec_l2Sides, f_spec_l1In, Option.bind_some, and3, sides, side]
theorem f_box_valid (b : D_A3) : P_box_valid (b, ()) = some (sides b.1 b.2.1 b.2.2.1, ()) := by
  simp only [p_box_valid, f_impl_within, Option.bind_some, and3, sides, side]
theorem sides_iff {X Y Z : Int} : sides X Y Z = true ↔ (1 ≤ X ∧ X ≤ 4) ∧ (1 ≤ Y ∧ Y ≤ 4) ∧ (1 ≤ Z ∧ Z ≤ 4) := by
  simp [sides, side, and_assoc]
theorem f_spec_l2In (h : D_Heap) (c : D_A3) (hs : sides h.1 h.2.1 h.2.2.1 = true) : P_spec_l2In (h, c, ()) = some (within3 h.1 h.2.1 h.2.2.1 c, ()) := by
  obtain ⟨h1, h2, h3⟩ := sides_iff.1 hs
  simp only [p_spec_l2In, f_spec_l1In, Option.bind_some, and3, within3]
  rw [w64 (by omega) (by omega), w64 (by omega) (by omega), w64 (by omega) (by omega)]
theorem f_box_has (b : D_A3) (c : D_A3) (hs : sides b.1 b.2.1 b.2.2.1 = true) : P_box_has (b, c, ()) = some (within3 b.1 b.2.1 b.2.2.1 c, ()) := by
  obtain ⟨h1, h2, h3⟩ := sides_iff.1 hs
  simp only [p_box_has, f_impl_within, Option.bind_some, and3, within3]
  rw [w64 (by omega) (by omega), w64 (by omega) (by omega), w64 (by omega) (by omega)]
theorem f_Heap_box (h : D_Heap) : P_Heap_box (h, ()) = some ((h.1, h.2.1, h.2.2.1, ()), ()) := p_Heap_box h
theorem N_eq : N = (N - 4) + 4 := by have := N_ge; omega
theorem f_spec_l2Before (a b : D_A3) : P_spec_l2Before (a, b, ()) = some (ltC a b, ()) := by
  rw [p_spec_l2Before, N_eq, q_spec_l2Before_2]
  by_cases h1 : a.1 = b.1
  · have w1 : IntKind.wrap .i64 ((0 : Int) + 1) = 1 := by rw [w64] <;> omega
    simp only [h1, w1]
    rw [q_spec_l2Before_2]
    by_cases h2 : a.2.1 = b.2.1
    · have w2 : IntKind.wrap .i64 ((1 : Int) + 1) = 2 := by rw [w64] <;> omega
      simp only [h2, w2]
      rw [q_spec_l2Before_2]
      by_cases h3 : a.2.2.1 = b.2.2.1
      · have w3 : IntKind.wrap .i64 ((2 : Int) + 1) = 3 := by rw [w64] <;> omega
        simp only [h3, w3]
        rw [q_spec_l2Before_2]
        simp [inB, ltC, h1, h2, h3]
      · simp [inB, ltC, h1, h2, h3]
    · simp [inB, ltC, h1, h2]
  · simp [inB, ltC, h1]
theorem f_cmp (a b : Int) : P_cmp_Compare_int (a, b, ()) = some (if a < b then -1 else if b < a then 1 else 0, ()) := by
  have hn : ∀ x : Int, P_cmp_isNaN_int (x, ()) = some (false, ()) := fun x => by rw [p_cmp_isNaN_int]; simp
  rw [p_cmp_Compare_int]
  simp only [hn, Option.bind_some, cond_false]
  by_cases h1 : a < b
  · simp [h1]
  · by_cases h2 : b < a <;> simp [h1, h2]
def cmpC (a b : D_A3) : Int := if a.1 < b.1 then -1 else if b.1 < a.1 then 1 else if a.2.1 < b.2.1 then -1 else if b.2.1 < a.2.1 then 1 else if a.2.2.1 < b.2.2.1 then -1 else if b.2.2.1 < a.2.2.1 then 1 else 0
theorem f_impl_compareCells (a b : D_A3) : P_impl_compareCells (a, b, ()) = some (cmpC a b, ()) := by
  have n0 : ∀ x y z : Int, nth (.int .i64) [x, y, z] 0 = x := fun _ _ _ => rfl
  have n1 : ∀ x y z : Int, nth (.int .i64) [x, y, z] 1 = y := fun _ _ _ => rfl
  have n2 : ∀ x y z : Int, nth (.int .i64) [x, y, z] 2 = z := fun _ _ _ => rfl
  have w1 : IntKind.wrap .i64 ((0 : Int) + 1) = 1 := by rw [w64] <;> omega
  have w2 : IntKind.wrap .i64 ((1 : Int) + 1) = 2 := by rw [w64] <;> omega
  have w3 : IntKind.wrap .i64 ((2 : Int) + 1) = 3 := by rw [w64] <;> omega
  rw [p_impl_compareCells, p_slices_Compare_int_int, N_eq, q_slices_Compare_int_int_2]
  simp only [f_cmp, n0, List.length_cons, List.length_nil, Option.bind_some]
  by_cases h1 : a.1 = b.1
  · rw [w1, q_slices_Compare_int_int_2]
    simp only [f_cmp, n1, List.length_cons, List.length_nil, Option.bind_some]
    by_cases h2 : a.2.1 = b.2.1
    · rw [w2, q_slices_Compare_int_int_2]
      simp only [f_cmp, n2, List.length_cons, List.length_nil, Option.bind_some]
      by_cases h3 : a.2.2.1 = b.2.2.1
      · rw [w3, q_slices_Compare_int_int_2]
        simp [inB, cmpC, h1, h2, h3]
      · rcases Int.lt_or_gt_of_ne h3 with h | h
        · simp [inB, cmpC, h1, h2, h]
        · have h' : ¬ a.2.2.1 < b.2.2.1 := by omega
          simp [inB, cmpC, h1, h2, h, h']
    · rcases Int.lt_or_gt_of_ne h2 with h | h
      · simp [inB, cmpC, h1, h]
      · have h' : ¬ a.2.1 < b.2.1 := by omega
        simp [inB, cmpC, h1, h, h']
  · rcases Int.lt_or_gt_of_ne h1 with h | h
    · simp [inB, cmpC, h]
    · have h' : ¬ a.1 < b.1 := by omega
      simp [inB, cmpC, h, h']
theorem cmpC_lt (a b : D_A3) : decide (cmpC a b ≥ 0) = !ltC a b := by
  unfold cmpC ltC
  by_cases h1 : a.1 < b.1
  · simp [h1]
  · by_cases h1' : b.1 < a.1
    · have e : ¬ a.1 = b.1 := by omega
      simp [h1, h1', e]
    · have e : a.1 = b.1 := by omega
      by_cases h2 : a.2.1 < b.2.1
      · simp [e, h2]
      · by_cases h2' : b.2.1 < a.2.1
        · have e2 : ¬ a.2.1 = b.2.1 := by omega
          simp [e, h2, h2', e2]
        · have e2 : a.2.1 = b.2.1 := by omega
          by_cases h3 : a.2.2.1 < b.2.2.1
          · simp [e, e2, h3]
          · by_cases h3' : b.2.2.1 < a.2.2.1
            · simp [e, e2, h3, h3']
            · simp [e, e2, h3, h3']
def okTail (X Y Z : Int) : Option D_A3 → List D_A3 → Bool
  | _, [] => true
  | p, c :: r => within3 X Y Z c && (match p with | none => true | some q => ltC q c) && okTail X Y Z (some c) r
def okHeap (h : D_Heap) : Bool := sides h.1 h.2.1 h.2.2.1 && okTail h.1 h.2.1 h.2.2.1 none h.2.2.2.1
def prevAt (l : List D_A3) (k : Nat) : Option D_A3 := if k = 0 then none else l[k - 1]?
theorem predI {k : Nat} (h0 : 0 < k) (h : k < 1000000000) : IntKind.wrap .i64 ((k : Int) - 1) = ((k - 1 : Nat) : Int) := by rw [w64 (by omega) (by omega)]; omega
theorem l_spec_l2Heap (X Y Z : Int) (l : List D_A3) (hs : sides X Y Z = true) (hl : Small l) : ∀ (d k m : Nat), l.length = k + d → d < m → l_spec_l2Heap_4 m X Y Z l (k : Int) = some (okTail X Y Z (prevAt l k) (l.drop k), ())
  | d, k, 0, hk, hm => by omega
  | d, k, m + 1, hk, hm => by
    unfold Small at hl
    rw [q_spec_l2Heap_4]
    by_cases hlt : k < l.length
    · have ih := l_spec_l2Heap X Y Z l hs hl (d - 1) (k + 1) m (by omega) (by omega)
      have hp : prevAt l (k + 1) = some l[k] := by simp [prevAt, List.getElem?_eq_getElem hlt]
      rw [hp] at ih
      rw [succI k (by omega), ih, drop_at l k hlt, ltT hlt, inB_at hlt, nthA (t := T_A3) hlt, f_spec_l2In _ _ hs]
      simp only [cond_true, Option.bind_some, okTail]
      cases within3 X Y Z l[k] with
      | false => simp
      | true =>
        by_cases h0 : k = 0
        · subst h0
          simp [prevAt]
        · have hk1 : k - 1 < l.length := by omega
          have hpos : decide ((k : Int) > 0) = true := decide_eq_true (by omega)
          rw [hpos, predI (by omega) (by omega), inB_at hk1, nthA (t := T_A3) hk1, f_spec_l2Before]
          simp only [prevAt, h0, if_false, List.getElem?_eq_getElem hk1, cond_true, Option.bind_some, Bool.not_true, cond_false]
          cases ltC l[k - 1] l[k] <;> simp
    · rw [ltF hlt, List.drop_eq_nil_of_le (by omega)]
      simp [okTail]
theorem f_spec_l2Heap (h : D_Heap) (hl : Small h.2.2.2.1) : P_spec_l2Heap (h, ()) = some (okHeap h, ()) := by
  rw [p_spec_l2Heap, f_spec_l2Sides]
  unfold okHeap
  cases hs : sides h.1 h.2.1 h.2.2.1 with
  | false => simp
  | true =>
    have := l_spec_l2Heap _ _ _ h.2.2.2.1 hs hl h.2.2.2.1.length 0 N (by simp) (by unfold Small at hl; have := N_ge; omega)
    simp only [Int.natCast_zero, List.drop_zero, prevAt, if_true] at this
    simp [this]
theorem l_impl_IsHeap (X Y Z : Int) (l : List D_A3) (hs : sides X Y Z = true) (hl : Small l) : ∀ (d k m : Nat), l.length = k + d → d < m → l_impl_IsHeap_4 m X Y Z l l (l.length : Int) (k : Int) = some (okTail X Y Z (prevAt l k) (l.drop k), ())
  | d, k, 0, hk, hm => by omega
  | d, k, m + 1, hk, hm => by
    unfold Small at hl
    rw [q_impl_IsHeap_4]
    by_cases hlt : k < l.length
    · have ih := l_impl_IsHeap X Y Z l hs hl (d - 1) (k + 1) m (by omega) (by omega)
      have hp : prevAt l (k + 1) = some l[k] := by simp [prevAt, List.getElem?_eq_getElem hlt]
      rw [hp] at ih
      rw [succI k (by omega), ih, drop_at l k hlt, ltT hlt, inB_at hlt, nthA (t := T_A3) hlt, f_Heap_box]
      simp only [cond_true, Option.bind_some]
      rw [f_box_has _ _ hs]
      simp only [cond_true, Option.bind_some, okTail]
      cases within3 X Y Z l[k] with
      | false => simp
      | true =>
        by_cases h0 : k = 0
        · subst h0
          simp [prevAt]
        · have hk1 : k - 1 < l.length := by omega
          have hpos : decide ((k : Int) > 0) = true := decide_eq_true (by omega)
          rw [hpos, predI (by omega) (by omega), inB_at hk1, nthA (t := T_A3) hk1, f_impl_compareCells]
          simp only [prevAt, h0, if_false, List.getElem?_eq_getElem hk1, cond_true, Option.bind_some, Bool.not_true, cond_false, cmpC_lt]
          cases ltC l[k - 1] l[k] <;> simp
    · rw [ltF hlt, List.drop_eq_nil_of_le (by omega)]
      simp [okTail]
theorem f_impl_IsHeap (h : D_Heap) (hl : Small h.2.2.2.1) : P_impl_IsHeap (h, ()) = some (okHeap h, ()) := by
  rw [p_impl_IsHeap, f_Heap_box]
  simp only [Option.bind_some]
  rw [f_box_valid]
  unfold okHeap
  cases hs : sides h.1 h.2.1 h.2.2.1 with
  | false => simp [hs]
  | true =>
    have := l_impl_IsHeap _ _ _ h.2.2.2.1 hs hl h.2.2.2.1.length 0 N (by simp) (by unfold Small at hl; have := N_ge; omega)
    simp only [Int.natCast_zero, List.drop_zero, prevAt, if_true] at this
    simp [this, hs]
end Go.VI
namespace Go.VI
open Go.Proofs
theorem one64 : IntKind.wrap .i64 ((0 : Int) + 1) = 1 := by rw [w64] <;> omega
theorem two64 : IntKind.wrap .i64 ((1 : Int) + 1) = 2 := by rw [w64] <;> omega
theorem three64 : IntKind.wrap .i64 ((2 : Int) + 1) = 3 := by rw [w64] <;> omega
end Go.VI
namespace Go.VI
open Go.Proofs
theorem wu64 (n : Int) : IntKind.wrap .u64 n = n % 18446744073709551616 := by simp [IntKind.wrap, IntKind.bits, IntKind.signed]
theorem u64wrap (v : BitVec 64) : IntKind.wrap .u64 (v.toNat : Int) = (v.toNat : Int) := by
  rw [wu64]
  have := v.isLt
  omega
theorem ofInt64 (v : BitVec 64) : BitVec.ofInt 64 (v.toNat : Int) = v := by
  rw [BitVec.ofInt_natCast, BitVec.ofNat_toNat, BitVec.setWidth_eq]
theorem or64 (v w : BitVec 64) : intBits .or .u64 (v.toNat : Int) (w.toNat : Int) = ((v ||| w).toNat : Int) := by
  simp only [intBits]
  rw [show IntKind.bits .u64 = 64 from rfl, ofInt64, ofInt64, u64wrap]
theorem and64 (v w : BitVec 64) : intBits .and .u64 (v.toNat : Int) (w.toNat : Int) = ((v &&& w).toNat : Int) := by
  simp only [intBits]
  rw [show IntKind.bits .u64 = 64 from rfl, ofInt64, ofInt64, u64wrap]
theorem andNot64 (v w : BitVec 64) : intBits .andNot .u64 (v.toNat : Int) (w.toNat : Int) = ((v &&& ~~~w).toNat : Int) := by
  simp only [intBits]
  rw [show IntKind.bits .u64 = 64 from rfl, ofInt64, ofInt64, u64wrap]
theorem shl64 (i : Nat) : shlI .u64 1 (i : Int) = ((BitVec.twoPow 64 i).toNat : Int) := by
  unfold shlI
  rw [show IntKind.bits .u64 = 64 from rfl, BitVec.toNat_twoPow, Int.toNat_natCast, wu64, Int.one_mul]
  by_cases h : i < 64
  · rw [Nat.min_eq_left (by omega), Int.natCast_emod, Int.natCast_pow]
    rfl
  · rw [Nat.min_eq_right (by omega)]
    have : 2 ^ i % 2 ^ 64 = 0 := Nat.mod_eq_zero_of_dvd (Nat.pow_dvd_pow 2 (by omega))
    rw [this]
    decide
theorem shr64 (v : BitVec 64) (i : Nat) : shrI .u64 (v.toNat : Int) (i : Int) = ((v >>> i).toNat : Int) := by
  unfold shrI
  rw [show IntKind.bits .u64 = 64 from rfl, BitVec.toNat_ushiftRight, Int.toNat_natCast, Nat.shiftRight_eq_div_pow, Int.fdiv_eq_ediv_of_nonneg _ (Int.le_of_lt (Int.pow_pos (by decide)))]
  by_cases h : i < 64
  · rw [Nat.min_eq_left (by omega)]
    push_cast
    rfl
  · rw [Nat.min_eq_right (by omega), Nat.div_eq_of_lt (Nat.lt_of_lt_of_le v.isLt (Nat.pow_le_pow_right (by omega) (by omega)))]
    have := v.isLt
    omega
theorem f_set_has (v : BitVec 64) (i : Nat) : P_set_has ((v.toNat : Int), (i : Int), ()) = some (v.getLsbD i, ()) := by
  have h2 : intBits .and .u64 ((v >>> i).toNat : Int) 1 = (((v >>> i) &&& 1#64).toNat : Int) := and64 (v >>> i) 1#64
  rw [p_set_has, shr64, h2, decide_eq_true (Int.natCast_nonneg i), BitVec.and_one_eq_setWidth_ofBool_getLsbD, BitVec.getLsbD_ushiftRight]
  simp only [cond_true, Nat.add_zero]
  cases v.getLsbD i <;> simp
def idx (Y Z : Int) (c : D_A3) : Nat := ((c.1 * Y + c.2.1) * Z + c.2.2.1).toNat
theorem within3_iff {X Y Z : Int} {c : D_A3} : within3 X Y Z c = true ↔ (0 ≤ c.1 ∧ c.1 ≤ X - 1) ∧ (0 ≤ c.2.1 ∧ c.2.1 ≤ Y - 1) ∧ (0 ≤ c.2.2.1 ∧ c.2.2.1 ≤ Z - 1) := by
  simp [within3, and_assoc]
theorem ltC_iff {a b : D_A3} : ltC a b = true ↔ a.1 < b.1 ∨ (a.1 = b.1 ∧ (a.2.1 < b.2.1 ∨ (a.2.1 = b.2.1 ∧ a.2.2.1 < b.2.2.1))) := by
  simp [ltC]
theorem four {n : Int} (h0 : 1 ≤ n) (h1 : n ≤ 4) : n = 1 ∨ n = 2 ∨ n = 3 ∨ n = 4 := by omega
theorem idx_eq {X Y Z : Int} (hs : sides X Y Z = true) {c : D_A3} (hc : within3 X Y Z c = true) : ((idx Y Z c : Nat) : Int) = (c.1 * Y + c.2.1) * Z + c.2.2.1 ∧ idx Y Z c < (X * Y * Z).toNat ∧ X * Y * Z ≤ 64 ∧ c.1 * Y ≤ 16 ∧ 0 ≤ c.1 * Y ∧ 0 ≤ (c.1 * Y + c.2.1) * Z := by
  obtain ⟨h1, h2, h3⟩ := sides_iff.1 hs
  obtain ⟨c1, c2, c3⟩ := within3_iff.1 hc
  unfold idx
  rcases four h1.1 h1.2 with rfl | rfl | rfl | rfl <;> rcases four h2.1 h2.2 with rfl | rfl | rfl | rfl <;> rcases four h3.1 h3.2 with rfl | rfl | rfl | rfl <;> omega
theorem idx_lt {X Y Z : Int} (hs : sides X Y Z = true) {a b : D_A3} (ha : within3 X Y Z a = true) (hb : within3 X Y Z b = true) : idx Y Z a < idx Y Z b ↔ ltC a b = true := by
  obtain ⟨h1, h2, h3⟩ := sides_iff.1 hs
  obtain ⟨a1, a2, a3⟩ := within3_iff.1 ha
  obtain ⟨b1, b2, b3⟩ := within3_iff.1 hb
  rw [ltC_iff]
  unfold idx
  rcases four h2.1 h2.2 with rfl | rfl | rfl | rfl <;> rcases four h3.1 h3.2 with rfl | rfl | rfl | rfl <;> omega
theorem cell_ext {a b : D_A3} (h1 : a.1 = b.1) (h2 : a.2.1 = b.2.1) (h3 : a.2.2.1 = b.2.2.1) : a = b := by
  obtain ⟨a1, a2, a3, ⟨⟩⟩ := a
  obtain ⟨b1, b2, b3, ⟨⟩⟩ := b
  simp_all
theorem ltC_total {a b : D_A3} (h : ltC a b = false) (h' : ltC b a = false) : a = b := by
  have h1 := mt (ltC_iff (a := a) (b := b)).2 (by simp [h])
  have h2 := mt (ltC_iff (a := b) (b := a)).2 (by simp [h'])
  refine cell_ext ?_ ?_ ?_ <;> omega
theorem ltC_irrefl (a : D_A3) : ltC a a = false := by
  rw [Bool.eq_false_iff]; intro h
  have := ltC_iff.1 h
  omega
theorem ltC_trans {a b c : D_A3} (h : ltC a b = true) (h' : ltC b c = true) : ltC a c = true := by
  have h1 := ltC_iff.1 h
  have h2 := ltC_iff.1 h'
  rw [ltC_iff]
  omega
theorem idx_inj {X Y Z : Int} (hs : sides X Y Z = true) {a b : D_A3} (ha : within3 X Y Z a = true) (hb : within3 X Y Z b = true) (h : idx Y Z a = idx Y Z b) : a = b := by
  refine ltC_total ?_ ?_ <;> rw [Bool.eq_false_iff]
  · intro h'; have := (idx_lt hs ha hb).2 h'; omega
  · intro h'; have := (idx_lt hs hb ha).2 h'; omega
theorem f_box_index {X Y Z : Int} (hs : sides X Y Z = true) {c : D_A3} (hc : within3 X Y Z c = true) : P_box_index ((X, Y, Z, ()), c, ()) = some ((idx Y Z c : Int), ()) := by
  obtain ⟨h1, h2, h3, h4, h5, h6⟩ := idx_eq hs hc
  obtain ⟨s1, s2, s3⟩ := sides_iff.1 hs
  obtain ⟨c1, c2, c3⟩ := within3_iff.1 hc
  have hm : 0 ≤ (c.1 * Y + c.2.1) * Z ∧ (c.1 * Y + c.2.1) * Z ≤ 1000 := by omega
  rw [p_box_index, h1]
  simp only
  rw [w64 (x := c.1 * Y) (by omega) (by omega), w64 (x := c.1 * Y + c.2.1) (by omega) (by omega), w64 (x := (c.1 * Y + c.2.1) * Z) (by omega) (by omega), w64 (by omega) (by omega)]
end Go.VI
namespace Go.VI
open Go.Proofs
def Srt (l : List D_A3) : Prop := l.Pairwise fun a b => ltC a b = true
def Ins (X Y Z : Int) (l : List D_A3) : Prop := ∀ c ∈ l, within3 X Y Z c = true
theorem okTail_iff (X Y Z : Int) : ∀ (l : List D_A3) (p : Option D_A3), okTail X Y Z p l = true ↔ Ins X Y Z l ∧ Srt l ∧ ∀ q, p = some q → ∀ c ∈ l, ltC q c = true
  | [], p => by simp [okTail, Ins, Srt]
  | c :: r, p => by
    simp only [okTail, Bool.and_eq_true, okTail_iff X Y Z r (some c), Ins, Srt, List.pairwise_cons, List.mem_cons, forall_eq_or_imp]
    constructor
    · rintro ⟨⟨h1, h2⟩, h3, h4, h5⟩
      refine ⟨⟨h1, h3⟩, ⟨h5 c rfl, h4⟩, ?_⟩
      rintro q rfl
      simp only at h2
      exact ⟨h2, fun d hd => ltC_trans h2 (h5 c rfl d hd)⟩
    · rintro ⟨⟨h1, h3⟩, ⟨h5, h4⟩, h6⟩
      refine ⟨⟨h1, ?_⟩, h3, h4, ?_⟩
      · cases p with
        | none => rfl
        | some q => exact (h6 q rfl).1
      · rintro q ⟨⟩
        exact h5
theorem okHeap_iff {h : D_Heap} : okHeap h = true ↔ sides h.1 h.2.1 h.2.2.1 = true ∧ Ins h.1 h.2.1 h.2.2.1 h.2.2.2.1 ∧ Srt h.2.2.2.1 := by
  unfold okHeap
  rw [Bool.and_eq_true, okTail_iff]
  simp
theorem srt_ext : ∀ (l l' : List D_A3), Srt l → Srt l' → (∀ c, c ∈ l ↔ c ∈ l') → l = l'
  | [], [], _, _, _ => rfl
  | [], b :: r', _, _, h => by have := (h b).2 (by simp); simp at this
  | a :: r, [], _, _, h => by have := (h a).1 (by simp); simp at this
  | a :: r, b :: r', h1, h2, h => by
    unfold Srt at h1 h2
    rw [List.pairwise_cons] at h1 h2
    have hab : a = b := by
      have ha := (h a).1 (by simp)
      have hb := (h b).2 (by simp)
      rcases List.mem_cons.1 ha with e | ha'
      · exact e
      · rcases List.mem_cons.1 hb with e | hb'
        · exact e.symm
        · have x1 := h2.1 a ha'
          have x2 := h1.1 b hb'
          have := ltC_trans x1 x2
          rw [ltC_irrefl] at this
          cases this
    subst hab
    have nr : ∀ c ∈ r, c ≠ a := fun c hc e => by have := h1.1 c hc; rw [e, ltC_irrefl] at this; cases this
    have nr' : ∀ c ∈ r', c ≠ a := fun c hc e => by have := h2.1 c hc; rw [e, ltC_irrefl] at this; cases this
    refine congrArg _ (srt_ext r r' h1.2 h2.2 fun c => ⟨fun hc => ?_, fun hc => ?_⟩)
    · rcases List.mem_cons.1 ((h c).1 (by simp [hc])) with e | k
      · exact absurd e (nr c hc)
      · exact k
    · rcases List.mem_cons.1 ((h c).2 (by simp [hc])) with e | k
      · exact absurd e (nr' c hc)
      · exact k
theorem Srt.filter {l : List D_A3} (h : Srt l) (p : D_A3 → Bool) : Srt (l.filter p) := List.Pairwise.filter p h
theorem Ins.filter {X Y Z : Int} {l : List D_A3} (h : Ins X Y Z l) (p : D_A3 → Bool) : Ins X Y Z (l.filter p) := fun c hc => h c (List.mem_filter.1 hc).1
theorem Srt.nodup {l : List D_A3} (h : Srt l) : l.Nodup := List.Pairwise.imp (fun {a b} hab e => by rw [e, ltC_irrefl] at hab; cases hab) h
def mask (Y Z : Int) (l : List D_A3) (v : BitVec 64) : BitVec 64 := l.foldl (fun v c => v ||| BitVec.twoPow 64 (idx Y Z c)) v
theorem mask_bit (Y Z : Int) (i : Nat) : ∀ (l : List D_A3) (v : BitVec 64), (mask Y Z l v).getLsbD i = (v.getLsbD i || (decide (i < 64) && l.any fun c => decide (idx Y Z c = i)))
  | [], v => by simp [mask]
  | c :: r, v => by
    have := mask_bit Y Z i r (v ||| BitVec.twoPow 64 (idx Y Z c))
    simp only [mask, List.foldl_cons, List.any_cons] at this ⊢
    rw [this, BitVec.getLsbD_or, BitVec.getLsbD_twoPow]
    by_cases h : idx Y Z c = i
    · simp only [h, decide_true, Bool.and_true, Bool.true_or]
      cases v.getLsbD i <;> cases decide (i < 64) <;> simp
    · simp [h]
theorem mask_mem {X Y Z : Int} (hs : sides X Y Z = true) {l : List D_A3} (hl : Ins X Y Z l) {c : D_A3} (hc : within3 X Y Z c = true) : (mask Y Z l 0).getLsbD (idx Y Z c) = decide (c ∈ l) := by
  have h64 : idx Y Z c < 64 := by
    obtain ⟨_, h2, h3, _⟩ := idx_eq hs hc
    omega
  rw [mask_bit, decide_eq_true h64]
  simp only [BitVec.ofNat_eq_ofNat, BitVec.getLsbD_zero, Bool.false_or, Bool.true_and]
  by_cases h : c ∈ l
  · rw [decide_eq_true h]
    exact List.any_eq_true.2 ⟨c, h, by simp⟩
  · rw [decide_eq_false h, Bool.eq_false_iff]
    intro ha
    obtain ⟨d, hd, e⟩ := List.any_eq_true.1 ha
    exact h (idx_inj hs (hl d hd) hc (by simpa using e) ▸ hd)
theorem l_cubes (X Y Z : Int) (l : List D_A3) (hs : sides X Y Z = true) (hl : Small l) (hi : Ins X Y Z l) : ∀ (d k m : Nat) (v : BitVec 64), l.length = k + d → d < m →
    l_Heap_cubes_3 m X Y Z l (v.toNat : Int) l (l.length : Int) (k : Int) = some (((mask Y Z (l.drop k) v).toNat : Int), ())
  | d, k, 0, v, hk, hm => by omega
  | d, k, m + 1, v, hk, hm => by
    unfold Small at hl
    rw [q_Heap_cubes_3]
    by_cases hlt : k < l.length
    · rw [ltT hlt, inB_at hlt, nthA (t := T_A3) hlt, f_Heap_box]
      simp only [cond_true, Option.bind_some]
      rw [f_box_index hs (hi _ (List.getElem_mem hlt))]
      simp only [Option.bind_some, decide_eq_true (Int.natCast_nonneg (idx Y Z l[k])), cond_true]
      rw [shl64, or64, succI k (by omega), l_cubes X Y Z l hs hl hi (d - 1) (k + 1) m _ (by omega) (by omega), drop_at l k hlt]
      rfl
    · rw [ltF hlt, List.drop_eq_nil_of_le (by omega)]
      rfl
theorem f_Heap_cubes {X Y Z : Int} {l : List D_A3} (hs : sides X Y Z = true) (hl : Small l) (hi : Ins X Y Z l) : P_Heap_cubes ((X, Y, Z, l, ()), ()) = some (((mask Y Z l 0).toNat : Int), ()) := by
  have := l_cubes X Y Z l hs hl hi l.length 0 N 0 (by simp) (by unfold Small at hl; have := N_ge; omega)
  rw [p_Heap_cubes]
  simpa using this
theorem l_l2Has (X Y Z : Int) (l : List D_A3) (c : D_A3) (hl : Small l) : ∀ (d k m : Nat), l.length = k + d → d < m →
    l_spec_l2Has_2 m X Y Z l c.1 c.2.1 c.2.2.1 (k : Int) = some (decide (c ∈ l.drop k), ())
  | d, k, 0, hk, hm => by omega
  | d, k, m + 1, hk, hm => by
    unfold Small at hl
    rw [q_spec_l2Has_2]
    by_cases hlt : k < l.length
    · rw [ltT hlt, inB_at hlt, nthA (t := T_A3) hlt, succI k (by omega), l_l2Has X Y Z l c hl (d - 1) (k + 1) m (by omega) (by omega), drop_at l k hlt]
      simp only [cond_true, Bool.and_true]
      by_cases he : l[k] = c
      · simp [he]
      · have hne : (decide ((l[k]).1 = c.1) && (decide ((l[k]).2.1 = c.2.1) && decide ((l[k]).2.2.1 = c.2.2.1))) = false := by
          rw [Bool.eq_false_iff]
          intro h
          simp only [Bool.and_eq_true, decide_eq_true_eq] at h
          exact he (cell_ext h.1 h.2.1 h.2.2)
        rw [hne]
        simp only [List.mem_cons, Ne.symm he, false_or, cond_false]
    · rw [ltF hlt, List.drop_eq_nil_of_le (by omega)]
      simp
theorem f_l2Has (X Y Z : Int) (l : List D_A3) (c : D_A3) (hl : Small l) : P_spec_l2Has ((X, Y, Z, l, ()), c, ()) = some (decide (c ∈ l), ()) := by
  have := l_l2Has X Y Z l c hl l.length 0 N (by simp) (by unfold Small at hl; have := N_ge; omega)
  rw [p_spec_l2Has]
  simpa using this
def cellOf (Y Z : Int) (i : Nat) : D_A3 := ((i : Int) / Z / Y, (i : Int) / Z % Y, (i : Int) % Z, ())
theorem cellOf_ok {X Y Z : Int} (hs : sides X Y Z = true) {i : Nat} (hi : i < (X * Y * Z).toNat) : within3 X Y Z (cellOf Y Z i) = true ∧ idx Y Z (cellOf Y Z i) = i := by
  obtain ⟨h1, h2, h3⟩ := sides_iff.1 hs
  rw [within3_iff]
  unfold idx cellOf
  rcases four h2.1 h2.2 with rfl | rfl | rfl | rfl <;> rcases four h3.1 h3.2 with rfl | rfl | rfl | rfl <;> simp only at * <;> omega
theorem f_box_cell {X Y Z : Int} (hs : sides X Y Z = true) {i : Nat} (hi : i < 64) : P_box_cell ((X, Y, Z, ()), (i : Int), ()) = some (cellOf Y Z i, ()) := by
  obtain ⟨h1, h2, h3⟩ := sides_iff.1 hs
  have hy : (!decide (Y = 0)) = true := by simp; omega
  have hz : (!decide (Z = 0)) = true := by simp; omega
  rw [p_box_cell]
  simp only [hy, hz, cond_true]
  rw [Int.tdiv_eq_ediv_of_nonneg (Int.natCast_nonneg i), Int.tmod_eq_emod_of_nonneg (Int.natCast_nonneg i)]
  have hq : 0 ≤ (i : Int) / Z ∧ (i : Int) / Z ≤ 64 := by
    rcases four h3.1 h3.2 with rfl | rfl | rfl | rfl <;> omega
  rw [w64 (x := (i : Int) / Z) (by omega) (by omega), Int.tdiv_eq_ediv_of_nonneg hq.1, Int.tmod_eq_emod_of_nonneg hq.1]
  have hq2 : 0 ≤ (i : Int) / Z / Y ∧ (i : Int) / Z / Y ≤ 64 := by
    rcases four h2.1 h2.2 with rfl | rfl | rfl | rfl <;> omega
  rw [w64 (by omega) (by omega)]
  rfl
def listFrom (Y Z : Int) (v : BitVec 64) : (d k : Nat) → List D_A3
  | 0, _ => []
  | d + 1, k => if v.getLsbD k then cellOf Y Z k :: listFrom Y Z v d (k + 1) else listFrom Y Z v d (k + 1)
def bitCells (X Y Z : Int) (v : BitVec 64) : List D_A3 := listFrom Y Z v (X * Y * Z).toNat 0
theorem mem_listFrom (Y Z : Int) (v : BitVec 64) (c : D_A3) : ∀ (d k : Nat), c ∈ listFrom Y Z v d k ↔ ∃ i, k ≤ i ∧ i < k + d ∧ v.getLsbD i = true ∧ cellOf Y Z i = c
  | 0, k => by simp only [listFrom, List.not_mem_nil, false_iff]; rintro ⟨i, h1, h2, _⟩; omega
  | d + 1, k => by
    have ih := mem_listFrom Y Z v c d (k + 1)
    have key : c ∈ listFrom Y Z v (d + 1) k ↔ (v.getLsbD k = true ∧ cellOf Y Z k = c) ∨ c ∈ listFrom Y Z v d (k + 1) := by
      simp only [listFrom]
      by_cases h : v.getLsbD k = true
      · simp [h, eq_comm]
      · simp [h]
    rw [key, ih]
    constructor
    · rintro (⟨h1, h2⟩ | ⟨i, h1, h2, h3⟩)
      · exact ⟨k, by omega, by omega, h1, h2⟩
      · exact ⟨i, by omega, by omega, h3⟩
    · rintro ⟨i, h1, h2, h3, h4⟩
      by_cases e : i = k
      · subst e; exact .inl ⟨h3, h4⟩
      · exact .inr ⟨i, by omega, by omega, h3, h4⟩
theorem mem_listOf {X Y Z : Int} (hs : sides X Y Z = true) (v : BitVec 64) (c : D_A3) : c ∈ bitCells X Y Z v ↔ within3 X Y Z c = true ∧ v.getLsbD (idx Y Z c) = true := by
  unfold bitCells
  rw [mem_listFrom]
  constructor
  · rintro ⟨i, _, h2, h3, rfl⟩
    obtain ⟨w1, w2⟩ := cellOf_ok hs (i := i) (by omega)
    exact ⟨w1, by rw [w2]; exact h3⟩
  · rintro ⟨h1, h2⟩
    obtain ⟨_, hlt, _⟩ := idx_eq hs h1
    obtain ⟨w1, w2⟩ := cellOf_ok hs hlt
    exact ⟨idx Y Z c, by omega, by omega, h2, idx_inj hs w1 h1 w2⟩
theorem srt_listFrom {X Y Z : Int} (hs : sides X Y Z = true) (v : BitVec 64) : ∀ (d k : Nat), k + d ≤ (X * Y * Z).toNat → Srt (listFrom Y Z v d k)
  | 0, k, _ => by simp [listFrom, Srt]
  | d + 1, k, h => by
    have ih := srt_listFrom hs v d (k + 1) (by omega)
    simp only [listFrom]
    by_cases hb : v.getLsbD k = true
    · rw [if_pos hb]
      refine List.pairwise_cons.2 ⟨fun c hc => ?_, ih⟩
      obtain ⟨i, h1, h2, _, rfl⟩ := (mem_listFrom Y Z v c d (k + 1)).1 hc
      obtain ⟨w1, w2⟩ := cellOf_ok hs (i := i) (by omega)
      obtain ⟨x1, x2⟩ := cellOf_ok hs (i := k) (by omega)
      exact (idx_lt hs x1 w1).1 (by omega)
    · rw [if_neg hb]; exact ih
theorem srt_listOf {X Y Z : Int} (hs : sides X Y Z = true) (v : BitVec 64) : Srt (bitCells X Y Z v) := srt_listFrom hs v _ 0 (by omega)
theorem listFrom_length (Y Z : Int) (v : BitVec 64) : ∀ (d k : Nat), (listFrom Y Z v d k).length ≤ d
  | 0, k => by simp [listFrom]
  | d + 1, k => by
    have := listFrom_length Y Z v d (k + 1)
    simp only [listFrom]
    split <;> simp <;> omega
theorem size64 {X Y Z : Int} (hs : sides X Y Z = true) : 1 ≤ X * Y * Z ∧ X * Y * Z ≤ 64 ∧ 1 ≤ X * Y ∧ X * Y ≤ 16 := by
  obtain ⟨h1, h2, h3⟩ := sides_iff.1 hs
  rcases four h1.1 h1.2 with rfl | rfl | rfl | rfl <;> rcases four h2.1 h2.2 with rfl | rfl | rfl | rfl <;> omega
theorem small_listOf {X Y Z : Int} (hs : sides X Y Z = true) (v : BitVec 64) : Small (bitCells X Y Z v) := by
  have := listFrom_length Y Z v (X * Y * Z).toNat 0
  have := size64 hs
  unfold Small bitCells
  omega
theorem l_box_list {X Y Z : Int} (hs : sides X Y Z = true) (v : BitVec 64) : ∀ (d k m : Nat) (acc : List D_A3), (X * Y * Z).toNat = k + d → d < m → acc.length ≤ k →
    l_box_list_3 m X Y Z (v.toNat : Int) acc (X * Y * Z) (k : Int) = some (acc ++ listFrom Y Z v d k, ())
  | d, k, 0, acc, hk, hm, ha => by omega
  | 0, k, m + 1, acc, hk, hm, ha => by
    rw [q_box_list_3, decide_eq_false (by have := size64 hs; omega)]
    simp [listFrom]
  | d + 1, k, m + 1, acc, hk, hm, ha => by
    have hsz := size64 hs
    rw [q_box_list_3, decide_eq_true (by omega), f_set_has, f_box_cell hs (by omega), succI k (by omega)]
    simp only [cond_true, Option.bind_some, listFrom]
    cases hb : v.getLsbD k with
    | false =>
      simp only [cond_false, Bool.false_eq_true, if_false]
      exact l_box_list hs v d (k + 1) m acc (by omega) (by omega) (by omega)
    | true =>
      simp only [List.length_cons, List.length_nil, cond_true, if_true]
      rw [decide_eq_true (by omega), decide_eq_true (by omega), l_box_list hs v d (k + 1) m _ (by omega) (by omega) (by simp; omega)]
      simp
theorem f_box_list {X Y Z : Int} (hs : sides X Y Z = true) (v : BitVec 64) : P_box_list ((X, Y, Z, ()), (v.toNat : Int), ()) = some (bitCells X Y Z v, ()) := by
  have hsz := size64 hs
  have := l_box_list hs v (X * Y * Z).toNat 0 N [] (by omega) (by have := N_ge; omega) (by simp)
  rw [p_box_list, p_box_size]
  simp only [Option.bind_some]
  rw [w64 (x := X * Y) (by omega) (by omega), w64 (by omega) (by omega)]
  exact this
theorem listOf_mask {X Y Z : Int} (hs : sides X Y Z = true) {l : List D_A3} (hi : Ins X Y Z l) (h : Srt l) : bitCells X Y Z (mask Y Z l 0) = l := by
  refine srt_ext _ _ (srt_listOf hs _) h fun c => ?_
  rw [mem_listOf hs]
  constructor
  · rintro ⟨h1, h2⟩
    rw [mask_mem hs hi h1] at h2
    simpa using h2
  · intro hc
    exact ⟨hi c hc, by rw [mask_mem hs hi (hi c hc)]; simpa using hc⟩
end Go.VI
namespace Go.VI
open Go.Proofs
def stp (k : Nat) (c : D_A3) : D_A3 := match k with
  | 0 => (c.1 + -1, c.2.1, c.2.2.1, ())
  | 1 => (c.1 + 1, c.2.1, c.2.2.1, ())
  | 2 => (c.1, c.2.1 + -1, c.2.2.1, ())
  | 3 => (c.1, c.2.1 + 1, c.2.2.1, ())
  | 4 => (c.1, c.2.1, c.2.2.1 + -1, ())
  | _ => (c.1, c.2.1, c.2.2.1 + 1, ())
def Near (c : D_A3) : Prop := -1000 ≤ c.1 ∧ c.1 ≤ 1000 ∧ -1000 ≤ c.2.1 ∧ c.2.1 ≤ 1000 ∧ -1000 ≤ c.2.2.1 ∧ c.2.2.1 ≤ 1000
theorem near_of {X Y Z : Int} (hs : sides X Y Z = true) {c : D_A3} (hc : within3 X Y Z c = true) : Near c := by
  obtain ⟨s1, s2, s3⟩ := sides_iff.1 hs
  obtain ⟨w1, w2, w3⟩ := within3_iff.1 hc
  unfold Near; omega
def BitsOf (X Y Z : Int) (v : BitVec 64) (q : List D_A3) : Prop := Ins X Y Z q ∧ ∀ c, within3 X Y Z c = true → v.getLsbD (idx Y Z c) = decide (c ∈ q)
end Go.VI
namespace Go.VI
open Go.Proofs
end Go.VI
namespace Go.VI
open Go.Proofs
def fullBits (n : Nat) : BitVec 64 := BitVec.ofNat 64 (2 ^ n - 1)
theorem fullBits_toNat {n : Nat} (h : n ≤ 64) : (fullBits n).toNat = 2 ^ n - 1 := by
  unfold fullBits
  rw [BitVec.toNat_ofNat, Nat.mod_eq_of_lt]
  have := Nat.pow_le_pow_right (show 0 < 2 by decide) h
  have := Nat.pow_pos (n := n) (show 0 < 2 by decide)
  omega
theorem fullBits_bit {n : Nat} (h : n ≤ 64) (i : Nat) : (fullBits n).getLsbD i = decide (i < n) := by
  unfold BitVec.getLsbD
  rw [fullBits_toNat h, Nat.testBit_two_pow_sub_one]
theorem full64 {n : Nat} (h : n ≤ 64) : IntKind.wrap .u64 (shlI .u64 1 (n : Int) - 1) = ((fullBits n).toNat : Int) := by
  rw [shl64, BitVec.toNat_twoPow, fullBits_toNat h, wu64]
  by_cases h' : n = 64
  · subst h'; decide
  · have hlt : 2 ^ n < 2 ^ 64 := Nat.pow_lt_pow_right (by decide) (by omega)
    have hp := Nat.pow_pos (n := n) (show 0 < 2 by decide)
    rw [Nat.mod_eq_of_lt hlt]
    have h64 : (2 : Nat) ^ 64 = 18446744073709551616 := by decide
    rw [h64] at hlt
    omega
theorem f_box_full {X Y Z : Int} (hs : sides X Y Z = true) : P_box_full ((X, Y, Z, ()), ()) = some (((fullBits (X * Y * Z).toNat).toNat : Int), ()) := by
  have hsz := size64 hs
  rw [p_box_full, p_box_size]
  simp only [Option.bind_some]
  rw [w64 (x := X * Y) (by omega) (by omega), w64 (x := X * Y * Z) (by omega) (by omega), decide_eq_true (by omega)]
  have e : X * Y * Z = (((X * Y * Z).toNat : Nat) : Int) := by omega
  rw [e, full64 (by omega), ← e]
  rfl
def allCells (X Y Z : Int) : List D_A3 := bitCells X Y Z (fullBits (X * Y * Z).toNat)
theorem mem_allCells {X Y Z : Int} (hs : sides X Y Z = true) (c : D_A3) : c ∈ allCells X Y Z ↔ within3 X Y Z c = true := by
  unfold allCells
  rw [mem_listOf hs, fullBits_bit (by have := size64 hs; omega)]
  constructor
  · exact fun h => h.1
  · intro h
    exact ⟨h, by have := (idx_eq hs h).2.1; simpa using this⟩
theorem allCells_ok {X Y Z : Int} (hs : sides X Y Z = true) : Small (allCells X Y Z) ∧ Ins X Y Z (allCells X Y Z) ∧ Srt (allCells X Y Z) :=
  ⟨small_listOf hs _, fun c h => (mem_allCells hs c).1 h, srt_listOf hs _⟩
def upto (Y Z : Int) (k : Nat) : List D_A3 := (List.range k).map (cellOf Y Z)
theorem upto_succ (Y Z : Int) (k : Nat) : upto Y Z (k + 1) = upto Y Z k ++ [cellOf Y Z k] := by
  unfold upto
  rw [List.range_succ, List.map_append]
  rfl
theorem listFrom_full (Y Z : Int) (v : BitVec 64) : ∀ (d k : Nat), (∀ i, k ≤ i → i < k + d → v.getLsbD i = true) → listFrom Y Z v d k = (List.range' k d).map (cellOf Y Z)
  | 0, k, _ => by simp [listFrom]
  | d + 1, k, h => by
    rw [listFrom, if_pos (h k (by omega) (by omega)), listFrom_full Y Z v d (k + 1) (fun i h1 h2 => h i (by omega) (by omega))]
    simp [List.range'_succ]
theorem upto_all {X Y Z : Int} (hs : sides X Y Z = true) : upto Y Z (X * Y * Z).toNat = allCells X Y Z := by
  have hsz := size64 hs
  unfold upto allCells bitCells
  rw [listFrom_full Y Z _ _ 0 (fun i _ h => by rw [fullBits_bit (by omega)]; simpa using h), List.range_eq_range']
theorem cellOf_idx {X Y Z : Int} (hs : sides X Y Z = true) {c : D_A3} (hc : within3 X Y Z c = true) : cellOf Y Z (idx Y Z c) = c := by
  obtain ⟨_, hlt, _⟩ := idx_eq hs hc
  obtain ⟨w1, w2⟩ := cellOf_ok hs hlt
  exact idx_inj hs w1 hc w2
theorem idx_z {X Y Z : Int} (hs : sides X Y Z = true) {x y z : Int} (hx : 0 ≤ x) (hy : 0 ≤ y) (hz : 0 ≤ z) : idx Y Z (x, y, z + 1, ()) = idx Y Z (x, y, z, ()) + 1 := by
  obtain ⟨_, h2, h3⟩ := sides_iff.1 hs
  unfold idx
  rcases four h2.1 h2.2 with rfl | rfl | rfl | rfl <;> rcases four h3.1 h3.2 with rfl | rfl | rfl | rfl <;> simp only <;> omega
theorem idx_y (Y Z x y : Int) : idx Y Z (x, y, Z, ()) = idx Y Z (x, y + 1, 0, ()) := by
  unfold idx
  simp only
  rw [show (x * Y + (y + 1)) * Z + 0 = (x * Y + y) * Z + Z by rw [← Int.add_assoc, Int.add_mul (x * Y + y) 1 Z]; omega]
theorem idx_x (Y Z x : Int) : idx Y Z (x, Y, 0, ()) = idx Y Z (x + 1, 0, 0, ()) := by
  unfold idx
  simp only
  rw [show (x + 1) * Y + 0 = x * Y + Y by rw [Int.add_mul]; omega]
theorem l_all9 {X Y Z : Int} {l : List D_A3} (hs : sides X Y Z = true) (m0 m1 : Nat) {x y : Int} (hx : 0 ≤ x ∧ x ≤ X - 1) (hy : 0 ≤ y ∧ y ≤ Y - 1) : ∀ (d m : Nat) (z : Int), z + d = Z → 0 ≤ z → d < m →
    l_spec_l2All_9 m0 m1 m X Y Z l (upto Y Z (idx Y Z (x, y, z, ()))) x y z = l_spec_l2All_6 m0 m1 X Y Z l (upto Y Z (idx Y Z (x, y + 1, 0, ()))) x (y + 1)
  | d, 0, z, hz, h0, hm => by omega
  | 0, m + 1, z, hz, h0, hm => by
    obtain ⟨s1, s2, s3⟩ := sides_iff.1 hs
    have : z = Z := by omega
    subst this
    rw [q_spec_l2All_9, decide_eq_false (by omega), w64 (x := y + 1) (by omega) (by omega), idx_y]
    rfl
  | d + 1, m + 1, z, hz, h0, hm => by
    obtain ⟨s1, s2, s3⟩ := sides_iff.1 hs
    have hw : within3 X Y Z (x, y, z, ()) = true := by rw [within3_iff]; simp only; omega
    have hlen : (upto Y Z (idx Y Z (x, y, z, ()))).length ≤ 64 := by
      obtain ⟨_, h2, h3, _⟩ := idx_eq hs hw
      unfold upto
      rw [List.length_map, List.length_range]
      omega
    have e : upto Y Z (idx Y Z (x, y, z, ())) ++ [((x, (y, (z, ()))) : D_A3)] = upto Y Z (idx Y Z (x, y, z + 1, ())) := by
      rw [idx_z hs hx.1 hy.1 h0, upto_succ, cellOf_idx hs hw]
    rw [q_spec_l2All_9, decide_eq_true (by omega), w64 (x := z + 1) (by omega) (by omega)]
    simp only [List.length_cons, List.length_nil, cond_true]
    rw [decide_eq_true (p := ((upto Y Z (idx Y Z (x, y, z, ()))).length + (0 + 1)) * 24 ≤ 140737488355328) (by omega), decide_eq_true (p := (upto Y Z (idx Y Z (x, y, z, ()))).length + (0 + 1) ≤ 140737488355328) (by omega), e]
    exact l_all9 hs m0 m1 hx hy d m (z + 1) (by omega) (by omega) (by omega)
termination_by d => d
theorem l_all6 {X Y Z : Int} {l : List D_A3} (hs : sides X Y Z = true) (m0 : Nat) {x : Int} (hx : 0 ≤ x ∧ x ≤ X - 1) : ∀ (d m : Nat) (y : Int), y + d = Y → 0 ≤ y → d < m →
    l_spec_l2All_6 m0 m X Y Z l (upto Y Z (idx Y Z (x, y, 0, ()))) x y = l_spec_l2All_3 m0 X Y Z l (upto Y Z (idx Y Z (x + 1, 0, 0, ()))) (x + 1)
  | d, 0, y, hz, h0, hm => by omega
  | 0, m + 1, y, hz, h0, hm => by
    obtain ⟨s1, s2, s3⟩ := sides_iff.1 hs
    have : y = Y := by omega
    subst this
    rw [q_spec_l2All_6, decide_eq_false (by omega), w64 (x := x + 1) (by omega) (by omega), idx_x]
    rfl
  | d + 1, m + 1, y, hz, h0, hm => by
    obtain ⟨s1, s2, s3⟩ := sides_iff.1 hs
    rw [q_spec_l2All_6, decide_eq_true (by omega)]
    simp only [cond_true]
    rw [l_all9 hs m0 m hx (by omega) Z.toNat N 0 (by omega) (by omega) (by have := N_ge; omega)]
    exact l_all6 hs m0 hx d m (y + 1) (by omega) (by omega) (by omega)
termination_by d => d
theorem l_all3 {X Y Z : Int} {l : List D_A3} (hs : sides X Y Z = true) : ∀ (d m : Nat) (x : Int), x + d = X → 0 ≤ x → d < m →
    l_spec_l2All_3 m X Y Z l (upto Y Z (idx Y Z (x, 0, 0, ()))) x = some (allCells X Y Z, ())
  | d, 0, x, hz, h0, hm => by omega
  | 0, m + 1, x, hz, h0, hm => by
    have : x = X := by omega
    subst this
    rw [q_spec_l2All_3, decide_eq_false (by omega)]
    rw [← upto_all hs]
    simp only [cond_false, idx, Int.add_zero]
  | d + 1, m + 1, x, hz, h0, hm => by
    obtain ⟨s1, s2, s3⟩ := sides_iff.1 hs
    rw [q_spec_l2All_3, decide_eq_true (by omega)]
    simp only [cond_true]
    rw [l_all6 hs m (by omega) Y.toNat N 0 (by omega) (by omega) (by have := N_ge; omega)]
    exact l_all3 hs d m (x + 1) (by omega) (by omega) (by omega)
termination_by d => d
theorem f_l2All {X Y Z : Int} (l : List D_A3) (hs : sides X Y Z = true) : P_spec_l2All ((X, Y, Z, l, ()), ()) = some (allCells X Y Z, ()) := by
  obtain ⟨s1, s2, s3⟩ := sides_iff.1 hs
  have := l_all3 (l := l) hs X.toNat N 0 (by omega) (by omega) (by have := N_ge; omega)
  have e : upto Y Z (idx Y Z (0, 0, 0, ())) = [] := by simp [idx, upto]
  rw [e] at this
  rw [p_spec_l2All]
  exact this
theorem f_l2Box {X Y Z : Int} (hs : sides X Y Z = true) : P_spec_l2Box (X, Y, Z, ()) = some ((X, Y, Z, allCells X Y Z, ()), ()) := by
  rw [p_spec_l2Box, p_spec_l2Empty]
  simp only [Option.bind_some]
  rw [f_l2All [] hs]
  rfl
end Go.VI
namespace Go.VI
open Go.Proofs
def nb (c d : D_A3) : Prop := ∃ k, k < 6 ∧ d = stp k c
inductive Rch (p q : D_A3 → Prop) : D_A3 → Prop
  | base {c : D_A3} : p c → Rch p q c
  | step {c d : D_A3} : Rch p q c → nb c d → q d → Rch p q d
theorem Rch.mono {p p' q q' : D_A3 → Prop} (hp : ∀ c, p c → Rch p' q' c) (hq : ∀ c, q c → q' c) {c : D_A3} (h : Rch p q c) : Rch p' q' c := by
  induction h with
  | base h => exact hp _ h
  | step _ hn hd ih => exact .step ih hn (hq _ hd)
theorem Rch.of {p q r : D_A3 → Prop} (hp : ∀ c, p c → r c) (hq : ∀ c d, r c → nb c d → q d → r d) {c : D_A3} (h : Rch p q c) : r c := by
  induction h with
  | base h => exact hp _ h
  | step _ hn hd ih => exact hq _ _ ih hn hd
def Low (n : Nat) (v : BitVec 64) : Prop := ∀ i, n ≤ i → v.getLsbD i = false
theorem low_ext {n : Nat} {v w : BitVec 64} (hv : Low n v) (hw : Low n w) (h : ∀ i, i < n → v.getLsbD i = w.getLsbD i) : v = w := by
  apply BitVec.eq_of_getLsbD_eq
  intro i _
  by_cases hi : i < n
  · exact h i hi
  · rw [hv i (by omega), hw i (by omega)]
theorem box_ext {X Y Z : Int} (hs : sides X Y Z = true) {v w : BitVec 64} (hv : Low (X * Y * Z).toNat v) (hw : Low (X * Y * Z).toNat w) (h : ∀ c, within3 X Y Z c = true → v.getLsbD (idx Y Z c) = w.getLsbD (idx Y Z c)) : v = w := by
  refine low_ext hv hw fun i hi => ?_
  obtain ⟨h1, h2⟩ := cellOf_ok hs hi
  rw [← h2]
  exact h _ h1
theorem filter_lt {α : Type} (p p' : α → Bool) : ∀ (l : List α), (∀ x ∈ l, p' x = true → p x = true) → (∃ x ∈ l, p x = true ∧ p' x = false) → (l.filter p').length < (l.filter p).length
  | [], _, h => by obtain ⟨x, hx, _⟩ := h; cases hx
  | a :: l, h, hx => by
    have le : ∀ (l : List α), (∀ x ∈ l, p' x = true → p x = true) → (l.filter p').length ≤ (l.filter p).length := by
      intro l
      induction l with
      | nil => intro _; simp
      | cons b l ih =>
        intro h
        have := ih fun x hx => h x (List.mem_cons_of_mem _ hx)
        cases hb' : p' b with
        | false =>
          cases hb : p b <;> simp [List.filter_cons, hb, hb'] <;> omega
        | true =>
          have hb := h b (List.mem_cons_self ..) hb'
          simp [List.filter_cons, hb, hb']; omega
    obtain ⟨x, hx, h1, h2⟩ := hx
    have hl := le l fun x hx => h x (List.mem_cons_of_mem _ hx)
    rcases List.mem_cons.1 hx with rfl | hx
    · simp only [List.filter_cons, h1, h2, if_true, List.length_cons, Bool.false_eq_true, if_false]
      omega
    · have ih := filter_lt p p' l (fun x hx => h x (List.mem_cons_of_mem _ hx)) ⟨x, hx, h1, h2⟩
      cases ha' : p' a with
      | false => cases ha : p a <;> simp [List.filter_cons, ha, ha'] <;> omega
      | true =>
        have ha := h a (List.mem_cons_self ..) ha'
        simp [List.filter_cons, ha, ha']; omega
def FreeC (X Y Z : Int) (l : List D_A3) (d : D_A3) : Prop := within3 X Y Z d = true ∧ d ∉ l
def Outer (X Y Z : Int) (l : List D_A3) (c : D_A3) : Prop := FreeC X Y Z l c ∧ ∃ m, within3 X Y Z m = false ∧ nb m c
def OutP (X Y Z : Int) (l : List D_A3) : D_A3 → Prop := Rch (Outer X Y Z l) (FreeC X Y Z l)
theorem OutP.freeC {X Y Z : Int} {l : List D_A3} {c : D_A3} (h : OutP X Y Z l c) : FreeC X Y Z l c := by
  cases h with
  | base h => exact h.1
  | step _ _ h => exact h
structure Bfs (X Y Z : Int) (l M : List D_A3) (n k : Nat) (ls sn : List D_A3) : Prop where
  srt : Srt sn
  ins : Ins X Y Z sn
  out : ∀ c ∈ sn, OutP X Y Z l c
  mem : ∀ c, c ∈ ls ↔ c ∈ M ∨ c ∈ sn
  done : ∀ i, i < n → ∀ c, ls[i]? = some c → ∀ d, nb c d → FreeC X Y Z l d → d ∈ sn
  part : ∀ c, ls[n]? = some c → ∀ j, j < k → FreeC X Y Z l (stp j c) → stp j c ∈ sn
  len : ls.length = M.length + sn.length
theorem Bfs.next {X Y Z : Int} {l M ls sn : List D_A3} {n : Nat} (h : Bfs X Y Z l M n 6 ls sn) : Bfs X Y Z l M (n + 1) 0 ls sn :=
  ⟨h.srt, h.ins, h.out, h.mem, fun i hi c hc d hd hf => by
    by_cases e : i = n
    · subst e
      obtain ⟨k, hk, rfl⟩ := hd
      exact h.part c hc k hk hf
    · exact h.done i (by omega) c hc d hd hf, fun c _ j hj => by omega, h.len⟩
theorem Bfs.pass {X Y Z : Int} {l M ls sn : List D_A3} {n k : Nat} (h : Bfs X Y Z l M n k ls sn) (hk : ∀ c, ls[n]? = some c → FreeC X Y Z l (stp k c) → stp k c ∈ sn) : Bfs X Y Z l M n (k + 1) ls sn :=
  ⟨h.srt, h.ins, h.out, h.mem, h.done, fun c hc j hj hf => by
    by_cases e : j = k
    · subst e; exact hk c hc hf
    · exact h.part c hc j (by omega) hf, h.len⟩
theorem Bfs.add {X Y Z : Int} {l M ls sn sn' : List D_A3} {n k : Nat} (hM : ∀ m ∈ M, within3 X Y Z m = false) (h : Bfs X Y Z l M n k ls sn) {c : D_A3} (hc : ls[n]? = some c) (hk : k < 6) (hf : FreeC X Y Z l (stp k c)) (hn : stp k c ∉ sn)
    (hs : Srt sn') (hm : ∀ x, x ∈ sn' ↔ x = stp k c ∨ x ∈ sn) : Bfs X Y Z l M n (k + 1) (ls ++ [stp k c]) sn' := by
  have hlt : n < ls.length := (List.getElem?_eq_some_iff.1 hc).1
  have hlen : sn'.length = sn.length + 1 := by
    have hp : sn'.Perm (stp k c :: sn) := by
      refine (List.perm_ext_iff_of_nodup hs.nodup (List.nodup_cons.2 ⟨hn, h.srt.nodup⟩)).2 fun x => ?_
      rw [hm, List.mem_cons]
    simpa using hp.length_eq
  refine ⟨hs, fun x hx => ?_, fun x hx => ?_, fun x => ?_, fun i hi c' hc' d hd hfd => ?_, fun c' hc' j hj hfj => ?_, ?_⟩
  · rcases (hm x).1 hx with rfl | hx
    · exact hf.1
    · exact h.ins x hx
  · rcases (hm x).1 hx with rfl | hx
    · have hcm : c ∈ ls := List.mem_of_getElem? hc
      rcases (h.mem c).1 hcm with hcM | hcs
      · exact .base ⟨hf, c, hM c hcM, k, hk, rfl⟩
      · exact .step (h.out c hcs) ⟨k, hk, rfl⟩ hf
    · exact h.out x hx
  · rw [List.mem_append, List.mem_singleton, h.mem, hm]
    constructor
    · rintro ((h1 | h1) | h1)
      · exact .inl h1
      · exact .inr (.inr h1)
      · exact .inr (.inl h1)
    · rintro (h1 | h1 | h1)
      · exact .inl (.inl h1)
      · exact .inr h1
      · exact .inl (.inr h1)
  · rw [List.getElem?_append_left (by omega)] at hc'
    exact (hm d).2 (.inr (h.done i hi c' hc' d hd hfd))
  · rw [List.getElem?_append_left hlt, hc] at hc'
    obtain rfl := Option.some.inj hc'
    by_cases e : j = k
    · subst e; exact (hm _).2 (.inl rfl)
    · exact (hm _).2 (.inr (h.part c hc j (by omega) hfj))
  · rw [List.length_append, List.length_singleton, h.len, hlen]
    omega
theorem Bfs.all {X Y Z : Int} {l M ls sn : List D_A3} (hM : ∀ m c, within3 X Y Z m = false → within3 X Y Z c = true → nb m c → m ∈ M) (h : Bfs X Y Z l M ls.length 0 ls sn) (c : D_A3) : c ∈ sn ↔ OutP X Y Z l c := by
  have key : ∀ m, m ∈ ls → ∀ d, nb m d → FreeC X Y Z l d → d ∈ sn := by
    intro m hm d hd hf
    obtain ⟨i, hi, e⟩ := List.getElem_of_mem hm
    exact h.done i hi m (by rw [List.getElem?_eq_getElem hi, e]) d hd hf
  refine ⟨h.out c, fun hc => Rch.of (r := fun c => c ∈ sn) (fun c hc => ?_) (fun c d hc hn hf => ?_) hc⟩
  · obtain ⟨hf, m, hm, hn⟩ := hc
    exact key m ((h.mem m).2 (.inl (hM m c hm hf.1 hn))) c hn hf
  · exact key c ((h.mem c).2 (.inr hc)) d hn hf
theorem srt_small64 {X Y Z : Int} (hs : sides X Y Z = true) {l : List D_A3} (hi : Ins X Y Z l) (hr : Srt l) : l.length ≤ 64 := by
  have h1 : l = bitCells X Y Z (mask Y Z l 0) := (listOf_mask hs hi hr).symm
  have h2 := listFrom_length Y Z (mask Y Z l 0) (X * Y * Z).toNat 0
  have h3 := size64 hs
  rw [h1]
  unfold bitCells
  omega
def SetIs (X Y Z : Int) (v : BitVec 64) (g : D_A3 → Bool) : Prop := Low (X * Y * Z).toNat v ∧ ∀ c, within3 X Y Z c = true → v.getLsbD (idx Y Z c) = g c
theorem SetIs.ext {X Y Z : Int} (hs : sides X Y Z = true) {v w : BitVec 64} {g : D_A3 → Bool} (hv : SetIs X Y Z v g) (hw : SetIs X Y Z w g) : v = w :=
  box_ext hs hv.1 hw.1 fun c hc => by rw [hv.2 c hc, hw.2 c hc]
theorem SetIs.cells {X Y Z : Int} (hs : sides X Y Z = true) {v : BitVec 64} {g : D_A3 → Bool} (hv : SetIs X Y Z v g) {l : List D_A3} (hr : Srt l) (hm : ∀ c, c ∈ l ↔ within3 X Y Z c = true ∧ g c = true) : bitCells X Y Z v = l :=
  srt_ext _ _ (srt_listOf hs v) hr fun c => by
    rw [mem_listOf hs, hm]
    constructor
    · rintro ⟨h1, h2⟩; rw [hv.2 c h1] at h2; exact ⟨h1, h2⟩
    · rintro ⟨h1, h2⟩; exact ⟨h1, by rw [hv.2 c h1]; exact h2⟩
theorem SetIs.bits {X Y Z : Int} {v : BitVec 64} {g : D_A3 → Bool} (hv : SetIs X Y Z v g) {q : List D_A3} (hi : Ins X Y Z q) (hg : ∀ c, within3 X Y Z c = true → g c = decide (c ∈ q)) : BitsOf X Y Z v q :=
  ⟨hi, fun c hc => by rw [hv.2 c hc, hg c hc]⟩
end Go.VI
namespace Go.VI
open Go.Proofs
theorem f_size {X Y Z : Int} (hs : sides X Y Z = true) : P_box_size ((X, Y, Z, ()), ()) = some (((X * Y * Z).toNat : Int), ()) := by
  have h := size64 hs
  have s := sides_iff.1 hs
  rw [p_box_size]
  show some (IntKind.wrap .i64 (IntKind.wrap .i64 (X * Y) * Z), ()) = _
  rw [w64 (x := X * Y) (by omega) (by omega), w64 (x := X * Y * Z) (by omega) (by omega)]
  congr 2
  omega
def thoseR (Y Z : Int) (g : D_A3 → Bool) : (d k : Nat) → BitVec 64 → BitVec 64
  | 0, _, v => v
  | d + 1, k, v => thoseR Y Z g d (k + 1) (bif g (cellOf Y Z k) then v ||| BitVec.twoPow 64 k else v)
theorem thoseR_bit (Y Z : Int) (g : D_A3 → Bool) (i : Nat) : ∀ (d k : Nat) (v : BitVec 64), k + d ≤ 64 → (thoseR Y Z g d k v).getLsbD i = (v.getLsbD i || (decide (k ≤ i) && decide (i < k + d) && g (cellOf Y Z i)))
  | 0, k, v, _ => by
    have : (decide (k ≤ i) && decide (i < k + 0)) = false := by
      rw [Bool.and_eq_false_iff, decide_eq_false_iff_not, decide_eq_false_iff_not]; omega
    simp only [thoseR, this, Bool.false_and, Bool.or_false]
  | d + 1, k, v, h => by
    rw [thoseR, thoseR_bit Y Z g i d (k + 1) _ (by omega)]
    by_cases e : i = k
    · subst e
      have h1 : decide (i + 1 ≤ i) = false := decide_eq_false (by omega)
      have h2 : decide (i < i + (d + 1)) = true := decide_eq_true (by omega)
      rw [h1, h2]
      cases g (cellOf Y Z i) with
      | false => simp
      | true =>
        simp only [cond_true, BitVec.getLsbD_or, BitVec.getLsbD_twoPow]
        have : decide (i < 64) = true := decide_eq_true (by omega)
        simp [this]
    · have h1 : decide (k + 1 ≤ i) = decide (k ≤ i) := by rw [Bool.eq_iff_iff, decide_eq_true_eq, decide_eq_true_eq]; omega
      have h2 : decide (i < k + 1 + d) = decide (i < k + (d + 1)) := by rw [Bool.eq_iff_iff, decide_eq_true_eq, decide_eq_true_eq]; omega
      rw [h1, h2]
      congr 1
      cases g (cellOf Y Z k) with
      | false => rfl
      | true =>
        simp only [cond_true, BitVec.getLsbD_or, BitVec.getLsbD_twoPow]
        have : decide (k = i) = false := decide_eq_false (fun h => e h.symm)
        simp [this]
theorem l_those {X Y Z : Int} (hs : sides X Y Z = true) {g : D_A3 → Bool} {F : D_A3 × Unit → Option (Bool × Unit)} (hF : ∀ c, within3 X Y Z c = true → F (c, ()) = some (g c, ())) : ∀ (d k m : Nat) (v : BitVec 64), k + d = (X * Y * Z).toNat → d < m →
    l_box_those_3 m X Y Z F (v.toNat : Int) (((X * Y * Z).toNat : Nat) : Int) (k : Int) = some (((thoseR Y Z g d k v).toNat : Int), ())
  | d, k, 0, v, _, h => by omega
  | d, k, m + 1, v, hk, hm => by
    have h64 := size64 hs
    rw [q_box_those_3]
    cases d with
    | zero =>
      rw [ltF (by omega)]
      rfl
    | succ d =>
      obtain ⟨h1, h2⟩ := cellOf_ok hs (i := k) (by omega)
      rw [ltT (by omega), f_box_cell hs (by omega)]
      simp only [cond_true, Option.bind_some]
      rw [hF _ h1, succI k (by omega), decide_eq_true (p := (0 : Int) ≤ (k : Int)) (by omega), shl64, or64]
      simp only [cond_true, Option.bind_some]
      rw [thoseR]
      cases g (cellOf Y Z k) with
      | false => exact l_those hs hF d (k + 1) m _ (by omega) (by omega)
      | true => exact l_those hs hF d (k + 1) m _ (by omega) (by omega)
theorem f_those {X Y Z : Int} (hs : sides X Y Z = true) {g : D_A3 → Bool} {F : D_A3 × Unit → Option (Bool × Unit)} (hF : ∀ c, within3 X Y Z c = true → F (c, ()) = some (g c, ())) : ∃ v : BitVec 64, P_box_those ((X, Y, Z, ()), F, ()) = some ((v.toNat : Int), ()) ∧ SetIs X Y Z v g := by
  have h64 := size64 hs
  refine ⟨thoseR Y Z g (X * Y * Z).toNat 0 0, ?_, fun i hi => ?_, fun c hc => ?_⟩
  · rw [p_box_those, f_size hs]
    exact l_those hs hF (X * Y * Z).toNat 0 N 0 (by omega) (by have := N_ge; omega)
  · rw [thoseR_bit Y Z g i _ 0 0 (by omega)]
    have : decide (i < 0 + (X * Y * Z).toNat) = false := decide_eq_false (by omega)
    rw [this, Bool.and_false, Bool.false_and, Bool.or_false]
    simp
  · rw [thoseR_bit Y Z g _ _ 0 0 (by omega), cellOf_idx hs hc]
    have : decide (idx Y Z c < 0 + (X * Y * Z).toNat) = true := decide_eq_true (by have := (idx_eq hs hc).2.1; omega)
    rw [this, decide_eq_true (Nat.zero_le _)]
    simp
end Go.VI
namespace Go.VI
open Go.Proofs
theorem dir {d : Int} (h0 : 0 ≤ d) (h1 : d ≤ 2) : d = 0 ∨ d = 1 ∨ d = 2 := by omega
theorem inB_dir {d : Int} (h0 : 0 ≤ d) (h1 : d ≤ 2) : inB d 3 = true := by
  rcases dir h0 h1 with rfl | rfl | rfl <;> decide
def side3 (X Y Z d : Int) : Int := bif decide (d = 0) then X else (bif decide (d = 1) then Y else Z)
theorem side3_ok {X Y Z : Int} (hs : sides X Y Z = true) (d : Int) : 1 ≤ side3 X Y Z d ∧ side3 X Y Z d ≤ 4 := by
  obtain ⟨s1, s2, s3⟩ := sides_iff.1 hs
  unfold side3
  cases decide (d = 0) <;> cases decide (d = 1) <;> simp <;> omega
theorem f_l2Long {X Y Z : Int} (l : List D_A3) {d : Int} (d0 : 0 ≤ d) (d1 : d ≤ 2) : P_spec_l2Long ((X, Y, Z, l, ()), d, ()) = some (side3 X Y Z d, ()) := by
  rw [p_spec_l2Long, inB_dir d0 d1]; rfl
end Go.VI
namespace Go.VI
open Go.Proofs
end Go.VI
namespace Go.VI
open Go.Proofs
theorem mid_len {l : List D_A3} (h : l.length ≤ 3000000) (n : Nat) (hn : n ≤ 3000000) : (decide ((l.length + n) * 24 ≤ 140737488355328) && decide (l.length + n ≤ 140737488355328)) = true := by
  rw [decide_eq_true (by omega), decide_eq_true (by omega)]; rfl
theorem cut_lo {l : List D_A3} (k : Nat) : cut l 0 (k : Int) = l.take k := by simp [cut]
theorem cut_hi {l : List D_A3} (k : Nat) : cut l (k : Int) (l.length : Int) = l.drop k := by simp [cut]
theorem f_l2Own {X Y Z : Int} {l : List D_A3} (hl : l.length ≤ 3000000) : P_spec_l2Own ((X, Y, Z, l, ()), ()) = some ((X, Y, Z, l, ()), ()) := by
  rw [p_spec_l2Own]
  simp only [List.length_nil, List.nil_append, p_spec_l2Made, Option.bind_some]
  rw [decide_eq_true (by omega), decide_eq_true (by omega)]
  rfl
theorem srt_insert {l : List D_A3} (hr : Srt l) (c : D_A3) (k : Nat) (h1 : ∀ x ∈ l.take k, ltC x c = true) (h2 : ∀ x ∈ l.drop k, ltC c x = true) : Srt (l.take k ++ [c] ++ l.drop k) := by
  unfold Srt
  rw [List.append_assoc, List.pairwise_append]
  have ht : Srt (l.take k) := List.Pairwise.sublist (List.take_sublist k l) hr
  have hd : Srt (l.drop k) := List.Pairwise.sublist (List.drop_sublist k l) hr
  refine ⟨ht, List.pairwise_cons.2 ⟨h2, hd⟩, fun a ha b hb => ?_⟩
  rcases List.mem_cons.1 hb with rfl | hb'
  · exact h1 a ha
  · exact ltC_trans (h1 a ha) (h2 b hb')
theorem mem_insert {l : List D_A3} (c x : D_A3) (k : Nat) : x ∈ l.take k ++ [c] ++ l.drop k ↔ x = c ∨ x ∈ l := by
  have : x ∈ l ↔ x ∈ l.take k ∨ x ∈ l.drop k := by rw [← List.mem_append, List.take_append_drop]
  rw [this]
  simp only [List.mem_append, List.mem_singleton]
  constructor
  · rintro ((h | h) | h)
    · exact .inr (.inl h)
    · exact .inl h
    · exact .inr (.inr h)
  · rintro (h | h | h)
    · exact .inl (.inr h)
    · exact .inl (.inl h)
    · exact .inr h
theorem l_with {X Y Z : Int} {l : List D_A3} (hr : Srt l) (c : D_A3) (hl : l.length ≤ 2500000) : ∀ (n k m : Nat), l.length = k + n → n < m → (∀ x ∈ l.take k, ltC x c = true) →
    ∃ l', l_spec_l2With_2 m X Y Z l c.1 c.2.1 c.2.2.1 0 0 0 [] (k : Int) = some ((X, Y, Z, l', ()), ()) ∧ Srt l' ∧ (∀ x, x ∈ l' ↔ x = c ∨ x ∈ l) ∧ l'.length ≤ l.length + 1
  | n, k, 0, hk, hm, _ => by omega
  | n, k, m + 1, hk, hm, hlow => by
    have g1 : (decide (((List.length ([] : List D_A3)) + (List.length (l.take k))) * 24 ≤ 140737488355328) && decide (((List.length ([] : List D_A3)) + (List.length (l.take k))) ≤ 140737488355328)) = true := by
      rw [List.length_take, List.length_nil, decide_eq_true (by omega), decide_eq_true (by omega)]; rfl
    have g2 : (decide (((List.length (([] : List D_A3) ++ (l.take k))) + (List.length ([c] : List D_A3))) * 24 ≤ 140737488355328) && decide (((List.length (([] : List D_A3) ++ (l.take k))) + (List.length ([c] : List D_A3))) ≤ 140737488355328)) = true := by
      rw [List.nil_append, List.length_take, List.length_singleton, decide_eq_true (by omega), decide_eq_true (by omega)]; rfl
    have g3 : (decide (((List.length ((([] : List D_A3) ++ (l.take k)) ++ ([c] : List D_A3))) + (List.length (l.drop k))) * 24 ≤ 140737488355328) && decide (((List.length ((([] : List D_A3) ++ (l.take k)) ++ ([c] : List D_A3))) + (List.length (l.drop k))) ≤ 140737488355328)) = true := by
      rw [List.nil_append, List.length_append, List.length_take, List.length_singleton, List.length_drop, decide_eq_true (by omega), decide_eq_true (by omega)]; rfl
    have g4 : (decide ((0 : Int) ≤ 0) && decide ((0 : Int) ≤ (k : Int)) && decide ((k : Int) ≤ (List.length l : Int))) = true := by
      rw [decide_eq_true (by omega), decide_eq_true (by omega), decide_eq_true (by omega)]; rfl
    have g5 : (decide ((0 : Int) ≤ (k : Int)) && decide ((k : Int) ≤ (List.length l : Int)) && decide ((List.length l : Int) ≤ (List.length l : Int))) = true := by
      rw [decide_eq_true (by omega), decide_eq_true (by omega), decide_eq_true (by omega)]; rfl
    have hlen : (l.take k ++ [c] ++ l.drop k).length ≤ l.length + 1 := by
      rw [List.length_append, List.length_append, List.length_take, List.length_drop, List.length_singleton]; omega
    have ec : ((c.1, (c.2.1, (c.2.2.1, ()))) : D_A3) = c := rfl
    rw [q_spec_l2With_2]
    by_cases hlt : k < l.length
    · rw [ltT hlt, inB_at hlt, nthA (t := T_A3) hlt, f_spec_l2Before, ec, cut_lo, cut_hi, g1, g2, g3, g4, g5, succI k (by omega)]
      simp only [cond_true, Option.bind_some, Bool.and_true]
      cases hb : ltC l[k] c with
      | true =>
        refine l_with hr c hl (n - 1) (k + 1) m (by omega) (by omega) ?_
        intro x hx
        rw [List.take_add_one, List.getElem?_eq_getElem hlt] at hx
        rcases List.mem_append.1 hx with h | h
        · exact hlow x h
        · have : x = l[k] := by simpa using h
          rw [this]; exact hb
      | false =>
        simp only [cond_false]
        by_cases he : l[k] = c
        · have hq : (decide ((l[k]).1 = c.1) && (decide ((l[k]).2.1 = c.2.1) && decide ((l[k]).2.2.1 = c.2.2.1))) = true := by rw [he]; simp
          rw [hq, f_l2Own (by omega)]
          refine ⟨l, rfl, hr, fun x => ?_, by omega⟩
          constructor
          · exact .inr
          · rintro (rfl | h)
            · rw [← he]; exact List.getElem_mem hlt
            · exact h
        · have hq : (decide ((l[k]).1 = c.1) && (decide ((l[k]).2.1 = c.2.1) && decide ((l[k]).2.2.1 = c.2.2.1))) = false := by
            rw [Bool.eq_false_iff]
            intro h
            simp only [Bool.and_eq_true, decide_eq_true_eq] at h
            exact he (cell_ext h.1 h.2.1 h.2.2)
          rw [hq, p_spec_l2Made]
          have hck : ltC c l[k] = true := by
            cases h : ltC c l[k] with
            | true => rfl
            | false => exact absurd (ltC_total hb h) he
          refine ⟨l.take k ++ [c] ++ l.drop k, rfl, srt_insert hr c k hlow ?_, fun x => mem_insert c x k, hlen⟩
          intro x hx
          rw [drop_at l k hlt] at hx
          rcases List.mem_cons.1 hx with rfl | h
          · exact hck
          · have hd : Srt (l.drop k) := List.Pairwise.sublist (List.drop_sublist k l) hr
            rw [drop_at l k hlt] at hd
            exact ltC_trans hck ((List.pairwise_cons.1 hd).1 x h)
    · rw [ltF hlt, ec, cut_lo, cut_hi, g1, g2, g3, g4, g5, p_spec_l2Made]
      refine ⟨l.take k ++ [c] ++ l.drop k, rfl, srt_insert hr c k hlow ?_, fun x => mem_insert c x k, hlen⟩
      intro x hx
      rw [List.drop_eq_nil_of_le (by omega)] at hx
      cases hx
theorem f_l2With {X Y Z : Int} {l : List D_A3} (hr : Srt l) (c : D_A3) (hl : l.length ≤ 2500000) : ∃ l', P_spec_l2With ((X, Y, Z, l, ()), c, ()) = some ((X, Y, Z, l', ()), ()) ∧ Srt l' ∧ (∀ x, x ∈ l' ↔ x = c ∨ x ∈ l) ∧ l'.length ≤ l.length + 1 := by
  obtain ⟨l', h, r⟩ := l_with (X := X) (Y := Y) (Z := Z) hr c hl l.length 0 N (by simp) (by have := N_ge; omega) (by simp)
  exact ⟨l', by rw [p_spec_l2With]; exact h, r⟩
end Go.VI
namespace Go.VI
open Go.Proofs
theorem app_len' {α : Type} {l : List α} {x : α} (h : l.length ≤ 100000000) : (decide ((l.length + ([x] : List α).length) * 24 ≤ 140737488355328) && decide (l.length + ([x] : List α).length ≤ 140737488355328)) = true := by
  rw [Bool.and_eq_true, decide_eq_true_eq, decide_eq_true_eq]
  simp only [List.length_singleton]
  omega
theorem l_other {X Y Z X' Y' Z' : Int} {l al : List D_A3} (hl : Small l) (hal : Small al) : ∀ (d i m : Nat) (out : List D_A3), al.length = i + d → d < m → out.length ≤ i →
    l_spec_OtherCells_5 m X Y Z l 0 0 0 [] X' Y' Z' out al (i : Int) = some ((X', Y', Z', out ++ (al.drop i).filter (fun x => !decide (x ∈ l)), ()), true, ())
  | d, i, 0, out, _, h, _ => by omega
  | d, i, m + 1, out, hk, hm, ho => by
    have hal' := hal
    unfold Small at hal'
    rw [q_spec_OtherCells_5]
    by_cases hlt : i < al.length
    · rw [ltT hlt, inB_at hlt, nthA (t := T_A3) hlt, f_l2Has X Y Z l _ hl, app_len' (by omega), drop_at al i hlt, succI i (by omega)]
      simp only [cond_true, Option.bind_some, List.filter_cons]
      by_cases e : al[i] ∈ l
      · rw [decide_eq_true e]
        simp only [Bool.not_true, cond_false, Bool.false_eq_true, if_false]
        exact l_other hl hal (d - 1) (i + 1) m out (by omega) (by omega) (by omega)
      · rw [decide_eq_false e]
        simp only [Bool.not_false, cond_true, if_true]
        rw [l_other hl hal (d - 1) (i + 1) m _ (by omega) (by omega) (by simp; omega)]
        simp
    · rw [ltF hlt, List.drop_eq_nil_of_le (by omega)]
      simp
end Go.VI
namespace Go.VI
open Go.Proofs
def lineI (Y : Int) (c : D_A3) : Int := c.1 * Y + c.2.1
theorem line_ok {X Y Z : Int} (hs : sides X Y Z = true) {c : D_A3} (hc : within3 X Y Z c = true) : 0 ≤ lineI Y c ∧ lineI Y c < X * Y ∧ 0 ≤ c.1 * Y ∧ c.1 * Y ≤ 16 := by
  have s := sides_iff.1 hs
  have w := within3_iff.1 hc
  unfold lineI
  rcases four s.1.1 s.1.2 with rfl | rfl | rfl | rfl <;> rcases four s.2.1.1 s.2.1.2 with rfl | rfl | rfl | rfl <;> omega
def upL (Y : Int) (acc : List Int) (c : D_A3) : List Int := List.set acc (Int.toNat (lineI Y c)) (IntKind.wrap .i64 ((nth ((.int .i64) : Ty) acc (lineI Y c)) + 1))
theorem inB_line {X Y Z : Int} (hs : sides X Y Z = true) {c : D_A3} (hc : within3 X Y Z c = true) {acc : List Int} (ha : acc.length = (X * Y).toNat) : inB (lineI Y c) acc.length = true := by
  obtain ⟨h1, h2, h3, h4⟩ := line_ok hs hc
  unfold inB
  rw [Bool.and_eq_true, decide_eq_true_eq, decide_eq_true_eq]
  omega
theorem upL_len {Y : Int} {acc : List Int} {c : D_A3} : (upL Y acc c).length = acc.length := by simp [upL]
theorem l_viewS {X Y Z : Int} (hs : sides X Y Z = true) {l : List D_A3} (hl : Small l) (hi : Ins X Y Z l) : ∀ (d i m : Nat) (acc : List Int), l.length = i + d → d < m → acc.length = (X * Y).toNat →
    l_spec_l2View_4 m X Y Z l 0 1 acc (i : Int) = some ((l.drop i).foldl (upL Y) acc, ())
  | d, i, 0, acc, _, h, _ => by omega
  | d, i, m + 1, acc, hk, hm, ha => by
    have hl' := hl
    unfold Small at hl'
    rw [q_spec_l2View_4]
    by_cases hlt : i < l.length
    · have hc := hi _ (List.getElem_mem hlt)
      obtain ⟨h1, h2, h3, h4⟩ := line_ok hs hc
      have h5 := size64 hs
      have w := within3_iff.1 hc
      have s := sides_iff.1 hs
      rw [ltT hlt, inB_at hlt, nthA (t := T_A3) hlt, f_l2Long l (show (0 : Int) ≤ 1 by decide) (by decide), drop_at l i hlt, succI i (by omega)]
      have e : IntKind.wrap .i64 (IntKind.wrap .i64 ((bif decide ((0 : Int) = (0 : Int)) then l[i].1 else (bif decide ((0 : Int) = (1 : Int)) then l[i].2.1 else l[i].2.2.1)) * side3 X Y Z 1) + (bif decide ((1 : Int) = (0 : Int)) then l[i].1 else (bif decide ((1 : Int) = (1 : Int)) then l[i].2.1 else l[i].2.2.1))) = lineI Y l[i] := by
        show IntKind.wrap .i64 (IntKind.wrap .i64 (l[i].1 * Y) + l[i].2.1) = _
        unfold lineI at *
        rw [w64 (x := l[i].1 * Y) (by omega) (by omega), w64 (by omega) (by omega)]
      simp only [cond_true, Option.bind_some, show inB (0 : Int) 3 = true from rfl, show inB (1 : Int) 3 = true from rfl] at e ⊢
      rw [e, inB_line hs hc ha]
      simp only [cond_true, List.foldl_cons]
      exact l_viewS hs hl hi (d - 1) (i + 1) m (upL Y acc l[i]) (by omega) (by omega) (by rw [upL_len, ha])
    · rw [ltF hlt, List.drop_eq_nil_of_le (by omega)]
      rfl
def cols (X Y : Int) (l : List D_A3) : List Int := l.foldl (upL Y) (List.replicate (X * Y).toNat 0)
theorem foldl_upL_len (Y : Int) : ∀ (l : List D_A3) (acc : List Int), (l.foldl (upL Y) acc).length = acc.length
  | [], _ => rfl
  | c :: l, acc => by rw [List.foldl_cons, foldl_upL_len Y l, upL_len]
theorem cols_len (X Y : Int) (l : List D_A3) : (cols X Y l).length = (X * Y).toNat := by
  unfold cols
  rw [foldl_upL_len, List.length_replicate]
theorem guardN {n : Int} (h0 : 0 ≤ n) (h1 : n ≤ 1000) : (decide ((0 : Int) ≤ n) && decide (n ≤ n) && decide (n * ((8 : Nat) : Int) ≤ 140737488355328) && decide (n ≤ 140737488355328)) = true := by
  rw [decide_eq_true h0, decide_eq_true (Int.le_refl n), decide_eq_true (p := n * ((8 : Nat) : Int) ≤ 140737488355328) (by omega), decide_eq_true (p := n ≤ 140737488355328) (by omega)]
  rfl
theorem f_viewS {X Y Z : Int} (hs : sides X Y Z = true) {l : List D_A3} (hl : Small l) (hi : Ins X Y Z l) : P_spec_l2View ((X, Y, Z, l, ()), 2, ()) = some (cols X Y l, ()) := by
  have h5 := size64 hs
  rw [p_spec_l2View, p_spec_l2Others]
  simp only [show decide ((2 : Int) = 0) = false from rfl, show decide ((2 : Int) = 1) = false from rfl, cond_false, Option.bind_some]
  rw [f_l2Long l (show (0 : Int) ≤ 0 by decide) (by decide), f_l2Long l (show (0 : Int) ≤ 1 by decide) (by decide)]
  simp only [Option.bind_some]
  have e : IntKind.wrap .i64 (side3 X Y Z 0 * side3 X Y Z 1) = X * Y := by
    show IntKind.wrap .i64 (X * Y) = _
    rw [w64 (by omega) (by omega)]
  rw [e, guardN (by omega) (by omega)]
  exact l_viewS hs hl hi l.length 0 N (List.replicate (X * Y).toNat 0) (by simp) (by unfold Small at hl; have := N_ge; omega) (by simp)
def lowC (Y : Int) (V : List Int) (c : D_A3) : Bool := decide (c.2.2.1 < nth ((.int .i64) : Ty) V (lineI Y c))
theorem l_stackS {X Y Z X' Y' Z' : Int} (hs : sides X Y Z = true) {V : List Int} (hV : V.length = (X * Y).toNat) {al : List D_A3} (hal : Small al) (hin : Ins X Y Z al) : ∀ (d i m : Nat) (out : List D_A3), al.length = i + d → d < m → out.length ≤ i →
    l_spec_l2Stack_4 m 0 0 0 [] X' Y' Z' out Y V al (i : Int) = some ((X', Y', Z', out ++ (al.drop i).filter (lowC Y V), ()), ())
  | d, i, 0, out, _, h, _ => by omega
  | d, i, m + 1, out, hk, hm, ho => by
    have hal' := hal
    unfold Small at hal'
    rw [q_spec_l2Stack_4]
    by_cases hlt : i < al.length
    · have hc := hin _ (List.getElem_mem hlt)
      obtain ⟨h1, h2, h3, h4⟩ := line_ok hs hc
      have h5 := size64 hs
      have w := within3_iff.1 hc
      have s := sides_iff.1 hs
      have e : IntKind.wrap .i64 (IntKind.wrap .i64 (al[i].1 * Y) + al[i].2.1) = lineI Y al[i] := by
        unfold lineI at *
        rw [w64 (x := al[i].1 * Y) (by omega) (by omega), w64 (by omega) (by omega)]
      rw [ltT hlt, inB_at hlt, nthA (t := T_A3) hlt, e, inB_line hs hc hV, app_len' (by omega), drop_at al i hlt, succI i (by omega)]
      simp only [cond_true, List.filter_cons]
      cases hlow : decide (al[i].2.2.1 < nth ((.int .i64) : Ty) V (lineI Y al[i])) with
      | false =>
        have hl2 : lowC Y V al[i] = false := hlow
        rw [hl2]
        simp only [cond_false, Bool.false_eq_true, if_false]
        exact l_stackS hs hV hal hin (d - 1) (i + 1) m out (by omega) (by omega) (by omega)
      | true =>
        have hl2 : lowC Y V al[i] = true := hlow
        rw [hl2]
        simp only [cond_true, if_true]
        rw [l_stackS hs hV hal hin (d - 1) (i + 1) m _ (by omega) (by omega) (by simp; omega)]
        simp
    · rw [ltF hlt, List.drop_eq_nil_of_le (by omega)]
      simp
end Go.VI
namespace Go.VI
open Go.Proofs
def Bts (C : List Int) : Prop := C.length ≤ 1000000 ∧ ∀ b ∈ C, 0 ≤ b ∧ b ≤ 255
abbrev Sd : Type := Int × Int × Unit
def At (n : Nat) (s : Sd) : Prop := 0 ≤ s.1 ∧ s.1 + n ≤ 1000000000
theorem At.le {n m : Nat} {s : Sd} (h : At n s) (hm : m ≤ n) : At m s := ⟨h.1, by have := h.2; omega⟩
theorem and255 (a : Int) : 0 ≤ intBits .and .u64 a 255 ∧ intBits .and .u64 a 255 ≤ 255 := by
  have h : ((BitVec.ofInt 64 a) &&& (BitVec.ofInt 64 255)).toNat ≤ 255 := by
    rw [BitVec.toNat_and]
    exact Nat.le_trans Nat.and_le_right (by decide)
  have e : intBits .and .u64 a 255 = (((BitVec.ofInt 64 a) &&& (BitVec.ofInt 64 255)).toNat : Int) := by
    simp only [intBits]
    rw [show IntKind.bits .u64 = 64 from rfl, wu64]
    omega
  rw [e]
  omega
theorem nth_byte {C : List Int} (hC : Bts C) {i : Int} (h0 : 0 ≤ i) (h1 : i < C.length) : 0 ≤ nth ((.int .u8) : Ty) C i ∧ nth ((.int .u8) : Ty) C i ≤ 255 := by
  have hlt : i.toNat < C.length := by omega
  have e : nth ((.int .u8) : Ty) C i = C[i.toNat] := by simp [nth, List.getD, List.getElem?_eq_getElem hlt]
  rw [e]
  exact hC.2 _ (List.getElem_mem hlt)
theorem f_next {C : List Int} (hC : Bts C) {n : Nat} {s : Sd} (h : At (n + 1) s) : ∃ (x : Int) (s' : Sd), P_l1Cur_next ((C, s), ()) = some ((x, ()), ((C, s'), ())) ∧ At n s' ∧ 0 ≤ x ∧ x ≤ 255 := by
  obtain ⟨a, sd, ⟨⟩⟩ := s
  obtain ⟨h0, h1⟩ := h
  simp only at h0 h1
  rw [p_l1Cur_next]
  simp only
  rw [w64 (x := a + 1) (by omega) (by omega)]
  have hat : ∀ z : Int, At n (a + 1, z, ()) := fun z => ⟨by simp only; omega, by simp only; omega⟩
  by_cases c : a < (C.length : Int)
  · obtain ⟨b0, b1⟩ := nth_byte hC h0 c
    rw [decide_eq_true c, show inB a C.length = true by simp [inB]; omega, decide_eq_true (p := a + 1 ≤ (C.length : Int)) (by omega), w64 (x := nth ((.int .u8) : Ty) C a) (Int.le_trans (by decide) b0) (Int.le_trans b1 (by decide))]
    exact ⟨_, _, rfl, hat _, b0, b1⟩
  · rw [decide_eq_false c, decide_eq_false (p := a + 1 ≤ (C.length : Int)) (by omega)]
    simp only [cond_false]
    generalize hz : intBits .and .u64 _ 255 = z
    have hb : 0 ≤ z ∧ z ≤ 255 := by rw [← hz]; exact and255 _
    rw [w64 (x := z) (by omega) (by omega)]
    exact ⟨_, _, rfl, hat _, hb.1, hb.2⟩
theorem f_pick {C : List Int} (hC : Bts C) {n : Nat} {s : Sd} (h : At (n + 2) s) (k : Int) : ∃ (x : Int) (s' : Sd), P_l1Cur_pick ((C, s), k, ()) = some ((x, ()), ((C, s'), ())) ∧ At n s' ∧ 0 ≤ x ∧ (x < k ∨ (k ≤ 1 ∧ x = 0)) := by
  rw [p_l1Cur_pick]
  by_cases c : k ≤ 1
  · rw [decide_eq_true c]
    exact ⟨_, _, rfl, h.le (by omega), Int.le_refl _, .inr ⟨c, rfl⟩⟩
  · obtain ⟨x, s1, e1, a1, b1, b2⟩ := f_next hC h
    rw [decide_eq_false c, e1]
    simp only [cond_false, Option.bind_some]
    by_cases d : k > 200
    · obtain ⟨y, s2, e2, a2, c1, c2⟩ := f_next hC a1
      rw [decide_eq_true d, e2]
      simp only [cond_true, Option.bind_some]
      rw [decide_eq_false (p := k = 0) (by omega), w64 (x := x * 256) (by omega) (by omega), w64 (x := x * 256 + y) (by omega) (by omega)]
      exact ⟨_, _, rfl, a2, Int.tmod_nonneg _ (by omega), .inl (Int.tmod_lt_of_pos _ (by omega))⟩
    · rw [decide_eq_false d, decide_eq_false (p := k = 0) (by omega)]
      exact ⟨_, _, rfl, a1.le (by omega), Int.tmod_nonneg _ (by omega), .inl (Int.tmod_lt_of_pos _ (by omega))⟩
theorem f_one {C : List Int} (hC : Bts C) {n : Nat} {s : Sd} (h : At (n + 2) s) (k : Int) : ∃ (b : Bool) (s' : Sd), P_l1Cur_one ((C, s), k, ()) = some ((b, ()), ((C, s'), ())) ∧ At n s' := by
  obtain ⟨x, s1, e1, a1, _, _⟩ := f_pick hC h k
  rw [p_l1Cur_one, e1]
  exact ⟨_, _, rfl, a1⟩
theorem f_among {C : List Int} (hC : Bts C) {n : Nat} {s : Sd} (h : At (n + 2) s) (l : List Int) (hl : 0 < l.length) : ∃ (x : Int) (s' : Sd), P_l1Cur_among ((C, s), l, ()) = some ((x, ()), ((C, s'), ())) ∧ At n s' ∧ x ∈ l := by
  obtain ⟨x, s1, e1, a1, b1, b2⟩ := f_pick hC h (l.length : Int)
  rw [p_l1Cur_among, e1]
  simp only [Option.bind_some]
  have hx : x < (l.length : Int) := by omega
  rw [show inB x l.length = true by simp [inB]; omega]
  have hlt : x.toNat < l.length := by omega
  have e : nth ((.int .i64) : Ty) l x = l[x.toNat] := by simp [nth, List.getD, List.getElem?_eq_getElem hlt]
  rw [e]
  exact ⟨_, _, rfl, a1, List.getElem_mem hlt⟩
theorem f_sides {C : List Int} (hC : Bts C) {n : Nat} {s : Sd} (h : At (n + 10) s) : ∃ (x y z : Int) (s' : Sd), P_l1Cur_sides ((C, s), ()) = some ((x, y, z, ()), ((C, s'), ())) ∧ At n s' := by
  obtain ⟨x, s1, e1, a1, _⟩ := f_among hC (n := n + 8) h [2, 3, 3, 1, 4] (by decide)
  obtain ⟨y, s2, e2, a2, _⟩ := f_among hC (n := n + 6) a1 [2, 3, 2, 1, 4] (by decide)
  obtain ⟨z, s3, e3, a3, _⟩ := f_among hC (n := n + 4) a2 [2, 3, 3, 1, 4] (by decide)
  obtain ⟨p, s4, e4, a4, _⟩ := f_pick hC (n := n + 2) a3 60
  obtain ⟨x', s5, e5, a5, _⟩ := f_among hC (n := n) a4 [0, 5, (-1), 4611686018427387904] (by decide)
  obtain ⟨y', s6, e6, a6, _⟩ := f_among hC (n := n) a4 [0, 5, (-1)] (by decide)
  rw [p_l1Cur_sides, e1]
  simp only [Option.bind_some]
  rw [e2]
  simp only [Option.bind_some]
  rw [e3]
  simp only [Option.bind_some]
  rw [e4]
  simp only [Option.bind_some]
  rw [e5, e6]
  simp only [Option.bind_some]
  by_cases c0 : p = 0
  · rw [decide_eq_true c0]; exact ⟨_, _, _, _, rfl, a5⟩
  · rw [decide_eq_false c0]
    by_cases c1 : p = 1
    · rw [decide_eq_true c1]; exact ⟨_, _, _, _, rfl, a6⟩
    · rw [decide_eq_false c1]
      by_cases c2 : p = 2
      · rw [decide_eq_true c2]; exact ⟨_, _, _, _, rfl, a6⟩
      · rw [decide_eq_false c2]; exact ⟨_, _, _, _, rfl, a4.le (by omega)⟩
theorem other_len (h : D_Heap) (hl : Small h.2.2.2.1) : ∃ r, P_spec_OtherCells (h, ()) = some r ∧ r.1.2.2.2.1.length ≤ 64 := by
  rw [p_spec_OtherCells, f_spec_l2Heap _ hl]
  cases ho : okHeap h with
  | false => exact ⟨_, rfl, by simp⟩
  | true =>
    obtain ⟨hs, hi, hr⟩ := okHeap_iff.1 ho
    obtain ⟨a1, a2, a3⟩ := allCells_ok hs
    have f0 : P_spec_l2All (h, ()) = _ := f_l2All h.2.2.2.1 hs
    simp only [Option.bind_some, Bool.not_true, cond_false]
    rw [p_spec_l2Empty, f0]
    simp only [Option.bind_some]
    have e := l_other (X := h.1) (Y := h.2.1) (Z := h.2.2.1) (X' := h.1) (Y' := h.2.1) (Z' := h.2.2.1) hl a1 (allCells h.1 h.2.1 h.2.2.1).length 0 N [] (by simp) (by unfold Small at a1; have := N_ge; omega) (by simp)
    have e' : l_spec_OtherCells_5 N h.1 h.2.1 h.2.2.1 h.2.2.2.1 0 0 0 [] h.1 h.2.1 h.2.2.1 [] (allCells h.1 h.2.1 h.2.2.1) 0 = _ := e
    rw [e']
    exact ⟨_, rfl, show ((allCells h.1 h.2.1 h.2.2.1).filter fun x => !decide (x ∈ h.2.2.2.1)).length ≤ 64 from Nat.le_trans (List.length_filter_le _ _) (srt_small64 hs a2 a3)⟩
theorem stack_len {X Y Z : Int} (hs : sides X Y Z = true) {V : List Int} (hV : V.length = (X * Y).toNat) : ∃ r, P_spec_l2Stack (X, Y, Z, V, ()) = some r ∧ r.1.2.2.2.1.length ≤ 64 := by
  obtain ⟨a1, a2, a3⟩ := allCells_ok hs
  rw [p_spec_l2Stack, p_spec_l2Empty]
  simp only [Option.bind_some]
  rw [f_l2All [] hs]
  simp only [Option.bind_some]
  have e := l_stackS (X' := X) (Y' := Y) (Z' := Z) hs hV a1 a2 (allCells X Y Z).length 0 N [] (by simp) (by unfold Small at a1; have := N_ge; omega) (by simp)
  have e' : l_spec_l2Stack_4 N 0 0 0 [] X Y Z [] Y V (allCells X Y Z) 0 = _ := e
  rw [e']
  exact ⟨_, rfl, show ((allCells X Y Z).filter (lowC Y V)).length ≤ 64 from Nat.le_trans (List.length_filter_le _ _) (srt_small64 hs a2 a3)⟩
theorem l_some {C : List Int} (hC : Bts C) {X Y Z : Int} (hs : sides X Y Z = true) {al : List D_A3} (hal : al.length ≤ 64) (hin : Ins X Y Z al) (q0 q1 q2 : Int) (q3 : List D_A3) (odds : Int) : ∀ (d i m n : Nat) (s : Sd) (out : List D_A3), al.length = i + d → d < m → out.length ≤ i → Ins X Y Z out → At (n + 2 * d + 2) s →
    ∃ (g : D_Heap) (s' : Sd), l_l1Cur_someHeap_6 m q0 q1 q2 q3 X Y Z out C s.1 s.2.1 X Y Z odds al (i : Int) = some ((g, ()), ((C, s'), ())) ∧ At n s' ∧ g.2.2.2.1.length ≤ 64
  | d, i, 0, n, s, out, _, h, _, _, _ => by omega
  | d, i, m + 1, n, s, out, hk, hm, ho, hio, ha => by
    rw [q_l1Cur_someHeap_6]
    by_cases hlt : i < al.length
    · obtain ⟨b, s1, e1, a1⟩ := f_one hC (n := n + 2 * (d - 1) + 2) (s := s) (ha.le (by omega)) odds
      have e1' : P_l1Cur_one ((C, (s.1, (s.2.1, ()))), odds, ()) = _ := e1
      rw [ltT hlt, e1', succI i (by omega)]
      simp only [cond_true, Option.bind_some]
      cases b with
      | false => exact l_some hC hs hal hin q0 q1 q2 q3 odds (d - 1) (i + 1) m n s1 out (by omega) (by omega) (by omega) hio a1
      | true =>
        rw [inB_at hlt, nthA (t := T_A3) hlt, app_len' (l := out) (by omega)]
        simp only [cond_true]
        refine l_some hC hs hal hin q0 q1 q2 q3 odds (d - 1) (i + 1) m n s1 _ (by omega) (by omega) (by simp; omega) (fun c hc => ?_) a1
        rcases List.mem_append.1 hc with hc | hc
        · exact hio c hc
        · rw [List.mem_singleton.1 hc]; exact hin _ (List.getElem_mem hlt)
    · obtain ⟨p, s1, e1, a1, _⟩ := f_pick hC (n := n + 2 * d) (s := s) ha 12
      have e1' : P_l1Cur_pick ((C, (s.1, (s.2.1, ()))), 12, ()) = _ := e1
      have hso : Small out := by unfold Small; omega
      rw [ltF hlt, e1']
      simp only [cond_false, Option.bind_some]
      by_cases c0 : p = 0
      · obtain ⟨r, er, hr⟩ := other_len (X, Y, Z, out, ()) hso
        rw [decide_eq_true c0, er]
        exact ⟨_, _, rfl, a1.le (by omega), hr⟩
      · rw [decide_eq_false c0]
        by_cases c1 : p = 1
        · obtain ⟨r, er, hr⟩ := stack_len hs (cols_len X Y out)
          rw [decide_eq_true c1, p_spec_l2Heights, f_viewS hs hso hio]
          simp only [cond_true, cond_false, Option.bind_some]
          rw [er]
          exact ⟨_, _, rfl, a1.le (by omega), hr⟩
        · rw [decide_eq_false c1]
          exact ⟨_, _, rfl, a1.le (by omega), (by omega : out.length ≤ 64)⟩
theorem f_someHeap {C : List Int} (hC : Bts C) {n : Nat} {s : Sd} (h : At (n + 132) s) (X Y Z : Int) : ∃ (g : D_Heap) (s' : Sd), P_l1Cur_someHeap ((C, s), X, Y, Z, ()) = some ((g, ()), ((C, s'), ())) ∧ At n s' ∧ g.2.2.2.1.length ≤ 64 := by
  obtain ⟨o, s1, e1, a1, _⟩ := f_among hC (n := n + 130) h [2, 3, 2, 4] (by decide)
  rw [p_l1Cur_someHeap, p_spec_l2Empty, e1]
  simp only [Option.bind_some]
  rw [f_spec_l2Sides]
  simp only [Option.bind_some]
  cases hs : sides X Y Z with
  | false => exact ⟨_, _, rfl, a1.le (by omega), by simp⟩
  | true =>
    obtain ⟨k1, k2, k3⟩ := allCells_ok hs
    have h64 := srt_small64 hs k2 k3
    simp only [Bool.not_true, cond_false]
    rw [f_l2All [] hs]
    simp only [Option.bind_some]
    exact l_some hC hs h64 k2 0 0 0 [] o (allCells X Y Z).length 0 N n s1 [] (by simp) (by have := N_ge; omega) (by simp) (fun c hc => by cases hc) (a1.le (by omega))
theorem f_heap {C : List Int} (hC : Bts C) {n : Nat} {s : Sd} (h : At (n + 144) s) : ∃ (g : D_Heap) (s' : Sd), P_l1Cur_heap ((C, s), ()) = some ((g, ()), ((C, s'), ())) ∧ At n s' ∧ g.2.2.2.1.length ≤ 65 := by
  obtain ⟨x, y, z, s1, e1, a1⟩ := f_sides hC (n := n + 134) h
  obtain ⟨g, s2, e2, a2, hg⟩ := f_someHeap hC (n := n + 2) a1 x y z
  obtain ⟨p, s3, e3, a3, _⟩ := f_pick hC (n := n) a2 60
  rw [p_l1Cur_heap, e1]
  simp only [Option.bind_some]
  rw [e2]
  simp only [Option.bind_some]
  rw [e3]
  simp only [Option.bind_some]
  rw [app_len' (l := g.2.2.2.1) (by omega), app_len' (l := g.2.2.2.1) (by omega), app_len' (l := g.2.2.2.1) (by omega)]
  by_cases c0 : p = 0
  · rw [decide_eq_true c0]
    exact ⟨_, _, rfl, a3, by simp; omega⟩
  · rw [decide_eq_false c0]
    by_cases c1 : p = 1
    · rw [decide_eq_true c1]
      exact ⟨_, _, rfl, a3, by simp; omega⟩
    · rw [decide_eq_false c1]
      by_cases c2 : p = 2
      · rw [decide_eq_true c2]
        by_cases c : (g.2.2.2.1.length : Int) > 0
        · rw [decide_eq_true c, show inB 0 g.2.2.2.1.length = true by simp [inB]; omega]
          exact ⟨_, _, rfl, a3, by simp; omega⟩
        · rw [decide_eq_false c]
          exact ⟨_, _, rfl, a3, by omega⟩
      · rw [decide_eq_false c2]
        by_cases c3 : p = 3
        · rw [decide_eq_true c3]
          exact ⟨_, _, rfl, a3, by simp⟩
        · rw [decide_eq_false c3]
          exact ⟨_, _, rfl, a3, by omega⟩
end Go.VI
namespace Go.VI
open Go.Proofs
theorem l_allWithin (a b : Int) (l : List Int) (hl : Small l) : ∀ (d k m : Nat), l.length = k + d → d < m → l_impl_allWithin_2 m a b l (l.length : Int) (k : Int) = some ((l.drop k).all fun x => decide (a ≤ x) && decide (x ≤ b), ())
  | d, k, 0, hk, hm => by omega
  | d, k, m + 1, hk, hm => by
    have hl' := hl
    unfold Small at hl'
    rw [q_impl_allWithin_2]
    by_cases hlt : k < l.length
    · rw [ltT hlt, inB_at hlt, nthA (t := .int .i64) hlt, f_impl_within, succI k (by omega), l_allWithin a b l hl (d - 1) (k + 1) m (by omega) (by omega), drop_at l k hlt]
      simp only [cond_true, Option.bind_some, List.all_cons]
      cases (decide (a ≤ l[k]) && decide (l[k] ≤ b)) <;> rfl
    · rw [ltF hlt, List.drop_eq_nil_of_le (by omega)]; rfl
theorem f_allWithin (l : List Int) (hl : Small l) (a b : Int) : P_impl_allWithin (l, a, b, ()) = some (l.all fun x => decide (a ≤ x) && decide (x ≤ b), ()) := by
  have := l_allWithin a b l hl l.length 0 N (by simp) (by unfold Small at hl; have := N_ge; omega)
  rw [p_impl_allWithin]
  simpa using this
def mn (a x : Int) : Int := if a < x then a else x
theorem f_mn (a b : Int) : P_spec_l1Least (a, b, ()) = some (mn a b, ()) := by
  rw [p_spec_l1Least]
  unfold mn
  by_cases h : a < b <;> simp [h]
theorem mn_bif (a x : Int) : (bif decide (x < a) then x else a) = mn a x := by
  unfold mn
  by_cases h : a < x
  · rw [if_pos h, decide_eq_false (by omega)]; rfl
  · rw [if_neg h]
    by_cases h2 : x < a
    · rw [decide_eq_true h2]; rfl
    · rw [decide_eq_false h2]
      show a = x
      omega
def lo (f : D_A3 → Int) : Int → List D_A3 → Int
  | a, [] => a
  | a, c :: r => lo f (mn a (f c)) r
def x0 (c : D_A3) : Int := c.1
def x1 (c : D_A3) : Int := c.2.1
def x2 (c : D_A3) : Int := c.2.2.1
def los (a b c : Int) (q : List D_A3) : Bool := decide (lo x0 a q = 0) && (decide (lo x1 b q = 0) && (decide (lo x2 c q = 0) && true))
def okPiece (q : List D_A3) : Bool := decide (1 ≤ q.length) && decide (q.length ≤ 5) && (okTail 4 4 4 none q && los 4 4 4 q)
def prevOk (p : Option D_A3) (c : D_A3) : Bool := match p with | none => true | some q => ltC q c
theorem okTail_cons (X Y Z : Int) (p : Option D_A3) (c : D_A3) (r : List D_A3) : okTail X Y Z p (c :: r) = (within3 X Y Z c && prevOk p c && okTail X Y Z (some c) r) := by cases p <;> rfl
theorem los_cons (a b c : Int) (x : D_A3) (r : List D_A3) : los a b c (x :: r) = los (mn a x.1) (mn b x.2.1) (mn c x.2.2.1) r := rfl
theorem piece_step (m0 m1 : Nat) (a b c : Int) (q : List D_A3) (k : Nat) (hk : k < q.length) (h9 : k < 1000) : l_spec_l9Piece_8 m0 (m1 + 4) a b c q (k : Int) 0 =
    bif within3 4 4 4 q[k] && prevOk (prevAt q k) q[k] then l_spec_l9Piece_5 m0 (mn a q[k].1) (mn b q[k].2.1) (mn c q[k].2.2.1) q ((k + 1 : Nat) : Int) else some (false, ()) := by
  have i0 : inB 0 3 = true := rfl
  have i1 : inB 1 3 = true := rfl
  have i2 : inB 2 3 = true := rfl
  rw [q_spec_l9Piece_8, inB_at hk, nthA (t := T_A3) hk, one64]
  simp only [f_spec_l1In, f_mn, i0, cond_true, Option.bind_some, decide_true, show decide ((0 : Int) < 3) = true from rfl, show decide ((0 : Int) = 1) = false from rfl, show decide ((0 : Int) = 2) = false from rfl, cond_false]
  unfold within3
  cases e0 : (decide (0 ≤ q[k].1) && decide (q[k].1 ≤ 3)) with
  | false =>
    have e0' : (decide (0 ≤ q[k].1) && decide (q[k].1 ≤ 4 - 1)) = false := e0
    rw [e0']; rfl
  | true =>
    have e0' : (decide (0 ≤ q[k].1) && decide (q[k].1 ≤ 4 - 1)) = true := e0
    rw [e0']
    simp only [Bool.not_true, cond_false]
    rw [q_spec_l9Piece_8, inB_at hk, nthA (t := T_A3) hk, two64]
    simp only [f_spec_l1In, f_mn, i1, cond_true, Option.bind_some, decide_true, show decide ((1 : Int) < 3) = true from rfl, show decide ((1 : Int) = 0) = false from rfl, show decide ((1 : Int) = 2) = false from rfl, cond_false]
    cases e1 : (decide (0 ≤ q[k].2.1) && decide (q[k].2.1 ≤ 3)) with
    | false =>
      have e1' : (decide (0 ≤ q[k].2.1) && decide (q[k].2.1 ≤ 4 - 1)) = false := e1
      rw [e1']; rfl
    | true =>
      have e1' : (decide (0 ≤ q[k].2.1) && decide (q[k].2.1 ≤ 4 - 1)) = true := e1
      rw [e1']
      simp only [Bool.not_true, cond_false]
      rw [q_spec_l9Piece_8, inB_at hk, nthA (t := T_A3) hk, three64]
      simp only [f_spec_l1In, f_mn, i2, cond_true, Option.bind_some, decide_true, show decide ((2 : Int) < 3) = true from rfl, show decide ((2 : Int) = 0) = false from rfl, show decide ((2 : Int) = 1) = false from rfl, cond_false]
      cases e2 : (decide (0 ≤ q[k].2.2.1) && decide (q[k].2.2.1 ≤ 3)) with
      | false =>
        have e2' : (decide (0 ≤ q[k].2.2.1) && decide (q[k].2.2.1 ≤ 4 - 1)) = false := e2
        rw [e2']; rfl
      | true =>
        have e2' : (decide (0 ≤ q[k].2.2.1) && decide (q[k].2.2.1 ≤ 4 - 1)) = true := e2
        rw [e2']
        simp only [Bool.not_true, cond_false]
        rw [q_spec_l9Piece_8, succI k (by omega)]
        simp only [show decide ((3 : Int) < 3) = false from rfl, cond_false, Bool.true_and]
        by_cases h0 : k = 0
        · subst h0
          simp [prevAt, prevOk]
        · have hk1 : k - 1 < q.length := by omega
          have hpos : decide ((k : Int) > 0) = true := decide_eq_true (by omega)
          rw [hpos, predI (by omega) (by omega), inB_at hk1, inB_at hk, nthA (t := T_A3) hk1, f_spec_l2Before]
          simp only [prevAt, prevOk, h0, if_false, List.getElem?_eq_getElem hk1, cond_true, Option.bind_some, nthA (t := T_A3) hk]
          cases ltC q[k - 1] q[k] <;> simp
theorem l_specPiece (q : List D_A3) (hl : q.length ≤ 5) : ∀ (d k m : Nat) (a b c : Int), q.length = k + d → d < m → l_spec_l9Piece_5 m a b c q (k : Int) = some (okTail 4 4 4 (prevAt q k) (q.drop k) && los a b c (q.drop k), ())
  | d, k, 0, a, b, c, hk, hm => by omega
  | d, k, m + 1, a, b, c, hk, hm => by
    rw [q_spec_l9Piece_5]
    by_cases hlt : k < q.length
    · have ih := l_specPiece q hl (d - 1) (k + 1) m (mn a q[k].1) (mn b q[k].2.1) (mn c q[k].2.2.1) (by omega) (by omega)
      have hp : prevAt q (k + 1) = some q[k] := by simp [prevAt, List.getElem?_eq_getElem hlt]
      rw [hp] at ih
      rw [ltT hlt, N_eq, piece_step m _ a b c q k hlt (by omega), ih, drop_at q k hlt, okTail_cons, los_cons]
      simp only [cond_true]
      cases within3 4 4 4 q[k] <;> cases prevOk (prevAt q k) q[k] <;> rfl
    · rw [ltF hlt, List.drop_eq_nil_of_le (by omega)]
      rfl
theorem f_l9Piece (q : List D_A3) : P_spec_l9Piece (q, ()) = some (okPiece q, ()) := by
  rw [p_spec_l9Piece, f_spec_l1In]
  unfold okPiece
  have e1 : decide ((1 : Int) ≤ (q.length : Int)) = decide (1 ≤ q.length) := by
    apply decide_eq_decide.2; omega
  have e2 : decide ((q.length : Int) ≤ 5) = decide (q.length ≤ 5) := by
    apply decide_eq_decide.2; omega
  rw [e1, e2]
  simp only [Option.bind_some]
  cases h : (decide (1 ≤ q.length) && decide (q.length ≤ 5)) with
  | false => rfl
  | true =>
    simp only [Bool.and_eq_true, decide_eq_true_eq] at h
    have := l_specPiece q h.2 q.length 0 N 4 4 4 (by simp) (by have := N_ge; omega)
    simp only [Int.natCast_zero, List.drop_zero, prevAt, if_true] at this
    simp [this]
theorem l_implPiece (q : List D_A3) (hl : q.length ≤ 5) : ∀ (d k m : Nat) (a b c : Int), q.length = k + d → d < m → l_impl_IsPiece_5 m a b c q q (q.length : Int) (k : Int) = some (okTail 4 4 4 (prevAt q k) (q.drop k) && los a b c (q.drop k), ())
  | d, k, 0, a, b, c, hk, hm => by omega
  | d, k, m + 1, a, b, c, hk, hm => by
    rw [q_impl_IsPiece_5]
    by_cases hlt : k < q.length
    · have ih := l_implPiece q hl (d - 1) (k + 1) m (mn a q[k].1) (mn b q[k].2.1) (mn c q[k].2.2.1) (by omega) (by omega)
      have hp : prevAt q (k + 1) = some q[k] := by simp [prevAt, List.getElem?_eq_getElem hlt]
      rw [hp] at ih
      have hw : ([q[k].1, q[k].2.1, q[k].2.2.1].all fun x => decide ((0 : Int) ≤ x) && decide (x ≤ 3)) = within3 4 4 4 q[k] := by
        unfold within3
        simp [Bool.and_assoc]
      rw [ltT hlt, inB_at hlt, nthA (t := T_A3) hlt, f_allWithin _ (by unfold Small; simp), hw, mn_bif, mn_bif, mn_bif, succI k (by omega), ih, drop_at q k hlt, okTail_cons, los_cons]
      simp only [cond_true, Option.bind_some]
      cases within3 4 4 4 q[k] with
      | false => simp
      | true =>
        by_cases h0 : k = 0
        · subst h0
          simp [prevAt, prevOk]
        · have hk1 : k - 1 < q.length := by omega
          have hpos : decide ((k : Int) > 0) = true := decide_eq_true (by omega)
          rw [hpos, predI (by omega) (by omega), inB_at hk1, nthA (t := T_A3) hk1, f_impl_compareCells]
          simp only [prevAt, prevOk, h0, if_false, List.getElem?_eq_getElem hk1, cond_true, Option.bind_some, Bool.not_true, cond_false, cmpC_lt]
          cases ltC q[k - 1] q[k] <;> simp
    · rw [ltF hlt, List.drop_eq_nil_of_le (by omega)]
      rfl
theorem mn4 {x : Int} (h : x ≤ 3) : mn 4 x = mn x x := by
  unfold mn
  split <;> split <;> omega
theorem f_IsPiece (q : List D_A3) : P_impl_IsPiece (q, ()) = some (okPiece q, ()) := by
  rw [p_impl_IsPiece, f_impl_within]
  unfold okPiece
  have e1 : decide ((1 : Int) ≤ (q.length : Int)) = decide (1 ≤ q.length) := by
    apply decide_eq_decide.2; omega
  have e2 : decide ((q.length : Int) ≤ 5) = decide (q.length ≤ 5) := by
    apply decide_eq_decide.2; omega
  rw [e1, e2]
  simp only [Option.bind_some]
  cases h : (decide (1 ≤ q.length) && decide (q.length ≤ 5)) with
  | false => rfl
  | true =>
    simp only [Bool.and_eq_true, decide_eq_true_eq] at h
    have h0 : 0 < q.length := by omega
    have := l_implPiece q h.2 q.length 0 N q[0].1 q[0].2.1 q[0].2.2.1 (by simp) (by have := N_ge; omega)
    simp only [Int.natCast_zero, List.drop_zero, prevAt, if_true] at this
    have hi : inB 0 q.length = true := inB_at (k := 0) h0
    have hn : nth T_A3 q 0 = q[0] := nthA (t := T_A3) (k := 0) h0
    rw [hi, hn, this]
    simp only [Bool.not_true, cond_false, cond_true, Bool.true_and, Option.some.injEq, Prod.mk.injEq, and_true]
    cases q with
    | nil => cases h0
    | cons c r =>
      simp only [okTail_cons, los_cons, List.getElem_cons_zero, Bool.and_true]
      cases hw : within3 4 4 4 c with
      | false => rfl
      | true =>
        obtain ⟨⟨_, a⟩, ⟨_, b⟩, _, d⟩ := within3_iff.1 hw
        rw [mn4 (x := c.1) (by omega), mn4 (x := c.2.1) (by omega), mn4 (x := c.2.2.1) (by omega)]
theorem lo_is (f : D_A3 → Int) : ∀ (l : List D_A3) (a : Int), lo f a l = a ∨ ∃ c ∈ l, lo f a l = f c
  | [], a => .inl rfl
  | c :: r, a => by
    rcases lo_is f r (mn a (f c)) with h | ⟨d, hd, h⟩
    · show lo f (mn a (f c)) r = a ∨ _
      rw [h]
      unfold mn
      split
      · exact .inl rfl
      · exact .inr ⟨c, by simp, by show lo f (mn a (f c)) r = f c; rw [h]; unfold mn; split <;> first | rfl | contradiction⟩
    · exact .inr ⟨d, by simp [hd], h⟩
structure PieceOK (q : List D_A3) : Prop where
  ne : q ≠ []
  len : q.length ≤ 5
  ins : Ins 4 4 4 q
  srt : Srt q
  z0 : ∃ c ∈ q, c.1 = 0
  z1 : ∃ c ∈ q, c.2.1 = 0
  z2 : ∃ c ∈ q, c.2.2.1 = 0
theorem pieceOK {q : List D_A3} (h : okPiece q = true) : PieceOK q := by
  unfold okPiece los at h
  simp only [Bool.and_eq_true, decide_eq_true_eq, and_true] at h
  obtain ⟨⟨h1, h5⟩, ht, a, b, c⟩ := h
  obtain ⟨hi, hr, _⟩ := (okTail_iff 4 4 4 q none).1 ht
  refine ⟨by rintro rfl; simp at h1, h5, hi, hr, ?_, ?_, ?_⟩
  · rcases lo_is x0 q 4 with h | ⟨c, hc, h⟩
    · omega
    · exact ⟨c, hc, by rw [a] at h; exact h.symm⟩
  · rcases lo_is x1 q 4 with h | ⟨c, hc, h⟩
    · omega
    · exact ⟨c, hc, by rw [b] at h; exact h.symm⟩
  · rcases lo_is x2 q 4 with h | ⟨d, hd, h⟩
    · omega
    · exact ⟨d, hd, by rw [c] at h; exact h.symm⟩
def askB (h : D_Heap) (ps : List (List D_A3)) : Bool := ps.all okPiece && (okHeap h && decide (ps.length ≤ 8))
theorem l_ask (h : D_Heap) (hh : Small h.2.2.2.1) (ps : List (List D_A3)) (hl : Small ps) : ∀ (d k m : Nat), ps.length = k + d → d < m → l_spec_l9Ask_2 m h.1 h.2.1 h.2.2.1 h.2.2.2.1 ps (k : Int) = some ((ps.drop k).all okPiece && (okHeap h && decide (ps.length ≤ 8)), ())
  | d, k, 0, hk, hm => by omega
  | d, k, m + 1, hk, hm => by
    have hl' := hl
    unfold Small at hl'
    rw [q_spec_l9Ask_2]
    by_cases hlt : k < ps.length
    · rw [ltT hlt, inB_at hlt, nthA (t := .sl T_A3) hlt, f_l9Piece, succI k (by omega), l_ask h hh ps hl (d - 1) (k + 1) m (by omega) (by omega), drop_at ps k hlt]
      simp only [cond_true, Option.bind_some, List.all_cons]
      have e : okPiece ps[k] = okPiece (show List D_A3 from ps[k]) := rfl
      cases okPiece ps[k] <;> rfl
    · have e : decide ((ps.length : Int) ≤ 8) = decide (ps.length ≤ 8) := by
        apply decide_eq_decide.2; omega
      rw [ltF hlt, List.drop_eq_nil_of_le (by omega)]
      have f2 : P_spec_l2Heap (h, ()) = _ := f_spec_l2Heap h hh
      have f2' : P_spec_l2Heap ((h.1, h.2.1, h.2.2.1, h.2.2.2.1, ()), ()) = some (okHeap h, ()) := f2
      rw [f2', e]
      cases okHeap h <;> rfl
theorem f_ask (h : D_Heap) (hh : Small h.2.2.2.1) (ps : List (List D_A3)) (hl : Small ps) : P_spec_l9Ask (h, ps, ()) = some (askB h ps, ()) := by
  have := l_ask h hh ps hl ps.length 0 N (by simp) (by unfold Small at hl; have := N_ge; omega)
  rw [p_spec_l9Ask]
  simp only [Int.natCast_zero, List.drop_zero] at this
  exact this
theorem l_index (ps : List (List D_A3)) (hl : Small ps) : ∀ (d k m : Nat), ps.length = k + d → d < m → ∃ x, l_slices_IndexFunc_3_int_3_int_2 m ps (fun y => P_impl_isPacked_1 (y.1, ())) (ps.length : Int) (k : Int) = some (x, ()) ∧ decide (x ≥ 0) = !(ps.drop k).all okPiece
  | d, k, 0, hk, hm => by omega
  | d, k, m + 1, hk, hm => by
    have hl' := hl
    unfold Small at hl'
    rw [q_slices_IndexFunc_3_int_3_int_2]
    by_cases hlt : k < ps.length
    · obtain ⟨x, e, hx⟩ := l_index ps hl (d - 1) (k + 1) m (by omega) (by omega)
      rw [ltT hlt, inB_at hlt, nthA (t := .sl T_A3) hlt, p_impl_isPacked_1, f_IsPiece, succI k (by omega), e, drop_at ps k hlt]
      simp only [cond_true, Option.bind_some, List.all_cons]
      cases okPiece ps[k] with
      | false => exact ⟨k, rfl, by simp⟩
      | true => exact ⟨x, rfl, by rw [hx, Bool.true_and]⟩
    · rw [ltF hlt, List.drop_eq_nil_of_le (by omega)]
      exact ⟨-1, rfl, rfl⟩
theorem f_isPacked (h : D_Heap) (hh : Small h.2.2.2.1) (ps : List (List D_A3)) (hl : Small ps) : P_impl_isPacked (h, ps, ()) = some (okHeap h && ps.all okPiece, ()) := by
  obtain ⟨x, e, hx⟩ := l_index ps hl ps.length 0 N (by simp) (by unfold Small at hl; have := N_ge; omega)
  rw [p_impl_isPacked, f_impl_IsHeap h hh, p_slices_ContainsFunc_3_int_3_int, p_slices_IndexFunc_3_int_3_int]
  rw [Int.natCast_zero] at e
  rw [e]
  simp only [Option.bind_some]
  rw [hx, List.drop_zero, Bool.not_not]
  cases okHeap h <;> rfl
theorem f_packed (h : D_Heap) (hh : Small h.2.2.2.1) (ps : List (List D_A3)) (hl : Small ps) : P_impl_arePacked (h, ps, ()) = some (askB h ps, ()) := by
  have e : decide ((ps.length : Int) ≤ 8) = decide (ps.length ≤ 8) := by
    apply decide_eq_decide.2; omega
  rw [p_impl_arePacked, f_isPacked h hh ps hl, e]
  unfold askB
  cases okHeap h <;> cases ps.all okPiece <;> rfl
theorem askB_iff {h : D_Heap} {ps : List (List D_A3)} (ha : askB h ps = true) : okHeap h = true ∧ (∀ q ∈ ps, PieceOK q) ∧ ps.length ≤ 8 := by
  unfold askB at ha
  simp only [Bool.and_eq_true, decide_eq_true_eq, List.all_eq_true] at ha
  exact ⟨ha.2.1, fun q hq => pieceOK (ha.1 q hq), ha.2.2⟩
end Go.VI
