/- Plain: the laws' own functions on heaps. -/
import Derived.Test.YtaopponjedombaaGreatPlA
namespace Go.VI
open Go.Proofs

/-! ### Sizes -/
/-! ### Copies -/
/-! ### Comparing -/
/-! ### Marks -/
end Go.VI
/- Plain: benches. -/
namespace Go.VI
open Go.Proofs

def okBench (b : D_Bench) : Bool := okHeap b.1 && within3one b.2.1 b.1.2.2.2.1.length && within3one b.2.2.1 1000
where within3one (x hi : Int) : Bool := decide (0 ≤ x) && decide (x ≤ hi)

theorem f_in0 (x hi : Int) : P_spec_l1In (x, 0, hi, ()) = some (decide (0 ≤ x) && decide (x ≤ hi), ()) := f_spec_l1In x 0 hi

theorem f_spec_IsBench (b : D_Bench) (hl : Small b.1.2.2.2.1) : P_spec_IsBench (b, ()) = some (okBench b, ()) := by
  rw [p_spec_IsBench, p_spec_l12Good, f_spec_l2Heap _ hl]
  simp only [Option.bind_some, f_in0, okBench, okBench.within3one]
  cases okHeap b.1 <;> simp
  cases decide (0 ≤ b.2.2.1) <;> cases decide (b.2.2.1 ≤ 1000) <;> simp

theorem f_spec_l12Good (b : D_Bench) (hl : Small b.1.2.2.2.1) : P_spec_l12Good (b, ()) = some (okBench b, ()) := by
  have := f_spec_IsBench b hl
  rw [p_spec_IsBench] at this
  cases h : P_spec_l12Good (b, ()) with
  | none => rw [h] at this; cases this
  | some r => rw [h] at this; obtain ⟨r1, ⟨⟩⟩ := r; simpa using this

theorem f_impl_IsBench (b : D_Bench) (hl : Small b.1.2.2.2.1) : P_impl_IsBench (b, ()) = some (okBench b, ()) := by
  rw [p_impl_IsBench, f_impl_IsHeap _ hl]
  simp only [Option.bind_some, f_impl_within, okBench, okBench.within3one]
  cases okHeap b.1 <;> simp
  cases decide (0 ≤ b.2.1) <;> cases decide (b.2.1 ≤ (b.1.2.2.2.1.length : Int)) <;> simp

/-! ### Own benches -/
theorem own1 (l : List D_A3) (hl : Small l) : (decide (((List.length ([] : List D_A3)) + (List.length l)) * 24 ≤ 140737488355328) && decide (((List.length ([] : List D_A3)) + (List.length l)) ≤ 140737488355328)) = true := by
  unfold Small at hl
  simp only [List.length_nil, Nat.zero_add, Bool.and_eq_true, decide_eq_true_eq]
  omega

theorem f_spec_l12Own (b : D_Bench) (hl : Small b.1.2.2.2.1) : P_spec_l12Own (b, ()) = some (b, ()) := by
  rw [p_spec_l12Own, p_spec_l2Own, own1 _ hl]
  simp only [p_spec_l2Made, cond_true, Option.bind_some, List.nil_append]

theorem f_Bench_own (b : D_Bench) (hl : Small b.1.2.2.2.1) : P_Bench_own (b, ()) = some (b, ()) := by
  rw [p_Bench_own, own1 _ hl]
  simp only [cond_true, List.nil_append]

def noBench : D_Bench := ((0, (0, (0, (([] : List D_A3), ())))), (0, (0, ())))
theorem small_nil : Small ([] : List D_A3) := by unfold Small; simp

def newBench (h : D_Heap) : D_Bench × Bool × Unit := if okHeap h then ((h, ((h.2.2.2.1.length : Int), (0, ()))), true, ()) else (noBench, false, ())

theorem newBench_small (h : D_Heap) (hl : Small h.2.2.2.1) : Small (newBench h).1.1.2.2.2.1 := by
  unfold newBench
  split
  · exact hl
  · exact small_nil

theorem f_spec_NewBench (h : D_Heap) (hl : Small h.2.2.2.1) : P_spec_NewBench (h, ()) = some (newBench h) := by
  rw [p_spec_NewBench, f_spec_l2Heap _ hl]
  unfold newBench
  cases ho : okHeap h
  · simp [noBench]
  · simp [f_spec_l12Own (h, ((List.length h.2.2.2.1 : Int), (0, ()))) hl]

theorem f_impl_NewBench (h : D_Heap) (hl : Small h.2.2.2.1) : P_impl_NewBench (h, ()) = some (newBench h) := by
  rw [p_impl_NewBench, f_impl_IsHeap _ hl]
  unfold newBench
  cases ho : okHeap h
  · simp [noBench]
  · simp [f_Bench_own (h, ((List.length h.2.2.2.1 : Int), (0, ()))) hl]

end Go.VI
/- Plain: sets of cells by bits, and sorted lists of cells. -/
namespace Go.VI
open Go.Proofs

/-! ### Bits -/
theorem wu64 (n : Int) : IntKind.wrap .u64 n = n % 18446744073709551616 := by simp [IntKind.wrap, IntKind.bits, IntKind.signed]

theorem u64wrap (v : BitVec 64) : IntKind.wrap .u64 (v.toNat : Int) = (v.toNat : Int) := by
  rw [wu64]
  have := v.isLt
  omega

theorem ofInt64 (v : BitVec 64) : BitVec.ofInt 64 (v.toNat : Int) = v := by
  rw [BitVec.ofInt_natCast, BitVec.ofNat_toNat, BitVec.setWidth_eq]

theorem or64 (v w : BitVec 64) : intBits .or .u64 (v.toNat : Int) (w.toNat : Int) = ((v ||| w).toNat : Int) := by
  simp only [intBits]
  rw [show IntKind.bits .u64 = 64 from rfl, ofInt64, ofInt64, u64wrap]

theorem and64 (v w : BitVec 64) : intBits .and .u64 (v.toNat : Int) (w.toNat : Int) = ((v &&& w).toNat : Int) := by
  simp only [intBits]
  rw [show IntKind.bits .u64 = 64 from rfl, ofInt64, ofInt64, u64wrap]

theorem andNot64 (v w : BitVec 64) : intBits .andNot .u64 (v.toNat : Int) (w.toNat : Int) = ((v &&& ~~~w).toNat : Int) := by
  simp only [intBits]
  rw [show IntKind.bits .u64 = 64 from rfl, ofInt64, ofInt64, u64wrap]

theorem shl64 (i : Nat) : shlI .u64 1 (i : Int) = ((BitVec.twoPow 64 i).toNat : Int) := by
  unfold shlI
  rw [show IntKind.bits .u64 = 64 from rfl, BitVec.toNat_twoPow, Int.toNat_natCast, wu64, Int.one_mul]
  by_cases h : i < 64
  · rw [Nat.min_eq_left (by omega), Int.natCast_emod, Int.natCast_pow]
    rfl
  · rw [Nat.min_eq_right (by omega)]
    have : 2 ^ i % 2 ^ 64 = 0 := Nat.mod_eq_zero_of_dvd (Nat.pow_dvd_pow 2 (by omega))
    rw [this]
    decide

theorem shr64 (v : BitVec 64) (i : Nat) : shrI .u64 (v.toNat : Int) (i : Int) = ((v >>> i).toNat : Int) := by
  unfold shrI
  rw [show IntKind.bits .u64 = 64 from rfl, BitVec.toNat_ushiftRight, Int.toNat_natCast, Nat.shiftRight_eq_div_pow, Int.fdiv_eq_ediv_of_nonneg _ (Int.le_of_lt (Int.pow_pos (by decide)))]
  by_cases h : i < 64
  · rw [Nat.min_eq_left (by omega)]
    push_cast
    rfl
  · rw [Nat.min_eq_right (by omega), Nat.div_eq_of_lt (Nat.lt_of_lt_of_le v.isLt (Nat.pow_le_pow_right (by omega) (by omega)))]
    have := v.isLt
    omega

theorem f_set_has (v : BitVec 64) (i : Nat) : P_set_has ((v.toNat : Int), (i : Int), ()) = some (v.getLsbD i, ()) := by
  have h2 : intBits .and .u64 ((v >>> i).toNat : Int) 1 = (((v >>> i) &&& 1#64).toNat : Int) := and64 (v >>> i) 1#64
  rw [p_set_has, shr64, h2, decide_eq_true (Int.natCast_nonneg i), BitVec.and_one_eq_setWidth_ofBool_getLsbD, BitVec.getLsbD_ushiftRight]
  simp only [cond_true, Nat.add_zero]
  cases v.getLsbD i <;> simp

/-! ### Numbers of cells -/
def idx (Y Z : Int) (c : D_A3) : Nat := ((c.1 * Y + c.2.1) * Z + c.2.2.1).toNat

theorem within3_iff {X Y Z : Int} {c : D_A3} : within3 X Y Z c = true ↔ (0 ≤ c.1 ∧ c.1 ≤ X - 1) ∧ (0 ≤ c.2.1 ∧ c.2.1 ≤ Y - 1) ∧ (0 ≤ c.2.2.1 ∧ c.2.2.1 ≤ Z - 1) := by
  simp [within3, and_assoc]

theorem ltC_iff {a b : D_A3} : ltC a b = true ↔ a.1 < b.1 ∨ (a.1 = b.1 ∧ (a.2.1 < b.2.1 ∨ (a.2.1 = b.2.1 ∧ a.2.2.1 < b.2.2.1))) := by
  simp [ltC]

/-- One of the sides. -/
theorem four {n : Int} (h0 : 1 ≤ n) (h1 : n ≤ 4) : n = 1 ∨ n = 2 ∨ n = 3 ∨ n = 4 := by omega

theorem idx_eq {X Y Z : Int} (hs : sides X Y Z = true) {c : D_A3} (hc : within3 X Y Z c = true) : ((idx Y Z c : Nat) : Int) = (c.1 * Y + c.2.1) * Z + c.2.2.1 ∧ idx Y Z c < (X * Y * Z).toNat ∧ X * Y * Z ≤ 64 ∧ c.1 * Y ≤ 16 ∧ 0 ≤ c.1 * Y ∧ 0 ≤ (c.1 * Y + c.2.1) * Z := by
  obtain ⟨h1, h2, h3⟩ := sides_iff.1 hs
  obtain ⟨c1, c2, c3⟩ := within3_iff.1 hc
  unfold idx
  rcases four h1.1 h1.2 with rfl | rfl | rfl | rfl <;> rcases four h2.1 h2.2 with rfl | rfl | rfl | rfl <;> rcases four h3.1 h3.2 with rfl | rfl | rfl | rfl <;> omega

theorem idx_lt {X Y Z : Int} (hs : sides X Y Z = true) {a b : D_A3} (ha : within3 X Y Z a = true) (hb : within3 X Y Z b = true) : idx Y Z a < idx Y Z b ↔ ltC a b = true := by
  obtain ⟨h1, h2, h3⟩ := sides_iff.1 hs
  obtain ⟨a1, a2, a3⟩ := within3_iff.1 ha
  obtain ⟨b1, b2, b3⟩ := within3_iff.1 hb
  rw [ltC_iff]
  unfold idx
  rcases four h2.1 h2.2 with rfl | rfl | rfl | rfl <;> rcases four h3.1 h3.2 with rfl | rfl | rfl | rfl <;> omega

theorem cell_ext {a b : D_A3} (h1 : a.1 = b.1) (h2 : a.2.1 = b.2.1) (h3 : a.2.2.1 = b.2.2.1) : a = b := by
  obtain ⟨a1, a2, a3, ⟨⟩⟩ := a
  obtain ⟨b1, b2, b3, ⟨⟩⟩ := b
  simp_all

theorem ltC_total {a b : D_A3} (h : ltC a b = false) (h' : ltC b a = false) : a = b := by
  have h1 := mt (ltC_iff (a := a) (b := b)).2 (by simp [h])
  have h2 := mt (ltC_iff (a := b) (b := a)).2 (by simp [h'])
  refine cell_ext ?_ ?_ ?_ <;> omega

theorem ltC_irrefl (a : D_A3) : ltC a a = false := by
  rw [Bool.eq_false_iff]; intro h
  have := ltC_iff.1 h
  omega

theorem ltC_trans {a b c : D_A3} (h : ltC a b = true) (h' : ltC b c = true) : ltC a c = true := by
  have h1 := ltC_iff.1 h
  have h2 := ltC_iff.1 h'
  rw [ltC_iff]
  omega

theorem idx_inj {X Y Z : Int} (hs : sides X Y Z = true) {a b : D_A3} (ha : within3 X Y Z a = true) (hb : within3 X Y Z b = true) (h : idx Y Z a = idx Y Z b) : a = b := by
  refine ltC_total ?_ ?_ <;> rw [Bool.eq_false_iff]
  · intro h'; have := (idx_lt hs ha hb).2 h'; omega
  · intro h'; have := (idx_lt hs hb ha).2 h'; omega

theorem f_box_index {X Y Z : Int} (hs : sides X Y Z = true) {c : D_A3} (hc : within3 X Y Z c = true) : P_box_index ((X, Y, Z, ()), c, ()) = some ((idx Y Z c : Int), ()) := by
  obtain ⟨h1, h2, h3, h4, h5, h6⟩ := idx_eq hs hc
  obtain ⟨s1, s2, s3⟩ := sides_iff.1 hs
  obtain ⟨c1, c2, c3⟩ := within3_iff.1 hc
  have hm : 0 ≤ (c.1 * Y + c.2.1) * Z ∧ (c.1 * Y + c.2.1) * Z ≤ 1000 := by omega
  rw [p_box_index, h1]
  simp only
  rw [w64 (x := c.1 * Y) (by omega) (by omega), w64 (x := c.1 * Y + c.2.1) (by omega) (by omega), w64 (x := (c.1 * Y + c.2.1) * Z) (by omega) (by omega), w64 (by omega) (by omega)]
end Go.VI
