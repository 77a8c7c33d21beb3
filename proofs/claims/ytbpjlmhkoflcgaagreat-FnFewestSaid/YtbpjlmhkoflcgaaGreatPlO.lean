/- Plain: neighbors, those, grown sets and what is enclosed, as the program has them. -/
import Derived.Test.YtbpjlmhkoflcgaaGreatPlA
import Derived.Test.YtbpjlmhkoflcgaaGreatViGen
namespace Go.VI
open Go.Proofs
def popI (a0 : Int) : Int := (intBits .and .i64 (IntKind.wrap .i64 (IntKind.wrap .u64 ((IntKind.wrap .u64 ((IntKind.wrap .u64 ((intBits .and .u64 (IntKind.wrap .u64 ((shrI .u64 (IntKind.wrap .u64 ((intBits .and .u64 (shrI .u64 (IntKind.wrap .u64 ((intBits .and .u64 (shrI .u64 a0 1) 6148914691236517205) + (intBits .and .u64 a0 6148914691236517205))) 2) 3689348814741910323) + (intBits .and .u64 (IntKind.wrap .u64 ((intBits .and .u64 (shrI .u64 a0 1) 6148914691236517205) + (intBits .and .u64 a0 6148914691236517205))) 3689348814741910323))) 4) + (IntKind.wrap .u64 ((intBits .and .u64 (shrI .u64 (IntKind.wrap .u64 ((intBits .and .u64 (shrI .u64 a0 1) 6148914691236517205) + (intBits .and .u64 a0 6148914691236517205))) 2) 3689348814741910323) + (intBits .and .u64 (IntKind.wrap .u64 ((intBits .and .u64 (shrI .u64 a0 1) 6148914691236517205) + (intBits .and .u64 a0 6148914691236517205))) 3689348814741910323))))) 1085102592571150095) + (shrI .u64 (intBits .and .u64 (IntKind.wrap .u64 ((shrI .u64 (IntKind.wrap .u64 ((intBits .and .u64 (shrI .u64 (IntKind.wrap .u64 ((intBits .and .u64 (shrI .u64 a0 1) 6148914691236517205) + (intBits .and .u64 a0 6148914691236517205))) 2) 3689348814741910323) + (intBits .and .u64 (IntKind.wrap .u64 ((intBits .and .u64 (shrI .u64 a0 1) 6148914691236517205) + (intBits .and .u64 a0 6148914691236517205))) 3689348814741910323))) 4) + (IntKind.wrap .u64 ((intBits .and .u64 (shrI .u64 (IntKind.wrap .u64 ((intBits .and .u64 (shrI .u64 a0 1) 6148914691236517205) + (intBits .and .u64 a0 6148914691236517205))) 2) 3689348814741910323) + (intBits .and .u64 (IntKind.wrap .u64 ((intBits .and .u64 (shrI .u64 a0 1) 6148914691236517205) + (intBits .and .u64 a0 6148914691236517205))) 3689348814741910323))))) 1085102592571150095) 8))) + (shrI .u64 (IntKind.wrap .u64 ((intBits .and .u64 (IntKind.wrap .u64 ((shrI .u64 (IntKind.wrap .u64 ((intBits .and .u64 (shrI .u64 (IntKind.wrap .u64 ((intBits .and .u64 (shrI .u64 a0 1) 6148914691236517205) + (intBits .and .u64 a0 6148914691236517205))) 2) 3689348814741910323) + (intBits .and .u64 (IntKind.wrap .u64 ((intBits .and .u64 (shrI .u64 a0 1) 6148914691236517205) + (intBits .and .u64 a0 6148914691236517205))) 3689348814741910323))) 4) + (IntKind.wrap .u64 ((intBits .and .u64 (shrI .u64 (IntKind.wrap .u64 ((intBits .and .u64 (shrI .u64 a0 1) 6148914691236517205) + (intBits .and .u64 a0 6148914691236517205))) 2) 3689348814741910323) + (intBits .and .u64 (IntKind.wrap .u64 ((intBits .and .u64 (shrI .u64 a0 1) 6148914691236517205) + (intBits .and .u64 a0 6148914691236517205))) 3689348814741910323))))) 1085102592571150095) + (shrI .u64 (intBits .and .u64 (IntKind.wrap .u64 ((shrI .u64 (IntKind.wrap .u64 ((intBits .and .u64 (shrI .u64 (IntKind.wrap .u64 ((intBits .and .u64 (shrI .u64 a0 1) 6148914691236517205) + (intBits .and .u64 a0 6148914691236517205))) 2) 3689348814741910323) + (intBits .and .u64 (IntKind.wrap .u64 ((intBits .and .u64 (shrI .u64 a0 1) 6148914691236517205) + (intBits .and .u64 a0 6148914691236517205))) 3689348814741910323))) 4) + (IntKind.wrap .u64 ((intBits .and .u64 (shrI .u64 (IntKind.wrap .u64 ((intBits .and .u64 (shrI .u64 a0 1) 6148914691236517205) + (intBits .and .u64 a0 6148914691236517205))) 2) 3689348814741910323) + (intBits .and .u64 (IntKind.wrap .u64 ((intBits .and .u64 (shrI .u64 a0 1) 6148914691236517205) + (intBits .and .u64 a0 6148914691236517205))) 3689348814741910323))))) 1085102592571150095) 8))) 16))) + (shrI .u64 (IntKind.wrap .u64 ((IntKind.wrap .u64 ((intBits .and .u64 (IntKind.wrap .u64 ((shrI .u64 (IntKind.wrap .u64 ((intBits .and .u64 (shrI .u64 (IntKind.wrap .u64 ((intBits .and .u64 (shrI .u64 a0 1) 6148914691236517205) + (intBits .and .u64 a0 6148914691236517205))) 2) 3689348814741910323) + (intBits .and .u64 (IntKind.wrap .u64 ((intBits .and .u64 (shrI .u64 a0 1) 6148914691236517205) + (intBits .and .u64 a0 6148914691236517205))) 3689348814741910323))) 4) + (IntKind.wrap .u64 ((intBits .and .u64 (shrI .u64 (IntKind.wrap .u64 ((intBits .and .u64 (shrI .u64 a0 1) 6148914691236517205) + (intBits .and .u64 a0 6148914691236517205))) 2) 3689348814741910323) + (intBits .and .u64 (IntKind.wrap .u64 ((intBits .and .u64 (shrI .u64 a0 1) 6148914691236517205) + (intBits .and .u64 a0 6148914691236517205))) 3689348814741910323))))) 1085102592571150095) + (shrI .u64 (intBits .and .u64 (IntKind.wrap .u64 ((shrI .u64 (IntKind.wrap .u64 ((intBits .and .u64 (shrI .u64 (IntKind.wrap .u64 ((intBits .and .u64 (shrI .u64 a0 1) 6148914691236517205) + (intBits .and .u64 a0 6148914691236517205))) 2) 3689348814741910323) + (intBits .and .u64 (IntKind.wrap .u64 ((intBits .and .u64 (shrI .u64 a0 1) 6148914691236517205) + (intBits .and .u64 a0 6148914691236517205))) 3689348814741910323))) 4) + (IntKind.wrap .u64 ((intBits .and .u64 (shrI .u64 (IntKind.wrap .u64 ((intBits .and .u64 (shrI .u64 a0 1) 6148914691236517205) + (intBits .and .u64 a0 6148914691236517205))) 2) 3689348814741910323) + (intBits .and .u64 (IntKind.wrap .u64 ((intBits .and .u64 (shrI .u64 a0 1) 6148914691236517205) + (intBits .and .u64 a0 6148914691236517205))) 3689348814741910323))))) 1085102592571150095) 8))) + (shrI .u64 (IntKind.wrap .u64 ((intBits .and .u64 (IntKind.wrap .u64 ((shrI .u64 (IntKind.wrap .u64 ((intBits .and .u64 (shrI .u64 (IntKind.wrap .u64 ((intBits .and .u64 (shrI .u64 a0 1) 6148914691236517205) + (intBits .and .u64 a0 6148914691236517205))) 2) 3689348814741910323) + (intBits .and .u64 (IntKind.wrap .u64 ((intBits .and .u64 (shrI .u64 a0 1) 6148914691236517205) + (intBits .and .u64 a0 6148914691236517205))) 3689348814741910323))) 4) + (IntKind.wrap .u64 ((intBits .and .u64 (shrI .u64 (IntKind.wrap .u64 ((intBits .and .u64 (shrI .u64 a0 1) 6148914691236517205) + (intBits .and .u64 a0 6148914691236517205))) 2) 3689348814741910323) + (intBits .and .u64 (IntKind.wrap .u64 ((intBits .and .u64 (shrI .u64 a0 1) 6148914691236517205) + (intBits .and .u64 a0 6148914691236517205))) 3689348814741910323))))) 1085102592571150095) + (shrI .u64 (intBits .and .u64 (IntKind.wrap .u64 ((shrI .u64 (IntKind.wrap .u64 ((intBits .and .u64 (shrI .u64 (IntKind.wrap .u64 ((intBits .and .u64 (shrI .u64 a0 1) 6148914691236517205) + (intBits .and .u64 a0 6148914691236517205))) 2) 3689348814741910323) + (intBits .and .u64 (IntKind.wrap .u64 ((intBits .and .u64 (shrI .u64 a0 1) 6148914691236517205) + (intBits .and .u64 a0 6148914691236517205))) 3689348814741910323))) 4) + (IntKind.wrap .u64 ((intBits .and .u64 (shrI .u64 (IntKind.wrap .u64 ((intBits .and .u64 (shrI .u64 a0 1) 6148914691236517205) + (intBits .and .u64 a0 6148914691236517205))) 2) 3689348814741910323) + (intBits .and .u64 (IntKind.wrap .u64 ((intBits .and .u64 (shrI .u64 a0 1) 6148914691236517205) + (intBits .and .u64 a0 6148914691236517205))) 3689348814741910323))))) 1085102592571150095) 8))) 16))) 32)))) 127)
theorem f_pop (a0 : Int) : P_dj (a0, ()) = some (popI a0, ()) := p_dj a0
def rim (X Y Z : Int) (c : D_A3) : Bool := (List.range 6).any fun k => !within3 X Y Z (stp k c)
def chkRim : Bool := ([1, 2, 3, 4] : List Int).all fun X => ([1, 2, 3, 4] : List Int).all fun Y => ([1, 2, 3, 4] : List Int).all fun Z => (List.range (X * Y * Z).toNat).all fun i =>
  (decide (popI ((nearB X Y Z (cellOf Y Z i)).toNat : Int) < 6)) == rim X Y Z (cellOf Y Z i)
theorem chkRim_ok : chkRim = true := by kernel_rfl
theorem mem1234 {n : Int} (h0 : 1 ≤ n) (h1 : n ≤ 4) : n ∈ ([1, 2, 3, 4] : List Int) := by
  rcases four h0 h1 with rfl | rfl | rfl | rfl <;> simp
theorem pop_rim {X Y Z : Int} (hs : sides X Y Z = true) {c : D_A3} (hc : within3 X Y Z c = true) : decide (popI ((nearB X Y Z c).toNat : Int) < 6) = rim X Y Z c := by
  have h := chkRim_ok
  unfold chkRim at h
  have s := sides_iff.1 hs
  have h1 := List.all_eq_true.1 h X (mem1234 s.1.1 s.1.2)
  have h2 := List.all_eq_true.1 h1 Y (mem1234 s.2.1.1 s.2.1.2)
  have h3 := List.all_eq_true.1 h2 Z (mem1234 s.2.2.1 s.2.2.2)
  have h4 := List.all_eq_true.1 h3 (idx Y Z c) (List.mem_range.2 (idx_eq hs hc).2.1)
  rw [cellOf_idx hs hc] at h4
  exact eq_of_beq h4
theorem f_size {X Y Z : Int} (hs : sides X Y Z = true) : P_br ((X, Y, Z, ()), ()) = some (((X * Y * Z).toNat : Int), ()) := by
  have h := size64 hs
  have s := sides_iff.1 hs
  rw [p_br]
  show some (IntKind.wrap .i64 (IntKind.wrap .i64 (X * Y) * Z), ()) = _
  rw [w64 (x := X * Y) (by omega) (by omega), w64 (x := X * Y * Z) (by omega) (by omega)]
  congr 2
  omega
def thoseR (Y Z : Int) (g : D_A3 → Bool) : (d k : Nat) → BitVec 64 → BitVec 64
  | 0, _, v => v
  | d + 1, k, v => thoseR Y Z g d (k + 1) (bif g (cellOf Y Z k) then v ||| BitVec.twoPow 64 k else v)
theorem thoseR_bit (Y Z : Int) (g : D_A3 → Bool) (i : Nat) : ∀ (d k : Nat) (v : BitVec 64), k + d ≤ 64 → (thoseR Y Z g d k v).getLsbD i = (v.getLsbD i || (decide (k ≤ i) && decide (i < k + d) && g (cellOf Y Z i)))
  | 0, k, v, _ => by
    have : (decide (k ≤ i) && decide (i < k + 0)) = false := by
      rw [Bool.and_eq_false_iff, decide_eq_false_iff_not, decide_eq_false_iff_not]; omega
    simp only [thoseR, this, Bool.false_and, Bool.or_false]
  | d + 1, k, v, h => by
    rw [thoseR, thoseR_bit Y Z g i d (k + 1) _ (by omega)]
    by_cases e : i = k
    · subst e
      have h1 : decide (i + 1 ≤ i) = false := decide_eq_false (by omega)
      have h2 : decide (i < i + (d + 1)) = true := decide_eq_true (by omega)
      rw [h1, h2]
      cases g (cellOf Y Z i) with
      | false => simp
      | true =>
        simp only [cond_true, BitVec.getLsbD_or, BitVec.getLsbD_twoPow]
        have : decide (i < 64) = true := decide_eq_true (by omega)
        simp [this]
    · have h1 : decide (k + 1 ≤ i) = decide (k ≤ i) := by rw [Bool.eq_iff_iff, decide_eq_true_eq, decide_eq_true_eq]; omega
      have h2 : decide (i < k + 1 + d) = decide (i < k + (d + 1)) := by rw [Bool.eq_iff_iff, decide_eq_true_eq, decide_eq_true_eq]; omega
      rw [h1, h2]
      congr 1
      cases g (cellOf Y Z k) with
      | false => rfl
      | true =>
        simp only [cond_true, BitVec.getLsbD_or, BitVec.getLsbD_twoPow]
        have : decide (k = i) = false := decide_eq_false (fun h => e h.symm)
        simp [this]
theorem l_those {X Y Z : Int} (hs : sides X Y Z = true) {g : D_A3 → Bool} {F : D_A3 × Unit → Option (Bool × Unit)} (hF : ∀ c, within3 X Y Z c = true → F (c, ()) = some (g c, ())) : ∀ (d k m : Nat) (v : BitVec 64), k + d = (X * Y * Z).toNat → d < m →
    l_az_3 m X Y Z F (v.toNat : Int) (((X * Y * Z).toNat : Nat) : Int) (k : Int) = some (((thoseR Y Z g d k v).toNat : Int), ())
  | d, k, 0, v, _, h => by omega
  | d, k, m + 1, v, hk, hm => by
    have h64 := size64 hs
    rw [q_az_3]
    cases d with
    | zero =>
      rw [ltF (by omega)]
      rfl
    | succ d =>
      obtain ⟨h1, h2⟩ := cellOf_ok hs (i := k) (by omega)
      rw [ltT (by omega), f_b2 hs (by omega)]
      simp only [cond_true, Option.bind_some]
      rw [hF _ h1, succI k (by omega), decide_eq_true (p := (0 : Int) ≤ (k : Int)) (by omega), shl64, or64]
      simp only [cond_true, Option.bind_some]
      rw [thoseR]
      cases g (cellOf Y Z k) with
      | false => exact l_those hs hF d (k + 1) m _ (by omega) (by omega)
      | true => exact l_those hs hF d (k + 1) m _ (by omega) (by omega)
theorem f_those {X Y Z : Int} (hs : sides X Y Z = true) {g : D_A3 → Bool} {F : D_A3 × Unit → Option (Bool × Unit)} (hF : ∀ c, within3 X Y Z c = true → F (c, ()) = some (g c, ())) : ∃ v : BitVec 64, P_az ((X, Y, Z, ()), F, ()) = some ((v.toNat : Int), ()) ∧ SetIs X Y Z v g := by
  have h64 := size64 hs
  refine ⟨thoseR Y Z g (X * Y * Z).toNat 0 0, ?_, fun i hi => ?_, fun c hc => ?_⟩
  · rw [p_az, f_size hs]
    exact l_those hs hF (X * Y * Z).toNat 0 N 0 (by omega) (by have := N_ge; omega)
  · rw [thoseR_bit Y Z g i _ 0 0 (by omega)]
    have : decide (i < 0 + (X * Y * Z).toNat) = false := decide_eq_false (by omega)
    rw [this, Bool.and_false, Bool.false_and, Bool.or_false]
    simp
  · rw [thoseR_bit Y Z g _ _ 0 0 (by omega), cellOf_idx hs hc]
    have : decide (idx Y Z c < 0 + (X * Y * Z).toNat) = true := decide_eq_true (by have := (idx_eq hs hc).2.1; omega)
    rw [this, decide_eq_true (Nat.zero_le _)]
    simp
theorem low_and {n : Nat} {v w : BitVec 64} (hv : Low n v) : Low n (v &&& w) := fun i hi => by rw [BitVec.getLsbD_and, hv i hi, Bool.false_and]
end Go.VI
/- Plain: how many bits are set. -/
namespace Go.VI
theorem and_cut {k : Nat} (a b q r : Nat) (ha : a < 2 ^ k) (hb : b < 2 ^ k) : (a + 2 ^ k * q) &&& (b + 2 ^ k * r) = (a &&& b) + 2 ^ k * (q &&& r) := by
  apply Nat.eq_of_testBit_eq
  intro i
  have hc : a &&& b < 2 ^ k := Nat.lt_of_le_of_lt Nat.and_le_left ha
  rw [Nat.testBit_and, Nat.add_comm a, Nat.add_comm b, Nat.add_comm (a &&& b), Nat.testBit_two_pow_mul_add _ ha, Nat.testBit_two_pow_mul_add _ hb, Nat.testBit_two_pow_mul_add _ hc]
  by_cases h : i < k
  · rw [if_pos h, if_pos h, if_pos h, Nat.testBit_and]
  · rw [if_neg h, if_neg h, if_neg h, Nat.testBit_and]
theorem and_byte (a b q r : Nat) (ha : a < 256) (hb : b < 256) : (a + 256 * q) &&& (b + 256 * r) = (a &&& b) + 256 * (q &&& r) := and_cut (k := 8) a b q r ha hb
def s1 (b : Nat) : Nat := ((b / 2) &&& 85) + (b &&& 85)
def s2 (b : Nat) : Nat := ((b / 4) &&& 51) + (b &&& 51)
def s3 (b : Nat) : Nat := s2 (s1 b) / 16 + s2 (s1 b) % 16
def bits8 (b : Nat) : Nat := ((List.range 8).filter fun i => b.testBit i).length
theorem b1 : ∀ b : Fin 256, ∀ c : Fin 2, (b.val / 2 + 128 * c.val) &&& 85 = (b.val / 2) &&& 85 ∧ s1 b.val < 256 := by decide +kernel
theorem b2 : ∀ b : Fin 256, ∀ c : Fin 4, (b.val / 4 + 64 * c.val) &&& 51 = (b.val / 4) &&& 51 ∧ s2 b.val < 256 := by decide +kernel
theorem b3 : ∀ b : Fin 256, s2 (s1 b.val) / 16 ≤ 4 ∧ s2 (s1 b.val) % 16 ≤ 4 ∧ bits8 b.val = s3 b.val := by decide +kernel
theorem b4 : ∀ h : Fin 9, ∀ l : Fin 9, (h.val + 16 * l.val) &&& 15 = h.val := by decide +kernel
def by8 (x0 x1 x2 x3 x4 x5 x6 x7 : Nat) : Nat := x0 + 256 * (x1 + 256 * (x2 + 256 * (x3 + 256 * (x4 + 256 * (x5 + 256 * (x6 + 256 * x7))))))
theorem and_by8 {x0 x1 x2 x3 x4 x5 x6 x7 m : Nat} (h0 : x0 < 256) (h1 : x1 < 256) (h2 : x2 < 256) (h3 : x3 < 256) (h4 : x4 < 256) (h5 : x5 < 256) (h6 : x6 < 256) (hm : m < 256) :
    by8 x0 x1 x2 x3 x4 x5 x6 x7 &&& by8 m m m m m m m m = by8 (x0 &&& m) (x1 &&& m) (x2 &&& m) (x3 &&& m) (x4 &&& m) (x5 &&& m) (x6 &&& m) (x7 &&& m) := by
  unfold by8
  rw [and_byte _ _ _ _ h0 hm, and_byte _ _ _ _ h1 hm, and_byte _ _ _ _ h2 hm, and_byte _ _ _ _ h3 hm, and_byte _ _ _ _ h4 hm, and_byte _ _ _ _ h5 hm, and_byte _ _ _ _ h6 hm]
def pN1 (a : Nat) : Nat := ((a / 2) &&& 6148914691236517205) + (a &&& 6148914691236517205)
def pN2 (a : Nat) : Nat := ((a / 4) &&& 3689348814741910323) + (a &&& 3689348814741910323)
def pN3 (a : Nat) : Nat := (a / 16 + a) &&& 1085102592571150095
theorem pN1_eq {x0 x1 x2 x3 x4 x5 x6 x7 : Nat} (h0 : x0 < 256) (h1 : x1 < 256) (h2 : x2 < 256) (h3 : x3 < 256) (h4 : x4 < 256) (h5 : x5 < 256) (h6 : x6 < 256) :
    pN1 (by8 x0 x1 x2 x3 x4 x5 x6 x7) = by8 (s1 x0) (s1 x1) (s1 x2) (s1 x3) (s1 x4) (s1 x5) (s1 x6) (s1 x7) := by
  have hd : by8 x0 x1 x2 x3 x4 x5 x6 x7 / 2 = by8 (x0 / 2 + 128 * (x1 % 2)) (x1 / 2 + 128 * (x2 % 2)) (x2 / 2 + 128 * (x3 % 2)) (x3 / 2 + 128 * (x4 % 2)) (x4 / 2 + 128 * (x5 % 2)) (x5 / 2 + 128 * (x6 % 2)) (x6 / 2 + 128 * (x7 % 2)) (x7 / 2 + 128 * 0) := by
    unfold by8; omega
  have e : ∀ x y : Nat, x < 256 → (x / 2 + 128 * (y % 2)) &&& 85 = (x / 2) &&& 85 := fun x y h => (b1 ⟨x, h⟩ ⟨y % 2, by omega⟩).1
  have e0 : (x7 / 2 + 128 * 0) &&& 85 = (x7 / 2) &&& 85 := by rw [Nat.mul_zero, Nat.add_zero]
  have hm : (6148914691236517205 : Nat) = by8 85 85 85 85 85 85 85 85 := by decide
  unfold pN1
  rw [hd, hm, and_by8 (by omega) (by omega) (by omega) (by omega) (by omega) (by omega) (by omega) (by omega), and_by8 h0 h1 h2 h3 h4 h5 h6 (by omega), e _ _ h0, e _ _ h1, e _ _ h2, e _ _ h3, e _ _ h4, e _ _ h5, e _ _ h6, e0]
  unfold by8 s1
  omega
theorem pN2_eq {x0 x1 x2 x3 x4 x5 x6 x7 : Nat} (h0 : x0 < 256) (h1 : x1 < 256) (h2 : x2 < 256) (h3 : x3 < 256) (h4 : x4 < 256) (h5 : x5 < 256) (h6 : x6 < 256) :
    pN2 (by8 x0 x1 x2 x3 x4 x5 x6 x7) = by8 (s2 x0) (s2 x1) (s2 x2) (s2 x3) (s2 x4) (s2 x5) (s2 x6) (s2 x7) := by
  have hd : by8 x0 x1 x2 x3 x4 x5 x6 x7 / 4 = by8 (x0 / 4 + 64 * (x1 % 4)) (x1 / 4 + 64 * (x2 % 4)) (x2 / 4 + 64 * (x3 % 4)) (x3 / 4 + 64 * (x4 % 4)) (x4 / 4 + 64 * (x5 % 4)) (x5 / 4 + 64 * (x6 % 4)) (x6 / 4 + 64 * (x7 % 4)) (x7 / 4 + 64 * 0) := by
    unfold by8; omega
  have e : ∀ x y : Nat, x < 256 → (x / 4 + 64 * (y % 4)) &&& 51 = (x / 4) &&& 51 := fun x y h => (b2 ⟨x, h⟩ ⟨y % 4, by omega⟩).1
  have e0 : (x7 / 4 + 64 * 0) &&& 51 = (x7 / 4) &&& 51 := by rw [Nat.mul_zero, Nat.add_zero]
  have hm : (3689348814741910323 : Nat) = by8 51 51 51 51 51 51 51 51 := by decide
  unfold pN2
  rw [hd, hm, and_by8 (by omega) (by omega) (by omega) (by omega) (by omega) (by omega) (by omega) (by omega), and_by8 h0 h1 h2 h3 h4 h5 h6 (by omega), e _ _ h0, e _ _ h1, e _ _ h2, e _ _ h3, e _ _ h4, e _ _ h5, e _ _ h6, e0]
  unfold by8 s2
  omega
theorem pN3_eq {h0 h1 h2 h3 h4 h5 h6 h7 l0 l1 l2 l3 l4 l5 l6 l7 : Nat} (g0 : h0 ≤ 4) (g1 : h1 ≤ 4) (g2 : h2 ≤ 4) (g3 : h3 ≤ 4) (g4 : h4 ≤ 4) (g5 : h5 ≤ 4) (g6 : h6 ≤ 4) (g7 : h7 ≤ 4)
    (k0 : l0 ≤ 4) (k1 : l1 ≤ 4) (k2 : l2 ≤ 4) (k3 : l3 ≤ 4) (k4 : l4 ≤ 4) (k5 : l5 ≤ 4) (k6 : l6 ≤ 4) (k7 : l7 ≤ 4) :
    pN3 (by8 (16 * h0 + l0) (16 * h1 + l1) (16 * h2 + l2) (16 * h3 + l3) (16 * h4 + l4) (16 * h5 + l5) (16 * h6 + l6) (16 * h7 + l7)) = by8 (h0 + l0) (h1 + l1) (h2 + l2) (h3 + l3) (h4 + l4) (h5 + l5) (h6 + l6) (h7 + l7) := by
  have hd : by8 (16 * h0 + l0) (16 * h1 + l1) (16 * h2 + l2) (16 * h3 + l3) (16 * h4 + l4) (16 * h5 + l5) (16 * h6 + l6) (16 * h7 + l7) / 16 + by8 (16 * h0 + l0) (16 * h1 + l1) (16 * h2 + l2) (16 * h3 + l3) (16 * h4 + l4) (16 * h5 + l5) (16 * h6 + l6) (16 * h7 + l7) = by8 ((h0 + l0) + 16 * (h0 + l1)) ((h1 + l1) + 16 * (h1 + l2)) ((h2 + l2) + 16 * (h2 + l3)) ((h3 + l3) + 16 * (h3 + l4)) ((h4 + l4) + 16 * (h4 + l5)) ((h5 + l5) + 16 * (h5 + l6)) ((h6 + l6) + 16 * (h6 + l7)) ((h7 + l7) + 16 * h7) := by
    unfold by8; omega
  have e : ∀ x y : Nat, x ≤ 8 → y ≤ 8 → (x + 16 * y) &&& 15 = x := fun x y h k => b4 ⟨x, by omega⟩ ⟨y, by omega⟩
  have hm : (1085102592571150095 : Nat) = by8 15 15 15 15 15 15 15 15 := by decide
  unfold pN3
  rw [hd, hm, and_by8 (by omega) (by omega) (by omega) (by omega) (by omega) (by omega) (by omega) (by omega), e _ _ (by omega) (by omega), e _ _ (by omega) (by omega), e _ _ (by omega) (by omega), e _ _ (by omega) (by omega), e _ _ (by omega) (by omega), e _ _ (by omega) (by omega), e _ _ (by omega) (by omega), e _ _ (by omega) (by omega)]
def pN4 (y3 : Nat) : Nat :=
  (((y3 + y3 / 256) + (y3 + y3 / 256) / 65536) + ((y3 + y3 / 256) + (y3 + y3 / 256) / 65536) / 4294967296) % 128
theorem pN4_eq {p0 p1 p2 p3 p4 p5 p6 p7 : Nat} (g0 : p0 ≤ 8) (g1 : p1 ≤ 8) (g2 : p2 ≤ 8) (g3 : p3 ≤ 8) (g4 : p4 ≤ 8) (g5 : p5 ≤ 8) (g6 : p6 ≤ 8) (g7 : p7 ≤ 8) :
    pN4 (by8 p0 p1 p2 p3 p4 p5 p6 p7) = p0 + p1 + p2 + p3 + p4 + p5 + p6 + p7 := by
  have e4 : by8 p0 p1 p2 p3 p4 p5 p6 p7 + by8 p0 p1 p2 p3 p4 p5 p6 p7 / 256 = by8 (p0 + p1) (p1 + p2) (p2 + p3) (p3 + p4) (p4 + p5) (p5 + p6) (p6 + p7) p7 := by unfold by8; omega
  have e5 : by8 (p0 + p1) (p1 + p2) (p2 + p3) (p3 + p4) (p4 + p5) (p5 + p6) (p6 + p7) p7 + by8 (p0 + p1) (p1 + p2) (p2 + p3) (p3 + p4) (p4 + p5) (p5 + p6) (p6 + p7) p7 / 65536 = by8 (p0 + p1 + p2 + p3) (p1 + p2 + p3 + p4) (p2 + p3 + p4 + p5) (p3 + p4 + p5 + p6) (p4 + p5 + p6 + p7) (p5 + p6 + p7) (p6 + p7) p7 := by unfold by8; omega
  have e6 : by8 (p0 + p1 + p2 + p3) (p1 + p2 + p3 + p4) (p2 + p3 + p4 + p5) (p3 + p4 + p5 + p6) (p4 + p5 + p6 + p7) (p5 + p6 + p7) (p6 + p7) p7 / 4294967296 = by8 (p4 + p5 + p6 + p7) (p5 + p6 + p7) (p6 + p7) p7 0 0 0 0 := by unfold by8; omega
  have e7 : ∃ c d : Nat, by8 (p0 + p1 + p2 + p3) (p1 + p2 + p3 + p4) (p2 + p3 + p4 + p5) (p3 + p4 + p5 + p6) (p4 + p5 + p6 + p7) (p5 + p6 + p7) (p6 + p7) p7 = (p0 + p1 + p2 + p3) + 256 * c ∧ by8 (p4 + p5 + p6 + p7) (p5 + p6 + p7) (p6 + p7) p7 0 0 0 0 = (p4 + p5 + p6 + p7) + 256 * d := ⟨_, _, rfl, rfl⟩
  obtain ⟨c, d, h1, h2⟩ := e7
  unfold pN4
  rw [e4, e5, e6, h1, h2]
  omega
def popB (n : Nat) : Nat := ((List.range 64).filter fun i => n.testBit i).length
theorem range_add (n m : Nat) : List.range (n + m) = List.range n ++ (List.range m).map (n + ·) := by
  rw [List.range_eq_range', List.range_eq_range', List.range_eq_range', List.map_add_range', Nat.add_zero, ← List.range'_append_1, Nat.zero_add]
theorem count_byte (m b q : Nat) (hb : b < 256) : ((List.range (8 + m)).filter fun i => (b + 256 * q).testBit i).length = bits8 b + ((List.range m).filter fun i => q.testBit i).length := by
  have ht : ∀ i, (b + 256 * q).testBit i = if i < 8 then b.testBit i else q.testBit (i - 8) := fun i => by
    rw [Nat.add_comm]; exact Nat.testBit_two_pow_mul_add q (i := 8) hb i
  rw [range_add, List.filter_append, List.length_append, List.filter_map, List.length_map]
  unfold bits8
  congr 2
  · apply List.filter_congr
    intro i hi
    rw [ht, if_pos (List.mem_range.1 hi)]
  · apply List.filter_congr
    intro i hi
    simp only [Function.comp_apply]
    rw [ht, if_neg (by omega), Nat.add_sub_cancel_left]
theorem popB_by8 {x0 x1 x2 x3 x4 x5 x6 x7 : Nat} (h0 : x0 < 256) (h1 : x1 < 256) (h2 : x2 < 256) (h3 : x3 < 256) (h4 : x4 < 256) (h5 : x5 < 256) (h6 : x6 < 256) :
    popB (by8 x0 x1 x2 x3 x4 x5 x6 x7) = bits8 x0 + (bits8 x1 + (bits8 x2 + (bits8 x3 + (bits8 x4 + (bits8 x5 + (bits8 x6 + bits8 x7)))))) := by
  unfold popB by8
  rw [show (64 : Nat) = 8 + 56 from rfl, count_byte 56 _ _ h0, show (56 : Nat) = 8 + 48 from rfl, count_byte 48 _ _ h1, show (48 : Nat) = 8 + 40 from rfl, count_byte 40 _ _ h2, show (40 : Nat) = 8 + 32 from rfl, count_byte 32 _ _ h3, show (32 : Nat) = 8 + 24 from rfl, count_byte 24 _ _ h4, show (24 : Nat) = 8 + 16 from rfl, count_byte 16 _ _ h5, show (16 : Nat) = 8 + 8 from rfl, count_byte 8 _ _ h6]
  rfl
theorem by8_of {n : Nat} (h : n < 2 ^ 64) : n = by8 (n % 256) (n / 256 % 256) (n / 65536 % 256) (n / 16777216 % 256) (n / 4294967296 % 256) (n / 1099511627776 % 256) (n / 281474976710656 % 256) (n / 72057594037927936) ∧ n / 72057594037927936 < 256 := by
  unfold by8
  omega
theorem pN_eq {n : Nat} (h : n < 2 ^ 64) : pN4 (pN3 (pN2 (pN1 n))) = popB n := by
  obtain ⟨hn, h7⟩ := by8_of h
  have g0 : n % 256 < 256 := Nat.mod_lt _ (by omega)
  have g1 : n / 256 % 256 < 256 := Nat.mod_lt _ (by omega)
  have g2 : n / 65536 % 256 < 256 := Nat.mod_lt _ (by omega)
  have g3 : n / 16777216 % 256 < 256 := Nat.mod_lt _ (by omega)
  have g4 : n / 4294967296 % 256 < 256 := Nat.mod_lt _ (by omega)
  have g5 : n / 1099511627776 % 256 < 256 := Nat.mod_lt _ (by omega)
  have g6 : n / 281474976710656 % 256 < 256 := Nat.mod_lt _ (by omega)
  generalize n % 256 = x0 at hn g0
  generalize n / 256 % 256 = x1 at hn g1
  generalize n / 65536 % 256 = x2 at hn g2
  generalize n / 16777216 % 256 = x3 at hn g3
  generalize n / 4294967296 % 256 = x4 at hn g4
  generalize n / 1099511627776 % 256 = x5 at hn g5
  generalize n / 281474976710656 % 256 = x6 at hn g6
  generalize n / 72057594037927936 = x7 at hn h7
  have k1 : ∀ x, x < 256 → s1 x < 256 := fun x hx => (b1 ⟨x, hx⟩ 0).2
  have k2 : ∀ x, x < 256 → s2 (s1 x) = 16 * (s2 (s1 x) / 16) + s2 (s1 x) % 16 := fun x _ => (Nat.div_add_mod _ 16).symm
  have k3 : ∀ x, x < 256 → s2 (s1 x) / 16 ≤ 4 ∧ s2 (s1 x) % 16 ≤ 4 ∧ bits8 x = s3 x := fun x hx => b3 ⟨x, hx⟩
  have k4 : ∀ x, x < 256 → s3 x ≤ 8 := fun x hx => by have := k3 x hx; unfold s3; omega
  rw [hn, pN1_eq g0 g1 g2 g3 g4 g5 g6, pN2_eq (k1 _ g0) (k1 _ g1) (k1 _ g2) (k1 _ g3) (k1 _ g4) (k1 _ g5) (k1 _ g6)]
  rw [k2 x0 g0, k2 x1 g1, k2 x2 g2, k2 x3 g3, k2 x4 g4, k2 x5 g5, k2 x6 g6, k2 x7 h7]
  rw [pN3_eq (k3 x0 g0).1 (k3 x1 g1).1 (k3 x2 g2).1 (k3 x3 g3).1 (k3 x4 g4).1 (k3 x5 g5).1 (k3 x6 g6).1 (k3 x7 h7).1 (k3 x0 g0).2.1 (k3 x1 g1).2.1 (k3 x2 g2).2.1 (k3 x3 g3).2.1 (k3 x4 g4).2.1 (k3 x5 g5).2.1 (k3 x6 g6).2.1 (k3 x7 h7).2.1]
  show pN4 (by8 (s3 x0) (s3 x1) (s3 x2) (s3 x3) (s3 x4) (s3 x5) (s3 x6) (s3 x7)) = _
  rw [pN4_eq (k4 _ g0) (k4 _ g1) (k4 _ g2) (k4 _ g3) (k4 _ g4) (k4 _ g5) (k4 _ g6) (k4 _ h7), popB_by8 g0 g1 g2 g3 g4 g5 g6, (k3 x0 g0).2.2, (k3 x1 g1).2.2, (k3 x2 g2).2.2, (k3 x3 g3).2.2, (k3 x4 g4).2.2, (k3 x5 g5).2.2, (k3 x6 g6).2.2, (k3 x7 h7).2.2]
  omega
end Go.VI
/- Plain: whether some cells meet all lines. -/
namespace Go.VI
open Go.Proofs
theorem low_bit (v : BitVec 64) (i : Nat) (_ : i < 64) (h1 : v.getLsbD i = true) (h0 : ∀ j, j < i → v.getLsbD j = false) : intBits .and .u64 (v.toNat : Int) (IntKind.wrap .u64 (0 - (v.toNat : Int))) = ((BitVec.twoPow 64 i).toNat : Int) := by
  have hlt := v.isLt
  have hpos : 0 < v.toNat := by
    apply Nat.pos_of_ne_zero
    intro hz
    have : v.getLsbD i = false := by
      unfold BitVec.getLsbD
      rw [hz, Nat.zero_testBit]
    rw [this] at h1
    cases h1
  have hw : IntKind.wrap .u64 (0 - (v.toNat : Int)) = ((BitVec.ofNat 64 (2 ^ 64 - v.toNat)).toNat : Int) := by
    rw [wu64, BitVec.toNat_ofNat, Nat.mod_eq_of_lt (by omega)]
    omega
  rw [hw, and64]
  congr 2
  have hmod : v.toNat % 2 ^ i = 0 := by
    apply Nat.eq_of_testBit_eq
    intro j
    rw [Nat.testBit_mod_two_pow, Nat.zero_testBit]
    by_cases hj : j < i
    · have := h0 j hj
      unfold BitVec.getLsbD at this
      rw [this, Bool.and_false]
    · rw [decide_eq_false hj, Bool.false_and]
  have hodd : v.toNat / 2 ^ i % 2 = 1 := by
    have h := h1
    unfold BitVec.getLsbD at h
    rw [Nat.testBit_eq_decide_div_mod_eq] at h
    exact of_decide_eq_true h
  obtain ⟨q, hq⟩ : ∃ q, v.toNat / 2 ^ i = 2 * q + 1 := ⟨v.toNat / 2 ^ i / 2, by omega⟩
  have hv : v.toNat = 2 ^ i * (2 * q + 1) + 0 := by
    have := Nat.div_add_mod v.toNat (2 ^ i)
    rw [hmod, hq] at this
    exact this.symm
  have h2i : 0 < 2 ^ i := Nat.two_pow_pos i
  have hx : v.toNat - 1 = 2 ^ i * (2 * q) + (2 ^ i - 1) := by
    rw [hv, Nat.mul_add, Nat.mul_one]
    omega
  apply BitVec.eq_of_getLsbD_eq
  intro j hj
  rw [BitVec.getLsbD_and, BitVec.getLsbD_twoPow, BitVec.getLsbD_ofNat]
  have e1 : 2 ^ 64 - v.toNat = 2 ^ 64 - (v.toNat - 1 + 1) := by omega
  rw [e1, Nat.testBit_two_pow_sub_succ (by omega), hx, Nat.testBit_two_pow_mul_add _ (by omega)]
  by_cases c : j < i
  · rw [h0 j c, decide_eq_false (p := i = j) (by omega), Bool.false_and, Bool.and_false]
  · have hvb : v.getLsbD j = (2 * q + 1).testBit (j - i) := by
      unfold BitVec.getLsbD
      rw [hv, Nat.testBit_two_pow_mul_add _ h2i, if_neg c]
    rw [hvb, if_neg c, decide_eq_true hj]
    by_cases e : i = j
    · subst e
      simp
      exact hj
    · obtain ⟨k, hk⟩ : ∃ k, j - i = k + 1 := ⟨j - i - 1, by omega⟩
      rw [hk, Nat.testBit_succ, Nat.testBit_succ, decide_eq_false e, show (2 * q + 1) / 2 = q by omega, show 2 * q / 2 = q by omega]
      cases q.testBit k <;> simp
theorem andN {a b : Nat} (ha : a < 2 ^ 64) (hb : b < 2 ^ 64) : intBits .and .u64 (a : Int) (b : Int) = ((a &&& b : Nat) : Int) := by
  have h := and64 (BitVec.ofNat 64 a) (BitVec.ofNat 64 b)
  rw [BitVec.toNat_and, BitVec.toNat_ofNat, BitVec.toNat_ofNat, Nat.mod_eq_of_lt ha, Nat.mod_eq_of_lt hb] at h
  exact h
theorem shrN (a k : Nat) (hk : k ≤ 64) : shrI .u64 (a : Int) (k : Int) = ((a / 2 ^ k : Nat) : Int) := by
  have : shrI .u64 (a : Int) (k : Int) = (a : Int).fdiv (2 ^ min k 64) := rfl
  rw [this, Nat.min_eq_left hk, Int.fdiv_eq_ediv_of_nonneg _ (by have := Nat.two_pow_pos k; exact_mod_cast Nat.le_of_lt this)]
  norm_cast
theorem wrapN {a : Nat} (h : a < 18446744073709551616) : IntKind.wrap .u64 (a : Int) = (a : Int) := by rw [wu64]; omega
theorem pop_eq (v : BitVec 64) : popI (v.toNat : Int) = (popB v.toNat : Int) := by
  have hv := v.isLt
  rw [← pN_eq hv]
  generalize hn : v.toNat = n at *
  have a1 : n / 2 &&& 6148914691236517205 ≤ 6148914691236517205 := Nat.and_le_right
  have a2 : n &&& 6148914691236517205 ≤ 6148914691236517205 := Nat.and_le_right
  have e1 : IntKind.wrap .u64 ((intBits .and .u64 (shrI .u64 (n : Int) 1) 6148914691236517205) + (intBits .and .u64 (n : Int) 6148914691236517205)) = ((pN1 n : Nat) : Int) := by
    have s := shrN n 1 (by omega)
    have i1 := andN (a := n / 2 ^ 1) (b := 6148914691236517205) (by omega) (by omega)
    have i2 := andN (a := n) (b := 6148914691236517205) (by omega) (by omega)
    have s' : shrI .u64 (n : Int) 1 = _ := s
    have i1' : intBits .and .u64 (((n / 2 ^ 1 : Nat)) : Int) 6148914691236517205 = _ := i1
    have i2' : intBits .and .u64 (n : Int) 6148914691236517205 = _ := i2
    rw [s', i1', i2', ← Int.natCast_add, wrapN (by have : n / 2 ^ 1 = n / 2 := rfl; rw [this]; exact Nat.lt_of_le_of_lt (Nat.add_le_add a1 a2) (by decide))]
    rfl
  have l1 : pN1 n < 18446744073709551616 := by unfold pN1; omega
  generalize pN1 n = n1 at *
  have a3 : n1 / 4 &&& 3689348814741910323 ≤ 3689348814741910323 := Nat.and_le_right
  have a4 : n1 &&& 3689348814741910323 ≤ 3689348814741910323 := Nat.and_le_right
  have e2 : IntKind.wrap .u64 ((intBits .and .u64 (shrI .u64 (n1 : Int) 2) 3689348814741910323) + (intBits .and .u64 (n1 : Int) 3689348814741910323)) = ((pN2 n1 : Nat) : Int) := by
    have s' : shrI .u64 (n1 : Int) 2 = _ := shrN n1 2 (by omega)
    have i1' : intBits .and .u64 (((n1 / 2 ^ 2 : Nat)) : Int) 3689348814741910323 = _ := andN (a := n1 / 2 ^ 2) (b := 3689348814741910323) (by omega) (by omega)
    have i2' : intBits .and .u64 (n1 : Int) 3689348814741910323 = _ := andN (a := n1) (b := 3689348814741910323) (by omega) (by omega)
    rw [s', i1', i2', ← Int.natCast_add, wrapN (by have : n1 / 2 ^ 2 = n1 / 4 := rfl; rw [this]; exact Nat.lt_of_le_of_lt (Nat.add_le_add a3 a4) (by decide))]
    rfl
  have l2 : pN2 n1 ≤ 7378697629483820646 := by unfold pN2; omega
  generalize pN2 n1 = n2 at *
  have e3 : intBits .and .u64 (IntKind.wrap .u64 ((shrI .u64 (n2 : Int) 4) + (n2 : Int))) 1085102592571150095 = ((pN3 n2 : Nat) : Int) := by
    have s' : shrI .u64 (n2 : Int) 4 = _ := shrN n2 4 (by omega)
    have i1' : intBits .and .u64 ((n2 / 2 ^ 4 + n2 : Nat) : Int) 1085102592571150095 = _ := andN (a := n2 / 2 ^ 4 + n2) (b := 1085102592571150095) (by omega) (by omega)
    rw [s', ← Int.natCast_add, wrapN (by omega), i1']
    rfl
  have l3 : pN3 n2 ≤ 1085102592571150095 := by unfold pN3; exact Nat.and_le_right
  generalize pN3 n2 = n3 at *
  have s8 : ∀ k : Nat, k < 9223372036854775808 → IntKind.wrap .u64 ((k : Int) + (shrI .u64 (k : Int) 8)) = ((k + k / 256 : Nat) : Int) := fun k hk => by
    have s' : shrI .u64 (k : Int) 8 = _ := shrN k 8 (by omega)
    rw [s', ← Int.natCast_add, wrapN (by omega)]
  have s16 : ∀ k : Nat, k < 9223372036854775808 → IntKind.wrap .u64 ((k : Int) + (shrI .u64 (k : Int) 16)) = ((k + k / 65536 : Nat) : Int) := fun k hk => by
    have s' : shrI .u64 (k : Int) 16 = _ := shrN k 16 (by omega)
    rw [s', ← Int.natCast_add, wrapN (by omega)]
  have s32 : ∀ k : Nat, k < 9223372036854775808 → IntKind.wrap .u64 ((k : Int) + (shrI .u64 (k : Int) 32)) = ((k + k / 4294967296 : Nat) : Int) := fun k hk => by
    have s' : shrI .u64 (k : Int) 32 = _ := shrN k 32 (by omega)
    rw [s', ← Int.natCast_add, wrapN (by omega)]
  have e127 : ∀ k : Nat, k < 9223372036854775808 → intBits .and .i64 (IntKind.wrap .i64 (k : Int)) 127 = ((k % 128 : Nat) : Int) := fun k hk => by
    have hw : IntKind.wrap .i64 (k : Int) = (k : Int) := w64 (by omega) (by omega)
    have ho : ∀ j : Nat, BitVec.ofInt 64 (j : Int) = BitVec.ofNat 64 j := fun j => BitVec.ofInt_natCast 64 j
    have hd : intBits .and .i64 (k : Int) 127 = IntKind.wrap .i64 ((BitVec.ofInt 64 (k : Int) &&& BitVec.ofInt 64 ((127 : Nat) : Int)).toNat : Int) := rfl
    rw [hw, hd, ho, ho, BitVec.toNat_and, BitVec.toNat_ofNat, BitVec.toNat_ofNat, Nat.mod_eq_of_lt (a := k) (by omega), Nat.mod_eq_of_lt (a := 127) (by omega)]
    have : k &&& 127 = k % 128 := Nat.and_two_pow_sub_one_eq_mod k 7
    rw [this, w64 (by omega) (by omega)]
  unfold popI
  rw [e1, e2, e3, s8 n3 (by omega), s16 _ (by omega), s32 _ (by omega), e127 _ (by omega)]
  rfl
theorem f_count (v : BitVec 64) : P_bt ((v.toNat : Int), ()) = some ((popB v.toNat : Int), ()) := by
  rw [p_bt, f_pop, pop_eq]
  rfl
end Go.VI
/- Plain: some cells, at most so many more, meet all lines: what the search tells. -/
namespace Go.VI
open Go.Proofs
abbrev B64 := BitVec 64
def nums (ns : List B64) : List Int := ns.map fun v => (v.toNat : Int)
def Hit (T : List Nat) (v : B64) : Prop := ∃ i ∈ T, v.getLsbD i = true
def Sat (ns : List B64) (ch : B64) (w : Nat → Prop) (more : Nat) : Prop :=
  ∃ T : List Nat, T.length ≤ more ∧ (∀ i ∈ T, ¬ w i) ∧ ∀ v ∈ ns, v &&& ch ≠ 0 ∨ Hit T v
theorem zero_iff (v : B64) : v = 0 ↔ ∀ i, v.getLsbD i = false := by
  constructor
  · rintro rfl i; simp
  · intro h
    apply BitVec.eq_of_getLsbD_eq
    intro i _
    rw [h i]; simp
theorem nz_bit {v : B64} (h : v ≠ 0) : ∃ i, i < 64 ∧ v.getLsbD i = true := by
  apply Classical.byContradiction
  intro hn
  apply h
  rw [zero_iff]
  intro i
  by_cases hi : i < 64
  · cases hb : v.getLsbD i with
    | false => rfl
    | true => exact absurd ⟨i, hi, hb⟩ hn
  · exact BitVec.getLsbD_of_ge v i (by omega)
theorem bit_lt {v : B64} {i : Nat} (h : v.getLsbD i = true) : i < 64 := BitVec.lt_of_getLsbD h
theorem low_ex {v : B64} (h : v ≠ 0) (p : Nat → Prop) (hp : ∃ i, v.getLsbD i = true ∧ p i) : ∃ e, v.getLsbD e = true ∧ p e ∧ ∀ j, j < e → v.getLsbD j = true → ¬ p j := by
  obtain ⟨i, hi, hpi⟩ := hp
  induction i using Nat.strongRecOn with
  | _ i ih =>
    by_cases hq : ∃ j, j < i ∧ v.getLsbD j = true ∧ p j
    · obtain ⟨j, hj, h1, h2⟩ := hq
      exact ih j hj h1 h2
    · exact ⟨i, hi, hpi, fun j hj h1 h2 => hq ⟨j, hj, h1, h2⟩⟩
theorem zdec (v : B64) : decide (((v.toNat : Nat) : Int) = 0) = decide (v = 0) := by
  by_cases h : v = 0
  · subst h; rfl
  · rw [decide_eq_false h, decide_eq_false]
    intro hh
    apply h
    apply BitVec.eq_of_toNat_eq
    have : (0 : B64).toNat = 0 := rfl
    omega
structure Met (ns : List B64) (ch wo : B64) (i : Nat) (least : B64) (found : Bool) (ap : Nat) (used : B64) : Prop where
  none : found = false → (∀ v ∈ ns.take i, v &&& ch ≠ 0) ∧ used = 0 ∧ ap = 0
  some : found = true → (∃ v ∈ ns, v &&& ch = 0 ∧ least = v &&& ~~~wo) ∧ least ≠ 0 ∧ 1 ≤ ap
  le : ap ≤ i
  apart : ∀ T : List Nat, (∀ j ∈ T, wo.getLsbD j = false) → (∀ v ∈ ns, v &&& ch = 0 → Hit T v) → ap ≤ (T.filter fun j => used.getLsbD j).length
theorem apart_more {T : List Nat} {used left : B64} (hd : left &&& used = 0) (hh : Hit T left) : (T.filter fun j => used.getLsbD j).length + 1 ≤ (T.filter fun j => (used ||| left).getLsbD j).length := by
  obtain ⟨e, he, hb⟩ := hh
  have hu : used.getLsbD e = false := by
    have := (zero_iff _).1 hd e
    rw [BitVec.getLsbD_and, hb, Bool.true_and] at this
    exact this
  exact filter_lt (fun j => (used ||| left).getLsbD j) (fun j => used.getLsbD j) T (fun x _ hx => by rw [BitVec.getLsbD_or, hx, Bool.true_or]) ⟨e, he, by rw [BitVec.getLsbD_or, hb, Bool.or_true], hu⟩
theorem hit_left {T : List Nat} {v wo : B64} (hT : ∀ j ∈ T, wo.getLsbD j = false) (h : Hit T v) : Hit T (v &&& ~~~wo) := by
  obtain ⟨i, hi, hb⟩ := h
  refine ⟨i, hi, ?_⟩
  rw [BitVec.getLsbD_and, BitVec.getLsbD_not, hb, hT i hi, decide_eq_true (bit_lt hb)]
  rfl
theorem met_step {ns : List B64} {ch wo : B64} {i : Nat} {least : B64} {found : Bool} {ap : Nat} {used : B64} (h : Met ns ch wo i least found ap used) (hlt : i < ns.length) (hu : ns[i] &&& ch = 0) (hl : ns[i] &&& ~~~wo ≠ 0) (least' : B64) (h' : least' = ns[i] &&& ~~~wo ∨ found = true ∧ least' = least) :
    ((ns[i] &&& ~~~wo) &&& used = 0 → Met ns ch wo (i + 1) least' true (ap + 1) (used ||| (ns[i] &&& ~~~wo))) ∧ ((ns[i] &&& ~~~wo) &&& used ≠ 0 → Met ns ch wo (i + 1) least' true ap used) := by
  have hm : ns[i] ∈ ns := List.getElem_mem hlt
  have hs : (∃ v ∈ ns, v &&& ch = 0 ∧ least' = v &&& ~~~wo) ∧ least' ≠ 0 := by
    rcases h' with rfl | ⟨hf, rfl⟩
    · exact ⟨⟨_, hm, hu, rfl⟩, hl⟩
    · exact ⟨(h.some hf).1, (h.some hf).2.1⟩
  refine ⟨fun hd => ⟨(fun hf => by cases hf), fun _ => ⟨hs.1, hs.2, by omega⟩, by have := h.le; omega, fun T h1 h2 => ?_⟩, fun hd => ⟨(fun hf => by cases hf), fun _ => ⟨hs.1, hs.2, ?_⟩, by have := h.le; omega, fun T h1 h2 => h.apart T h1 h2⟩⟩
  · have := h.apart T h1 h2
    have := apart_more hd (hit_left h1 (h2 _ hm hu))
    omega
  · cases hf : found with
    | true => exact (h.some hf).2.2
    | false =>
      rw [(h.none hf).2.1] at hd
      simp at hd
theorem met_skip {ns : List B64} {ch wo : B64} {i : Nat} {least : B64} {found : Bool} {ap : Nat} {used : B64} (h : Met ns ch wo i least found ap used) (hlt : i < ns.length) (hu : ns[i] &&& ch ≠ 0) : Met ns ch wo (i + 1) least found ap used :=
  ⟨fun hf => ⟨fun v hv => by
    rw [List.take_add_one, List.getElem?_eq_getElem hlt] at hv
    rcases List.mem_append.1 hv with hv | hv
    · exact (h.none hf).1 v hv
    · have : v = ns[i] := by simpa using hv
      rw [this]; exact hu, (h.none hf).2⟩, h.some, by have := h.le; omega, h.apart⟩
noncomputable def meetTail (k : Nat) (ns : List B64) (ch wo : B64) (more : Nat) (least : B64) (found : Bool) (ap : Nat) : Option (Bool × Unit) :=
  bif !found then some (true, ()) else bif decide ((ap : Int) > (more : Int)) then some (false, ()) else l_ac_19 k N (nums ns) (ch.toNat : Int) (wo.toNat : Int) (more : Int) (least.toNat : Int)
theorem nums_at {ns : List B64} {i : Nat} (h : i < ns.length) : nth ((.int .u64) : Ty) (nums ns) (i : Int) = (ns[i].toNat : Int) := by
  rw [nthA (t := .int .u64) (l := nums ns) (k := i) (by unfold nums; rw [List.length_map]; exact h)]
  simp [nums]
theorem nums_len (ns : List B64) : (nums ns).length = ns.length := by simp [nums]
theorem l_meet3 (k : Nat) {ns : List B64} (hn : ns.length ≤ 1000) (ch wo : B64) (more : Nat) : ∀ (d i m : Nat) (least : B64) (found : Bool) (ap : Nat) (used : B64), ns.length = i + d → d < m → Met ns ch wo i least found ap used →
    ∃ o, l_ac_3 k m (nums ns) (ch.toNat : Int) (wo.toNat : Int) (more : Int) (least.toNat : Int) found (ap : Int) (used.toNat : Int) (nums ns) ((nums ns).length : Int) (i : Int) = o ∧
      ((o = some (false, ()) ∧ ∃ v ∈ ns, v &&& ch = 0 ∧ v &&& ~~~wo = 0) ∨ ∃ (least' : B64) (found' : Bool) (ap' : Nat) (used' : B64), o = meetTail k ns ch wo more least' found' ap' ∧ Met ns ch wo ns.length least' found' ap' used')
  | d, i, 0, _, _, _, _, _, h, _ => by omega
  | d, i, m + 1, least, found, ap, used, hk, hm, hI => by
    refine ⟨_, rfl, ?_⟩
    rw [q_ac_3]
    have hle := hI.le
    by_cases hlt : i < ns.length
    · have hlt' : i < (nums ns).length := by rw [nums_len]; exact hlt
      rw [ltT hlt', inB_at hlt', nums_at hlt, and64, zdec, andNot64, zdec, succI i (by omega)]
      simp only [cond_true]
      by_cases hu : ns[i] &&& ch = 0
      · rw [decide_eq_true hu]
        simp only [Bool.not_true, cond_false]
        by_cases hl : ns[i] &&& ~~~wo = 0
        · rw [decide_eq_true hl]
          exact .inl ⟨rfl, _, List.getElem_mem hlt, hu, hl⟩
        · rw [decide_eq_false hl]
          simp only [cond_false]
          rw [and64, zdec, or64, f_count, f_count, succI ap (by omega)]
          simp only [Option.bind_some]
          have go : ∀ least' : B64, (least' = ns[i] &&& ~~~wo ∨ found = true ∧ least' = least) →
              ∃ o, (bif decide (ns[i] &&& ~~~wo &&& used = 0) then l_ac_3 k m (nums ns) (ch.toNat : Int) (wo.toNat : Int) (more : Int) (least'.toNat : Int) true ((ap + 1 : Nat) : Int) ((used ||| (ns[i] &&& ~~~wo)).toNat : Int) (nums ns) ((nums ns).length : Int) ((i + 1 : Nat) : Int)
                else l_ac_3 k m (nums ns) (ch.toNat : Int) (wo.toNat : Int) (more : Int) (least'.toNat : Int) true (ap : Int) (used.toNat : Int) (nums ns) ((nums ns).length : Int) ((i + 1 : Nat) : Int)) = o ∧
              ((o = some (false, ()) ∧ ∃ v ∈ ns, v &&& ch = 0 ∧ v &&& ~~~wo = 0) ∨ ∃ (least' : B64) (found' : Bool) (ap' : Nat) (used' : B64), o = meetTail k ns ch wo more least' found' ap' ∧ Met ns ch wo ns.length least' found' ap' used') := by
            intro least' hl'
            obtain ⟨s1, s2⟩ := met_step hI hlt hu hl least' hl'
            by_cases hd : ns[i] &&& ~~~wo &&& used = 0
            · rw [decide_eq_true hd]
              exact l_meet3 k hn ch wo more (d - 1) (i + 1) m least' true (ap + 1) _ (by omega) (by omega) (s1 hd)
            · rw [decide_eq_false hd]
              exact l_meet3 k hn ch wo more (d - 1) (i + 1) m least' true ap _ (by omega) (by omega) (s2 hd)
          cases hf : found with
          | false =>
            obtain ⟨o, e, r⟩ := go (ns[i] &&& ~~~wo) (.inl rfl)
            simp only [Bool.not_false, cond_true]
            rw [e]
            exact r
          | true =>
            simp only [Bool.not_true, cond_false]
            cases decide (((popB (ns[i] &&& ~~~wo).toNat : Nat) : Int) < ((popB least.toNat : Nat) : Int)) with
            | true =>
              obtain ⟨o, e, r⟩ := go (ns[i] &&& ~~~wo) (.inl rfl)
              simp only [cond_true]
              rw [e]
              exact r
            | false =>
              obtain ⟨o, e, r⟩ := go least (.inr ⟨hf, rfl⟩)
              simp only [cond_false]
              rw [e]
              exact r
      · rw [decide_eq_false hu]
        simp only [Bool.not_false, cond_true]
        obtain ⟨o, e, r⟩ := l_meet3 k hn ch wo more (d - 1) (i + 1) m least found ap used (by omega) (by omega) (met_skip hI hlt hu)
        rw [e]
        exact r
    · have hge : ¬ i < (nums ns).length := by rw [nums_len]; exact hlt
      rw [ltF hge]
      have : i = ns.length := by omega
      rw [this] at hI
      exact .inr ⟨least, found, ap, used, rfl, hI⟩
theorem bit_or_one (v : B64) (e : Nat) (he : e < 64) (j : Nat) : (v ||| BitVec.twoPow 64 e).getLsbD j = (v.getLsbD j || decide (j = e)) := by
  rw [BitVec.getLsbD_or, BitVec.getLsbD_twoPow]
  by_cases h : j = e
  · subst h; simp [he]
  · rw [decide_eq_false h, decide_eq_false (p := e = j) (fun x => h x.symm), Bool.and_false]
theorem bit_less_one (v : B64) (e : Nat) (he : e < 64) (j : Nat) : (v &&& ~~~(BitVec.twoPow 64 e)).getLsbD j = (v.getLsbD j && !decide (j = e)) := by
  rw [BitVec.getLsbD_and, BitVec.getLsbD_not, BitVec.getLsbD_twoPow]
  by_cases h : j = e
  · subst h; simp [he]
  · rw [decide_eq_false h, decide_eq_false (p := e = j) (fun x => h x.symm), Bool.and_false]
    cases hv : v.getLsbD j with
    | false => rfl
    | true => rw [decide_eq_true (bit_lt hv)]; rfl
theorem l_meet19 (k : Nat) {ns : List B64} (ch : B64) (more : Nat) (h1 : 1 ≤ more) (hmo : more ≤ 1000)
    (ih : ∀ ch' wo' : B64, ∃ b, Pk_ac k (nums ns, (ch'.toNat : Int), (wo'.toNat : Int), ((more - 1 : Nat) : Int), ()) = some (b, ()) ∧ (b = true ↔ Sat ns ch' (fun i => wo'.getLsbD i = true) (more - 1))) : ∀ (d s m : Nat) (wo least : B64), s + d = 64 → d < m → (∀ j, j < s → least.getLsbD j = false) →
    ∃ b, l_ac_19 k m (nums ns) (ch.toNat : Int) (wo.toNat : Int) (more : Int) (least.toNat : Int) = some (b, ()) ∧ (b = true ↔ ∃ e, least.getLsbD e = true ∧ Sat ns (ch ||| BitVec.twoPow 64 e) (fun i => wo.getLsbD i = true ∨ (least.getLsbD i = true ∧ i < e)) (more - 1)) := by
  intro d
  induction d using Nat.strongRecOn with
  | _ d ihd =>
    intro s m wo least hs hm hlow
    obtain ⟨m, rfl⟩ : ∃ m', m = m' + 1 := ⟨m - 1, by omega⟩
    rw [q_ac_19, zdec]
    by_cases hz : least = 0
    · rw [decide_eq_true hz]
      refine ⟨false, rfl, ?_⟩
      subst hz
      simp
    · obtain ⟨e0, he0, hb0⟩ := nz_bit hz
      obtain ⟨e, hb, _, hmin⟩ := low_ex hz (fun _ => True) ⟨e0, hb0, trivial⟩
      have he := bit_lt hb
      have hse : s ≤ e := by
        apply Classical.byContradiction
        intro hc
        have := hlow e (by omega)
        rw [this] at hb
        cases hb
      have hlow' : ∀ j, j < e → least.getLsbD j = false := fun j hj => by
        cases hx : least.getLsbD j with
        | false => rfl
        | true => exact absurd trivial (hmin j hj hx)
      rw [decide_eq_false hz, low_bit least e he hb hlow', or64, or64, andNot64]
      simp only [Bool.not_false, cond_true]
      have hw : IntKind.wrap .i64 ((more : Int) - 1) = ((more - 1 : Nat) : Int) := by rw [w64 (by omega) (by omega)]; omega
      rw [hw]
      obtain ⟨b, eb, hbi⟩ := ih (ch ||| BitVec.twoPow 64 e) wo
      rw [eb]
      simp only [Option.bind_some]
      have hsame : Sat ns (ch ||| BitVec.twoPow 64 e) (fun i => wo.getLsbD i = true) (more - 1) ↔ Sat ns (ch ||| BitVec.twoPow 64 e) (fun i => wo.getLsbD i = true ∨ (least.getLsbD i = true ∧ i < e)) (more - 1) := by
        have : (fun i => wo.getLsbD i = true) = (fun i => wo.getLsbD i = true ∨ (least.getLsbD i = true ∧ i < e)) := by
          funext i
          apply propext
          constructor
          · exact .inl
          · rintro (h | ⟨h, hi⟩)
            · exact h
            · rw [hlow' i hi] at h; cases h
        rw [this]
      cases hbv : b with
      | true =>
        refine ⟨true, rfl, fun _ => ⟨e, hb, ?_⟩, fun _ => rfl⟩
        exact hsame.1 (hbi.1 hbv)
      | false =>
        simp only [cond_false]
        obtain ⟨b2, e2, h2⟩ := ihd (64 - (e + 1)) (by omega) (e + 1) m (wo ||| BitVec.twoPow 64 e) (least &&& ~~~(BitVec.twoPow 64 e)) (by omega) (by omega) (fun j hj => by
          rw [bit_less_one _ _ he]
          by_cases hje : j = e
          · rw [decide_eq_true hje]; simp
          · rw [hlow' j (by omega)]; rfl)
        refine ⟨b2, e2, h2.trans ?_⟩
        have hpred : ∀ e', e < e' → (fun i => (wo ||| BitVec.twoPow 64 e).getLsbD i = true ∨ ((least &&& ~~~(BitVec.twoPow 64 e)).getLsbD i = true ∧ i < e')) = (fun i => wo.getLsbD i = true ∨ (least.getLsbD i = true ∧ i < e')) := fun e' hee => by
          funext i
          apply propext
          rw [bit_or_one _ _ he, bit_less_one _ _ he]
          by_cases hie : i = e
          · subst hie
            simp [hb, hee]
          · rw [decide_eq_false hie]; simp
        constructor
        · rintro ⟨e', hb', hs'⟩
          rw [bit_less_one _ _ he] at hb'
          have hb1 : least.getLsbD e' = true := by
            cases hx : least.getLsbD e' with
            | true => rfl
            | false => rw [hx] at hb'; cases hb'
          have hne : e' ≠ e := fun h => by rw [h] at hb'; simp at hb'
          have hgt : e < e' := by
            apply Classical.byContradiction
            intro hc
            rw [hlow' e' (by omega)] at hb1
            cases hb1
          rw [hpred e' hgt] at hs'
          exact ⟨e', hb1, hs'⟩
        · rintro ⟨e', hb', hs'⟩
          by_cases hee : e' = e
          · subst hee
            have := hbi.2 (hsame.2 hs')
            rw [hbv] at this
            cases this
          · have hgt : e < e' := by
              apply Classical.byContradiction
              intro hc
              rw [hlow' e' (by omega)] at hb'
              cases hb'
            refine ⟨e', ?_, ?_⟩
            · rw [bit_less_one _ _ he, hb', decide_eq_false hee]; rfl
            · rw [hpred e' hgt]; exact hs'
theorem sat_split {ns : List B64} {ch wo v : B64} {more : Nat} (h1 : 1 ≤ more) (hv : v ∈ ns) (hu : v &&& ch = 0) (hl : v &&& ~~~wo ≠ 0) :
    (∃ e, (v &&& ~~~wo).getLsbD e = true ∧ Sat ns (ch ||| BitVec.twoPow 64 e) (fun i => wo.getLsbD i = true ∨ ((v &&& ~~~wo).getLsbD i = true ∧ i < e)) (more - 1)) ↔ Sat ns ch (fun i => wo.getLsbD i = true) more := by
  have hbit : ∀ i, (v &&& ~~~wo).getLsbD i = true ↔ v.getLsbD i = true ∧ wo.getLsbD i = false := fun i => by
    rw [BitVec.getLsbD_and, BitVec.getLsbD_not]
    constructor
    · intro h
      rw [Bool.and_eq_true, Bool.and_eq_true] at h
      exact ⟨h.1, by simpa using h.2.2⟩
    · rintro ⟨a, b⟩
      rw [a, b, decide_eq_true (bit_lt a)]; rfl
  constructor
  · rintro ⟨e, he, T, t1, t2, t3⟩
    refine ⟨e :: T, by simp; omega, fun i hi => ?_, fun x hx => ?_⟩
    · rcases List.mem_cons.1 hi with rfl | hi
      · show ¬ wo.getLsbD i = true
        rw [((hbit _).1 he).2]; simp
      · exact fun h => t2 i hi (.inl h)
    · rcases t3 x hx with h | ⟨i, hi, hb⟩
      · by_cases hxe : x.getLsbD e = true
        · exact .inr ⟨e, List.mem_cons_self .., hxe⟩
        · left
          intro hz
          apply h
          rw [zero_iff] at hz ⊢
          intro j
          have := hz j
          rw [BitVec.getLsbD_and] at this ⊢
          rw [bit_or_one _ _ (bit_lt he)]
          by_cases hj : j = e
          · subst hj
            cases hxj : x.getLsbD j with
            | true => exact absurd hxj hxe
            | false => rfl
          · rw [decide_eq_false hj, Bool.or_false]; exact this
      · exact .inr ⟨i, List.mem_cons_of_mem _ hi, hb⟩
  · rintro ⟨T, t1, t2, t3⟩
    have hTv : Hit T v := (t3 v hv).resolve_left (fun h => h hu)
    obtain ⟨i, hi, hb⟩ := hTv
    have hwi : wo.getLsbD i = false := by
      have := t2 i hi
      simpa using this
    obtain ⟨e, he, heT, hmin⟩ := low_ex hl (fun j => j ∈ T) ⟨i, (hbit i).2 ⟨hb, hwi⟩, hi⟩
    refine ⟨e, he, T.erase e, by rw [List.length_erase_of_mem heT]; omega, fun j hj => ?_, fun x hx => ?_⟩
    · have hjT := List.mem_of_mem_erase hj
      rintro (h | ⟨h, hlt⟩)
      · exact t2 j hjT h
      · exact hmin j hlt h hjT
    · rcases t3 x hx with h | ⟨j, hj, hb⟩
      · left
        intro hz
        apply h
        rw [zero_iff] at hz ⊢
        intro j
        have := hz j
        rw [BitVec.getLsbD_and, BitVec.getLsbD_or] at this
        rw [BitVec.getLsbD_and]
        cases hxj : x.getLsbD j with
        | false => rfl
        | true =>
          rw [hxj, Bool.true_and, Bool.or_eq_false_iff] at this
          rw [this.1]; rfl
      · by_cases hje : j = e
        · subst hje
          left
          intro hz
          have := (zero_iff _).1 hz j
          rw [BitVec.getLsbD_and, hb, bit_or_one _ _ (bit_lt hb), decide_eq_true rfl, Bool.or_true] at this
          cases this
        · exact .inr ⟨j, (List.mem_erase_of_ne hje).2 hj, hb⟩
theorem met_start (ns : List B64) (ch wo : B64) : Met ns ch wo 0 0 false 0 0 :=
  ⟨fun _ => ⟨by simp, rfl, rfl⟩, (fun h => by cases h), Nat.le_refl _, fun T _ _ => Nat.zero_le _⟩
theorem f_canMeet {ns : List B64} (hn : ns.length ≤ 1000) : ∀ (more k : Nat), more ≤ 1000 → more < k → ∀ ch wo : B64,
    ∃ b, Pk_ac k (nums ns, (ch.toNat : Int), (wo.toNat : Int), (more : Int), ()) = some (b, ()) ∧ (b = true ↔ Sat ns ch (fun i => wo.getLsbD i = true) more) := by
  intro more
  induction more with
  | zero =>
    intro k _ hk ch wo
    obtain ⟨k, rfl⟩ : ∃ k', k = k' + 1 := ⟨k - 1, by omega⟩
    obtain ⟨o, e, r⟩ := l_meet3 k hn ch wo 0 ns.length 0 N 0 false 0 0 (by simp) (by have := N_ge; omega) (met_start ns ch wo)
    rw [p_ac]
    have e' : l_ac_3 k N (nums ns) (ch.toNat : Int) (wo.toNat : Int) 0 0 false 0 0 (nums ns) ((nums ns).length : Int) 0 = o := e
    have e'' : l_ac_3 k N (nums ns) (ch.toNat : Int) (wo.toNat : Int) ((0 : Nat) : Int) 0 false 0 0 (nums ns) ((nums ns).length : Int) 0 = o := e'
    rw [e'']
    rcases r with ⟨rfl, v, hv, h1, h2⟩ | ⟨l', f', a', u', rfl, hM⟩
    · refine ⟨false, rfl, ⟨(fun h => by cases h), ?_⟩⟩
      rintro ⟨T, t1, t2, t3⟩
      obtain ⟨i, hi, hb⟩ := (t3 v hv).resolve_left (fun h => h h1)
      have := hit_left (wo := wo) (fun j hj => by simpa using t2 j hj) ⟨i, hi, hb⟩
      obtain ⟨j, _, hj⟩ := this
      rw [h2] at hj
      simp at hj
    · unfold meetTail
      cases hf : f' with
      | false =>
        refine ⟨true, rfl, fun _ => ⟨[], Nat.zero_le _, by simp, fun v hv => .inl ?_⟩, fun _ => rfl⟩
        exact (hM.none hf).1 v (by rw [List.take_length]; exact hv)
      | true =>
        have ha := (hM.some hf).2.2
        simp only [Bool.not_true, cond_false]
        rw [decide_eq_true (by omega)]
        refine ⟨false, rfl, ⟨(fun h => by cases h), ?_⟩⟩
        rintro ⟨T, t1, t2, t3⟩
        have := hM.apart T (fun j hj => by simpa using t2 j hj) (fun v hv hz => (t3 v hv).resolve_left fun h => h hz)
        have := List.length_filter_le (fun j => u'.getLsbD j) T
        omega
  | succ more ihm =>
    intro k hmo hk ch wo
    obtain ⟨k, rfl⟩ : ∃ k', k = k' + 1 := ⟨k - 1, by omega⟩
    obtain ⟨o, e, r⟩ := l_meet3 k hn ch wo (more + 1) ns.length 0 N 0 false 0 0 (by simp) (by have := N_ge; omega) (met_start ns ch wo)
    rw [p_ac]
    have e' : l_ac_3 k N (nums ns) (ch.toNat : Int) (wo.toNat : Int) ((more + 1 : Nat) : Int) 0 false 0 0 (nums ns) ((nums ns).length : Int) 0 = o := e
    rw [e']
    rcases r with ⟨rfl, v, hv, h1, h2⟩ | ⟨l', f', a', u', rfl, hM⟩
    · refine ⟨false, rfl, ⟨(fun h => by cases h), ?_⟩⟩
      rintro ⟨T, t1, t2, t3⟩
      obtain ⟨i, hi, hb⟩ := (t3 v hv).resolve_left (fun h => h h1)
      have := hit_left (wo := wo) (fun j hj => by simpa using t2 j hj) ⟨i, hi, hb⟩
      obtain ⟨j, _, hj⟩ := this
      rw [h2] at hj
      simp at hj
    · unfold meetTail
      cases hf : f' with
      | false =>
        refine ⟨true, rfl, fun _ => ⟨[], Nat.zero_le _, by simp, fun v hv => .inl ?_⟩, fun _ => rfl⟩
        exact (hM.none hf).1 v (by rw [List.take_length]; exact hv)
      | true =>
        obtain ⟨⟨v, hv, hu, hlv⟩, hl0, ha⟩ := hM.some hf
        simp only [Bool.not_true, cond_false]
        by_cases hap : (a' : Int) > ((more + 1 : Nat) : Int)
        · rw [decide_eq_true hap]
          refine ⟨false, rfl, ⟨(fun h => by cases h), ?_⟩⟩
          rintro ⟨T, t1, t2, t3⟩
          have := hM.apart T (fun j hj => by simpa using t2 j hj) (fun v hv hz => (t3 v hv).resolve_left fun h => h hz)
          have := List.length_filter_le (fun j => u'.getLsbD j) T
          omega
        · rw [decide_eq_false hap]
          simp only [cond_false]
          obtain ⟨b, e19, hb⟩ := l_meet19 k (ns := ns) ch (more + 1) (by omega) hmo (fun ch' wo' => ihm k (by omega) (by omega) ch' wo') 64 0 N wo l' (by omega) (by have := N_ge; omega) (fun j hj => by omega)
          rw [e19]
          refine ⟨b, rfl, hb.trans ?_⟩
          subst hlv
          exact sat_split (by omega) hv hu hl0
end Go.VI
/- Plain: cuts. -/
namespace Go.VI
open Go.Proofs
def sh (d s : Int) (c : D_A3) : D_A3 := ((bif decide (d = 0) then c.1 + s else c.1), (bif decide (d = 1) then c.2.1 + s else c.2.1), (bif decide (d = 2) then c.2.2.1 + s else c.2.2.1), ())
theorem dir {d : Int} (h0 : 0 ≤ d) (h1 : d ≤ 2) : d = 0 ∨ d = 1 ∨ d = 2 := by omega
theorem inB_dir {d : Int} (h0 : 0 ≤ d) (h1 : d ≤ 2) : inB d 3 = true := by
  rcases dir h0 h1 with rfl | rfl | rfl <;> decide
def side3 (X Y Z d : Int) : Int := bif decide (d = 0) then X else (bif decide (d = 1) then Y else Z)
theorem side3_ok {X Y Z : Int} (hs : sides X Y Z = true) (d : Int) : 1 ≤ side3 X Y Z d ∧ side3 X Y Z d ≤ 4 := by
  obtain ⟨s1, s2, s3⟩ := sides_iff.1 hs
  unfold side3
  cases decide (d = 0) <;> cases decide (d = 1) <;> simp <;> omega
theorem f_l2Long {X Y Z : Int} (l : List D_A3) {d : Int} (d0 : 0 ≤ d) (d1 : d ≤ 2) : P_ce ((X, Y, Z, l, ()), d, ()) = some (side3 X Y Z d, ()) := by
  rw [p_ce, inB_dir d0 d1]; rfl
end Go.VI
/- Plain: cutting a heap. -/
namespace Go.VI
open Go.Proofs
end Go.VI
/- Plain: gluing two heaps. -/
namespace Go.VI
open Go.Proofs
end Go.VI
