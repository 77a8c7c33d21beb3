/- Plain: full heaps and shells. -/
import Derived.Test.YtaopponjedombaaGreatPlF
namespace Go.VI
open Go.Proofs

/-! ### All bits -/
def fullBits (n : Nat) : BitVec 64 := BitVec.ofNat 64 (2 ^ n - 1)

theorem fullBits_toNat {n : Nat} (h : n ≤ 64) : (fullBits n).toNat = 2 ^ n - 1 := by
  unfold fullBits
  rw [BitVec.toNat_ofNat, Nat.mod_eq_of_lt]
  have := Nat.pow_le_pow_right (show 0 < 2 by decide) h
  have := Nat.pow_pos (n := n) (show 0 < 2 by decide)
  omega

theorem fullBits_bit {n : Nat} (h : n ≤ 64) (i : Nat) : (fullBits n).getLsbD i = decide (i < n) := by
  unfold BitVec.getLsbD
  rw [fullBits_toNat h, Nat.testBit_two_pow_sub_one]

theorem full64 {n : Nat} (h : n ≤ 64) : IntKind.wrap .u64 (shlI .u64 1 (n : Int) - 1) = ((fullBits n).toNat : Int) := by
  rw [shl64, BitVec.toNat_twoPow, fullBits_toNat h, wu64]
  by_cases h' : n = 64
  · subst h'; decide
  · have hlt : 2 ^ n < 2 ^ 64 := Nat.pow_lt_pow_right (by decide) (by omega)
    have hp := Nat.pow_pos (n := n) (show 0 < 2 by decide)
    rw [Nat.mod_eq_of_lt hlt]
    have h64 : (2 : Nat) ^ 64 = 18446744073709551616 := by decide
    rw [h64] at hlt
    omega

theorem f_box_full {X Y Z : Int} (hs : sides X Y Z = true) : P_box_full ((X, Y, Z, ()), ()) = some (((fullBits (X * Y * Z).toNat).toNat : Int), ()) := by
  have hsz := size64 hs
  rw [p_box_full, p_box_size]
  simp only [Option.bind_some]
  rw [w64 (x := X * Y) (by omega) (by omega), w64 (x := X * Y * Z) (by omega) (by omega), decide_eq_true (by omega)]
  have e : X * Y * Z = (((X * Y * Z).toNat : Nat) : Int) := by omega
  rw [e, full64 (by omega), ← e]
  rfl

/-- All cells of a box, in order. -/
def allCells (X Y Z : Int) : List D_A3 := bitCells X Y Z (fullBits (X * Y * Z).toNat)

theorem mem_allCells {X Y Z : Int} (hs : sides X Y Z = true) (c : D_A3) : c ∈ allCells X Y Z ↔ within3 X Y Z c = true := by
  unfold allCells
  rw [mem_listOf hs, fullBits_bit (by have := size64 hs; omega)]
  constructor
  · exact fun h => h.1
  · intro h
    exact ⟨h, by have := (idx_eq hs h).2.1; simpa using this⟩

theorem allCells_ok {X Y Z : Int} (hs : sides X Y Z = true) : Small (allCells X Y Z) ∧ Ins X Y Z (allCells X Y Z) ∧ Srt (allCells X Y Z) :=
  ⟨small_listOf hs _, fun c h => (mem_allCells hs c).1 h, srt_listOf hs _⟩

/-! ### All cells by three loops -/
def upto (Y Z : Int) (k : Nat) : List D_A3 := (List.range k).map (cellOf Y Z)

theorem upto_succ (Y Z : Int) (k : Nat) : upto Y Z (k + 1) = upto Y Z k ++ [cellOf Y Z k] := by
  unfold upto
  rw [List.range_succ, List.map_append]
  rfl

theorem listFrom_full (Y Z : Int) (v : BitVec 64) : ∀ (d k : Nat), (∀ i, k ≤ i → i < k + d → v.getLsbD i = true) → listFrom Y Z v d k = (List.range' k d).map (cellOf Y Z)
  | 0, k, _ => by simp [listFrom]
  | d + 1, k, h => by
    rw [listFrom, if_pos (h k (by omega) (by omega)), listFrom_full Y Z v d (k + 1) (fun i h1 h2 => h i (by omega) (by omega))]
    simp [List.range'_succ]

theorem upto_all {X Y Z : Int} (hs : sides X Y Z = true) : upto Y Z (X * Y * Z).toNat = allCells X Y Z := by
  have hsz := size64 hs
  unfold upto allCells bitCells
  rw [listFrom_full Y Z _ _ 0 (fun i _ h => by rw [fullBits_bit (by omega)]; simpa using h), List.range_eq_range']

theorem cellOf_idx {X Y Z : Int} (hs : sides X Y Z = true) {c : D_A3} (hc : within3 X Y Z c = true) : cellOf Y Z (idx Y Z c) = c := by
  obtain ⟨_, hlt, _⟩ := idx_eq hs hc
  obtain ⟨w1, w2⟩ := cellOf_ok hs hlt
  exact idx_inj hs w1 hc w2

theorem idx_z {X Y Z : Int} (hs : sides X Y Z = true) {x y z : Int} (hx : 0 ≤ x) (hy : 0 ≤ y) (hz : 0 ≤ z) : idx Y Z (x, y, z + 1, ()) = idx Y Z (x, y, z, ()) + 1 := by
  obtain ⟨_, h2, h3⟩ := sides_iff.1 hs
  unfold idx
  rcases four h2.1 h2.2 with rfl | rfl | rfl | rfl <;> rcases four h3.1 h3.2 with rfl | rfl | rfl | rfl <;> simp only <;> omega

theorem idx_y (Y Z x y : Int) : idx Y Z (x, y, Z, ()) = idx Y Z (x, y + 1, 0, ()) := by
  unfold idx
  simp only
  rw [show (x * Y + (y + 1)) * Z + 0 = (x * Y + y) * Z + Z by rw [← Int.add_assoc, Int.add_mul (x * Y + y) 1 Z]; omega]

theorem idx_x (Y Z x : Int) : idx Y Z (x, Y, 0, ()) = idx Y Z (x + 1, 0, 0, ()) := by
  unfold idx
  simp only
  rw [show (x + 1) * Y + 0 = x * Y + Y by rw [Int.add_mul]; omega]

theorem l_all9 {X Y Z : Int} {l : List D_A3} (hs : sides X Y Z = true) (m0 m1 : Nat) {x y : Int} (hx : 0 ≤ x ∧ x ≤ X - 1) (hy : 0 ≤ y ∧ y ≤ Y - 1) : ∀ (d m : Nat) (z : Int), z + d = Z → 0 ≤ z → d < m →
    l_spec_l2All_9 m0 m1 m X Y Z l (upto Y Z (idx Y Z (x, y, z, ()))) x y z = l_spec_l2All_6 m0 m1 X Y Z l (upto Y Z (idx Y Z (x, y + 1, 0, ()))) x (y + 1)
  | d, 0, z, hz, h0, hm => by omega
  | 0, m + 1, z, hz, h0, hm => by
    obtain ⟨s1, s2, s3⟩ := sides_iff.1 hs
    have : z = Z := by omega
    subst this
    rw [q_spec_l2All_9, decide_eq_false (by omega), w64 (x := y + 1) (by omega) (by omega), idx_y]
    rfl
  | d + 1, m + 1, z, hz, h0, hm => by
    obtain ⟨s1, s2, s3⟩ := sides_iff.1 hs
    have hw : within3 X Y Z (x, y, z, ()) = true := by rw [within3_iff]; simp only; omega
    have hlen : (upto Y Z (idx Y Z (x, y, z, ()))).length ≤ 64 := by
      obtain ⟨_, h2, h3, _⟩ := idx_eq hs hw
      unfold upto
      rw [List.length_map, List.length_range]
      omega
    have e : upto Y Z (idx Y Z (x, y, z, ())) ++ [((x, (y, (z, ()))) : D_A3)] = upto Y Z (idx Y Z (x, y, z + 1, ())) := by
      rw [idx_z hs hx.1 hy.1 h0, upto_succ, cellOf_idx hs hw]
    rw [q_spec_l2All_9, decide_eq_true (by omega), w64 (x := z + 1) (by omega) (by omega)]
    simp only [List.length_cons, List.length_nil, cond_true]
    rw [decide_eq_true (p := ((upto Y Z (idx Y Z (x, y, z, ()))).length + (0 + 1)) * 24 ≤ 140737488355328) (by omega), decide_eq_true (p := (upto Y Z (idx Y Z (x, y, z, ()))).length + (0 + 1) ≤ 140737488355328) (by omega), e]
    exact l_all9 hs m0 m1 hx hy d m (z + 1) (by omega) (by omega) (by omega)
termination_by d => d

theorem l_all6 {X Y Z : Int} {l : List D_A3} (hs : sides X Y Z = true) (m0 : Nat) {x : Int} (hx : 0 ≤ x ∧ x ≤ X - 1) : ∀ (d m : Nat) (y : Int), y + d = Y → 0 ≤ y → d < m →
    l_spec_l2All_6 m0 m X Y Z l (upto Y Z (idx Y Z (x, y, 0, ()))) x y = l_spec_l2All_3 m0 X Y Z l (upto Y Z (idx Y Z (x + 1, 0, 0, ()))) (x + 1)
  | d, 0, y, hz, h0, hm => by omega
  | 0, m + 1, y, hz, h0, hm => by
    obtain ⟨s1, s2, s3⟩ := sides_iff.1 hs
    have : y = Y := by omega
    subst this
    rw [q_spec_l2All_6, decide_eq_false (by omega), w64 (x := x + 1) (by omega) (by omega), idx_x]
    rfl
  | d + 1, m + 1, y, hz, h0, hm => by
    obtain ⟨s1, s2, s3⟩ := sides_iff.1 hs
    rw [q_spec_l2All_6, decide_eq_true (by omega)]
    simp only [cond_true]
    rw [l_all9 hs m0 m hx (by omega) Z.toNat N 0 (by omega) (by omega) (by have := N_ge; omega)]
    exact l_all6 hs m0 hx d m (y + 1) (by omega) (by omega) (by omega)
termination_by d => d

theorem l_all3 {X Y Z : Int} {l : List D_A3} (hs : sides X Y Z = true) : ∀ (d m : Nat) (x : Int), x + d = X → 0 ≤ x → d < m →
    l_spec_l2All_3 m X Y Z l (upto Y Z (idx Y Z (x, 0, 0, ()))) x = some (allCells X Y Z, ())
  | d, 0, x, hz, h0, hm => by omega
  | 0, m + 1, x, hz, h0, hm => by
    have : x = X := by omega
    subst this
    rw [q_spec_l2All_3, decide_eq_false (by omega)]
    rw [← upto_all hs]
    simp only [cond_false, idx, Int.add_zero]
  | d + 1, m + 1, x, hz, h0, hm => by
    obtain ⟨s1, s2, s3⟩ := sides_iff.1 hs
    rw [q_spec_l2All_3, decide_eq_true (by omega)]
    simp only [cond_true]
    rw [l_all6 hs m (by omega) Y.toNat N 0 (by omega) (by omega) (by have := N_ge; omega)]
    exact l_all3 hs d m (x + 1) (by omega) (by omega) (by omega)
termination_by d => d

theorem f_l2All {X Y Z : Int} (l : List D_A3) (hs : sides X Y Z = true) : P_spec_l2All ((X, Y, Z, l, ()), ()) = some (allCells X Y Z, ()) := by
  obtain ⟨s1, s2, s3⟩ := sides_iff.1 hs
  have := l_all3 (l := l) hs X.toNat N 0 (by omega) (by omega) (by have := N_ge; omega)
  have e : upto Y Z (idx Y Z (0, 0, 0, ())) = [] := by simp [idx, upto]
  rw [e] at this
  rw [p_spec_l2All]
  exact this

/-! ### Shells -/
end Go.VI
