/- Plain: neighbors, those, grown sets and what is enclosed, as the program has them. -/
import Derived.Test.YtaopponjedombaaPlA
namespace Go.VI
open Go.Proofs

def popI (a0 : Int) : Int := (intBits .and .i64 (IntKind.wrap .i64 (IntKind.wrap .u64 ((IntKind.wrap .u64 ((IntKind.wrap .u64 ((intBits .and .u64 (IntKind.wrap .u64 ((shrI .u64 (IntKind.wrap .u64 ((intBits .and .u64 (shrI .u64 (IntKind.wrap .u64 ((intBits .and .u64 (shrI .u64 a0 1) 6148914691236517205) + (intBits .and .u64 a0 6148914691236517205))) 2) 3689348814741910323) + (intBits .and .u64 (IntKind.wrap .u64 ((intBits .and .u64 (shrI .u64 a0 1) 6148914691236517205) + (intBits .and .u64 a0 6148914691236517205))) 3689348814741910323))) 4) + (IntKind.wrap .u64 ((intBits .and .u64 (shrI .u64 (IntKind.wrap .u64 ((intBits .and .u64 (shrI .u64 a0 1) 6148914691236517205) + (intBits .and .u64 a0 6148914691236517205))) 2) 3689348814741910323) + (intBits .and .u64 (IntKind.wrap .u64 ((intBits .and .u64 (shrI .u64 a0 1) 6148914691236517205) + (intBits .and .u64 a0 6148914691236517205))) 3689348814741910323))))) 1085102592571150095) + (shrI .u64 (intBits .and .u64 (IntKind.wrap .u64 ((shrI .u64 (IntKind.wrap .u64 ((intBits .and .u64 (shrI .u64 (IntKind.wrap .u64 ((intBits .and .u64 (shrI .u64 a0 1) 6148914691236517205) + (intBits .and .u64 a0 6148914691236517205))) 2) 3689348814741910323) + (intBits .and .u64 (IntKind.wrap .u64 ((intBits .and .u64 (shrI .u64 a0 1) 6148914691236517205) + (intBits .and .u64 a0 6148914691236517205))) 3689348814741910323))) 4) + (IntKind.wrap .u64 ((intBits .and .u64 (shrI .u64 (IntKind.wrap .u64 ((intBits .and .u64 (shrI .u64 a0 1) 6148914691236517205) + (intBits .and .u64 a0 6148914691236517205))) 2) 3689348814741910323) + (intBits .and .u64 (IntKind.wrap .u64 ((intBits .and .u64 (shrI .u64 a0 1) 6148914691236517205) + (intBits .and .u64 a0 6148914691236517205))) 3689348814741910323))))) 1085102592571150095) 8))) + (shrI .u64 (IntKind.wrap .u64 ((intBits .and .u64 (IntKind.wrap .u64 ((shrI .u64 (IntKind.wrap .u64 ((intBits .and .u64 (shrI .u64 (IntKind.wrap .u64 ((intBits .and .u64 (shrI .u64 a0 1) 6148914691236517205) + (intBits .and .u64 a0 6148914691236517205))) 2) 3689348814741910323) + (intBits .and .u64 (IntKind.wrap .u64 ((intBits .and .u64 (shrI .u64 a0 1) 6148914691236517205) + (intBits .and .u64 a0 6148914691236517205))) 3689348814741910323))) 4) + (IntKind.wrap .u64 ((intBits .and .u64 (shrI .u64 (IntKind.wrap .u64 ((intBits .and .u64 (shrI .u64 a0 1) 6148914691236517205) + (intBits .and .u64 a0 6148914691236517205))) 2) 3689348814741910323) + (intBits .and .u64 (IntKind.wrap .u64 ((intBits .and .u64 (shrI .u64 a0 1) 6148914691236517205) + (intBits .and .u64 a0 6148914691236517205))) 3689348814741910323))))) 1085102592571150095) + (shrI .u64 (intBits .and .u64 (IntKind.wrap .u64 ((shrI .u64 (IntKind.wrap .u64 ((intBits .and .u64 (shrI .u64 (IntKind.wrap .u64 ((intBits .and .u64 (shrI .u64 a0 1) 6148914691236517205) + (intBits .and .u64 a0 6148914691236517205))) 2) 3689348814741910323) + (intBits .and .u64 (IntKind.wrap .u64 ((intBits .and .u64 (shrI .u64 a0 1) 6148914691236517205) + (intBits .and .u64 a0 6148914691236517205))) 3689348814741910323))) 4) + (IntKind.wrap .u64 ((intBits .and .u64 (shrI .u64 (IntKind.wrap .u64 ((intBits .and .u64 (shrI .u64 a0 1) 6148914691236517205) + (intBits .and .u64 a0 6148914691236517205))) 2) 3689348814741910323) + (intBits .and .u64 (IntKind.wrap .u64 ((intBits .and .u64 (shrI .u64 a0 1) 6148914691236517205) + (intBits .and .u64 a0 6148914691236517205))) 3689348814741910323))))) 1085102592571150095) 8))) 16))) + (shrI .u64 (IntKind.wrap .u64 ((IntKind.wrap .u64 ((intBits .and .u64 (IntKind.wrap .u64 ((shrI .u64 (IntKind.wrap .u64 ((intBits .and .u64 (shrI .u64 (IntKind.wrap .u64 ((intBits .and .u64 (shrI .u64 a0 1) 6148914691236517205) + (intBits .and .u64 a0 6148914691236517205))) 2) 3689348814741910323) + (intBits .and .u64 (IntKind.wrap .u64 ((intBits .and .u64 (shrI .u64 a0 1) 6148914691236517205) + (intBits .and .u64 a0 6148914691236517205))) 3689348814741910323))) 4) + (IntKind.wrap .u64 ((intBits .and .u64 (shrI .u64 (IntKind.wrap .u64 ((intBits .and .u64 (shrI .u64 a0 1) 6148914691236517205) + (intBits .and .u64 a0 6148914691236517205))) 2) 3689348814741910323) + (intBits .and .u64 (IntKind.wrap .u64 ((intBits .and .u64 (shrI .u64 a0 1) 6148914691236517205) + (intBits .and .u64 a0 6148914691236517205))) 3689348814741910323))))) 1085102592571150095) + (shrI .u64 (intBits .and .u64 (IntKind.wrap .u64 ((shrI .u64 (IntKind.wrap .u64 ((intBits .and .u64 (shrI .u64 (IntKind.wrap .u64 ((intBits .and .u64 (shrI .u64 a0 1) 6148914691236517205) + (intBits .and .u64 a0 6148914691236517205))) 2) 3689348814741910323) + (intBits .and .u64 (IntKind.wrap .u64 ((intBits .and .u64 (shrI .u64 a0 1) 6148914691236517205) + (intBits .and .u64 a0 6148914691236517205))) 3689348814741910323))) 4) + (IntKind.wrap .u64 ((intBits .and .u64 (shrI .u64 (IntKind.wrap .u64 ((intBits .and .u64 (shrI .u64 a0 1) 6148914691236517205) + (intBits .and .u64 a0 6148914691236517205))) 2) 3689348814741910323) + (intBits .and .u64 (IntKind.wrap .u64 ((intBits .and .u64 (shrI .u64 a0 1) 6148914691236517205) + (intBits .and .u64 a0 6148914691236517205))) 3689348814741910323))))) 1085102592571150095) 8))) + (shrI .u64 (IntKind.wrap .u64 ((intBits .and .u64 (IntKind.wrap .u64 ((shrI .u64 (IntKind.wrap .u64 ((intBits .and .u64 (shrI .u64 (IntKind.wrap .u64 ((intBits .and .u64 (shrI .u64 a0 1) 6148914691236517205) + (intBits .and .u64 a0 6148914691236517205))) 2) 3689348814741910323) + (intBits .and .u64 (IntKind.wrap .u64 ((intBits .and .u64 (shrI .u64 a0 1) 6148914691236517205) + (intBits .and .u64 a0 6148914691236517205))) 3689348814741910323))) 4) + (IntKind.wrap .u64 ((intBits .and .u64 (shrI .u64 (IntKind.wrap .u64 ((intBits .and .u64 (shrI .u64 a0 1) 6148914691236517205) + (intBits .and .u64 a0 6148914691236517205))) 2) 3689348814741910323) + (intBits .and .u64 (IntKind.wrap .u64 ((intBits .and .u64 (shrI .u64 a0 1) 6148914691236517205) + (intBits .and .u64 a0 6148914691236517205))) 3689348814741910323))))) 1085102592571150095) + (shrI .u64 (intBits .and .u64 (IntKind.wrap .u64 ((shrI .u64 (IntKind.wrap .u64 ((intBits .and .u64 (shrI .u64 (IntKind.wrap .u64 ((intBits .and .u64 (shrI .u64 a0 1) 6148914691236517205) + (intBits .and .u64 a0 6148914691236517205))) 2) 3689348814741910323) + (intBits .and .u64 (IntKind.wrap .u64 ((intBits .and .u64 (shrI .u64 a0 1) 6148914691236517205) + (intBits .and .u64 a0 6148914691236517205))) 3689348814741910323))) 4) + (IntKind.wrap .u64 ((intBits .and .u64 (shrI .u64 (IntKind.wrap .u64 ((intBits .and .u64 (shrI .u64 a0 1) 6148914691236517205) + (intBits .and .u64 a0 6148914691236517205))) 2) 3689348814741910323) + (intBits .and .u64 (IntKind.wrap .u64 ((intBits .and .u64 (shrI .u64 a0 1) 6148914691236517205) + (intBits .and .u64 a0 6148914691236517205))) 3689348814741910323))))) 1085102592571150095) 8))) 16))) 32)))) 127)
theorem nearB_eq (X Y Z : Int) (c : D_A3) : nearB X Y Z c = (List.range 6).foldl (fun v k => bif within3 X Y Z (stp k c) then v ||| BitVec.twoPow 64 (idx Y Z (stp k c)) else v) 0 := by
  unfold nearB nears mask
  rw [List.foldl_filter, List.foldl_map]
  congr 1
  funext v k
  cases within3 X Y Z (stp k c) <;> rfl

/-- Is a cell at the rim? -/
def rim (X Y Z : Int) (c : D_A3) : Bool := (List.range 6).any fun k => !within3 X Y Z (stp k c)

def chkRim : Bool := ([1, 2, 3, 4] : List Int).all fun X => ([1, 2, 3, 4] : List Int).all fun Y => ([1, 2, 3, 4] : List Int).all fun Z => (List.range (X * Y * Z).toNat).all fun i =>
  (decide (popI ((nearB X Y Z (cellOf Y Z i)).toNat : Int) < 6)) == rim X Y Z (cellOf Y Z i)
theorem chkRim_ok : chkRim = true := by kernel_rfl

theorem mem1234 {n : Int} (h0 : 1 ≤ n) (h1 : n ≤ 4) : n ∈ ([1, 2, 3, 4] : List Int) := by
  rcases four h0 h1 with rfl | rfl | rfl | rfl <;> simp

theorem pop_rim {X Y Z : Int} (hs : sides X Y Z = true) {c : D_A3} (hc : within3 X Y Z c = true) : decide (popI ((nearB X Y Z c).toNat : Int) < 6) = rim X Y Z c := by
  have h := chkRim_ok
  unfold chkRim at h
  have s := sides_iff.1 hs
  have h1 := List.all_eq_true.1 h X (mem1234 s.1.1 s.1.2)
  have h2 := List.all_eq_true.1 h1 Y (mem1234 s.2.1.1 s.2.1.2)
  have h3 := List.all_eq_true.1 h2 Z (mem1234 s.2.2.1 s.2.2.2)
  have h4 := List.all_eq_true.1 h3 (idx Y Z c) (List.mem_range.2 (idx_eq hs hc).2.1)
  rw [cellOf_idx hs hc] at h4
  exact eq_of_beq h4

theorem f_size {X Y Z : Int} (hs : sides X Y Z = true) : P_box_size ((X, Y, Z, ()), ()) = some (((X * Y * Z).toNat : Int), ()) := by
  have h := size64 hs
  have s := sides_iff.1 hs
  rw [p_box_size]
  show some (IntKind.wrap .i64 (IntKind.wrap .i64 (X * Y) * Z), ()) = _
  rw [w64 (x := X * Y) (by omega) (by omega), w64 (x := X * Y * Z) (by omega) (by omega)]
  congr 2
  omega

theorem near_step {X Y Z : Int} (hs : sides X Y Z = true) {c : D_A3} (hc : Near c) (m0 m1 : Nat) (v : BitVec 64) (d j : Nat) (hd : d < 3) (hj : j < 2) :
    l_box_near_6 m0 (m1 + 1) X Y Z c.1 c.2.1 c.2.2.1 (v.toNat : Int) (d : Int) (d : Int) (-1) 1 (j : Int) = l_box_near_6 m0 m1 X Y Z c.1 c.2.1 c.2.2.1 (((bif within3 X Y Z (stp (2 * d + j) c) then v ||| BitVec.twoPow 64 (idx Y Z (stp (2 * d + j) c)) else v).toNat : Nat) : Int) (d : Int) (d : Int) (-1) 1 ((j + 1 : Nat) : Int) := by
  rw [q_box_near_6]
  unfold Near at hc
  have hst : (((bif decide ((d : Int) = (0 : Int)) then (IntKind.wrap .i64 ((bif decide ((d : Int) = (0 : Int)) then c.1 else (bif decide ((d : Int) = (1 : Int)) then c.2.1 else c.2.2.1)) + (bif decide ((j : Int) = (0 : Int)) then (-1) else 1))) else c.1), ((bif decide ((d : Int) = (1 : Int)) then (IntKind.wrap .i64 ((bif decide ((d : Int) = (0 : Int)) then c.1 else (bif decide ((d : Int) = (1 : Int)) then c.2.1 else c.2.2.1)) + (bif decide ((j : Int) = (0 : Int)) then (-1) else 1))) else c.2.1), ((bif decide ((d : Int) = (2 : Int)) then (IntKind.wrap .i64 ((bif decide ((d : Int) = (0 : Int)) then c.1 else (bif decide ((d : Int) = (1 : Int)) then c.2.1 else c.2.2.1)) + (bif decide ((j : Int) = (0 : Int)) then (-1) else 1))) else c.2.2.1), ()))) : D_A3) = stp (2 * d + j) c := by
    have e1 : ∀ x : Int, -1000 ≤ x → x ≤ 1000 → IntKind.wrap .i64 (x + -1) = x + -1 := fun x h0 h1 => by rw [w64 (by omega) (by omega)]
    have e2 : ∀ x : Int, -1000 ≤ x → x ≤ 1000 → IntKind.wrap .i64 (x + 1) = x + 1 := fun x h0 h1 => by rw [w64 (by omega) (by omega)]
    have hd3 : d = 0 ∨ d = 1 ∨ d = 2 := by omega
    have hj2 : j = 0 ∨ j = 1 := by omega
    rcases hd3 with rfl | rfl | rfl <;> rcases hj2 with rfl | rfl <;> simp [stp, e1 _ hc.1 hc.2.1, e1 _ hc.2.2.1 hc.2.2.2.1, e1 _ hc.2.2.2.2.1 hc.2.2.2.2.2, e2 _ hc.1 hc.2.1, e2 _ hc.2.2.1 hc.2.2.2.1, e2 _ hc.2.2.2.2.1 hc.2.2.2.2.2]
  rw [hst, decide_eq_true (p := (j : Int) < 2) (by omega), inB_at (k := j) (n := 2) hj, inB_at (k := d) (n := 3) hd, f_box_has (X, Y, Z, ()) _ hs, succI j (by omega)]
  simp only [cond_true, Option.bind_some]
  cases hw : within3 X Y Z (stp (2 * d + j) c) with
  | false => simp
  | true =>
    rw [f_box_index hs hw]
    simp only [cond_true, Option.bind_some]
    rw [decide_eq_true (p := (0 : Int) ≤ (idx Y Z (stp (2 * d + j) c) : Int)) (by omega), shl64, or64]
    rfl

theorem f_near {X Y Z : Int} (hs : sides X Y Z = true) {c : D_A3} (hc : Near c) : P_box_near ((X, Y, Z, ()), c, ()) = some (((nearB X Y Z c).toNat : Int), ()) := by
  obtain ⟨n, hn⟩ : ∃ n, N = n + 10 := ⟨N - 10, by have := N_ge; omega⟩
  have done6 : ∀ (m0 m1 : Nat) (v : BitVec 64) (d : Nat), d < 3 → l_box_near_6 m0 (m1 + 1) X Y Z c.1 c.2.1 c.2.2.1 (v.toNat : Int) (d : Int) (d : Int) (-1) 1 ((2 : Nat) : Int) = l_box_near_3 m0 X Y Z c.1 c.2.1 c.2.2.1 (v.toNat : Int) ((d + 1 : Nat) : Int) := by
    intro m0 m1 v d hd
    rw [q_box_near_6, succI d (by omega)]
    rfl
  have step3 : ∀ (m0 : Nat) (v : BitVec 64) (d : Nat), d < 3 → l_box_near_3 (m0 + 1) X Y Z c.1 c.2.1 c.2.2.1 (v.toNat : Int) (d : Int) = l_box_near_6 m0 N X Y Z c.1 c.2.1 c.2.2.1 (v.toNat : Int) (d : Int) (d : Int) (-1) 1 ((0 : Nat) : Int) := by
    intro m0 v d hd
    rw [q_box_near_3, decide_eq_true (by omega)]
    rfl
  have end3 : ∀ (m0 : Nat) (v : Int), l_box_near_3 (m0 + 1) X Y Z c.1 c.2.1 c.2.2.1 v ((3 : Nat) : Int) = some (v, ()) := by
    intro m0 v
    rw [q_box_near_3]
    rfl
  have round : ∀ (m0 : Nat) (v : BitVec 64) (d : Nat), d < 3 → l_box_near_3 (m0 + 1) X Y Z c.1 c.2.1 c.2.2.1 (v.toNat : Int) (d : Int) = l_box_near_3 m0 X Y Z c.1 c.2.1 c.2.2.1 ((((fun (v : BitVec 64) (k : Nat) => bif within3 X Y Z (stp k c) then v ||| BitVec.twoPow 64 (idx Y Z (stp k c)) else v) ((fun (v : BitVec 64) (k : Nat) => bif within3 X Y Z (stp k c) then v ||| BitVec.twoPow 64 (idx Y Z (stp k c)) else v) v (2 * d + 0)) (2 * d + 1)).toNat : Nat) : Int) ((d + 1 : Nat) : Int) := by
    intro m0 v d hd
    rw [step3 m0 v d hd, hn, near_step hs hc m0 (n + 9) v d 0 hd (by omega), near_step hs hc m0 (n + 8) _ d 1 hd (by omega), done6 m0 (n + 7) _ d hd]
  rw [p_box_near]
  show l_box_near_3 N X Y Z c.1 c.2.1 c.2.2.1 (((0 : BitVec 64).toNat : Nat) : Int) ((0 : Nat) : Int) = _
  rw [hn, round (n + 9) 0 0 (by omega), round (n + 8) _ 1 (by omega), round (n + 7) _ 2 (by omega), end3, nearB_eq]
  rfl

/-- The cells for which something is so. -/
def thoseR (Y Z : Int) (g : D_A3 → Bool) : (d k : Nat) → BitVec 64 → BitVec 64
  | 0, _, v => v
  | d + 1, k, v => thoseR Y Z g d (k + 1) (bif g (cellOf Y Z k) then v ||| BitVec.twoPow 64 k else v)

theorem thoseR_bit (Y Z : Int) (g : D_A3 → Bool) (i : Nat) : ∀ (d k : Nat) (v : BitVec 64), k + d ≤ 64 → (thoseR Y Z g d k v).getLsbD i = (v.getLsbD i || (decide (k ≤ i) && decide (i < k + d) && g (cellOf Y Z i)))
  | 0, k, v, _ => by
    have : (decide (k ≤ i) && decide (i < k + 0)) = false := by
      rw [Bool.and_eq_false_iff, decide_eq_false_iff_not, decide_eq_false_iff_not]; omega
    simp only [thoseR, this, Bool.false_and, Bool.or_false]
  | d + 1, k, v, h => by
    rw [thoseR, thoseR_bit Y Z g i d (k + 1) _ (by omega)]
    by_cases e : i = k
    · subst e
      have h1 : decide (i + 1 ≤ i) = false := decide_eq_false (by omega)
      have h2 : decide (i < i + (d + 1)) = true := decide_eq_true (by omega)
      rw [h1, h2]
      cases g (cellOf Y Z i) with
      | false => simp
      | true =>
        simp only [cond_true, BitVec.getLsbD_or, BitVec.getLsbD_twoPow]
        have : decide (i < 64) = true := decide_eq_true (by omega)
        simp [this]
    · have h1 : decide (k + 1 ≤ i) = decide (k ≤ i) := by rw [Bool.eq_iff_iff, decide_eq_true_eq, decide_eq_true_eq]; omega
      have h2 : decide (i < k + 1 + d) = decide (i < k + (d + 1)) := by rw [Bool.eq_iff_iff, decide_eq_true_eq, decide_eq_true_eq]; omega
      rw [h1, h2]
      congr 1
      cases g (cellOf Y Z k) with
      | false => rfl
      | true =>
        simp only [cond_true, BitVec.getLsbD_or, BitVec.getLsbD_twoPow]
        have : decide (k = i) = false := decide_eq_false (fun h => e h.symm)
        simp [this]

theorem l_those {X Y Z : Int} (hs : sides X Y Z = true) {g : D_A3 → Bool} {F : D_A3 × Unit → Option (Bool × Unit)} (hF : ∀ c, within3 X Y Z c = true → F (c, ()) = some (g c, ())) : ∀ (d k m : Nat) (v : BitVec 64), k + d = (X * Y * Z).toNat → d < m →
    l_box_those_3 m X Y Z F (v.toNat : Int) (((X * Y * Z).toNat : Nat) : Int) (k : Int) = some (((thoseR Y Z g d k v).toNat : Int), ())
  | d, k, 0, v, _, h => by omega
  | d, k, m + 1, v, hk, hm => by
    have h64 := size64 hs
    rw [q_box_those_3]
    cases d with
    | zero =>
      rw [ltF (by omega)]
      rfl
    | succ d =>
      obtain ⟨h1, h2⟩ := cellOf_ok hs (i := k) (by omega)
      rw [ltT (by omega), f_box_cell hs (by omega)]
      simp only [cond_true, Option.bind_some]
      rw [hF _ h1, succI k (by omega), decide_eq_true (p := (0 : Int) ≤ (k : Int)) (by omega), shl64, or64]
      simp only [cond_true, Option.bind_some]
      rw [thoseR]
      cases g (cellOf Y Z k) with
      | false => exact l_those hs hF d (k + 1) m _ (by omega) (by omega)
      | true => exact l_those hs hF d (k + 1) m _ (by omega) (by omega)

theorem f_those {X Y Z : Int} (hs : sides X Y Z = true) {g : D_A3 → Bool} {F : D_A3 × Unit → Option (Bool × Unit)} (hF : ∀ c, within3 X Y Z c = true → F (c, ()) = some (g c, ())) : ∃ v : BitVec 64, P_box_those ((X, Y, Z, ()), F, ()) = some ((v.toNat : Int), ()) ∧ SetIs X Y Z v g := by
  have h64 := size64 hs
  refine ⟨thoseR Y Z g (X * Y * Z).toNat 0 0, ?_, fun i hi => ?_, fun c hc => ?_⟩
  · rw [p_box_those, f_size hs]
    exact l_those hs hF (X * Y * Z).toNat 0 N 0 (by omega) (by have := N_ge; omega)
  · rw [thoseR_bit Y Z g i _ 0 0 (by omega)]
    have : decide (i < 0 + (X * Y * Z).toNat) = false := decide_eq_false (by omega)
    rw [this, Bool.and_false, Bool.false_and, Bool.or_false]
    simp
  · rw [thoseR_bit Y Z g _ _ 0 0 (by omega), cellOf_idx hs hc]
    have : decide (idx Y Z c < 0 + (X * Y * Z).toNat) = true := decide_eq_true (by have := (idx_eq hs hc).2.1; omega)
    rw [this, decide_eq_true (Nat.zero_le _)]
    simp

/-! ### Growing -/
theorem l_grow3 {X Y Z : Int} (hs : sides X Y Z = true) (u v : BitVec 64) (m0 : Nat) : ∀ (d k m : Nat) (acc : BitVec 64), k + d = (X * Y * Z).toNat → d < m →
    l_box_grown_3 m0 m X Y Z (v.toNat : Int) (u.toNat : Int) (acc.toNat : Int) (((X * Y * Z).toNat : Nat) : Int) (k : Int) = if growR X Y Z u v d k acc = v then some ((v.toNat : Int), ()) else l_box_grown_1 m0 X Y Z ((growR X Y Z u v d k acc).toNat : Int) (u.toNat : Int)
  | d, k, 0, acc, _, h => by omega
  | d, k, m + 1, acc, hk, hm => by
    have h64 := size64 hs
    rw [q_box_grown_3]
    cases d with
    | zero =>
      rw [ltF (by omega), growR]
      simp only [cond_false]
      have e : decide ((acc.toNat : Int) = (v.toNat : Int)) = decide (acc = v) := by
        rw [Bool.eq_iff_iff, decide_eq_true_eq, decide_eq_true_eq]
        constructor
        · intro h; exact BitVec.eq_of_toNat_eq (by omega)
        · intro h; rw [h]
      rw [e]
      by_cases h : acc = v <;> simp [h]
    | succ d =>
      obtain ⟨h1, h2⟩ := cellOf_ok hs (i := k) (by omega)
      rw [ltT (by omega), f_set_has, f_box_cell hs (by omega)]
      simp only [cond_true, Option.bind_some]
      rw [f_near hs (near_of hs h1), succI k (by omega), growR]
      simp only [Option.bind_some]
      rw [and64, or64]
      cases v.getLsbD k with
      | false => exact l_grow3 hs u v m0 d (k + 1) m _ (by omega) (by omega)
      | true => exact l_grow3 hs u v m0 d (k + 1) m _ (by omega) (by omega)

theorem l_grow1 {X Y Z : Int} (hs : sides X Y Z = true) (u v : BitVec 64) (m : Nat) : l_box_grown_1 (m + 1) X Y Z (v.toNat : Int) (u.toNat : Int) = if grow1 X Y Z u v = v then some ((v.toNat : Int), ()) else l_box_grown_1 m X Y Z ((grow1 X Y Z u v).toNat : Int) (u.toNat : Int) := by
  rw [q_box_grown_1, f_size hs]
  exact l_grow3 hs u v m (X * Y * Z).toNat 0 N v (by omega) (by have := size64 hs; have := N_ge; omega)

theorem grown_ex {X Y Z : Int} (hs : sides X Y Z = true) {v0 u : BitVec 64} (hu : Low (X * Y * Z).toNat u) : ∀ (n : Nat) (v : BitVec 64), unset (X * Y * Z).toNat v ≤ n → Low (X * Y * Z).toNat v → (∀ i, v0.getLsbD i = true → v.getLsbD i = true) → (∀ c, bitP X Y Z v c → Rch (bitP X Y Z v0) (bitP X Y Z u) c) →
    ∃ w : BitVec 64, (∀ m, n < m → l_box_grown_1 m X Y Z (v.toNat : Int) (u.toNat : Int) = some ((w.toNat : Int), ())) ∧ Low (X * Y * Z).toNat w ∧ ∀ c, bitP X Y Z w c ↔ Rch (bitP X Y Z v0) (bitP X Y Z u) c := by
  intro n
  induction n with
  | zero =>
    intro v hn hv hsub hr
    by_cases h : grow1 X Y Z u v = v
    · refine ⟨v, fun m hm => ?_, hv, fun c => ⟨hr c, fun hc => ⟨hc.within, grow1_closed hs hsub h c hc⟩⟩⟩
      obtain ⟨m, rfl⟩ : ∃ m', m = m' + 1 := ⟨m - 1, by omega⟩
      rw [l_grow1 hs, if_pos h]
    · have := unset_lt hv (grow1_low hv hu) (fun i hi => grow1_sub i hi) h
      omega
  | succ n ih =>
    intro v hn hv hsub hr
    by_cases h : grow1 X Y Z u v = v
    · refine ⟨v, fun m hm => ?_, hv, fun c => ⟨hr c, fun hc => ⟨hc.within, grow1_closed hs hsub h c hc⟩⟩⟩
      obtain ⟨m, rfl⟩ : ∃ m', m = m' + 1 := ⟨m - 1, by omega⟩
      rw [l_grow1 hs, if_pos h]
    · have hlt := unset_lt hv (grow1_low hv hu) (fun i hi => grow1_sub i hi) h
      obtain ⟨w, h1, h2, h3⟩ := ih (grow1 X Y Z u v) (by omega) (grow1_low hv hu) (fun i hi => grow1_sub i (hsub i hi)) (fun c hc => grow1_reach hs hr c hc)
      refine ⟨w, fun m hm => ?_, h2, h3⟩
      obtain ⟨m, rfl⟩ : ∃ m', m = m' + 1 := ⟨m - 1, by omega⟩
      rw [l_grow1 hs, if_neg h]
      exact h1 m (by omega)

theorem f_grown {X Y Z : Int} (hs : sides X Y Z = true) {v u : BitVec 64} (hv : Low (X * Y * Z).toNat v) (hu : Low (X * Y * Z).toNat u) : ∃ w : BitVec 64, P_box_grown ((X, Y, Z, ()), (v.toNat : Int), (u.toNat : Int), ()) = some ((w.toNat : Int), ()) ∧ Low (X * Y * Z).toNat w ∧ ∀ c, bitP X Y Z w c ↔ Rch (bitP X Y Z v) (bitP X Y Z u) c := by
  obtain ⟨w, h1, h2, h3⟩ := grown_ex hs hu 64 v (by have := unset_le (X * Y * Z).toNat v; have := size64 hs; omega) hv (fun _ h => h) (fun c hc => .base hc)
  refine ⟨w, ?_, h2, h3⟩
  rw [p_box_grown]
  exact h1 N (by have := N_ge; omega)

end Go.VI
/- Plain: cuts. -/
namespace Go.VI
open Go.Proofs

def sh (d s : Int) (c : D_A3) : D_A3 := ((bif decide (d = 0) then c.1 + s else c.1), (bif decide (d = 1) then c.2.1 + s else c.2.1), (bif decide (d = 2) then c.2.2.1 + s else c.2.2.1), ())

theorem ltC_sh (d s : Int) (a b : D_A3) : ltC (sh d s a) (sh d s b) = ltC a b := by
  unfold ltC sh
  cases decide (d = 0) <;> cases decide (d = 1) <;> cases decide (d = 2) <;> simp

theorem srt_sh {l : List D_A3} (h : Srt l) (d s : Int) : Srt (l.map (sh d s)) := by
  unfold Srt
  rw [List.pairwise_map]
  exact List.Pairwise.imp (fun {a b} hab => by rw [ltC_sh]; exact hab) h

theorem dir {d : Int} (h0 : 0 ≤ d) (h1 : d ≤ 2) : d = 0 ∨ d = 1 ∨ d = 2 := by omega

theorem get3_sh {d : Int} (h0 : 0 ≤ d) (h1 : d ≤ 2) (s : Int) (c : D_A3) : get3 (sh d s c) d = get3 c d + s := by
  rcases dir h0 h1 with rfl | rfl | rfl <;> rfl

theorem sh_sh (d s t : Int) (c : D_A3) : sh d t (sh d s c) = sh d (s + t) c := by
  refine cell_ext ?_ ?_ ?_ <;> simp only [sh]
  · cases decide (d = 0) <;> simp; omega
  · cases decide (d = 1) <;> simp; omega
  · cases decide (d = 2) <;> simp; omega

theorem sh_zero (d : Int) (c : D_A3) : sh d 0 c = c := by
  refine cell_ext ?_ ?_ ?_ <;> simp [sh]

def cutN (l : List D_A3) (d k : Int) : Nat := (l.filter fun c => decide (get3 c d = k) && decide (sh d (-1) c ∈ l)).length

theorem inB_dir {d : Int} (h0 : 0 ≤ d) (h1 : d ≤ 2) : inB d 3 = true := by
  rcases dir h0 h1 with rfl | rfl | rfl <;> decide

def side3 (X Y Z d : Int) : Int := bif decide (d = 0) then X else (bif decide (d = 1) then Y else Z)

theorem l_cutFaces (X Y Z : Int) (l : List D_A3) (dr k : Int) (hs : sides X Y Z = true) (hl : Small l) (hi : Ins X Y Z l) (d0 : 0 ≤ dr) (d1 : dr ≤ 2) (k0 : 1 ≤ k) : ∀ (d i m : Nat) (cnt : Nat), l.length = i + d → d < m → cnt ≤ i →
    l_Heap_cutFaces_3 m X Y Z l dr k (cnt : Int) l (l.length : Int) (i : Int) = some (((cnt + ((l.drop i).filter fun c => decide (get3 c dr = k) && decide (sh dr (-1) c ∈ l)).length : Nat) : Int), ())
  | d, i, 0, cnt, hk, hm, hc => by omega
  | d, i, m + 1, cnt, hk, hm, hc => by
    unfold Small at hl
    rw [q_Heap_cutFaces_3]
    by_cases hlt : i < l.length
    · have hin := hi _ (List.getElem_mem hlt)
      rw [ltT hlt, inB_at hlt, nthA (t := T_A3) hlt, inB_dir d0 d1, drop_at l i hlt, List.filter_cons]
      have ih := l_cutFaces X Y Z l dr k hs hl hi d0 d1 k0 (d - 1) (i + 1) m
      obtain ⟨w1, w2, w3⟩ := within3_iff.1 hin
      obtain ⟨s1, s2, s3⟩ := sides_iff.1 hs
      simp only [cond_true]
      by_cases hg : get3 l[i] dr = k
      · have hw : within3 X Y Z (sh dr (-1) l[i]) = true := by
          rw [within3_iff]
          rcases dir d0 d1 with rfl | rfl | rfl <;> simp only [get3, sh] at hg ⊢ <;> simp at hg ⊢ <;> omega
        have hcell : ((bif decide (dr = (0 : Int)) then (IntKind.wrap .i64 ((bif decide (dr = (0 : Int)) then (l[i]).1 else (bif decide (dr = (1 : Int)) then (l[i]).2.1 else (l[i]).2.2.1)) - 1)) else (l[i]).1), ((bif decide (dr = (1 : Int)) then (IntKind.wrap .i64 ((bif decide (dr = (0 : Int)) then (l[i]).1 else (bif decide (dr = (1 : Int)) then (l[i]).2.1 else (l[i]).2.2.1)) - 1)) else (l[i]).2.1), ((bif decide (dr = (2 : Int)) then (IntKind.wrap .i64 ((bif decide (dr = (0 : Int)) then (l[i]).1 else (bif decide (dr = (1 : Int)) then (l[i]).2.1 else (l[i]).2.2.1)) - 1)) else (l[i]).2.2.1), ()))) = sh dr (-1) l[i] := by
          rw [w64]
          · rcases dir d0 d1 with rfl | rfl | rfl <;> rfl
          all_goals rcases dir d0 d1 with rfl | rfl | rfl <;> simp <;> omega
        have hgd : decide ((bif decide (dr = (0 : Int)) then (l[i]).1 else (bif decide (dr = (1 : Int)) then (l[i]).2.1 else (l[i]).2.2.1)) = k) = true := decide_eq_true hg
        rw [hgd, hcell, f_hasCube hs hl hi hw]
        simp only [cond_true, Option.bind_some, hg, decide_true, Bool.true_and]
        by_cases hmem : sh dr (-1) l[i] ∈ l
        · rw [decide_eq_true hmem]
          simp only [cond_true, if_true]
          rw [succI cnt (by omega), succI i (by omega), ih (cnt + 1) (by omega) (by omega) (by omega)]
          simp only [List.length_cons]
          congr 3
          omega
        · rw [decide_eq_false hmem]
          simp only [cond_false, Bool.false_eq_true, if_false]
          rw [succI i (by omega), ih cnt (by omega) (by omega) (by omega)]
      · have hgd : decide ((bif decide (dr = (0 : Int)) then (l[i]).1 else (bif decide (dr = (1 : Int)) then (l[i]).2.1 else (l[i]).2.2.1)) = k) = false := decide_eq_false hg
        rw [hgd]
        simp only [cond_false, hg, decide_false, Bool.false_and, Bool.false_eq_true, if_false]
        rw [succI i (by omega), ih cnt (by omega) (by omega) (by omega)]
    · rw [ltF hlt, List.drop_eq_nil_of_le (by omega)]
      rfl

theorem f_cutFaces {X Y Z : Int} {l : List D_A3} (dr k : Int) (hs : sides X Y Z = true) (hl : Small l) (hi : Ins X Y Z l) (d0 : 0 ≤ dr) (d1 : dr ≤ 2) (k0 : 1 ≤ k) : P_Heap_cutFaces ((X, Y, Z, l, ()), dr, k, ()) = some ((cutN l dr k : Int), ()) := by
  have := l_cutFaces X Y Z l dr k hs hl hi d0 d1 k0 l.length 0 N 0 (by simp) (by unfold Small at hl; have := N_ge; omega) (by omega)
  rw [p_Heap_cutFaces]
  simpa [cutN] using this

theorem l_faces (X Y Z : Int) (l : List D_A3) (dr k : Int) (hs : sides X Y Z = true) (hl : Small l) (hi : Ins X Y Z l) (d0 : 0 ≤ dr) (d1 : dr ≤ 2) (k0 : 1 ≤ k) (k1 : k ≤ 4) : ∀ (d i m : Nat) (cnt : Nat), l.length = i + d → d < m → cnt ≤ i →
    l_spec_l11Faces_4 m X Y Z l (bif decide (dr = (0 : Int)) then 1 else 0) (bif decide (dr = (1 : Int)) then 1 else 0) (bif decide (dr = (2 : Int)) then 1 else 0) dr k (cnt : Int) (i : Int) = some (((cnt + ((l.drop i).filter fun c => decide (get3 c dr = k - 1) && decide (sh dr 1 c ∈ l)).length : Nat) : Int), ())
  | d, i, 0, cnt, hk, hm, hc => by omega
  | d, i, m + 1, cnt, hk, hm, hc => by
    unfold Small at hl
    rw [q_spec_l11Faces_4]
    by_cases hlt : i < l.length
    · have hin := hi _ (List.getElem_mem hlt)
      rw [ltT hlt, inB_at hlt, nthA (t := T_A3) hlt, inB_dir d0 d1, drop_at l i hlt, List.filter_cons, w64 (x := k - 1) (by omega) (by omega)]
      have ih := l_faces X Y Z l dr k hs hl hi d0 d1 k0 k1 (d - 1) (i + 1) m
      obtain ⟨w1, w2, w3⟩ := within3_iff.1 hin
      obtain ⟨s1, s2, s3⟩ := sides_iff.1 hs
      simp only [cond_true]
      by_cases hg : get3 l[i] dr = k - 1
      · have hcell : P_spec_l6Beside (l[i], ((bif decide (dr = (0 : Int)) then 1 else 0), ((bif decide (dr = (1 : Int)) then 1 else 0), ((bif decide (dr = (2 : Int)) then 1 else 0), ()))), ()) = some (sh dr 1 l[i], ()) := by
          rw [p_spec_l6Beside, w64, w64, w64]
          · rcases dir d0 d1 with rfl | rfl | rfl <;> simp [sh]
          all_goals rcases dir d0 d1 with rfl | rfl | rfl <;> simp <;> omega
        have hgd : decide ((bif decide (dr = (0 : Int)) then (l[i]).1 else (bif decide (dr = (1 : Int)) then (l[i]).2.1 else (l[i]).2.2.1)) = k - 1) = true := decide_eq_true hg
        rw [hgd, hcell]
        simp only [cond_true, Option.bind_some, hg, decide_true, Bool.true_and]
        rw [f_l2Has _ _ _ _ _ hl]
        simp only [Option.bind_some]
        by_cases hmem : sh dr 1 l[i] ∈ l
        · rw [decide_eq_true hmem]
          simp only [cond_true, if_true]
          rw [succI cnt (by omega), succI i (by omega), ih (cnt + 1) (by omega) (by omega) (by omega)]
          simp only [List.length_cons]
          congr 3
          omega
        · rw [decide_eq_false hmem]
          simp only [cond_false, Bool.false_eq_true, if_false]
          rw [succI i (by omega), ih cnt (by omega) (by omega) (by omega)]
      · have hgd : decide ((bif decide (dr = (0 : Int)) then (l[i]).1 else (bif decide (dr = (1 : Int)) then (l[i]).2.1 else (l[i]).2.2.1)) = k - 1) = false := decide_eq_false hg
        rw [hgd]
        simp only [cond_false, hg, decide_false, Bool.false_and, Bool.false_eq_true, if_false]
        rw [succI i (by omega), ih cnt (by omega) (by omega) (by omega)]
    · rw [ltF hlt, List.drop_eq_nil_of_le (by omega)]
      rfl

theorem faces_eq (l : List D_A3) (hr : Srt l) (dr k : Int) (d0 : 0 ≤ dr) (d1 : dr ≤ 2) : (l.filter fun c => decide (get3 c dr = k - 1) && decide (sh dr 1 c ∈ l)).map (sh dr 1) = l.filter fun c => decide (get3 c dr = k) && decide (sh dr (-1) c ∈ l) := by
  refine srt_ext _ _ (srt_sh (hr.filter _) _ _) (hr.filter _) fun c => ?_
  simp only [List.mem_map, List.mem_filter, Bool.and_eq_true, decide_eq_true_eq]
  constructor
  · rintro ⟨a, ⟨h1, h2, h3⟩, rfl⟩
    refine ⟨h3, ?_, ?_⟩
    · rw [get3_sh d0 d1]; omega
    · rw [sh_sh, show (1 : Int) + -1 = 0 from rfl, sh_zero]; exact h1
  · rintro ⟨h1, h2, h3⟩
    refine ⟨sh dr (-1) c, ⟨h3, ?_, ?_⟩, ?_⟩
    · rw [get3_sh d0 d1]; omega
    · rw [sh_sh, show (-1 : Int) + 1 = 0 from rfl, sh_zero]; exact h1
    · rw [sh_sh, show (-1 : Int) + 1 = 0 from rfl, sh_zero]

theorem f_faces {X Y Z : Int} {l : List D_A3} (dr k : Int) (hs : sides X Y Z = true) (hl : Small l) (hi : Ins X Y Z l) (hr : Srt l) (d0 : 0 ≤ dr) (d1 : dr ≤ 2) (k0 : 1 ≤ k) (k1 : k ≤ 4) : P_spec_l11Faces ((X, Y, Z, l, ()), dr, k, ()) = some ((cutN l dr k : Int), ()) := by
  have := l_faces X Y Z l dr k hs hl hi d0 d1 k0 k1 l.length 0 N 0 (by simp) (by unfold Small at hl; have := N_ge; omega) (by omega)
  rw [p_spec_l11Faces, inB_dir d0 d1]
  simp only [cond_true, cutN, ← faces_eq l hr dr k d0 d1, List.length_map]
  simpa using this

def isCut (X Y Z d k : Int) : Bool := decide (0 ≤ d) && decide (d ≤ 2) && (decide (1 ≤ k) && decide (k ≤ side3 X Y Z d - 1))

theorem side3_ok {X Y Z : Int} (hs : sides X Y Z = true) (d : Int) : 1 ≤ side3 X Y Z d ∧ side3 X Y Z d ≤ 4 := by
  obtain ⟨s1, s2, s3⟩ := sides_iff.1 hs
  unfold side3
  cases decide (d = 0) <;> cases decide (d = 1) <;> simp <;> omega

theorem f_isCut {X Y Z : Int} (l : List D_A3) (hs : sides X Y Z = true) (d k : Int) : P_Heap_isCut ((X, Y, Z, l, ()), d, k, ()) = some (isCut X Y Z d k, ()) := by
  have h4 := side3_ok hs d
  rw [p_Heap_isCut, p_impl_isDirection, f_impl_within, f_Heap_box]
  simp only [Option.bind_some, f_impl_within]
  unfold isCut
  by_cases hd : 0 ≤ d ∧ d ≤ 2
  · rw [decide_eq_true hd.1, decide_eq_true hd.2, inB_dir hd.1 hd.2]
    simp only [Bool.and_self, cond_true, Bool.true_and]
    have : (bif decide (d = (0 : Int)) then X else (bif decide (d = (1 : Int)) then Y else Z)) = side3 X Y Z d := rfl
    rw [this, w64 (by omega) (by omega)]
  · have : (decide (0 ≤ d) && decide (d ≤ 2)) = false := by simp; omega
    rw [this]
    simp

theorem f_l2Long {X Y Z : Int} (l : List D_A3) {d : Int} (d0 : 0 ≤ d) (d1 : d ≤ 2) : P_spec_l2Long ((X, Y, Z, l, ()), d, ()) = some (side3 X Y Z d, ()) := by
  rw [p_spec_l2Long, inB_dir d0 d1]; rfl

theorem f_l11Cut (h : D_Heap) (hl : Small h.2.2.2.1) (d k : Int) : P_spec_l11Cut (h, d, k, ()) = some (okHeap h && isCut h.1 h.2.1 h.2.2.1 d k, ()) := by
  rw [p_spec_l11Cut, f_spec_l2Heap _ hl]
  simp only [Option.bind_some, f_spec_l1In]
  cases ho : okHeap h with
  | false => simp
  | true =>
    have hs := (okHeap_iff.1 ho).1
    have h4 := side3_ok hs d
    simp only [cond_true, Bool.true_and]
    unfold isCut
    by_cases hd : 0 ≤ d ∧ d ≤ 2
    · have e := f_l2Long (X := h.1) (Y := h.2.1) (Z := h.2.2.1) h.2.2.2.1 hd.1 hd.2
      have e' : P_spec_l2Long (h, d, ()) = some (side3 h.1 h.2.1 h.2.2.1 d, ()) := e
      rw [e', decide_eq_true hd.1, decide_eq_true hd.2]
      simp only [Bool.and_self, cond_true, Bool.true_and, Option.bind_some]
      rw [w64 (by omega) (by omega)]
    · have : (decide (0 ≤ d) && decide (d ≤ 2)) = false := by simp; omega
      rw [this]
      simp

def cutFacesV (h : D_Heap) (d k : Int) : Int × Bool × Unit := if okHeap h && isCut h.1 h.2.1 h.2.2.1 d k then ((cutN h.2.2.2.1 d k : Int), true, ()) else (0, false, ())

theorem isCut_iff {X Y Z d k : Int} : isCut X Y Z d k = true ↔ 0 ≤ d ∧ d ≤ 2 ∧ 1 ≤ k ∧ k ≤ side3 X Y Z d - 1 := by
  simp [isCut, and_assoc]

theorem f_spec_CutFaces (h : D_Heap) (hl : Small h.2.2.2.1) (d k : Int) : P_spec_CutFaces (h, d, k, ()) = some (cutFacesV h d k) := by
  rw [p_spec_CutFaces, f_l11Cut _ hl]
  unfold cutFacesV
  cases ho : okHeap h && isCut h.1 h.2.1 h.2.2.1 d k with
  | false => simp
  | true =>
    rw [Bool.and_eq_true] at ho
    obtain ⟨hs, hi, hr⟩ := okHeap_iff.1 ho.1
    obtain ⟨d0, d1, k0, k1⟩ := isCut_iff.1 ho.2
    have h4 := side3_ok hs d
    have e : P_spec_l11Faces (h, d, k, ()) = some ((cutN h.2.2.2.1 d k : Int), ()) := f_faces d k hs hl hi hr d0 d1 k0 (by omega)
    simp [e]

theorem f_impl_CutFaces (h : D_Heap) (hl : Small h.2.2.2.1) (d k : Int) : P_impl_CutFaces (h, d, k, ()) = some (cutFacesV h d k) := by
  rw [p_impl_CutFaces, f_impl_IsHeap _ hl]
  unfold cutFacesV
  cases ho : okHeap h with
  | false => simp
  | true =>
    obtain ⟨hs, hi, hr⟩ := okHeap_iff.1 ho
    have e1 : P_Heap_isCut (h, d, k, ()) = some (isCut h.1 h.2.1 h.2.2.1 d k, ()) := f_isCut h.2.2.2.1 hs d k
    simp only [Option.bind_some, Bool.not_true, cond_false, e1, Bool.true_and]
    cases hc : isCut h.1 h.2.1 h.2.2.1 d k with
    | false => simp
    | true =>
      obtain ⟨d0, d1, k0, k1⟩ := isCut_iff.1 hc
      have e : P_Heap_cutFaces (h, d, k, ()) = some ((cutN h.2.2.2.1 d k : Int), ()) := f_cutFaces d k hs hl hi d0 d1 k0
      simp [e]

end Go.VI
/- Plain: cutting a heap. -/
namespace Go.VI
open Go.Proofs

/-! ### Marks from any number on -/
/-! ### The two parts -/
def lowOf (l : List D_A3) (d k : Int) : List D_A3 := l.filter fun c => decide (get3 c d < k)
def highOf (l : List D_A3) (d k : Int) : List D_A3 := (l.filter fun c => !decide (get3 c d < k)).map (sh d (-k))

theorem sh_text {d : Int} (d0 : 0 ≤ d) (d1 : d ≤ 2) (c : D_A3) (hc : Near c) (k : Int) (k0 : 0 ≤ k) (k1 : k ≤ 4) : ((bif decide (d = (0 : Int)) then (IntKind.wrap .i64 ((bif decide (d = (0 : Int)) then c.1 else (bif decide (d = (1 : Int)) then c.2.1 else c.2.2.1)) - k)) else c.1), ((bif decide (d = (1 : Int)) then (IntKind.wrap .i64 ((bif decide (d = (0 : Int)) then c.1 else (bif decide (d = (1 : Int)) then c.2.1 else c.2.2.1)) - k)) else c.2.1), ((bif decide (d = (2 : Int)) then (IntKind.wrap .i64 ((bif decide (d = (0 : Int)) then c.1 else (bif decide (d = (1 : Int)) then c.2.1 else c.2.2.1)) - k)) else c.2.2.1), ()))) = sh d (-k) c := by
  unfold Near at hc
  rw [w64]
  · rcases dir d0 d1 with rfl | rfl | rfl <;> rfl
  all_goals rcases dir d0 d1 with rfl | rfl | rfl <;> simp <;> omega

theorem l_specCut {X Y Z : Int} {l : List D_A3} {d k : Int} (hs : sides X Y Z = true) (hl : Small l) (hi : Ins X Y Z l) (d0 : 0 ≤ d) (d1 : d ≤ 2) (k0 : 1 ≤ k) (k1 : k ≤ 4) (A1 A2 A3 B1 B2 B3 : Int) : ∀ (n i m : Nat) (a b : List D_A3), l.length = i + n → n < m → a.length ≤ i → b.length ≤ i →
    l_spec_CutHeap_5 m X Y Z l 0 0 0 [] 0 0 0 [] A1 A2 A3 a B1 B2 B3 b d k (i : Int) = some ((A1, A2, A3, a ++ lowOf (l.drop i) d k, ()), (B1, B2, B3, b ++ highOf (l.drop i) d k, ()), true, ())
  | n, i, 0, a, b, hk, hm, ha, hb => by omega
  | n, i, m + 1, a, b, hk, hm, ha, hb => by
    have hl' := hl
    unfold Small at hl'
    rw [q_spec_CutHeap_5]
    by_cases hlt : i < l.length
    · have ih := l_specCut hs hl hi d0 d1 k0 k1 A1 A2 A3 B1 B2 B3 (n - 1) (i + 1) m
      have hnear := near_of hs (hi _ (List.getElem_mem hlt))
      rw [ltT hlt, inB_at hlt, nthA (t := T_A3) hlt, inB_dir d0 d1, succI i (by omega), sh_text d0 d1 _ hnear k (by omega) k1, drop_at l i hlt]
      simp only [cond_true, List.length_cons, List.length_nil, lowOf, highOf, List.filter_cons]
      rw [decide_eq_true (p := (a.length + (0 + 1)) * 24 ≤ 140737488355328) (by omega), decide_eq_true (p := a.length + (0 + 1) ≤ 140737488355328) (by omega), decide_eq_true (p := (b.length + (0 + 1)) * 24 ≤ 140737488355328) (by omega), decide_eq_true (p := b.length + (0 + 1) ≤ 140737488355328) (by omega)]
      have hg : decide ((bif decide (d = (0 : Int)) then (l[i]).1 else (bif decide (d = (1 : Int)) then (l[i]).2.1 else (l[i]).2.2.1)) < k) = decide (get3 l[i] d < k) := rfl
      rw [hg]
      cases hd : decide (get3 l[i] d < k) with
      | true =>
        simp only [cond_true, Bool.and_self, Bool.not_true, Bool.false_eq_true, if_true, if_false]
        rw [ih _ _ (by omega) (by omega) (by simp; omega) (by omega)]
        simp [lowOf, highOf]
      | false =>
        simp only [cond_true, cond_false, Bool.and_self, Bool.not_false, Bool.false_eq_true, if_true, if_false]
        rw [ih _ _ (by omega) (by omega) (by omega) (by simp; omega)]
        simp [lowOf, highOf]
    · rw [ltF hlt, List.drop_eq_nil_of_le (by omega)]
      simp [lowOf, highOf]

theorem mask_append (Y Z : Int) (l r : List D_A3) (v : BitVec 64) : mask Y Z (l ++ r) v = mask Y Z r (mask Y Z l v) := by
  unfold mask
  rw [List.foldl_append]

theorem l_implCut {X Y Z : Int} {l : List D_A3} {d k : Int} (hs : sides X Y Z = true) (hl : Small l) (hi : Ins X Y Z l) (d0 : 0 ≤ d) (d1 : d ≤ 2) (k0 : 1 ≤ k) (k1 : k ≤ 4) {A1 A2 A3 B1 B2 B3 : Int} (hA : sides A1 A2 A3 = true) (hB : sides B1 B2 B3 = true)
    (iA : ∀ c, within3 X Y Z c = true → decide (get3 c d < k) = true → within3 A1 A2 A3 c = true) (iB : ∀ c, within3 X Y Z c = true → decide (get3 c d < k) = false → within3 B1 B2 B3 (sh d (-k) c) = true) : ∀ (n i m : Nat) (v w : BitVec 64), l.length = i + n → n < m →
    l_impl_CutHeap_7 m 0 0 0 [] 0 0 0 [] A1 A2 A3 B1 B2 B3 d k (v.toNat : Int) (w.toNat : Int) l (l.length : Int) (i : Int) = some ((A1, A2, A3, bitCells A1 A2 A3 (mask A2 A3 (lowOf (l.drop i) d k) v), ()), (B1, B2, B3, bitCells B1 B2 B3 (mask B2 B3 (highOf (l.drop i) d k) w), ()), true, ())
  | n, i, 0, v, w, hk, hm => by omega
  | n, i, m + 1, v, w, hk, hm => by
    have hl' := hl
    unfold Small at hl'
    rw [q_impl_CutHeap_7]
    by_cases hlt : i < l.length
    · have ih := l_implCut hs hl hi d0 d1 k0 k1 hA hB iA iB (n - 1) (i + 1) m
      have hin := hi _ (List.getElem_mem hlt)
      have hnear := near_of hs hin
      rw [ltT hlt, inB_at hlt, nthA (t := T_A3) hlt, inB_dir d0 d1, succI i (by omega), sh_text d0 d1 _ hnear k (by omega) k1, drop_at l i hlt]
      simp only [cond_true, lowOf, highOf, List.filter_cons]
      have hg : decide ((bif decide (d = (0 : Int)) then (l[i]).1 else (bif decide (d = (1 : Int)) then (l[i]).2.1 else (l[i]).2.2.1)) < k) = decide (get3 l[i] d < k) := rfl
      rw [hg]
      cases hd : decide (get3 l[i] d < k) with
      | true =>
        simp only [cond_true, Bool.not_true, Bool.false_eq_true, if_true, if_false]
        rw [f_box_index hA (iA _ hin hd)]
        simp only [Option.bind_some]
        rw [decide_eq_true (Int.natCast_nonneg _), shl64, or64]
        exact ih _ _ (by omega) (by omega)
      | false =>
        simp only [cond_false, Bool.not_false, Bool.false_eq_true, if_true, if_false]
        rw [f_box_index hB (iB _ hin hd)]
        simp only [Option.bind_some]
        rw [decide_eq_true (Int.natCast_nonneg _), shl64, or64]
        exact ih _ _ (by omega) (by omega)
    · rw [ltF hlt, List.drop_eq_nil_of_le (by omega)]
      simp only [cond_false]
      rw [f_box_heap hA]
      simp only [Option.bind_some]
      rw [f_box_heap hB]
      rfl

def boxWith (X Y Z d s : Int) (l : List D_A3) : D_Heap := ((bif decide (d = 0) then s else X), (bif decide (d = 1) then s else Y), (bif decide (d = 2) then s else Z), l, ())

def cutV (h : D_Heap) (d k : Int) : D_Heap × D_Heap × Bool × Unit :=
  if okHeap h && isCut h.1 h.2.1 h.2.2.1 d k then (boxWith h.1 h.2.1 h.2.2.1 d k (lowOf h.2.2.2.1 d k), boxWith h.1 h.2.1 h.2.2.1 d (side3 h.1 h.2.1 h.2.2.1 d - k) (highOf h.2.2.2.1 d k), true, ()) else (noHeap, noHeap, false, ())

theorem f_l11Box {X Y Z : Int} (l : List D_A3) {d : Int} (d0 : 0 ≤ d) (d1 : d ≤ 2) (s : Int) : P_spec_l11Box ((X, Y, Z, l, ()), d, s, ()) = some (boxWith X Y Z d s [], ()) := by
  rw [p_spec_l11Box, inB_dir d0 d1, p_spec_l2Empty]; rfl

theorem f_spec_CutHeap (h : D_Heap) (hl : Small h.2.2.2.1) (d k : Int) : P_spec_CutHeap (h, d, k, ()) = some (cutV h d k) := by
  rw [p_spec_CutHeap, f_l11Cut _ hl]
  unfold cutV
  cases ho : okHeap h && isCut h.1 h.2.1 h.2.2.1 d k with
  | false => rfl
  | true =>
    rw [Bool.and_eq_true] at ho
    obtain ⟨hs, hi, hr⟩ := okHeap_iff.1 ho.1
    obtain ⟨d0, d1, k0, k1⟩ := isCut_iff.1 ho.2
    have h4 := side3_ok hs d
    have e1 : ∀ s, P_spec_l11Box (h, d, s, ()) = some (boxWith h.1 h.2.1 h.2.2.1 d s [], ()) := f_l11Box h.2.2.2.1 d0 d1
    have e2 : P_spec_l2Long (h, d, ()) = some (side3 h.1 h.2.1 h.2.2.1 d, ()) := f_l2Long h.2.2.2.1 d0 d1
    simp only [Option.bind_some, Bool.not_true, cond_false, if_true, e1, e2]
    rw [w64 (by omega) (by omega)]
    have := l_specCut (d := d) (k := k) hs hl hi d0 d1 k0 (by omega) (boxWith h.1 h.2.1 h.2.2.1 d k []).1 (boxWith h.1 h.2.1 h.2.2.1 d k []).2.1 (boxWith h.1 h.2.1 h.2.2.1 d k []).2.2.1 (boxWith h.1 h.2.1 h.2.2.1 d (side3 h.1 h.2.1 h.2.2.1 d - k) []).1 (boxWith h.1 h.2.1 h.2.2.1 d (side3 h.1 h.2.1 h.2.2.1 d - k) []).2.1 (boxWith h.1 h.2.1 h.2.2.1 d (side3 h.1 h.2.1 h.2.2.1 d - k) []).2.2.1 h.2.2.2.1.length 0 N [] [] (by simp) (by unfold Small at hl; have := N_ge; omega) (by simp) (by simp)
    exact this

theorem f_impl_CutHeap (h : D_Heap) (hl : Small h.2.2.2.1) (d k : Int) : P_impl_CutHeap (h, d, k, ()) = some (cutV h d k) := by
  rw [p_impl_CutHeap, f_impl_IsHeap _ hl]
  unfold cutV
  cases ho : okHeap h with
  | false => rfl
  | true =>
    obtain ⟨hs, hi, hr⟩ := okHeap_iff.1 ho
    have e1 : P_Heap_isCut (h, d, k, ()) = some (isCut h.1 h.2.1 h.2.2.1 d k, ()) := f_isCut h.2.2.2.1 hs d k
    simp only [Option.bind_some, Bool.not_true, cond_false, e1, Bool.true_and]
    cases hc : isCut h.1 h.2.1 h.2.2.1 d k with
    | false => rfl
    | true =>
      obtain ⟨d0, d1, k0, k1⟩ := isCut_iff.1 hc
      have h4 := side3_ok hs d
      obtain ⟨s1, s2, s3⟩ := sides_iff.1 hs
      have hA : sides (boxWith h.1 h.2.1 h.2.2.1 d k []).1 (boxWith h.1 h.2.1 h.2.2.1 d k []).2.1 (boxWith h.1 h.2.1 h.2.2.1 d k []).2.2.1 = true := by
        rw [sides_iff]
        rcases dir d0 d1 with rfl | rfl | rfl <;> simp [boxWith] <;> omega
      have hB : sides (boxWith h.1 h.2.1 h.2.2.1 d (side3 h.1 h.2.1 h.2.2.1 d - k) []).1 (boxWith h.1 h.2.1 h.2.2.1 d (side3 h.1 h.2.1 h.2.2.1 d - k) []).2.1 (boxWith h.1 h.2.1 h.2.2.1 d (side3 h.1 h.2.1 h.2.2.1 d - k) []).2.2.1 = true := by
        rw [sides_iff]
        rcases dir d0 d1 with rfl | rfl | rfl <;> simp [boxWith] <;> omega
      have iA : ∀ c, within3 h.1 h.2.1 h.2.2.1 c = true → decide (get3 c d < k) = true → within3 (boxWith h.1 h.2.1 h.2.2.1 d k []).1 (boxWith h.1 h.2.1 h.2.2.1 d k []).2.1 (boxWith h.1 h.2.1 h.2.2.1 d k []).2.2.1 c = true := by
        intro c hc hg
        have hg := of_decide_eq_true hg
        have := within3_iff.1 hc
        rw [within3_iff]
        rcases dir d0 d1 with rfl | rfl | rfl <;> simp [boxWith, get3] at hg ⊢ <;> omega
      have iB : ∀ c, within3 h.1 h.2.1 h.2.2.1 c = true → decide (get3 c d < k) = false → within3 (boxWith h.1 h.2.1 h.2.2.1 d (side3 h.1 h.2.1 h.2.2.1 d - k) []).1 (boxWith h.1 h.2.1 h.2.2.1 d (side3 h.1 h.2.1 h.2.2.1 d - k) []).2.1 (boxWith h.1 h.2.1 h.2.2.1 d (side3 h.1 h.2.1 h.2.2.1 d - k) []).2.2.1 (sh d (-k) c) = true := by
        intro c hc hg
        have hg := of_decide_eq_false hg
        have := within3_iff.1 hc
        rw [within3_iff]
        rcases dir d0 d1 with rfl | rfl | rfl <;> simp [boxWith, get3, sh, side3] at hg ⊢ <;> omega
      have hsort : Srt (highOf h.2.2.2.1 d k) := srt_sh (hr.filter _) _ _
      have hinA : Ins _ _ _ (lowOf h.2.2.2.1 d k) := fun c hc => iA c (hi c (List.mem_filter.1 hc).1) (List.mem_filter.1 hc).2
      have hinB : Ins _ _ _ (highOf h.2.2.2.1 d k) := fun c hc => by
        obtain ⟨a, ha, rfl⟩ := List.mem_map.1 hc
        exact iB a (hi a (List.mem_filter.1 ha).1) (by simpa using (List.mem_filter.1 ha).2)
      have := l_implCut (d := d) (k := k) hs hl hi d0 d1 k0 (by omega) hA hB iA iB h.2.2.2.1.length 0 N 0 0 (by simp) (by unfold Small at hl; have := N_ge; omega)
      simp only [List.drop_zero] at this
      rw [listOf_mask hA hinA (hr.filter _), listOf_mask hB hinB hsort] at this
      simp only [Bool.not_true, cond_false, if_true]
      rw [f_Heap_box, inB_dir d0 d1]
      simp only [Option.bind_some, cond_true]
      have e : (bif decide (d = (0 : Int)) then h.1 else (bif decide (d = (1 : Int)) then h.2.1 else h.2.2.1)) = side3 h.1 h.2.1 h.2.2.1 d := rfl
      rw [e, w64 (by omega) (by omega)]
      exact this

theorem cutV_small (h : D_Heap) (hl : Small h.2.2.2.1) (d k : Int) : Small (cutV h d k).1.2.2.2.1 ∧ Small (cutV h d k).2.1.2.2.2.1 := by
  unfold cutV
  split
  · refine ⟨Nat.le_trans (List.length_filter_le _ _) hl, ?_⟩
    show (highOf h.2.2.2.1 d k).length ≤ 1048576
    unfold highOf
    rw [List.length_map]
    exact Nat.le_trans (List.length_filter_le _ _) hl
  · exact ⟨by unfold Small noHeap; simp, by unfold Small noHeap; simp⟩

end Go.VI
