/- Plain: neighbors, those, grown sets and what is enclosed, as the program has them. -/
import Derived.Test.YtaopponjedombaaGreatPlN
namespace Go.VI
open Go.Proofs

def popI (a0 : Int) : Int := (intBits .and .i64 (IntKind.wrap .i64 (IntKind.wrap .u64 ((IntKind.wrap .u64 ((IntKind.wrap .u64 ((intBits .and .u64 (IntKind.wrap .u64 ((shrI .u64 (IntKind.wrap .u64 ((intBits .and .u64 (shrI .u64 (IntKind.wrap .u64 ((intBits .and .u64 (shrI .u64 a0 1) 6148914691236517205) + (intBits .and .u64 a0 6148914691236517205))) 2) 3689348814741910323) + (intBits .and .u64 (IntKind.wrap .u64 ((intBits .and .u64 (shrI .u64 a0 1) 6148914691236517205) + (intBits .and .u64 a0 6148914691236517205))) 3689348814741910323))) 4) + (IntKind.wrap .u64 ((intBits .and .u64 (shrI .u64 (IntKind.wrap .u64 ((intBits .and .u64 (shrI .u64 a0 1) 6148914691236517205) + (intBits .and .u64 a0 6148914691236517205))) 2) 3689348814741910323) + (intBits .and .u64 (IntKind.wrap .u64 ((intBits .and .u64 (shrI .u64 a0 1) 6148914691236517205) + (intBits .and .u64 a0 6148914691236517205))) 3689348814741910323))))) 1085102592571150095) + (shrI .u64 (intBits .and .u64 (IntKind.wrap .u64 ((shrI .u64 (IntKind.wrap .u64 ((intBits .and .u64 (shrI .u64 (IntKind.wrap .u64 ((intBits .and .u64 (shrI .u64 a0 1) 6148914691236517205) + (intBits .and .u64 a0 6148914691236517205))) 2) 3689348814741910323) + (intBits .and .u64 (IntKind.wrap .u64 ((intBits .and .u64 (shrI .u64 a0 1) 6148914691236517205) + (intBits .and .u64 a0 6148914691236517205))) 3689348814741910323))) 4) + (IntKind.wrap .u64 ((intBits .and .u64 (shrI .u64 (IntKind.wrap .u64 ((intBits .and .u64 (shrI .u64 a0 1) 6148914691236517205) + (intBits .and .u64 a0 6148914691236517205))) 2) 3689348814741910323) + (intBits .and .u64 (IntKind.wrap .u64 ((intBits .and .u64 (shrI .u64 a0 1) 6148914691236517205) + (intBits .and .u64 a0 6148914691236517205))) 3689348814741910323))))) 1085102592571150095) 8))) + (shrI .u64 (IntKind.wrap .u64 ((intBits .and .u64 (IntKind.wrap .u64 ((shrI .u64 (IntKind.wrap .u64 ((intBits .and .u64 (shrI .u64 (IntKind.wrap .u64 ((intBits .and .u64 (shrI .u64 a0 1) 6148914691236517205) + (intBits .and .u64 a0 6148914691236517205))) 2) 3689348814741910323) + (intBits .and .u64 (IntKind.wrap .u64 ((intBits .and .u64 (shrI .u64 a0 1) 6148914691236517205) + (intBits .and .u64 a0 6148914691236517205))) 3689348814741910323))) 4) + (IntKind.wrap .u64 ((intBits .and .u64 (shrI .u64 (IntKind.wrap .u64 ((intBits .and .u64 (shrI .u64 a0 1) 6148914691236517205) + (intBits .and .u64 a0 6148914691236517205))) 2) 3689348814741910323) + (intBits .and .u64 (IntKind.wrap .u64 ((intBits .and .u64 (shrI .u64 a0 1) 6148914691236517205) + (intBits .and .u64 a0 6148914691236517205))) 3689348814741910323))))) 1085102592571150095) + (shrI .u64 (intBits .and .u64 (IntKind.wrap .u64 ((shrI .u64 (IntKind.wrap .u64 ((intBits .and .u64 (shrI .u64 (IntKind.wrap .u64 ((intBits .and .u64 (shrI .u64 a0 1) 6148914691236517205) + (intBits .and .u64 a0 6148914691236517205))) 2) 3689348814741910323) + (intBits .and .u64 (IntKind.wrap .u64 ((intBits .and .u64 (shrI .u64 a0 1) 6148914691236517205) + (intBits .and .u64 a0 6148914691236517205))) 3689348814741910323))) 4) + (IntKind.wrap .u64 ((intBits .and .u64 (shrI .u64 (IntKind.wrap .u64 ((intBits .and .u64 (shrI .u64 a0 1) 6148914691236517205) + (intBits .and .u64 a0 6148914691236517205))) 2) 3689348814741910323) + (intBits .and .u64 (IntKind.wrap .u64 ((intBits .and .u64 (shrI .u64 a0 1) 6148914691236517205) + (intBits .and .u64 a0 6148914691236517205))) 3689348814741910323))))) 1085102592571150095) 8))) 16))) + (shrI .u64 (IntKind.wrap .u64 ((IntKind.wrap .u64 ((intBits .and .u64 (IntKind.wrap .u64 ((shrI .u64 (IntKind.wrap .u64 ((intBits .and .u64 (shrI .u64 (IntKind.wrap .u64 ((intBits .and .u64 (shrI .u64 a0 1) 6148914691236517205) + (intBits .and .u64 a0 6148914691236517205))) 2) 3689348814741910323) + (intBits .and .u64 (IntKind.wrap .u64 ((intBits .and .u64 (shrI .u64 a0 1) 6148914691236517205) + (intBits .and .u64 a0 6148914691236517205))) 3689348814741910323))) 4) + (IntKind.wrap .u64 ((intBits .and .u64 (shrI .u64 (IntKind.wrap .u64 ((intBits .and .u64 (shrI .u64 a0 1) 6148914691236517205) + (intBits .and .u64 a0 6148914691236517205))) 2) 3689348814741910323) + (intBits .and .u64 (IntKind.wrap .u64 ((intBits .and .u64 (shrI .u64 a0 1) 6148914691236517205) + (intBits .and .u64 a0 6148914691236517205))) 3689348814741910323))))) 1085102592571150095) + (shrI .u64 (intBits .and .u64 (IntKind.wrap .u64 ((shrI .u64 (IntKind.wrap .u64 ((intBits .and .u64 (shrI .u64 (IntKind.wrap .u64 ((intBits .and .u64 (shrI .u64 a0 1) 6148914691236517205) + (intBits .and .u64 a0 6148914691236517205))) 2) 3689348814741910323) + (intBits .and .u64 (IntKind.wrap .u64 ((intBits .and .u64 (shrI .u64 a0 1) 6148914691236517205) + (intBits .and .u64 a0 6148914691236517205))) 3689348814741910323))) 4) + (IntKind.wrap .u64 ((intBits .and .u64 (shrI .u64 (IntKind.wrap .u64 ((intBits .and .u64 (shrI .u64 a0 1) 6148914691236517205) + (intBits .and .u64 a0 6148914691236517205))) 2) 3689348814741910323) + (intBits .and .u64 (IntKind.wrap .u64 ((intBits .and .u64 (shrI .u64 a0 1) 6148914691236517205) + (intBits .and .u64 a0 6148914691236517205))) 3689348814741910323))))) 1085102592571150095) 8))) + (shrI .u64 (IntKind.wrap .u64 ((intBits .and .u64 (IntKind.wrap .u64 ((shrI .u64 (IntKind.wrap .u64 ((intBits .and .u64 (shrI .u64 (IntKind.wrap .u64 ((intBits .and .u64 (shrI .u64 a0 1) 6148914691236517205) + (intBits .and .u64 a0 6148914691236517205))) 2) 3689348814741910323) + (intBits .and .u64 (IntKind.wrap .u64 ((intBits .and .u64 (shrI .u64 a0 1) 6148914691236517205) + (intBits .and .u64 a0 6148914691236517205))) 3689348814741910323))) 4) + (IntKind.wrap .u64 ((intBits .and .u64 (shrI .u64 (IntKind.wrap .u64 ((intBits .and .u64 (shrI .u64 a0 1) 6148914691236517205) + (intBits .and .u64 a0 6148914691236517205))) 2) 3689348814741910323) + (intBits .and .u64 (IntKind.wrap .u64 ((intBits .and .u64 (shrI .u64 a0 1) 6148914691236517205) + (intBits .and .u64 a0 6148914691236517205))) 3689348814741910323))))) 1085102592571150095) + (shrI .u64 (intBits .and .u64 (IntKind.wrap .u64 ((shrI .u64 (IntKind.wrap .u64 ((intBits .and .u64 (shrI .u64 (IntKind.wrap .u64 ((intBits .and .u64 (shrI .u64 a0 1) 6148914691236517205) + (intBits .and .u64 a0 6148914691236517205))) 2) 3689348814741910323) + (intBits .and .u64 (IntKind.wrap .u64 ((intBits .and .u64 (shrI .u64 a0 1) 6148914691236517205) + (intBits .and .u64 a0 6148914691236517205))) 3689348814741910323))) 4) + (IntKind.wrap .u64 ((intBits .and .u64 (shrI .u64 (IntKind.wrap .u64 ((intBits .and .u64 (shrI .u64 a0 1) 6148914691236517205) + (intBits .and .u64 a0 6148914691236517205))) 2) 3689348814741910323) + (intBits .and .u64 (IntKind.wrap .u64 ((intBits .and .u64 (shrI .u64 a0 1) 6148914691236517205) + (intBits .and .u64 a0 6148914691236517205))) 3689348814741910323))))) 1085102592571150095) 8))) 16))) 32)))) 127)
theorem nearB_eq (X Y Z : Int) (c : D_A3) : nearB X Y Z c = (List.range 6).foldl (fun v k => bif within3 X Y Z (stp k c) then v ||| BitVec.twoPow 64 (idx Y Z (stp k c)) else v) 0 := by
  unfold nearB nears mask
  rw [List.foldl_filter, List.foldl_map]
  congr 1
  funext v k
  cases within3 X Y Z (stp k c) <;> rfl

/-- Is a cell at the rim? -/
def rim (X Y Z : Int) (c : D_A3) : Bool := (List.range 6).any fun k => !within3 X Y Z (stp k c)

def chkRim : Bool := ([1, 2, 3, 4] : List Int).all fun X => ([1, 2, 3, 4] : List Int).all fun Y => ([1, 2, 3, 4] : List Int).all fun Z => (List.range (X * Y * Z).toNat).all fun i =>
  (decide (popI ((nearB X Y Z (cellOf Y Z i)).toNat : Int) < 6)) == rim X Y Z (cellOf Y Z i)
theorem chkRim_ok : chkRim = true := by kernel_rfl

theorem mem1234 {n : Int} (h0 : 1 ≤ n) (h1 : n ≤ 4) : n ∈ ([1, 2, 3, 4] : List Int) := by
  rcases four h0 h1 with rfl | rfl | rfl | rfl <;> simp

theorem pop_rim {X Y Z : Int} (hs : sides X Y Z = true) {c : D_A3} (hc : within3 X Y Z c = true) : decide (popI ((nearB X Y Z c).toNat : Int) < 6) = rim X Y Z c := by
  have h := chkRim_ok
  unfold chkRim at h
  have s := sides_iff.1 hs
  have h1 := List.all_eq_true.1 h X (mem1234 s.1.1 s.1.2)
  have h2 := List.all_eq_true.1 h1 Y (mem1234 s.2.1.1 s.2.1.2)
  have h3 := List.all_eq_true.1 h2 Z (mem1234 s.2.2.1 s.2.2.2)
  have h4 := List.all_eq_true.1 h3 (idx Y Z c) (List.mem_range.2 (idx_eq hs hc).2.1)
  rw [cellOf_idx hs hc] at h4
  exact eq_of_beq h4

theorem f_size {X Y Z : Int} (hs : sides X Y Z = true) : P_box_size ((X, Y, Z, ()), ()) = some (((X * Y * Z).toNat : Int), ()) := by
  have h := size64 hs
  have s := sides_iff.1 hs
  rw [p_box_size]
  show some (IntKind.wrap .i64 (IntKind.wrap .i64 (X * Y) * Z), ()) = _
  rw [w64 (x := X * Y) (by omega) (by omega), w64 (x := X * Y * Z) (by omega) (by omega)]
  congr 2
  omega

theorem near_step {X Y Z : Int} (hs : sides X Y Z = true) {c : D_A3} (hc : Near c) (m0 m1 : Nat) (v : BitVec 64) (d j : Nat) (hd : d < 3) (hj : j < 2) :
    l_box_near_6 m0 (m1 + 1) X Y Z c.1 c.2.1 c.2.2.1 (v.toNat : Int) (d : Int) (d : Int) (-1) 1 (j : Int) = l_box_near_6 m0 m1 X Y Z c.1 c.2.1 c.2.2.1 (((bif within3 X Y Z (stp (2 * d + j) c) then v ||| BitVec.twoPow 64 (idx Y Z (stp (2 * d + j) c)) else v).toNat : Nat) : Int) (d : Int) (d : Int) (-1) 1 ((j + 1 : Nat) : Int) := by
  rw [q_box_near_6]
  unfold Near at hc
  have hst : (((bif decide ((d : Int) = (0 : Int)) then (IntKind.wrap .i64 ((bif decide ((d : Int) = (0 : Int)) then c.1 else (bif decide ((d : Int) = (1 : Int)) then c.2.1 else c.2.2.1)) + (bif decide ((j : Int) = (0 : Int)) then (-1) else 1))) else c.1), ((bif decide ((d : Int) = (1 : Int)) then (IntKind.wrap .i64 ((bif decide ((d : Int) = (0 : Int)) then c.1 else (bif decide ((d : Int) = (1 : Int)) then c.2.1 else c.2.2.1)) + (bif decide ((j : Int) = (0 : Int)) then (-1) else 1))) else c.2.1), ((bif decide ((d : Int) = (2 : Int)) then (IntKind.wrap .i64 ((bif decide ((d : Int) = (0 : Int)) then c.1 else (bif decide ((d : Int) = (1 : Int)) then c.2.1 else c.2.2.1)) + (bif decide ((j : Int) = (0 : Int)) then (-1) else 1))) else c.2.2.1), ()))) : D_A3) = stp (2 * d + j) c := by
    have e1 : ∀ x : Int, -1000 ≤ x → x ≤ 1000 → IntKind.wrap .i64 (x + -1) = x + -1 := fun x h0 h1 => by rw [w64 (by omega) (by omega)]
    have e2 : ∀ x : Int, -1000 ≤ x → x ≤ 1000 → IntKind.wrap .i64 (x + 1) = x + 1 := fun x h0 h1 => by rw [w64 (by omega) (by omega)]
    have hd3 : d = 0 ∨ d = 1 ∨ d = 2 := by omega
    have hj2 : j = 0 ∨ j = 1 := by omega
    rcases hd3 with rfl | rfl | rfl <;> rcases hj2 with rfl | rfl <;> simp [stp, e1 _ hc.1 hc.2.1, e1 _ hc.2.2.1 hc.2.2.2.1, e1 _ hc.2.2.2.2.1 hc.2.2.2.2.2, e2 _ hc.1 hc.2.1, e2 _ hc.2.2.1 hc.2.2.2.1, e2 _ hc.2.2.2.2.1 hc.2.2.2.2.2]
  rw [hst, decide_eq_true (p := (j : Int) < 2) (by omega), inB_at (k := j) (n := 2) hj, inB_at (k := d) (n := 3) hd, f_box_has (X, Y, Z, ()) _ hs, succI j (by omega)]
  simp only [cond_true, Option.bind_some]
  cases hw : within3 X Y Z (stp (2 * d + j) c) with
  | false => simp
  | true =>
    rw [f_box_index hs hw]
    simp only [cond_true, Option.bind_some]
    rw [decide_eq_true (p := (0 : Int) ≤ (idx Y Z (stp (2 * d + j) c) : Int)) (by omega), shl64, or64]
    rfl

theorem f_near {X Y Z : Int} (hs : sides X Y Z = true) {c : D_A3} (hc : Near c) : P_box_near ((X, Y, Z, ()), c, ()) = some (((nearB X Y Z c).toNat : Int), ()) := by
  obtain ⟨n, hn⟩ : ∃ n, N = n + 10 := ⟨N - 10, by have := N_ge; omega⟩
  have done6 : ∀ (m0 m1 : Nat) (v : BitVec 64) (d : Nat), d < 3 → l_box_near_6 m0 (m1 + 1) X Y Z c.1 c.2.1 c.2.2.1 (v.toNat : Int) (d : Int) (d : Int) (-1) 1 ((2 : Nat) : Int) = l_box_near_3 m0 X Y Z c.1 c.2.1 c.2.2.1 (v.toNat : Int) ((d + 1 : Nat) : Int) := by
    intro m0 m1 v d hd
    rw [q_box_near_6, succI d (by omega)]
    rfl
  have step3 : ∀ (m0 : Nat) (v : BitVec 64) (d : Nat), d < 3 → l_box_near_3 (m0 + 1) X Y Z c.1 c.2.1 c.2.2.1 (v.toNat : Int) (d : Int) = l_box_near_6 m0 N X Y Z c.1 c.2.1 c.2.2.1 (v.toNat : Int) (d : Int) (d : Int) (-1) 1 ((0 : Nat) : Int) := by
    intro m0 v d hd
    rw [q_box_near_3, decide_eq_true (by omega)]
    rfl
  have end3 : ∀ (m0 : Nat) (v : Int), l_box_near_3 (m0 + 1) X Y Z c.1 c.2.1 c.2.2.1 v ((3 : Nat) : Int) = some (v, ()) := by
    intro m0 v
    rw [q_box_near_3]
    rfl
  have round : ∀ (m0 : Nat) (v : BitVec 64) (d : Nat), d < 3 → l_box_near_3 (m0 + 1) X Y Z c.1 c.2.1 c.2.2.1 (v.toNat : Int) (d : Int) = l_box_near_3 m0 X Y Z c.1 c.2.1 c.2.2.1 ((((fun (v : BitVec 64) (k : Nat) => bif within3 X Y Z (stp k c) then v ||| BitVec.twoPow 64 (idx Y Z (stp k c)) else v) ((fun (v : BitVec 64) (k : Nat) => bif within3 X Y Z (stp k c) then v ||| BitVec.twoPow 64 (idx Y Z (stp k c)) else v) v (2 * d + 0)) (2 * d + 1)).toNat : Nat) : Int) ((d + 1 : Nat) : Int) := by
    intro m0 v d hd
    rw [step3 m0 v d hd, hn, near_step hs hc m0 (n + 9) v d 0 hd (by omega), near_step hs hc m0 (n + 8) _ d 1 hd (by omega), done6 m0 (n + 7) _ d hd]
  rw [p_box_near]
  show l_box_near_3 N X Y Z c.1 c.2.1 c.2.2.1 (((0 : BitVec 64).toNat : Nat) : Int) ((0 : Nat) : Int) = _
  rw [hn, round (n + 9) 0 0 (by omega), round (n + 8) _ 1 (by omega), round (n + 7) _ 2 (by omega), end3, nearB_eq]
  rfl

/-- The cells for which something is so. -/
def thoseR (Y Z : Int) (g : D_A3 → Bool) : (d k : Nat) → BitVec 64 → BitVec 64
  | 0, _, v => v
  | d + 1, k, v => thoseR Y Z g d (k + 1) (bif g (cellOf Y Z k) then v ||| BitVec.twoPow 64 k else v)

theorem thoseR_bit (Y Z : Int) (g : D_A3 → Bool) (i : Nat) : ∀ (d k : Nat) (v : BitVec 64), k + d ≤ 64 → (thoseR Y Z g d k v).getLsbD i = (v.getLsbD i || (decide (k ≤ i) && decide (i < k + d) && g (cellOf Y Z i)))
  | 0, k, v, _ => by
    have : (decide (k ≤ i) && decide (i < k + 0)) = false := by
      rw [Bool.and_eq_false_iff, decide_eq_false_iff_not, decide_eq_false_iff_not]; omega
    simp only [thoseR, this, Bool.false_and, Bool.or_false]
  | d + 1, k, v, h => by
    rw [thoseR, thoseR_bit Y Z g i d (k + 1) _ (by omega)]
    by_cases e : i = k
    · subst e
      have h1 : decide (i + 1 ≤ i) = false := decide_eq_false (by omega)
      have h2 : decide (i < i + (d + 1)) = true := decide_eq_true (by omega)
      rw [h1, h2]
      cases g (cellOf Y Z i) with
      | false => simp
      | true =>
        simp only [cond_true, BitVec.getLsbD_or, BitVec.getLsbD_twoPow]
        have : decide (i < 64) = true := decide_eq_true (by omega)
        simp [this]
    · have h1 : decide (k + 1 ≤ i) = decide (k ≤ i) := by rw [Bool.eq_iff_iff, decide_eq_true_eq, decide_eq_true_eq]; omega
      have h2 : decide (i < k + 1 + d) = decide (i < k + (d + 1)) := by rw [Bool.eq_iff_iff, decide_eq_true_eq, decide_eq_true_eq]; omega
      rw [h1, h2]
      congr 1
      cases g (cellOf Y Z k) with
      | false => rfl
      | true =>
        simp only [cond_true, BitVec.getLsbD_or, BitVec.getLsbD_twoPow]
        have : decide (k = i) = false := decide_eq_false (fun h => e h.symm)
        simp [this]

theorem l_those {X Y Z : Int} (hs : sides X Y Z = true) {g : D_A3 → Bool} {F : D_A3 × Unit → Option (Bool × Unit)} (hF : ∀ c, within3 X Y Z c = true → F (c, ()) = some (g c, ())) : ∀ (d k m : Nat) (v : BitVec 64), k + d = (X * Y * Z).toNat → d < m →
    l_box_those_3 m X Y Z F (v.toNat : Int) (((X * Y * Z).toNat : Nat) : Int) (k : Int) = some (((thoseR Y Z g d k v).toNat : Int), ())
  | d, k, 0, v, _, h => by omega
  | d, k, m + 1, v, hk, hm => by
    have h64 := size64 hs
    rw [q_box_those_3]
    cases d with
    | zero =>
      rw [ltF (by omega)]
      rfl
    | succ d =>
      obtain ⟨h1, h2⟩ := cellOf_ok hs (i := k) (by omega)
      rw [ltT (by omega), f_box_cell hs (by omega)]
      simp only [cond_true, Option.bind_some]
      rw [hF _ h1, succI k (by omega), decide_eq_true (p := (0 : Int) ≤ (k : Int)) (by omega), shl64, or64]
      simp only [cond_true, Option.bind_some]
      rw [thoseR]
      cases g (cellOf Y Z k) with
      | false => exact l_those hs hF d (k + 1) m _ (by omega) (by omega)
      | true => exact l_those hs hF d (k + 1) m _ (by omega) (by omega)

theorem f_those {X Y Z : Int} (hs : sides X Y Z = true) {g : D_A3 → Bool} {F : D_A3 × Unit → Option (Bool × Unit)} (hF : ∀ c, within3 X Y Z c = true → F (c, ()) = some (g c, ())) : ∃ v : BitVec 64, P_box_those ((X, Y, Z, ()), F, ()) = some ((v.toNat : Int), ()) ∧ SetIs X Y Z v g := by
  have h64 := size64 hs
  refine ⟨thoseR Y Z g (X * Y * Z).toNat 0 0, ?_, fun i hi => ?_, fun c hc => ?_⟩
  · rw [p_box_those, f_size hs]
    exact l_those hs hF (X * Y * Z).toNat 0 N 0 (by omega) (by have := N_ge; omega)
  · rw [thoseR_bit Y Z g i _ 0 0 (by omega)]
    have : decide (i < 0 + (X * Y * Z).toNat) = false := decide_eq_false (by omega)
    rw [this, Bool.and_false, Bool.false_and, Bool.or_false]
    simp
  · rw [thoseR_bit Y Z g _ _ 0 0 (by omega), cellOf_idx hs hc]
    have : decide (idx Y Z c < 0 + (X * Y * Z).toNat) = true := decide_eq_true (by have := (idx_eq hs hc).2.1; omega)
    rw [this, decide_eq_true (Nat.zero_le _)]
    simp

/-! ### Growing -/
theorem l_grow3 {X Y Z : Int} (hs : sides X Y Z = true) (u v : BitVec 64) (m0 : Nat) : ∀ (d k m : Nat) (acc : BitVec 64), k + d = (X * Y * Z).toNat → d < m →
    l_box_grown_3 m0 m X Y Z (v.toNat : Int) (u.toNat : Int) (acc.toNat : Int) (((X * Y * Z).toNat : Nat) : Int) (k : Int) = if growR X Y Z u v d k acc = v then some ((v.toNat : Int), ()) else l_box_grown_1 m0 X Y Z ((growR X Y Z u v d k acc).toNat : Int) (u.toNat : Int)
  | d, k, 0, acc, _, h => by omega
  | d, k, m + 1, acc, hk, hm => by
    have h64 := size64 hs
    rw [q_box_grown_3]
    cases d with
    | zero =>
      rw [ltF (by omega), growR]
      simp only [cond_false]
      have e : decide ((acc.toNat : Int) = (v.toNat : Int)) = decide (acc = v) := by
        rw [Bool.eq_iff_iff, decide_eq_true_eq, decide_eq_true_eq]
        constructor
        · intro h; exact BitVec.eq_of_toNat_eq (by omega)
        · intro h; rw [h]
      rw [e]
      by_cases h : acc = v <;> simp [h]
    | succ d =>
      obtain ⟨h1, h2⟩ := cellOf_ok hs (i := k) (by omega)
      rw [ltT (by omega), f_set_has, f_box_cell hs (by omega)]
      simp only [cond_true, Option.bind_some]
      rw [f_near hs (near_of hs h1), succI k (by omega), growR]
      simp only [Option.bind_some]
      rw [and64, or64]
      cases v.getLsbD k with
      | false => exact l_grow3 hs u v m0 d (k + 1) m _ (by omega) (by omega)
      | true => exact l_grow3 hs u v m0 d (k + 1) m _ (by omega) (by omega)

theorem l_grow1 {X Y Z : Int} (hs : sides X Y Z = true) (u v : BitVec 64) (m : Nat) : l_box_grown_1 (m + 1) X Y Z (v.toNat : Int) (u.toNat : Int) = if grow1 X Y Z u v = v then some ((v.toNat : Int), ()) else l_box_grown_1 m X Y Z ((grow1 X Y Z u v).toNat : Int) (u.toNat : Int) := by
  rw [q_box_grown_1, f_size hs]
  exact l_grow3 hs u v m (X * Y * Z).toNat 0 N v (by omega) (by have := size64 hs; have := N_ge; omega)

theorem grown_ex {X Y Z : Int} (hs : sides X Y Z = true) {v0 u : BitVec 64} (hu : Low (X * Y * Z).toNat u) : ∀ (n : Nat) (v : BitVec 64), unset (X * Y * Z).toNat v ≤ n → Low (X * Y * Z).toNat v → (∀ i, v0.getLsbD i = true → v.getLsbD i = true) → (∀ c, bitP X Y Z v c → Rch (bitP X Y Z v0) (bitP X Y Z u) c) →
    ∃ w : BitVec 64, (∀ m, n < m → l_box_grown_1 m X Y Z (v.toNat : Int) (u.toNat : Int) = some ((w.toNat : Int), ())) ∧ Low (X * Y * Z).toNat w ∧ ∀ c, bitP X Y Z w c ↔ Rch (bitP X Y Z v0) (bitP X Y Z u) c := by
  intro n
  induction n with
  | zero =>
    intro v hn hv hsub hr
    by_cases h : grow1 X Y Z u v = v
    · refine ⟨v, fun m hm => ?_, hv, fun c => ⟨hr c, fun hc => ⟨hc.within, grow1_closed hs hsub h c hc⟩⟩⟩
      obtain ⟨m, rfl⟩ : ∃ m', m = m' + 1 := ⟨m - 1, by omega⟩
      rw [l_grow1 hs, if_pos h]
    · have := unset_lt hv (grow1_low hv hu) (fun i hi => grow1_sub i hi) h
      omega
  | succ n ih =>
    intro v hn hv hsub hr
    by_cases h : grow1 X Y Z u v = v
    · refine ⟨v, fun m hm => ?_, hv, fun c => ⟨hr c, fun hc => ⟨hc.within, grow1_closed hs hsub h c hc⟩⟩⟩
      obtain ⟨m, rfl⟩ : ∃ m', m = m' + 1 := ⟨m - 1, by omega⟩
      rw [l_grow1 hs, if_pos h]
    · have hlt := unset_lt hv (grow1_low hv hu) (fun i hi => grow1_sub i hi) h
      obtain ⟨w, h1, h2, h3⟩ := ih (grow1 X Y Z u v) (by omega) (grow1_low hv hu) (fun i hi => grow1_sub i (hsub i hi)) (fun c hc => grow1_reach hs hr c hc)
      refine ⟨w, fun m hm => ?_, h2, h3⟩
      obtain ⟨m, rfl⟩ : ∃ m', m = m' + 1 := ⟨m - 1, by omega⟩
      rw [l_grow1 hs, if_neg h]
      exact h1 m (by omega)

theorem f_grown {X Y Z : Int} (hs : sides X Y Z = true) {v u : BitVec 64} (hv : Low (X * Y * Z).toNat v) (hu : Low (X * Y * Z).toNat u) : ∃ w : BitVec 64, P_box_grown ((X, Y, Z, ()), (v.toNat : Int), (u.toNat : Int), ()) = some ((w.toNat : Int), ()) ∧ Low (X * Y * Z).toNat w ∧ ∀ c, bitP X Y Z w c ↔ Rch (bitP X Y Z v) (bitP X Y Z u) c := by
  obtain ⟨w, h1, h2, h3⟩ := grown_ex hs hu 64 v (by have := unset_le (X * Y * Z).toNat v; have := size64 hs; omega) hv (fun _ h => h) (fun c hc => .base hc)
  refine ⟨w, ?_, h2, h3⟩
  rw [p_box_grown]
  exact h1 N (by have := N_ge; omega)

theorem low_and {n : Nat} {v w : BitVec 64} (hv : Low n v) : Low n (v &&& w) := fun i hi => by rw [BitVec.getLsbD_and, hv i hi, Bool.false_and]

end Go.VI
