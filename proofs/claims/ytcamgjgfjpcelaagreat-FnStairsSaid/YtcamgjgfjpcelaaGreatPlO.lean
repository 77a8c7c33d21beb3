/- Plain: neighbors, those, grown sets and what is enclosed, as the program has them. -/
import Derived.Test.YtcamgjgfjpcelaaGreatPlA
namespace Go.VI
open Go.Proofs
def popI (a0 : Int) : Int := (intBits .and .i64 (IntKind.wrap .i64 (IntKind.wrap .u64 ((IntKind.wrap .u64 ((IntKind.wrap .u64 ((intBits .and .u64 (IntKind.wrap .u64 ((shrI .u64 (IntKind.wrap .u64 ((intBits .and .u64 (shrI .u64 (IntKind.wrap .u64 ((intBits .and .u64 (shrI .u64 a0 1) 6148914691236517205) + (intBits .and .u64 a0 6148914691236517205))) 2) 3689348814741910323) + (intBits .and .u64 (IntKind.wrap .u64 ((intBits .and .u64 (shrI .u64 a0 1) 6148914691236517205) + (intBits .and .u64 a0 6148914691236517205))) 3689348814741910323))) 4) + (IntKind.wrap .u64 ((intBits .and .u64 (shrI .u64 (IntKind.wrap .u64 ((intBits .and .u64 (shrI .u64 a0 1) 6148914691236517205) + (intBits .and .u64 a0 6148914691236517205))) 2) 3689348814741910323) + (intBits .and .u64 (IntKind.wrap .u64 ((intBits .and .u64 (shrI .u64 a0 1) 6148914691236517205) + (intBits .and .u64 a0 6148914691236517205))) 3689348814741910323))))) 1085102592571150095) + (shrI .u64 (intBits .and .u64 (IntKind.wrap .u64 ((shrI .u64 (IntKind.wrap .u64 ((intBits .and .u64 (shrI .u64 (IntKind.wrap .u64 ((intBits .and .u64 (shrI .u64 a0 1) 6148914691236517205) + (intBits .and .u64 a0 6148914691236517205))) 2) 3689348814741910323) + (intBits .and .u64 (IntKind.wrap .u64 ((intBits .and .u64 (shrI .u64 a0 1) 6148914691236517205) + (intBits .and .u64 a0 6148914691236517205))) 3689348814741910323))) 4) + (IntKind.wrap .u64 ((intBits .and .u64 (shrI .u64 (IntKind.wrap .u64 ((intBits .and .u64 (shrI .u64 a0 1) 6148914691236517205) + (intBits .and .u64 a0 6148914691236517205))) 2) 3689348814741910323) + (intBits .and .u64 (IntKind.wrap .u64 ((intBits .and .u64 (shrI .u64 a0 1) 6148914691236517205) + (intBits .and .u64 a0 6148914691236517205))) 3689348814741910323))))) 1085102592571150095) 8))) + (shrI .u64 (IntKind.wrap .u64 ((intBits .and .u64 (IntKind.wrap .u64 ((shrI .u64 (IntKind.wrap .u64 ((intBits .and .u64 (shrI .u64 (IntKind.wrap .u64 ((intBits .and .u64 (shrI .u64 a0 1) 6148914691236517205) + (intBits .and .u64 a0 6148914691236517205))) 2) 3689348814741910323) + (intBits .and .u64 (IntKind.wrap .u64 ((intBits .and .u64 (shrI .u64 a0 1) 6148914691236517205) + (intBits .and .u64 a0 6148914691236517205))) 3689348814741910323))) 4) + (IntKind.wrap .u64 ((intBits .and .u64 (shrI .u64 (IntKind.wrap .u64 ((intBits .and .u64 (shrI .u64 a0 1) 6148914691236517205) + (intBits .and .u64 a0 6148914691236517205))) 2) 3689348814741910323) + (intBits .and .u64 (IntKind.wrap .u64 ((intBits .and .u64 (shrI .u64 a0 1) 6148914691236517205) + (intBits .and .u64 a0 6148914691236517205))) 3689348814741910323))))) 1085102592571150095) + (shrI .u64 (intBits .and .u64 (IntKind.wrap .u64 ((shrI .u64 (IntKind.wrap .u64 ((intBits .and .u64 (shrI .u64 (IntKind.wrap .u64 ((intBits .and .u64 (shrI .u64 a0 1) 6148914691236517205) + (intBits .and .u64 a0 6148914691236517205))) 2) 3689348814741910323) + (intBits .and .u64 (IntKind.wrap .u64 ((intBits .and .u64 (shrI .u64 a0 1) 6148914691236517205) + (intBits .and .u64 a0 6148914691236517205))) 3689348814741910323))) 4) + (IntKind.wrap .u64 ((intBits .and .u64 (shrI .u64 (IntKind.wrap .u64 ((intBits .and .u64 (shrI .u64 a0 1) 6148914691236517205) + (intBits .and .u64 a0 6148914691236517205))) 2) 3689348814741910323) + (intBits .and .u64 (IntKind.wrap .u64 ((intBits .and .u64 (shrI .u64 a0 1) 6148914691236517205) + (intBits .and .u64 a0 6148914691236517205))) 3689348814741910323))))) 1085102592571150095) 8))) 16))) + (shrI .u64 (IntKind.wrap .u64 ((IntKind.wrap .u64 ((intBits .and .u64 (IntKind.wrap .u64 ((shrI .u64 (IntKind.wrap .u64 ((intBits .and .u64 (shrI .u64 (IntKind.wrap .u64 ((intBits .and .u64 (shrI .u64 a0 1) 6148914691236517205) + (intBits .and .u64 a0 6148914691236517205))) 2) 3689348814741910323) + (intBits .and .u64 (IntKind.wrap .u64 ((intBits .and .u64 (shrI .u64 a0 1) 6148914691236517205) + (intBits .and .u64 a0 6148914691236517205))) 3689348814741910323))) 4) + (IntKind.wrap .u64 ((intBits .and .u64 (shrI .u64 (IntKind.wrap .u64 ((intBits .and .u64 (shrI .u64 a0 1) 6148914691236517205) + (intBits .and .u64 a0 6148914691236517205))) 2) 3689348814741910323) + (intBits .and .u64 (IntKind.wrap .u64 ((intBits .and .u64 (shrI .u64 a0 1) 6148914691236517205) + (intBits .and .u64 a0 6148914691236517205))) 3689348814741910323))))) 1085102592571150095) + (shrI .u64 (intBits .and .u64 (IntKind.wrap .u64 ((shrI .u64 (IntKind.wrap .u64 ((intBits .and .u64 (shrI .u64 (IntKind.wrap .u64 ((intBits .and .u64 (shrI .u64 a0 1) 6148914691236517205) + (intBits .and .u64 a0 6148914691236517205))) 2) 3689348814741910323) + (intBits .and .u64 (IntKind.wrap .u64 ((intBits .and .u64 (shrI .u64 a0 1) 6148914691236517205) + (intBits .and .u64 a0 6148914691236517205))) 3689348814741910323))) 4) + (IntKind.wrap .u64 ((intBits .and .u64 (shrI .u64 (IntKind.wrap .u64 ((intBits .and .u64 (shrI .u64 a0 1) 6148914691236517205) + (intBits .and .u64 a0 6148914691236517205))) 2) 3689348814741910323) + (intBits .and .u64 (IntKind.wrap .u64 ((intBits .and .u64 (shrI .u64 a0 1) 6148914691236517205) + (intBits .and .u64 a0 6148914691236517205))) 3689348814741910323))))) 1085102592571150095) 8))) + (shrI .u64 (IntKind.wrap .u64 ((intBits .and .u64 (IntKind.wrap .u64 ((shrI .u64 (IntKind.wrap .u64 ((intBits .and .u64 (shrI .u64 (IntKind.wrap .u64 ((intBits .and .u64 (shrI .u64 a0 1) 6148914691236517205) + (intBits .and .u64 a0 6148914691236517205))) 2) 3689348814741910323) + (intBits .and .u64 (IntKind.wrap .u64 ((intBits .and .u64 (shrI .u64 a0 1) 6148914691236517205) + (intBits .and .u64 a0 6148914691236517205))) 3689348814741910323))) 4) + (IntKind.wrap .u64 ((intBits .and .u64 (shrI .u64 (IntKind.wrap .u64 ((intBits .and .u64 (shrI .u64 a0 1) 6148914691236517205) + (intBits .and .u64 a0 6148914691236517205))) 2) 3689348814741910323) + (intBits .and .u64 (IntKind.wrap .u64 ((intBits .and .u64 (shrI .u64 a0 1) 6148914691236517205) + (intBits .and .u64 a0 6148914691236517205))) 3689348814741910323))))) 1085102592571150095) + (shrI .u64 (intBits .and .u64 (IntKind.wrap .u64 ((shrI .u64 (IntKind.wrap .u64 ((intBits .and .u64 (shrI .u64 (IntKind.wrap .u64 ((intBits .and .u64 (shrI .u64 a0 1) 6148914691236517205) + (intBits .and .u64 a0 6148914691236517205))) 2) 3689348814741910323) + (intBits .and .u64 (IntKind.wrap .u64 ((intBits .and .u64 (shrI .u64 a0 1) 6148914691236517205) + (intBits .and .u64 a0 6148914691236517205))) 3689348814741910323))) 4) + (IntKind.wrap .u64 ((intBits .and .u64 (shrI .u64 (IntKind.wrap .u64 ((intBits .and .u64 (shrI .u64 a0 1) 6148914691236517205) + (intBits .and .u64 a0 6148914691236517205))) 2) 3689348814741910323) + (intBits .and .u64 (IntKind.wrap .u64 ((intBits .and .u64 (shrI .u64 a0 1) 6148914691236517205) + (intBits .and .u64 a0 6148914691236517205))) 3689348814741910323))))) 1085102592571150095) 8))) 16))) 32)))) 127)
def rim (X Y Z : Int) (c : D_A3) : Bool := (List.range 6).any fun k => !within3 X Y Z (stp k c)
def chkRim : Bool := ([1, 2, 3, 4] : List Int).all fun X => ([1, 2, 3, 4] : List Int).all fun Y => ([1, 2, 3, 4] : List Int).all fun Z => (List.range (X * Y * Z).toNat).all fun i =>
  (decide (popI ((nearB X Y Z (cellOf Y Z i)).toNat : Int) < 6)) == rim X Y Z (cellOf Y Z i)
theorem chkRim_ok : chkRim = true := by kernel_rfl
theorem mem1234 {n : Int} (h0 : 1 ≤ n) (h1 : n ≤ 4) : n ∈ ([1, 2, 3, 4] : List Int) := by
  rcases four h0 h1 with rfl | rfl | rfl | rfl <;> simp
theorem pop_rim {X Y Z : Int} (hs : sides X Y Z = true) {c : D_A3} (hc : within3 X Y Z c = true) : decide (popI ((nearB X Y Z c).toNat : Int) < 6) = rim X Y Z c := by
  have h := chkRim_ok
  unfold chkRim at h
  have s := sides_iff.1 hs
  have h1 := List.all_eq_true.1 h X (mem1234 s.1.1 s.1.2)
  have h2 := List.all_eq_true.1 h1 Y (mem1234 s.2.1.1 s.2.1.2)
  have h3 := List.all_eq_true.1 h2 Z (mem1234 s.2.2.1 s.2.2.2)
  have h4 := List.all_eq_true.1 h3 (idx Y Z c) (List.mem_range.2 (idx_eq hs hc).2.1)
  rw [cellOf_idx hs hc] at h4
  exact eq_of_beq h4
theorem f_size {X Y Z : Int} (hs : sides X Y Z = true) : P_box_size ((X, Y, Z, ()), ()) = some (((X * Y * Z).toNat : Int), ()) := by
  have h := size64 hs
  have s := sides_iff.1 hs
  rw [p_box_size]
  show some (IntKind.wrap .i64 (IntKind.wrap .i64 (X * Y) * Z), ()) = _
  rw [w64 (x := X * Y) (by omega) (by omega), w64 (x := X * Y * Z) (by omega) (by omega)]
  congr 2
  omega
def thoseR (Y Z : Int) (g : D_A3 → Bool) : (d k : Nat) → BitVec 64 → BitVec 64
  | 0, _, v => v
  | d + 1, k, v => thoseR Y Z g d (k + 1) (bif g (cellOf Y Z k) then v ||| BitVec.twoPow 64 k else v)
theorem thoseR_bit (Y Z : Int) (g : D_A3 → Bool) (i : Nat) : ∀ (d k : Nat) (v : BitVec 64), k + d ≤ 64 → (thoseR Y Z g d k v).getLsbD i = (v.getLsbD i || (decide (k ≤ i) && decide (i < k + d) && g (cellOf Y Z i)))
  | 0, k, v, _ => by
    have : (decide (k ≤ i) && decide (i < k + 0)) = false := by
      rw [Bool.and_eq_false_iff, decide_eq_false_iff_not, decide_eq_false_iff_not]; omega
    simp only [thoseR, this, Bool.false_and, Bool.or_false]
  | d + 1, k, v, h => by
    rw [thoseR, thoseR_bit Y Z g i d (k + 1) _ (by omega)]
    by_cases e : i = k
    · subst e
      have h1 : decide (i + 1 ≤ i) = false := decide_eq_false (by omega)
      have h2 : decide (i < i + (d + 1)) = true := decide_eq_true (by omega)
      rw [h1, h2]
      cases g (cellOf Y Z i) with
      | false => simp
      | true =>
        simp only [cond_true, BitVec.getLsbD_or, BitVec.getLsbD_twoPow]
        have : decide (i < 64) = true := decide_eq_true (by omega)
        simp [this]
    · have h1 : decide (k + 1 ≤ i) = decide (k ≤ i) := by rw [Bool.eq_iff_iff, decide_eq_true_eq, decide_eq_true_eq]; omega
      have h2 : decide (i < k + 1 + d) = decide (i < k + (d + 1)) := by rw [Bool.eq_iff_iff, decide_eq_true_eq, decide_eq_true_eq]; omega
      rw [h1, h2]
      congr 1
      cases g (cellOf Y Z k) with
      | false => rfl
      | true =>
        simp only [cond_true, BitVec.getLsbD_or, BitVec.getLsbD_twoPow]
        have : decide (k = i) = false := decide_eq_false (fun h => e h.symm)
        simp [this]
theorem l_those {X Y Z : Int} (hs : sides X Y Z = true) {g : D_A3 → Bool} {F : D_A3 × Unit → Option (Bool × Unit)} (hF : ∀ c, within3 X Y Z c = true → F (c, ()) = some (g c, ())) : ∀ (d k m : Nat) (v : BitVec 64), k + d = (X * Y * Z).toNat → d < m →
    l_box_those_3 m X Y Z F (v.toNat : Int) (((X * Y * Z).toNat : Nat) : Int) (k : Int) = some (((thoseR Y Z g d k v).toNat : Int), ())
  | d, k, 0, v, _, h => by omega
  | d, k, m + 1, v, hk, hm => by
    have h64 := size64 hs
    rw [q_box_those_3]
    cases d with
    | zero =>
      rw [ltF (by omega)]
      rfl
    | succ d =>
      obtain ⟨h1, h2⟩ := cellOf_ok hs (i := k) (by omega)
      rw [ltT (by omega), f_box_cell hs (by omega)]
      simp only [cond_true, Option.bind_some]
      rw [hF _ h1, succI k (by omega), decide_eq_true (p := (0 : Int) ≤ (k : Int)) (by omega), shl64, or64]
      simp only [cond_true, Option.bind_some]
      rw [thoseR]
      cases g (cellOf Y Z k) with
      | false => exact l_those hs hF d (k + 1) m _ (by omega) (by omega)
      | true => exact l_those hs hF d (k + 1) m _ (by omega) (by omega)
theorem f_those {X Y Z : Int} (hs : sides X Y Z = true) {g : D_A3 → Bool} {F : D_A3 × Unit → Option (Bool × Unit)} (hF : ∀ c, within3 X Y Z c = true → F (c, ()) = some (g c, ())) : ∃ v : BitVec 64, P_box_those ((X, Y, Z, ()), F, ()) = some ((v.toNat : Int), ()) ∧ SetIs X Y Z v g := by
  have h64 := size64 hs
  refine ⟨thoseR Y Z g (X * Y * Z).toNat 0 0, ?_, fun i hi => ?_, fun c hc => ?_⟩
  · rw [p_box_those, f_size hs]
    exact l_those hs hF (X * Y * Z).toNat 0 N 0 (by omega) (by have := N_ge; omega)
  · rw [thoseR_bit Y Z g i _ 0 0 (by omega)]
    have : decide (i < 0 + (X * Y * Z).toNat) = false := decide_eq_false (by omega)
    rw [this, Bool.and_false, Bool.false_and, Bool.or_false]
    simp
  · rw [thoseR_bit Y Z g _ _ 0 0 (by omega), cellOf_idx hs hc]
    have : decide (idx Y Z c < 0 + (X * Y * Z).toNat) = true := decide_eq_true (by have := (idx_eq hs hc).2.1; omega)
    rw [this, decide_eq_true (Nat.zero_le _)]
    simp
theorem low_and {n : Nat} {v w : BitVec 64} (hv : Low n v) : Low n (v &&& w) := fun i hi => by rw [BitVec.getLsbD_and, hv i hi, Bool.false_and]
end Go.VI
/- Plain: cuts. -/
namespace Go.VI
open Go.Proofs
def sh (d s : Int) (c : D_A3) : D_A3 := ((bif decide (d = 0) then c.1 + s else c.1), (bif decide (d = 1) then c.2.1 + s else c.2.1), (bif decide (d = 2) then c.2.2.1 + s else c.2.2.1), ())
theorem dir {d : Int} (h0 : 0 ≤ d) (h1 : d ≤ 2) : d = 0 ∨ d = 1 ∨ d = 2 := by omega
theorem inB_dir {d : Int} (h0 : 0 ≤ d) (h1 : d ≤ 2) : inB d 3 = true := by
  rcases dir h0 h1 with rfl | rfl | rfl <;> decide
def side3 (X Y Z d : Int) : Int := bif decide (d = 0) then X else (bif decide (d = 1) then Y else Z)
theorem side3_ok {X Y Z : Int} (hs : sides X Y Z = true) (d : Int) : 1 ≤ side3 X Y Z d ∧ side3 X Y Z d ≤ 4 := by
  obtain ⟨s1, s2, s3⟩ := sides_iff.1 hs
  unfold side3
  cases decide (d = 0) <;> cases decide (d = 1) <;> simp <;> omega
theorem f_l2Long {X Y Z : Int} (l : List D_A3) {d : Int} (d0 : 0 ≤ d) (d1 : d ≤ 2) : P_spec_l2Long ((X, Y, Z, l, ()), d, ()) = some (side3 X Y Z d, ()) := by
  rw [p_spec_l2Long, inB_dir d0 d1]; rfl
end Go.VI
/- Plain: cutting a heap. -/
namespace Go.VI
open Go.Proofs
end Go.VI
/- Plain: gluing two heaps. -/
namespace Go.VI
open Go.Proofs
theorem cut_lo {l : List D_A3} (k : Nat) : cut l 0 (k : Int) = l.take k := by simp [cut]
theorem cut_hi {l : List D_A3} (k : Nat) : cut l (k : Int) (l.length : Int) = l.drop k := by simp [cut]
theorem f_l2Own {X Y Z : Int} {l : List D_A3} (hl : l.length ≤ 3000000) : P_spec_l2Own ((X, Y, Z, l, ()), ()) = some ((X, Y, Z, l, ()), ()) := by
  rw [p_spec_l2Own]
  simp only [List.length_nil, List.nil_append, p_spec_l2Made, Option.bind_some]
  rw [decide_eq_true (by omega), decide_eq_true (by omega)]
  rfl
theorem srt_insert {l : List D_A3} (hr : Srt l) (c : D_A3) (k : Nat) (h1 : ∀ x ∈ l.take k, ltC x c = true) (h2 : ∀ x ∈ l.drop k, ltC c x = true) : Srt (l.take k ++ [c] ++ l.drop k) := by
  unfold Srt
  rw [List.append_assoc, List.pairwise_append]
  have ht : Srt (l.take k) := List.Pairwise.sublist (List.take_sublist k l) hr
  have hd : Srt (l.drop k) := List.Pairwise.sublist (List.drop_sublist k l) hr
  refine ⟨ht, List.pairwise_cons.2 ⟨h2, hd⟩, fun a ha b hb => ?_⟩
  rcases List.mem_cons.1 hb with rfl | hb'
  · exact h1 a ha
  · exact ltC_trans (h1 a ha) (h2 b hb')
theorem mem_insert {l : List D_A3} (c x : D_A3) (k : Nat) : x ∈ l.take k ++ [c] ++ l.drop k ↔ x = c ∨ x ∈ l := by
  have : x ∈ l ↔ x ∈ l.take k ∨ x ∈ l.drop k := by rw [← List.mem_append, List.take_append_drop]
  rw [this]
  simp only [List.mem_append, List.mem_singleton]
  constructor
  · rintro ((h | h) | h)
    · exact .inr (.inl h)
    · exact .inl h
    · exact .inr (.inr h)
  · rintro (h | h | h)
    · exact .inl (.inr h)
    · exact .inl (.inl h)
    · exact .inr h
theorem l_with {X Y Z : Int} {l : List D_A3} (hr : Srt l) (c : D_A3) (hl : l.length ≤ 2500000) : ∀ (n k m : Nat), l.length = k + n → n < m → (∀ x ∈ l.take k, ltC x c = true) →
    ∃ l', l_spec_l2With_2 m X Y Z l c.1 c.2.1 c.2.2.1 0 0 0 [] (k : Int) = some ((X, Y, Z, l', ()), ()) ∧ Srt l' ∧ (∀ x, x ∈ l' ↔ x = c ∨ x ∈ l) ∧ l'.length ≤ l.length + 1
  | n, k, 0, hk, hm, _ => by omega
  | n, k, m + 1, hk, hm, hlow => by
    have g1 : (decide (((List.length ([] : List D_A3)) + (List.length (l.take k))) * 24 ≤ 140737488355328) && decide (((List.length ([] : List D_A3)) + (List.length (l.take k))) ≤ 140737488355328)) = true := by
      rw [List.length_take, List.length_nil, decide_eq_true (by omega), decide_eq_true (by omega)]; rfl
    have g2 : (decide (((List.length (([] : List D_A3) ++ (l.take k))) + (List.length ([c] : List D_A3))) * 24 ≤ 140737488355328) && decide (((List.length (([] : List D_A3) ++ (l.take k))) + (List.length ([c] : List D_A3))) ≤ 140737488355328)) = true := by
      rw [List.nil_append, List.length_take, List.length_singleton, decide_eq_true (by omega), decide_eq_true (by omega)]; rfl
    have g3 : (decide (((List.length ((([] : List D_A3) ++ (l.take k)) ++ ([c] : List D_A3))) + (List.length (l.drop k))) * 24 ≤ 140737488355328) && decide (((List.length ((([] : List D_A3) ++ (l.take k)) ++ ([c] : List D_A3))) + (List.length (l.drop k))) ≤ 140737488355328)) = true := by
      rw [List.nil_append, List.length_append, List.length_take, List.length_singleton, List.length_drop, decide_eq_true (by omega), decide_eq_true (by omega)]; rfl
    have g4 : (decide ((0 : Int) ≤ 0) && decide ((0 : Int) ≤ (k : Int)) && decide ((k : Int) ≤ (List.length l : Int))) = true := by
      rw [decide_eq_true (by omega), decide_eq_true (by omega), decide_eq_true (by omega)]; rfl
    have g5 : (decide ((0 : Int) ≤ (k : Int)) && decide ((k : Int) ≤ (List.length l : Int)) && decide ((List.length l : Int) ≤ (List.length l : Int))) = true := by
      rw [decide_eq_true (by omega), decide_eq_true (by omega), decide_eq_true (by omega)]; rfl
    have hlen : (l.take k ++ [c] ++ l.drop k).length ≤ l.length + 1 := by
      rw [List.length_append, List.length_append, List.length_take, List.length_drop, List.length_singleton]; omega
    have ec : ((c.1, (c.2.1, (c.2.2.1, ()))) : D_A3) = c := rfl
    rw [q_spec_l2With_2]
    by_cases hlt : k < l.length
    · rw [ltT hlt, inB_at hlt, nthA (t := T_A3) hlt, f_spec_l2Before, ec, cut_lo, cut_hi, g1, g2, g3, g4, g5, succI k (by omega)]
      simp only [cond_true, Option.bind_some, Bool.and_true]
      cases hb : ltC l[k] c with
      | true =>
        refine l_with hr c hl (n - 1) (k + 1) m (by omega) (by omega) ?_
        intro x hx
        rw [List.take_add_one, List.getElem?_eq_getElem hlt] at hx
        rcases List.mem_append.1 hx with h | h
        · exact hlow x h
        · have : x = l[k] := by simpa using h
          rw [this]; exact hb
      | false =>
        simp only [cond_false]
        by_cases he : l[k] = c
        · have hq : (decide ((l[k]).1 = c.1) && (decide ((l[k]).2.1 = c.2.1) && decide ((l[k]).2.2.1 = c.2.2.1))) = true := by rw [he]; simp
          rw [hq, f_l2Own (by omega)]
          refine ⟨l, rfl, hr, fun x => ?_, by omega⟩
          constructor
          · exact .inr
          · rintro (rfl | h)
            · rw [← he]; exact List.getElem_mem hlt
            · exact h
        · have hq : (decide ((l[k]).1 = c.1) && (decide ((l[k]).2.1 = c.2.1) && decide ((l[k]).2.2.1 = c.2.2.1))) = false := by
            rw [Bool.eq_false_iff]
            intro h
            simp only [Bool.and_eq_true, decide_eq_true_eq] at h
            exact he (cell_ext h.1 h.2.1 h.2.2)
          rw [hq, p_spec_l2Made]
          have hck : ltC c l[k] = true := by
            cases h : ltC c l[k] with
            | true => rfl
            | false => exact absurd (ltC_total hb h) he
          refine ⟨l.take k ++ [c] ++ l.drop k, rfl, srt_insert hr c k hlow ?_, fun x => mem_insert c x k, hlen⟩
          intro x hx
          rw [drop_at l k hlt] at hx
          rcases List.mem_cons.1 hx with rfl | h
          · exact hck
          · have hd : Srt (l.drop k) := List.Pairwise.sublist (List.drop_sublist k l) hr
            rw [drop_at l k hlt] at hd
            exact ltC_trans hck ((List.pairwise_cons.1 hd).1 x h)
    · rw [ltF hlt, ec, cut_lo, cut_hi, g1, g2, g3, g4, g5, p_spec_l2Made]
      refine ⟨l.take k ++ [c] ++ l.drop k, rfl, srt_insert hr c k hlow ?_, fun x => mem_insert c x k, hlen⟩
      intro x hx
      rw [List.drop_eq_nil_of_le (by omega)] at hx
      cases hx
theorem f_l2With {X Y Z : Int} {l : List D_A3} (hr : Srt l) (c : D_A3) (hl : l.length ≤ 2500000) : ∃ l', P_spec_l2With ((X, Y, Z, l, ()), c, ()) = some ((X, Y, Z, l', ()), ()) ∧ Srt l' ∧ (∀ x, x ∈ l' ↔ x = c ∨ x ∈ l) ∧ l'.length ≤ l.length + 1 := by
  obtain ⟨l', h, r⟩ := l_with (X := X) (Y := Y) (Z := Z) hr c hl l.length 0 N (by simp) (by have := N_ge; omega) (by simp)
  exact ⟨l', by rw [p_spec_l2With]; exact h, r⟩
end Go.VI
/- Plain: what acts make of heaps. -/
namespace Go.VI
open Go.Proofs
def Both (a b : Option (D_Heap × Bool × Unit)) : Prop := ∃ r : D_Heap × Bool × Unit, a = some r ∧ b = some r ∧ Small r.1.2.2.2.1
theorem small64 {l : List D_A3} (h : l.length ≤ 64) : Small l := by unfold Small; omega
theorem small_no : Small noHeap.2.2.2.1 := by unfold Small noHeap; simp
theorem heap_is {X Y Z : Int} (hs : sides X Y Z = true) {v : BitVec 64} {g : D_A3 → Bool} (hv : SetIs X Y Z v g) {l : List D_A3} (hr : Srt l) (hm : ∀ c, c ∈ l ↔ within3 X Y Z c = true ∧ g c = true) : P_box_heap ((X, Y, Z, ()), (v.toNat : Int), ()) = some ((X, Y, Z, l, ()), ()) := by
  rw [f_box_heap hs, hv.cells hs hr hm]
theorem app_len' {α : Type} {l : List α} {x : α} (h : l.length ≤ 100000000) : (decide ((l.length + ([x] : List α).length) * 24 ≤ 140737488355328) && decide (l.length + ([x] : List α).length ≤ 140737488355328)) = true := by
  rw [Bool.and_eq_true, decide_eq_true_eq, decide_eq_true_eq]
  simp only [List.length_singleton]
  omega
theorem cell_eq (a c : D_A3) : (decide (a.1 = c.1) && (decide (a.2.1 = c.2.1) && (decide (a.2.2.1 = c.2.2.1) && true))) = decide (a = c) := by
  rw [Bool.eq_iff_iff, Bool.and_eq_true, Bool.and_eq_true, Bool.and_eq_true, decide_eq_true_eq, decide_eq_true_eq, decide_eq_true_eq, decide_eq_true_eq]
  constructor
  · rintro ⟨h1, h2, h3, _⟩; exact cell_ext h1 h2 h3
  · intro h; rw [← h]; exact ⟨rfl, rfl, rfl, rfl⟩
theorem l_without {X Y Z X' Y' Z' : Int} (l : List D_A3) (c : D_A3) (hl : l.length ≤ 3000000) : ∀ (d i m : Nat) (out : List D_A3), l.length = i + d → d < m → out.length ≤ i →
    l_spec_l2Without_3 m X Y Z l c.1 c.2.1 c.2.2.1 0 0 0 [] X' Y' Z' out (i : Int) = some ((X', Y', Z', out ++ (l.drop i).filter (fun x => !decide (x = c)), ()), ())
  | d, i, 0, out, _, h, _ => by omega
  | d, i, m + 1, out, hk, hm, ho => by
    rw [q_spec_l2Without_3]
    by_cases hlt : i < l.length
    · rw [ltT hlt, inB_at hlt, nthA (t := T_A3) hlt, cell_eq l[i] c, app_len' (by omega), drop_at l i hlt, succI i (by omega)]
      simp only [cond_true, List.filter_cons]
      by_cases e : l[i] = c
      · rw [decide_eq_true e]
        simp only [Bool.not_true, cond_false, Bool.false_eq_true, if_false]
        exact l_without l c hl (d - 1) (i + 1) m out (by omega) (by omega) (by omega)
      · rw [decide_eq_false e]
        simp only [Bool.not_false, cond_true, if_true]
        rw [l_without l c hl (d - 1) (i + 1) m _ (by omega) (by omega) (by simp; omega)]
        simp
    · rw [ltF hlt, List.drop_eq_nil_of_le (by omega)]
      simp
theorem f_without {X Y Z : Int} (l : List D_A3) (c : D_A3) (hl : l.length ≤ 3000000) : P_spec_l2Without ((X, Y, Z, l, ()), c, ()) = some ((X, Y, Z, l.filter (fun x => !decide (x = c)), ()), ()) := by
  have := l_without (X := X) (Y := Y) (Z := Z) (X' := X) (Y' := Y) (Z' := Z) l c hl l.length 0 N [] (by simp) (by have := N_ge; omega) (by simp)
  rw [p_spec_l2Without, p_spec_l2Empty]
  exact this
theorem setIs_less {X Y Z : Int} (hs : sides X Y Z = true) {l : List D_A3} (hi : Ins X Y Z l) {c : D_A3} (hw : within3 X Y Z c = true) : SetIs X Y Z (mask Y Z l 0 &&& ~~~(BitVec.twoPow 64 (idx Y Z c))) (fun x => decide (x ∈ l) && !decide (x = c)) := by
  refine ⟨low_and (low_mask hs hi), fun x hx => ?_⟩
  have h1 := (idx_eq hs hx).2.1
  have h2 := (idx_eq hs hx).2.2.1
  rw [BitVec.getLsbD_and, BitVec.getLsbD_not, BitVec.getLsbD_twoPow, mask_mem hs hi hx]
  have e : decide (idx Y Z c = idx Y Z x) = decide (x = c) := by
    rw [Bool.eq_iff_iff, decide_eq_true_eq, decide_eq_true_eq]
    exact ⟨fun h => (idx_inj hs hw hx h).symm, fun h => by rw [h]⟩
  have h3 := (idx_eq hs hw).2.1
  rw [e, decide_eq_true (p := idx Y Z x < 64) (by omega), decide_eq_true (p := idx Y Z c < 64) (by omega)]
  simp
theorem l_other {X Y Z X' Y' Z' : Int} {l al : List D_A3} (hl : Small l) (hal : Small al) : ∀ (d i m : Nat) (out : List D_A3), al.length = i + d → d < m → out.length ≤ i →
    l_spec_OtherCells_5 m X Y Z l 0 0 0 [] X' Y' Z' out al (i : Int) = some ((X', Y', Z', out ++ (al.drop i).filter (fun x => !decide (x ∈ l)), ()), true, ())
  | d, i, 0, out, _, h, _ => by omega
  | d, i, m + 1, out, hk, hm, ho => by
    have hal' := hal
    unfold Small at hal'
    rw [q_spec_OtherCells_5]
    by_cases hlt : i < al.length
    · rw [ltT hlt, inB_at hlt, nthA (t := T_A3) hlt, f_l2Has X Y Z l _ hl, app_len' (by omega), drop_at al i hlt, succI i (by omega)]
      simp only [cond_true, Option.bind_some, List.filter_cons]
      by_cases e : al[i] ∈ l
      · rw [decide_eq_true e]
        simp only [Bool.not_true, cond_false, Bool.false_eq_true, if_false]
        exact l_other hl hal (d - 1) (i + 1) m out (by omega) (by omega) (by omega)
      · rw [decide_eq_false e]
        simp only [Bool.not_false, cond_true, if_true]
        rw [l_other hl hal (d - 1) (i + 1) m _ (by omega) (by omega) (by simp; omega)]
        simp
    · rw [ltF hlt, List.drop_eq_nil_of_le (by omega)]
      simp
theorem l_moved {S1 S2 S3 : Int} (hS : sides S1 S2 S3 = true) {l : List D_A3} (hl : Small l) {g : D_A3 → D_A3} {F : D_A3 × Unit → Option (D_A3 × Unit)} (hF : ∀ c ∈ l, F (c, ()) = some (g c, ()) ∧ within3 S1 S2 S3 (g c) = true) : ∀ (d i m : Nat) (v : BitVec 64), l.length = i + d → d < m →
    l_Heap_moved_3 m S1 S2 S3 0 0 0 [] F (v.toNat : Int) l (l.length : Int) (i : Int) = some ((S1, S2, S3, bitCells S1 S2 S3 (mask S2 S3 ((l.drop i).map g) v), ()), ())
  | d, i, 0, v, _, h => by omega
  | d, i, m + 1, v, hk, hm => by
    have hl' := hl
    unfold Small at hl'
    rw [q_Heap_moved_3]
    by_cases hlt : i < l.length
    · obtain ⟨h1, h2⟩ := hF l[i] (List.getElem_mem hlt)
      rw [ltT hlt, inB_at hlt, nthA (t := T_A3) hlt, h1, drop_at l i hlt, succI i (by omega)]
      simp only [cond_true, Option.bind_some]
      rw [f_box_index hS h2]
      simp only [Option.bind_some]
      rw [decide_eq_true (p := (0 : Int) ≤ (idx S2 S3 (g l[i]) : Int)) (by omega), shl64, or64]
      simp only [cond_true]
      rw [l_moved hS hl hF (d - 1) (i + 1) m _ (by omega) (by omega)]
      rfl
    · rw [ltF hlt, List.drop_eq_nil_of_le (by omega)]
      simp only [cond_false]
      rw [f_box_heap hS]
      rfl
theorem f_moved {X Y Z S1 S2 S3 : Int} (hS : sides S1 S2 S3 = true) {l : List D_A3} (hl : Small l) {g : D_A3 → D_A3} {F : D_A3 × Unit → Option (D_A3 × Unit)} (hF : ∀ c ∈ l, F (c, ()) = some (g c, ()) ∧ within3 S1 S2 S3 (g c) = true) : P_Heap_moved ((X, Y, Z, l, ()), (S1, S2, S3, ()), F, ()) = some ((S1, S2, S3, bitCells S1 S2 S3 (mask S2 S3 (l.map g) 0), ()), ()) := by
  have := l_moved hS hl hF l.length 0 N 0 (by simp) (by unfold Small at hl; have := N_ge; omega)
  rw [p_Heap_moved]
  exact this
end Go.VI
/- Plain: dropped heaps. -/
namespace Go.VI
open Go.Proofs
def lineI (Y : Int) (c : D_A3) : Int := c.1 * Y + c.2.1
theorem line_ok {X Y Z : Int} (hs : sides X Y Z = true) {c : D_A3} (hc : within3 X Y Z c = true) : 0 ≤ lineI Y c ∧ lineI Y c < X * Y ∧ 0 ≤ c.1 * Y ∧ c.1 * Y ≤ 16 := by
  have s := sides_iff.1 hs
  have w := within3_iff.1 hc
  unfold lineI
  rcases four s.1.1 s.1.2 with rfl | rfl | rfl | rfl <;> rcases four s.2.1.1 s.2.1.2 with rfl | rfl | rfl | rfl <;> omega
theorem f_line2 {X Y Z : Int} (hs : sides X Y Z = true) {c : D_A3} (hc : within3 X Y Z c = true) : P_box_line ((X, Y, Z, ()), c, 2, ()) = some (lineI Y c, ()) := by
  obtain ⟨h1, h2, h3, h4⟩ := line_ok hs hc
  have h5 := size64 hs
  have w := within3_iff.1 hc
  have s := sides_iff.1 hs
  rw [p_box_line, p_impl_others]
  show some (IntKind.wrap .i64 (IntKind.wrap .i64 (c.1 * Y) + c.2.1), ()) = _
  unfold lineI at *
  rw [w64 (x := c.1 * Y) (by omega) (by omega), w64 (by omega) (by omega)]
def upL (Y : Int) (acc : List Int) (c : D_A3) : List Int := List.set acc (Int.toNat (lineI Y c)) (IntKind.wrap .i64 ((nth ((.int .i64) : Ty) acc (lineI Y c)) + 1))
theorem inB_line {X Y Z : Int} (hs : sides X Y Z = true) {c : D_A3} (hc : within3 X Y Z c = true) {acc : List Int} (ha : acc.length = (X * Y).toNat) : inB (lineI Y c) acc.length = true := by
  obtain ⟨h1, h2, h3, h4⟩ := line_ok hs hc
  unfold inB
  rw [Bool.and_eq_true, decide_eq_true_eq, decide_eq_true_eq]
  omega
theorem upL_len {Y : Int} {acc : List Int} {c : D_A3} : (upL Y acc c).length = acc.length := by simp [upL]
theorem l_viewI {X Y Z : Int} (hs : sides X Y Z = true) {l : List D_A3} (hl : Small l) (hi : Ins X Y Z l) : ∀ (d i m : Nat) (acc : List Int), l.length = i + d → d < m → acc.length = (X * Y).toNat →
    l_box_view_3 m X Y Z 2 acc l (l.length : Int) (i : Int) = some ((l.drop i).foldl (upL Y) acc, ())
  | d, i, 0, acc, _, h, _ => by omega
  | d, i, m + 1, acc, hk, hm, ha => by
    have hl' := hl
    unfold Small at hl'
    rw [q_box_view_3]
    by_cases hlt : i < l.length
    · have hc := hi _ (List.getElem_mem hlt)
      rw [ltT hlt, inB_at hlt, nthA (t := T_A3) hlt, f_line2 hs hc, drop_at l i hlt, succI i (by omega)]
      simp only [cond_true, Option.bind_some]
      rw [inB_line hs hc ha]
      simp only [cond_true, List.foldl_cons]
      exact l_viewI hs hl hi (d - 1) (i + 1) m (upL Y acc l[i]) (by omega) (by omega) (by rw [upL_len, ha])
    · rw [ltF hlt, List.drop_eq_nil_of_le (by omega)]
      rfl
theorem l_viewS {X Y Z : Int} (hs : sides X Y Z = true) {l : List D_A3} (hl : Small l) (hi : Ins X Y Z l) : ∀ (d i m : Nat) (acc : List Int), l.length = i + d → d < m → acc.length = (X * Y).toNat →
    l_spec_l2View_4 m X Y Z l 0 1 acc (i : Int) = some ((l.drop i).foldl (upL Y) acc, ())
  | d, i, 0, acc, _, h, _ => by omega
  | d, i, m + 1, acc, hk, hm, ha => by
    have hl' := hl
    unfold Small at hl'
    rw [q_spec_l2View_4]
    by_cases hlt : i < l.length
    · have hc := hi _ (List.getElem_mem hlt)
      obtain ⟨h1, h2, h3, h4⟩ := line_ok hs hc
      have h5 := size64 hs
      have w := within3_iff.1 hc
      have s := sides_iff.1 hs
      rw [ltT hlt, inB_at hlt, nthA (t := T_A3) hlt, f_l2Long l (show (0 : Int) ≤ 1 by decide) (by decide), drop_at l i hlt, succI i (by omega)]
      have e : IntKind.wrap .i64 (IntKind.wrap .i64 ((bif decide ((0 : Int) = (0 : Int)) then l[i].1 else (bif decide ((0 : Int) = (1 : Int)) then l[i].2.1 else l[i].2.2.1)) * side3 X Y Z 1) + (bif decide ((1 : Int) = (0 : Int)) then l[i].1 else (bif decide ((1 : Int) = (1 : Int)) then l[i].2.1 else l[i].2.2.1))) = lineI Y l[i] := by
        show IntKind.wrap .i64 (IntKind.wrap .i64 (l[i].1 * Y) + l[i].2.1) = _
        unfold lineI at *
        rw [w64 (x := l[i].1 * Y) (by omega) (by omega), w64 (by omega) (by omega)]
      simp only [cond_true, Option.bind_some, show inB (0 : Int) 3 = true from rfl, show inB (1 : Int) 3 = true from rfl] at e ⊢
      rw [e, inB_line hs hc ha]
      simp only [cond_true, List.foldl_cons]
      exact l_viewS hs hl hi (d - 1) (i + 1) m (upL Y acc l[i]) (by omega) (by omega) (by rw [upL_len, ha])
    · rw [ltF hlt, List.drop_eq_nil_of_le (by omega)]
      rfl
def cols (X Y : Int) (l : List D_A3) : List Int := l.foldl (upL Y) (List.replicate (X * Y).toNat 0)
theorem foldl_upL_len (Y : Int) : ∀ (l : List D_A3) (acc : List Int), (l.foldl (upL Y) acc).length = acc.length
  | [], _ => rfl
  | c :: l, acc => by rw [List.foldl_cons, foldl_upL_len Y l, upL_len]
theorem cols_len (X Y : Int) (l : List D_A3) : (cols X Y l).length = (X * Y).toNat := by
  unfold cols
  rw [foldl_upL_len, List.length_replicate]
theorem guardN {n : Int} (h0 : 0 ≤ n) (h1 : n ≤ 1000) : (decide ((0 : Int) ≤ n) && decide (n ≤ n) && decide (n * ((8 : Nat) : Int) ≤ 140737488355328) && decide (n ≤ 140737488355328)) = true := by
  rw [decide_eq_true h0, decide_eq_true (Int.le_refl n), decide_eq_true (p := n * ((8 : Nat) : Int) ≤ 140737488355328) (by omega), decide_eq_true (p := n ≤ 140737488355328) (by omega)]
  rfl
theorem f_viewS {X Y Z : Int} (hs : sides X Y Z = true) {l : List D_A3} (hl : Small l) (hi : Ins X Y Z l) : P_spec_l2View ((X, Y, Z, l, ()), 2, ()) = some (cols X Y l, ()) := by
  have h5 := size64 hs
  rw [p_spec_l2View, p_spec_l2Others]
  simp only [show decide ((2 : Int) = 0) = false from rfl, show decide ((2 : Int) = 1) = false from rfl, cond_false, Option.bind_some]
  rw [f_l2Long l (show (0 : Int) ≤ 0 by decide) (by decide), f_l2Long l (show (0 : Int) ≤ 1 by decide) (by decide)]
  simp only [Option.bind_some]
  have e : IntKind.wrap .i64 (side3 X Y Z 0 * side3 X Y Z 1) = X * Y := by
    show IntKind.wrap .i64 (X * Y) = _
    rw [w64 (by omega) (by omega)]
  rw [e, guardN (by omega) (by omega)]
  exact l_viewS hs hl hi l.length 0 N (List.replicate (X * Y).toNat 0) (by simp) (by unfold Small at hl; have := N_ge; omega) (by simp)
def lowC (Y : Int) (V : List Int) (c : D_A3) : Bool := decide (c.2.2.1 < nth ((.int .i64) : Ty) V (lineI Y c))
theorem l_stackS {X Y Z X' Y' Z' : Int} (hs : sides X Y Z = true) {V : List Int} (hV : V.length = (X * Y).toNat) {al : List D_A3} (hal : Small al) (hin : Ins X Y Z al) : ∀ (d i m : Nat) (out : List D_A3), al.length = i + d → d < m → out.length ≤ i →
    l_spec_l2Stack_4 m 0 0 0 [] X' Y' Z' out Y V al (i : Int) = some ((X', Y', Z', out ++ (al.drop i).filter (lowC Y V), ()), ())
  | d, i, 0, out, _, h, _ => by omega
  | d, i, m + 1, out, hk, hm, ho => by
    have hal' := hal
    unfold Small at hal'
    rw [q_spec_l2Stack_4]
    by_cases hlt : i < al.length
    · have hc := hin _ (List.getElem_mem hlt)
      obtain ⟨h1, h2, h3, h4⟩ := line_ok hs hc
      have h5 := size64 hs
      have w := within3_iff.1 hc
      have s := sides_iff.1 hs
      have e : IntKind.wrap .i64 (IntKind.wrap .i64 (al[i].1 * Y) + al[i].2.1) = lineI Y al[i] := by
        unfold lineI at *
        rw [w64 (x := al[i].1 * Y) (by omega) (by omega), w64 (by omega) (by omega)]
      rw [ltT hlt, inB_at hlt, nthA (t := T_A3) hlt, e, inB_line hs hc hV, app_len' (by omega), drop_at al i hlt, succI i (by omega)]
      simp only [cond_true, List.filter_cons]
      cases hlow : decide (al[i].2.2.1 < nth ((.int .i64) : Ty) V (lineI Y al[i])) with
      | false =>
        have hl2 : lowC Y V al[i] = false := hlow
        rw [hl2]
        simp only [cond_false, Bool.false_eq_true, if_false]
        exact l_stackS hs hV hal hin (d - 1) (i + 1) m out (by omega) (by omega) (by omega)
      | true =>
        have hl2 : lowC Y V al[i] = true := hlow
        rw [hl2]
        simp only [cond_true, if_true]
        rw [l_stackS hs hV hal hin (d - 1) (i + 1) m _ (by omega) (by omega) (by simp; omega)]
        simp
    · rw [ltF hlt, List.drop_eq_nil_of_le (by omega)]
      simp
end Go.VI
/- Plain: views, shadows and the bound by lines. -/
namespace Go.VI
open Go.Proofs
def o1 (d : Int) : Int := bif decide (d = 0) then 1 else 0
def o2 (d : Int) : Int := bif decide (d = 0) then 2 else (bif decide (d = 1) then 2 else 1)
def lineD (X Y Z d : Int) (c : D_A3) : Int := get3 c (o1 d) * side3 X Y Z (o2 d) + get3 c (o2 d)
def linesD (X Y Z d : Int) : Int := side3 X Y Z (o1 d) * side3 X Y Z (o2 d)
theorem lines_ok {X Y Z : Int} (hs : sides X Y Z = true) {d : Int} (d0 : 0 ≤ d) (d1 : d ≤ 2) : 1 ≤ linesD X Y Z d ∧ linesD X Y Z d ≤ 16 := by
  have s := sides_iff.1 hs
  have h : ∀ a b : Int, 1 ≤ a → a ≤ 4 → 1 ≤ b → b ≤ 4 → 1 ≤ a * b ∧ a * b ≤ 16 := fun a b a0 a1 b0 b1 => by
    rcases four a0 a1 with rfl | rfl | rfl | rfl <;> omega
  rcases dir d0 d1 with rfl | rfl | rfl
  · exact h Y Z s.2.1.1 s.2.1.2 s.2.2.1 s.2.2.2
  · exact h X Z s.1.1 s.1.2 s.2.2.1 s.2.2.2
  · exact h X Y s.1.1 s.1.2 s.2.1.1 s.2.1.2
theorem lineD_ok {X Y Z : Int} (hs : sides X Y Z = true) {d : Int} (d0 : 0 ≤ d) (d1 : d ≤ 2) {c : D_A3} (hc : within3 X Y Z c = true) : 0 ≤ lineD X Y Z d c ∧ lineD X Y Z d c < linesD X Y Z d ∧ 0 ≤ get3 c (o1 d) * side3 X Y Z (o2 d) ∧ get3 c (o1 d) * side3 X Y Z (o2 d) ≤ 16 ∧ 0 ≤ get3 c (o2 d) ∧ get3 c (o2 d) ≤ 3 := by
  have s := sides_iff.1 hs
  have w := within3_iff.1 hc
  have h : ∀ a b x y : Int, 1 ≤ a → a ≤ 4 → 1 ≤ b → b ≤ 4 → 0 ≤ x → x ≤ a - 1 → 0 ≤ y → y ≤ b - 1 → 0 ≤ x * b + y ∧ x * b + y < a * b ∧ 0 ≤ x * b ∧ x * b ≤ 16 ∧ 0 ≤ y ∧ y ≤ 3 := fun a b x y a0 a1 b0 b1 _ _ _ _ => by
    rcases four a0 a1 with rfl | rfl | rfl | rfl <;> rcases four b0 b1 with rfl | rfl | rfl | rfl <;> omega
  rcases dir d0 d1 with rfl | rfl | rfl
  · exact h Y Z c.2.1 c.2.2.1 s.2.1.1 s.2.1.2 s.2.2.1 s.2.2.2 w.2.1.1 w.2.1.2 w.2.2.1 w.2.2.2
  · exact h X Z c.1 c.2.2.1 s.1.1 s.1.2 s.2.2.1 s.2.2.2 w.1.1 w.1.2 w.2.2.1 w.2.2.2
  · exact h X Y c.1 c.2.1 s.1.1 s.1.2 s.2.1.1 s.2.1.2 w.1.1 w.1.2 w.2.1.1 w.2.1.2
theorem others_eq (d : Int) : P_impl_others (d, ()) = some (o1 d, o2 d, ()) := by
  rw [p_impl_others]
  unfold o1 o2
  cases decide (d = 0) <;> cases decide (d = 1) <;> rfl
theorem l2Others_eq (d : Int) : P_spec_l2Others (d, ()) = some (o1 d, o2 d, ()) := by
  rw [p_spec_l2Others]
  unfold o1 o2
  cases decide (d = 0) <;> cases decide (d = 1) <;> rfl
theorem o1_ok (d : Int) : 0 ≤ o1 d ∧ o1 d ≤ 2 := by
  unfold o1
  cases decide (d = 0) <;> decide
theorem o2_ok (d : Int) : 0 ≤ o2 d ∧ o2 d ≤ 2 := by
  unfold o2
  cases decide (d = 0) <;> cases decide (d = 1) <;> decide
theorem f_lineD {X Y Z : Int} (hs : sides X Y Z = true) {d : Int} (d0 : 0 ≤ d) (d1 : d ≤ 2) {c : D_A3} (hc : within3 X Y Z c = true) : P_box_line ((X, Y, Z, ()), c, d, ()) = some (lineD X Y Z d c, ()) := by
  obtain ⟨h1, h2, h3, h4, h5, h6⟩ := lineD_ok hs d0 d1 hc
  have h7 := lines_ok hs d0 d1
  rw [p_box_line, others_eq]
  simp only [Option.bind_some]
  rw [inB_dir (o1_ok d).1 (o1_ok d).2, inB_dir (o2_ok d).1 (o2_ok d).2]
  show some (IntKind.wrap .i64 (IntKind.wrap .i64 (get3 c (o1 d) * side3 X Y Z (o2 d)) + get3 c (o2 d)), ()) = _
  unfold lineD at *
  rw [w64 (x := get3 c (o1 d) * side3 X Y Z (o2 d)) (by omega) (by omega), w64 (by omega) (by omega)]
theorem f_linesD {X Y Z : Int} (hs : sides X Y Z = true) {d : Int} (d0 : 0 ≤ d) (d1 : d ≤ 2) : P_box_lines ((X, Y, Z, ()), d, ()) = some (linesD X Y Z d, ()) := by
  have h5 := size64 hs
  have s := sides_iff.1 hs
  have h7 := lines_ok hs d0 d1
  have e : (((X * Y * Z).toNat : Nat) : Int) = X * Y * Z := by omega
  rw [p_box_lines, f_size hs, e]
  simp only [Option.bind_some]
  rw [inB_dir d0 d1]
  have hd := side3_ok hs d
  have hdiv : Int.tdiv (X * Y * Z) (side3 X Y Z d) = linesD X Y Z d := by
    have hm : X * Y * Z = linesD X Y Z d * side3 X Y Z d := by
      rcases dir d0 d1 with rfl | rfl | rfl
      · show X * Y * Z = Y * Z * X
        rw [Int.mul_assoc, Int.mul_comm X]
      · show X * Y * Z = X * Z * Y
        rw [Int.mul_assoc, Int.mul_comm Y, ← Int.mul_assoc]
      · rfl
    rw [hm]
    exact Int.mul_tdiv_cancel _ (by omega)
  show (bif !decide (side3 X Y Z d = 0) then some (IntKind.wrap .i64 (Int.tdiv (X * Y * Z) (side3 X Y Z d)), ()) else none) = _
  rw [decide_eq_false (by omega), hdiv, w64 (by omega) (by omega)]
  rfl
def upD (X Y Z d : Int) (acc : List Int) (c : D_A3) : List Int := List.set acc (Int.toNat (lineD X Y Z d c)) (IntKind.wrap .i64 ((nth ((.int .i64) : Ty) acc (lineD X Y Z d c)) + 1))
theorem upD_len {X Y Z d : Int} {acc : List Int} {c : D_A3} : (upD X Y Z d acc c).length = acc.length := by simp [upD]
theorem inB_lineD {X Y Z : Int} (hs : sides X Y Z = true) {d : Int} (d0 : 0 ≤ d) (d1 : d ≤ 2) {c : D_A3} (hc : within3 X Y Z c = true) {acc : List Int} (ha : acc.length = (linesD X Y Z d).toNat) : inB (lineD X Y Z d c) acc.length = true := by
  obtain ⟨h1, h2, _⟩ := lineD_ok hs d0 d1 hc
  unfold inB
  rw [Bool.and_eq_true, decide_eq_true_eq, decide_eq_true_eq]
  omega
theorem l_viewID {X Y Z : Int} (hs : sides X Y Z = true) {dr : Int} (d0 : 0 ≤ dr) (d1 : dr ≤ 2) {l : List D_A3} (hl : Small l) (hi : Ins X Y Z l) : ∀ (d i m : Nat) (acc : List Int), l.length = i + d → d < m → acc.length = (linesD X Y Z dr).toNat →
    l_box_view_3 m X Y Z dr acc l (l.length : Int) (i : Int) = some ((l.drop i).foldl (upD X Y Z dr) acc, ())
  | d, i, 0, acc, _, h, _ => by omega
  | d, i, m + 1, acc, hk, hm, ha => by
    have hl' := hl
    unfold Small at hl'
    rw [q_box_view_3]
    by_cases hlt : i < l.length
    · have hc := hi _ (List.getElem_mem hlt)
      rw [ltT hlt, inB_at hlt, nthA (t := T_A3) hlt, f_lineD hs d0 d1 hc, drop_at l i hlt, succI i (by omega)]
      simp only [cond_true, Option.bind_some]
      rw [inB_lineD hs d0 d1 hc ha]
      simp only [cond_true, List.foldl_cons]
      exact l_viewID hs d0 d1 hl hi (d - 1) (i + 1) m (upD X Y Z dr acc l[i]) (by omega) (by omega) (by rw [upD_len, ha])
    · rw [ltF hlt, List.drop_eq_nil_of_le (by omega)]
      rfl
theorem l_viewSD {X Y Z : Int} (hs : sides X Y Z = true) {dr : Int} (d0 : 0 ≤ dr) (d1 : dr ≤ 2) {l : List D_A3} (hl : Small l) (hi : Ins X Y Z l) : ∀ (d i m : Nat) (acc : List Int), l.length = i + d → d < m → acc.length = (linesD X Y Z dr).toNat →
    l_spec_l2View_4 m X Y Z l (o1 dr) (o2 dr) acc (i : Int) = some ((l.drop i).foldl (upD X Y Z dr) acc, ())
  | d, i, 0, acc, _, h, _ => by omega
  | d, i, m + 1, acc, hk, hm, ha => by
    have hl' := hl
    unfold Small at hl'
    rw [q_spec_l2View_4]
    by_cases hlt : i < l.length
    · have hc := hi _ (List.getElem_mem hlt)
      obtain ⟨h1, h2, h3, h4, h5, h6⟩ := lineD_ok hs d0 d1 hc
      have h7 := lines_ok hs d0 d1
      rw [ltT hlt, inB_at hlt, nthA (t := T_A3) hlt, f_l2Long l (o2_ok dr).1 (o2_ok dr).2, drop_at l i hlt, succI i (by omega), inB_dir (o1_ok dr).1 (o1_ok dr).2, inB_dir (o2_ok dr).1 (o2_ok dr).2]
      have e : IntKind.wrap .i64 (IntKind.wrap .i64 (get3 l[i] (o1 dr) * side3 X Y Z (o2 dr)) + get3 l[i] (o2 dr)) = lineD X Y Z dr l[i] := by
        unfold lineD at *
        rw [w64 (x := get3 l[i] (o1 dr) * side3 X Y Z (o2 dr)) (by omega) (by omega), w64 (by omega) (by omega)]
      unfold get3 at e
      simp only [cond_true, Option.bind_some]
      rw [e, inB_lineD hs d0 d1 hc ha]
      simp only [cond_true, List.foldl_cons]
      exact l_viewSD hs d0 d1 hl hi (d - 1) (i + 1) m (upD X Y Z dr acc l[i]) (by omega) (by omega) (by rw [upD_len, ha])
    · rw [ltF hlt, List.drop_eq_nil_of_le (by omega)]
      rfl
def viewD (X Y Z d : Int) (l : List D_A3) : List Int := l.foldl (upD X Y Z d) (List.replicate (linesD X Y Z d).toNat 0)
theorem f_viewSD {X Y Z : Int} (hs : sides X Y Z = true) {d : Int} (d0 : 0 ≤ d) (d1 : d ≤ 2) {l : List D_A3} (hl : Small l) (hi : Ins X Y Z l) : P_spec_l2View ((X, Y, Z, l, ()), d, ()) = some (viewD X Y Z d l, ()) := by
  have h5 := lines_ok hs d0 d1
  rw [p_spec_l2View, l2Others_eq]
  simp only [Option.bind_some]
  rw [f_l2Long l (o1_ok d).1 (o1_ok d).2, f_l2Long l (o2_ok d).1 (o2_ok d).2]
  simp only [Option.bind_some]
  have e : IntKind.wrap .i64 (side3 X Y Z (o1 d) * side3 X Y Z (o2 d)) = linesD X Y Z d := by
    unfold linesD at *
    rw [w64 (by omega) (by omega)]
  rw [e, guardN (by omega) (by omega)]
  exact l_viewSD hs d0 d1 hl hi l.length 0 N (List.replicate (linesD X Y Z d).toNat 0) (by simp) (by unfold Small at hl; have := N_ge; omega) (by simp)
theorem f_viewIB {X Y Z : Int} (hs : sides X Y Z = true) {d : Int} (d0 : 0 ≤ d) (d1 : d ≤ 2) (v : BitVec 64) : P_box_view ((X, Y, Z, ()), (v.toNat : Int), d, ()) = some (viewD X Y Z d (bitCells X Y Z v), ()) := by
  have h5 := lines_ok hs d0 d1
  have hi : Ins X Y Z (bitCells X Y Z v) := fun c hc => ((mem_listOf hs v c).1 hc).1
  have hsm := small_listOf hs v
  rw [p_box_view, f_linesD hs d0 d1]
  simp only [Option.bind_some]
  rw [guardN (by omega) (by omega), f_box_list hs]
  exact l_viewID hs d0 d1 hsm hi (bitCells X Y Z v).length 0 N (List.replicate (linesD X Y Z d).toNat 0) (by simp) (by unfold Small at hsm; have := N_ge; omega) (by simp)
theorem upD_at {X Y Z : Int} (hs : sides X Y Z = true) {d : Int} (d0 : 0 ≤ d) (d1 : d ≤ 2) : ∀ (l : List D_A3) (acc : List Int) (b : Nat), Ins X Y Z l → acc.length = (linesD X Y Z d).toNat → (∀ x ∈ acc, 0 ≤ x ∧ x ≤ b) → b + l.length ≤ 10000000 →
    (l.foldl (upD X Y Z d) acc).length = acc.length ∧ ∀ (i : Nat) (h : i < acc.length), (l.foldl (upD X Y Z d) acc)[i]? = some (acc[i] + ((l.filter fun c => decide (lineD X Y Z d c = i)).length : Int))
  | [], acc, b, _, _, _, _ => ⟨rfl, fun i h => by simp [h]⟩
  | c :: l, acc, b, hi, ha, hb, hn => by
    have hc := hi c (List.mem_cons_self ..)
    obtain ⟨h1, h2, _⟩ := lineD_ok hs d0 d1 hc
    obtain ⟨k, hk⟩ : ∃ k : Nat, lineD X Y Z d c = (k : Int) := ⟨(lineD X Y Z d c).toNat, by omega⟩
    have hkl : k < acc.length := by omega
    have hk0 := hb _ (List.getElem_mem hkl)
    simp only [List.length_cons] at hn
    have hu : upD X Y Z d acc c = acc.set k (acc[k] + 1) := by
      unfold upD
      rw [hk, nthA (t := .int .i64) hkl, w64 (by omega) (by omega)]
      rfl
    obtain ⟨g1, g2⟩ := upD_at hs d0 d1 l (upD X Y Z d acc c) (b + 1) (fun x hx => hi x (List.mem_cons_of_mem _ hx)) (by rw [upD_len, ha]) (by
      rw [hu]
      intro x hx
      rcases List.mem_or_eq_of_mem_set hx with hx | rfl
      · have := hb x hx; omega
      · omega) (by omega)
    rw [List.foldl_cons]
    refine ⟨by rw [g1, upD_len], fun i h => ?_⟩
    rw [g2 i (by rw [upD_len]; exact h)]
    simp only [hu, List.filter_cons, hk]
    by_cases e : k = i
    · subst e
      rw [List.getElem_set_self, decide_eq_true (by rfl)]
      simp only [if_true, List.length_cons]
      congr 1
      omega
    · rw [List.getElem_set_ne (by omega), decide_eq_false (by omega)]
      simp
def shD (X Y Z d : Int) (l : List D_A3) : List Int := (List.range (linesD X Y Z d).toNat).map fun i : Nat => if l.any fun c => decide (lineD X Y Z d c = (i : Int)) then 1 else 0
theorem shD_len (X Y Z d : Int) (l : List D_A3) : (shD X Y Z d l).length = (linesD X Y Z d).toNat := by simp [shD]
theorem view_at {X Y Z : Int} (hs : sides X Y Z = true) {d : Int} (d0 : 0 ≤ d) (d1 : d ≤ 2) {l : List D_A3} (hl : Small l) (hi : Ins X Y Z l) : (viewD X Y Z d l).length = (linesD X Y Z d).toNat ∧ ∀ (i : Nat), i < (linesD X Y Z d).toNat → (viewD X Y Z d l)[i]? = some (((l.filter fun c => decide (lineD X Y Z d c = i)).length : Int)) := by
  have h := upD_at hs d0 d1 l (List.replicate (linesD X Y Z d).toNat 0) 0 hi (by simp) (fun x hx => by rw [List.eq_of_mem_replicate hx]; omega) (by unfold Small at hl; omega)
  refine ⟨by rw [viewD, h.1, List.length_replicate], fun i h' => ?_⟩
  rw [viewD, h.2 i (by simpa using h'), List.getElem_replicate, Int.zero_add]
end Go.VI
/- Plain: benches. -/
namespace Go.VI
open Go.Proofs
end Go.VI
/- Plain: valid shadows, the bound by lines, and the gap. -/
namespace Go.VI
open Go.Proofs
def bit01 (x : Int) : Bool := decide (0 ≤ x) && decide (x ≤ 1)
def onesB (l : List Int) (n : Int) : Bool := l.all bit01 && decide ((l.length : Int) = n)
theorem l_allWithin {l : List Int} (hl : Small l) (a b : Int) : ∀ (d i m : Nat), l.length = i + d → d < m → l_impl_allWithin_2 m a b l (l.length : Int) (i : Int) = some ((l.drop i).all fun x => decide (a ≤ x) && decide (x ≤ b), ())
  | d, i, 0, _, h => by omega
  | d, i, m + 1, hk, hm => by
    have hl' := hl
    unfold Small at hl'
    rw [q_impl_allWithin_2]
    by_cases hlt : i < l.length
    · rw [ltT hlt, inB_at hlt, nthA (t := .int .i64) hlt, f_impl_within, drop_at l i hlt, succI i (by omega), l_allWithin hl a b (d - 1) (i + 1) m (by omega) (by omega)]
      simp only [cond_true, Option.bind_some, List.all_cons]
      cases decide (a ≤ l[i]) && decide (l[i] ≤ b) <;> rfl
    · rw [ltF hlt, List.drop_eq_nil_of_le (by omega)]
      rfl
theorem f_allWithin {l : List Int} (hl : Small l) (a b : Int) : P_impl_allWithin (l, a, b, ()) = some (l.all fun x => decide (a ≤ x) && decide (x ≤ b), ()) := by
  rw [p_impl_allWithin]
  exact l_allWithin hl a b l.length 0 N (by simp) (by unfold Small at hl; have := N_ge; omega)
def lit (l : List Int) : Int := l.foldl (· + ·) 0
theorem lit_from : ∀ (l : List Int) (a : Int), (∀ x ∈ l, bit01 x = true) → a ≤ l.foldl (· + ·) a ∧ l.foldl (· + ·) a ≤ a + l.length
  | [], a, _ => by simp
  | x :: l, a, h => by
    have hx := h x (List.mem_cons_self ..)
    unfold bit01 at hx
    rw [Bool.and_eq_true, decide_eq_true_eq, decide_eq_true_eq] at hx
    have := lit_from l (a + x) fun y hy => h y (List.mem_cons_of_mem _ hy)
    rw [List.foldl_cons, List.length_cons]
    omega
theorem lit_ok {l : List Int} {n : Int} (h : onesB l n = true) (hn : n ≤ 16) : 0 ≤ lit l ∧ lit l ≤ 16 ∧ (∀ x ∈ l, bit01 x = true) ∧ (l.length : Int) = n := by
  unfold onesB at h
  rw [Bool.and_eq_true, decide_eq_true_eq] at h
  have h1 := fun x hx => List.all_eq_true.1 h.1 x hx
  have := lit_from l 0 h1
  unfold lit
  exact ⟨by omega, by omega, h1, h.2⟩
def mx (a b : Int) : Int := bif decide (a > b) then a else b
theorem mx_eq (a b : Int) : mx a b = if a ≤ b then b else a := by
  unfold mx
  by_cases h : a ≤ b
  · rw [decide_eq_false (by omega), if_pos h]; rfl
  · rw [decide_eq_true (by omega), if_neg h]; rfl
theorem ones_shD {X Y Z : Int} (hs : sides X Y Z = true) {d : Int} (d0 : 0 ≤ d) (d1 : d ≤ 2) (l : List D_A3) : onesB (shD X Y Z d l) (linesD X Y Z d) = true := by
  have h := lines_ok hs d0 d1
  unfold onesB
  rw [Bool.and_eq_true, decide_eq_true_eq, shD_len]
  refine ⟨List.all_eq_true.2 fun x hx => ?_, by omega⟩
  unfold shD at hx
  obtain ⟨i, _, rfl⟩ := List.mem_map.1 hx
  split <;> rfl
end Go.VI
