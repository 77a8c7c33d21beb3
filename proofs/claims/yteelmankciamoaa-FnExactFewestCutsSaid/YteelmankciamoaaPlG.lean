/- Plain: the fewest cuts. -/
import Derived.Test.YteelmankciamoaaPlF
namespace Go.VI
open Go.Proofs

/-- How many cuts with numbers k .. k + d - 1 in a direction part something. -/
def parted (l : List D_A3) (dr : Int) : (d : Nat) → (k : Int) → Nat
  | 0, _ => 0
  | d + 1, k => (if cutN l dr k > 0 then 1 else 0) + parted l dr d (k + 1)

theorem parted_le (l : List D_A3) (dr : Int) : ∀ (d : Nat) (k : Int), parted l dr d k ≤ d
  | 0, _ => by simp [parted]
  | d + 1, k => by
    have := parted_le l dr d (k + 1)
    simp only [parted]
    split <;> omega

theorem l_spec8 {X Y Z : Int} {l : List D_A3} {dr : Int} (hs : sides X Y Z = true) (hl : Small l) (hi : Ins X Y Z l) (hr : Srt l) (d0 : 0 ≤ dr) (d1 : dr ≤ 2) (m0 : Nat) : ∀ (d m : Nat) (cnt : Nat) (k : Int), k + d = side3 X Y Z dr → d < m → 1 ≤ k → cnt + d < 1000 →
    l_spec_FewestCuts_8 m0 m X Y Z l (cnt : Int) dr k = l_spec_FewestCuts_5 m0 X Y Z l ((cnt + parted l dr d k : Nat) : Int) (dr + 1)
  | d, 0, cnt, k, hk, hm, h1, hc => by omega
  | 0, m + 1, cnt, k, hk, hm, h1, hc => by
    rw [q_spec_FewestCuts_8, f_l2Long l d0 d1]
    simp only [Option.bind_some]
    rw [decide_eq_false (by omega), w64 (x := dr + 1) (by omega) (by omega)]
    simp [parted]
  | d + 1, m + 1, cnt, k, hk, hm, h1, hc => by
    have h4 := side3_ok hs dr
    rw [q_spec_FewestCuts_8, f_l2Long l d0 d1]
    simp only [Option.bind_some]
    rw [decide_eq_true (by omega), f_faces dr k hs hl hi hr d0 d1 h1 (by omega), w64 (x := k + 1) (by omega) (by omega)]
    simp only [Option.bind_some, cond_true, parted]
    by_cases hp : cutN l dr k > 0
    · rw [decide_eq_true (by omega), if_pos hp, w64 (x := (cnt : Int) + 1) (by omega) (by omega)]
      simp only [cond_true]
      have := l_spec8 hs hl hi hr d0 d1 m0 d m (cnt + 1) (k + 1) (by omega) (by omega) (by omega) (by omega)
      rw [show ((cnt : Int) + 1) = ((cnt + 1 : Nat) : Int) by omega, this]
      congr 2
      omega
    · rw [decide_eq_false (by omega), if_neg hp]
      simp only [cond_false]
      rw [l_spec8 hs hl hi hr d0 d1 m0 d m cnt (k + 1) (by omega) (by omega) (by omega) (by omega)]
      congr 2
      omega
termination_by d => d

theorem l_impl8 {X Y Z : Int} {l : List D_A3} {dr S : Int} (a b c : Int) (hs : sides X Y Z = true) (hl : Small l) (hi : Ins X Y Z l) (d0 : 0 ≤ dr) (d1 : dr ≤ 2) (m0 : Nat) (hS : 1 ≤ S) (hS4 : S ≤ 4) : ∀ (d m : Nat) (cnt : Nat) (k : Int), k + d = S → d < m → 1 ≤ k → cnt + d < 1000 →
    l_impl_FewestCuts_8 m0 m X Y Z l (cnt : Int) dr S k a b c dr = l_impl_FewestCuts_5 m0 X Y Z l ((cnt + parted l dr d k : Nat) : Int) a b c (dr + 1)
  | d, 0, cnt, k, hk, hm, h1, hc => by omega
  | 0, m + 1, cnt, k, hk, hm, h1, hc => by
    rw [q_impl_FewestCuts_8]
    rw [decide_eq_false (by omega), w64 (x := dr + 1) (by omega) (by omega)]
    simp [parted]
  | d + 1, m + 1, cnt, k, hk, hm, h1, hc => by
    rw [q_impl_FewestCuts_8]
    rw [decide_eq_true (by omega), f_cutFaces dr k hs hl hi d0 d1 h1, w64 (x := k + 1) (by omega) (by omega)]
    simp only [Option.bind_some, cond_true, parted]
    by_cases hp : cutN l dr k > 0
    · rw [decide_eq_true (by omega), if_pos hp, w64 (x := (cnt : Int) + 1) (by omega) (by omega)]
      simp only [cond_true]
      have := l_impl8 a b c hs hl hi d0 d1 m0 hS hS4 d m (cnt + 1) (k + 1) (by omega) (by omega) (by omega) (by omega)
      rw [show ((cnt : Int) + 1) = ((cnt + 1 : Nat) : Int) by omega, this]
      congr 2
      omega
    · rw [decide_eq_false (by omega), if_neg hp]
      simp only [cond_false]
      rw [l_impl8 a b c hs hl hi d0 d1 m0 hS hS4 d m cnt (k + 1) (by omega) (by omega) (by omega) (by omega)]
      congr 2
      omega
termination_by d => d

def fewest (h : D_Heap) : Nat := parted h.2.2.2.1 0 (h.1 - 1).toNat 1 + parted h.2.2.2.1 1 (h.2.1 - 1).toNat 1 + parted h.2.2.2.1 2 (h.2.2.1 - 1).toNat 1
def fewestV (h : D_Heap) : Int × Bool × Unit := if okHeap h then ((fewest h : Int), true, ()) else (0, false, ())

theorem N_eq2 : ∃ n, N = n + 10 := ⟨N - 10, by have := N_ge; omega⟩

theorem f_spec_FewestCuts (h : D_Heap) (hl : Small h.2.2.2.1) : P_spec_FewestCuts (h, ()) = some (fewestV h) := by
  rw [p_spec_FewestCuts, f_spec_l2Heap _ hl]
  unfold fewestV
  cases ho : okHeap h with
  | false => simp
  | true =>
    obtain ⟨hs, hi, hr⟩ := okHeap_iff.1 ho
    obtain ⟨s1, s2, s3⟩ := sides_iff.1 hs
    have hN := N_ge
    have e0 := l_spec8 hs hl hi hr (dr := 0) (by omega) (by omega)
    have e1 := l_spec8 hs hl hi hr (dr := 1) (by omega) (by omega)
    have e2 := l_spec8 hs hl hi hr (dr := 2) (by omega) (by omega)
    have p0 := parted_le h.2.2.2.1 0 (h.1 - 1).toNat 1
    have p1 := parted_le h.2.2.2.1 1 (h.2.1 - 1).toNat 1
    have p2 := parted_le h.2.2.2.1 2 (h.2.2.1 - 1).toNat 1
    simp only [Option.bind_some, Bool.not_true, cond_false, if_true]
    rw [N_eq, q_spec_FewestCuts_5]
    have a0 := e0 (N - 4 + 3) (h.1 - 1).toNat N 0 1 (by simp only [side3, decide_true, cond_true]; omega) (by omega) (by omega) (by omega)
    have a1 := e1 (N - 4 + 2) (h.2.1 - 1).toNat N (0 + parted h.2.2.2.1 0 (h.1 - 1).toNat 1) 1 (by show 1 + (((h.2.1 - 1).toNat : Nat) : Int) = h.2.1; omega) (by omega) (by omega) (by omega)
    have a2 := e2 (N - 4 + 1) (h.2.2.1 - 1).toNat N (0 + parted h.2.2.2.1 0 (h.1 - 1).toNat 1 + parted h.2.2.2.1 1 (h.2.1 - 1).toNat 1) 1 (by show 1 + (((h.2.2.1 - 1).toNat : Nat) : Int) = h.2.2.1; omega) (by omega) (by omega) (by omega)
    rw [show decide ((0 : Int) < 3) = true by decide]
    simp only [cond_true]
    rw [show ((0 : Nat) : Int) = 0 from rfl] at a0
    rw [a0, show (0 : Int) + 1 = 1 from rfl, q_spec_FewestCuts_5, show decide ((1 : Int) < 3) = true by decide]
    simp only [cond_true]
    rw [a1, show (1 : Int) + 1 = 2 from rfl, q_spec_FewestCuts_5, show decide ((2 : Int) < 3) = true by decide]
    simp only [cond_true]
    rw [a2, show (2 : Int) + 1 = 3 from rfl, q_spec_FewestCuts_5, show decide ((3 : Int) < 3) = false by decide]
    simp only [cond_false, fewest, Nat.zero_add]

theorem f_impl_FewestCuts (h : D_Heap) (hl : Small h.2.2.2.1) : P_impl_FewestCuts (h, ()) = some (fewestV h) := by
  rw [p_impl_FewestCuts, f_impl_IsHeap _ hl]
  unfold fewestV
  cases ho : okHeap h with
  | false => simp
  | true =>
    obtain ⟨hs, hi, hr⟩ := okHeap_iff.1 ho
    obtain ⟨s1, s2, s3⟩ := sides_iff.1 hs
    have hN := N_ge
    have p0 := parted_le h.2.2.2.1 0 (h.1 - 1).toNat 1
    have p1 := parted_le h.2.2.2.1 1 (h.2.1 - 1).toNat 1
    have p2 := parted_le h.2.2.2.1 2 (h.2.2.1 - 1).toNat 1
    simp only [Option.bind_some, Bool.not_true, cond_false, if_true]
    rw [f_Heap_box]
    simp only [Option.bind_some]
    rw [N_eq, q_impl_FewestCuts_5]
    have a0 := l_impl8 (dr := 0) h.1 h.2.1 h.2.2.1 hs hl hi (by omega) (by omega) (N - 4 + 3) s1.1 s1.2 (h.1 - 1).toNat N 0 1 (by omega) (by omega) (by omega) (by omega)
    have a1 := l_impl8 (dr := 1) h.1 h.2.1 h.2.2.1 hs hl hi (by omega) (by omega) (N - 4 + 2) s2.1 s2.2 (h.2.1 - 1).toNat N (0 + parted h.2.2.2.1 0 (h.1 - 1).toNat 1) 1 (by omega) (by omega) (by omega) (by omega)
    have a2 := l_impl8 (dr := 2) h.1 h.2.1 h.2.2.1 hs hl hi (by omega) (by omega) (N - 4 + 1) s3.1 s3.2 (h.2.2.1 - 1).toNat N (0 + parted h.2.2.2.1 0 (h.1 - 1).toNat 1 + parted h.2.2.2.1 1 (h.2.1 - 1).toNat 1) 1 (by omega) (by omega) (by omega) (by omega)
    rw [show decide ((0 : Int) < 3) = true by decide, inB_dir (d := 0) (by omega) (by omega), show decide ((0 : Int) = 0) = true by decide]
    simp only [cond_true]
    rw [show ((0 : Nat) : Int) = 0 from rfl] at a0
    rw [a0, show (0 : Int) + 1 = 1 from rfl, q_impl_FewestCuts_5, show decide ((1 : Int) < 3) = true by decide, inB_dir (d := 1) (by omega) (by omega), show decide ((1 : Int) = 0) = false by decide, show decide ((1 : Int) = 1) = true by decide]
    simp only [cond_true, cond_false]
    rw [a1, show (1 : Int) + 1 = 2 from rfl, q_impl_FewestCuts_5, show decide ((2 : Int) < 3) = true by decide, inB_dir (d := 2) (by omega) (by omega), show decide ((2 : Int) = 0) = false by decide, show decide ((2 : Int) = 1) = false by decide]
    simp only [cond_true, cond_false]
    rw [a2, show (2 : Int) + 1 = 3 from rfl, q_impl_FewestCuts_5, show decide ((3 : Int) < 3) = false by decide]
    simp only [cond_false, fewest, Nat.zero_add]

theorem law_FewestCuts (h : D_Heap) (hl : h.2.2.2.1.length ≤ 9223372036854775807) : P_laws_FnExactFewestCuts (h, ()) = some (true, ()) := by
  obtain ⟨z, hz, _, hor⟩ := f_szHeap h 1048576 (by omega) (by omega) hl
  rw [p_laws_FnExactFewestCuts, hz]
  simp only [Option.bind_some]
  by_cases hn : z < 0
  · simp [hn]
  · have hs := hor.resolve_left hn
    simp [hn, f_toHeap h hs, f_spec_FewestCuts h hs, f_impl_FewestCuts h hs, f_eqHeap h hs]
end Go.VI
