/- Plain: the laws' own functions on heaps. -/
import Derived.Test.YtpojikcnjlbgdaaDoorPlA
namespace Go.VI
open Go.Proofs

/-! ### Sizes -/
theorem f_szIntA3S (l : List D_A3) (left : Int) (h0 : 0 ≤ left) (h1 : left ≤ 1048576) (hl : l.length ≤ 9223372036854775807) : ∃ z, P_laws_szIntA3S (l, left, ()) = some (z, ()) ∧ z ≤ left ∧ (z < 0 ∨ (z = left - l.length ∧ (l.length : Int) ≤ left)) := by
  rw [p_laws_szIntA3S, w64 (by omega) (by omega)]
  by_cases h : left - (l.length : Int) < 0
  · exact ⟨-1, by simp [h], by omega, .inl (by omega)⟩
  · exact ⟨left - l.length, by simp [h], by omega, .inr ⟨rfl, by omega⟩⟩

theorem f_szHeap (h : D_Heap) (left : Int) (h0 : 0 ≤ left) (h1 : left ≤ 1048576) (hl : h.2.2.2.1.length ≤ 9223372036854775807) : ∃ z, P_laws_szHeap (h, left, ()) = some (z, ()) ∧ z ≤ left ∧ (z < 0 ∨ Small h.2.2.2.1) := by
  obtain ⟨z, hz, hle, hor⟩ := f_szIntA3S h.2.2.2.1 left h0 h1 hl
  rw [p_laws_szHeap, hz]
  simp only [Option.bind_some]
  by_cases hn : z < 0
  · exact ⟨-1, by simp [hn], by omega, .inl (by omega)⟩
  · exact ⟨z, by simp [hn], hle, .inr (by unfold Small; omega)⟩

theorem f_szBench (b : D_Bench) (left : Int) (h0 : 0 ≤ left) (h1 : left ≤ 1048576) (hl : b.1.2.2.2.1.length ≤ 9223372036854775807) : ∃ z, P_laws_szBench (b, left, ()) = some (z, ()) ∧ z ≤ left ∧ (z < 0 ∨ Small b.1.2.2.2.1) := by
  obtain ⟨z, hz, hle, hor⟩ := f_szHeap b.1 left h0 h1 hl
  rw [p_laws_szBench, hz]
  simp only [Option.bind_some]
  by_cases hn : z < 0
  · exact ⟨-1, by simp [hn], by omega, .inl (by omega)⟩
  · exact ⟨z, by simp [hn], hle, .inr (hor.resolve_left hn)⟩

/-! ### Copies -/
theorem one64 : IntKind.wrap .i64 ((0 : Int) + 1) = 1 := by rw [w64] <;> omega
theorem two64 : IntKind.wrap .i64 ((1 : Int) + 1) = 2 := by rw [w64] <;> omega
theorem three64 : IntKind.wrap .i64 ((2 : Int) + 1) = 3 := by rw [w64] <;> omega
theorem four64 : IntKind.wrap .i64 ((3 : Int) + 1) = 4 := by rw [w64] <;> omega
theorem five64 : IntKind.wrap .i64 ((4 : Int) + 1) = 5 := by rw [w64] <;> omega
theorem six64 : IntKind.wrap .i64 ((5 : Int) + 1) = 6 := by rw [w64] <;> omega
theorem seven64 : IntKind.wrap .i64 ((6 : Int) + 1) = 7 := by rw [w64] <;> omega

theorem f_toIntA3 (c : D_A3) : P_laws_toIntA3 (c, ()) = some (c, ()) := by
  rw [p_laws_toIntA3, N_eq, q_laws_toIntA3_3, one64]
  simp only [inB, decide_true, Bool.and_self, cond_true]
  rw [q_laws_toIntA3_3, two64, q_laws_toIntA3_3, three64, q_laws_toIntA3_3]
  simp [inB]

theorem set_take {α : Type} (l acc : List α) (k : Nat) (h : k < l.length) (ha : acc.length = l.length) (ht : acc.take k = l.take k) : (acc.set k l[k]).take (k + 1) = l.take (k + 1) := by
  apply List.ext_getElem?
  intro i
  rw [List.getElem?_take, List.getElem?_take]
  by_cases hi : i < k + 1
  · rw [if_pos hi, if_pos hi, List.getElem?_set]
    by_cases hik : k = i
    · subst hik
      simp [ha, h]
    · rw [if_neg hik]
      have := congrArg (fun z => z[i]?) ht
      simpa [List.getElem?_take, show i < k by omega] using this
  · rw [if_neg hi, if_neg hi]

theorem l_toIntA3S (l : List D_A3) (hl : Small l) : ∀ (d k m : Nat) (acc : List D_A3), l.length = k + d → d < m → acc.length = l.length → acc.take k = l.take k → l_laws_toIntA3S_3 m l acc (k : Int) = some (l, ())
  | d, k, 0, acc, hk, hm, ha, ht => by omega
  | d, k, m + 1, acc, hk, hm, ha, ht => by
    unfold Small at hl
    rw [q_laws_toIntA3S_3]
    by_cases hlt : k < l.length
    · rw [ltT hlt, inB_at hlt, nthA (t := T_A3) hlt, f_toIntA3, inB_at (by omega), succI k (by omega)]
      simp only [cond_true, Option.bind_some, Int.toNat_natCast]
      exact l_toIntA3S l hl (d - 1) (k + 1) m _ (by omega) (by omega) (by simp [ha]) (set_take l acc k hlt ha ht)
    · rw [ltF hlt]
      rw [List.take_of_length_le (by omega), List.take_of_length_le (by omega)] at ht
      simp [ht]

theorem f_toIntA3S (l : List D_A3) (hl : Small l) : P_laws_toIntA3S (l, ()) = some (l, ()) := by
  have := l_toIntA3S l hl l.length 0 N (List.replicate l.length (Ty.dflt T_A3)) (by simp) (by unfold Small at hl; have := N_ge; omega) (by simp) (by simp)
  unfold Small at hl
  have h1 : ((l.length : Int)) * ((24 : Nat) : Int) ≤ 140737488355328 := by omega
  have h2 : (l.length : Int) ≤ 140737488355328 := by omega
  have h0 : (0 : Int) ≤ (l.length : Int) := by omega
  rw [p_laws_toIntA3S]
  simp only [h0, h2, Int.le_refl, decide_true, Bool.and_self, Bool.true_and, Bool.and_true, decide_eq_true h1, cond_true, Int.toNat_natCast]
  exact this

theorem f_toHeap (h : D_Heap) (hl : Small h.2.2.2.1) : P_laws_toHeap (h, ()) = some (h, ()) := by
  rw [p_laws_toHeap, f_toIntA3S _ hl]; rfl

theorem f_toBench (b : D_Bench) (hl : Small b.1.2.2.2.1) : P_laws_toBench (b, ()) = some (b, ()) := by
  rw [p_laws_toBench, f_toHeap _ hl]; rfl

/-! ### Comparing -/
theorem f_eqIntA3 (c : D_A3) : P_laws_eqIntA3 (c, c, ()) = some (true, ()) := by
  rw [p_laws_eqIntA3, N_eq, q_laws_eqIntA3_2, one64, q_laws_eqIntA3_2, two64, q_laws_eqIntA3_2, three64, q_laws_eqIntA3_2]
  simp [inB]

theorem l_eqIntA3S (l : List D_A3) (hl : Small l) : ∀ (d k m : Nat), l.length = k + d → d < m → l_laws_eqIntA3S_4 m l l (k : Int) = some (true, ())
  | d, k, 0, hk, hm => by omega
  | d, k, m + 1, hk, hm => by
    unfold Small at hl
    rw [q_laws_eqIntA3S_4]
    by_cases hlt : k < l.length
    · rw [ltT hlt, inB_at hlt, nthA (t := T_A3) hlt, f_eqIntA3, succI k (by omega), l_eqIntA3S l hl (d - 1) (k + 1) m (by omega) (by omega)]
      simp
    · rw [ltF hlt]; rfl

theorem f_eqIntA3S (l : List D_A3) (hl : Small l) : P_laws_eqIntA3S (l, l, ()) = some (true, ()) := by
  have := l_eqIntA3S l hl l.length 0 N (by simp) (by unfold Small at hl; have := N_ge; omega)
  rw [p_laws_eqIntA3S]
  simp only [decide_true, Bool.not_true, cond_false]
  exact this

theorem f_eqHeap (h : D_Heap) (hl : Small h.2.2.2.1) : P_laws_eqHeap (h, h, ()) = some (true, ()) := by
  rw [p_laws_eqHeap, f_eqIntA3S _ hl]; simp

theorem f_eqBench (b : D_Bench) (hl : Small b.1.2.2.2.1) : P_laws_eqBench (b, b, ()) = some (true, ()) := by
  rw [p_laws_eqBench, f_eqHeap _ hl]; simp

/-! ### Marks -/
def marked : List D_A3 → Int → List D_A3
  | [], _ => []
  | _ :: r, k => (k, k + 1, k + 2, ()) :: marked r (k + 3)

theorem marked_length : ∀ (l : List D_A3) (k : Int), (marked l k).length = l.length
  | [], _ => rfl
  | _ :: r, k => by simp [marked, marked_length r]

theorem marked_at : ∀ (l : List D_A3) (k : Int) (i : Nat) (h : i < (marked l k).length), (marked l k)[i] = (k + 3 * i, k + 3 * i + 1, k + 3 * i + 2, ())
  | [], k, i, h => by simp [marked] at h
  | _ :: r, k, 0, h => by simp [marked]
  | _ :: r, k, i + 1, h => by
    have := marked_at r (k + 3) i (by simpa [marked] using h)
    simp only [marked, List.getElem_cons_succ, this]
    simp only [Prod.mk.injEq, and_true]
    omega

end Go.VI
