/- Plain: the laws' own functions on heaps. -/
import Derived.Test.YteflilepheeioaaGreatPlA
namespace Go.VI
open Go.Proofs

/-! ### Sizes -/
theorem f_szIntA3S (l : List D_A3) (left : Int) (h0 : 0 ≤ left) (h1 : left ≤ 1048576) (hl : l.length ≤ 9223372036854775807) : ∃ z, P_laws_szIntA3S (l, left, ()) = some (z, ()) ∧ z ≤ left ∧ (z < 0 ∨ (z = left - l.length ∧ (l.length : Int) ≤ left)) := by
  rw [p_laws_szIntA3S, w64 (by omega) (by omega)]
  by_cases h : left - (l.length : Int) < 0
  · exact ⟨-1, by simp [h], by omega, .inl (by omega)⟩
  · exact ⟨left - l.length, by simp [h], by omega, .inr ⟨rfl, by omega⟩⟩

theorem f_szHeap (h : D_Heap) (left : Int) (h0 : 0 ≤ left) (h1 : left ≤ 1048576) (hl : h.2.2.2.1.length ≤ 9223372036854775807) : ∃ z, P_laws_szHeap (h, left, ()) = some (z, ()) ∧ z ≤ left ∧ (z < 0 ∨ Small h.2.2.2.1) := by
  obtain ⟨z, hz, hle, hor⟩ := f_szIntA3S h.2.2.2.1 left h0 h1 hl
  rw [p_laws_szHeap, hz]
  simp only [Option.bind_some]
  by_cases hn : z < 0
  · exact ⟨-1, by simp [hn], by omega, .inl (by omega)⟩
  · exact ⟨z, by simp [hn], hle, .inr (by unfold Small; omega)⟩

theorem f_szBench (b : D_Bench) (left : Int) (h0 : 0 ≤ left) (h1 : left ≤ 1048576) (hl : b.1.2.2.2.1.length ≤ 9223372036854775807) : ∃ z, P_laws_szBench (b, left, ()) = some (z, ()) ∧ z ≤ left ∧ (z < 0 ∨ Small b.1.2.2.2.1) := by
  obtain ⟨z, hz, hle, hor⟩ := f_szHeap b.1 left h0 h1 hl
  rw [p_laws_szBench, hz]
  simp only [Option.bind_some]
  by_cases hn : z < 0
  · exact ⟨-1, by simp [hn], by omega, .inl (by omega)⟩
  · exact ⟨z, by simp [hn], hle, .inr (hor.resolve_left hn)⟩

/-! ### Copies -/
theorem one64 : IntKind.wrap .i64 ((0 : Int) + 1) = 1 := by rw [w64] <;> omega
theorem two64 : IntKind.wrap .i64 ((1 : Int) + 1) = 2 := by rw [w64] <;> omega
theorem three64 : IntKind.wrap .i64 ((2 : Int) + 1) = 3 := by rw [w64] <;> omega
theorem four64 : IntKind.wrap .i64 ((3 : Int) + 1) = 4 := by rw [w64] <;> omega
theorem five64 : IntKind.wrap .i64 ((4 : Int) + 1) = 5 := by rw [w64] <;> omega
theorem six64 : IntKind.wrap .i64 ((5 : Int) + 1) = 6 := by rw [w64] <;> omega
theorem seven64 : IntKind.wrap .i64 ((6 : Int) + 1) = 7 := by rw [w64] <;> omega

theorem f_toIntA3 (c : D_A3) : P_laws_toIntA3 (c, ()) = some (c, ()) := by
  rw [p_laws_toIntA3, N_eq, q_laws_toIntA3_3, one64]
  simp only [inB, decide_true, Bool.and_self, cond_true]
  rw [q_laws_toIntA3_3, two64, q_laws_toIntA3_3, three64, q_laws_toIntA3_3]
  simp [inB]

theorem set_take {α : Type} (l acc : List α) (k : Nat) (h : k < l.length) (ha : acc.length = l.length) (ht : acc.take k = l.take k) : (acc.set k l[k]).take (k + 1) = l.take (k + 1) := by
  apply List.ext_getElem?
  intro i
  rw [List.getElem?_take, List.getElem?_take]
  by_cases hi : i < k + 1
  · rw [if_pos hi, if_pos hi, List.getElem?_set]
    by_cases hik : k = i
    · subst hik
      simp [ha, h]
    · rw [if_neg hik]
      have := congrArg (fun z => z[i]?) ht
      simpa [List.getElem?_take, show i < k by omega] using this
  · rw [if_neg hi, if_neg hi]

theorem l_toIntA3S (l : List D_A3) (hl : Small l) : ∀ (d k m : Nat) (acc : List D_A3), l.length = k + d → d < m → acc.length = l.length → acc.take k = l.take k → l_laws_toIntA3S_3 m l acc (k : Int) = some (l, ())
  | d, k, 0, acc, hk, hm, ha, ht => by omega
  | d, k, m + 1, acc, hk, hm, ha, ht => by
    unfold Small at hl
    rw [q_laws_toIntA3S_3]
    by_cases hlt : k < l.length
    · rw [ltT hlt, inB_at hlt, nthA (t := T_A3) hlt, f_toIntA3, inB_at (by omega), succI k (by omega)]
      simp only [cond_true, Option.bind_some, Int.toNat_natCast]
      exact l_toIntA3S l hl (d - 1) (k + 1) m _ (by omega) (by omega) (by simp [ha]) (set_take l acc k hlt ha ht)
    · rw [ltF hlt]
      rw [List.take_of_length_le (by omega), List.take_of_length_le (by omega)] at ht
      simp [ht]

theorem f_toIntA3S (l : List D_A3) (hl : Small l) : P_laws_toIntA3S (l, ()) = some (l, ()) := by
  have := l_toIntA3S l hl l.length 0 N (List.replicate l.length (Ty.dflt T_A3)) (by simp) (by unfold Small at hl; have := N_ge; omega) (by simp) (by simp)
  unfold Small at hl
  have h1 : ((l.length : Int)) * ((24 : Nat) : Int) ≤ 140737488355328 := by omega
  have h2 : (l.length : Int) ≤ 140737488355328 := by omega
  have h0 : (0 : Int) ≤ (l.length : Int) := by omega
  rw [p_laws_toIntA3S]
  simp only [h0, h2, Int.le_refl, decide_true, Bool.and_self, Bool.true_and, Bool.and_true, decide_eq_true h1, cond_true, Int.toNat_natCast]
  exact this

theorem f_toHeap (h : D_Heap) (hl : Small h.2.2.2.1) : P_laws_toHeap (h, ()) = some (h, ()) := by
  rw [p_laws_toHeap, f_toIntA3S _ hl]; rfl

theorem f_toBench (b : D_Bench) (hl : Small b.1.2.2.2.1) : P_laws_toBench (b, ()) = some (b, ()) := by
  rw [p_laws_toBench, f_toHeap _ hl]; rfl

/-! ### Comparing -/
theorem f_eqIntA3 (c : D_A3) : P_laws_eqIntA3 (c, c, ()) = some (true, ()) := by
  rw [p_laws_eqIntA3, N_eq, q_laws_eqIntA3_2, one64, q_laws_eqIntA3_2, two64, q_laws_eqIntA3_2, three64, q_laws_eqIntA3_2]
  simp [inB]

theorem l_eqIntA3S (l : List D_A3) (hl : Small l) : ∀ (d k m : Nat), l.length = k + d → d < m → l_laws_eqIntA3S_4 m l l (k : Int) = some (true, ())
  | d, k, 0, hk, hm => by omega
  | d, k, m + 1, hk, hm => by
    unfold Small at hl
    rw [q_laws_eqIntA3S_4]
    by_cases hlt : k < l.length
    · rw [ltT hlt, inB_at hlt, nthA (t := T_A3) hlt, f_eqIntA3, succI k (by omega), l_eqIntA3S l hl (d - 1) (k + 1) m (by omega) (by omega)]
      simp
    · rw [ltF hlt]; rfl

theorem f_eqIntA3S (l : List D_A3) (hl : Small l) : P_laws_eqIntA3S (l, l, ()) = some (true, ()) := by
  have := l_eqIntA3S l hl l.length 0 N (by simp) (by unfold Small at hl; have := N_ge; omega)
  rw [p_laws_eqIntA3S]
  simp only [decide_true, Bool.not_true, cond_false]
  exact this

theorem f_eqHeap (h : D_Heap) (hl : Small h.2.2.2.1) : P_laws_eqHeap (h, h, ()) = some (true, ()) := by
  rw [p_laws_eqHeap, f_eqIntA3S _ hl]; simp

theorem f_eqBench (b : D_Bench) (hl : Small b.1.2.2.2.1) : P_laws_eqBench (b, b, ()) = some (true, ()) := by
  rw [p_laws_eqBench, f_eqHeap _ hl]; simp

/-! ### Marks -/
def marked : List D_A3 → Int → List D_A3
  | [], _ => []
  | _ :: r, k => (k, k + 1, k + 2, ()) :: marked r (k + 3)

theorem marked_length : ∀ (l : List D_A3) (k : Int), (marked l k).length = l.length
  | [], _ => rfl
  | _ :: r, k => by simp [marked, marked_length r]

theorem marked_at : ∀ (l : List D_A3) (k : Int) (i : Nat) (h : i < (marked l k).length), (marked l k)[i] = (k + 3 * i, k + 3 * i + 1, k + 3 * i + 2, ())
  | [], k, i, h => by simp [marked] at h
  | _ :: r, k, 0, h => by simp [marked]
  | _ :: r, k, i + 1, h => by
    have := marked_at r (k + 3) i (by simpa [marked] using h)
    simp only [marked, List.getElem_cons_succ, this]
    simp only [Prod.mk.injEq, and_true]
    omega

theorem l_mark5 (m0 : Nat) (l : List D_A3) (k : Int) (i : Nat) (hi : i < l.length) (h0 : 0 ≤ k) (h1 : k ≤ 100000000) (h2 : i < 100000000) :
    l_laws_markIntA3S_5 m0 N l k (i : Int) 0 = l_laws_markIntA3S_2 m0 (l.set i (k, k + 1, k + 2, ())) (k + 3) ((i + 1 : Nat) : Int) := by
  have hn : ∀ x : D_A3, nth T_A3 (l.set i x) (i : Int) = x := fun x => by rw [nthA (t := T_A3) (by simpa using hi)]; simp
  rw [N_eq, q_laws_markIntA3S_5, one64, w64 (x := k + 1) (by omega) (by omega)]
  simp only [inB_at hi, show inB 0 3 = true from rfl, show decide ((0 : Int) < 3) = true from rfl, cond_true, Int.toNat_natCast]
  rw [q_laws_markIntA3S_5, two64, w64 (x := k + 1 + 1) (by omega) (by omega)]
  simp only [hn, List.length_set, inB_at hi, show inB 1 3 = true from rfl, show decide ((1 : Int) < 3) = true from rfl, cond_true, Int.toNat_natCast, List.set_set]
  rw [q_laws_markIntA3S_5, three64, w64 (x := k + 1 + 1 + 1) (by omega) (by omega)]
  simp only [hn, List.length_set, inB_at hi, show inB 2 3 = true from rfl, show decide ((2 : Int) < 3) = true from rfl, cond_true, Int.toNat_natCast, List.set_set]
  rw [q_laws_markIntA3S_5, succI i (by omega), show k + 1 + 1 + 1 = k + 3 by omega, show k + 1 + 1 = k + 2 by omega]
  simp

theorem l_mark2 (l : List D_A3) (k : Int) (hl : Small l) (h0 : 0 ≤ k) (h1 : k ≤ 10000000) : ∀ (d i m : Nat) (acc : List D_A3), l.length = i + d → d < m → acc.length = l.length → acc.take i = (marked l k).take i →
    l_laws_markIntA3S_2 m acc (k + 3 * i) (i : Int) = some ((k + 3 * l.length, ()), (marked l k, ()))
  | d, i, 0, acc, hk, hm, ha, ht => by omega
  | d, i, m + 1, acc, hk, hm, ha, ht => by
    unfold Small at hl
    have hml := marked_length l k
    rw [q_laws_markIntA3S_2]
    by_cases hlt : i < acc.length
    · rw [ltT hlt, l_mark5 m acc (k + 3 * i) i hlt (by omega) (by omega) (by omega)]
      simp only [cond_true]
      rw [show k + 3 * (i : Int) + 3 = k + 3 * ((i + 1 : Nat) : Int) by omega]
      refine l_mark2 l k hl h0 h1 (d - 1) (i + 1) m _ (by omega) (by omega) (by simp [ha]) ?_
      rw [← marked_at l k i (by omega)]
      exact set_take (marked l k) acc i (by omega) (by omega) ht
    · rw [ltF hlt]
      rw [List.take_of_length_le (by omega), List.take_of_length_le (by omega)] at ht
      have hil : i = l.length := by omega
      subst hil
      simp [ht]

theorem f_markIntA3S (l : List D_A3) (hl : Small l) : P_laws_markIntA3S (l, 1, ()) = some ((1 + 3 * (l.length : Int), ()), (marked l 1, ())) := by
  have := l_mark2 l 1 hl (by omega) (by omega) l.length 0 N l (by simp) (by unfold Small at hl; have := N_ge; omega) rfl (by simp)
  rw [p_laws_markIntA3S]
  simpa using this

theorem f_markHeap (h : D_Heap) (hl : Small h.2.2.2.1) : P_laws_markHeap (h, 1, ()) = some ((1 + 3 * (h.2.2.2.1.length : Int), ()), ((0, 0, 0, marked h.2.2.2.1 1, ()), ())) := by
  rw [p_laws_markHeap, f_markIntA3S _ hl]; rfl

theorem f_markBench (b : D_Bench) (hl : Small b.1.2.2.2.1) : P_laws_markBench (b, 1, ()) = some ((1 + 3 * (b.1.2.2.2.1.length : Int), ()), (((0, 0, 0, marked b.1.2.2.2.1 1, ()), 0, 0, ()), ())) := by
  rw [p_laws_markBench, f_markHeap _ hl]; rfl

theorem l_held5 (m0 : Nat) (l : List D_A3) (k : Int) (i : Nat) (hi : i < l.length) (hv : l[i] = (k, k + 1, k + 2, ())) (h0 : 0 ≤ k) (h1 : k ≤ 100000000) (h2 : i < 100000000) :
    l_laws_heldIntA3S_5 m0 N l k (i : Int) 0 = l_laws_heldIntA3S_2 m0 l (k + 3) ((i + 1 : Nat) : Int) := by
  rw [N_eq, q_laws_heldIntA3S_5, one64, w64 (x := k + 1) (by omega) (by omega), nthA (t := T_A3) hi, hv]
  simp only [inB_at hi, show inB 0 3 = true from rfl, show decide ((0 : Int) < 3) = true from rfl, cond_true, decide_true, Bool.not_true, cond_false]
  rw [q_laws_heldIntA3S_5, two64, w64 (x := k + 1 + 1) (by omega) (by omega), nthA (t := T_A3) hi, hv]
  simp only [inB_at hi, show inB 1 3 = true from rfl, show decide ((1 : Int) < 3) = true from rfl, show decide ((1 : Int) = 0) = false from rfl, cond_true, decide_true, Bool.not_true, cond_false]
  rw [q_laws_heldIntA3S_5, three64, w64 (x := k + 1 + 1 + 1) (by omega) (by omega), nthA (t := T_A3) hi, hv, show k + 1 + 1 = k + 2 by omega]
  simp only [inB_at hi, show inB 2 3 = true from rfl, show decide ((2 : Int) < 3) = true from rfl, show decide ((2 : Int) = 0) = false from rfl, show decide ((2 : Int) = 1) = false from rfl, cond_true, decide_true, Bool.not_true, cond_false]
  rw [q_laws_heldIntA3S_5, succI i (by omega), show k + 2 + 1 = k + 3 by omega]
  simp

theorem l_held2 (l : List D_A3) (k : Int) (hl : Small l) (h0 : 0 ≤ k) (h1 : k ≤ 10000000) : ∀ (d i m : Nat), l.length = i + d → d < m → l_laws_heldIntA3S_2 m (marked l k) (k + 3 * i) (i : Int) = some (k + 3 * l.length, ())
  | d, i, 0, hk, hm => by omega
  | d, i, m + 1, hk, hm => by
    unfold Small at hl
    have hml := marked_length l k
    rw [q_laws_heldIntA3S_2]
    by_cases hlt : i < (marked l k).length
    · rw [ltT hlt, l_held5 m (marked l k) (k + 3 * i) i hlt (marked_at l k i hlt) (by omega) (by omega) (by omega)]
      simp only [cond_true]
      rw [show k + 3 * (i : Int) + 3 = k + 3 * ((i + 1 : Nat) : Int) by omega]
      exact l_held2 l k hl h0 h1 (d - 1) (i + 1) m (by omega) (by omega)
    · rw [ltF hlt]
      have hil : i = l.length := by omega
      subst hil
      rfl

theorem f_heldIntA3S (l : List D_A3) (hl : Small l) : P_laws_heldIntA3S (marked l 1, 1, ()) = some (1 + 3 * (l.length : Int), ()) := by
  have := l_held2 l 1 hl (by omega) (by omega) l.length 0 N (by simp) (by unfold Small at hl; have := N_ge; omega)
  rw [p_laws_heldIntA3S]
  simpa using this

theorem f_heldHeap (h : D_Heap) (l : List D_A3) (hl : Small l) (hh : h.2.2.2.1 = marked l 1) : P_laws_heldHeap (h, 1, ()) = some (1 + 3 * (l.length : Int), ()) := by
  rw [p_laws_heldHeap, hh, f_heldIntA3S _ hl]
  have : ¬ (1 + 3 * (l.length : Int)) < 0 := by omega
  simp [this]

theorem f_heldBench (b : D_Bench) (l : List D_A3) (hl : Small l) (hh : b.1.2.2.2.1 = marked l 1) : P_laws_heldBench (b, 1, ()) = some (1 + 3 * (l.length : Int), ()) := by
  rw [p_laws_heldBench, f_heldHeap _ l hl hh]
  have : ¬ (1 + 3 * (l.length : Int)) < 0 := by omega
  simp [this]
end Go.VI
/- Plain: benches. -/
namespace Go.VI
open Go.Proofs

def okBench (b : D_Bench) : Bool := okHeap b.1 && within3one b.2.1 b.1.2.2.2.1.length && within3one b.2.2.1 1000
where within3one (x hi : Int) : Bool := decide (0 ≤ x) && decide (x ≤ hi)

theorem f_in0 (x hi : Int) : P_spec_l1In (x, 0, hi, ()) = some (decide (0 ≤ x) && decide (x ≤ hi), ()) := f_spec_l1In x 0 hi

theorem f_impl_IsBench (b : D_Bench) (hl : Small b.1.2.2.2.1) : P_impl_IsBench (b, ()) = some (okBench b, ()) := by
  rw [p_impl_IsBench, f_impl_IsHeap _ hl]
  simp only [Option.bind_some, f_impl_within, okBench, okBench.within3one]
  cases okHeap b.1 <;> simp
  cases decide (0 ≤ b.2.1) <;> cases decide (b.2.1 ≤ (b.1.2.2.2.1.length : Int)) <;> simp

/-! ### Own benches -/
theorem own1 (l : List D_A3) (hl : Small l) : (decide (((List.length ([] : List D_A3)) + (List.length l)) * 24 ≤ 140737488355328) && decide (((List.length ([] : List D_A3)) + (List.length l)) ≤ 140737488355328)) = true := by
  unfold Small at hl
  simp only [List.length_nil, Nat.zero_add, Bool.and_eq_true, decide_eq_true_eq]
  omega

theorem f_spec_l12Own (b : D_Bench) (hl : Small b.1.2.2.2.1) : P_spec_l12Own (b, ()) = some (b, ()) := by
  rw [p_spec_l12Own, p_spec_l2Own, own1 _ hl]
  simp only [p_spec_l2Made, cond_true, Option.bind_some, List.nil_append]

theorem f_Bench_own (b : D_Bench) (hl : Small b.1.2.2.2.1) : P_Bench_own (b, ()) = some (b, ()) := by
  rw [p_Bench_own, own1 _ hl]
  simp only [cond_true, List.nil_append]

def noBench : D_Bench := ((0, (0, (0, (([] : List D_A3), ())))), (0, (0, ())))
theorem small_nil : Small ([] : List D_A3) := by unfold Small; simp

def newBench (h : D_Heap) : D_Bench × Bool × Unit := if okHeap h then ((h, ((h.2.2.2.1.length : Int), (0, ()))), true, ()) else (noBench, false, ())

theorem newBench_small (h : D_Heap) (hl : Small h.2.2.2.1) : Small (newBench h).1.1.2.2.2.1 := by
  unfold newBench
  split
  · exact hl
  · exact small_nil

end Go.VI
/- Plain: sets of cells by bits, and sorted lists of cells. -/
namespace Go.VI
open Go.Proofs

/-! ### Bits -/
theorem wu64 (n : Int) : IntKind.wrap .u64 n = n % 18446744073709551616 := by simp [IntKind.wrap, IntKind.bits, IntKind.signed]

theorem u64wrap (v : BitVec 64) : IntKind.wrap .u64 (v.toNat : Int) = (v.toNat : Int) := by
  rw [wu64]
  have := v.isLt
  omega

theorem ofInt64 (v : BitVec 64) : BitVec.ofInt 64 (v.toNat : Int) = v := by
  rw [BitVec.ofInt_natCast, BitVec.ofNat_toNat, BitVec.setWidth_eq]

theorem or64 (v w : BitVec 64) : intBits .or .u64 (v.toNat : Int) (w.toNat : Int) = ((v ||| w).toNat : Int) := by
  simp only [intBits]
  rw [show IntKind.bits .u64 = 64 from rfl, ofInt64, ofInt64, u64wrap]

theorem and64 (v w : BitVec 64) : intBits .and .u64 (v.toNat : Int) (w.toNat : Int) = ((v &&& w).toNat : Int) := by
  simp only [intBits]
  rw [show IntKind.bits .u64 = 64 from rfl, ofInt64, ofInt64, u64wrap]

theorem andNot64 (v w : BitVec 64) : intBits .andNot .u64 (v.toNat : Int) (w.toNat : Int) = ((v &&& ~~~w).toNat : Int) := by
  simp only [intBits]
  rw [show IntKind.bits .u64 = 64 from rfl, ofInt64, ofInt64, u64wrap]

theorem shl64 (i : Nat) : shlI .u64 1 (i : Int) = ((BitVec.twoPow 64 i).toNat : Int) := by
  unfold shlI
  rw [show IntKind.bits .u64 = 64 from rfl, BitVec.toNat_twoPow, Int.toNat_natCast, wu64, Int.one_mul]
  by_cases h : i < 64
  · rw [Nat.min_eq_left (by omega), Int.natCast_emod, Int.natCast_pow]
    rfl
  · rw [Nat.min_eq_right (by omega)]
    have : 2 ^ i % 2 ^ 64 = 0 := Nat.mod_eq_zero_of_dvd (Nat.pow_dvd_pow 2 (by omega))
    rw [this]
    decide

theorem shr64 (v : BitVec 64) (i : Nat) : shrI .u64 (v.toNat : Int) (i : Int) = ((v >>> i).toNat : Int) := by
  unfold shrI
  rw [show IntKind.bits .u64 = 64 from rfl, BitVec.toNat_ushiftRight, Int.toNat_natCast, Nat.shiftRight_eq_div_pow, Int.fdiv_eq_ediv_of_nonneg _ (Int.le_of_lt (Int.pow_pos (by decide)))]
  by_cases h : i < 64
  · rw [Nat.min_eq_left (by omega)]
    push_cast
    rfl
  · rw [Nat.min_eq_right (by omega), Nat.div_eq_of_lt (Nat.lt_of_lt_of_le v.isLt (Nat.pow_le_pow_right (by omega) (by omega)))]
    have := v.isLt
    omega

theorem f_set_has (v : BitVec 64) (i : Nat) : P_set_has ((v.toNat : Int), (i : Int), ()) = some (v.getLsbD i, ()) := by
  have h2 : intBits .and .u64 ((v >>> i).toNat : Int) 1 = (((v >>> i) &&& 1#64).toNat : Int) := and64 (v >>> i) 1#64
  rw [p_set_has, shr64, h2, decide_eq_true (Int.natCast_nonneg i), BitVec.and_one_eq_setWidth_ofBool_getLsbD, BitVec.getLsbD_ushiftRight]
  simp only [cond_true, Nat.add_zero]
  cases v.getLsbD i <;> simp

/-! ### Numbers of cells -/
def idx (Y Z : Int) (c : D_A3) : Nat := ((c.1 * Y + c.2.1) * Z + c.2.2.1).toNat

theorem within3_iff {X Y Z : Int} {c : D_A3} : within3 X Y Z c = true ↔ (0 ≤ c.1 ∧ c.1 ≤ X - 1) ∧ (0 ≤ c.2.1 ∧ c.2.1 ≤ Y - 1) ∧ (0 ≤ c.2.2.1 ∧ c.2.2.1 ≤ Z - 1) := by
  simp [within3, and_assoc]

theorem ltC_iff {a b : D_A3} : ltC a b = true ↔ a.1 < b.1 ∨ (a.1 = b.1 ∧ (a.2.1 < b.2.1 ∨ (a.2.1 = b.2.1 ∧ a.2.2.1 < b.2.2.1))) := by
  simp [ltC]

/-- One of the sides. -/
theorem four {n : Int} (h0 : 1 ≤ n) (h1 : n ≤ 4) : n = 1 ∨ n = 2 ∨ n = 3 ∨ n = 4 := by omega

theorem idx_eq {X Y Z : Int} (hs : sides X Y Z = true) {c : D_A3} (hc : within3 X Y Z c = true) : ((idx Y Z c : Nat) : Int) = (c.1 * Y + c.2.1) * Z + c.2.2.1 ∧ idx Y Z c < (X * Y * Z).toNat ∧ X * Y * Z ≤ 64 ∧ c.1 * Y ≤ 16 ∧ 0 ≤ c.1 * Y ∧ 0 ≤ (c.1 * Y + c.2.1) * Z := by
  obtain ⟨h1, h2, h3⟩ := sides_iff.1 hs
  obtain ⟨c1, c2, c3⟩ := within3_iff.1 hc
  unfold idx
  rcases four h1.1 h1.2 with rfl | rfl | rfl | rfl <;> rcases four h2.1 h2.2 with rfl | rfl | rfl | rfl <;> rcases four h3.1 h3.2 with rfl | rfl | rfl | rfl <;> omega

theorem idx_lt {X Y Z : Int} (hs : sides X Y Z = true) {a b : D_A3} (ha : within3 X Y Z a = true) (hb : within3 X Y Z b = true) : idx Y Z a < idx Y Z b ↔ ltC a b = true := by
  obtain ⟨h1, h2, h3⟩ := sides_iff.1 hs
  obtain ⟨a1, a2, a3⟩ := within3_iff.1 ha
  obtain ⟨b1, b2, b3⟩ := within3_iff.1 hb
  rw [ltC_iff]
  unfold idx
  rcases four h2.1 h2.2 with rfl | rfl | rfl | rfl <;> rcases four h3.1 h3.2 with rfl | rfl | rfl | rfl <;> omega

theorem cell_ext {a b : D_A3} (h1 : a.1 = b.1) (h2 : a.2.1 = b.2.1) (h3 : a.2.2.1 = b.2.2.1) : a = b := by
  obtain ⟨a1, a2, a3, ⟨⟩⟩ := a
  obtain ⟨b1, b2, b3, ⟨⟩⟩ := b
  simp_all

theorem ltC_total {a b : D_A3} (h : ltC a b = false) (h' : ltC b a = false) : a = b := by
  have h1 := mt (ltC_iff (a := a) (b := b)).2 (by simp [h])
  have h2 := mt (ltC_iff (a := b) (b := a)).2 (by simp [h'])
  refine cell_ext ?_ ?_ ?_ <;> omega

theorem ltC_irrefl (a : D_A3) : ltC a a = false := by
  rw [Bool.eq_false_iff]; intro h
  have := ltC_iff.1 h
  omega

theorem ltC_trans {a b c : D_A3} (h : ltC a b = true) (h' : ltC b c = true) : ltC a c = true := by
  have h1 := ltC_iff.1 h
  have h2 := ltC_iff.1 h'
  rw [ltC_iff]
  omega

theorem idx_inj {X Y Z : Int} (hs : sides X Y Z = true) {a b : D_A3} (ha : within3 X Y Z a = true) (hb : within3 X Y Z b = true) (h : idx Y Z a = idx Y Z b) : a = b := by
  refine ltC_total ?_ ?_ <;> rw [Bool.eq_false_iff]
  · intro h'; have := (idx_lt hs ha hb).2 h'; omega
  · intro h'; have := (idx_lt hs hb ha).2 h'; omega

theorem f_box_index {X Y Z : Int} (hs : sides X Y Z = true) {c : D_A3} (hc : within3 X Y Z c = true) : P_box_index ((X, Y, Z, ()), c, ()) = some ((idx Y Z c : Int), ()) := by
  obtain ⟨h1, h2, h3, h4, h5, h6⟩ := idx_eq hs hc
  obtain ⟨s1, s2, s3⟩ := sides_iff.1 hs
  obtain ⟨c1, c2, c3⟩ := within3_iff.1 hc
  have hm : 0 ≤ (c.1 * Y + c.2.1) * Z ∧ (c.1 * Y + c.2.1) * Z ≤ 1000 := by omega
  rw [p_box_index, h1]
  simp only
  rw [w64 (x := c.1 * Y) (by omega) (by omega), w64 (x := c.1 * Y + c.2.1) (by omega) (by omega), w64 (x := (c.1 * Y + c.2.1) * Z) (by omega) (by omega), w64 (by omega) (by omega)]
end Go.VI
