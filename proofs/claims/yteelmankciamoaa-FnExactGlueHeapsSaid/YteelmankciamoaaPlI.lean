/- Plain: the laws of peeling. -/
import Derived.Test.YteelmankciamoaaPlH
namespace Go.VI
open Go.Proofs

def noHeap : D_Heap := (0, (0, (0, (([] : List D_A3), ()))))

def peelV (h : D_Heap) : D_Heap × Bool × Unit := if okHeap h then ((h.1, h.2.1, h.2.2.1, peel h.2.2.2.1, ()), true, ()) else (noHeap, false, ())

theorem f_spec_PeelHeap (h : D_Heap) (hl : Small h.2.2.2.1) : P_spec_PeelHeap (h, ()) = some (peelV h) := by
  rw [p_spec_PeelHeap, f_spec_l2Heap _ hl]
  unfold peelV
  cases ho : okHeap h with
  | false => simp [noHeap]
  | true =>
    obtain ⟨hs, hi, hr⟩ := okHeap_iff.1 ho
    have e : P_spec_l11Peel (h, false, ()) = some ((h.1, h.2.1, h.2.2.1, peel h.2.2.2.1, ()), ()) := f_specPeel0 hs hl hi
    simp [e]

theorem f_impl_PeelHeap (h : D_Heap) (hl : Small h.2.2.2.1) : P_impl_PeelHeap (h, ()) = some (peelV h) := by
  rw [p_impl_PeelHeap, f_impl_IsHeap _ hl]
  unfold peelV
  cases ho : okHeap h with
  | false => simp [noHeap]
  | true =>
    obtain ⟨hs, hi, hr⟩ := okHeap_iff.1 ho
    have e : P_Heap_peeled (h, ()) = some ((h.1, h.2.1, h.2.2.1, peel h.2.2.2.1, ()), ()) := f_peeled hs hl hi hr
    simp [e]

theorem peelV_small (h : D_Heap) (hl : Small h.2.2.2.1) : Small (peelV h).1.2.2.2.1 := by
  unfold peelV
  split
  · exact peel_small hl
  · unfold Small noHeap; simp

theorem law_PeelHeap (h : D_Heap) (hl : h.2.2.2.1.length ≤ 9223372036854775807) : P_laws_FnExactPeelHeap (h, ()) = some (true, ()) := by
  obtain ⟨z, hz, _, hor⟩ := f_szHeap h 1048576 (by omega) (by omega) hl
  rw [p_laws_FnExactPeelHeap, hz]
  simp only [Option.bind_some]
  by_cases hn : z < 0
  · simp [hn]
  · have hs := hor.resolve_left hn
    have hb := peelV_small h hs
    have h1 : ¬ (1 + 3 * (h.2.2.2.1.length : Int)) < 0 := by omega
    have h2 : ¬ (1 + 3 * ((peelV h).1.2.2.2.1.length : Int)) < 0 := by omega
    simp only [hn, f_toHeap h hs, f_spec_PeelHeap h hs, f_impl_PeelHeap h hs, f_eqHeap _ hb, f_eqHeap h hs, f_markHeap h hs, f_markHeap _ hb, Option.bind_some, decide_false, cond_false, Bool.not_true, beq_self_eq_true, h1]
    rw [f_heldHeap _ (peelV h).1.2.2.2.1 hb rfl]
    simp only [h2, Option.bind_some, decide_false, decide_true, cond_false, Bool.not_true]

theorem count_ex {X Y Z : Int} (hs : sides X Y Z = true) : ∀ (n : Nat) (l : List D_A3), l.length ≤ n → Small l → Ins X Y Z l → Srt l → ∃ r : Nat, ∀ (m cnt : Nat), n < m → cnt + n < 1000000000 →
    l_spec_PeelCount_4 m X Y Z l (cnt : Int) = some (((cnt + r : Nat) : Int), true, ()) ∧ l_impl_PeelCount_4 m X Y Z l (cnt : Int) = some (((cnt + r : Nat) : Int), true, ())
  | 0, l, hn, hl, hi, hr => by
    refine ⟨0, fun m cnt hm hc => ?_⟩
    obtain ⟨m, rfl⟩ : ∃ k, m = k + 1 := ⟨m - 1, by omega⟩
    rw [q_spec_PeelCount_4, q_impl_PeelCount_4, decide_eq_false (by omega)]
    exact ⟨rfl, rfl⟩
  | n + 1, l, hn, hl, hi, hr => by
    by_cases h0 : 0 < l.length
    · obtain ⟨r, ih⟩ := count_ex hs n (peel l) (by have := peel_lt hr h0; omega) (peel_small hl) (hi.filter _) (hr.filter _)
      refine ⟨r + 1, fun m cnt hm hc => ?_⟩
      obtain ⟨m, rfl⟩ : ∃ k, m = k + 1 := ⟨m - 1, by omega⟩
      obtain ⟨i1, i2⟩ := ih m (cnt + 1) (by omega) (by omega)
      rw [q_spec_PeelCount_4, q_impl_PeelCount_4, decide_eq_true (by omega), f_specPeel0 hs hl hi, f_peeled hs hl hi hr, succI cnt (by omega)]
      simp only [cond_true, Option.bind_some]
      rw [i1, i2, show cnt + 1 + r = cnt + (r + 1) by omega]
      exact ⟨rfl, rfl⟩
    · refine ⟨0, fun m cnt hm hc => ?_⟩
      obtain ⟨m, rfl⟩ : ∃ k, m = k + 1 := ⟨m - 1, by omega⟩
      rw [q_spec_PeelCount_4, q_impl_PeelCount_4, decide_eq_false (by omega)]
      exact ⟨rfl, rfl⟩

theorem peelCount_eq (h : D_Heap) (hl : Small h.2.2.2.1) : ∃ r, P_spec_PeelCount (h, ()) = some r ∧ P_impl_PeelCount (h, ()) = some r := by
  rw [p_spec_PeelCount, p_impl_PeelCount, f_spec_l2Heap _ hl, f_impl_IsHeap _ hl]
  cases ho : okHeap h with
  | false => exact ⟨_, rfl, rfl⟩
  | true =>
    obtain ⟨hs, hi, hr⟩ := okHeap_iff.1 ho
    obtain ⟨r, hr'⟩ := count_ex hs h.2.2.2.1.length h.2.2.2.1 (Nat.le_refl _) hl hi hr
    obtain ⟨i1, i2⟩ := hr' N 0 (by unfold Small at hl; have := N_ge; omega) (by unfold Small at hl; omega)
    exact ⟨_, i1, i2⟩

theorem law_PeelCount (h : D_Heap) (hl : h.2.2.2.1.length ≤ 9223372036854775807) : P_laws_FnExactPeelCount (h, ()) = some (true, ()) := by
  obtain ⟨z, hz, _, hor⟩ := f_szHeap h 1048576 (by omega) (by omega) hl
  rw [p_laws_FnExactPeelCount, hz]
  simp only [Option.bind_some]
  by_cases hn : z < 0
  · simp [hn]
  · have hs := hor.resolve_left hn
    obtain ⟨r, e1, e2⟩ := peelCount_eq h hs
    simp [hn, f_toHeap h hs, e1, e2, f_eqHeap h hs]

theorem depth_ex {X Y Z : Int} (hs : sides X Y Z = true) (c : D_A3) (hc : within3 X Y Z c = true) : ∀ (n : Nat) (l : List D_A3), l.length ≤ n → Small l → Ins X Y Z l → Srt l → ∃ r : Nat, ∀ (m cnt : Nat), n < m → cnt + n < 1000000000 →
    l_spec_PeelDepth_4 m c.1 c.2.1 c.2.2.1 X Y Z l (cnt : Int) = some (((cnt + r : Nat) : Int), true, ()) ∧ l_impl_PeelDepth_4 m X Y Z l c.1 c.2.1 c.2.2.1 (cnt : Int) = some (((cnt + r : Nat) : Int), true, ())
  | n, l, hn, hl, hi, hr => by
    have f1 : P_spec_l2Has ((X, (Y, (Z, (l, ())))), (c.1, (c.2.1, (c.2.2.1, ()))), ()) = some (decide (c ∈ l), ()) := f_l2Has X Y Z l c hl
    have f2 : P_Heap_hasCube ((X, (Y, (Z, (l, ())))), (c.1, (c.2.1, (c.2.2.1, ()))), ()) = some (decide (c ∈ l), ()) := f_hasCube hs hl hi hc
    by_cases h0 : c ∈ l
    · match n, hn with
      | 0, hn => have : l = [] := List.eq_nil_of_length_eq_zero (by omega); subst this; cases h0
      | n + 1, hn =>
        obtain ⟨r, ih⟩ := depth_ex hs c hc n (peel l) (by have := peel_lt hr (List.length_pos_of_mem h0); omega) (peel_small hl) (hi.filter _) (hr.filter _)
        refine ⟨r + 1, fun m cnt hm hc => ?_⟩
        obtain ⟨m, rfl⟩ : ∃ k, m = k + 1 := ⟨m - 1, by omega⟩
        obtain ⟨i1, i2⟩ := ih m (cnt + 1) (by omega) (by omega)
        rw [q_spec_PeelDepth_4, q_impl_PeelDepth_4, f1, f2]
        simp only [Option.bind_some]
        rw [decide_eq_true h0, f_specPeel0 hs hl hi, f_peeled hs hl hi hr, succI cnt (by omega)]
        simp only [cond_true, Option.bind_some]
        rw [i1, i2, show cnt + 1 + r = cnt + (r + 1) by omega]
        exact ⟨rfl, rfl⟩
    · refine ⟨0, fun m cnt hm hc => ?_⟩
      obtain ⟨m, rfl⟩ : ∃ k, m = k + 1 := ⟨m - 1, by omega⟩
      rw [q_spec_PeelDepth_4, q_impl_PeelDepth_4, f1, f2]
      simp only [Option.bind_some]
      rw [decide_eq_false h0]
      exact ⟨rfl, rfl⟩
termination_by n => n

theorem peelDepth_eq (h : D_Heap) (c : D_A3) (hl : Small h.2.2.2.1) : ∃ r, P_spec_PeelDepth (h, c, ()) = some r ∧ P_impl_PeelDepth (h, c, ()) = some r := by
  rw [p_spec_PeelDepth, p_impl_PeelDepth, p_spec_l2Cell, p_impl_isCell, f_spec_l2Heap _ hl, f_impl_IsHeap _ hl]
  cases ho : okHeap h with
  | false => exact ⟨_, rfl, rfl⟩
  | true =>
    obtain ⟨hs, hi, hr⟩ := okHeap_iff.1 ho
    simp only [Option.bind_some, cond_true]
    rw [f_spec_l2In _ _ hs, f_Heap_box]
    simp only [Option.bind_some]
    rw [f_box_has _ _ hs]
    simp only [Option.bind_some]
    cases hw : within3 h.1 h.2.1 h.2.2.1 c with
    | false => exact ⟨_, rfl, rfl⟩
    | true =>
      have f1 : P_spec_l2Has (h, c, ()) = some (decide (c ∈ h.2.2.2.1), ()) := f_l2Has _ _ _ _ _ hl
      have f2 : P_Heap_hasCube (h, c, ()) = some (decide (c ∈ h.2.2.2.1), ()) := f_hasCube hs hl hi hw
      rw [f1, f2]
      simp only [Bool.not_true, cond_false, Option.bind_some]
      cases decide (c ∈ h.2.2.2.1) with
      | false => exact ⟨_, rfl, rfl⟩
      | true =>
        obtain ⟨r, hr'⟩ := depth_ex hs c hw h.2.2.2.1.length h.2.2.2.1 (Nat.le_refl _) hl hi hr
        obtain ⟨i1, i2⟩ := hr' N 0 (by unfold Small at hl; have := N_ge; omega) (by unfold Small at hl; omega)
        exact ⟨_, i1, i2⟩

theorem law_PeelDepth (h : D_Heap) (c : D_A3) (hl : h.2.2.2.1.length ≤ 9223372036854775807) : P_laws_FnExactPeelDepth (h, c, ()) = some (true, ()) := by
  obtain ⟨z, hz, _, hor⟩ := f_szHeap h 1048576 (by omega) (by omega) hl
  rw [p_laws_FnExactPeelDepth, hz]
  simp only [Option.bind_some]
  by_cases hn : z < 0
  · simp [hn]
  · have hs := hor.resolve_left hn
    obtain ⟨r, e1, e2⟩ := peelDepth_eq h c hs
    simp [hn, f_toHeap h hs, f_toIntA3 c, e1, e2, f_eqHeap h hs]
end Go.VI
