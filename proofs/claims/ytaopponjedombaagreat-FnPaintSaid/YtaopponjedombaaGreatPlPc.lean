/- Plain: the law of paint. -/
import Derived.Test.YtaopponjedombaaGreatPlPa
import Derived.Test.YtaopponjedombaaGreatPlPb
namespace Go.VI
open Go.Proofs

theorem l_rCells (l : List D_A3) (hl : Small l) : ∀ (d k m : Nat), l.length = k + d → d < m → l_laws_rCells_4 m l l (k : Int) = some (true, ())
  | d, k, 0, hk, hm => by omega
  | d, k, m + 1, hk, hm => by
    have hl' := hl
    unfold Small at hl'
    rw [q_laws_rCells_4]
    by_cases hlt : k < l.length
    · rw [ltT hlt, inB_at hlt, succI k (by omega), l_rCells l hl (d - 1) (k + 1) m (by omega) (by omega)]
      simp
    · rw [ltF hlt]; rfl

theorem f_rHeap (h : D_Heap) (hl : Small h.2.2.2.1) : P_laws_rHeap (h, h, ()) = some (true, ()) := by
  have := l_rCells h.2.2.2.1 hl h.2.2.2.1.length 0 N (by simp) (by unfold Small at hl; have := N_ge; omega)
  have e : P_laws_rCells (h.2.2.2.1, h.2.2.2.1, ()) = some (true, ()) := by
    rw [p_laws_rCells, decide_eq_true rfl]
    exact this
  rw [p_laws_rHeap, e]
  simp

/-! ### Counts -/
theorem paintCounts_full (h : D_Heap) (wet : Bool) (hl : Small h.2.2.2.1) : ∃ a : D_A7, P_spec_PaintCounts (h, wet, ()) = some (a, okHeap h, ()) ∧ P_impl_PaintCounts (h, wet, ()) = some (a, okHeap h, ()) ∧ (okHeap h = true → a = counts h.2.2.2.1 (hidden h.1 h.2.1 h.2.2.1 h.2.2.2.1 wet)) := by
  cases ho : okHeap h with
  | false =>
    rw [p_spec_PaintCounts, p_impl_PaintCounts, f_spec_l2Heap _ hl, f_impl_IsHeap _ hl, ho]
    exact ⟨_, rfl, rfl, fun hh => by cases hh⟩
  | true =>
    obtain ⟨hs, hi, hr⟩ := okHeap_iff.1 ho
    have f1 : P_impl_PaintCounts (h, wet, ()) = _ := f_PaintCountsW hs hl hi hr wet
    have f2 : P_spec_l11Counts (h, wet, ()) = _ := f_countsW hs hl hi wet
    rw [p_spec_PaintCounts, f_spec_l2Heap _ hl, ho, f2, f1]
    exact ⟨_, rfl, rfl, fun _ => rfl⟩

theorem unpainted_full (h : D_Heap) (wet : Bool) (hl : Small h.2.2.2.1) : ∃ n : Int, P_spec_UnpaintedFaces (h, wet, ()) = some (n, okHeap h, ()) ∧ P_impl_UnpaintedFaces (h, wet, ()) = some (n, okHeap h, ()) ∧ (okHeap h = true → n = 6 * (h.2.2.2.1.length : Int) - sumP h.2.2.2.1 (hidden h.1 h.2.1 h.2.2.1 h.2.2.2.1 wet) h.2.2.2.1) := by
  obtain ⟨r, r1, r2⟩ := unpainted_eq h wet hl
  have key : ∃ n : Int, P_impl_UnpaintedFaces (h, wet, ()) = some (n, okHeap h, ()) ∧ (okHeap h = true → n = 6 * (h.2.2.2.1.length : Int) - sumP h.2.2.2.1 (hidden h.1 h.2.1 h.2.2.1 h.2.2.2.1 wet) h.2.2.2.1) := by
    rw [p_impl_UnpaintedFaces, f_impl_IsHeap _ hl]
    cases ho : okHeap h with
    | false => exact ⟨_, rfl, fun hh => by cases hh⟩
    | true =>
      obtain ⟨hs, hi, hr⟩ := okHeap_iff.1 ho
      have hl' := hl
      unfold Small at hl'
      have f4 : P_Heap_painted (h, wet, ()) = _ := f_paintedW hs hl hi wet
      simp only [Option.bind_some, Bool.not_true, cond_false]
      rw [f4]
      simp only [Option.bind_some]
      rw [w64 (x := 6 * (h.2.2.2.1.length : Int)) (by omega) (by omega)]
      have g2 := l_unImpl (h.2.2.2.1.map fun c => (painted h.2.2.2.1 (hidden h.1 h.2.1 h.2.2.1 h.2.2.2.1 wet) c : Int)) (by
        intro n hn
        obtain ⟨c, _, rfl⟩ := List.mem_map.1 hn
        have := painted_le h.2.2.2.1 (hidden h.1 h.2.1 h.2.2.1 h.2.2.2.1 wet) c
        omega) (by unfold Small; simpa using hl') h.2.2.2.1.length 0 N (6 * (h.2.2.2.1.length : Int)) (by simp) (by have := N_ge; omega) (by omega) (by omega)
      have g2' : l_impl_UnpaintedFaces_5 N (6 * (h.2.2.2.1.length : Int)) (h.2.2.2.1.map fun c => (painted h.2.2.2.1 (hidden h.1 h.2.1 h.2.2.1 h.2.2.2.1 wet) c : Int)) (((h.2.2.2.1.map fun c => (painted h.2.2.2.1 (hidden h.1 h.2.1 h.2.2.1 h.2.2.2.1 wet) c : Int)).length : Nat) : Int) 0 = _ := g2
      rw [g2', List.drop_zero, sumI_map]
      exact ⟨_, rfl, fun _ => rfl⟩
  obtain ⟨n, k1, k2⟩ := key
  have e : r = (n, okHeap h, ()) := by rw [r2] at k1; exact Option.some.inj k1
  exact ⟨n, by rw [r1, e], k1, k2⟩

/-! ### Peeling, counted -/
theorem dc_ex {X Y Z : Int} (hs : sides X Y Z = true) (c : D_A3) (hc : within3 X Y Z c = true) : ∀ (n : Nat) (l : List D_A3), l.length ≤ n → Small l → Ins X Y Z l → Srt l → ∃ r t : Nat, t ≤ r ∧ (c ∈ l → 1 ≤ t) ∧ ∀ (m cnt : Nat), n < m → cnt + n < 1000000000 →
    l_impl_PeelDepth_4 m X Y Z l c.1 c.2.1 c.2.2.1 (cnt : Int) = some (((cnt + t : Nat) : Int), true, ()) ∧ l_impl_PeelCount_4 m X Y Z l (cnt : Int) = some (((cnt + r : Nat) : Int), true, ())
  | n, l, hn, hl, hi, hr => by
    have f2 : P_Heap_hasCube ((X, (Y, (Z, (l, ())))), (c.1, (c.2.1, (c.2.2.1, ()))), ()) = some (decide (c ∈ l), ()) := f_hasCube hs hl hi hc
    by_cases h0 : 0 < l.length
    · match n, hn with
      | 0, hn => omega
      | n + 1, hn =>
        obtain ⟨r, t, ht, h1, ih⟩ := dc_ex hs c hc n (peel l) (by have := peel_lt hr h0; omega) (peel_small hl) (hi.filter _) (hr.filter _)
        by_cases hm : c ∈ l
        · refine ⟨r + 1, t + 1, by omega, fun _ => by omega, fun m cnt hm' hc' => ?_⟩
          obtain ⟨m, rfl⟩ : ∃ k, m = k + 1 := ⟨m - 1, by omega⟩
          obtain ⟨i1, i2⟩ := ih m (cnt + 1) (by omega) (by omega)
          rw [q_impl_PeelDepth_4, q_impl_PeelCount_4, f2]
          simp only [Option.bind_some]
          rw [decide_eq_true hm, decide_eq_true (p := (l.length : Int) > 0) (by omega), f_peeled hs hl hi hr, succI cnt (by omega)]
          simp only [cond_true, Option.bind_some]
          rw [i1, i2, show cnt + 1 + r = cnt + (r + 1) by omega, show cnt + 1 + t = cnt + (t + 1) by omega]
          exact ⟨rfl, rfl⟩
        · refine ⟨r + 1, 0, by omega, fun h => absurd h hm, fun m cnt hm' hc' => ?_⟩
          obtain ⟨m, rfl⟩ : ∃ k, m = k + 1 := ⟨m - 1, by omega⟩
          obtain ⟨i1, i2⟩ := ih m (cnt + 1) (by omega) (by omega)
          rw [q_impl_PeelDepth_4, q_impl_PeelCount_4, f2]
          simp only [Option.bind_some]
          rw [decide_eq_false hm, decide_eq_true (p := (l.length : Int) > 0) (by omega), f_peeled hs hl hi hr, succI cnt (by omega)]
          simp only [cond_true, cond_false, Option.bind_some]
          rw [i2, show cnt + 1 + r = cnt + (r + 1) by omega]
          exact ⟨rfl, rfl⟩
    · have he : l = [] := List.eq_nil_of_length_eq_zero (by omega)
      subst he
      refine ⟨0, 0, Nat.le_refl _, (fun h => by cases h), fun m cnt hm hc => ?_⟩
      obtain ⟨m, rfl⟩ : ∃ k, m = k + 1 := ⟨m - 1, by omega⟩
      rw [q_impl_PeelDepth_4, q_impl_PeelCount_4, f2]
      exact ⟨rfl, rfl⟩
termination_by n => n

theorem depth_full (h : D_Heap) (c : D_A3) (hl : Small h.2.2.2.1) : ∃ (t : Int) (b : Bool), P_spec_PeelDepth (h, c, ()) = some (t, b, ()) ∧ P_impl_PeelDepth (h, c, ()) = some (t, b, ()) ∧ (b = true → ∃ r : Int, P_impl_PeelCount (h, ()) = some (r, true, ()) ∧ 1 ≤ t ∧ t ≤ r) := by
  obtain ⟨r, r1, r2⟩ := peelDepth_eq h c hl
  have key : ∃ (t : Int) (b : Bool), P_impl_PeelDepth (h, c, ()) = some (t, b, ()) ∧ (b = true → ∃ r : Int, P_impl_PeelCount (h, ()) = some (r, true, ()) ∧ 1 ≤ t ∧ t ≤ r) := by
    rw [p_impl_PeelDepth, p_impl_PeelCount, p_impl_isCell, f_impl_IsHeap _ hl]
    cases ho : okHeap h with
    | false => exact ⟨_, _, rfl, fun hh => by cases hh⟩
    | true =>
      obtain ⟨hs, hi, hr⟩ := okHeap_iff.1 ho
      simp only [Option.bind_some, cond_true]
      rw [f_Heap_box]
      simp only [Option.bind_some]
      rw [f_box_has _ _ hs]
      simp only [Option.bind_some]
      cases hw : within3 h.1 h.2.1 h.2.2.1 c with
      | false => exact ⟨_, _, rfl, fun hh => by cases hh⟩
      | true =>
        have f2 : P_Heap_hasCube (h, c, ()) = some (decide (c ∈ h.2.2.2.1), ()) := f_hasCube hs hl hi hw
        rw [f2]
        simp only [Bool.not_true, cond_false, Option.bind_some]
        by_cases hm : c ∈ h.2.2.2.1
        · obtain ⟨r, t, ht, h1, hr'⟩ := dc_ex hs c hw h.2.2.2.1.length h.2.2.2.1 (Nat.le_refl _) hl hi hr
          obtain ⟨i1, i2⟩ := hr' N 0 (by unfold Small at hl; have := N_ge; omega) (by unfold Small at hl; omega)
          have i1' : l_impl_PeelDepth_4 N h.1 h.2.1 h.2.2.1 h.2.2.2.1 c.1 c.2.1 c.2.2.1 0 = _ := i1
          have i2' : l_impl_PeelCount_4 N h.1 h.2.1 h.2.2.1 h.2.2.2.1 0 = _ := i2
          have ht1 := h1 hm
          rw [decide_eq_true hm]
          simp only [Bool.not_true, cond_false]
          rw [i1', i2']
          exact ⟨_, _, rfl, fun _ => ⟨_, rfl, by omega, by omega⟩⟩
        · rw [decide_eq_false hm]
          exact ⟨_, _, rfl, fun hh => by cases hh⟩
  obtain ⟨t, b, k1, k2⟩ := key
  have e : r = (t, b, ()) := by rw [r2] at k1; exact Option.some.inj k1
  exact ⟨t, b, by rw [r1, e], k1, k2⟩

theorem count_full (h : D_Heap) (hl : Small h.2.2.2.1) : ∃ n : Int, P_spec_PeelCount (h, ()) = some (n, okHeap h, ()) ∧ P_impl_PeelCount (h, ()) = some (n, okHeap h, ()) ∧ (okHeap h = true → (h.2.2.2.1.length = 0 ∧ n = 0) ∨ (0 < h.2.2.2.1.length ∧ 0 ≤ n ∧ n ≤ 10000000)) ∧
    (okHeap h = true → 0 < h.2.2.2.1.length → ∃ k : Int, P_impl_PeelCount ((h.1, h.2.1, h.2.2.1, peel h.2.2.2.1, ()), ()) = some (k, true, ()) ∧ n = k + 1 ∧ 0 ≤ k ∧ k ≤ 10000000) := by
  obtain ⟨r, r1, r2⟩ := peelCount_eq h hl
  have key : ∃ n : Int, P_impl_PeelCount (h, ()) = some (n, okHeap h, ()) ∧ (okHeap h = true → (h.2.2.2.1.length = 0 ∧ n = 0) ∨ (0 < h.2.2.2.1.length ∧ 0 ≤ n ∧ n ≤ 10000000)) ∧
      (okHeap h = true → 0 < h.2.2.2.1.length → ∃ k : Int, P_impl_PeelCount ((h.1, h.2.1, h.2.2.1, peel h.2.2.2.1, ()), ()) = some (k, true, ()) ∧ n = k + 1 ∧ 0 ≤ k ∧ k ≤ 10000000) := by
    cases ho : okHeap h with
    | false =>
      rw [p_impl_PeelCount, f_impl_IsHeap _ hl, ho]
      exact ⟨_, rfl, (fun hh => by cases hh), fun hh => by cases hh⟩
    | true =>
      obtain ⟨hs, hi, hr⟩ := okHeap_iff.1 ho
      have hl' := hl
      unfold Small at hl'
      rw [p_impl_PeelCount, f_impl_IsHeap _ hl, ho]
      simp only [Option.bind_some, Bool.not_true, cond_false]
      by_cases h0 : 0 < h.2.2.2.1.length
      · have hp : okHeap ((h.1, h.2.1, h.2.2.1, peel h.2.2.2.1, ()) : D_Heap) = true := okHeap_iff.2 ⟨hs, hi.filter _, hr.filter _⟩
        have hpl := peel_lt hr h0
        have h64 := srt_small64 hs hi hr
        obtain ⟨k, hk⟩ := count_ex hs (peel h.2.2.2.1).length (peel h.2.2.2.1) (Nat.le_refl _) (peel_small hl) (hi.filter _) (hr.filter _)
        obtain ⟨n, hn⟩ : ∃ n, N = n + 1 := ⟨N - 1, by have := N_ge; omega⟩
        have hN := N_ge
        obtain ⟨_, i1⟩ := hk n 1 (by omega) (by omega)
        obtain ⟨_, i2⟩ := hk N 0 (by omega) (by omega)
        have kb : ∀ n (l : List D_A3), l.length ≤ n → Small l → Ins h.1 h.2.1 h.2.2.1 l → Srt l → n ≤ 100 → ∀ k : Nat, l_impl_PeelCount_4 N h.1 h.2.1 h.2.2.1 l 0 = some (((k : Nat) : Int), true, ()) → k ≤ 1000 := by
          intro n
          have hb : ∀ n (l : List D_A3), l.length ≤ n → Small l → Ins h.1 h.2.1 h.2.2.1 l → Srt l → ∃ r : Nat, r ≤ n ∧ ∀ (m cnt : Nat), n < m → cnt + n < 1000000000 → l_impl_PeelCount_4 m h.1 h.2.1 h.2.2.1 l (cnt : Int) = some (((cnt + r : Nat) : Int), true, ()) := by
            intro n
            induction n with
            | zero =>
              intro l h1 h2 h3 h4
              refine ⟨0, Nat.le_refl _, fun m cnt hm hc => ?_⟩
              obtain ⟨m, rfl⟩ : ∃ k, m = k + 1 := ⟨m - 1, by omega⟩
              rw [q_impl_PeelCount_4, decide_eq_false (by omega)]
              rfl
            | succ n ih =>
              intro l h1 h2 h3 h4
              by_cases h0 : 0 < l.length
              · obtain ⟨r, hr1, hr2⟩ := ih (peel l) (by have := peel_lt h4 h0; omega) (peel_small h2) (h3.filter _) (h4.filter _)
                refine ⟨r + 1, by omega, fun m cnt hm hc => ?_⟩
                obtain ⟨m, rfl⟩ : ∃ k, m = k + 1 := ⟨m - 1, by omega⟩
                rw [q_impl_PeelCount_4, decide_eq_true (by omega), f_peeled hs h2 h3 h4, succI cnt (by omega)]
                simp only [cond_true, Option.bind_some]
                rw [hr2 m (cnt + 1) (by omega) (by omega), show cnt + 1 + r = cnt + (r + 1) by omega]
              · refine ⟨0, by omega, fun m cnt hm hc => ?_⟩
                obtain ⟨m, rfl⟩ : ∃ k, m = k + 1 := ⟨m - 1, by omega⟩
                rw [q_impl_PeelCount_4, decide_eq_false (by omega)]
                rfl
          intro l h1 h2 h3 h4 h5 k hk
          obtain ⟨r, hr1, hr2⟩ := hb n l h1 h2 h3 h4
          have := hr2 N 0 (by omega) (by omega)
          have this' : l_impl_PeelCount_4 N h.1 h.2.1 h.2.2.1 l 0 = some (((0 + r : Nat) : Int), true, ()) := this
          rw [this'] at hk
          have := congrArg (fun z : Int × Bool × Unit => z.1) (Option.some.inj hk)
          simp only at this
          omega
        have kk := kb (peel h.2.2.2.1).length (peel h.2.2.2.1) (Nat.le_refl _) (peel_small hl) (hi.filter _) (hr.filter _) (by omega) (0 + k) i2
        have e1 : l_impl_PeelCount_4 N h.1 h.2.1 h.2.2.1 h.2.2.2.1 0 = some (((1 + k : Nat) : Int), true, ()) := by
          rw [hn, q_impl_PeelCount_4, decide_eq_true (by omega)]
          have hpe : P_Heap_peeled ((h.1, (h.2.1, (h.2.2.1, (h.2.2.2.1, ())))), ()) = _ := f_peeled hs hl hi hr
          simp only [cond_true]
          rw [hpe]
          simp only [Option.bind_some]
          rw [show IntKind.wrap .i64 ((0 : Int) + 1) = ((1 : Nat) : Int) by rw [w64 (by omega) (by omega)]; rfl]
          exact i1
        rw [e1]
        refine ⟨_, rfl, fun _ => .inr ⟨h0, by omega, by omega⟩, fun _ _ => ⟨((0 + k : Nat) : Int), ?_, by omega, by omega, by omega⟩⟩
        rw [p_impl_PeelCount, f_impl_IsHeap _ (peel_small hl), hp]
        exact i2
      · have he : h.2.2.2.1.length = 0 := by omega
        obtain ⟨n, hn⟩ : ∃ n, N = n + 1 := ⟨N - 1, by have := N_ge; omega⟩
        have e1 : l_impl_PeelCount_4 N h.1 h.2.1 h.2.2.1 h.2.2.2.1 0 = some (0, true, ()) := by
          rw [hn, q_impl_PeelCount_4, decide_eq_false (by omega)]
          rfl
        rw [e1]
        exact ⟨_, rfl, fun _ => .inl ⟨he, rfl⟩, fun _ hh => absurd hh h0⟩
  obtain ⟨n, k1, k2, k3⟩ := key
  have e : r = (n, okHeap h, ()) := by rw [r2] at k1; exact Option.some.inj k1
  exact ⟨n, by rw [r1, e], k1, k2, k3⟩
end Go.VI
