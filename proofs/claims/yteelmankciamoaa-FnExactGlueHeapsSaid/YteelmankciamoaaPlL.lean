/- Plain: cutting a heap. -/
import Derived.Test.YteelmankciamoaaPlF
import Derived.Test.YteelmankciamoaaPlI
namespace Go.VI
open Go.Proofs

/-! ### Marks from any number on -/
theorem f_markK (h : D_Heap) (k : Int) (hl : Small h.2.2.2.1) (h0 : 0 ≤ k) (h1 : k ≤ 10000000) : P_laws_markHeap (h, k, ()) = some ((k + 3 * (h.2.2.2.1.length : Int), ()), ((0, 0, 0, marked h.2.2.2.1 k, ()), ())) := by
  have := l_mark2 h.2.2.2.1 k hl h0 h1 h.2.2.2.1.length 0 N h.2.2.2.1 (by simp) (by unfold Small at hl; have := N_ge; omega) rfl (by simp)
  rw [p_laws_markHeap, p_laws_markIntA3S]
  simp only [Int.natCast_zero, Int.mul_zero, Int.add_zero] at this
  rw [this]
  rfl

theorem f_heldK (h : D_Heap) (l : List D_A3) (k : Int) (hl : Small l) (h0 : 0 ≤ k) (h1 : k ≤ 10000000) (hh : h.2.2.2.1 = marked l k) : P_laws_heldHeap (h, k, ()) = some (k + 3 * (l.length : Int), ()) := by
  have := l_held2 l k hl h0 h1 l.length 0 N (by simp) (by unfold Small at hl; have := N_ge; omega)
  rw [p_laws_heldHeap, hh, p_laws_heldIntA3S]
  simp only [Int.natCast_zero, Int.mul_zero, Int.add_zero] at this
  rw [this]
  simp only [Option.bind_some]
  rw [decide_eq_false (by omega)]
  rfl

/-! ### The two parts -/
def lowOf (l : List D_A3) (d k : Int) : List D_A3 := l.filter fun c => decide (get3 c d < k)
def highOf (l : List D_A3) (d k : Int) : List D_A3 := (l.filter fun c => !decide (get3 c d < k)).map (sh d (-k))

theorem sh_text {d : Int} (d0 : 0 ≤ d) (d1 : d ≤ 2) (c : D_A3) (hc : Near c) (k : Int) (k0 : 0 ≤ k) (k1 : k ≤ 4) : ((bif decide (d = (0 : Int)) then (IntKind.wrap .i64 ((bif decide (d = (0 : Int)) then c.1 else (bif decide (d = (1 : Int)) then c.2.1 else c.2.2.1)) - k)) else c.1), ((bif decide (d = (1 : Int)) then (IntKind.wrap .i64 ((bif decide (d = (0 : Int)) then c.1 else (bif decide (d = (1 : Int)) then c.2.1 else c.2.2.1)) - k)) else c.2.1), ((bif decide (d = (2 : Int)) then (IntKind.wrap .i64 ((bif decide (d = (0 : Int)) then c.1 else (bif decide (d = (1 : Int)) then c.2.1 else c.2.2.1)) - k)) else c.2.2.1), ()))) = sh d (-k) c := by
  unfold Near at hc
  rw [w64]
  · rcases dir d0 d1 with rfl | rfl | rfl <;> rfl
  all_goals rcases dir d0 d1 with rfl | rfl | rfl <;> simp <;> omega

theorem l_specCut {X Y Z : Int} {l : List D_A3} {d k : Int} (hs : sides X Y Z = true) (hl : Small l) (hi : Ins X Y Z l) (d0 : 0 ≤ d) (d1 : d ≤ 2) (k0 : 1 ≤ k) (k1 : k ≤ 4) (A1 A2 A3 B1 B2 B3 : Int) : ∀ (n i m : Nat) (a b : List D_A3), l.length = i + n → n < m → a.length ≤ i → b.length ≤ i →
    l_spec_CutHeap_5 m X Y Z l 0 0 0 [] 0 0 0 [] A1 A2 A3 a B1 B2 B3 b d k (i : Int) = some ((A1, A2, A3, a ++ lowOf (l.drop i) d k, ()), (B1, B2, B3, b ++ highOf (l.drop i) d k, ()), true, ())
  | n, i, 0, a, b, hk, hm, ha, hb => by omega
  | n, i, m + 1, a, b, hk, hm, ha, hb => by
    have hl' := hl
    unfold Small at hl'
    rw [q_spec_CutHeap_5]
    by_cases hlt : i < l.length
    · have ih := l_specCut hs hl hi d0 d1 k0 k1 A1 A2 A3 B1 B2 B3 (n - 1) (i + 1) m
      have hnear := near_of hs (hi _ (List.getElem_mem hlt))
      rw [ltT hlt, inB_at hlt, nthA (t := T_A3) hlt, inB_dir d0 d1, succI i (by omega), sh_text d0 d1 _ hnear k (by omega) k1, drop_at l i hlt]
      simp only [cond_true, List.length_cons, List.length_nil, lowOf, highOf, List.filter_cons]
      rw [decide_eq_true (p := (a.length + (0 + 1)) * 24 ≤ 140737488355328) (by omega), decide_eq_true (p := a.length + (0 + 1) ≤ 140737488355328) (by omega), decide_eq_true (p := (b.length + (0 + 1)) * 24 ≤ 140737488355328) (by omega), decide_eq_true (p := b.length + (0 + 1) ≤ 140737488355328) (by omega)]
      have hg : decide ((bif decide (d = (0 : Int)) then (l[i]).1 else (bif decide (d = (1 : Int)) then (l[i]).2.1 else (l[i]).2.2.1)) < k) = decide (get3 l[i] d < k) := rfl
      rw [hg]
      cases hd : decide (get3 l[i] d < k) with
      | true =>
        simp only [cond_true, Bool.and_self, Bool.not_true, Bool.false_eq_true, if_true, if_false]
        rw [ih _ _ (by omega) (by omega) (by simp; omega) (by omega)]
        simp [lowOf, highOf]
      | false =>
        simp only [cond_true, cond_false, Bool.and_self, Bool.not_false, Bool.false_eq_true, if_true, if_false]
        rw [ih _ _ (by omega) (by omega) (by omega) (by simp; omega)]
        simp [lowOf, highOf]
    · rw [ltF hlt, List.drop_eq_nil_of_le (by omega)]
      simp [lowOf, highOf]

theorem mask_append (Y Z : Int) (l r : List D_A3) (v : BitVec 64) : mask Y Z (l ++ r) v = mask Y Z r (mask Y Z l v) := by
  unfold mask
  rw [List.foldl_append]

theorem l_implCut {X Y Z : Int} {l : List D_A3} {d k : Int} (hs : sides X Y Z = true) (hl : Small l) (hi : Ins X Y Z l) (d0 : 0 ≤ d) (d1 : d ≤ 2) (k0 : 1 ≤ k) (k1 : k ≤ 4) {A1 A2 A3 B1 B2 B3 : Int} (hA : sides A1 A2 A3 = true) (hB : sides B1 B2 B3 = true)
    (iA : ∀ c, within3 X Y Z c = true → decide (get3 c d < k) = true → within3 A1 A2 A3 c = true) (iB : ∀ c, within3 X Y Z c = true → decide (get3 c d < k) = false → within3 B1 B2 B3 (sh d (-k) c) = true) : ∀ (n i m : Nat) (v w : BitVec 64), l.length = i + n → n < m →
    l_impl_CutHeap_7 m 0 0 0 [] 0 0 0 [] A1 A2 A3 B1 B2 B3 d k (v.toNat : Int) (w.toNat : Int) l (l.length : Int) (i : Int) = some ((A1, A2, A3, bitCells A1 A2 A3 (mask A2 A3 (lowOf (l.drop i) d k) v), ()), (B1, B2, B3, bitCells B1 B2 B3 (mask B2 B3 (highOf (l.drop i) d k) w), ()), true, ())
  | n, i, 0, v, w, hk, hm => by omega
  | n, i, m + 1, v, w, hk, hm => by
    have hl' := hl
    unfold Small at hl'
    rw [q_impl_CutHeap_7]
    by_cases hlt : i < l.length
    · have ih := l_implCut hs hl hi d0 d1 k0 k1 hA hB iA iB (n - 1) (i + 1) m
      have hin := hi _ (List.getElem_mem hlt)
      have hnear := near_of hs hin
      rw [ltT hlt, inB_at hlt, nthA (t := T_A3) hlt, inB_dir d0 d1, succI i (by omega), sh_text d0 d1 _ hnear k (by omega) k1, drop_at l i hlt]
      simp only [cond_true, lowOf, highOf, List.filter_cons]
      have hg : decide ((bif decide (d = (0 : Int)) then (l[i]).1 else (bif decide (d = (1 : Int)) then (l[i]).2.1 else (l[i]).2.2.1)) < k) = decide (get3 l[i] d < k) := rfl
      rw [hg]
      cases hd : decide (get3 l[i] d < k) with
      | true =>
        simp only [cond_true, Bool.not_true, Bool.false_eq_true, if_true, if_false]
        rw [f_box_index hA (iA _ hin hd)]
        simp only [Option.bind_some]
        rw [decide_eq_true (Int.natCast_nonneg _), shl64, or64]
        exact ih _ _ (by omega) (by omega)
      | false =>
        simp only [cond_false, Bool.not_false, Bool.false_eq_true, if_true, if_false]
        rw [f_box_index hB (iB _ hin hd)]
        simp only [Option.bind_some]
        rw [decide_eq_true (Int.natCast_nonneg _), shl64, or64]
        exact ih _ _ (by omega) (by omega)
    · rw [ltF hlt, List.drop_eq_nil_of_le (by omega)]
      simp only [cond_false]
      rw [f_box_heap hA]
      simp only [Option.bind_some]
      rw [f_box_heap hB]
      rfl

def boxWith (X Y Z d s : Int) (l : List D_A3) : D_Heap := ((bif decide (d = 0) then s else X), (bif decide (d = 1) then s else Y), (bif decide (d = 2) then s else Z), l, ())

def cutV (h : D_Heap) (d k : Int) : D_Heap × D_Heap × Bool × Unit :=
  if okHeap h && isCut h.1 h.2.1 h.2.2.1 d k then (boxWith h.1 h.2.1 h.2.2.1 d k (lowOf h.2.2.2.1 d k), boxWith h.1 h.2.1 h.2.2.1 d (side3 h.1 h.2.1 h.2.2.1 d - k) (highOf h.2.2.2.1 d k), true, ()) else (noHeap, noHeap, false, ())

theorem f_l11Box {X Y Z : Int} (l : List D_A3) {d : Int} (d0 : 0 ≤ d) (d1 : d ≤ 2) (s : Int) : P_spec_l11Box ((X, Y, Z, l, ()), d, s, ()) = some (boxWith X Y Z d s [], ()) := by
  rw [p_spec_l11Box, inB_dir d0 d1, p_spec_l2Empty]; rfl

theorem f_spec_CutHeap (h : D_Heap) (hl : Small h.2.2.2.1) (d k : Int) : P_spec_CutHeap (h, d, k, ()) = some (cutV h d k) := by
  rw [p_spec_CutHeap, f_l11Cut _ hl]
  unfold cutV
  cases ho : okHeap h && isCut h.1 h.2.1 h.2.2.1 d k with
  | false => rfl
  | true =>
    rw [Bool.and_eq_true] at ho
    obtain ⟨hs, hi, hr⟩ := okHeap_iff.1 ho.1
    obtain ⟨d0, d1, k0, k1⟩ := isCut_iff.1 ho.2
    have h4 := side3_ok hs d
    have e1 : ∀ s, P_spec_l11Box (h, d, s, ()) = some (boxWith h.1 h.2.1 h.2.2.1 d s [], ()) := f_l11Box h.2.2.2.1 d0 d1
    have e2 : P_spec_l2Long (h, d, ()) = some (side3 h.1 h.2.1 h.2.2.1 d, ()) := f_l2Long h.2.2.2.1 d0 d1
    simp only [Option.bind_some, Bool.not_true, cond_false, if_true, e1, e2]
    rw [w64 (by omega) (by omega)]
    have := l_specCut (d := d) (k := k) hs hl hi d0 d1 k0 (by omega) (boxWith h.1 h.2.1 h.2.2.1 d k []).1 (boxWith h.1 h.2.1 h.2.2.1 d k []).2.1 (boxWith h.1 h.2.1 h.2.2.1 d k []).2.2.1 (boxWith h.1 h.2.1 h.2.2.1 d (side3 h.1 h.2.1 h.2.2.1 d - k) []).1 (boxWith h.1 h.2.1 h.2.2.1 d (side3 h.1 h.2.1 h.2.2.1 d - k) []).2.1 (boxWith h.1 h.2.1 h.2.2.1 d (side3 h.1 h.2.1 h.2.2.1 d - k) []).2.2.1 h.2.2.2.1.length 0 N [] [] (by simp) (by unfold Small at hl; have := N_ge; omega) (by simp) (by simp)
    exact this

theorem f_impl_CutHeap (h : D_Heap) (hl : Small h.2.2.2.1) (d k : Int) : P_impl_CutHeap (h, d, k, ()) = some (cutV h d k) := by
  rw [p_impl_CutHeap, f_impl_IsHeap _ hl]
  unfold cutV
  cases ho : okHeap h with
  | false => rfl
  | true =>
    obtain ⟨hs, hi, hr⟩ := okHeap_iff.1 ho
    have e1 : P_Heap_isCut (h, d, k, ()) = some (isCut h.1 h.2.1 h.2.2.1 d k, ()) := f_isCut h.2.2.2.1 hs d k
    simp only [Option.bind_some, Bool.not_true, cond_false, e1, Bool.true_and]
    cases hc : isCut h.1 h.2.1 h.2.2.1 d k with
    | false => rfl
    | true =>
      obtain ⟨d0, d1, k0, k1⟩ := isCut_iff.1 hc
      have h4 := side3_ok hs d
      obtain ⟨s1, s2, s3⟩ := sides_iff.1 hs
      have hA : sides (boxWith h.1 h.2.1 h.2.2.1 d k []).1 (boxWith h.1 h.2.1 h.2.2.1 d k []).2.1 (boxWith h.1 h.2.1 h.2.2.1 d k []).2.2.1 = true := by
        rw [sides_iff]
        rcases dir d0 d1 with rfl | rfl | rfl <;> simp [boxWith] <;> omega
      have hB : sides (boxWith h.1 h.2.1 h.2.2.1 d (side3 h.1 h.2.1 h.2.2.1 d - k) []).1 (boxWith h.1 h.2.1 h.2.2.1 d (side3 h.1 h.2.1 h.2.2.1 d - k) []).2.1 (boxWith h.1 h.2.1 h.2.2.1 d (side3 h.1 h.2.1 h.2.2.1 d - k) []).2.2.1 = true := by
        rw [sides_iff]
        rcases dir d0 d1 with rfl | rfl | rfl <;> simp [boxWith] <;> omega
      have iA : ∀ c, within3 h.1 h.2.1 h.2.2.1 c = true → decide (get3 c d < k) = true → within3 (boxWith h.1 h.2.1 h.2.2.1 d k []).1 (boxWith h.1 h.2.1 h.2.2.1 d k []).2.1 (boxWith h.1 h.2.1 h.2.2.1 d k []).2.2.1 c = true := by
        intro c hc hg
        have hg := of_decide_eq_true hg
        have := within3_iff.1 hc
        rw [within3_iff]
        rcases dir d0 d1 with rfl | rfl | rfl <;> simp [boxWith, get3] at hg ⊢ <;> omega
      have iB : ∀ c, within3 h.1 h.2.1 h.2.2.1 c = true → decide (get3 c d < k) = false → within3 (boxWith h.1 h.2.1 h.2.2.1 d (side3 h.1 h.2.1 h.2.2.1 d - k) []).1 (boxWith h.1 h.2.1 h.2.2.1 d (side3 h.1 h.2.1 h.2.2.1 d - k) []).2.1 (boxWith h.1 h.2.1 h.2.2.1 d (side3 h.1 h.2.1 h.2.2.1 d - k) []).2.2.1 (sh d (-k) c) = true := by
        intro c hc hg
        have hg := of_decide_eq_false hg
        have := within3_iff.1 hc
        rw [within3_iff]
        rcases dir d0 d1 with rfl | rfl | rfl <;> simp [boxWith, get3, sh, side3] at hg ⊢ <;> omega
      have hsort : Srt (highOf h.2.2.2.1 d k) := srt_sh (hr.filter _) _ _
      have hinA : Ins _ _ _ (lowOf h.2.2.2.1 d k) := fun c hc => iA c (hi c (List.mem_filter.1 hc).1) (List.mem_filter.1 hc).2
      have hinB : Ins _ _ _ (highOf h.2.2.2.1 d k) := fun c hc => by
        obtain ⟨a, ha, rfl⟩ := List.mem_map.1 hc
        exact iB a (hi a (List.mem_filter.1 ha).1) (by simpa using (List.mem_filter.1 ha).2)
      have := l_implCut (d := d) (k := k) hs hl hi d0 d1 k0 (by omega) hA hB iA iB h.2.2.2.1.length 0 N 0 0 (by simp) (by unfold Small at hl; have := N_ge; omega)
      simp only [List.drop_zero] at this
      rw [listOf_mask hA hinA (hr.filter _), listOf_mask hB hinB hsort] at this
      simp only [Bool.not_true, cond_false, if_true]
      rw [f_Heap_box, inB_dir d0 d1]
      simp only [Option.bind_some, cond_true]
      have e : (bif decide (d = (0 : Int)) then h.1 else (bif decide (d = (1 : Int)) then h.2.1 else h.2.2.1)) = side3 h.1 h.2.1 h.2.2.1 d := rfl
      rw [e, w64 (by omega) (by omega)]
      exact this

theorem cutV_small (h : D_Heap) (hl : Small h.2.2.2.1) (d k : Int) : Small (cutV h d k).1.2.2.2.1 ∧ Small (cutV h d k).2.1.2.2.2.1 := by
  unfold cutV
  split
  · refine ⟨Nat.le_trans (List.length_filter_le _ _) hl, ?_⟩
    show (highOf h.2.2.2.1 d k).length ≤ 1048576
    unfold highOf
    rw [List.length_map]
    exact Nat.le_trans (List.length_filter_le _ _) hl
  · exact ⟨by unfold Small noHeap; simp, by unfold Small noHeap; simp⟩

theorem law_CutHeap (h : D_Heap) (d k : Int) (hl : h.2.2.2.1.length ≤ 9223372036854775807) : P_laws_FnExactCutHeap (h, d, k, ()) = some (true, ()) := by
  obtain ⟨z, hz, _, hor⟩ := f_szHeap h 1048576 (by omega) (by omega) hl
  rw [p_laws_FnExactCutHeap, hz]
  simp only [Option.bind_some]
  by_cases hn : z < 0
  · simp [hn]
  · have hs := hor.resolve_left hn
    obtain ⟨hb1, hb2⟩ := cutV_small h hs d k
    have hb1' := hb1
    have hb2' := hb2
    unfold Small at hb1' hb2'
    have h1 : ¬ (1 + 3 * (h.2.2.2.1.length : Int)) < 0 := by omega
    have h2 : ¬ (1 + 3 * ((cutV h d k).1.2.2.2.1.length : Int)) < 0 := by omega
    have h3 : ¬ (1 + 3 * ((cutV h d k).1.2.2.2.1.length : Int) + 3 * ((cutV h d k).2.1.2.2.2.1.length : Int)) < 0 := by omega
    simp only [hn, f_toHeap h hs, f_spec_CutHeap h hs, f_impl_CutHeap h hs, f_eqHeap _ hb1, f_eqHeap _ hb2, f_eqHeap h hs, f_markHeap h hs, f_markHeap _ hb1, Option.bind_some, decide_false, cond_false, Bool.not_true, beq_self_eq_true, h1]
    rw [f_markK _ _ hb2 (by omega) (by omega)]
    simp only [Option.bind_some]
    rw [f_heldHeap _ (cutV h d k).1.2.2.2.1 hb1 rfl]
    simp only [h2, Option.bind_some, decide_false, cond_false]
    rw [f_heldK _ (cutV h d k).2.1.2.2.2.1 (1 + 3 * ((cutV h d k).1.2.2.2.1.length : Int)) hb2 (by omega) (by omega) rfl]
    simp only [h3, Option.bind_some, decide_false, decide_true, cond_false, Bool.not_true]
end Go.VI
