/- The staircases' closure 'fill': put together. -/
import Derived.Test.YtcamgjgfjpcelaaGreatVgFill4
namespace Go.VI
open Go.Proofs Go.RowKit
set_option maxRecDepth 100000
theorem fill_calls {tb B O K base : Nat} {X : Int} {y : Nat} {Z : Int} (htb : tb ≠ 3 ∧ tb ≠ 30) (hBO : B ≠ O) (hKO : K ≠ O) (hX : 1 ≤ X ∧ X ≤ 4) (hY : 1 ≤ y ∧ y ≤ 4) (hZ : 1 ≤ Z ∧ Z ≤ 4) : ∀ d, FillC tb B O K base X y Z d
  | 0 => by
    intro L lv ov rows Zi w h hd hL hN hr
    have hb16 : X * (y : Int) ≤ 16 ∧ 1 ≤ X * (y : Int) := by
      obtain ⟨yi, hyi⟩ : ∃ yi : Int, yi = (y : Int) := ⟨_, rfl⟩
      rw [← hyi]
      rcases fourV hX.1 hX.2 with rfl | rfl | rfl | rfl <;> omega
    exact fill_leaf h htb hBO hKO hX (by omega) (by omega) (by omega) (by simpa [rowsN] using hr)
  | d + 1 => by
    have ih : FillC tb B O K base X y Z d := fill_calls htb hBO hKO hX hY hZ d
    intro L lv ov rows Zi w h hd hL hN hr
    by_cases h0 : L = []
    · obtain rfl := hN h0
      subst h0
      exact fill_node_nil ih htb hX hY hZ h (by simpa using hd) hr
    · have h1 : 1 ≤ L.length := by
        rcases Nat.eq_zero_or_pos L.length with h | h
        · exact absurd (List.length_eq_zero_iff.1 h) h0
        · exact h
      rcases h.lst.2 with ⟨_, h0'⟩ | ⟨g, cap, cur, rfl, hb, hg, hnc, hcm, hcs, htake⟩
      · omega
      · have hcell : ∀ j, j < L.length → w.cell? ⟨g, j, none⟩ = some (.int .i64 (L.getD j 0)) ∧ 0 ≤ L.getD j 0 ∧ L.getD j 0 ≤ 4 := fun j hj => by
          have := h.lst.cells (g := g) rfl j (.int .i64 (L.getD j 0)) (by simp [ints, List.getD, List.getElem?_eq_getElem hj])
          rw [Addr.add_lit, Nat.zero_add] at this
          refine ⟨this, ?_⟩
          have e : L.getD j 0 = L[j] := by simp [List.getD, List.getElem?_eq_getElem hj]
          rw [e]
          exact hL _ (List.getElem_mem hj)
        rw [flatN_rows] at hr ⊢
        have hq := hcell (L.length - 1) (by omega)
        obtain ⟨q, hq0⟩ : ∃ q, q = L.getD (L.length - 1) 0 := ⟨_, rfl⟩
        rw [← hq0] at hq
        have hmi : ((L.length % y : Nat) : Int) = (L.length : Int) % (y : Int) := by omega
        by_cases ha : y ≤ L.length
        · have hp := hcell (L.length - y) (by omega)
          obtain ⟨p, hp0⟩ : ∃ p, p = L.getD (L.length - y) 0 := ⟨_, rfl⟩
          rw [← hp0] at hp
          by_cases hb : 0 < L.length % y
          · have hm : mostL y Z L = min (min Z p) q := by simp only [mostL, ha, hb, if_true, ← hp0, ← hq0]
            rw [hm] at hr ⊢
            rcases Int.lt_or_le p Z with c0 | c0
            · rcases Int.lt_or_le q p with c1 | c1
              · exact fill_node_A1 ih htb hX hY hZ h hd hL h1 (by omega) hq.2 hq.1 ha hp.2 hp.1 c0 c1 _ (by omega) hr
              · exact fill_node_A2 ih htb hX hY hZ h hd hL h1 (by omega) hq.2 hq.1 ha hp.2 hp.1 c0 c1 _ (by omega) hr
            · rcases Int.lt_or_le q Z with c1 | c1
              · exact fill_node_A3 ih htb hX hY hZ h hd hL h1 (by omega) hq.2 hq.1 ha hp.2 hp.1 c0 c1 _ (by omega) hr
              · exact fill_node_A4 ih htb hX hY hZ h hd hL h1 (by omega) hq.2 hq.1 ha hp.2 hp.1 c0 c1 _ (by omega) hr
          · have hm : mostL y Z L = min Z p := by simp only [mostL, ha, hb, if_true, if_false, ← hp0]
            rw [hm] at hr ⊢
            rcases Int.lt_or_le p Z with c0 | c0
            · exact fill_node_B1 ih htb hX hY hZ h hd hL h1 (by omega) ha hp.2 hp.1 c0 _ (by omega) hr
            · exact fill_node_B2 ih htb hX hY hZ h hd hL h1 (by omega) ha hp.2 hp.1 c0 _ (by omega) hr
        · have hb : 0 < L.length % y := by rw [Nat.mod_eq_of_lt (by omega)]; omega
          have hm : mostL y Z L = min Z q := by simp only [mostL, ha, hb, if_true, if_false, ← hq0]
          rw [hm] at hr ⊢
          rcases Int.lt_or_le q Z with c1 | c1
          · exact fill_node_C1 ih htb hX hY hZ h hd hL h1 (by omega) hq.2 hq.1 ha c1 _ (by omega) hr
          · exact fill_node_C2 ih htb hX hY hZ h hd hL h1 (by omega) hq.2 hq.1 ha c1 _ (by omega) hr
end Go.VI
