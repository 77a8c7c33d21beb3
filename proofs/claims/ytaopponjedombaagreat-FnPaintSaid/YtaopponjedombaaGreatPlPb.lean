/- Plain: hollow heaps that are drawn. -/
import Derived.Test.YtaopponjedombaaGreatPlDa
import Derived.Test.YtaopponjedombaaGreatPlS
namespace Go.VI
open Go.Proofs

theorem among343 {x : Int} (h : x ∈ ([3, 4, 3] : List Int)) : 3 ≤ x ∧ x ≤ 4 := by
  simp only [List.mem_cons, List.not_mem_nil, or_false] at h
  omega

theorem l_hol12 {C : List Int} {X Y Z : Int} (hs : sides X Y Z = true) (m0 : Nat) (q0 q1 q2 : Int) (q3 : List D_A3) (d p14 : Int) (d0 : 0 ≤ d) (d1 : d ≤ 2) (s1 s2 : Int) : ∀ (e j m : Nat) (l : List D_A3) (c1 c2 c3 : Int), (j : Int) + e = side3 X Y Z d → e < m → l.length ≤ 64 →
    ∃ l' : List D_A3, l_l1Cur_hollow_12 m0 m q0 q1 q2 q3 X Y Z l c1 c2 c3 C s1 s2 p14 d (j : Int) = l_l1Cur_hollow_5 m0 q0 q1 q2 q3 X Y Z l' C s1 s2 (IntKind.wrap .i64 (p14 - 1)) ∧ l'.length ≤ 64
  | e, j, 0, l, c1, c2, c3, hj, hm, hl => by omega
  | e, j, m + 1, l, c1, c2, c3, hj, hm, hl => by
    have h4 := side3_ok hs d
    rw [q_l1Cur_hollow_12, p_spec_l2Long, inB_dir d0 d1]
    simp only [cond_true, Option.bind_some]
    have hsd : (bif decide (d = (0 : Int)) then X else (bif decide (d = (1 : Int)) then Y else Z)) = side3 X Y Z d := rfl
    rw [hsd]
    by_cases hlt : (j : Int) < side3 X Y Z d
    · rw [decide_eq_true hlt]
      have f1 : ∀ c : D_A3, P_spec_l2Without ((X, (Y, (Z, (l, ())))), c, ()) = _ := fun c => f_without (X := X) (Y := Y) (Z := Z) l c (by omega)
      simp only [cond_true]
      rw [f1]
      simp only [Option.bind_some]
      rw [succI j (by omega)]
      exact l_hol12 hs m0 q0 q1 q2 q3 d p14 d0 d1 s1 s2 (e - 1) (j + 1) m _ _ _ _ (by omega) (by omega) (Nat.le_trans (List.length_filter_le _ _) hl)
    · rw [decide_eq_false hlt]
      exact ⟨l, rfl, hl⟩

theorem l_hol5 {C : List Int} (hC : Bts C) {X Y Z : Int} (hs : sides X Y Z = true) (q0 q1 q2 : Int) (q3 : List D_A3) : ∀ (k m n : Nat) (s : Sd) (l : List D_A3), k < m → k ≤ 1000 → l.length ≤ 64 → At (n + 10 * k) s →
    ∃ (g : D_Heap) (s' : Sd), l_l1Cur_hollow_5 m q0 q1 q2 q3 X Y Z l C s.1 s.2.1 (k : Int) = some ((g, ()), ((C, s'), ())) ∧ At n s' ∧ g.2.2.2.1.length ≤ 64
  | k, 0, n, s, l, h, _, _, _ => by omega
  | 0, m + 1, n, s, l, hm, hk, hl, ha => by
    rw [q_l1Cur_hollow_5, decide_eq_false (by omega)]
    exact ⟨_, s, rfl, ha.le (by omega), hl⟩
  | k + 1, m + 1, n, s, l, hm, hk, hl, ha => by
    rw [q_l1Cur_hollow_5, decide_eq_true (by omega)]
    simp only [cond_true]
    obtain ⟨x, s1, e1, a1, _⟩ := f_pick hC (n := n + 10 * k + 8) (s := s) (ha.le (by omega)) (IntKind.wrap .i64 (X - 2))
    obtain ⟨y, s2, e2, a2, _⟩ := f_pick hC (n := n + 10 * k + 6) a1 (IntKind.wrap .i64 (Y - 2))
    obtain ⟨z, s3, e3, a3, _⟩ := f_pick hC (n := n + 10 * k + 4) a2 (IntKind.wrap .i64 (Z - 2))
    obtain ⟨b, s4, e4, a4⟩ := f_one hC (n := n + 10 * k + 2) a3 3
    have e1' : P_l1Cur_pick ((C, (s.1, (s.2.1, ()))), IntKind.wrap .i64 (X - 2), ()) = _ := e1
    have f1 : ∀ c : D_A3, P_spec_l2Without ((X, (Y, (Z, (l, ())))), c, ()) = _ := fun c => f_without (X := X) (Y := Y) (Z := Z) l c (by omega)
    rw [e1']
    simp only [Option.bind_some]
    rw [e2]
    simp only [Option.bind_some]
    rw [e3]
    simp only [Option.bind_some]
    rw [f1]
    simp only [Option.bind_some]
    rw [e4]
    simp only [Option.bind_some]
    have hk1 : IntKind.wrap .i64 (((k + 1 : Nat) : Int) - 1) = (k : Int) := by rw [w64 (by omega) (by omega)]; omega
    cases b with
    | false =>
      simp only [cond_false]
      rw [hk1]
      exact l_hol5 hC hs q0 q1 q2 q3 k m n s4 _ (by omega) (by omega) (Nat.le_trans (List.length_filter_le _ _) hl) (a4.le (by omega))
    | true =>
      obtain ⟨d, s5, e5, a5, b1, b2⟩ := f_pick hC (n := n + 10 * k) a4 3
      simp only [cond_true]
      rw [e5]
      simp only [Option.bind_some]
      have h4 := side3_ok hs d
      obtain ⟨l', k1, k2⟩ := l_hol12 (C := C) hs m q0 q1 q2 q3 d ((k + 1 : Nat) : Int) b1 (by omega) s5.1 s5.2.1 (side3 X Y Z d).toNat 0 N (l.filter fun c => !decide (c = (IntKind.wrap .i64 (1 + x), IntKind.wrap .i64 (1 + y), IntKind.wrap .i64 (1 + z), ()))) (IntKind.wrap .i64 (1 + x)) (IntKind.wrap .i64 (1 + y)) (IntKind.wrap .i64 (1 + z)) (by omega) (by have := N_ge; omega) (Nat.le_trans (List.length_filter_le _ _) hl)
      rw [show ((0 : Nat) : Int) = 0 from rfl, hk1] at k1
      rw [k1]
      exact l_hol5 hC hs q0 q1 q2 q3 k m n s5 l' (by omega) (by omega) k2 a5

theorem f_hollow {C : List Int} (hC : Bts C) {n : Nat} {s : Sd} (h : At (n + 146) s) : ∃ (g : D_Heap) (s' : Sd), P_l1Cur_hollow ((C, s), ()) = some ((g, ()), ((C, s'), ())) ∧ At n s' ∧ g.2.2.2.1.length ≤ 65 := by
  obtain ⟨b, s1, e1, a1⟩ := f_one hC (n := n + 144) h 2
  rw [p_l1Cur_hollow, e1]
  simp only [Option.bind_some]
  cases b with
  | true =>
    obtain ⟨g, s2, e2, a2, hg⟩ := f_heap hC (n := n) a1
    simp only [cond_true]
    rw [e2]
    exact ⟨_, _, rfl, a2, hg⟩
  | false =>
    obtain ⟨x, s2, e2, a2, mx⟩ := f_among hC (n := n + 142) a1 [3, 4, 3] (by decide)
    obtain ⟨y, s3, e3, a3, my⟩ := f_among hC (n := n + 140) a2 [3, 4, 3] (by decide)
    obtain ⟨z, s4, e4, a4, mz⟩ := f_among hC (n := n + 138) a3 [3, 4, 3] (by decide)
    obtain ⟨p, s5, e5, a5, b1, b2⟩ := f_pick hC (n := n + 136) a4 5
    have hx := among343 mx
    have hy := among343 my
    have hz := among343 mz
    have hs : sides x y z = true := sides_iff.2 ⟨⟨by omega, by omega⟩, ⟨by omega, by omega⟩, ⟨by omega, by omega⟩⟩
    obtain ⟨k1, k2, k3⟩ := allCells_ok hs
    simp only [cond_false]
    rw [e2]
    simp only [Option.bind_some]
    rw [e3]
    simp only [Option.bind_some]
    rw [e4]
    simp only [Option.bind_some]
    rw [f_l2Box hs]
    simp only [Option.bind_some]
    rw [e5]
    simp only [Option.bind_some]
    obtain ⟨pn, rfl⟩ : ∃ pn : Nat, p = (pn : Int) := ⟨p.toNat, by omega⟩
    obtain ⟨g, s6, e6, a6, hg⟩ := l_hol5 hC hs 0 0 0 [] pn N n s5 (allCells x y z) (by have := N_ge; omega) (by omega) (srt_small64 hs k2 k3) (a5.le (by omega))
    rw [e6]
    exact ⟨_, _, rfl, a6, by omega⟩

theorem at0 (n : Nat) (h : n ≤ 1000000) : At n ((0, 0, ()) : Sd) := ⟨by simp only; omega, by simp only; omega⟩

theorem d_PaintCounts {C : List Int} (hC : Bts C) : ∃ (g : D_Heap) (b : Bool), P_spec_DrawPaintCounts (C, ()) = some (g, b, ()) ∧ Small g.2.2.2.1 := by
  obtain ⟨g, s1, e1, a1, hg⟩ := f_hollow hC (n := 1000) (at0 _ (by omega))
  obtain ⟨b, s2, e2, a2⟩ := f_one hC (n := 998) a1 2
  rw [p_spec_DrawPaintCounts, e1]
  simp only [Option.bind_some]
  rw [e2]
  exact ⟨_, _, rfl, by unfold Small; omega⟩

theorem d_PaintedFaces {C : List Int} (hC : Bts C) : ∃ (g : D_Heap) (c : D_A3) (b : Bool), P_spec_DrawPaintedFaces (C, ()) = some (g, c, b, ()) ∧ Small g.2.2.2.1 := by
  obtain ⟨g, s1, e1, a1, hg⟩ := f_hollow hC (n := 1000) (at0 _ (by omega))
  obtain ⟨c, s2, e2, a2⟩ := f_cube hC (n := 986) a1 g
  obtain ⟨b, s3, e3, a3⟩ := f_one hC (n := 984) a2 2
  rw [p_spec_DrawPaintedFaces, e1]
  simp only [Option.bind_some]
  rw [e2]
  simp only [Option.bind_some]
  rw [e3]
  exact ⟨_, _, _, rfl, by unfold Small; omega⟩

theorem d_PeelDepth {C : List Int} (hC : Bts C) : ∃ (g : D_Heap) (c : D_A3), P_spec_DrawPeelDepth (C, ()) = some (g, c, ()) ∧ Small g.2.2.2.1 := by
  obtain ⟨g, s1, e1, a1, hg⟩ := f_hollow hC (n := 1000) (at0 _ (by omega))
  obtain ⟨c, s2, e2, a2⟩ := f_cube hC (n := 986) a1 g
  rw [p_spec_DrawPeelDepth, e1]
  simp only [Option.bind_some]
  rw [e2]
  exact ⟨_, _, rfl, by unfold Small; omega⟩

theorem d_FullCounts {C : List Int} (hC : Bts C) : ∃ x y z : Int, P_spec_DrawFullCounts (C, ()) = some (x, y, z, ()) := by
  obtain ⟨x, y, z, s1, e1, a1⟩ := f_sides hC (n := 1000) (at0 _ (by omega))
  rw [p_spec_DrawFullCounts, p_spec_DrawEmptyHeap, e1]
  exact ⟨_, _, _, rfl⟩
end Go.VI
