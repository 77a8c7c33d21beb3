/- Plain: the staircase that is drawn. -/
import Derived.Test.YtcamgjgfjpcelaaGreatPlEf
namespace Go.VI
open Go.Proofs
def Gd (X Y Z : Int) (out nx : List D_A3) : Prop := Srt nx ∧ Ins X Y Z nx ∧ ∀ x ∈ out, x ∈ nx
theorem least_round {X Y Z : Int} (hs : sides X Y Z = true) {l : List D_A3} (hi : Ins X Y Z l) {i : Nat} (h : i < l.length) (m0 m1 m2 : Nat) {nx : List D_A3} (hg : Gd X Y Z l nx) {k : Int} (k0 : 0 ≤ k) (k1 : k ≤ 2) :
    ∃ nx', l_spec_LeastStair_9 m0 m1 (m2 + 1) 0 0 0 [] X Y Z l X Y Z nx (i : Int) k = l_spec_LeastStair_9 m0 m1 m2 0 0 0 [] X Y Z l X Y Z nx' (i : Int) (k + 1) ∧ Gd X Y Z l nx' := by
  have w := within3_iff.1 (hi _ (List.getElem_mem h))
  have s := sides_iff.1 hs
  have e1 : IntKind.wrap .i64 (l[i].1 - 1) = l[i].1 - 1 := w64 (by omega) (by omega)
  have e2 : IntKind.wrap .i64 (l[i].2.1 - 1) = l[i].2.1 - 1 := w64 (by omega) (by omega)
  have e3 : IntKind.wrap .i64 (l[i].2.2.1 - 1) = l[i].2.2.1 - 1 := w64 (by omega) (by omega)
  have z1 : IntKind.wrap .i64 (1 : Int) = 1 := w64 (by omega) (by omega)
  have z2 : IntKind.wrap .i64 (2 : Int) = 2 := w64 (by omega) (by omega)
  have z3 : IntKind.wrap .i64 (3 : Int) = 3 := w64 (by omega) (by omega)
  have h64 := srt_small64 hs hg.2.1 hg.1
  have add : ∀ c : D_A3, within3 X Y Z c = true → ∃ nx', P_spec_l2With ((X, Y, Z, nx, ()), c, ()) = some ((X, Y, Z, nx', ()), ()) ∧ Gd X Y Z l nx' := fun c hc => by
    obtain ⟨nx', g1, g2, g3, _⟩ := f_l2With (X := X) (Y := Y) (Z := Z) hg.1 c (by omega)
    exact ⟨nx', g1, g2, fun x hx => by
      rcases (g3 x).1 hx with rfl | hx
      · exact hc
      · exact hg.2.1 x hx, fun x hx => (g3 x).2 (.inr (hg.2.2 x hx))⟩
  rw [q_spec_LeastStair_9, inB_at h, nthA (t := T_A3) h, inB_dir k0 k1]
  rcases dir k0 k1 with rfl | rfl | rfl
  · by_cases hge : 1 ≤ l[i].1
    · obtain ⟨nx', g1, g2⟩ := add (l[i].1 - 1, l[i].2.1, l[i].2.2.1, ()) (by rw [within3_iff]; simp only; omega)
      exact ⟨nx', by simp [e1, hge, g1, z1], g2⟩
    · exact ⟨nx, by simp [e1, hge, z1], hg⟩
  · by_cases hge : 1 ≤ l[i].2.1
    · obtain ⟨nx', g1, g2⟩ := add (l[i].1, l[i].2.1 - 1, l[i].2.2.1, ()) (by rw [within3_iff]; simp only; omega)
      exact ⟨nx', by simp [e2, hge, g1, z2], g2⟩
    · exact ⟨nx, by simp [e2, hge, z2], hg⟩
  · by_cases hge : 1 ≤ l[i].2.2.1
    · obtain ⟨nx', g1, g2⟩ := add (l[i].1, l[i].2.1, l[i].2.2.1 - 1, ()) (by rw [within3_iff]; simp only; omega)
      exact ⟨nx', by simp [e3, hge, g1, z3], g2⟩
    · exact ⟨nx, by simp [e3, hge, z3], hg⟩
theorem least_six {X Y Z : Int} (hs : sides X Y Z = true) {l : List D_A3} (hl : l.length ≤ 64) (hi : Ins X Y Z l) (m0 : Nat) : ∀ (d i m : Nat) (nx : List D_A3), l.length = i + d → d < m → Gd X Y Z l nx →
    ∃ nx', l_spec_LeastStair_6 m0 m 0 0 0 [] X Y Z l X Y Z nx (i : Int) = (bif decide ((nx'.length : Int) = (l.length : Int)) then some ((X, Y, Z, l, ()), true, ()) else l_spec_LeastStair_4 m0 0 0 0 [] X Y Z nx') ∧ Gd X Y Z l nx'
  | d, i, 0, nx, _, h, _ => by omega
  | d, i, m + 1, nx, hk, hm, hg => by
    rw [q_spec_LeastStair_6]
    by_cases h : i < l.length
    · rw [ltT h, N_eq]
      obtain ⟨n1, a1, b1⟩ := least_round hs hi h m0 m (N - 4 + 3) hg (k := 0) (by omega) (by omega)
      obtain ⟨n2, a2, b2⟩ := least_round hs hi h m0 m (N - 4 + 2) b1 (k := 0 + 1) (by omega) (by omega)
      obtain ⟨n3, a3, b3⟩ := least_round hs hi h m0 m (N - 4 + 1) b2 (k := 0 + 1 + 1) (by omega) (by omega)
      show ∃ nx', l_spec_LeastStair_9 m0 m (N - 4 + 3 + 1) 0 0 0 [] X Y Z l X Y Z nx (i : Int) 0 = _ ∧ _
      rw [a1]
      show ∃ nx', l_spec_LeastStair_9 m0 m (N - 4 + 2 + 1) 0 0 0 [] X Y Z l X Y Z n1 (i : Int) (0 + 1) = _ ∧ _
      rw [a2]
      show ∃ nx', l_spec_LeastStair_9 m0 m (N - 4 + 1 + 1) 0 0 0 [] X Y Z l X Y Z n2 (i : Int) (0 + 1 + 1) = _ ∧ _
      rw [a3]
      show ∃ nx', l_spec_LeastStair_9 m0 m (N - 4 + 1) 0 0 0 [] X Y Z l X Y Z n3 (i : Int) (0 + 1 + 1 + 1) = _ ∧ _
      rw [q_spec_LeastStair_9]
      show ∃ nx', l_spec_LeastStair_6 m0 m 0 0 0 [] X Y Z l X Y Z n3 (IntKind.wrap .i64 ((i : Int) + 1)) = _ ∧ _
      rw [succI i (by omega)]
      exact least_six hs hl hi m0 (d - 1) (i + 1) m n3 (by omega) (by omega) b3
    · rw [ltF h]
      exact ⟨nx, rfl, hg⟩
theorem least_four {X Y Z : Int} (hs : sides X Y Z = true) : ∀ (d m : Nat) (l : List D_A3), l.length + d = 64 → d < m → Srt l → Ins X Y Z l → ∃ l' : List D_A3, l_spec_LeastStair_4 m 0 0 0 [] X Y Z l = some ((X, Y, Z, l', ()), true, ()) ∧ l'.length ≤ 64
  | d, 0, l, _, h, _, _ => by omega
  | d, m + 1, l, hk, hm, hr, hi => by
    rw [q_spec_LeastStair_4, f_l2Own (by omega)]
    simp only [Option.bind_some]
    obtain ⟨nx, h1, h2⟩ := least_six hs (by omega) hi m l.length 0 N l (by simp) (by have := N_ge; omega) ⟨hr, hi, fun x h => h⟩
    have e : ((0 : Nat) : Int) = 0 := rfl
    rw [e] at h1
    rw [h1]
    have hle := nodup_len l nx hr.nodup h2.2.2
    have h64 := srt_small64 hs h2.2.1 h2.1
    by_cases heq : nx.length = l.length
    · rw [decide_eq_true (p := (nx.length : Int) = (l.length : Int)) (by omega)]
      exact ⟨l, rfl, by omega⟩
    · rw [decide_eq_false (p := (nx.length : Int) = (l.length : Int)) (by omega)]
      match d, hk, hm with
      | 0, hk, hm => omega
      | d + 1, hk, hm =>
        obtain ⟨l', g1, g2⟩ := least_four hs (64 - nx.length) m nx (by omega) (by omega) h2.1 h2.2.1
        exact ⟨l', g1, g2⟩
theorem f_leastStair (h : D_Heap) (hl : Small h.2.2.2.1) : ∃ (g : D_Heap) (b : Bool), P_spec_LeastStair (h, ()) = some (g, b, ()) ∧ g.2.2.2.1.length ≤ 64 := by
  rw [p_spec_LeastStair, f_spec_l2Heap _ hl]
  cases ho : okHeap h with
  | false => exact ⟨_, _, rfl, by simp⟩
  | true =>
    obtain ⟨hs, hi, hr⟩ := okHeap_iff.1 ho
    obtain ⟨X, Y, Z, l, ⟨⟩⟩ := h
    have hs : sides X Y Z = true := hs
    have hi : Ins X Y Z l := hi
    have hr : Srt l := hr
    have h64 := srt_small64 hs hi hr
    simp only [Option.bind_some, Bool.not_true, cond_false]
    rw [f_l2Own (by omega)]
    simp only [Option.bind_some]
    obtain ⟨l', g1, g2⟩ := least_four hs (64 - l.length) N l (by omega) (by have := N_ge; omega) hr hi
    exact ⟨_, _, g1, g2⟩
theorem holl_in {h : D_Heap} : ∀ c ∈ (if okSt h then hollL h.1 h.2.1 h.2.2.1 h.2.2.2.1 else []), sides h.1 h.2.1 h.2.2.1 = true → within3 h.1 h.2.1 h.2.2.1 c = true := fun c hc hs => by
  split at hc
  · unfold hollL at hc
    exact (mem_allCells hs c).1 (List.mem_filter.1 hc).1
  · cases hc
theorem l_stair5 {C : List Int} (hC : Bts C) {X Y Z : Int} (hs : sides X Y Z = true) : ∀ (d m n : Nat) (s : Sd) (l : List D_A3), d < m → d ≤ 1000 → Srt l → Ins X Y Z l → At (n + 2 * d) s →
    ∃ (l' : List D_A3) (s' : Sd), l_l1Cur_stair5_10 m 0 0 0 [] X Y Z l C s.1 s.2.1 (d : Int) = some (((X, Y, Z, l', ()), ()), ((C, s'), ())) ∧ l'.length ≤ 64
  | d, 0, n, s, l, h, _, _, _, _ => by omega
  | 0, m + 1, n, s, l, _, _, hr, hi, _ => by
    rw [q_l1Cur_stair5_10]
    exact ⟨l, s, rfl, srt_small64 hs hi hr⟩
  | d + 1, m + 1, n, s, l, hd, hd1, hr, hi, hA => by
    have h64 := srt_small64 hs hi hr
    rw [q_l1Cur_stair5_10, decide_eq_true (p := ((d + 1 : Nat) : Int) > 0) (by omega), spec_hollows (X, Y, Z, l, ()) (by show l.length ≤ _; omega)]
    simp only [cond_true, Option.bind_some]
    have hin := holl_in (h := (X, Y, Z, l, ()))
    generalize hq : (if okSt (X, Y, Z, l, ()) then hollL X Y Z l else []) = q at hin
    by_cases h0 : q.length = 0
    · rw [decide_eq_true (p := (q.length : Int) = 0) (by omega)]
      exact ⟨l, s, rfl, h64⟩
    · rw [decide_eq_false (p := (q.length : Int) = 0) (by omega)]
      simp only [cond_false]
      obtain ⟨x, s1, e1, a1, x0, x1⟩ := f_pick hC (n := n + 2 * d) (s := s) (hA.le (by omega)) (q.length : Int)
      obtain ⟨sa, sb, ⟨⟩⟩ := s
      rw [e1]
      simp only [Option.bind_some]
      obtain ⟨k, rfl⟩ : ∃ k : Nat, x = (k : Int) := ⟨x.toNat, by omega⟩
      have hk : k < q.length := by omega
      rw [inB_at hk, nthA (t := T_A3) hk]
      simp only [cond_true]
      have hc : within3 X Y Z q[k] = true := hin _ (List.getElem_mem hk) hs
      obtain ⟨l', g1, g2, g3, _⟩ := f_l2With (X := X) (Y := Y) (Z := Z) hr q[k] (by omega)
      rw [g1]
      simp only [Option.bind_some]
      have ed : IntKind.wrap .i64 (((d + 1 : Nat) : Int) - 1) = (d : Int) := by rw [w64 (by omega) (by omega)]; omega
      rw [ed]
      exact l_stair5 hC hs d m n s1 l' (by omega) (by omega) g2 (fun y hy => by
        rcases (g3 y).1 hy with rfl | hy
        · exact hc
        · exact hi y hy) a1
theorem d_stair {C : List Int} (hC : Bts C) : ∃ h : D_Heap, P_spec_DrawIsStair (C, ()) = some (h, ()) ∧ h.2.2.2.1.length ≤ 65 := by
  rw [p_spec_DrawIsStair, p_l1Cur_stair5]
  obtain ⟨g, s1, e1, a1, hg⟩ := f_heap hC (n := 1000) (s := (0, 0, ())) ⟨by simp only; omega, by simp only; omega⟩
  rw [e1]
  simp only [Option.bind_some]
  obtain ⟨b1, s2, e2, a2⟩ := f_one hC (n := 998) (s := s1) a1 12
  rw [e2]
  simp only [Option.bind_some]
  cases b1 with
  | true => exact ⟨g, rfl, hg⟩
  | false =>
    simp only [cond_false]
    obtain ⟨b2, s3, e3, a3⟩ := f_one hC (n := 996) (s := s2) a2 2
    rw [e3]
    simp only [Option.bind_some]
    cases b2 with
    | true =>
      simp only [cond_true]
      obtain ⟨g', b, g1, g2⟩ := f_leastStair g (by unfold Small; omega)
      rw [g1]
      exact ⟨g', rfl, by omega⟩
    | false =>
      simp only [cond_false]
      rw [f_spec_l2Sides]
      simp only [Option.bind_some]
      cases hs : sides g.1 g.2.1 g.2.2.1 with
      | false => exact ⟨g, rfl, hg⟩
      | true =>
        simp only [cond_true]
        rw [p_spec_l2Empty]
        simp only [Option.bind_some]
        obtain ⟨x, s4, e4, a4, x0, x1⟩ := f_pick hC (n := 994) (s := s3) a3 10
        rw [e4]
        simp only [Option.bind_some]
        obtain ⟨k, rfl⟩ : ∃ k : Nat, x = (k : Int) := ⟨x.toNat, by omega⟩
        obtain ⟨l', s', g1, g2⟩ := l_stair5 hC hs k N 0 s4 [] (by have := N_ge; omega) (by omega) List.Pairwise.nil (fun c hc => by cases hc) (a4.le (by omega))
        rw [g1]
        exact ⟨_, rfl, by show l'.length ≤ 65; omega⟩
end Go.VI
/- Plain: the law of staircases. -/
namespace Go.VI
open Go.Proofs
theorem take_is {h : D_Heap} {c : D_A3} (hl : Small h.2.2.2.1) (ho : okHeap h = true) (hw : within3 h.1 h.2.1 h.2.2.1 c = true) (hm : c ∈ h.2.2.2.1) {l' : List D_A3} (g2 : Srt l') (g3 : ∀ x, x ∈ l' ↔ x ∈ h.2.2.2.1 ∧ x ≠ c) : P_impl_TakeCube (h, c, ()) = some ((h.1, h.2.1, h.2.2.1, l', ()), true, ()) := by
  obtain ⟨hs, hi, hr⟩ := okHeap_iff.1 ho
  rw [p_impl_TakeCube, p_impl_isCell, f_impl_IsHeap _ hl, ho, f_Heap_box]
  simp only [Option.bind_some, cond_true]
  rw [f_box_has _ _ hs, hw]
  simp only [Option.bind_some]
  have f2 : P_Heap_hasCube (h, c, ()) = some (decide (c ∈ h.2.2.2.1), ()) := f_hasCube hs hl hi hw
  rw [f2, decide_eq_true hm]
  simp only [Bool.not_true, cond_false, Option.bind_some]
  have f3 : P_Heap_cubes (h, ()) = _ := f_Heap_cubes hs hl hi
  rw [f3, f_box_index hs hw]
  simp only [Option.bind_some]
  rw [decide_eq_true (p := (0 : Int) ≤ (idx h.2.1 h.2.2.1 c : Int)) (by omega), shl64, andNot64]
  rw [heap_is hs (setIs_less hs hi hw) g2 (fun x => by
    rw [g3, Bool.and_eq_true, decide_eq_true_eq, Bool.not_eq_true', decide_eq_false_iff_not]
    constructor
    · rintro ⟨a, b⟩; exact ⟨hi x a, a, b⟩
    · rintro ⟨_, a, b⟩; exact ⟨a, b⟩)]
  rfl
theorem l_vCells (l : List D_A3) (hl : Small l) : ∀ (d k m : Nat), l.length = k + d → d < m → l_laws_vCells_4 m l l (k : Int) = some (true, ())
  | d, k, 0, hk, hm => by omega
  | d, k, m + 1, hk, hm => by
    have hl' := hl
    unfold Small at hl'
    rw [q_laws_vCells_4]
    by_cases hlt : k < l.length
    · rw [ltT hlt, inB_at hlt, succI k (by omega), l_vCells l hl (d - 1) (k + 1) m (by omega) (by omega)]
      simp
    · rw [ltF hlt]; rfl
theorem f_vCells (l : List D_A3) (hl : Small l) : P_laws_vCells (l, l, ()) = some (true, ()) := by
  have := l_vCells l hl l.length 0 N (by simp) (by unfold Small at hl; have := N_ge; omega)
  rw [p_laws_vCells, decide_eq_true rfl]
  exact this
theorem f_vHeap (h : D_Heap) (hl : Small h.2.2.2.1) : P_laws_vHeap (h, h, ()) = some (true, ()) := by
  rw [p_laws_vHeap, f_vCells _ hl]
  simp
theorem l_vInts (l : List Int) (hl : Small l) : ∀ (d k m : Nat), l.length = k + d → d < m → l_laws_vInts_4 m l l (k : Int) = some (true, ())
  | d, k, 0, hk, hm => by omega
  | d, k, m + 1, hk, hm => by
    have hl' := hl
    unfold Small at hl'
    rw [q_laws_vInts_4]
    by_cases hlt : k < l.length
    · rw [ltT hlt, inB_at hlt, succI k (by omega), l_vInts l hl (d - 1) (k + 1) m (by omega) (by omega)]
      simp
    · rw [ltF hlt]; rfl
theorem f_vInts (l : List Int) (hl : Small l) : P_laws_vInts (l, l, ()) = some (true, ()) := by
  have := l_vInts l hl l.length 0 N (by simp) (by unfold Small at hl; have := N_ge; omega)
  rw [p_laws_vInts, decide_eq_true rfl]
  exact this
theorem all_len {X Y Z : Int} (hs : sides X Y Z = true) : ((allCells X Y Z).length : Int) = IntKind.wrap .i64 ((IntKind.wrap .i64 (X * Y)) * Z) := by
  have hz := size64 hs
  rw [← upto_all hs, w64 (x := X * Y) (by omega) (by omega), w64 (by omega) (by omega)]
  unfold upto
  rw [List.length_map, List.length_range]
  omega
theorem okStair_parts {X Y Z : Int} {l : List D_A3} (ho : okStair (X, Y, Z, l, ())) : sides X Y Z = true ∧ Ins X Y Z l ∧ Srt l ∧ Stair X Y Z l := by
  obtain ⟨hk, hst⟩ := ho
  obtain ⟨hs, hi, hr⟩ := okHeap_iff.1 hk
  exact ⟨hs, hi, hr, hst⟩
theorem parts_okStair {X Y Z : Int} {l : List D_A3} (hs : sides X Y Z = true) (hi : Ins X Y Z l) (hr : Srt l) (hst : Stair X Y Z l) : okStair (X, Y, Z, l, ()) := ⟨okHeap_iff.2 ⟨hs, hi, hr⟩, hst⟩
theorem areAlike_is {X Y Z : Int} {l m : List D_A3} (hl : Small l) (hm : Small m) (h1 : okHeap (X, Y, Z, l, ()) = true) (h2 : okHeap (X, Y, Z, m, ()) = true) : P_impl_areAlike ((X, Y, Z, l, ()), (X, Y, Z, m, ()), ()) = some (true, ()) := by
  rw [p_impl_areAlike, f_impl_IsHeap _ hl, f_impl_IsHeap _ hm, h1, h2, f_Heap_box, f_Heap_box]
  simp
theorem join_is {X Y Z : Int} {l m : List D_A3} (hl : Small l) (hm : Small m) (h1 : okStair (X, Y, Z, l, ())) (h2 : okStair (X, Y, Z, m, ())) : ∃ g : D_Heap, P_impl_JoinHeaps ((X, Y, Z, l, ()), (X, Y, Z, m, ()), ()) = some (g, true, ()) ∧ Small g.2.2.2.1 ∧ okStair g := by
  obtain ⟨hs, hi, hr, hst⟩ := okStair_parts h1
  obtain ⟨_, mi, mr, mst⟩ := okStair_parts h2
  refine ⟨(X, Y, Z, bitCells X Y Z (mask Y Z l 0 ||| mask Y Z m 0), ()), ?_, small_listOf hs _, parts_okStair hs (ins_bits hs _) (srt_listOf hs _) (hst.union mst fun c => ?_)⟩
  · rw [p_impl_JoinHeaps, areAlike_is hl hm h1.1 h2.1, f_Heap_box, f_Heap_cubes hs hl hi, f_Heap_cubes hs hm mi]
    simp only [Option.bind_some, Bool.not_true, cond_false]
    rw [or64, f_box_heap hs]
    rfl
  · rw [mem_listOf hs]
    constructor
    · rintro ⟨hc, hb⟩
      rw [BitVec.getLsbD_or, mask_mem hs hi hc, mask_mem hs mi hc, Bool.or_eq_true, decide_eq_true_eq, decide_eq_true_eq] at hb
      exact hb
    · intro hb
      have hc : within3 X Y Z c = true := hb.elim (hi c) (mi c)
      refine ⟨hc, ?_⟩
      rw [BitVec.getLsbD_or, mask_mem hs hi hc, mask_mem hs mi hc, Bool.or_eq_true, decide_eq_true_eq, decide_eq_true_eq]
      exact hb
theorem common_is {X Y Z : Int} {l m : List D_A3} (hl : Small l) (hm : Small m) (h1 : okStair (X, Y, Z, l, ())) (h2 : okStair (X, Y, Z, m, ())) : ∃ g : D_Heap, P_impl_CommonCubes ((X, Y, Z, l, ()), (X, Y, Z, m, ()), ()) = some (g, true, ()) ∧ Small g.2.2.2.1 ∧ okStair g := by
  obtain ⟨hs, hi, hr, hst⟩ := okStair_parts h1
  obtain ⟨_, mi, mr, mst⟩ := okStair_parts h2
  refine ⟨(X, Y, Z, bitCells X Y Z (mask Y Z l 0 &&& mask Y Z m 0), ()), ?_, small_listOf hs _, parts_okStair hs (ins_bits hs _) (srt_listOf hs _) (hst.inter mst fun c => ?_)⟩
  · rw [p_impl_CommonCubes, areAlike_is hl hm h1.1 h2.1, f_Heap_box, f_Heap_cubes hs hl hi, f_Heap_cubes hs hm mi]
    simp only [Option.bind_some, Bool.not_true, cond_false]
    rw [and64, f_box_heap hs]
    rfl
  · rw [mem_listOf hs]
    constructor
    · rintro ⟨hc, hb⟩
      rw [BitVec.getLsbD_and, mask_mem hs hi hc, mask_mem hs mi hc, Bool.and_eq_true, decide_eq_true_eq, decide_eq_true_eq] at hb
      exact hb
    · intro hb
      have hc : within3 X Y Z c = true := hi c hb.1
      refine ⟨hc, ?_⟩
      rw [BitVec.getLsbD_and, mask_mem hs hi hc, mask_mem hs mi hc, Bool.and_eq_true, decide_eq_true_eq, decide_eq_true_eq]
      exact hb
theorem isStair_ok {g : D_Heap} (hl : Small g.2.2.2.1) (ho : okStair g) : P_impl_IsStair (g, ()) = some (true, true, ()) := by
  rw [(is_both g hl).1, okSt_iff.2 ho, ho.1]
theorem l_last {X Y Z : Int} {l m : List D_A3} (hl : Small l) (hm : Small m) (h1 : okStair (X, Y, Z, l, ())) (h2 : okStair (X, Y, Z, m, ())) : ∀ (d i f : Nat), (cornL X Y Z l).length = i + d → d < f →
    l_laws_FnStairs_36 f X Y Z l X Y Z m (cornL X Y Z l) (i : Int) = some (true, ())
  | d, i, 0, _, h => by omega
  | d, i, f + 1, hk, hf => by
    obtain ⟨hs, hi, hr, hst⟩ := okStair_parts h1
    have hcl : (cornL X Y Z l).length ≤ l.length := List.length_filter_le _ _
    have hl' : l.length ≤ 1048576 := hl
    rw [q_laws_FnStairs_36]
    by_cases h : i < (cornL X Y Z l).length
    · have hmem : (cornL X Y Z l)[i] ∈ cornL X Y Z l := List.getElem_mem h
      obtain ⟨hcl', hcs⟩ := List.mem_filter.1 hmem
      have ht := take_is (h := (X, Y, Z, l, ())) hl h1.1 (hi _ hcl') hcl' (l' := lessC l (cornL X Y Z l)[i]) (hr.filter _) (fun x => mem_less)
      have hk2 : okStair (X, Y, Z, lessC l (cornL X Y Z l)[i], ()) := parts_okStair hs (ins_less hi _) (hr.filter _) (stB_iff.1 hcs)
      have hb := isStair_ok (small_less hl (cornL X Y Z l)[i]) hk2
      rw [ltT h, inB_at h, nthA (t := T_A3) h, ht]
      simp only [cond_true, Option.bind_some]
      rw [hb]
      simp only [Option.bind_some, Bool.not_true, cond_false]
      rw [succI i (by omega)]
      exact l_last hl hm h1 h2 (d - 1) (i + 1) f (by omega) (by omega)
    · rw [ltF h]
      obtain ⟨g1, a1, b1, c1⟩ := join_is hl hm h1 h2
      obtain ⟨g2, a2, b2, c2⟩ := common_is hl hm h1 h2
      simp only [cond_false]
      rw [a1, a2]
      simp only [Option.bind_some]
      rw [isStair_ok b1 c1, isStair_ok b2 c2]
      rfl
theorem corn_nil {X Y Z : Int} {l : List D_A3} (hr : Srt l) (hst : Stair X Y Z l) : (decide (((cornL X Y Z l).length : Int) = 0) == decide ((l.length : Int) = 0)) = true := by
  have e : ((cornL X Y Z l).length : Int) = 0 ↔ (l.length : Int) = 0 := by
    constructor
    · intro h
      by_cases hl : l = []
      · rw [hl]; rfl
      · obtain ⟨c, hc, hs⟩ := corner_ex hst hr hl
        have : c ∈ cornL X Y Z l := List.mem_filter.2 ⟨hc, stB_iff.2 hs⟩
        have := List.length_pos_of_mem this
        omega
    · intro h
      have : l = [] := List.length_eq_zero_iff.1 (by omega)
      rw [this]; rfl
  rw [decide_eq_decide.2 e]
  exact beq_self_eq_true _
theorem holl_nil {X Y Z : Int} (hs : sides X Y Z = true) {l : List D_A3} (hi : Ins X Y Z l) (hst : Stair X Y Z l) : (decide (((hollL X Y Z l).length : Int) = 0) == decide (((othC X Y Z l).length : Int) = 0)) = true := by
  have e : ((hollL X Y Z l).length : Int) = 0 ↔ ((othC X Y Z l).length : Int) = 0 := by
    constructor
    · intro h
      by_cases hl : othC X Y Z l = []
      · rw [hl]; rfl
      · obtain ⟨c, hc⟩ := List.exists_mem_of_ne_nil _ hl
        rw [mem_othC hs] at hc
        obtain ⟨d, d1, d2, d3⟩ := hollow_ex hs hst (c0 := revC X Y Z c) (by rw [revC_in]; exact hc.1) hc.2
        have : d ∈ hollL X Y Z l := List.mem_filter.2 ⟨(mem_allCells hs d).2 d1, by
          rw [decide_eq_false d2, stB_iff.2 (d3 (d :: l) (fun x => List.mem_cons))]; rfl⟩
        have := List.length_pos_of_mem this
        omega
    · intro h
      have hn : othC X Y Z l = [] := List.length_eq_zero_iff.1 (by omega)
      have : hollL X Y Z l = [] := List.filter_eq_nil_iff.2 fun c hc => by
        have hw := (mem_allCells hs c).1 hc
        have : c ∈ l := Classical.byContradiction fun hnl => by
          have : revC X Y Z c ∈ othC X Y Z l := (mem_othC hs).2 ⟨by rw [revC_in]; exact hw, by rw [revC_revC]; exact hnl⟩
          rw [hn] at this
          cases this
        rw [decide_eq_true this]
        simp
      rw [this]; rfl
  rw [decide_eq_decide.2 e]
  exact beq_self_eq_true _
theorem law_Stairs (C : List Int) (hb : ∀ b ∈ C, 0 ≤ b ∧ b ≤ 255) : P_laws_FnStairs (C, ()) = some (true, ()) := by
  rw [p_laws_FnStairs, p_laws_vBig]
  simp only [Option.bind_some]
  by_cases hbig : (C.length : Int) > 65536
  · rw [decide_eq_true hbig]; rfl
  have hC : Bts C := ⟨by omega, hb⟩
  rw [decide_eq_false hbig]
  simp only [cond_false]
  obtain ⟨h, d1, hlen⟩ := d_stair hC
  have hl : Small h.2.2.2.1 := by unfold Small; omega
  rw [d1]
  simp only [Option.bind_some]
  obtain ⟨a1, a2⟩ := is_both h hl
  obtain ⟨b1, b2⟩ := heights_both h hl
  obtain ⟨c1, c2⟩ := corners_both h hl
  obtain ⟨e1, e2⟩ := hollows_both h (by omega)
  obtain ⟨o1, o2⟩ := oth_both h hl
  obtain ⟨t1, t2⟩ := turn_both h hl
  obtain ⟨r, b, k1, k2, k3⟩ := rank_both h hl
  rw [a1, a2, b1, b2, c1, c2, e1, e2, o1, o2, t1, t2, k1, k2]
  simp only [Option.bind_some, beq_self_eq_true, Bool.not_true, cond_false, decide_true]
  cases ho : okSt h with
  | false =>
    have hb0 : b = false := by
      cases b with
      | false => rfl
      | true => rw [(k3 rfl).1] at ho; cases ho
    subst hb0
    simp only [Bool.false_eq_true, if_false]
    rw [f_vInts [] (by unfold Small; simp), f_vCells [] (by unfold Small; simp), f_vHeap noHeap small_no]
    cases okHeap h <;> rfl
  | true =>
    have hst := okSt_iff.1 ho
    obtain ⟨hos, hol, hoo⟩ := oth_ok hst
    obtain ⟨hts, htl⟩ := turn_ok hst
    obtain ⟨hts2, htl2⟩ := turn_ok hts
    have ht3 := turn3 hst
    rw [hst.1]
    have hh : Small (HV h.1 h.2.1 h.2.2.1 h.2.2.2.1) := by
      obtain ⟨hs, hi, hr⟩ := okHeap_iff.1 hst.1
      exact small_HV hs hl hi
    have hc : Small (cornL h.1 h.2.1 h.2.2.1 h.2.2.2.1) := by
      unfold Small at *
      exact Nat.le_trans (List.length_filter_le _ _) hl
    have hho : Small (hollL h.1 h.2.1 h.2.2.1 h.2.2.2.1) := by
      obtain ⟨hs, hi, hr⟩ := okHeap_iff.1 hst.1
      have := (allCells_ok hs).1
      unfold Small at *
      exact Nat.le_trans (List.length_filter_le _ _) this
    have tail1 := stackHeap_is hl hst
    have tail2 := settled_is hl hst
    have tail3 := oth_impl hol hos
    have tail4 := turn_impl htl hts
    have tail5 := turn_impl htl2 hts2
    rw [hoo] at tail3
    rw [ht3] at tail5
    have v0 := f_vHeap h hl
    have len : (IntKind.wrap .i64 (((othH h).2.2.2.1.length : Int) + (h.2.2.2.1.length : Int))) = IntKind.wrap .i64 ((IntKind.wrap .i64 (h.1 * h.2.1)) * h.2.2.1) := by
      obtain ⟨hs, hi, hr⟩ := okHeap_iff.1 hst.1
      have h1 := othC_len hs hi hr
      have h2 := all_len hs
      have h64 := size64 hs
      have h3 := srt_small64 hs (allCells_ok hs).2.1 (allCells_ok hs).2.2
      rw [← h2]
      have : ((othH h).2.2.2.1.length : Int) + (h.2.2.2.1.length : Int) = ((allCells h.1 h.2.1 h.2.2.1).length : Int) := by
        show ((othC h.1 h.2.1 h.2.2.1 h.2.2.2.1).length : Int) + _ = _
        omega
      rw [this]
      exact w64 (by omega) (by omega)
    have z1 : (decide (((cornL h.1 h.2.1 h.2.2.1 h.2.2.2.1).length : Int) = 0) == decide ((h.2.2.2.1.length : Int) = 0)) = true := by
      obtain ⟨hs, hi, hr⟩ := okHeap_iff.1 hst.1
      exact corn_nil hr hst.2
    have z2 : (decide (((hollL h.1 h.2.1 h.2.2.1 h.2.2.2.1).length : Int) = 0) == decide (((othH h).2.2.2.1.length : Int) = 0)) = true := by
      obtain ⟨hs, hi, hr⟩ := okHeap_iff.1 hst.1
      exact holl_nil hs hi hst.2
    have last : l_laws_FnStairs_36 N h.1 h.2.1 h.2.2.1 h.2.2.2.1 (othH h).1 (othH h).2.1 (othH h).2.2.1 (othH h).2.2.2.1 (cornL h.1 h.2.1 h.2.2.1 h.2.2.2.1) 0 = some (true, ()) := by
      have hl' : h.2.2.2.1.length ≤ 1048576 := hl
      have hcl : (cornL h.1 h.2.1 h.2.2.1 h.2.2.2.1).length ≤ h.2.2.2.1.length := List.length_filter_le _ _
      exact l_last (X := h.1) (Y := h.2.1) (Z := h.2.2.1) hl hol hst hos (cornL h.1 h.2.1 h.2.2.1 h.2.2.2.1).length 0 N (by simp) (by have := N_ge; omega)
    simp only [if_true]
    rw [f_vInts _ hh, f_vCells _ hc, f_vCells _ hho, f_vHeap _ hol, f_vHeap _ htl]
    simp only [Option.bind_some, beq_self_eq_true, Bool.not_true, cond_false, cond_true]
    rw [tail1, tail2, tail3, tail4]
    simp only [Option.bind_some, Bool.not_true, cond_false]
    rw [tail5]
    simp only [Option.bind_some, Bool.not_true, cond_false]
    rw [v0]
    simp only [Option.bind_some, Bool.not_true, cond_false]
    rw [len, decide_eq_true rfl, z1, z2, last]
    cases b with
    | false => rfl
    | true =>
      simp only [cond_true]
      rw [(k3 rfl).2]
      simp only [Option.bind_some, Bool.not_true, cond_false]
      rw [v0]
      rfl
end Go.VI
