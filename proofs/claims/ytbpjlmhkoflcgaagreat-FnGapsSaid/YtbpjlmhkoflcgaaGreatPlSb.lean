/- Plain: acts and benches of the reference that are drawn. -/
import Derived.Test.YtbpjlmhkoflcgaaGreatPlV
import Derived.Test.YtbpjlmhkoflcgaaGreatPlM
import Derived.Test.YtbpjlmhkoflcgaaGreatPlSi
namespace Go.VI
open Go.Proofs

def Has (a : Option (D_Heap × Bool × Unit)) : Prop := ∃ r : D_Heap × Bool × Unit, a = some r ∧ Small r.1.2.2.2.1

theorem sp_put (h : D_Heap) (c : D_A3) (hl : Small h.2.2.2.1) : Has (P_spec_PutCube (h, c, ())) := by
  rw [p_spec_PutCube, p_spec_l2Cell, f_spec_l2Heap _ hl]
  cases ho : okHeap h with
  | false => exact ⟨_, rfl, small_no⟩
  | true =>
    obtain ⟨hs, hi, hr⟩ := okHeap_iff.1 ho
    simp only [Option.bind_some, cond_true]
    rw [f_spec_l2In _ _ hs]
    simp only [Option.bind_some]
    cases hw : within3 h.1 h.2.1 h.2.2.1 c with
    | false => exact ⟨_, rfl, small_no⟩
    | true =>
      have f1 : P_spec_l2Has (h, c, ()) = some (decide (c ∈ h.2.2.2.1), ()) := f_l2Has _ _ _ _ _ hl
      rw [f1]
      simp only [Bool.not_true, cond_false, Option.bind_some]
      by_cases hm : c ∈ h.2.2.2.1
      · rw [decide_eq_true hm]
        exact ⟨_, rfl, small_no⟩
      · rw [decide_eq_false hm]
        simp only [cond_false]
        have h64 := srt_small64 hs hi hr
        obtain ⟨l', g1, g2, g3, g4⟩ := f_l2With (X := h.1) (Y := h.2.1) (Z := h.2.2.1) hr c (by omega)
        have g1' : P_spec_l2With (h, c, ()) = _ := g1
        rw [g1']
        exact ⟨_, rfl, small64 (show l'.length ≤ 64 from srt_small64 hs (fun x hx => by
          rcases (g3 x).1 hx with rfl | hx
          · exact hw
          · exact hi x hx) g2)⟩

theorem sp_take (h : D_Heap) (c : D_A3) (hl : Small h.2.2.2.1) : Has (P_spec_TakeCube (h, c, ())) := by
  rw [p_spec_TakeCube, p_spec_l2Cell, f_spec_l2Heap _ hl]
  cases ho : okHeap h with
  | false => exact ⟨_, rfl, small_no⟩
  | true =>
    obtain ⟨hs, hi, hr⟩ := okHeap_iff.1 ho
    simp only [Option.bind_some, cond_true]
    rw [f_spec_l2In _ _ hs]
    simp only [Option.bind_some]
    cases hw : within3 h.1 h.2.1 h.2.2.1 c with
    | false => exact ⟨_, rfl, small_no⟩
    | true =>
      have f1 : P_spec_l2Has (h, c, ()) = some (decide (c ∈ h.2.2.2.1), ()) := f_l2Has _ _ _ _ _ hl
      rw [f1]
      simp only [Bool.not_true, cond_false, Option.bind_some]
      by_cases hm : c ∈ h.2.2.2.1
      · rw [decide_eq_true hm]
        have h64 := srt_small64 hs hi hr
        have g1 : P_spec_l2Without (h, c, ()) = _ := f_without (X := h.1) (Y := h.2.1) (Z := h.2.2.1) h.2.2.2.1 c (by omega)
        simp only [Bool.not_true, cond_false]
        rw [g1]
        exact ⟨_, rfl, small64 (show (h.2.2.2.1.filter fun x => !decide (x = c)).length ≤ 64 from Nat.le_trans (List.length_filter_le _ _) h64)⟩
      · rw [decide_eq_false hm]
        exact ⟨_, rfl, small_no⟩

theorem sp_other (h : D_Heap) (hl : Small h.2.2.2.1) : Has (P_spec_OtherCells (h, ())) := by
  rw [p_spec_OtherCells, f_spec_l2Heap _ hl]
  cases ho : okHeap h with
  | false => exact ⟨_, rfl, small_no⟩
  | true =>
    obtain ⟨hs, hi, hr⟩ := okHeap_iff.1 ho
    obtain ⟨a1, a2, a3⟩ := allCells_ok hs
    have f0 : P_spec_l2All (h, ()) = _ := f_l2All h.2.2.2.1 hs
    simp only [Option.bind_some, Bool.not_true, cond_false]
    rw [p_spec_l2Empty, f0]
    simp only [Option.bind_some]
    have e := l_other (X := h.1) (Y := h.2.1) (Z := h.2.2.1) (X' := h.1) (Y' := h.2.1) (Z' := h.2.2.1) hl a1 (allCells h.1 h.2.1 h.2.2.1).length 0 N [] (by simp) (by unfold Small at a1; have := N_ge; omega) (by simp)
    have e' : l_spec_OtherCells_5 N h.1 h.2.1 h.2.2.1 h.2.2.2.1 0 0 0 [] h.1 h.2.1 h.2.2.1 [] (allCells h.1 h.2.1 h.2.2.1) 0 = _ := e
    rw [e']
    exact ⟨_, rfl, small64 (show ((allCells h.1 h.2.1 h.2.2.1).filter fun x => !decide (x ∈ h.2.2.2.1)).length ≤ 64 from Nat.le_trans (List.length_filter_le _ _) (srt_small64 hs a2 a3))⟩

theorem sp_mirror (h : D_Heap) (d : Int) (hl : Small h.2.2.2.1) : Has (P_spec_MirrorHeap (h, d, ())) := by
  rw [p_spec_MirrorHeap, f_spec_l2Heap _ hl, f_spec_l1In]
  cases ho : okHeap h with
  | false => exact ⟨_, rfl, small_no⟩
  | true =>
    obtain ⟨hs, hi, hr⟩ := okHeap_iff.1 ho
    simp only [Option.bind_some, Bool.not_true, cond_false]
    cases hd : decide (0 ≤ d) && decide (d ≤ 2) with
    | false => exact ⟨_, rfl, small_no⟩
    | true =>
      simp only [Bool.and_eq_true, decide_eq_true_eq] at hd
      simp only [Bool.not_true, cond_false]
      rw [p_spec_l2Mirrored, p_spec_l2Empty]
      simp only [Option.bind_some]
      obtain ⟨out, e1, e2, e3⟩ := l_mirrored hs hd.1 hd.2 hl hi h.2.2.2.1.length 0 N [] (by simp) (by unfold Small at hl; have := N_ge; omega) List.Pairwise.nil (by simp) (by simp)
      have e1' : l_spec_l2Mirrored_3 N h.1 h.2.1 h.2.2.1 h.2.2.2.1 0 0 0 [] h.1 h.2.1 h.2.2.1 [] d 0 = _ := e1
      rw [e1']
      exact ⟨_, rfl, small64 (show out.length ≤ 64 from srt_small64 hs (fun x hx => by
        obtain ⟨c, hc, rfl⟩ := List.mem_map.1 ((e3 x).1 hx)
        exact mirC_in (hi c hc)) e2)⟩

theorem sp_swap (h : D_Heap) (a b : Int) (hl : Small h.2.2.2.1) : Has (P_spec_SwapSides (h, a, b, ())) := by
  rw [p_spec_SwapSides, f_spec_l2Heap _ hl, f_spec_l1In, f_spec_l1In]
  cases ho : okHeap h with
  | false => exact ⟨_, rfl, small_no⟩
  | true =>
    obtain ⟨hs, hi, hr⟩ := okHeap_iff.1 ho
    simp only [Option.bind_some, Bool.not_true, cond_false]
    cases ha : decide (0 ≤ a) && decide (a ≤ 2) with
    | false => exact ⟨_, rfl, small_no⟩
    | true =>
      cases hb : decide (0 ≤ b) && decide (b ≤ 2) with
      | false => exact ⟨_, rfl, small_no⟩
      | true =>
        simp only [Bool.and_eq_true, decide_eq_true_eq] at ha hb
        simp only [Bool.not_true, cond_false]
        rw [p_spec_l2Swapped, inB_dir ha.1 ha.2, inB_dir hb.1 hb.2]
        simp only [cond_true, Option.bind_some]
        rw [p_spec_l2Empty]
        simp only [Option.bind_some]
        have hS := sw_sides hs ha.1 ha.2 hb.1 hb.2
        obtain ⟨out, e1, e2, e3⟩ := l_swapped (X := h.1) (Y := h.2.1) (Z := h.2.2.1) (S1 := (swC a b (h.1, h.2.1, h.2.2.1, ())).1) (S2 := (swC a b (h.1, h.2.1, h.2.2.1, ())).2.1) (S3 := (swC a b (h.1, h.2.1, h.2.2.1, ())).2.2.1) ha.1 ha.2 hb.1 hb.2 hl h.2.2.2.1.length 0 N [] (by simp) (by unfold Small at hl; have := N_ge; omega) List.Pairwise.nil (by simp) (by simp)
        refine ⟨((swC a b (h.1, h.2.1, h.2.2.1, ())).1, (swC a b (h.1, h.2.1, h.2.2.1, ())).2.1, (swC a b (h.1, h.2.1, h.2.2.1, ())).2.2.1, out, ()) |> fun x => (x, true, ()), ?_, ?_⟩
        · exact congrArg (fun o => Option.bind o fun r6 => some (r6.1, true, ())) e1
        · exact small64 (show out.length ≤ 64 from srt_small64 hS (fun x hx => by
            obtain ⟨c, hc, rfl⟩ := List.mem_map.1 ((e3 x).1 hx)
            exact sw_in ha.1 ha.2 hb.1 hb.2 (hi c hc)) e2)

theorem sp_drop (h : D_Heap) (hl : Small h.2.2.2.1) : Has (P_spec_DropHeap (h, ())) := by
  rw [p_spec_DropHeap, f_spec_l2Heap _ hl]
  cases ho : okHeap h with
  | false => exact ⟨_, rfl, small_no⟩
  | true =>
    obtain ⟨hs, hi, hr⟩ := okHeap_iff.1 ho
    obtain ⟨a1, a2, a3⟩ := allCells_ok hs
    have f1 : P_spec_l2View (h, 2, ()) = _ := f_viewS hs hl hi
    simp only [Option.bind_some, Bool.not_true, cond_false]
    rw [p_spec_l7Drop, p_spec_l2Heights, f1]
    simp only [Option.bind_some]
    rw [p_spec_l2Stack, p_spec_l2Empty]
    simp only [Option.bind_some]
    rw [f_l2All [] hs]
    simp only [Option.bind_some]
    have e := l_stackS (X' := h.1) (Y' := h.2.1) (Z' := h.2.2.1) hs (cols_len h.1 h.2.1 h.2.2.2.1) a1 a2 (allCells h.1 h.2.1 h.2.2.1).length 0 N [] (by simp) (by unfold Small at a1; have := N_ge; omega) (by simp)
    have e' : l_spec_l2Stack_4 N 0 0 0 [] h.1 h.2.1 h.2.2.1 [] h.2.1 (cols h.1 h.2.1 h.2.2.2.1) (allCells h.1 h.2.1 h.2.2.1) 0 = _ := e
    rw [e']
    exact ⟨_, rfl, small64 (show ((allCells h.1 h.2.1 h.2.2.1).filter (lowC h.2.1 (cols h.1 h.2.1 h.2.2.2.1))).length ≤ 64 from Nat.le_trans (List.length_filter_le _ _) (srt_small64 hs a2 a3))⟩

theorem sp_sink_ex {X Y Z : Int} (hs : sides X Y Z = true) : ∀ (n : Nat) (l : List D_A3) (t : Nat), zs l ≤ n → Srt l → Ins X Y Z l → t + n < 100000 →
    ∃ r : D_Heap × Int × Bool × Unit, (∀ m, n < m → l_spec_SinkHeap_4 m 0 0 0 [] X Y Z l (t : Int) = some r) ∧ Small r.1.2.2.2.1 := by
  intro n
  induction n using Nat.strongRecOn with
  | _ n ih =>
    intro l t hz hr hi ht
    have s := sides_iff.1 hs
    obtain ⟨H, h1, h2, h3⟩ := f_l7Parted hs hi hr true
    obtain ⟨S, k1, k2, k3⟩ := f_l7Parted hs hi hr false
    have hH : ∀ c, c ∈ H ↔ c ∈ l ∧ ¬ Stand l c := fun c => by rw [h3]; simp
    have hS : ∀ c, c ∈ S ↔ Stand l c := fun c => by
      rw [k3]
      simp only [iff_true]
      exact ⟨fun h => h.2, fun h => ⟨Stand.mem h, h⟩⟩
    have hHi : Ins X Y Z H := fun c hc => hi c ((hH c).1 hc).1
    have hSi : Ins X Y Z S := fun c hc => hi c (Stand.mem ((hS c).1 hc))
    have hHl := srt_small64 hs hHi h2
    have hSl := srt_small64 hs hSi k2
    have hll := srt_small64 hs hi hr
    by_cases hHe : H.length = 0
    · refine ⟨((X, Y, Z, l, ()), (t : Int), true, ()), fun m hm => ?_, small64 hll⟩
      obtain ⟨m, rfl⟩ : ∃ m', m = m' + 1 := ⟨m - 1, by omega⟩
      rw [q_spec_SinkHeap_4, h1]
      simp only [Option.bind_some]
      rw [decide_eq_true (by omega)]
      rfl
    · have hHz : ∀ c ∈ H, 1 ≤ c.2.2.1 ∧ c.2.2.1 ≤ 10 := fun c hc => by
        have hw := within3_iff.1 (hHi c hc)
        refine ⟨?_, by omega⟩
        by_cases hc0 : c.2.2.1 = 0
        · exact absurd (Rch.base ⟨((hH c).1 hc).1, hc0⟩) ((hH c).1 hc).2
        · omega
      have hHd : ∀ c ∈ H, within3 X Y Z (down c) = true := fun c hc => by
        have hw := within3_iff.1 (hHi c hc)
        have := hHz c hc
        rw [within3_iff]
        unfold down
        simp only
        omega
      have hperm : l.Perm (S ++ H) := by
        refine (List.perm_ext_iff_of_nodup hr.nodup ?_).2 fun c => ?_
        · rw [List.nodup_append]
          exact ⟨k2.nodup, h2.nodup, fun a ha b hb e => ((hH b).1 hb).2 (e ▸ (hS a).1 ha)⟩
        · rw [List.mem_append, hS, hH]
          constructor
          · intro hc
            by_cases h : Stand l c
            · exact .inl h
            · exact .inr ⟨hc, h⟩
          · rintro (h | h)
            · exact Stand.mem h
            · exact h.1
      have hzl : zs l = zs S + zs H := by rw [zs_perm hperm, zs_append]
      have hzd := zs_down H fun c hc => (hHz c hc).1
      obtain ⟨l', e1, e2, e3, e4⟩ : ∃ l', (∀ m0, l_spec_SinkHeap_9 m0 N 0 0 0 [] X Y Z S (t : Int) H 0 = l_spec_SinkHeap_4 m0 0 0 0 [] X Y Z l' ((t + 1 : Nat) : Int)) ∧ Srt l' ∧ (∀ c, c ∈ l' ↔ c ∈ S ∨ c ∈ H.map down) ∧ zs l' ≤ zs S + zs (H.map down) := by
        have a := fun m0 => l_s9 (X := X) (Y := Y) (Z := Z) (fun c hc => ⟨by have := hHz c hc; omega, (hHz c hc).2⟩) hHl t (by omega) m0 H.length 0 N S (by omega) (by have := N_ge; omega) k2 (by omega)
        obtain ⟨o, _, o2, o3, o4⟩ := a 0
        refine ⟨o, fun m0 => ?_, o2, by simpa using o3, by simpa using o4⟩
        obtain ⟨o', q1, q2, q3, q4⟩ := a m0
        have : o' = o := srt_ext _ _ q2 o2 fun c => by rw [q3, o3]
        rw [this] at q1
        exact q1
      have hl'i : Ins X Y Z l' := fun c hc => by
        rcases (e3 c).1 hc with h | h
        · exact hSi c h
        · obtain ⟨x, hx, rfl⟩ := List.mem_map.1 h
          exact hHd x hx
      obtain ⟨r, r1, r3⟩ := ih (zs l') (by omega) l' (t + 1) (Nat.le_refl _) e2 hl'i (by omega)
      refine ⟨r, fun m hm => ?_, r3⟩
      obtain ⟨m, rfl⟩ : ∃ m', m = m' + 1 := ⟨m - 1, by omega⟩
      rw [q_spec_SinkHeap_4, h1]
      simp only [Option.bind_some]
      rw [decide_eq_false (by omega), k1]
      simp only [cond_false, Option.bind_some]
      rw [p_spec_l2Made]
      simp only [Option.bind_some]
      rw [e1 m]
      exact r1 m (by omega)

theorem sp_sink (h : D_Heap) (hl : Small h.2.2.2.1) : ∃ r : D_Heap × Int × Bool × Unit, P_spec_SinkHeap (h, ()) = some r ∧ Small r.1.2.2.2.1 := by
  rw [p_spec_SinkHeap, f_spec_l2Heap _ hl]
  cases ho : okHeap h with
  | false => exact ⟨_, rfl, small_no⟩
  | true =>
    obtain ⟨hs, hi, hr⟩ := okHeap_iff.1 ho
    have hll := srt_small64 hs hi hr
    have f0 : P_spec_l2Own (h, ()) = _ := f_l2Own (X := h.1) (Y := h.2.1) (Z := h.2.2.1) (l := h.2.2.2.1) (by omega)
    have hz := zs_le hs _ hi
    obtain ⟨r, r1, r3⟩ := sp_sink_ex hs (zs h.2.2.2.1) h.2.2.2.1 0 (Nat.le_refl _) hr hi (by omega)
    simp only [Option.bind_some, Bool.not_true, cond_false]
    rw [f0]
    exact ⟨r, r1 N (by have := N_ge; omega), r3⟩

theorem sp_make (h : D_Heap) (a : D_Act) (hl : Small h.2.2.2.1) : ∃ (r : D_Heap × Bool × Unit) (b : Bool), P_spec_l12Make (h, a, ()) = some r ∧ P_spec_l12Plain (a, ()) = some (b, ()) ∧ Small r.1.2.2.2.1 := by
  rw [p_spec_l12Make, p_spec_l12Plain]
  by_cases k1 : a.1 = 1
  · obtain ⟨r, e1, e3⟩ := sp_put h a.2.1 hl
    rw [decide_eq_true k1, e1]
    simp only [cond_true, Option.bind_some]
    rw [bifp]
    exact ⟨r, _, rfl, rfl, e3⟩
  rw [decide_eq_false k1]
  simp only [cond_false]
  by_cases k2 : a.1 = 2
  · obtain ⟨r, e1, e3⟩ := sp_take h a.2.1 hl
    rw [decide_eq_true k2, e1]
    simp only [cond_true, Option.bind_some]
    rw [bifp]
    exact ⟨r, _, rfl, rfl, e3⟩
  rw [decide_eq_false k2]
  simp only [cond_false]
  by_cases k3 : a.1 = 3
  · obtain ⟨r, e1, e3⟩ := sp_drop h hl
    rw [decide_eq_true k3, e1, decide_eq_false (p := a.1 = 5) (by omega), decide_eq_false (p := a.1 = 6) (by omega)]
    simp only [cond_true, cond_false, Option.bind_some]
    rw [bifp3]
    exact ⟨r, _, rfl, rfl, e3⟩
  rw [decide_eq_false k3]
  simp only [cond_false]
  by_cases k4 : a.1 = 4
  · obtain ⟨r, e1, e3⟩ := sp_sink h hl
    rw [decide_eq_true k4, e1, decide_eq_false (p := a.1 = 5) (by omega), decide_eq_false (p := a.1 = 6) (by omega)]
    simp only [cond_true, cond_false, Option.bind_some]
    rw [bifp3]
    exact ⟨(r.1, r.2.2.1, ()), _, rfl, rfl, e3⟩
  rw [decide_eq_false k4]
  simp only [cond_false]
  by_cases k5 : a.1 = 5
  · obtain ⟨r, e1, e3⟩ := sp_mirror h a.2.2.1 hl
    rw [decide_eq_true k5, e1]
    simp only [cond_true, cond_false, Option.bind_some]
    rw [bifp]
    exact ⟨r, _, rfl, rfl, e3⟩
  rw [decide_eq_false k5]
  simp only [cond_false]
  by_cases k6 : a.1 = 6
  · obtain ⟨r, e1, e3⟩ := sp_swap h a.2.2.1 a.2.2.2.1 hl
    rw [decide_eq_true k6, e1]
    simp only [cond_true, cond_false, Option.bind_some]
    exact ⟨r, _, rfl, rfl, e3⟩
  rw [decide_eq_false k6]
  simp only [cond_false]
  by_cases k7 : a.1 = 7
  · obtain ⟨r, e1, e3⟩ := sp_other h hl
    rw [decide_eq_true k7, e1]
    simp only [cond_true, cond_false, Option.bind_some]
    rw [bifp3]
    exact ⟨r, _, rfl, rfl, e3⟩
  rw [decide_eq_false k7]
  simp only [cond_false]
  rw [bifp3]
  exact ⟨(h, false, ()), _, rfl, rfl, hl⟩

theorem sp_do (b : D_Bench) (a : D_Act) (hl : Small b.1.2.2.2.1) : ∃ r : D_Bench × Bool × Unit, P_spec_l12Do (b, a, ()) = some r ∧ (r.2.1 = true → okBench r.1 = true) := by
  obtain ⟨r, pl, e1, e2, e6⟩ := sp_make b.1 a hl
  rw [p_spec_l12Do, e1, e2]
  simp only [Option.bind_some]
  cases hr : r.2.1 with
  | false => exact ⟨(noBench, false, ()), rfl, fun hh => by cases hh⟩
  | true =>
    cases pl with
    | false => exact ⟨(noBench, false, ()), rfl, fun hh => by cases hh⟩
    | true =>
      simp only [Bool.not_true, cond_false]
      obtain ⟨x, ex⟩ := f_least b.2.1 (r.1.2.2.2.1.length : Int)
      rw [ex]
      simp only [Option.bind_some]
      generalize hB : ((r.1, (x, (IntKind.wrap .i64 (b.2.2.1 + 1), ()))) : D_Bench) = B
      have hBs : Small B.1.2.2.2.1 := by rw [← hB]; exact e6
      rw [f_spec_l12Good B hBs]
      simp only [Option.bind_some]
      cases hb : okBench B with
      | false => exact ⟨(noBench, false, ()), rfl, fun hh => by cases hh⟩
      | true =>
        simp only [Bool.not_true, cond_false]
        rw [f_spec_l12Own B hBs]
        exact ⟨(B, true, ()), rfl, fun _ => hb⟩

theorem sp_bench {C : List Int} (hC : Bts C) : ∀ (k m n : Nat) (s : Sd) (b : D_Bench) (ok : Bool), k < m → k ≤ 1000 → b.1.2.2.2.1.length ≤ 64 → (ok = true → okBench b = true) → At (n + 22 * k + 4) s →
    ∃ (b' : D_Bench) (s' : Sd), l_l1Cur_bench_4 m 0 0 0 [] 0 0 b.1.1 b.1.2.1 b.1.2.2.1 b.1.2.2.2.1 b.2.1 b.2.2.1 C s.1 s.2.1 ok (k : Int) = some ((b', ()), ((C, s'), ())) ∧ At n s' ∧ b'.1.2.2.2.1.length ≤ 65
  | k, 0, n, s, b, ok, h, _, _, _, _ => by omega
  | 0, m + 1, n, s, b, ok, hm, _, hb, ho, ha => l_bench0 hC ok m n s b hb (ha.le (by omega))
  | k + 1, m + 1, n, s, b, ok, hm, hk, hb, ho, ha => by
    cases ok with
    | false =>
      have e : l_l1Cur_bench_4 (m + 1) 0 0 0 [] 0 0 b.1.1 b.1.2.1 b.1.2.2.1 b.1.2.2.2.1 b.2.1 b.2.2.1 C s.1 s.2.1 false ((k + 1 : Nat) : Int) = l_l1Cur_bench_4 (m + 1) 0 0 0 [] 0 0 b.1.1 b.1.2.1 b.1.2.2.1 b.1.2.2.2.1 b.2.1 b.2.2.1 C s.1 s.2.1 false 0 := by
        rw [q_l1Cur_bench_4, q_l1Cur_bench_4, decide_eq_true (p := ((k + 1 : Nat) : Int) > 0) (by omega), decide_eq_false (p := (0 : Int) > 0) (by decide)]
        rfl
      rw [e]
      exact l_bench0 hC false m n s b hb (ha.le (by omega))
    | true =>
      obtain ⟨a, s1, e1, a1⟩ := f_act12 hC (n := n + 22 * k + 4) (s := s) (ha.le (by omega)) b.1
      have e1' : P_l1Cur_act12 ((C, (s.1, (s.2.1, ()))), (b.1.1, (b.1.2.1, (b.1.2.2.1, (b.1.2.2.2.1, ())))), ()) = _ := e1
      obtain ⟨r, d1, d4⟩ := sp_do b a (small64 hb)
      have d1' : P_spec_l12Do (((b.1.1, (b.1.2.1, (b.1.2.2.1, (b.1.2.2.2.1, ())))), (b.2.1, (b.2.2.1, ()))), a, ()) = some r := d1
      have hk1 : IntKind.wrap .i64 (((k + 1 : Nat) : Int) - 1) = (k : Int) := by rw [w64 (by omega) (by omega)]; omega
      rw [q_l1Cur_bench_4, decide_eq_true (p := ((k + 1 : Nat) : Int) > 0) (by omega), e1']
      simp only [cond_true, Option.bind_some]
      rw [d1', hk1]
      simp only [Option.bind_some]
      cases hr : r.2.1 with
      | false => exact sp_bench hC k m n s1 b true (by omega) (by omega) hb ho a1
      | true => exact sp_bench hC k m n s1 r.1 true (by omega) (by omega) (okBench_len (d4 hr)) (fun _ => d4 hr) a1

theorem f_benchS {C : List Int} (hC : Bts C) {n : Nat} {s : Sd} (h : At (n + 300) s) : ∃ (b : D_Bench) (s' : Sd), P_l1Cur_bench ((C, s), ()) = some ((b, ()), ((C, s'), ())) ∧ At n s' ∧ b.1.2.2.2.1.length ≤ 65 := by
  obtain ⟨x, s1, e1, a1, _⟩ := f_among hC (n := n + 298) h [2, 3, 2, 1] (by decide)
  obtain ⟨y, s2, e2, a2, _⟩ := f_among hC (n := n + 296) a1 [2, 2, 3, 1] (by decide)
  obtain ⟨z, s3, e3, a3, _⟩ := f_among hC (n := n + 294) a2 [2, 3, 2, 1] (by decide)
  obtain ⟨g, s4, e4, a4, hg⟩ := f_someHeap hC (n := n + 162) a3 x y z
  obtain ⟨p, s5, e5, a5, b1, b2⟩ := f_pick hC (n := n + 160) a4 7
  rw [p_l1Cur_bench, e1]
  simp only [Option.bind_some]
  rw [e2]
  simp only [Option.bind_some]
  rw [e3]
  simp only [Option.bind_some]
  rw [e4]
  simp only [Option.bind_some]
  rw [f_spec_NewBench g (small64 hg)]
  simp only [Option.bind_some]
  rw [e5]
  simp only [Option.bind_some]
  obtain ⟨k, rfl⟩ : ∃ k : Nat, p = (k : Int) := ⟨p.toNat, by omega⟩
  have hlen : (newBench g).1.1.2.2.2.1.length ≤ 64 := by
    unfold newBench
    split
    · exact hg
    · simp [noBench]
  have hok : (newBench g).2.1 = true → okBench (newBench g).1 = true := by
    unfold newBench
    split
    · rename_i ho
      intro _
      exact okBench_iff.2 ⟨ho, ⟨by simp only; omega, by simp only; omega⟩, by simp⟩
    · intro hh
      cases hh
  exact sp_bench hC k N n s5 (newBench g).1 (newBench g).2.1 (by have := N_ge; omega) (by omega) hlen hok (a5.le (by omega))

theorem d_ShadowGap {C : List Int} (hC : Bts C) : ∃ b : D_Bench, P_spec_DrawShadowGap (C, ()) = some (b, ()) ∧ Small b.1.2.2.2.1 := by
  obtain ⟨b, s', e, _, hb⟩ := f_benchS hC (n := 0) (s := (0, 0, ())) (at00 _ (by omega))
  rw [p_spec_DrawShadowGap, p_spec_DrawIsBench]
  have e' : P_l1Cur_bench ((C, (0, (0, ()))), ()) = _ := e
  rw [e']
  exact ⟨b, rfl, by unfold Small; omega⟩
end Go.VI
/- Plain: the fewest cubes of a heap's own shadow are no more than its cubes. -/
namespace Go.VI
open Go.Proofs

theorem one_bit {v : B64} (h : popB v.toNat = 1) {i j : Nat} (hi : v.getLsbD i = true) (hj : v.getLsbD j = true) : i = j := by
  unfold popB at h
  obtain ⟨a, ha⟩ := List.length_eq_one_iff.1 h
  have mem : ∀ k, v.getLsbD k = true → k = a := fun k hk => by
    have : k ∈ (List.range 64).filter fun i => v.toNat.testBit i := List.mem_filter.2 ⟨List.mem_range.2 (bit_lt hk), hk⟩
    rw [ha] at this
    exact List.mem_singleton.1 this
  rw [mem i hi, mem j hj]

theorem pop_filter {v : B64} {I : List Nat} (hn : I.Nodup) (h : ∀ i, v.getLsbD i = true → i ∈ I) : popB v.toNat = (I.filter fun i => v.getLsbD i).length := by
  unfold popB
  apply List.Perm.length_eq
  rw [List.perm_ext_iff_of_nodup (List.Pairwise.filter _ List.nodup_range) (List.Pairwise.filter _ hn)]
  intro i
  rw [List.mem_filter, List.mem_filter, List.mem_range]
  constructor
  · rintro ⟨_, hb⟩; exact ⟨h i hb, hb⟩
  · rintro ⟨_, hb⟩; exact ⟨bit_lt hb, hb⟩

theorem shD_at {X Y Z d : Int} {l : List D_A3} {i : Nat} (h : i < (shD X Y Z d l).length) : (shD X Y Z d l)[i] = if l.any fun c => decide (lineD X Y Z d c = (i : Int)) then 1 else 0 := by
  have e : (shD X Y Z d l)[i]? = some (if l.any fun c => decide (lineD X Y Z d c = (i : Int)) then 1 else 0) := by
    rw [shD_len] at h
    rw [shD, List.getElem?_map, List.getElem?_range h]
    rfl
  rw [List.getElem?_eq_getElem h] at e
  exact Option.some.inj e

theorem lit_of {X Y Z : Int} (hs : sides X Y Z = true) {l : List D_A3} (hi : Ins X Y Z l) {c : D_A3} (hc : c ∈ l) {d : Int} (d0 : 0 ≤ d) (d1 : d ≤ 2) : litAt (shadowOf X Y Z l) d c = true := by
  obtain ⟨h1, h2, _⟩ := lineD_ok hs d0 d1 (hi c hc)
  obtain ⟨k, hk⟩ : ∃ k : Nat, lineD X Y Z d c = (k : Int) := ⟨(lineD X Y Z d c).toNat, by omega⟩
  have hlist : listD (shadowOf X Y Z l) d = shD X Y Z d l := by rcases dir d0 d1 with rfl | rfl | rfl <;> rfl
  have hlt : k < (shD X Y Z d l).length := by rw [shD_len]; omega
  unfold litAt
  rw [hlist]
  show (!decide (nth ((.int .i64) : Ty) (shD X Y Z d l) (lineD X Y Z d c) = 0)) = true
  rw [hk, nthA (t := .int .i64) hlt, shD_at hlt, if_pos]
  · rfl
  · exact List.any_eq_true.2 ⟨c, hc, decide_eq_true hk⟩

theorem allowed_own {X Y Z : Int} (hs : sides X Y Z = true) {l : List D_A3} (hi : Ins X Y Z l) {c : D_A3} (hc : c ∈ l) : allowedC (shadowOf X Y Z l) c = true := by
  unfold allowedC
  rw [lit_of hs hi hc (by decide) (by decide), lit_of hs hi hc (by decide) (by decide), lit_of hs hi hc (by decide) (by decide)]
  rfl

theorem mem_needsB {s : D_Shadow} {v : B64} (h : v ∈ needsB s) : ∃ d : Int, 0 ≤ d ∧ d ≤ 2 ∧ ∃ i, ∃ h : i < (listD s d).length, (listD s d)[i] = 1 ∧ v = allowedB s &&& lineB s d i := by
  unfold needsB at h
  rcases List.mem_append.1 h with h | h
  · obtain ⟨i, hi, a, b⟩ := mem_needR.1 h
    exact ⟨0, by decide, by decide, i, hi, a, by simpa using b⟩
  · rcases List.mem_append.1 h with h | h
    · obtain ⟨i, hi, a, b⟩ := mem_needR.1 h
      exact ⟨1, by decide, by decide, i, hi, a, by simpa using b⟩
    · obtain ⟨i, hi, a, b⟩ := mem_needR.1 h
      exact ⟨2, by decide, by decide, i, hi, a, by simpa using b⟩

/-- Each lit line of a heap's shadow has a cube of the heap. -/
theorem need_cube {X Y Z : Int} (hs : sides X Y Z = true) {l : List D_A3} (hi : Ins X Y Z l) {v : B64} (hv : v ∈ needsB (shadowOf X Y Z l)) : ∃ c ∈ l, v.getLsbD (idx Y Z c) = true := by
  obtain ⟨d, d0, d1, i, hlt, hone, rfl⟩ := mem_needsB hv
  have hlist : listD (shadowOf X Y Z l) d = shD X Y Z d l := by rcases dir d0 d1 with rfl | rfl | rfl <;> rfl
  have hlt' : i < (shD X Y Z d l).length := by rw [← hlist]; exact hlt
  have h1 : (shD X Y Z d l)[i] = 1 := by
    have : (listD (shadowOf X Y Z l) d)[i]? = some 1 := by rw [List.getElem?_eq_getElem hlt, hone]
    rw [hlist, List.getElem?_eq_getElem hlt'] at this
    exact Option.some.inj this
  rw [shD_at hlt'] at h1
  cases ha : l.any fun c => decide (lineD X Y Z d c = (i : Int)) with
  | false => rw [ha] at h1; simp at h1
  | true =>
    obtain ⟨c, hc, he⟩ := List.any_eq_true.1 ha
    refine ⟨c, hc, ?_⟩
    have hw := hi c hc
    rw [BitVec.getLsbD_and]
    have e1 : (allowedB (shadowOf X Y Z l)).getLsbD (idx Y Z c) = true := ((setB_is hs (allowedC (shadowOf X Y Z l))).2 c hw).trans (allowed_own hs hi hc)
    have e2 : (lineB (shadowOf X Y Z l) d i).getLsbD (idx Y Z c) = true := ((setB_is hs (fun c => decide (lineD X Y Z d c = (i : Int)))).2 c hw).trans he
    rw [e1, e2]
    rfl

theorem must_own {X Y Z : Int} (hs : sides X Y Z = true) {l : List D_A3} (hi : Ins X Y Z l) {i : Nat} (h : (mustB (shadowOf X Y Z l)).getLsbD i = true) : ∃ c ∈ l, i = idx Y Z c := by
  rcases (mustR_bit i _ _).1 h with h | ⟨v, hv, hp, hb⟩
  · simp at h
  · obtain ⟨c, hc, hcb⟩ := need_cube hs hi hv
    exact ⟨c, hc, one_bit hp hb hcb⟩

theorem idx_nodup {X Y Z : Int} (hs : sides X Y Z = true) {l : List D_A3} (hi : Ins X Y Z l) (hr : Srt l) : (l.map (idx Y Z)).Nodup := by
  have h : (l.map (idx Y Z)).Pairwise (· < ·) := by
    rw [List.pairwise_map]
    exact List.Pairwise.imp_of_mem (fun {a b} ha hb hab => (idx_lt hs (hi a ha) (hi b hb)).2 hab) hr
  exact h.imp fun {a b} hab => by omega

theorem filter_split2 {α : Type} (p : α → Bool) : ∀ l : List α, l.length = (l.filter p).length + (l.filter fun x => !p x).length
  | [] => rfl
  | a :: r => by
    have := filter_split2 p r
    rw [List.filter_cons, List.filter_cons]
    cases p a <;> simp <;> omega

theorem sat_own {X Y Z : Int} (hs : sides X Y Z = true) {l : List D_A3} (hi : Ins X Y Z l) (hr : Srt l) : popB (mustB (shadowOf X Y Z l)).toNat ≤ l.length ∧ Sat (needsB (shadowOf X Y Z l)) (mustB (shadowOf X Y Z l)) (fun i => (0 : B64).getLsbD i = true) (l.length - popB (mustB (shadowOf X Y Z l)).toNat) := by
  have hn := idx_nodup hs hi hr
  have hp := pop_filter (v := mustB (shadowOf X Y Z l)) hn (fun i h => by
    obtain ⟨c, hc, rfl⟩ := must_own hs hi h
    exact List.mem_map_of_mem hc)
  have hsplit := filter_split2 (fun i => (mustB (shadowOf X Y Z l)).getLsbD i) (l.map (idx Y Z))
  rw [List.length_map] at hsplit
  refine ⟨by omega, (l.map (idx Y Z)).filter fun i => !(mustB (shadowOf X Y Z l)).getLsbD i, by omega, fun i _ => by simp, fun v hv => ?_⟩
  obtain ⟨c, hc, hb⟩ := need_cube hs hi hv
  cases hm : (mustB (shadowOf X Y Z l)).getLsbD (idx Y Z c) with
  | true =>
    left
    intro hz
    have := (zero_iff _).1 hz (idx Y Z c)
    rw [BitVec.getLsbD_and, hb, hm] at this
    cases this
  | false => exact .inr ⟨idx Y Z c, List.mem_filter.2 ⟨List.mem_map_of_mem hc, by rw [hm]; rfl⟩, hb⟩

theorem l_fewest (s : D_Shadow) (ho : okSh s = true) (n : Nat) (hn : n ≤ 100) (hmn : popB (mustB s).toNat ≤ n) (hsat : Sat (needsB s) (mustB s) (fun i => (0 : B64).getLsbD i = true) (n - popB (mustB s).toNat)) : ∀ (d t m : Nat), t + d = n → popB (mustB s).toNat ≤ t → d < m →
    ∃ r : Nat, l_Shadow_fewest_4 m s.1 s.2.1 s.2.2.1 s.2.2.2.1 s.2.2.2.2.1 s.2.2.2.2.2.1 (t : Int) = some ((r : Int), true, ()) ∧ r ≤ n
  | d, t, 0, _, _, h => by omega
  | d, t, m + 1, ht, hpt, hm => by
    have hlen := needsB_len ho
    have e1 : P_Shadow_needs ((s.1, (s.2.1, (s.2.2.1, (s.2.2.2.1, (s.2.2.2.2.1, (s.2.2.2.2.2.1, ())))))), ()) = _ := f_needs s ho
    have e2 : P_Shadow_must ((s.1, (s.2.1, (s.2.2.1, (s.2.2.2.1, (s.2.2.2.2.1, (s.2.2.2.2.2.1, ())))))), ()) = _ := f_must s ho
    have ew : IntKind.wrap .i64 ((t : Int) - ((popB (mustB s).toNat : Nat) : Int)) = ((t - popB (mustB s).toNat : Nat) : Int) := by rw [w64 (by omega) (by omega)]; omega
    obtain ⟨b, e3, hb⟩ := f_canMeet (ns := needsB s) (by omega) (t - popB (mustB s).toNat) N (by omega) (by have := N_ge; omega) (mustB s) 0
    have e3' : P_impl_canMeet (nums (needsB s), ((mustB s).toNat : Int), 0, ((t - popB (mustB s).toNat : Nat) : Int), ()) = some (b, ()) := e3
    rw [q_Shadow_fewest_4, e1, e2]
    simp only [Option.bind_some]
    rw [f_count]
    simp only [Option.bind_some]
    rw [ew, e3']
    simp only [Option.bind_some]
    cases hbv : b with
    | true => exact ⟨t, rfl, by omega⟩
    | false =>
      simp only [Bool.not_false, cond_true]
      have htn : t ≠ n := fun h => by
        rw [h] at hb
        have := hb.2 hsat
        rw [hbv] at this
        cases this
      rw [succI t (by omega)]
      exact l_fewest s ho n hn hmn hsat (d - 1) (t + 1) m (by omega) (by omega) (by omega)

theorem f_fewest_own {X Y Z : Int} (hs : sides X Y Z = true) {l : List D_A3} (hi : Ins X Y Z l) (hr : Srt l) : ∃ (r : Int) (b : Bool), P_impl_FewestCubes (shadowOf X Y Z l, ()) = some (r, b, ()) ∧ (b = true → r ≤ (l.length : Int)) := by
  have h64 := srt_small64 hs hi hr
  have ho := shadowOf_ok hs l
  obtain ⟨h1, h2⟩ := sat_own hs hi hr
  rw [p_impl_FewestCubes, p_Shadow_fewest, f_isFitting _ (shadowOf_small X Y Z l hs), ho]
  simp only [Option.bind_some, Bool.true_and]
  cases hf : fitsB (shadowOf X Y Z l) with
  | false => exact ⟨0, false, rfl, fun h => by cases h⟩
  | true =>
    simp only [Bool.not_true, cond_false]
    rw [p_Shadow_box]
    simp only [Option.bind_some]
    have es : P_box_size (((shadowOf X Y Z l).1, ((shadowOf X Y Z l).2.1, ((shadowOf X Y Z l).2.2.1, ()))), ()) = _ := f_size hs
    rw [es]
    simp only [Option.bind_some]
    have eb : decide (((((shadowOf X Y Z l).1 * (shadowOf X Y Z l).2.1 * (shadowOf X Y Z l).2.2.1).toNat : Nat) : Int) > 27) = decide ((((X * Y * Z).toNat : Nat) : Int) > 27) := rfl
    rw [eb]
    cases decide ((((X * Y * Z).toNat : Nat) : Int) > 27) with
    | true => exact ⟨0, false, rfl, fun h => by cases h⟩
    | false =>
      simp only [cond_false]
      rw [f_must _ ho]
      simp only [Option.bind_some]
      rw [f_count]
      simp only [Option.bind_some]
      obtain ⟨r, e, hle⟩ := l_fewest (shadowOf X Y Z l) ho l.length (by omega) h1 h2 (l.length - popB (mustB (shadowOf X Y Z l)).toNat) (popB (mustB (shadowOf X Y Z l)).toNat) N (by omega) (Nat.le_refl _) (by have := N_ge; omega)
      rw [e]
      exact ⟨r, true, rfl, fun _ => by omega⟩

/-! ### The gap is not negative -/
theorem lit_map : ∀ (l : List Int) (a : Int), l.foldl (· + ·) a = a + l.foldl (· + ·) 0
  | [], a => by simp
  | x :: l, a => by
    rw [List.foldl_cons, List.foldl_cons, lit_map l (a + x), lit_map l (0 + x)]
    omega

theorem lit_append (a b : List Int) : lit (a ++ b) = lit a + lit b := by
  unfold lit
  rw [List.foldl_append, lit_map]

theorem lit_nil {X Y Z d : Int} : lit (shD X Y Z d []) = 0 := by
  have : ∀ n : Nat, lit (List.replicate n 0) = 0 := fun n => by
    induction n with
    | zero => rfl
    | succ n ih =>
      rw [List.replicate_succ']
      rw [lit_append, ih]
      rfl
  have e : shD X Y Z d [] = List.replicate (linesD X Y Z d).toNat 0 := by
    unfold shD
    simp [List.map_const']
  rw [e, this]

theorem sum_le : ∀ (n : Nat) (f g : Nat → Int), (∀ i, f i ≤ g i) → lit ((List.range n).map f) ≤ lit ((List.range n).map g)
  | 0, _, _, _ => Int.le_refl _
  | n + 1, f, g, h => by
    rw [List.range_succ, List.map_append, List.map_append, lit_append, lit_append]
    have := sum_le n f g h
    have := h n
    show lit _ + (0 + f n) ≤ lit _ + (0 + g n)
    omega

theorem sum_add : ∀ (n : Nat) (f g : Nat → Int), lit ((List.range n).map fun i => f i + g i) = lit ((List.range n).map f) + lit ((List.range n).map g)
  | 0, _, _ => rfl
  | n + 1, f, g => by
    rw [List.range_succ, List.map_append, List.map_append, List.map_append, lit_append, lit_append, lit_append, sum_add n]
    show _ + (0 + (f n + g n)) = (_ + (0 + f n)) + (_ + (0 + g n))
    omega

theorem sum_one (k : Nat) : ∀ n : Nat, lit ((List.range n).map fun i : Nat => if (k : Int) = (i : Int) then 1 else 0) ≤ 1 ∧ (n ≤ k → lit ((List.range n).map fun i : Nat => if (k : Int) = (i : Int) then 1 else 0) = 0)
  | 0 => ⟨by rw [List.range_zero, List.map_nil]; decide, fun _ => rfl⟩
  | n + 1 => by
    obtain ⟨h1, h2⟩ := sum_one k n
    rw [List.range_succ, List.map_append, lit_append]
    have e : lit ([n].map fun i : Nat => if (k : Int) = (i : Int) then 1 else 0) = if (k : Int) = (n : Int) then 1 else 0 := by
      simp [lit]
    rw [e]
    refine ⟨?_, fun h => ?_⟩
    · by_cases hk : (k : Int) = (n : Int)
      · rw [if_pos hk, h2 (by omega)]; decide
      · rw [if_neg hk]; omega
    · rw [if_neg (by omega), h2 (by omega)]; rfl

theorem lit_le {X Y Z : Int} (hs : sides X Y Z = true) {d : Int} (d0 : 0 ≤ d) (d1 : d ≤ 2) : ∀ l : List D_A3, Ins X Y Z l → lit (shD X Y Z d l) ≤ l.length
  | [], _ => by rw [lit_nil]; simp
  | c :: l, hi => by
    have ih := lit_le hs d0 d1 l fun x hx => hi x (List.mem_cons_of_mem _ hx)
    obtain ⟨h1, h2, _⟩ := lineD_ok hs d0 d1 (hi c (List.mem_cons_self ..))
    obtain ⟨k, hk⟩ : ∃ k : Nat, lineD X Y Z d c = (k : Int) := ⟨(lineD X Y Z d c).toNat, by omega⟩
    have hle : lit (shD X Y Z d (c :: l)) ≤ lit ((List.range (linesD X Y Z d).toNat).map fun i : Nat => (if (k : Int) = (i : Int) then 1 else 0) + (if l.any fun c => decide (lineD X Y Z d c = (i : Int)) then 1 else 0)) := by
      refine sum_le _ _ _ fun i => ?_
      rw [List.any_cons, hk]
      by_cases e : (k : Int) = (i : Int)
      · rw [decide_eq_true e, if_pos e]
        simp only [Bool.true_or, if_true]
        split <;> omega
      · rw [decide_eq_false e, if_neg e, Bool.false_or]
        split <;> omega
    rw [sum_add] at hle
    have h3 := (sum_one k (linesD X Y Z d).toNat).1
    have e2 : lit ((List.range (linesD X Y Z d).toNat).map fun i : Nat => if l.any fun c => decide (lineD X Y Z d c = (i : Int)) then 1 else 0) = lit (shD X Y Z d l) := rfl
    rw [e2] at hle
    rw [List.length_cons]
    omega

theorem bound_le {X Y Z : Int} (hs : sides X Y Z = true) {l : List D_A3} (hi : Ins X Y Z l) : 0 ≤ bound (shadowOf X Y Z l) ∧ bound (shadowOf X Y Z l) ≤ l.length := by
  have e0 : listD (shadowOf X Y Z l) 0 = shD X Y Z 0 l := rfl
  have e1 : listD (shadowOf X Y Z l) 1 = shD X Y Z 1 l := rfl
  have e2 : listD (shadowOf X Y Z l) 2 = shD X Y Z 2 l := rfl
  have h0 := lit_le hs (d := 0) (by decide) (by decide) l hi
  have h1 := lit_le hs (d := 1) (by decide) (by decide) l hi
  have h2 := lit_le hs (d := 2) (by decide) (by decide) l hi
  have p0 := (lit_ok (ones_shD hs (d := 0) (by decide) (by decide) l) (lines_ok hs (by decide) (by decide)).2).1
  have p1 := (lit_ok (ones_shD hs (d := 1) (by decide) (by decide) l) (lines_ok hs (by decide) (by decide)).2).1
  have p2 := (lit_ok (ones_shD hs (d := 2) (by decide) (by decide) l) (lines_ok hs (by decide) (by decide)).2).1
  unfold bound
  rw [e0, e1, e2, mx_eq, mx_eq, mx_eq]
  split <;> split <;> split <;> omega

theorem f_ShadowsOf {h : D_Heap} (hl : Small h.2.2.2.1) (ho : okHeap h = true) : P_impl_ShadowsOf (h, ()) = some (shadowOf h.1 h.2.1 h.2.2.1 h.2.2.2.1, true, ()) := by
  obtain ⟨hs, hi, hr⟩ := okHeap_iff.1 ho
  have e1 : P_Heap_cubes (h, ()) = _ := f_Heap_cubes hs hl hi
  rw [p_impl_ShadowsOf, f_impl_IsHeap _ hl, ho]
  simp only [Option.bind_some, Bool.not_true, cond_false]
  rw [f_Heap_box, e1]
  simp only [Option.bind_some]
  rw [f_shadowB hs, listOf_mask hs hi hr]
  rfl

theorem law_Gaps (C : List Int) (hb : ∀ b ∈ C, 0 ≤ b ∧ b ≤ 255) : P_laws_FnGaps (C, ()) = some (true, ()) := by
  rw [p_laws_FnGaps, p_laws_vBig]
  simp only [Option.bind_some]
  by_cases hbig : ((C.length : Nat) : Int) > 65536
  · rw [decide_eq_true hbig]; rfl
  rw [decide_eq_false hbig]
  have hC : Bts C := ⟨by omega, hb⟩
  obtain ⟨b, e0, hsm⟩ := d_ShadowGap hC
  simp only [cond_false]
  rw [e0]
  simp only [Option.bind_some]
  rw [f_impl_ShadowGap b hsm, f_spec_ShadowGap b hsm]
  simp only [Option.bind_some]
  simp only [decide_true, Bool.not_true, cond_false, beq_self_eq_true]
  rw [f_spec_IsBench b hsm]
  unfold gapV
  cases ho : okBench b with
  | false => rfl
  | true =>
    have hoh := okBench_heap ho
    obtain ⟨hs, hi, hr⟩ := okHeap_iff.1 hoh
    have h64 := srt_small64 hs hi hr
    simp only [if_true, Bool.not_true, cond_false]
    rw [f_ShadowsOf hsm hoh]
    simp only [Option.bind_some]
    rw [f_LineBound _ (shadowOf_small _ _ _ _ hs), shadowOf_ok hs]
    simp only [if_true, Option.bind_some, Bool.not_true, cond_false]
    obtain ⟨b0, b1⟩ := bound_le hs hi
    simp only [decide_true, Bool.not_true, cond_false]
    rw [w64 (by omega) (by omega), decide_eq_false (by omega)]
    simp only [cond_false]
    obtain ⟨r, f, e5, hf⟩ := f_fewest_own hs hi hr
    rw [e5]
    simp only [Option.bind_some]
    cases hfv : f with
    | false => rfl
    | true =>
      simp only [Bool.not_true, cond_false]
      rw [decide_eq_true (hf hfv)]
end Go.VI
