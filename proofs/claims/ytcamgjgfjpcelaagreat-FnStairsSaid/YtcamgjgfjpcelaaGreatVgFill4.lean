/- The staircases' closure 'fill': a node behind others, one way each. -/
import Derived.Test.YtcamgjgfjpcelaaGreatVgFill3
namespace Go.VI
open Go.Proofs Go.RowKit
set_option maxRecDepth 100000
theorem fill_node_A1 {tb B O K base : Nat} {X : Int} {y : Nat} {Z : Int} {d : Nat} (ih : FillC tb B O K base X y Z d) (htb : tb ≠ 3 ∧ tb ≠ 30) (hX : 1 ≤ X ∧ X ≤ 4) (hY : 1 ≤ y ∧ y ≤ 4) (hZ : 1 ≤ Z ∧ Z ≤ 4)
    {L : List Int} {g cap : Nat} {ov : Value} {rows : List (List Int)} {Zi : Nat → Prop} {w : World} (h : FillW tb B O K base X y Z Zi ov rows (.slice (some ⟨g, 0, none⟩) L.length cap) L w) (hd : (L.length : Int) + (d + 1 : Nat) = X * y)
    (hL : ∀ x ∈ L, 0 ≤ x ∧ x ≤ 4) (h1 : 1 ≤ L.length) {p q : Int} (hb : (0 : Int) < (L.length : Int) % (y : Int)) (hqb : 0 ≤ q ∧ q ≤ 4) (cb : w.cell? ⟨g, L.length - 1, none⟩ = some (.int .i64 q)) (ha : y ≤ L.length) (hpb : 0 ≤ p ∧ p ≤ 4) (ca : w.cell? ⟨g, L.length - y, none⟩ = some (.int .i64 p)) (c0 : p < Z) (c1 : q < p) (top : Nat) (htop : (top : Int) = q + 1) (hr : rows.length + (flatN y Z d L top).length ≤ 200000000000) :
    Calls Tryz.prog 175 #[.slice (some ⟨g, 0, none⟩) L.length cap, ptrTo B, ptrTo O, ptrTo K] w fun e w' => ∃ ov' Zi', e = .returned (.tuple #[]) ∧ FillW tb B O K base X y Z Zi' ov' (rows ++ flatN y Z d L top) (.slice (some ⟨g, 0, none⟩) L.length cap) L w' ∧ FillR O w w' ov ov' (.slice (some ⟨g, 0, none⟩) L.length cap) Zi Zi' := by
  have cB0 : w.cell? ⟨B, 0, none⟩ = some (.int .i64 X) := by simp [World.cell?, h.box]
  have cB1 : w.cell? ⟨B, 1, none⟩ = some (.int .i64 y) := by simp [World.cell?, h.box]
  have cB2 : w.cell? ⟨B, 2, none⟩ = some (.int .i64 Z) := by simp [World.cell?, h.box]
  have hgK : (Value.slice (some ⟨g, 0, none⟩) L.length cap).ownBlock ≠ some K := tag_ne h.lst h.fn (by decide)
  obtain ⟨i0, hi, hz0, hz1, hz2⟩ := info_parts info3
  have hb16 : X * (y : Int) ≤ 16 := by
    obtain ⟨yi, hyi⟩ : ∃ yi : Int, yi = (y : Int) := ⟨_, rfl⟩
    rw [← hyi]
    rcases fourV hX.1 hX.2 with rfl | rfl | rfl | rfl <;> omega
  have hb0 : (1 : Int) ≤ X * (y : Int) := by omega
  have hn16 : L.length < 16 := by omega
  have hne : ((L.length : Int) == X * (y : Int)) = false := by simp; omega
  have hcar := carry_zero (d := d) h
  unfold ptrTo
  go_enter Tryz.func175, Tryz.ntmps175
  clear h
  go_wp2
  go_loopw [51] (fun i wr => ∃ k : Nat, k ≤ top ∧ i = .int .i64 k ∧ Carry tb B O K base X y Z d L (.slice (some ⟨g, 0, none⟩) L.length cap) ov rows Zi w k wr)
    (fun i _ => top - (intOf i).toNat)
  case atStart => exact ⟨0, Nat.zero_le _, rfl, hcar⟩
  case round =>
    obtain ⟨k, hk, rfl, hc⟩ := hrel
    obtain ⟨cK, hl, hKlt, hbs⟩ := hc.fn
    by_cases hlt : k < top
    · have hcalls := fun (v' : Value) (w2 : World) => round_call (v' := v') (w2 := w2) ih htb hc hd hL hlt (by omega) hr
      obtain ⟨p1, p2⟩ := round_pre hl cK (.cells #[.int .i64 (k : Int)] 3)
      have hbs1 : base ≤ (wr.drew.alloc (.cells #[.int .i64 (k : Int)] 3)).heap.size := by rw [show (wr.drew.alloc (.cells #[.int .i64 (k : Int)] 3)).heap.size = wr.heap.size + 1 from Array.size_push _]; omega
      clear hc hd hr hcar hL
      unfold ptrTo at hcalls
      go_wp2
      go_region_law (first
        | (refine step_is rfl (wp_append_own3 _ (.tmp 55) (.tmp 57) 30 30 rfl base 3 i0 (.int .i64 0) 1 8 Tryz.underlying30 hi hz0 hz1 hz2 rfl (.slice (some ⟨g, 0, none⟩) L.length cap) L.length (ints L) rfl p2 (.slice (some ⟨wr.heap.size, 0, none⟩) 1 1) 1 [.int .i64 (k : Int)] rfl (one_src wr.drew 30 3 _ Tryz.underlying30 rfl) (by decide) (by unfold maxLen; omega) (by omega) hbs1 ?_); intro v' w2 hv' hgr' hprov'; have q1 := grown_cell hgr' (p1 _) hgK; have hcall := hcalls v' w2 hv' hgr' hprov')
        | (refine step_is rfl (wp_call2 (run_callv (t := 54) rfl rfl) hcall ?_); rintro v w3 ⟨rfl, hcar3⟩))
      all_goals (clear hcall hcalls hv' hgr' hprov' p1 p2 q1 hl hbs1 cK; go_wp2; go_roundw)
      all_goals first
        | exact ⟨k + 1, by omega, by go_num, hcar3⟩
        | (simp [intOf]; omega)
    · obtain rfl : k = top := by omega
      obtain ⟨ovk, Zk, g1, g2⟩ := hc
      go_wp2
      go_end0
      exact ⟨ovk, Zk, rfl, g1, g2⟩
theorem fill_node_A2 {tb B O K base : Nat} {X : Int} {y : Nat} {Z : Int} {d : Nat} (ih : FillC tb B O K base X y Z d) (htb : tb ≠ 3 ∧ tb ≠ 30) (hX : 1 ≤ X ∧ X ≤ 4) (hY : 1 ≤ y ∧ y ≤ 4) (hZ : 1 ≤ Z ∧ Z ≤ 4)
    {L : List Int} {g cap : Nat} {ov : Value} {rows : List (List Int)} {Zi : Nat → Prop} {w : World} (h : FillW tb B O K base X y Z Zi ov rows (.slice (some ⟨g, 0, none⟩) L.length cap) L w) (hd : (L.length : Int) + (d + 1 : Nat) = X * y)
    (hL : ∀ x ∈ L, 0 ≤ x ∧ x ≤ 4) (h1 : 1 ≤ L.length) {p q : Int} (hb : (0 : Int) < (L.length : Int) % (y : Int)) (hqb : 0 ≤ q ∧ q ≤ 4) (cb : w.cell? ⟨g, L.length - 1, none⟩ = some (.int .i64 q)) (ha : y ≤ L.length) (hpb : 0 ≤ p ∧ p ≤ 4) (ca : w.cell? ⟨g, L.length - y, none⟩ = some (.int .i64 p)) (c0 : p < Z) (c1 : p ≤ q) (top : Nat) (htop : (top : Int) = p + 1) (hr : rows.length + (flatN y Z d L top).length ≤ 200000000000) :
    Calls Tryz.prog 175 #[.slice (some ⟨g, 0, none⟩) L.length cap, ptrTo B, ptrTo O, ptrTo K] w fun e w' => ∃ ov' Zi', e = .returned (.tuple #[]) ∧ FillW tb B O K base X y Z Zi' ov' (rows ++ flatN y Z d L top) (.slice (some ⟨g, 0, none⟩) L.length cap) L w' ∧ FillR O w w' ov ov' (.slice (some ⟨g, 0, none⟩) L.length cap) Zi Zi' := by
  have cB0 : w.cell? ⟨B, 0, none⟩ = some (.int .i64 X) := by simp [World.cell?, h.box]
  have cB1 : w.cell? ⟨B, 1, none⟩ = some (.int .i64 y) := by simp [World.cell?, h.box]
  have cB2 : w.cell? ⟨B, 2, none⟩ = some (.int .i64 Z) := by simp [World.cell?, h.box]
  have hgK : (Value.slice (some ⟨g, 0, none⟩) L.length cap).ownBlock ≠ some K := tag_ne h.lst h.fn (by decide)
  obtain ⟨i0, hi, hz0, hz1, hz2⟩ := info_parts info3
  have hb16 : X * (y : Int) ≤ 16 := by
    obtain ⟨yi, hyi⟩ : ∃ yi : Int, yi = (y : Int) := ⟨_, rfl⟩
    rw [← hyi]
    rcases fourV hX.1 hX.2 with rfl | rfl | rfl | rfl <;> omega
  have hb0 : (1 : Int) ≤ X * (y : Int) := by omega
  have hn16 : L.length < 16 := by omega
  have hne : ((L.length : Int) == X * (y : Int)) = false := by simp; omega
  have hcar := carry_zero (d := d) h
  unfold ptrTo
  go_enter Tryz.func175, Tryz.ntmps175
  clear h
  go_wp2
  go_loopw [51] (fun i wr => ∃ k : Nat, k ≤ top ∧ i = .int .i64 k ∧ Carry tb B O K base X y Z d L (.slice (some ⟨g, 0, none⟩) L.length cap) ov rows Zi w k wr)
    (fun i _ => top - (intOf i).toNat)
  case atStart => exact ⟨0, Nat.zero_le _, rfl, hcar⟩
  case round =>
    obtain ⟨k, hk, rfl, hc⟩ := hrel
    obtain ⟨cK, hl, hKlt, hbs⟩ := hc.fn
    by_cases hlt : k < top
    · have hcalls := fun (v' : Value) (w2 : World) => round_call (v' := v') (w2 := w2) ih htb hc hd hL hlt (by omega) hr
      obtain ⟨p1, p2⟩ := round_pre hl cK (.cells #[.int .i64 (k : Int)] 3)
      have hbs1 : base ≤ (wr.drew.alloc (.cells #[.int .i64 (k : Int)] 3)).heap.size := by rw [show (wr.drew.alloc (.cells #[.int .i64 (k : Int)] 3)).heap.size = wr.heap.size + 1 from Array.size_push _]; omega
      clear hc hd hr hcar hL
      unfold ptrTo at hcalls
      go_wp2
      go_region_law (first
        | (refine step_is rfl (wp_append_own3 _ (.tmp 55) (.tmp 57) 30 30 rfl base 3 i0 (.int .i64 0) 1 8 Tryz.underlying30 hi hz0 hz1 hz2 rfl (.slice (some ⟨g, 0, none⟩) L.length cap) L.length (ints L) rfl p2 (.slice (some ⟨wr.heap.size, 0, none⟩) 1 1) 1 [.int .i64 (k : Int)] rfl (one_src wr.drew 30 3 _ Tryz.underlying30 rfl) (by decide) (by unfold maxLen; omega) (by omega) hbs1 ?_); intro v' w2 hv' hgr' hprov'; have q1 := grown_cell hgr' (p1 _) hgK; have hcall := hcalls v' w2 hv' hgr' hprov')
        | (refine step_is rfl (wp_call2 (run_callv (t := 54) rfl rfl) hcall ?_); rintro v w3 ⟨rfl, hcar3⟩))
      all_goals (clear hcall hcalls hv' hgr' hprov' p1 p2 q1 hl hbs1 cK; go_wp2; go_roundw)
      all_goals first
        | exact ⟨k + 1, by omega, by go_num, hcar3⟩
        | (simp [intOf]; omega)
    · obtain rfl : k = top := by omega
      obtain ⟨ovk, Zk, g1, g2⟩ := hc
      go_wp2
      go_end0
      exact ⟨ovk, Zk, rfl, g1, g2⟩
theorem fill_node_A3 {tb B O K base : Nat} {X : Int} {y : Nat} {Z : Int} {d : Nat} (ih : FillC tb B O K base X y Z d) (htb : tb ≠ 3 ∧ tb ≠ 30) (hX : 1 ≤ X ∧ X ≤ 4) (hY : 1 ≤ y ∧ y ≤ 4) (hZ : 1 ≤ Z ∧ Z ≤ 4)
    {L : List Int} {g cap : Nat} {ov : Value} {rows : List (List Int)} {Zi : Nat → Prop} {w : World} (h : FillW tb B O K base X y Z Zi ov rows (.slice (some ⟨g, 0, none⟩) L.length cap) L w) (hd : (L.length : Int) + (d + 1 : Nat) = X * y)
    (hL : ∀ x ∈ L, 0 ≤ x ∧ x ≤ 4) (h1 : 1 ≤ L.length) {p q : Int} (hb : (0 : Int) < (L.length : Int) % (y : Int)) (hqb : 0 ≤ q ∧ q ≤ 4) (cb : w.cell? ⟨g, L.length - 1, none⟩ = some (.int .i64 q)) (ha : y ≤ L.length) (hpb : 0 ≤ p ∧ p ≤ 4) (ca : w.cell? ⟨g, L.length - y, none⟩ = some (.int .i64 p)) (c0 : Z ≤ p) (c1 : q < Z) (top : Nat) (htop : (top : Int) = q + 1) (hr : rows.length + (flatN y Z d L top).length ≤ 200000000000) :
    Calls Tryz.prog 175 #[.slice (some ⟨g, 0, none⟩) L.length cap, ptrTo B, ptrTo O, ptrTo K] w fun e w' => ∃ ov' Zi', e = .returned (.tuple #[]) ∧ FillW tb B O K base X y Z Zi' ov' (rows ++ flatN y Z d L top) (.slice (some ⟨g, 0, none⟩) L.length cap) L w' ∧ FillR O w w' ov ov' (.slice (some ⟨g, 0, none⟩) L.length cap) Zi Zi' := by
  have cB0 : w.cell? ⟨B, 0, none⟩ = some (.int .i64 X) := by simp [World.cell?, h.box]
  have cB1 : w.cell? ⟨B, 1, none⟩ = some (.int .i64 y) := by simp [World.cell?, h.box]
  have cB2 : w.cell? ⟨B, 2, none⟩ = some (.int .i64 Z) := by simp [World.cell?, h.box]
  have hgK : (Value.slice (some ⟨g, 0, none⟩) L.length cap).ownBlock ≠ some K := tag_ne h.lst h.fn (by decide)
  obtain ⟨i0, hi, hz0, hz1, hz2⟩ := info_parts info3
  have hb16 : X * (y : Int) ≤ 16 := by
    obtain ⟨yi, hyi⟩ : ∃ yi : Int, yi = (y : Int) := ⟨_, rfl⟩
    rw [← hyi]
    rcases fourV hX.1 hX.2 with rfl | rfl | rfl | rfl <;> omega
  have hb0 : (1 : Int) ≤ X * (y : Int) := by omega
  have hn16 : L.length < 16 := by omega
  have hne : ((L.length : Int) == X * (y : Int)) = false := by simp; omega
  have hcar := carry_zero (d := d) h
  unfold ptrTo
  go_enter Tryz.func175, Tryz.ntmps175
  clear h
  go_wp2
  go_loopw [51] (fun i wr => ∃ k : Nat, k ≤ top ∧ i = .int .i64 k ∧ Carry tb B O K base X y Z d L (.slice (some ⟨g, 0, none⟩) L.length cap) ov rows Zi w k wr)
    (fun i _ => top - (intOf i).toNat)
  case atStart => exact ⟨0, Nat.zero_le _, rfl, hcar⟩
  case round =>
    obtain ⟨k, hk, rfl, hc⟩ := hrel
    obtain ⟨cK, hl, hKlt, hbs⟩ := hc.fn
    by_cases hlt : k < top
    · have hcalls := fun (v' : Value) (w2 : World) => round_call (v' := v') (w2 := w2) ih htb hc hd hL hlt (by omega) hr
      obtain ⟨p1, p2⟩ := round_pre hl cK (.cells #[.int .i64 (k : Int)] 3)
      have hbs1 : base ≤ (wr.drew.alloc (.cells #[.int .i64 (k : Int)] 3)).heap.size := by rw [show (wr.drew.alloc (.cells #[.int .i64 (k : Int)] 3)).heap.size = wr.heap.size + 1 from Array.size_push _]; omega
      clear hc hd hr hcar hL
      unfold ptrTo at hcalls
      go_wp2
      go_region_law (first
        | (refine step_is rfl (wp_append_own3 _ (.tmp 55) (.tmp 57) 30 30 rfl base 3 i0 (.int .i64 0) 1 8 Tryz.underlying30 hi hz0 hz1 hz2 rfl (.slice (some ⟨g, 0, none⟩) L.length cap) L.length (ints L) rfl p2 (.slice (some ⟨wr.heap.size, 0, none⟩) 1 1) 1 [.int .i64 (k : Int)] rfl (one_src wr.drew 30 3 _ Tryz.underlying30 rfl) (by decide) (by unfold maxLen; omega) (by omega) hbs1 ?_); intro v' w2 hv' hgr' hprov'; have q1 := grown_cell hgr' (p1 _) hgK; have hcall := hcalls v' w2 hv' hgr' hprov')
        | (refine step_is rfl (wp_call2 (run_callv (t := 54) rfl rfl) hcall ?_); rintro v w3 ⟨rfl, hcar3⟩))
      all_goals (clear hcall hcalls hv' hgr' hprov' p1 p2 q1 hl hbs1 cK; go_wp2; go_roundw)
      all_goals first
        | exact ⟨k + 1, by omega, by go_num, hcar3⟩
        | (simp [intOf]; omega)
    · obtain rfl : k = top := by omega
      obtain ⟨ovk, Zk, g1, g2⟩ := hc
      go_wp2
      go_end0
      exact ⟨ovk, Zk, rfl, g1, g2⟩
theorem fill_node_A4 {tb B O K base : Nat} {X : Int} {y : Nat} {Z : Int} {d : Nat} (ih : FillC tb B O K base X y Z d) (htb : tb ≠ 3 ∧ tb ≠ 30) (hX : 1 ≤ X ∧ X ≤ 4) (hY : 1 ≤ y ∧ y ≤ 4) (hZ : 1 ≤ Z ∧ Z ≤ 4)
    {L : List Int} {g cap : Nat} {ov : Value} {rows : List (List Int)} {Zi : Nat → Prop} {w : World} (h : FillW tb B O K base X y Z Zi ov rows (.slice (some ⟨g, 0, none⟩) L.length cap) L w) (hd : (L.length : Int) + (d + 1 : Nat) = X * y)
    (hL : ∀ x ∈ L, 0 ≤ x ∧ x ≤ 4) (h1 : 1 ≤ L.length) {p q : Int} (hb : (0 : Int) < (L.length : Int) % (y : Int)) (hqb : 0 ≤ q ∧ q ≤ 4) (cb : w.cell? ⟨g, L.length - 1, none⟩ = some (.int .i64 q)) (ha : y ≤ L.length) (hpb : 0 ≤ p ∧ p ≤ 4) (ca : w.cell? ⟨g, L.length - y, none⟩ = some (.int .i64 p)) (c0 : Z ≤ p) (c1 : Z ≤ q) (top : Nat) (htop : (top : Int) = Z + 1) (hr : rows.length + (flatN y Z d L top).length ≤ 200000000000) :
    Calls Tryz.prog 175 #[.slice (some ⟨g, 0, none⟩) L.length cap, ptrTo B, ptrTo O, ptrTo K] w fun e w' => ∃ ov' Zi', e = .returned (.tuple #[]) ∧ FillW tb B O K base X y Z Zi' ov' (rows ++ flatN y Z d L top) (.slice (some ⟨g, 0, none⟩) L.length cap) L w' ∧ FillR O w w' ov ov' (.slice (some ⟨g, 0, none⟩) L.length cap) Zi Zi' := by
  have cB0 : w.cell? ⟨B, 0, none⟩ = some (.int .i64 X) := by simp [World.cell?, h.box]
  have cB1 : w.cell? ⟨B, 1, none⟩ = some (.int .i64 y) := by simp [World.cell?, h.box]
  have cB2 : w.cell? ⟨B, 2, none⟩ = some (.int .i64 Z) := by simp [World.cell?, h.box]
  have hgK : (Value.slice (some ⟨g, 0, none⟩) L.length cap).ownBlock ≠ some K := tag_ne h.lst h.fn (by decide)
  obtain ⟨i0, hi, hz0, hz1, hz2⟩ := info_parts info3
  have hb16 : X * (y : Int) ≤ 16 := by
    obtain ⟨yi, hyi⟩ : ∃ yi : Int, yi = (y : Int) := ⟨_, rfl⟩
    rw [← hyi]
    rcases fourV hX.1 hX.2 with rfl | rfl | rfl | rfl <;> omega
  have hb0 : (1 : Int) ≤ X * (y : Int) := by omega
  have hn16 : L.length < 16 := by omega
  have hne : ((L.length : Int) == X * (y : Int)) = false := by simp; omega
  have hcar := carry_zero (d := d) h
  unfold ptrTo
  go_enter Tryz.func175, Tryz.ntmps175
  clear h
  go_wp2
  go_loopw [51] (fun i wr => ∃ k : Nat, k ≤ top ∧ i = .int .i64 k ∧ Carry tb B O K base X y Z d L (.slice (some ⟨g, 0, none⟩) L.length cap) ov rows Zi w k wr)
    (fun i _ => top - (intOf i).toNat)
  case atStart => exact ⟨0, Nat.zero_le _, rfl, hcar⟩
  case round =>
    obtain ⟨k, hk, rfl, hc⟩ := hrel
    obtain ⟨cK, hl, hKlt, hbs⟩ := hc.fn
    by_cases hlt : k < top
    · have hcalls := fun (v' : Value) (w2 : World) => round_call (v' := v') (w2 := w2) ih htb hc hd hL hlt (by omega) hr
      obtain ⟨p1, p2⟩ := round_pre hl cK (.cells #[.int .i64 (k : Int)] 3)
      have hbs1 : base ≤ (wr.drew.alloc (.cells #[.int .i64 (k : Int)] 3)).heap.size := by rw [show (wr.drew.alloc (.cells #[.int .i64 (k : Int)] 3)).heap.size = wr.heap.size + 1 from Array.size_push _]; omega
      clear hc hd hr hcar hL
      unfold ptrTo at hcalls
      go_wp2
      go_region_law (first
        | (refine step_is rfl (wp_append_own3 _ (.tmp 55) (.tmp 57) 30 30 rfl base 3 i0 (.int .i64 0) 1 8 Tryz.underlying30 hi hz0 hz1 hz2 rfl (.slice (some ⟨g, 0, none⟩) L.length cap) L.length (ints L) rfl p2 (.slice (some ⟨wr.heap.size, 0, none⟩) 1 1) 1 [.int .i64 (k : Int)] rfl (one_src wr.drew 30 3 _ Tryz.underlying30 rfl) (by decide) (by unfold maxLen; omega) (by omega) hbs1 ?_); intro v' w2 hv' hgr' hprov'; have q1 := grown_cell hgr' (p1 _) hgK; have hcall := hcalls v' w2 hv' hgr' hprov')
        | (refine step_is rfl (wp_call2 (run_callv (t := 54) rfl rfl) hcall ?_); rintro v w3 ⟨rfl, hcar3⟩))
      all_goals (clear hcall hcalls hv' hgr' hprov' p1 p2 q1 hl hbs1 cK; go_wp2; go_roundw)
      all_goals first
        | exact ⟨k + 1, by omega, by go_num, hcar3⟩
        | (simp [intOf]; omega)
    · obtain rfl : k = top := by omega
      obtain ⟨ovk, Zk, g1, g2⟩ := hc
      go_wp2
      go_end0
      exact ⟨ovk, Zk, rfl, g1, g2⟩
theorem fill_node_B1 {tb B O K base : Nat} {X : Int} {y : Nat} {Z : Int} {d : Nat} (ih : FillC tb B O K base X y Z d) (htb : tb ≠ 3 ∧ tb ≠ 30) (hX : 1 ≤ X ∧ X ≤ 4) (hY : 1 ≤ y ∧ y ≤ 4) (hZ : 1 ≤ Z ∧ Z ≤ 4)
    {L : List Int} {g cap : Nat} {ov : Value} {rows : List (List Int)} {Zi : Nat → Prop} {w : World} (h : FillW tb B O K base X y Z Zi ov rows (.slice (some ⟨g, 0, none⟩) L.length cap) L w) (hd : (L.length : Int) + (d + 1 : Nat) = X * y)
    (hL : ∀ x ∈ L, 0 ≤ x ∧ x ≤ 4) (h1 : 1 ≤ L.length) {p : Int} (hb : (L.length : Int) % (y : Int) ≤ 0) (ha : y ≤ L.length) (hpb : 0 ≤ p ∧ p ≤ 4) (ca : w.cell? ⟨g, L.length - y, none⟩ = some (.int .i64 p)) (c0 : p < Z) (top : Nat) (htop : (top : Int) = p + 1) (hr : rows.length + (flatN y Z d L top).length ≤ 200000000000) :
    Calls Tryz.prog 175 #[.slice (some ⟨g, 0, none⟩) L.length cap, ptrTo B, ptrTo O, ptrTo K] w fun e w' => ∃ ov' Zi', e = .returned (.tuple #[]) ∧ FillW tb B O K base X y Z Zi' ov' (rows ++ flatN y Z d L top) (.slice (some ⟨g, 0, none⟩) L.length cap) L w' ∧ FillR O w w' ov ov' (.slice (some ⟨g, 0, none⟩) L.length cap) Zi Zi' := by
  have cB0 : w.cell? ⟨B, 0, none⟩ = some (.int .i64 X) := by simp [World.cell?, h.box]
  have cB1 : w.cell? ⟨B, 1, none⟩ = some (.int .i64 y) := by simp [World.cell?, h.box]
  have cB2 : w.cell? ⟨B, 2, none⟩ = some (.int .i64 Z) := by simp [World.cell?, h.box]
  have hgK : (Value.slice (some ⟨g, 0, none⟩) L.length cap).ownBlock ≠ some K := tag_ne h.lst h.fn (by decide)
  obtain ⟨i0, hi, hz0, hz1, hz2⟩ := info_parts info3
  have hb16 : X * (y : Int) ≤ 16 := by
    obtain ⟨yi, hyi⟩ : ∃ yi : Int, yi = (y : Int) := ⟨_, rfl⟩
    rw [← hyi]
    rcases fourV hX.1 hX.2 with rfl | rfl | rfl | rfl <;> omega
  have hb0 : (1 : Int) ≤ X * (y : Int) := by omega
  have hn16 : L.length < 16 := by omega
  have hne : ((L.length : Int) == X * (y : Int)) = false := by simp; omega
  have hcar := carry_zero (d := d) h
  unfold ptrTo
  go_enter Tryz.func175, Tryz.ntmps175
  clear h
  go_wp2
  go_loopw [51] (fun i wr => ∃ k : Nat, k ≤ top ∧ i = .int .i64 k ∧ Carry tb B O K base X y Z d L (.slice (some ⟨g, 0, none⟩) L.length cap) ov rows Zi w k wr)
    (fun i _ => top - (intOf i).toNat)
  case atStart => exact ⟨0, Nat.zero_le _, rfl, hcar⟩
  case round =>
    obtain ⟨k, hk, rfl, hc⟩ := hrel
    obtain ⟨cK, hl, hKlt, hbs⟩ := hc.fn
    by_cases hlt : k < top
    · have hcalls := fun (v' : Value) (w2 : World) => round_call (v' := v') (w2 := w2) ih htb hc hd hL hlt (by omega) hr
      obtain ⟨p1, p2⟩ := round_pre hl cK (.cells #[.int .i64 (k : Int)] 3)
      have hbs1 : base ≤ (wr.drew.alloc (.cells #[.int .i64 (k : Int)] 3)).heap.size := by rw [show (wr.drew.alloc (.cells #[.int .i64 (k : Int)] 3)).heap.size = wr.heap.size + 1 from Array.size_push _]; omega
      clear hc hd hr hcar hL
      unfold ptrTo at hcalls
      go_wp2
      go_region_law (first
        | (refine step_is rfl (wp_append_own3 _ (.tmp 55) (.tmp 57) 30 30 rfl base 3 i0 (.int .i64 0) 1 8 Tryz.underlying30 hi hz0 hz1 hz2 rfl (.slice (some ⟨g, 0, none⟩) L.length cap) L.length (ints L) rfl p2 (.slice (some ⟨wr.heap.size, 0, none⟩) 1 1) 1 [.int .i64 (k : Int)] rfl (one_src wr.drew 30 3 _ Tryz.underlying30 rfl) (by decide) (by unfold maxLen; omega) (by omega) hbs1 ?_); intro v' w2 hv' hgr' hprov'; have q1 := grown_cell hgr' (p1 _) hgK; have hcall := hcalls v' w2 hv' hgr' hprov')
        | (refine step_is rfl (wp_call2 (run_callv (t := 54) rfl rfl) hcall ?_); rintro v w3 ⟨rfl, hcar3⟩))
      all_goals (clear hcall hcalls hv' hgr' hprov' p1 p2 q1 hl hbs1 cK; go_wp2; go_roundw)
      all_goals first
        | exact ⟨k + 1, by omega, by go_num, hcar3⟩
        | (simp [intOf]; omega)
    · obtain rfl : k = top := by omega
      obtain ⟨ovk, Zk, g1, g2⟩ := hc
      go_wp2
      go_end0
      exact ⟨ovk, Zk, rfl, g1, g2⟩
theorem fill_node_B2 {tb B O K base : Nat} {X : Int} {y : Nat} {Z : Int} {d : Nat} (ih : FillC tb B O K base X y Z d) (htb : tb ≠ 3 ∧ tb ≠ 30) (hX : 1 ≤ X ∧ X ≤ 4) (hY : 1 ≤ y ∧ y ≤ 4) (hZ : 1 ≤ Z ∧ Z ≤ 4)
    {L : List Int} {g cap : Nat} {ov : Value} {rows : List (List Int)} {Zi : Nat → Prop} {w : World} (h : FillW tb B O K base X y Z Zi ov rows (.slice (some ⟨g, 0, none⟩) L.length cap) L w) (hd : (L.length : Int) + (d + 1 : Nat) = X * y)
    (hL : ∀ x ∈ L, 0 ≤ x ∧ x ≤ 4) (h1 : 1 ≤ L.length) {p : Int} (hb : (L.length : Int) % (y : Int) ≤ 0) (ha : y ≤ L.length) (hpb : 0 ≤ p ∧ p ≤ 4) (ca : w.cell? ⟨g, L.length - y, none⟩ = some (.int .i64 p)) (c0 : Z ≤ p) (top : Nat) (htop : (top : Int) = Z + 1) (hr : rows.length + (flatN y Z d L top).length ≤ 200000000000) :
    Calls Tryz.prog 175 #[.slice (some ⟨g, 0, none⟩) L.length cap, ptrTo B, ptrTo O, ptrTo K] w fun e w' => ∃ ov' Zi', e = .returned (.tuple #[]) ∧ FillW tb B O K base X y Z Zi' ov' (rows ++ flatN y Z d L top) (.slice (some ⟨g, 0, none⟩) L.length cap) L w' ∧ FillR O w w' ov ov' (.slice (some ⟨g, 0, none⟩) L.length cap) Zi Zi' := by
  have cB0 : w.cell? ⟨B, 0, none⟩ = some (.int .i64 X) := by simp [World.cell?, h.box]
  have cB1 : w.cell? ⟨B, 1, none⟩ = some (.int .i64 y) := by simp [World.cell?, h.box]
  have cB2 : w.cell? ⟨B, 2, none⟩ = some (.int .i64 Z) := by simp [World.cell?, h.box]
  have hgK : (Value.slice (some ⟨g, 0, none⟩) L.length cap).ownBlock ≠ some K := tag_ne h.lst h.fn (by decide)
  obtain ⟨i0, hi, hz0, hz1, hz2⟩ := info_parts info3
  have hb16 : X * (y : Int) ≤ 16 := by
    obtain ⟨yi, hyi⟩ : ∃ yi : Int, yi = (y : Int) := ⟨_, rfl⟩
    rw [← hyi]
    rcases fourV hX.1 hX.2 with rfl | rfl | rfl | rfl <;> omega
  have hb0 : (1 : Int) ≤ X * (y : Int) := by omega
  have hn16 : L.length < 16 := by omega
  have hne : ((L.length : Int) == X * (y : Int)) = false := by simp; omega
  have hcar := carry_zero (d := d) h
  unfold ptrTo
  go_enter Tryz.func175, Tryz.ntmps175
  clear h
  go_wp2
  go_loopw [51] (fun i wr => ∃ k : Nat, k ≤ top ∧ i = .int .i64 k ∧ Carry tb B O K base X y Z d L (.slice (some ⟨g, 0, none⟩) L.length cap) ov rows Zi w k wr)
    (fun i _ => top - (intOf i).toNat)
  case atStart => exact ⟨0, Nat.zero_le _, rfl, hcar⟩
  case round =>
    obtain ⟨k, hk, rfl, hc⟩ := hrel
    obtain ⟨cK, hl, hKlt, hbs⟩ := hc.fn
    by_cases hlt : k < top
    · have hcalls := fun (v' : Value) (w2 : World) => round_call (v' := v') (w2 := w2) ih htb hc hd hL hlt (by omega) hr
      obtain ⟨p1, p2⟩ := round_pre hl cK (.cells #[.int .i64 (k : Int)] 3)
      have hbs1 : base ≤ (wr.drew.alloc (.cells #[.int .i64 (k : Int)] 3)).heap.size := by rw [show (wr.drew.alloc (.cells #[.int .i64 (k : Int)] 3)).heap.size = wr.heap.size + 1 from Array.size_push _]; omega
      clear hc hd hr hcar hL
      unfold ptrTo at hcalls
      go_wp2
      go_region_law (first
        | (refine step_is rfl (wp_append_own3 _ (.tmp 55) (.tmp 57) 30 30 rfl base 3 i0 (.int .i64 0) 1 8 Tryz.underlying30 hi hz0 hz1 hz2 rfl (.slice (some ⟨g, 0, none⟩) L.length cap) L.length (ints L) rfl p2 (.slice (some ⟨wr.heap.size, 0, none⟩) 1 1) 1 [.int .i64 (k : Int)] rfl (one_src wr.drew 30 3 _ Tryz.underlying30 rfl) (by decide) (by unfold maxLen; omega) (by omega) hbs1 ?_); intro v' w2 hv' hgr' hprov'; have q1 := grown_cell hgr' (p1 _) hgK; have hcall := hcalls v' w2 hv' hgr' hprov')
        | (refine step_is rfl (wp_call2 (run_callv (t := 54) rfl rfl) hcall ?_); rintro v w3 ⟨rfl, hcar3⟩))
      all_goals (clear hcall hcalls hv' hgr' hprov' p1 p2 q1 hl hbs1 cK; go_wp2; go_roundw)
      all_goals first
        | exact ⟨k + 1, by omega, by go_num, hcar3⟩
        | (simp [intOf]; omega)
    · obtain rfl : k = top := by omega
      obtain ⟨ovk, Zk, g1, g2⟩ := hc
      go_wp2
      go_end0
      exact ⟨ovk, Zk, rfl, g1, g2⟩
theorem fill_node_C1 {tb B O K base : Nat} {X : Int} {y : Nat} {Z : Int} {d : Nat} (ih : FillC tb B O K base X y Z d) (htb : tb ≠ 3 ∧ tb ≠ 30) (hX : 1 ≤ X ∧ X ≤ 4) (hY : 1 ≤ y ∧ y ≤ 4) (hZ : 1 ≤ Z ∧ Z ≤ 4)
    {L : List Int} {g cap : Nat} {ov : Value} {rows : List (List Int)} {Zi : Nat → Prop} {w : World} (h : FillW tb B O K base X y Z Zi ov rows (.slice (some ⟨g, 0, none⟩) L.length cap) L w) (hd : (L.length : Int) + (d + 1 : Nat) = X * y)
    (hL : ∀ x ∈ L, 0 ≤ x ∧ x ≤ 4) (h1 : 1 ≤ L.length) {q : Int} (hb : (0 : Int) < (L.length : Int) % (y : Int)) (hqb : 0 ≤ q ∧ q ≤ 4) (cb : w.cell? ⟨g, L.length - 1, none⟩ = some (.int .i64 q)) (ha : ¬ y ≤ L.length) (c0 : q < Z) (top : Nat) (htop : (top : Int) = q + 1) (hr : rows.length + (flatN y Z d L top).length ≤ 200000000000) :
    Calls Tryz.prog 175 #[.slice (some ⟨g, 0, none⟩) L.length cap, ptrTo B, ptrTo O, ptrTo K] w fun e w' => ∃ ov' Zi', e = .returned (.tuple #[]) ∧ FillW tb B O K base X y Z Zi' ov' (rows ++ flatN y Z d L top) (.slice (some ⟨g, 0, none⟩) L.length cap) L w' ∧ FillR O w w' ov ov' (.slice (some ⟨g, 0, none⟩) L.length cap) Zi Zi' := by
  have cB0 : w.cell? ⟨B, 0, none⟩ = some (.int .i64 X) := by simp [World.cell?, h.box]
  have cB1 : w.cell? ⟨B, 1, none⟩ = some (.int .i64 y) := by simp [World.cell?, h.box]
  have cB2 : w.cell? ⟨B, 2, none⟩ = some (.int .i64 Z) := by simp [World.cell?, h.box]
  have hgK : (Value.slice (some ⟨g, 0, none⟩) L.length cap).ownBlock ≠ some K := tag_ne h.lst h.fn (by decide)
  obtain ⟨i0, hi, hz0, hz1, hz2⟩ := info_parts info3
  have hb16 : X * (y : Int) ≤ 16 := by
    obtain ⟨yi, hyi⟩ : ∃ yi : Int, yi = (y : Int) := ⟨_, rfl⟩
    rw [← hyi]
    rcases fourV hX.1 hX.2 with rfl | rfl | rfl | rfl <;> omega
  have hb0 : (1 : Int) ≤ X * (y : Int) := by omega
  have hn16 : L.length < 16 := by omega
  have hne : ((L.length : Int) == X * (y : Int)) = false := by simp; omega
  have hcar := carry_zero (d := d) h
  unfold ptrTo
  go_enter Tryz.func175, Tryz.ntmps175
  clear h
  go_wp2
  go_loopw [51] (fun i wr => ∃ k : Nat, k ≤ top ∧ i = .int .i64 k ∧ Carry tb B O K base X y Z d L (.slice (some ⟨g, 0, none⟩) L.length cap) ov rows Zi w k wr)
    (fun i _ => top - (intOf i).toNat)
  case atStart => exact ⟨0, Nat.zero_le _, rfl, hcar⟩
  case round =>
    obtain ⟨k, hk, rfl, hc⟩ := hrel
    obtain ⟨cK, hl, hKlt, hbs⟩ := hc.fn
    by_cases hlt : k < top
    · have hcalls := fun (v' : Value) (w2 : World) => round_call (v' := v') (w2 := w2) ih htb hc hd hL hlt (by omega) hr
      obtain ⟨p1, p2⟩ := round_pre hl cK (.cells #[.int .i64 (k : Int)] 3)
      have hbs1 : base ≤ (wr.drew.alloc (.cells #[.int .i64 (k : Int)] 3)).heap.size := by rw [show (wr.drew.alloc (.cells #[.int .i64 (k : Int)] 3)).heap.size = wr.heap.size + 1 from Array.size_push _]; omega
      clear hc hd hr hcar hL
      unfold ptrTo at hcalls
      go_wp2
      go_region_law (first
        | (refine step_is rfl (wp_append_own3 _ (.tmp 55) (.tmp 57) 30 30 rfl base 3 i0 (.int .i64 0) 1 8 Tryz.underlying30 hi hz0 hz1 hz2 rfl (.slice (some ⟨g, 0, none⟩) L.length cap) L.length (ints L) rfl p2 (.slice (some ⟨wr.heap.size, 0, none⟩) 1 1) 1 [.int .i64 (k : Int)] rfl (one_src wr.drew 30 3 _ Tryz.underlying30 rfl) (by decide) (by unfold maxLen; omega) (by omega) hbs1 ?_); intro v' w2 hv' hgr' hprov'; have q1 := grown_cell hgr' (p1 _) hgK; have hcall := hcalls v' w2 hv' hgr' hprov')
        | (refine step_is rfl (wp_call2 (run_callv (t := 54) rfl rfl) hcall ?_); rintro v w3 ⟨rfl, hcar3⟩))
      all_goals (clear hcall hcalls hv' hgr' hprov' p1 p2 q1 hl hbs1 cK; go_wp2; go_roundw)
      all_goals first
        | exact ⟨k + 1, by omega, by go_num, hcar3⟩
        | (simp [intOf]; omega)
    · obtain rfl : k = top := by omega
      obtain ⟨ovk, Zk, g1, g2⟩ := hc
      go_wp2
      go_end0
      exact ⟨ovk, Zk, rfl, g1, g2⟩
theorem fill_node_C2 {tb B O K base : Nat} {X : Int} {y : Nat} {Z : Int} {d : Nat} (ih : FillC tb B O K base X y Z d) (htb : tb ≠ 3 ∧ tb ≠ 30) (hX : 1 ≤ X ∧ X ≤ 4) (hY : 1 ≤ y ∧ y ≤ 4) (hZ : 1 ≤ Z ∧ Z ≤ 4)
    {L : List Int} {g cap : Nat} {ov : Value} {rows : List (List Int)} {Zi : Nat → Prop} {w : World} (h : FillW tb B O K base X y Z Zi ov rows (.slice (some ⟨g, 0, none⟩) L.length cap) L w) (hd : (L.length : Int) + (d + 1 : Nat) = X * y)
    (hL : ∀ x ∈ L, 0 ≤ x ∧ x ≤ 4) (h1 : 1 ≤ L.length) {q : Int} (hb : (0 : Int) < (L.length : Int) % (y : Int)) (hqb : 0 ≤ q ∧ q ≤ 4) (cb : w.cell? ⟨g, L.length - 1, none⟩ = some (.int .i64 q)) (ha : ¬ y ≤ L.length) (c0 : Z ≤ q) (top : Nat) (htop : (top : Int) = Z + 1) (hr : rows.length + (flatN y Z d L top).length ≤ 200000000000) :
    Calls Tryz.prog 175 #[.slice (some ⟨g, 0, none⟩) L.length cap, ptrTo B, ptrTo O, ptrTo K] w fun e w' => ∃ ov' Zi', e = .returned (.tuple #[]) ∧ FillW tb B O K base X y Z Zi' ov' (rows ++ flatN y Z d L top) (.slice (some ⟨g, 0, none⟩) L.length cap) L w' ∧ FillR O w w' ov ov' (.slice (some ⟨g, 0, none⟩) L.length cap) Zi Zi' := by
  have cB0 : w.cell? ⟨B, 0, none⟩ = some (.int .i64 X) := by simp [World.cell?, h.box]
  have cB1 : w.cell? ⟨B, 1, none⟩ = some (.int .i64 y) := by simp [World.cell?, h.box]
  have cB2 : w.cell? ⟨B, 2, none⟩ = some (.int .i64 Z) := by simp [World.cell?, h.box]
  have hgK : (Value.slice (some ⟨g, 0, none⟩) L.length cap).ownBlock ≠ some K := tag_ne h.lst h.fn (by decide)
  obtain ⟨i0, hi, hz0, hz1, hz2⟩ := info_parts info3
  have hb16 : X * (y : Int) ≤ 16 := by
    obtain ⟨yi, hyi⟩ : ∃ yi : Int, yi = (y : Int) := ⟨_, rfl⟩
    rw [← hyi]
    rcases fourV hX.1 hX.2 with rfl | rfl | rfl | rfl <;> omega
  have hb0 : (1 : Int) ≤ X * (y : Int) := by omega
  have hn16 : L.length < 16 := by omega
  have hne : ((L.length : Int) == X * (y : Int)) = false := by simp; omega
  have hcar := carry_zero (d := d) h
  unfold ptrTo
  go_enter Tryz.func175, Tryz.ntmps175
  clear h
  go_wp2
  go_loopw [51] (fun i wr => ∃ k : Nat, k ≤ top ∧ i = .int .i64 k ∧ Carry tb B O K base X y Z d L (.slice (some ⟨g, 0, none⟩) L.length cap) ov rows Zi w k wr)
    (fun i _ => top - (intOf i).toNat)
  case atStart => exact ⟨0, Nat.zero_le _, rfl, hcar⟩
  case round =>
    obtain ⟨k, hk, rfl, hc⟩ := hrel
    obtain ⟨cK, hl, hKlt, hbs⟩ := hc.fn
    by_cases hlt : k < top
    · have hcalls := fun (v' : Value) (w2 : World) => round_call (v' := v') (w2 := w2) ih htb hc hd hL hlt (by omega) hr
      obtain ⟨p1, p2⟩ := round_pre hl cK (.cells #[.int .i64 (k : Int)] 3)
      have hbs1 : base ≤ (wr.drew.alloc (.cells #[.int .i64 (k : Int)] 3)).heap.size := by rw [show (wr.drew.alloc (.cells #[.int .i64 (k : Int)] 3)).heap.size = wr.heap.size + 1 from Array.size_push _]; omega
      clear hc hd hr hcar hL
      unfold ptrTo at hcalls
      go_wp2
      go_region_law (first
        | (refine step_is rfl (wp_append_own3 _ (.tmp 55) (.tmp 57) 30 30 rfl base 3 i0 (.int .i64 0) 1 8 Tryz.underlying30 hi hz0 hz1 hz2 rfl (.slice (some ⟨g, 0, none⟩) L.length cap) L.length (ints L) rfl p2 (.slice (some ⟨wr.heap.size, 0, none⟩) 1 1) 1 [.int .i64 (k : Int)] rfl (one_src wr.drew 30 3 _ Tryz.underlying30 rfl) (by decide) (by unfold maxLen; omega) (by omega) hbs1 ?_); intro v' w2 hv' hgr' hprov'; have q1 := grown_cell hgr' (p1 _) hgK; have hcall := hcalls v' w2 hv' hgr' hprov')
        | (refine step_is rfl (wp_call2 (run_callv (t := 54) rfl rfl) hcall ?_); rintro v w3 ⟨rfl, hcar3⟩))
      all_goals (clear hcall hcalls hv' hgr' hprov' p1 p2 q1 hl hbs1 cK; go_wp2; go_roundw)
      all_goals first
        | exact ⟨k + 1, by omega, by go_num, hcar3⟩
        | (simp [intOf]; omega)
    · obtain rfl : k = top := by omega
      obtain ⟨ovk, Zk, g1, g2⟩ := hc
      go_wp2
      go_end0
      exact ⟨ovk, Zk, rfl, g1, g2⟩
end Go.VI
