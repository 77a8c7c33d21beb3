/- The staircases' closure 'fill': by induction. -/
import Derived.Test.YtcamgjgfjpcelaaGreatVgFill2
namespace Go.VI
open Go.Proofs Go.RowKit
set_option maxRecDepth 100000
def flatN (y : Nat) (Z : Int) (d : Nat) (L : List Int) (k : Nat) : List (List Int) := (List.range k).flatMap fun n : Nat => rowsN y Z d (L ++ [(n : Int)])
theorem flatN_succ (y : Nat) (Z : Int) (d : Nat) (L : List Int) (k : Nat) : flatN y Z d L (k + 1) = flatN y Z d L k ++ rowsN y Z d (L ++ [(k : Int)]) := by
  unfold flatN
  rw [List.range_succ, List.flatMap_append]
  simp
theorem flatN_le (y : Nat) (Z : Int) (d : Nat) (L : List Int) : ∀ (m k : Nat), (flatN y Z d L k).length ≤ (flatN y Z d L (k + m)).length
  | 0, k => Nat.le_refl _
  | m + 1, k => by
    have := flatN_le y Z d L m k
    rw [← Nat.add_assoc, flatN_succ, List.length_append]
    omega
theorem flatN_rows (y : Nat) (Z : Int) (d : Nat) (L : List Int) : rowsN y Z (d + 1) L = flatN y Z d L (mostL y Z L + 1).toNat := rfl
def FillC (tb B O K base : Nat) (X : Int) (y : Nat) (Z : Int) (d : Nat) : Prop :=
  ∀ (L : List Int) (lv ov : Value) (rows : List (List Int)) (Zi : Nat → Prop) (w : World), FillW tb B O K base X y Z Zi ov rows lv L w → (L.length : Int) + d = X * y → (∀ x ∈ L, 0 ≤ x ∧ x ≤ 4) → (L = [] → lv = .slice none 0 0) →
    rows.length + (rowsN y Z d L).length ≤ 200000000000 →
    Calls Tryz.prog 175 #[lv, ptrTo B, ptrTo O, ptrTo K] w fun e w' => ∃ ov' Zi', e = .returned (.tuple #[]) ∧ FillW tb B O K base X y Z Zi' ov' (rows ++ rowsN y Z d L) lv L w' ∧ FillR O w w' ov ov' lv Zi Zi'
theorem child_fcalls {tb B O K base : Nat} {X : Int} {y : Nat} {Z : Int} {d : Nat} (ih : FillC tb B O K base X y Z d) (htb : tb ≠ 3 ∧ tb ≠ 30) {L : List Int} {lv ov : Value} {rows : List (List Int)} {Zi : Nat → Prop} {w : World} (h : FillW tb B O K base X y Z Zi ov rows lv L w)
    (hd : (L.length : Int) + (d + 1 : Nat) = X * y) (hL : ∀ x ∈ L, 0 ≤ x ∧ x ≤ 4) {k : Nat} (hk : k ≤ 4) (hr : rows.length + (rowsN y Z d (L ++ [(k : Int)])).length ≤ 200000000000)
    {u : Obj} {v' : Value} {w2 : World} (hv : w2.ownsRow base 3 1 v' (L.length + 1) (ints L ++ [.int .i64 (k : Int)])) (hgr : (w.alloc u).grownBy w2 lv.ownBlock)
    (hprov : (∃ g c, lv = .slice (some ⟨g, 0, none⟩) L.length c ∧ v' = .slice (some ⟨g, 0, none⟩) (L.length + 1) c) ∨ (v'.ownBlock = some (w.alloc u).heap.size ∧ (w.alloc u).grownBy w2 none)) :
    FCalls Tryz.prog 175 #[v', ptrTo B, ptrTo O, ptrTo K] w2 fun v w3 => v = .tuple #[] ∧ ∃ ov' Zi', FillW tb B O K base X y Z Zi' ov' (rows ++ rowsN y Z d (L ++ [(k : Int)])) lv L w3 ∧ FillR O w w3 ov ov' lv Zi Zi' := by
  have hp := child_pre h htb (k : Int) hv hgr hprov
  refine Calls.fcalls (fn := Tryz.f175) Tryz.func175 (by rfl) (by kernel_rfl) ((ih (L ++ [(k : Int)]) v' ov rows Zi w2 hp ?_ ?_ (fun e => by simp at e) hr).mono ?_)
  · rw [List.length_append]; simp only [List.length_cons, List.length_nil]; omega
  · intro x hx
    rcases List.mem_append.1 hx with hx | hx
    · exact hL x hx
    · obtain rfl : x = (k : Int) := by simpa using hx
      omega
  · rintro e w3 ⟨ov', Zi', rfl, h3, r3⟩
    exact ⟨_, rfl, rfl, ov', Zi', child_post h (k : Int) hv hgr hprov h3 r3⟩
theorem fourV {n : Int} (h0 : 1 ≤ n) (h1 : n ≤ 4) : n = 1 ∨ n = 2 ∨ n = 3 ∨ n = 4 := by omega
def Carry (tb B O K base : Nat) (X : Int) (y : Nat) (Z : Int) (d : Nat) (L : List Int) (lv ov : Value) (rows : List (List Int)) (Zi : Nat → Prop) (w : World) (k : Nat) (wr : World) : Prop :=
  ∃ ovk Zk, FillW tb B O K base X y Z Zk ovk (rows ++ flatN y Z d L k) lv L wr ∧ FillR O w wr ov ovk lv Zi Zk
theorem carry_zero {tb B O K base : Nat} {X : Int} {y : Nat} {Z : Int} {d : Nat} {L : List Int} {lv ov : Value} {rows : List (List Int)} {Zi : Nat → Prop} {w : World} (h : FillW tb B O K base X y Z Zi ov rows lv L w) : Carry tb B O K base X y Z d L lv ov rows Zi w 0 w :=
  ⟨ov, Zi, by simpa [flatN] using h, FillR.refl _ _ _ _ _⟩
theorem Carry.fn {tb B O K base : Nat} {X : Int} {y : Nat} {Z : Int} {d : Nat} {L : List Int} {lv ov : Value} {rows : List (List Int)} {Zi : Nat → Prop} {w : World} {k : Nat} {wr : World} (h : Carry tb B O K base X y Z d L lv ov rows Zi w k wr) :
    wr.cell? ⟨K, 0, none⟩ = some (.func (.func 175) #[] #[.pointer (some ⟨B, 0, none⟩), .pointer (some ⟨O, 0, none⟩), .pointer (some ⟨K, 0, none⟩)]) ∧ wr.drew.ownsRow base 3 1 lv L.length (ints L) ∧ K < wr.heap.size ∧ base ≤ wr.heap.size := by
  obtain ⟨ovk, Zk, h1, _⟩ := h
  exact ⟨cell_of_one h1.fn, h1.lst, lt_of_block h1.fn, h1.base⟩
theorem round_pre {wr : World} {K base : Nat} {lv : Value} {n : Nat} {xs : List Value} (hl : wr.drew.ownsRow base 3 1 lv n xs) {c : Value} (hc : wr.cell? ⟨K, 0, none⟩ = some c) (u : Obj) : (∀ o : Obj, (wr.drew.alloc o).cell? ⟨K, 0, none⟩ = some c) ∧ (wr.drew.alloc u).ownsRow base 3 1 lv n xs := by
  refine ⟨fun o => ?_, hl.alloc _⟩
  have hlt : K < wr.heap.size := World.block_lt_of_cell? wr _ hc
  rw [World.cell?_of_block (w := wr)]
  · exact hc
  · exact Below.heap_alloc wr.drew o K hlt
theorem grown_cell {w w2 : World} {K : Nat} {row : Option Nat} {c : Value} (hg : w.grownBy w2 row) (hc : w.cell? ⟨K, 0, none⟩ = some c) (hn : row ≠ some K) : w2.cell? ⟨K, 0, none⟩ = some c :=
  hg.cell hc (fun e => hn e.symm)
theorem round_call {tb B O K base : Nat} {X : Int} {y : Nat} {Z : Int} {d : Nat} (ih : FillC tb B O K base X y Z d) (htb : tb ≠ 3 ∧ tb ≠ 30) {L : List Int} {lv ov : Value} {rows : List (List Int)} {Zi : Nat → Prop} {w wr : World} {k : Nat}
    (h : Carry tb B O K base X y Z d L lv ov rows Zi w k wr) (hd : (L.length : Int) + (d + 1 : Nat) = X * y) (hL : ∀ x ∈ L, 0 ≤ x ∧ x ≤ 4) {top : Nat} (hk : k < top) (ht : top ≤ 5) (hr : rows.length + (flatN y Z d L top).length ≤ 200000000000)
    {v' : Value} {w2 : World} (hv : w2.ownsRow base 3 1 v' (L.length + 1) (ints L ++ [.int .i64 (k : Int)])) (hgr : (wr.drew.alloc (.cells #[.int .i64 (k : Int)] 3)).grownBy w2 lv.ownBlock)
    (hprov : (∃ g c, lv = .slice (some ⟨g, 0, none⟩) L.length c ∧ v' = .slice (some ⟨g, 0, none⟩) (L.length + 1) c) ∨ (v'.ownBlock = some (wr.drew.alloc (.cells #[.int .i64 (k : Int)] 3)).heap.size ∧ (wr.drew.alloc (.cells #[.int .i64 (k : Int)] 3)).grownBy w2 none)) :
    FCalls Tryz.prog 175 #[v', ptrTo B, ptrTo O, ptrTo K] w2 fun v w3 => v = .tuple #[] ∧ Carry tb B O K base X y Z d L lv ov rows Zi w (k + 1) w3 := by
  obtain ⟨ovk, Zk, h1, r1⟩ := h
  have hlen : rows.length + (flatN y Z d L (k + 1)).length ≤ 200000000000 := by
    have := flatN_le y Z d L (top - (k + 1)) (k + 1)
    rw [Nat.add_sub_of_le (by omega)] at this
    omega
  rw [flatN_succ, List.length_append] at hlen
  refine (child_fcalls ih htb h1.drew hd hL (by omega) (by rw [List.length_append]; omega) hv hgr hprov).mono ?_
  rintro v w3 ⟨rfl, ov', Z', h3, r3⟩
  refine ⟨rfl, ov', Z', by rw [flatN_succ, ← List.append_assoc]; exact h3, r1.trans ?_⟩
  exact ⟨r3.os, r3.tape, r3.output, r3.size, r3.block, r3.prov, r3.sub, r3.new⟩
theorem fill_node_nil {tb B O K base : Nat} {X : Int} {y : Nat} {Z : Int} {d : Nat} (ih : FillC tb B O K base X y Z d) (htb : tb ≠ 3 ∧ tb ≠ 30) (hX : 1 ≤ X ∧ X ≤ 4) (hY : 1 ≤ y ∧ y ≤ 4) (hZ : 1 ≤ Z ∧ Z ≤ 4)
    {ov : Value} {rows : List (List Int)} {Zi : Nat → Prop} {w : World} (h : FillW tb B O K base X y Z Zi ov rows (.slice none 0 0) [] w) (hd : ((d + 1 : Nat) : Int) = X * y)
    (hr : rows.length + (rowsN y Z (d + 1) []).length ≤ 200000000000) :
    Calls Tryz.prog 175 #[.slice none 0 0, ptrTo B, ptrTo O, ptrTo K] w fun e w' => ∃ ov' Zi', e = .returned (.tuple #[]) ∧ FillW tb B O K base X y Z Zi' ov' (rows ++ rowsN y Z (d + 1) []) (.slice none 0 0) [] w' ∧ FillR O w w' ov ov' (.slice none 0 0) Zi Zi' := by
  have cB0 : w.cell? ⟨B, 0, none⟩ = some (.int .i64 X) := by simp [World.cell?, h.box]
  have cB1 : w.cell? ⟨B, 1, none⟩ = some (.int .i64 y) := by simp [World.cell?, h.box]
  have cB2 : w.cell? ⟨B, 2, none⟩ = some (.int .i64 Z) := by simp [World.cell?, h.box]
  have hm : mostL y Z [] = Z := by simp [mostL]; omega
  rw [flatN_rows, hm] at hr ⊢
  obtain ⟨i0, hi, hz0, hz1, hz2⟩ := info_parts info3
  unfold ptrTo
  go_enter Tryz.func175, Tryz.ntmps175
  have hb16 : X * (y : Int) ≤ 16 := by
    obtain ⟨yi, hyi⟩ : ∃ yi : Int, yi = (y : Int) := ⟨_, rfl⟩
    rw [← hyi]
    rcases fourV hX.1 hX.2 with rfl | rfl | rfl | rfl <;> omega
  have hb0 : (1 : Int) ≤ X * (y : Int) := by omega
  have hne : ((0 : Int) == X * (y : Int)) = false := by simp; omega
  have hge : ¬ y = 0 := by omega
  have hcar := carry_zero (d := d) h
  have hd' : (([] : List Int).length : Int) + (d + 1 : Nat) = X * y := by simpa using hd
  obtain ⟨z, hz⟩ : ∃ z : Nat, Z = (z : Int) := ⟨Z.toNat, by omega⟩
  subst hz
  have hzn : ((z : Int) + 1).toNat = z + 1 := by omega
  rw [hzn] at hr ⊢
  clear h hd hm hzn hX
  go_wp2
  go_loopw [51] (fun i wr => ∃ k : Nat, k ≤ z + 1 ∧ i = .int .i64 k ∧ Carry tb B O K base X y z d [] (.slice none 0 0) ov rows Zi w k wr)
    (fun i _ => (z + 1) - (intOf i).toNat)
  case atStart => exact ⟨0, Nat.zero_le _, rfl, hcar⟩
  case round =>
    obtain ⟨k, hk, rfl, hc⟩ := hrel
    obtain ⟨cK, hl, hKlt, hbs⟩ := hc.fn
    by_cases hlt : k < z + 1
    · have hcalls := fun (v' : Value) (w2 : World) => round_call (v' := v') (w2 := w2) ih htb hc hd' (fun x hx => by cases hx) hlt (by omega) hr
      obtain ⟨p1, p2⟩ := round_pre hl cK (.cells #[.int .i64 (k : Int)] 3)
      have hbs1 : base ≤ (wr.drew.alloc (.cells #[.int .i64 (k : Int)] 3)).heap.size := by rw [show (wr.drew.alloc (.cells #[.int .i64 (k : Int)] 3)).heap.size = wr.heap.size + 1 from Array.size_push _]; omega
      have p3 : (Value.slice none 0 0).ownBlock ≠ some K := by simp [Value.ownBlock]
      clear hc hd' hr hcar
      unfold ptrTo at hcalls
      go_wp2
      go_region_law (first
        | (refine step_is rfl (wp_append_own3 _ (.tmp 55) (.tmp 57) 30 30 rfl base 3 i0 (.int .i64 0) 1 8 Tryz.underlying30 hi hz0 hz1 hz2 rfl (.slice none 0 0) 0 [] rfl p2 (.slice (some ⟨wr.heap.size, 0, none⟩) 1 1) 1 [.int .i64 (k : Int)] rfl (one_src wr.drew 30 3 _ Tryz.underlying30 rfl) (by decide) (by unfold maxLen; omega) (by omega) hbs1 ?_); intro v' w2 hv' hgr' hprov'; have q1 := grown_cell hgr' (p1 _) p3; have hcall := hcalls v' w2 hv' hgr' hprov')
        | (refine step_is rfl (wp_call2 (run_callv (t := 54) rfl rfl) hcall ?_); rintro v w3 ⟨rfl, hcar3⟩))
      all_goals (clear hcall hcalls hv' hgr' hprov' p1 p2 q1 hl hbs1 cK; go_wp2; go_roundw)
      all_goals first
        | exact ⟨k + 1, by omega, by go_num, hcar3⟩
        | (simp [intOf]; omega)
    · obtain rfl : k = z + 1 := by omega
      obtain ⟨ovk, Zk, g1, g2⟩ := hc
      go_wp2
      go_end0
      exact ⟨ovk, Zk, rfl, g1, g2⟩
end Go.VI
