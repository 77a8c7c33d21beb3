/- Plain: gluing two heaps. -/
import Derived.Test.YteelmankciamoaaPlL
namespace Go.VI
open Go.Proofs

theorem mid_len {l : List D_A3} (h : l.length ≤ 3000000) (n : Nat) (hn : n ≤ 3000000) : (decide ((l.length + n) * 24 ≤ 140737488355328) && decide (l.length + n ≤ 140737488355328)) = true := by
  rw [decide_eq_true (by omega), decide_eq_true (by omega)]; rfl

theorem cut_lo {l : List D_A3} (k : Nat) : cut l 0 (k : Int) = l.take k := by simp [cut]
theorem cut_hi {l : List D_A3} (k : Nat) : cut l (k : Int) (l.length : Int) = l.drop k := by simp [cut]

theorem f_l2Own {X Y Z : Int} {l : List D_A3} (hl : l.length ≤ 3000000) : P_spec_l2Own ((X, Y, Z, l, ()), ()) = some ((X, Y, Z, l, ()), ()) := by
  rw [p_spec_l2Own]
  simp only [List.length_nil, List.nil_append, p_spec_l2Made, Option.bind_some]
  rw [decide_eq_true (by omega), decide_eq_true (by omega)]
  rfl

theorem srt_insert {l : List D_A3} (hr : Srt l) (c : D_A3) (k : Nat) (h1 : ∀ x ∈ l.take k, ltC x c = true) (h2 : ∀ x ∈ l.drop k, ltC c x = true) : Srt (l.take k ++ [c] ++ l.drop k) := by
  unfold Srt
  rw [List.append_assoc, List.pairwise_append]
  have ht : Srt (l.take k) := List.Pairwise.sublist (List.take_sublist k l) hr
  have hd : Srt (l.drop k) := List.Pairwise.sublist (List.drop_sublist k l) hr
  refine ⟨ht, List.pairwise_cons.2 ⟨h2, hd⟩, fun a ha b hb => ?_⟩
  rcases List.mem_cons.1 hb with rfl | hb'
  · exact h1 a ha
  · exact ltC_trans (h1 a ha) (h2 b hb')

theorem mem_insert {l : List D_A3} (c x : D_A3) (k : Nat) : x ∈ l.take k ++ [c] ++ l.drop k ↔ x = c ∨ x ∈ l := by
  have : x ∈ l ↔ x ∈ l.take k ∨ x ∈ l.drop k := by rw [← List.mem_append, List.take_append_drop]
  rw [this]
  simp only [List.mem_append, List.mem_singleton]
  constructor
  · rintro ((h | h) | h)
    · exact .inr (.inl h)
    · exact .inl h
    · exact .inr (.inr h)
  · rintro (h | h | h)
    · exact .inl (.inr h)
    · exact .inl (.inl h)
    · exact .inr h

theorem l_with {X Y Z : Int} {l : List D_A3} (hr : Srt l) (c : D_A3) (hl : l.length ≤ 2500000) : ∀ (n k m : Nat), l.length = k + n → n < m → (∀ x ∈ l.take k, ltC x c = true) →
    ∃ l', l_spec_l2With_2 m X Y Z l c.1 c.2.1 c.2.2.1 0 0 0 [] (k : Int) = some ((X, Y, Z, l', ()), ()) ∧ Srt l' ∧ (∀ x, x ∈ l' ↔ x = c ∨ x ∈ l) ∧ l'.length ≤ l.length + 1
  | n, k, 0, hk, hm, _ => by omega
  | n, k, m + 1, hk, hm, hlow => by
    have g1 : (decide (((List.length ([] : List D_A3)) + (List.length (l.take k))) * 24 ≤ 140737488355328) && decide (((List.length ([] : List D_A3)) + (List.length (l.take k))) ≤ 140737488355328)) = true := by
      rw [List.length_take, List.length_nil, decide_eq_true (by omega), decide_eq_true (by omega)]; rfl
    have g2 : (decide (((List.length (([] : List D_A3) ++ (l.take k))) + (List.length ([c] : List D_A3))) * 24 ≤ 140737488355328) && decide (((List.length (([] : List D_A3) ++ (l.take k))) + (List.length ([c] : List D_A3))) ≤ 140737488355328)) = true := by
      rw [List.nil_append, List.length_take, List.length_singleton, decide_eq_true (by omega), decide_eq_true (by omega)]; rfl
    have g3 : (decide (((List.length ((([] : List D_A3) ++ (l.take k)) ++ ([c] : List D_A3))) + (List.length (l.drop k))) * 24 ≤ 140737488355328) && decide (((List.length ((([] : List D_A3) ++ (l.take k)) ++ ([c] : List D_A3))) + (List.length (l.drop k))) ≤ 140737488355328)) = true := by
      rw [List.nil_append, List.length_append, List.length_take, List.length_singleton, List.length_drop, decide_eq_true (by omega), decide_eq_true (by omega)]; rfl
    have g4 : (decide ((0 : Int) ≤ 0) && decide ((0 : Int) ≤ (k : Int)) && decide ((k : Int) ≤ (List.length l : Int))) = true := by
      rw [decide_eq_true (by omega), decide_eq_true (by omega), decide_eq_true (by omega)]; rfl
    have g5 : (decide ((0 : Int) ≤ (k : Int)) && decide ((k : Int) ≤ (List.length l : Int)) && decide ((List.length l : Int) ≤ (List.length l : Int))) = true := by
      rw [decide_eq_true (by omega), decide_eq_true (by omega), decide_eq_true (by omega)]; rfl
    have hlen : (l.take k ++ [c] ++ l.drop k).length ≤ l.length + 1 := by
      rw [List.length_append, List.length_append, List.length_take, List.length_drop, List.length_singleton]; omega
    have ec : ((c.1, (c.2.1, (c.2.2.1, ()))) : D_A3) = c := rfl
    rw [q_spec_l2With_2]
    by_cases hlt : k < l.length
    · rw [ltT hlt, inB_at hlt, nthA (t := T_A3) hlt, f_spec_l2Before, ec, cut_lo, cut_hi, g1, g2, g3, g4, g5, succI k (by omega)]
      simp only [cond_true, Option.bind_some, Bool.and_true]
      cases hb : ltC l[k] c with
      | true =>
        refine l_with hr c hl (n - 1) (k + 1) m (by omega) (by omega) ?_
        intro x hx
        rw [List.take_add_one, List.getElem?_eq_getElem hlt] at hx
        rcases List.mem_append.1 hx with h | h
        · exact hlow x h
        · have : x = l[k] := by simpa using h
          rw [this]; exact hb
      | false =>
        simp only [cond_false]
        by_cases he : l[k] = c
        · have hq : (decide ((l[k]).1 = c.1) && (decide ((l[k]).2.1 = c.2.1) && decide ((l[k]).2.2.1 = c.2.2.1))) = true := by rw [he]; simp
          rw [hq, f_l2Own (by omega)]
          refine ⟨l, rfl, hr, fun x => ?_, by omega⟩
          constructor
          · exact .inr
          · rintro (rfl | h)
            · rw [← he]; exact List.getElem_mem hlt
            · exact h
        · have hq : (decide ((l[k]).1 = c.1) && (decide ((l[k]).2.1 = c.2.1) && decide ((l[k]).2.2.1 = c.2.2.1))) = false := by
            rw [Bool.eq_false_iff]
            intro h
            simp only [Bool.and_eq_true, decide_eq_true_eq] at h
            exact he (cell_ext h.1 h.2.1 h.2.2)
          rw [hq, p_spec_l2Made]
          have hck : ltC c l[k] = true := by
            cases h : ltC c l[k] with
            | true => rfl
            | false => exact absurd (ltC_total hb h) he
          refine ⟨l.take k ++ [c] ++ l.drop k, rfl, srt_insert hr c k hlow ?_, fun x => mem_insert c x k, hlen⟩
          intro x hx
          rw [drop_at l k hlt] at hx
          rcases List.mem_cons.1 hx with rfl | h
          · exact hck
          · have hd : Srt (l.drop k) := List.Pairwise.sublist (List.drop_sublist k l) hr
            rw [drop_at l k hlt] at hd
            exact ltC_trans hck ((List.pairwise_cons.1 hd).1 x h)
    · rw [ltF hlt, ec, cut_lo, cut_hi, g1, g2, g3, g4, g5, p_spec_l2Made]
      refine ⟨l.take k ++ [c] ++ l.drop k, rfl, srt_insert hr c k hlow ?_, fun x => mem_insert c x k, hlen⟩
      intro x hx
      rw [List.drop_eq_nil_of_le (by omega)] at hx
      cases hx

theorem f_l2With {X Y Z : Int} {l : List D_A3} (hr : Srt l) (c : D_A3) (hl : l.length ≤ 2500000) : ∃ l', P_spec_l2With ((X, Y, Z, l, ()), c, ()) = some ((X, Y, Z, l', ()), ()) ∧ Srt l' ∧ (∀ x, x ∈ l' ↔ x = c ∨ x ∈ l) ∧ l'.length ≤ l.length + 1 := by
  obtain ⟨l', h, r⟩ := l_with (X := X) (Y := Y) (Z := Z) hr c hl l.length 0 N (by simp) (by have := N_ge; omega) (by simp)
  exact ⟨l', by rw [p_spec_l2With]; exact h, r⟩

/-! ### The reference -/
theorem sh_text2 {d : Int} (d0 : 0 ≤ d) (d1 : d ≤ 2) (c : D_A3) (hc : Near c) (k : Int) (k0 : 0 ≤ k) (k1 : k ≤ 4) : ((bif decide (d = (0 : Int)) then (IntKind.wrap .i64 ((bif decide (d = (0 : Int)) then c.1 else (bif decide (d = (1 : Int)) then c.2.1 else c.2.2.1)) + k)) else c.1), ((bif decide (d = (1 : Int)) then (IntKind.wrap .i64 ((bif decide (d = (0 : Int)) then c.1 else (bif decide (d = (1 : Int)) then c.2.1 else c.2.2.1)) + k)) else c.2.1), ((bif decide (d = (2 : Int)) then (IntKind.wrap .i64 ((bif decide (d = (0 : Int)) then c.1 else (bif decide (d = (1 : Int)) then c.2.1 else c.2.2.1)) + k)) else c.2.2.1), ()))) = sh d k c := by
  unfold Near at hc
  rw [w64]
  · rcases dir d0 d1 with rfl | rfl | rfl <;> rfl
  all_goals rcases dir d0 d1 with rfl | rfl | rfl <;> simp <;> omega

theorem l_glue11 {A B C A' B' C' S1 S2 S3 d s : Int} {la lb : List D_A3} (hla : Small la) : ∀ (n i m : Nat) (out : List D_A3), la.length = i + n → n < m → Srt out → out.length ≤ i →
    ∃ out', Srt out' ∧ (∀ x, x ∈ out' ↔ x ∈ out ∨ x ∈ la.drop i) ∧ out'.length ≤ la.length ∧ l_spec_GlueHeaps_11 m A B C la A' B' C' lb 0 0 0 [] S1 S2 S3 out d s (i : Int) = l_spec_GlueHeaps_15 N A' B' C' lb 0 0 0 [] S1 S2 S3 out' d s 0
  | n, i, 0, out, hk, hm, hr, ho => by omega
  | n, i, m + 1, out, hk, hm, hr, ho => by
    have hl' := hla
    unfold Small at hl'
    rw [q_spec_GlueHeaps_11]
    by_cases hlt : i < la.length
    · obtain ⟨l', e, r', m', n'⟩ := f_l2With (X := S1) (Y := S2) (Z := S3) hr la[i] (by omega)
      obtain ⟨o, h1, h2, h3, h4⟩ := l_glue11 (A := A) (B := B) (C := C) (A' := A') (B' := B') (C' := C') (S1 := S1) (S2 := S2) (S3 := S3) (d := d) (s := s) (lb := lb) hla (n - 1) (i + 1) m l' (by omega) (by omega) r' (by omega)
      rw [ltT hlt, inB_at hlt, nthA (t := T_A3) hlt, e, succI i (by omega)]
      refine ⟨o, h1, fun x => ?_, h3, h4⟩
      rw [h2, m', drop_at la i hlt, List.mem_cons]
      constructor
      · rintro ((h | h) | h)
        · exact .inr (.inl h)
        · exact .inl h
        · exact .inr (.inr h)
      · rintro (h | h | h)
        · exact .inl (.inr h)
        · exact .inl (.inl h)
        · exact .inr h
    · rw [ltF hlt]
      refine ⟨out, hr, fun x => ?_, by omega, rfl⟩
      rw [List.drop_eq_nil_of_le (by omega)]
      simp

theorem l_glue15 {A' B' C' S1 S2 S3 d s : Int} {lb : List D_A3} (hlb : Small lb) (hn : ∀ c ∈ lb, Near c) (d0 : 0 ≤ d) (d1 : d ≤ 2) (s0 : 0 ≤ s) (s1 : s ≤ 4) (t : Nat) (ht : t ≤ 1048576) : ∀ (n i m : Nat) (out : List D_A3), lb.length = i + n → n < m → Srt out → out.length ≤ t + i →
    ∃ out', Srt out' ∧ (∀ x, x ∈ out' ↔ x ∈ out ∨ x ∈ (lb.drop i).map (sh d s)) ∧ out'.length ≤ t + lb.length ∧ l_spec_GlueHeaps_15 m A' B' C' lb 0 0 0 [] S1 S2 S3 out d s (i : Int) = Option.bind (P_spec_l2Kept ((S1, S2, S3, out', ()), ())) fun r1 => some (r1.1, r1.2.1, ())
  | n, i, 0, out, hk, hm, hr, ho => by omega
  | n, i, m + 1, out, hk, hm, hr, ho => by
    have hl' := hlb
    unfold Small at hl'
    rw [q_spec_GlueHeaps_15]
    by_cases hlt : i < lb.length
    · obtain ⟨l', e, r', m', n'⟩ := f_l2With (X := S1) (Y := S2) (Z := S3) hr (sh d s lb[i]) (by omega)
      obtain ⟨o, h1, h2, h3, h4⟩ := l_glue15 (A' := A') (B' := B') (C' := C') (S1 := S1) (S2 := S2) (S3 := S3) hlb hn d0 d1 s0 s1 t ht (n - 1) (i + 1) m l' (by omega) (by omega) r' (by omega)
      rw [ltT hlt, inB_at hlt, nthA (t := T_A3) hlt, inB_dir d0 d1, sh_text2 d0 d1 _ (hn _ (List.getElem_mem hlt)) s s0 s1, e, succI i (by omega)]
      refine ⟨o, h1, fun x => ?_, h3, h4⟩
      rw [h2, m', drop_at lb i hlt, List.map_cons, List.mem_cons]
      constructor
      · rintro ((h | h) | h)
        · exact .inr (.inl h)
        · exact .inl h
        · exact .inr (.inr h)
      · rintro (h | h | h)
        · exact .inl (.inr h)
        · exact .inl (.inl h)
        · exact .inr h
    · rw [ltF hlt]
      refine ⟨out, hr, fun x => ?_, by omega, rfl⟩
      rw [List.drop_eq_nil_of_le (by omega)]
      simp

theorem l_step4 {A B C A' B' C' d : Int} {la lb : List D_A3} (m : Nat) {j : Int} (j0 : 0 ≤ j) (j1 : j ≤ 2) : l_spec_GlueHeaps_4 (m + 1) A B C la A' B' C' lb 0 0 0 [] d j = if j = d ∨ side3 A B C j = side3 A' B' C' j then l_spec_GlueHeaps_4 m A B C la A' B' C' lb 0 0 0 [] d (j + 1) else some (noHeap, false, ()) := by
  rw [q_spec_GlueHeaps_4, decide_eq_true (by omega), f_l2Long la j0 j1, f_l2Long lb j0 j1, w64 (by omega) (by omega)]
  simp only [cond_true, Option.bind_some]
  by_cases h1 : j = d
  · simp [h1]
  · by_cases h2 : side3 A B C j = side3 A' B' C' j
    · simp [h1, h2]
    · simp [h1, h2, noHeap]

def glueOut (S1 S2 S3 : Int) (l : List D_A3) : D_Heap × Bool × Unit := if sides S1 S2 S3 then ((S1, S2, S3, l, ()), true, ()) else (noHeap, false, ())

theorem f_l2Kept {S1 S2 S3 : Int} {l : List D_A3} (hl : l.length ≤ 1048576) (hr : Srt l) (hi : sides S1 S2 S3 = true → Ins S1 S2 S3 l) : (Option.bind (P_spec_l2Kept ((S1, S2, S3, l, ()), ())) fun r1 => some (r1.1, r1.2.1, ())) = some (glueOut S1 S2 S3 l) := by
  rw [p_spec_l2Kept, f_spec_l2Heap (S1, S2, S3, l, ()) hl]
  unfold glueOut
  have e : okHeap ((S1, S2, S3, l, ()) : D_Heap) = sides S1 S2 S3 := by
    cases hs : sides S1 S2 S3 with
    | true => exact okHeap_iff.2 ⟨hs, hi hs, hr⟩
    | false => unfold okHeap; rw [hs]; rfl
  rw [e]
  cases sides S1 S2 S3 <;> rfl

theorem specTail {A B C A' B' C' d : Int} {la lb : List D_A3} (ha : sides A B C = true) (hb : sides A' B' C' = true) (d0 : 0 ≤ d) (d1 : d ≤ 2) (hla : Small la) (hlb : Small lb) (hsum : la.length + lb.length ≤ 1048576) (ib : Ins A' B' C' lb) (m : Nat)
    {S1 S2 S3 : Int} (e1 : S1 = (boxWith A B C d (side3 A B C d + side3 A' B' C' d) []).1) (e2 : S2 = (boxWith A B C d (side3 A B C d + side3 A' B' C' d) []).2.1) (e3 : S3 = (boxWith A B C d (side3 A B C d + side3 A' B' C' d) []).2.2.1)
    (hin : sides S1 S2 S3 = true → Ins S1 S2 S3 (la ++ lb.map (sh d (side3 A B C d)))) :
    ∃ out, Srt out ∧ (∀ x, x ∈ out ↔ x ∈ la ++ lb.map (sh d (side3 A B C d))) ∧ out.length ≤ 1048576 ∧ l_spec_GlueHeaps_4 (m + 1) A B C la A' B' C' lb 0 0 0 [] d 3 = some (glueOut S1 S2 S3 out) := by
  have h4 := side3_ok ha d
  have h4' := side3_ok hb d
  obtain ⟨o1, r1, m1, n1, q1⟩ := l_glue11 (A := A) (B := B) (C := C) (A' := A') (B' := B') (C' := C') (S1 := S1) (S2 := S2) (S3 := S3) (d := d) (s := side3 A B C d) (lb := lb) hla la.length 0 N [] (by simp) (by unfold Small at hla; have := N_ge; omega) (by simp [Srt]) (by simp)
  obtain ⟨o2, r2, m2, n2, q2⟩ := l_glue15 (A' := A') (B' := B') (C' := C') (S1 := S1) (S2 := S2) (S3 := S3) (s := side3 A B C d) hlb (fun c hc => near_of hb (ib c hc)) d0 d1 (by omega) (by omega) la.length hla lb.length 0 N o1 (by simp) (by unfold Small at hlb; have := N_ge; omega) r1 (by omega)
  have hmem : ∀ x, x ∈ o2 ↔ x ∈ la ++ lb.map (sh d (side3 A B C d)) := by
    intro x
    rw [m2, m1, List.mem_append]
    simp
  refine ⟨o2, r2, hmem, by omega, ?_⟩
  rw [q_spec_GlueHeaps_4, show decide ((3 : Int) < 3) = false by decide]
  simp only [cond_false]
  rw [f_l2Long la d0 d1, f_l2Long lb d0 d1]
  simp only [Option.bind_some]
  rw [w64 (by omega) (by omega), f_l11Box la d0 d1]
  simp only [Option.bind_some]
  rw [← e1, ← e2, ← e3, show (boxWith A B C d (side3 A B C d + side3 A' B' C' d) []).2.2.2.1 = [] from rfl]
  have q1' : l_spec_GlueHeaps_11 N A B C la A' B' C' lb 0 0 0 [] S1 S2 S3 [] d (side3 A B C d) 0 = _ := q1
  have q2' : l_spec_GlueHeaps_15 N A' B' C' lb 0 0 0 [] S1 S2 S3 o1 d (side3 A B C d) 0 = _ := q2
  rw [q1', q2']
  exact f_l2Kept (by omega) r2 (fun h c hc => hin h c ((hmem c).1 hc))

/-! ### The program -/
theorem l_implG15 {A B C S1 S2 S3 d : Int} {la lb : List D_A3} (hS : sides S1 S2 S3 = true) (ha : sides A B C = true) (d0 : 0 ≤ d) (d1 : d ≤ 2) (hlb : Small lb) (hn : ∀ c ∈ lb, Near c) (hin : Ins S1 S2 S3 (lb.map (sh d (side3 A B C d)))) : ∀ (n i m : Nat) (v : BitVec 64), lb.length = i + n → n < m →
    l_impl_GlueHeaps_15 m A B C la 0 0 0 [] S1 S2 S3 d (v.toNat : Int) lb (lb.length : Int) (i : Int) = some ((S1, S2, S3, bitCells S1 S2 S3 (mask S2 S3 ((lb.drop i).map (sh d (side3 A B C d))) v), ()), true, ())
  | n, i, 0, v, hk, hm => by omega
  | n, i, m + 1, v, hk, hm => by
    have hl' := hlb
    unfold Small at hl'
    have h4 := side3_ok ha d
    rw [q_impl_GlueHeaps_15]
    by_cases hlt : i < lb.length
    · have hw := hin _ (List.mem_map_of_mem (List.getElem_mem hlt))
      rw [ltT hlt, inB_at hlt, nthA (t := T_A3) hlt, inB_dir d0 d1, f_Heap_box, succI i (by omega)]
      simp only [cond_true, Option.bind_some]
      have hsd : (bif decide (d = (0 : Int)) then A else (bif decide (d = (1 : Int)) then B else C)) = side3 A B C d := rfl
      rw [hsd, sh_text2 d0 d1 _ (hn _ (List.getElem_mem hlt)) _ (by omega) (by omega), f_box_index hS hw]
      simp only [Option.bind_some]
      rw [decide_eq_true (Int.natCast_nonneg _), shl64, or64, drop_at lb i hlt]
      exact l_implG15 hS ha d0 d1 hlb hn hin (n - 1) (i + 1) m _ (by omega) (by omega)
    · rw [ltF hlt, List.drop_eq_nil_of_le (by omega)]
      simp only [cond_false]
      rw [f_box_heap hS]
      rfl

theorem l_implG10 {A B C A' B' C' S1 S2 S3 d : Int} {la lb : List D_A3} (hS : sides S1 S2 S3 = true) (hla : Small la) (hin : Ins S1 S2 S3 la) : ∀ (n i m : Nat) (v : BitVec 64), la.length = i + n → n < m →
    l_impl_GlueHeaps_10 m A B C la A' B' C' lb 0 0 0 [] S1 S2 S3 d (v.toNat : Int) la (la.length : Int) (i : Int) = l_impl_GlueHeaps_15 N A B C la 0 0 0 [] S1 S2 S3 d ((mask S2 S3 (la.drop i) v).toNat : Int) lb (lb.length : Int) 0
  | n, i, 0, v, hk, hm => by omega
  | n, i, m + 1, v, hk, hm => by
    have hl' := hla
    unfold Small at hl'
    rw [q_impl_GlueHeaps_10]
    by_cases hlt : i < la.length
    · rw [ltT hlt, inB_at hlt, nthA (t := T_A3) hlt, f_box_index hS (hin _ (List.getElem_mem hlt)), succI i (by omega)]
      simp only [cond_true, Option.bind_some]
      rw [decide_eq_true (Int.natCast_nonneg _), shl64, or64, drop_at la i hlt]
      exact l_implG10 hS hla hin (n - 1) (i + 1) m _ (by omega) (by omega)
    · rw [ltF hlt, List.drop_eq_nil_of_le (by omega)]
      rfl

theorem implTail {A B C A' B' C' S1 S2 S3 d : Int} {la lb : List D_A3} (hS : sides S1 S2 S3 = true) (ha : sides A B C = true) (hb : sides A' B' C' = true) (d0 : 0 ≤ d) (d1 : d ≤ 2) (hla : Small la) (hlb : Small lb) (ib : Ins A' B' C' lb) (hin : Ins S1 S2 S3 (la ++ lb.map (sh d (side3 A B C d)))) :
    l_impl_GlueHeaps_10 N A B C la A' B' C' lb 0 0 0 [] S1 S2 S3 d 0 la (la.length : Int) 0 = some ((S1, S2, S3, bitCells S1 S2 S3 (mask S2 S3 (la ++ lb.map (sh d (side3 A B C d))) 0), ()), true, ()) := by
  have i1 : Ins S1 S2 S3 la := fun c hc => hin c (List.mem_append_left _ hc)
  have i2 : Ins S1 S2 S3 (lb.map (sh d (side3 A B C d))) := fun c hc => hin c (List.mem_append_right _ hc)
  have h10 := l_implG10 (A := A) (B := B) (C := C) (A' := A') (B' := B') (C' := C') (d := d) (lb := lb) hS hla i1 la.length 0 N 0 (by simp) (by unfold Small at hla; have := N_ge; omega)
  have h15 := l_implG15 (A := A) (B := B) (C := C) (d := d) (la := la) hS ha d0 d1 hlb (fun c hc => near_of hb (ib c hc)) i2 lb.length 0 N (mask S2 S3 la 0) (by simp) (by unfold Small at hlb; have := N_ge; omega)
  rw [mask_append]
  simp only [List.drop_zero] at h10 h15
  exact h10.trans h15

theorem glue_box {A B C A' B' C' d : Int} (ha : sides A B C = true) (hb : sides A' B' C' = true) (d0 : 0 ≤ d) (d1 : d ≤ 2) {la lb : List D_A3} (ia : Ins A B C la) (ib : Ins A' B' C' lb)
    (he : ∀ j, 0 ≤ j → j ≤ 2 → j = d ∨ side3 A B C j = side3 A' B' C' j) :
    Ins (boxWith A B C d (side3 A B C d + side3 A' B' C' d) []).1 (boxWith A B C d (side3 A B C d + side3 A' B' C' d) []).2.1 (boxWith A B C d (side3 A B C d + side3 A' B' C' d) []).2.2.1 (la ++ lb.map (sh d (side3 A B C d))) := by
  obtain ⟨a1, a2, a3⟩ := sides_iff.1 ha
  obtain ⟨b1, b2, b3⟩ := sides_iff.1 hb
  have e0 := he 0 (by omega) (by omega)
  have e1 := he 1 (by omega) (by omega)
  have e2 := he 2 (by omega) (by omega)
  intro c hc
  rcases List.mem_append.1 hc with h | h
  · have := within3_iff.1 (ia c h)
    rw [within3_iff]
    rcases dir d0 d1 with rfl | rfl | rfl <;> simp [boxWith, side3] at e0 e1 e2 ⊢ <;> omega
  · obtain ⟨a, h', rfl⟩ := List.mem_map.1 h
    have := within3_iff.1 (ib a h')
    rw [within3_iff]
    rcases dir d0 d1 with rfl | rfl | rfl <;> simp [boxWith, side3, sh] at e0 e1 e2 ⊢ <;> omega

theorem glueOut_noHeap_small (S1 S2 S3 : Int) {l : List D_A3} (hl : l.length ≤ 1048576) : Small (glueOut S1 S2 S3 l).1.2.2.2.1 := by
  unfold glueOut
  split
  · exact hl
  · unfold Small noHeap; simp

theorem glue_eq (a b : D_Heap) (d : Int) (hla : Small a.2.2.2.1) (hlb : Small b.2.2.2.1) (hsum : a.2.2.2.1.length + b.2.2.2.1.length ≤ 1048576) : ∃ r : D_Heap × Bool × Unit, P_spec_GlueHeaps (a, b, d, ()) = some r ∧ P_impl_GlueHeaps (a, b, d, ()) = some r ∧ Small r.1.2.2.2.1 := by
  have hno : Small noHeap.2.2.2.1 := by unfold Small noHeap; simp
  rw [p_spec_GlueHeaps, p_impl_GlueHeaps, f_spec_l2Heap _ hla, f_spec_l2Heap _ hlb, f_impl_IsHeap _ hla, f_impl_IsHeap _ hlb, p_impl_isDirection, f_impl_within, f_spec_l1In]
  cases oa : okHeap a with
  | false => exact ⟨_, rfl, rfl, hno⟩
  | true =>
    cases ob : okHeap b with
    | false => exact ⟨_, rfl, rfl, hno⟩
    | true =>
      obtain ⟨sa, ia, ra⟩ := okHeap_iff.1 oa
      obtain ⟨sb, ib, rb⟩ := okHeap_iff.1 ob
      cases od : (decide (0 ≤ d) && decide (d ≤ 2)) with
      | false => simp only [Option.bind_some, Bool.not_true, cond_false, od]; exact ⟨_, rfl, rfl, hno⟩
      | true =>
        have hd : 0 ≤ d ∧ d ≤ 2 := by simpa using od
        obtain ⟨d0, d1⟩ := hd
        have hN := N_ge
        have h4 := side3_ok sa d
        have h4' := side3_ok sb d
        obtain ⟨a1, a2, a3⟩ := sides_iff.1 sa
        obtain ⟨b1, b2, b3⟩ := sides_iff.1 sb
        have ba : P_Heap_box (a, ()) = some ((a.1, a.2.1, a.2.2.1, ()), ()) := f_Heap_box _
        have bb : P_Heap_box (b, ()) = some ((b.1, b.2.1, b.2.2.1, ()), ()) := f_Heap_box _
        simp only [Option.bind_some, Bool.not_true, cond_false, od, ba, bb, inB_dir d0 d1, cond_true]
        have hspec : l_spec_GlueHeaps_4 N a.1 a.2.1 a.2.2.1 a.2.2.2.1 b.1 b.2.1 b.2.2.1 b.2.2.2.1 0 0 0 [] d 0 = if 0 = d ∨ side3 a.1 a.2.1 a.2.2.1 0 = side3 b.1 b.2.1 b.2.2.1 0 then (if 1 = d ∨ side3 a.1 a.2.1 a.2.2.1 1 = side3 b.1 b.2.1 b.2.2.1 1 then (if 2 = d ∨ side3 a.1 a.2.1 a.2.2.1 2 = side3 b.1 b.2.1 b.2.2.1 2 then l_spec_GlueHeaps_4 (N - 4 + 1) a.1 a.2.1 a.2.2.1 a.2.2.2.1 b.1 b.2.1 b.2.2.1 b.2.2.2.1 0 0 0 [] d 3 else some (noHeap, false, ())) else some (noHeap, false, ())) else some (noHeap, false, ()) := by
          have t0 := l_step4 (A := a.1) (B := a.2.1) (C := a.2.2.1) (A' := b.1) (B' := b.2.1) (C' := b.2.2.1) (d := d) (la := a.2.2.2.1) (lb := b.2.2.2.1) (N - 4 + 3) (j := 0) (by omega) (by omega)
          have t1 := l_step4 (A := a.1) (B := a.2.1) (C := a.2.2.1) (A' := b.1) (B' := b.2.1) (C' := b.2.2.1) (d := d) (la := a.2.2.2.1) (lb := b.2.2.2.1) (N - 4 + 2) (j := 1) (by omega) (by omega)
          have t2 := l_step4 (A := a.1) (B := a.2.1) (C := a.2.2.1) (A' := b.1) (B' := b.2.1) (C' := b.2.2.1) (d := d) (la := a.2.2.2.1) (lb := b.2.2.2.1) (N - 4 + 1) (j := 2) (by omega) (by omega)
          rw [N_eq, t0, show (0 : Int) + 1 = 1 from rfl, t1, show (1 : Int) + 1 = 2 from rfl, t2, show (2 : Int) + 1 = 3 from rfl, show N - 4 + 4 - 4 + 1 = N - 4 + 1 by omega]
        rw [hspec]
        by_cases hall : ∀ j, 0 ≤ j → j ≤ 2 → j = d ∨ side3 a.1 a.2.1 a.2.2.1 j = side3 b.1 b.2.1 b.2.2.1 j
        · have hin := glue_box sa sb d0 d1 ia ib hall
          obtain ⟨out, r1, m1, n1, q1⟩ := specTail (la := a.2.2.2.1) (lb := b.2.2.2.1) sa sb d0 d1 hla hlb hsum ib (N - 4) rfl rfl rfl (fun _ => hin)
          rw [if_pos (hall 0 (by omega) (by omega)), if_pos (hall 1 (by omega) (by omega)), if_pos (hall 2 (by omega) (by omega)), q1]
          refine ⟨_, rfl, ?_, glueOut_noHeap_small _ _ _ n1⟩
          have himpl : ∀ S1 S2 S3 : Int, S1 = (boxWith a.1 a.2.1 a.2.2.1 d (side3 a.1 a.2.1 a.2.2.1 d + side3 b.1 b.2.1 b.2.2.1 d) []).1 → S2 = (boxWith a.1 a.2.1 a.2.2.1 d (side3 a.1 a.2.1 a.2.2.1 d + side3 b.1 b.2.1 b.2.2.1 d) []).2.1 → S3 = (boxWith a.1 a.2.1 a.2.2.1 d (side3 a.1 a.2.1 a.2.2.1 d + side3 b.1 b.2.1 b.2.2.1 d) []).2.2.1 →
              (Option.bind (P_box_valid ((S1, (S2, (S3, ()))), ())) fun r18 => bif !r18.1 then some (noHeap, false, ()) else l_impl_GlueHeaps_10 N a.1 a.2.1 a.2.2.1 a.2.2.2.1 b.1 b.2.1 b.2.2.1 b.2.2.2.1 0 0 0 [] S1 S2 S3 d 0 a.2.2.2.1 (a.2.2.2.1.length : Int) 0) = some (glueOut S1 S2 S3 out) := by
            rintro S1 S2 S3 rfl rfl rfl
            rw [f_box_valid]
            unfold glueOut
            simp only [Option.bind_some]
            cases hS : sides (boxWith a.1 a.2.1 a.2.2.1 d (side3 a.1 a.2.1 a.2.2.1 d + side3 b.1 b.2.1 b.2.2.1 d) []).1 (boxWith a.1 a.2.1 a.2.2.1 d (side3 a.1 a.2.1 a.2.2.1 d + side3 b.1 b.2.1 b.2.2.1 d) []).2.1 (boxWith a.1 a.2.1 a.2.2.1 d (side3 a.1 a.2.1 a.2.2.1 d + side3 b.1 b.2.1 b.2.2.1 d) []).2.2.1 with
            | false => rfl
            | true =>
              have ht := implTail (A' := b.1) (B' := b.2.1) (C' := b.2.2.1) hS sa sb d0 d1 hla hlb ib hin
              rw [show bitCells _ _ _ _ = out from srt_ext _ _ (srt_listOf hS _) r1 fun c => ?_] at ht
              · exact ht
              · rw [mem_listOf hS, m1]
                constructor
                · rintro ⟨w1, w2⟩
                  rw [mask_mem hS hin w1] at w2
                  simpa using w2
                · intro hc
                  have w1 := hin c hc
                  refine ⟨w1, ?_⟩
                  rw [mask_mem hS hin w1]
                  exact decide_eq_true hc
          have e0 := hall 0 (by omega) (by omega)
          have e1 := hall 1 (by omega) (by omega)
          have e2 := hall 2 (by omega) (by omega)
          rw [p_impl_others]
          rcases dir d0 d1 with rfl | rfl | rfl
          · have x1 : a.2.1 = b.2.1 := by simpa [side3] using e1
            have x2 : a.2.2.1 = b.2.2.1 := by simpa [side3] using e2
            have := himpl (a.1 + b.1) a.2.1 a.2.2.1 rfl rfl rfl
            simp only [decide_true, cond_true, Option.bind_some, inB_dir (d := 1) (by omega) (by omega), inB_dir (d := 2) (by omega) (by omega), show decide ((1 : Int) = 0) = false by decide, show decide ((0 : Int) = 1) = false by decide, show decide ((0 : Int) = 2) = false by decide, show decide ((2 : Int) = 0) = false by decide, show decide ((2 : Int) = 1) = false by decide, cond_false]
            rw [decide_eq_true x1, decide_eq_true x2, w64 (x := a.1 + b.1) (by omega) (by omega)]
            exact this
          · have x1 : a.1 = b.1 := by simpa [side3] using e0
            have x2 : a.2.2.1 = b.2.2.1 := by simpa [side3] using e2
            have := himpl a.1 (a.2.1 + b.2.1) a.2.2.1 rfl rfl rfl
            simp only [decide_true, cond_true, Option.bind_some, inB_dir (d := 0) (by omega) (by omega), inB_dir (d := 2) (by omega) (by omega), show decide ((1 : Int) = 0) = false by decide, show decide ((1 : Int) = 2) = false by decide, show decide ((0 : Int) = 1) = false by decide, show decide ((0 : Int) = 2) = false by decide, show decide ((2 : Int) = 0) = false by decide, show decide ((2 : Int) = 1) = false by decide, cond_false]
            rw [decide_eq_true x1, decide_eq_true x2, w64 (x := a.2.1 + b.2.1) (by omega) (by omega)]
            exact this
          · have x1 : a.1 = b.1 := by simpa [side3] using e0
            have x2 : a.2.1 = b.2.1 := by simpa [side3] using e1
            have := himpl a.1 a.2.1 (a.2.2.1 + b.2.2.1) rfl rfl rfl
            simp only [decide_true, cond_true, Option.bind_some, inB_dir (d := 0) (by omega) (by omega), inB_dir (d := 1) (by omega) (by omega), show decide ((1 : Int) = 0) = false by decide, show decide ((1 : Int) = 2) = false by decide, show decide ((0 : Int) = 1) = false by decide, show decide ((0 : Int) = 2) = false by decide, show decide ((2 : Int) = 0) = false by decide, show decide ((2 : Int) = 1) = false by decide, cond_false]
            rw [decide_eq_true x1, decide_eq_true x2, w64 (x := a.2.2.1 + b.2.2.1) (by omega) (by omega)]
            exact this
        · refine ⟨(noHeap, false, ()), ?_, ?_, hno⟩
          · by_cases c0 : 0 = d ∨ side3 a.1 a.2.1 a.2.2.1 0 = side3 b.1 b.2.1 b.2.2.1 0
            · by_cases c1 : 1 = d ∨ side3 a.1 a.2.1 a.2.2.1 1 = side3 b.1 b.2.1 b.2.2.1 1
              · by_cases c2 : 2 = d ∨ side3 a.1 a.2.1 a.2.2.1 2 = side3 b.1 b.2.1 b.2.2.1 2
                · exfalso
                  apply hall
                  intro j j0 j1
                  rcases dir j0 j1 with rfl | rfl | rfl
                  · exact c0
                  · exact c1
                  · exact c2
                · rw [if_pos c0, if_pos c1, if_neg c2]
              · rw [if_pos c0, if_neg c1]
            · rw [if_neg c0]
          · rw [p_impl_others]
            have hnot : ¬ ((0 = d ∨ a.1 = b.1) ∧ (1 = d ∨ a.2.1 = b.2.1) ∧ (2 = d ∨ a.2.2.1 = b.2.2.1)) := by
              rintro ⟨c0, c1, c2⟩
              apply hall
              intro j j0 j1
              rcases dir j0 j1 with rfl | rfl | rfl
              · exact c0
              · exact c1
              · exact c2
            rcases dir d0 d1 with rfl | rfl | rfl
            · simp only [decide_true, cond_true, Option.bind_some, inB_dir (d := 1) (by omega) (by omega), inB_dir (d := 2) (by omega) (by omega), show decide ((1 : Int) = 0) = false by decide, show decide ((0 : Int) = 1) = false by decide, show decide ((0 : Int) = 2) = false by decide, show decide ((2 : Int) = 0) = false by decide, show decide ((2 : Int) = 1) = false by decide, cond_false]
              by_cases x1 : a.2.1 = b.2.1
              · have x2 : ¬ a.2.2.1 = b.2.2.1 := fun x2 => hnot ⟨.inl rfl, .inr x1, .inr x2⟩
                rw [decide_eq_true x1, decide_eq_false x2]; rfl
              · rw [decide_eq_false x1]; rfl
            · simp only [decide_true, cond_true, Option.bind_some, inB_dir (d := 0) (by omega) (by omega), inB_dir (d := 2) (by omega) (by omega), show decide ((1 : Int) = 0) = false by decide, show decide ((1 : Int) = 2) = false by decide, show decide ((0 : Int) = 1) = false by decide, show decide ((0 : Int) = 2) = false by decide, show decide ((2 : Int) = 0) = false by decide, show decide ((2 : Int) = 1) = false by decide, cond_false]
              by_cases x1 : a.1 = b.1
              · have x2 : ¬ a.2.2.1 = b.2.2.1 := fun x2 => hnot ⟨.inr x1, .inl rfl, .inr x2⟩
                rw [decide_eq_true x1, decide_eq_false x2]; rfl
              · rw [decide_eq_false x1]; rfl
            · simp only [decide_true, cond_true, Option.bind_some, inB_dir (d := 0) (by omega) (by omega), inB_dir (d := 1) (by omega) (by omega), show decide ((1 : Int) = 0) = false by decide, show decide ((1 : Int) = 2) = false by decide, show decide ((0 : Int) = 1) = false by decide, show decide ((0 : Int) = 2) = false by decide, show decide ((2 : Int) = 0) = false by decide, show decide ((2 : Int) = 1) = false by decide, cond_false]
              by_cases x1 : a.1 = b.1
              · have x2 : ¬ a.2.1 = b.2.1 := fun x2 => hnot ⟨.inr x1, .inr x2, .inl rfl⟩
                rw [decide_eq_true x1, decide_eq_false x2]; rfl
              · rw [decide_eq_false x1]; rfl

theorem f_szHeap2 (h : D_Heap) (left : Int) (h0 : 0 ≤ left) (h1 : left ≤ 1048576) (hl : h.2.2.2.1.length ≤ 9223372036854775807) : ∃ z, P_laws_szHeap (h, left, ()) = some (z, ()) ∧ z ≤ left ∧ (z < 0 ∨ (h.2.2.2.1.length : Int) + z ≤ left) := by
  obtain ⟨z, hz, hle, hor⟩ := f_szIntA3S h.2.2.2.1 left h0 h1 hl
  rw [p_laws_szHeap, hz]
  simp only [Option.bind_some]
  by_cases hn : z < 0
  · exact ⟨-1, by simp [hn], by omega, .inl (by omega)⟩
  · exact ⟨z, by simp [hn], hle, .inr (by omega)⟩

theorem law_GlueHeaps (a b : D_Heap) (d : Int) (hla : a.2.2.2.1.length ≤ 9223372036854775807) (hlb : b.2.2.2.1.length ≤ 9223372036854775807) : P_laws_FnExactGlueHeaps (a, b, d, ()) = some (true, ()) := by
  obtain ⟨z, hz, hz1, hor⟩ := f_szHeap2 a 1048576 (by omega) (by omega) hla
  rw [p_laws_FnExactGlueHeaps, hz]
  simp only [Option.bind_some]
  by_cases hn : z < 0
  · simp [hn]
  · have ha := hor.resolve_left hn
    obtain ⟨y, hy, hy1, hory⟩ := f_szHeap2 b z (by omega) (by omega) hlb
    rw [hy]
    simp only [Option.bind_some]
    by_cases hn' : y < 0
    · simp [hn, hn']
    · have hb := hory.resolve_left hn'
      have sa : Small a.2.2.2.1 := by unfold Small; omega
      have sb : Small b.2.2.2.1 := by unfold Small; omega
      obtain ⟨r, e1, e2, sr⟩ := glue_eq a b d sa sb (by omega)
      have h2 : ¬ (1 + 3 * (r.1.2.2.2.1.length : Int)) < 0 := by omega
      have h3 : ¬ (1 + 3 * (a.2.2.2.1.length : Int) + 3 * (b.2.2.2.1.length : Int)) < 0 := by omega
      simp only [hn, hn', f_toHeap a sa, f_toHeap b sb, e1, e2, f_eqHeap _ sr, f_eqHeap a sa, f_eqHeap b sb, f_markHeap a sa, f_markHeap _ sr, Option.bind_some, decide_false, cond_false, Bool.not_true, beq_self_eq_true]
      rw [f_markK b _ sb (by omega) (by omega), f_heldHeap _ r.1.2.2.2.1 sr rfl]
      simp only [h2, h3, Option.bind_some, decide_false, decide_true, cond_false, Bool.not_true]
end Go.VI
