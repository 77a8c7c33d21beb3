/- Plain: gluing two heaps. -/
import Derived.Test.YtaopponjedombaaPlO
import Derived.Test.YtaopponjedombaaPlA
namespace Go.VI
open Go.Proofs

theorem cut_lo {l : List D_A3} (k : Nat) : cut l 0 (k : Int) = l.take k := by simp [cut]
theorem cut_hi {l : List D_A3} (k : Nat) : cut l (k : Int) (l.length : Int) = l.drop k := by simp [cut]

theorem f_l2Own {X Y Z : Int} {l : List D_A3} (hl : l.length ≤ 3000000) : P_spec_l2Own ((X, Y, Z, l, ()), ()) = some ((X, Y, Z, l, ()), ()) := by
  rw [p_spec_l2Own]
  simp only [List.length_nil, List.nil_append, p_spec_l2Made, Option.bind_some]
  rw [decide_eq_true (by omega), decide_eq_true (by omega)]
  rfl

theorem srt_insert {l : List D_A3} (hr : Srt l) (c : D_A3) (k : Nat) (h1 : ∀ x ∈ l.take k, ltC x c = true) (h2 : ∀ x ∈ l.drop k, ltC c x = true) : Srt (l.take k ++ [c] ++ l.drop k) := by
  unfold Srt
  rw [List.append_assoc, List.pairwise_append]
  have ht : Srt (l.take k) := List.Pairwise.sublist (List.take_sublist k l) hr
  have hd : Srt (l.drop k) := List.Pairwise.sublist (List.drop_sublist k l) hr
  refine ⟨ht, List.pairwise_cons.2 ⟨h2, hd⟩, fun a ha b hb => ?_⟩
  rcases List.mem_cons.1 hb with rfl | hb'
  · exact h1 a ha
  · exact ltC_trans (h1 a ha) (h2 b hb')

theorem mem_insert {l : List D_A3} (c x : D_A3) (k : Nat) : x ∈ l.take k ++ [c] ++ l.drop k ↔ x = c ∨ x ∈ l := by
  have : x ∈ l ↔ x ∈ l.take k ∨ x ∈ l.drop k := by rw [← List.mem_append, List.take_append_drop]
  rw [this]
  simp only [List.mem_append, List.mem_singleton]
  constructor
  · rintro ((h | h) | h)
    · exact .inr (.inl h)
    · exact .inl h
    · exact .inr (.inr h)
  · rintro (h | h | h)
    · exact .inl (.inr h)
    · exact .inl (.inl h)
    · exact .inr h

theorem l_with {X Y Z : Int} {l : List D_A3} (hr : Srt l) (c : D_A3) (hl : l.length ≤ 2500000) : ∀ (n k m : Nat), l.length = k + n → n < m → (∀ x ∈ l.take k, ltC x c = true) →
    ∃ l', l_spec_l2With_2 m X Y Z l c.1 c.2.1 c.2.2.1 0 0 0 [] (k : Int) = some ((X, Y, Z, l', ()), ()) ∧ Srt l' ∧ (∀ x, x ∈ l' ↔ x = c ∨ x ∈ l) ∧ l'.length ≤ l.length + 1
  | n, k, 0, hk, hm, _ => by omega
  | n, k, m + 1, hk, hm, hlow => by
    have g1 : (decide (((List.length ([] : List D_A3)) + (List.length (l.take k))) * 24 ≤ 140737488355328) && decide (((List.length ([] : List D_A3)) + (List.length (l.take k))) ≤ 140737488355328)) = true := by
      rw [List.length_take, List.length_nil, decide_eq_true (by omega), decide_eq_true (by omega)]; rfl
    have g2 : (decide (((List.length (([] : List D_A3) ++ (l.take k))) + (List.length ([c] : List D_A3))) * 24 ≤ 140737488355328) && decide (((List.length (([] : List D_A3) ++ (l.take k))) + (List.length ([c] : List D_A3))) ≤ 140737488355328)) = true := by
      rw [List.nil_append, List.length_take, List.length_singleton, decide_eq_true (by omega), decide_eq_true (by omega)]; rfl
    have g3 : (decide (((List.length ((([] : List D_A3) ++ (l.take k)) ++ ([c] : List D_A3))) + (List.length (l.drop k))) * 24 ≤ 140737488355328) && decide (((List.length ((([] : List D_A3) ++ (l.take k)) ++ ([c] : List D_A3))) + (List.length (l.drop k))) ≤ 140737488355328)) = true := by
      rw [List.nil_append, List.length_append, List.length_take, List.length_singleton, List.length_drop, decide_eq_true (by omega), decide_eq_true (by omega)]; rfl
    have g4 : (decide ((0 : Int) ≤ 0) && decide ((0 : Int) ≤ (k : Int)) && decide ((k : Int) ≤ (List.length l : Int))) = true := by
      rw [decide_eq_true (by omega), decide_eq_true (by omega), decide_eq_true (by omega)]; rfl
    have g5 : (decide ((0 : Int) ≤ (k : Int)) && decide ((k : Int) ≤ (List.length l : Int)) && decide ((List.length l : Int) ≤ (List.length l : Int))) = true := by
      rw [decide_eq_true (by omega), decide_eq_true (by omega), decide_eq_true (by omega)]; rfl
    have hlen : (l.take k ++ [c] ++ l.drop k).length ≤ l.length + 1 := by
      rw [List.length_append, List.length_append, List.length_take, List.length_drop, List.length_singleton]; omega
    have ec : ((c.1, (c.2.1, (c.2.2.1, ()))) : D_A3) = c := rfl
    rw [q_spec_l2With_2]
    by_cases hlt : k < l.length
    · rw [ltT hlt, inB_at hlt, nthA (t := T_A3) hlt, f_spec_l2Before, ec, cut_lo, cut_hi, g1, g2, g3, g4, g5, succI k (by omega)]
      simp only [cond_true, Option.bind_some, Bool.and_true]
      cases hb : ltC l[k] c with
      | true =>
        refine l_with hr c hl (n - 1) (k + 1) m (by omega) (by omega) ?_
        intro x hx
        rw [List.take_add_one, List.getElem?_eq_getElem hlt] at hx
        rcases List.mem_append.1 hx with h | h
        · exact hlow x h
        · have : x = l[k] := by simpa using h
          rw [this]; exact hb
      | false =>
        simp only [cond_false]
        by_cases he : l[k] = c
        · have hq : (decide ((l[k]).1 = c.1) && (decide ((l[k]).2.1 = c.2.1) && decide ((l[k]).2.2.1 = c.2.2.1))) = true := by rw [he]; simp
          rw [hq, f_l2Own (by omega)]
          refine ⟨l, rfl, hr, fun x => ?_, by omega⟩
          constructor
          · exact .inr
          · rintro (rfl | h)
            · rw [← he]; exact List.getElem_mem hlt
            · exact h
        · have hq : (decide ((l[k]).1 = c.1) && (decide ((l[k]).2.1 = c.2.1) && decide ((l[k]).2.2.1 = c.2.2.1))) = false := by
            rw [Bool.eq_false_iff]
            intro h
            simp only [Bool.and_eq_true, decide_eq_true_eq] at h
            exact he (cell_ext h.1 h.2.1 h.2.2)
          rw [hq, p_spec_l2Made]
          have hck : ltC c l[k] = true := by
            cases h : ltC c l[k] with
            | true => rfl
            | false => exact absurd (ltC_total hb h) he
          refine ⟨l.take k ++ [c] ++ l.drop k, rfl, srt_insert hr c k hlow ?_, fun x => mem_insert c x k, hlen⟩
          intro x hx
          rw [drop_at l k hlt] at hx
          rcases List.mem_cons.1 hx with rfl | h
          · exact hck
          · have hd : Srt (l.drop k) := List.Pairwise.sublist (List.drop_sublist k l) hr
            rw [drop_at l k hlt] at hd
            exact ltC_trans hck ((List.pairwise_cons.1 hd).1 x h)
    · rw [ltF hlt, ec, cut_lo, cut_hi, g1, g2, g3, g4, g5, p_spec_l2Made]
      refine ⟨l.take k ++ [c] ++ l.drop k, rfl, srt_insert hr c k hlow ?_, fun x => mem_insert c x k, hlen⟩
      intro x hx
      rw [List.drop_eq_nil_of_le (by omega)] at hx
      cases hx

theorem f_l2With {X Y Z : Int} {l : List D_A3} (hr : Srt l) (c : D_A3) (hl : l.length ≤ 2500000) : ∃ l', P_spec_l2With ((X, Y, Z, l, ()), c, ()) = some ((X, Y, Z, l', ()), ()) ∧ Srt l' ∧ (∀ x, x ∈ l' ↔ x = c ∨ x ∈ l) ∧ l'.length ≤ l.length + 1 := by
  obtain ⟨l', h, r⟩ := l_with (X := X) (Y := Y) (Z := Z) hr c hl l.length 0 N (by simp) (by have := N_ge; omega) (by simp)
  exact ⟨l', by rw [p_spec_l2With]; exact h, r⟩

/-! ### The reference -/
theorem sh_text2 {d : Int} (d0 : 0 ≤ d) (d1 : d ≤ 2) (c : D_A3) (hc : Near c) (k : Int) (k0 : 0 ≤ k) (k1 : k ≤ 4) : ((bif decide (d = (0 : Int)) then (IntKind.wrap .i64 ((bif decide (d = (0 : Int)) then c.1 else (bif decide (d = (1 : Int)) then c.2.1 else c.2.2.1)) + k)) else c.1), ((bif decide (d = (1 : Int)) then (IntKind.wrap .i64 ((bif decide (d = (0 : Int)) then c.1 else (bif decide (d = (1 : Int)) then c.2.1 else c.2.2.1)) + k)) else c.2.1), ((bif decide (d = (2 : Int)) then (IntKind.wrap .i64 ((bif decide (d = (0 : Int)) then c.1 else (bif decide (d = (1 : Int)) then c.2.1 else c.2.2.1)) + k)) else c.2.2.1), ()))) = sh d k c := by
  unfold Near at hc
  rw [w64]
  · rcases dir d0 d1 with rfl | rfl | rfl <;> rfl
  all_goals rcases dir d0 d1 with rfl | rfl | rfl <;> simp <;> omega

theorem l_glue11 {A B C A' B' C' S1 S2 S3 d s : Int} {la lb : List D_A3} (hla : Small la) : ∀ (n i m : Nat) (out : List D_A3), la.length = i + n → n < m → Srt out → out.length ≤ i →
    ∃ out', Srt out' ∧ (∀ x, x ∈ out' ↔ x ∈ out ∨ x ∈ la.drop i) ∧ out'.length ≤ la.length ∧ l_spec_GlueHeaps_11 m A B C la A' B' C' lb 0 0 0 [] S1 S2 S3 out d s (i : Int) = l_spec_GlueHeaps_15 N A' B' C' lb 0 0 0 [] S1 S2 S3 out' d s 0
  | n, i, 0, out, hk, hm, hr, ho => by omega
  | n, i, m + 1, out, hk, hm, hr, ho => by
    have hl' := hla
    unfold Small at hl'
    rw [q_spec_GlueHeaps_11]
    by_cases hlt : i < la.length
    · obtain ⟨l', e, r', m', n'⟩ := f_l2With (X := S1) (Y := S2) (Z := S3) hr la[i] (by omega)
      obtain ⟨o, h1, h2, h3, h4⟩ := l_glue11 (A := A) (B := B) (C := C) (A' := A') (B' := B') (C' := C') (S1 := S1) (S2 := S2) (S3 := S3) (d := d) (s := s) (lb := lb) hla (n - 1) (i + 1) m l' (by omega) (by omega) r' (by omega)
      rw [ltT hlt, inB_at hlt, nthA (t := T_A3) hlt, e, succI i (by omega)]
      refine ⟨o, h1, fun x => ?_, h3, h4⟩
      rw [h2, m', drop_at la i hlt, List.mem_cons]
      constructor
      · rintro ((h | h) | h)
        · exact .inr (.inl h)
        · exact .inl h
        · exact .inr (.inr h)
      · rintro (h | h | h)
        · exact .inl (.inr h)
        · exact .inl (.inl h)
        · exact .inr h
    · rw [ltF hlt]
      refine ⟨out, hr, fun x => ?_, by omega, rfl⟩
      rw [List.drop_eq_nil_of_le (by omega)]
      simp

theorem l_glue15 {A' B' C' S1 S2 S3 d s : Int} {lb : List D_A3} (hlb : Small lb) (hn : ∀ c ∈ lb, Near c) (d0 : 0 ≤ d) (d1 : d ≤ 2) (s0 : 0 ≤ s) (s1 : s ≤ 4) (t : Nat) (ht : t ≤ 1048576) : ∀ (n i m : Nat) (out : List D_A3), lb.length = i + n → n < m → Srt out → out.length ≤ t + i →
    ∃ out', Srt out' ∧ (∀ x, x ∈ out' ↔ x ∈ out ∨ x ∈ (lb.drop i).map (sh d s)) ∧ out'.length ≤ t + lb.length ∧ l_spec_GlueHeaps_15 m A' B' C' lb 0 0 0 [] S1 S2 S3 out d s (i : Int) = Option.bind (P_spec_l2Kept ((S1, S2, S3, out', ()), ())) fun r1 => some (r1.1, r1.2.1, ())
  | n, i, 0, out, hk, hm, hr, ho => by omega
  | n, i, m + 1, out, hk, hm, hr, ho => by
    have hl' := hlb
    unfold Small at hl'
    rw [q_spec_GlueHeaps_15]
    by_cases hlt : i < lb.length
    · obtain ⟨l', e, r', m', n'⟩ := f_l2With (X := S1) (Y := S2) (Z := S3) hr (sh d s lb[i]) (by omega)
      obtain ⟨o, h1, h2, h3, h4⟩ := l_glue15 (A' := A') (B' := B') (C' := C') (S1 := S1) (S2 := S2) (S3 := S3) hlb hn d0 d1 s0 s1 t ht (n - 1) (i + 1) m l' (by omega) (by omega) r' (by omega)
      rw [ltT hlt, inB_at hlt, nthA (t := T_A3) hlt, inB_dir d0 d1, sh_text2 d0 d1 _ (hn _ (List.getElem_mem hlt)) s s0 s1, e, succI i (by omega)]
      refine ⟨o, h1, fun x => ?_, h3, h4⟩
      rw [h2, m', drop_at lb i hlt, List.map_cons, List.mem_cons]
      constructor
      · rintro ((h | h) | h)
        · exact .inr (.inl h)
        · exact .inl h
        · exact .inr (.inr h)
      · rintro (h | h | h)
        · exact .inl (.inr h)
        · exact .inl (.inl h)
        · exact .inr h
    · rw [ltF hlt]
      refine ⟨out, hr, fun x => ?_, by omega, rfl⟩
      rw [List.drop_eq_nil_of_le (by omega)]
      simp

theorem l_step4 {A B C A' B' C' d : Int} {la lb : List D_A3} (m : Nat) {j : Int} (j0 : 0 ≤ j) (j1 : j ≤ 2) : l_spec_GlueHeaps_4 (m + 1) A B C la A' B' C' lb 0 0 0 [] d j = if j = d ∨ side3 A B C j = side3 A' B' C' j then l_spec_GlueHeaps_4 m A B C la A' B' C' lb 0 0 0 [] d (j + 1) else some (noHeap, false, ()) := by
  rw [q_spec_GlueHeaps_4, decide_eq_true (by omega), f_l2Long la j0 j1, f_l2Long lb j0 j1, w64 (by omega) (by omega)]
  simp only [cond_true, Option.bind_some]
  by_cases h1 : j = d
  · simp [h1]
  · by_cases h2 : side3 A B C j = side3 A' B' C' j
    · simp [h1, h2]
    · simp [h1, h2, noHeap]

def glueOut (S1 S2 S3 : Int) (l : List D_A3) : D_Heap × Bool × Unit := if sides S1 S2 S3 then ((S1, S2, S3, l, ()), true, ()) else (noHeap, false, ())

theorem f_l2Kept {S1 S2 S3 : Int} {l : List D_A3} (hl : l.length ≤ 1048576) (hr : Srt l) (hi : sides S1 S2 S3 = true → Ins S1 S2 S3 l) : (Option.bind (P_spec_l2Kept ((S1, S2, S3, l, ()), ())) fun r1 => some (r1.1, r1.2.1, ())) = some (glueOut S1 S2 S3 l) := by
  rw [p_spec_l2Kept, f_spec_l2Heap (S1, S2, S3, l, ()) hl]
  unfold glueOut
  have e : okHeap ((S1, S2, S3, l, ()) : D_Heap) = sides S1 S2 S3 := by
    cases hs : sides S1 S2 S3 with
    | true => exact okHeap_iff.2 ⟨hs, hi hs, hr⟩
    | false => unfold okHeap; rw [hs]; rfl
  rw [e]
  cases sides S1 S2 S3 <;> rfl

theorem specTail {A B C A' B' C' d : Int} {la lb : List D_A3} (ha : sides A B C = true) (hb : sides A' B' C' = true) (d0 : 0 ≤ d) (d1 : d ≤ 2) (hla : Small la) (hlb : Small lb) (hsum : la.length + lb.length ≤ 1048576) (ib : Ins A' B' C' lb) (m : Nat)
    {S1 S2 S3 : Int} (e1 : S1 = (boxWith A B C d (side3 A B C d + side3 A' B' C' d) []).1) (e2 : S2 = (boxWith A B C d (side3 A B C d + side3 A' B' C' d) []).2.1) (e3 : S3 = (boxWith A B C d (side3 A B C d + side3 A' B' C' d) []).2.2.1)
    (hin : sides S1 S2 S3 = true → Ins S1 S2 S3 (la ++ lb.map (sh d (side3 A B C d)))) :
    ∃ out, Srt out ∧ (∀ x, x ∈ out ↔ x ∈ la ++ lb.map (sh d (side3 A B C d))) ∧ out.length ≤ 1048576 ∧ l_spec_GlueHeaps_4 (m + 1) A B C la A' B' C' lb 0 0 0 [] d 3 = some (glueOut S1 S2 S3 out) := by
  have h4 := side3_ok ha d
  have h4' := side3_ok hb d
  obtain ⟨o1, r1, m1, n1, q1⟩ := l_glue11 (A := A) (B := B) (C := C) (A' := A') (B' := B') (C' := C') (S1 := S1) (S2 := S2) (S3 := S3) (d := d) (s := side3 A B C d) (lb := lb) hla la.length 0 N [] (by simp) (by unfold Small at hla; have := N_ge; omega) (by simp [Srt]) (by simp)
  obtain ⟨o2, r2, m2, n2, q2⟩ := l_glue15 (A' := A') (B' := B') (C' := C') (S1 := S1) (S2 := S2) (S3 := S3) (s := side3 A B C d) hlb (fun c hc => near_of hb (ib c hc)) d0 d1 (by omega) (by omega) la.length hla lb.length 0 N o1 (by simp) (by unfold Small at hlb; have := N_ge; omega) r1 (by omega)
  have hmem : ∀ x, x ∈ o2 ↔ x ∈ la ++ lb.map (sh d (side3 A B C d)) := by
    intro x
    rw [m2, m1, List.mem_append]
    simp
  refine ⟨o2, r2, hmem, by omega, ?_⟩
  rw [q_spec_GlueHeaps_4, show decide ((3 : Int) < 3) = false by decide]
  simp only [cond_false]
  rw [f_l2Long la d0 d1, f_l2Long lb d0 d1]
  simp only [Option.bind_some]
  rw [w64 (by omega) (by omega), f_l11Box la d0 d1]
  simp only [Option.bind_some]
  rw [← e1, ← e2, ← e3, show (boxWith A B C d (side3 A B C d + side3 A' B' C' d) []).2.2.2.1 = [] from rfl]
  have q1' : l_spec_GlueHeaps_11 N A B C la A' B' C' lb 0 0 0 [] S1 S2 S3 [] d (side3 A B C d) 0 = _ := q1
  have q2' : l_spec_GlueHeaps_15 N A' B' C' lb 0 0 0 [] S1 S2 S3 o1 d (side3 A B C d) 0 = _ := q2
  rw [q1', q2']
  exact f_l2Kept (by omega) r2 (fun h c hc => hin h c ((hmem c).1 hc))

/-! ### The program -/
theorem l_implG15 {A B C S1 S2 S3 d : Int} {la lb : List D_A3} (hS : sides S1 S2 S3 = true) (ha : sides A B C = true) (d0 : 0 ≤ d) (d1 : d ≤ 2) (hlb : Small lb) (hn : ∀ c ∈ lb, Near c) (hin : Ins S1 S2 S3 (lb.map (sh d (side3 A B C d)))) : ∀ (n i m : Nat) (v : BitVec 64), lb.length = i + n → n < m →
    l_impl_GlueHeaps_15 m A B C la 0 0 0 [] S1 S2 S3 d (v.toNat : Int) lb (lb.length : Int) (i : Int) = some ((S1, S2, S3, bitCells S1 S2 S3 (mask S2 S3 ((lb.drop i).map (sh d (side3 A B C d))) v), ()), true, ())
  | n, i, 0, v, hk, hm => by omega
  | n, i, m + 1, v, hk, hm => by
    have hl' := hlb
    unfold Small at hl'
    have h4 := side3_ok ha d
    rw [q_impl_GlueHeaps_15]
    by_cases hlt : i < lb.length
    · have hw := hin _ (List.mem_map_of_mem (List.getElem_mem hlt))
      rw [ltT hlt, inB_at hlt, nthA (t := T_A3) hlt, inB_dir d0 d1, f_Heap_box, succI i (by omega)]
      simp only [cond_true, Option.bind_some]
      have hsd : (bif decide (d = (0 : Int)) then A else (bif decide (d = (1 : Int)) then B else C)) = side3 A B C d := rfl
      rw [hsd, sh_text2 d0 d1 _ (hn _ (List.getElem_mem hlt)) _ (by omega) (by omega), f_box_index hS hw]
      simp only [Option.bind_some]
      rw [decide_eq_true (Int.natCast_nonneg _), shl64, or64, drop_at lb i hlt]
      exact l_implG15 hS ha d0 d1 hlb hn hin (n - 1) (i + 1) m _ (by omega) (by omega)
    · rw [ltF hlt, List.drop_eq_nil_of_le (by omega)]
      simp only [cond_false]
      rw [f_box_heap hS]
      rfl

theorem l_implG10 {A B C A' B' C' S1 S2 S3 d : Int} {la lb : List D_A3} (hS : sides S1 S2 S3 = true) (hla : Small la) (hin : Ins S1 S2 S3 la) : ∀ (n i m : Nat) (v : BitVec 64), la.length = i + n → n < m →
    l_impl_GlueHeaps_10 m A B C la A' B' C' lb 0 0 0 [] S1 S2 S3 d (v.toNat : Int) la (la.length : Int) (i : Int) = l_impl_GlueHeaps_15 N A B C la 0 0 0 [] S1 S2 S3 d ((mask S2 S3 (la.drop i) v).toNat : Int) lb (lb.length : Int) 0
  | n, i, 0, v, hk, hm => by omega
  | n, i, m + 1, v, hk, hm => by
    have hl' := hla
    unfold Small at hl'
    rw [q_impl_GlueHeaps_10]
    by_cases hlt : i < la.length
    · rw [ltT hlt, inB_at hlt, nthA (t := T_A3) hlt, f_box_index hS (hin _ (List.getElem_mem hlt)), succI i (by omega)]
      simp only [cond_true, Option.bind_some]
      rw [decide_eq_true (Int.natCast_nonneg _), shl64, or64, drop_at la i hlt]
      exact l_implG10 hS hla hin (n - 1) (i + 1) m _ (by omega) (by omega)
    · rw [ltF hlt, List.drop_eq_nil_of_le (by omega)]
      rfl

theorem implTail {A B C A' B' C' S1 S2 S3 d : Int} {la lb : List D_A3} (hS : sides S1 S2 S3 = true) (ha : sides A B C = true) (hb : sides A' B' C' = true) (d0 : 0 ≤ d) (d1 : d ≤ 2) (hla : Small la) (hlb : Small lb) (ib : Ins A' B' C' lb) (hin : Ins S1 S2 S3 (la ++ lb.map (sh d (side3 A B C d)))) :
    l_impl_GlueHeaps_10 N A B C la A' B' C' lb 0 0 0 [] S1 S2 S3 d 0 la (la.length : Int) 0 = some ((S1, S2, S3, bitCells S1 S2 S3 (mask S2 S3 (la ++ lb.map (sh d (side3 A B C d))) 0), ()), true, ()) := by
  have i1 : Ins S1 S2 S3 la := fun c hc => hin c (List.mem_append_left _ hc)
  have i2 : Ins S1 S2 S3 (lb.map (sh d (side3 A B C d))) := fun c hc => hin c (List.mem_append_right _ hc)
  have h10 := l_implG10 (A := A) (B := B) (C := C) (A' := A') (B' := B') (C' := C') (d := d) (lb := lb) hS hla i1 la.length 0 N 0 (by simp) (by unfold Small at hla; have := N_ge; omega)
  have h15 := l_implG15 (A := A) (B := B) (C := C) (d := d) (la := la) hS ha d0 d1 hlb (fun c hc => near_of hb (ib c hc)) i2 lb.length 0 N (mask S2 S3 la 0) (by simp) (by unfold Small at hlb; have := N_ge; omega)
  rw [mask_append]
  simp only [List.drop_zero] at h10 h15
  exact h10.trans h15

theorem glue_box {A B C A' B' C' d : Int} (ha : sides A B C = true) (hb : sides A' B' C' = true) (d0 : 0 ≤ d) (d1 : d ≤ 2) {la lb : List D_A3} (ia : Ins A B C la) (ib : Ins A' B' C' lb)
    (he : ∀ j, 0 ≤ j → j ≤ 2 → j = d ∨ side3 A B C j = side3 A' B' C' j) :
    Ins (boxWith A B C d (side3 A B C d + side3 A' B' C' d) []).1 (boxWith A B C d (side3 A B C d + side3 A' B' C' d) []).2.1 (boxWith A B C d (side3 A B C d + side3 A' B' C' d) []).2.2.1 (la ++ lb.map (sh d (side3 A B C d))) := by
  obtain ⟨a1, a2, a3⟩ := sides_iff.1 ha
  obtain ⟨b1, b2, b3⟩ := sides_iff.1 hb
  have e0 := he 0 (by omega) (by omega)
  have e1 := he 1 (by omega) (by omega)
  have e2 := he 2 (by omega) (by omega)
  intro c hc
  rcases List.mem_append.1 hc with h | h
  · have := within3_iff.1 (ia c h)
    rw [within3_iff]
    rcases dir d0 d1 with rfl | rfl | rfl <;> simp [boxWith, side3] at e0 e1 e2 ⊢ <;> omega
  · obtain ⟨a, h', rfl⟩ := List.mem_map.1 h
    have := within3_iff.1 (ib a h')
    rw [within3_iff]
    rcases dir d0 d1 with rfl | rfl | rfl <;> simp [boxWith, side3, sh] at e0 e1 e2 ⊢ <;> omega

theorem glueOut_noHeap_small (S1 S2 S3 : Int) {l : List D_A3} (hl : l.length ≤ 1048576) : Small (glueOut S1 S2 S3 l).1.2.2.2.1 := by
  unfold glueOut
  split
  · exact hl
  · unfold Small noHeap; simp

end Go.VI
/- Plain: what acts make of heaps. -/
namespace Go.VI
open Go.Proofs

/-- Both say the same of a heap. -/
def Both (a b : Option (D_Heap × Bool × Unit)) : Prop := ∃ r : D_Heap × Bool × Unit, a = some r ∧ b = some r ∧ Small r.1.2.2.2.1

theorem small64 {l : List D_A3} (h : l.length ≤ 64) : Small l := by unfold Small; omega
theorem small_no : Small noHeap.2.2.2.1 := by unfold Small noHeap; simp

theorem heap_is {X Y Z : Int} (hs : sides X Y Z = true) {v : BitVec 64} {g : D_A3 → Bool} (hv : SetIs X Y Z v g) {l : List D_A3} (hr : Srt l) (hm : ∀ c, c ∈ l ↔ within3 X Y Z c = true ∧ g c = true) : P_box_heap ((X, Y, Z, ()), (v.toNat : Int), ()) = some ((X, Y, Z, l, ()), ()) := by
  rw [f_box_heap hs, hv.cells hs hr hm]

theorem app_len' {α : Type} {l : List α} {x : α} (h : l.length ≤ 100000000) : (decide ((l.length + ([x] : List α).length) * 24 ≤ 140737488355328) && decide (l.length + ([x] : List α).length ≤ 140737488355328)) = true := by
  rw [Bool.and_eq_true, decide_eq_true_eq, decide_eq_true_eq]
  simp only [List.length_singleton]
  omega

/-! ### A cube more, a cube less, other cells -/
theorem cell_eq (a c : D_A3) : (decide (a.1 = c.1) && (decide (a.2.1 = c.2.1) && (decide (a.2.2.1 = c.2.2.1) && true))) = decide (a = c) := by
  rw [Bool.eq_iff_iff, Bool.and_eq_true, Bool.and_eq_true, Bool.and_eq_true, decide_eq_true_eq, decide_eq_true_eq, decide_eq_true_eq, decide_eq_true_eq]
  constructor
  · rintro ⟨h1, h2, h3, _⟩; exact cell_ext h1 h2 h3
  · intro h; rw [← h]; exact ⟨rfl, rfl, rfl, rfl⟩

theorem l_without {X Y Z X' Y' Z' : Int} (l : List D_A3) (c : D_A3) (hl : l.length ≤ 3000000) : ∀ (d i m : Nat) (out : List D_A3), l.length = i + d → d < m → out.length ≤ i →
    l_spec_l2Without_3 m X Y Z l c.1 c.2.1 c.2.2.1 0 0 0 [] X' Y' Z' out (i : Int) = some ((X', Y', Z', out ++ (l.drop i).filter (fun x => !decide (x = c)), ()), ())
  | d, i, 0, out, _, h, _ => by omega
  | d, i, m + 1, out, hk, hm, ho => by
    rw [q_spec_l2Without_3]
    by_cases hlt : i < l.length
    · rw [ltT hlt, inB_at hlt, nthA (t := T_A3) hlt, cell_eq l[i] c, app_len' (by omega), drop_at l i hlt, succI i (by omega)]
      simp only [cond_true, List.filter_cons]
      by_cases e : l[i] = c
      · rw [decide_eq_true e]
        simp only [Bool.not_true, cond_false, Bool.false_eq_true, if_false]
        exact l_without l c hl (d - 1) (i + 1) m out (by omega) (by omega) (by omega)
      · rw [decide_eq_false e]
        simp only [Bool.not_false, cond_true, if_true]
        rw [l_without l c hl (d - 1) (i + 1) m _ (by omega) (by omega) (by simp; omega)]
        simp
    · rw [ltF hlt, List.drop_eq_nil_of_le (by omega)]
      simp

theorem f_without {X Y Z : Int} (l : List D_A3) (c : D_A3) (hl : l.length ≤ 3000000) : P_spec_l2Without ((X, Y, Z, l, ()), c, ()) = some ((X, Y, Z, l.filter (fun x => !decide (x = c)), ()), ()) := by
  have := l_without (X := X) (Y := Y) (Z := Z) (X' := X) (Y' := Y) (Z' := Z) l c hl l.length 0 N [] (by simp) (by have := N_ge; omega) (by simp)
  rw [p_spec_l2Without, p_spec_l2Empty]
  exact this

theorem l_other {X Y Z X' Y' Z' : Int} {l al : List D_A3} (hl : Small l) (hal : Small al) : ∀ (d i m : Nat) (out : List D_A3), al.length = i + d → d < m → out.length ≤ i →
    l_spec_OtherCells_5 m X Y Z l 0 0 0 [] X' Y' Z' out al (i : Int) = some ((X', Y', Z', out ++ (al.drop i).filter (fun x => !decide (x ∈ l)), ()), true, ())
  | d, i, 0, out, _, h, _ => by omega
  | d, i, m + 1, out, hk, hm, ho => by
    have hal' := hal
    unfold Small at hal'
    rw [q_spec_OtherCells_5]
    by_cases hlt : i < al.length
    · rw [ltT hlt, inB_at hlt, nthA (t := T_A3) hlt, f_l2Has X Y Z l _ hl, app_len' (by omega), drop_at al i hlt, succI i (by omega)]
      simp only [cond_true, Option.bind_some, List.filter_cons]
      by_cases e : al[i] ∈ l
      · rw [decide_eq_true e]
        simp only [Bool.not_true, cond_false, Bool.false_eq_true, if_false]
        exact l_other hl hal (d - 1) (i + 1) m out (by omega) (by omega) (by omega)
      · rw [decide_eq_false e]
        simp only [Bool.not_false, cond_true, if_true]
        rw [l_other hl hal (d - 1) (i + 1) m _ (by omega) (by omega) (by simp; omega)]
        simp
    · rw [ltF hlt, List.drop_eq_nil_of_le (by omega)]
      simp

/-! ### Cubes elsewhere -/
end Go.VI
/- Plain: dropped heaps. -/
namespace Go.VI
open Go.Proofs

def lineI (Y : Int) (c : D_A3) : Int := c.1 * Y + c.2.1

theorem line_ok {X Y Z : Int} (hs : sides X Y Z = true) {c : D_A3} (hc : within3 X Y Z c = true) : 0 ≤ lineI Y c ∧ lineI Y c < X * Y ∧ 0 ≤ c.1 * Y ∧ c.1 * Y ≤ 16 := by
  have s := sides_iff.1 hs
  have w := within3_iff.1 hc
  unfold lineI
  rcases four s.1.1 s.1.2 with rfl | rfl | rfl | rfl <;> rcases four s.2.1.1 s.2.1.2 with rfl | rfl | rfl | rfl <;> omega

/-- One cube more in its column. -/
def upL (Y : Int) (acc : List Int) (c : D_A3) : List Int := List.set acc (Int.toNat (lineI Y c)) (IntKind.wrap .i64 ((nth ((.int .i64) : Ty) acc (lineI Y c)) + 1))

theorem inB_line {X Y Z : Int} (hs : sides X Y Z = true) {c : D_A3} (hc : within3 X Y Z c = true) {acc : List Int} (ha : acc.length = (X * Y).toNat) : inB (lineI Y c) acc.length = true := by
  obtain ⟨h1, h2, h3, h4⟩ := line_ok hs hc
  unfold inB
  rw [Bool.and_eq_true, decide_eq_true_eq, decide_eq_true_eq]
  omega

theorem upL_len {Y : Int} {acc : List Int} {c : D_A3} : (upL Y acc c).length = acc.length := by simp [upL]

theorem l_viewS {X Y Z : Int} (hs : sides X Y Z = true) {l : List D_A3} (hl : Small l) (hi : Ins X Y Z l) : ∀ (d i m : Nat) (acc : List Int), l.length = i + d → d < m → acc.length = (X * Y).toNat →
    l_spec_l2View_4 m X Y Z l 0 1 acc (i : Int) = some ((l.drop i).foldl (upL Y) acc, ())
  | d, i, 0, acc, _, h, _ => by omega
  | d, i, m + 1, acc, hk, hm, ha => by
    have hl' := hl
    unfold Small at hl'
    rw [q_spec_l2View_4]
    by_cases hlt : i < l.length
    · have hc := hi _ (List.getElem_mem hlt)
      obtain ⟨h1, h2, h3, h4⟩ := line_ok hs hc
      have h5 := size64 hs
      have w := within3_iff.1 hc
      have s := sides_iff.1 hs
      rw [ltT hlt, inB_at hlt, nthA (t := T_A3) hlt, f_l2Long l (show (0 : Int) ≤ 1 by decide) (by decide), drop_at l i hlt, succI i (by omega)]
      have e : IntKind.wrap .i64 (IntKind.wrap .i64 ((bif decide ((0 : Int) = (0 : Int)) then l[i].1 else (bif decide ((0 : Int) = (1 : Int)) then l[i].2.1 else l[i].2.2.1)) * side3 X Y Z 1) + (bif decide ((1 : Int) = (0 : Int)) then l[i].1 else (bif decide ((1 : Int) = (1 : Int)) then l[i].2.1 else l[i].2.2.1))) = lineI Y l[i] := by
        show IntKind.wrap .i64 (IntKind.wrap .i64 (l[i].1 * Y) + l[i].2.1) = _
        unfold lineI at *
        rw [w64 (x := l[i].1 * Y) (by omega) (by omega), w64 (by omega) (by omega)]
      simp only [cond_true, Option.bind_some, show inB (0 : Int) 3 = true from rfl, show inB (1 : Int) 3 = true from rfl] at e ⊢
      rw [e, inB_line hs hc ha]
      simp only [cond_true, List.foldl_cons]
      exact l_viewS hs hl hi (d - 1) (i + 1) m (upL Y acc l[i]) (by omega) (by omega) (by rw [upL_len, ha])
    · rw [ltF hlt, List.drop_eq_nil_of_le (by omega)]
      rfl

/-- How many cubes each column has. -/
def cols (X Y : Int) (l : List D_A3) : List Int := l.foldl (upL Y) (List.replicate (X * Y).toNat 0)

theorem foldl_upL_len (Y : Int) : ∀ (l : List D_A3) (acc : List Int), (l.foldl (upL Y) acc).length = acc.length
  | [], _ => rfl
  | c :: l, acc => by rw [List.foldl_cons, foldl_upL_len Y l, upL_len]

theorem cols_len (X Y : Int) (l : List D_A3) : (cols X Y l).length = (X * Y).toNat := by
  unfold cols
  rw [foldl_upL_len, List.length_replicate]

theorem guardN {n : Int} (h0 : 0 ≤ n) (h1 : n ≤ 1000) : (decide ((0 : Int) ≤ n) && decide (n ≤ n) && decide (n * ((8 : Nat) : Int) ≤ 140737488355328) && decide (n ≤ 140737488355328)) = true := by
  rw [decide_eq_true h0, decide_eq_true (Int.le_refl n), decide_eq_true (p := n * ((8 : Nat) : Int) ≤ 140737488355328) (by omega), decide_eq_true (p := n ≤ 140737488355328) (by omega)]
  rfl

theorem f_viewS {X Y Z : Int} (hs : sides X Y Z = true) {l : List D_A3} (hl : Small l) (hi : Ins X Y Z l) : P_spec_l2View ((X, Y, Z, l, ()), 2, ()) = some (cols X Y l, ()) := by
  have h5 := size64 hs
  rw [p_spec_l2View, p_spec_l2Others]
  simp only [show decide ((2 : Int) = 0) = false from rfl, show decide ((2 : Int) = 1) = false from rfl, cond_false, Option.bind_some]
  rw [f_l2Long l (show (0 : Int) ≤ 0 by decide) (by decide), f_l2Long l (show (0 : Int) ≤ 1 by decide) (by decide)]
  simp only [Option.bind_some]
  have e : IntKind.wrap .i64 (side3 X Y Z 0 * side3 X Y Z 1) = X * Y := by
    show IntKind.wrap .i64 (X * Y) = _
    rw [w64 (by omega) (by omega)]
  rw [e, guardN (by omega) (by omega)]
  exact l_viewS hs hl hi l.length 0 N (List.replicate (X * Y).toNat 0) (by simp) (by unfold Small at hl; have := N_ge; omega) (by simp)

/-- Is a cell below the top of its column? -/
def lowC (Y : Int) (V : List Int) (c : D_A3) : Bool := decide (c.2.2.1 < nth ((.int .i64) : Ty) V (lineI Y c))

theorem l_stackS {X Y Z X' Y' Z' : Int} (hs : sides X Y Z = true) {V : List Int} (hV : V.length = (X * Y).toNat) {al : List D_A3} (hal : Small al) (hin : Ins X Y Z al) : ∀ (d i m : Nat) (out : List D_A3), al.length = i + d → d < m → out.length ≤ i →
    l_spec_l2Stack_4 m 0 0 0 [] X' Y' Z' out Y V al (i : Int) = some ((X', Y', Z', out ++ (al.drop i).filter (lowC Y V), ()), ())
  | d, i, 0, out, _, h, _ => by omega
  | d, i, m + 1, out, hk, hm, ho => by
    have hal' := hal
    unfold Small at hal'
    rw [q_spec_l2Stack_4]
    by_cases hlt : i < al.length
    · have hc := hin _ (List.getElem_mem hlt)
      obtain ⟨h1, h2, h3, h4⟩ := line_ok hs hc
      have h5 := size64 hs
      have w := within3_iff.1 hc
      have s := sides_iff.1 hs
      have e : IntKind.wrap .i64 (IntKind.wrap .i64 (al[i].1 * Y) + al[i].2.1) = lineI Y al[i] := by
        unfold lineI at *
        rw [w64 (x := al[i].1 * Y) (by omega) (by omega), w64 (by omega) (by omega)]
      rw [ltT hlt, inB_at hlt, nthA (t := T_A3) hlt, e, inB_line hs hc hV, app_len' (by omega), drop_at al i hlt, succI i (by omega)]
      simp only [cond_true, List.filter_cons]
      cases hlow : decide (al[i].2.2.1 < nth ((.int .i64) : Ty) V (lineI Y al[i])) with
      | false =>
        have hl2 : lowC Y V al[i] = false := hlow
        rw [hl2]
        simp only [cond_false, Bool.false_eq_true, if_false]
        exact l_stackS hs hV hal hin (d - 1) (i + 1) m out (by omega) (by omega) (by omega)
      | true =>
        have hl2 : lowC Y V al[i] = true := hlow
        rw [hl2]
        simp only [cond_true, if_true]
        rw [l_stackS hs hV hal hin (d - 1) (i + 1) m _ (by omega) (by omega) (by simp; omega)]
        simp
    · rw [ltF hlt, List.drop_eq_nil_of_le (by omega)]
      simp

end Go.VI
/- Plain: parts of heaps, and what stands. -/
namespace Go.VI
open Go.Proofs

/-! ### Near cubes -/
def ab (x y : Int) : Int := if x - y > y - x then x - y else y - x

theorem most_ab (x y : Int) : P_spec_l1Most (x - y, y - x, ()) = some (ab x y, ()) := by
  rw [p_spec_l1Most]
  unfold ab
  by_cases h : x - y > y - x <;> simp [h]

theorem f_apart (a b : D_A3) (ha : Near a) (hb : Near b) : P_spec_l2Apart (a, b, ()) = some (ab a.1 b.1 + ab a.2.1 b.2.1 + ab a.2.2.1 b.2.2.1, ()) := by
  obtain ⟨n, hn⟩ : ∃ n, N = n + 4 := ⟨N - 4, by have := N_ge; omega⟩
  unfold Near at ha hb
  have bd : ∀ x y : Int, -1000 ≤ x → x ≤ 1000 → -1000 ≤ y → y ≤ 1000 → 0 ≤ ab x y ∧ ab x y ≤ 2000 := fun x y h1 h2 h3 h4 => by unfold ab; split <;> omega
  obtain ⟨x0, x1⟩ := bd a.1 b.1 (by omega) (by omega) (by omega) (by omega)
  obtain ⟨y0, y1⟩ := bd a.2.1 b.2.1 (by omega) (by omega) (by omega) (by omega)
  obtain ⟨z0, z1⟩ := bd a.2.2.1 b.2.2.1 (by omega) (by omega) (by omega) (by omega)
  have wr : ∀ x y : Int, -1000 ≤ x → x ≤ 1000 → -1000 ≤ y → y ≤ 1000 → IntKind.wrap .i64 (x - y) = x - y := fun x y h1 h2 h3 h4 => w64 (by omega) (by omega)
  have s : ∀ (m : Nat) (v x y : Int) (k : Nat), k < 3 → (bif decide ((k : Int) = (0 : Int)) then a.1 else (bif decide ((k : Int) = (1 : Int)) then a.2.1 else a.2.2.1)) = x → (bif decide ((k : Int) = (0 : Int)) then b.1 else (bif decide ((k : Int) = (1 : Int)) then b.2.1 else b.2.2.1)) = y → -1000 ≤ x → x ≤ 1000 → -1000 ≤ y → y ≤ 1000 → 0 ≤ v → v ≤ 100000 →
      l_spec_l2Apart_3 (m + 1) a.1 a.2.1 a.2.2.1 b.1 b.2.1 b.2.2.1 v (k : Int) = l_spec_l2Apart_3 m a.1 a.2.1 a.2.2.1 b.1 b.2.1 b.2.2.1 (v + ab x y) ((k + 1 : Nat) : Int) := by
    intro m v x y k hk hx hy h1 h2 h3 h4 h5 h6
    obtain ⟨b0, b1⟩ := bd x y h1 h2 h3 h4
    rw [q_spec_l2Apart_3, decide_eq_true (p := (k : Int) < 3) (by omega), inB_at (k := k) (n := 3) hk, hx, hy, wr x y h1 h2 h3 h4, wr y x h3 h4 h1 h2, most_ab, succI k (by omega)]
    simp only [cond_true, Option.bind_some]
    rw [w64 (by omega) (by omega)]
  have fin : ∀ (m : Nat) (v : Int), l_spec_l2Apart_3 (m + 1) a.1 a.2.1 a.2.2.1 b.1 b.2.1 b.2.2.1 v ((3 : Nat) : Int) = some (v, ()) := by
    intro m v; rw [q_spec_l2Apart_3]; rfl
  rw [p_spec_l2Apart]
  show l_spec_l2Apart_3 N a.1 a.2.1 a.2.2.1 b.1 b.2.1 b.2.2.1 0 ((0 : Nat) : Int) = _
  rw [hn, s (n + 3) 0 a.1 b.1 0 (by omega) rfl rfl (by omega) (by omega) (by omega) (by omega) (by omega) (by omega), s (n + 2) _ a.2.1 b.2.1 1 (by omega) rfl rfl (by omega) (by omega) (by omega) (by omega) (by omega) (by omega), s (n + 1) _ a.2.2.1 b.2.2.1 2 (by omega) rfl rfl (by omega) (by omega) (by omega) (by omega) (by omega) (by omega), fin]
  congr 2
  omega

theorem apart_nb (a c : D_A3) : ab a.1 c.1 + ab a.2.1 c.2.1 + ab a.2.2.1 c.2.2.1 = 1 ↔ nb c a := by
  rw [nb_iff]
  unfold ab
  constructor
  · intro h
    split at h <;> split at h <;> split at h <;> omega
  · intro h
    split <;> split <;> split <;> omega

theorem l_near {X Y Z : Int} {l : List D_A3} (hl : l.length ≤ 1000000) (hn : ∀ c ∈ l, Near c) {c : D_A3} (hc : Near c) (p : D_A3 → Bool) (hp : ∀ x, p x = true ↔ nb c x) : ∀ (d i m : Nat) (out : List D_A3), l.length = i + d → d < m → out.length ≤ i →
    l_spec_l2Near_3 m X Y Z l c.1 c.2.1 c.2.2.1 out (i : Int) = some (out ++ (l.drop i).filter p, ())
  | d, i, 0, out, _, h, _ => by omega
  | d, i, m + 1, out, hk, hm, ho => by
    rw [q_spec_l2Near_3]
    by_cases hlt : i < l.length
    · have e := f_apart l[i] c (hn _ (List.getElem_mem hlt)) hc
      have e' : P_spec_l2Apart (l[i], (c.1, (c.2.1, (c.2.2.1, ()))), ()) = _ := e
      rw [ltT hlt, inB_at hlt, nthA (t := T_A3) hlt, e', app_len' (by omega), drop_at l i hlt, succI i (by omega)]
      simp only [cond_true, Option.bind_some, List.filter_cons]
      by_cases h : nb c l[i]
      · rw [decide_eq_true ((apart_nb l[i] c).2 h), (hp _).2 h]
        simp only [cond_true, if_true]
        rw [l_near hl hn hc p hp (d - 1) (i + 1) m _ (by omega) (by omega) (by simp; omega)]
        simp
      · have hpf : p l[i] = false := by
          cases hb : p l[i] with
          | false => rfl
          | true => exact absurd ((hp _).1 hb) h
        rw [decide_eq_false (fun hh => h ((apart_nb l[i] c).1 hh)), hpf]
        simp only [cond_false, Bool.false_eq_true, if_false]
        exact l_near hl hn hc p hp (d - 1) (i + 1) m out (by omega) (by omega) (by omega)
    · rw [ltF hlt, List.drop_eq_nil_of_le (by omega)]
      simp

open Classical in
/-- Is a cell a neighbor? -/
noncomputable def nbB (c x : D_A3) : Bool := decide (nb c x)
open Classical in
theorem nbB_iff (c x : D_A3) : nbB c x = true ↔ nb c x := by simp [nbB]

theorem f_nearL {X Y Z : Int} {l : List D_A3} (hl : l.length ≤ 1000000) (hn : ∀ c ∈ l, Near c) {c : D_A3} (hc : Near c) : P_spec_l2Near ((X, Y, Z, l, ()), c, ()) = some (l.filter (nbB c), ()) := by
  have := l_near (X := X) (Y := Y) (Z := Z) hl hn hc (nbB c) (nbB_iff c) l.length 0 N [] (by simp) (by have := N_ge; omega) (by simp)
  rw [p_spec_l2Near]
  exact this

/-! ### One part -/
def Conn (l : List D_A3) (c0 : D_A3) : D_A3 → Prop := Rch (fun c => c = c0) (fun c => c ∈ l)

theorem Conn.mem {l : List D_A3} {c0 c : D_A3} (h0 : c0 ∈ l) (h : Conn l c0 c) : c ∈ l := by
  cases h with
  | base h => rw [h]; exact h0
  | step _ _ h => exact h

theorem Conn.trans {l : List D_A3} {a b c : D_A3} (h : Conn l a b) (k : Conn l b c) : Conn l a c :=
  Rch.mono (p := fun x => x = b) (fun x hx => by rw [hx]; exact h) (fun _ h => h) k

theorem Conn.symm {l : List D_A3} {a b : D_A3} (ha : a ∈ l) (h : Conn l a b) : Conn l b a := by
  induction h with
  | base h => exact .base h.symm
  | step hr hn hd ih =>
    rename_i c d
    have hc : c ∈ l := Conn.mem ha hr
    exact Conn.trans (.step (.base rfl) (nb_symm hn) hc) ih

/-- A part is being gathered: what is left, the list, what is put together; n cells are done. -/
structure Part (l L0 : List D_A3) (c0 : D_A3) (n np : Nat) (ls lf pt : List D_A3) : Prop where
  srt : Srt lf
  sub : ∀ c ∈ lf, c ∈ L0
  lsub : ∀ c ∈ ls, c ∈ L0
  all : ∀ c ∈ L0, c ∈ ls ∨ c ∈ lf
  apart : ∀ c ∈ ls, c ∉ lf
  conn : ∀ c ∈ ls, Conn l c0 c
  done : ∀ i, i < n → ∀ c, ls[i]? = some c → ∀ d, nb c d → d ∉ lf
  psrt : Srt pt
  pmem : ∀ c, c ∈ pt ↔ c ∈ ls.take np
  nodup : ls.Nodup
  start : c0 ∈ ls

theorem Part.len {l L0 : List D_A3} {c0 : D_A3} {n np : Nat} {ls lf pt : List D_A3} (h : Part l L0 c0 n np ls lf pt) (hr : Srt L0) : ls.length + lf.length = L0.length := by
  have hp : L0.Perm (ls ++ lf) := by
    refine (List.perm_ext_iff_of_nodup hr.nodup ?_).2 fun c => ?_
    · rw [List.nodup_append]
      exact ⟨h.nodup, h.srt.nodup, fun a ha b hb e => h.apart a ha (e ▸ hb)⟩
    · rw [List.mem_append]
      exact ⟨h.all c, fun hc => hc.elim (h.lsub c) (h.sub c)⟩
  rw [hp.length_eq, List.length_append]

/-- One near cell is taken over. -/
theorem Part.take {l L0 : List D_A3} {c0 : D_A3} {n np : Nat} {ls lf pt : List D_A3} (hl : ∀ c ∈ L0, c ∈ l) (h : Part l L0 c0 n np ls lf pt) {c x : D_A3} (hcl : c ∈ ls) (hx : x ∈ lf) (hn : nb c x) (hnp : np ≤ ls.length) (hpt : n ≤ ls.length) :
    Part l L0 c0 n np (ls ++ [x]) (lf.filter fun y => !decide (y = x)) pt := by
  have hxl : x ∉ ls := fun hh => h.apart x hh hx
  refine ⟨h.srt.filter _, fun y hy => h.sub y (List.mem_filter.1 hy).1, fun y hy => ?_, fun y hy => ?_, fun y hy => ?_, fun y hy => ?_, fun i hi y hy d hd => ?_, h.psrt, fun y => ?_, ?_, List.mem_append_left _ h.start⟩
  · rcases List.mem_append.1 hy with hy | hy
    · exact h.lsub y hy
    · rw [List.mem_singleton.1 hy]; exact h.sub x hx
  · rcases h.all y hy with hy | hy
    · exact .inl (List.mem_append_left _ hy)
    · by_cases e : y = x
      · exact .inl (by rw [e]; simp)
      · exact .inr (List.mem_filter.2 ⟨hy, by simp [e]⟩)
  · intro hh
    have hh' := List.mem_filter.1 hh
    rcases List.mem_append.1 hy with hy | hy
    · exact h.apart y hy hh'.1
    · rw [List.mem_singleton.1 hy] at hh'
      simp at hh'
  · rcases List.mem_append.1 hy with hy | hy
    · exact h.conn y hy
    · rw [List.mem_singleton.1 hy]
      exact .step (h.conn c hcl) hn (hl x (h.sub x hx))
  · rw [List.getElem?_append_left (by omega)] at hy
    exact fun hh => h.done i hi y hy d hd (List.mem_filter.1 hh).1
  · rw [h.pmem, List.take_append_of_le_length (by omega)]
  · rw [List.nodup_append]
    exact ⟨h.nodup, (by simp), fun a ha b hb e => hxl (by rw [← List.mem_singleton.1 hb, ← e]; exact ha)⟩
end Go.VI
/- Plain: pieces behind cuts, as the reference finds them. -/
namespace Go.VI
open Go.Proofs

/-- Do two cells lie on the same sides of all cuts? -/
def same (cuts : List D_A2) (a b : D_A3) : Bool := cuts.all fun t => decide (get3 a t.1 < t.2.1) == decide (get3 b t.1 < t.2.1)

theorem same_iff {cuts : List D_A2} {a b : D_A3} : same cuts a b = true ↔ ∀ t ∈ cuts, (get3 a t.1 < t.2.1 ↔ get3 b t.1 < t.2.1) := by
  unfold same
  rw [List.all_eq_true]
  constructor
  · intro h t ht
    have := h t ht
    rw [beq_iff_eq, decide_eq_decide] at this
    exact this
  · intro h t ht
    rw [beq_iff_eq, decide_eq_decide]
    exact h t ht

theorem same_refl (cuts : List D_A2) (a : D_A3) : same cuts a a = true := same_iff.2 fun _ _ => Iff.rfl
theorem same_symm {cuts : List D_A2} {a b : D_A3} (h : same cuts a b = true) : same cuts b a = true := same_iff.2 fun t ht => (same_iff.1 h t ht).symm
theorem same_trans {cuts : List D_A2} {a b c : D_A3} (h : same cuts a b = true) (k : same cuts b c = true) : same cuts a c = true := same_iff.2 fun t ht => (same_iff.1 h t ht).trans (same_iff.1 k t ht)

def Dirs (cuts : List D_A2) : Prop := ∀ t ∈ cuts, 0 ≤ t.1 ∧ t.1 ≤ 2

theorem l_parted11 (cuts : List D_A2) (hd : Dirs cuts) (hl : cuts.length ≤ 1000) (a b : D_A3) : ∀ (d k m : Nat), cuts.length = k + d → d < m → l_spec_l11Parted_2 m a.1 a.2.1 a.2.2.1 b.1 b.2.1 b.2.2.1 cuts (k : Int) = some (!same (cuts.drop k) a b, ())
  | d, k, 0, _, h => by omega
  | d, k, m + 1, hk, hm => by
    rw [q_spec_l11Parted_2]
    by_cases hlt : k < cuts.length
    · have hdk := hd _ (List.getElem_mem hlt)
      rw [ltT hlt, inB_at hlt, nthA (t := T_A2) hlt, inB_dir hdk.1 hdk.2, succI k (by omega), l_parted11 cuts hd hl a b (d - 1) (k + 1) m (by omega) (by omega), drop_at cuts k hlt]
      simp only [cond_true]
      have e : same (cuts[k] :: cuts.drop (k + 1)) a b = ((decide (get3 a cuts[k].1 < cuts[k].2.1) == decide (get3 b cuts[k].1 < cuts[k].2.1)) && same (cuts.drop (k + 1)) a b) := rfl
      rw [e]
      show (bif !(decide (get3 a cuts[k].1 < cuts[k].2.1) == decide (get3 b cuts[k].1 < cuts[k].2.1)) then some (true, ()) else _) = _
      cases (decide (get3 a cuts[k].1 < cuts[k].2.1) == decide (get3 b cuts[k].1 < cuts[k].2.1)) <;> rfl
    · rw [ltF hlt, List.drop_eq_nil_of_le (by omega)]
      rfl

theorem f_parted11 (cuts : List D_A2) (hd : Dirs cuts) (hl : cuts.length ≤ 1000) (a b : D_A3) : P_spec_l11Parted (cuts, a, b, ()) = some (!same cuts a b, ()) := by
  rw [p_spec_l11Parted]
  exact l_parted11 cuts hd hl a b cuts.length 0 N (by simp) (by have := N_ge; omega)

/-- What is reached on one side of all cuts. -/
def ConnS (cuts : List D_A2) (l : List D_A3) (c0 : D_A3) : D_A3 → Prop := Rch (fun c => c = c0) (fun c => c ∈ l ∧ same cuts c0 c = true)

theorem ConnS.mem {cuts : List D_A2} {l : List D_A3} {c0 c : D_A3} (h0 : c0 ∈ l) (h : ConnS cuts l c0 c) : c ∈ l := by
  cases h with
  | base h => rw [h]; exact h0
  | step _ _ h => exact h.1

theorem ConnS.same {cuts : List D_A2} {l : List D_A3} {c0 c : D_A3} (h : ConnS cuts l c0 c) : same cuts c0 c = true := by
  cases h with
  | base h => rw [h]; exact same_refl _ _
  | step _ _ h => exact h.2

theorem ConnS.conn {cuts : List D_A2} {l : List D_A3} {c0 c : D_A3} (h : ConnS cuts l c0 c) : Conn l c0 c := Rch.mono (fun _ hx => .base hx) (fun _ hx => hx.1) h

/-- A piece is being gathered. -/
structure PartS (cuts : List D_A2) (l L0 : List D_A3) (c0 : D_A3) (n np : Nat) (ls lf pt : List D_A3) : Prop where
  srt : Srt lf
  sub : ∀ c ∈ lf, c ∈ L0
  lsub : ∀ c ∈ ls, c ∈ L0
  all : ∀ c ∈ L0, c ∈ ls ∨ c ∈ lf
  apart : ∀ c ∈ ls, c ∉ lf
  conn : ∀ c ∈ ls, ConnS cuts l c0 c
  done : ∀ i, i < n → ∀ c, ls[i]? = some c → ∀ d, nb c d → same cuts c d = true → d ∉ lf
  psrt : Srt pt
  pmem : ∀ c, c ∈ pt ↔ c ∈ ls.take np
  nodup : ls.Nodup
  start : c0 ∈ ls

theorem PartS.len {cuts : List D_A2} {l L0 : List D_A3} {c0 : D_A3} {n np : Nat} {ls lf pt : List D_A3} (h : PartS cuts l L0 c0 n np ls lf pt) (hr : Srt L0) : ls.length + lf.length = L0.length := by
  have hp : L0.Perm (ls ++ lf) := by
    refine (List.perm_ext_iff_of_nodup hr.nodup ?_).2 fun c => ?_
    · rw [List.nodup_append]
      exact ⟨h.nodup, h.srt.nodup, fun a ha b hb e => h.apart a ha (e ▸ hb)⟩
    · rw [List.mem_append]
      exact ⟨h.all c, fun hc => hc.elim (h.lsub c) (h.sub c)⟩
  rw [hp.length_eq, List.length_append]

theorem PartS.take {cuts : List D_A2} {l L0 : List D_A3} {c0 : D_A3} {n np : Nat} {ls lf pt : List D_A3} (hl : ∀ c ∈ L0, c ∈ l) (h : PartS cuts l L0 c0 n np ls lf pt) {c x : D_A3} (hcl : c ∈ ls) (hx : x ∈ lf) (hn : nb c x) (hsm : same cuts c x = true) (hnp : np ≤ ls.length) (hpt : n ≤ ls.length) :
    PartS cuts l L0 c0 n np (ls ++ [x]) (lf.filter fun y => !decide (y = x)) pt := by
  have hxl : x ∉ ls := fun hh => h.apart x hh hx
  refine ⟨h.srt.filter _, fun y hy => h.sub y (List.mem_filter.1 hy).1, fun y hy => ?_, fun y hy => ?_, fun y hy => ?_, fun y hy => ?_, fun i hi y hy d hd hs => ?_, h.psrt, fun y => ?_, ?_, List.mem_append_left _ h.start⟩
  · rcases List.mem_append.1 hy with hy | hy
    · exact h.lsub y hy
    · rw [List.mem_singleton.1 hy]; exact h.sub x hx
  · rcases h.all y hy with hy | hy
    · exact .inl (List.mem_append_left _ hy)
    · by_cases e : y = x
      · exact .inl (by rw [e]; simp)
      · exact .inr (List.mem_filter.2 ⟨hy, by simp [e]⟩)
  · intro hh
    have hh' := List.mem_filter.1 hh
    rcases List.mem_append.1 hy with hy | hy
    · exact h.apart y hy hh'.1
    · rw [List.mem_singleton.1 hy] at hh'
      simp at hh'
  · rcases List.mem_append.1 hy with hy | hy
    · exact h.conn y hy
    · rw [List.mem_singleton.1 hy]
      exact .step (h.conn c hcl) hn ⟨hl x (h.sub x hx), same_trans (h.conn c hcl).same hsm⟩
  · intro hh
    have hh' := List.mem_filter.1 hh
    rw [List.getElem?_append_left (by omega)] at hy
    exact h.done i hi y hy d hd hs hh'.1
  · rw [h.pmem, List.take_append_of_le_length hnp]
  · rw [List.nodup_append]
    exact ⟨h.nodup, by simp, fun a ha b hb e => hxl (by rw [← List.mem_singleton.1 hb, ← e]; exact ha)⟩

theorem l_k11 {X Y Z : Int} {cuts : List D_A2} (hdr : Dirs cuts) (hcl : cuts.length ≤ 1000) {l L0 lf0 nr pt : List D_A3} {c0 c : D_A3} {n : Nat} (hl : ∀ x ∈ L0, x ∈ l) (hL : Srt L0) (h64 : L0.length ≤ 64) (hnr : nr.Nodup) (hc : ∀ x ∈ nr, nb c x) (hlen : nr.length ≤ 64) (ps : List (List D_A3)) (m0 m1 : Nat) :
    ∀ (d k m : Nat) (ls lf : List D_A3), nr.length = k + d → d < m → PartS cuts l L0 c0 n (n + 1) ls lf pt → ls[n]? = some c → (∀ x ∈ lf, x ∈ lf0) → (∀ x ∈ nr.take k, same cuts c x = true → x ∉ lf) → (∀ x ∈ nr.drop k, x ∈ lf) →
    ∃ ls' lf', l_spec_l11Pieces_11 m0 m1 m X Y Z l X Y Z lf X Y Z pt cuts ps ls (n : Int) nr (k : Int) = l_spec_l11Pieces_6 m0 m1 X Y Z l X Y Z lf' X Y Z pt cuts ps ls' ((n + 1 : Nat) : Int) ∧ PartS cuts l L0 c0 n (n + 1) ls' lf' pt ∧ (∀ x ∈ lf', x ∈ lf0) ∧ (∀ x ∈ nr, same cuts c x = true → x ∉ lf') ∧ ls'[n]? = some c
  | d, k, 0, ls, lf, _, h, _, _, _, _, _ => by omega
  | d, k, m + 1, ls, lf, hk, hm, hP, hn, h0, h1, h2 => by
    have hle := hP.len hL
    have hlt0 : n < ls.length := (List.getElem?_eq_some_iff.1 hn).1
    have hcn : ls[n] = c := by rw [List.getElem?_eq_getElem hlt0] at hn; exact Option.some.inj hn
    rw [q_spec_l11Pieces_11]
    by_cases hlt : k < nr.length
    · rw [ltT hlt, inB_at hlt0, inB_at hlt, nthA (t := T_A3) hlt, nthA (t := T_A3) hlt0, hcn, f_parted11 cuts hdr hcl, succI k (by omega)]
      simp only [cond_true, Option.bind_some, Bool.not_not]
      have hd : nr.drop k = nr[k] :: nr.drop (k + 1) := drop_at nr k hlt
      have hnd : (nr.drop k).Nodup := hnr.sublist (List.drop_sublist k nr)
      rw [hd] at hnd
      cases hsm : same cuts c nr[k] with
      | true =>
        rw [app_len' (by omega), f_without lf nr[k] (by omega)]
        simp only [cond_true, Option.bind_some]
        have hx : nr[k] ∈ lf := h2 _ (by rw [hd]; exact List.mem_cons_self ..)
        have hP' := hP.take hl (List.mem_of_getElem? hn) hx (hc _ (List.getElem_mem hlt)) hsm (by omega) (by omega)
        refine l_k11 hdr hcl hl hL h64 hnr hc hlen ps m0 m1 (d - 1) (k + 1) m _ _ (by omega) (by omega) hP' (by rw [List.getElem?_append_left hlt0]; exact hn) (fun x hx => h0 x (List.mem_filter.1 hx).1) (fun x hx hs hh => ?_) (fun x hx => ?_)
        · rw [List.take_add_one, List.getElem?_eq_getElem hlt] at hx
          have hh' := List.mem_filter.1 hh
          rcases List.mem_append.1 hx with hx | hx
          · exact h1 x hx hs hh'.1
          · rw [show x = nr[k] by simpa using hx] at hh'
            simp at hh'
        · have hne : x ≠ nr[k] := fun e => (List.nodup_cons.1 hnd).1 (e ▸ hx)
          exact List.mem_filter.2 ⟨h2 x (by rw [hd]; exact List.mem_cons_of_mem _ hx), by simp [hne]⟩
      | false =>
        simp only [cond_false]
        refine l_k11 hdr hcl hl hL h64 hnr hc hlen ps m0 m1 (d - 1) (k + 1) m ls lf (by omega) (by omega) hP hn h0 (fun x hx hs hh => ?_) (fun x hx => h2 x (by rw [hd]; exact List.mem_cons_of_mem _ hx))
        rw [List.take_add_one, List.getElem?_eq_getElem hlt] at hx
        rcases List.mem_append.1 hx with hx | hx
        · exact h1 x hx hs hh
        · rw [show x = nr[k] by simpa using hx, hsm] at hs
          cases hs
    · rw [ltF hlt, succI n (by omega)]
      refine ⟨ls, lf, rfl, hP, h0, fun x hx => h1 x (by rw [List.take_of_length_le (by omega)]; exact hx), hn⟩

theorem l_k6 {X Y Z : Int} {cuts : List D_A2} (hdr : Dirs cuts) (hcl : cuts.length ≤ 1000) {l L0 : List D_A3} {c0 : D_A3} (hs : sides X Y Z = true) (hi : Ins X Y Z l) (hl : ∀ x ∈ L0, x ∈ l) (hL : Srt L0) (h64 : L0.length ≤ 64) (ps : List (List D_A3)) (hps : ps.length ≤ 1000) (m0 : Nat) :
    ∀ (d n m : Nat) (ls lf pt : List D_A3), L0.length = n + d → d < m → PartS cuts l L0 c0 n n ls lf pt → n ≤ ls.length →
    ∃ ls' lf' pt', l_spec_l11Pieces_6 m0 m X Y Z l X Y Z lf X Y Z pt cuts ps ls (n : Int) = l_spec_l11Pieces_2 m0 X Y Z l X Y Z lf' cuts (ps ++ [pt']) ∧ PartS cuts l L0 c0 ls'.length ls'.length ls' lf' pt'
  | d, n, 0, ls, lf, pt, _, h, _, _ => by omega
  | d, n, m + 1, ls, lf, pt, hk, hm, hP, hn => by
    have hle := hP.len hL
    rw [q_spec_l11Pieces_6]
    by_cases hlt : n < ls.length
    · have hcm : ls[n] ∈ ls := List.getElem_mem hlt
      have hin : ∀ x ∈ L0, Near x := fun x hx => near_of hs (hi x (hl x hx))
      have hptl : pt.length ≤ 64 := srt_small64 hs (fun x hx => hi x (hl x (hP.lsub x (List.mem_of_mem_take ((hP.pmem x).1 hx))))) hP.psrt
      obtain ⟨pt', g1, g2, g3, g4⟩ := f_l2With (X := X) (Y := Y) (Z := Z) hP.psrt ls[n] (by omega)
      rw [ltT hlt, inB_at hlt, nthA (t := T_A3) hlt, g1, f_nearL (X := X) (Y := Y) (Z := Z) (l := lf) (by omega) (fun x hx => hin x (hP.sub x hx)) (hin _ (hP.lsub _ hcm))]
      simp only [cond_true, Option.bind_some]
      have hpm : ∀ x, x ∈ pt' ↔ x ∈ ls.take (n + 1) := fun x => by
        rw [g3, hP.pmem, List.take_add_one, List.getElem?_eq_getElem hlt, List.mem_append]
        simp only [Option.toList_some, List.mem_singleton]
        exact or_comm
      have hP1 : PartS cuts l L0 c0 n (n + 1) ls lf pt' := { hP with psrt := g2, pmem := hpm }
      have hnr : (lf.filter (nbB ls[n])).Nodup := (hP.srt.filter _).nodup
      obtain ⟨ls', lf', e1, e2, e3, e4, e5⟩ := l_k11 (X := X) (Y := Y) (Z := Z) hdr hcl (lf0 := lf) (nr := lf.filter (nbB ls[n])) (c := ls[n]) hl hL h64 hnr (fun x hx => (nbB_iff _ _).1 (List.mem_filter.1 hx).2) (Nat.le_trans (List.length_filter_le _ _) (by omega)) ps m0 m (lf.filter (nbB ls[n])).length 0 N ls lf (by omega) (by have := List.length_filter_le (nbB ls[n]) lf; have := N_ge; omega) hP1 (List.getElem?_eq_getElem hlt) (fun x hx => hx) (by simp) (fun x hx => (List.mem_filter.1 (by simpa using hx)).1)
      have e1' : l_spec_l11Pieces_11 m0 m N X Y Z l X Y Z lf X Y Z pt' cuts ps ls (n : Int) (lf.filter (nbB ls[n])) 0 = _ := e1
      rw [e1']
      have hlt' : n < ls'.length := (List.getElem?_eq_some_iff.1 e5).1
      have hle' := e2.len hL
      refine l_k6 hdr hcl hs hi hl hL h64 ps hps m0 (d - 1) (n + 1) m ls' lf' pt' (by omega) (by omega) { e2 with done := fun i hii x hx y hy hsm hh => ?_ } (by omega)
      by_cases e : i = n
      · subst e
        rw [e5] at hx
        have hx := Option.some.inj hx
        rw [← hx] at hy hsm
        exact e4 y (List.mem_filter.2 ⟨e3 y hh, (nbB_iff _ _).2 hy⟩) hsm hh
      · exact e2.done i (by omega) x hx y hy hsm hh
    · have e : n = ls.length := by omega
      subst e
      rw [ltF hlt, app_len' (by omega)]
      exact ⟨ls, lf, pt, rfl, hP⟩

/-- One piece is found. -/
theorem step_spec {X Y Z : Int} {cuts : List D_A2} (hdr : Dirs cuts) (hcl : cuts.length ≤ 1000) {l : List D_A3} (hs : sides X Y Z = true) (hi : Ins X Y Z l) {c0 : D_A3} {L : List D_A3} (hr : Srt (c0 :: L)) (hsub : ∀ c ∈ c0 :: L, c ∈ l) (hclo : ∀ c ∈ c0 :: L, ∀ d ∈ l, nb c d → same cuts c d = true → d ∈ c0 :: L) (h64 : (c0 :: L).length ≤ 64) (ps : List (List D_A3)) (hps : ps.length ≤ 1000) (m : Nat) :
    ∃ pt lf, l_spec_l11Pieces_2 (m + 1) X Y Z l X Y Z (c0 :: L) cuts ps = l_spec_l11Pieces_2 m X Y Z l X Y Z lf cuts (ps ++ [pt]) ∧ Srt pt ∧ (∀ c, c ∈ pt ↔ ConnS cuts l c0 c) ∧ Srt lf ∧ (∀ c, c ∈ lf ↔ c ∈ c0 :: L ∧ c ∉ pt) ∧ pt.length + lf.length = (c0 :: L).length := by
  rw [q_spec_l11Pieces_2, decide_eq_true (by simp), p_spec_l2Empty]
  have n0 : nth T_A3 (c0 :: L) 0 = c0 := rfl
  have n1 : nth T_A3 ([nth T_A3 (c0 :: L) 0] : List D_A3) 0 = c0 := rfl
  have i0 : inB 0 (c0 :: L).length = true := by simp [inB]
  have i1 : inB 0 ([nth T_A3 (c0 :: L) 0] : List D_A3).length = true := rfl
  simp only [cond_true, Option.bind_some]
  rw [i0, i1, n1, n0, f_without (c0 :: L) c0 (by omega)]
  simp only [cond_true, Option.bind_some]
  have hmemF : ∀ x, x ∈ (c0 :: L).filter (fun x => !decide (x = c0)) ↔ x ∈ (c0 :: L) ∧ x ≠ c0 := fun x => by rw [List.mem_filter]; simp
  have hP : PartS cuts l (c0 :: L) c0 0 0 [c0] ((c0 :: L).filter fun x => !decide (x = c0)) [] := {
    srt := hr.filter _
    sub := fun x hx => ((hmemF x).1 hx).1
    lsub := fun x hx => by rw [List.mem_singleton.1 hx]; exact List.mem_cons_self ..
    all := fun x hx => by
      by_cases e : x = c0
      · exact .inl (by rw [e]; simp)
      · exact .inr ((hmemF x).2 ⟨hx, e⟩)
    apart := fun x hx hh => ((hmemF x).1 hh).2 (List.mem_singleton.1 hx)
    conn := fun x hx => .base (List.mem_singleton.1 hx)
    done := fun i hii => by omega
    psrt := List.Pairwise.nil
    pmem := fun x => by simp
    nodup := by simp
    start := by simp }
  obtain ⟨ls', lf', pt', e1, e2⟩ := l_k6 hdr hcl hs hi hsub hr h64 ps hps m (c0 :: L).length 0 N [c0] _ [] (by omega) (by have := N_ge; omega) hP (by omega)
  have e1' : l_spec_l11Pieces_6 m N X Y Z l X Y Z ((c0 :: L).filter fun x => !decide (x = c0)) X Y Z [] cuts ps [c0] 0 = _ := e1
  rw [e1']
  have hle := e2.len hr
  have hlsn : ∀ c ∈ ls', ∀ d, nb c d → same cuts c d = true → d ∉ lf' := fun c hc d hd => by
    obtain ⟨i, hii, e⟩ := List.getElem_of_mem hc
    exact e2.done i hii c (by rw [List.getElem?_eq_getElem hii, e]) d hd
  have hpl : ∀ c, c ∈ pt' ↔ c ∈ ls' := fun c => by rw [e2.pmem, List.take_length]
  have hcomp : ∀ c, c ∈ pt' ↔ ConnS cuts l c0 c := fun c => by
    rw [hpl]
    refine ⟨e2.conn c, fun hc => Rch.of (r := fun c => c ∈ ls') (fun c hc => by rw [show c = c0 from hc]; exact e2.start) (fun c d hc hn hd => ?_) hc⟩
    have hsm : same cuts c d = true := same_trans (same_symm (e2.conn c hc).same) hd.2
    rcases e2.all d (hclo c (e2.lsub c hc) d hd.1 hn hsm) with h | h
    · exact h
    · exact absurd h (hlsn c hc d hn hsm)
  have hlen : pt'.length = ls'.length := ((List.perm_ext_iff_of_nodup e2.psrt.nodup e2.nodup).2 hpl).length_eq
  refine ⟨pt', lf', rfl, e2.psrt, hcomp, e2.srt, fun c => ?_, by omega⟩
  rw [hpl]
  constructor
  · intro hc
    exact ⟨e2.sub c hc, fun hh => e2.apart c hh hc⟩
  · rintro ⟨hc, hn⟩
    exact (e2.all c hc).resolve_left hn
end Go.VI
