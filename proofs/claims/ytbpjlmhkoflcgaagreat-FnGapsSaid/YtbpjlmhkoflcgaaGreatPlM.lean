/- Plain: gluing two heaps. -/
import Derived.Test.YtbpjlmhkoflcgaaGreatPlO
import Derived.Test.YtbpjlmhkoflcgaaGreatPlA
namespace Go.VI
open Go.Proofs

theorem cut_lo {l : List D_A3} (k : Nat) : cut l 0 (k : Int) = l.take k := by simp [cut]
theorem cut_hi {l : List D_A3} (k : Nat) : cut l (k : Int) (l.length : Int) = l.drop k := by simp [cut]

theorem f_l2Own {X Y Z : Int} {l : List D_A3} (hl : l.length ≤ 3000000) : P_spec_l2Own ((X, Y, Z, l, ()), ()) = some ((X, Y, Z, l, ()), ()) := by
  rw [p_spec_l2Own]
  simp only [List.length_nil, List.nil_append, p_spec_l2Made, Option.bind_some]
  rw [decide_eq_true (by omega), decide_eq_true (by omega)]
  rfl

theorem srt_insert {l : List D_A3} (hr : Srt l) (c : D_A3) (k : Nat) (h1 : ∀ x ∈ l.take k, ltC x c = true) (h2 : ∀ x ∈ l.drop k, ltC c x = true) : Srt (l.take k ++ [c] ++ l.drop k) := by
  unfold Srt
  rw [List.append_assoc, List.pairwise_append]
  have ht : Srt (l.take k) := List.Pairwise.sublist (List.take_sublist k l) hr
  have hd : Srt (l.drop k) := List.Pairwise.sublist (List.drop_sublist k l) hr
  refine ⟨ht, List.pairwise_cons.2 ⟨h2, hd⟩, fun a ha b hb => ?_⟩
  rcases List.mem_cons.1 hb with rfl | hb'
  · exact h1 a ha
  · exact ltC_trans (h1 a ha) (h2 b hb')

theorem mem_insert {l : List D_A3} (c x : D_A3) (k : Nat) : x ∈ l.take k ++ [c] ++ l.drop k ↔ x = c ∨ x ∈ l := by
  have : x ∈ l ↔ x ∈ l.take k ∨ x ∈ l.drop k := by rw [← List.mem_append, List.take_append_drop]
  rw [this]
  simp only [List.mem_append, List.mem_singleton]
  constructor
  · rintro ((h | h) | h)
    · exact .inr (.inl h)
    · exact .inl h
    · exact .inr (.inr h)
  · rintro (h | h | h)
    · exact .inl (.inr h)
    · exact .inl (.inl h)
    · exact .inr h

theorem l_with {X Y Z : Int} {l : List D_A3} (hr : Srt l) (c : D_A3) (hl : l.length ≤ 2500000) : ∀ (n k m : Nat), l.length = k + n → n < m → (∀ x ∈ l.take k, ltC x c = true) →
    ∃ l', l_spec_l2With_2 m X Y Z l c.1 c.2.1 c.2.2.1 0 0 0 [] (k : Int) = some ((X, Y, Z, l', ()), ()) ∧ Srt l' ∧ (∀ x, x ∈ l' ↔ x = c ∨ x ∈ l) ∧ l'.length ≤ l.length + 1
  | n, k, 0, hk, hm, _ => by omega
  | n, k, m + 1, hk, hm, hlow => by
    have g1 : (decide (((List.length ([] : List D_A3)) + (List.length (l.take k))) * 24 ≤ 140737488355328) && decide (((List.length ([] : List D_A3)) + (List.length (l.take k))) ≤ 140737488355328)) = true := by
      rw [List.length_take, List.length_nil, decide_eq_true (by omega), decide_eq_true (by omega)]; rfl
    have g2 : (decide (((List.length (([] : List D_A3) ++ (l.take k))) + (List.length ([c] : List D_A3))) * 24 ≤ 140737488355328) && decide (((List.length (([] : List D_A3) ++ (l.take k))) + (List.length ([c] : List D_A3))) ≤ 140737488355328)) = true := by
      rw [List.nil_append, List.length_take, List.length_singleton, decide_eq_true (by omega), decide_eq_true (by omega)]; rfl
    have g3 : (decide (((List.length ((([] : List D_A3) ++ (l.take k)) ++ ([c] : List D_A3))) + (List.length (l.drop k))) * 24 ≤ 140737488355328) && decide (((List.length ((([] : List D_A3) ++ (l.take k)) ++ ([c] : List D_A3))) + (List.length (l.drop k))) ≤ 140737488355328)) = true := by
      rw [List.nil_append, List.length_append, List.length_take, List.length_singleton, List.length_drop, decide_eq_true (by omega), decide_eq_true (by omega)]; rfl
    have g4 : (decide ((0 : Int) ≤ 0) && decide ((0 : Int) ≤ (k : Int)) && decide ((k : Int) ≤ (List.length l : Int))) = true := by
      rw [decide_eq_true (by omega), decide_eq_true (by omega), decide_eq_true (by omega)]; rfl
    have g5 : (decide ((0 : Int) ≤ (k : Int)) && decide ((k : Int) ≤ (List.length l : Int)) && decide ((List.length l : Int) ≤ (List.length l : Int))) = true := by
      rw [decide_eq_true (by omega), decide_eq_true (by omega), decide_eq_true (by omega)]; rfl
    have hlen : (l.take k ++ [c] ++ l.drop k).length ≤ l.length + 1 := by
      rw [List.length_append, List.length_append, List.length_take, List.length_drop, List.length_singleton]; omega
    have ec : ((c.1, (c.2.1, (c.2.2.1, ()))) : D_A3) = c := rfl
    rw [q_spec_l2With_2]
    by_cases hlt : k < l.length
    · rw [ltT hlt, inB_at hlt, nthA (t := T_A3) hlt, f_spec_l2Before, ec, cut_lo, cut_hi, g1, g2, g3, g4, g5, succI k (by omega)]
      simp only [cond_true, Option.bind_some, Bool.and_true]
      cases hb : ltC l[k] c with
      | true =>
        refine l_with hr c hl (n - 1) (k + 1) m (by omega) (by omega) ?_
        intro x hx
        rw [List.take_add_one, List.getElem?_eq_getElem hlt] at hx
        rcases List.mem_append.1 hx with h | h
        · exact hlow x h
        · have : x = l[k] := by simpa using h
          rw [this]; exact hb
      | false =>
        simp only [cond_false]
        by_cases he : l[k] = c
        · have hq : (decide ((l[k]).1 = c.1) && (decide ((l[k]).2.1 = c.2.1) && decide ((l[k]).2.2.1 = c.2.2.1))) = true := by rw [he]; simp
          rw [hq, f_l2Own (by omega)]
          refine ⟨l, rfl, hr, fun x => ?_, by omega⟩
          constructor
          · exact .inr
          · rintro (rfl | h)
            · rw [← he]; exact List.getElem_mem hlt
            · exact h
        · have hq : (decide ((l[k]).1 = c.1) && (decide ((l[k]).2.1 = c.2.1) && decide ((l[k]).2.2.1 = c.2.2.1))) = false := by
            rw [Bool.eq_false_iff]
            intro h
            simp only [Bool.and_eq_true, decide_eq_true_eq] at h
            exact he (cell_ext h.1 h.2.1 h.2.2)
          rw [hq, p_spec_l2Made]
          have hck : ltC c l[k] = true := by
            cases h : ltC c l[k] with
            | true => rfl
            | false => exact absurd (ltC_total hb h) he
          refine ⟨l.take k ++ [c] ++ l.drop k, rfl, srt_insert hr c k hlow ?_, fun x => mem_insert c x k, hlen⟩
          intro x hx
          rw [drop_at l k hlt] at hx
          rcases List.mem_cons.1 hx with rfl | h
          · exact hck
          · have hd : Srt (l.drop k) := List.Pairwise.sublist (List.drop_sublist k l) hr
            rw [drop_at l k hlt] at hd
            exact ltC_trans hck ((List.pairwise_cons.1 hd).1 x h)
    · rw [ltF hlt, ec, cut_lo, cut_hi, g1, g2, g3, g4, g5, p_spec_l2Made]
      refine ⟨l.take k ++ [c] ++ l.drop k, rfl, srt_insert hr c k hlow ?_, fun x => mem_insert c x k, hlen⟩
      intro x hx
      rw [List.drop_eq_nil_of_le (by omega)] at hx
      cases hx

theorem f_l2With {X Y Z : Int} {l : List D_A3} (hr : Srt l) (c : D_A3) (hl : l.length ≤ 2500000) : ∃ l', P_spec_l2With ((X, Y, Z, l, ()), c, ()) = some ((X, Y, Z, l', ()), ()) ∧ Srt l' ∧ (∀ x, x ∈ l' ↔ x = c ∨ x ∈ l) ∧ l'.length ≤ l.length + 1 := by
  obtain ⟨l', h, r⟩ := l_with (X := X) (Y := Y) (Z := Z) hr c hl l.length 0 N (by simp) (by have := N_ge; omega) (by simp)
  exact ⟨l', by rw [p_spec_l2With]; exact h, r⟩

/-! ### The reference -/
/-! ### The program -/
end Go.VI
/- Plain: what acts make of heaps. -/
namespace Go.VI
open Go.Proofs

/-- Both say the same of a heap. -/
def Both (a b : Option (D_Heap × Bool × Unit)) : Prop := ∃ r : D_Heap × Bool × Unit, a = some r ∧ b = some r ∧ Small r.1.2.2.2.1

theorem small64 {l : List D_A3} (h : l.length ≤ 64) : Small l := by unfold Small; omega
theorem small_no : Small noHeap.2.2.2.1 := by unfold Small noHeap; simp

theorem app_len' {α : Type} {l : List α} {x : α} (h : l.length ≤ 100000000) : (decide ((l.length + ([x] : List α).length) * 24 ≤ 140737488355328) && decide (l.length + ([x] : List α).length ≤ 140737488355328)) = true := by
  rw [Bool.and_eq_true, decide_eq_true_eq, decide_eq_true_eq]
  simp only [List.length_singleton]
  omega

/-! ### A cube more, a cube less, other cells -/
theorem cell_eq (a c : D_A3) : (decide (a.1 = c.1) && (decide (a.2.1 = c.2.1) && (decide (a.2.2.1 = c.2.2.1) && true))) = decide (a = c) := by
  rw [Bool.eq_iff_iff, Bool.and_eq_true, Bool.and_eq_true, Bool.and_eq_true, decide_eq_true_eq, decide_eq_true_eq, decide_eq_true_eq, decide_eq_true_eq]
  constructor
  · rintro ⟨h1, h2, h3, _⟩; exact cell_ext h1 h2 h3
  · intro h; rw [← h]; exact ⟨rfl, rfl, rfl, rfl⟩

theorem l_without {X Y Z X' Y' Z' : Int} (l : List D_A3) (c : D_A3) (hl : l.length ≤ 3000000) : ∀ (d i m : Nat) (out : List D_A3), l.length = i + d → d < m → out.length ≤ i →
    l_spec_l2Without_3 m X Y Z l c.1 c.2.1 c.2.2.1 0 0 0 [] X' Y' Z' out (i : Int) = some ((X', Y', Z', out ++ (l.drop i).filter (fun x => !decide (x = c)), ()), ())
  | d, i, 0, out, _, h, _ => by omega
  | d, i, m + 1, out, hk, hm, ho => by
    rw [q_spec_l2Without_3]
    by_cases hlt : i < l.length
    · rw [ltT hlt, inB_at hlt, nthA (t := T_A3) hlt, cell_eq l[i] c, app_len' (by omega), drop_at l i hlt, succI i (by omega)]
      simp only [cond_true, List.filter_cons]
      by_cases e : l[i] = c
      · rw [decide_eq_true e]
        simp only [Bool.not_true, cond_false, Bool.false_eq_true, if_false]
        exact l_without l c hl (d - 1) (i + 1) m out (by omega) (by omega) (by omega)
      · rw [decide_eq_false e]
        simp only [Bool.not_false, cond_true, if_true]
        rw [l_without l c hl (d - 1) (i + 1) m _ (by omega) (by omega) (by simp; omega)]
        simp
    · rw [ltF hlt, List.drop_eq_nil_of_le (by omega)]
      simp

theorem f_without {X Y Z : Int} (l : List D_A3) (c : D_A3) (hl : l.length ≤ 3000000) : P_spec_l2Without ((X, Y, Z, l, ()), c, ()) = some ((X, Y, Z, l.filter (fun x => !decide (x = c)), ()), ()) := by
  have := l_without (X := X) (Y := Y) (Z := Z) (X' := X) (Y' := Y) (Z' := Z) l c hl l.length 0 N [] (by simp) (by have := N_ge; omega) (by simp)
  rw [p_spec_l2Without, p_spec_l2Empty]
  exact this

theorem l_other {X Y Z X' Y' Z' : Int} {l al : List D_A3} (hl : Small l) (hal : Small al) : ∀ (d i m : Nat) (out : List D_A3), al.length = i + d → d < m → out.length ≤ i →
    l_spec_OtherCells_5 m X Y Z l 0 0 0 [] X' Y' Z' out al (i : Int) = some ((X', Y', Z', out ++ (al.drop i).filter (fun x => !decide (x ∈ l)), ()), true, ())
  | d, i, 0, out, _, h, _ => by omega
  | d, i, m + 1, out, hk, hm, ho => by
    have hal' := hal
    unfold Small at hal'
    rw [q_spec_OtherCells_5]
    by_cases hlt : i < al.length
    · rw [ltT hlt, inB_at hlt, nthA (t := T_A3) hlt, f_l2Has X Y Z l _ hl, app_len' (by omega), drop_at al i hlt, succI i (by omega)]
      simp only [cond_true, Option.bind_some, List.filter_cons]
      by_cases e : al[i] ∈ l
      · rw [decide_eq_true e]
        simp only [Bool.not_true, cond_false, Bool.false_eq_true, if_false]
        exact l_other hl hal (d - 1) (i + 1) m out (by omega) (by omega) (by omega)
      · rw [decide_eq_false e]
        simp only [Bool.not_false, cond_true, if_true]
        rw [l_other hl hal (d - 1) (i + 1) m _ (by omega) (by omega) (by simp; omega)]
        simp
    · rw [ltF hlt, List.drop_eq_nil_of_le (by omega)]
      simp

/-! ### Cubes elsewhere -/
/-- A cell mirrored. -/
def mirC (X Y Z d : Int) (c : D_A3) : D_A3 := ((bif decide (d = 0) then X - 1 - c.1 else c.1), (bif decide (d = 1) then Y - 1 - c.2.1 else c.2.1), (bif decide (d = 2) then Z - 1 - c.2.2.1 else c.2.2.1), ())

theorem mirC_in {X Y Z d : Int} {c : D_A3} (hc : within3 X Y Z c = true) : within3 X Y Z (mirC X Y Z d c) = true := by
  rw [within3_iff] at hc ⊢
  unfold mirC
  simp only
  refine ⟨?_, ?_, ?_⟩
  · cases decide (d = 0) <;> simp <;> omega
  · cases decide (d = 1) <;> simp <;> omega
  · cases decide (d = 2) <;> simp <;> omega

theorem mir_text {X Y Z d : Int} (hs : sides X Y Z = true) (d0 : 0 ≤ d) (d1 : d ≤ 2) {c : D_A3} (hc : within3 X Y Z c = true) (A : D_A3) (hA : A = (X, Y, Z, ())) : (((bif decide (d = (0 : Int)) then (IntKind.wrap .i64 ((IntKind.wrap .i64 ((bif decide (d = (0 : Int)) then A.1 else (bif decide (d = (1 : Int)) then A.2.1 else A.2.2.1)) - 1)) - (bif decide (d = (0 : Int)) then c.1 else (bif decide (d = (1 : Int)) then c.2.1 else c.2.2.1)))) else c.1), ((bif decide (d = (1 : Int)) then (IntKind.wrap .i64 ((IntKind.wrap .i64 ((bif decide (d = (0 : Int)) then A.1 else (bif decide (d = (1 : Int)) then A.2.1 else A.2.2.1)) - 1)) - (bif decide (d = (0 : Int)) then c.1 else (bif decide (d = (1 : Int)) then c.2.1 else c.2.2.1)))) else c.2.1), ((bif decide (d = (2 : Int)) then (IntKind.wrap .i64 ((IntKind.wrap .i64 ((bif decide (d = (0 : Int)) then A.1 else (bif decide (d = (1 : Int)) then A.2.1 else A.2.2.1)) - 1)) - (bif decide (d = (0 : Int)) then c.1 else (bif decide (d = (1 : Int)) then c.2.1 else c.2.2.1)))) else c.2.2.1), ()))) : D_A3) = mirC X Y Z d c := by
  subst hA
  have s := sides_iff.1 hs
  have w := within3_iff.1 hc
  have e : ∀ S x : Int, 1 ≤ S → S ≤ 4 → 0 ≤ x → x ≤ 4 → IntKind.wrap .i64 (IntKind.wrap .i64 (S - 1) - x) = S - 1 - x := fun S x h1 h2 h3 h4 => by rw [w64 (x := S - 1) (by omega) (by omega), w64 (by omega) (by omega)]
  have e1 := e X c.1 (by omega) (by omega) (by omega) (by omega)
  have e2 := e Y c.2.1 (by omega) (by omega) (by omega) (by omega)
  have e3 := e Z c.2.2.1 (by omega) (by omega) (by omega) (by omega)
  rcases dir d0 d1 with rfl | rfl | rfl <;> simp [mirC, e1, e2, e3]

theorem l_mirrored {X Y Z d : Int} (hs : sides X Y Z = true) (d0 : 0 ≤ d) (d1 : d ≤ 2) {l : List D_A3} (hl : Small l) (hi : Ins X Y Z l) : ∀ (n i m : Nat) (out : List D_A3), l.length = i + n → n < m → Srt out → (∀ c, c ∈ out ↔ c ∈ (l.take i).map (mirC X Y Z d)) → out.length ≤ i →
    ∃ out', l_spec_l2Mirrored_3 m X Y Z l 0 0 0 [] X Y Z out d (i : Int) = some ((X, Y, Z, out', ()), ()) ∧ Srt out' ∧ ∀ c, c ∈ out' ↔ c ∈ l.map (mirC X Y Z d)
  | n, i, 0, out, _, h, _, _, _ => by omega
  | n, i, m + 1, out, hk, hm, hr, hmem, hlen => by
    have hl' := hl
    unfold Small at hl'
    rw [q_spec_l2Mirrored_3]
    by_cases hlt : i < l.length
    · rw [ltT hlt, inB_at hlt, nthA (t := T_A3) hlt, f_l2Long l d0 d1, inB_dir d0 d1, succI i (by omega)]
      simp only [cond_true, Option.bind_some]
      have ht := mir_text hs d0 d1 (hi _ (List.getElem_mem hlt)) (X, Y, Z, ()) rfl
      obtain ⟨l', g1, g2, g3, g4⟩ := f_l2With (X := X) (Y := Y) (Z := Z) hr (mirC X Y Z d l[i]) (by omega)
      have ht' : (((bif decide (d = (0 : Int)) then (IntKind.wrap .i64 ((IntKind.wrap .i64 (side3 X Y Z d - 1)) - (bif decide (d = (0 : Int)) then l[i].1 else (bif decide (d = (1 : Int)) then l[i].2.1 else l[i].2.2.1)))) else l[i].1), ((bif decide (d = (1 : Int)) then (IntKind.wrap .i64 ((IntKind.wrap .i64 (side3 X Y Z d - 1)) - (bif decide (d = (0 : Int)) then l[i].1 else (bif decide (d = (1 : Int)) then l[i].2.1 else l[i].2.2.1)))) else l[i].2.1), ((bif decide (d = (2 : Int)) then (IntKind.wrap .i64 ((IntKind.wrap .i64 (side3 X Y Z d - 1)) - (bif decide (d = (0 : Int)) then l[i].1 else (bif decide (d = (1 : Int)) then l[i].2.1 else l[i].2.2.1)))) else l[i].2.2.1), ()))) : D_A3) = mirC X Y Z d l[i] := ht
      rw [ht', g1]
      simp only [Option.bind_some]
      refine l_mirrored hs d0 d1 hl hi (n - 1) (i + 1) m l' (by omega) (by omega) g2 (fun c => ?_) (by omega)
      rw [g3, hmem, List.take_add_one, List.getElem?_eq_getElem hlt, List.map_append, List.mem_append]
      simp only [Option.toList_some, List.map_cons, List.map_nil, List.mem_singleton]
      exact or_comm
    · rw [ltF hlt]
      refine ⟨out, rfl, hr, fun c => ?_⟩
      rw [hmem, List.take_of_length_le (by omega)]

/-- Two directions exchanged. -/
def swC (a b : Int) (c : D_A3) : D_A3 := ((bif decide (b = 0) then get3 c a else (bif decide (a = 0) then get3 c b else c.1)), (bif decide (b = 1) then get3 c a else (bif decide (a = 1) then get3 c b else c.2.1)), (bif decide (b = 2) then get3 c a else (bif decide (a = 2) then get3 c b else c.2.2.1)), ())

theorem sw_sides {X Y Z a b : Int} (hs : sides X Y Z = true) (a0 : 0 ≤ a) (a1 : a ≤ 2) (b0 : 0 ≤ b) (b1 : b ≤ 2) : sides (swC a b (X, Y, Z, ())).1 (swC a b (X, Y, Z, ())).2.1 (swC a b (X, Y, Z, ())).2.2.1 = true := by
  rw [sides_iff] at hs ⊢
  rcases dir a0 a1 with rfl | rfl | rfl <;> rcases dir b0 b1 with rfl | rfl | rfl <;> simp [swC, get3] <;> omega

theorem sw_in {X Y Z a b : Int} (a0 : 0 ≤ a) (a1 : a ≤ 2) (b0 : 0 ≤ b) (b1 : b ≤ 2) {c : D_A3} (hc : within3 X Y Z c = true) : within3 (swC a b (X, Y, Z, ())).1 (swC a b (X, Y, Z, ())).2.1 (swC a b (X, Y, Z, ())).2.2.1 (swC a b c) = true := by
  rw [within3_iff] at hc ⊢
  rcases dir a0 a1 with rfl | rfl | rfl <;> rcases dir b0 b1 with rfl | rfl | rfl <;> simp [swC, get3] <;> omega

theorem l_swapped {X Y Z a b S1 S2 S3 : Int} (a0 : 0 ≤ a) (a1 : a ≤ 2) (b0 : 0 ≤ b) (b1 : b ≤ 2) {l : List D_A3} (hl : Small l) : ∀ (n i m : Nat) (out : List D_A3), l.length = i + n → n < m → Srt out → (∀ c, c ∈ out ↔ c ∈ (l.take i).map (swC a b)) → out.length ≤ i →
    ∃ out', l_spec_l2Swapped_6 m X Y Z l 0 0 0 [] S1 S2 S3 out a b (i : Int) = some ((S1, S2, S3, out', ()), ()) ∧ Srt out' ∧ ∀ c, c ∈ out' ↔ c ∈ l.map (swC a b)
  | n, i, 0, out, _, h, _, _, _ => by omega
  | n, i, m + 1, out, hk, hm, hr, hmem, hlen => by
    have hl' := hl
    unfold Small at hl'
    rw [q_spec_l2Swapped_6]
    by_cases hlt : i < l.length
    · rw [ltT hlt, inB_at hlt, nthA (t := T_A3) hlt, inB_dir a0 a1, inB_dir b0 b1, succI i (by omega)]
      simp only [cond_true]
      obtain ⟨l', g1, g2, g3, g4⟩ := f_l2With (X := S1) (Y := S2) (Z := S3) hr (swC a b l[i]) (by omega)
      have g1' : P_spec_l2With ((S1, (S2, (S3, (out, ())))), ((bif decide (b = (0 : Int)) then (bif decide (a = (0 : Int)) then l[i].1 else (bif decide (a = (1 : Int)) then l[i].2.1 else l[i].2.2.1)) else (bif decide (a = (0 : Int)) then (bif decide (b = (0 : Int)) then l[i].1 else (bif decide (b = (1 : Int)) then l[i].2.1 else l[i].2.2.1)) else l[i].1)), ((bif decide (b = (1 : Int)) then (bif decide (a = (0 : Int)) then l[i].1 else (bif decide (a = (1 : Int)) then l[i].2.1 else l[i].2.2.1)) else (bif decide (a = (1 : Int)) then (bif decide (b = (0 : Int)) then l[i].1 else (bif decide (b = (1 : Int)) then l[i].2.1 else l[i].2.2.1)) else l[i].2.1)), ((bif decide (b = (2 : Int)) then (bif decide (a = (0 : Int)) then l[i].1 else (bif decide (a = (1 : Int)) then l[i].2.1 else l[i].2.2.1)) else (bif decide (a = (2 : Int)) then (bif decide (b = (0 : Int)) then l[i].1 else (bif decide (b = (1 : Int)) then l[i].2.1 else l[i].2.2.1)) else l[i].2.2.1)), ()))), ()) = _ := g1
      rw [g1']
      simp only [Option.bind_some]
      refine l_swapped a0 a1 b0 b1 hl (n - 1) (i + 1) m l' (by omega) (by omega) g2 (fun c => ?_) (by omega)
      rw [g3, hmem, List.take_add_one, List.getElem?_eq_getElem hlt, List.map_append, List.mem_append]
      simp only [Option.toList_some, List.map_cons, List.map_nil, List.mem_singleton]
      exact or_comm
    · rw [ltF hlt]
      refine ⟨out, rfl, hr, fun c => ?_⟩
      rw [hmem, List.take_of_length_le (by omega)]

end Go.VI
/- Plain: dropped heaps. -/
namespace Go.VI
open Go.Proofs

def lineI (Y : Int) (c : D_A3) : Int := c.1 * Y + c.2.1

theorem line_ok {X Y Z : Int} (hs : sides X Y Z = true) {c : D_A3} (hc : within3 X Y Z c = true) : 0 ≤ lineI Y c ∧ lineI Y c < X * Y ∧ 0 ≤ c.1 * Y ∧ c.1 * Y ≤ 16 := by
  have s := sides_iff.1 hs
  have w := within3_iff.1 hc
  unfold lineI
  rcases four s.1.1 s.1.2 with rfl | rfl | rfl | rfl <;> rcases four s.2.1.1 s.2.1.2 with rfl | rfl | rfl | rfl <;> omega

theorem f_line2 {X Y Z : Int} (hs : sides X Y Z = true) {c : D_A3} (hc : within3 X Y Z c = true) : P_box_line ((X, Y, Z, ()), c, 2, ()) = some (lineI Y c, ()) := by
  obtain ⟨h1, h2, h3, h4⟩ := line_ok hs hc
  have h5 := size64 hs
  have w := within3_iff.1 hc
  have s := sides_iff.1 hs
  rw [p_box_line, p_impl_others]
  show some (IntKind.wrap .i64 (IntKind.wrap .i64 (c.1 * Y) + c.2.1), ()) = _
  unfold lineI at *
  rw [w64 (x := c.1 * Y) (by omega) (by omega), w64 (by omega) (by omega)]

/-- One cube more in its column. -/
def upL (Y : Int) (acc : List Int) (c : D_A3) : List Int := List.set acc (Int.toNat (lineI Y c)) (IntKind.wrap .i64 ((nth ((.int .i64) : Ty) acc (lineI Y c)) + 1))

theorem inB_line {X Y Z : Int} (hs : sides X Y Z = true) {c : D_A3} (hc : within3 X Y Z c = true) {acc : List Int} (ha : acc.length = (X * Y).toNat) : inB (lineI Y c) acc.length = true := by
  obtain ⟨h1, h2, h3, h4⟩ := line_ok hs hc
  unfold inB
  rw [Bool.and_eq_true, decide_eq_true_eq, decide_eq_true_eq]
  omega

theorem upL_len {Y : Int} {acc : List Int} {c : D_A3} : (upL Y acc c).length = acc.length := by simp [upL]

theorem l_viewI {X Y Z : Int} (hs : sides X Y Z = true) {l : List D_A3} (hl : Small l) (hi : Ins X Y Z l) : ∀ (d i m : Nat) (acc : List Int), l.length = i + d → d < m → acc.length = (X * Y).toNat →
    l_box_view_3 m X Y Z 2 acc l (l.length : Int) (i : Int) = some ((l.drop i).foldl (upL Y) acc, ())
  | d, i, 0, acc, _, h, _ => by omega
  | d, i, m + 1, acc, hk, hm, ha => by
    have hl' := hl
    unfold Small at hl'
    rw [q_box_view_3]
    by_cases hlt : i < l.length
    · have hc := hi _ (List.getElem_mem hlt)
      rw [ltT hlt, inB_at hlt, nthA (t := T_A3) hlt, f_line2 hs hc, drop_at l i hlt, succI i (by omega)]
      simp only [cond_true, Option.bind_some]
      rw [inB_line hs hc ha]
      simp only [cond_true, List.foldl_cons]
      exact l_viewI hs hl hi (d - 1) (i + 1) m (upL Y acc l[i]) (by omega) (by omega) (by rw [upL_len, ha])
    · rw [ltF hlt, List.drop_eq_nil_of_le (by omega)]
      rfl

theorem l_viewS {X Y Z : Int} (hs : sides X Y Z = true) {l : List D_A3} (hl : Small l) (hi : Ins X Y Z l) : ∀ (d i m : Nat) (acc : List Int), l.length = i + d → d < m → acc.length = (X * Y).toNat →
    l_spec_l2View_4 m X Y Z l 0 1 acc (i : Int) = some ((l.drop i).foldl (upL Y) acc, ())
  | d, i, 0, acc, _, h, _ => by omega
  | d, i, m + 1, acc, hk, hm, ha => by
    have hl' := hl
    unfold Small at hl'
    rw [q_spec_l2View_4]
    by_cases hlt : i < l.length
    · have hc := hi _ (List.getElem_mem hlt)
      obtain ⟨h1, h2, h3, h4⟩ := line_ok hs hc
      have h5 := size64 hs
      have w := within3_iff.1 hc
      have s := sides_iff.1 hs
      rw [ltT hlt, inB_at hlt, nthA (t := T_A3) hlt, f_l2Long l (show (0 : Int) ≤ 1 by decide) (by decide), drop_at l i hlt, succI i (by omega)]
      have e : IntKind.wrap .i64 (IntKind.wrap .i64 ((bif decide ((0 : Int) = (0 : Int)) then l[i].1 else (bif decide ((0 : Int) = (1 : Int)) then l[i].2.1 else l[i].2.2.1)) * side3 X Y Z 1) + (bif decide ((1 : Int) = (0 : Int)) then l[i].1 else (bif decide ((1 : Int) = (1 : Int)) then l[i].2.1 else l[i].2.2.1))) = lineI Y l[i] := by
        show IntKind.wrap .i64 (IntKind.wrap .i64 (l[i].1 * Y) + l[i].2.1) = _
        unfold lineI at *
        rw [w64 (x := l[i].1 * Y) (by omega) (by omega), w64 (by omega) (by omega)]
      simp only [cond_true, Option.bind_some, show inB (0 : Int) 3 = true from rfl, show inB (1 : Int) 3 = true from rfl] at e ⊢
      rw [e, inB_line hs hc ha]
      simp only [cond_true, List.foldl_cons]
      exact l_viewS hs hl hi (d - 1) (i + 1) m (upL Y acc l[i]) (by omega) (by omega) (by rw [upL_len, ha])
    · rw [ltF hlt, List.drop_eq_nil_of_le (by omega)]
      rfl

/-- How many cubes each column has. -/
def cols (X Y : Int) (l : List D_A3) : List Int := l.foldl (upL Y) (List.replicate (X * Y).toNat 0)

theorem foldl_upL_len (Y : Int) : ∀ (l : List D_A3) (acc : List Int), (l.foldl (upL Y) acc).length = acc.length
  | [], _ => rfl
  | c :: l, acc => by rw [List.foldl_cons, foldl_upL_len Y l, upL_len]

theorem cols_len (X Y : Int) (l : List D_A3) : (cols X Y l).length = (X * Y).toNat := by
  unfold cols
  rw [foldl_upL_len, List.length_replicate]

theorem guardN {n : Int} (h0 : 0 ≤ n) (h1 : n ≤ 1000) : (decide ((0 : Int) ≤ n) && decide (n ≤ n) && decide (n * ((8 : Nat) : Int) ≤ 140737488355328) && decide (n ≤ 140737488355328)) = true := by
  rw [decide_eq_true h0, decide_eq_true (Int.le_refl n), decide_eq_true (p := n * ((8 : Nat) : Int) ≤ 140737488355328) (by omega), decide_eq_true (p := n ≤ 140737488355328) (by omega)]
  rfl

theorem f_viewS {X Y Z : Int} (hs : sides X Y Z = true) {l : List D_A3} (hl : Small l) (hi : Ins X Y Z l) : P_spec_l2View ((X, Y, Z, l, ()), 2, ()) = some (cols X Y l, ()) := by
  have h5 := size64 hs
  rw [p_spec_l2View, p_spec_l2Others]
  simp only [show decide ((2 : Int) = 0) = false from rfl, show decide ((2 : Int) = 1) = false from rfl, cond_false, Option.bind_some]
  rw [f_l2Long l (show (0 : Int) ≤ 0 by decide) (by decide), f_l2Long l (show (0 : Int) ≤ 1 by decide) (by decide)]
  simp only [Option.bind_some]
  have e : IntKind.wrap .i64 (side3 X Y Z 0 * side3 X Y Z 1) = X * Y := by
    show IntKind.wrap .i64 (X * Y) = _
    rw [w64 (by omega) (by omega)]
  rw [e, guardN (by omega) (by omega)]
  exact l_viewS hs hl hi l.length 0 N (List.replicate (X * Y).toNat 0) (by simp) (by unfold Small at hl; have := N_ge; omega) (by simp)

/-- Is a cell below the top of its column? -/
def lowC (Y : Int) (V : List Int) (c : D_A3) : Bool := decide (c.2.2.1 < nth ((.int .i64) : Ty) V (lineI Y c))

theorem l_stackS {X Y Z X' Y' Z' : Int} (hs : sides X Y Z = true) {V : List Int} (hV : V.length = (X * Y).toNat) {al : List D_A3} (hal : Small al) (hin : Ins X Y Z al) : ∀ (d i m : Nat) (out : List D_A3), al.length = i + d → d < m → out.length ≤ i →
    l_spec_l2Stack_4 m 0 0 0 [] X' Y' Z' out Y V al (i : Int) = some ((X', Y', Z', out ++ (al.drop i).filter (lowC Y V), ()), ())
  | d, i, 0, out, _, h, _ => by omega
  | d, i, m + 1, out, hk, hm, ho => by
    have hal' := hal
    unfold Small at hal'
    rw [q_spec_l2Stack_4]
    by_cases hlt : i < al.length
    · have hc := hin _ (List.getElem_mem hlt)
      obtain ⟨h1, h2, h3, h4⟩ := line_ok hs hc
      have h5 := size64 hs
      have w := within3_iff.1 hc
      have s := sides_iff.1 hs
      have e : IntKind.wrap .i64 (IntKind.wrap .i64 (al[i].1 * Y) + al[i].2.1) = lineI Y al[i] := by
        unfold lineI at *
        rw [w64 (x := al[i].1 * Y) (by omega) (by omega), w64 (by omega) (by omega)]
      rw [ltT hlt, inB_at hlt, nthA (t := T_A3) hlt, e, inB_line hs hc hV, app_len' (by omega), drop_at al i hlt, succI i (by omega)]
      simp only [cond_true, List.filter_cons]
      cases hlow : decide (al[i].2.2.1 < nth ((.int .i64) : Ty) V (lineI Y al[i])) with
      | false =>
        have hl2 : lowC Y V al[i] = false := hlow
        rw [hl2]
        simp only [cond_false, Bool.false_eq_true, if_false]
        exact l_stackS hs hV hal hin (d - 1) (i + 1) m out (by omega) (by omega) (by omega)
      | true =>
        have hl2 : lowC Y V al[i] = true := hlow
        rw [hl2]
        simp only [cond_true, if_true]
        rw [l_stackS hs hV hal hin (d - 1) (i + 1) m _ (by omega) (by omega) (by simp; omega)]
        simp
    · rw [ltF hlt, List.drop_eq_nil_of_le (by omega)]
      simp

end Go.VI
/- Plain: views, shadows and the bound by lines. -/
namespace Go.VI
open Go.Proofs

/-- The other two directions. -/
def o1 (d : Int) : Int := bif decide (d = 0) then 1 else 0
def o2 (d : Int) : Int := bif decide (d = 0) then 2 else (bif decide (d = 1) then 2 else 1)
/-- The place of a cell's line. -/
def lineD (X Y Z d : Int) (c : D_A3) : Int := get3 c (o1 d) * side3 X Y Z (o2 d) + get3 c (o2 d)
def linesD (X Y Z d : Int) : Int := side3 X Y Z (o1 d) * side3 X Y Z (o2 d)

theorem lines_ok {X Y Z : Int} (hs : sides X Y Z = true) {d : Int} (d0 : 0 ≤ d) (d1 : d ≤ 2) : 1 ≤ linesD X Y Z d ∧ linesD X Y Z d ≤ 16 := by
  have s := sides_iff.1 hs
  have h : ∀ a b : Int, 1 ≤ a → a ≤ 4 → 1 ≤ b → b ≤ 4 → 1 ≤ a * b ∧ a * b ≤ 16 := fun a b a0 a1 b0 b1 => by
    rcases four a0 a1 with rfl | rfl | rfl | rfl <;> omega
  rcases dir d0 d1 with rfl | rfl | rfl
  · exact h Y Z s.2.1.1 s.2.1.2 s.2.2.1 s.2.2.2
  · exact h X Z s.1.1 s.1.2 s.2.2.1 s.2.2.2
  · exact h X Y s.1.1 s.1.2 s.2.1.1 s.2.1.2

theorem lineD_ok {X Y Z : Int} (hs : sides X Y Z = true) {d : Int} (d0 : 0 ≤ d) (d1 : d ≤ 2) {c : D_A3} (hc : within3 X Y Z c = true) : 0 ≤ lineD X Y Z d c ∧ lineD X Y Z d c < linesD X Y Z d ∧ 0 ≤ get3 c (o1 d) * side3 X Y Z (o2 d) ∧ get3 c (o1 d) * side3 X Y Z (o2 d) ≤ 16 ∧ 0 ≤ get3 c (o2 d) ∧ get3 c (o2 d) ≤ 3 := by
  have s := sides_iff.1 hs
  have w := within3_iff.1 hc
  have h : ∀ a b x y : Int, 1 ≤ a → a ≤ 4 → 1 ≤ b → b ≤ 4 → 0 ≤ x → x ≤ a - 1 → 0 ≤ y → y ≤ b - 1 → 0 ≤ x * b + y ∧ x * b + y < a * b ∧ 0 ≤ x * b ∧ x * b ≤ 16 ∧ 0 ≤ y ∧ y ≤ 3 := fun a b x y a0 a1 b0 b1 _ _ _ _ => by
    rcases four a0 a1 with rfl | rfl | rfl | rfl <;> rcases four b0 b1 with rfl | rfl | rfl | rfl <;> omega
  rcases dir d0 d1 with rfl | rfl | rfl
  · exact h Y Z c.2.1 c.2.2.1 s.2.1.1 s.2.1.2 s.2.2.1 s.2.2.2 w.2.1.1 w.2.1.2 w.2.2.1 w.2.2.2
  · exact h X Z c.1 c.2.2.1 s.1.1 s.1.2 s.2.2.1 s.2.2.2 w.1.1 w.1.2 w.2.2.1 w.2.2.2
  · exact h X Y c.1 c.2.1 s.1.1 s.1.2 s.2.1.1 s.2.1.2 w.1.1 w.1.2 w.2.1.1 w.2.1.2

theorem others_eq (d : Int) : P_impl_others (d, ()) = some (o1 d, o2 d, ()) := by
  rw [p_impl_others]
  unfold o1 o2
  cases decide (d = 0) <;> cases decide (d = 1) <;> rfl

theorem l2Others_eq (d : Int) : P_spec_l2Others (d, ()) = some (o1 d, o2 d, ()) := by
  rw [p_spec_l2Others]
  unfold o1 o2
  cases decide (d = 0) <;> cases decide (d = 1) <;> rfl

theorem o1_ok (d : Int) : 0 ≤ o1 d ∧ o1 d ≤ 2 := by
  unfold o1
  cases decide (d = 0) <;> decide
theorem o2_ok (d : Int) : 0 ≤ o2 d ∧ o2 d ≤ 2 := by
  unfold o2
  cases decide (d = 0) <;> cases decide (d = 1) <;> decide

theorem f_lineD {X Y Z : Int} (hs : sides X Y Z = true) {d : Int} (d0 : 0 ≤ d) (d1 : d ≤ 2) {c : D_A3} (hc : within3 X Y Z c = true) : P_box_line ((X, Y, Z, ()), c, d, ()) = some (lineD X Y Z d c, ()) := by
  obtain ⟨h1, h2, h3, h4, h5, h6⟩ := lineD_ok hs d0 d1 hc
  have h7 := lines_ok hs d0 d1
  rw [p_box_line, others_eq]
  simp only [Option.bind_some]
  rw [inB_dir (o1_ok d).1 (o1_ok d).2, inB_dir (o2_ok d).1 (o2_ok d).2]
  show some (IntKind.wrap .i64 (IntKind.wrap .i64 (get3 c (o1 d) * side3 X Y Z (o2 d)) + get3 c (o2 d)), ()) = _
  unfold lineD at *
  rw [w64 (x := get3 c (o1 d) * side3 X Y Z (o2 d)) (by omega) (by omega), w64 (by omega) (by omega)]

theorem f_linesD {X Y Z : Int} (hs : sides X Y Z = true) {d : Int} (d0 : 0 ≤ d) (d1 : d ≤ 2) : P_box_lines ((X, Y, Z, ()), d, ()) = some (linesD X Y Z d, ()) := by
  have h5 := size64 hs
  have s := sides_iff.1 hs
  have h7 := lines_ok hs d0 d1
  have e : (((X * Y * Z).toNat : Nat) : Int) = X * Y * Z := by omega
  rw [p_box_lines, f_size hs, e]
  simp only [Option.bind_some]
  rw [inB_dir d0 d1]
  have hd := side3_ok hs d
  have hdiv : Int.tdiv (X * Y * Z) (side3 X Y Z d) = linesD X Y Z d := by
    have hm : X * Y * Z = linesD X Y Z d * side3 X Y Z d := by
      rcases dir d0 d1 with rfl | rfl | rfl
      · show X * Y * Z = Y * Z * X
        rw [Int.mul_assoc, Int.mul_comm X]
      · show X * Y * Z = X * Z * Y
        rw [Int.mul_assoc, Int.mul_comm Y, ← Int.mul_assoc]
      · rfl
    rw [hm]
    exact Int.mul_tdiv_cancel _ (by omega)
  show (bif !decide (side3 X Y Z d = 0) then some (IntKind.wrap .i64 (Int.tdiv (X * Y * Z) (side3 X Y Z d)), ()) else none) = _
  rw [decide_eq_false (by omega), hdiv, w64 (by omega) (by omega)]
  rfl

/-- One cube more in its line. -/
def upD (X Y Z d : Int) (acc : List Int) (c : D_A3) : List Int := List.set acc (Int.toNat (lineD X Y Z d c)) (IntKind.wrap .i64 ((nth ((.int .i64) : Ty) acc (lineD X Y Z d c)) + 1))

theorem upD_len {X Y Z d : Int} {acc : List Int} {c : D_A3} : (upD X Y Z d acc c).length = acc.length := by simp [upD]

theorem inB_lineD {X Y Z : Int} (hs : sides X Y Z = true) {d : Int} (d0 : 0 ≤ d) (d1 : d ≤ 2) {c : D_A3} (hc : within3 X Y Z c = true) {acc : List Int} (ha : acc.length = (linesD X Y Z d).toNat) : inB (lineD X Y Z d c) acc.length = true := by
  obtain ⟨h1, h2, _⟩ := lineD_ok hs d0 d1 hc
  unfold inB
  rw [Bool.and_eq_true, decide_eq_true_eq, decide_eq_true_eq]
  omega

theorem l_viewID {X Y Z : Int} (hs : sides X Y Z = true) {dr : Int} (d0 : 0 ≤ dr) (d1 : dr ≤ 2) {l : List D_A3} (hl : Small l) (hi : Ins X Y Z l) : ∀ (d i m : Nat) (acc : List Int), l.length = i + d → d < m → acc.length = (linesD X Y Z dr).toNat →
    l_box_view_3 m X Y Z dr acc l (l.length : Int) (i : Int) = some ((l.drop i).foldl (upD X Y Z dr) acc, ())
  | d, i, 0, acc, _, h, _ => by omega
  | d, i, m + 1, acc, hk, hm, ha => by
    have hl' := hl
    unfold Small at hl'
    rw [q_box_view_3]
    by_cases hlt : i < l.length
    · have hc := hi _ (List.getElem_mem hlt)
      rw [ltT hlt, inB_at hlt, nthA (t := T_A3) hlt, f_lineD hs d0 d1 hc, drop_at l i hlt, succI i (by omega)]
      simp only [cond_true, Option.bind_some]
      rw [inB_lineD hs d0 d1 hc ha]
      simp only [cond_true, List.foldl_cons]
      exact l_viewID hs d0 d1 hl hi (d - 1) (i + 1) m (upD X Y Z dr acc l[i]) (by omega) (by omega) (by rw [upD_len, ha])
    · rw [ltF hlt, List.drop_eq_nil_of_le (by omega)]
      rfl

theorem l_viewSD {X Y Z : Int} (hs : sides X Y Z = true) {dr : Int} (d0 : 0 ≤ dr) (d1 : dr ≤ 2) {l : List D_A3} (hl : Small l) (hi : Ins X Y Z l) : ∀ (d i m : Nat) (acc : List Int), l.length = i + d → d < m → acc.length = (linesD X Y Z dr).toNat →
    l_spec_l2View_4 m X Y Z l (o1 dr) (o2 dr) acc (i : Int) = some ((l.drop i).foldl (upD X Y Z dr) acc, ())
  | d, i, 0, acc, _, h, _ => by omega
  | d, i, m + 1, acc, hk, hm, ha => by
    have hl' := hl
    unfold Small at hl'
    rw [q_spec_l2View_4]
    by_cases hlt : i < l.length
    · have hc := hi _ (List.getElem_mem hlt)
      obtain ⟨h1, h2, h3, h4, h5, h6⟩ := lineD_ok hs d0 d1 hc
      have h7 := lines_ok hs d0 d1
      rw [ltT hlt, inB_at hlt, nthA (t := T_A3) hlt, f_l2Long l (o2_ok dr).1 (o2_ok dr).2, drop_at l i hlt, succI i (by omega), inB_dir (o1_ok dr).1 (o1_ok dr).2, inB_dir (o2_ok dr).1 (o2_ok dr).2]
      have e : IntKind.wrap .i64 (IntKind.wrap .i64 (get3 l[i] (o1 dr) * side3 X Y Z (o2 dr)) + get3 l[i] (o2 dr)) = lineD X Y Z dr l[i] := by
        unfold lineD at *
        rw [w64 (x := get3 l[i] (o1 dr) * side3 X Y Z (o2 dr)) (by omega) (by omega), w64 (by omega) (by omega)]
      unfold get3 at e
      simp only [cond_true, Option.bind_some]
      rw [e, inB_lineD hs d0 d1 hc ha]
      simp only [cond_true, List.foldl_cons]
      exact l_viewSD hs d0 d1 hl hi (d - 1) (i + 1) m (upD X Y Z dr acc l[i]) (by omega) (by omega) (by rw [upD_len, ha])
    · rw [ltF hlt, List.drop_eq_nil_of_le (by omega)]
      rfl

/-- How many cubes each line has. -/
def viewD (X Y Z d : Int) (l : List D_A3) : List Int := l.foldl (upD X Y Z d) (List.replicate (linesD X Y Z d).toNat 0)

theorem f_viewSD {X Y Z : Int} (hs : sides X Y Z = true) {d : Int} (d0 : 0 ≤ d) (d1 : d ≤ 2) {l : List D_A3} (hl : Small l) (hi : Ins X Y Z l) : P_spec_l2View ((X, Y, Z, l, ()), d, ()) = some (viewD X Y Z d l, ()) := by
  have h5 := lines_ok hs d0 d1
  rw [p_spec_l2View, l2Others_eq]
  simp only [Option.bind_some]
  rw [f_l2Long l (o1_ok d).1 (o1_ok d).2, f_l2Long l (o2_ok d).1 (o2_ok d).2]
  simp only [Option.bind_some]
  have e : IntKind.wrap .i64 (side3 X Y Z (o1 d) * side3 X Y Z (o2 d)) = linesD X Y Z d := by
    unfold linesD at *
    rw [w64 (by omega) (by omega)]
  rw [e, guardN (by omega) (by omega)]
  exact l_viewSD hs d0 d1 hl hi l.length 0 N (List.replicate (linesD X Y Z d).toNat 0) (by simp) (by unfold Small at hl; have := N_ge; omega) (by simp)

theorem f_viewIB {X Y Z : Int} (hs : sides X Y Z = true) {d : Int} (d0 : 0 ≤ d) (d1 : d ≤ 2) (v : BitVec 64) : P_box_view ((X, Y, Z, ()), (v.toNat : Int), d, ()) = some (viewD X Y Z d (bitCells X Y Z v), ()) := by
  have h5 := lines_ok hs d0 d1
  have hi : Ins X Y Z (bitCells X Y Z v) := fun c hc => ((mem_listOf hs v c).1 hc).1
  have hsm := small_listOf hs v
  rw [p_box_view, f_linesD hs d0 d1]
  simp only [Option.bind_some]
  rw [guardN (by omega) (by omega), f_box_list hs]
  exact l_viewID hs d0 d1 hsm hi (bitCells X Y Z v).length 0 N (List.replicate (linesD X Y Z d).toNat 0) (by simp) (by unfold Small at hsm; have := N_ge; omega) (by simp)

/-! ### What a view says -/
theorem upD_at {X Y Z : Int} (hs : sides X Y Z = true) {d : Int} (d0 : 0 ≤ d) (d1 : d ≤ 2) : ∀ (l : List D_A3) (acc : List Int) (b : Nat), Ins X Y Z l → acc.length = (linesD X Y Z d).toNat → (∀ x ∈ acc, 0 ≤ x ∧ x ≤ b) → b + l.length ≤ 10000000 →
    (l.foldl (upD X Y Z d) acc).length = acc.length ∧ ∀ (i : Nat) (h : i < acc.length), (l.foldl (upD X Y Z d) acc)[i]? = some (acc[i] + ((l.filter fun c => decide (lineD X Y Z d c = i)).length : Int))
  | [], acc, b, _, _, _, _ => ⟨rfl, fun i h => by simp [h]⟩
  | c :: l, acc, b, hi, ha, hb, hn => by
    have hc := hi c (List.mem_cons_self ..)
    obtain ⟨h1, h2, _⟩ := lineD_ok hs d0 d1 hc
    obtain ⟨k, hk⟩ : ∃ k : Nat, lineD X Y Z d c = (k : Int) := ⟨(lineD X Y Z d c).toNat, by omega⟩
    have hkl : k < acc.length := by omega
    have hk0 := hb _ (List.getElem_mem hkl)
    simp only [List.length_cons] at hn
    have hu : upD X Y Z d acc c = acc.set k (acc[k] + 1) := by
      unfold upD
      rw [hk, nthA (t := .int .i64) hkl, w64 (by omega) (by omega)]
      rfl
    obtain ⟨g1, g2⟩ := upD_at hs d0 d1 l (upD X Y Z d acc c) (b + 1) (fun x hx => hi x (List.mem_cons_of_mem _ hx)) (by rw [upD_len, ha]) (by
      rw [hu]
      intro x hx
      rcases List.mem_or_eq_of_mem_set hx with hx | rfl
      · have := hb x hx; omega
      · omega) (by omega)
    rw [List.foldl_cons]
    refine ⟨by rw [g1, upD_len], fun i h => ?_⟩
    rw [g2 i (by rw [upD_len]; exact h)]
    simp only [hu, List.filter_cons, hk]
    by_cases e : k = i
    · subst e
      rw [List.getElem_set_self, decide_eq_true (by rfl)]
      simp only [if_true, List.length_cons]
      congr 1
      omega
    · rw [List.getElem_set_ne (by omega), decide_eq_false (by omega)]
      simp

/-- The shadow of a list of cells in a direction. -/
def shD (X Y Z d : Int) (l : List D_A3) : List Int := (List.range (linesD X Y Z d).toNat).map fun i : Nat => if l.any fun c => decide (lineD X Y Z d c = (i : Int)) then 1 else 0

theorem shD_len (X Y Z d : Int) (l : List D_A3) : (shD X Y Z d l).length = (linesD X Y Z d).toNat := by simp [shD]

theorem view_at {X Y Z : Int} (hs : sides X Y Z = true) {d : Int} (d0 : 0 ≤ d) (d1 : d ≤ 2) {l : List D_A3} (hl : Small l) (hi : Ins X Y Z l) : (viewD X Y Z d l).length = (linesD X Y Z d).toNat ∧ ∀ (i : Nat), i < (linesD X Y Z d).toNat → (viewD X Y Z d l)[i]? = some (((l.filter fun c => decide (lineD X Y Z d c = i)).length : Int)) := by
  have h := upD_at hs d0 d1 l (List.replicate (linesD X Y Z d).toNat 0) 0 hi (by simp) (fun x hx => by rw [List.eq_of_mem_replicate hx]; omega) (by unfold Small at hl; omega)
  refine ⟨by rw [viewD, h.1, List.length_replicate], fun i h' => ?_⟩
  rw [viewD, h.2 i (by simpa using h'), List.getElem_replicate, Int.zero_add]

/-- At most 1. -/
def min1 (n : Int) : Int := bif decide (1 < n) then 1 else n

theorem ones_view {X Y Z : Int} (hs : sides X Y Z = true) {d : Int} (d0 : 0 ≤ d) (d1 : d ≤ 2) {l : List D_A3} (hl : Small l) (hi : Ins X Y Z l) : (viewD X Y Z d l).map min1 = shD X Y Z d l := by
  obtain ⟨h1, h2⟩ := view_at hs d0 d1 hl hi
  apply List.ext_getElem?
  intro i
  by_cases h : i < (linesD X Y Z d).toNat
  · rw [List.getElem?_map, h2 i h, shD, List.getElem?_map, List.getElem?_range h]
    simp only [Option.map_some]
    congr 1
    cases ha : l.any fun c => decide (lineD X Y Z d c = (i : Int)) with
    | true =>
      obtain ⟨c, hc, hd⟩ := List.any_eq_true.1 ha
      have : 0 < (l.filter fun c => decide (lineD X Y Z d c = (i : Int))).length := List.length_pos_of_mem (List.mem_filter.2 ⟨hc, hd⟩)
      unfold min1
      by_cases h2 : 1 < (((l.filter fun c => decide (lineD X Y Z d c = (i : Int))).length : Nat) : Int)
      · rw [decide_eq_true h2]; rfl
      · rw [decide_eq_false h2]
        simp only [cond_false, if_true]
        omega
    | false =>
      have : l.filter (fun c => decide (lineD X Y Z d c = (i : Int))) = [] := List.filter_eq_nil_iff.2 fun c hc => by
        have := List.any_eq_false.1 ha c hc
        simpa using this
      rw [this]
      rfl
  · rw [List.getElem?_eq_none (by rw [List.length_map, h1]; omega), List.getElem?_eq_none (by rw [shD_len]; omega)]

theorem least1 (n : Int) : P_spec_l1Least (n, 1, ()) = some (min1 n, ()) := by
  rw [p_spec_l1Least]
  unfold min1
  by_cases h : n < 1
  · rw [decide_eq_true h, decide_eq_false (by omega)]; rfl
  · by_cases h1 : n = 1
    · subst h1; rfl
    · rw [decide_eq_false h, decide_eq_true (by omega)]; rfl

theorem l_ones {v : List Int} (hv : v.length ≤ 1000000) : ∀ (d i m : Nat) (out : List Int), v.length = i + d → d < m → out.length ≤ i → l_spec_l2Ones_3 m v out (i : Int) = some (out ++ (v.drop i).map min1, ())
  | d, i, 0, out, _, h, _ => by omega
  | d, i, m + 1, out, hk, hm, ho => by
    rw [q_spec_l2Ones_3]
    by_cases hlt : i < v.length
    · rw [ltT hlt, inB_at hlt, nthA (t := .int .i64) hlt, least1, drop_at v i hlt, succI i (by omega)]
      simp only [cond_true, Option.bind_some, List.map_cons]
      rw [decide_eq_true (by simp; omega), decide_eq_true (by simp; omega)]
      simp only [Bool.and_self, cond_true]
      rw [l_ones hv (d - 1) (i + 1) m (out ++ [min1 v[i]]) (by omega) (by omega) (by simp; omega), List.append_assoc]
      rfl
    · rw [ltF hlt, List.drop_eq_nil_of_le (by omega)]
      simp

theorem f_onesV {X Y Z : Int} (hs : sides X Y Z = true) {d : Int} (d0 : 0 ≤ d) (d1 : d ≤ 2) {l : List D_A3} (hl : Small l) (hi : Ins X Y Z l) : P_spec_l2Ones (viewD X Y Z d l, ()) = some (shD X Y Z d l, ()) := by
  obtain ⟨h1, _⟩ := view_at hs d0 d1 hl hi
  have h2 := lines_ok hs d0 d1
  rw [p_spec_l2Ones]
  have e := l_ones (v := viewD X Y Z d l) (by omega) (viewD X Y Z d l).length 0 N [] (by simp) (by have := N_ge; omega) (by simp)
  have e' : l_spec_l2Ones_3 N (viewD X Y Z d l) [] 0 = _ := e
  rw [e', ← ones_view hs d0 d1 hl hi]
  rfl

/-- The shadow of a heap. -/
def shadowOf (X Y Z : Int) (l : List D_A3) : D_Shadow := (X, Y, Z, shD X Y Z 2 l, shD X Y Z 1 l, shD X Y Z 0 l, ())

theorem f_l3Of {X Y Z : Int} (hs : sides X Y Z = true) {l : List D_A3} (hl : Small l) (hi : Ins X Y Z l) : P_spec_l3Of ((X, Y, Z, l, ()), ()) = some (shadowOf X Y Z l, ()) := by
  rw [p_spec_l3Of, p_spec_l2Top, p_spec_l2Front, p_spec_l2Side, f_viewSD hs (by decide) (by decide) hl hi, f_viewSD hs (by decide) (by decide) hl hi, f_viewSD hs (by decide) (by decide) hl hi]
  simp only [Option.bind_some]
  rw [f_onesV hs (by decide) (by decide) hl hi, f_onesV hs (by decide) (by decide) hl hi, f_onesV hs (by decide) (by decide) hl hi]
  rfl

/-! ### The program's shadow -/
theorem set_min {L V : List Int} {k : Nat} (hk : k < V.length) (hl : L.length = V.length) (hd : L.drop k = V.drop k) :
    nth ((.int .i64) : Ty) L (k : Int) = V[k] ∧ (L.set k (min1 V[k])).length = V.length ∧ (L.set k (min1 V[k])).drop (k + 1) = V.drop (k + 1) ∧ (L.set k (min1 V[k])).take (k + 1) ++ (V.drop (k + 1)).map min1 = L.take k ++ (V.drop k).map min1 := by
  have hk' : k < L.length := by omega
  have e : L[k] = V[k] := by
    have h1 := drop_at L k hk'
    have h2 := drop_at V k hk
    rw [hd, h2] at h1
    exact (List.cons.inj h1).1.symm
  refine ⟨by rw [nthA (t := .int .i64) hk', e], by simp [hl], ?_, ?_⟩
  · rw [List.drop_set_of_lt (by omega), ← List.drop_drop, hd, List.drop_drop]
  · rw [List.take_add_one, List.take_set_of_le (by omega), List.getElem?_set_self hk', drop_at V k hk, List.map_cons, Option.toList_some, List.append_assoc]
    rfl

theorem bif_min (n : Int) : (bif decide (1 < n) then 1 else n) = min1 n := rfl

theorem l_sh7 (m0 : Nat) (a b c d e f : Int) (g h i : List Int) (j k : List Int) (w : Int) (V : List Int) (hV : V.length ≤ 100) : ∀ (n q m : Nat) (L : List Int), V.length = q + n → n < m → L.length = V.length → L.drop q = V.drop q →
    l_box_shadow_7 m0 m a b c d e f g h i L j k w 0 0 (V.length : Int) (q : Int) = l_box_shadow_3 m0 a b c d e f g h i (L.take q ++ (V.drop q).map min1) j k w 1
  | n, q, 0, L, _, h, _, _ => by omega
  | n, q, m + 1, L, hk, hm, hl, hd => by
    rw [q_box_shadow_7]
    by_cases hlt : q < V.length
    · obtain ⟨s1, s2, s3, s4⟩ := set_min hlt hl hd
      have hlt' : q < L.length := by omega
      rw [ltT hlt, inB_at hlt', s1, succI q (by omega), bif_min]
      simp only [cond_true, show inB (0 : Int) 3 = true from rfl]
      show l_box_shadow_7 m0 m a b c d e f g h i (L.set q (min1 V[q])) j k w 0 0 (V.length : Int) ((q + 1 : Nat) : Int) = _
      rw [l_sh7 m0 a b c d e f g h i j k w V hV (n - 1) (q + 1) m _ (by omega) (by omega) s2 s3, s4]
    · rw [ltF hlt, List.drop_eq_nil_of_le (by omega), List.take_of_length_le (by omega)]
      simp only [cond_false, List.map_nil, List.append_nil]
      rfl

theorem l_sh1007 (m0 : Nat) (a b c d e f : Int) (g h i : List Int) (j k : List Int) (w : Int) (V : List Int) (hV : V.length ≤ 100) : ∀ (n q m : Nat) (L : List Int), V.length = q + n → n < m → L.length = V.length → L.drop q = V.drop q →
    l_box_shadow_1007 m0 m a b c d e f g h i j L k w 1 1 (V.length : Int) (q : Int) = l_box_shadow_3 m0 a b c d e f g h i j (L.take q ++ (V.drop q).map min1) k w 2
  | n, q, 0, L, _, h, _, _ => by omega
  | n, q, m + 1, L, hk, hm, hl, hd => by
    rw [q_box_shadow_1007]
    by_cases hlt : q < V.length
    · obtain ⟨s1, s2, s3, s4⟩ := set_min hlt hl hd
      have hlt' : q < L.length := by omega
      rw [ltT hlt, inB_at hlt', s1, succI q (by omega), bif_min]
      simp only [cond_true, cond_false, show inB (1 : Int) 3 = true from rfl, show decide ((1 : Int) = 0) = false from rfl]
      show l_box_shadow_1007 m0 m a b c d e f g h i j (L.set q (min1 V[q])) k w 1 1 (V.length : Int) ((q + 1 : Nat) : Int) = _
      rw [l_sh1007 m0 a b c d e f g h i j k w V hV (n - 1) (q + 1) m _ (by omega) (by omega) s2 s3, s4]
    · rw [ltF hlt, List.drop_eq_nil_of_le (by omega), List.take_of_length_le (by omega)]
      simp only [cond_false, List.map_nil, List.append_nil]
      rfl

theorem l_sh2007 (m0 : Nat) (a b c d e f : Int) (g h i : List Int) (j k : List Int) (w : Int) (V : List Int) (hV : V.length ≤ 100) : ∀ (n q m : Nat) (L : List Int), V.length = q + n → n < m → L.length = V.length → L.drop q = V.drop q →
    l_box_shadow_2007 m0 m a b c d e f g h i j k L w 2 2 (V.length : Int) (q : Int) = l_box_shadow_3 m0 a b c d e f g h i j k (L.take q ++ (V.drop q).map min1) w 3
  | n, q, 0, L, _, h, _, _ => by omega
  | n, q, m + 1, L, hk, hm, hl, hd => by
    rw [q_box_shadow_2007]
    by_cases hlt : q < V.length
    · obtain ⟨s1, s2, s3, s4⟩ := set_min hlt hl hd
      have hlt' : q < L.length := by omega
      rw [ltT hlt, inB_at hlt', s1, succI q (by omega), bif_min]
      simp only [cond_true, cond_false, show inB (2 : Int) 3 = true from rfl, show decide ((2 : Int) = 1) = false from rfl, show decide ((2 : Int) = 0) = false from rfl]
      show l_box_shadow_2007 m0 m a b c d e f g h i j k (L.set q (min1 V[q])) w 2 2 (V.length : Int) ((q + 1 : Nat) : Int) = _
      rw [l_sh2007 m0 a b c d e f g h i j k w V hV (n - 1) (q + 1) m _ (by omega) (by omega) s2 s3, s4]
    · rw [ltF hlt, List.drop_eq_nil_of_le (by omega), List.take_of_length_le (by omega)]
      simp only [cond_false, List.map_nil, List.append_nil]
      rfl

theorem f_shadowB {X Y Z : Int} (hs : sides X Y Z = true) (v : BitVec 64) : P_box_shadow ((X, Y, Z, ()), (v.toNat : Int), ()) = some (shadowOf X Y Z (bitCells X Y Z v), ()) := by
  obtain ⟨n, hn⟩ : ∃ n, N = n + 10 := ⟨N - 10, by have := N_ge; omega⟩
  have hi : Ins X Y Z (bitCells X Y Z v) := fun c hc => ((mem_listOf hs v c).1 hc).1
  have hsm := small_listOf hs v
  have hlen : ∀ {d : Int}, 0 ≤ d → d ≤ 2 → (viewD X Y Z d (bitCells X Y Z v)).length ≤ 100 := fun {d} d0 d1 => by
    have h1 := (view_at hs d0 d1 hsm hi).1
    have h2 := lines_ok hs d0 d1
    omega
  have key : ∀ m, l_box_shadow_3 (m + 4) X Y Z 0 0 0 [] [] [] [] [] [] (v.toNat : Int) 0 = some (shadowOf X Y Z (bitCells X Y Z v), ()) := by
    intro m
    have h1 : l_box_shadow_7 (m + 3) N X Y Z 0 0 0 [] [] [] (viewD X Y Z 0 (bitCells X Y Z v)) [] [] (v.toNat : Int) 0 0 ((viewD X Y Z 0 (bitCells X Y Z v)).length : Int) 0 = _ :=
      l_sh7 (m + 3) X Y Z 0 0 0 [] [] [] [] [] (v.toNat : Int) (viewD X Y Z 0 (bitCells X Y Z v)) (hlen (by decide) (by decide)) _ 0 N _ (Nat.zero_add _).symm (by have := hlen (d := 0) (by decide) (by decide); have := N_ge; omega) rfl rfl
    have h2 : l_box_shadow_1007 (m + 2) N X Y Z 0 0 0 [] [] [] (shD X Y Z 0 (bitCells X Y Z v)) (viewD X Y Z 1 (bitCells X Y Z v)) [] (v.toNat : Int) 1 1 ((viewD X Y Z 1 (bitCells X Y Z v)).length : Int) 0 = _ :=
      l_sh1007 (m + 2) X Y Z 0 0 0 [] [] [] (shD X Y Z 0 (bitCells X Y Z v)) [] (v.toNat : Int) (viewD X Y Z 1 (bitCells X Y Z v)) (hlen (by decide) (by decide)) _ 0 N _ (Nat.zero_add _).symm (by have := hlen (d := 1) (by decide) (by decide); have := N_ge; omega) rfl rfl
    have h3 : l_box_shadow_2007 (m + 1) N X Y Z 0 0 0 [] [] [] (shD X Y Z 0 (bitCells X Y Z v)) (shD X Y Z 1 (bitCells X Y Z v)) (viewD X Y Z 2 (bitCells X Y Z v)) (v.toNat : Int) 2 2 ((viewD X Y Z 2 (bitCells X Y Z v)).length : Int) 0 = _ :=
      l_sh2007 (m + 1) X Y Z 0 0 0 [] [] [] (shD X Y Z 0 (bitCells X Y Z v)) (shD X Y Z 1 (bitCells X Y Z v)) (v.toNat : Int) (viewD X Y Z 2 (bitCells X Y Z v)) (hlen (by decide) (by decide)) _ 0 N _ (Nat.zero_add _).symm (by have := hlen (d := 2) (by decide) (by decide); have := N_ge; omega) rfl rfl
    rw [q_box_shadow_3, f_viewIB hs (by decide) (by decide)]
    show l_box_shadow_7 (m + 3) N X Y Z 0 0 0 [] [] [] (viewD X Y Z 0 (bitCells X Y Z v)) [] [] (v.toNat : Int) 0 0 ((viewD X Y Z 0 (bitCells X Y Z v)).length : Int) 0 = _
    rw [h1, List.take_zero, List.drop_zero, List.nil_append, ones_view hs (by decide) (by decide) hsm hi, q_box_shadow_3, f_viewIB hs (by decide) (by decide)]
    show l_box_shadow_1007 (m + 2) N X Y Z 0 0 0 [] [] [] (shD X Y Z 0 (bitCells X Y Z v)) (viewD X Y Z 1 (bitCells X Y Z v)) [] (v.toNat : Int) 1 1 ((viewD X Y Z 1 (bitCells X Y Z v)).length : Int) 0 = _
    rw [h2, List.take_zero, List.drop_zero, List.nil_append, ones_view hs (by decide) (by decide) hsm hi, q_box_shadow_3, f_viewIB hs (by decide) (by decide)]
    show l_box_shadow_2007 (m + 1) N X Y Z 0 0 0 [] [] [] (shD X Y Z 0 (bitCells X Y Z v)) (shD X Y Z 1 (bitCells X Y Z v)) (viewD X Y Z 2 (bitCells X Y Z v)) (v.toNat : Int) 2 2 ((viewD X Y Z 2 (bitCells X Y Z v)).length : Int) 0 = _
    rw [h3, List.take_zero, List.drop_zero, List.nil_append, ones_view hs (by decide) (by decide) hsm hi, q_box_shadow_3]
    rfl
  rw [p_box_shadow]
  show l_box_shadow_3 N X Y Z 0 0 0 [] [] [] [] [] [] (v.toNat : Int) 0 = _
  rw [hn]
  exact key (n + 6)
end Go.VI
/- Plain: benches. -/
namespace Go.VI
open Go.Proofs

def okBench (b : D_Bench) : Bool := okHeap b.1 && within3one b.2.1 b.1.2.2.2.1.length && within3one b.2.2.1 1000
where within3one (x hi : Int) : Bool := decide (0 ≤ x) && decide (x ≤ hi)

theorem f_in0 (x hi : Int) : P_spec_l1In (x, 0, hi, ()) = some (decide (0 ≤ x) && decide (x ≤ hi), ()) := f_spec_l1In x 0 hi

theorem f_spec_IsBench (b : D_Bench) (hl : Small b.1.2.2.2.1) : P_spec_IsBench (b, ()) = some (okBench b, ()) := by
  rw [p_spec_IsBench, p_spec_l12Good, f_spec_l2Heap _ hl]
  simp only [Option.bind_some, f_in0, okBench, okBench.within3one]
  cases okHeap b.1 <;> simp
  cases decide (0 ≤ b.2.2.1) <;> cases decide (b.2.2.1 ≤ 1000) <;> simp

theorem f_spec_l12Good (b : D_Bench) (hl : Small b.1.2.2.2.1) : P_spec_l12Good (b, ()) = some (okBench b, ()) := by
  have := f_spec_IsBench b hl
  rw [p_spec_IsBench] at this
  cases h : P_spec_l12Good (b, ()) with
  | none => rw [h] at this; cases this
  | some r => rw [h] at this; obtain ⟨r1, ⟨⟩⟩ := r; simpa using this

theorem f_impl_IsBench (b : D_Bench) (hl : Small b.1.2.2.2.1) : P_impl_IsBench (b, ()) = some (okBench b, ()) := by
  rw [p_impl_IsBench, f_impl_IsHeap _ hl]
  simp only [Option.bind_some, f_impl_within, okBench, okBench.within3one]
  cases okHeap b.1 <;> simp
  cases decide (0 ≤ b.2.1) <;> cases decide (b.2.1 ≤ (b.1.2.2.2.1.length : Int)) <;> simp

/-! ### Own benches -/
theorem own1 (l : List D_A3) (hl : Small l) : (decide (((List.length ([] : List D_A3)) + (List.length l)) * 24 ≤ 140737488355328) && decide (((List.length ([] : List D_A3)) + (List.length l)) ≤ 140737488355328)) = true := by
  unfold Small at hl
  simp only [List.length_nil, Nat.zero_add, Bool.and_eq_true, decide_eq_true_eq]
  omega

theorem f_spec_l12Own (b : D_Bench) (hl : Small b.1.2.2.2.1) : P_spec_l12Own (b, ()) = some (b, ()) := by
  rw [p_spec_l12Own, p_spec_l2Own, own1 _ hl]
  simp only [p_spec_l2Made, cond_true, Option.bind_some, List.nil_append]

def noBench : D_Bench := ((0, (0, (0, (([] : List D_A3), ())))), (0, (0, ())))
def newBench (h : D_Heap) : D_Bench × Bool × Unit := if okHeap h then ((h, ((h.2.2.2.1.length : Int), (0, ()))), true, ()) else (noBench, false, ())

theorem f_spec_NewBench (h : D_Heap) (hl : Small h.2.2.2.1) : P_spec_NewBench (h, ()) = some (newBench h) := by
  rw [p_spec_NewBench, f_spec_l2Heap _ hl]
  unfold newBench
  cases ho : okHeap h
  · simp [noBench]
  · simp [f_spec_l12Own (h, ((List.length h.2.2.2.1 : Int), (0, ()))) hl]

end Go.VI
