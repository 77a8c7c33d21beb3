/- Plain: what acts make of heaps. -/
import Derived.Test.YtaopponjedombaaGreatPlO
import Derived.Test.YtaopponjedombaaGreatPlM
import Derived.Test.YtaopponjedombaaGreatPlL
import Derived.Test.YtaopponjedombaaGreatPlF
namespace Go.VI
open Go.Proofs

/-- Both say the same of a heap. -/
def Both (a b : Option (D_Heap × Bool × Unit)) : Prop := ∃ r : D_Heap × Bool × Unit, a = some r ∧ b = some r ∧ Small r.1.2.2.2.1

theorem small64 {l : List D_A3} (h : l.length ≤ 64) : Small l := by unfold Small; omega
theorem small_no : Small noHeap.2.2.2.1 := by unfold Small noHeap; simp

theorem heap_is {X Y Z : Int} (hs : sides X Y Z = true) {v : BitVec 64} {g : D_A3 → Bool} (hv : SetIs X Y Z v g) {l : List D_A3} (hr : Srt l) (hm : ∀ c, c ∈ l ↔ within3 X Y Z c = true ∧ g c = true) : P_box_heap ((X, Y, Z, ()), (v.toNat : Int), ()) = some ((X, Y, Z, l, ()), ()) := by
  rw [f_box_heap hs, hv.cells hs hr hm]

theorem app_len' {α : Type} {l : List α} {x : α} (h : l.length ≤ 100000000) : (decide ((l.length + ([x] : List α).length) * 24 ≤ 140737488355328) && decide (l.length + ([x] : List α).length ≤ 140737488355328)) = true := by
  rw [Bool.and_eq_true, decide_eq_true_eq, decide_eq_true_eq]
  simp only [List.length_singleton]
  omega

/-! ### A cube more, a cube less, other cells -/
theorem put_both (h : D_Heap) (c : D_A3) (hl : Small h.2.2.2.1) : Both (P_spec_PutCube (h, c, ())) (P_impl_PutCube (h, c, ())) := by
  rw [p_spec_PutCube, p_impl_PutCube, p_spec_l2Cell, p_impl_isCell, f_spec_l2Heap _ hl, f_impl_IsHeap _ hl]
  cases ho : okHeap h with
  | false => exact ⟨_, rfl, rfl, small_no⟩
  | true =>
    obtain ⟨hs, hi, hr⟩ := okHeap_iff.1 ho
    simp only [Option.bind_some, cond_true]
    rw [f_spec_l2In _ _ hs, f_Heap_box]
    simp only [Option.bind_some]
    rw [f_box_has _ _ hs]
    simp only [Option.bind_some]
    cases hw : within3 h.1 h.2.1 h.2.2.1 c with
    | false => exact ⟨_, rfl, rfl, small_no⟩
    | true =>
      have f1 : P_spec_l2Has (h, c, ()) = some (decide (c ∈ h.2.2.2.1), ()) := f_l2Has _ _ _ _ _ hl
      have f2 : P_Heap_hasCube (h, c, ()) = some (decide (c ∈ h.2.2.2.1), ()) := f_hasCube hs hl hi hw
      rw [f1, f2]
      simp only [Bool.not_true, cond_false, Option.bind_some]
      by_cases hm : c ∈ h.2.2.2.1
      · rw [decide_eq_true hm]
        exact ⟨_, rfl, rfl, small_no⟩
      · rw [decide_eq_false hm]
        simp only [cond_false]
        have h64 := srt_small64 hs hi hr
        obtain ⟨l', g1, g2, g3, g4⟩ := f_l2With (X := h.1) (Y := h.2.1) (Z := h.2.2.1) hr c (by omega)
        have g1' : P_spec_l2With (h, c, ()) = _ := g1
        have f3 : P_Heap_cubes (h, ()) = _ := f_Heap_cubes hs hl hi
        rw [g1', f3, f_box_index hs hw]
        simp only [Option.bind_some]
        have hins : Ins h.1 h.2.1 h.2.2.1 (h.2.2.2.1 ++ [c]) := fun x hx => by
          rcases List.mem_append.1 hx with hx | hx
          · exact hi x hx
          · rw [List.mem_singleton.1 hx]; exact hw
        rw [decide_eq_true (p := (0 : Int) ≤ (idx h.2.1 h.2.2.1 c : Int)) (by omega), shl64, or64]
        have e : mask h.2.1 h.2.2.1 h.2.2.2.1 0 ||| BitVec.twoPow 64 (idx h.2.1 h.2.2.1 c) = mask h.2.1 h.2.2.1 (h.2.2.2.1 ++ [c]) 0 := by rw [mask_append]; rfl
        rw [e, heap_is hs (setIs_mask hs hins) g2 (fun x => by
          rw [g3, decide_eq_true_eq, List.mem_append, List.mem_singleton]
          constructor
          · rintro (rfl | hx)
            · exact ⟨hw, .inr rfl⟩
            · exact ⟨hi x hx, .inl hx⟩
          · rintro ⟨_, hx | hx⟩
            · exact .inr hx
            · exact .inl hx)]
        exact ⟨_, rfl, rfl, small64 (show l'.length ≤ 64 from srt_small64 hs (fun x hx => by
          rcases (g3 x).1 hx with rfl | hx
          · exact hw
          · exact hi x hx) g2)⟩

theorem cell_eq (a c : D_A3) : (decide (a.1 = c.1) && (decide (a.2.1 = c.2.1) && (decide (a.2.2.1 = c.2.2.1) && true))) = decide (a = c) := by
  rw [Bool.eq_iff_iff, Bool.and_eq_true, Bool.and_eq_true, Bool.and_eq_true, decide_eq_true_eq, decide_eq_true_eq, decide_eq_true_eq, decide_eq_true_eq]
  constructor
  · rintro ⟨h1, h2, h3, _⟩; exact cell_ext h1 h2 h3
  · intro h; rw [← h]; exact ⟨rfl, rfl, rfl, rfl⟩

theorem l_without {X Y Z X' Y' Z' : Int} (l : List D_A3) (c : D_A3) (hl : l.length ≤ 3000000) : ∀ (d i m : Nat) (out : List D_A3), l.length = i + d → d < m → out.length ≤ i →
    l_spec_l2Without_3 m X Y Z l c.1 c.2.1 c.2.2.1 0 0 0 [] X' Y' Z' out (i : Int) = some ((X', Y', Z', out ++ (l.drop i).filter (fun x => !decide (x = c)), ()), ())
  | d, i, 0, out, _, h, _ => by omega
  | d, i, m + 1, out, hk, hm, ho => by
    rw [q_spec_l2Without_3]
    by_cases hlt : i < l.length
    · rw [ltT hlt, inB_at hlt, nthA (t := T_A3) hlt, cell_eq l[i] c, app_len' (by omega), drop_at l i hlt, succI i (by omega)]
      simp only [cond_true, List.filter_cons]
      by_cases e : l[i] = c
      · rw [decide_eq_true e]
        simp only [Bool.not_true, cond_false, Bool.false_eq_true, if_false]
        exact l_without l c hl (d - 1) (i + 1) m out (by omega) (by omega) (by omega)
      · rw [decide_eq_false e]
        simp only [Bool.not_false, cond_true, if_true]
        rw [l_without l c hl (d - 1) (i + 1) m _ (by omega) (by omega) (by simp; omega)]
        simp
    · rw [ltF hlt, List.drop_eq_nil_of_le (by omega)]
      simp

theorem f_without {X Y Z : Int} (l : List D_A3) (c : D_A3) (hl : l.length ≤ 3000000) : P_spec_l2Without ((X, Y, Z, l, ()), c, ()) = some ((X, Y, Z, l.filter (fun x => !decide (x = c)), ()), ()) := by
  have := l_without (X := X) (Y := Y) (Z := Z) (X' := X) (Y' := Y) (Z' := Z) l c hl l.length 0 N [] (by simp) (by have := N_ge; omega) (by simp)
  rw [p_spec_l2Without, p_spec_l2Empty]
  exact this

theorem setIs_less {X Y Z : Int} (hs : sides X Y Z = true) {l : List D_A3} (hi : Ins X Y Z l) {c : D_A3} (hw : within3 X Y Z c = true) : SetIs X Y Z (mask Y Z l 0 &&& ~~~(BitVec.twoPow 64 (idx Y Z c))) (fun x => decide (x ∈ l) && !decide (x = c)) := by
  refine ⟨low_and (low_mask hs hi), fun x hx => ?_⟩
  have h1 := (idx_eq hs hx).2.1
  have h2 := (idx_eq hs hx).2.2.1
  rw [BitVec.getLsbD_and, BitVec.getLsbD_not, BitVec.getLsbD_twoPow, mask_mem hs hi hx]
  have e : decide (idx Y Z c = idx Y Z x) = decide (x = c) := by
    rw [Bool.eq_iff_iff, decide_eq_true_eq, decide_eq_true_eq]
    exact ⟨fun h => (idx_inj hs hw hx h).symm, fun h => by rw [h]⟩
  have h3 := (idx_eq hs hw).2.1
  rw [e, decide_eq_true (p := idx Y Z x < 64) (by omega), decide_eq_true (p := idx Y Z c < 64) (by omega)]
  simp

theorem take_both (h : D_Heap) (c : D_A3) (hl : Small h.2.2.2.1) : Both (P_spec_TakeCube (h, c, ())) (P_impl_TakeCube (h, c, ())) := by
  rw [p_spec_TakeCube, p_impl_TakeCube, p_spec_l2Cell, p_impl_isCell, f_spec_l2Heap _ hl, f_impl_IsHeap _ hl]
  cases ho : okHeap h with
  | false => exact ⟨_, rfl, rfl, small_no⟩
  | true =>
    obtain ⟨hs, hi, hr⟩ := okHeap_iff.1 ho
    simp only [Option.bind_some, cond_true]
    rw [f_spec_l2In _ _ hs, f_Heap_box]
    simp only [Option.bind_some]
    rw [f_box_has _ _ hs]
    simp only [Option.bind_some]
    cases hw : within3 h.1 h.2.1 h.2.2.1 c with
    | false => exact ⟨_, rfl, rfl, small_no⟩
    | true =>
      have f1 : P_spec_l2Has (h, c, ()) = some (decide (c ∈ h.2.2.2.1), ()) := f_l2Has _ _ _ _ _ hl
      have f2 : P_Heap_hasCube (h, c, ()) = some (decide (c ∈ h.2.2.2.1), ()) := f_hasCube hs hl hi hw
      rw [f1, f2]
      simp only [Bool.not_true, cond_false, Option.bind_some]
      by_cases hm : c ∈ h.2.2.2.1
      · rw [decide_eq_true hm]
        have h64 := srt_small64 hs hi hr
        have g1 : P_spec_l2Without (h, c, ()) = _ := f_without (X := h.1) (Y := h.2.1) (Z := h.2.2.1) h.2.2.2.1 c (by omega)
        have f3 : P_Heap_cubes (h, ()) = _ := f_Heap_cubes hs hl hi
        simp only [Bool.not_true, cond_false]
        rw [g1, f3, f_box_index hs hw]
        simp only [Option.bind_some]
        rw [decide_eq_true (p := (0 : Int) ≤ (idx h.2.1 h.2.2.1 c : Int)) (by omega), shl64, andNot64]
        rw [heap_is hs (setIs_less hs hi hw) (hr.filter fun x => !decide (x = c)) (fun x => by
          rw [List.mem_filter, Bool.and_eq_true, decide_eq_true_eq]
          constructor
          · rintro ⟨a, b⟩; exact ⟨hi x a, a, b⟩
          · rintro ⟨_, a, b⟩; exact ⟨a, b⟩)]
        exact ⟨_, rfl, rfl, small64 (show (h.2.2.2.1.filter fun x => !decide (x = c)).length ≤ 64 from Nat.le_trans (List.length_filter_le _ _) h64)⟩
      · rw [decide_eq_false hm]
        exact ⟨_, rfl, rfl, small_no⟩

theorem l_other {X Y Z X' Y' Z' : Int} {l al : List D_A3} (hl : Small l) (hal : Small al) : ∀ (d i m : Nat) (out : List D_A3), al.length = i + d → d < m → out.length ≤ i →
    l_spec_OtherCells_5 m X Y Z l 0 0 0 [] X' Y' Z' out al (i : Int) = some ((X', Y', Z', out ++ (al.drop i).filter (fun x => !decide (x ∈ l)), ()), true, ())
  | d, i, 0, out, _, h, _ => by omega
  | d, i, m + 1, out, hk, hm, ho => by
    have hal' := hal
    unfold Small at hal'
    rw [q_spec_OtherCells_5]
    by_cases hlt : i < al.length
    · rw [ltT hlt, inB_at hlt, nthA (t := T_A3) hlt, f_l2Has X Y Z l _ hl, app_len' (by omega), drop_at al i hlt, succI i (by omega)]
      simp only [cond_true, Option.bind_some, List.filter_cons]
      by_cases e : al[i] ∈ l
      · rw [decide_eq_true e]
        simp only [Bool.not_true, cond_false, Bool.false_eq_true, if_false]
        exact l_other hl hal (d - 1) (i + 1) m out (by omega) (by omega) (by omega)
      · rw [decide_eq_false e]
        simp only [Bool.not_false, cond_true, if_true]
        rw [l_other hl hal (d - 1) (i + 1) m _ (by omega) (by omega) (by simp; omega)]
        simp
    · rw [ltF hlt, List.drop_eq_nil_of_le (by omega)]
      simp

theorem low_full {X Y Z : Int} (hs : sides X Y Z = true) : Low (X * Y * Z).toNat (fullBits (X * Y * Z).toNat) := fun i hi => by
  have := size64 hs
  rw [fullBits_bit (by omega)]; exact decide_eq_false (by omega)

theorem setIs_other {X Y Z : Int} (hs : sides X Y Z = true) {l : List D_A3} (hi : Ins X Y Z l) : SetIs X Y Z (fullBits (X * Y * Z).toNat &&& ~~~(mask Y Z l 0)) (fun c => !decide (c ∈ l)) := by
  refine ⟨low_and (low_full hs), fun c hc => ?_⟩
  have h64 := size64 hs
  have hi' := (idx_eq hs hc).2.1
  rw [BitVec.getLsbD_and, BitVec.getLsbD_not, fullBits_bit (by omega), mask_mem hs hi hc, decide_eq_true hi', decide_eq_true (p := idx Y Z c < 64) (by omega)]
  simp

theorem other_both (h : D_Heap) (hl : Small h.2.2.2.1) : Both (P_spec_OtherCells (h, ())) (P_impl_OtherCells (h, ())) := by
  rw [p_spec_OtherCells, p_impl_OtherCells, f_spec_l2Heap _ hl, f_impl_IsHeap _ hl]
  cases ho : okHeap h with
  | false => exact ⟨_, rfl, rfl, small_no⟩
  | true =>
    obtain ⟨hs, hi, hr⟩ := okHeap_iff.1 ho
    obtain ⟨a1, a2, a3⟩ := allCells_ok hs
    have f0 : P_spec_l2All (h, ()) = _ := f_l2All h.2.2.2.1 hs
    have f3 : P_Heap_cubes (h, ()) = _ := f_Heap_cubes hs hl hi
    simp only [Option.bind_some, Bool.not_true, cond_false]
    rw [p_spec_l2Empty, f0, f_Heap_box]
    simp only [Option.bind_some]
    rw [f_box_full hs, f3]
    simp only [Option.bind_some]
    have e := l_other (X := h.1) (Y := h.2.1) (Z := h.2.2.1) (X' := h.1) (Y' := h.2.1) (Z' := h.2.2.1) hl a1 (allCells h.1 h.2.1 h.2.2.1).length 0 N [] (by simp) (by unfold Small at a1; have := N_ge; omega) (by simp)
    have e' : l_spec_OtherCells_5 N h.1 h.2.1 h.2.2.1 h.2.2.2.1 0 0 0 [] h.1 h.2.1 h.2.2.1 [] (allCells h.1 h.2.1 h.2.2.1) 0 = _ := e
    rw [e', andNot64, heap_is hs (setIs_other hs hi) (a3.filter fun x => !decide (x ∈ h.2.2.2.1)) (fun x => by
      rw [List.mem_filter, mem_allCells hs])]
    exact ⟨_, rfl, rfl, small64 (show ((allCells h.1 h.2.1 h.2.2.1).filter fun x => !decide (x ∈ h.2.2.2.1)).length ≤ 64 from Nat.le_trans (List.length_filter_le _ _) (srt_small64 hs a2 a3))⟩

/-! ### Cubes elsewhere -/
theorem l_moved {S1 S2 S3 : Int} (hS : sides S1 S2 S3 = true) {l : List D_A3} (hl : Small l) {g : D_A3 → D_A3} {F : D_A3 × Unit → Option (D_A3 × Unit)} (hF : ∀ c ∈ l, F (c, ()) = some (g c, ()) ∧ within3 S1 S2 S3 (g c) = true) : ∀ (d i m : Nat) (v : BitVec 64), l.length = i + d → d < m →
    l_Heap_moved_3 m S1 S2 S3 0 0 0 [] F (v.toNat : Int) l (l.length : Int) (i : Int) = some ((S1, S2, S3, bitCells S1 S2 S3 (mask S2 S3 ((l.drop i).map g) v), ()), ())
  | d, i, 0, v, _, h => by omega
  | d, i, m + 1, v, hk, hm => by
    have hl' := hl
    unfold Small at hl'
    rw [q_Heap_moved_3]
    by_cases hlt : i < l.length
    · obtain ⟨h1, h2⟩ := hF l[i] (List.getElem_mem hlt)
      rw [ltT hlt, inB_at hlt, nthA (t := T_A3) hlt, h1, drop_at l i hlt, succI i (by omega)]
      simp only [cond_true, Option.bind_some]
      rw [f_box_index hS h2]
      simp only [Option.bind_some]
      rw [decide_eq_true (p := (0 : Int) ≤ (idx S2 S3 (g l[i]) : Int)) (by omega), shl64, or64]
      simp only [cond_true]
      rw [l_moved hS hl hF (d - 1) (i + 1) m _ (by omega) (by omega)]
      rfl
    · rw [ltF hlt, List.drop_eq_nil_of_le (by omega)]
      simp only [cond_false]
      rw [f_box_heap hS]
      rfl

theorem f_moved {X Y Z S1 S2 S3 : Int} (hS : sides S1 S2 S3 = true) {l : List D_A3} (hl : Small l) {g : D_A3 → D_A3} {F : D_A3 × Unit → Option (D_A3 × Unit)} (hF : ∀ c ∈ l, F (c, ()) = some (g c, ()) ∧ within3 S1 S2 S3 (g c) = true) : P_Heap_moved ((X, Y, Z, l, ()), (S1, S2, S3, ()), F, ()) = some ((S1, S2, S3, bitCells S1 S2 S3 (mask S2 S3 (l.map g) 0), ()), ()) := by
  have := l_moved hS hl hF l.length 0 N 0 (by simp) (by unfold Small at hl; have := N_ge; omega)
  rw [p_Heap_moved]
  exact this

theorem moved_is {S1 S2 S3 : Int} (hS : sides S1 S2 S3 = true) {l l' : List D_A3} {g : D_A3 → D_A3} (hg : ∀ c ∈ l, within3 S1 S2 S3 (g c) = true) (hr : Srt l') (hm : ∀ c, c ∈ l' ↔ c ∈ l.map g) : bitCells S1 S2 S3 (mask S2 S3 (l.map g) 0) = l' := by
  have hi : Ins S1 S2 S3 (l.map g) := fun x hx => by
    obtain ⟨c, hc, rfl⟩ := List.mem_map.1 hx
    exact hg c hc
  refine (setIs_mask hS hi).cells hS hr fun c => ?_
  rw [hm, decide_eq_true_eq]
  exact ⟨fun h => ⟨hi c h, h⟩, fun h => h.2⟩

/-- A cell mirrored. -/
def mirC (X Y Z d : Int) (c : D_A3) : D_A3 := ((bif decide (d = 0) then X - 1 - c.1 else c.1), (bif decide (d = 1) then Y - 1 - c.2.1 else c.2.1), (bif decide (d = 2) then Z - 1 - c.2.2.1 else c.2.2.1), ())

theorem mirC_in {X Y Z d : Int} {c : D_A3} (hc : within3 X Y Z c = true) : within3 X Y Z (mirC X Y Z d c) = true := by
  rw [within3_iff] at hc ⊢
  unfold mirC
  simp only
  refine ⟨?_, ?_, ?_⟩
  · cases decide (d = 0) <;> simp <;> omega
  · cases decide (d = 1) <;> simp <;> omega
  · cases decide (d = 2) <;> simp <;> omega

theorem mir_text {X Y Z d : Int} (hs : sides X Y Z = true) (d0 : 0 ≤ d) (d1 : d ≤ 2) {c : D_A3} (hc : within3 X Y Z c = true) (A : D_A3) (hA : A = (X, Y, Z, ())) : (((bif decide (d = (0 : Int)) then (IntKind.wrap .i64 ((IntKind.wrap .i64 ((bif decide (d = (0 : Int)) then A.1 else (bif decide (d = (1 : Int)) then A.2.1 else A.2.2.1)) - 1)) - (bif decide (d = (0 : Int)) then c.1 else (bif decide (d = (1 : Int)) then c.2.1 else c.2.2.1)))) else c.1), ((bif decide (d = (1 : Int)) then (IntKind.wrap .i64 ((IntKind.wrap .i64 ((bif decide (d = (0 : Int)) then A.1 else (bif decide (d = (1 : Int)) then A.2.1 else A.2.2.1)) - 1)) - (bif decide (d = (0 : Int)) then c.1 else (bif decide (d = (1 : Int)) then c.2.1 else c.2.2.1)))) else c.2.1), ((bif decide (d = (2 : Int)) then (IntKind.wrap .i64 ((IntKind.wrap .i64 ((bif decide (d = (0 : Int)) then A.1 else (bif decide (d = (1 : Int)) then A.2.1 else A.2.2.1)) - 1)) - (bif decide (d = (0 : Int)) then c.1 else (bif decide (d = (1 : Int)) then c.2.1 else c.2.2.1)))) else c.2.2.1), ()))) : D_A3) = mirC X Y Z d c := by
  subst hA
  have s := sides_iff.1 hs
  have w := within3_iff.1 hc
  have e : ∀ S x : Int, 1 ≤ S → S ≤ 4 → 0 ≤ x → x ≤ 4 → IntKind.wrap .i64 (IntKind.wrap .i64 (S - 1) - x) = S - 1 - x := fun S x h1 h2 h3 h4 => by rw [w64 (x := S - 1) (by omega) (by omega), w64 (by omega) (by omega)]
  have e1 := e X c.1 (by omega) (by omega) (by omega) (by omega)
  have e2 := e Y c.2.1 (by omega) (by omega) (by omega) (by omega)
  have e3 := e Z c.2.2.1 (by omega) (by omega) (by omega) (by omega)
  rcases dir d0 d1 with rfl | rfl | rfl <;> simp [mirC, e1, e2, e3]

theorem l_mirrored {X Y Z d : Int} (hs : sides X Y Z = true) (d0 : 0 ≤ d) (d1 : d ≤ 2) {l : List D_A3} (hl : Small l) (hi : Ins X Y Z l) : ∀ (n i m : Nat) (out : List D_A3), l.length = i + n → n < m → Srt out → (∀ c, c ∈ out ↔ c ∈ (l.take i).map (mirC X Y Z d)) → out.length ≤ i →
    ∃ out', l_spec_l2Mirrored_3 m X Y Z l 0 0 0 [] X Y Z out d (i : Int) = some ((X, Y, Z, out', ()), ()) ∧ Srt out' ∧ ∀ c, c ∈ out' ↔ c ∈ l.map (mirC X Y Z d)
  | n, i, 0, out, _, h, _, _, _ => by omega
  | n, i, m + 1, out, hk, hm, hr, hmem, hlen => by
    have hl' := hl
    unfold Small at hl'
    rw [q_spec_l2Mirrored_3]
    by_cases hlt : i < l.length
    · rw [ltT hlt, inB_at hlt, nthA (t := T_A3) hlt, f_l2Long l d0 d1, inB_dir d0 d1, succI i (by omega)]
      simp only [cond_true, Option.bind_some]
      have ht := mir_text hs d0 d1 (hi _ (List.getElem_mem hlt)) (X, Y, Z, ()) rfl
      obtain ⟨l', g1, g2, g3, g4⟩ := f_l2With (X := X) (Y := Y) (Z := Z) hr (mirC X Y Z d l[i]) (by omega)
      have ht' : (((bif decide (d = (0 : Int)) then (IntKind.wrap .i64 ((IntKind.wrap .i64 (side3 X Y Z d - 1)) - (bif decide (d = (0 : Int)) then l[i].1 else (bif decide (d = (1 : Int)) then l[i].2.1 else l[i].2.2.1)))) else l[i].1), ((bif decide (d = (1 : Int)) then (IntKind.wrap .i64 ((IntKind.wrap .i64 (side3 X Y Z d - 1)) - (bif decide (d = (0 : Int)) then l[i].1 else (bif decide (d = (1 : Int)) then l[i].2.1 else l[i].2.2.1)))) else l[i].2.1), ((bif decide (d = (2 : Int)) then (IntKind.wrap .i64 ((IntKind.wrap .i64 (side3 X Y Z d - 1)) - (bif decide (d = (0 : Int)) then l[i].1 else (bif decide (d = (1 : Int)) then l[i].2.1 else l[i].2.2.1)))) else l[i].2.2.1), ()))) : D_A3) = mirC X Y Z d l[i] := ht
      rw [ht', g1]
      simp only [Option.bind_some]
      refine l_mirrored hs d0 d1 hl hi (n - 1) (i + 1) m l' (by omega) (by omega) g2 (fun c => ?_) (by omega)
      rw [g3, hmem, List.take_add_one, List.getElem?_eq_getElem hlt, List.map_append, List.mem_append]
      simp only [Option.toList_some, List.map_cons, List.map_nil, List.mem_singleton]
      exact or_comm
    · rw [ltF hlt]
      refine ⟨out, rfl, hr, fun c => ?_⟩
      rw [hmem, List.take_of_length_le (by omega)]

theorem isDir (d : Int) : P_impl_isDirection (d, ()) = some (decide (0 ≤ d) && decide (d ≤ 2), ()) := by
  rw [p_impl_isDirection, f_impl_within]
  rfl

theorem mirror_both (h : D_Heap) (d : Int) (hl : Small h.2.2.2.1) : Both (P_spec_MirrorHeap (h, d, ())) (P_impl_MirrorHeap (h, d, ())) := by
  rw [p_spec_MirrorHeap, p_impl_MirrorHeap, f_spec_l2Heap _ hl, f_impl_IsHeap _ hl, isDir, f_spec_l1In]
  cases ho : okHeap h with
  | false => exact ⟨_, rfl, rfl, small_no⟩
  | true =>
    obtain ⟨hs, hi, hr⟩ := okHeap_iff.1 ho
    simp only [Option.bind_some, Bool.not_true, cond_false]
    cases hd : decide (0 ≤ d) && decide (d ≤ 2) with
    | false => exact ⟨_, rfl, rfl, small_no⟩
    | true =>
      simp only [Bool.and_eq_true, decide_eq_true_eq] at hd
      simp only [Bool.not_true, cond_false]
      rw [f_Heap_box, p_spec_l2Mirrored, p_spec_l2Empty]
      simp only [Option.bind_some]
      obtain ⟨out, e1, e2, e3⟩ := l_mirrored hs hd.1 hd.2 hl hi h.2.2.2.1.length 0 N [] (by simp) (by unfold Small at hl; have := N_ge; omega) List.Pairwise.nil (by simp) (by simp)
      have e1' : l_spec_l2Mirrored_3 N h.1 h.2.1 h.2.2.1 h.2.2.2.1 0 0 0 [] h.1 h.2.1 h.2.2.1 [] d 0 = _ := e1
      rw [e1']
      have hF : ∀ c ∈ h.2.2.2.1, (fun (y : D_A3 × Unit) => P_impl_MirrorHeap_1 (y.1, h, d, ())) (c, ()) = some (mirC h.1 h.2.1 h.2.2.1 d c, ()) ∧ within3 h.1 h.2.1 h.2.2.1 (mirC h.1 h.2.1 h.2.2.1 d c) = true := by
        intro c hc
        refine ⟨?_, mirC_in (hi c hc)⟩
        show P_impl_MirrorHeap_1 (c, h, d, ()) = _
        rw [p_impl_MirrorHeap_1, f_Heap_box]
        simp only [Option.bind_some]
        rw [p_box_mirror, inB_dir hd.1 hd.2]
        simp only [cond_true, Option.bind_some]
        rw [mir_text hs hd.1 hd.2 (hi c hc) (h.1, h.2.1, h.2.2.1, ()) rfl]
      have fm : P_Heap_moved (h, (h.1, h.2.1, h.2.2.1, ()), (fun (y : D_A3 × Unit) => P_impl_MirrorHeap_1 (y.1, h, d, ())), ()) = _ := f_moved (X := h.1) (Y := h.2.1) (Z := h.2.2.1) hs hl hF
      rw [fm, moved_is hs (fun c hc => (hF c hc).2) e2 e3]
      exact ⟨_, rfl, rfl, small64 (show out.length ≤ 64 from srt_small64 hs (fun x hx => by
        obtain ⟨c, hc, rfl⟩ := List.mem_map.1 ((e3 x).1 hx)
        exact (hF c hc).2) e2)⟩

/-- Two directions exchanged. -/
def swC (a b : Int) (c : D_A3) : D_A3 := ((bif decide (b = 0) then get3 c a else (bif decide (a = 0) then get3 c b else c.1)), (bif decide (b = 1) then get3 c a else (bif decide (a = 1) then get3 c b else c.2.1)), (bif decide (b = 2) then get3 c a else (bif decide (a = 2) then get3 c b else c.2.2.1)), ())

theorem sw_sides {X Y Z a b : Int} (hs : sides X Y Z = true) (a0 : 0 ≤ a) (a1 : a ≤ 2) (b0 : 0 ≤ b) (b1 : b ≤ 2) : sides (swC a b (X, Y, Z, ())).1 (swC a b (X, Y, Z, ())).2.1 (swC a b (X, Y, Z, ())).2.2.1 = true := by
  rw [sides_iff] at hs ⊢
  rcases dir a0 a1 with rfl | rfl | rfl <;> rcases dir b0 b1 with rfl | rfl | rfl <;> simp [swC, get3] <;> omega

theorem sw_in {X Y Z a b : Int} (a0 : 0 ≤ a) (a1 : a ≤ 2) (b0 : 0 ≤ b) (b1 : b ≤ 2) {c : D_A3} (hc : within3 X Y Z c = true) : within3 (swC a b (X, Y, Z, ())).1 (swC a b (X, Y, Z, ())).2.1 (swC a b (X, Y, Z, ())).2.2.1 (swC a b c) = true := by
  rw [within3_iff] at hc ⊢
  rcases dir a0 a1 with rfl | rfl | rfl <;> rcases dir b0 b1 with rfl | rfl | rfl <;> simp [swC, get3] <;> omega

theorem l_swapped {X Y Z a b S1 S2 S3 : Int} (a0 : 0 ≤ a) (a1 : a ≤ 2) (b0 : 0 ≤ b) (b1 : b ≤ 2) {l : List D_A3} (hl : Small l) : ∀ (n i m : Nat) (out : List D_A3), l.length = i + n → n < m → Srt out → (∀ c, c ∈ out ↔ c ∈ (l.take i).map (swC a b)) → out.length ≤ i →
    ∃ out', l_spec_l2Swapped_6 m X Y Z l 0 0 0 [] S1 S2 S3 out a b (i : Int) = some ((S1, S2, S3, out', ()), ()) ∧ Srt out' ∧ ∀ c, c ∈ out' ↔ c ∈ l.map (swC a b)
  | n, i, 0, out, _, h, _, _, _ => by omega
  | n, i, m + 1, out, hk, hm, hr, hmem, hlen => by
    have hl' := hl
    unfold Small at hl'
    rw [q_spec_l2Swapped_6]
    by_cases hlt : i < l.length
    · rw [ltT hlt, inB_at hlt, nthA (t := T_A3) hlt, inB_dir a0 a1, inB_dir b0 b1, succI i (by omega)]
      simp only [cond_true]
      obtain ⟨l', g1, g2, g3, g4⟩ := f_l2With (X := S1) (Y := S2) (Z := S3) hr (swC a b l[i]) (by omega)
      have g1' : P_spec_l2With ((S1, (S2, (S3, (out, ())))), ((bif decide (b = (0 : Int)) then (bif decide (a = (0 : Int)) then l[i].1 else (bif decide (a = (1 : Int)) then l[i].2.1 else l[i].2.2.1)) else (bif decide (a = (0 : Int)) then (bif decide (b = (0 : Int)) then l[i].1 else (bif decide (b = (1 : Int)) then l[i].2.1 else l[i].2.2.1)) else l[i].1)), ((bif decide (b = (1 : Int)) then (bif decide (a = (0 : Int)) then l[i].1 else (bif decide (a = (1 : Int)) then l[i].2.1 else l[i].2.2.1)) else (bif decide (a = (1 : Int)) then (bif decide (b = (0 : Int)) then l[i].1 else (bif decide (b = (1 : Int)) then l[i].2.1 else l[i].2.2.1)) else l[i].2.1)), ((bif decide (b = (2 : Int)) then (bif decide (a = (0 : Int)) then l[i].1 else (bif decide (a = (1 : Int)) then l[i].2.1 else l[i].2.2.1)) else (bif decide (a = (2 : Int)) then (bif decide (b = (0 : Int)) then l[i].1 else (bif decide (b = (1 : Int)) then l[i].2.1 else l[i].2.2.1)) else l[i].2.2.1)), ()))), ()) = _ := g1
      rw [g1']
      simp only [Option.bind_some]
      refine l_swapped a0 a1 b0 b1 hl (n - 1) (i + 1) m l' (by omega) (by omega) g2 (fun c => ?_) (by omega)
      rw [g3, hmem, List.take_add_one, List.getElem?_eq_getElem hlt, List.map_append, List.mem_append]
      simp only [Option.toList_some, List.map_cons, List.map_nil, List.mem_singleton]
      exact or_comm
    · rw [ltF hlt]
      refine ⟨out, rfl, hr, fun c => ?_⟩
      rw [hmem, List.take_of_length_le (by omega)]

theorem swap_both (h : D_Heap) (a b : Int) (hl : Small h.2.2.2.1) : Both (P_spec_SwapSides (h, a, b, ())) (P_impl_SwapSides (h, a, b, ())) := by
  rw [p_spec_SwapSides, p_impl_SwapSides, f_spec_l2Heap _ hl, f_impl_IsHeap _ hl, isDir, isDir, f_spec_l1In, f_spec_l1In]
  cases ho : okHeap h with
  | false => exact ⟨_, rfl, rfl, small_no⟩
  | true =>
    obtain ⟨hs, hi, hr⟩ := okHeap_iff.1 ho
    simp only [Option.bind_some, Bool.not_true, cond_false]
    cases ha : decide (0 ≤ a) && decide (a ≤ 2) with
    | false => exact ⟨_, rfl, rfl, small_no⟩
    | true =>
      cases hb : decide (0 ≤ b) && decide (b ≤ 2) with
      | false => exact ⟨_, rfl, rfl, small_no⟩
      | true =>
        simp only [Bool.and_eq_true, decide_eq_true_eq] at ha hb
        simp only [Bool.not_true, cond_false]
        rw [f_Heap_box, p_spec_l2Swapped, inB_dir ha.1 ha.2, inB_dir hb.1 hb.2]
        simp only [cond_true, Option.bind_some]
        rw [p_spec_l2Empty]
        simp only [Option.bind_some]
        have hS := sw_sides hs ha.1 ha.2 hb.1 hb.2
        obtain ⟨out, e1, e2, e3⟩ := l_swapped (X := h.1) (Y := h.2.1) (Z := h.2.2.1) (S1 := (swC a b (h.1, h.2.1, h.2.2.1, ())).1) (S2 := (swC a b (h.1, h.2.1, h.2.2.1, ())).2.1) (S3 := (swC a b (h.1, h.2.1, h.2.2.1, ())).2.2.1) ha.1 ha.2 hb.1 hb.2 hl h.2.2.2.1.length 0 N [] (by simp) (by unfold Small at hl; have := N_ge; omega) List.Pairwise.nil (by simp) (by simp)
        have hF : ∀ c ∈ h.2.2.2.1, (fun (y : D_A3 × Unit) => P_impl_SwapSides_1 (y.1, b, a, ())) (c, ()) = some (swC a b c, ()) ∧ within3 (swC a b (h.1, h.2.1, h.2.2.1, ())).1 (swC a b (h.1, h.2.1, h.2.2.1, ())).2.1 (swC a b (h.1, h.2.1, h.2.2.1, ())).2.2.1 (swC a b c) = true := by
          intro c hc
          refine ⟨?_, sw_in ha.1 ha.2 hb.1 hb.2 (hi c hc)⟩
          show P_impl_SwapSides_1 (c, b, a, ()) = _
          rw [p_impl_SwapSides_1, inB_dir ha.1 ha.2, inB_dir hb.1 hb.2]
          rfl
        have fm := f_moved (X := h.1) (Y := h.2.1) (Z := h.2.2.1) hS hl (g := swC a b) (F := fun (y : D_A3 × Unit) => P_impl_SwapSides_1 (y.1, b, a, ())) hF
        rw [moved_is hS (fun c hc => (hF c hc).2) e2 e3] at fm
        refine ⟨((swC a b (h.1, h.2.1, h.2.2.1, ())).1, (swC a b (h.1, h.2.1, h.2.2.1, ())).2.1, (swC a b (h.1, h.2.1, h.2.2.1, ())).2.2.1, out, ()) |> fun x => (x, true, ()), ?_, ?_, ?_⟩
        · exact congrArg (fun o => Option.bind o fun r6 => some (r6.1, true, ())) e1
        · exact congrArg (fun o => Option.bind o fun r11 => some (r11.1, true, ())) fm
        · exact small64 (show out.length ≤ 64 from srt_small64 hS (fun x hx => by
            obtain ⟨c, hc, rfl⟩ := List.mem_map.1 ((e3 x).1 hx)
            exact (hF c hc).2) e2)
end Go.VI
