/- Plain: dropped heaps. -/
import Derived.Test.YtaopponjedombaaGreatPlS
namespace Go.VI
open Go.Proofs

def lineI (Y : Int) (c : D_A3) : Int := c.1 * Y + c.2.1

theorem line_ok {X Y Z : Int} (hs : sides X Y Z = true) {c : D_A3} (hc : within3 X Y Z c = true) : 0 ≤ lineI Y c ∧ lineI Y c < X * Y ∧ 0 ≤ c.1 * Y ∧ c.1 * Y ≤ 16 := by
  have s := sides_iff.1 hs
  have w := within3_iff.1 hc
  unfold lineI
  rcases four s.1.1 s.1.2 with rfl | rfl | rfl | rfl <;> rcases four s.2.1.1 s.2.1.2 with rfl | rfl | rfl | rfl <;> omega

theorem f_line2 {X Y Z : Int} (hs : sides X Y Z = true) {c : D_A3} (hc : within3 X Y Z c = true) : P_box_line ((X, Y, Z, ()), c, 2, ()) = some (lineI Y c, ()) := by
  obtain ⟨h1, h2, h3, h4⟩ := line_ok hs hc
  have h5 := size64 hs
  have w := within3_iff.1 hc
  have s := sides_iff.1 hs
  rw [p_box_line, p_impl_others]
  show some (IntKind.wrap .i64 (IntKind.wrap .i64 (c.1 * Y) + c.2.1), ()) = _
  unfold lineI at *
  rw [w64 (x := c.1 * Y) (by omega) (by omega), w64 (by omega) (by omega)]

/-- One cube more in its column. -/
def upL (Y : Int) (acc : List Int) (c : D_A3) : List Int := List.set acc (Int.toNat (lineI Y c)) (IntKind.wrap .i64 ((nth ((.int .i64) : Ty) acc (lineI Y c)) + 1))

theorem inB_line {X Y Z : Int} (hs : sides X Y Z = true) {c : D_A3} (hc : within3 X Y Z c = true) {acc : List Int} (ha : acc.length = (X * Y).toNat) : inB (lineI Y c) acc.length = true := by
  obtain ⟨h1, h2, h3, h4⟩ := line_ok hs hc
  unfold inB
  rw [Bool.and_eq_true, decide_eq_true_eq, decide_eq_true_eq]
  omega

theorem upL_len {Y : Int} {acc : List Int} {c : D_A3} : (upL Y acc c).length = acc.length := by simp [upL]

theorem l_viewI {X Y Z : Int} (hs : sides X Y Z = true) {l : List D_A3} (hl : Small l) (hi : Ins X Y Z l) : ∀ (d i m : Nat) (acc : List Int), l.length = i + d → d < m → acc.length = (X * Y).toNat →
    l_box_view_3 m X Y Z 2 acc l (l.length : Int) (i : Int) = some ((l.drop i).foldl (upL Y) acc, ())
  | d, i, 0, acc, _, h, _ => by omega
  | d, i, m + 1, acc, hk, hm, ha => by
    have hl' := hl
    unfold Small at hl'
    rw [q_box_view_3]
    by_cases hlt : i < l.length
    · have hc := hi _ (List.getElem_mem hlt)
      rw [ltT hlt, inB_at hlt, nthA (t := T_A3) hlt, f_line2 hs hc, drop_at l i hlt, succI i (by omega)]
      simp only [cond_true, Option.bind_some]
      rw [inB_line hs hc ha]
      simp only [cond_true, List.foldl_cons]
      exact l_viewI hs hl hi (d - 1) (i + 1) m (upL Y acc l[i]) (by omega) (by omega) (by rw [upL_len, ha])
    · rw [ltF hlt, List.drop_eq_nil_of_le (by omega)]
      rfl

theorem l_viewS {X Y Z : Int} (hs : sides X Y Z = true) {l : List D_A3} (hl : Small l) (hi : Ins X Y Z l) : ∀ (d i m : Nat) (acc : List Int), l.length = i + d → d < m → acc.length = (X * Y).toNat →
    l_spec_l2View_4 m X Y Z l 0 1 acc (i : Int) = some ((l.drop i).foldl (upL Y) acc, ())
  | d, i, 0, acc, _, h, _ => by omega
  | d, i, m + 1, acc, hk, hm, ha => by
    have hl' := hl
    unfold Small at hl'
    rw [q_spec_l2View_4]
    by_cases hlt : i < l.length
    · have hc := hi _ (List.getElem_mem hlt)
      obtain ⟨h1, h2, h3, h4⟩ := line_ok hs hc
      have h5 := size64 hs
      have w := within3_iff.1 hc
      have s := sides_iff.1 hs
      rw [ltT hlt, inB_at hlt, nthA (t := T_A3) hlt, f_l2Long l (show (0 : Int) ≤ 1 by decide) (by decide), drop_at l i hlt, succI i (by omega)]
      have e : IntKind.wrap .i64 (IntKind.wrap .i64 ((bif decide ((0 : Int) = (0 : Int)) then l[i].1 else (bif decide ((0 : Int) = (1 : Int)) then l[i].2.1 else l[i].2.2.1)) * side3 X Y Z 1) + (bif decide ((1 : Int) = (0 : Int)) then l[i].1 else (bif decide ((1 : Int) = (1 : Int)) then l[i].2.1 else l[i].2.2.1))) = lineI Y l[i] := by
        show IntKind.wrap .i64 (IntKind.wrap .i64 (l[i].1 * Y) + l[i].2.1) = _
        unfold lineI at *
        rw [w64 (x := l[i].1 * Y) (by omega) (by omega), w64 (by omega) (by omega)]
      simp only [cond_true, Option.bind_some, show inB (0 : Int) 3 = true from rfl, show inB (1 : Int) 3 = true from rfl] at e ⊢
      rw [e, inB_line hs hc ha]
      simp only [cond_true, List.foldl_cons]
      exact l_viewS hs hl hi (d - 1) (i + 1) m (upL Y acc l[i]) (by omega) (by omega) (by rw [upL_len, ha])
    · rw [ltF hlt, List.drop_eq_nil_of_le (by omega)]
      rfl

/-- How many cubes each column has. -/
def cols (X Y : Int) (l : List D_A3) : List Int := l.foldl (upL Y) (List.replicate (X * Y).toNat 0)

theorem foldl_upL_len (Y : Int) : ∀ (l : List D_A3) (acc : List Int), (l.foldl (upL Y) acc).length = acc.length
  | [], _ => rfl
  | c :: l, acc => by rw [List.foldl_cons, foldl_upL_len Y l, upL_len]

theorem cols_len (X Y : Int) (l : List D_A3) : (cols X Y l).length = (X * Y).toNat := by
  unfold cols
  rw [foldl_upL_len, List.length_replicate]

theorem guardN {n : Int} (h0 : 0 ≤ n) (h1 : n ≤ 1000) : (decide ((0 : Int) ≤ n) && decide (n ≤ n) && decide (n * ((8 : Nat) : Int) ≤ 140737488355328) && decide (n ≤ 140737488355328)) = true := by
  rw [decide_eq_true h0, decide_eq_true (Int.le_refl n), decide_eq_true (p := n * ((8 : Nat) : Int) ≤ 140737488355328) (by omega), decide_eq_true (p := n ≤ 140737488355328) (by omega)]
  rfl

theorem f_viewS {X Y Z : Int} (hs : sides X Y Z = true) {l : List D_A3} (hl : Small l) (hi : Ins X Y Z l) : P_spec_l2View ((X, Y, Z, l, ()), 2, ()) = some (cols X Y l, ()) := by
  have h5 := size64 hs
  rw [p_spec_l2View, p_spec_l2Others]
  simp only [show decide ((2 : Int) = 0) = false from rfl, show decide ((2 : Int) = 1) = false from rfl, cond_false, Option.bind_some]
  rw [f_l2Long l (show (0 : Int) ≤ 0 by decide) (by decide), f_l2Long l (show (0 : Int) ≤ 1 by decide) (by decide)]
  simp only [Option.bind_some]
  have e : IntKind.wrap .i64 (side3 X Y Z 0 * side3 X Y Z 1) = X * Y := by
    show IntKind.wrap .i64 (X * Y) = _
    rw [w64 (by omega) (by omega)]
  rw [e, guardN (by omega) (by omega)]
  exact l_viewS hs hl hi l.length 0 N (List.replicate (X * Y).toNat 0) (by simp) (by unfold Small at hl; have := N_ge; omega) (by simp)

theorem f_viewI {X Y Z : Int} (hs : sides X Y Z = true) {l : List D_A3} (hi : Ins X Y Z l) (hr : Srt l) : P_box_view ((X, Y, Z, ()), ((mask Y Z l 0).toNat : Int), 2, ()) = some (cols X Y l, ()) := by
  have h5 := size64 hs
  have s := sides_iff.1 hs
  have h64 := srt_small64 hs hi hr
  have el : P_box_lines ((X, Y, Z, ()), 2, ()) = some (X * Y, ()) := by
    rw [p_box_lines, f_size hs]
    have hz : decide ((bif decide ((2 : Int) = (0 : Int)) then X else (bif decide ((2 : Int) = (1 : Int)) then Y else Z)) = 0) = false := decide_eq_false (show ¬ Z = 0 by omega)
    simp only [Option.bind_some, show inB (2 : Int) 3 = true from rfl, cond_true]
    show (bif !decide ((bif decide ((2 : Int) = (0 : Int)) then X else (bif decide ((2 : Int) = (1 : Int)) then Y else Z)) = 0) then some (IntKind.wrap .i64 (Int.tdiv (((X * Y * Z).toNat : Nat) : Int) Z), ()) else none) = _
    rw [hz]
    have e : Int.tdiv (((X * Y * Z).toNat : Nat) : Int) Z = X * Y := by
      rw [Int.toNat_of_nonneg (by omega)]
      exact Int.mul_tdiv_cancel _ (by omega)
    rw [e, w64 (by omega) (by omega)]
    rfl
  rw [p_box_view, el]
  simp only [Option.bind_some]
  rw [guardN (by omega) (by omega), f_box_list hs, listOf_mask hs hi hr]
  exact l_viewI hs (small64 h64) hi l.length 0 N (List.replicate (X * Y).toNat 0) (by simp) (by have := N_ge; omega) (by simp)

/-- Is a cell below the top of its column? -/
def lowC (Y : Int) (V : List Int) (c : D_A3) : Bool := decide (c.2.2.1 < nth ((.int .i64) : Ty) V (lineI Y c))

theorem l_stackS {X Y Z X' Y' Z' : Int} (hs : sides X Y Z = true) {V : List Int} (hV : V.length = (X * Y).toNat) {al : List D_A3} (hal : Small al) (hin : Ins X Y Z al) : ∀ (d i m : Nat) (out : List D_A3), al.length = i + d → d < m → out.length ≤ i →
    l_spec_l2Stack_4 m 0 0 0 [] X' Y' Z' out Y V al (i : Int) = some ((X', Y', Z', out ++ (al.drop i).filter (lowC Y V), ()), ())
  | d, i, 0, out, _, h, _ => by omega
  | d, i, m + 1, out, hk, hm, ho => by
    have hal' := hal
    unfold Small at hal'
    rw [q_spec_l2Stack_4]
    by_cases hlt : i < al.length
    · have hc := hin _ (List.getElem_mem hlt)
      obtain ⟨h1, h2, h3, h4⟩ := line_ok hs hc
      have h5 := size64 hs
      have w := within3_iff.1 hc
      have s := sides_iff.1 hs
      have e : IntKind.wrap .i64 (IntKind.wrap .i64 (al[i].1 * Y) + al[i].2.1) = lineI Y al[i] := by
        unfold lineI at *
        rw [w64 (x := al[i].1 * Y) (by omega) (by omega), w64 (by omega) (by omega)]
      rw [ltT hlt, inB_at hlt, nthA (t := T_A3) hlt, e, inB_line hs hc hV, app_len' (by omega), drop_at al i hlt, succI i (by omega)]
      simp only [cond_true, List.filter_cons]
      cases hlow : decide (al[i].2.2.1 < nth ((.int .i64) : Ty) V (lineI Y al[i])) with
      | false =>
        have hl2 : lowC Y V al[i] = false := hlow
        rw [hl2]
        simp only [cond_false, Bool.false_eq_true, if_false]
        exact l_stackS hs hV hal hin (d - 1) (i + 1) m out (by omega) (by omega) (by omega)
      | true =>
        have hl2 : lowC Y V al[i] = true := hlow
        rw [hl2]
        simp only [cond_true, if_true]
        rw [l_stackS hs hV hal hin (d - 1) (i + 1) m _ (by omega) (by omega) (by simp; omega)]
        simp
    · rw [ltF hlt, List.drop_eq_nil_of_le (by omega)]
      simp

theorem drop_both (h : D_Heap) (hl : Small h.2.2.2.1) : Both (P_spec_DropHeap (h, ())) (P_impl_DropHeap (h, ())) := by
  rw [p_spec_DropHeap, p_impl_DropHeap, f_spec_l2Heap _ hl, f_impl_IsHeap _ hl]
  cases ho : okHeap h with
  | false => exact ⟨_, rfl, rfl, small_no⟩
  | true =>
    obtain ⟨hs, hi, hr⟩ := okHeap_iff.1 ho
    obtain ⟨a1, a2, a3⟩ := allCells_ok hs
    have f1 : P_spec_l2View (h, 2, ()) = _ := f_viewS hs hl hi
    have f3 : P_Heap_cubes (h, ()) = _ := f_Heap_cubes hs hl hi
    simp only [Option.bind_some, Bool.not_true, cond_false]
    rw [p_spec_l7Drop, p_spec_l2Heights, f1]
    simp only [Option.bind_some]
    rw [p_spec_l2Stack, p_spec_l2Empty]
    simp only [Option.bind_some]
    rw [f_l2All [] hs]
    simp only [Option.bind_some]
    have e := l_stackS (X' := h.1) (Y' := h.2.1) (Z' := h.2.2.1) hs (cols_len h.1 h.2.1 h.2.2.2.1) a1 a2 (allCells h.1 h.2.1 h.2.2.1).length 0 N [] (by simp) (by unfold Small at a1; have := N_ge; omega) (by simp)
    have e' : l_spec_l2Stack_4 N 0 0 0 [] h.1 h.2.1 h.2.2.1 [] h.2.1 (cols h.1 h.2.1 h.2.2.2.1) (allCells h.1 h.2.1 h.2.2.1) 0 = _ := e
    rw [e', f_Heap_box, p_Heap_dropped, f_Heap_box, f3]
    simp only [Option.bind_some]
    rw [f_viewI hs hi hr]
    simp only [Option.bind_some]
    obtain ⟨v, g1, g2⟩ := f_those hs (g := lowC h.2.1 (cols h.1 h.2.1 h.2.2.2.1)) (F := fun (y : D_A3 × Unit) => P_box_stack_1 (y.1, cols h.1 h.2.1 h.2.2.2.1, (h.1, h.2.1, h.2.2.1, ()), ())) (fun c hc => by
      show P_box_stack_1 (c, cols h.1 h.2.1 h.2.2.2.1, (h.1, h.2.1, h.2.2.1, ()), ()) = _
      rw [p_box_stack_1, f_line2 hs hc]
      simp only [Option.bind_some]
      rw [inB_line hs hc (cols_len _ _ _)]
      rfl)
    rw [p_box_stack, g1]
    simp only [Option.bind_some]
    rw [heap_is hs g2 (a3.filter (lowC h.2.1 (cols h.1 h.2.1 h.2.2.2.1))) (fun x => by rw [List.mem_filter, mem_allCells hs])]
    exact ⟨_, rfl, rfl, small64 (show ((allCells h.1 h.2.1 h.2.2.1).filter (lowC h.2.1 (cols h.1 h.2.1 h.2.2.2.1))).length ≤ 64 from Nat.le_trans (List.length_filter_le _ _) (srt_small64 hs a2 a3))⟩
end Go.VI
