/- Plain: valid shadows, the bound by lines, and the gap. -/
import Derived.Test.YtbpjlmhkoflcgaaGreatPlM
import Derived.Test.YtbpjlmhkoflcgaaGreatPlO
namespace Go.VI
open Go.Proofs

def bit01 (x : Int) : Bool := decide (0 ≤ x) && decide (x ≤ 1)
def onesB (l : List Int) (n : Int) : Bool := l.all bit01 && decide ((l.length : Int) = n)
/-- A shadow's list in a direction. -/
def listD (s : D_Shadow) (d : Int) : List Int := bif decide (d = 0) then s.2.2.2.2.2.1 else (bif decide (d = 1) then s.2.2.2.2.1 else s.2.2.2.1)
def okSh (s : D_Shadow) : Bool := sides s.1 s.2.1 s.2.2.1 && (onesB (listD s 0) (linesD s.1 s.2.1 s.2.2.1 0) && (onesB (listD s 1) (linesD s.1 s.2.1 s.2.2.1 1) && onesB (listD s 2) (linesD s.1 s.2.1 s.2.2.1 2)))
def SmallS (s : D_Shadow) : Prop := Small s.2.2.2.1 ∧ Small s.2.2.2.2.1 ∧ Small s.2.2.2.2.2.1

theorem f_sList (s : D_Shadow) {d : Int} (d0 : 0 ≤ d) (d1 : d ≤ 2) : P_Shadow_list (s, d, ()) = some (listD s d, ()) := by
  rw [p_Shadow_list]
  rcases dir d0 d1 with rfl | rfl | rfl <;> rfl

theorem small_list {s : D_Shadow} (h : SmallS s) {d : Int} (d0 : 0 ≤ d) (d1 : d ≤ 2) : Small (listD s d) := by
  rcases dir d0 d1 with rfl | rfl | rfl
  · exact h.2.2
  · exact h.2.1
  · exact h.1

theorem l_allWithin {l : List Int} (hl : Small l) (a b : Int) : ∀ (d i m : Nat), l.length = i + d → d < m → l_impl_allWithin_2 m a b l (l.length : Int) (i : Int) = some ((l.drop i).all fun x => decide (a ≤ x) && decide (x ≤ b), ())
  | d, i, 0, _, h => by omega
  | d, i, m + 1, hk, hm => by
    have hl' := hl
    unfold Small at hl'
    rw [q_impl_allWithin_2]
    by_cases hlt : i < l.length
    · rw [ltT hlt, inB_at hlt, nthA (t := .int .i64) hlt, f_impl_within, drop_at l i hlt, succI i (by omega), l_allWithin hl a b (d - 1) (i + 1) m (by omega) (by omega)]
      simp only [cond_true, Option.bind_some, List.all_cons]
      cases decide (a ≤ l[i]) && decide (l[i] ≤ b) <;> rfl
    · rw [ltF hlt, List.drop_eq_nil_of_le (by omega)]
      rfl

theorem f_allWithin {l : List Int} (hl : Small l) (a b : Int) : P_impl_allWithin (l, a, b, ()) = some (l.all fun x => decide (a ≤ x) && decide (x ≤ b), ()) := by
  rw [p_impl_allWithin]
  exact l_allWithin hl a b l.length 0 N (by simp) (by unfold Small at hl; have := N_ge; omega)

theorem l_isSh (s : D_Shadow) (hs : sides s.1 s.2.1 s.2.2.1 = true) (hm : SmallS s) (m : Nat) {d : Int} (d0 : 0 ≤ d) (d1 : d ≤ 2) :
    l_impl_IsShadow_4 (m + 1) s.1 s.2.1 s.2.2.1 s.2.2.2.1 s.2.2.2.2.1 s.2.2.2.2.2.1 d = bif onesB (listD s d) (linesD s.1 s.2.1 s.2.2.1 d) then l_impl_IsShadow_4 m s.1 s.2.1 s.2.2.1 s.2.2.2.1 s.2.2.2.2.1 s.2.2.2.2.2.1 (d + 1) else some (false, ()) := by
  rw [q_impl_IsShadow_4, decide_eq_true (p := d < 3) (by omega)]
  have e1 : P_Shadow_list ((s.1, (s.2.1, (s.2.2.1, (s.2.2.2.1, (s.2.2.2.2.1, (s.2.2.2.2.2.1, ())))))), d, ()) = _ := f_sList s d0 d1
  rw [e1, p_Shadow_box]
  simp only [cond_true, Option.bind_some]
  rw [f_linesD hs d0 d1]
  simp only [Option.bind_some]
  rw [f_allWithin (small_list hm d0 d1), w64 (x := d + 1) (by omega) (by omega)]
  unfold onesB
  cases hc : decide (((listD s d).length : Int) = linesD s.1 s.2.1 s.2.2.1 d) with
  | false => simp
  | true =>
    simp only [Bool.not_true, cond_false, Option.bind_some, Bool.and_true]
    show (bif !(listD s d).all bit01 then _ else _) = _
    cases (listD s d).all bit01 <;> rfl

theorem l_isSh3 (s : D_Shadow) (m : Nat) : l_impl_IsShadow_4 (m + 1) s.1 s.2.1 s.2.2.1 s.2.2.2.1 s.2.2.2.2.1 s.2.2.2.2.2.1 3 = some (true, ()) := by
  rw [q_impl_IsShadow_4]
  rfl

theorem f_isShadow (s : D_Shadow) (hm : SmallS s) : P_impl_IsShadow (s, ()) = some (okSh s, ()) := by
  rw [p_impl_IsShadow, p_Shadow_box]
  simp only [Option.bind_some]
  rw [f_box_valid]
  simp only [Option.bind_some]
  unfold okSh
  cases hs : sides s.1 s.2.1 s.2.2.1 with
  | false => rfl
  | true =>
    obtain ⟨n, hn⟩ : ∃ n, N = n + 4 := ⟨N - 4, by have := N_ge; omega⟩
    simp only [Bool.not_true, cond_false, Bool.true_and]
    rw [hn, l_isSh s hs hm (n + 3) (d := 0) (by decide) (by decide)]
    cases onesB (listD s 0) (linesD s.1 s.2.1 s.2.2.1 0) with
    | false => rfl
    | true =>
      simp only [cond_true, Bool.true_and]
      rw [show (0 : Int) + 1 = 1 from rfl, l_isSh s hs hm (n + 2) (d := 1) (by decide) (by decide)]
      cases onesB (listD s 1) (linesD s.1 s.2.1 s.2.2.1 1) with
      | false => rfl
      | true =>
        simp only [cond_true, Bool.true_and]
        rw [show (1 : Int) + 1 = 2 from rfl, l_isSh s hs hm (n + 1) (d := 2) (by decide) (by decide), show (2 : Int) + 1 = 3 from rfl, l_isSh3]
        cases onesB (listD s 2) (linesD s.1 s.2.1 s.2.2.1 2) <;> rfl

theorem l_ones3 {l : List Int} (hl : Small l) (n : Int) : ∀ (d i m : Nat), l.length = i + d → d < m → l_spec_l3Ones_2 m l n (i : Int) = some ((l.drop i).all bit01 && decide ((l.length : Int) = n), ())
  | d, i, 0, _, h => by omega
  | d, i, m + 1, hk, hm => by
    have hl' := hl
    unfold Small at hl'
    rw [q_spec_l3Ones_2]
    by_cases hlt : i < l.length
    · rw [ltT hlt, inB_at hlt, nthA (t := .int .i64) hlt, f_spec_l1In, drop_at l i hlt, succI i (by omega), l_ones3 hl n (d - 1) (i + 1) m (by omega) (by omega)]
      simp only [cond_true, Option.bind_some, List.all_cons]
      show (bif !bit01 l[i] then _ else _) = _
      cases bit01 l[i] <;> rfl
    · rw [ltF hlt, List.drop_eq_nil_of_le (by omega)]
      rfl

theorem f_ones3 {l : List Int} (hl : Small l) (n : Int) : P_spec_l3Ones (l, n, ()) = some (onesB l n, ()) := by
  rw [p_spec_l3Ones]
  exact l_ones3 hl n l.length 0 N (by simp) (by unfold Small at hl; have := N_ge; omega)

theorem f_l3Shadow (s : D_Shadow) (hm : SmallS s) : P_spec_l3Shadow (s, ()) = some (okSh s, ()) := by
  rw [p_spec_l3Shadow, f_spec_l2Sides]
  simp only [Option.bind_some]
  unfold okSh
  cases hs : sides s.1 s.2.1 s.2.2.1 with
  | false => rfl
  | true =>
    have g0 := lines_ok hs (d := 0) (by decide) (by decide)
    have g1 := lines_ok hs (d := 1) (by decide) (by decide)
    have g2 := lines_ok hs (d := 2) (by decide) (by decide)
    have e0 : IntKind.wrap .i64 (s.2.1 * s.2.2.1) = linesD s.1 s.2.1 s.2.2.1 0 := w64 (by have : linesD s.1 s.2.1 s.2.2.1 0 = s.2.1 * s.2.2.1 := rfl; omega) (by have : linesD s.1 s.2.1 s.2.2.1 0 = s.2.1 * s.2.2.1 := rfl; omega)
    have e1 : IntKind.wrap .i64 (s.1 * s.2.2.1) = linesD s.1 s.2.1 s.2.2.1 1 := w64 (by have : linesD s.1 s.2.1 s.2.2.1 1 = s.1 * s.2.2.1 := rfl; omega) (by have : linesD s.1 s.2.1 s.2.2.1 1 = s.1 * s.2.2.1 := rfl; omega)
    have e2 : IntKind.wrap .i64 (s.1 * s.2.1) = linesD s.1 s.2.1 s.2.2.1 2 := w64 (by have : linesD s.1 s.2.1 s.2.2.1 2 = s.1 * s.2.1 := rfl; omega) (by have : linesD s.1 s.2.1 s.2.2.1 2 = s.1 * s.2.1 := rfl; omega)
    rw [e0, e1, e2, f_ones3 hm.1, f_ones3 hm.2.1, f_ones3 hm.2.2]
    simp only [cond_true, Option.bind_some, Bool.true_and]
    show (bif onesB (listD s 2) (linesD s.1 s.2.1 s.2.2.1 2) then bif onesB (listD s 1) (linesD s.1 s.2.1 s.2.2.1 1) then some (onesB (listD s 0) (linesD s.1 s.2.1 s.2.2.1 0), ()) else some (false, ()) else some (false, ())) = _
    cases onesB (listD s 0) (linesD s.1 s.2.1 s.2.2.1 0) <;> cases onesB (listD s 1) (linesD s.1 s.2.1 s.2.2.1 1) <;> cases onesB (listD s 2) (linesD s.1 s.2.1 s.2.2.1 2) <;> rfl

/-- How many lines are lit. -/
def lit (l : List Int) : Int := l.foldl (· + ·) 0

theorem lit_from : ∀ (l : List Int) (a : Int), (∀ x ∈ l, bit01 x = true) → a ≤ l.foldl (· + ·) a ∧ l.foldl (· + ·) a ≤ a + l.length
  | [], a, _ => by simp
  | x :: l, a, h => by
    have hx := h x (List.mem_cons_self ..)
    unfold bit01 at hx
    rw [Bool.and_eq_true, decide_eq_true_eq, decide_eq_true_eq] at hx
    have := lit_from l (a + x) fun y hy => h y (List.mem_cons_of_mem _ hy)
    rw [List.foldl_cons, List.length_cons]
    omega

theorem lit_ok {l : List Int} {n : Int} (h : onesB l n = true) (hn : n ≤ 16) : 0 ≤ lit l ∧ lit l ≤ 16 ∧ (∀ x ∈ l, bit01 x = true) ∧ (l.length : Int) = n := by
  unfold onesB at h
  rw [Bool.and_eq_true, decide_eq_true_eq] at h
  have h1 := fun x hx => List.all_eq_true.1 h.1 x hx
  have := lit_from l 0 h1
  unfold lit
  exact ⟨by omega, by omega, h1, h.2⟩

theorem l_lb9 (m0 : Nat) (s : D_Shadow) (most d : Int) {l : List Int} (h1 : ∀ x ∈ l, bit01 x = true) (hl : l.length ≤ 16) : ∀ (n i m : Nat) (a : Int), l.length = i + n → n < m → 0 ≤ a → a ≤ i →
    l_impl_LineBound_9 m0 m s.1 s.2.1 s.2.2.1 s.2.2.2.1 s.2.2.2.2.1 s.2.2.2.2.2.1 most a d l (l.length : Int) (i : Int) = l_impl_LineBound_5 m0 s.1 s.2.1 s.2.2.1 s.2.2.2.1 s.2.2.2.2.1 s.2.2.2.2.2.1 (bif decide ((l.drop i).foldl (· + ·) a > most) then (l.drop i).foldl (· + ·) a else most) (IntKind.wrap .i64 (d + 1))
  | n, i, 0, a, _, h, _, _ => by omega
  | n, i, m + 1, a, hk, hm, a0, a1 => by
    rw [q_impl_LineBound_9]
    by_cases hlt : i < l.length
    · have hx := h1 _ (List.getElem_mem hlt)
      unfold bit01 at hx
      rw [Bool.and_eq_true, decide_eq_true_eq, decide_eq_true_eq] at hx
      rw [ltT hlt, inB_at hlt, nthA (t := .int .i64) hlt, drop_at l i hlt, succI i (by omega), w64 (x := a + l[i]) (by omega) (by omega), l_lb9 m0 s most d h1 hl (n - 1) (i + 1) m _ (by omega) (by omega) (by omega) (by omega)]
      rfl
    · rw [ltF hlt, List.drop_eq_nil_of_le (by omega)]
      rfl

theorem l_lb5 (s : D_Shadow) (m : Nat) (most : Int) {d : Int} (d0 : 0 ≤ d) (d1 : d ≤ 2) {n : Int} (h : onesB (listD s d) n = true) (hn : n ≤ 16) :
    l_impl_LineBound_5 (m + 1) s.1 s.2.1 s.2.2.1 s.2.2.2.1 s.2.2.2.2.1 s.2.2.2.2.2.1 most d = l_impl_LineBound_5 m s.1 s.2.1 s.2.2.1 s.2.2.2.1 s.2.2.2.2.1 s.2.2.2.2.2.1 (bif decide (lit (listD s d) > most) then lit (listD s d) else most) (d + 1) := by
  obtain ⟨h0, h1, h2, h3⟩ := lit_ok h hn
  rw [q_impl_LineBound_5, decide_eq_true (p := d < 3) (by omega)]
  have e1 : P_Shadow_list ((s.1, (s.2.1, (s.2.2.1, (s.2.2.2.1, (s.2.2.2.2.1, (s.2.2.2.2.2.1, ())))))), d, ()) = _ := f_sList s d0 d1
  rw [e1]
  simp only [cond_true, Option.bind_some]
  have e2 := l_lb9 m s most d h2 (by omega) (listD s d).length 0 N 0 (by simp) (by have := N_ge; omega) (by omega) (by omega)
  have e2' : l_impl_LineBound_9 m N s.1 s.2.1 s.2.2.1 s.2.2.2.1 s.2.2.2.2.1 s.2.2.2.2.2.1 most 0 d (listD s d) ((listD s d).length : Int) 0 = _ := e2
  rw [e2', w64 (x := d + 1) (by omega) (by omega)]
  rfl

def mx (a b : Int) : Int := bif decide (a > b) then a else b
theorem mx_eq (a b : Int) : mx a b = if a ≤ b then b else a := by
  unfold mx
  by_cases h : a ≤ b
  · rw [decide_eq_false (by omega), if_pos h]; rfl
  · rw [decide_eq_true (by omega), if_neg h]; rfl

def bound (s : D_Shadow) : Int := mx (lit (listD s 2)) (mx (lit (listD s 1)) (mx (lit (listD s 0)) 0))

theorem f_LineBound (s : D_Shadow) (hm : SmallS s) : P_impl_LineBound (s, ()) = some (if okSh s then (bound s, true, ()) else (0, false, ())) := by
  rw [p_impl_LineBound, f_isShadow s hm]
  simp only [Option.bind_some]
  cases ho : okSh s with
  | false => rfl
  | true =>
    have ho' := ho
    unfold okSh at ho'
    simp only [Bool.and_eq_true] at ho'
    obtain ⟨hs, h0, h1, h2⟩ := ho'
    obtain ⟨n, hn⟩ : ∃ n, N = n + 4 := ⟨N - 4, by have := N_ge; omega⟩
    simp only [Bool.not_true, cond_false, if_true]
    rw [hn, l_lb5 s (n + 3) 0 (d := 0) (by decide) (by decide) h0 (lines_ok hs (by decide) (by decide)).2, show (0 : Int) + 1 = 1 from rfl, l_lb5 s (n + 2) _ (d := 1) (by decide) (by decide) h1 (lines_ok hs (by decide) (by decide)).2, show (1 : Int) + 1 = 2 from rfl, l_lb5 s (n + 1) _ (d := 2) (by decide) (by decide) h2 (lines_ok hs (by decide) (by decide)).2, q_impl_LineBound_5]
    rfl

theorem f_most_mx (a b : Int) : P_spec_l1Most (a, b, ()) = some (mx a b, ()) := by
  rw [p_spec_l1Most]
  unfold mx
  cases decide (a > b) <;> rfl

theorem l_lit {l : List Int} (h1 : ∀ x ∈ l, bit01 x = true) (hl : l.length ≤ 16) : ∀ (n i m : Nat) (a : Int), l.length = i + n → n < m → 0 ≤ a → a ≤ i → l_spec_l3Lit_3 m l a (i : Int) = some ((l.drop i).foldl (· + ·) a, ())
  | n, i, 0, a, _, h, _, _ => by omega
  | n, i, m + 1, a, hk, hm, a0, a1 => by
    rw [q_spec_l3Lit_3]
    by_cases hlt : i < l.length
    · have hx := h1 _ (List.getElem_mem hlt)
      unfold bit01 at hx
      rw [Bool.and_eq_true, decide_eq_true_eq, decide_eq_true_eq] at hx
      rw [ltT hlt, inB_at hlt, nthA (t := .int .i64) hlt, drop_at l i hlt, succI i (by omega), w64 (x := a + l[i]) (by omega) (by omega), l_lit h1 hl (n - 1) (i + 1) m _ (by omega) (by omega) (by omega) (by omega)]
      rfl
    · rw [ltF hlt, List.drop_eq_nil_of_le (by omega)]
      rfl

theorem f_lit {l : List Int} {n : Int} (h : onesB l n = true) (hn : n ≤ 16) : P_spec_l3Lit (l, ()) = some (lit l, ()) := by
  obtain ⟨_, _, h2, h3⟩ := lit_ok h hn
  rw [p_spec_l3Lit]
  exact l_lit h2 (by omega) l.length 0 N 0 (by simp) (by have := N_ge; omega) (by omega) (by omega)

theorem f_spec_LineBound (s : D_Shadow) (hm : SmallS s) : P_spec_LineBound (s, ()) = some (if okSh s then (bound s, true, ()) else (0, false, ())) := by
  rw [p_spec_LineBound, f_l3Shadow s hm]
  simp only [Option.bind_some]
  cases ho : okSh s with
  | false => rfl
  | true =>
    have ho' := ho
    unfold okSh at ho'
    simp only [Bool.and_eq_true] at ho'
    obtain ⟨hs, h0, h1, h2⟩ := ho'
    have k0 := lines_ok hs (d := 0) (by decide) (by decide)
    have k1 := lines_ok hs (d := 1) (by decide) (by decide)
    have k2 := lines_ok hs (d := 2) (by decide) (by decide)
    have e0 : P_spec_l3Lit (s.2.2.2.2.2.1, ()) = _ := f_lit h0 k0.2
    have e1 : P_spec_l3Lit (s.2.2.2.2.1, ()) = _ := f_lit h1 k1.2
    have e2 : P_spec_l3Lit (s.2.2.2.1, ()) = _ := f_lit h2 k2.2
    have p0 := (lit_ok h0 k0.2).1
    simp only [Bool.not_true, cond_false, if_true]
    rw [e0, e1, e2]
    simp only [Option.bind_some]
    rw [f_most_mx]
    simp only [Option.bind_some]
    rw [f_most_mx]
    simp only [Option.bind_some]
    congr 2
    unfold bound
    show mx (lit (listD s 2)) (mx (lit (listD s 1)) (lit (listD s 0))) = _
    rw [mx_eq (lit (listD s 0)) 0]
    split
    · rw [show lit (listD s 0) = 0 by omega]
    · rfl

theorem shadowOf_small (X Y Z : Int) (l : List D_A3) (hs : sides X Y Z = true) : SmallS (shadowOf X Y Z l) := by
  have h : ∀ d : Int, 0 ≤ d → d ≤ 2 → Small (shD X Y Z d l) := fun d d0 d1 => by
    have := lines_ok hs d0 d1
    unfold Small
    rw [shD_len]
    omega
  exact ⟨h 2 (by decide) (by decide), h 1 (by decide) (by decide), h 0 (by decide) (by decide)⟩

theorem ones_shD {X Y Z : Int} (hs : sides X Y Z = true) {d : Int} (d0 : 0 ≤ d) (d1 : d ≤ 2) (l : List D_A3) : onesB (shD X Y Z d l) (linesD X Y Z d) = true := by
  have h := lines_ok hs d0 d1
  unfold onesB
  rw [Bool.and_eq_true, decide_eq_true_eq, shD_len]
  refine ⟨List.all_eq_true.2 fun x hx => ?_, by omega⟩
  unfold shD at hx
  obtain ⟨i, _, rfl⟩ := List.mem_map.1 hx
  split <;> rfl

theorem shadowOf_ok {X Y Z : Int} (hs : sides X Y Z = true) (l : List D_A3) : okSh (shadowOf X Y Z l) = true := by
  unfold okSh
  simp only [Bool.and_eq_true]
  exact ⟨hs, ones_shD hs (by decide) (by decide) l, ones_shD hs (by decide) (by decide) l, ones_shD hs (by decide) (by decide) l⟩

/-- What the gap is. -/
def gapV (b : D_Bench) : Int × Bool × Unit := if okBench b then (IntKind.wrap .i64 ((b.1.2.2.2.1.length : Int) - bound (shadowOf b.1.1 b.1.2.1 b.1.2.2.1 b.1.2.2.2.1)), true, ()) else (0, false, ())

theorem okBench_heap {b : D_Bench} (h : okBench b = true) : okHeap b.1 = true := by
  unfold okBench at h
  simp only [Bool.and_eq_true] at h
  exact h.1.1

theorem f_spec_ShadowGap (b : D_Bench) (hl : Small b.1.2.2.2.1) : P_spec_ShadowGap (b, ()) = some (gapV b) := by
  rw [p_spec_ShadowGap, f_spec_l12Good b hl]
  simp only [Option.bind_some]
  unfold gapV
  cases ho : okBench b with
  | false => rfl
  | true =>
    obtain ⟨hs, hi, hr⟩ := okHeap_iff.1 (okBench_heap ho)
    have e1 : P_spec_l3Of (b.1, ()) = _ := f_l3Of hs hl hi
    simp only [Bool.not_true, cond_false, if_true]
    rw [p_spec_l12Gap, e1]
    simp only [Option.bind_some]
    rw [f_spec_LineBound _ (shadowOf_small _ _ _ _ hs), shadowOf_ok hs]
    rfl

theorem f_impl_ShadowGap (b : D_Bench) (hl : Small b.1.2.2.2.1) : P_impl_ShadowGap (b, ()) = some (gapV b) := by
  rw [p_impl_ShadowGap, f_impl_IsBench b hl]
  simp only [Option.bind_some]
  unfold gapV
  cases ho : okBench b with
  | false => rfl
  | true =>
    obtain ⟨hs, hi, hr⟩ := okHeap_iff.1 (okBench_heap ho)
    have e1 : P_Heap_cubes (b.1, ()) = _ := f_Heap_cubes hs hl hi
    simp only [Bool.not_true, cond_false, if_true]
    rw [f_Heap_box, e1]
    simp only [Option.bind_some]
    rw [f_shadowB hs, listOf_mask hs hi hr]
    simp only [Option.bind_some]
    rw [f_LineBound _ (shadowOf_small _ _ _ _ hs), shadowOf_ok hs]
    rfl
end Go.VI
/- Plain: allowed cells, the cells of each lit line, and those where a cube must be. -/
namespace Go.VI
open Go.Proofs

/-- Is the line of a cell lit? -/
def litAt (s : D_Shadow) (d : Int) (c : D_A3) : Bool := !decide (nth ((.int .i64) : Ty) (listD s d) (lineD s.1 s.2.1 s.2.2.1 d c) = 0)
def allowedC (s : D_Shadow) (c : D_A3) : Bool := litAt s 0 c && (litAt s 1 c && litAt s 2 c)

theorem okSh_iff {s : D_Shadow} : okSh s = true ↔ sides s.1 s.2.1 s.2.2.1 = true ∧ ∀ d, 0 ≤ d → d ≤ 2 → onesB (listD s d) (linesD s.1 s.2.1 s.2.2.1 d) = true := by
  unfold okSh
  simp only [Bool.and_eq_true]
  constructor
  · rintro ⟨h, h0, h1, h2⟩
    exact ⟨h, fun d d0 d1 => by rcases dir d0 d1 with rfl | rfl | rfl <;> assumption⟩
  · rintro ⟨h, hd⟩
    exact ⟨h, hd 0 (by decide) (by decide), hd 1 (by decide) (by decide), hd 2 (by decide) (by decide)⟩

theorem list_len {s : D_Shadow} (ho : okSh s = true) {d : Int} (d0 : 0 ≤ d) (d1 : d ≤ 2) : (listD s d).length = (linesD s.1 s.2.1 s.2.2.1 d).toNat ∧ (listD s d).length ≤ 16 ∧ ∀ x ∈ listD s d, x = 0 ∨ x = 1 := by
  obtain ⟨hs, h⟩ := okSh_iff.1 ho
  have hl := lines_ok hs d0 d1
  obtain ⟨_, _, h3, h4⟩ := lit_ok (h d d0 d1) hl.2
  refine ⟨by omega, by omega, fun x hx => ?_⟩
  have := h3 x hx
  unfold bit01 at this
  rw [Bool.and_eq_true, decide_eq_true_eq, decide_eq_true_eq] at this
  omega

theorem l_allow (s : D_Shadow) (ho : okSh s = true) (c : D_A3) (hc : within3 s.1 s.2.1 s.2.2.1 c = true) (m : Nat) {d : Int} (d0 : 0 ≤ d) (d1 : d ≤ 2) :
    l_Shadow_allowed_1_2 (m + 1) c.1 c.2.1 c.2.2.1 s d = bif litAt s d c then l_Shadow_allowed_1_2 m c.1 c.2.1 c.2.2.1 s (d + 1) else some (false, ()) := by
  obtain ⟨hs, _⟩ := okSh_iff.1 ho
  obtain ⟨h1, _⟩ := list_len ho d0 d1
  rw [q_Shadow_allowed_1_2, decide_eq_true (p := d < 3) (by omega), f_sList s d0 d1, p_Shadow_box]
  simp only [cond_true, Option.bind_some]
  have e : P_box_line ((s.1, (s.2.1, (s.2.2.1, ()))), (c.1, (c.2.1, (c.2.2.1, ()))), d, ()) = _ := f_lineD hs d0 d1 hc
  rw [e]
  simp only [Option.bind_some]
  rw [inB_lineD hs d0 d1 hc h1, w64 (x := d + 1) (by omega) (by omega)]
  unfold litAt
  cases decide (nth ((.int .i64) : Ty) (listD s d) (lineD s.1 s.2.1 s.2.2.1 d c) = 0) <;> rfl

theorem f_allow1 (s : D_Shadow) (ho : okSh s = true) (c : D_A3) (hc : within3 s.1 s.2.1 s.2.2.1 c = true) : P_Shadow_allowed_1 (c, s, ()) = some (allowedC s c, ()) := by
  obtain ⟨n, hn⟩ : ∃ n, N = n + 4 := ⟨N - 4, by have := N_ge; omega⟩
  rw [p_Shadow_allowed_1, hn, l_allow s ho c hc (n + 3) (d := 0) (by decide) (by decide)]
  unfold allowedC
  cases litAt s 0 c with
  | false => rfl
  | true =>
    simp only [cond_true, Bool.true_and]
    rw [show (0 : Int) + 1 = 1 from rfl, l_allow s ho c hc (n + 2) (d := 1) (by decide) (by decide)]
    cases litAt s 1 c with
    | false => rfl
    | true =>
      simp only [cond_true, Bool.true_and]
      rw [show (1 : Int) + 1 = 2 from rfl, l_allow s ho c hc (n + 1) (d := 2) (by decide) (by decide), q_Shadow_allowed_1_2]
      cases litAt s 2 c <;> rfl

/-- The cells for which something is so, as a set. -/
def setB (X Y Z : Int) (g : D_A3 → Bool) : B64 := thoseR Y Z g (X * Y * Z).toNat 0 0

theorem setB_is {X Y Z : Int} (hs : sides X Y Z = true) (g : D_A3 → Bool) : SetIs X Y Z (setB X Y Z g) g := by
  have h64 := size64 hs
  refine ⟨fun i hi => ?_, fun c hc => ?_⟩
  · rw [setB, thoseR_bit Y Z g i _ 0 0 (by omega)]
    have : decide (i < 0 + (X * Y * Z).toNat) = false := decide_eq_false (by omega)
    rw [this, Bool.and_false, Bool.false_and, Bool.or_false]
    simp
  · rw [setB, thoseR_bit Y Z g _ _ 0 0 (by omega), cellOf_idx hs hc]
    have : decide (idx Y Z c < 0 + (X * Y * Z).toNat) = true := decide_eq_true (by have := (idx_eq hs hc).2.1; omega)
    rw [this, decide_eq_true (Nat.zero_le _)]
    simp

theorem f_thoseB {X Y Z : Int} (hs : sides X Y Z = true) {g : D_A3 → Bool} {F : D_A3 × Unit → Option (Bool × Unit)} (hF : ∀ c, within3 X Y Z c = true → F (c, ()) = some (g c, ())) : P_box_those ((X, Y, Z, ()), F, ()) = some (((setB X Y Z g).toNat : Int), ()) := by
  obtain ⟨v, e, hv⟩ := f_those hs hF
  rw [e, hv.ext hs (setB_is hs g)]

def allowedB (s : D_Shadow) : B64 := setB s.1 s.2.1 s.2.2.1 (allowedC s)

theorem f_allowed (s : D_Shadow) (ho : okSh s = true) : P_Shadow_allowed (s, ()) = some (((allowedB s).toNat : Int), ()) := by
  obtain ⟨hs, _⟩ := okSh_iff.1 ho
  rw [p_Shadow_allowed, p_Shadow_box]
  simp only [Option.bind_some]
  have e : P_box_those ((s.1, (s.2.1, (s.2.2.1, ()))), (fun (y : D_A3 × Unit) => P_Shadow_allowed_1 (y.1, s, ())), ()) = _ := f_thoseB hs (g := allowedC s) (fun c hc => f_allow1 s ho c hc)
  rw [e]
  rfl

/-! ### Lit lines -/
def lineB (s : D_Shadow) (d : Int) (i : Nat) : B64 := setB s.1 s.2.1 s.2.2.1 fun c => decide (lineD s.1 s.2.1 s.2.2.1 d c = (i : Int))
/-- The allowed cells of the lit lines among some. -/
def needR (s : D_Shadow) (d : Int) : List Int → Nat → List B64
  | [], _ => []
  | x :: r, q => if x = 1 then (allowedB s &&& lineB s d q) :: needR s d r (q + 1) else needR s d r (q + 1)

theorem needR_len (s : D_Shadow) (d : Int) : ∀ (l : List Int) (q : Nat), (needR s d l q).length ≤ l.length
  | [], _ => Nat.le_refl _
  | x :: r, q => by
    have := needR_len s d r (q + 1)
    unfold needR
    split <;> simp <;> omega

theorem mem_needR {s : D_Shadow} {d : Int} {v : B64} : ∀ {l : List Int} {q : Nat}, v ∈ needR s d l q ↔ ∃ i, ∃ h : i < l.length, l[i] = 1 ∧ v = allowedB s &&& lineB s d (q + i)
  | [], q => by simp [needR]
  | x :: r, q => by
    have ih := @mem_needR s d v r (q + 1)
    have tail : (∃ i, ∃ h : i < r.length, r[i] = 1 ∧ v = allowedB s &&& lineB s d (q + 1 + i)) ↔ ∃ i, ∃ h : i + 1 < (x :: r).length, (x :: r)[i + 1] = 1 ∧ v = allowedB s &&& lineB s d (q + (i + 1)) := by
      constructor
      · rintro ⟨i, h, a, b⟩; exact ⟨i, by simp; omega, by simpa using a, by rw [b]; congr 2; omega⟩
      · rintro ⟨i, h, a, b⟩; exact ⟨i, by simpa using h, by simpa using a, by rw [b]; congr 2; omega⟩
    unfold needR
    by_cases hx : x = 1
    · rw [if_pos hx, List.mem_cons, ih, tail]
      constructor
      · rintro (h | ⟨i, h, a, b⟩)
        · exact ⟨0, by simp, by simpa using hx, h⟩
        · exact ⟨i + 1, h, a, b⟩
      · rintro ⟨i, h, a, b⟩
        cases i with
        | zero => exact .inl b
        | succ i => exact .inr ⟨i, h, a, b⟩
    · rw [if_neg hx, ih, tail]
      constructor
      · rintro ⟨i, h, a, b⟩; exact ⟨i + 1, h, a, b⟩
      · rintro ⟨i, h, a, b⟩
        cases i with
        | zero => exact absurd (by simpa using a) hx
        | succ i => exact ⟨i, h, a, b⟩

theorem nums_app (a b : List B64) : nums (a ++ b) = nums a ++ nums b := List.map_append ..

theorem f_line1 (s : D_Shadow) (ho : okSh s = true) {d : Int} (d0 : 0 ≤ d) (d1 : d ≤ 2) (q : Nat) : P_box_those ((s.1, (s.2.1, (s.2.2.1, ()))), (fun (y : D_A3 × Unit) => P_Shadow_needs_1 (y.1, (s.1, (s.2.1, (s.2.2.1, (s.2.2.2.1, (s.2.2.2.2.1, (s.2.2.2.2.2.1, ())))))), d, (q : Int), ())), ()) = some (((lineB s d q).toNat : Int), ()) := by
  obtain ⟨hs, _⟩ := okSh_iff.1 ho
  refine f_thoseB hs (fun c hc => ?_)
  show P_Shadow_needs_1 (c, (s.1, (s.2.1, (s.2.2.1, (s.2.2.2.1, (s.2.2.2.2.1, (s.2.2.2.2.2.1, ())))))), d, (q : Int), ()) = _
  rw [p_Shadow_needs_1, p_Shadow_box]
  simp only [Option.bind_some]
  rw [f_lineD hs d0 d1 hc]
  rfl

theorem app_num {l : List Int} {x : Int} (h : l.length ≤ 1000) : (decide ((l.length + ([x] : List Int).length) * 8 ≤ 140737488355328) && decide (l.length + ([x] : List Int).length ≤ 140737488355328)) = true := by
  rw [Bool.and_eq_true, decide_eq_true_eq, decide_eq_true_eq]
  simp
  omega

theorem l_need1006 (s : D_Shadow) (ho : okSh s = true) {d : Int} (d0 : 0 ≤ d) (d1 : d ≤ 2) (m0 : Nat) : ∀ (n q m : Nat) (acc : List B64), (listD s d).length = q + n → n < m → acc.length + n ≤ 100 →
    l_Shadow_needs_1006 m0 m s.1 s.2.1 s.2.2.1 s.2.2.2.1 s.2.2.2.2.1 s.2.2.2.2.2.1 d (nums acc) ((allowedB s).toNat : Int) d (listD s d) ((listD s d).length : Int) (q : Int) = l_Shadow_needs_1003 m0 s.1 s.2.1 s.2.2.1 s.2.2.2.1 s.2.2.2.2.1 s.2.2.2.2.2.1 (nums (acc ++ needR s d ((listD s d).drop q) q)) ((allowedB s).toNat : Int) (d + 1)
  | n, q, 0, acc, _, h, _ => by omega
  | n, q, m + 1, acc, hk, hm, ha => by
    have hll := (list_len ho d0 d1).2.1
    rw [q_Shadow_needs_1006]
    by_cases hlt : q < (listD s d).length
    · rw [ltT hlt, inB_at hlt, nthA (t := .int .i64) hlt, drop_at (listD s d) q hlt, succI q (by omega), p_Shadow_box]
      simp only [cond_true, Option.bind_some, needR]
      by_cases h1 : (listD s d)[q] = 1
      · rw [decide_eq_true h1, if_pos h1, f_line1 s ho d0 d1 q]
        simp only [cond_true, Option.bind_some]
        rw [and64, app_num (by rw [nums_len]; omega)]
        have e : nums acc ++ [((allowedB s &&& lineB s d q).toNat : Int)] = nums (acc ++ [allowedB s &&& lineB s d q]) := by rw [nums_app]; rfl
        rw [e]
        simp only [cond_true]
        rw [l_need1006 s ho d0 d1 m0 (n - 1) (q + 1) m _ (by omega) (by omega) (by rw [List.length_append]; simp; omega), List.append_assoc]
        rfl
      · rw [decide_eq_false h1, if_neg h1]
        simp only [cond_false]
        exact l_need1006 s ho d0 d1 m0 (n - 1) (q + 1) m _ (by omega) (by omega) (by omega)
    · rw [ltF hlt, List.drop_eq_nil_of_le (by omega), w64 (x := d + 1) (by omega) (by omega)]
      simp [needR]

theorem l_need6 (s : D_Shadow) (ho : okSh s = true) {d : Int} (d0 : 0 ≤ d) (d1 : d ≤ 2) (m0 : Nat) : ∀ (n q m : Nat) (acc : List B64), (listD s d).length = q + n → n < m → acc.length + n ≤ 100 →
    ∃ o, l_Shadow_needs_6 m0 m s.1 s.2.1 s.2.2.1 s.2.2.2.1 s.2.2.2.2.1 s.2.2.2.2.2.1 d (nums acc) ((allowedB s).toNat : Int) d (listD s d) ((listD s d).length : Int) (q : Int) = o ∧
      (o = l_Shadow_needs_1003 m0 s.1 s.2.1 s.2.2.1 s.2.2.2.1 s.2.2.2.2.1 s.2.2.2.2.2.1 (nums (acc ++ needR s d ((listD s d).drop q) q)) ((allowedB s).toNat : Int) (d + 1) ∨ o = l_Shadow_needs_3 m0 s.1 s.2.1 s.2.2.1 s.2.2.2.1 s.2.2.2.2.1 s.2.2.2.2.2.1 (nums (acc ++ needR s d ((listD s d).drop q) q)) ((allowedB s).toNat : Int) (d + 1))
  | n, q, 0, acc, _, h, _ => by omega
  | n, q, m + 1, acc, hk, hm, ha => by
    have hll := (list_len ho d0 d1).2.1
    refine ⟨_, rfl, ?_⟩
    rw [q_Shadow_needs_6]
    by_cases hlt : q < (listD s d).length
    · rw [ltT hlt, inB_at hlt, nthA (t := .int .i64) hlt, drop_at (listD s d) q hlt, succI q (by omega), p_Shadow_box]
      simp only [cond_true, Option.bind_some, needR]
      by_cases h1 : (listD s d)[q] = 1
      · rw [decide_eq_true h1, if_pos h1, f_line1 s ho d0 d1 q]
        simp only [cond_true, Option.bind_some]
        rw [and64, app_num (by rw [nums_len]; omega)]
        have e : nums acc ++ [((allowedB s &&& lineB s d q).toNat : Int)] = nums (acc ++ [allowedB s &&& lineB s d q]) := by rw [nums_app]; rfl
        rw [e]
        simp only [cond_true]
        rw [l_need1006 s ho d0 d1 m0 (n - 1) (q + 1) m _ (by omega) (by omega) (by rw [List.length_append]; simp; omega), List.append_assoc]
        exact .inl rfl
      · rw [decide_eq_false h1, if_neg h1]
        simp only [cond_false]
        obtain ⟨o, e, r⟩ := l_need6 s ho d0 d1 m0 (n - 1) (q + 1) m acc (by omega) (by omega) (by omega)
        rw [e]
        exact r
    · rw [ltF hlt, List.drop_eq_nil_of_le (by omega), w64 (x := d + 1) (by omega) (by omega)]
      exact .inr (by simp [needR])

/-- The allowed cells of each lit line. -/
def needsB (s : D_Shadow) : List B64 := needR s 0 (listD s 0) 0 ++ (needR s 1 (listD s 1) 0 ++ needR s 2 (listD s 2) 0)

theorem needsB_len {s : D_Shadow} (ho : okSh s = true) : (needsB s).length ≤ 48 := by
  have h0 := needR_len s 0 (listD s 0) 0
  have h1 := needR_len s 1 (listD s 1) 0
  have h2 := needR_len s 2 (listD s 2) 0
  have k0 := (list_len ho (d := 0) (by decide) (by decide)).2.1
  have k1 := (list_len ho (d := 1) (by decide) (by decide)).2.1
  have k2 := (list_len ho (d := 2) (by decide) (by decide)).2.1
  unfold needsB
  rw [List.length_append, List.length_append]
  omega

theorem l_need1003 (s : D_Shadow) (ho : okSh s = true) {d : Int} (d0 : 0 ≤ d) (d1 : d ≤ 2) (m : Nat) (acc : List B64) (ha : acc.length ≤ 50) :
    l_Shadow_needs_1003 (m + 1) s.1 s.2.1 s.2.2.1 s.2.2.2.1 s.2.2.2.2.1 s.2.2.2.2.2.1 (nums acc) ((allowedB s).toNat : Int) d = l_Shadow_needs_1003 m s.1 s.2.1 s.2.2.1 s.2.2.2.1 s.2.2.2.2.1 s.2.2.2.2.2.1 (nums (acc ++ needR s d (listD s d) 0)) ((allowedB s).toNat : Int) (d + 1) := by
  have hll := (list_len ho d0 d1).2.1
  rw [q_Shadow_needs_1003, decide_eq_true (p := d < 3) (by omega)]
  have e1 : P_Shadow_list ((s.1, (s.2.1, (s.2.2.1, (s.2.2.2.1, (s.2.2.2.2.1, (s.2.2.2.2.2.1, ())))))), d, ()) = _ := f_sList s d0 d1
  rw [e1]
  exact l_need1006 s ho d0 d1 m (listD s d).length 0 N acc (by simp) (by have := N_ge; omega) (by omega)

theorem l_need3 (s : D_Shadow) (ho : okSh s = true) {d : Int} (d0 : 0 ≤ d) (d1 : d ≤ 2) (m : Nat) (acc : List B64) (ha : acc.length ≤ 50) :
    ∃ o, l_Shadow_needs_3 (m + 1) s.1 s.2.1 s.2.2.1 s.2.2.2.1 s.2.2.2.2.1 s.2.2.2.2.2.1 (nums acc) ((allowedB s).toNat : Int) d = o ∧
      (o = l_Shadow_needs_1003 m s.1 s.2.1 s.2.2.1 s.2.2.2.1 s.2.2.2.2.1 s.2.2.2.2.2.1 (nums (acc ++ needR s d (listD s d) 0)) ((allowedB s).toNat : Int) (d + 1) ∨ o = l_Shadow_needs_3 m s.1 s.2.1 s.2.2.1 s.2.2.2.1 s.2.2.2.2.1 s.2.2.2.2.2.1 (nums (acc ++ needR s d (listD s d) 0)) ((allowedB s).toNat : Int) (d + 1)) := by
  have hll := (list_len ho d0 d1).2.1
  refine ⟨_, rfl, ?_⟩
  rw [q_Shadow_needs_3, decide_eq_true (p := d < 3) (by omega)]
  have e1 : P_Shadow_list ((s.1, (s.2.1, (s.2.2.1, (s.2.2.2.1, (s.2.2.2.2.1, (s.2.2.2.2.2.1, ())))))), d, ()) = _ := f_sList s d0 d1
  rw [e1]
  obtain ⟨o, e, r⟩ := l_need6 s ho d0 d1 m (listD s d).length 0 N acc (by simp) (by have := N_ge; omega) (by omega)
  have e' : l_Shadow_needs_6 m N s.1 s.2.1 s.2.2.1 s.2.2.2.1 s.2.2.2.2.1 s.2.2.2.2.2.1 d (nums acc) ((allowedB s).toNat : Int) d (listD s d) ((listD s d).length : Int) 0 = o := e
  simp only [cond_true, Option.bind_some]
  rw [e']
  exact r

theorem f_needs (s : D_Shadow) (ho : okSh s = true) : P_Shadow_needs (s, ()) = some (nums (needsB s), ()) := by
  obtain ⟨n, hn⟩ : ∃ n, N = n + 4 := ⟨N - 4, by have := N_ge; omega⟩
  rw [p_Shadow_needs, f_allowed s ho]
  simp only [Option.bind_some]
  rw [hn]
  have l0 := needR_len s 0 (listD s 0) 0
  have l1 := needR_len s 1 (listD s 1) 0
  have k0 := (list_len ho (d := 0) (by decide) (by decide)).2.1
  have k1 := (list_len ho (d := 1) (by decide) (by decide)).2.1
  have fin1 : ∀ (m : Nat) (a : List B64) , l_Shadow_needs_1003 (m + 1) s.1 s.2.1 s.2.2.1 s.2.2.2.1 s.2.2.2.2.1 s.2.2.2.2.2.1 (nums a) ((allowedB s).toNat : Int) 3 = some (nums a, ()) := fun m a => by rw [q_Shadow_needs_1003]; rfl
  have fin0 : ∀ (m : Nat) (a : List B64) , l_Shadow_needs_3 (m + 1) s.1 s.2.1 s.2.2.1 s.2.2.2.1 s.2.2.2.2.1 s.2.2.2.2.2.1 (nums a) ((allowedB s).toNat : Int) 3 = some (nums a, ()) := fun m a => by rw [q_Shadow_needs_3]; rfl
  have b2 : ∀ (a : List B64), a.length ≤ 50 → l_Shadow_needs_1003 (n + 2) s.1 s.2.1 s.2.2.1 s.2.2.2.1 s.2.2.2.2.1 s.2.2.2.2.2.1 (nums a) ((allowedB s).toNat : Int) 2 = some (nums (a ++ needR s 2 (listD s 2) 0), ()) := fun a ha => by
    rw [l_need1003 s ho (d := 2) (by decide) (by decide) (n + 1) a ha]; exact fin1 _ _
  have c2 : ∀ (a : List B64), a.length ≤ 50 → l_Shadow_needs_3 (n + 2) s.1 s.2.1 s.2.2.1 s.2.2.2.1 s.2.2.2.2.1 s.2.2.2.2.2.1 (nums a) ((allowedB s).toNat : Int) 2 = some (nums (a ++ needR s 2 (listD s 2) 0), ()) := fun a ha => by
    obtain ⟨o, e, r⟩ := l_need3 s ho (d := 2) (by decide) (by decide) (n + 1) a ha
    rw [e]
    rcases r with rfl | rfl
    · exact fin1 _ _
    · exact fin0 _ _
  have b1 : ∀ (a : List B64), a.length ≤ 16 → l_Shadow_needs_1003 (n + 3) s.1 s.2.1 s.2.2.1 s.2.2.2.1 s.2.2.2.2.1 s.2.2.2.2.2.1 (nums a) ((allowedB s).toNat : Int) 1 = some (nums (a ++ needR s 1 (listD s 1) 0 ++ needR s 2 (listD s 2) 0), ()) := fun a ha => by
    rw [l_need1003 s ho (d := 1) (by decide) (by decide) (n + 2) a (by omega)]
    exact b2 _ (by rw [List.length_append]; omega)
  have c1 : ∀ (a : List B64), a.length ≤ 16 → l_Shadow_needs_3 (n + 3) s.1 s.2.1 s.2.2.1 s.2.2.2.1 s.2.2.2.2.1 s.2.2.2.2.2.1 (nums a) ((allowedB s).toNat : Int) 1 = some (nums (a ++ needR s 1 (listD s 1) 0 ++ needR s 2 (listD s 2) 0), ()) := fun a ha => by
    obtain ⟨o, e, r⟩ := l_need3 s ho (d := 1) (by decide) (by decide) (n + 2) a (by omega)
    rw [e]
    rcases r with rfl | rfl
    · exact b2 _ (by rw [List.length_append]; omega)
    · exact c2 _ (by rw [List.length_append]; omega)
  obtain ⟨o, e, r⟩ := l_need3 s ho (d := 0) (by decide) (by decide) (n + 3) [] (by simp)
  have e' : l_Shadow_needs_3 (n + 4) s.1 s.2.1 s.2.2.1 s.2.2.2.1 s.2.2.2.2.1 s.2.2.2.2.2.1 [] ((allowedB s).toNat : Int) 0 = o := e
  rw [e']
  unfold needsB
  rw [← List.append_assoc]
  rcases r with rfl | rfl
  · exact b1 _ (by simp; omega)
  · exact c1 _ (by simp; omega)

/-- Where a cube must be. -/
def mustR : List B64 → B64 → B64
  | [], a => a
  | v :: r, a => mustR r (if popB v.toNat = 1 then a ||| v else a)
def mustB (s : D_Shadow) : B64 := mustR (needsB s) 0

theorem mustR_bit (i : Nat) : ∀ (l : List B64) (a : B64), (mustR l a).getLsbD i = true ↔ a.getLsbD i = true ∨ ∃ v ∈ l, popB v.toNat = 1 ∧ v.getLsbD i = true
  | [], a => by simp [mustR]
  | v :: r, a => by
    rw [mustR, mustR_bit i r]
    by_cases h : popB v.toNat = 1
    · rw [if_pos h, BitVec.getLsbD_or, Bool.or_eq_true]
      simp only [List.mem_cons]
      constructor
      · rintro ((h1 | h1) | ⟨w, hw, h1⟩)
        · exact .inl h1
        · exact .inr ⟨v, .inl rfl, h, h1⟩
        · exact .inr ⟨w, .inr hw, h1⟩
      · rintro (h1 | ⟨w, rfl | hw, h1⟩)
        · exact .inl (.inl h1)
        · exact .inl (.inr h1.2)
        · exact .inr ⟨w, hw, h1⟩
    · rw [if_neg h]
      simp only [List.mem_cons]
      constructor
      · rintro (h1 | ⟨w, hw, h1⟩)
        · exact .inl h1
        · exact .inr ⟨w, .inr hw, h1⟩
      · rintro (h1 | ⟨w, rfl | hw, h1⟩)
        · exact .inl h1
        · exact absurd h1.1 h
        · exact .inr ⟨w, hw, h1⟩

theorem l_must {l : List B64} (hl : l.length ≤ 1000) : ∀ (d i m : Nat) (a : B64), l.length = i + d → d < m → l_Shadow_must_3 m (a.toNat : Int) (nums l) ((nums l).length : Int) (i : Int) = some (((mustR (l.drop i) a).toNat : Int), ())
  | d, i, 0, a, _, h => by omega
  | d, i, m + 1, a, hk, hm => by
    rw [q_Shadow_must_3]
    by_cases hlt : i < l.length
    · have hlt' : i < (nums l).length := by rw [nums_len]; exact hlt
      rw [ltT hlt', inB_at hlt', nums_at hlt, f_count, drop_at l i hlt, succI i (by omega), or64]
      simp only [cond_true, Option.bind_some, mustR]
      by_cases h : popB l[i].toNat = 1
      · rw [decide_eq_true (by omega), if_pos h]
        exact l_must hl (d - 1) (i + 1) m _ (by omega) (by omega)
      · rw [decide_eq_false (by omega), if_neg h]
        exact l_must hl (d - 1) (i + 1) m _ (by omega) (by omega)
    · rw [ltF (by rw [nums_len]; exact hlt), List.drop_eq_nil_of_le (by omega)]
      rfl

theorem f_must (s : D_Shadow) (ho : okSh s = true) : P_Shadow_must (s, ()) = some (((mustB s).toNat : Int), ()) := by
  have h := needsB_len ho
  rw [p_Shadow_must, f_needs s ho]
  exact l_must (l := needsB s) (by omega) (needsB s).length 0 N 0 (by simp) (by have := N_ge; omega)

/-! ### Lists that are the same -/
theorem l_slEq {a b : List Int} (ha : a.length ≤ 1048576) (hab : a.length = b.length) : ∀ (d i m : Nat), a.length = i + d → d < m → l_slices_Equal_int_int_4 m a b (a.length : Int) (i : Int) = some (decide (a.drop i = b.drop i), ())
  | d, i, 0, _, h => by omega
  | d, i, m + 1, hk, hm => by
    rw [q_slices_Equal_int_int_4]
    by_cases hlt : i < a.length
    · have hlt' : i < b.length := by omega
      rw [ltT hlt, inB_at hlt, inB_at hlt', nthA (t := .int .i64) hlt, nthA (t := .int .i64) hlt', drop_at a i hlt, drop_at b i hlt', succI i (by omega), l_slEq ha hab (d - 1) (i + 1) m (by omega) (by omega)]
      simp only [cond_true]
      by_cases h : a[i] = b[i]
      · rw [decide_eq_true h]
        simp only [Bool.not_true, cond_false, h, List.cons.injEq, true_and]
      · rw [decide_eq_false h, decide_eq_false (p := a[i] :: _ = b[i] :: _) (fun hh => h (List.cons.inj hh).1)]
        rfl
    · rw [ltF hlt, List.drop_eq_nil_of_le (by omega), List.drop_eq_nil_of_le (by omega)]
      rfl

theorem f_slEq {a b : List Int} (ha : a.length ≤ 1048576) : P_slices_Equal_int_int (a, b, ()) = some (decide (a = b), ()) := by
  rw [p_slices_Equal_int_int]
  by_cases h : a.length = b.length
  · rw [decide_eq_true (by omega)]
    exact l_slEq ha h a.length 0 N (by simp) (by have := N_ge; omega)
  · rw [decide_eq_false (p := ((a.length : Nat) : Int) = (b.length : Int)) (by omega), decide_eq_false (p := a = b) (fun e => h (by rw [e]))]
    rfl

/-- Do two shadows of one box have the same lists? -/
def sameL (s t : D_Shadow) : Bool := decide (listD s 2 = listD t 2) && (decide (listD s 1 = listD t 1) && decide (listD s 0 = listD t 0))

theorem f_isOf (s : D_Shadow) (ho : okSh s = true) (v : B64) : P_Shadow_isOf (s, (v.toNat : Int), ()) = some (sameL s (shadowOf s.1 s.2.1 s.2.2.1 (bitCells s.1 s.2.1 s.2.2.1 v)), ()) := by
  obtain ⟨hs, _⟩ := okSh_iff.1 ho
  have k0 := (list_len ho (d := 0) (by decide) (by decide)).2.1
  have k1 := (list_len ho (d := 1) (by decide) (by decide)).2.1
  have k2 := (list_len ho (d := 2) (by decide) (by decide)).2.1
  rw [p_Shadow_isOf, p_Shadow_box]
  simp only [Option.bind_some]
  rw [f_shadowB hs]
  simp only [Option.bind_some]
  rw [p_Shadow_same, p_Shadow_box, p_Shadow_box]
  simp only [Option.bind_some]
  have e : (decide (s.1 = (shadowOf s.1 s.2.1 s.2.2.1 (bitCells s.1 s.2.1 s.2.2.1 v)).1) && (decide (s.2.1 = (shadowOf s.1 s.2.1 s.2.2.1 (bitCells s.1 s.2.1 s.2.2.1 v)).2.1) && (decide (s.2.2.1 = (shadowOf s.1 s.2.1 s.2.2.1 (bitCells s.1 s.2.1 s.2.2.1 v)).2.2.1) && true))) = true := by
    unfold shadowOf
    simp
  have e2 : P_slices_Equal_int_int (s.2.2.2.1, (shadowOf s.1 s.2.1 s.2.2.1 (bitCells s.1 s.2.1 s.2.2.1 v)).2.2.2.1, ()) = _ := f_slEq (a := listD s 2) (b := listD (shadowOf s.1 s.2.1 s.2.2.1 (bitCells s.1 s.2.1 s.2.2.1 v)) 2) (by omega)
  have e1 : P_slices_Equal_int_int (s.2.2.2.2.1, (shadowOf s.1 s.2.1 s.2.2.1 (bitCells s.1 s.2.1 s.2.2.1 v)).2.2.2.2.1, ()) = _ := f_slEq (a := listD s 1) (b := listD (shadowOf s.1 s.2.1 s.2.2.1 (bitCells s.1 s.2.1 s.2.2.1 v)) 1) (by omega)
  have e0 : P_slices_Equal_int_int (s.2.2.2.2.2.1, (shadowOf s.1 s.2.1 s.2.2.1 (bitCells s.1 s.2.1 s.2.2.1 v)).2.2.2.2.2.1, ()) = _ := f_slEq (a := listD s 0) (b := listD (shadowOf s.1 s.2.1 s.2.2.1 (bitCells s.1 s.2.1 s.2.2.1 v)) 0) (by omega)
  rw [e, e2, e1, e0]
  unfold sameL
  simp only [cond_true, Option.bind_some]
  cases decide (listD s 2 = listD (shadowOf s.1 s.2.1 s.2.2.1 (bitCells s.1 s.2.1 s.2.2.1 v)) 2) with
  | false => rfl
  | true =>
    cases decide (listD s 1 = listD (shadowOf s.1 s.2.1 s.2.2.1 (bitCells s.1 s.2.1 s.2.2.1 v)) 1) <;> rfl

def fitsB (s : D_Shadow) : Bool := sameL s (shadowOf s.1 s.2.1 s.2.2.1 (bitCells s.1 s.2.1 s.2.2.1 (allowedB s)))

theorem f_fits (s : D_Shadow) (ho : okSh s = true) : P_Shadow_fits (s, ()) = some (fitsB s, ()) := by
  rw [p_Shadow_fits, f_allowed s ho]
  simp only [Option.bind_some]
  rw [f_isOf s ho]
  rfl

theorem f_isFitting (s : D_Shadow) (hm : SmallS s) : P_impl_isFitting (s, ()) = some (okSh s && fitsB s, ()) := by
  rw [p_impl_isFitting, f_isShadow s hm]
  simp only [Option.bind_some]
  cases ho : okSh s with
  | false => rfl
  | true =>
    simp only [cond_true]
    rw [f_fits s ho]
    rfl
end Go.VI
/- Plain: parts of heaps, and what stands. -/
namespace Go.VI
open Go.Proofs

/-! ### Near cubes -/
def ab (x y : Int) : Int := if x - y > y - x then x - y else y - x

theorem most_ab (x y : Int) : P_spec_l1Most (x - y, y - x, ()) = some (ab x y, ()) := by
  rw [p_spec_l1Most]
  unfold ab
  by_cases h : x - y > y - x <;> simp [h]

theorem f_apart (a b : D_A3) (ha : Near a) (hb : Near b) : P_spec_l2Apart (a, b, ()) = some (ab a.1 b.1 + ab a.2.1 b.2.1 + ab a.2.2.1 b.2.2.1, ()) := by
  obtain ⟨n, hn⟩ : ∃ n, N = n + 4 := ⟨N - 4, by have := N_ge; omega⟩
  unfold Near at ha hb
  have bd : ∀ x y : Int, -1000 ≤ x → x ≤ 1000 → -1000 ≤ y → y ≤ 1000 → 0 ≤ ab x y ∧ ab x y ≤ 2000 := fun x y h1 h2 h3 h4 => by unfold ab; split <;> omega
  obtain ⟨x0, x1⟩ := bd a.1 b.1 (by omega) (by omega) (by omega) (by omega)
  obtain ⟨y0, y1⟩ := bd a.2.1 b.2.1 (by omega) (by omega) (by omega) (by omega)
  obtain ⟨z0, z1⟩ := bd a.2.2.1 b.2.2.1 (by omega) (by omega) (by omega) (by omega)
  have wr : ∀ x y : Int, -1000 ≤ x → x ≤ 1000 → -1000 ≤ y → y ≤ 1000 → IntKind.wrap .i64 (x - y) = x - y := fun x y h1 h2 h3 h4 => w64 (by omega) (by omega)
  have s : ∀ (m : Nat) (v x y : Int) (k : Nat), k < 3 → (bif decide ((k : Int) = (0 : Int)) then a.1 else (bif decide ((k : Int) = (1 : Int)) then a.2.1 else a.2.2.1)) = x → (bif decide ((k : Int) = (0 : Int)) then b.1 else (bif decide ((k : Int) = (1 : Int)) then b.2.1 else b.2.2.1)) = y → -1000 ≤ x → x ≤ 1000 → -1000 ≤ y → y ≤ 1000 → 0 ≤ v → v ≤ 100000 →
      l_spec_l2Apart_3 (m + 1) a.1 a.2.1 a.2.2.1 b.1 b.2.1 b.2.2.1 v (k : Int) = l_spec_l2Apart_3 m a.1 a.2.1 a.2.2.1 b.1 b.2.1 b.2.2.1 (v + ab x y) ((k + 1 : Nat) : Int) := by
    intro m v x y k hk hx hy h1 h2 h3 h4 h5 h6
    obtain ⟨b0, b1⟩ := bd x y h1 h2 h3 h4
    rw [q_spec_l2Apart_3, decide_eq_true (p := (k : Int) < 3) (by omega), inB_at (k := k) (n := 3) hk, hx, hy, wr x y h1 h2 h3 h4, wr y x h3 h4 h1 h2, most_ab, succI k (by omega)]
    simp only [cond_true, Option.bind_some]
    rw [w64 (by omega) (by omega)]
  have fin : ∀ (m : Nat) (v : Int), l_spec_l2Apart_3 (m + 1) a.1 a.2.1 a.2.2.1 b.1 b.2.1 b.2.2.1 v ((3 : Nat) : Int) = some (v, ()) := by
    intro m v; rw [q_spec_l2Apart_3]; rfl
  rw [p_spec_l2Apart]
  show l_spec_l2Apart_3 N a.1 a.2.1 a.2.2.1 b.1 b.2.1 b.2.2.1 0 ((0 : Nat) : Int) = _
  rw [hn, s (n + 3) 0 a.1 b.1 0 (by omega) rfl rfl (by omega) (by omega) (by omega) (by omega) (by omega) (by omega), s (n + 2) _ a.2.1 b.2.1 1 (by omega) rfl rfl (by omega) (by omega) (by omega) (by omega) (by omega) (by omega), s (n + 1) _ a.2.2.1 b.2.2.1 2 (by omega) rfl rfl (by omega) (by omega) (by omega) (by omega) (by omega) (by omega), fin]
  congr 2
  omega

theorem apart_nb (a c : D_A3) : ab a.1 c.1 + ab a.2.1 c.2.1 + ab a.2.2.1 c.2.2.1 = 1 ↔ nb c a := by
  rw [nb_iff]
  unfold ab
  constructor
  · intro h
    split at h <;> split at h <;> split at h <;> omega
  · intro h
    split <;> split <;> split <;> omega

theorem l_near {X Y Z : Int} {l : List D_A3} (hl : l.length ≤ 1000000) (hn : ∀ c ∈ l, Near c) {c : D_A3} (hc : Near c) (p : D_A3 → Bool) (hp : ∀ x, p x = true ↔ nb c x) : ∀ (d i m : Nat) (out : List D_A3), l.length = i + d → d < m → out.length ≤ i →
    l_spec_l2Near_3 m X Y Z l c.1 c.2.1 c.2.2.1 out (i : Int) = some (out ++ (l.drop i).filter p, ())
  | d, i, 0, out, _, h, _ => by omega
  | d, i, m + 1, out, hk, hm, ho => by
    rw [q_spec_l2Near_3]
    by_cases hlt : i < l.length
    · have e := f_apart l[i] c (hn _ (List.getElem_mem hlt)) hc
      have e' : P_spec_l2Apart (l[i], (c.1, (c.2.1, (c.2.2.1, ()))), ()) = _ := e
      rw [ltT hlt, inB_at hlt, nthA (t := T_A3) hlt, e', app_len' (by omega), drop_at l i hlt, succI i (by omega)]
      simp only [cond_true, Option.bind_some, List.filter_cons]
      by_cases h : nb c l[i]
      · rw [decide_eq_true ((apart_nb l[i] c).2 h), (hp _).2 h]
        simp only [cond_true, if_true]
        rw [l_near hl hn hc p hp (d - 1) (i + 1) m _ (by omega) (by omega) (by simp; omega)]
        simp
      · have hpf : p l[i] = false := by
          cases hb : p l[i] with
          | false => rfl
          | true => exact absurd ((hp _).1 hb) h
        rw [decide_eq_false (fun hh => h ((apart_nb l[i] c).1 hh)), hpf]
        simp only [cond_false, Bool.false_eq_true, if_false]
        exact l_near hl hn hc p hp (d - 1) (i + 1) m out (by omega) (by omega) (by omega)
    · rw [ltF hlt, List.drop_eq_nil_of_le (by omega)]
      simp

open Classical in
/-- Is a cell a neighbor? -/
noncomputable def nbB (c x : D_A3) : Bool := decide (nb c x)
open Classical in
theorem nbB_iff (c x : D_A3) : nbB c x = true ↔ nb c x := by simp [nbB]

theorem f_nearL {X Y Z : Int} {l : List D_A3} (hl : l.length ≤ 1000000) (hn : ∀ c ∈ l, Near c) {c : D_A3} (hc : Near c) : P_spec_l2Near ((X, Y, Z, l, ()), c, ()) = some (l.filter (nbB c), ()) := by
  have := l_near (X := X) (Y := Y) (Z := Z) hl hn hc (nbB c) (nbB_iff c) l.length 0 N [] (by simp) (by have := N_ge; omega) (by simp)
  rw [p_spec_l2Near]
  exact this

/-! ### One part -/
def Conn (l : List D_A3) (c0 : D_A3) : D_A3 → Prop := Rch (fun c => c = c0) (fun c => c ∈ l)

theorem Conn.mem {l : List D_A3} {c0 c : D_A3} (h0 : c0 ∈ l) (h : Conn l c0 c) : c ∈ l := by
  cases h with
  | base h => rw [h]; exact h0
  | step _ _ h => exact h

theorem Conn.trans {l : List D_A3} {a b c : D_A3} (h : Conn l a b) (k : Conn l b c) : Conn l a c :=
  Rch.mono (p := fun x => x = b) (fun x hx => by rw [hx]; exact h) (fun _ h => h) k

theorem Conn.symm {l : List D_A3} {a b : D_A3} (ha : a ∈ l) (h : Conn l a b) : Conn l b a := by
  induction h with
  | base h => exact .base h.symm
  | step hr hn hd ih =>
    rename_i c d
    have hc : c ∈ l := Conn.mem ha hr
    exact Conn.trans (.step (.base rfl) (nb_symm hn) hc) ih

/-- A part is being gathered: what is left, the list, what is put together; n cells are done. -/
structure Part (l L0 : List D_A3) (c0 : D_A3) (n np : Nat) (ls lf pt : List D_A3) : Prop where
  srt : Srt lf
  sub : ∀ c ∈ lf, c ∈ L0
  lsub : ∀ c ∈ ls, c ∈ L0
  all : ∀ c ∈ L0, c ∈ ls ∨ c ∈ lf
  apart : ∀ c ∈ ls, c ∉ lf
  conn : ∀ c ∈ ls, Conn l c0 c
  done : ∀ i, i < n → ∀ c, ls[i]? = some c → ∀ d, nb c d → d ∉ lf
  psrt : Srt pt
  pmem : ∀ c, c ∈ pt ↔ c ∈ ls.take np
  nodup : ls.Nodup
  start : c0 ∈ ls

theorem Part.len {l L0 : List D_A3} {c0 : D_A3} {n np : Nat} {ls lf pt : List D_A3} (h : Part l L0 c0 n np ls lf pt) (hr : Srt L0) : ls.length + lf.length = L0.length := by
  have hp : L0.Perm (ls ++ lf) := by
    refine (List.perm_ext_iff_of_nodup hr.nodup ?_).2 fun c => ?_
    · rw [List.nodup_append]
      exact ⟨h.nodup, h.srt.nodup, fun a ha b hb e => h.apart a ha (e ▸ hb)⟩
    · rw [List.mem_append]
      exact ⟨h.all c, fun hc => hc.elim (h.lsub c) (h.sub c)⟩
  rw [hp.length_eq, List.length_append]

/-- One near cell is taken over. -/
theorem Part.take {l L0 : List D_A3} {c0 : D_A3} {n np : Nat} {ls lf pt : List D_A3} (hl : ∀ c ∈ L0, c ∈ l) (h : Part l L0 c0 n np ls lf pt) {c x : D_A3} (hcl : c ∈ ls) (hx : x ∈ lf) (hn : nb c x) (hnp : np ≤ ls.length) (hpt : n ≤ ls.length) :
    Part l L0 c0 n np (ls ++ [x]) (lf.filter fun y => !decide (y = x)) pt := by
  have hxl : x ∉ ls := fun hh => h.apart x hh hx
  refine ⟨h.srt.filter _, fun y hy => h.sub y (List.mem_filter.1 hy).1, fun y hy => ?_, fun y hy => ?_, fun y hy => ?_, fun y hy => ?_, fun i hi y hy d hd => ?_, h.psrt, fun y => ?_, ?_, List.mem_append_left _ h.start⟩
  · rcases List.mem_append.1 hy with hy | hy
    · exact h.lsub y hy
    · rw [List.mem_singleton.1 hy]; exact h.sub x hx
  · rcases h.all y hy with hy | hy
    · exact .inl (List.mem_append_left _ hy)
    · by_cases e : y = x
      · exact .inl (by rw [e]; simp)
      · exact .inr (List.mem_filter.2 ⟨hy, by simp [e]⟩)
  · intro hh
    have hh' := List.mem_filter.1 hh
    rcases List.mem_append.1 hy with hy | hy
    · exact h.apart y hy hh'.1
    · rw [List.mem_singleton.1 hy] at hh'
      simp at hh'
  · rcases List.mem_append.1 hy with hy | hy
    · exact h.conn y hy
    · rw [List.mem_singleton.1 hy]
      exact .step (h.conn c hcl) hn (hl x (h.sub x hx))
  · rw [List.getElem?_append_left (by omega)] at hy
    exact fun hh => h.done i hi y hy d hd (List.mem_filter.1 hh).1
  · rw [h.pmem, List.take_append_of_le_length (by omega)]
  · rw [List.nodup_append]
    exact ⟨h.nodup, (by simp), fun a ha b hb e => hxl (by rw [← List.mem_singleton.1 hb, ← e]; exact ha)⟩
end Go.VI
