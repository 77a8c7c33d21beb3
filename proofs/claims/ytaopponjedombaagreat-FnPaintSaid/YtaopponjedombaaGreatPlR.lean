/- Plain: the laws of painted faces. -/
import Derived.Test.YtaopponjedombaaGreatPlQ
import Derived.Test.YtaopponjedombaaGreatPlK
namespace Go.VI
open Go.Proofs

/-- The cells that paint does not reach. -/
noncomputable def hidden (X Y Z : Int) (l : List D_A3) (wet : Bool) : List D_A3 := bif wet then encl X Y Z l else []

theorem hidden_small {X Y Z : Int} (hs : sides X Y Z = true) (l : List D_A3) (wet : Bool) : Small (hidden X Y Z l wet) := by
  cases wet with
  | false => unfold Small; simp [hidden]
  | true => exact (encl_ok hs l).1

theorem f_paintedW {X Y Z : Int} {l : List D_A3} (hs : sides X Y Z = true) (hl : Small l) (hi : Ins X Y Z l) (wet : Bool) : P_Heap_painted ((X, Y, Z, l, ()), wet, ()) = some (l.map fun c => (painted l (hidden X Y Z l wet) c : Int), ()) := by
  cases wet with
  | false => exact f_painted hs hl hi
  | true =>
    obtain ⟨w, h1, h2⟩ := f_enclosed hs hl hi
    have := l_painted5 hs hl hi h2 l.length 0 N [] (by simp) (by unfold Small at hl; have := N_ge; omega) rfl
    rw [p_Heap_painted, h1]
    exact this

theorem f_hidden {X Y Z : Int} {l : List D_A3} (hs : sides X Y Z = true) (hl : Small l) (wet : Bool) : P_spec_l11Hidden ((X, Y, Z, l, ()), wet, ()) = some ((X, Y, Z, hidden X Y Z l wet, ()), ()) := by
  rw [p_spec_l11Hidden, f_l6Enclosed hs hl, p_spec_l2Empty]
  cases wet with
  | false => rfl
  | true =>
    simp only [cond_true, Option.bind_some]
    rw [p_spec_l2Made]
    rfl

theorem f_countsW {X Y Z : Int} {l : List D_A3} (hs : sides X Y Z = true) (hl : Small l) (hi : Ins X Y Z l) (wet : Bool) : P_spec_l11Counts ((X, Y, Z, l, ()), wet, ()) = some (counts l (hidden X Y Z l wet), ()) := by
  have := l_counts (X' := X) (Y' := Y) (Z' := Z) hs hl hi (hidden_small hs l wet) l.length 0 N (0, 0, 0, 0, 0, 0, 0, ()) (by simp) (by unfold Small at hl; have := N_ge; omega)
  rw [p_spec_l11Counts, f_hidden hs hl wet]
  exact this

/-! ### The law of one cube -/
theorem l_index3 (c : D_A3) (l : List D_A3) (hl : Small l) : ∀ (d i m : Nat), l.length = i + d → d < m → c ∈ l.drop i → ∃ j : Nat, l_slices_Index_3_int_3_int_2 m c.1 c.2.1 c.2.2.1 l (l.length : Int) (i : Int) = some ((j : Int), ()) ∧ l[j]? = some c
  | d, i, 0, hk, hm, _ => by omega
  | d, i, m + 1, hk, hm, hc => by
    have hl' := hl
    unfold Small at hl'
    have hlt : i < l.length := by
      apply Classical.byContradiction
      intro h
      rw [List.drop_eq_nil_of_le (by omega)] at hc
      cases hc
    rw [q_slices_Index_3_int_3_int_2, ltT hlt, inB_at hlt, nthA (t := T_A3) hlt, succI i (by omega)]
    simp only [cond_true, Bool.and_true]
    have e : (decide (c.1 = l[i].1) && (decide (c.2.1 = l[i].2.1) && decide (c.2.2.1 = l[i].2.2.1))) = decide (c = l[i]) := by
      rw [Bool.eq_iff_iff, Bool.and_eq_true, Bool.and_eq_true, decide_eq_true_eq, decide_eq_true_eq, decide_eq_true_eq, decide_eq_true_eq]
      constructor
      · rintro ⟨h1, h2, h3⟩; exact cell_ext h1 h2 h3
      · intro h; rw [← h]; exact ⟨rfl, rfl, rfl⟩
    rw [e]
    by_cases h : c = l[i]
    · rw [decide_eq_true h]
      exact ⟨i, rfl, by rw [List.getElem?_eq_getElem hlt, h]⟩
    · rw [decide_eq_false h]
      simp only [cond_false]
      rw [drop_at l i hlt] at hc
      exact l_index3 c l hl (d - 1) (i + 1) m (by omega) (by omega) ((List.mem_cons.1 hc).resolve_left h)

theorem faces_eqV (h : D_Heap) (c : D_A3) (wet : Bool) (hl : Small h.2.2.2.1) : ∃ r, P_spec_PaintedFaces (h, c, wet, ()) = some r ∧ P_impl_PaintedFaces (h, c, wet, ()) = some r := by
  rw [p_spec_PaintedFaces, p_impl_PaintedFaces, p_spec_l2Cell, p_impl_isCell, f_spec_l2Heap _ hl, f_impl_IsHeap _ hl]
  cases ho : okHeap h with
  | false => exact ⟨_, rfl, rfl⟩
  | true =>
    obtain ⟨hs, hi, hr⟩ := okHeap_iff.1 ho
    simp only [Option.bind_some, cond_true]
    rw [f_spec_l2In _ _ hs, f_Heap_box]
    simp only [Option.bind_some]
    rw [f_box_has _ _ hs]
    simp only [Option.bind_some]
    cases hw : within3 h.1 h.2.1 h.2.2.1 c with
    | false => exact ⟨_, rfl, rfl⟩
    | true =>
      have f1 : P_spec_l2Has (h, c, ()) = some (decide (c ∈ h.2.2.2.1), ()) := f_l2Has _ _ _ _ _ hl
      have f2 : P_Heap_hasCube (h, c, ()) = some (decide (c ∈ h.2.2.2.1), ()) := f_hasCube hs hl hi hw
      rw [f1, f2]
      simp only [Bool.not_true, cond_false, Option.bind_some]
      by_cases hm : c ∈ h.2.2.2.1
      · rw [decide_eq_true hm]
        simp only [Bool.not_true, cond_false]
        have f3 : P_spec_l11Hidden (h, wet, ()) = some ((h.1, h.2.1, h.2.2.1, hidden h.1 h.2.1 h.2.2.1 h.2.2.2.1 wet, ()), ()) := f_hidden hs hl wet
        have f4 : P_Heap_painted (h, wet, ()) = _ := f_paintedW hs hl hi wet
        rw [f3, f4]
        simp only [Option.bind_some]
        have f5 : P_spec_l11Painted (h, (h.1, h.2.1, h.2.2.1, hidden h.1 h.2.1 h.2.2.1 h.2.2.2.1 wet, ()), c, ()) = _ := f_specPainted (X := h.1) (Y := h.2.1) (Z := h.2.2.1) (X' := h.1) (Y' := h.2.1) (Z' := h.2.2.1) hl (hidden_small hs h.2.2.2.1 wet) c (near_of hs hw)
        rw [f5]
        obtain ⟨j, g1, g2⟩ := l_index3 c h.2.2.2.1 hl h.2.2.2.1.length 0 N (by simp) (by unfold Small at hl; have := N_ge; omega) (by simpa using hm)
        have f6 : P_slices_Index_3_int_3_int (h.2.2.2.1, c, ()) = some ((j : Int), ()) := by rw [p_slices_Index_3_int_3_int]; exact g1
        rw [f6]
        simp only [Option.bind_some]
        have hj : j < h.2.2.2.1.length := (List.getElem?_eq_some_iff.1 g2).1
        have hj' : j < (h.2.2.2.1.map fun c => (painted h.2.2.2.1 (hidden h.1 h.2.1 h.2.2.1 h.2.2.2.1 wet) c : Int)).length := by simpa using hj
        rw [inB_at hj', nthA (t := .int .i64) hj']
        refine ⟨_, rfl, ?_⟩
        have e : h.2.2.2.1[j] = c := by rw [List.getElem?_eq_getElem hj] at g2; exact Option.some.inj g2
        simp [e]
      · rw [decide_eq_false hm]
        exact ⟨_, rfl, rfl⟩

/-! ### Counts -/
theorem f_PaintCountsW {X Y Z : Int} {l : List D_A3} (hs : sides X Y Z = true) (hl : Small l) (hi : Ins X Y Z l) (hr : Srt l) (wet : Bool) : P_impl_PaintCounts ((X, Y, Z, l, ()), wet, ()) = some (counts l (hidden X Y Z l wet), true, ()) := by
  have hok : okHeap ((X, Y, Z, l, ()) : D_Heap) = true := okHeap_iff.2 ⟨hs, hi, hr⟩
  rw [p_impl_PaintCounts, f_impl_IsHeap _ hl, hok, f_paintedW hs hl hi wet]
  simp only [Option.bind_some, Bool.not_true, cond_false]
  have := l_paintCounts (l.map fun c => (painted l (hidden X Y Z l wet) c : Int)) (by
    intro n hn
    obtain ⟨c, _, rfl⟩ := List.mem_map.1 hn
    have := painted_le l (hidden X Y Z l wet) c
    omega) (by unfold Small at *; simpa using hl) l.length 0 N (0, 0, 0, 0, 0, 0, 0, ()) (by simp) (by unfold Small at hl; have := N_ge; omega)
  rw [show counts l (hidden X Y Z l wet) = (l.map fun c => (painted l (hidden X Y Z l wet) c : Int)).foldl (fun a n => bump n a) (0, 0, 0, 0, 0, 0, 0, ()) by rw [List.foldl_map]; rfl]
  exact this

/-! ### Faces that are not painted -/
def tot7 (a : D_A7) : Int := a.1 + a.2.1 + a.2.2.1 + a.2.2.2.1 + a.2.2.2.2.1 + a.2.2.2.2.2.1 + a.2.2.2.2.2.2.1
def wgt7 (a : D_A7) : Int := 6 * a.1 + 5 * a.2.1 + 4 * a.2.2.1 + 3 * a.2.2.2.1 + 2 * a.2.2.2.2.1 + a.2.2.2.2.2.1
def Pos7 (a : D_A7) : Prop := 0 ≤ a.1 ∧ 0 ≤ a.2.1 ∧ 0 ≤ a.2.2.1 ∧ 0 ≤ a.2.2.2.1 ∧ 0 ≤ a.2.2.2.2.1 ∧ 0 ≤ a.2.2.2.2.2.1 ∧ 0 ≤ a.2.2.2.2.2.2.1

theorem bump_at (n : Nat) (hn : n ≤ 6) (a : D_A7) (hp : Pos7 a) (ht : tot7 a ≤ 10000000) : Pos7 (bump (n : Int) a) ∧ tot7 (bump (n : Int) a) = tot7 a + 1 ∧ wgt7 (bump (n : Int) a) = wgt7 a + (6 - n) := by
  obtain ⟨a0, a1, a2, a3, a4, a5, a6, ⟨⟩⟩ := a
  simp only [Pos7, tot7, wgt7] at *
  have e : n = 0 ∨ n = 1 ∨ n = 2 ∨ n = 3 ∨ n = 4 ∨ n = 5 ∨ n = 6 := by omega
  rcases e with rfl | rfl | rfl | rfl | rfl | rfl | rfl <;> simp [bump, sel7] <;> (rw [w64 (by omega) (by omega)]; omega)

def sumP (l q : List D_A3) : List D_A3 → Int
  | [] => 0
  | c :: r => (painted l q c : Int) + sumP l q r

theorem counts_wgt (l q : List D_A3) : ∀ (r : List D_A3) (a : D_A7), Pos7 a → tot7 a + r.length ≤ 10000000 → Pos7 (r.foldl (fun a c => bump (painted l q c : Int) a) a) ∧ tot7 (r.foldl (fun a c => bump (painted l q c : Int) a) a) = tot7 a + r.length ∧ wgt7 (r.foldl (fun a c => bump (painted l q c : Int) a) a) = wgt7 a + 6 * r.length - sumP l q r
  | [], a, hp, ht => by simp [sumP]; exact hp
  | c :: r, a, hp, ht => by
    have hle := painted_le l q c
    simp only [List.length_cons] at ht
    obtain ⟨h1, h2, h3⟩ := bump_at (painted l q c) hle a hp (by omega)
    obtain ⟨k1, k2, k3⟩ := counts_wgt l q r (bump (painted l q c : Int) a) h1 (by omega)
    simp only [List.foldl_cons, List.length_cons, sumP]
    refine ⟨k1, by omega, by omega⟩

theorem pos_le (a : D_A7) (hp : Pos7 a) (n : Int) (ht : tot7 a ≤ n) : a.1 ≤ n ∧ a.2.1 ≤ n ∧ a.2.2.1 ≤ n ∧ a.2.2.2.1 ≤ n ∧ a.2.2.2.2.1 ≤ n ∧ a.2.2.2.2.2.1 ≤ n ∧ a.2.2.2.2.2.2.1 ≤ n := by
  unfold Pos7 tot7 at *
  omega

theorem l_unSpec (a : D_A7) (hp : Pos7 a) (ht : tot7 a ≤ 10000000) : l_spec_UnpaintedFaces_5 N a.1 a.2.1 a.2.2.1 a.2.2.2.1 a.2.2.2.2.1 a.2.2.2.2.2.1 a.2.2.2.2.2.2.1 0 0 = some (wgt7 a, true, ()) := by
  obtain ⟨n, hn⟩ : ∃ n, N = n + 8 := ⟨N - 8, by have := N_ge; omega⟩
  obtain ⟨a0, a1, a2, a3, a4, a5, a6, ⟨⟩⟩ := a
  obtain ⟨b0, b1, b2, b3, b4, b5, b6⟩ := pos_le _ hp _ ht
  unfold Pos7 at hp
  simp only at *
  have s : ∀ (m : Nat) (v : Int) (k : Nat), k < 7 → l_spec_UnpaintedFaces_5 (m + 1) a0 a1 a2 a3 a4 a5 a6 v (k : Int) = l_spec_UnpaintedFaces_5 m a0 a1 a2 a3 a4 a5 a6 (IntKind.wrap .i64 (v + (IntKind.wrap .i64 ((IntKind.wrap .i64 (6 - (k : Int))) * (bif decide ((k : Int) = (0 : Int)) then a0 else (bif decide ((k : Int) = (1 : Int)) then a1 else (bif decide ((k : Int) = (2 : Int)) then a2 else (bif decide ((k : Int) = (3 : Int)) then a3 else (bif decide ((k : Int) = (4 : Int)) then a4 else (bif decide ((k : Int) = (5 : Int)) then a5 else a6)))))))))) ((k + 1 : Nat) : Int) := by
    intro m v k hk
    rw [q_spec_UnpaintedFaces_5, decide_eq_true (p := (k : Int) < 7) (by omega), inB_at (k := k) (n := 7) hk, succI k (by omega)]
    rfl
  have fin : ∀ (m : Nat) (v : Int), l_spec_UnpaintedFaces_5 (m + 1) a0 a1 a2 a3 a4 a5 a6 v ((7 : Nat) : Int) = some (v, true, ()) := by
    intro m v; rw [q_spec_UnpaintedFaces_5]; rfl
  show l_spec_UnpaintedFaces_5 N a0 a1 a2 a3 a4 a5 a6 0 ((0 : Nat) : Int) = _
  have six0 : IntKind.wrap .i64 (6 - ((0 : Nat) : Int)) = 6 := by rw [w64 (by omega) (by omega)]; rfl
  have six1 : IntKind.wrap .i64 (6 - ((1 : Nat) : Int)) = 5 := by rw [w64 (by omega) (by omega)]; rfl
  have six2 : IntKind.wrap .i64 (6 - ((2 : Nat) : Int)) = 4 := by rw [w64 (by omega) (by omega)]; rfl
  have six3 : IntKind.wrap .i64 (6 - ((3 : Nat) : Int)) = 3 := by rw [w64 (by omega) (by omega)]; rfl
  have six4 : IntKind.wrap .i64 (6 - ((4 : Nat) : Int)) = 2 := by rw [w64 (by omega) (by omega)]; rfl
  have six5 : IntKind.wrap .i64 (6 - ((5 : Nat) : Int)) = 1 := by rw [w64 (by omega) (by omega)]; rfl
  have six6 : IntKind.wrap .i64 (6 - ((6 : Nat) : Int)) = 0 := by rw [w64 (by omega) (by omega)]; rfl
  have t0 : IntKind.wrap .i64 (0 + IntKind.wrap .i64 (6 * a0)) = 6 * a0 := by rw [w64 (x := 6 * a0) (by omega) (by omega), w64 (by omega) (by omega)]; omega
  have t1 : IntKind.wrap .i64 (6 * a0 + IntKind.wrap .i64 (5 * a1)) = 6 * a0 + 5 * a1 := by rw [w64 (x := 5 * a1) (by omega) (by omega), w64 (by omega) (by omega)]
  have t2 : IntKind.wrap .i64 (6 * a0 + 5 * a1 + IntKind.wrap .i64 (4 * a2)) = 6 * a0 + 5 * a1 + 4 * a2 := by rw [w64 (x := 4 * a2) (by omega) (by omega), w64 (by omega) (by omega)]
  have t3 : IntKind.wrap .i64 (6 * a0 + 5 * a1 + 4 * a2 + IntKind.wrap .i64 (3 * a3)) = 6 * a0 + 5 * a1 + 4 * a2 + 3 * a3 := by rw [w64 (x := 3 * a3) (by omega) (by omega), w64 (by omega) (by omega)]
  have t4 : IntKind.wrap .i64 (6 * a0 + 5 * a1 + 4 * a2 + 3 * a3 + IntKind.wrap .i64 (2 * a4)) = 6 * a0 + 5 * a1 + 4 * a2 + 3 * a3 + 2 * a4 := by rw [w64 (x := 2 * a4) (by omega) (by omega), w64 (by omega) (by omega)]
  have t5 : IntKind.wrap .i64 (6 * a0 + 5 * a1 + 4 * a2 + 3 * a3 + 2 * a4 + IntKind.wrap .i64 (1 * a5)) = 6 * a0 + 5 * a1 + 4 * a2 + 3 * a3 + 2 * a4 + a5 := by rw [w64 (x := 1 * a5) (by omega) (by omega), w64 (by omega) (by omega)]; omega
  have t6 : IntKind.wrap .i64 (6 * a0 + 5 * a1 + 4 * a2 + 3 * a3 + 2 * a4 + a5 + IntKind.wrap .i64 (0 * a6)) = 6 * a0 + 5 * a1 + 4 * a2 + 3 * a3 + 2 * a4 + a5 := by rw [w64 (x := 0 * a6) (by omega) (by omega), w64 (by omega) (by omega)]; omega
  rw [hn, s (n + 7) _ 0 (by omega), six0]
  simp only [show (decide (((0 : Nat) : Int) = (0 : Int))) = true from rfl, cond_true]
  rw [t0, s (n + 6) _ 1 (by omega), six1]
  simp only [show (decide (((1 : Nat) : Int) = (0 : Int))) = false from rfl, show (decide (((1 : Nat) : Int) = (1 : Int))) = true from rfl, cond_true, cond_false]
  rw [t1, s (n + 5) _ 2 (by omega), six2]
  simp only [show (decide (((2 : Nat) : Int) = (0 : Int))) = false from rfl, show (decide (((2 : Nat) : Int) = (1 : Int))) = false from rfl, show (decide (((2 : Nat) : Int) = (2 : Int))) = true from rfl, cond_true, cond_false]
  rw [t2, s (n + 4) _ 3 (by omega), six3]
  simp only [show (decide (((3 : Nat) : Int) = (0 : Int))) = false from rfl, show (decide (((3 : Nat) : Int) = (1 : Int))) = false from rfl, show (decide (((3 : Nat) : Int) = (2 : Int))) = false from rfl, show (decide (((3 : Nat) : Int) = (3 : Int))) = true from rfl, cond_true, cond_false]
  rw [t3, s (n + 3) _ 4 (by omega), six4]
  simp only [show (decide (((4 : Nat) : Int) = (0 : Int))) = false from rfl, show (decide (((4 : Nat) : Int) = (1 : Int))) = false from rfl, show (decide (((4 : Nat) : Int) = (2 : Int))) = false from rfl, show (decide (((4 : Nat) : Int) = (3 : Int))) = false from rfl, show (decide (((4 : Nat) : Int) = (4 : Int))) = true from rfl, cond_true, cond_false]
  rw [t4, s (n + 2) _ 5 (by omega), six5]
  simp only [show (decide (((5 : Nat) : Int) = (0 : Int))) = false from rfl, show (decide (((5 : Nat) : Int) = (1 : Int))) = false from rfl, show (decide (((5 : Nat) : Int) = (2 : Int))) = false from rfl, show (decide (((5 : Nat) : Int) = (3 : Int))) = false from rfl, show (decide (((5 : Nat) : Int) = (4 : Int))) = false from rfl, show (decide (((5 : Nat) : Int) = (5 : Int))) = true from rfl, cond_true, cond_false]
  rw [t5, s (n + 1) _ 6 (by omega), six6]
  simp only [show (decide (((6 : Nat) : Int) = (0 : Int))) = false from rfl, show (decide (((6 : Nat) : Int) = (1 : Int))) = false from rfl, show (decide (((6 : Nat) : Int) = (2 : Int))) = false from rfl, show (decide (((6 : Nat) : Int) = (3 : Int))) = false from rfl, show (decide (((6 : Nat) : Int) = (4 : Int))) = false from rfl, show (decide (((6 : Nat) : Int) = (5 : Int))) = false from rfl, cond_true, cond_false]
  rw [t6, fin]
  rfl

def sumI : List Int → Int
  | [] => 0
  | x :: r => x + sumI r

theorem l_unImpl (ns : List Int) (hn : ∀ n ∈ ns, 0 ≤ n ∧ n ≤ 6) (hl : Small ns) : ∀ (d i m : Nat) (v : Int), ns.length = i + d → d < m → -10000000 + 6 * d ≤ v → v ≤ 10000000 →
    l_impl_UnpaintedFaces_5 m v ns (ns.length : Int) (i : Int) = some (v - sumI (ns.drop i), true, ())
  | d, i, 0, v, _, h, _, _ => by omega
  | d, i, m + 1, v, hk, hm, h0, h1 => by
    have hl' := hl
    unfold Small at hl'
    rw [q_impl_UnpaintedFaces_5]
    by_cases hlt : i < ns.length
    · have hb := hn _ (List.getElem_mem hlt)
      rw [ltT hlt, inB_at hlt, nthA (t := .int .i64) hlt, drop_at ns i hlt, succI i (by omega), w64 (x := v - ns[i]) (by omega) (by omega)]
      simp only [cond_true, sumI]
      rw [l_unImpl ns hn hl (d - 1) (i + 1) m _ (by omega) (by omega) (by omega) (by omega), Int.sub_sub]
    · rw [ltF hlt, List.drop_eq_nil_of_le (by omega)]
      simp [sumI]

theorem sumI_map (l q : List D_A3) : ∀ r : List D_A3, sumI (r.map fun c => (painted l q c : Int)) = sumP l q r
  | [] => rfl
  | c :: r => by simp [sumI, sumP, sumI_map l q r]

theorem unpainted_eq (h : D_Heap) (wet : Bool) (hl : Small h.2.2.2.1) : ∃ r, P_spec_UnpaintedFaces (h, wet, ()) = some r ∧ P_impl_UnpaintedFaces (h, wet, ()) = some r := by
  rw [p_spec_UnpaintedFaces, p_impl_UnpaintedFaces, f_spec_l2Heap _ hl, f_impl_IsHeap _ hl]
  cases ho : okHeap h with
  | false => exact ⟨_, rfl, rfl⟩
  | true =>
    obtain ⟨hs, hi, hr⟩ := okHeap_iff.1 ho
    have hl' := hl
    unfold Small at hl'
    have h64 := srt_small64 hs hi hr
    have f2 : P_spec_l11Counts (h, wet, ()) = _ := f_countsW hs hl hi wet
    have f4 : P_Heap_painted (h, wet, ()) = _ := f_paintedW hs hl hi wet
    simp only [Option.bind_some, Bool.not_true, cond_false]
    rw [f2, f4]
    simp only [Option.bind_some]
    obtain ⟨k1, k2, k3⟩ := counts_wgt h.2.2.2.1 (hidden h.1 h.2.1 h.2.2.1 h.2.2.2.1 wet) h.2.2.2.1 (0, 0, 0, 0, 0, 0, 0, ()) (by simp [Pos7]) (by simp [tot7]; omega)
    have g1 := l_unSpec (counts h.2.2.2.1 (hidden h.1 h.2.1 h.2.2.1 h.2.2.2.1 wet)) k1 (by
      have : tot7 (counts h.2.2.2.1 (hidden h.1 h.2.1 h.2.2.1 h.2.2.2.1 wet)) = _ := k2
      rw [this]; simp [tot7]; omega)
    rw [g1, w64 (x := 6 * (h.2.2.2.1.length : Int)) (by omega) (by omega)]
    have g2 := l_unImpl (h.2.2.2.1.map fun c => (painted h.2.2.2.1 (hidden h.1 h.2.1 h.2.2.1 h.2.2.2.1 wet) c : Int)) (by
      intro n hn
      obtain ⟨c, _, rfl⟩ := List.mem_map.1 hn
      have := painted_le h.2.2.2.1 (hidden h.1 h.2.1 h.2.2.1 h.2.2.2.1 wet) c
      omega) (by unfold Small; simpa using hl') h.2.2.2.1.length 0 N (6 * (h.2.2.2.1.length : Int)) (by simp) (by have := N_ge; omega) (by omega) (by omega)
    have g2' : l_impl_UnpaintedFaces_5 N (6 * (h.2.2.2.1.length : Int)) (h.2.2.2.1.map fun c => (painted h.2.2.2.1 (hidden h.1 h.2.1 h.2.2.1 h.2.2.2.1 wet) c : Int)) (((h.2.2.2.1.map fun c => (painted h.2.2.2.1 (hidden h.1 h.2.1 h.2.2.1 h.2.2.2.1 wet) c : Int)).length : Nat) : Int) 0 = _ := g2
    rw [g2', List.drop_zero, sumI_map]
    refine ⟨_, rfl, ?_⟩
    have e : wgt7 (counts h.2.2.2.1 (hidden h.1 h.2.1 h.2.2.1 h.2.2.2.1 wet)) = _ := k3
    rw [e]
    congr 2
    simp [wgt7]

end Go.VI
