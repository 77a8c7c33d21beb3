/- Plain: the law of paint, joined. -/
import Derived.Test.YtaopponjedombaaGreatPlPc
import Derived.Test.YtaopponjedombaaGreatPlF
namespace Go.VI
open Go.Proofs

theorem all_len {X Y Z : Int} (hs : sides X Y Z = true) : ((allCells X Y Z).length : Int) = X * Y * Z := by
  have h := size64 hs
  rw [← upto_all hs, upto, List.length_map, List.length_range]
  omega

theorem bump_fst (n : Nat) (hn : n ≤ 6) (a : D_A7) (hp : Pos7 a) (ht : tot7 a ≤ 10000000) : (bump (n : Int) a).1 = a.1 + (if n = 0 then 1 else 0) := by
  obtain ⟨a0, a1, a2, a3, a4, a5, a6, ⟨⟩⟩ := a
  simp only [Pos7, tot7] at *
  have e : n = 0 ∨ n = 1 ∨ n = 2 ∨ n = 3 ∨ n = 4 ∨ n = 5 ∨ n = 6 := by omega
  rcases e with rfl | rfl | rfl | rfl | rfl | rfl | rfl <;> simp [bump, sel7]
  rw [w64 (by omega) (by omega)]

theorem counts_fst (l q : List D_A3) : ∀ (r : List D_A3) (a : D_A7), Pos7 a → tot7 a + r.length ≤ 10000000 → (r.foldl (fun a c => bump (painted l q c : Int) a) a).1 + ((r.filter fun c => decide (painted l q c > 0) == true).length : Int) = a.1 + r.length
  | [], a, hp, ht => by simp
  | c :: r, a, hp, ht => by
    have hle := painted_le l q c
    simp only [List.length_cons] at ht
    obtain ⟨h1, h2, h3⟩ := bump_at (painted l q c) hle a hp (by omega)
    have ih := counts_fst l q r (bump (painted l q c : Int) a) h1 (by omega)
    have hb := bump_fst (painted l q c) hle a hp (by omega)
    simp only [List.foldl_cons, List.length_cons, List.filter_cons]
    by_cases hz : painted l q c = 0
    · rw [if_pos hz] at hb
      rw [show (decide (painted l q c > 0) == true) = false by simp [hz]]
      simp only [Bool.false_eq_true, if_false]
      omega
    · rw [if_neg hz] at hb
      rw [show (decide (painted l q c > 0) == true) = true by simp; omega]
      simp only [if_true, List.length_cons]
      omega

theorem shell_sum {X Y Z : Int} (hs : sides X Y Z = true) : IntKind.wrap .i64 ((((allCells X Y Z).filter fun c => decide (painted (allCells X Y Z) [] c > 0) == true).length : Int) + (counts (allCells X Y Z) []).1) = IntKind.wrap .i64 ((IntKind.wrap .i64 (X * Y)) * Z) := by
  have h := size64 hs
  have hl := all_len hs
  have hc := counts_fst (allCells X Y Z) [] (allCells X Y Z) (0, 0, 0, 0, 0, 0, 0, ()) (by simp [Pos7]) (by simp [tot7]; omega)
  have hc' : (counts (allCells X Y Z) []).1 + (((allCells X Y Z).filter fun c => decide (painted (allCells X Y Z) [] c > 0) == true).length : Int) = 0 + ((allCells X Y Z).length : Int) := hc
  rw [w64 (x := X * Y) (by omega) (by omega), w64 (x := X * Y * Z) (by omega) (by omega), w64 (by omega) (by omega)]
  omega

/-! ### The sums over the counts -/
theorem l_49 (a : D_A7) (hp : Pos7 a) (ht : tot7 a ≤ 10000000) (X Y Z : Int) (l : List D_A3) (X' Y' Z' : Int) (l' : List D_A3) (wet : Bool) (bare times : Int) : ∃ n, 0 < n ∧ l_laws_FnPaint_49 N X Y Z l a.1 a.2.1 a.2.2.1 a.2.2.2.1 a.2.2.2.2.1 a.2.2.2.2.2.1 a.2.2.2.2.2.2.1 X' Y' Z' l' wet bare times 0 0 0 = l_laws_FnPaint_49 n X Y Z l a.1 a.2.1 a.2.2.1 a.2.2.2.1 a.2.2.2.2.1 a.2.2.2.2.2.1 a.2.2.2.2.2.2.1 X' Y' Z' l' wet bare times (tot7 a) (6 * tot7 a - wgt7 a) 7 := by
  obtain ⟨n, hn⟩ : ∃ n, N = n + 8 := ⟨N - 8, by have := N_ge; omega⟩
  obtain ⟨a0, a1, a2, a3, a4, a5, a6, ⟨⟩⟩ := a
  obtain ⟨b0, b1, b2, b3, b4, b5, b6⟩ := pos_le _ hp _ ht
  unfold Pos7 at hp
  simp only at *
  have s : ∀ (m : Nat) (v u : Int) (k : Nat), k < 7 → l_laws_FnPaint_49 (m + 1) X Y Z l a0 a1 a2 a3 a4 a5 a6 X' Y' Z' l' wet bare times v u (k : Int) = l_laws_FnPaint_49 m X Y Z l a0 a1 a2 a3 a4 a5 a6 X' Y' Z' l' wet bare times (IntKind.wrap .i64 (v + sel7 (k : Int) (a0, a1, a2, a3, a4, a5, a6, ()))) (IntKind.wrap .i64 (u + IntKind.wrap .i64 ((k : Int) * sel7 (k : Int) (a0, a1, a2, a3, a4, a5, a6, ())))) ((k + 1 : Nat) : Int) := by
    intro m v u k hk
    rw [q_laws_FnPaint_49, decide_eq_true (p := (k : Int) < 7) (by omega), inB_at (k := k) (n := 7) hk, succI k (by omega)]
    rfl
  have z0 : sel7 ((0 : Nat) : Int) (a0, a1, a2, a3, a4, a5, a6, ()) = a0 := rfl
  have z1 : sel7 ((1 : Nat) : Int) (a0, a1, a2, a3, a4, a5, a6, ()) = a1 := rfl
  have z2 : sel7 ((2 : Nat) : Int) (a0, a1, a2, a3, a4, a5, a6, ()) = a2 := rfl
  have z3 : sel7 ((3 : Nat) : Int) (a0, a1, a2, a3, a4, a5, a6, ()) = a3 := rfl
  have z4 : sel7 ((4 : Nat) : Int) (a0, a1, a2, a3, a4, a5, a6, ()) = a4 := rfl
  have z5 : sel7 ((5 : Nat) : Int) (a0, a1, a2, a3, a4, a5, a6, ()) = a5 := rfl
  have z6 : sel7 ((6 : Nat) : Int) (a0, a1, a2, a3, a4, a5, a6, ()) = a6 := rfl
  refine ⟨n + 1, by omega, ?_⟩
  show l_laws_FnPaint_49 N X Y Z l a0 a1 a2 a3 a4 a5 a6 X' Y' Z' l' wet bare times 0 0 ((0 : Nat) : Int) = _
  rw [hn, s (n + 7) _ _ 0 (by omega), z0, w64 (x := 0 + a0) (by omega) (by omega), w64 (x := ((0 : Nat) : Int) * a0) (by omega) (by omega), w64 (x := 0 + ((0 : Nat) : Int) * a0) (by omega) (by omega)]
  rw [s (n + 6) _ _ 1 (by omega), z1, w64 (x := 0 + a0 + a1) (by omega) (by omega), w64 (x := ((1 : Nat) : Int) * a1) (by omega) (by omega), w64 (x := 0 + ((0 : Nat) : Int) * a0 + ((1 : Nat) : Int) * a1) (by omega) (by omega)]
  rw [s (n + 5) _ _ 2 (by omega), z2, w64 (x := 0 + a0 + a1 + a2) (by omega) (by omega), w64 (x := ((2 : Nat) : Int) * a2) (by omega) (by omega), w64 (x := 0 + ((0 : Nat) : Int) * a0 + ((1 : Nat) : Int) * a1 + ((2 : Nat) : Int) * a2) (by omega) (by omega)]
  rw [s (n + 4) _ _ 3 (by omega), z3, w64 (x := 0 + a0 + a1 + a2 + a3) (by omega) (by omega), w64 (x := ((3 : Nat) : Int) * a3) (by omega) (by omega), w64 (x := 0 + ((0 : Nat) : Int) * a0 + ((1 : Nat) : Int) * a1 + ((2 : Nat) : Int) * a2 + ((3 : Nat) : Int) * a3) (by omega) (by omega)]
  rw [s (n + 3) _ _ 4 (by omega), z4, w64 (x := 0 + a0 + a1 + a2 + a3 + a4) (by omega) (by omega), w64 (x := ((4 : Nat) : Int) * a4) (by omega) (by omega), w64 (x := 0 + ((0 : Nat) : Int) * a0 + ((1 : Nat) : Int) * a1 + ((2 : Nat) : Int) * a2 + ((3 : Nat) : Int) * a3 + ((4 : Nat) : Int) * a4) (by omega) (by omega)]
  rw [s (n + 2) _ _ 5 (by omega), z5, w64 (x := 0 + a0 + a1 + a2 + a3 + a4 + a5) (by omega) (by omega), w64 (x := ((5 : Nat) : Int) * a5) (by omega) (by omega), w64 (x := 0 + ((0 : Nat) : Int) * a0 + ((1 : Nat) : Int) * a1 + ((2 : Nat) : Int) * a2 + ((3 : Nat) : Int) * a3 + ((4 : Nat) : Int) * a4 + ((5 : Nat) : Int) * a5) (by omega) (by omega)]
  rw [s (n + 1) _ _ 6 (by omega), z6, w64 (x := 0 + a0 + a1 + a2 + a3 + a4 + a5 + a6) (by omega) (by omega), w64 (x := ((6 : Nat) : Int) * a6) (by omega) (by omega), w64 (x := 0 + ((0 : Nat) : Int) * a0 + ((1 : Nat) : Int) * a1 + ((2 : Nat) : Int) * a2 + ((3 : Nat) : Int) * a3 + ((4 : Nat) : Int) * a4 + ((5 : Nat) : Int) * a5 + ((6 : Nat) : Int) * a6) (by omega) (by omega)]
  have e1 : 0 + a0 + a1 + a2 + a3 + a4 + a5 + a6 = tot7 (a0, a1, a2, a3, a4, a5, a6, ()) := by simp only [tot7]; omega
  have e2 : 0 + ((0 : Nat) : Int) * a0 + ((1 : Nat) : Int) * a1 + ((2 : Nat) : Int) * a2 + ((3 : Nat) : Int) * a3 + ((4 : Nat) : Int) * a4 + ((5 : Nat) : Int) * a5 + ((6 : Nat) : Int) * a6 = 6 * tot7 (a0, a1, a2, a3, a4, a5, a6, ()) - wgt7 (a0, a1, a2, a3, a4, a5, a6, ()) := by simp only [tot7, wgt7]; omega
  rw [e1, e2]
  rfl

theorem paint_tail (h : D_Heap) (hl : Small h.2.2.2.1) (ho : okHeap h = true) (wet : Bool) {times : Int} (ht : (h.2.2.2.1.length = 0 ∧ times = 0) ∨ (0 < h.2.2.2.1.length ∧ 0 ≤ times ∧ times ≤ 10000000))
    (hk : 0 < h.2.2.2.1.length → ∃ k : Int, P_impl_PeelCount ((h.1, h.2.1, h.2.2.1, peel h.2.2.2.1, ()), ()) = some (k, true, ()) ∧ times = k + 1 ∧ 0 ≤ k ∧ k ≤ 10000000) (a : D_A7) (ha : a = counts h.2.2.2.1 (hidden h.1 h.2.1 h.2.2.1 h.2.2.2.1 wet)) (bare : Int) (hb : bare = 6 * (h.2.2.2.1.length : Int) - sumP h.2.2.2.1 (hidden h.1 h.2.1 h.2.2.1 h.2.2.2.1 wet) h.2.2.2.1) :
    l_laws_FnPaint_49 N h.1 h.2.1 h.2.2.1 h.2.2.2.1 a.1 a.2.1 a.2.2.1 a.2.2.2.1 a.2.2.2.2.1 a.2.2.2.2.2.1 a.2.2.2.2.2.2.1 h.1 h.2.1 h.2.2.1 (peel h.2.2.2.1) wet bare times 0 0 0 = some (true, ()) := by
  obtain ⟨hs, hi, hr⟩ := okHeap_iff.1 ho
  have hl' := hl
  unfold Small at hl'
  have h64 := srt_small64 hs hi hr
  obtain ⟨k1, k2, k3⟩ := counts_wgt h.2.2.2.1 (hidden h.1 h.2.1 h.2.2.1 h.2.2.2.1 wet) h.2.2.2.1 (0, 0, 0, 0, 0, 0, 0, ()) (by simp [Pos7]) (by simp [tot7]; omega)
  have p1 : Pos7 a := by rw [ha]; exact k1
  have t1 : tot7 a = (h.2.2.2.1.length : Int) := by
    have : tot7 (counts h.2.2.2.1 (hidden h.1 h.2.1 h.2.2.1 h.2.2.2.1 wet)) = _ := k2
    rw [ha, this]; simp [tot7]
  have g1 : wgt7 a = 6 * (h.2.2.2.1.length : Int) - sumP h.2.2.2.1 (hidden h.1 h.2.1 h.2.2.1 h.2.2.2.1 wet) h.2.2.2.1 := by
    have : wgt7 (counts h.2.2.2.1 (hidden h.1 h.2.1 h.2.2.1 h.2.2.2.1 wet)) = _ := k3
    rw [ha, this]; simp [wgt7]
  have hsb := sumP_bound h.2.2.2.1 (hidden h.1 h.2.1 h.2.2.1 h.2.2.2.1 wet) h.2.2.2.1
  obtain ⟨n, hn, e⟩ := l_49 a p1 (by omega) h.1 h.2.1 h.2.2.1 h.2.2.2.1 h.1 h.2.1 h.2.2.1 (peel h.2.2.2.1) wet bare times
  obtain ⟨m, rfl⟩ : ∃ m, n = m + 1 := ⟨n - 1, by omega⟩
  have fs : P_impl_SurfaceOf ((h.1, (h.2.1, (h.2.2.1, (h.2.2.2.1, ())))), ()) = _ := f_surface hs hl hi hr
  have fo : P_impl_OutsideFaces ((h.1, (h.2.1, (h.2.2.1, (h.2.2.2.1, ())))), ()) = _ := f_outside hs hl hi hr
  have hfaces : 6 * tot7 a - wgt7 a = sumP h.2.2.2.1 (hidden h.1 h.2.1 h.2.2.1 h.2.2.2.1 wet) h.2.2.2.1 := by omega
  have hw1 : IntKind.wrap .i64 (bare + sumP h.2.2.2.1 (hidden h.1 h.2.1 h.2.2.1 h.2.2.2.1 wet) h.2.2.2.1) = 6 * (h.2.2.2.1.length : Int) := by rw [w64 (by omega) (by omega)]; omega
  have hw2 : IntKind.wrap .i64 (6 * (h.2.2.2.1.length : Int)) = 6 * (h.2.2.2.1.length : Int) := w64 (by omega) (by omega)
  obtain ⟨kk, hkk, hlast⟩ : ∃ kk : Int, P_impl_PeelCount ((h.1, (h.2.1, (h.2.2.1, (peel h.2.2.2.1, ())))), ()) = some (kk, true, ()) ∧ ((h.2.2.2.1.length = 0 ∧ times = 0) ∨ (0 < h.2.2.2.1.length ∧ times = IntKind.wrap .i64 (kk + 1) ∧ times ≠ 0)) := by
    by_cases h0 : 0 < h.2.2.2.1.length
    · obtain ⟨k, q1, q2, q3, q4⟩ := hk h0
      exact ⟨k, q1, .inr ⟨h0, by rw [w64 (by omega) (by omega)]; exact q2, by omega⟩⟩
    · have hp : okHeap ((h.1, h.2.1, h.2.2.1, peel h.2.2.2.1, ()) : D_Heap) = true := okHeap_iff.2 ⟨hs, hi.filter _, hr.filter _⟩
      obtain ⟨k, q1, q2, _, _⟩ := count_full (h.1, h.2.1, h.2.2.1, peel h.2.2.2.1, ()) (peel_small hl)
      rw [hp] at q2
      refine ⟨k, q2, .inl ?_⟩
      rcases ht with ht | ht
      · exact ht
      · exact absurd ht.1 h0
  rw [e, hfaces, t1, q_laws_FnPaint_49, decide_eq_false (by omega), fs, fo]
  simp only [cond_false, Option.bind_some]
  rw [hkk]
  simp only [Option.bind_some, Bool.not_true, cond_false, decide_true]
  rw [hw1, hw2]
  have hplt : 0 < h.2.2.2.1.length → decide (((peel h.2.2.2.1).length : Int) < (h.2.2.2.1.length : Int)) = true := fun h0 => decide_eq_true (by have := peel_lt hr h0; omega)
  have hfin : (bif decide (times = 0) then bif decide ((h.2.2.2.1.length : Int) = 0) then some (true, ()) else bif decide (times = IntKind.wrap .i64 (kk + 1)) then some (decide (((peel h.2.2.2.1).length : Int) < (h.2.2.2.1.length : Int)), ()) else some (false, ()) else bif decide (times = IntKind.wrap .i64 (kk + 1)) then some (decide (((peel h.2.2.2.1).length : Int) < (h.2.2.2.1.length : Int)), ()) else some (false, ())) = (some (true, ()) : Option (Bool × Unit)) := by
    rcases hlast with ⟨q1, q2⟩ | ⟨q1, q2, q3⟩
    · rw [decide_eq_true q2, decide_eq_true (p := (h.2.2.2.1.length : Int) = 0) (by omega)]
      rfl
    · rw [decide_eq_false q3, decide_eq_true q2, hplt q1]
      rfl
  cases wet with
  | true =>
    simp only [cond_true]
    rw [show hidden h.1 h.2.1 h.2.2.1 h.2.2.2.1 true = encl h.1 h.2.1 h.2.2.1 h.2.2.2.1 from rfl]
    simp only [decide_true, Bool.not_true, cond_false]
    exact hfin
  | false =>
    simp only [cond_false]
    rw [show hidden h.1 h.2.1 h.2.2.1 h.2.2.2.1 false = [] from rfl]
    simp only [decide_true, Bool.not_true, cond_false]
    exact hfin

theorem law_Paint (C : List Int) (hb : ∀ b ∈ C, 0 ≤ b ∧ b ≤ 255) : P_laws_FnPaint (C, ()) = some (true, ()) := by
  rw [p_laws_FnPaint, p_laws_rBig]
  simp only [Option.bind_some]
  by_cases hbig : (C.length : Int) > 65536
  · rw [decide_eq_true hbig]; rfl
  have hC : Bts C := ⟨by omega, hb⟩
  rw [decide_eq_false hbig]
  simp only [cond_false]
  obtain ⟨h, wet, d1, hl⟩ := d_PaintCounts hC
  obtain ⟨g, c, dip, d2, gl⟩ := d_PaintedFaces hC
  obtain ⟨d, cube, d3, dl⟩ := d_PeelDepth hC
  obtain ⟨x, y, z, d4⟩ := d_FullCounts hC
  obtain ⟨a, a1, a2, a3⟩ := paintCounts_full h wet hl
  obtain ⟨bare, b1, b2, b3⟩ := unpainted_full h wet hl
  have pv : peelV h = ((peelV h).1, okHeap h, ()) := by unfold peelV; cases okHeap h <;> rfl
  have p1 := f_spec_PeelHeap h hl
  have p2 := f_impl_PeelHeap h hl
  rw [pv] at p1 p2
  obtain ⟨times, t1, t2, t3, t4⟩ := count_full h hl
  obtain ⟨⟨fn, fo, ⟨⟩⟩, f1, f2⟩ := faces_eqV g c dip gl
  obtain ⟨t, five, u1, u2, u3⟩ := depth_full d cube dl
  have w1 := f_spec_FullCounts x y z
  have w2 := f_impl_FullCounts x y z
  have s1 := f_spec_ShellHeap x y z
  have s2 := f_impl_ShellHeap x y z
  have wv : fullCountsV x y z = ((fullCountsV x y z).1, sides x y z, ()) := by unfold fullCountsV; cases sides x y z <;> rfl
  have sv : shellV x y z = ((shellV x y z).1, sides x y z, ()) := by unfold shellV; cases sides x y z <;> rfl
  rw [wv] at w1 w2
  rw [sv] at s1 s2
  have r1 := f_rHeap (peelV h).1 (peelV_small h hl)
  have r2 := f_rHeap (shellV x y z).1 (shellV_small x y z)
  simp only [d1, a1, a2, f_impl_IsHeap h hl, b1, b2, p1, p2, r1, t1, t2, d2, f1, f2, d3, u1, u2, d4, w1, w2, s1, s2, r2, Option.bind_some, decide_true, Bool.and_self, Bool.not_true, cond_false, beq_self_eq_true]
  have tail : okHeap h = true → l_laws_FnPaint_49 N h.1 h.2.1 h.2.2.1 h.2.2.2.1 a.1 a.2.1 a.2.2.1 a.2.2.2.1 a.2.2.2.2.1 a.2.2.2.2.2.1 a.2.2.2.2.2.2.1 (peelV h).1.1 (peelV h).1.2.1 (peelV h).1.2.2.1 (peelV h).1.2.2.2.1 wet bare times 0 0 0 = some (true, ()) := by
    intro ho
    have hpv : (peelV h).1 = (h.1, h.2.1, h.2.2.1, peel h.2.2.2.1, ()) := by unfold peelV; rw [if_pos ho]
    rw [hpv]
    exact paint_tail h hl ho wet (t3 ho) (t4 ho) a (a3 ho) bare (b3 ho)
  have fin : (bif !okHeap h then some (true, ()) else l_laws_FnPaint_49 N h.1 h.2.1 h.2.2.1 h.2.2.2.1 a.1 a.2.1 a.2.2.1 a.2.2.2.1 a.2.2.2.2.1 a.2.2.2.2.2.1 a.2.2.2.2.2.2.1 (peelV h).1.1 (peelV h).1.2.1 (peelV h).1.2.2.1 (peelV h).1.2.2.2.1 wet bare times 0 0 0) = some (true, ()) := by
    cases ho : okHeap h with
    | false => rfl
    | true => exact tail ho
  have mid : ∀ R : Option (Bool × Unit), R = some (true, ()) → (bif five then Option.bind (P_impl_PeelCount (d, ())) (fun r49 => bif !r49.2.1 then some (false, ()) else bif decide (t < 1) then some (false, ()) else bif decide (t > r49.1) then some (false, ()) else R) else R) = some (true, ()) := by
    intro R hR
    cases five with
    | false => exact hR
    | true =>
      obtain ⟨r, v1, v2, v3⟩ := u3 rfl
      simp only [cond_true]
      rw [v1]
      simp only [Option.bind_some, Bool.not_true, cond_false]
      rw [decide_eq_false (by omega), decide_eq_false (by omega)]
      exact hR
  cases hs : sides x y z with
  | false =>
    simp only [cond_false]
    exact mid _ fin
  | true =>
    have es : (shellV x y z).1 = (x, y, z, (allCells x y z).filter fun c => decide (painted (allCells x y z) [] c > 0) == true, ()) := by unfold shellV; rw [if_pos hs]
    have ew : (fullCountsV x y z).1 = counts (allCells x y z) [] := by unfold fullCountsV; rw [if_pos hs]
    simp only [cond_true]
    rw [es, ew, decide_eq_true (shell_sum hs)]
    simp only [Bool.not_true, cond_false]
    exact mid _ fin
end Go.VI
