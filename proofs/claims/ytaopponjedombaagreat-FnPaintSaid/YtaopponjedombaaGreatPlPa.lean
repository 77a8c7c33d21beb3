/- Plain: bare faces, and those with the outside beyond them. -/
import Derived.Test.YtaopponjedombaaGreatPlR
namespace Go.VI
open Go.Proofs

theorem sumP_bound (l q : List D_A3) : ∀ r : List D_A3, 0 ≤ sumP l q r ∧ sumP l q r ≤ 6 * r.length
  | [] => by simp [sumP]
  | c :: r => by
    have := sumP_bound l q r
    have := painted_le l q c
    simp only [sumP, List.length_cons]
    omega

theorem l_out8 {X Y Z : Int} {l q : List D_A3} {v : BitVec 64} (hs : sides X Y Z = true) (hl : Small l) (hi : Ins X Y Z l) (hv : BitsOf X Y Z v q) (c : D_A3) (hc : Near c) (m0 : Nat) (i : Nat) (hli : i < 1048576) : ∀ (d k m : Nat) (cnt : Nat), k + d = 6 → d < m → cnt + d < 100000000 →
    l_impl_OutsideFaces_8 m0 m X Y Z l c.1 c.2.1 c.2.2.1 (cnt : Int) (v.toNat : Int) l (l.length : Int) (i : Int) (k : Int) = l_impl_OutsideFaces_5 m0 X Y Z l ((cnt + pcount l q c d k : Nat) : Int) (v.toNat : Int) l (l.length : Int) ((i + 1 : Nat) : Int)
  | d, k, 0, cnt, hk, hm, hcn => by omega
  | 0, k, m + 1, cnt, hk, hm, hcn => by
    rw [q_impl_OutsideFaces_8, decide_eq_false (by omega), succI i (by omega)]
    rfl
  | d + 1, k, m + 1, cnt, hk, hm, hcn => by
    rw [q_impl_OutsideFaces_8, decide_eq_true (by omega)]
    have hb : P_impl_beyond ((c.1, (c.2.1, (c.2.2.1, ()))), (k : Int), ()) = some (stp k c, ()) := f_beyond c hc k (by omega)
    have ih := l_out8 hs hl hi hv c hc m0 i hli d (k + 1) m
    rw [hb, succI k (by omega), succI cnt (by omega)]
    simp only [cond_true, Option.bind_some, pcount]
    rw [f_isBare hs hl hi, f_Heap_box]
    simp only [Option.bind_some]
    rw [f_box_has _ _ hs]
    simp only [Option.bind_some, bareAt]
    by_cases h1 : stp k c ∈ l
    · simp only [h1, decide_true, Bool.not_true, cond_false, Bool.false_and, Bool.false_eq_true, if_false, Nat.zero_add]
      exact ih cnt (by omega) (by omega) (by omega)
    · simp only [h1, decide_false, Bool.not_false, cond_true, Bool.true_and]
      cases hw : within3 X Y Z (stp k c) with
      | false =>
        have h2 : stp k c ∉ q := fun h => by rw [hv.1 _ h] at hw; cases hw
        simp only [h2, decide_false, Bool.not_false, cond_true, if_true]
        rw [ih (cnt + 1) (by omega) (by omega) (by omega), Nat.add_assoc]
      | true =>
        simp only [Bool.not_true, cond_false]
        rw [f_box_index hs hw]
        simp only [Option.bind_some]
        rw [f_set_has, hv.2 _ hw]
        simp only [Option.bind_some]
        by_cases h2 : stp k c ∈ q
        · simp only [h2, decide_true, Bool.not_true, cond_false, Bool.false_eq_true, if_false, Nat.zero_add]
          exact ih cnt (by omega) (by omega) (by omega)
        · simp only [h2, decide_false, Bool.not_false, cond_true, if_true]
          rw [ih (cnt + 1) (by omega) (by omega) (by omega), Nat.add_assoc]
termination_by d => d

theorem l_out5 {X Y Z : Int} {l q : List D_A3} {v : BitVec 64} (hs : sides X Y Z = true) (hl : Small l) (hi : Ins X Y Z l) (hv : BitsOf X Y Z v q) : ∀ (d i m cnt : Nat), l.length = i + d → d < m → cnt ≤ 6 * i →
    l_impl_OutsideFaces_5 m X Y Z l (cnt : Int) (v.toNat : Int) l (l.length : Int) (i : Int) = some ((cnt : Int) + sumP l q (l.drop i), true, ())
  | d, i, 0, cnt, hk, hm, ho => by omega
  | d, i, m + 1, cnt, hk, hm, ho => by
    have hl' := hl
    unfold Small at hl'
    rw [q_impl_OutsideFaces_5]
    by_cases hlt : i < l.length
    · rw [ltT hlt, inB_at hlt, nthA (t := T_A3) hlt]
      simp only [cond_true]
      have h9 := l_out8 hs hl hi hv l[i] (near_of hs (hi _ (List.getElem_mem hlt))) m i (by omega) 6 0 N cnt rfl (by have := N_ge; omega) (by omega)
      have h9' : l_impl_OutsideFaces_8 m N X Y Z l l[i].1 l[i].2.1 l[i].2.2.1 (cnt : Int) (v.toNat : Int) l (l.length : Int) (i : Int) 0 = _ := h9
      have hp := painted_le l q l[i]
      rw [h9', l_out5 hs hl hi hv (d - 1) (i + 1) m _ (by omega) (by omega) (by unfold painted at hp; omega), drop_at l i hlt]
      simp only [sumP, painted]
      rw [Int.natCast_add, Int.add_assoc]
    · rw [ltF hlt, List.drop_eq_nil_of_le (by omega)]
      simp [sumP]

theorem f_outside {X Y Z : Int} {l : List D_A3} (hs : sides X Y Z = true) (hl : Small l) (hi : Ins X Y Z l) (hr : Srt l) : P_impl_OutsideFaces ((X, Y, Z, l, ()), ()) = some (sumP l (encl X Y Z l) l, true, ()) := by
  have hok : okHeap ((X, Y, Z, l, ()) : D_Heap) = true := okHeap_iff.2 ⟨hs, hi, hr⟩
  obtain ⟨w, h1, h2⟩ := f_enclosed hs hl hi
  rw [p_impl_OutsideFaces, f_impl_IsHeap _ hl, hok, h1]
  simp only [Option.bind_some, Bool.not_true, cond_false]
  have := l_out5 hs hl hi h2 l.length 0 N 0 (by simp) (by unfold Small at hl; have := N_ge; omega) (by omega)
  have h5 : l_impl_OutsideFaces_5 N X Y Z l 0 (w.toNat : Int) l (l.length : Int) 0 = _ := this
  rw [h5]
  simp

/-! ### All bare faces -/
def sel6 (n : Int) (a : D_A6) : Int := (bif decide (n = (0 : Int)) then a.1 else (bif decide (n = (1 : Int)) then a.2.1 else (bif decide (n = (2 : Int)) then a.2.2.1 else (bif decide (n = (3 : Int)) then a.2.2.2.1 else (bif decide (n = (4 : Int)) then a.2.2.2.2.1 else a.2.2.2.2.2.1)))))
def up6 (n : Int) (a : D_A6) : D_A6 := ((bif decide (n = (0 : Int)) then IntKind.wrap .i64 (sel6 n a + 1) else a.1), (bif decide (n = (1 : Int)) then IntKind.wrap .i64 (sel6 n a + 1) else a.2.1), (bif decide (n = (2 : Int)) then IntKind.wrap .i64 (sel6 n a + 1) else a.2.2.1), (bif decide (n = (3 : Int)) then IntKind.wrap .i64 (sel6 n a + 1) else a.2.2.2.1), (bif decide (n = (4 : Int)) then IntKind.wrap .i64 (sel6 n a + 1) else a.2.2.2.2.1), (bif decide (n = (5 : Int)) then IntKind.wrap .i64 (sel6 n a + 1) else a.2.2.2.2.2.1), ())
def tot6 (a : D_A6) : Int := a.1 + a.2.1 + a.2.2.1 + a.2.2.2.1 + a.2.2.2.2.1 + a.2.2.2.2.2.1
def Pos6 (a : D_A6) : Prop := 0 ≤ a.1 ∧ 0 ≤ a.2.1 ∧ 0 ≤ a.2.2.1 ∧ 0 ≤ a.2.2.2.1 ∧ 0 ≤ a.2.2.2.2.1 ∧ 0 ≤ a.2.2.2.2.2.1

theorem up6_at (k : Nat) (hk : k < 6) (a : D_A6) (hp : Pos6 a) (ht : tot6 a ≤ 100000000) : Pos6 (up6 (k : Int) a) ∧ tot6 (up6 (k : Int) a) = tot6 a + 1 := by
  obtain ⟨a0, a1, a2, a3, a4, a5, ⟨⟩⟩ := a
  simp only [Pos6, tot6] at *
  rcases six hk with rfl | rfl | rfl | rfl | rfl | rfl <;> simp [up6, sel6] <;> (rw [w64 (by omega) (by omega)]; omega)

theorem l_bare6 {X Y Z : Int} {l : List D_A3} (hs : sides X Y Z = true) (hl : Small l) (hi : Ins X Y Z l) (c : D_A3) (hc : Near c) (m0 : Nat) (i : Nat) (hli : i < 1048576) : ∀ (d k m : Nat) (a : D_A6), k + d = 6 → d < m → Pos6 a → tot6 a + d ≤ 100000000 →
    ∃ a' : D_A6, l_Heap_bareFaces_6 m0 m X Y Z l 0 0 0 0 0 0 a.1 a.2.1 a.2.2.1 a.2.2.2.1 a.2.2.2.2.1 a.2.2.2.2.2.1 c.1 c.2.1 c.2.2.1 l (l.length : Int) (i : Int) (k : Int) = l_Heap_bareFaces_3 m0 X Y Z l 0 0 0 0 0 0 a'.1 a'.2.1 a'.2.2.1 a'.2.2.2.1 a'.2.2.2.2.1 a'.2.2.2.2.2.1 l (l.length : Int) ((i + 1 : Nat) : Int) ∧ Pos6 a' ∧ tot6 a' = tot6 a + pcount l [] c d k
  | d, k, 0, a, hk, hm, hp, ht => by omega
  | 0, k, m + 1, a, hk, hm, hp, ht => by
    rw [q_Heap_bareFaces_6, decide_eq_false (by omega), succI i (by omega)]
    exact ⟨a, rfl, hp, by simp [pcount]⟩
  | d + 1, k, m + 1, a, hk, hm, hp, ht => by
    rw [q_Heap_bareFaces_6, decide_eq_true (by omega)]
    have hb : P_impl_beyond ((c.1, (c.2.1, (c.2.2.1, ()))), (k : Int), ()) = some (stp k c, ()) := f_beyond c hc k (by omega)
    have ih := l_bare6 hs hl hi c hc m0 i hli d (k + 1) m
    rw [hb, succI k (by omega)]
    simp only [cond_true, Option.bind_some, pcount]
    rw [f_isBare hs hl hi]
    simp only [Option.bind_some, bareAt]
    by_cases h1 : stp k c ∈ l
    · simp only [h1, decide_true, Bool.not_true, cond_false, Bool.false_and, Bool.false_eq_true, if_false, Nat.zero_add]
      exact ih a (by omega) (by omega) hp (by omega)
    · simp only [h1, decide_false, Bool.not_false, cond_true, Bool.true_and, List.not_mem_nil, if_true]
      rw [inB_at (k := k) (n := 6) (by omega)]
      simp only [cond_true]
      obtain ⟨u1, u2⟩ := up6_at k (by omega) a hp (by omega)
      obtain ⟨a', e1, e2, e3⟩ := ih (up6 (k : Int) a) (by omega) (by omega) u1 (by omega)
      refine ⟨a', e1, e2, ?_⟩
      rw [e3, u2]
      omega
termination_by d => d

theorem l_bare3 {X Y Z : Int} {l : List D_A3} (hs : sides X Y Z = true) (hl : Small l) (hi : Ins X Y Z l) : ∀ (d i m : Nat) (a : D_A6), l.length = i + d → d < m → Pos6 a → tot6 a ≤ 6 * i →
    ∃ a' : D_A6, l_Heap_bareFaces_3 m X Y Z l 0 0 0 0 0 0 a.1 a.2.1 a.2.2.1 a.2.2.2.1 a.2.2.2.2.1 a.2.2.2.2.2.1 l (l.length : Int) (i : Int) = some (a', ()) ∧ Pos6 a' ∧ tot6 a' = tot6 a + sumP l [] (l.drop i)
  | d, i, 0, a, hk, hm, hp, ht => by omega
  | d, i, m + 1, a, hk, hm, hp, ht => by
    have hl' := hl
    unfold Small at hl'
    rw [q_Heap_bareFaces_3]
    by_cases hlt : i < l.length
    · rw [ltT hlt, inB_at hlt, nthA (t := T_A3) hlt]
      simp only [cond_true]
      obtain ⟨a1, e1, e2, e3⟩ := l_bare6 hs hl hi l[i] (near_of hs (hi _ (List.getElem_mem hlt))) m i (by omega) 6 0 N a rfl (by have := N_ge; omega) hp (by omega)
      have e1' : l_Heap_bareFaces_6 m N X Y Z l 0 0 0 0 0 0 a.1 a.2.1 a.2.2.1 a.2.2.2.1 a.2.2.2.2.1 a.2.2.2.2.2.1 l[i].1 l[i].2.1 l[i].2.2.1 l (l.length : Int) (i : Int) 0 = _ := e1
      rw [e1']
      have hpl := painted_le l [] l[i]
      have e3' : tot6 a1 = tot6 a + (painted l [] l[i] : Int) := e3
      obtain ⟨a', k1, k2, k3⟩ := l_bare3 hs hl hi (d - 1) (i + 1) m a1 (by omega) (by omega) e2 (by omega)
      refine ⟨a', k1, k2, ?_⟩
      rw [k3, e3', drop_at l i hlt]
      simp only [sumP]
      omega
    · rw [ltF hlt, List.drop_eq_nil_of_le (by omega)]
      exact ⟨a, rfl, hp, by simp [sumP]⟩

theorem l_surf (a : D_A6) (hp : Pos6 a) (ht : tot6 a ≤ 100000000) : l_impl_SurfaceOf_5 N 0 a.1 a.2.1 a.2.2.1 a.2.2.2.1 a.2.2.2.2.1 a.2.2.2.2.2.1 0 = some (tot6 a, true, ()) := by
  obtain ⟨n, hn⟩ : ∃ n, N = n + 7 := ⟨N - 7, by have := N_ge; omega⟩
  obtain ⟨a0, a1, a2, a3, a4, a5, ⟨⟩⟩ := a
  simp only [Pos6, tot6] at *
  have s : ∀ (m : Nat) (v : Int) (k : Nat), k < 6 → l_impl_SurfaceOf_5 (m + 1) v a0 a1 a2 a3 a4 a5 (k : Int) = l_impl_SurfaceOf_5 m (IntKind.wrap .i64 (v + sel6 (k : Int) (a0, a1, a2, a3, a4, a5, ()))) a0 a1 a2 a3 a4 a5 ((k + 1 : Nat) : Int) := by
    intro m v k hk
    rw [q_impl_SurfaceOf_5, decide_eq_true (p := (k : Int) < 6) (by omega), inB_at (k := k) (n := 6) hk, succI k (by omega)]
    rfl
  have fin : ∀ (m : Nat) (v : Int), l_impl_SurfaceOf_5 (m + 1) v a0 a1 a2 a3 a4 a5 ((6 : Nat) : Int) = some (v, true, ()) := by
    intro m v; rw [q_impl_SurfaceOf_5]; rfl
  show l_impl_SurfaceOf_5 N 0 a0 a1 a2 a3 a4 a5 ((0 : Nat) : Int) = _
  have z0 : sel6 ((0 : Nat) : Int) (a0, a1, a2, a3, a4, a5, ()) = a0 := rfl
  have z1 : sel6 ((1 : Nat) : Int) (a0, a1, a2, a3, a4, a5, ()) = a1 := rfl
  have z2 : sel6 ((2 : Nat) : Int) (a0, a1, a2, a3, a4, a5, ()) = a2 := rfl
  have z3 : sel6 ((3 : Nat) : Int) (a0, a1, a2, a3, a4, a5, ()) = a3 := rfl
  have z4 : sel6 ((4 : Nat) : Int) (a0, a1, a2, a3, a4, a5, ()) = a4 := rfl
  have z5 : sel6 ((5 : Nat) : Int) (a0, a1, a2, a3, a4, a5, ()) = a5 := rfl
  rw [hn, s (n + 6) _ 0 (by omega), z0, w64 (x := 0 + a0) (by omega) (by omega), s (n + 5) _ 1 (by omega), z1, w64 (x := 0 + a0 + a1) (by omega) (by omega), s (n + 4) _ 2 (by omega), z2, w64 (x := 0 + a0 + a1 + a2) (by omega) (by omega), s (n + 3) _ 3 (by omega), z3, w64 (x := 0 + a0 + a1 + a2 + a3) (by omega) (by omega), s (n + 2) _ 4 (by omega), z4, w64 (x := 0 + a0 + a1 + a2 + a3 + a4) (by omega) (by omega), s (n + 1) _ 5 (by omega), z5, w64 (x := 0 + a0 + a1 + a2 + a3 + a4 + a5) (by omega) (by omega), fin n]
  rw [Int.zero_add]

theorem f_surface {X Y Z : Int} {l : List D_A3} (hs : sides X Y Z = true) (hl : Small l) (hi : Ins X Y Z l) (hr : Srt l) : P_impl_SurfaceOf ((X, Y, Z, l, ()), ()) = some (sumP l [] l, true, ()) := by
  have hok : okHeap ((X, Y, Z, l, ()) : D_Heap) = true := okHeap_iff.2 ⟨hs, hi, hr⟩
  obtain ⟨a', e1, e2, e3⟩ := l_bare3 hs hl hi l.length 0 N (0, 0, 0, 0, 0, 0, ()) (by simp) (by unfold Small at hl; have := N_ge; omega) (by simp [Pos6]) (by simp [tot6])
  have e1' : P_Heap_bareFaces ((X, Y, Z, l, ()), ()) = some (a', ()) := by rw [p_Heap_bareFaces]; exact e1
  rw [p_impl_SurfaceOf, f_impl_IsHeap _ hl, hok, e1']
  simp only [Option.bind_some, Bool.not_true, cond_false]
  have h0 : tot6 a' = sumP l [] l := by rw [e3]; simp [tot6]
  have hb := sumP_bound l [] l
  rw [l_surf a' e2 (by unfold Small at hl; omega), h0]
end Go.VI
