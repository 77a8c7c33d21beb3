/- Plain: the law of benches. -/
import Derived.Test.YtaopponjedombaaGreatPlZ
namespace Go.VI
open Go.Proofs

theorem l_vCells (l : List D_A3) (hl : Small l) : ∀ (d k m : Nat), l.length = k + d → d < m → l_laws_vCells_4 m l l (k : Int) = some (true, ())
  | d, k, 0, hk, hm => by omega
  | d, k, m + 1, hk, hm => by
    have hl' := hl
    unfold Small at hl'
    rw [q_laws_vCells_4]
    by_cases hlt : k < l.length
    · rw [ltT hlt, inB_at hlt, succI k (by omega), l_vCells l hl (d - 1) (k + 1) m (by omega) (by omega)]
      simp
    · rw [ltF hlt]; rfl

theorem f_vHeap (h : D_Heap) (hl : Small h.2.2.2.1) : P_laws_vHeap (h, h, ()) = some (true, ()) := by
  have := l_vCells h.2.2.2.1 hl h.2.2.2.1.length 0 N (by simp) (by unfold Small at hl; have := N_ge; omega)
  have e : P_laws_vCells (h.2.2.2.1, h.2.2.2.1, ()) = some (true, ()) := by
    rw [p_laws_vCells, decide_eq_true rfl]
    exact this
  rw [p_laws_vHeap, e]
  simp

theorem f_vBench (b : D_Bench) (hl : Small b.1.2.2.2.1) : P_laws_vBench (b, b, ()) = some (true, ()) := by
  rw [p_laws_vBench, f_vHeap b.1 hl]
  simp

/-! ### Lists of acts -/
theorem l_actsM (l : List D_Act) (hl : Small l) : ∀ (d i m : Nat) (b : D_Bench), l.length = i + d → d < m → Small b.1.2.2.2.1 → okBench b = true →
    ∃ r : D_Bench × Int × Bool × Unit, l_spec_DoActs_5 m 0 0 0 [] 0 0 b.1.1 b.1.2.1 b.1.2.2.1 b.1.2.2.2.1 b.2.1 b.2.2.1 l (i : Int) = some r ∧ l_impl_DoActs_5 m b.1.1 b.1.2.1 b.1.2.2.1 b.1.2.2.2.1 b.2.1 b.2.2.1 0 0 0 [] 0 0 l l (l.length : Int) (i : Int) = some r ∧ Small r.1.1.2.2.2.1 ∧ okBench r.1 = true ∧ r.1.2.1 ≤ b.2.1
  | d, i, 0, b, _, h, _, _ => by omega
  | d, i, m + 1, b, hk, hm, hb, ho => by
    have hl' := hl
    unfold Small at hl'
    rw [q_spec_DoActs_5, q_impl_DoActs_5]
    by_cases hlt : i < l.length
    · rw [ltT hlt, inB_at hlt, nthA (t := T_Act) hlt, succI i (by omega)]
      obtain ⟨r, e1, e2, e3, e4⟩ := do_more b l[i] hb ho
      have e1' : P_spec_l12Do (((b.1.1, (b.1.2.1, (b.1.2.2.1, (b.1.2.2.2.1, ())))), (b.2.1, (b.2.2.1, ()))), l[i], ()) = some r := e1
      have e2' : P_impl_DoAct (((b.1.1, (b.1.2.1, (b.1.2.2.1, (b.1.2.2.2.1, ())))), (b.2.1, (b.2.2.1, ()))), l[i], ()) = some r := e2
      simp only [cond_true]
      rw [e1', e2']
      simp only [Option.bind_some]
      cases hr : r.2.1 with
      | false => exact ⟨(b, (i : Int), true, ()), rfl, rfl, hb, ho, Int.le_refl _⟩
      | true =>
        simp only [Bool.not_true, cond_false]
        obtain ⟨g1, g2, _⟩ := e4 hr
        obtain ⟨r', k1, k2, k3, k4, k5⟩ := l_actsM l hl (d - 1) (i + 1) m r.1 (by omega) (by omega) e3 g1
        exact ⟨r', k1, k2, k3, k4, Int.le_trans k5 g2⟩
    · rw [ltF hlt]
      exact ⟨(b, (l.length : Int), true, ()), rfl, rfl, hb, ho, Int.le_refl _⟩

theorem acts_full (b : D_Bench) (l : List D_Act) (hb : Small b.1.2.2.2.1) (hl : Small l) : ∃ (e : D_Bench) (n : Int) (t : Bool), P_spec_DoActs (b, l, ()) = some (e, n, t, ()) ∧ P_impl_DoActs (b, l, ()) = some (e, n, t, ()) ∧ Small e.1.2.2.2.1 ∧ (t = true → okBench e = true ∧ e.2.1 ≤ b.2.1) := by
  rw [p_spec_DoActs, p_impl_DoActs, f_spec_l12Good b hb, f_impl_IsBench b hb]
  cases ho : okBench b with
  | false => exact ⟨noBench, 0, false, rfl, rfl, small_nil, fun hh => by cases hh⟩
  | true =>
    simp only [Option.bind_some, Bool.not_true, cond_false]
    rw [f_spec_l12Own b hb, f_Bench_own b hb]
    simp only [Option.bind_some]
    obtain ⟨⟨e, n, t, ⟨⟩⟩, k1, k2, k3, k4, k5⟩ := l_actsM l hl l.length 0 N b (by simp) (by unfold Small at hl; have := N_ge; omega) hb ho
    exact ⟨e, n, t, k1, k2, k3, fun _ => ⟨k4, k5⟩⟩

/-! ### Acts that lead back -/
theorem and_two {x : Bool} {p q : Prop} [Decidable p] [Decidable q] {h : D_Heap} {r' : D_Heap × Bool × Unit} (e : (bif x then bif decide p then some (h, decide q, ()) else some (h, false, ()) else some (h, false, ())) = some r') (hr : r'.2.1 = true) : x = true ∧ p ∧ q ∧ r'.1 = h := by
  cases x with
  | false => rw [← Option.some.inj e] at hr; cases hr
  | true =>
    by_cases hp : p
    · rw [decide_eq_true hp] at e
      by_cases hq : q
      · exact ⟨rfl, hp, hq, by rw [← Option.some.inj e]⟩
      · rw [decide_eq_false hq] at e; rw [← Option.some.inj e] at hr; cases hr
    · rw [decide_eq_false hp] at e; rw [← Option.some.inj e] at hr; cases hr

theorem act_back (h : D_Heap) (a : D_Act) (hl : Small h.2.2.2.1) {r' : D_Heap × Bool × Unit} (e : P_Act_act (a, h, ()) = some r') (hr : r'.2.1 = true) (k3 : a.1 ≠ 3) (k4 : a.1 ≠ 4) :
    P_Act_act (((bif decide (a.1 = 1) then 2 else (bif decide (a.1 = 2) then 1 else a.1)), a.2), r'.1, ()) = some (h, true, ()) := by
  have ee := e
  rw [p_Act_act] at e
  by_cases k1 : a.1 = 1
  · obtain ⟨r, e1, e2, _⟩ := put_both h a.2.1 hl
    rw [decide_eq_true k1, e2] at e
    simp only [cond_true, Option.bind_some] at e
    obtain ⟨q1, q2, q3, q4⟩ := and_two e hr
    have hb := put_back hl e2 q1
    rw [decide_eq_true k1, p_Act_act, q4, decide_eq_false (show ¬ ((bif true then (2 : Int) else _) = 1) by simp), decide_eq_true (show ((bif true then (2 : Int) else _) = 2) by rfl)]
    simp only [cond_true, cond_false]
    rw [hb]
    simp only [Option.bind_some, cond_true]
    rw [decide_eq_true q2, decide_eq_true q3]
    rfl
  rw [decide_eq_false k1] at e ⊢
  simp only [cond_false] at e ⊢
  by_cases k2 : a.1 = 2
  · obtain ⟨r, e1, e2, _⟩ := take_both h a.2.1 hl
    rw [decide_eq_true k2, e2] at e
    simp only [cond_true, Option.bind_some] at e
    obtain ⟨q1, q2, q3, q4⟩ := and_two e hr
    have hb := take_back hl e2 q1
    rw [decide_eq_true k2, p_Act_act, q4, decide_eq_true (show ((bif true then (1 : Int) else a.1) = 1) by rfl)]
    simp only [cond_true]
    rw [hb]
    simp only [Option.bind_some, cond_true]
    rw [decide_eq_true q2, decide_eq_true q3]
    rfl
  rw [decide_eq_false k2, decide_eq_false k3, decide_eq_false k4] at e
  rw [decide_eq_false k2]
  simp only [cond_false] at e ⊢
  rw [p_Act_act]
  simp only
  rw [decide_eq_false k1, decide_eq_false k2, decide_eq_false k3, decide_eq_false k4]
  simp only [cond_false]
  by_cases k5 : a.1 = 5
  · obtain ⟨r, e1, e2, _⟩ := mirror_both h a.2.2.1 hl
    rw [decide_eq_true k5, e2] at e
    simp only [cond_true, Option.bind_some] at e
    have key : r.2.1 = true ∧ (decide (a.2.1.1 = 0) && (decide (a.2.1.2.1 = 0) && (decide (a.2.1.2.2.1 = 0) && true))) = true ∧ a.2.2.2.1 = 0 ∧ r'.1 = r.1 := by
      cases q1 : r.2.1 with
      | false => rw [q1] at e; rw [← Option.some.inj e] at hr; cases hr
      | true =>
        rw [q1] at e
        cases q2 : (decide (a.2.1.1 = 0) && (decide (a.2.1.2.1 = 0) && (decide (a.2.1.2.2.1 = 0) && true))) with
        | false => rw [q2] at e; rw [← Option.some.inj e] at hr; cases hr
        | true =>
          rw [q2] at e
          have e' := Option.some.inj e
          rw [← e'] at hr ⊢
          exact ⟨rfl, rfl, of_decide_eq_true hr, rfl⟩
    obtain ⟨q1, q2, q3, q4⟩ := key
    have hb := mirror_back hl e2 q1
    rw [decide_eq_true k5, q4, q2, hb]
    simp only [cond_true, Option.bind_some]
    rw [decide_eq_true q3]
  rw [decide_eq_false k5] at e ⊢
  simp only [cond_false] at e ⊢
  by_cases k6 : a.1 = 6
  · obtain ⟨r, e1, e2, _⟩ := swap_both h a.2.2.1 a.2.2.2.1 hl
    rw [decide_eq_true k6, e2] at e
    simp only [cond_true, Option.bind_some] at e
    have key : r.2.1 = true ∧ (decide (a.2.1.1 = 0) && (decide (a.2.1.2.1 = 0) && (decide (a.2.1.2.2.1 = 0) && true))) = true ∧ r'.1 = r.1 := by
      cases q1 : r.2.1 with
      | false => rw [q1] at e; rw [← Option.some.inj e] at hr; cases hr
      | true =>
        rw [q1] at e
        have e' := Option.some.inj e
        rw [← e'] at hr ⊢
        exact ⟨rfl, hr, rfl⟩
    obtain ⟨q1, q2, q4⟩ := key
    have hb := swap_back hl e2 q1
    rw [decide_eq_true k6, q4, q2, hb]
    rfl
  rw [decide_eq_false k6] at e ⊢
  simp only [cond_false] at e ⊢
  by_cases k7 : a.1 = 7
  · obtain ⟨r, e1, e2, _⟩ := other_both h hl
    rw [decide_eq_true k7, e2] at e
    simp only [cond_true, Option.bind_some] at e
    have key : r.2.1 = true ∧ (decide (a.2.1.1 = 0) && (decide (a.2.1.2.1 = 0) && (decide (a.2.1.2.2.1 = 0) && true))) = true ∧ a.2.2.1 = 0 ∧ a.2.2.2.1 = 0 ∧ r'.1 = r.1 := by
      cases q1 : r.2.1 with
      | false => rw [q1] at e; rw [← Option.some.inj e] at hr; cases hr
      | true =>
        rw [q1] at e
        simp only [cond_true] at e
        obtain ⟨z1, z2, z3, z4⟩ := and_two e hr
        exact ⟨rfl, z1, z2, z3, z4⟩
    obtain ⟨q1, q2, q3, q5, q4⟩ := key
    have hb := other_back hl e2 q1
    rw [decide_eq_true k7, q4, q2, hb]
    simp only [cond_true, Option.bind_some]
    rw [decide_eq_true q3, decide_eq_true q5]
    rfl
  rw [decide_eq_false k7] at e
  rw [← Option.some.inj e] at hr
  cases hr

theorem do_back (b : D_Bench) (a : D_Act) (hl : Small b.1.2.2.2.1) (ho : okBench b = true) {r : D_Bench × Bool × Unit} (hs : Small r.1.1.2.2.2.1) (g1 : okBench r.1 = true) {r' : D_Heap × Bool × Unit} (g4 : P_Act_act (a, b.1, ()) = some r') (g5 : r'.2.1 = true) (g6 : r'.1 = r.1.1) (k3 : a.1 ≠ 3) (k4 : a.1 ≠ 4) (hc : r.1.2.2.1 ≠ 1000) :
    ∃ b' : D_Bench, P_impl_DoAct (r.1, ((bif decide (a.1 = 1) then 2 else (bif decide (a.1 = 2) then 1 else a.1)), a.2), ()) = some (b', true, ()) ∧ b'.1 = b.1 := by
  have hb := act_back b.1 a hl g4 g5 k3 k4
  rw [g6] at hb
  obtain ⟨o1, ⟨o2, o3⟩, o4, o5⟩ := okBench_iff.1 g1
  obtain ⟨w1, _⟩ := okBench_iff.1 ho
  rw [p_impl_DoAct, f_impl_IsBench r.1 hs, g1, hb]
  simp only [Option.bind_some, Bool.not_true, cond_false]
  generalize hB : ((b.1, ((bif decide ((b.1.2.2.2.1.length : Int) < r.1.2.1) then (b.1.2.2.2.1.length : Int) else r.1.2.1), (IntKind.wrap .i64 (r.1.2.2.1 + 1), ()))) : D_Bench) = B
  have hok : okBench B = true := by
    rw [← hB]
    refine okBench_iff.2 ⟨w1, ?_, ?_⟩
    · simp only
      by_cases c : (b.1.2.2.2.1.length : Int) < r.1.2.1
      · rw [decide_eq_true c]; simp only [cond_true]; omega
      · rw [decide_eq_false c]; simp only [cond_false]; omega
    · simp only
      rw [w64 (by omega) (by omega)]
      omega
  have hBs : Small B.1.2.2.2.1 := by rw [← hB]; exact hl
  rw [f_impl_IsBench B hBs, hok]
  exact ⟨B, rfl, by rw [← hB]⟩

theorem act_full (b : D_Bench) (a : D_Act) (hl : Small b.1.2.2.2.1) : ∃ (c : D_Bench) (f : Bool), P_spec_DoAct (b, a, ()) = some (c, f, ()) ∧ P_impl_DoAct (b, a, ()) = some (c, f, ()) ∧ Small c.1.2.2.2.1 ∧ (f = true → okBench b = true ∧ okBench c = true ∧ c.2.1 ≤ b.2.1 ∧ c.2.2.1 = IntKind.wrap .i64 (b.2.2.1 + 1) ∧
    (a.1 ≠ 3 → a.1 ≠ 4 → c.2.2.1 ≠ 1000 → ∃ b' : D_Bench, P_impl_DoAct (c, ((bif decide (a.1 = 1) then 2 else (bif decide (a.1 = 2) then 1 else a.1)), a.2), ()) = some (b', true, ()) ∧ b'.1 = b.1)) := by
  cases ho : okBench b with
  | false =>
    rw [p_spec_DoAct, p_impl_DoAct, f_spec_l12Good b hl, f_impl_IsBench b hl, ho]
    exact ⟨noBench, false, rfl, rfl, small_nil, fun hh => by cases hh⟩
  | true =>
    obtain ⟨r, e1, e2, e3, e4⟩ := do_more b a hl ho
    rw [p_spec_DoAct, f_spec_l12Good b hl, ho, e1]
    refine ⟨r.1, r.2.1, rfl, e2, e3, fun hr => ?_⟩
    obtain ⟨g1, g2, g3, r', g4, g5, g6⟩ := e4 hr
    exact ⟨rfl, g1, g2, g3, fun k3 k4 hc => do_back b a hl ho e3 g1 g4 g5 g6 k3 k4 hc⟩

theorem law_Benches (C : List Int) (hb : ∀ b ∈ C, 0 ≤ b ∧ b ≤ 255) : P_laws_FnBenches (C, ()) = some (true, ()) := by
  rw [p_laws_FnBenches, p_laws_vBig]
  simp only [Option.bind_some]
  by_cases hbig : (C.length : Int) > 65536
  · rw [decide_eq_true hbig]; rfl
  have hC : Bts C := ⟨by omega, hb⟩
  rw [decide_eq_false hbig]
  simp only [cond_false]
  obtain ⟨C1, v1, hC1⟩ := f_vCut hC (by omega) 1 (by omega)
  obtain ⟨C2, v2, hC2⟩ := f_vCut hC (by omega) 2 (by omega)
  obtain ⟨h, d1, hl⟩ := d_NewBench hC
  obtain ⟨b, act, d2, bl⟩ := d_DoAct hC1
  obtain ⟨x, list, d3, xl, ll⟩ := d_DoActs hC2
  have n1 := f_spec_NewBench h hl
  have n2 := f_impl_NewBench h hl
  have n3 := f_vBench (newBench h).1 (newBench_small h hl)
  obtain ⟨c, fine, a1, a2, cl, a3⟩ := act_full b act bl
  obtain ⟨e, many, there, e1, e2, el, e3⟩ := acts_full x list xl ll
  have c3 := f_vBench c cl
  have e4 := f_vBench e el
  simp only [d1, n1, n2, v1, d2, a1, a2, v2, d3, e1, e2, n3, c3, e4, f_impl_IsBench b bl, p_spec_IsBench, f_spec_l12Good b bl, f_impl_IsBench e el, f_impl_IsBench c cl, Option.bind_some, beq_self_eq_true, decide_true, Bool.not_true, cond_false]
  have tail : (bif !fine then (some (true, ()) : Option (Bool × Unit)) else bif !okBench c then some (false, ()) else bif !decide (c.2.2.1 = IntKind.wrap .i64 (b.2.2.1 + 1)) then some (false, ()) else bif decide (c.2.1 > b.2.1) then some (false, ()) else bif decide (c.2.2.1 = 1000) then some (true, ()) else bif decide (act.1 = 3) then some (true, ()) else bif decide (act.1 = 4) then some (true, ()) else
      bif decide (act.1 = 1) then
        Option.bind (P_impl_DoAct (c, (2, act.2), ())) fun r39 => bif r39.2.1 then Option.bind (P_laws_vHeap (r39.1.1, b.1, ())) fun r41 => some (r41.1, ()) else some (false, ())
      else
        bif decide (act.1 = 2) then
          Option.bind (P_impl_DoAct (c, (1, act.2), ())) fun r40 => bif r40.2.1 then Option.bind (P_laws_vHeap (r40.1.1, b.1, ())) fun r42 => some (r42.1, ()) else some (false, ())
        else
          Option.bind (P_impl_DoAct (c, act, ())) fun r40 => bif r40.2.1 then Option.bind (P_laws_vHeap (r40.1.1, b.1, ())) fun r42 => some (r42.1, ()) else some (false, ())) = some (true, ()) := by
    cases fine with
    | false => rfl
    | true =>
      obtain ⟨g0, g1, g2, g3, g4⟩ := a3 rfl
      rw [g1, decide_eq_true g3, decide_eq_false (p := c.2.1 > b.2.1) (by omega)]
      simp only [Bool.not_true, cond_false]
      by_cases q1 : c.2.2.1 = 1000
      · rw [decide_eq_true q1]; rfl
      rw [decide_eq_false q1]
      by_cases q3 : act.1 = 3
      · rw [decide_eq_true q3]; rfl
      rw [decide_eq_false q3]
      by_cases q4 : act.1 = 4
      · rw [decide_eq_true q4]; rfl
      rw [decide_eq_false q4]
      simp only [cond_false]
      obtain ⟨b', k1, k2⟩ := g4 q3 q4 q1
      have hv := f_vHeap b.1 bl
      by_cases w1 : act.1 = 1
      · rw [decide_eq_true w1] at k1 ⊢
        simp only [cond_true] at k1 ⊢
        rw [k1]
        simp only [Option.bind_some, cond_true]
        rw [k2, hv]
        rfl
      rw [decide_eq_false w1] at k1 ⊢
      by_cases w2 : act.1 = 2
      · rw [decide_eq_true w2] at k1 ⊢
        simp only [cond_true, cond_false] at k1 ⊢
        rw [k1]
        simp only [Option.bind_some, cond_true]
        rw [k2, hv]
        rfl
      rw [decide_eq_false w2] at k1 ⊢
      simp only [cond_false] at k1 ⊢
      have k1' : P_impl_DoAct (c, act, ()) = some (b', true, ()) := k1
      rw [k1']
      simp only [Option.bind_some, cond_true]
      rw [k2, hv]
      rfl
  cases there with
  | false => exact tail
  | true =>
    obtain ⟨z1, z2⟩ := e3 rfl
    rw [z1, decide_eq_false (p := e.2.1 > x.2.1) (by omega)]
    simp only [cond_true, Bool.not_true, cond_false]
    exact tail
end Go.VI
