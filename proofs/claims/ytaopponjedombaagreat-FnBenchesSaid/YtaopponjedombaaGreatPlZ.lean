/- Plain: benches and acts that are drawn, and what acts lead to. -/
import Derived.Test.YtaopponjedombaaGreatPlY
import Derived.Test.YtaopponjedombaaGreatPlDa
namespace Go.VI
open Go.Proofs

/-! ### Acts that are drawn -/
theorem act_tail {C : List Int} (hC : Bts C) {n : Nat} {s : Sd} (h : At (n + 6) s) (f0 f1 f2 : Int → D_Act) (f3 : Int → Int → D_Act) (f4 : D_Act) : ∃ (a : D_Act) (s' : Sd),
    (Option.bind (P_l1Cur_pick ((C, s), 32, ())) fun r3 =>
      bif decide (r3.1.1 = 0) then
        Option.bind (P_l1Cur_among ((C, r3.2.1.2), ([(-1), 3, 1, 4611686018427387904] : List Int), ())) fun r5 =>
        some ((f0 r5.1.1, ()), ((C, r5.2.1.2), ()))
      else
        bif decide (r3.1.1 = 1) then
          Option.bind (P_l1Cur_among ((C, r3.2.1.2), ([(-1), 3, 1] : List Int), ())) fun r6 =>
          some ((f1 r6.1.1, ()), ((C, r6.2.1.2), ()))
        else
          bif decide (r3.1.1 = 2) then
            Option.bind (P_l1Cur_among ((C, r3.2.1.2), ([0, 8, (-1)] : List Int), ())) fun r7 =>
            some ((f2 r7.1.1, ()), ((C, r7.2.1.2), ()))
          else
            bif decide (r3.1.1 = 3) then
              Option.bind (P_l1Cur_pick ((C, r3.2.1.2), 3, ())) fun r8 =>
              Option.bind (P_l1Cur_among ((C, r8.2.1.2), ([(-1), 4, 1] : List Int), ())) fun r9 =>
              bif inB r8.1.1 3 then
                some ((f3 r8.1.1 r9.1.1, ()), ((C, r9.2.1.2), ()))
              else none
            else
              some ((f4, ()), ((C, r3.2.1.2), ()))) = some ((a, ()), ((C, s'), ())) ∧ At n s' := by
  obtain ⟨p, s1, e1, a1, _⟩ := f_pick hC (n := n + 4) h 32
  rw [e1]
  simp only [Option.bind_some]
  by_cases c0 : p = 0
  · obtain ⟨v, s2, e2, a2, _⟩ := f_among hC (n := n + 2) a1 [(-1), 3, 1, 4611686018427387904] (by decide)
    rw [decide_eq_true c0, e2]
    exact ⟨_, _, rfl, a2.le (by omega)⟩
  rw [decide_eq_false c0]
  by_cases c1 : p = 1
  · obtain ⟨v, s2, e2, a2, _⟩ := f_among hC (n := n + 2) a1 [(-1), 3, 1] (by decide)
    rw [decide_eq_true c1, e2]
    exact ⟨_, _, rfl, a2.le (by omega)⟩
  rw [decide_eq_false c1]
  by_cases c2 : p = 2
  · obtain ⟨v, s2, e2, a2, _⟩ := f_among hC (n := n + 2) a1 [0, 8, (-1)] (by decide)
    rw [decide_eq_true c2, e2]
    exact ⟨_, _, rfl, a2.le (by omega)⟩
  rw [decide_eq_false c2]
  by_cases c3 : p = 3
  · obtain ⟨q, s2, e2, a2, b1, b2⟩ := f_pick hC (n := n + 2) a1 3
    obtain ⟨v, s3, e3, a3, _⟩ := f_among hC (n := n) a2 [(-1), 4, 1] (by decide)
    rw [decide_eq_true c3, e2]
    simp only [cond_true, cond_false, Option.bind_some]
    rw [e3]
    simp only [Option.bind_some]
    rw [show inB q 3 = true by simp [inB]; omega]
    exact ⟨_, _, rfl, a3⟩
  rw [decide_eq_false c3]
  exact ⟨_, _, rfl, a1.le (by omega)⟩

theorem f_act12 {C : List Int} (hC : Bts C) {n : Nat} {s : Sd} (h : At (n + 22) s) (g : D_Heap) : ∃ (a : D_Act) (s' : Sd), P_l1Cur_act12 ((C, s), g, ()) = some ((a, ()), ((C, s'), ())) ∧ At n s' := by
  obtain ⟨k, s1, e1, a1, _⟩ := f_among hC (n := n + 20) h [1, 1, 1, 2, 2, 3, 4, 5, 6, 7] (by decide)
  rw [p_l1Cur_act12, e1]
  simp only [Option.bind_some]
  by_cases c1 : k = 1
  · obtain ⟨c, s2, e2, a2⟩ := f_cell hC (n := n + 8) a1 g
    rw [decide_eq_true c1, e2]
    exact act_tail hC (a2.le (by omega)) (fun v => (k, (c, (v, (0, ()))))) (fun v => (k, (c, (0, (v, ()))))) (fun v => (v, (c, (0, (0, ()))))) (fun i v => (k, (((bif decide (i = (0 : Int)) then v else c.1), ((bif decide (i = (1 : Int)) then v else c.2.1), ((bif decide (i = (2 : Int)) then v else c.2.2.1), ()))), (0, (0, ()))))) (k, (c, (0, (0, ()))))
  rw [decide_eq_false c1]
  by_cases c2 : k = 2
  · obtain ⟨c, s2, e2, a2⟩ := f_cube hC (n := n + 6) a1 g
    rw [decide_eq_true c2, e2]
    exact act_tail hC (a2.le (by omega)) (fun v => (k, (c, (v, (0, ()))))) (fun v => (k, (c, (0, (v, ()))))) (fun v => (v, (c, (0, (0, ()))))) (fun i v => (k, (((bif decide (i = (0 : Int)) then v else c.1), ((bif decide (i = (1 : Int)) then v else c.2.1), ((bif decide (i = (2 : Int)) then v else c.2.2.1), ()))), (0, (0, ()))))) (k, (c, (0, (0, ()))))
  rw [decide_eq_false c2]
  by_cases c5 : k = 5
  · obtain ⟨d, s2, e2, a2⟩ := f_direction hC (n := n + 16) a1
    rw [decide_eq_true c5, e2]
    exact act_tail hC (a2.le (by omega)) (fun v => (k, ((0, (0, (0, ()))), (v, (0, ()))))) (fun v => (k, ((0, (0, (0, ()))), (d, (v, ()))))) (fun v => (v, ((0, (0, (0, ()))), (d, (0, ()))))) (fun i v => (k, (((bif decide (i = (0 : Int)) then v else 0), ((bif decide (i = (1 : Int)) then v else 0), ((bif decide (i = (2 : Int)) then v else 0), ()))), (d, (0, ()))))) (k, ((0, (0, (0, ()))), (d, (0, ()))))
  rw [decide_eq_false c5]
  by_cases c6 : k = 6
  · obtain ⟨d, s2, e2, a2⟩ := f_direction hC (n := n + 16) a1
    obtain ⟨d', s3, e3, a3⟩ := f_direction hC (n := n + 12) a2
    rw [decide_eq_true c6, e2]
    simp only [cond_true, cond_false, Option.bind_some]
    rw [e3]
    exact act_tail hC (a3.le (by omega)) (fun v => (k, ((0, (0, (0, ()))), (v, (d', ()))))) (fun v => (k, ((0, (0, (0, ()))), (d, (v, ()))))) (fun v => (v, ((0, (0, (0, ()))), (d, (d', ()))))) (fun i v => (k, (((bif decide (i = (0 : Int)) then v else 0), ((bif decide (i = (1 : Int)) then v else 0), ((bif decide (i = (2 : Int)) then v else 0), ()))), (d, (d', ()))))) (k, ((0, (0, (0, ()))), (d, (d', ()))))
  rw [decide_eq_false c6]
  exact act_tail hC (a1.le (by omega)) (fun v => (k, ((0, (0, (0, ()))), (v, (0, ()))))) (fun v => (k, ((0, (0, (0, ()))), (0, (v, ()))))) (fun v => (v, ((0, (0, (0, ()))), (0, (0, ()))))) (fun i v => (k, (((bif decide (i = (0 : Int)) then v else 0), ((bif decide (i = (1 : Int)) then v else 0), ((bif decide (i = (2 : Int)) then v else 0), ()))), (0, (0, ()))))) (k, ((0, (0, (0, ()))), (0, (0, ()))))

/-! ### What an act makes -/
theorem do_more (b : D_Bench) (a : D_Act) (hl : Small b.1.2.2.2.1) (ho : okBench b = true) : ∃ r : D_Bench × Bool × Unit, P_spec_l12Do (b, a, ()) = some r ∧ P_impl_DoAct (b, a, ()) = some r ∧ Small r.1.1.2.2.2.1 ∧ (r.2.1 = true → okBench r.1 = true ∧ r.1.2.1 ≤ b.2.1 ∧ r.1.2.2.1 = IntKind.wrap .i64 (b.2.2.1 + 1) ∧ ∃ r', P_Act_act (a, b.1, ()) = some r' ∧ r'.2.1 = true ∧ r'.1 = r.1.1) := by
  obtain ⟨r, e1, e2, e3, e4⟩ := do_both b a hl ho
  refine ⟨r, e1, e2, e3, fun hr => ⟨e4 hr, ?_⟩⟩
  obtain ⟨_, _, r', _, _, g3, _⟩ := make_both b.1 a hl
  rw [p_impl_DoAct, f_impl_IsBench b hl, ho, g3] at e2
  simp only [Option.bind_some, Bool.not_true, cond_false] at e2
  cases hr' : r'.2.1 with
  | false => rw [hr'] at e2; exact (some_bool e2 hr).elim
  | true =>
    rw [hr'] at e2
    simp only [Bool.not_true, cond_false] at e2
    generalize hp : P_impl_IsBench _ = o at e2
    match o, e2 with
    | none, e2 => cases e2
    | some (false, ()), e2 => exact (some_bool e2 hr).elim
    | some (true, ()), e2 =>
      have e2' := Option.some.inj e2
      rw [← e2']
      refine ⟨?_, rfl, r', g3, hr', rfl⟩
      show (bif decide ((r'.1.2.2.2.1.length : Int) < b.2.1) then (r'.1.2.2.2.1.length : Int) else b.2.1) ≤ b.2.1
      by_cases c : (r'.1.2.2.2.1.length : Int) < b.2.1
      · rw [decide_eq_true c]; simp only [cond_true]; omega
      · rw [decide_eq_false c]; simp

theorem okBench_iff {b : D_Bench} : okBench b = true ↔ okHeap b.1 = true ∧ (0 ≤ b.2.1 ∧ b.2.1 ≤ (b.1.2.2.2.1.length : Int)) ∧ (0 ≤ b.2.2.1 ∧ b.2.2.1 ≤ 1000) := by
  simp only [okBench, okBench.within3one, Bool.and_eq_true, decide_eq_true_eq]
  constructor
  · rintro ⟨⟨h1, h2⟩, h3⟩; exact ⟨h1, h2, h3⟩
  · rintro ⟨h1, h2, h3⟩; exact ⟨⟨h1, h2⟩, h3⟩

theorem okBench_len {b : D_Bench} (h : okBench b = true) : b.1.2.2.2.1.length ≤ 64 := by
  obtain ⟨h1, _⟩ := okBench_iff.1 h
  obtain ⟨hs, hi, hr⟩ := okHeap_iff.1 h1
  exact srt_small64 hs hi hr

/-! ### Benches that are drawn -/
theorem l_bench0 {C : List Int} (hC : Bts C) (ok : Bool) : ∀ (m n : Nat) (s : Sd) (b : D_Bench), b.1.2.2.2.1.length ≤ 64 → At (n + 4) s →
    ∃ (b' : D_Bench) (s' : Sd), l_l1Cur_bench_4 (m + 1) 0 0 0 [] 0 0 b.1.1 b.1.2.1 b.1.2.2.1 b.1.2.2.2.1 b.2.1 b.2.2.1 C s.1 s.2.1 ok 0 = some ((b', ()), ((C, s'), ())) ∧ At n s' ∧ b'.1.2.2.2.1.length ≤ 65 := by
  intro m n s b hb ha
  obtain ⟨p, s1, e1, a1, _⟩ := f_pick hC (n := n + 2) (s := s) ha 48
  have e1' : P_l1Cur_pick ((C, (s.1, (s.2.1, ()))), 48, ()) = _ := e1
  rw [q_l1Cur_bench_4, decide_eq_false (p := (0 : Int) > 0) (by decide), e1']
  simp only [cond_false, Option.bind_some]
  by_cases c0 : p = 0
  · obtain ⟨v, s2, e2, a2, _⟩ := f_among hC (n := n) a1 [(-1), 1000, 1001] (by decide)
    rw [decide_eq_true c0, e2]
    exact ⟨_, _, rfl, a2, Nat.le_trans hb (by omega)⟩
  rw [decide_eq_false c0]
  by_cases c1 : p = 1
  · obtain ⟨v, s2, e2, a2, _⟩ := f_among hC (n := n) a1 [(-1), (IntKind.wrap .i64 ((b.1.2.2.2.1.length : Int) + 1)), 0] (by simp)
    rw [decide_eq_true c1, e2]
    exact ⟨_, _, rfl, a2, Nat.le_trans hb (by omega)⟩
  rw [decide_eq_false c1]
  by_cases c2 : p = 2
  · rw [decide_eq_true c2, own1 _ (small64 hb), app_len' (l := ([] : List D_A3) ++ b.1.2.2.2.1) (by simp; omega)]
    exact ⟨_, _, rfl, a1.le (by omega), by simp; omega⟩
  rw [decide_eq_false c2]
  by_cases c3 : p = 3
  · obtain ⟨v, s2, e2, a2, _⟩ := f_among hC (n := n) a1 [0, 5, 4] (by decide)
    rw [decide_eq_true c3, e2]
    exact ⟨_, _, rfl, a2, Nat.le_trans hb (by omega)⟩
  rw [decide_eq_false c3]
  exact ⟨_, _, rfl, a1.le (by omega), Nat.le_trans hb (by omega)⟩

theorem l_bench {C : List Int} (hC : Bts C) : ∀ (k m n : Nat) (s : Sd) (b : D_Bench) (ok : Bool), k < m → k ≤ 1000 → b.1.2.2.2.1.length ≤ 64 → (ok = true → okBench b = true) → At (n + 22 * k + 4) s →
    ∃ (b' : D_Bench) (s' : Sd), l_l1Cur_bench_4 m 0 0 0 [] 0 0 b.1.1 b.1.2.1 b.1.2.2.1 b.1.2.2.2.1 b.2.1 b.2.2.1 C s.1 s.2.1 ok (k : Int) = some ((b', ()), ((C, s'), ())) ∧ At n s' ∧ b'.1.2.2.2.1.length ≤ 65
  | k, 0, n, s, b, ok, h, _, _, _, _ => by omega
  | 0, m + 1, n, s, b, ok, hm, _, hb, ho, ha => l_bench0 hC ok m n s b hb (ha.le (by omega))
  | k + 1, m + 1, n, s, b, ok, hm, hk, hb, ho, ha => by
    cases ok with
    | false =>
      have e : l_l1Cur_bench_4 (m + 1) 0 0 0 [] 0 0 b.1.1 b.1.2.1 b.1.2.2.1 b.1.2.2.2.1 b.2.1 b.2.2.1 C s.1 s.2.1 false ((k + 1 : Nat) : Int) = l_l1Cur_bench_4 (m + 1) 0 0 0 [] 0 0 b.1.1 b.1.2.1 b.1.2.2.1 b.1.2.2.2.1 b.2.1 b.2.2.1 C s.1 s.2.1 false 0 := by
        rw [q_l1Cur_bench_4, q_l1Cur_bench_4, decide_eq_true (p := ((k + 1 : Nat) : Int) > 0) (by omega), decide_eq_false (p := (0 : Int) > 0) (by decide)]
        rfl
      rw [e]
      exact l_bench0 hC false m n s b hb (ha.le (by omega))
    | true =>
      have hob := ho rfl
      obtain ⟨a, s1, e1, a1⟩ := f_act12 hC (n := n + 22 * k + 4) (s := s) (ha.le (by omega)) b.1
      have e1' : P_l1Cur_act12 ((C, (s.1, (s.2.1, ()))), (b.1.1, (b.1.2.1, (b.1.2.2.1, (b.1.2.2.2.1, ())))), ()) = _ := e1
      obtain ⟨r, d1, _, d3, d4⟩ := do_both b a (small64 hb) hob
      have d1' : P_spec_l12Do (((b.1.1, (b.1.2.1, (b.1.2.2.1, (b.1.2.2.2.1, ())))), (b.2.1, (b.2.2.1, ()))), a, ()) = some r := d1
      have hk1 : IntKind.wrap .i64 (((k + 1 : Nat) : Int) - 1) = (k : Int) := by rw [w64 (by omega) (by omega)]; omega
      rw [q_l1Cur_bench_4, decide_eq_true (p := ((k + 1 : Nat) : Int) > 0) (by omega), e1']
      simp only [cond_true, Option.bind_some]
      rw [d1', hk1]
      simp only [Option.bind_some]
      cases hr : r.2.1 with
      | false => exact l_bench hC k m n s1 b true (by omega) (by omega) hb ho a1
      | true => exact l_bench hC k m n s1 r.1 true (by omega) (by omega) (okBench_len (d4 hr)) (fun _ => d4 hr) a1

theorem f_bench {C : List Int} (hC : Bts C) {n : Nat} {s : Sd} (h : At (n + 300) s) : ∃ (b : D_Bench) (s' : Sd), P_l1Cur_bench ((C, s), ()) = some ((b, ()), ((C, s'), ())) ∧ At n s' ∧ b.1.2.2.2.1.length ≤ 65 := by
  obtain ⟨x, s1, e1, a1, _⟩ := f_among hC (n := n + 298) h [2, 3, 2, 1] (by decide)
  obtain ⟨y, s2, e2, a2, _⟩ := f_among hC (n := n + 296) a1 [2, 2, 3, 1] (by decide)
  obtain ⟨z, s3, e3, a3, _⟩ := f_among hC (n := n + 294) a2 [2, 3, 2, 1] (by decide)
  obtain ⟨g, s4, e4, a4, hg⟩ := f_someHeap hC (n := n + 162) a3 x y z
  obtain ⟨p, s5, e5, a5, b1, b2⟩ := f_pick hC (n := n + 160) a4 7
  rw [p_l1Cur_bench, e1]
  simp only [Option.bind_some]
  rw [e2]
  simp only [Option.bind_some]
  rw [e3]
  simp only [Option.bind_some]
  rw [e4]
  simp only [Option.bind_some]
  rw [f_spec_NewBench g (small64 hg)]
  simp only [Option.bind_some]
  rw [e5]
  simp only [Option.bind_some]
  obtain ⟨k, rfl⟩ : ∃ k : Nat, p = (k : Int) := ⟨p.toNat, by omega⟩
  have hlen : (newBench g).1.1.2.2.2.1.length ≤ 64 := by
    unfold newBench
    split
    · exact hg
    · simp [noBench]
  have hok : (newBench g).2.1 = true → okBench (newBench g).1 = true := by
    unfold newBench
    split
    · rename_i ho
      intro _
      exact okBench_iff.2 ⟨ho, ⟨by simp only; omega, by simp only; omega⟩, by simp⟩
    · intro hh
      cases hh
  exact l_bench hC k N n s5 (newBench g).1 (newBench g).2.1 (by have := N_ge; omega) (by omega) hlen hok (a5.le (by omega))

theorem at00 (n : Nat) (h : n ≤ 1000000) : At n ((0, 0, ()) : Sd) := ⟨by simp only; omega, by simp only; omega⟩

theorem d_NewBench {C : List Int} (hC : Bts C) : ∃ g : D_Heap, P_spec_DrawNewBench (C, ()) = some (g, ()) ∧ Small g.2.2.2.1 := by
  obtain ⟨g, s1, e1, a1, hg⟩ := f_heap hC (n := 1000) (at00 _ (by omega))
  rw [p_spec_DrawNewBench, e1]
  exact ⟨g, rfl, by unfold Small; omega⟩

theorem d_DoAct {C : List Int} (hC : Bts C) : ∃ (b : D_Bench) (a : D_Act), P_spec_DrawDoAct (C, ()) = some (b, a, ()) ∧ Small b.1.2.2.2.1 := by
  obtain ⟨b, s1, e1, a1, hb⟩ := f_bench hC (n := 1000) (at00 _ (by omega))
  obtain ⟨a, s2, e2, a2⟩ := f_act12 hC (n := 978) a1 b.1
  rw [p_spec_DrawDoAct, e1]
  simp only [Option.bind_some]
  rw [e2]
  exact ⟨_, _, rfl, by unfold Small; omega⟩

theorem l_dda {C : List Int} (hC : Bts C) (b : D_Bench) : ∀ (k m : Nat) (s : Sd) (now : D_Bench) (l : List D_Act), k < m → l.length + k ≤ 1000 → Small now.1.2.2.2.1 → At (22 * k) s →
    ∃ l' : List D_Act, l_spec_DrawDoActs_6 m 0 0 0 [] 0 0 b.1.1 b.1.2.1 b.1.2.2.1 b.1.2.2.2.1 b.2.1 b.2.2.1 now.1.1 now.1.2.1 now.1.2.2.1 now.1.2.2.2.1 now.2.1 now.2.2.1 C s.1 s.2.1 l (k : Int) = some (b, l', ()) ∧ l'.length ≤ 1000
  | k, 0, s, now, l, h, _, _, _ => by omega
  | 0, m + 1, s, now, l, hm, hl, hn, ha => by
    rw [q_spec_DrawDoActs_6, decide_eq_false (by omega)]
    exact ⟨l, rfl, by omega⟩
  | k + 1, m + 1, s, now, l, hm, hl, hn, ha => by
    have g1 : P_spec_l12Good (((now.1.1, (now.1.2.1, (now.1.2.2.1, (now.1.2.2.2.1, ())))), (now.2.1, (now.2.2.1, ()))), ()) = _ := f_spec_l12Good now hn
    rw [q_spec_DrawDoActs_6, decide_eq_true (by omega), g1]
    simp only [cond_true, Option.bind_some]
    cases ho : okBench now with
    | false => exact ⟨l, rfl, by omega⟩
    | true =>
      obtain ⟨a, s1, e1, a1⟩ := f_act12 hC (n := 22 * k) (s := s) (ha.le (by omega)) now.1
      have e1' : P_l1Cur_act12 ((C, (s.1, (s.2.1, ()))), (now.1.1, (now.1.2.1, (now.1.2.2.1, (now.1.2.2.2.1, ())))), ()) = _ := e1
      obtain ⟨r, d1, _, d3, d4⟩ := do_both now a hn ho
      have d1' : P_spec_l12Do (((now.1.1, (now.1.2.1, (now.1.2.2.1, (now.1.2.2.2.1, ())))), (now.2.1, (now.2.2.1, ()))), a, ()) = some r := d1
      have hk1 : IntKind.wrap .i64 (((k + 1 : Nat) : Int) - 1) = (k : Int) := by rw [w64 (by omega) (by omega)]; omega
      simp only [cond_true]
      rw [e1']
      simp only [Option.bind_some]
      rw [d1', hk1, decide_eq_true (p := (l.length + ([a] : List D_Act).length) * 48 ≤ 140737488355328) (by simp only [List.length_singleton]; omega), decide_eq_true (p := l.length + ([a] : List D_Act).length ≤ 140737488355328) (by simp only [List.length_singleton]; omega)]
      simp only [Bool.and_self, cond_true, Option.bind_some]
      cases hr : r.2.1 with
      | false => exact l_dda hC b k m s1 now (l ++ [a]) (by omega) (by simp; omega) hn a1
      | true => exact l_dda hC b k m s1 r.1 (l ++ [a]) (by omega) (by simp; omega) d3 a1

theorem d_DoActs {C : List Int} (hC : Bts C) : ∃ (b : D_Bench) (l : List D_Act), P_spec_DrawDoActs (C, ()) = some (b, l, ()) ∧ Small b.1.2.2.2.1 ∧ Small l := by
  obtain ⟨b, s1, e1, a1, hb⟩ := f_bench hC (n := 1000) (at00 _ (by omega))
  obtain ⟨p, s2, e2, a2, b1, b2⟩ := f_pick hC (n := 998) a1 6
  rw [p_spec_DrawDoActs, e1]
  simp only [Option.bind_some]
  rw [e2]
  simp only [Option.bind_some]
  obtain ⟨k, rfl⟩ : ∃ k : Nat, p = (k : Int) := ⟨p.toNat, by omega⟩
  obtain ⟨l', e3, h3⟩ := l_dda hC b k N s2 b [] (by have := N_ge; omega) (by simp; omega) (by unfold Small; omega) (a2.le (by omega))
  rw [e3]
  exact ⟨_, _, rfl, by unfold Small; omega, by unfold Small; omega⟩

theorem wrap8 (x : Int) : 0 ≤ IntKind.wrap .u8 x ∧ IntKind.wrap .u8 x ≤ 255 := by
  have : IntKind.wrap .u8 x = x % 256 := by simp [IntKind.wrap, IntKind.bits, IntKind.signed]
  rw [this]
  omega

theorem f_vCut {C : List Int} (hC : Bts C) (hn : C.length ≤ 65536) (k : Int) (k0 : 0 ≤ k) : ∃ C' : List Int, P_laws_vCut (C, k, ()) = some (C', ()) ∧ Bts C' := by
  have key : ∀ lo : Int, 0 ≤ lo → lo ≤ (C.length : Int) → ∀ v : Int, Bts ((([] : List Int) ++ (cut C lo (C.length : Int))) ++ ([(IntKind.wrap .u8 v)] : List Int)) ∧ (cut C lo (C.length : Int)).length ≤ 65536 := by
    intro lo l0 l1 v
    have hlen : (cut C lo (C.length : Int)).length ≤ 65536 := by
      unfold cut
      rw [List.length_drop, List.length_take]
      omega
    refine ⟨⟨by simp only [List.nil_append, List.length_append, List.length_singleton]; omega, fun b hb => ?_⟩, hlen⟩
    rcases List.mem_append.1 hb with hb | hb
    · have hb' : b ∈ cut C lo (C.length : Int) := by simpa using hb
      unfold cut at hb'
      exact hC.2 b (List.mem_of_mem_take (List.mem_of_mem_drop hb'))
    · rw [List.mem_singleton.1 hb]
      exact wrap8 v
  rw [p_laws_vCut]
  by_cases c : k > (C.length : Int)
  · obtain ⟨h1, h2⟩ := key (C.length : Int) (by omega) (by omega) (C.length : Int)
    rw [decide_eq_true c, decide_eq_true (p := (0 : Int) ≤ (C.length : Int)) (by omega), decide_eq_true (p := (C.length : Int) ≤ (C.length : Int)) (by omega)]
    rw [decide_eq_true (p := (([] : List Int).length + (cut C (C.length : Int) (C.length : Int)).length) * 1 ≤ 140737488355328) (by simp only [List.length_nil]; omega), decide_eq_true (p := ([] : List Int).length + (cut C (C.length : Int) (C.length : Int)).length ≤ 140737488355328) (by simp only [List.length_nil]; omega)]
    rw [decide_eq_true (p := ((([] : List Int) ++ cut C (C.length : Int) (C.length : Int)).length + ([(IntKind.wrap .u8 (C.length : Int))] : List Int).length) * 1 ≤ 140737488355328) (by simp only [List.nil_append, List.length_singleton]; omega), decide_eq_true (p := (([] : List Int) ++ cut C (C.length : Int) (C.length : Int)).length + ([(IntKind.wrap .u8 (C.length : Int))] : List Int).length ≤ 140737488355328) (by simp only [List.nil_append, List.length_singleton]; omega)]
    exact ⟨_, rfl, h1⟩
  · obtain ⟨h1, h2⟩ := key k k0 (by omega) k
    rw [decide_eq_false c, decide_eq_true (p := (0 : Int) ≤ k) k0, decide_eq_true (p := k ≤ (C.length : Int)) (by omega), decide_eq_true (p := (C.length : Int) ≤ (C.length : Int)) (by omega)]
    rw [decide_eq_true (p := (([] : List Int).length + (cut C k (C.length : Int)).length) * 1 ≤ 140737488355328) (by simp only [List.length_nil]; omega), decide_eq_true (p := ([] : List Int).length + (cut C k (C.length : Int)).length ≤ 140737488355328) (by simp only [List.length_nil]; omega)]
    rw [decide_eq_true (p := ((([] : List Int) ++ cut C k (C.length : Int)).length + ([(IntKind.wrap .u8 k)] : List Int).length) * 1 ≤ 140737488355328) (by simp only [List.nil_append, List.length_singleton]; omega), decide_eq_true (p := (([] : List Int) ++ cut C k (C.length : Int)).length + ([(IntKind.wrap .u8 k)] : List Int).length ≤ 140737488355328) (by simp only [List.nil_append, List.length_singleton]; omega)]
    exact ⟨_, rfl, h1⟩
end Go.VI
