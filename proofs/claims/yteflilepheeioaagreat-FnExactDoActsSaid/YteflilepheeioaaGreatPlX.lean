/- Plain: the laws of acts. -/
import Derived.Test.YteflilepheeioaaGreatPlW
import Derived.Test.YteflilepheeioaaGreatPlB
namespace Go.VI
open Go.Proofs

theorem bif3 {α : Type} (x y z : Bool) (h : α) : (bif x then bif y then some (h, z, ()) else some (h, false, ()) else some (h, false, ())) = some (h, x && (y && z), ()) := by
  cases x <;> cases y <;> rfl
theorem bif4 {α : Type} (x y z w : Bool) (h : α) : (bif x then bif y then bif z then some (h, w, ()) else some (h, false, ()) else some (h, false, ()) else some (h, false, ())) = some (h, x && (y && (z && w)), ()) := by
  cases x <;> cases y <;> cases z <;> rfl
theorem bif2 {α : Type} (x z : Bool) (h : α) : (bif x then some (h, z, ()) else some (h, false, ())) = some (h, x && z, ()) := by
  cases x <;> rfl
theorem bifp (x z : Bool) : (bif x then some (z, ()) else some (false, ())) = some (x && z, ()) := by cases x <;> rfl
theorem bifp3 (x y z : Bool) : (bif x then bif y then some (z, ()) else some (false, ()) else some (false, ())) = some (x && (y && z), ()) := by cases x <;> cases y <;> rfl

theorem make_both (h : D_Heap) (a : D_Act) (hl : Small h.2.2.2.1) : ∃ (r : D_Heap × Bool × Unit) (b : Bool) (r' : D_Heap × Bool × Unit), P_spec_l12Make (h, a, ()) = some r ∧ P_spec_l12Plain (a, ()) = some (b, ()) ∧ P_Act_act (a, h, ()) = some r' ∧ r'.2.1 = (r.2.1 && b) ∧ (r.2.1 = true → r'.1 = r.1) ∧ Small r.1.2.2.2.1 ∧ Small r'.1.2.2.2.1 := by
  rw [p_spec_l12Make, p_spec_l12Plain, p_Act_act]
  by_cases k1 : a.1 = 1
  · obtain ⟨r, e1, e2, e3⟩ := put_both h a.2.1 hl
    rw [decide_eq_true k1, e1, e2]
    simp only [cond_true, Option.bind_some]
    rw [bif3, bifp]
    exact ⟨r, _, _, rfl, rfl, rfl, rfl, fun _ => rfl, e3, e3⟩
  rw [decide_eq_false k1]
  simp only [cond_false]
  by_cases k2 : a.1 = 2
  · obtain ⟨r, e1, e2, e3⟩ := take_both h a.2.1 hl
    rw [decide_eq_true k2, e1, e2]
    simp only [cond_true, Option.bind_some]
    rw [bif3, bifp]
    exact ⟨r, _, _, rfl, rfl, rfl, rfl, fun _ => rfl, e3, e3⟩
  rw [decide_eq_false k2]
  simp only [cond_false]
  by_cases k3 : a.1 = 3
  · obtain ⟨r, e1, e2, e3⟩ := drop_both h hl
    rw [decide_eq_true k3, e1, e2, decide_eq_false (p := a.1 = 5) (by omega), decide_eq_false (p := a.1 = 6) (by omega)]
    simp only [cond_true, cond_false, Option.bind_some]
    rw [bif4, bifp3]
    exact ⟨r, _, _, rfl, rfl, rfl, rfl, fun _ => rfl, e3, e3⟩
  rw [decide_eq_false k3]
  simp only [cond_false]
  by_cases k4 : a.1 = 4
  · obtain ⟨r, e1, e2, e3⟩ := sink_both h hl
    rw [decide_eq_true k4, e1, e2, decide_eq_false (p := a.1 = 5) (by omega), decide_eq_false (p := a.1 = 6) (by omega)]
    simp only [cond_true, cond_false, Option.bind_some]
    rw [bif4, bifp3]
    exact ⟨(r.1, r.2.2.1, ()), _, _, rfl, rfl, rfl, rfl, fun _ => rfl, e3, e3⟩
  rw [decide_eq_false k4]
  simp only [cond_false]
  by_cases k5 : a.1 = 5
  · obtain ⟨r, e1, e2, e3⟩ := mirror_both h a.2.2.1 hl
    rw [decide_eq_true k5, e1, e2]
    simp only [cond_true, cond_false, Option.bind_some]
    rw [bif3, bifp]
    exact ⟨r, _, _, rfl, rfl, rfl, rfl, fun _ => rfl, e3, e3⟩
  rw [decide_eq_false k5]
  simp only [cond_false]
  by_cases k6 : a.1 = 6
  · obtain ⟨r, e1, e2, e3⟩ := swap_both h a.2.2.1 a.2.2.2.1 hl
    rw [decide_eq_true k6, e1, e2]
    simp only [cond_true, cond_false, Option.bind_some]
    rw [bif2]
    exact ⟨r, _, _, rfl, rfl, rfl, rfl, fun _ => rfl, e3, e3⟩
  rw [decide_eq_false k6]
  simp only [cond_false]
  by_cases k7 : a.1 = 7
  · obtain ⟨r, e1, e2, e3⟩ := other_both h hl
    rw [decide_eq_true k7, e1, e2]
    simp only [cond_true, cond_false, Option.bind_some]
    rw [bif4, bifp3]
    exact ⟨r, _, _, rfl, rfl, rfl, rfl, fun _ => rfl, e3, e3⟩
  rw [decide_eq_false k7]
  simp only [cond_false]
  rw [bifp3]
  exact ⟨(h, false, ()), _, (noHeap, false, ()), rfl, rfl, rfl, rfl, (fun hh => by cases hh), hl, small_no⟩

theorem f_spec_l12Good (b : D_Bench) (hl : Small b.1.2.2.2.1) : P_spec_l12Good (b, ()) = some (okBench b, ()) := by
  rw [p_spec_l12Good, f_spec_l2Heap _ hl]
  simp only [Option.bind_some, f_in0, okBench, okBench.within3one]
  cases okHeap b.1 <;> simp
  cases decide (0 ≤ b.2.2.1) <;> cases decide (b.2.2.1 ≤ 1000) <;> simp

theorem do_both (b : D_Bench) (a : D_Act) (hl : Small b.1.2.2.2.1) (ho : okBench b = true) : ∃ r : D_Bench × Bool × Unit, P_spec_l12Do (b, a, ()) = some r ∧ P_impl_DoAct (b, a, ()) = some r ∧ Small r.1.1.2.2.2.1 ∧ (r.2.1 = true → okBench r.1 = true) := by
  obtain ⟨r, pl, r', e1, e2, e3, e4, e5, e6, e7⟩ := make_both b.1 a hl
  rw [p_spec_l12Do, p_impl_DoAct, f_impl_IsBench b hl, ho, e1, e2, e3]
  simp only [Option.bind_some, Bool.not_true, cond_false]
  rw [e4]
  cases hr : r.2.1 with
  | false => exact ⟨(noBench, false, ()), rfl, rfl, small_nil, fun hh => by cases hh⟩
  | true =>
    cases pl with
    | false => exact ⟨(noBench, false, ()), rfl, rfl, small_nil, fun hh => by cases hh⟩
    | true =>
      have e5 := e5 hr
      rw [e5]
      simp only [Bool.and_self, Bool.not_true, cond_false]
      have el : P_spec_l1Least (b.2.1, (r.1.2.2.2.1.length : Int), ()) = some ((bif decide ((r.1.2.2.2.1.length : Int) < b.2.1) then (r.1.2.2.2.1.length : Int) else b.2.1), ()) := by
        rw [p_spec_l1Least]
        by_cases h1 : b.2.1 < (r.1.2.2.2.1.length : Int)
        · rw [decide_eq_true h1, decide_eq_false (by omega)]; rfl
        · by_cases h2 : (r.1.2.2.2.1.length : Int) < b.2.1
          · rw [decide_eq_false h1, decide_eq_true h2]; rfl
          · rw [decide_eq_false h1, decide_eq_false h2]
            have : (r.1.2.2.2.1.length : Int) = b.2.1 := by omega
            simp [this]
      rw [el]
      simp only [Option.bind_some]
      generalize hB : ((r.1, ((bif decide ((r.1.2.2.2.1.length : Int) < b.2.1) then (r.1.2.2.2.1.length : Int) else b.2.1), (IntKind.wrap .i64 (b.2.2.1 + 1), ()))) : D_Bench) = B
      have hBs : Small B.1.2.2.2.1 := by rw [← hB]; exact e6
      rw [f_spec_l12Good B hBs, f_impl_IsBench B hBs]
      simp only [Option.bind_some]
      cases hk : okBench B with
      | false => exact ⟨(noBench, false, ()), rfl, rfl, small_nil, fun hh => by cases hh⟩
      | true =>
        simp only [Bool.not_true, cond_false]
        rw [f_spec_l12Own B hBs]
        exact ⟨(B, true, ()), rfl, rfl, hBs, fun _ => hk⟩

theorem doAct_both (b : D_Bench) (a : D_Act) (hl : Small b.1.2.2.2.1) : ∃ r : D_Bench × Bool × Unit, P_spec_DoAct (b, a, ()) = some r ∧ P_impl_DoAct (b, a, ()) = some r ∧ Small r.1.1.2.2.2.1 := by
  cases ho : okBench b with
  | false =>
    rw [p_spec_DoAct, p_impl_DoAct, f_spec_l12Good b hl, f_impl_IsBench b hl, ho]
    exact ⟨(noBench, false, ()), rfl, rfl, small_nil⟩
  | true =>
    obtain ⟨r, e1, e2, e3, _⟩ := do_both b a hl ho
    rw [p_spec_DoAct, f_spec_l12Good b hl, ho, e1]
    exact ⟨r, rfl, e2, e3⟩

theorem f_toAct (a : D_Act) : P_laws_toAct (a, ()) = some (a, ()) := by
  rw [p_laws_toAct, f_toIntA3]
  rfl

theorem law_DoAct (b : D_Bench) (a : D_Act) (hl : b.1.2.2.2.1.length ≤ 9223372036854775807) : P_laws_FnExactDoAct (b, a, ()) = some (true, ()) := by
  obtain ⟨z, hz, _, hor⟩ := f_szBench b 1048576 (by omega) (by omega) hl
  rw [p_laws_FnExactDoAct, hz]
  simp only [Option.bind_some]
  by_cases hn : z < 0
  · simp [hn]
  · have hs := hor.resolve_left hn
    obtain ⟨r, e1, e2, e3⟩ := doAct_both b a hs
    have h1 : ¬ (1 + 3 * (b.1.2.2.2.1.length : Int)) < 0 := by omega
    have h2 : ¬ (1 + 3 * (r.1.1.2.2.2.1.length : Int)) < 0 := by omega
    simp only [hn, f_toBench b hs, f_toAct, e1, e2, f_eqBench _ e3, f_eqBench b hs, f_markBench b hs, f_markBench _ e3, Option.bind_some, decide_false, cond_false, Bool.not_true, beq_self_eq_true, h1]
    rw [f_heldBench _ r.1.1.2.2.2.1 e3 rfl]
    simp only [h2, Option.bind_some, decide_false, decide_true, cond_false, Bool.not_true]

/-! ### Lists of acts -/
theorem l_acts (l : List D_Act) (hl : Small l) : ∀ (d i m : Nat) (b : D_Bench), l.length = i + d → d < m → Small b.1.2.2.2.1 → okBench b = true →
    ∃ r : D_Bench × Int × Bool × Unit, l_spec_DoActs_5 m 0 0 0 [] 0 0 b.1.1 b.1.2.1 b.1.2.2.1 b.1.2.2.2.1 b.2.1 b.2.2.1 l (i : Int) = some r ∧ l_impl_DoActs_5 m b.1.1 b.1.2.1 b.1.2.2.1 b.1.2.2.2.1 b.2.1 b.2.2.1 0 0 0 [] 0 0 l l (l.length : Int) (i : Int) = some r ∧ Small r.1.1.2.2.2.1
  | d, i, 0, b, _, h, _, _ => by omega
  | d, i, m + 1, b, hk, hm, hb, ho => by
    have hl' := hl
    unfold Small at hl'
    rw [q_spec_DoActs_5, q_impl_DoActs_5]
    by_cases hlt : i < l.length
    · rw [ltT hlt, inB_at hlt, nthA (t := T_Act) hlt, succI i (by omega)]
      obtain ⟨r, e1, e2, e3, e4⟩ := do_both b l[i] hb ho
      have e1' : P_spec_l12Do (((b.1.1, (b.1.2.1, (b.1.2.2.1, (b.1.2.2.2.1, ())))), (b.2.1, (b.2.2.1, ()))), l[i], ()) = some r := e1
      have e2' : P_impl_DoAct (((b.1.1, (b.1.2.1, (b.1.2.2.1, (b.1.2.2.2.1, ())))), (b.2.1, (b.2.2.1, ()))), l[i], ()) = some r := e2
      simp only [cond_true]
      rw [e1', e2']
      simp only [Option.bind_some]
      cases hr : r.2.1 with
      | false => exact ⟨(b, (i : Int), true, ()), rfl, rfl, hb⟩
      | true =>
        simp only [Bool.not_true, cond_false]
        exact l_acts l hl (d - 1) (i + 1) m r.1 (by omega) (by omega) e3 (e4 hr)
    · rw [ltF hlt]
      exact ⟨(b, (l.length : Int), true, ()), rfl, rfl, hb⟩

theorem doActs_both (b : D_Bench) (l : List D_Act) (hb : Small b.1.2.2.2.1) (hl : Small l) : ∃ r : D_Bench × Int × Bool × Unit, P_spec_DoActs (b, l, ()) = some r ∧ P_impl_DoActs (b, l, ()) = some r ∧ Small r.1.1.2.2.2.1 := by
  rw [p_spec_DoActs, p_impl_DoActs, f_spec_l12Good b hb, f_impl_IsBench b hb]
  cases ho : okBench b with
  | false => exact ⟨(noBench, 0, false, ()), rfl, rfl, small_nil⟩
  | true =>
    simp only [Option.bind_some, Bool.not_true, cond_false]
    rw [f_spec_l12Own b hb, f_Bench_own b hb]
    simp only [Option.bind_some]
    exact l_acts l hl l.length 0 N b (by simp) (by unfold Small at hl; have := N_ge; omega) hb ho

theorem l_toActS (l : List D_Act) (hl : Small l) : ∀ (d k m : Nat) (acc : List D_Act), l.length = k + d → d < m → acc.length = l.length → acc.take k = l.take k → l_laws_toActS_3 m l acc (k : Int) = some (l, ())
  | d, k, 0, acc, hk, hm, _, _ => by omega
  | d, k, m + 1, acc, hk, hm, ha, ht => by
    have hl' := hl
    unfold Small at hl'
    rw [q_laws_toActS_3]
    by_cases hlt : k < l.length
    · rw [ltT hlt, inB_at hlt, inB_at (by omega : k < acc.length), nthA (t := T_Act) hlt, f_toAct, succI k (by omega), Int.toNat_natCast]
      simp only [cond_true, Option.bind_some]
      exact l_toActS l hl (d - 1) (k + 1) m _ (by omega) (by omega) (by simp [ha]) (set_take l acc k hlt ha ht)
    · rw [ltF hlt]
      have e : acc = l := by rw [← List.take_of_length_le (l := acc) (i := k) (by omega), ht, List.take_of_length_le (by omega)]
      rw [e]
      rfl

theorem f_toActS (l : List D_Act) (hl : Small l) : P_laws_toActS (l, ()) = some (l, ()) := by
  have hl' := hl
  unfold Small at hl'
  rw [p_laws_toActS, decide_eq_true (p := (0 : Int) ≤ (l.length : Int)) (by omega), decide_eq_true (p := (l.length : Int) ≤ (l.length : Int)) (by omega), decide_eq_true (p := (l.length : Int) * ((48 : Nat) : Int) ≤ 140737488355328) (by omega), decide_eq_true (p := (l.length : Int) ≤ 140737488355328) (by omega)]
  simp only [Bool.and_self, cond_true]
  exact l_toActS l hl l.length 0 N _ (by simp) (by have := N_ge; omega) (by simp) (by simp)

theorem f_eqAct (a : D_Act) : P_laws_eqAct (a, a, ()) = some (true, ()) := by
  rw [p_laws_eqAct, f_eqIntA3]
  simp

theorem l_eqActS (l : List D_Act) (hl : Small l) : ∀ (d k m : Nat), l.length = k + d → d < m → l_laws_eqActS_4 m l l (k : Int) = some (true, ())
  | d, k, 0, hk, hm => by omega
  | d, k, m + 1, hk, hm => by
    have hl' := hl
    unfold Small at hl'
    rw [q_laws_eqActS_4]
    by_cases hlt : k < l.length
    · rw [ltT hlt, inB_at hlt, f_eqAct, succI k (by omega)]
      simp only [cond_true, Option.bind_some, Bool.not_true, cond_false]
      exact l_eqActS l hl (d - 1) (k + 1) m (by omega) (by omega)
    · rw [ltF hlt]
      rfl

theorem f_eqActS (l : List D_Act) (hl : Small l) : P_laws_eqActS (l, l, ()) = some (true, ()) := by
  rw [p_laws_eqActS, decide_eq_true rfl]
  simp only [Bool.not_true, cond_false]
  exact l_eqActS l hl l.length 0 N (by simp) (by unfold Small at hl; have := N_ge; omega)

theorem l_mark7 (m0 i : Nat) (hi : i < 2000000) : ∀ (d j m : Nat) (l : List D_Act) (k : Int), j + d = 3 → d < m → i < l.length → 0 ≤ k → k + d ≤ 1000000000 → ∃ l' : List D_Act, l_laws_markActS_7 m0 m l k (i : Int) (j : Int) = l_laws_markActS_2 m0 l' (k + d + 2) ((i + 1 : Nat) : Int) ∧ l'.length = l.length
  | d, j, 0, l, k, _, h, _, _, _ => by omega
  | 0, j, m + 1, l, k, hj, hm, hil, h0, h1 => by
    have hj3 : j = 3 := by omega
    subst hj3
    rw [q_laws_markActS_7, decide_eq_false (by omega)]
    simp only [List.length_set, inB_at hil, cond_true, cond_false]
    rw [succI i (by omega), w64 (x := k + 1) (by omega) (by omega), w64 (x := k + 1 + 1) (by omega) (by omega)]
    rw [show k + ((0 : Nat) : Int) + 2 = k + 1 + 1 by omega]
    exact ⟨_, rfl, by simp⟩
  | d + 1, j, m + 1, l, k, hj, hm, hil, h0, h1 => by
    rw [q_laws_markActS_7, decide_eq_true (p := (j : Int) < 3) (by omega), inB_at hil, inB_at (k := j) (n := 3) (by omega), succI j (by omega), w64 (x := k + 1) (by omega) (by omega)]
    simp only [cond_true]
    obtain ⟨l', e1, e2⟩ := l_mark7 m0 i hi d (j + 1) m (List.set l (Int.toNat (i : Int)) _) (k + 1) (by omega) (by omega) (by simpa using hil) (by omega) (by omega)
    rw [e1]
    refine ⟨l', ?_, by simpa using e2⟩
    rw [show k + 1 + (d : Int) + 2 = k + ((d + 1 : Nat) : Int) + 2 by omega]

theorem l_markA : ∀ (d i m : Nat) (l : List D_Act) (k : Int), l.length = i + d → d < m → l.length ≤ 1048576 → 0 ≤ k → k + 6 * d ≤ 100000000 → ∃ l' : List D_Act, l_laws_markActS_2 m l k (i : Int) = some ((k + 6 * d, ()), (l', ()))
  | d, i, 0, l, k, _, h, _, _, _ => by omega
  | d, i, m + 1, l, k, hk, hm, hl, h0, h1 => by
    rw [q_laws_markActS_2]
    by_cases hlt : i < l.length
    · rw [ltT hlt, inB_at hlt, w64 (x := k + 1) (by omega) (by omega)]
      simp only [cond_true]
      obtain ⟨l', e1, e2⟩ := l_mark7 m i (by omega) 3 0 N (List.set l (Int.toNat (i : Int)) (k, ((nth T_Act l (i : Int))).2)) (k + 1) rfl (by have := N_ge; omega) (by simpa using hlt) (by omega) (by omega)
      have e1' : l_laws_markActS_7 m N (List.set l (Int.toNat (i : Int)) (k, ((nth T_Act l (i : Int))).2)) (k + 1) (i : Int) 0 = _ := e1
      rw [e1']
      have e2' : l'.length = l.length := by simpa using e2
      obtain ⟨l'', e3⟩ := l_markA (d - 1) (i + 1) m l' (k + 1 + ((3 : Nat) : Int) + 2) (by omega) (by omega) (by omega) (by omega) (by omega)
      rw [e3]
      refine ⟨l'', ?_⟩
      rw [show k + 1 + ((3 : Nat) : Int) + 2 + 6 * ((d - 1 : Nat) : Int) = k + 6 * (d : Int) by omega]
    · rw [ltF hlt]
      have : d = 0 := by omega
      subst this
      exact ⟨l, by simp⟩

theorem law_DoActs (b : D_Bench) (l : List D_Act) (hb : b.1.2.2.2.1.length ≤ 9223372036854775807) (hl : l.length ≤ 9223372036854775807) : P_laws_FnExactDoActs (b, l, ()) = some (true, ()) := by
  obtain ⟨z, hz, hz1, hor⟩ := f_szBench b 1048576 (by omega) (by omega) hb
  rw [p_laws_FnExactDoActs, hz]
  simp only [Option.bind_some]
  by_cases hn : z < 0
  · simp [hn]
  · have hs := hor.resolve_left hn
    rw [decide_eq_false hn, p_laws_szActS, w64 (x := z - (l.length : Int)) (by omega) (by omega)]
    simp only [cond_false]
    by_cases hn2 : z - (l.length : Int) < 0
    · simp [hn2]
    · have hls : Small l := by unfold Small; omega
      have hs' := hs
      unfold Small at hs'
      rw [decide_eq_false hn2]
      simp only [cond_false, Option.bind_some]
      rw [decide_eq_false hn2]
      obtain ⟨r, e1, e2, e3⟩ := doActs_both b l hs hls
      obtain ⟨l', e4⟩ := l_markA l.length 0 N l (1 + 3 * (b.1.2.2.2.1.length : Int)) (by simp) (by have := N_ge; omega) (by omega) (by omega) (by omega)
      have e4' : P_laws_markActS (l, 1 + 3 * (b.1.2.2.2.1.length : Int), ()) = some ((1 + 3 * (b.1.2.2.2.1.length : Int) + 6 * (l.length : Int), ()), (l', ())) := by rw [p_laws_markActS]; exact e4
      have h1 : ¬ (1 + 3 * (b.1.2.2.2.1.length : Int) + 6 * (l.length : Int)) < 0 := by omega
      have h2 : ¬ (1 + 3 * (r.1.1.2.2.2.1.length : Int)) < 0 := by omega
      simp only [f_toBench b hs, f_toActS l hls, e1, e2, f_eqBench _ e3, f_eqBench b hs, f_eqActS l hls, f_markBench b hs, f_markBench _ e3, e4', Option.bind_some, decide_false, decide_true, cond_false, Bool.not_true, beq_self_eq_true, h1]
      rw [f_heldBench _ r.1.1.2.2.2.1 e3 rfl]
      simp only [h2, Option.bind_some, decide_false, decide_true, cond_false, Bool.not_true]
end Go.VI
