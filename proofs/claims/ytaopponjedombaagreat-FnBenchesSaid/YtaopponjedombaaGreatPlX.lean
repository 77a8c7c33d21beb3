/- Plain: the laws of acts. -/
import Derived.Test.YtaopponjedombaaGreatPlW
import Derived.Test.YtaopponjedombaaGreatPlB
namespace Go.VI
open Go.Proofs

theorem bif3 {α : Type} (x y z : Bool) (h : α) : (bif x then bif y then some (h, z, ()) else some (h, false, ()) else some (h, false, ())) = some (h, x && (y && z), ()) := by
  cases x <;> cases y <;> rfl
theorem bif4 {α : Type} (x y z w : Bool) (h : α) : (bif x then bif y then bif z then some (h, w, ()) else some (h, false, ()) else some (h, false, ()) else some (h, false, ())) = some (h, x && (y && (z && w)), ()) := by
  cases x <;> cases y <;> cases z <;> rfl
theorem bif2 {α : Type} (x z : Bool) (h : α) : (bif x then some (h, z, ()) else some (h, false, ())) = some (h, x && z, ()) := by
  cases x <;> rfl
theorem bifp (x z : Bool) : (bif x then some (z, ()) else some (false, ())) = some (x && z, ()) := by cases x <;> rfl
theorem bifp3 (x y z : Bool) : (bif x then bif y then some (z, ()) else some (false, ()) else some (false, ())) = some (x && (y && z), ()) := by cases x <;> cases y <;> rfl

theorem make_both (h : D_Heap) (a : D_Act) (hl : Small h.2.2.2.1) : ∃ (r : D_Heap × Bool × Unit) (b : Bool) (r' : D_Heap × Bool × Unit), P_spec_l12Make (h, a, ()) = some r ∧ P_spec_l12Plain (a, ()) = some (b, ()) ∧ P_Act_act (a, h, ()) = some r' ∧ r'.2.1 = (r.2.1 && b) ∧ (r.2.1 = true → r'.1 = r.1) ∧ Small r.1.2.2.2.1 ∧ Small r'.1.2.2.2.1 := by
  rw [p_spec_l12Make, p_spec_l12Plain, p_Act_act]
  by_cases k1 : a.1 = 1
  · obtain ⟨r, e1, e2, e3⟩ := put_both h a.2.1 hl
    rw [decide_eq_true k1, e1, e2]
    simp only [cond_true, Option.bind_some]
    rw [bif3, bifp]
    exact ⟨r, _, _, rfl, rfl, rfl, rfl, fun _ => rfl, e3, e3⟩
  rw [decide_eq_false k1]
  simp only [cond_false]
  by_cases k2 : a.1 = 2
  · obtain ⟨r, e1, e2, e3⟩ := take_both h a.2.1 hl
    rw [decide_eq_true k2, e1, e2]
    simp only [cond_true, Option.bind_some]
    rw [bif3, bifp]
    exact ⟨r, _, _, rfl, rfl, rfl, rfl, fun _ => rfl, e3, e3⟩
  rw [decide_eq_false k2]
  simp only [cond_false]
  by_cases k3 : a.1 = 3
  · obtain ⟨r, e1, e2, e3⟩ := drop_both h hl
    rw [decide_eq_true k3, e1, e2, decide_eq_false (p := a.1 = 5) (by omega), decide_eq_false (p := a.1 = 6) (by omega)]
    simp only [cond_true, cond_false, Option.bind_some]
    rw [bif4, bifp3]
    exact ⟨r, _, _, rfl, rfl, rfl, rfl, fun _ => rfl, e3, e3⟩
  rw [decide_eq_false k3]
  simp only [cond_false]
  by_cases k4 : a.1 = 4
  · obtain ⟨r, e1, e2, e3⟩ := sink_both h hl
    rw [decide_eq_true k4, e1, e2, decide_eq_false (p := a.1 = 5) (by omega), decide_eq_false (p := a.1 = 6) (by omega)]
    simp only [cond_true, cond_false, Option.bind_some]
    rw [bif4, bifp3]
    exact ⟨(r.1, r.2.2.1, ()), _, _, rfl, rfl, rfl, rfl, fun _ => rfl, e3, e3⟩
  rw [decide_eq_false k4]
  simp only [cond_false]
  by_cases k5 : a.1 = 5
  · obtain ⟨r, e1, e2, e3⟩ := mirror_both h a.2.2.1 hl
    rw [decide_eq_true k5, e1, e2]
    simp only [cond_true, cond_false, Option.bind_some]
    rw [bif3, bifp]
    exact ⟨r, _, _, rfl, rfl, rfl, rfl, fun _ => rfl, e3, e3⟩
  rw [decide_eq_false k5]
  simp only [cond_false]
  by_cases k6 : a.1 = 6
  · obtain ⟨r, e1, e2, e3⟩ := swap_both h a.2.2.1 a.2.2.2.1 hl
    rw [decide_eq_true k6, e1, e2]
    simp only [cond_true, cond_false, Option.bind_some]
    rw [bif2]
    exact ⟨r, _, _, rfl, rfl, rfl, rfl, fun _ => rfl, e3, e3⟩
  rw [decide_eq_false k6]
  simp only [cond_false]
  by_cases k7 : a.1 = 7
  · obtain ⟨r, e1, e2, e3⟩ := other_both h hl
    rw [decide_eq_true k7, e1, e2]
    simp only [cond_true, cond_false, Option.bind_some]
    rw [bif4, bifp3]
    exact ⟨r, _, _, rfl, rfl, rfl, rfl, fun _ => rfl, e3, e3⟩
  rw [decide_eq_false k7]
  simp only [cond_false]
  rw [bifp3]
  exact ⟨(h, false, ()), _, (noHeap, false, ()), rfl, rfl, rfl, rfl, (fun hh => by cases hh), hl, small_no⟩

theorem do_both (b : D_Bench) (a : D_Act) (hl : Small b.1.2.2.2.1) (ho : okBench b = true) : ∃ r : D_Bench × Bool × Unit, P_spec_l12Do (b, a, ()) = some r ∧ P_impl_DoAct (b, a, ()) = some r ∧ Small r.1.1.2.2.2.1 ∧ (r.2.1 = true → okBench r.1 = true) := by
  obtain ⟨r, pl, r', e1, e2, e3, e4, e5, e6, e7⟩ := make_both b.1 a hl
  rw [p_spec_l12Do, p_impl_DoAct, f_impl_IsBench b hl, ho, e1, e2, e3]
  simp only [Option.bind_some, Bool.not_true, cond_false]
  rw [e4]
  cases hr : r.2.1 with
  | false => exact ⟨(noBench, false, ()), rfl, rfl, small_nil, fun hh => by cases hh⟩
  | true =>
    cases pl with
    | false => exact ⟨(noBench, false, ()), rfl, rfl, small_nil, fun hh => by cases hh⟩
    | true =>
      have e5 := e5 hr
      rw [e5]
      simp only [Bool.and_self, Bool.not_true, cond_false]
      have el : P_spec_l1Least (b.2.1, (r.1.2.2.2.1.length : Int), ()) = some ((bif decide ((r.1.2.2.2.1.length : Int) < b.2.1) then (r.1.2.2.2.1.length : Int) else b.2.1), ()) := by
        rw [p_spec_l1Least]
        by_cases h1 : b.2.1 < (r.1.2.2.2.1.length : Int)
        · rw [decide_eq_true h1, decide_eq_false (by omega)]; rfl
        · by_cases h2 : (r.1.2.2.2.1.length : Int) < b.2.1
          · rw [decide_eq_false h1, decide_eq_true h2]; rfl
          · rw [decide_eq_false h1, decide_eq_false h2]
            have : (r.1.2.2.2.1.length : Int) = b.2.1 := by omega
            simp [this]
      rw [el]
      simp only [Option.bind_some]
      generalize hB : ((r.1, ((bif decide ((r.1.2.2.2.1.length : Int) < b.2.1) then (r.1.2.2.2.1.length : Int) else b.2.1), (IntKind.wrap .i64 (b.2.2.1 + 1), ()))) : D_Bench) = B
      have hBs : Small B.1.2.2.2.1 := by rw [← hB]; exact e6
      rw [f_spec_l12Good B hBs, f_impl_IsBench B hBs]
      simp only [Option.bind_some]
      cases hk : okBench B with
      | false => exact ⟨(noBench, false, ()), rfl, rfl, small_nil, fun hh => by cases hh⟩
      | true =>
        simp only [Bool.not_true, cond_false]
        rw [f_spec_l12Own B hBs]
        exact ⟨(B, true, ()), rfl, rfl, hBs, fun _ => hk⟩

/-! ### Lists of acts -/
end Go.VI
