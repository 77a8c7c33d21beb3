/- Plain: mirrored shadows: the reference, and what they say. -/
import Derived.Test.YtbpjlmhkoflcgaaGreatPlFh
import Derived.Test.YtbpjlmhkoflcgaaGreatPlS
import Derived.Test.YtbpjlmhkoflcgaaGreatPlMg
namespace Go.VI
open Go.Proofs
abbrev tI : Ty := .int .i64
theorem nth_app {L : List Int} {x : Int} {n : Nat} (h : n ≤ L.length) : nth tI (L ++ [x]) (n : Int) = if n = L.length then x else nth tI L (n : Int) := by
  by_cases e : n = L.length
  · rw [if_pos e, nthA (t := tI) (by simp; omega)]
    simp [e]
  · rw [if_neg e, nthA (t := tI) (by simp; omega), nthA (t := tI) (by omega), List.getElem_append_left]
def tv (L : List Int) (a b : Nat) (by' : Bool) (u v : Nat) : Int := nth tI L (bif by' then (((a - 1 - u) * b + v : Nat) : Int) else ((u * b + (b - 1 - v) : Nat) : Int))
theorem app8 {L : List Int} {x : Int} (h : L.length ≤ 1000) : (decide ((L.length + ([x] : List Int).length) * 8 ≤ 140737488355328) && decide (L.length + ([x] : List Int).length ≤ 140737488355328)) = true := by
  rw [Bool.and_eq_true, decide_eq_true_eq, decide_eq_true_eq]
  simp only [List.length_singleton]
  omega
theorem l_turn6 {L : List Int} {a b : Nat} (ha : a ≤ 4) (hb0 : 1 ≤ b) (hb : b ≤ 4) (by' : Bool) (hL : L.length = a * b) {i : Nat} (hi : i < a) (m0 : Nat) : ∀ (d k m : Nat) (out : List Int), b = k + d → d < m → out.length = i * b + k → (∀ u v : Nat, v < b → u * b + v < i * b + k → nth tI out ((u * b + v : Nat) : Int) = tv L a b by' u v) →
    ∃ out', l_aj_6 m0 m L (a : Int) (b : Int) by' out (i : Int) (k : Int) = l_aj_3 m0 L (a : Int) (b : Int) by' out' ((i + 1 : Nat) : Int) ∧ out'.length = i * b + b ∧ ∀ u v : Nat, v < b → u * b + v < i * b + b → nth tI out' ((u * b + v : Nat) : Int) = tv L a b by' u v
  | d, k, 0, out, _, h, _, _ => by omega
  | d, k, m + 1, out, hk, hm, ho, hv => by
    rw [q_aj_6]
    by_cases hlt : k < b
    · have hib : i * b ≤ 16 := Nat.le_trans (Nat.mul_le_mul (show i ≤ 4 by omega) hb) (by decide)
      have hle : (a - 1 - i) * b ≤ 16 := Nat.le_trans (Nat.mul_le_mul (show a - 1 - i ≤ 4 by omega) hb) (by decide)
      have hin1 : (a - 1 - i) * b + k < L.length := by
        rw [hL]
        have : (a - 1 - i) * b + b ≤ a * b := by
          rw [← Nat.succ_mul]
          exact Nat.mul_le_mul_right b (by omega)
        omega
      have hin2 : i * b + (b - 1 - k) < L.length := by
        rw [hL]
        have : i * b + b ≤ a * b := by
          rw [← Nat.succ_mul]
          exact Nat.mul_le_mul_right b (by omega)
        omega
      have e1 : IntKind.wrap .i64 ((IntKind.wrap .i64 ((IntKind.wrap .i64 ((IntKind.wrap .i64 ((a : Int) - 1)) - (i : Int))) * (b : Int))) + (k : Int)) = (((a - 1 - i) * b + k : Nat) : Int) := by
        have x1 : IntKind.wrap .i64 ((a : Int) - 1) = ((a - 1 : Nat) : Int) := by rw [w64 (by omega) (by omega)]; omega
        have x2 : IntKind.wrap .i64 (((a - 1 : Nat) : Int) - (i : Int)) = ((a - 1 - i : Nat) : Int) := by rw [w64 (by omega) (by omega)]; omega
        have x3 : ((a - 1 - i : Nat) : Int) * (b : Int) = (((a - 1 - i) * b : Nat) : Int) := by norm_cast
        rw [x1, x2, x3, w64 (x := (((a - 1 - i) * b : Nat) : Int)) (by omega) (by omega), w64 (by omega) (by omega)]
        omega
      have e2 : IntKind.wrap .i64 ((IntKind.wrap .i64 ((i : Int) * (b : Int))) + (IntKind.wrap .i64 ((IntKind.wrap .i64 ((b : Int) - 1)) - (k : Int)))) = ((i * b + (b - 1 - k) : Nat) : Int) := by
        have x1 : IntKind.wrap .i64 ((b : Int) - 1) = ((b - 1 : Nat) : Int) := by rw [w64 (by omega) (by omega)]; omega
        have x2 : IntKind.wrap .i64 (((b - 1 : Nat) : Int) - (k : Int)) = ((b - 1 - k : Nat) : Int) := by rw [w64 (by omega) (by omega)]; omega
        have x3 : (i : Int) * (b : Int) = ((i * b : Nat) : Int) := by norm_cast
        rw [x1, x2, x3, w64 (x := ((i * b : Nat) : Int)) (by omega) (by omega), w64 (by omega) (by omega)]
        omega
      have step : ∀ x, x = tv L a b by' i k → ∃ out', l_aj_6 m0 m L (a : Int) (b : Int) by' (out ++ [x]) (i : Int) ((k + 1 : Nat) : Int) = l_aj_3 m0 L (a : Int) (b : Int) by' out' ((i + 1 : Nat) : Int) ∧ out'.length = i * b + b ∧ ∀ u v : Nat, v < b → u * b + v < i * b + b → nth tI out' ((u * b + v : Nat) : Int) = tv L a b by' u v := fun x hx => by
        refine l_turn6 ha hb0 hb by' hL hi m0 (d - 1) (k + 1) m (out ++ [x]) (by omega) (by omega) (by rw [List.length_append, List.length_singleton]; omega) fun u v hvb huv => ?_
        rw [nth_app (by omega)]
        by_cases e : u * b + v = out.length
        · have : u = i ∧ v = k := by
            rw [ho] at e
            have hb' : b = 1 ∨ b = 2 ∨ b = 3 ∨ b = 4 := by omega
            rcases hb' with rfl | rfl | rfl | rfl <;> omega
          rw [if_pos e, this.1, this.2]
          exact hx
        · rw [if_neg e]
          exact hv u v hvb (by omega)
      rw [ltT hlt, e1, e2, inB_at hin1, inB_at hin2, app8 (by omega), app8 (by omega), succI k (by omega)]
      simp only [cond_true]
      cases by' with
      | true => exact step _ rfl
      | false => exact step _ rfl
    · have e : k = b := by omega
      subst e
      rw [ltF hlt, succI i (by omega)]
      exact ⟨out, rfl, ho, hv⟩
theorem l_turn3 {L : List Int} {a b : Nat} (ha : a ≤ 4) (hb0 : 1 ≤ b) (hb : b ≤ 4) (by' : Bool) (hL : L.length = a * b) : ∀ (d i m : Nat) (out : List Int), a = i + d → d < m → out.length = i * b → (∀ u v : Nat, v < b → u * b + v < i * b → nth tI out ((u * b + v : Nat) : Int) = tv L a b by' u v) →
    ∃ out', l_aj_3 m L (a : Int) (b : Int) by' out (i : Int) = some (out', ()) ∧ out'.length = a * b ∧ ∀ u v : Nat, v < b → u * b + v < a * b → nth tI out' ((u * b + v : Nat) : Int) = tv L a b by' u v
  | d, i, 0, out, _, h, _, _ => by omega
  | d, i, m + 1, out, hi, hm, ho, hv => by
    rw [q_aj_3]
    by_cases hlt : i < a
    · obtain ⟨out', e1, e2, e3⟩ := l_turn6 ha hb0 hb by' hL hlt m b 0 N out (by omega) (by have := N_ge; omega) ho hv
      have e1' : l_aj_6 m N L (a : Int) (b : Int) by' out (i : Int) 0 = _ := e1
      rw [ltT hlt, e1']
      exact l_turn3 ha hb0 hb by' hL (d - 1) (i + 1) m out' (by omega) (by omega) (by rw [e2, Nat.succ_mul]) (fun u v h1 h2 => e3 u v h1 (by rw [Nat.succ_mul] at h2; exact h2))
    · have e : i = a := by omega
      subst e
      rw [ltF hlt]
      exact ⟨out, rfl, ho, hv⟩
theorem f_turned {L : List Int} {a b : Nat} (ha : a ≤ 4) (hb0 : 1 ≤ b) (hb : b ≤ 4) (by' : Bool) (hL : L.length = a * b) : ∃ out', P_aj (L, (a : Int), (b : Int), by', ()) = some (out', ()) ∧ out'.length = a * b ∧ ∀ u v : Nat, v < b → u * b + v < a * b → nth tI out' ((u * b + v : Nat) : Int) = tv L a b by' u v := by
  rw [p_aj]
  exact l_turn3 ha hb0 hb by' hL a 0 N [] (by omega) (by have := N_ge; omega) (by simp) (fun u v _ h => by omega)
theorem turn_ok {s : D_Shadow} (ho : okSh s = true) {dr d : Int} (d0 : 0 ≤ d) (d1 : d ≤ 2) (hd : dr = o1 d ∨ dr = o2 d) : ∃ R, P_aj (listD s d, side3 s.1 s.2.1 s.2.2.1 (o1 d), side3 s.1 s.2.1 s.2.2.1 (o2 d), decide (dr = o1 d), ()) = some (R, ()) ∧ MirOK s dr d R := by
  obtain ⟨hs, _⟩ := okSh_iff.1 ho
  have a1 := side3_ok hs (o1 d)
  have a2 := side3_ok hs (o2 d)
  obtain ⟨a, ea⟩ : ∃ a : Nat, side3 s.1 s.2.1 s.2.2.1 (o1 d) = (a : Int) := ⟨(side3 s.1 s.2.1 s.2.2.1 (o1 d)).toNat, by omega⟩
  obtain ⟨b, eb⟩ : ∃ b : Nat, side3 s.1 s.2.1 s.2.2.1 (o2 d) = (b : Int) := ⟨(side3 s.1 s.2.1 s.2.2.1 (o2 d)).toNat, by omega⟩
  have hll := (list_len ho d0 d1).1
  have hlines : (linesD s.1 s.2.1 s.2.2.1 d).toNat = a * b := by
    unfold linesD
    rw [ea, eb]
    norm_cast
  rw [ea] at a1 ⊢
  rw [eb] at a2 ⊢
  obtain ⟨R, r1, r2, r3⟩ := f_turned (L := listD s d) (a := a) (b := b) (by omega) (by omega) (by omega) (decide (dr = o1 d)) (by omega)
  refine ⟨R, r1, by omega, fun c hc => ?_⟩
  have g1 := get3_in hc (o1_ok d).1 (o1_ok d).2
  have g2 := get3_in hc (o2_ok d).1 (o2_ok d).2
  rw [ea] at g1
  rw [eb] at g2
  obtain ⟨u, hu⟩ : ∃ u : Nat, get3 c (o1 d) = (u : Int) := ⟨(get3 c (o1 d)).toNat, by omega⟩
  obtain ⟨v, hv⟩ : ∃ v : Nat, get3 c (o2 d) = (v : Int) := ⟨(get3 c (o2 d)).toNat, by omega⟩
  have hlc : lineD s.1 s.2.1 s.2.2.1 d c = ((u * b + v : Nat) : Int) := by
    unfold lineD
    rw [hu, hv, eb]
    norm_cast
  have huv : u * b + v < a * b := by
    have : u * b + b ≤ a * b := by
      rw [← Nat.succ_mul]
      exact Nat.mul_le_mul_right b (by omega)
    omega
  have hval := r3 u v (by omega) huv
  have hne : o1 d ≠ o2 d := by
    rcases dir d0 d1 with rfl | rfl | rfl <;> decide
  unfold atL
  rw [hlc]
  refine hval.trans ?_
  unfold tv lineD
  rw [get3_mir (o1_ok d).1 (o1_ok d).2, get3_mir (o2_ok d).1 (o2_ok d).2, hu, hv, ea, eb]
  rcases hd with rfl | rfl
  · rw [decide_eq_true (p := o1 d = o1 d) rfl, decide_eq_false (p := o1 d = o2 d) hne]
    simp only [cond_true, cond_false]
    congr 1
    have e3 : (a : Int) - 1 - (u : Int) = ((a - 1 - u : Nat) : Int) := by omega
    rw [e3]
    norm_cast
  · rw [decide_eq_false (p := o2 d = o1 d) (Ne.symm hne), decide_eq_true (p := o2 d = o2 d) rfl]
    simp only [cond_true, cond_false]
    congr 1
    have e3 : (b : Int) - 1 - (v : Int) = ((b - 1 - v : Nat) : Int) := by omega
    rw [e3]
    norm_cast
theorem same_ok {s : D_Shadow} (ho : okSh s = true) {d : Int} (d0 : 0 ≤ d) (d1 : d ≤ 2) : MirOK s d d (listD s d) := by
  refine ⟨(list_len ho d0 d1).1, fun c hc => ?_⟩
  unfold atL lineD
  have h1 : d ≠ o1 d ∧ d ≠ o2 d := by
    rcases dir d0 d1 with rfl | rfl | rfl <;> decide
  rw [get3_mir (o1_ok d).1 (o1_ok d).2, get3_mir (o2_ok d).1 (o2_ok d).2, decide_eq_false h1.1, decide_eq_false h1.2]
  rfl
theorem mir_both (s : D_Shadow) (hm : SmallS s) (dr : Int) : ∃ r : D_Shadow × Bool × Unit, P_ak (s, dr, ()) = some r ∧ P_c3 (s, dr, ()) = some r ∧ SmallS r.1 ∧ (r.2.1 = true → okSh s = true ∧ (0 ≤ dr ∧ dr ≤ 2) ∧ r.1.1 = s.1 ∧ r.1.2.1 = s.2.1 ∧ r.1.2.2.1 = s.2.2.1 ∧ ∀ d : Int, 0 ≤ d → d ≤ 2 → MirOK s dr d (listD r.1 d)) := by
  obtain ⟨g0, g1⟩ := mir_impl hm (dr := dr)
  cases hok : (okSh s && (decide (0 ≤ dr) && decide (dr ≤ 2))) with
  | false =>
    refine ⟨_, g0 hok, ?_, ⟨by simp [Small], by simp [Small], by simp [Small]⟩, fun h => by cases h⟩
    rw [p_c3, f_l3Shadow s hm]
    cases ho : okSh s with
    | false => rfl
    | true =>
      rw [ho, Bool.true_and] at hok
      simp only [Option.bind_some, Bool.not_true, cond_false]
      rw [f_bn, hok]
      rfl
  | true =>
    rw [Bool.and_eq_true, Bool.and_eq_true, decide_eq_true_eq, decide_eq_true_eq] at hok
    obtain ⟨ho, r0, r1⟩ := hok
    obtain ⟨hs, _⟩ := okSh_iff.1 ho
    obtain ⟨T, F, S, e, m2, m1, m0⟩ := g1 ho r0 r1
    have q2 := lines_ok hs (d := 2) (by decide) (by decide)
    have q1 := lines_ok hs (d := 1) (by decide) (by decide)
    have q0 := lines_ok hs (d := 0) (by decide) (by decide)
    have l2 := m2.len
    have l1 := m1.len
    have l0 := m0.len
    refine ⟨_, e, ?_, ⟨?_, ?_, ?_⟩, fun _ => ⟨ho, ⟨r0, r1⟩, rfl, rfl, rfl, fun d d0 d1 => ?_⟩⟩
    · have hown : ∀ l : List Int, Small l → P_b7 (l, ()) = some (l, ()) := fun l hl => by
        unfold Small at hl
        rw [p_b7, decide_eq_true (p := (([] : List Int).length + l.length) * 8 ≤ 140737488355328) (by simp only [List.length_nil]; omega), decide_eq_true (p := ([] : List Int).length + l.length ≤ 140737488355328) (by simp only [List.length_nil]; omega)]
        rfl
      rw [p_c3, f_l3Shadow s hm, ho]
      simp only [Option.bind_some, Bool.not_true, cond_false]
      rw [f_bn, decide_eq_true r0, decide_eq_true r1, hown _ hm.1, hown _ hm.2.1, hown _ hm.2.2]
      simp only [Option.bind_some, Bool.and_self, Bool.not_true, cond_false]
      rcases dir r0 r1 with rfl | rfl | rfl
      · obtain ⟨R2, t2, k2⟩ := turn_ok ho (dr := 0) (d := 2) (by decide) (by decide) (.inl rfl)
        obtain ⟨R1, t1, k1⟩ := turn_ok ho (dr := 0) (d := 1) (by decide) (by decide) (.inl rfl)
        have k0 := same_ok ho (d := 0) (by decide) (by decide)
        have t2' : P_aj (s.2.2.2.1, s.1, s.2.1, decide ((0 : Int) = 0), ()) = some (R2, ()) := t2
        have t1' : P_aj (s.2.2.2.2.1, s.1, s.2.2.1, decide ((0 : Int) = 0), ()) = some (R1, ()) := t1
        rw [t2', t1', m2.uniq hs (by decide) (by decide) k2, m1.uniq hs (by decide) (by decide) k1, m0.uniq hs (by decide) (by decide) k0]
        rfl
      · obtain ⟨R2, t2, k2⟩ := turn_ok ho (dr := 1) (d := 2) (by decide) (by decide) (.inr rfl)
        obtain ⟨R0, t0, k0⟩ := turn_ok ho (dr := 1) (d := 0) (by decide) (by decide) (.inl rfl)
        have k1 := same_ok ho (d := 1) (by decide) (by decide)
        have t2' : P_aj (s.2.2.2.1, s.1, s.2.1, decide ((1 : Int) = 0), ()) = some (R2, ()) := t2
        have t0' : P_aj (s.2.2.2.2.2.1, s.2.1, s.2.2.1, decide ((1 : Int) = 1), ()) = some (R0, ()) := t0
        rw [t2', t0', m2.uniq hs (by decide) (by decide) k2, m1.uniq hs (by decide) (by decide) k1, m0.uniq hs (by decide) (by decide) k0]
        rfl
      · obtain ⟨R1, t1, k1⟩ := turn_ok ho (dr := 2) (d := 1) (by decide) (by decide) (.inr rfl)
        obtain ⟨R0, t0, k0⟩ := turn_ok ho (dr := 2) (d := 0) (by decide) (by decide) (.inr rfl)
        have k2 := same_ok ho (d := 2) (by decide) (by decide)
        have t1' : P_aj (s.2.2.2.2.1, s.1, s.2.2.1, decide ((2 : Int) = 0), ()) = some (R1, ()) := t1
        have t0' : P_aj (s.2.2.2.2.2.1, s.2.1, s.2.2.1, decide ((2 : Int) = 1), ()) = some (R0, ()) := t0
        rw [t1', t0', m2.uniq hs (by decide) (by decide) k2, m1.uniq hs (by decide) (by decide) k1, m0.uniq hs (by decide) (by decide) k0]
        rfl
    · unfold Small; show T.length ≤ _; omega
    · unfold Small; show F.length ≤ _; omega
    · unfold Small; show S.length ≤ _; omega
    · rcases dir d0 d1 with rfl | rfl | rfl
      · exact m0
      · exact m1
      · exact m2
theorem mir_valid {s t : D_Shadow} {dr : Int} (ho : okSh s = true) (h1 : t.1 = s.1) (h2 : t.2.1 = s.2.1) (h3 : t.2.2.1 = s.2.2.1) (hm : ∀ d : Int, 0 ≤ d → d ≤ 2 → MirOK s dr d (listD t d)) : okSh t = true := by
  obtain ⟨hs, _⟩ := okSh_iff.1 ho
  refine okSh_iff.2 ⟨by rw [h1, h2, h3]; exact hs, fun d d0 d1 => ?_⟩
  have hl := (hm d d0 d1).len
  have q := lines_ok hs d0 d1
  obtain ⟨e1, e2, e3⟩ := list_len ho d0 d1
  rw [h1, h2, h3]
  unfold onesB
  rw [Bool.and_eq_true, decide_eq_true_eq, List.all_eq_true]
  refine ⟨fun x hx => ?_, by omega⟩
  obtain ⟨i, hi, rfl⟩ := List.getElem_of_mem hx
  obtain ⟨c, hc, e⟩ := line_cell hs d0 d1 (i := i) (by omega)
  have hv := (hm d d0 d1).val c hc
  obtain ⟨k, hk, hkl⟩ := nat_line hs d0 d1 (mirC_in (d := dr) hc)
  unfold atL at hv
  rw [e, nthA (t := .int .i64) hi, hk, nthA (t := .int .i64) (show k < (listD s d).length by omega)] at hv
  rw [hv]
  unfold bit01
  rcases e3 _ (List.getElem_mem (show k < (listD s d).length by omega)) with h | h
  · rw [h]; rfl
  · rw [h]; rfl
theorem mir_back {s t b : D_Shadow} {dr : Int} (hs : sides s.1 s.2.1 s.2.2.1 = true) (ho : okSh s = true) (h1 : t.1 = s.1) (h2 : t.2.1 = s.2.1) (h3 : t.2.2.1 = s.2.2.1) (hm : ∀ d : Int, 0 ≤ d → d ≤ 2 → MirOK s dr d (listD t d)) (b1 : b.1 = t.1) (b2 : b.2.1 = t.2.1) (b3 : b.2.2.1 = t.2.2.1) (hb : ∀ d : Int, 0 ≤ d → d ≤ 2 → MirOK t dr d (listD b d)) : b = s := by
  have hl : ∀ d : Int, 0 ≤ d → d ≤ 2 → listD b d = listD s d := fun d d0 d1 => by
    have k1 := (hb d d0 d1).len
    rw [h1, h2, h3] at k1
    refine list_ext_lines hs d0 d1 k1 (list_len ho d0 d1).1 fun c hc => ?_
    have v1 := (hb d d0 d1).val c (by rw [h1, h2, h3]; exact hc)
    rw [h1, h2, h3] at v1
    rw [v1, (hm d d0 d1).val _ (mirC_in hc), mirC2]
  have e2 : b.2.2.2.1 = s.2.2.2.1 := hl 2 (by decide) (by decide)
  have e1 : b.2.2.2.2.1 = s.2.2.2.2.1 := hl 1 (by decide) (by decide)
  have e0 : b.2.2.2.2.2.1 = s.2.2.2.2.2.1 := hl 0 (by decide) (by decide)
  obtain ⟨x, y, z, T, F, S, ⟨⟩⟩ := b
  obtain ⟨x', y', z', T', F', S', ⟨⟩⟩ := s
  have c1 : x = x' := b1.trans h1
  have c2 : y = y' := b2.trans h2
  have c3 : z = z' := b3.trans h3
  have d2 : T = T' := e2
  have d1 : F = F' := e1
  have d0 : S = S' := e0
  rw [c1, c2, c3, d2, d1, d0]
theorem mir_heap {s t : D_Shadow} {dr : Int} (ho : okSh s = true) (hf : fitsB s = true) (h1 : t.1 = s.1) (h2 : t.2.1 = s.2.1) (h3 : t.2.2.1 = s.2.2.1) (hm : ∀ d : Int, 0 ≤ d → d ≤ 2 → MirOK s dr d (listD t d)) {l : List D_A3} (hl : ∀ c, c ∈ l ↔ c ∈ (AL s).map (mirC s.1 s.2.1 s.2.2.1 dr)) : sameL t (shadowOf s.1 s.2.1 s.2.2.1 l) = true := by
  obtain ⟨hs, _⟩ := okSh_iff.1 ho
  have hot := mir_valid ho h1 h2 h3 hm
  have hin : Ins s.1 s.2.1 s.2.2.1 l := fun c hc => by
    obtain ⟨x, hx, rfl⟩ := List.mem_map.1 ((hl c).1 hc)
    exact mirC_in (AL_ins hs x hx)
  have hin' : Ins t.1 t.2.1 t.2.2.1 l := by rw [h1, h2, h3]; exact hin
  have hsame := same_iff hot hin'
  rw [h1, h2, h3] at hsame
  rw [hsame]
  have at1 : ∀ (d : Int), 0 ≤ d → d ≤ 2 → ∀ c, within3 s.1 s.2.1 s.2.2.1 c = true → ∀ (k j : Nat), lineD s.1 s.2.1 s.2.2.1 d c = (k : Int) → lineD s.1 s.2.1 s.2.2.1 d (mirC s.1 s.2.1 s.2.2.1 dr c) = (j : Int) → (listD t d)[k]? = (listD s d)[j]? := fun d d0 d1 c hc k j hk hj => by
    have hv := (hm d d0 d1).val c hc
    obtain ⟨k', hk', kl⟩ := nat_line hs d0 d1 hc
    obtain ⟨j', hj', jl⟩ := nat_line hs d0 d1 (mirC_in (d := dr) hc)
    obtain rfl : k = k' := by omega
    obtain rfl : j = j' := by omega
    have l1 := (hm d d0 d1).len
    have l2 := (list_len ho d0 d1).1
    unfold atL at hv
    rw [hk, hj, nthA (t := .int .i64) (show k < (listD t d).length by omega), nthA (t := .int .i64) (show j < (listD s d).length by omega)] at hv
    rw [List.getElem?_eq_getElem (by omega), List.getElem?_eq_getElem (by omega), hv]
  constructor
  · intro d d0 d1 i hi
    obtain ⟨hlt, _⟩ := List.getElem?_eq_some_iff.1 hi
    have l1 := (hm d d0 d1).len
    obtain ⟨c, hc, e⟩ := line_cell hs d0 d1 (i := i) (by omega)
    obtain ⟨j, hj, jl⟩ := nat_line hs d0 d1 (mirC_in (d := dr) hc)
    have hb := at1 d d0 d1 c hc i j e hj
    rw [hi] at hb
    obtain ⟨a, ha, hal⟩ := (fit_cover ho hf).cov d d0 d1 j hb.symm
    refine ⟨mirC s.1 s.2.1 s.2.2.1 dr a, (hl _).2 (List.mem_map_of_mem ha), ?_⟩
    have : lineD s.1 s.2.1 s.2.2.1 d a = lineD s.1 s.2.1 s.2.2.1 d (mirC s.1 s.2.1 s.2.2.1 dr c) := by rw [hal, hj]
    have := (line_mir_iff (dir := dr) hs (AL_ins hs a ha) (mirC_in (d := dr) hc)).2 this
    rw [mirC2, e] at this
    rw [h1, h2, h3]
    exact this
  · intro c hc
    obtain ⟨a, ha, rfl⟩ := List.mem_map.1 ((hl c).1 hc)
    have w := AL_ins hs a ha
    have lt : ∀ d : Int, 0 ≤ d → d ≤ 2 → litAt t d (mirC s.1 s.2.1 s.2.2.1 dr a) = true := fun d d0 d1 => by
      obtain ⟨k, hk, kl⟩ := nat_line hs d0 d1 (mirC_in (d := dr) w)
      obtain ⟨j, hj, jl⟩ := nat_line hs d0 d1 w
      rw [litAt_iff hot d0 d1 (by rw [h1, h2, h3]; exact mirC_in w) (by rw [h1, h2, h3]; exact hk)]
      rw [at1 d d0 d1 _ (mirC_in w) k j hk (by rw [mirC2]; exact hj)]
      exact allowed_lit ho ha d0 d1 hj
    unfold allowedC
    rw [lt 0 (by decide) (by decide), lt 1 (by decide) (by decide), lt 2 (by decide) (by decide)]
    rfl
end Go.VI
/- Plain: acts that lead back. -/
namespace Go.VI
open Go.Proofs
theorem sorted_ex {X Y Z : Int} (hs : sides X Y Z = true) (k : List D_A3) (hk : Ins X Y Z k) : ∃ l', Srt l' ∧ Ins X Y Z l' ∧ ∀ x, x ∈ l' ↔ x ∈ k := by
  refine ⟨bitCells X Y Z (mask Y Z k 0), srt_listOf hs _, ?_, ?_⟩
  · intro c hc
    exact ((mem_listOf hs _ c).1 hc).1
  · intro c
    rw [mem_listOf hs]
    constructor
    · rintro ⟨w1, w2⟩
      rw [mask_mem hs hk w1] at w2
      simpa using w2
    · intro hc
      have w1 := hk c hc
      refine ⟨w1, ?_⟩
      rw [mask_mem hs hk w1]
      exact decide_eq_true hc
theorem take_is {h : D_Heap} {c : D_A3} (hl : Small h.2.2.2.1) (ho : okHeap h = true) (hw : within3 h.1 h.2.1 h.2.2.1 c = true) (hm : c ∈ h.2.2.2.1) {l' : List D_A3} (g2 : Srt l') (g3 : ∀ x, x ∈ l' ↔ x ∈ h.2.2.2.1 ∧ x ≠ c) : P_c7 (h, c, ()) = some ((h.1, h.2.1, h.2.2.1, l', ()), true, ()) := by
  obtain ⟨hs, hi, hr⟩ := okHeap_iff.1 ho
  rw [p_c7, p_dm, f_aq _ hl, ho, f_as]
  simp only [Option.bind_some, cond_true]
  rw [f_cd _ _ hs, hw]
  simp only [Option.bind_some]
  have f2 : P_c0 (h, c, ()) = some (decide (c ∈ h.2.2.2.1), ()) := f_hasCube hs hl hi hw
  rw [f2, decide_eq_true hm]
  simp only [Bool.not_true, cond_false, Option.bind_some]
  have f3 : P_au (h, ()) = _ := f_au hs hl hi
  rw [f3, f_bx hs hw]
  simp only [Option.bind_some]
  rw [decide_eq_true (p := (0 : Int) ≤ (idx h.2.1 h.2.2.1 c : Int)) (by omega), shl64, andNot64]
  rw [heap_is hs (setIs_less hs hi hw) g2 (fun x => by
    rw [g3, Bool.and_eq_true, decide_eq_true_eq, Bool.not_eq_true', decide_eq_false_iff_not]
    constructor
    · rintro ⟨a, b⟩; exact ⟨hi x a, a, b⟩
    · rintro ⟨_, a, b⟩; exact ⟨a, b⟩)]
  rfl
theorem mirror_is {h : D_Heap} {d : Int} (hl : Small h.2.2.2.1) (ho : okHeap h = true) (d0 : 0 ≤ d) (d1 : d ≤ 2) {l' : List D_A3} (e2 : Srt l') (e3 : ∀ x, x ∈ l' ↔ x ∈ h.2.2.2.1.map (mirC h.1 h.2.1 h.2.2.1 d)) : P_cz (h, d, ()) = some ((h.1, h.2.1, h.2.2.1, l', ()), true, ()) := by
  obtain ⟨hs, hi, hr⟩ := okHeap_iff.1 ho
  rw [p_cz, f_aq _ hl, isDir, ho, decide_eq_true d0, decide_eq_true d1, f_as]
  simp only [Option.bind_some, Bool.and_self, Bool.not_true, cond_false]
  have hF : ∀ c ∈ h.2.2.2.1, (fun (y : D_A3 × Unit) => P_cu (y.1, h, d, ())) (c, ()) = some (mirC h.1 h.2.1 h.2.2.1 d c, ()) ∧ within3 h.1 h.2.1 h.2.2.1 (mirC h.1 h.2.1 h.2.2.1 d c) = true := by
    intro c hc
    refine ⟨?_, mirC_in (hi c hc)⟩
    show P_cu (c, h, d, ()) = _
    rw [p_cu, f_as]
    simp only [Option.bind_some]
    rw [p_b6, inB_dir d0 d1]
    simp only [cond_true, Option.bind_some]
    rw [mir_text hs d0 d1 (hi c hc) (h.1, h.2.1, h.2.2.1, ()) rfl]
  have fm : P_bh (h, (h.1, h.2.1, h.2.2.1, ()), (fun (y : D_A3 × Unit) => P_cu (y.1, h, d, ())), ()) = _ := f_moved (X := h.1) (Y := h.2.1) (Z := h.2.2.1) hs hl hF
  rw [fm, moved_is hs (fun c hc => (hF c hc).2) e2 e3]
  rfl
end Go.VI
/- Plain: benches and acts that are drawn, and what acts lead to. -/
namespace Go.VI
open Go.Proofs
theorem wrap8 (x : Int) : 0 ≤ IntKind.wrap .u8 x ∧ IntKind.wrap .u8 x ≤ 255 := by
  have : IntKind.wrap .u8 x = x % 256 := by simp [IntKind.wrap, IntKind.bits, IntKind.signed]
  rw [this]
  omega
theorem f_vCut {C : List Int} (hC : Bts C) (hn : C.length ≤ 65536) (k : Int) (k0 : 0 ≤ k) : ∃ C' : List Int, P_dk (C, k, ()) = some (C', ()) ∧ Bts C' := by
  have key : ∀ lo : Int, 0 ≤ lo → lo ≤ (C.length : Int) → ∀ v : Int, Bts ((([] : List Int) ++ (cut C lo (C.length : Int))) ++ ([(IntKind.wrap .u8 v)] : List Int)) ∧ (cut C lo (C.length : Int)).length ≤ 65536 := by
    intro lo l0 l1 v
    have hlen : (cut C lo (C.length : Int)).length ≤ 65536 := by
      unfold cut
      rw [List.length_drop, List.length_take]
      omega
    refine ⟨⟨by simp only [List.nil_append, List.length_append, List.length_singleton]; omega, fun b hb => ?_⟩, hlen⟩
    rcases List.mem_append.1 hb with hb | hb
    · have hb' : b ∈ cut C lo (C.length : Int) := by simpa using hb
      unfold cut at hb'
      exact hC.2 b (List.mem_of_mem_take (List.mem_of_mem_drop hb'))
    · rw [List.mem_singleton.1 hb]
      exact wrap8 v
  rw [p_dk]
  by_cases c : k > (C.length : Int)
  · obtain ⟨h1, h2⟩ := key (C.length : Int) (by omega) (by omega) (C.length : Int)
    rw [decide_eq_true c, decide_eq_true (p := (0 : Int) ≤ (C.length : Int)) (by omega), decide_eq_true (p := (C.length : Int) ≤ (C.length : Int)) (by omega)]
    rw [decide_eq_true (p := (([] : List Int).length + (cut C (C.length : Int) (C.length : Int)).length) * 1 ≤ 140737488355328) (by simp only [List.length_nil]; omega), decide_eq_true (p := ([] : List Int).length + (cut C (C.length : Int) (C.length : Int)).length ≤ 140737488355328) (by simp only [List.length_nil]; omega)]
    rw [decide_eq_true (p := ((([] : List Int) ++ cut C (C.length : Int) (C.length : Int)).length + ([(IntKind.wrap .u8 (C.length : Int))] : List Int).length) * 1 ≤ 140737488355328) (by simp only [List.nil_append, List.length_singleton]; omega), decide_eq_true (p := (([] : List Int) ++ cut C (C.length : Int) (C.length : Int)).length + ([(IntKind.wrap .u8 (C.length : Int))] : List Int).length ≤ 140737488355328) (by simp only [List.nil_append, List.length_singleton]; omega)]
    exact ⟨_, rfl, h1⟩
  · obtain ⟨h1, h2⟩ := key k k0 (by omega) k
    rw [decide_eq_false c, decide_eq_true (p := (0 : Int) ≤ k) k0, decide_eq_true (p := k ≤ (C.length : Int)) (by omega), decide_eq_true (p := (C.length : Int) ≤ (C.length : Int)) (by omega)]
    rw [decide_eq_true (p := (([] : List Int).length + (cut C k (C.length : Int)).length) * 1 ≤ 140737488355328) (by simp only [List.length_nil]; omega), decide_eq_true (p := ([] : List Int).length + (cut C k (C.length : Int)).length ≤ 140737488355328) (by simp only [List.length_nil]; omega)]
    rw [decide_eq_true (p := ((([] : List Int) ++ cut C k (C.length : Int)).length + ([(IntKind.wrap .u8 k)] : List Int).length) * 1 ≤ 140737488355328) (by simp only [List.nil_append, List.length_singleton]; omega), decide_eq_true (p := (([] : List Int) ++ cut C k (C.length : Int)).length + ([(IntKind.wrap .u8 k)] : List Int).length ≤ 140737488355328) (by simp only [List.nil_append, List.length_singleton]; omega)]
    exact ⟨_, rfl, h1⟩
end Go.VI
/- Plain: shadows that are drawn. -/
namespace Go.VI
open Go.Proofs
def InBox (X Y Z : Int) (g : D_Heap) : Prop := g.1 = X ∧ g.2.1 = Y ∧ g.2.2.1 = Z ∧ Ins X Y Z g.2.2.2.1 ∧ g.2.2.2.1.length ≤ 64
theorem other_box {X Y Z : Int} {l : List D_A3} (ho : okHeap (X, Y, Z, l, ()) = true) (hl : Small l) : ∃ r, P_a3 ((X, Y, Z, l, ()), ()) = some r ∧ InBox X Y Z r.1 := by
  have h1 : P_at ((X, Y, Z, l, ()), ()) = _ := f_at (X, Y, Z, l, ()) hl
  rw [p_a3, h1, ho]
  obtain ⟨hs, hi, hr⟩ := okHeap_iff.1 ho
  have hs : sides X Y Z = true := hs
  obtain ⟨a1, a2, a3⟩ := allCells_ok hs
  have f0 : P_ad ((X, Y, Z, l, ()), ()) = _ := f_l2All l hs
  simp only [Option.bind_some, Bool.not_true, cond_false]
  rw [p_bp, f0]
  simp only [Option.bind_some]
  have e := l_other (X := X) (Y := Y) (Z := Z) (X' := X) (Y' := Y) (Z' := Z) hl a1 (allCells X Y Z).length 0 N [] (by simp) (by unfold Small at a1; have := N_ge; omega) (by simp)
  have e' : l_a3_5 N X Y Z l 0 0 0 [] X Y Z [] (allCells X Y Z) 0 = _ := e
  rw [e']
  refine ⟨_, rfl, rfl, rfl, rfl, fun c hc => ?_, show ((allCells X Y Z).filter fun x => !decide (x ∈ l)).length ≤ 64 from Nat.le_trans (List.length_filter_le _ _) (srt_small64 hs a2 a3)⟩
  have hc' : c ∈ (allCells X Y Z).filter fun x => !decide (x ∈ l) := by simpa using hc
  exact a2 c (List.mem_filter.1 hc').1
theorem stack_box {X Y Z : Int} (hs : sides X Y Z = true) {V : List Int} (hV : V.length = (X * Y).toNat) : ∃ r, P_a2 (X, Y, Z, V, ()) = some r ∧ InBox X Y Z r.1 := by
  obtain ⟨a1, a2, a3⟩ := allCells_ok hs
  rw [p_a2, p_bp]
  simp only [Option.bind_some]
  rw [f_l2All [] hs]
  simp only [Option.bind_some]
  have e := l_stackS (X' := X) (Y' := Y) (Z' := Z) hs hV a1 a2 (allCells X Y Z).length 0 N [] (by simp) (by unfold Small at a1; have := N_ge; omega) (by simp)
  have e' : l_a2_4 N 0 0 0 [] X Y Z [] Y V (allCells X Y Z) 0 = _ := e
  rw [e']
  refine ⟨_, rfl, rfl, rfl, rfl, fun c hc => ?_, show ((allCells X Y Z).filter (lowC Y V)).length ≤ 64 from Nat.le_trans (List.length_filter_le _ _) (srt_small64 hs a2 a3)⟩
  have hc' : c ∈ (allCells X Y Z).filter (lowC Y V) := by simpa using hc
  exact a2 c (List.mem_filter.1 hc').1
theorem l_someI {C : List Int} (hC : Bts C) {X Y Z : Int} (hs : sides X Y Z = true) {al : List D_A3} (hal : al.length ≤ 64) (hin : Ins X Y Z al) (hsr : Srt al) (q0 q1 q2 : Int) (q3 : List D_A3) (odds : Int) : ∀ (d i m n : Nat) (s : Sd) (out : List D_A3), al.length = i + d → d < m → out.Sublist (al.take i) → At (n + 2 * d + 2) s →
    ∃ (g : D_Heap) (s' : Sd), l_aw_6 m q0 q1 q2 q3 X Y Z out C s.1 s.2.1 X Y Z odds al (i : Int) = some ((g, ()), ((C, s'), ())) ∧ At n s' ∧ InBox X Y Z g
  | d, i, 0, n, s, out, _, h, _, _ => by omega
  | d, i, m + 1, n, s, out, hk, hm, hsub, ha => by
    have hol : out.length ≤ 64 := Nat.le_trans hsub.length_le (by rw [List.length_take]; omega)
    rw [q_aw_6]
    by_cases hlt : i < al.length
    · obtain ⟨b, s1, e1, a1⟩ := f_one hC (n := n + 2 * (d - 1) + 2) (s := s) (ha.le (by omega)) odds
      have e1' : P_b5 ((C, (s.1, (s.2.1, ()))), odds, ()) = _ := e1
      have htk : al.take (i + 1) = al.take i ++ [al[i]] := by
        rw [List.take_add_one, List.getElem?_eq_getElem hlt]
        rfl
      rw [ltT hlt, e1', succI i (by omega)]
      simp only [cond_true, Option.bind_some]
      cases b with
      | false => exact l_someI hC hs hal hin hsr q0 q1 q2 q3 odds (d - 1) (i + 1) m n s1 out (by omega) (by omega) (by rw [htk]; exact hsub.trans (List.sublist_append_left _ _)) a1
      | true =>
        rw [inB_at hlt, nthA (t := T_A3) hlt, app_len' (l := out) (by omega)]
        simp only [cond_true]
        exact l_someI hC hs hal hin hsr q0 q1 q2 q3 odds (d - 1) (i + 1) m n s1 _ (by omega) (by omega) (by rw [htk]; exact hsub.append (List.Sublist.refl _)) a1
    · obtain ⟨p, s1, e1, a1, _⟩ := f_pick hC (n := n + 2 * d) (s := s) ha 12
      have e1' : P_av ((C, (s.1, (s.2.1, ()))), 12, ()) = _ := e1
      have hso : Small out := by unfold Small; omega
      have hsub' := hsub.trans (List.take_sublist i al)
      have hio : Ins X Y Z out := fun c hc => hin c (hsub'.subset hc)
      rw [ltF hlt, e1']
      simp only [cond_false, Option.bind_some]
      by_cases c0 : p = 0
      · obtain ⟨r, er, hr⟩ := other_box (X := X) (Y := Y) (Z := Z) (l := out) (okHeap_iff.2 ⟨hs, hio, List.Pairwise.sublist hsub' hsr⟩) hso
        rw [decide_eq_true c0, er]
        exact ⟨_, _, rfl, a1.le (by omega), hr⟩
      · rw [decide_eq_false c0]
        by_cases c1 : p = 1
        · obtain ⟨r, er, hr⟩ := stack_box hs (cols_len X Y out)
          rw [decide_eq_true c1, p_db, f_viewS hs hso hio]
          simp only [cond_true, cond_false, Option.bind_some]
          rw [er]
          exact ⟨_, _, rfl, a1.le (by omega), hr⟩
        · rw [decide_eq_false c1]
          exact ⟨_, _, rfl, a1.le (by omega), rfl, rfl, rfl, hio, hol⟩
theorem f_someI {C : List Int} (hC : Bts C) {n : Nat} {s : Sd} (h : At (n + 132) s) {X Y Z : Int} (hs : sides X Y Z = true) : ∃ (g : D_Heap) (s' : Sd), P_aw ((C, s), X, Y, Z, ()) = some ((g, ()), ((C, s'), ())) ∧ At n s' ∧ InBox X Y Z g := by
  obtain ⟨o, s1, e1, a1, _⟩ := f_among hC (n := n + 130) h [2, 3, 2, 4] (by decide)
  rw [p_aw, p_bp, e1]
  simp only [Option.bind_some]
  rw [f_b0, hs]
  obtain ⟨k1, k2, k3⟩ := allCells_ok hs
  have h64 := srt_small64 hs k2 k3
  simp only [Option.bind_some, Bool.not_true, cond_false]
  rw [f_l2All [] hs]
  simp only [Option.bind_some]
  exact l_someI hC hs h64 k2 k3 0 0 0 [] o (allCells X Y Z).length 0 N n s1 [] (by simp) (by have := N_ge; omega) (List.nil_sublist _) (a1.le (by omega))
theorem app_one {l : List Int} {x : Int} (h : l.length ≤ 1000) : (decide ((l.length + ([x] : List Int).length) * 8 ≤ 140737488355328) && decide (l.length + ([x] : List Int).length ≤ 140737488355328)) = true := app8 h
theorem shadow_lens {X Y Z : Int} (hs : sides X Y Z = true) (l : List D_A3) : (1 ≤ (shadowOf X Y Z l).2.2.2.1.length ∧ (shadowOf X Y Z l).2.2.2.1.length ≤ 16) ∧ (1 ≤ (shadowOf X Y Z l).2.2.2.2.1.length ∧ (shadowOf X Y Z l).2.2.2.2.1.length ≤ 16) ∧ (1 ≤ (shadowOf X Y Z l).2.2.2.2.2.1.length ∧ (shadowOf X Y Z l).2.2.2.2.2.1.length ≤ 16) := by
  have q2 := lines_ok hs (d := 2) (by decide) (by decide)
  have q1 := lines_ok hs (d := 1) (by decide) (by decide)
  have q0 := lines_ok hs (d := 0) (by decide) (by decide)
  have s2 : (shadowOf X Y Z l).2.2.2.1.length = (linesD X Y Z 2).toNat := shD_len ..
  have s1 : (shadowOf X Y Z l).2.2.2.2.1.length = (linesD X Y Z 1).toNat := shD_len ..
  have s0 : (shadowOf X Y Z l).2.2.2.2.2.1.length = (linesD X Y Z 0).toNat := shD_len ..
  omega
def Sh20 (s : D_Shadow) : Prop := s.2.2.2.1.length ≤ 20 ∧ s.2.2.2.2.1.length ≤ 20 ∧ s.2.2.2.2.2.1.length ≤ 20
theorem Sh20.small {s : D_Shadow} (h : Sh20 s) : SmallS s := by
  obtain ⟨a, b, c⟩ := h
  exact ⟨by unfold Small; omega, by unfold Small; omega, by unfold Small; omega⟩
theorem f_shadow3 {C : List Int} (hC : Bts C) {n : Nat} {s : Sd} (h : At (n + 160) s) : ∃ (u : D_Shadow) (s' : Sd), P_cn ((C, s), ()) = some ((u, ()), ((C, s'), ())) ∧ At n s' ∧ Sh20 u := by
  obtain ⟨g, s1, e1, a1, b1⟩ := f_heap hC (n := n + 16) h
  rw [p_cn, e1]
  simp only [Option.bind_some]
  have hl : Small g.2.2.2.1 := by unfold Small; omega
  rw [f_at _ hl]
  simp only [Option.bind_some]
  cases ho : okHeap g with
  | false => exact ⟨_, _, rfl, a1.le (by omega), by simp [Sh20]⟩
  | true =>
    obtain ⟨hs, hi, hr⟩ := okHeap_iff.1 ho
    have hof : P_cf (g, ()) = _ := f_l3Of hs hl hi
    simp only [Bool.not_true, cond_false]
    rw [hof]
    simp only [Option.bind_some]
    obtain ⟨⟨t1, t2⟩, ⟨f1, f2⟩, ⟨d1, d2⟩⟩ := shadow_lens hs g.2.2.2.1
    generalize shadowOf g.1 g.2.1 g.2.2.1 g.2.2.2.1 = W at *
    obtain ⟨p, s2, e2, a2, _⟩ := f_pick hC (n := n + 14) a1 16
    rw [e2]
    simp only [Option.bind_some]
    by_cases p0 : p = 0
    · rw [decide_eq_true p0]
      obtain ⟨x, s3, e3, a3, x0, x1⟩ := f_pick hC (n := n + 12) a2 (W.2.2.2.1.length : Int)
      obtain ⟨y, s4, e4, a4, _⟩ := f_pick hC (n := n + 10) a3 2
      obtain ⟨q, s5, e5, a5, _⟩ := f_pick hC (n := n + 8) a4 50
      obtain ⟨v, s6, e6, a6, _⟩ := f_among hC (n := n + 6) a5 [2, -1] (by decide)
      obtain ⟨v', s6', e6', a6', _⟩ := f_among hC (n := n + 6) a5 [0, 5, 4611686018427387904] (by decide)
      simp only [cond_true]
      rw [e3]
      simp only [Option.bind_some]
      rw [e4]
      simp only [Option.bind_some]
      rw [show inB x W.2.2.2.1.length = true by simp [inB]; omega]
      simp only [cond_true]
      rw [e5]
      simp only [Option.bind_some]
      by_cases q0 : q = 0
      · rw [decide_eq_true q0, app_one (by rw [List.length_set]; omega)]
        exact ⟨_, _, rfl, a5.le (by omega), by simp [Sh20]; omega⟩
      · rw [decide_eq_false q0]
        by_cases q1 : q = 1
        · rw [decide_eq_true q1, e6, show inB 0 W.2.2.2.2.1.length = true by simp [inB]; omega]
          exact ⟨_, _, rfl, a6.le (by omega), by simp [Sh20]; omega⟩
        · rw [decide_eq_false q1]
          by_cases q2 : q = 2
          · rw [decide_eq_true q2]
            exact ⟨_, _, rfl, a5.le (by omega), by simp [Sh20]; omega⟩
          · rw [decide_eq_false q2]
            by_cases q3 : q = 3
            · rw [decide_eq_true q3, e6']
              exact ⟨_, _, rfl, a6'.le (by omega), by simp [Sh20]; omega⟩
            · rw [decide_eq_false q3]
              exact ⟨_, _, rfl, a5.le (by omega), by simp [Sh20]; omega⟩
    · rw [decide_eq_false p0]
      simp only [cond_false]
      by_cases p1 : p = 1
      · rw [decide_eq_true p1]
        obtain ⟨x, s3, e3, a3, x0, x1⟩ := f_pick hC (n := n + 12) a2 (W.2.2.2.2.2.1.length : Int)
        obtain ⟨y, s4, e4, a4, _⟩ := f_pick hC (n := n + 10) a3 2
        obtain ⟨x', s3', e3', a3', x0', x1'⟩ := f_pick hC (n := n + 8) a4 (W.2.2.2.2.1.length : Int)
        obtain ⟨y', s4', e4', a4', _⟩ := f_pick hC (n := n + 6) a3' 2
        obtain ⟨q, s5, e5, a5, _⟩ := f_pick hC (n := n + 4) a4' 50
        obtain ⟨v, s6, e6, a6, _⟩ := f_among hC (n := n + 2) a5 [2, -1] (by decide)
        obtain ⟨v', s6', e6', a6', _⟩ := f_among hC (n := n + 2) a5 [0, 5, 4611686018427387904] (by decide)
        simp only [cond_true]
        rw [e3]
        simp only [Option.bind_some]
        rw [e4]
        simp only [Option.bind_some]
        rw [show inB x W.2.2.2.2.2.1.length = true by simp [inB]; omega]
        simp only [cond_true]
        rw [e3']
        simp only [Option.bind_some]
        rw [e4']
        simp only [Option.bind_some]
        rw [show inB x' W.2.2.2.2.1.length = true by simp [inB]; omega]
        simp only [cond_true]
        rw [e5]
        simp only [Option.bind_some]
        by_cases q0 : q = 0
        · rw [decide_eq_true q0, app_one (by omega)]
          exact ⟨_, _, rfl, a5.le (by omega), by simp [Sh20]; omega⟩
        · rw [decide_eq_false q0]
          by_cases q1 : q = 1
          · rw [decide_eq_true q1, e6, show inB 0 (List.length (List.set W.2.2.2.2.1 (Int.toNat x') y')) = true by simp [inB]; omega]
            exact ⟨_, _, rfl, a6.le (by omega), by simp [Sh20]; omega⟩
          · rw [decide_eq_false q1]
            by_cases q2 : q = 2
            · rw [decide_eq_true q2]
              exact ⟨_, _, rfl, a5.le (by omega), by simp [Sh20]; omega⟩
            · rw [decide_eq_false q2]
              by_cases q3 : q = 3
              · rw [decide_eq_true q3, e6']
                exact ⟨_, _, rfl, a6'.le (by omega), by simp [Sh20]; omega⟩
              · rw [decide_eq_false q3]
                exact ⟨_, _, rfl, a5.le (by omega), by simp [Sh20]; omega⟩
      · rw [decide_eq_false p1]
        obtain ⟨q, s5, e5, a5, _⟩ := f_pick hC (n := n + 12) a2 50
        obtain ⟨v, s6, e6, a6, _⟩ := f_among hC (n := n + 10) a5 [2, -1] (by decide)
        obtain ⟨v', s6', e6', a6', _⟩ := f_among hC (n := n + 10) a5 [0, 5, 4611686018427387904] (by decide)
        simp only [cond_false]
        rw [e5]
        simp only [Option.bind_some]
        by_cases q0 : q = 0
        · rw [decide_eq_true q0, app_one (by omega)]
          exact ⟨_, _, rfl, a5.le (by omega), by simp [Sh20]; omega⟩
        · rw [decide_eq_false q0]
          by_cases q1 : q = 1
          · rw [decide_eq_true q1, e6, show inB 0 W.2.2.2.2.1.length = true by simp [inB]; omega]
            exact ⟨_, _, rfl, a6.le (by omega), by simp [Sh20]; omega⟩
          · rw [decide_eq_false q1]
            by_cases q2 : q = 2
            · rw [decide_eq_true q2]
              exact ⟨_, _, rfl, a5.le (by omega), by simp [Sh20]; omega⟩
            · rw [decide_eq_false q2]
              by_cases q3 : q = 3
              · rw [decide_eq_true q3, e6']
                exact ⟨_, _, rfl, a6'.le (by omega), by simp [Sh20]; omega⟩
              · rw [decide_eq_false q3]
                exact ⟨_, _, rfl, a5.le (by omega), by simp [Sh20]; omega⟩
theorem f_small3 {C : List Int} (hC : Bts C) {n : Nat} {s : Sd} (h : At (n + 162) s) : ∃ (u : D_Shadow) (s' : Sd), P_dg ((C, s), ()) = some ((u, ()), ((C, s'), ())) ∧ Sh20 u := by
  obtain ⟨b, s1, e1, a1⟩ := f_one hC (n := n + 160) h 10
  rw [p_dg, e1]
  simp only [Option.bind_some]
  cases b with
  | true =>
    obtain ⟨u, s2, e2, _, h2⟩ := f_shadow3 hC (n := n) a1
    simp only [cond_true]
    rw [e2]
    exact ⟨_, _, rfl, h2⟩
  | false =>
    obtain ⟨x, s2, e2, a2, m2⟩ := f_among hC (n := n + 158) a1 [2, 2, 3, 1] (by decide)
    obtain ⟨y, s3, e3, a3, m3⟩ := f_among hC (n := n + 156) a2 [2, 3, 2, 1] (by decide)
    obtain ⟨z, s4, e4, a4, m4⟩ := f_among hC (n := n + 154) a3 [2, 2, 3, 1] (by decide)
    have hs : sides x y z = true := sides_iff.2 (by
      simp only [List.mem_cons, List.not_mem_nil, or_false] at m2 m3 m4
      omega)
    obtain ⟨g, s5, e5, _, g1, g2, g3, g4, g5⟩ := f_someI hC (n := n + 22) a4 hs
    simp only [cond_false]
    rw [e2]
    simp only [Option.bind_some]
    rw [e3]
    simp only [Option.bind_some]
    rw [e4]
    simp only [Option.bind_some]
    rw [e5]
    simp only [Option.bind_some]
    have hof : P_cf (g, ()) = some (shadowOf x y z g.2.2.2.1, ()) := by
      obtain ⟨gx, gy, gz, gl, ⟨⟩⟩ := g
      obtain rfl : gx = x := g1
      obtain rfl : gy = y := g2
      obtain rfl : gz = z := g3
      exact f_l3Of hs (by unfold Small; show gl.length ≤ _; have : gl.length ≤ 64 := g5; omega) g4
    rw [hof]
    obtain ⟨⟨t1, t2⟩, ⟨f1, f2⟩, ⟨d1, d2⟩⟩ := shadow_lens hs g.2.2.2.1
    exact ⟨_, _, rfl, show Sh20 (shadowOf x y z g.2.2.2.1) from by unfold Sh20; omega⟩
theorem at0 (n : Nat) (h : n ≤ 1000000) : At n ((0, 0, ()) : Sd) := ⟨by simp only; omega, by simp only; omega⟩
theorem d_Fewest {C : List Int} (hC : Bts C) : ∃ u : D_Shadow, P_de (C, ()) = some (u, ()) ∧ SmallS u := by
  obtain ⟨u, s1, e1, h1⟩ := f_small3 hC (n := 0) (at0 162 (by decide))
  rw [p_de, e1]
  exact ⟨u, rfl, h1.small⟩
theorem d_Mirror {C : List Int} (hC : Bts C) : ∃ (u : D_Shadow) (d : Int), P_dl (C, ()) = some (u, d, ()) ∧ SmallS u := by
  obtain ⟨u, s1, e1, a1, h1⟩ := f_shadow3 hC (n := 4) (at0 164 (by decide))
  obtain ⟨d, s2, e2, _⟩ := f_direction hC (n := 0) a1
  rw [p_dl, e1]
  simp only [Option.bind_some]
  rw [e2]
  exact ⟨u, d, rfl, h1.small⟩
end Go.VI
