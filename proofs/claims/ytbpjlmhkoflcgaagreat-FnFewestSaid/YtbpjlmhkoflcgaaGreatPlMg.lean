/- Plain: allowed cells, the cells of each lit line, and those where a cube must be. -/
import Derived.Test.YtbpjlmhkoflcgaaGreatPlO
import Derived.Test.YtbpjlmhkoflcgaaGreatPlS
namespace Go.VI
open Go.Proofs
def litAt (s : D_Shadow) (d : Int) (c : D_A3) : Bool := !decide (nth ((.int .i64) : Ty) (listD s d) (lineD s.1 s.2.1 s.2.2.1 d c) = 0)
def allowedC (s : D_Shadow) (c : D_A3) : Bool := litAt s 0 c && (litAt s 1 c && litAt s 2 c)
theorem okSh_iff {s : D_Shadow} : okSh s = true ↔ sides s.1 s.2.1 s.2.2.1 = true ∧ ∀ d, 0 ≤ d → d ≤ 2 → onesB (listD s d) (linesD s.1 s.2.1 s.2.2.1 d) = true := by
  unfold okSh
  simp only [Bool.and_eq_true]
  constructor
  · rintro ⟨h, h0, h1, h2⟩
    exact ⟨h, fun d d0 d1 => by rcases dir d0 d1 with rfl | rfl | rfl <;> assumption⟩
  · rintro ⟨h, hd⟩
    exact ⟨h, hd 0 (by decide) (by decide), hd 1 (by decide) (by decide), hd 2 (by decide) (by decide)⟩
theorem list_len {s : D_Shadow} (ho : okSh s = true) {d : Int} (d0 : 0 ≤ d) (d1 : d ≤ 2) : (listD s d).length = (linesD s.1 s.2.1 s.2.2.1 d).toNat ∧ (listD s d).length ≤ 16 ∧ ∀ x ∈ listD s d, x = 0 ∨ x = 1 := by
  obtain ⟨hs, h⟩ := okSh_iff.1 ho
  have hl := lines_ok hs d0 d1
  obtain ⟨_, _, h3, h4⟩ := lit_ok (h d d0 d1) hl.2
  refine ⟨by omega, by omega, fun x hx => ?_⟩
  have := h3 x hx
  unfold bit01 at this
  rw [Bool.and_eq_true, decide_eq_true_eq, decide_eq_true_eq] at this
  omega
theorem l_allow (s : D_Shadow) (ho : okSh s = true) (c : D_A3) (hc : within3 s.1 s.2.1 s.2.2.1 c = true) (m : Nat) {d : Int} (d0 : 0 ≤ d) (d1 : d ≤ 2) :
    l_bb_2 (m + 1) c.1 c.2.1 c.2.2.1 s d = bif litAt s d c then l_bb_2 m c.1 c.2.1 c.2.2.1 s (d + 1) else some (false, ()) := by
  obtain ⟨hs, _⟩ := okSh_iff.1 ho
  obtain ⟨h1, _⟩ := list_len ho d0 d1
  rw [q_bb_2, decide_eq_true (p := d < 3) (by omega), f_sList s d0 d1, p_ae]
  simp only [cond_true, Option.bind_some]
  have e : P_a1 ((s.1, (s.2.1, (s.2.2.1, ()))), (c.1, (c.2.1, (c.2.2.1, ()))), d, ()) = _ := f_lineD hs d0 d1 hc
  rw [e]
  simp only [Option.bind_some]
  rw [inB_lineD hs d0 d1 hc h1, w64 (x := d + 1) (by omega) (by omega)]
  unfold litAt
  cases decide (nth ((.int .i64) : Ty) (listD s d) (lineD s.1 s.2.1 s.2.2.1 d c) = 0) <;> rfl
theorem f_allow1 (s : D_Shadow) (ho : okSh s = true) (c : D_A3) (hc : within3 s.1 s.2.1 s.2.2.1 c = true) : P_bb (c, s, ()) = some (allowedC s c, ()) := by
  obtain ⟨n, hn⟩ : ∃ n, N = n + 4 := ⟨N - 4, by have := N_ge; omega⟩
  rw [p_bb, hn, l_allow s ho c hc (n + 3) (d := 0) (by decide) (by decide)]
  unfold allowedC
  cases litAt s 0 c with
  | false => rfl
  | true =>
    simp only [cond_true, Bool.true_and]
    rw [show (0 : Int) + 1 = 1 from rfl, l_allow s ho c hc (n + 2) (d := 1) (by decide) (by decide)]
    cases litAt s 1 c with
    | false => rfl
    | true =>
      simp only [cond_true, Bool.true_and]
      rw [show (1 : Int) + 1 = 2 from rfl, l_allow s ho c hc (n + 1) (d := 2) (by decide) (by decide), q_bb_2]
      cases litAt s 2 c <;> rfl
def setB (X Y Z : Int) (g : D_A3 → Bool) : B64 := thoseR Y Z g (X * Y * Z).toNat 0 0
theorem setB_is {X Y Z : Int} (hs : sides X Y Z = true) (g : D_A3 → Bool) : SetIs X Y Z (setB X Y Z g) g := by
  have h64 := size64 hs
  refine ⟨fun i hi => ?_, fun c hc => ?_⟩
  · rw [setB, thoseR_bit Y Z g i _ 0 0 (by omega)]
    have : decide (i < 0 + (X * Y * Z).toNat) = false := decide_eq_false (by omega)
    rw [this, Bool.and_false, Bool.false_and, Bool.or_false]
    simp
  · rw [setB, thoseR_bit Y Z g _ _ 0 0 (by omega), cellOf_idx hs hc]
    have : decide (idx Y Z c < 0 + (X * Y * Z).toNat) = true := decide_eq_true (by have := (idx_eq hs hc).2.1; omega)
    rw [this, decide_eq_true (Nat.zero_le _)]
    simp
theorem f_thoseB {X Y Z : Int} (hs : sides X Y Z = true) {g : D_A3 → Bool} {F : D_A3 × Unit → Option (Bool × Unit)} (hF : ∀ c, within3 X Y Z c = true → F (c, ()) = some (g c, ())) : P_az ((X, Y, Z, ()), F, ()) = some (((setB X Y Z g).toNat : Int), ()) := by
  obtain ⟨v, e, hv⟩ := f_those hs hF
  rw [e, hv.ext hs (setB_is hs g)]
def allowedB (s : D_Shadow) : B64 := setB s.1 s.2.1 s.2.2.1 (allowedC s)
theorem f_allowed (s : D_Shadow) (ho : okSh s = true) : P_bs (s, ()) = some (((allowedB s).toNat : Int), ()) := by
  obtain ⟨hs, _⟩ := okSh_iff.1 ho
  rw [p_bs, p_ae]
  simp only [Option.bind_some]
  have e : P_az ((s.1, (s.2.1, (s.2.2.1, ()))), (fun (y : D_A3 × Unit) => P_bb (y.1, s, ())), ()) = _ := f_thoseB hs (g := allowedC s) (fun c hc => f_allow1 s ho c hc)
  rw [e]
  rfl
def lineB (s : D_Shadow) (d : Int) (i : Nat) : B64 := setB s.1 s.2.1 s.2.2.1 fun c => decide (lineD s.1 s.2.1 s.2.2.1 d c = (i : Int))
def needR (s : D_Shadow) (d : Int) : List Int → Nat → List B64
  | [], _ => []
  | x :: r, q => if x = 1 then (allowedB s &&& lineB s d q) :: needR s d r (q + 1) else needR s d r (q + 1)
theorem needR_len (s : D_Shadow) (d : Int) : ∀ (l : List Int) (q : Nat), (needR s d l q).length ≤ l.length
  | [], _ => Nat.le_refl _
  | x :: r, q => by
    have := needR_len s d r (q + 1)
    unfold needR
    split <;> simp <;> omega
theorem mem_needR {s : D_Shadow} {d : Int} {v : B64} : ∀ {l : List Int} {q : Nat}, v ∈ needR s d l q ↔ ∃ i, ∃ h : i < l.length, l[i] = 1 ∧ v = allowedB s &&& lineB s d (q + i)
  | [], q => by simp [needR]
  | x :: r, q => by
    have ih := @mem_needR s d v r (q + 1)
    have tail : (∃ i, ∃ h : i < r.length, r[i] = 1 ∧ v = allowedB s &&& lineB s d (q + 1 + i)) ↔ ∃ i, ∃ h : i + 1 < (x :: r).length, (x :: r)[i + 1] = 1 ∧ v = allowedB s &&& lineB s d (q + (i + 1)) := by
      constructor
      · rintro ⟨i, h, a, b⟩; exact ⟨i, by simp; omega, by simpa using a, by rw [b]; congr 2; omega⟩
      · rintro ⟨i, h, a, b⟩; exact ⟨i, by simpa using h, by simpa using a, by rw [b]; congr 2; omega⟩
    unfold needR
    by_cases hx : x = 1
    · rw [if_pos hx, List.mem_cons, ih, tail]
      constructor
      · rintro (h | ⟨i, h, a, b⟩)
        · exact ⟨0, by simp, by simpa using hx, h⟩
        · exact ⟨i + 1, h, a, b⟩
      · rintro ⟨i, h, a, b⟩
        cases i with
        | zero => exact .inl b
        | succ i => exact .inr ⟨i, h, a, b⟩
    · rw [if_neg hx, ih, tail]
      constructor
      · rintro ⟨i, h, a, b⟩; exact ⟨i + 1, h, a, b⟩
      · rintro ⟨i, h, a, b⟩
        cases i with
        | zero => exact absurd (by simpa using a) hx
        | succ i => exact ⟨i, h, a, b⟩
theorem nums_app (a b : List B64) : nums (a ++ b) = nums a ++ nums b := List.map_append ..
theorem f_line1 (s : D_Shadow) (ho : okSh s = true) {d : Int} (d0 : 0 ≤ d) (d1 : d ≤ 2) (q : Nat) : P_az ((s.1, (s.2.1, (s.2.2.1, ()))), (fun (y : D_A3 × Unit) => P_cy (y.1, (s.1, (s.2.1, (s.2.2.1, (s.2.2.2.1, (s.2.2.2.2.1, (s.2.2.2.2.2.1, ())))))), d, (q : Int), ())), ()) = some (((lineB s d q).toNat : Int), ()) := by
  obtain ⟨hs, _⟩ := okSh_iff.1 ho
  refine f_thoseB hs (fun c hc => ?_)
  show P_cy (c, (s.1, (s.2.1, (s.2.2.1, (s.2.2.2.1, (s.2.2.2.2.1, (s.2.2.2.2.2.1, ())))))), d, (q : Int), ()) = _
  rw [p_cy, p_ae]
  simp only [Option.bind_some]
  rw [f_lineD hs d0 d1 hc]
  rfl
theorem app_num {l : List Int} {x : Int} (h : l.length ≤ 1000) : (decide ((l.length + ([x] : List Int).length) * 8 ≤ 140737488355328) && decide (l.length + ([x] : List Int).length ≤ 140737488355328)) = true := by
  rw [Bool.and_eq_true, decide_eq_true_eq, decide_eq_true_eq]
  simp
  omega
theorem l_need1006 (s : D_Shadow) (ho : okSh s = true) {d : Int} (d0 : 0 ≤ d) (d1 : d ≤ 2) (m0 : Nat) : ∀ (n q m : Nat) (acc : List B64), (listD s d).length = q + n → n < m → acc.length + n ≤ 100 →
    l_ab_1006 m0 m s.1 s.2.1 s.2.2.1 s.2.2.2.1 s.2.2.2.2.1 s.2.2.2.2.2.1 d (nums acc) ((allowedB s).toNat : Int) d (listD s d) ((listD s d).length : Int) (q : Int) = l_ab_1003 m0 s.1 s.2.1 s.2.2.1 s.2.2.2.1 s.2.2.2.2.1 s.2.2.2.2.2.1 (nums (acc ++ needR s d ((listD s d).drop q) q)) ((allowedB s).toNat : Int) (d + 1)
  | n, q, 0, acc, _, h, _ => by omega
  | n, q, m + 1, acc, hk, hm, ha => by
    have hll := (list_len ho d0 d1).2.1
    rw [q_ab_1006]
    by_cases hlt : q < (listD s d).length
    · rw [ltT hlt, inB_at hlt, nthA (t := .int .i64) hlt, drop_at (listD s d) q hlt, succI q (by omega), p_ae]
      simp only [cond_true, Option.bind_some, needR]
      by_cases h1 : (listD s d)[q] = 1
      · rw [decide_eq_true h1, if_pos h1, f_line1 s ho d0 d1 q]
        simp only [cond_true, Option.bind_some]
        rw [and64, app_num (by rw [nums_len]; omega)]
        have e : nums acc ++ [((allowedB s &&& lineB s d q).toNat : Int)] = nums (acc ++ [allowedB s &&& lineB s d q]) := by rw [nums_app]; rfl
        rw [e]
        simp only [cond_true]
        rw [l_need1006 s ho d0 d1 m0 (n - 1) (q + 1) m _ (by omega) (by omega) (by rw [List.length_append]; simp; omega), List.append_assoc]
        rfl
      · rw [decide_eq_false h1, if_neg h1]
        simp only [cond_false]
        exact l_need1006 s ho d0 d1 m0 (n - 1) (q + 1) m _ (by omega) (by omega) (by omega)
    · rw [ltF hlt, List.drop_eq_nil_of_le (by omega), w64 (x := d + 1) (by omega) (by omega)]
      simp [needR]
theorem l_need6 (s : D_Shadow) (ho : okSh s = true) {d : Int} (d0 : 0 ≤ d) (d1 : d ≤ 2) (m0 : Nat) : ∀ (n q m : Nat) (acc : List B64), (listD s d).length = q + n → n < m → acc.length + n ≤ 100 →
    ∃ o, l_ab_6 m0 m s.1 s.2.1 s.2.2.1 s.2.2.2.1 s.2.2.2.2.1 s.2.2.2.2.2.1 d (nums acc) ((allowedB s).toNat : Int) d (listD s d) ((listD s d).length : Int) (q : Int) = o ∧
      (o = l_ab_1003 m0 s.1 s.2.1 s.2.2.1 s.2.2.2.1 s.2.2.2.2.1 s.2.2.2.2.2.1 (nums (acc ++ needR s d ((listD s d).drop q) q)) ((allowedB s).toNat : Int) (d + 1) ∨ o = l_ab_3 m0 s.1 s.2.1 s.2.2.1 s.2.2.2.1 s.2.2.2.2.1 s.2.2.2.2.2.1 (nums (acc ++ needR s d ((listD s d).drop q) q)) ((allowedB s).toNat : Int) (d + 1))
  | n, q, 0, acc, _, h, _ => by omega
  | n, q, m + 1, acc, hk, hm, ha => by
    have hll := (list_len ho d0 d1).2.1
    refine ⟨_, rfl, ?_⟩
    rw [q_ab_6]
    by_cases hlt : q < (listD s d).length
    · rw [ltT hlt, inB_at hlt, nthA (t := .int .i64) hlt, drop_at (listD s d) q hlt, succI q (by omega), p_ae]
      simp only [cond_true, Option.bind_some, needR]
      by_cases h1 : (listD s d)[q] = 1
      · rw [decide_eq_true h1, if_pos h1, f_line1 s ho d0 d1 q]
        simp only [cond_true, Option.bind_some]
        rw [and64, app_num (by rw [nums_len]; omega)]
        have e : nums acc ++ [((allowedB s &&& lineB s d q).toNat : Int)] = nums (acc ++ [allowedB s &&& lineB s d q]) := by rw [nums_app]; rfl
        rw [e]
        simp only [cond_true]
        rw [l_need1006 s ho d0 d1 m0 (n - 1) (q + 1) m _ (by omega) (by omega) (by rw [List.length_append]; simp; omega), List.append_assoc]
        exact .inl rfl
      · rw [decide_eq_false h1, if_neg h1]
        simp only [cond_false]
        obtain ⟨o, e, r⟩ := l_need6 s ho d0 d1 m0 (n - 1) (q + 1) m acc (by omega) (by omega) (by omega)
        rw [e]
        exact r
    · rw [ltF hlt, List.drop_eq_nil_of_le (by omega), w64 (x := d + 1) (by omega) (by omega)]
      exact .inr (by simp [needR])
def needsB (s : D_Shadow) : List B64 := needR s 0 (listD s 0) 0 ++ (needR s 1 (listD s 1) 0 ++ needR s 2 (listD s 2) 0)
theorem needsB_len {s : D_Shadow} (ho : okSh s = true) : (needsB s).length ≤ 48 := by
  have h0 := needR_len s 0 (listD s 0) 0
  have h1 := needR_len s 1 (listD s 1) 0
  have h2 := needR_len s 2 (listD s 2) 0
  have k0 := (list_len ho (d := 0) (by decide) (by decide)).2.1
  have k1 := (list_len ho (d := 1) (by decide) (by decide)).2.1
  have k2 := (list_len ho (d := 2) (by decide) (by decide)).2.1
  unfold needsB
  rw [List.length_append, List.length_append]
  omega
theorem l_need1003 (s : D_Shadow) (ho : okSh s = true) {d : Int} (d0 : 0 ≤ d) (d1 : d ≤ 2) (m : Nat) (acc : List B64) (ha : acc.length ≤ 50) :
    l_ab_1003 (m + 1) s.1 s.2.1 s.2.2.1 s.2.2.2.1 s.2.2.2.2.1 s.2.2.2.2.2.1 (nums acc) ((allowedB s).toNat : Int) d = l_ab_1003 m s.1 s.2.1 s.2.2.1 s.2.2.2.1 s.2.2.2.2.1 s.2.2.2.2.2.1 (nums (acc ++ needR s d (listD s d) 0)) ((allowedB s).toNat : Int) (d + 1) := by
  have hll := (list_len ho d0 d1).2.1
  rw [q_ab_1003, decide_eq_true (p := d < 3) (by omega)]
  have e1 : P_bw ((s.1, (s.2.1, (s.2.2.1, (s.2.2.2.1, (s.2.2.2.2.1, (s.2.2.2.2.2.1, ())))))), d, ()) = _ := f_sList s d0 d1
  rw [e1]
  exact l_need1006 s ho d0 d1 m (listD s d).length 0 N acc (by simp) (by have := N_ge; omega) (by omega)
theorem l_need3 (s : D_Shadow) (ho : okSh s = true) {d : Int} (d0 : 0 ≤ d) (d1 : d ≤ 2) (m : Nat) (acc : List B64) (ha : acc.length ≤ 50) :
    ∃ o, l_ab_3 (m + 1) s.1 s.2.1 s.2.2.1 s.2.2.2.1 s.2.2.2.2.1 s.2.2.2.2.2.1 (nums acc) ((allowedB s).toNat : Int) d = o ∧
      (o = l_ab_1003 m s.1 s.2.1 s.2.2.1 s.2.2.2.1 s.2.2.2.2.1 s.2.2.2.2.2.1 (nums (acc ++ needR s d (listD s d) 0)) ((allowedB s).toNat : Int) (d + 1) ∨ o = l_ab_3 m s.1 s.2.1 s.2.2.1 s.2.2.2.1 s.2.2.2.2.1 s.2.2.2.2.2.1 (nums (acc ++ needR s d (listD s d) 0)) ((allowedB s).toNat : Int) (d + 1)) := by
  have hll := (list_len ho d0 d1).2.1
  refine ⟨_, rfl, ?_⟩
  rw [q_ab_3, decide_eq_true (p := d < 3) (by omega)]
  have e1 : P_bw ((s.1, (s.2.1, (s.2.2.1, (s.2.2.2.1, (s.2.2.2.2.1, (s.2.2.2.2.2.1, ())))))), d, ()) = _ := f_sList s d0 d1
  rw [e1]
  obtain ⟨o, e, r⟩ := l_need6 s ho d0 d1 m (listD s d).length 0 N acc (by simp) (by have := N_ge; omega) (by omega)
  have e' : l_ab_6 m N s.1 s.2.1 s.2.2.1 s.2.2.2.1 s.2.2.2.2.1 s.2.2.2.2.2.1 d (nums acc) ((allowedB s).toNat : Int) d (listD s d) ((listD s d).length : Int) 0 = o := e
  simp only [cond_true, Option.bind_some]
  rw [e']
  exact r
theorem f_needs (s : D_Shadow) (ho : okSh s = true) : P_ab (s, ()) = some (nums (needsB s), ()) := by
  obtain ⟨n, hn⟩ : ∃ n, N = n + 4 := ⟨N - 4, by have := N_ge; omega⟩
  rw [p_ab, f_allowed s ho]
  simp only [Option.bind_some]
  rw [hn]
  have l0 := needR_len s 0 (listD s 0) 0
  have l1 := needR_len s 1 (listD s 1) 0
  have k0 := (list_len ho (d := 0) (by decide) (by decide)).2.1
  have k1 := (list_len ho (d := 1) (by decide) (by decide)).2.1
  have fin1 : ∀ (m : Nat) (a : List B64) , l_ab_1003 (m + 1) s.1 s.2.1 s.2.2.1 s.2.2.2.1 s.2.2.2.2.1 s.2.2.2.2.2.1 (nums a) ((allowedB s).toNat : Int) 3 = some (nums a, ()) := fun m a => by rw [q_ab_1003]; rfl
  have fin0 : ∀ (m : Nat) (a : List B64) , l_ab_3 (m + 1) s.1 s.2.1 s.2.2.1 s.2.2.2.1 s.2.2.2.2.1 s.2.2.2.2.2.1 (nums a) ((allowedB s).toNat : Int) 3 = some (nums a, ()) := fun m a => by rw [q_ab_3]; rfl
  have b2 : ∀ (a : List B64), a.length ≤ 50 → l_ab_1003 (n + 2) s.1 s.2.1 s.2.2.1 s.2.2.2.1 s.2.2.2.2.1 s.2.2.2.2.2.1 (nums a) ((allowedB s).toNat : Int) 2 = some (nums (a ++ needR s 2 (listD s 2) 0), ()) := fun a ha => by
    rw [l_need1003 s ho (d := 2) (by decide) (by decide) (n + 1) a ha]; exact fin1 _ _
  have c2 : ∀ (a : List B64), a.length ≤ 50 → l_ab_3 (n + 2) s.1 s.2.1 s.2.2.1 s.2.2.2.1 s.2.2.2.2.1 s.2.2.2.2.2.1 (nums a) ((allowedB s).toNat : Int) 2 = some (nums (a ++ needR s 2 (listD s 2) 0), ()) := fun a ha => by
    obtain ⟨o, e, r⟩ := l_need3 s ho (d := 2) (by decide) (by decide) (n + 1) a ha
    rw [e]
    rcases r with rfl | rfl
    · exact fin1 _ _
    · exact fin0 _ _
  have b1 : ∀ (a : List B64), a.length ≤ 16 → l_ab_1003 (n + 3) s.1 s.2.1 s.2.2.1 s.2.2.2.1 s.2.2.2.2.1 s.2.2.2.2.2.1 (nums a) ((allowedB s).toNat : Int) 1 = some (nums (a ++ needR s 1 (listD s 1) 0 ++ needR s 2 (listD s 2) 0), ()) := fun a ha => by
    rw [l_need1003 s ho (d := 1) (by decide) (by decide) (n + 2) a (by omega)]
    exact b2 _ (by rw [List.length_append]; omega)
  have c1 : ∀ (a : List B64), a.length ≤ 16 → l_ab_3 (n + 3) s.1 s.2.1 s.2.2.1 s.2.2.2.1 s.2.2.2.2.1 s.2.2.2.2.2.1 (nums a) ((allowedB s).toNat : Int) 1 = some (nums (a ++ needR s 1 (listD s 1) 0 ++ needR s 2 (listD s 2) 0), ()) := fun a ha => by
    obtain ⟨o, e, r⟩ := l_need3 s ho (d := 1) (by decide) (by decide) (n + 2) a (by omega)
    rw [e]
    rcases r with rfl | rfl
    · exact b2 _ (by rw [List.length_append]; omega)
    · exact c2 _ (by rw [List.length_append]; omega)
  obtain ⟨o, e, r⟩ := l_need3 s ho (d := 0) (by decide) (by decide) (n + 3) [] (by simp)
  have e' : l_ab_3 (n + 4) s.1 s.2.1 s.2.2.1 s.2.2.2.1 s.2.2.2.2.1 s.2.2.2.2.2.1 [] ((allowedB s).toNat : Int) 0 = o := e
  rw [e']
  unfold needsB
  rw [← List.append_assoc]
  rcases r with rfl | rfl
  · exact b1 _ (by simp; omega)
  · exact c1 _ (by simp; omega)
def mustR : List B64 → B64 → B64
  | [], a => a
  | v :: r, a => mustR r (if popB v.toNat = 1 then a ||| v else a)
def mustB (s : D_Shadow) : B64 := mustR (needsB s) 0
theorem mustR_bit (i : Nat) : ∀ (l : List B64) (a : B64), (mustR l a).getLsbD i = true ↔ a.getLsbD i = true ∨ ∃ v ∈ l, popB v.toNat = 1 ∧ v.getLsbD i = true
  | [], a => by simp [mustR]
  | v :: r, a => by
    rw [mustR, mustR_bit i r]
    by_cases h : popB v.toNat = 1
    · rw [if_pos h, BitVec.getLsbD_or, Bool.or_eq_true]
      simp only [List.mem_cons]
      constructor
      · rintro ((h1 | h1) | ⟨w, hw, h1⟩)
        · exact .inl h1
        · exact .inr ⟨v, .inl rfl, h, h1⟩
        · exact .inr ⟨w, .inr hw, h1⟩
      · rintro (h1 | ⟨w, rfl | hw, h1⟩)
        · exact .inl (.inl h1)
        · exact .inl (.inr h1.2)
        · exact .inr ⟨w, hw, h1⟩
    · rw [if_neg h]
      simp only [List.mem_cons]
      constructor
      · rintro (h1 | ⟨w, hw, h1⟩)
        · exact .inl h1
        · exact .inr ⟨w, .inr hw, h1⟩
      · rintro (h1 | ⟨w, rfl | hw, h1⟩)
        · exact .inl h1
        · exact absurd h1.1 h
        · exact .inr ⟨w, hw, h1⟩
theorem l_must {l : List B64} (hl : l.length ≤ 1000) : ∀ (d i m : Nat) (a : B64), l.length = i + d → d < m → l_ar_3 m (a.toNat : Int) (nums l) ((nums l).length : Int) (i : Int) = some (((mustR (l.drop i) a).toNat : Int), ())
  | d, i, 0, a, _, h => by omega
  | d, i, m + 1, a, hk, hm => by
    rw [q_ar_3]
    by_cases hlt : i < l.length
    · have hlt' : i < (nums l).length := by rw [nums_len]; exact hlt
      rw [ltT hlt', inB_at hlt', nums_at hlt, f_count, drop_at l i hlt, succI i (by omega), or64]
      simp only [cond_true, Option.bind_some, mustR]
      by_cases h : popB l[i].toNat = 1
      · rw [decide_eq_true (by omega), if_pos h]
        exact l_must hl (d - 1) (i + 1) m _ (by omega) (by omega)
      · rw [decide_eq_false (by omega), if_neg h]
        exact l_must hl (d - 1) (i + 1) m _ (by omega) (by omega)
    · rw [ltF (by rw [nums_len]; exact hlt), List.drop_eq_nil_of_le (by omega)]
      rfl
theorem f_must (s : D_Shadow) (ho : okSh s = true) : P_ar (s, ()) = some (((mustB s).toNat : Int), ()) := by
  have h := needsB_len ho
  rw [p_ar, f_needs s ho]
  exact l_must (l := needsB s) (by omega) (needsB s).length 0 N 0 (by simp) (by have := N_ge; omega)
theorem l_slEq {a b : List Int} (ha : a.length ≤ 1048576) (hab : a.length = b.length) : ∀ (d i m : Nat), a.length = i + d → d < m → l_a4_4 m a b (a.length : Int) (i : Int) = some (decide (a.drop i = b.drop i), ())
  | d, i, 0, _, h => by omega
  | d, i, m + 1, hk, hm => by
    rw [q_a4_4]
    by_cases hlt : i < a.length
    · have hlt' : i < b.length := by omega
      rw [ltT hlt, inB_at hlt, inB_at hlt', nthA (t := .int .i64) hlt, nthA (t := .int .i64) hlt', drop_at a i hlt, drop_at b i hlt', succI i (by omega), l_slEq ha hab (d - 1) (i + 1) m (by omega) (by omega)]
      simp only [cond_true]
      by_cases h : a[i] = b[i]
      · rw [decide_eq_true h]
        simp only [Bool.not_true, cond_false, h, List.cons.injEq, true_and]
      · rw [decide_eq_false h, decide_eq_false (p := a[i] :: _ = b[i] :: _) (fun hh => h (List.cons.inj hh).1)]
        rfl
    · rw [ltF hlt, List.drop_eq_nil_of_le (by omega), List.drop_eq_nil_of_le (by omega)]
      rfl
theorem f_slEq {a b : List Int} (ha : a.length ≤ 1048576) : P_a4 (a, b, ()) = some (decide (a = b), ()) := by
  rw [p_a4]
  by_cases h : a.length = b.length
  · rw [decide_eq_true (by omega)]
    exact l_slEq ha h a.length 0 N (by simp) (by have := N_ge; omega)
  · rw [decide_eq_false (p := ((a.length : Nat) : Int) = (b.length : Int)) (by omega), decide_eq_false (p := a = b) (fun e => h (by rw [e]))]
    rfl
def sameL (s t : D_Shadow) : Bool := decide (listD s 2 = listD t 2) && (decide (listD s 1 = listD t 1) && decide (listD s 0 = listD t 0))
theorem f_isOf (s : D_Shadow) (ho : okSh s = true) (v : B64) : P_cr (s, (v.toNat : Int), ()) = some (sameL s (shadowOf s.1 s.2.1 s.2.2.1 (bitCells s.1 s.2.1 s.2.2.1 v)), ()) := by
  obtain ⟨hs, _⟩ := okSh_iff.1 ho
  have k0 := (list_len ho (d := 0) (by decide) (by decide)).2.1
  have k1 := (list_len ho (d := 1) (by decide) (by decide)).2.1
  have k2 := (list_len ho (d := 2) (by decide) (by decide)).2.1
  rw [p_cr, p_ae]
  simp only [Option.bind_some]
  rw [f_shadowB hs]
  simp only [Option.bind_some]
  rw [p_dp, p_ae, p_ae]
  simp only [Option.bind_some]
  have e : (decide (s.1 = (shadowOf s.1 s.2.1 s.2.2.1 (bitCells s.1 s.2.1 s.2.2.1 v)).1) && (decide (s.2.1 = (shadowOf s.1 s.2.1 s.2.2.1 (bitCells s.1 s.2.1 s.2.2.1 v)).2.1) && (decide (s.2.2.1 = (shadowOf s.1 s.2.1 s.2.2.1 (bitCells s.1 s.2.1 s.2.2.1 v)).2.2.1) && true))) = true := by
    unfold shadowOf
    simp
  have e2 : P_a4 (s.2.2.2.1, (shadowOf s.1 s.2.1 s.2.2.1 (bitCells s.1 s.2.1 s.2.2.1 v)).2.2.2.1, ()) = _ := f_slEq (a := listD s 2) (b := listD (shadowOf s.1 s.2.1 s.2.2.1 (bitCells s.1 s.2.1 s.2.2.1 v)) 2) (by omega)
  have e1 : P_a4 (s.2.2.2.2.1, (shadowOf s.1 s.2.1 s.2.2.1 (bitCells s.1 s.2.1 s.2.2.1 v)).2.2.2.2.1, ()) = _ := f_slEq (a := listD s 1) (b := listD (shadowOf s.1 s.2.1 s.2.2.1 (bitCells s.1 s.2.1 s.2.2.1 v)) 1) (by omega)
  have e0 : P_a4 (s.2.2.2.2.2.1, (shadowOf s.1 s.2.1 s.2.2.1 (bitCells s.1 s.2.1 s.2.2.1 v)).2.2.2.2.2.1, ()) = _ := f_slEq (a := listD s 0) (b := listD (shadowOf s.1 s.2.1 s.2.2.1 (bitCells s.1 s.2.1 s.2.2.1 v)) 0) (by omega)
  rw [e, e2, e1, e0]
  unfold sameL
  simp only [cond_true, Option.bind_some]
  cases decide (listD s 2 = listD (shadowOf s.1 s.2.1 s.2.2.1 (bitCells s.1 s.2.1 s.2.2.1 v)) 2) with
  | false => rfl
  | true =>
    cases decide (listD s 1 = listD (shadowOf s.1 s.2.1 s.2.2.1 (bitCells s.1 s.2.1 s.2.2.1 v)) 1) <;> rfl
def fitsB (s : D_Shadow) : Bool := sameL s (shadowOf s.1 s.2.1 s.2.2.1 (bitCells s.1 s.2.1 s.2.2.1 (allowedB s)))
theorem f_fits (s : D_Shadow) (ho : okSh s = true) : P_b8 (s, ()) = some (fitsB s, ()) := by
  rw [p_b8, f_allowed s ho]
  simp only [Option.bind_some]
  rw [f_isOf s ho]
  rfl
theorem f_isFitting (s : D_Shadow) (hm : SmallS s) : P_b4 (s, ()) = some (okSh s && fitsB s, ()) := by
  rw [p_b4, f_isShadow s hm]
  simp only [Option.bind_some]
  cases ho : okSh s with
  | false => rfl
  | true =>
    simp only [cond_true]
    rw [f_fits s ho]
    rfl
end Go.VI
/- Plain: the draws of numbers, cells and heaps give something. -/
namespace Go.VI
open Go.Proofs
def Bts (C : List Int) : Prop := C.length ≤ 1000000 ∧ ∀ b ∈ C, 0 ≤ b ∧ b ≤ 255
abbrev Sd : Type := Int × Int × Unit
def At (n : Nat) (s : Sd) : Prop := 0 ≤ s.1 ∧ s.1 + n ≤ 1000000000
theorem At.le {n m : Nat} {s : Sd} (h : At n s) (hm : m ≤ n) : At m s := ⟨h.1, by have := h.2; omega⟩
theorem and255 (a : Int) : 0 ≤ intBits .and .u64 a 255 ∧ intBits .and .u64 a 255 ≤ 255 := by
  have h : ((BitVec.ofInt 64 a) &&& (BitVec.ofInt 64 255)).toNat ≤ 255 := by
    rw [BitVec.toNat_and]
    exact Nat.le_trans Nat.and_le_right (by decide)
  have e : intBits .and .u64 a 255 = (((BitVec.ofInt 64 a) &&& (BitVec.ofInt 64 255)).toNat : Int) := by
    simp only [intBits]
    rw [show IntKind.bits .u64 = 64 from rfl, wu64]
    omega
  rw [e]
  omega
theorem nth_byte {C : List Int} (hC : Bts C) {i : Int} (h0 : 0 ≤ i) (h1 : i < C.length) : 0 ≤ nth ((.int .u8) : Ty) C i ∧ nth ((.int .u8) : Ty) C i ≤ 255 := by
  have hlt : i.toNat < C.length := by omega
  have e : nth ((.int .u8) : Ty) C i = C[i.toNat] := by simp [nth, List.getD, List.getElem?_eq_getElem hlt]
  rw [e]
  exact hC.2 _ (List.getElem_mem hlt)
theorem f_next {C : List Int} (hC : Bts C) {n : Nat} {s : Sd} (h : At (n + 1) s) : ∃ (x : Int) (s' : Sd), P_c6 ((C, s), ()) = some ((x, ()), ((C, s'), ())) ∧ At n s' ∧ 0 ≤ x ∧ x ≤ 255 := by
  obtain ⟨a, sd, ⟨⟩⟩ := s
  obtain ⟨h0, h1⟩ := h
  simp only at h0 h1
  rw [p_c6]
  simp only
  rw [w64 (x := a + 1) (by omega) (by omega)]
  have hat : ∀ z : Int, At n (a + 1, z, ()) := fun z => ⟨by simp only; omega, by simp only; omega⟩
  by_cases c : a < (C.length : Int)
  · obtain ⟨b0, b1⟩ := nth_byte hC h0 c
    rw [decide_eq_true c, show inB a C.length = true by simp [inB]; omega, decide_eq_true (p := a + 1 ≤ (C.length : Int)) (by omega), w64 (x := nth ((.int .u8) : Ty) C a) (Int.le_trans (by decide) b0) (Int.le_trans b1 (by decide))]
    exact ⟨_, _, rfl, hat _, b0, b1⟩
  · rw [decide_eq_false c, decide_eq_false (p := a + 1 ≤ (C.length : Int)) (by omega)]
    simp only [cond_false]
    generalize hz : intBits .and .u64 _ 255 = z
    have hb : 0 ≤ z ∧ z ≤ 255 := by rw [← hz]; exact and255 _
    rw [w64 (x := z) (by omega) (by omega)]
    exact ⟨_, _, rfl, hat _, hb.1, hb.2⟩
theorem f_pick {C : List Int} (hC : Bts C) {n : Nat} {s : Sd} (h : At (n + 2) s) (k : Int) : ∃ (x : Int) (s' : Sd), P_av ((C, s), k, ()) = some ((x, ()), ((C, s'), ())) ∧ At n s' ∧ 0 ≤ x ∧ (x < k ∨ (k ≤ 1 ∧ x = 0)) := by
  rw [p_av]
  by_cases c : k ≤ 1
  · rw [decide_eq_true c]
    exact ⟨_, _, rfl, h.le (by omega), Int.le_refl _, .inr ⟨c, rfl⟩⟩
  · obtain ⟨x, s1, e1, a1, b1, b2⟩ := f_next hC h
    rw [decide_eq_false c, e1]
    simp only [cond_false, Option.bind_some]
    by_cases d : k > 200
    · obtain ⟨y, s2, e2, a2, c1, c2⟩ := f_next hC a1
      rw [decide_eq_true d, e2]
      simp only [cond_true, Option.bind_some]
      rw [decide_eq_false (p := k = 0) (by omega), w64 (x := x * 256) (by omega) (by omega), w64 (x := x * 256 + y) (by omega) (by omega)]
      exact ⟨_, _, rfl, a2, Int.tmod_nonneg _ (by omega), .inl (Int.tmod_lt_of_pos _ (by omega))⟩
    · rw [decide_eq_false d, decide_eq_false (p := k = 0) (by omega)]
      exact ⟨_, _, rfl, a1.le (by omega), Int.tmod_nonneg _ (by omega), .inl (Int.tmod_lt_of_pos _ (by omega))⟩
theorem f_one {C : List Int} (hC : Bts C) {n : Nat} {s : Sd} (h : At (n + 2) s) (k : Int) : ∃ (b : Bool) (s' : Sd), P_b5 ((C, s), k, ()) = some ((b, ()), ((C, s'), ())) ∧ At n s' := by
  obtain ⟨x, s1, e1, a1, _, _⟩ := f_pick hC h k
  rw [p_b5, e1]
  exact ⟨_, _, rfl, a1⟩
theorem f_among {C : List Int} (hC : Bts C) {n : Nat} {s : Sd} (h : At (n + 2) s) (l : List Int) (hl : 0 < l.length) : ∃ (x : Int) (s' : Sd), P_a5 ((C, s), l, ()) = some ((x, ()), ((C, s'), ())) ∧ At n s' ∧ x ∈ l := by
  obtain ⟨x, s1, e1, a1, b1, b2⟩ := f_pick hC h (l.length : Int)
  rw [p_a5, e1]
  simp only [Option.bind_some]
  have hx : x < (l.length : Int) := by omega
  rw [show inB x l.length = true by simp [inB]; omega]
  have hlt : x.toNat < l.length := by omega
  have e : nth ((.int .i64) : Ty) l x = l[x.toNat] := by simp [nth, List.getD, List.getElem?_eq_getElem hlt]
  rw [e]
  exact ⟨_, _, rfl, a1, List.getElem_mem hlt⟩
theorem f_sides {C : List Int} (hC : Bts C) {n : Nat} {s : Sd} (h : At (n + 10) s) : ∃ (x y z : Int) (s' : Sd), P_dc ((C, s), ()) = some ((x, y, z, ()), ((C, s'), ())) ∧ At n s' := by
  obtain ⟨x, s1, e1, a1, _⟩ := f_among hC (n := n + 8) h [2, 3, 3, 1, 4] (by decide)
  obtain ⟨y, s2, e2, a2, _⟩ := f_among hC (n := n + 6) a1 [2, 3, 2, 1, 4] (by decide)
  obtain ⟨z, s3, e3, a3, _⟩ := f_among hC (n := n + 4) a2 [2, 3, 3, 1, 4] (by decide)
  obtain ⟨p, s4, e4, a4, _⟩ := f_pick hC (n := n + 2) a3 60
  obtain ⟨x', s5, e5, a5, _⟩ := f_among hC (n := n) a4 [0, 5, (-1), 4611686018427387904] (by decide)
  obtain ⟨y', s6, e6, a6, _⟩ := f_among hC (n := n) a4 [0, 5, (-1)] (by decide)
  rw [p_dc, e1]
  simp only [Option.bind_some]
  rw [e2]
  simp only [Option.bind_some]
  rw [e3]
  simp only [Option.bind_some]
  rw [e4]
  simp only [Option.bind_some]
  rw [e5, e6]
  simp only [Option.bind_some]
  by_cases c0 : p = 0
  · rw [decide_eq_true c0]; exact ⟨_, _, _, _, rfl, a5⟩
  · rw [decide_eq_false c0]
    by_cases c1 : p = 1
    · rw [decide_eq_true c1]; exact ⟨_, _, _, _, rfl, a6⟩
    · rw [decide_eq_false c1]
      by_cases c2 : p = 2
      · rw [decide_eq_true c2]; exact ⟨_, _, _, _, rfl, a6⟩
      · rw [decide_eq_false c2]; exact ⟨_, _, _, _, rfl, a4.le (by omega)⟩
theorem f_direction {C : List Int} (hC : Bts C) {n : Nat} {s : Sd} (h : At (n + 4) s) : ∃ (x : Int) (s' : Sd), P_dd ((C, s), ()) = some ((x, ()), ((C, s'), ())) ∧ At n s' := by
  obtain ⟨b, s1, e1, a1⟩ := f_one hC (n := n + 2) h 30
  rw [p_dd, e1]
  simp only [Option.bind_some]
  cases b with
  | false =>
    obtain ⟨p, s2, e2, a2, _⟩ := f_pick hC (n := n) a1 3
    rw [e2]
    exact ⟨_, _, rfl, a2⟩
  | true =>
    obtain ⟨p, s2, e2, a2, _⟩ := f_among hC (n := n) a1 [(-1), 3, 4611686018427387904] (by decide)
    rw [e2]
    exact ⟨_, _, rfl, a2⟩
theorem other_len (h : D_Heap) (hl : Small h.2.2.2.1) : ∃ r, P_a3 (h, ()) = some r ∧ r.1.2.2.2.1.length ≤ 64 := by
  rw [p_a3, f_at _ hl]
  cases ho : okHeap h with
  | false => exact ⟨_, rfl, by simp⟩
  | true =>
    obtain ⟨hs, hi, hr⟩ := okHeap_iff.1 ho
    obtain ⟨a1, a2, a3⟩ := allCells_ok hs
    have f0 : P_ad (h, ()) = _ := f_l2All h.2.2.2.1 hs
    simp only [Option.bind_some, Bool.not_true, cond_false]
    rw [p_bp, f0]
    simp only [Option.bind_some]
    have e := l_other (X := h.1) (Y := h.2.1) (Z := h.2.2.1) (X' := h.1) (Y' := h.2.1) (Z' := h.2.2.1) hl a1 (allCells h.1 h.2.1 h.2.2.1).length 0 N [] (by simp) (by unfold Small at a1; have := N_ge; omega) (by simp)
    have e' : l_a3_5 N h.1 h.2.1 h.2.2.1 h.2.2.2.1 0 0 0 [] h.1 h.2.1 h.2.2.1 [] (allCells h.1 h.2.1 h.2.2.1) 0 = _ := e
    rw [e']
    exact ⟨_, rfl, show ((allCells h.1 h.2.1 h.2.2.1).filter fun x => !decide (x ∈ h.2.2.2.1)).length ≤ 64 from Nat.le_trans (List.length_filter_le _ _) (srt_small64 hs a2 a3)⟩
theorem stack_len {X Y Z : Int} (hs : sides X Y Z = true) {V : List Int} (hV : V.length = (X * Y).toNat) : ∃ r, P_a2 (X, Y, Z, V, ()) = some r ∧ r.1.2.2.2.1.length ≤ 64 := by
  obtain ⟨a1, a2, a3⟩ := allCells_ok hs
  rw [p_a2, p_bp]
  simp only [Option.bind_some]
  rw [f_l2All [] hs]
  simp only [Option.bind_some]
  have e := l_stackS (X' := X) (Y' := Y) (Z' := Z) hs hV a1 a2 (allCells X Y Z).length 0 N [] (by simp) (by unfold Small at a1; have := N_ge; omega) (by simp)
  have e' : l_a2_4 N 0 0 0 [] X Y Z [] Y V (allCells X Y Z) 0 = _ := e
  rw [e']
  exact ⟨_, rfl, show ((allCells X Y Z).filter (lowC Y V)).length ≤ 64 from Nat.le_trans (List.length_filter_le _ _) (srt_small64 hs a2 a3)⟩
theorem l_some {C : List Int} (hC : Bts C) {X Y Z : Int} (hs : sides X Y Z = true) {al : List D_A3} (hal : al.length ≤ 64) (hin : Ins X Y Z al) (q0 q1 q2 : Int) (q3 : List D_A3) (odds : Int) : ∀ (d i m n : Nat) (s : Sd) (out : List D_A3), al.length = i + d → d < m → out.length ≤ i → Ins X Y Z out → At (n + 2 * d + 2) s →
    ∃ (g : D_Heap) (s' : Sd), l_aw_6 m q0 q1 q2 q3 X Y Z out C s.1 s.2.1 X Y Z odds al (i : Int) = some ((g, ()), ((C, s'), ())) ∧ At n s' ∧ g.2.2.2.1.length ≤ 64
  | d, i, 0, n, s, out, _, h, _, _, _ => by omega
  | d, i, m + 1, n, s, out, hk, hm, ho, hio, ha => by
    rw [q_aw_6]
    by_cases hlt : i < al.length
    · obtain ⟨b, s1, e1, a1⟩ := f_one hC (n := n + 2 * (d - 1) + 2) (s := s) (ha.le (by omega)) odds
      have e1' : P_b5 ((C, (s.1, (s.2.1, ()))), odds, ()) = _ := e1
      rw [ltT hlt, e1', succI i (by omega)]
      simp only [cond_true, Option.bind_some]
      cases b with
      | false => exact l_some hC hs hal hin q0 q1 q2 q3 odds (d - 1) (i + 1) m n s1 out (by omega) (by omega) (by omega) hio a1
      | true =>
        rw [inB_at hlt, nthA (t := T_A3) hlt, app_len' (l := out) (by omega)]
        simp only [cond_true]
        refine l_some hC hs hal hin q0 q1 q2 q3 odds (d - 1) (i + 1) m n s1 _ (by omega) (by omega) (by simp; omega) (fun c hc => ?_) a1
        rcases List.mem_append.1 hc with hc | hc
        · exact hio c hc
        · rw [List.mem_singleton.1 hc]; exact hin _ (List.getElem_mem hlt)
    · obtain ⟨p, s1, e1, a1, _⟩ := f_pick hC (n := n + 2 * d) (s := s) ha 12
      have e1' : P_av ((C, (s.1, (s.2.1, ()))), 12, ()) = _ := e1
      have hso : Small out := by unfold Small; omega
      rw [ltF hlt, e1']
      simp only [cond_false, Option.bind_some]
      by_cases c0 : p = 0
      · obtain ⟨r, er, hr⟩ := other_len (X, Y, Z, out, ()) hso
        rw [decide_eq_true c0, er]
        exact ⟨_, _, rfl, a1.le (by omega), hr⟩
      · rw [decide_eq_false c0]
        by_cases c1 : p = 1
        · obtain ⟨r, er, hr⟩ := stack_len hs (cols_len X Y out)
          rw [decide_eq_true c1, p_db, f_viewS hs hso hio]
          simp only [cond_true, cond_false, Option.bind_some]
          rw [er]
          exact ⟨_, _, rfl, a1.le (by omega), hr⟩
        · rw [decide_eq_false c1]
          exact ⟨_, _, rfl, a1.le (by omega), (by omega : out.length ≤ 64)⟩
theorem f_someHeap {C : List Int} (hC : Bts C) {n : Nat} {s : Sd} (h : At (n + 132) s) (X Y Z : Int) : ∃ (g : D_Heap) (s' : Sd), P_aw ((C, s), X, Y, Z, ()) = some ((g, ()), ((C, s'), ())) ∧ At n s' ∧ g.2.2.2.1.length ≤ 64 := by
  obtain ⟨o, s1, e1, a1, _⟩ := f_among hC (n := n + 130) h [2, 3, 2, 4] (by decide)
  rw [p_aw, p_bp, e1]
  simp only [Option.bind_some]
  rw [f_b0]
  simp only [Option.bind_some]
  cases hs : sides X Y Z with
  | false => exact ⟨_, _, rfl, a1.le (by omega), by simp⟩
  | true =>
    obtain ⟨k1, k2, k3⟩ := allCells_ok hs
    have h64 := srt_small64 hs k2 k3
    simp only [Bool.not_true, cond_false]
    rw [f_l2All [] hs]
    simp only [Option.bind_some]
    exact l_some hC hs h64 k2 0 0 0 [] o (allCells X Y Z).length 0 N n s1 [] (by simp) (by have := N_ge; omega) (by simp) (fun c hc => by cases hc) (a1.le (by omega))
theorem f_heap {C : List Int} (hC : Bts C) {n : Nat} {s : Sd} (h : At (n + 144) s) : ∃ (g : D_Heap) (s' : Sd), P_da ((C, s), ()) = some ((g, ()), ((C, s'), ())) ∧ At n s' ∧ g.2.2.2.1.length ≤ 65 := by
  obtain ⟨x, y, z, s1, e1, a1⟩ := f_sides hC (n := n + 134) h
  obtain ⟨g, s2, e2, a2, hg⟩ := f_someHeap hC (n := n + 2) a1 x y z
  obtain ⟨p, s3, e3, a3, _⟩ := f_pick hC (n := n) a2 60
  rw [p_da, e1]
  simp only [Option.bind_some]
  rw [e2]
  simp only [Option.bind_some]
  rw [e3]
  simp only [Option.bind_some]
  rw [app_len' (l := g.2.2.2.1) (by omega), app_len' (l := g.2.2.2.1) (by omega), app_len' (l := g.2.2.2.1) (by omega)]
  by_cases c0 : p = 0
  · rw [decide_eq_true c0]
    exact ⟨_, _, rfl, a3, by simp; omega⟩
  · rw [decide_eq_false c0]
    by_cases c1 : p = 1
    · rw [decide_eq_true c1]
      exact ⟨_, _, rfl, a3, by simp; omega⟩
    · rw [decide_eq_false c1]
      by_cases c2 : p = 2
      · rw [decide_eq_true c2]
        by_cases c : (g.2.2.2.1.length : Int) > 0
        · rw [decide_eq_true c, show inB 0 g.2.2.2.1.length = true by simp [inB]; omega]
          exact ⟨_, _, rfl, a3, by simp; omega⟩
        · rw [decide_eq_false c]
          exact ⟨_, _, rfl, a3, by omega⟩
      · rw [decide_eq_false c2]
        by_cases c3 : p = 3
        · rw [decide_eq_true c3]
          exact ⟨_, _, rfl, a3, by simp⟩
        · rw [decide_eq_false c3]
          exact ⟨_, _, rfl, a3, by omega⟩
end Go.VI
/- Plain: the fewest cubes of a heap's own shadow are no more than its cubes. -/
namespace Go.VI
open Go.Proofs
theorem one_bit {v : B64} (h : popB v.toNat = 1) {i j : Nat} (hi : v.getLsbD i = true) (hj : v.getLsbD j = true) : i = j := by
  unfold popB at h
  obtain ⟨a, ha⟩ := List.length_eq_one_iff.1 h
  have mem : ∀ k, v.getLsbD k = true → k = a := fun k hk => by
    have : k ∈ (List.range 64).filter fun i => v.toNat.testBit i := List.mem_filter.2 ⟨List.mem_range.2 (bit_lt hk), hk⟩
    rw [ha] at this
    exact List.mem_singleton.1 this
  rw [mem i hi, mem j hj]
theorem pop_filter {v : B64} {I : List Nat} (hn : I.Nodup) (h : ∀ i, v.getLsbD i = true → i ∈ I) : popB v.toNat = (I.filter fun i => v.getLsbD i).length := by
  unfold popB
  apply List.Perm.length_eq
  rw [List.perm_ext_iff_of_nodup (List.Pairwise.filter _ List.nodup_range) (List.Pairwise.filter _ hn)]
  intro i
  rw [List.mem_filter, List.mem_filter, List.mem_range]
  constructor
  · rintro ⟨_, hb⟩; exact ⟨h i hb, hb⟩
  · rintro ⟨_, hb⟩; exact ⟨bit_lt hb, hb⟩
theorem shD_at {X Y Z d : Int} {l : List D_A3} {i : Nat} (h : i < (shD X Y Z d l).length) : (shD X Y Z d l)[i] = if l.any fun c => decide (lineD X Y Z d c = (i : Int)) then 1 else 0 := by
  have e : (shD X Y Z d l)[i]? = some (if l.any fun c => decide (lineD X Y Z d c = (i : Int)) then 1 else 0) := by
    rw [shD_len] at h
    rw [shD, List.getElem?_map, List.getElem?_range h]
    rfl
  rw [List.getElem?_eq_getElem h] at e
  exact Option.some.inj e
theorem lit_of {X Y Z : Int} (hs : sides X Y Z = true) {l : List D_A3} (hi : Ins X Y Z l) {c : D_A3} (hc : c ∈ l) {d : Int} (d0 : 0 ≤ d) (d1 : d ≤ 2) : litAt (shadowOf X Y Z l) d c = true := by
  obtain ⟨h1, h2, _⟩ := lineD_ok hs d0 d1 (hi c hc)
  obtain ⟨k, hk⟩ : ∃ k : Nat, lineD X Y Z d c = (k : Int) := ⟨(lineD X Y Z d c).toNat, by omega⟩
  have hlist : listD (shadowOf X Y Z l) d = shD X Y Z d l := by rcases dir d0 d1 with rfl | rfl | rfl <;> rfl
  have hlt : k < (shD X Y Z d l).length := by rw [shD_len]; omega
  unfold litAt
  rw [hlist]
  show (!decide (nth ((.int .i64) : Ty) (shD X Y Z d l) (lineD X Y Z d c) = 0)) = true
  rw [hk, nthA (t := .int .i64) hlt, shD_at hlt, if_pos]
  · rfl
  · exact List.any_eq_true.2 ⟨c, hc, decide_eq_true hk⟩
theorem allowed_own {X Y Z : Int} (hs : sides X Y Z = true) {l : List D_A3} (hi : Ins X Y Z l) {c : D_A3} (hc : c ∈ l) : allowedC (shadowOf X Y Z l) c = true := by
  unfold allowedC
  rw [lit_of hs hi hc (by decide) (by decide), lit_of hs hi hc (by decide) (by decide), lit_of hs hi hc (by decide) (by decide)]
  rfl
theorem mem_needsB {s : D_Shadow} {v : B64} (h : v ∈ needsB s) : ∃ d : Int, 0 ≤ d ∧ d ≤ 2 ∧ ∃ i, ∃ h : i < (listD s d).length, (listD s d)[i] = 1 ∧ v = allowedB s &&& lineB s d i := by
  unfold needsB at h
  rcases List.mem_append.1 h with h | h
  · obtain ⟨i, hi, a, b⟩ := mem_needR.1 h
    exact ⟨0, by decide, by decide, i, hi, a, by simpa using b⟩
  · rcases List.mem_append.1 h with h | h
    · obtain ⟨i, hi, a, b⟩ := mem_needR.1 h
      exact ⟨1, by decide, by decide, i, hi, a, by simpa using b⟩
    · obtain ⟨i, hi, a, b⟩ := mem_needR.1 h
      exact ⟨2, by decide, by decide, i, hi, a, by simpa using b⟩
theorem need_cube {X Y Z : Int} (hs : sides X Y Z = true) {l : List D_A3} (hi : Ins X Y Z l) {v : B64} (hv : v ∈ needsB (shadowOf X Y Z l)) : ∃ c ∈ l, v.getLsbD (idx Y Z c) = true := by
  obtain ⟨d, d0, d1, i, hlt, hone, rfl⟩ := mem_needsB hv
  have hlist : listD (shadowOf X Y Z l) d = shD X Y Z d l := by rcases dir d0 d1 with rfl | rfl | rfl <;> rfl
  have hlt' : i < (shD X Y Z d l).length := by rw [← hlist]; exact hlt
  have h1 : (shD X Y Z d l)[i] = 1 := by
    have : (listD (shadowOf X Y Z l) d)[i]? = some 1 := by rw [List.getElem?_eq_getElem hlt, hone]
    rw [hlist, List.getElem?_eq_getElem hlt'] at this
    exact Option.some.inj this
  rw [shD_at hlt'] at h1
  cases ha : l.any fun c => decide (lineD X Y Z d c = (i : Int)) with
  | false => rw [ha] at h1; simp at h1
  | true =>
    obtain ⟨c, hc, he⟩ := List.any_eq_true.1 ha
    refine ⟨c, hc, ?_⟩
    have hw := hi c hc
    rw [BitVec.getLsbD_and]
    have e1 : (allowedB (shadowOf X Y Z l)).getLsbD (idx Y Z c) = true := ((setB_is hs (allowedC (shadowOf X Y Z l))).2 c hw).trans (allowed_own hs hi hc)
    have e2 : (lineB (shadowOf X Y Z l) d i).getLsbD (idx Y Z c) = true := ((setB_is hs (fun c => decide (lineD X Y Z d c = (i : Int)))).2 c hw).trans he
    rw [e1, e2]
    rfl
theorem must_own {X Y Z : Int} (hs : sides X Y Z = true) {l : List D_A3} (hi : Ins X Y Z l) {i : Nat} (h : (mustB (shadowOf X Y Z l)).getLsbD i = true) : ∃ c ∈ l, i = idx Y Z c := by
  rcases (mustR_bit i _ _).1 h with h | ⟨v, hv, hp, hb⟩
  · simp at h
  · obtain ⟨c, hc, hcb⟩ := need_cube hs hi hv
    exact ⟨c, hc, one_bit hp hb hcb⟩
theorem idx_nodup {X Y Z : Int} (hs : sides X Y Z = true) {l : List D_A3} (hi : Ins X Y Z l) (hr : Srt l) : (l.map (idx Y Z)).Nodup := by
  have h : (l.map (idx Y Z)).Pairwise (· < ·) := by
    rw [List.pairwise_map]
    exact List.Pairwise.imp_of_mem (fun {a b} ha hb hab => (idx_lt hs (hi a ha) (hi b hb)).2 hab) hr
  exact h.imp fun {a b} hab => by omega
theorem filter_split2 {α : Type} (p : α → Bool) : ∀ l : List α, l.length = (l.filter p).length + (l.filter fun x => !p x).length
  | [] => rfl
  | a :: r => by
    have := filter_split2 p r
    rw [List.filter_cons, List.filter_cons]
    cases p a <;> simp <;> omega
theorem sat_own {X Y Z : Int} (hs : sides X Y Z = true) {l : List D_A3} (hi : Ins X Y Z l) (hr : Srt l) : popB (mustB (shadowOf X Y Z l)).toNat ≤ l.length ∧ Sat (needsB (shadowOf X Y Z l)) (mustB (shadowOf X Y Z l)) (fun i => (0 : B64).getLsbD i = true) (l.length - popB (mustB (shadowOf X Y Z l)).toNat) := by
  have hn := idx_nodup hs hi hr
  have hp := pop_filter (v := mustB (shadowOf X Y Z l)) hn (fun i h => by
    obtain ⟨c, hc, rfl⟩ := must_own hs hi h
    exact List.mem_map_of_mem hc)
  have hsplit := filter_split2 (fun i => (mustB (shadowOf X Y Z l)).getLsbD i) (l.map (idx Y Z))
  rw [List.length_map] at hsplit
  refine ⟨by omega, (l.map (idx Y Z)).filter fun i => !(mustB (shadowOf X Y Z l)).getLsbD i, by omega, fun i _ => by simp, fun v hv => ?_⟩
  obtain ⟨c, hc, hb⟩ := need_cube hs hi hv
  cases hm : (mustB (shadowOf X Y Z l)).getLsbD (idx Y Z c) with
  | true =>
    left
    intro hz
    have := (zero_iff _).1 hz (idx Y Z c)
    rw [BitVec.getLsbD_and, hb, hm] at this
    cases this
  | false => exact .inr ⟨idx Y Z c, List.mem_filter.2 ⟨List.mem_map_of_mem hc, by rw [hm]; rfl⟩, hb⟩
theorem l_fewest (s : D_Shadow) (ho : okSh s = true) (n : Nat) (hn : n ≤ 100) (hmn : popB (mustB s).toNat ≤ n) (hsat : Sat (needsB s) (mustB s) (fun i => (0 : B64).getLsbD i = true) (n - popB (mustB s).toNat)) : ∀ (d t m : Nat), t + d = n → popB (mustB s).toNat ≤ t → d < m →
    ∃ r : Nat, l_ay_4 m s.1 s.2.1 s.2.2.1 s.2.2.2.1 s.2.2.2.2.1 s.2.2.2.2.2.1 (t : Int) = some ((r : Int), true, ()) ∧ r ≤ n
  | d, t, 0, _, _, h => by omega
  | d, t, m + 1, ht, hpt, hm => by
    have hlen := needsB_len ho
    have e1 : P_ab ((s.1, (s.2.1, (s.2.2.1, (s.2.2.2.1, (s.2.2.2.2.1, (s.2.2.2.2.2.1, ())))))), ()) = _ := f_needs s ho
    have e2 : P_ar ((s.1, (s.2.1, (s.2.2.1, (s.2.2.2.1, (s.2.2.2.2.1, (s.2.2.2.2.2.1, ())))))), ()) = _ := f_must s ho
    have ew : IntKind.wrap .i64 ((t : Int) - ((popB (mustB s).toNat : Nat) : Int)) = ((t - popB (mustB s).toNat : Nat) : Int) := by rw [w64 (by omega) (by omega)]; omega
    obtain ⟨b, e3, hb⟩ := f_canMeet (ns := needsB s) (by omega) (t - popB (mustB s).toNat) N (by omega) (by have := N_ge; omega) (mustB s) 0
    have e3' : P_ac (nums (needsB s), ((mustB s).toNat : Int), 0, ((t - popB (mustB s).toNat : Nat) : Int), ()) = some (b, ()) := e3
    rw [q_ay_4, e1, e2]
    simp only [Option.bind_some]
    rw [f_count]
    simp only [Option.bind_some]
    rw [ew, e3']
    simp only [Option.bind_some]
    cases hbv : b with
    | true => exact ⟨t, rfl, by omega⟩
    | false =>
      simp only [Bool.not_false, cond_true]
      have htn : t ≠ n := fun h => by
        rw [h] at hb
        have := hb.2 hsat
        rw [hbv] at this
        cases this
      rw [succI t (by omega)]
      exact l_fewest s ho n hn hmn hsat (d - 1) (t + 1) m (by omega) (by omega) (by omega)
theorem f_fewest_own {X Y Z : Int} (hs : sides X Y Z = true) {l : List D_A3} (hi : Ins X Y Z l) (hr : Srt l) : ∃ (r : Int) (b : Bool), P_ck (shadowOf X Y Z l, ()) = some (r, b, ()) ∧ (b = true → r ≤ (l.length : Int)) := by
  have h64 := srt_small64 hs hi hr
  have ho := shadowOf_ok hs l
  obtain ⟨h1, h2⟩ := sat_own hs hi hr
  rw [p_ck, p_ay, f_isFitting _ (shadowOf_small X Y Z l hs), ho]
  simp only [Option.bind_some, Bool.true_and]
  cases hf : fitsB (shadowOf X Y Z l) with
  | false => exact ⟨0, false, rfl, fun h => by cases h⟩
  | true =>
    simp only [Bool.not_true, cond_false]
    rw [p_ae]
    simp only [Option.bind_some]
    have es : P_br (((shadowOf X Y Z l).1, ((shadowOf X Y Z l).2.1, ((shadowOf X Y Z l).2.2.1, ()))), ()) = _ := f_size hs
    rw [es]
    simp only [Option.bind_some]
    have eb : decide (((((shadowOf X Y Z l).1 * (shadowOf X Y Z l).2.1 * (shadowOf X Y Z l).2.2.1).toNat : Nat) : Int) > 27) = decide ((((X * Y * Z).toNat : Nat) : Int) > 27) := rfl
    rw [eb]
    cases decide ((((X * Y * Z).toNat : Nat) : Int) > 27) with
    | true => exact ⟨0, false, rfl, fun h => by cases h⟩
    | false =>
      simp only [cond_false]
      rw [f_must _ ho]
      simp only [Option.bind_some]
      rw [f_count]
      simp only [Option.bind_some]
      obtain ⟨r, e, hle⟩ := l_fewest (shadowOf X Y Z l) ho l.length (by omega) h1 h2 (l.length - popB (mustB (shadowOf X Y Z l)).toNat) (popB (mustB (shadowOf X Y Z l)).toNat) N (by omega) (Nat.le_refl _) (by have := N_ge; omega)
      rw [e]
      exact ⟨r, true, rfl, fun _ => by omega⟩
theorem lit_map : ∀ (l : List Int) (a : Int), l.foldl (· + ·) a = a + l.foldl (· + ·) 0
  | [], a => by simp
  | x :: l, a => by
    rw [List.foldl_cons, List.foldl_cons, lit_map l (a + x), lit_map l (0 + x)]
    omega
theorem lit_append (a b : List Int) : lit (a ++ b) = lit a + lit b := by
  unfold lit
  rw [List.foldl_append, lit_map]
theorem lit_nil {X Y Z d : Int} : lit (shD X Y Z d []) = 0 := by
  have : ∀ n : Nat, lit (List.replicate n 0) = 0 := fun n => by
    induction n with
    | zero => rfl
    | succ n ih =>
      rw [List.replicate_succ']
      rw [lit_append, ih]
      rfl
  have e : shD X Y Z d [] = List.replicate (linesD X Y Z d).toNat 0 := by
    unfold shD
    simp [List.map_const']
  rw [e, this]
theorem sum_le : ∀ (n : Nat) (f g : Nat → Int), (∀ i, f i ≤ g i) → lit ((List.range n).map f) ≤ lit ((List.range n).map g)
  | 0, _, _, _ => Int.le_refl _
  | n + 1, f, g, h => by
    rw [List.range_succ, List.map_append, List.map_append, lit_append, lit_append]
    have := sum_le n f g h
    have := h n
    show lit _ + (0 + f n) ≤ lit _ + (0 + g n)
    omega
theorem sum_add : ∀ (n : Nat) (f g : Nat → Int), lit ((List.range n).map fun i => f i + g i) = lit ((List.range n).map f) + lit ((List.range n).map g)
  | 0, _, _ => rfl
  | n + 1, f, g => by
    rw [List.range_succ, List.map_append, List.map_append, List.map_append, lit_append, lit_append, lit_append, sum_add n]
    show _ + (0 + (f n + g n)) = (_ + (0 + f n)) + (_ + (0 + g n))
    omega
theorem sum_one (k : Nat) : ∀ n : Nat, lit ((List.range n).map fun i : Nat => if (k : Int) = (i : Int) then 1 else 0) ≤ 1 ∧ (n ≤ k → lit ((List.range n).map fun i : Nat => if (k : Int) = (i : Int) then 1 else 0) = 0)
  | 0 => ⟨by rw [List.range_zero, List.map_nil]; decide, fun _ => rfl⟩
  | n + 1 => by
    obtain ⟨h1, h2⟩ := sum_one k n
    rw [List.range_succ, List.map_append, lit_append]
    have e : lit ([n].map fun i : Nat => if (k : Int) = (i : Int) then 1 else 0) = if (k : Int) = (n : Int) then 1 else 0 := by
      simp [lit]
    rw [e]
    refine ⟨?_, fun h => ?_⟩
    · by_cases hk : (k : Int) = (n : Int)
      · rw [if_pos hk, h2 (by omega)]; decide
      · rw [if_neg hk]; omega
    · rw [if_neg (by omega), h2 (by omega)]; rfl
theorem lit_le {X Y Z : Int} (hs : sides X Y Z = true) {d : Int} (d0 : 0 ≤ d) (d1 : d ≤ 2) : ∀ l : List D_A3, Ins X Y Z l → lit (shD X Y Z d l) ≤ l.length
  | [], _ => by rw [lit_nil]; simp
  | c :: l, hi => by
    have ih := lit_le hs d0 d1 l fun x hx => hi x (List.mem_cons_of_mem _ hx)
    obtain ⟨h1, h2, _⟩ := lineD_ok hs d0 d1 (hi c (List.mem_cons_self ..))
    obtain ⟨k, hk⟩ : ∃ k : Nat, lineD X Y Z d c = (k : Int) := ⟨(lineD X Y Z d c).toNat, by omega⟩
    have hle : lit (shD X Y Z d (c :: l)) ≤ lit ((List.range (linesD X Y Z d).toNat).map fun i : Nat => (if (k : Int) = (i : Int) then 1 else 0) + (if l.any fun c => decide (lineD X Y Z d c = (i : Int)) then 1 else 0)) := by
      refine sum_le _ _ _ fun i => ?_
      rw [List.any_cons, hk]
      by_cases e : (k : Int) = (i : Int)
      · rw [decide_eq_true e, if_pos e]
        simp only [Bool.true_or, if_true]
        split <;> omega
      · rw [decide_eq_false e, if_neg e, Bool.false_or]
        split <;> omega
    rw [sum_add] at hle
    have h3 := (sum_one k (linesD X Y Z d).toNat).1
    have e2 : lit ((List.range (linesD X Y Z d).toNat).map fun i : Nat => if l.any fun c => decide (lineD X Y Z d c = (i : Int)) then 1 else 0) = lit (shD X Y Z d l) := rfl
    rw [e2] at hle
    rw [List.length_cons]
    omega
theorem bound_le {X Y Z : Int} (hs : sides X Y Z = true) {l : List D_A3} (hi : Ins X Y Z l) : 0 ≤ bound (shadowOf X Y Z l) ∧ bound (shadowOf X Y Z l) ≤ l.length := by
  have e0 : listD (shadowOf X Y Z l) 0 = shD X Y Z 0 l := rfl
  have e1 : listD (shadowOf X Y Z l) 1 = shD X Y Z 1 l := rfl
  have e2 : listD (shadowOf X Y Z l) 2 = shD X Y Z 2 l := rfl
  have h0 := lit_le hs (d := 0) (by decide) (by decide) l hi
  have h1 := lit_le hs (d := 1) (by decide) (by decide) l hi
  have h2 := lit_le hs (d := 2) (by decide) (by decide) l hi
  have p0 := (lit_ok (ones_shD hs (d := 0) (by decide) (by decide) l) (lines_ok hs (by decide) (by decide)).2).1
  have p1 := (lit_ok (ones_shD hs (d := 1) (by decide) (by decide) l) (lines_ok hs (by decide) (by decide)).2).1
  have p2 := (lit_ok (ones_shD hs (d := 2) (by decide) (by decide) l) (lines_ok hs (by decide) (by decide)).2).1
  unfold bound
  rw [e0, e1, e2, mx_eq, mx_eq, mx_eq]
  split <;> split <;> split <;> omega
end Go.VI
