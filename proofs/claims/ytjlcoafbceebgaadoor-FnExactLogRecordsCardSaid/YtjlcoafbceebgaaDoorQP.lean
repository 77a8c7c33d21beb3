/- Plain: the law of a log's records; marks of texts. -/
import Derived.Test.YtjlcoafbceebgaaDoorQO
namespace Go.VI
open Go.Proofs

/-- The text that marks a number. -/
def mkT (m : Int) : List UInt8 := 109 :: Lib.decDigits m.toNat

theorem digit_of (d : Nat) (h : d < 10) : ([(IntKind.wrap .u8 (IntKind.wrap .i64 (48 + (d : Int))))] : List Int).map (fun (n : Int) => n.toNat.toUInt8) = [UInt8.ofNat (48 + d)] := by
  have : ∀ d : Fin 10, ([(IntKind.wrap .u8 (IntKind.wrap .i64 (48 + (d.val : Int))))] : List Int).map (fun (n : Int) => n.toNat.toUInt8) = [UInt8.ofNat (48 + d.val)] := by decide
  exact this ⟨d, h⟩

theorem l_mark : ∀ (k m u : Nat) (acc : List UInt8), u < 10 ^ m → m ≤ 18 → m < k → acc.length + m ≤ 1000 → 0 < u → l_laws_markText_4 k (u : Int) acc = some (109 :: (Lib.decDigits u ++ acc), ())
  | 0, m, u, acc, _, _, h, _, _ => by omega
  | k + 1, m, u, acc, hu, hm, hk, ha, hp => by
    have hb : u < 10 ^ 18 := Nat.lt_of_lt_of_le hu (Nat.pow_le_pow_right (by decide) hm)
    have e0 : Int.tdiv (u : Int) 10 = ((u / 10 : Nat) : Int) := by rw [Int.tdiv_eq_ediv_of_nonneg (by omega)]; omega
    have e2 : Int.tmod (u : Int) 10 = ((u % 10 : Nat) : Int) := by rw [Int.tmod_eq_emod_of_nonneg (by omega)]; omega
    rw [q_laws_markText_4, decide_eq_true (p := (u : Int) > 0) (by omega), e2, digit_of _ (by omega), cat_ok (by simp) (by omega), e0, w64 (x := ((u / 10 : Nat) : Int)) (by omega) (by omega)]
    simp only [cond_true, Option.bind_some]
    by_cases h10 : u < 10
    · have hz : u / 10 = 0 := by omega
      have hmod : u % 10 = u := by omega
      rw [hz, hmod]
      match k, hk with
      | k + 1, hk =>
        rw [q_laws_markText_4, decide_eq_false (by simp)]
        simp only [cond_false]
        rw [cat_ok (by simp) (by simp; omega), Lib.decDigits, dif_pos h10]
        simp
      | 0, hk => 
        have : m = 0 := by omega
        subst this
        simp at hu
        omega
    · match m, hu, hm, hk, ha with
      | 0, hu, _, _, _ => simp at hu; omega
      | m + 1, hu, hm, hk, ha =>
        rw [l_mark k m (u / 10) _ (by rw [Nat.pow_succ] at hu; omega) (by omega) (by omega) (by simp; omega) (by omega), Lib.decDigits.eq_def u, dif_neg h10]
        simp

theorem f_mark (u : Nat) (h : u < 1000000000) (hp : 0 < u) : P_laws_markText ((u : Int), ()) = some (mkT (u : Int), ()) := by
  rw [p_laws_markText, decide_eq_false (by omega)]
  simp only [cond_false]
  rw [l_mark N 9 u [] (by omega) (by omega) (by have := N_ge; omega) (by simp) hp]
  simp [mkT]

/-- Records all of which are marked, from number a on. -/
def marks : Nat → Nat → List D_LogRecord
  | _, 0 => []
  | a, n + 1 => (mkT (a : Int), mkT ((a + 1 : Nat) : Int), ()) :: marks (a + 2) n

theorem marks_len : ∀ (n a : Nat), (marks a n).length = n
  | 0, _ => rfl
  | n + 1, a => by simp [marks, marks_len n]

theorem set_mid {α : Type} : ∀ (p : List α) (x y : α) (r : List α), (p ++ x :: r).set p.length y = p ++ y :: r
  | [], x, y, r => rfl
  | a :: p, x, y, r => by simp [set_mid p]

theorem nth_mid (p : List D_LogRecord) (x : D_LogRecord) (r : List D_LogRecord) : nth T_LogRecord (p ++ x :: r) (p.length : Int) = x := by
  simp [nth, List.getD]

theorem l_markS : ∀ (d m a : Nat) (p r : List D_LogRecord), r.length = d → d < m → p.length + d ≤ 1000 → 0 < a → a + 2 * d ≤ 10000 →
    l_laws_markLogRecordS_2 m (p ++ r) (a : Int) (p.length : Int) = some ((((a + 2 * d : Nat) : Int), ()), (p ++ marks a d, ()))
  | d, 0, _, _, _, _, h, _, _, _ => by omega
  | 0, m + 1, a, p, r, hr, hm, hp, h0, ha => by
    have : r = [] := List.length_eq_zero_iff.1 hr
    subst this
    rw [q_laws_markLogRecordS_2, ltF (by simp)]
    simp [marks]
  | d + 1, m + 1, a, p, x :: r, hr, hm, hp, h0, ha => by
    have hlt : p.length < (p ++ x :: r).length := by simp
    rw [q_laws_markLogRecordS_2, ltT hlt, inB_at hlt, f_mark a (by omega) h0]
    have e1 : IntKind.wrap .i64 ((a : Int) + 1) = ((a + 1 : Nat) : Int) := by rw [w64 (by omega) (by omega)]; omega
    have e2 : IntKind.wrap .i64 (((a + 1 : Nat) : Int) + 1) = ((a + 2 : Nat) : Int) := by rw [w64 (by omega) (by omega)]; omega
    rw [e1, e2, f_mark (a + 1) (by omega) (by omega), nth_mid, Int.toNat_natCast]
    simp only [cond_true, Option.bind_some]
    rw [set_mid, nth_mid]
    have hlt2 : p.length < (p ++ ((mkT (a : Int), x.2) : D_LogRecord) :: r).length := by simp
    rw [inB_at hlt2, set_mid, succI _ (by omega)]
    simp only [cond_true]
    have := l_markS d m (a + 2) (p ++ [(mkT (a : Int), mkT ((a + 1 : Nat) : Int), ())]) r (by simpa using hr) (by omega) (by simp; omega) (by omega) (by omega)
    have el : (p ++ [((mkT (a : Int), mkT ((a + 1 : Nat) : Int), ()) : D_LogRecord)]).length = p.length + 1 := by simp
    rw [el] at this
    simp only [List.append_assoc, List.singleton_append] at this
    rw [this]
    simp only [marks]
    congr 4
    omega

theorem l_held : ∀ (d m a : Nat) (p : List D_LogRecord), d < m → p.length + d ≤ 1000 → 0 < a → a + 2 * d ≤ 10000 →
    l_laws_heldLogRecordS_2 m (p ++ marks a d) (a : Int) (p.length : Int) = some (((a + 2 * d : Nat) : Int), ())
  | d, 0, _, _, h, _, _, _ => by omega
  | 0, m + 1, a, p, hm, hp, h0, ha => by
    rw [q_laws_heldLogRecordS_2, ltF (by simp [marks])]
    simp
  | d + 1, m + 1, a, p, hm, hp, h0, ha => by
    rw [marks]
    have hlt : p.length < (p ++ ((mkT (a : Int), mkT ((a + 1 : Nat) : Int), ()) : D_LogRecord) :: marks (a + 2) d).length := by simp
    have e1 : IntKind.wrap .i64 ((a : Int) + 1) = ((a + 1 : Nat) : Int) := by rw [w64 (by omega) (by omega)]; omega
    have e2 : IntKind.wrap .i64 (((a + 1 : Nat) : Int) + 1) = ((a + 2 : Nat) : Int) := by rw [w64 (by omega) (by omega)]; omega
    rw [q_laws_heldLogRecordS_2, ltT hlt, inB_at hlt, f_mark a (by omega) h0, nth_mid, e1, e2, f_mark (a + 1) (by omega) (by omega)]
    simp only [cond_true, Option.bind_some]
    have b1 : (mkT (a : Int) == mkT (a : Int)) = true := by simp
    have b2 : (mkT ((a + 1 : Nat) : Int) == mkT ((a + 1 : Nat) : Int)) = true := by simp
    rw [b1, b2, succI _ (by omega)]
    simp only [Bool.not_true, cond_false]
    have := l_held d m (a + 2) (p ++ [(mkT (a : Int), mkT ((a + 1 : Nat) : Int), ())]) (by omega) (by simp; omega) (by omega) (by omega)
    have el : (p ++ [((mkT (a : Int), mkT ((a + 1 : Nat) : Int), ()) : D_LogRecord)]).length = p.length + 1 := by simp
    rw [el] at this
    simp only [List.append_assoc, List.singleton_append] at this
    rw [this]
    congr 3
    omega

theorem eqRec_refl (e : D_LogRecord) : P_laws_eqLogRecord (e, e, ()) = some (true, ()) := by
  rw [p_laws_eqLogRecord]; simp

theorem l_eqS (l : List D_LogRecord) (hl : l.length ≤ 1000) : ∀ (d k m : Nat), l.length = k + d → d < m → l_laws_eqLogRecordS_4 m l l (k : Int) = some (true, ())
  | d, k, 0, hk, hm => by omega
  | d, k, m + 1, hk, hm => by
    rw [q_laws_eqLogRecordS_4]
    by_cases hlt : k < l.length
    · rw [ltT hlt, inB_at hlt, eqRec_refl, succI k (by omega)]
      simp only [cond_true, Option.bind_some, Bool.not_true, cond_false]
      exact l_eqS l hl (d - 1) (k + 1) m (by omega) (by omega)
    · rw [ltF hlt]
      rfl

theorem eqS_refl (l : List D_LogRecord) (hl : l.length ≤ 1000) : P_laws_eqLogRecordS (l, l, ()) = some (true, ()) := by
  rw [p_laws_eqLogRecordS, decide_eq_true rfl]
  simp only [Bool.not_true, cond_false]
  exact l_eqS l hl l.length 0 N (by simp) (by have := N_ge; omega)

theorem law_LogRecords (l : D_Log) (h1 : l.1.length ≤ 9223372036854775807) (h2 : l.2.1.length ≤ 9223372036854775807) : P_laws_FnExactLogRecords (l, ()) = some (true, ()) := by
  obtain ⟨r, hr, hc⟩ := sz_log l h1 h2
  rw [p_laws_FnExactLogRecords, hr]
  simp only [Option.bind_some]
  rcases hc with hc | ⟨s1, hc, _⟩
  · rw [decide_eq_true hc]; rfl
  · rw [decide_eq_false (by omega)]
    simp only [cond_false, p_laws_toLog, Option.bind_some]
    obtain ⟨g, b, g1, g2, hg⟩ : ∃ (g : List D_LogRecord) (b : Bool), P_spec_LogRecords (l, ()) = some (g, b, ()) ∧ P_impl_LogRecords (l, ()) = some (g, b, ()) ∧ g.length ≤ 60 := by
      rw [p_spec_LogRecords, p_impl_LogRecords, f_validS l s1, f_validI l s1]
      simp only [Option.bind_some]
      cases okLog l with
      | false => exact ⟨[], false, rfl, rfl, by simp⟩
      | true =>
        rw [cat_ok (by omega) (by omega)]
        simp only [Bool.not_true, cond_false, Option.bind_some]
        rw [f_open _ (by unfold Small; simp only [List.length_append]; omega), f_read _ (by unfold Small; simp only [List.length_append]; omega)]
        exact ⟨_, _, rfl, rfl, by simpa [recs] using rdAll_len (l.1 ++ l.2.1)⟩
    rw [g1, g2]
    simp only [Option.bind_some]
    rw [eqS_refl g (by omega)]
    have bb : (b == b) = true := by simp
    have hm : P_laws_markLogRecordS (g, 1, ()) = some ((((1 + 2 * g.length : Nat) : Int), ()), (marks 1 g.length, ())) := by
      rw [p_laws_markLogRecordS]
      have := l_markS g.length N 1 [] g rfl (by have := N_ge; omega) (by simp; omega) (by omega) (by omega)
      simpa using this
    have hh : P_laws_heldLogRecordS (marks 1 g.length, 1, ()) = some (((1 + 2 * g.length : Nat) : Int), ()) := by
      rw [p_laws_heldLogRecordS]
      have := l_held g.length N 1 [] (by have := N_ge; omega) (by simp; omega) (by omega) (by omega)
      simpa using this
    rw [bb, hm]
    simp only [Bool.not_true, cond_false, Option.bind_some]
    rw [hh]
    simp only [Option.bind_some]
    rw [decide_eq_false (p := (((1 + 2 * g.length : Nat) : Int)) < 0) (by omega)]
    simp
end Go.VI
