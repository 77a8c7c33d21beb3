/- Plain: the laws of the log. -/
import Derived.Test.YtjlcoafbceebgaaDoorQN
namespace Go.VI
open Go.Proofs

theorem l_index (l : List Int) (x : Int) (hl : l.length ≤ 1048576) : ∀ (d k m : Nat), l.length = k + d → d < m → ∃ r : Int, l_slices_Index_int_int_2 m l x (l.length : Int) (k : Int) = some (r, ()) ∧ (r ≥ 0 ↔ x ∈ l.drop k)
  | d, k, 0, hk, hm => by omega
  | d, k, m + 1, hk, hm => by
    rw [q_slices_Index_int_int_2]
    by_cases hlt : k < l.length
    · rw [ltT hlt, inB_at hlt, succI k (by omega), drop_at l k hlt]
      simp only [cond_true]
      have en : nth ((.int .i64) : Ty) l (k : Int) = l[k] := by simp [nth, List.getD, List.getElem?_eq_getElem hlt]
      rw [en]
      by_cases e : x = l[k]
      · rw [decide_eq_true e]
        exact ⟨k, rfl, fun _ => List.mem_cons.2 (.inl e), fun _ => by omega⟩
      · rw [decide_eq_false e]
        obtain ⟨r, h1, h2⟩ := l_index l x hl (d - 1) (k + 1) m (by omega) (by omega)
        refine ⟨r, h1, ?_⟩
        rw [h2, List.mem_cons]
        exact ⟨.inr, fun h => h.resolve_left e⟩
    · rw [ltF hlt, List.drop_eq_nil_of_le (by omega)]
      exact ⟨-1, rfl, by simp⟩

theorem f_has (l : List Int) (x : Int) (hl : l.length ≤ 1048576) : P_slices_Contains_int_int (l, x, ()) = some (decide (x ∈ l), ()) := by
  obtain ⟨r, h1, h2⟩ := l_index l x hl l.length 0 N (by simp) (by have := N_ge; omega)
  rw [List.drop_zero] at h2
  have h3 : P_slices_Index_int_int (l, x, ()) = some (r, ()) := by rw [p_slices_Index_int_int]; exact h1
  rw [p_slices_Contains_int_int, h3]
  simp only [Option.bind_some]
  have : decide (r ≥ 0) = decide (x ∈ l) := by rw [Bool.eq_iff_iff, decide_eq_true_eq, decide_eq_true_eq]; exact h2
  rw [this]

/-- A log is valid. -/
noncomputable def okLog (l : D_Log) : Bool := decide (l.1.length + l.2.1.length ≤ 30000) && (decide (tot (rdAll (l.1 ++ l.2.1)) = l.1.length + l.2.1.length) && (decide (tot (rdAll l.1) = l.1.length) && decide (((recs (rdAll (l.1 ++ l.2.1))).length : Int) = l.2.2.1)))

theorem f_validS (l : D_Log) (h : l.1.length + l.2.1.length ≤ 1048576) : P_spec_l12Valid (l, ()) = some (okLog l, ()) := by
  rw [p_spec_l12Valid, w64 (by omega) (by omega)]
  unfold okLog
  by_cases c : l.1.length + l.2.1.length ≤ 30000
  · rw [decide_eq_true c, decide_eq_false (by omega), cat_ok (by omega) (by omega)]
    simp only [cond_false, Option.bind_some, Bool.true_and]
    rw [f_open _ (by unfold Small; simp only [List.length_append]; omega), f_open l.1 (by unfold Small; omega)]
    simp only [Option.bind_some]
    have e1 : decide (((tot (rdAll (l.1 ++ l.2.1)) : Nat) : Int) = (l.1.length : Int) + (l.2.1.length : Int)) = decide (tot (rdAll (l.1 ++ l.2.1)) = l.1.length + l.2.1.length) := by
      rw [Bool.eq_iff_iff, decide_eq_true_eq, decide_eq_true_eq]; omega
    have e2 : decide (((tot (rdAll l.1) : Nat) : Int) = (l.1.length : Int)) = decide (tot (rdAll l.1) = l.1.length) := by
      rw [Bool.eq_iff_iff, decide_eq_true_eq, decide_eq_true_eq]; omega
    rw [e1, e2]
    cases decide (tot (rdAll (l.1 ++ l.2.1)) = l.1.length + l.2.1.length) <;> cases decide (tot (rdAll l.1) = l.1.length) <;> rfl
  · rw [decide_eq_false c, decide_eq_true (by omega)]
    rfl

theorem ends_at (R : List (LRec × Nat)) : nth ((.int .i64) : Ty) ((ends 0 R).map fun (n : Nat) => (n : Int)) ((recs R).length : Int) = ((tot R : Nat) : Int) := by
  have h := ends_last R 0
  have hl : (recs R).length = R.length := by simp [recs]
  rw [hl]
  have : ((ends 0 R).map fun (n : Nat) => (n : Int))[R.length]? = some ((tot R : Nat) : Int) := by
    rw [List.getElem?_map, h]; simp
  simp only [nth, List.getD, Int.toNat_natCast, this, Option.getD_some]

theorem ends_in (R : List (LRec × Nat)) : inB ((recs R).length : Int) ((ends 0 R).map fun (n : Nat) => (n : Int)).length = true := by
  apply inB_at
  simp [recs, ends_len]

theorem rdAll_len (s : List UInt8) : (rdAll s).length ≤ 60 := rd_len 60 0 s

theorem f_validI (l : D_Log) (h : l.1.length + l.2.1.length ≤ 1048576) : P_impl_IsValidLog (l, ()) = some (okLog l, ()) := by
  rw [p_impl_IsValidLog, w64 (by omega) (by omega)]
  unfold okLog
  by_cases c : l.1.length + l.2.1.length ≤ 30000
  · rw [decide_eq_true c, decide_eq_false (by omega), cat_ok (by omega) (by omega)]
    simp only [cond_false, Option.bind_some, Bool.true_and]
    rw [f_read _ (by unfold Small; simp only [List.length_append]; omega)]
    simp only [Option.bind_some]
    rw [ends_in, ends_at]
    have e1 : decide (((tot (rdAll (l.1 ++ l.2.1)) : Nat) : Int) = (l.1.length : Int) + (l.2.1.length : Int)) = decide (tot (rdAll (l.1 ++ l.2.1)) = l.1.length + l.2.1.length) := by
      rw [Bool.eq_iff_iff, decide_eq_true_eq, decide_eq_true_eq]; omega
    rw [e1]
    simp only [cond_true]
    by_cases ct : tot (rdAll (l.1 ++ l.2.1)) = l.1.length + l.2.1.length
    · rw [decide_eq_true ct]
      simp only [cond_true, Bool.true_and]
      have hp := rd_part 60 0 l.1 l.2.1 0 (by unfold rdAll at ct; rw [ct]; simp)
      have e2 : decide ((l.1.length : Int) ∈ (ends 0 (rdAll (l.1 ++ l.2.1))).map fun (n : Nat) => (n : Int)) = decide (tot (rdAll l.1) = l.1.length) := by
        rw [Bool.eq_iff_iff, decide_eq_true_eq, decide_eq_true_eq]
        unfold rdAll
        rw [← hp]
        simp only [List.mem_map, Nat.zero_add]
        constructor
        · rintro ⟨n, h1, h2⟩
          have : n = l.1.length := by omega
          rw [← this]; exact h1
        · intro h1; exact ⟨_, h1, rfl⟩
      have hlen := rdAll_len (l.1 ++ l.2.1)
      rw [f_has _ _ (by simp [ends_len]; omega), e2]
      have e3 : decide (l.2.2.1 = ((recs (rdAll (l.1 ++ l.2.1))).length : Int)) = decide (((recs (rdAll (l.1 ++ l.2.1))).length : Int) = l.2.2.1) := by
        rw [Bool.eq_iff_iff, decide_eq_true_eq, decide_eq_true_eq]; exact eq_comm
      rw [e3]
      cases decide (((recs (rdAll (l.1 ++ l.2.1))).length : Int) = l.2.2.1) <;> cases decide (tot (rdAll l.1) = l.1.length) <;> rfl
    · rw [decide_eq_false ct]
      rfl
  · rw [decide_eq_false c, decide_eq_true (by omega)]
    rfl

theorem okLog_count {l : D_Log} (h : okLog l = true) : 0 ≤ l.2.2.1 ∧ l.2.2.1 ≤ 60 ∧ l.1.length + l.2.1.length ≤ 30000 := by
  unfold okLog at h
  simp only [Bool.and_eq_true, decide_eq_true_eq] at h
  have h1 := rdAll_len (l.1 ++ l.2.1)
  have h2 : (recs (rdAll (l.1 ++ l.2.1))).length = (rdAll (l.1 ++ l.2.1)).length := by simp [recs]
  omega

/-! ### The law's frame -/
theorem eqLog_refl (l : D_Log) : P_laws_eqLog (l, l, ()) = some (true, ()) := by
  rw [p_laws_eqLog]; simp

theorem sz_log (l : D_Log) (h1 : l.1.length ≤ 9223372036854775807) (h2 : l.2.1.length ≤ 9223372036854775807) : ∃ r, P_laws_szLog (l, 1048576, ()) = some (r, ()) ∧ (r < 0 ∨ (l.1.length + l.2.1.length ≤ 1048576 ∧ 0 ≤ r ∧ r ≤ 1048576)) := by
  rw [p_laws_szLog, w64 (x := 1048576 - (l.1.length : Int)) (by omega) (by omega)]
  by_cases a : (1048576 : Int) - l.1.length < 0
  · exact ⟨-1, by simp [a], .inl (by omega)⟩
  · rw [w64 (x := 1048576 - (l.1.length : Int) - (l.2.1.length : Int)) (by omega) (by omega)]
    by_cases b : (1048576 : Int) - l.1.length - l.2.1.length < 0
    · exact ⟨-1, by simp [a, b], .inl (by omega)⟩
    · exact ⟨1048576 - (l.1.length : Int) - (l.2.1.length : Int), by simp [a, b], .inr ⟨by omega, by omega, by omega⟩⟩

theorem sz_rec (e : D_LogRecord) (n : Int) (hn : 0 ≤ n) (hn' : n ≤ 1048576) (h1 : e.1.length ≤ 9223372036854775807) (h2 : e.2.1.length ≤ 9223372036854775807) : ∃ r, P_laws_szLogRecord (e, n, ()) = some (r, ()) ∧ (r < 0 ∨ (Small e.1 ∧ Small e.2.1 ∧ 0 ≤ r)) := by
  rw [p_laws_szLogRecord, w64 (x := n - (e.1.length : Int)) (by omega) (by omega)]
  by_cases a : n - e.1.length < 0
  · exact ⟨-1, by simp [a], .inl (by omega)⟩
  · rw [w64 (x := n - (e.1.length : Int) - (e.2.1.length : Int)) (by omega) (by omega)]
    by_cases b : n - e.1.length - e.2.1.length < 0
    · exact ⟨-1, by simp [a, b], .inl (by omega)⟩
    · exact ⟨n - (e.1.length : Int) - (e.2.1.length : Int), by simp [a, b], .inr ⟨by unfold Small; omega, by unfold Small; omega, by omega⟩⟩

theorem law_EncodeRecord (k : Int) (e : D_LogRecord) (h1 : e.1.length ≤ 9223372036854775807) (h2 : e.2.1.length ≤ 9223372036854775807) : P_laws_FnExactEncodeRecord (k, e, ()) = some (true, ()) := by
  obtain ⟨r, hr, hc⟩ := sz_rec e 1048576 (by omega) (by omega) h1 h2
  rw [p_laws_FnExactEncodeRecord, hr]
  simp only [Option.bind_some]
  rcases hc with hc | ⟨s1, s2, hc⟩
  · rw [decide_eq_true hc]; rfl
  · rw [decide_eq_false (by omega)]
    simp only [cond_false, p_laws_toLogRecord, Option.bind_some, f_encS k e s1 s2, f_encI k e s1 s2]
    simp

theorem law_IsValidLog (l : D_Log) (h1 : l.1.length ≤ 9223372036854775807) (h2 : l.2.1.length ≤ 9223372036854775807) : P_laws_FnExactIsValidLog (l, ()) = some (true, ()) := by
  obtain ⟨r, hr, hc⟩ := sz_log l h1 h2
  rw [p_laws_FnExactIsValidLog, hr]
  simp only [Option.bind_some]
  rcases hc with hc | ⟨s1, hc, _⟩
  · rw [decide_eq_true hc]; rfl
  · rw [decide_eq_false (by omega)]
    simp only [cond_false, p_laws_toLog, Option.bind_some, p_spec_IsValidLog, f_validS l s1, f_validI l s1]
    simp

theorem cut_all (s : List UInt8) (n : Nat) : cut s 0 (n : Int) = s.take n := rfl

theorem law_RecoverLog (s : List UInt8) : P_laws_FnExactRecoverLog (s, ()) = some (true, ()) := by
  rw [p_laws_FnExactRecoverLog]
  by_cases hs : (s.length : Int) > 1048576
  · rw [decide_eq_true hs]; rfl
  · have hsm : Small s := by unfold Small; omega
    rw [decide_eq_false hs, p_spec_RecoverLog, p_impl_RecoverLog]
    simp only [cond_false]
    by_cases c : (s.length : Int) > 30000
    · rw [decide_eq_true c]
      simp only [cond_true, Option.bind_some, eqLog_refl]
      simp
    · rw [decide_eq_false c, f_open s hsm, f_read s hsm]
      have ht : tot (rdAll s) ≤ s.length := rd_tot 60 0 s
      simp only [cond_false, Option.bind_some]
      rw [ends_in, ends_at, decide_eq_true (p := (0 : Int) ≤ 0) (by omega), decide_eq_true (p := (0 : Int) ≤ ((tot (rdAll s) : Nat) : Int)) (by omega), decide_eq_true (p := ((tot (rdAll s) : Nat) : Int) ≤ (s.length : Int)) (by omega)]
      simp only [Bool.and_self, cond_true, Option.bind_some, eqLog_refl]
      simp

theorem law_SyncLog (l : D_Log) (h1 : l.1.length ≤ 9223372036854775807) (h2 : l.2.1.length ≤ 9223372036854775807) : P_laws_FnExactSyncLog (l, ()) = some (true, ()) := by
  obtain ⟨r, hr, hc⟩ := sz_log l h1 h2
  rw [p_laws_FnExactSyncLog, hr]
  simp only [Option.bind_some]
  rcases hc with hc | ⟨s1, hc, _⟩
  · rw [decide_eq_true hc]; rfl
  · rw [decide_eq_false (by omega)]
    simp only [cond_false, p_laws_toLog, Option.bind_some, p_spec_SyncLog, p_impl_SyncLog, f_validS l s1, f_validI l s1]
    rw [cat_ok (by omega) (by omega)]
    cases okLog l with
    | false => simp [eqLog_refl]
    | true => simp [eqLog_refl]

theorem law_AppendRecord (l : D_Log) (e : D_LogRecord) (h1 : l.1.length ≤ 9223372036854775807) (h2 : l.2.1.length ≤ 9223372036854775807) (h3 : e.1.length ≤ 9223372036854775807) (h4 : e.2.1.length ≤ 9223372036854775807) : P_laws_FnExactAppendRecord (l, e, ()) = some (true, ()) := by
  obtain ⟨r, hr, hc⟩ := sz_log l h1 h2
  rw [p_laws_FnExactAppendRecord, hr]
  simp only [Option.bind_some]
  rcases hc with hc | ⟨s1, hc, hc'⟩
  · rw [decide_eq_true hc]; rfl
  · rw [decide_eq_false (by omega)]
    obtain ⟨r2, hr2, hc2⟩ := sz_rec e r hc hc' h3 h4
    simp only [cond_false]
    rw [hr2]
    simp only [Option.bind_some]
    rcases hc2 with hc2 | ⟨t1, t2, hc2⟩
    · rw [decide_eq_true hc2]; rfl
    · rw [decide_eq_false (by omega)]
      simp only [cond_false, p_laws_toLog, p_laws_toLogRecord, Option.bind_some]
      suffices h : ∃ g : D_Log × Int × Unit, P_spec_AppendRecord (l, e, ()) = some g ∧ P_impl_AppendRecord (l, e, ()) = some g by
        obtain ⟨g, g1, g2⟩ := h
        rw [g1, g2]
        simp [eqLog_refl]
      rw [p_spec_AppendRecord, p_impl_AppendRecord, f_validS l s1, f_validI l s1, f_specRecord e t1 t2, f_implRecord e t1 t2, ok_same, f_encI _ e t1 t2]
      simp only [Option.bind_some]
      cases hv : okLog l with
      | false => exact ⟨_, rfl, rfl⟩
      | true =>
        cases ho : okRec e with
        | false => exact ⟨_, rfl, rfl⟩
        | true =>
          obtain ⟨c0, c1, c2⟩ := okLog_count hv
          unfold encB
          rw [ho]
          by_cases hf : l.2.2.1 = 60
          · rw [decide_eq_true hf, decide_eq_false (p := l.2.2.1 ≤ 59) (by omega)]
            simp only [Bool.and_false, Bool.false_and, Bool.not_true, Bool.not_false, cond_true, cond_false]
            exact ⟨_, rfl, rfl⟩
          · obtain ⟨n, hn⟩ : ∃ n : Nat, l.2.2.1 = n := ⟨l.2.2.1.toNat, by omega⟩
            rw [decide_eq_false hf, hn, decide_eq_true (p := (0 : Int) ≤ (n : Int)) (by omega), decide_eq_true (p := (n : Int) ≤ 59) (by omega), f_line n (by omega) e ho]
            simp only [Bool.and_self, Bool.not_true, cond_true, cond_false, Option.bind_some, Int.toNat_natCast]
            have hl : (lineB n e).length ≤ 1000 := by
              have := text_len (k := n) (by omega) ho
              have := seal_len (textB n e)
              simp only [lineB, List.length_append, List.length_singleton]
              omega
            rw [cat_ok (by omega) (by omega)]
            exact ⟨_, rfl, rfl⟩
end Go.VI
