/- Plain: the laws of the log. -/
import Derived.Test.YtaglincpgdfjfaaDoorQN
namespace Go.VI
open Go.Proofs

theorem l_index (l : List Int) (x : Int) (hl : l.length ≤ 1048576) : ∀ (d k m : Nat), l.length = k + d → d < m → ∃ r : Int, l_slices_Index_int_int_2 m l x (l.length : Int) (k : Int) = some (r, ()) ∧ (r ≥ 0 ↔ x ∈ l.drop k)
  | d, k, 0, hk, hm => by omega
  | d, k, m + 1, hk, hm => by
    rw [q_slices_Index_int_int_2]
    by_cases hlt : k < l.length
    · rw [ltT hlt, inB_at hlt, succI k (by omega), drop_at l k hlt]
      simp only [cond_true]
      have en : nth ((.int .i64) : Ty) l (k : Int) = l[k] := by simp [nth, List.getD, List.getElem?_eq_getElem hlt]
      rw [en]
      by_cases e : x = l[k]
      · rw [decide_eq_true e]
        exact ⟨k, rfl, fun _ => List.mem_cons.2 (.inl e), fun _ => by omega⟩
      · rw [decide_eq_false e]
        obtain ⟨r, h1, h2⟩ := l_index l x hl (d - 1) (k + 1) m (by omega) (by omega)
        refine ⟨r, h1, ?_⟩
        rw [h2, List.mem_cons]
        exact ⟨.inr, fun h => h.resolve_left e⟩
    · rw [ltF hlt, List.drop_eq_nil_of_le (by omega)]
      exact ⟨-1, rfl, by simp⟩

theorem f_has (l : List Int) (x : Int) (hl : l.length ≤ 1048576) : P_slices_Contains_int_int (l, x, ()) = some (decide (x ∈ l), ()) := by
  obtain ⟨r, h1, h2⟩ := l_index l x hl l.length 0 N (by simp) (by have := N_ge; omega)
  rw [List.drop_zero] at h2
  have h3 : P_slices_Index_int_int (l, x, ()) = some (r, ()) := by rw [p_slices_Index_int_int]; exact h1
  rw [p_slices_Contains_int_int, h3]
  simp only [Option.bind_some]
  have : decide (r ≥ 0) = decide (x ∈ l) := by rw [Bool.eq_iff_iff, decide_eq_true_eq, decide_eq_true_eq]; exact h2
  rw [this]

/-- A log is valid. -/
noncomputable def okLog (l : D_Log) : Bool := decide (l.1.length + l.2.1.length ≤ 30000) && (decide (tot (rdAll (l.1 ++ l.2.1)) = l.1.length + l.2.1.length) && (decide (tot (rdAll l.1) = l.1.length) && decide (((recs (rdAll (l.1 ++ l.2.1))).length : Int) = l.2.2.1)))

theorem f_validS (l : D_Log) (h : l.1.length + l.2.1.length ≤ 1048576) : P_spec_l12Valid (l, ()) = some (okLog l, ()) := by
  rw [p_spec_l12Valid, w64 (by omega) (by omega)]
  unfold okLog
  by_cases c : l.1.length + l.2.1.length ≤ 30000
  · rw [decide_eq_true c, decide_eq_false (by omega), cat_ok (by omega) (by omega)]
    simp only [cond_false, Option.bind_some, Bool.true_and]
    rw [f_open _ (by unfold Small; simp only [List.length_append]; omega), f_open l.1 (by unfold Small; omega)]
    simp only [Option.bind_some]
    have e1 : decide (((tot (rdAll (l.1 ++ l.2.1)) : Nat) : Int) = (l.1.length : Int) + (l.2.1.length : Int)) = decide (tot (rdAll (l.1 ++ l.2.1)) = l.1.length + l.2.1.length) := by
      rw [Bool.eq_iff_iff, decide_eq_true_eq, decide_eq_true_eq]; omega
    have e2 : decide (((tot (rdAll l.1) : Nat) : Int) = (l.1.length : Int)) = decide (tot (rdAll l.1) = l.1.length) := by
      rw [Bool.eq_iff_iff, decide_eq_true_eq, decide_eq_true_eq]; omega
    rw [e1, e2]
    cases decide (tot (rdAll (l.1 ++ l.2.1)) = l.1.length + l.2.1.length) <;> cases decide (tot (rdAll l.1) = l.1.length) <;> rfl
  · rw [decide_eq_false c, decide_eq_true (by omega)]
    rfl

theorem ends_at (R : List (LRec × Nat)) : nth ((.int .i64) : Ty) ((ends 0 R).map fun (n : Nat) => (n : Int)) ((recs R).length : Int) = ((tot R : Nat) : Int) := by
  have h := ends_last R 0
  have hl : (recs R).length = R.length := by simp [recs]
  rw [hl]
  have : ((ends 0 R).map fun (n : Nat) => (n : Int))[R.length]? = some ((tot R : Nat) : Int) := by
    rw [List.getElem?_map, h]; simp
  simp only [nth, List.getD, Int.toNat_natCast, this, Option.getD_some]

theorem ends_in (R : List (LRec × Nat)) : inB ((recs R).length : Int) ((ends 0 R).map fun (n : Nat) => (n : Int)).length = true := by
  apply inB_at
  simp [recs, ends_len]

theorem rdAll_len (s : List UInt8) : (rdAll s).length ≤ 60 := rd_len 60 0 s

theorem f_validI (l : D_Log) (h : l.1.length + l.2.1.length ≤ 1048576) : P_impl_IsValidLog (l, ()) = some (okLog l, ()) := by
  rw [p_impl_IsValidLog, w64 (by omega) (by omega)]
  unfold okLog
  by_cases c : l.1.length + l.2.1.length ≤ 30000
  · rw [decide_eq_true c, decide_eq_false (by omega), cat_ok (by omega) (by omega)]
    simp only [cond_false, Option.bind_some, Bool.true_and]
    rw [f_read _ (by unfold Small; simp only [List.length_append]; omega)]
    simp only [Option.bind_some]
    rw [ends_in, ends_at]
    have e1 : decide (((tot (rdAll (l.1 ++ l.2.1)) : Nat) : Int) = (l.1.length : Int) + (l.2.1.length : Int)) = decide (tot (rdAll (l.1 ++ l.2.1)) = l.1.length + l.2.1.length) := by
      rw [Bool.eq_iff_iff, decide_eq_true_eq, decide_eq_true_eq]; omega
    rw [e1]
    simp only [cond_true]
    by_cases ct : tot (rdAll (l.1 ++ l.2.1)) = l.1.length + l.2.1.length
    · rw [decide_eq_true ct]
      simp only [cond_true, Bool.true_and]
      have hp := rd_part 60 0 l.1 l.2.1 0 (by unfold rdAll at ct; rw [ct]; simp)
      have e2 : decide ((l.1.length : Int) ∈ (ends 0 (rdAll (l.1 ++ l.2.1))).map fun (n : Nat) => (n : Int)) = decide (tot (rdAll l.1) = l.1.length) := by
        rw [Bool.eq_iff_iff, decide_eq_true_eq, decide_eq_true_eq]
        unfold rdAll
        rw [← hp]
        simp only [List.mem_map, Nat.zero_add]
        constructor
        · rintro ⟨n, h1, h2⟩
          have : n = l.1.length := by omega
          rw [← this]; exact h1
        · intro h1; exact ⟨_, h1, rfl⟩
      have hlen := rdAll_len (l.1 ++ l.2.1)
      rw [f_has _ _ (by simp [ends_len]; omega), e2]
      have e3 : decide (l.2.2.1 = ((recs (rdAll (l.1 ++ l.2.1))).length : Int)) = decide (((recs (rdAll (l.1 ++ l.2.1))).length : Int) = l.2.2.1) := by
        rw [Bool.eq_iff_iff, decide_eq_true_eq, decide_eq_true_eq]; exact eq_comm
      rw [e3]
      cases decide (((recs (rdAll (l.1 ++ l.2.1))).length : Int) = l.2.2.1) <;> cases decide (tot (rdAll l.1) = l.1.length) <;> rfl
    · rw [decide_eq_false ct]
      rfl
  · rw [decide_eq_false c, decide_eq_true (by omega)]
    rfl

theorem okLog_count {l : D_Log} (h : okLog l = true) : 0 ≤ l.2.2.1 ∧ l.2.2.1 ≤ 60 ∧ l.1.length + l.2.1.length ≤ 30000 := by
  unfold okLog at h
  simp only [Bool.and_eq_true, decide_eq_true_eq] at h
  have h1 := rdAll_len (l.1 ++ l.2.1)
  have h2 : (recs (rdAll (l.1 ++ l.2.1))).length = (rdAll (l.1 ++ l.2.1)).length := by simp [recs]
  omega

/-! ### The law's frame -/
theorem sz_log (l : D_Log) (h1 : l.1.length ≤ 9223372036854775807) (h2 : l.2.1.length ≤ 9223372036854775807) : ∃ r, P_laws_szLog (l, 1048576, ()) = some (r, ()) ∧ (r < 0 ∨ (l.1.length + l.2.1.length ≤ 1048576 ∧ 0 ≤ r ∧ r ≤ 1048576)) := by
  rw [p_laws_szLog, w64 (x := 1048576 - (l.1.length : Int)) (by omega) (by omega)]
  by_cases a : (1048576 : Int) - l.1.length < 0
  · exact ⟨-1, by simp [a], .inl (by omega)⟩
  · rw [w64 (x := 1048576 - (l.1.length : Int) - (l.2.1.length : Int)) (by omega) (by omega)]
    by_cases b : (1048576 : Int) - l.1.length - l.2.1.length < 0
    · exact ⟨-1, by simp [a, b], .inl (by omega)⟩
    · exact ⟨1048576 - (l.1.length : Int) - (l.2.1.length : Int), by simp [a, b], .inr ⟨by omega, by omega, by omega⟩⟩

theorem cut_all (s : List UInt8) (n : Nat) : cut s 0 (n : Int) = s.take n := rfl

end Go.VI
