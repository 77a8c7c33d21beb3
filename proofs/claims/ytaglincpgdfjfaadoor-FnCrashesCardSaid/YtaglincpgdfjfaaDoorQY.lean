/- Plain: the laws of logs. -/
import Derived.Test.YtaglincpgdfjfaaDoorQX
namespace Go.VI
open Go.Proofs Go.Sort
set_option maxRecDepth 100000

theorem rec_and (e e' : D_LogRecord) : ((e.1 == e'.1) && ((e.2.1 == e'.2.1) && true)) = decide (e = e') := by
  obtain ⟨a, b, ⟨⟩⟩ := e
  obtain ⟨c, d, ⟨⟩⟩ := e'
  rw [Bool.eq_iff_iff]
  simp

theorem nthR (l : List D_LogRecord) (k : Nat) (h : k < l.length) : nth T_LogRecord l (k : Int) = l[k] := by simp [nth, List.getD, List.getElem?_eq_getElem h]

theorem l_vRec (l : List D_LogRecord) (hl : l.length ≤ 1000) : ∀ (d k m : Nat), l.length = k + d → d < m → l_laws_vRecords_4 m l l (k : Int) = some (true, ())
  | d, k, 0, _, h => by omega
  | d, k, m + 1, hk, hm => by
    rw [q_laws_vRecords_4]
    by_cases hlt : k < l.length
    · rw [ltT hlt, inB_at hlt, nthR l k hlt, rec_and, decide_eq_true rfl, succI k (by omega)]
      exact l_vRec l hl (d - 1) (k + 1) m (by omega) (by omega)
    · rw [ltF hlt]
      rfl

theorem f_vRec (l : List D_LogRecord) (hl : l.length ≤ 1000) : P_laws_vRecords (l, l, ()) = some (true, ()) := by
  rw [p_laws_vRecords, decide_eq_true rfl]
  exact l_vRec l hl l.length 0 N (by simp) (by have := N_ge; omega)

theorem log_and (l : D_Log) : ((l.1 == l.1) && ((l.2.1 == l.2.1) && (decide (l.2.2.1 = l.2.2.1) && true))) = true := by simp

theorem recsV_len (l : D_Log) : (recsV l).1.length ≤ 60 := by
  unfold recsV
  cases okLog l with
  | false => simp
  | true =>
    show (recs (rdAll (l.1 ++ l.2.1))).length ≤ 60
    rw [recs_len]
    exact rdAll_len _

/-- What is appended is read behind what was there. -/
theorem app_next {l : D_Log} {e : D_LogRecord} (hv : okLog l = true) (ho : okRec e = true) (hf : ¬ l.2.2.1 = 60) :
    okLog (l.1, l.2.1 ++ lineB l.2.2.1.toNat e, l.2.2.1 + 1, ()) = true ∧ recs (rdAll (l.1 ++ (l.2.1 ++ lineB l.2.2.1.toNat e))) = recs (rdAll (l.1 ++ l.2.1)) ++ [e] := by
  obtain ⟨h1, h2, h3, h4⟩ := okLog_iff.1 hv
  have hc := okLog_count hv
  rw [recs_len] at h4
  have hlt : (rdAll (l.1 ++ l.2.1)).length < 60 := by omega
  have hn : l.2.2.1.toNat = 0 + (rd 60 0 (l.1 ++ l.2.1)).length := by
    have : (rdAll (l.1 ++ l.2.1)).length = (rd 60 0 (l.1 ++ l.2.1)).length := rfl
    omega
  have hline := rd_line 60 0 (l.1 ++ l.2.1) e (by rw [List.length_append]; exact h2) hlt ho
  rw [← hn] at hline
  have hR : rdAll (l.1 ++ (l.2.1 ++ lineB l.2.2.1.toNat e)) = rdAll (l.1 ++ l.2.1) ++ [(e, (lineB l.2.2.1.toNat e).length)] := by
    rw [← List.append_assoc]
    exact hline
  have hlen := rd_each 60 0 (l.1 ++ l.2.1) (by decide)
  have hll := line_len (k := l.2.2.1.toNat) (by omega) ho
  have htot : tot (rdAll (l.1 ++ (l.2.1 ++ lineB l.2.2.1.toNat e))) = l.1.length + (l.2.1.length + (lineB l.2.2.1.toNat e).length) := by
    rw [hR, tot_app, h2]
    simp only [tot]
    omega
  have h2' : tot (rd 60 0 (l.1 ++ l.2.1)) = l.1.length + l.2.1.length := h2
  have hlt' : (rd 60 0 (l.1 ++ l.2.1)).length < 60 := hlt
  refine ⟨okLog_iff.2 ⟨?_, ?_, h3, ?_⟩, ?_⟩
  · show l.1.length + (l.2.1 ++ lineB l.2.2.1.toNat e).length ≤ 30000
    rw [List.length_append]
    omega
  · show tot (rdAll (l.1 ++ (l.2.1 ++ lineB l.2.2.1.toNat e))) = l.1.length + (l.2.1 ++ lineB l.2.2.1.toNat e).length
    rw [htot, List.length_append]
  · show l.2.2.1 + 1 = ((recs (rdAll (l.1 ++ (l.2.1 ++ lineB l.2.2.1.toNat e)))).length : Int)
    rw [hR, recs_len, List.length_append, List.length_singleton]
    omega
  · rw [hR, recs_app]
    rfl

theorem cut_pre {α : Type} (a b : List α) : cut (a ++ b) 0 (a.length : Int) = a := by simp [cut]

theorem law_Logs (C : List Int) (hb : ∀ b ∈ C, 0 ≤ b ∧ b ≤ 255) : P_laws_FnLogs (C, ()) = some (true, ()) := by
  rw [p_laws_FnLogs, p_laws_vBig]
  simp only [Option.bind_some]
  by_cases hbig : ((C.length : Nat) : Int) > 65536
  · rw [decide_eq_true hbig]; rfl
  rw [decide_eq_false hbig]
  have hC : Bts C := ⟨by omega, hb⟩
  obtain ⟨C1, v1, b1⟩ := f_vCut hC (by omega) 1 (by decide)
  obtain ⟨C2, v2, b2⟩ := f_vCut hC (by omega) 2 (by decide)
  obtain ⟨C3, v3, b3⟩ := f_vCut hC (by omega) 3 (by decide)
  obtain ⟨e, d1, he⟩ := d_Record hC
  obtain ⟨k, f, d2, hf⟩ := d_Encode b1
  obtain ⟨l, d3, hl⟩ := d_ValidLog b2
  obtain ⟨m, g, d4, hm, hg⟩ := d_Append b3
  have sm : ∀ {x : D_LogRecord}, Sh x → Small x.1 ∧ Small x.2.1 := fun h => ⟨by have := h.1; unfold Small; omega, by have := h.2; unfold Small; omega⟩
  unfold Lb at hl hm
  have sl : l.1.length + l.2.1.length ≤ 1048576 := Nat.le_trans hl (by decide)
  have sM : m.1.length + m.2.1.length ≤ 1048576 := Nat.le_trans hm (by decide)
  obtain ⟨a1, a2⟩ := f_app m g sM (sm hg).1 (sm hg).2
  obtain ⟨y1, y2⟩ := f_sync m sM
  obtain ⟨r1, r2⟩ := f_recs m sM
  simp only [cond_false]
  rw [d1]
  simp only [Option.bind_some]
  rw [v1]
  simp only [Option.bind_some]
  rw [d2]
  simp only [Option.bind_some]
  rw [f_encI k f (sm hf).1 (sm hf).2, f_encS k f (sm hf).1 (sm hf).2, v2]
  simp only [Option.bind_some]
  rw [d3]
  simp only [Option.bind_some]
  rw [v3]
  simp only [Option.bind_some]
  rw [d4]
  simp only [Option.bind_some]
  rw [a1, a2, f_implRecord e (sm he).1 (sm he).2, p_spec_IsValidRecord, f_specRecord e (sm he).1 (sm he).2]
  simp only [Option.bind_some, beq_self_eq_true, Bool.not_true, cond_false]
  rw [f_validI l sl, p_spec_IsValidLog, f_validS l sl]
  simp only [Option.bind_some, beq_self_eq_true, Bool.not_true, cond_false, decide_true, Bool.and_self]
  rw [y1, y2, r1, r2]
  simp only [Option.bind_some, beq_self_eq_true, Bool.not_true, cond_false, decide_true, Bool.and_self]
  have hrl := recsV_len m
  rw [f_vRec (recsV m).1 (by omega)]
  simp only [Option.bind_some, Bool.not_true, cond_false]
  have hsy : (syncV m).1.1.length + (syncV m).1.2.1.length ≤ 1048576 := by
    unfold syncV
    cases okLog m with
    | false => simp
    | true => simp; omega
  rw [(f_recs (syncV m).1 hsy).2]
  simp only [Option.bind_some]
  have hsame : (syncV m).2.1 = true → (recsV (syncV m).1).1 = (recsV m).1 := by
    intro h
    unfold syncV at h
    cases hv : okLog m with
    | false => rw [hv] at h; cases h
    | true =>
      obtain ⟨h1, h2, h3, h4⟩ := okLog_iff.1 hv
      have e1 : syncV m = ((m.1 ++ m.2.1, [], m.2.2), true, ()) := by unfold syncV; rw [hv]; rfl
      rw [e1]
      have hv2 : okLog (m.1 ++ m.2.1, [], m.2.2) = true := by
        refine okLog_iff.2 ⟨?_, ?_, ?_, ?_⟩
        · show (m.1 ++ m.2.1).length + 0 ≤ 30000; rw [List.length_append]; omega
        · show tot (rdAll ((m.1 ++ m.2.1) ++ [])) = (m.1 ++ m.2.1).length + 0; rw [List.append_nil, List.length_append]; omega
        · show tot (rdAll (m.1 ++ m.2.1)) = (m.1 ++ m.2.1).length; rw [List.length_append]; exact h2
        · show m.2.2.1 = ((recs (rdAll ((m.1 ++ m.2.1) ++ []))).length : Int); rw [List.append_nil]; exact h4
      unfold recsV
      rw [hv, hv2]
      show recs (rdAll ((m.1 ++ m.2.1) ++ [])) = recs (rdAll (m.1 ++ m.2.1))
      rw [List.append_nil]
  -- what stands behind an append
  have tail : (bif !decide ((appV m g).2.1 = 0) then some ((((appV m g).1.1 == m.1) && (((appV m g).1.2.1 == m.2.1) && (decide ((appV m g).1.2.2.1 = m.2.2.1) && true))), ())
      else Option.bind (P_impl_LogRecords ((appV m g).1, ())) fun r35 =>
        Option.bind (P_impl_IsValidLog ((appV m g).1, ())) fun r36 =>
        bif r36.1 then
          bif decide ((List.length r35.1 : Int) = (IntKind.wrap .i64 ((List.length (recsV m).1 : Int) + 1))) then
            bif (decide ((0 : Int) ≤ 0) && decide ((0 : Int) ≤ (List.length (recsV m).1 : Int)) && decide ((List.length (recsV m).1 : Int) ≤ (List.length r35.1 : Int))) then
              Option.bind (P_laws_vRecords ((cut r35.1 0 (List.length (recsV m).1 : Int)), (recsV m).1, ())) fun r40 =>
              bif r40.1 then
                bif inB (List.length (recsV m).1 : Int) (List.length r35.1) then
                  some ((((((nth T_LogRecord r35.1 (List.length (recsV m).1 : Int))).1) == g.1) && ((((((nth T_LogRecord r35.1 (List.length (recsV m).1 : Int))).2).1) == g.2.1) && true)), ())
                else none
              else some (false, ())
            else none
          else some (false, ())
        else some (false, ())) = some (true, ()) := by
    cases hc : okLog m && okRec g with
    | false =>
      have e1 : appV m g = (m, 1, ()) := by unfold appV; rw [hc]; rfl
      rw [e1]
      simp
    | true =>
      rw [Bool.and_eq_true] at hc
      by_cases h60 : m.2.2.1 = 60
      · have e1 : appV m g = (m, 2, ()) := by unfold appV; rw [hc.1, hc.2, decide_eq_true h60]; rfl
        rw [e1]
        simp
      · have e1 : appV m g = ((m.1, m.2.1 ++ lineB m.2.2.1.toNat g, m.2.2.1 + 1, ()), 0, ()) := by unfold appV; rw [hc.1, hc.2, decide_eq_false h60]; rfl
        obtain ⟨n1, n2⟩ := app_next hc.1 hc.2 h60
        have hll := line_len (k := m.2.2.1.toNat) (by have := okLog_count hc.1; omega) hc.2
        have hs : m.1.length + (m.2.1 ++ lineB m.2.2.1.toNat g).length ≤ 1048576 := by rw [List.length_append]; omega
        rw [e1]
        simp only [decide_true, Bool.not_true, cond_false]
        rw [(f_recs (m.1, m.2.1 ++ lineB m.2.2.1.toNat g, m.2.2.1 + 1, ()) hs).2, f_validI (m.1, m.2.1 ++ lineB m.2.2.1.toNat g, m.2.2.1 + 1, ()) hs, n1]
        have e2 : recsV (m.1, m.2.1 ++ lineB m.2.2.1.toNat g, m.2.2.1 + 1, ()) = ((recsV m).1 ++ [g], true, ()) := by
          unfold recsV
          rw [n1, hc.1]
          show (recs (rdAll (m.1 ++ (m.2.1 ++ lineB m.2.2.1.toNat g))), true, ()) = _
          rw [n2]
          rfl
        rw [e2]
        simp only [Option.bind_some, cond_true]
        have hlen : ((recsV m).1 ++ [g]).length = (recsV m).1.length + 1 := by simp
        rw [hlen, succI _ (by omega), decide_eq_true rfl, decide_eq_true (p := (0 : Int) ≤ 0) (by omega), decide_eq_true (p := (0 : Int) ≤ ((recsV m).1.length : Int)) (by omega), decide_eq_true (p := (((recsV m).1.length : Nat) : Int) ≤ (((recsV m).1.length + 1 : Nat) : Int)) (by omega), cut_pre, f_vRec _ (by omega), inB_at (by omega), nthR _ _ (by omega)]
        simp only [Bool.and_self, cond_true, Option.bind_some]
        have hg2 : ((recsV m).1 ++ [g])[(recsV m).1.length]'(by omega) = g := by simp
        rw [hg2, rec_and, decide_eq_true rfl]
  cases hs2 : (syncV m).2.1 with
  | false => exact tail
  | true =>
    rw [hsame hs2, f_vRec (recsV m).1 (by omega)]
    exact tail
end Go.VI
