/- Plain: what the functions of the log return. -/
import Derived.Test.YtaglincpgdfjfaaDoorQO
namespace Go.VI
open Go.Proofs Go.Sort

/-! ### What is read, joined and parted -/
theorem rd_pre : ∀ (f k : Nat) (A B : List UInt8), ∃ t, rd f k (A ++ B) = rd f k A ++ t
  | 0, _, _, _ => ⟨[], rfl⟩
  | f + 1, k, A, B => by
    by_cases h : (10 : UInt8) ∈ A
    · have h2 : (10 : UInt8) ∈ A ++ B := List.mem_append_left _ h
      rw [rd, rd, if_pos h2, if_pos h, hd_append_mem B h]
      cases dec k (hd 10 A) with
      | none => exact ⟨[], rfl⟩
      | some e =>
        rw [List.drop_append_of_le_length (hd_le 10 A h)]
        obtain ⟨t, ht⟩ := rd_pre f (k + 1) (A.drop ((hd 10 A).length + 1)) B
        exact ⟨t, by simp only [ht, List.cons_append]⟩
    · have e0 : rd (f + 1) k A = [] := by rw [rd, if_neg h]
      rw [e0]
      exact ⟨_, rfl⟩

theorem rd_no10 : ∀ (f k : Nat) (A B : List UInt8), (10 : UInt8) ∉ B → rd f k (A ++ B) = rd f k A
  | 0, _, _, _, _ => rfl
  | f + 1, k, A, B, hB => by
    by_cases h : (10 : UInt8) ∈ A
    · have h2 : (10 : UInt8) ∈ A ++ B := List.mem_append_left _ h
      rw [rd, rd, if_pos h2, if_pos h, hd_append_mem B h]
      cases dec k (hd 10 A) with
      | none => rfl
      | some e =>
        rw [List.drop_append_of_le_length (hd_le 10 A h)]
        simp only [rd_no10 f (k + 1) (A.drop ((hd 10 A).length + 1)) B hB]
    · have h2 : (10 : UInt8) ∉ A ++ B := fun hh => by rcases List.mem_append.1 hh with hh | hh <;> contradiction
      rw [rd, rd, if_neg h2, if_neg h]

theorem rd_nil (f k : Nat) : rd f k [] = [] := by
  cases f with
  | zero => rfl
  | succ f => rw [rd, if_neg (by simp)]

theorem take_hd {s : List UInt8} (h : (10 : UInt8) ∈ s) (m : Nat) (hm : (hd 10 s).length + 1 ≤ m) : (10 : UInt8) ∈ s.take m := by
  have e := hd_split h
  have : s.take ((hd 10 s).length + 1) = hd 10 s ++ [10] := by
    generalize hn : (hd 10 s).length + 1 = n at e ⊢
    generalize s.drop n = r at e
    generalize hd 10 s = a at e hn ⊢
    subst e
    rw [List.take_append, List.take_of_length_le (by omega), show n - a.length = 1 by omega]
    rfl
  have h1 : (10 : UInt8) ∈ s.take ((hd 10 s).length + 1) := by rw [this]; simp
  have h2 : s.take ((hd 10 s).length + 1) = (s.take m).take ((hd 10 s).length + 1) := by rw [List.take_take, Nat.min_eq_left hm]
  rw [h2] at h1
  exact List.mem_of_mem_take h1

theorem rd_take : ∀ (f k : Nat) (s : List UInt8), rd f k (s.take (tot (rd f k s))) = rd f k s
  | 0, _, _ => rfl
  | f + 1, k, s => by
    by_cases h : (10 : UInt8) ∈ s
    · cases hd1 : dec k (hd 10 s) with
      | none =>
        have : rd (f + 1) k s = [] := by rw [rd, if_pos h, hd1]
        rw [this, tot, List.take_zero, rd_nil]
      | some e =>
        have e0 : rd (f + 1) k s = (e, (hd 10 s).length + 1) :: rd f (k + 1) (s.drop ((hd 10 s).length + 1)) := by rw [rd, if_pos h, hd1]
        rw [e0, tot]
        simp only
        generalize hm : (hd 10 s).length + 1 + tot (rd f (k + 1) (s.drop ((hd 10 s).length + 1))) = m
        have hmem := take_hd h m (by omega)
        have hhd : hd 10 (s.take m) = hd 10 s := by
          have := hd_append_mem (s.drop m) hmem
          rw [List.take_append_drop] at this
          exact this.symm
        rw [rd, if_pos hmem, hhd, hd1]
        simp only
        have hdr : (s.take m).drop ((hd 10 s).length + 1) = (s.drop ((hd 10 s).length + 1)).take (tot (rd f (k + 1) (s.drop ((hd 10 s).length + 1)))) := by
          rw [List.drop_take]
          congr 1
          omega
        rw [hdr, rd_take f (k + 1)]
    · have : rd (f + 1) k s = [] := by rw [rd, if_neg h]
      rw [this, tot, List.take_zero, rd_nil]

theorem rd_line : ∀ (f k : Nat) (A : List UInt8) (e : LRec), tot (rd f k A) = A.length → (rd f k A).length < f → okRec e = true →
    rd f k (A ++ lineB (k + (rd f k A).length) e) = rd f k A ++ [(e, (lineB (k + (rd f k A).length) e).length)]
  | 0, _, _, _, _, h, _ => by omega
  | f + 1, k, A, e, ht, hl, ho => by
    by_cases hA : A = []
    · subst hA
      rw [rd_nil]
      simp only [List.nil_append, List.length_nil, Nat.add_zero]
      have hm : (10 : UInt8) ∈ lineB k e := by unfold lineB; simp
      have hhd : hd 10 (lineB k e) = sealB (textB k e) := hd_app [] (seal_10 ho)
      have hdec : dec k (sealB (textB k e)) = some e := dec_iff.2 ⟨ho, rfl⟩
      have hlen : (lineB k e).length = (sealB (textB k e)).length + 1 := by unfold lineB; simp
      rw [rd, if_pos hm, hhd, hdec]
      simp only
      rw [hlen, List.drop_of_length_le (by omega), rd_nil]
    · have hpos : 0 < A.length := List.length_pos_iff.2 hA
      by_cases h : (10 : UInt8) ∈ A
      · cases hd1 : dec k (hd 10 A) with
        | none =>
          have e0 : rd (f + 1) k A = [] := by rw [rd, if_pos h, hd1]
          rw [e0] at ht
          simp only [tot] at ht
          omega
        | some e1 =>
          have e0 : rd (f + 1) k A = (e1, (hd 10 A).length + 1) :: rd f (k + 1) (A.drop ((hd 10 A).length + 1)) := by rw [rd, if_pos h, hd1]
          rw [e0] at ht hl ⊢
          simp only [tot, List.length_cons] at ht hl ⊢
          have hle := hd_le 10 A h
          have ih := rd_line f (k + 1) (A.drop ((hd 10 A).length + 1)) e (by rw [List.length_drop]; omega) (by omega) ho
          have ek : k + ((rd f (k + 1) (A.drop ((hd 10 A).length + 1))).length + 1) = k + 1 + (rd f (k + 1) (A.drop ((hd 10 A).length + 1))).length := by omega
          rw [ek]
          rw [rd, if_pos (List.mem_append_left _ h), hd_append_mem _ h, hd1]
          simp only
          rw [List.drop_append_of_le_length hle, ih]
          rfl
      · have e0 : rd (f + 1) k A = [] := by rw [rd, if_neg h]
        rw [e0] at ht
        simp only [tot] at ht
        omega

theorem line_len {k : Nat} (hk : k < 100) {e : LRec} (ho : okRec e = true) : (lineB k e).length ≤ 472 := by
  have := text_len hk ho
  have := seal_len (textB k e)
  unfold lineB
  rw [List.length_append]
  simp only [List.length_singleton]
  omega

theorem rd_each : ∀ (f k : Nat) (s : List UInt8), k + f ≤ 100 → tot (rd f k s) ≤ 472 * (rd f k s).length
  | 0, _, _, _ => by simp [rd, tot]
  | f + 1, k, s, hk => by
    by_cases h : (10 : UInt8) ∈ s
    · cases hd1 : dec k (hd 10 s) with
      | none =>
        have e0 : rd (f + 1) k s = [] := by rw [rd, if_pos h, hd1]
        rw [e0]; simp [tot]
      | some e =>
        have e0 : rd (f + 1) k s = (e, (hd 10 s).length + 1) :: rd f (k + 1) (s.drop ((hd 10 s).length + 1)) := by rw [rd, if_pos h, hd1]
        rw [e0, tot, List.length_cons]
        have ih := rd_each f (k + 1) (s.drop ((hd 10 s).length + 1)) (by omega)
        obtain ⟨o1, o2⟩ := dec_iff.1 hd1
        have := line_len (k := k) (by omega) o1
        rw [o2, List.length_append, List.length_singleton] at this
        simp only
        omega
    · have e0 : rd (f + 1) k s = [] := by rw [rd, if_neg h]
      rw [e0]; simp [tot]

theorem tot_app : ∀ (a b : List (LRec × Nat)), tot (a ++ b) = tot a + tot b
  | [], b => by simp [tot]
  | x :: a, b => by simp only [List.cons_append, tot, tot_app a b]; omega

theorem recs_len (R : List (LRec × Nat)) : (recs R).length = R.length := by simp [recs]
theorem recs_app (a b : List (LRec × Nat)) : recs (a ++ b) = recs a ++ recs b := by simp [recs]

theorem okLog_iff {l : D_Log} : okLog l = true ↔ l.1.length + l.2.1.length ≤ 30000 ∧ tot (rdAll (l.1 ++ l.2.1)) = l.1.length + l.2.1.length ∧ tot (rdAll l.1) = l.1.length ∧ l.2.2.1 = ((recs (rdAll (l.1 ++ l.2.1))).length : Int) := by
  unfold okLog
  simp only [Bool.and_eq_true, decide_eq_true_eq]
  constructor
  · rintro ⟨a, b, c, d⟩; exact ⟨a, b, c, by omega⟩
  · rintro ⟨a, b, c, d⟩; exact ⟨a, b, c, by omega⟩

/-! ### The functions -/
noncomputable def appV (l : D_Log) (e : D_LogRecord) : D_Log × Int × Unit :=
  bif !(okLog l && okRec e) then (l, 1, ()) else bif decide (l.2.2.1 = 60) then (l, 2, ()) else ((l.1, l.2.1 ++ lineB l.2.2.1.toNat e, l.2.2.1 + 1, ()), 0, ())

theorem f_app (l : D_Log) (e : D_LogRecord) (s1 : l.1.length + l.2.1.length ≤ 1048576) (t1 : Small e.1) (t2 : Small e.2.1) : P_spec_AppendRecord (l, e, ()) = some (appV l e) ∧ P_impl_AppendRecord (l, e, ()) = some (appV l e) := by
  rw [p_spec_AppendRecord, p_impl_AppendRecord, f_validS l s1, f_validI l s1, f_specRecord e t1 t2, f_implRecord e t1 t2, ok_same, f_encI _ e t1 t2]
  simp only [Option.bind_some]
  unfold appV
  cases hv : okLog l with
  | false => exact ⟨rfl, rfl⟩
  | true =>
    cases ho : okRec e with
    | false => exact ⟨rfl, rfl⟩
    | true =>
      obtain ⟨c0, c1, c2⟩ := okLog_count hv
      unfold encB
      rw [ho]
      by_cases hf : l.2.2.1 = 60
      · rw [decide_eq_true hf, decide_eq_false (p := l.2.2.1 ≤ 59) (by omega)]
        simp only [Bool.and_false, Bool.false_and, Bool.not_true, Bool.not_false, cond_true, cond_false, Bool.and_self]
        exact ⟨trivial, trivial⟩
      · obtain ⟨n, hn⟩ : ∃ n : Nat, l.2.2.1 = n := ⟨l.2.2.1.toNat, by omega⟩
        rw [decide_eq_false hf, hn, decide_eq_true (p := (0 : Int) ≤ (n : Int)) (by omega), decide_eq_true (p := (n : Int) ≤ 59) (by omega), f_line n (by omega) e ho]
        simp only [Bool.and_self, Bool.not_true, cond_true, cond_false, Option.bind_some, Int.toNat_natCast]
        have hl := line_len (k := n) (by omega) ho
        rw [cat_ok (by omega) (by omega), w64 (x := (n : Int) + 1) (by omega) (by omega)]
        exact ⟨rfl, rfl⟩

noncomputable def syncV (l : D_Log) : D_Log × Bool × Unit := bif okLog l then ((l.1 ++ l.2.1, [], l.2.2), true, ()) else (([], [], 0, ()), false, ())

theorem f_sync (l : D_Log) (s1 : l.1.length + l.2.1.length ≤ 1048576) : P_spec_SyncLog (l, ()) = some (syncV l) ∧ P_impl_SyncLog (l, ()) = some (syncV l) := by
  rw [p_spec_SyncLog, p_impl_SyncLog, f_validS l s1, f_validI l s1, cat_ok (by omega) (by omega)]
  unfold syncV
  cases okLog l <;> exact ⟨rfl, rfl⟩

noncomputable def recsV (l : D_Log) : List D_LogRecord × Bool × Unit := bif okLog l then (recs (rdAll (l.1 ++ l.2.1)), true, ()) else ([], false, ())

theorem f_recs (l : D_Log) (s1 : l.1.length + l.2.1.length ≤ 1048576) : P_spec_LogRecords (l, ()) = some (recsV l) ∧ P_impl_LogRecords (l, ()) = some (recsV l) := by
  rw [p_spec_LogRecords, p_impl_LogRecords, f_validS l s1, f_validI l s1, cat_ok (by omega) (by omega)]
  simp only [Option.bind_some]
  have hs : Small (l.1 ++ l.2.1) := by unfold Small; simp only [List.length_append]; omega
  rw [f_open _ hs, f_read _ hs]
  unfold recsV
  cases okLog l <;> exact ⟨rfl, rfl⟩

noncomputable def recoverV (s : List UInt8) : D_Log × Int × Bool × Unit :=
  bif decide ((s.length : Int) > 30000) then (([], [], 0, ()), 0, false, ()) else ((s.take (tot (rdAll s)), [], ((recs (rdAll s)).length : Int), ()), (tot (rdAll s) : Int), true, ())

theorem f_recover (s : List UInt8) (hsm : Small s) : P_spec_RecoverLog (s, ()) = some (recoverV s) ∧ P_impl_RecoverLog (s, ()) = some (recoverV s) := by
  rw [p_spec_RecoverLog, p_impl_RecoverLog]
  unfold recoverV
  by_cases c : (s.length : Int) > 30000
  · rw [decide_eq_true c]; exact ⟨rfl, rfl⟩
  · have ht : tot (rdAll s) ≤ s.length := rd_tot 60 0 s
    rw [decide_eq_false c, f_open s hsm, f_read s hsm]
    simp only [cond_false, Option.bind_some]
    rw [ends_in, ends_at, decide_eq_true (p := (0 : Int) ≤ 0) (by omega), decide_eq_true (p := (0 : Int) ≤ ((tot (rdAll s) : Nat) : Int)) (by omega), decide_eq_true (p := ((tot (rdAll s) : Nat) : Int) ≤ (s.length : Int)) (by omega)]
    exact ⟨rfl, rfl⟩

/-! ### Crashes -/
/-- A byte that is torn. -/
def torn1 (c : UInt8) : UInt8 := (IntKind.wrap .u8 (255 - (c.toNat : Int))).toNat.toUInt8
noncomputable def crashB (l : D_Log) (k : Nat) (t : Bool) : List UInt8 :=
  bif t && decide (0 < k) then (l.1 ++ l.2.1.take k).set (l.1.length + k - 1) (torn1 ((l.1 ++ l.2.1.take k).getD (l.1.length + k - 1) 0)) else l.1 ++ l.2.1.take k
noncomputable def crashV (l : D_Log) (k : Int) (t : Bool) : List UInt8 × Bool × Unit :=
  bif okLog l && (decide (0 ≤ k) && decide (k ≤ (l.2.1.length : Int))) then (crashB l k.toNat t, true, ()) else ([], false, ())

def pairs (s : List UInt8) : List (Int × Unit) := s.map fun (c : UInt8) => ((c.toNat : Int), ())
def text (l : List (Int × Unit)) : List UInt8 := l.map fun (n : Int × Unit) => n.1.toNat.toUInt8

theorem text_pairs (s : List UInt8) : text (pairs s) = s := by
  unfold text pairs
  rw [List.map_map]
  conv => rhs; rw [← List.map_id s]
  apply List.map_congr_left
  intro c _
  simp

theorem text_set (s : List UInt8) (i : Nat) (x : Int) : text ((pairs s).set i (x, ())) = s.set i x.toNat.toUInt8 := by
  unfold text
  rw [List.map_set]
  show (text (pairs s)).set i _ = _
  rw [text_pairs]

theorem nth_pairs (s : List UInt8) (i : Nat) (h : i < s.length) : (nth ((.pair (.int .u8) .unit) : Ty) (pairs s) (i : Int)).1 = (s[i].toNat : Int) := by
  simp [nth, pairs, List.getD, h]

theorem f_crash (l : D_Log) (k : Int) (t : Bool) (s1 : l.1.length + l.2.1.length ≤ 1048576) : P_spec_CrashLog (l, k, t, ()) = some (crashV l k t) ∧ P_impl_CrashLog (l, k, t, ()) = some (crashV l k t) := by
  rw [p_spec_CrashLog, p_impl_CrashLog, f_validS l s1, f_validI l s1, f_spec_l1In, f_within]
  simp only [Option.bind_some]
  unfold crashV
  cases okLog l with
  | false => exact ⟨rfl, rfl⟩
  | true =>
    simp only [Bool.not_true, cond_false, Bool.true_and]
    cases hk : decide (0 ≤ k) && decide (k ≤ (l.2.1.length : Int)) with
    | false => exact ⟨rfl, rfl⟩
    | true =>
      rw [Bool.and_eq_true, decide_eq_true_eq, decide_eq_true_eq] at hk
      obtain ⟨n, rfl⟩ : ∃ n : Nat, k = n := ⟨k.toNat, by omega⟩
      have hn : n ≤ l.2.1.length := by omega
      have hlen : (l.2.1.take n).length = n := by rw [List.length_take]; omega
      simp only [Bool.not_true, cond_false, cond_true]
      rw [decide_eq_true (p := (0 : Int) ≤ 0) (by omega), decide_eq_true (p := (0 : Int) ≤ (n : Int)) (by omega), decide_eq_true (p := (n : Int) ≤ (l.2.1.length : Int)) (by omega), cut_all, decide_eq_true (p := (l.2.1.take n).length ≤ 140737488355328) (by omega), cat_ok (a := l.1) (b := l.2.1.take n) (by omega) (by omega)]
      simp only [Bool.and_self, cond_true, Option.bind_some]
      rw [decide_eq_true (p := (l.1 ++ l.2.1.take n).length ≤ 140737488355328) (by rw [List.length_append]; omega)]
      simp only [cond_true, Int.toNat_natCast]
      have tp : ∀ s : List UInt8, List.map (fun (x : Int × Unit) => x.1.toNat.toUInt8) (List.map (fun (c : UInt8) => ((c.toNat : Int), ())) s) = s := text_pairs
      unfold crashB
      cases t with
      | false =>
        simp only [cond_false, Bool.false_and]
        rw [tp, tp, cat_ok (a := l.1) (b := l.2.1.take n) (by omega) (by omega)]
        exact ⟨rfl, rfl⟩
      | true =>
        simp only [cond_true, Bool.true_and]
        by_cases h0 : 0 < n
        · rw [decide_eq_true (p := (n : Int) > 0) (by omega), decide_eq_true h0]
          simp only [cond_true]
          have e1 : IntKind.wrap .i64 ((n : Int) - 1) = ((n - 1 : Nat) : Int) := by rw [w64 (by omega) (by omega)]; omega
          have hl1 : (List.map (fun (c : UInt8) => ((c.toNat : Int), ())) (l.1 ++ l.2.1.take n)).length = l.1.length + n := by rw [List.length_map, List.length_append, hlen]
          have hl2 : (List.map (fun (c : UInt8) => ((c.toNat : Int), ())) (l.2.1.take n)).length = n := by rw [List.length_map, hlen]
          rw [e1, hl1, hl2]
          have e2 : IntKind.wrap .i64 (((l.1.length + n : Nat) : Int) - 1) = ((l.1.length + n - 1 : Nat) : Int) := by rw [w64 (by omega) (by omega)]; omega
          rw [e2, inB_at (k := n - 1) (n := n) (by omega), inB_at (k := l.1.length + n - 1) (n := l.1.length + n) (by omega)]
          simp only [cond_true, Int.toNat_natCast]
          have g1 := nth_pairs (l.2.1.take n) (n - 1) (by omega)
          have g2 := nth_pairs (l.1 ++ l.2.1.take n) (l.1.length + n - 1) (by rw [List.length_append, hlen]; omega)
          have hsame : (l.1 ++ l.2.1.take n)[l.1.length + n - 1]'(by rw [List.length_append, hlen]; omega) = (l.2.1.take n)[n - 1]'(by omega) := by
            rw [List.getElem_append_right (by omega)]
            congr 1
            omega
          unfold pairs at g1 g2
          rw [g1, g2, hsame]
          have t1 := text_set (l.2.1.take n) (n - 1) (IntKind.wrap .u8 (255 - (((l.2.1.take n)[n - 1]'(by omega)).toNat : Int)))
          have t2 := text_set (l.1 ++ l.2.1.take n) (l.1.length + n - 1) (IntKind.wrap .u8 (255 - (((l.2.1.take n)[n - 1]'(by omega)).toNat : Int)))
          unfold text pairs at t1 t2
          rw [t1, t2, cat_ok (by omega) (by rw [List.length_set]; omega)]
          have hgd : (l.1 ++ l.2.1.take n).getD (l.1.length + n - 1) 0 = (l.2.1.take n)[n - 1]'(by omega) := by
            rw [← hsame]
            simp [List.getD, List.getElem?_eq_getElem (show l.1.length + n - 1 < (l.1 ++ l.2.1.take n).length by rw [List.length_append, hlen]; omega)]
          rw [hgd]
          refine ⟨?_, rfl⟩
          simp only [Option.bind_some]
          congr 2
          rw [List.set_append_right _ _ (by omega)]
          congr 2
          omega
        · have hn0 : n = 0 := by omega
          subst hn0
          rw [decide_eq_false (p := ((0 : Nat) : Int) > 0) (by omega), decide_eq_false h0]
          simp only [cond_false]
          rw [tp, tp, cat_ok (a := l.1) (b := l.2.1.take 0) (by omega) (by simp)]
          exact ⟨rfl, rfl⟩

theorem law_CrashLog (l : D_Log) (k : Int) (t : Bool) (h1 : l.1.length ≤ 9223372036854775807) (h2 : l.2.1.length ≤ 9223372036854775807) : P_laws_FnExactCrashLog (l, k, t, ()) = some (true, ()) := by
  obtain ⟨r, hr, hc⟩ := sz_log l h1 h2
  rw [p_laws_FnExactCrashLog, hr]
  simp only [Option.bind_some]
  rcases hc with hc | ⟨s1, hc, _⟩
  · rw [decide_eq_true hc]; rfl
  · rw [decide_eq_false (by omega)]
    obtain ⟨g1, g2⟩ := f_crash l k t s1
    simp only [cond_false, p_laws_toLog, Option.bind_some]
    rw [g1, g2]
    simp
end Go.VI
