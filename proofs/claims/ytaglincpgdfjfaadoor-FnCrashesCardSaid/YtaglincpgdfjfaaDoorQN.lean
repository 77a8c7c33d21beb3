/- Plain: how the lines of a log are decoded and read. -/
import Derived.Test.YtaglincpgdfjfaaDoorQM
namespace Go.VI
open Go.Proofs

/-- The parts of a text between bytes, the first one begun. -/
def splitG (c : UInt8) : List UInt8 → List UInt8 → List (List UInt8)
  | acc, [] => [acc]
  | acc, b :: r => if b = c then acc :: splitG c [] r else splitG c (acc ++ [b]) r

theorem splitG_hd (c : UInt8) : ∀ (s acc : List UInt8), ∃ r, splitG c acc s = (acc ++ hd c s) :: r ∧ (r = [] ↔ c ∉ s)
  | [], acc => ⟨[], by simp [splitG, hd], by simp⟩
  | b :: s, acc => by
    by_cases e : b = c
    · refine ⟨splitG c [] s, by simp [splitG, hd, e], ?_⟩
      obtain ⟨r, h1, _⟩ := splitG_hd c s []
      rw [h1]
      simp [e]
    · obtain ⟨r, h1, h2⟩ := splitG_hd c s (acc ++ [b])
      have e' : ¬ c = b := fun h => e h.symm
      exact ⟨r, by simp [splitG, hd, e, h1], by simp [h2, e']⟩

theorem splitG_len (c : UInt8) : ∀ (s acc : List UInt8), (splitG c acc s).length ≤ s.length + 1
  | [], acc => by simp [splitG]
  | b :: s, acc => by
    by_cases e : b = c
    · simp only [splitG, e, if_true, List.length_cons]; have := splitG_len c s []; omega
    · simp only [splitG, e, if_false, List.length_cons]; have := splitG_len c s (acc ++ [b]); omega

theorem cut_nat (s : List UInt8) (j k : Nat) : cut s (j : Int) (k : Int) = (s.take k).drop j := rfl

theorem cut_next (s : List UInt8) (j k : Nat) (hj : j ≤ k) (hk : k < s.length) : (s.take (k + 1)).drop j = (s.take k).drop j ++ [s[k]] := by
  rw [List.take_add_one, List.getElem?_eq_getElem hk]
  simp only [Option.toList_some]
  rw [List.drop_append_of_le_length (by simp; omega)]

theorem l_split (s : List UInt8) (c : UInt8) (hs : Small s) : ∀ (d k m j : Nat) (out : List (List UInt8)), s.length = k + d → d < m → j ≤ k → out.length ≤ k → l_spec_l1Split_4 m s (c.toNat : Int) out (j : Int) (k : Int) = some (out ++ splitG c ((s.take k).drop j) (s.drop k), ())
  | d, k, 0, j, out, hk, hm, hj, ho => by omega
  | d, k, m + 1, j, out, hk, hm, hj, ho => by
    unfold Small at hs
    rw [q_spec_l1Split_4]
    by_cases hlt : k < s.length
    · rw [ltT hlt, inB_at hlt, byteAt_at s k hlt, succI k (by omega), cut_nat]
      have ec : decide ((s[k].toNat : Int) = (c.toNat : Int)) = decide (s[k] = c) := by
        rw [Bool.eq_iff_iff]
        simp only [decide_eq_true_eq]
        constructor
        · intro h; exact UInt8.toNat_inj.1 (by omega)
        · intro h; rw [h]
      rw [ec, decide_eq_true (p := (0 : Int) ≤ (j : Int)) (by omega), decide_eq_true (p := (j : Int) ≤ (k : Int)) (by omega), decide_eq_true (p := (k : Int) ≤ (s.length : Int)) (by omega)]
      simp only [cond_true, Bool.and_self]
      rw [drop_at s k hlt]
      by_cases e : s[k] = c
      · rw [decide_eq_true e]
        simp only [cond_true]
        rw [decide_eq_true (p := (out.length + ([(s.take k).drop j] : List (List UInt8)).length) * 16 ≤ 140737488355328) (by simp; omega), decide_eq_true (p := out.length + ([(s.take k).drop j] : List (List UInt8)).length ≤ 140737488355328) (by simp; omega)]
        simp only [Bool.and_self, cond_true]
        rw [l_split s c hs (d - 1) (k + 1) m (k + 1) _ (by omega) (by omega) (by omega) (by simp; omega)]
        have : (s.take (k + 1)).drop (k + 1) = [] := List.drop_eq_nil_of_le (by simp; omega)
        rw [this]
        simp [splitG, e]
      · rw [decide_eq_false e]
        simp only [cond_false]
        rw [l_split s c hs (d - 1) (k + 1) m j _ (by omega) (by omega) (by omega) (by omega), cut_next s j k hj hlt]
        simp [splitG, e]
    · rw [ltF hlt, List.drop_eq_nil_of_le (by omega : s.length ≤ k), cut_nat s j s.length]
      have hks : k = s.length := by omega
      rw [decide_eq_true (p := (0 : Int) ≤ (j : Int)) (by omega), decide_eq_true (p := (j : Int) ≤ (s.length : Int)) (by omega), decide_eq_true (p := (s.length : Int) ≤ (s.length : Int)) (by omega)]
      rw [decide_eq_true (p := (out.length + ([(s.take s.length).drop j] : List (List UInt8)).length) * 16 ≤ 140737488355328) (by simp; omega), decide_eq_true (p := out.length + ([(s.take s.length).drop j] : List (List UInt8)).length ≤ 140737488355328) (by simp; omega)]
      simp [splitG, hks]

theorem f_split (c : UInt8) (s : List UInt8) (hs : Small s) : P_spec_l1Split (s, (c.toNat : Int), ()) = some (splitG c [] s, ()) := by
  have := l_split s c hs s.length 0 N 0 [] (by simp) (by unfold Small at hs; have := N_ge; omega) (by omega) (by simp)
  rw [p_spec_l1Split]
  simpa using this

theorem nth0 (t : Ty) (a : t.den) (r : List t.den) : nth t (a :: r) 0 = a := rfl
theorem inB0 {α : Type} (a : α) (r : List α) : inB 0 (a :: r).length = true := by simp [inB]

/-! ### Decoding -/
theorem dec_parts {k : Nat} {s : List UInt8} {e : LRec} (h : dec k s = some e) : okRec e = true ∧ s = sealB (textB k e) ∧ hd 35 s = textB k e ∧ (10 : UInt8) ∉ s := by
  obtain ⟨h1, h2⟩ := dec_iff.1 h
  have h3 : s = sealB (textB k e) := (List.append_cancel_right h2).symm
  refine ⟨h1, h3, ?_, ?_⟩
  · rw [h3]; exact hd_seal h1
  · rw [h3]; exact seal_10 h1

/-- What the reference reads of a line. -/
def decS (k : Nat) (s : List UInt8) : LRec × Bool :=
  let t := hd 35 s
  let ahead := Lib.decDigits k ++ [32]
  if t.length < ahead.length then (([], [], ()), false)
  else if t.take ahead.length ≠ ahead then (([], [], ()), false)
  else
    let rest := t.drop ahead.length
    if (hd 64 rest).length = rest.length then (([], [], ()), false)
    else
      let e : LRec := (hd 64 rest, rest.drop ((hd 64 rest).length + 1), ())
      (e, okRec e && decide (lineB k e = s ++ [10]))

theorem decS_dec (k : Nat) (s : List UInt8) : (decS k s).2 = (dec k s).isSome ∧ ∀ e, dec k s = some e → (decS k s).1 = e := by
  cases hdec : dec k s with
  | none =>
    refine ⟨?_, fun e h => by cases h⟩
    rw [dec_none] at hdec
    unfold decS
    dsimp only
    split
    · rfl
    · split
      · rfl
      · split
        · rfl
        · simp only [Option.isSome_none, Bool.and_eq_false_iff, decide_eq_false_iff_not]
          generalize hE : ((hd 64 ((hd 35 s).drop (Lib.decDigits k ++ [32]).length), ((hd 35 s).drop (Lib.decDigits k ++ [32]).length).drop ((hd 64 ((hd 35 s).drop (Lib.decDigits k ++ [32]).length)).length + 1), ()) : LRec) = E
          cases ho : okRec E with
          | false => exact .inl rfl
          | true => exact .inr (hdec E ho)
  | some e =>
    obtain ⟨h1, h2, h3, h4⟩ := dec_parts hdec
    have h5 := (dec_iff.1 hdec).2
    have ht : hd 35 s = (Lib.decDigits k ++ [32]) ++ (e.1 ++ 64 :: e.2.1) := by rw [h3]; simp [textB]
    have hrest : (hd 35 s).drop (Lib.decDigits k ++ [32]).length = e.1 ++ 64 :: e.2.1 := by rw [ht]; exact List.drop_left
    have htake : (hd 35 s).take (Lib.decDigits k ++ [32]).length = Lib.decDigits k ++ [32] := by rw [ht]; exact List.take_left
    have hlen : ¬ (hd 35 s).length < (Lib.decDigits k ++ [32]).length := by
      rw [ht]; simp only [List.length_append]; omega
    have hask : hd 64 (e.1 ++ 64 :: e.2.1) = e.1 := hd_app _ (ask_64 h1)
    have hdr : (e.1 ++ 64 :: e.2.1).drop (e.1.length + 1) = e.2.1 := by
      have : e.1 ++ 64 :: e.2.1 = (e.1 ++ [64]) ++ e.2.1 := by simp
      rw [this]
      exact List.drop_left' (by simp)
    have hne : ¬ e.1.length = (e.1 ++ 64 :: e.2.1).length := by simp only [List.length_append, List.length_cons]; omega
    have key : decS k s = (e, true) := by
      unfold decS
      dsimp only
      rw [if_neg hlen, htake, if_neg (by simp), hrest, hask, if_neg hne, hdr]
      have he : ((e.1, e.2.1, ()) : LRec) = e := rfl
      rw [he, h1, h5]
      simp
    rw [key]
    exact ⟨rfl, fun e' h => Option.some.inj h⟩

theorem f_decS (s : List UInt8) (k : Nat) (hs : Small s) (hk : k < 1000) : P_spec_l12Decode (s, (k : Int), ()) = some ((decS k s).1, (decS k s).2, ()) := by
  have hdl := dec_len 5 k (by omega)
  have hl := hd_len 35 s
  have hs' := hs
  unfold Small at hs'
  obtain ⟨r1, g1, _⟩ := splitG_hd 35 s []
  rw [p_spec_l12Decode, f_num k (by omega)]
  simp only [Option.bind_some]
  rw [cat_ok (by omega) (by simp)]
  simp only [Option.bind_some]
  have hsp : P_spec_l1Split (s, 35, ()) = some (splitG 35 [] s, ()) := f_split 35 s hs
  rw [hsp, g1]
  simp only [Option.bind_some, List.nil_append, inB0, cond_true]
  have n0 : nth (.str : Ty) (hd 35 s :: r1) 0 = hd 35 s := rfl
  simp only [n0]
  unfold decS
  dsimp only
  generalize hT : hd 35 s = t at *
  generalize hA : Lib.decDigits k ++ [32] = ahead at *
  have hal : ahead.length ≤ 7 := by rw [← hA]; simp; omega
  by_cases c1 : t.length < ahead.length
  · rw [if_pos c1, decide_eq_true (by omega)]
    rfl
  · rw [if_neg c1, decide_eq_false (by omega)]
    simp only [cond_false]
    rw [decide_eq_true (p := (0 : Int) ≤ 0) (by omega), decide_eq_true (p := (0 : Int) ≤ (ahead.length : Int)) (by omega), decide_eq_true (p := (ahead.length : Int) ≤ (t.length : Int)) (by omega), decide_eq_true (p := (t.length : Int) ≤ (t.length : Int)) (by omega)]
    simp only [Bool.and_self, cond_true]
    have ce : cut t 0 (ahead.length : Int) = t.take ahead.length := rfl
    have ce2 : cut t (ahead.length : Int) (t.length : Int) = t.drop ahead.length := by
      show (t.take t.length).drop ahead.length = _
      rw [List.take_length]
    rw [ce, ce2]
    by_cases c2 : t.take ahead.length = ahead
    · have b2 : (t.take ahead.length == ahead) = true := by rw [beq_iff_eq]; exact c2
      rw [b2, if_neg (by simp [c2])]
      simp only [Bool.not_true, cond_false]
      generalize hR : t.drop ahead.length = rest
      have hrl : rest.length ≤ t.length := by rw [← hR]; simp
      have hsp2 : P_spec_l1Split (rest, 64, ()) = some (splitG 64 [] rest, ()) := f_split 64 rest (by unfold Small; omega)
      obtain ⟨r2, g2, _⟩ := splitG_hd 64 rest []
      rw [hsp2, g2]
      simp only [Option.bind_some, List.nil_append, inB0, cond_true]
      have n1 : nth (.str : Ty) (hd 64 rest :: r2) 0 = hd 64 rest := rfl
      simp only [n1]
      have hl2 := hd_len 64 rest
      by_cases c3 : (hd 64 rest).length = rest.length
      · rw [if_pos c3, decide_eq_true (by omega)]
        rfl
      · rw [if_neg c3, decide_eq_false (p := ((hd 64 rest).length : Int) = (rest.length : Int)) (by omega)]
        have e1 : IntKind.wrap .i64 (((hd 64 rest).length : Int) + 1) = (((hd 64 rest).length + 1 : Nat) : Int) := by rw [w64 (by omega) (by omega)]; omega
        rw [e1, decide_eq_true (p := (0 : Int) ≤ (((hd 64 rest).length + 1 : Nat) : Int)) (by omega), decide_eq_true (p := (((hd 64 rest).length + 1 : Nat) : Int) ≤ (rest.length : Int)) (by omega), decide_eq_true (p := (rest.length : Int) ≤ (rest.length : Int)) (by omega)]
        simp only [Bool.and_self, cond_true, cond_false]
        have ce3 : cut rest (((hd 64 rest).length + 1 : Nat) : Int) (rest.length : Int) = rest.drop ((hd 64 rest).length + 1) := by
          show (rest.take rest.length).drop ((hd 64 rest).length + 1) = _
          rw [List.take_length]
        rw [ce3]
        generalize hE : ((hd 64 rest, rest.drop ((hd 64 rest).length + 1), ()) : D_LogRecord) = E
        have hE1 : Small E.1 := by rw [← hE]; unfold Small; show (hd 64 rest).length ≤ _; omega
        have hE2 : Small E.2.1 := by rw [← hE]; unfold Small; show (rest.drop _).length ≤ _; rw [List.length_drop]; omega
        rw [f_specRecord E hE1 hE2, ok_same]
        simp only [Option.bind_some]
        cases ho : okRec E with
        | false => rfl
        | true =>
          simp only [cond_true]
          rw [f_line k (by omega) E ho]
          simp only [Option.bind_some]
          rw [cat_ok (by omega) (by simp)]
          simp only [Option.bind_some, Bool.true_and]
          have eb : (lineB k E == s ++ [10]) = decide (lineB k E = s ++ [10]) := by
            rw [Bool.eq_iff_iff, beq_iff_eq, decide_eq_true_eq]
          rw [eb]
    · have b2 : (t.take ahead.length == ahead) = false := by simp [c2]
      rw [b2, if_pos c2]
      rfl

/-- What the program reads of a line. -/
def decI (s : List UInt8) : LRec := (hd 64 (cut2 32 (verB s)), cut2 64 (cut2 32 (verB s)), ())

theorem decI_dec {k : Nat} (hk : k < 60) {s : List UInt8} {e : LRec} (h : dec k s = some e) : decI s = e := by
  obtain ⟨h1, h2, h3, h4⟩ := dec_parts h
  have hsl := seal_len (textB k e)
  have htl := text_len (k := k) (by omega) h1
  have hv : verB s = textB k e := by
    unfold verB
    rw [h3, if_pos ⟨by omega, by omega, h2.symm⟩]
  have h32 : (32 : UInt8) ∉ Lib.decDigits k := dec_not _ _ (by decide)
  have hc : cut2 32 (textB k e) = e.1 ++ 64 :: e.2.1 := by
    unfold cut2
    rw [if_pos (by simp [textB])]
    unfold textB
    rw [hd_app _ h32]
    have : Lib.decDigits k ++ 32 :: (e.1 ++ 64 :: e.2.1) = (Lib.decDigits k ++ [32]) ++ (e.1 ++ 64 :: e.2.1) := by simp
    rw [this]
    exact List.drop_left' (by simp)
  have hc2 : cut2 64 (e.1 ++ 64 :: e.2.1) = e.2.1 := by
    unfold cut2
    rw [if_pos (by simp), hd_app _ (ask_64 h1)]
    have : e.1 ++ 64 :: e.2.1 = (e.1 ++ [64]) ++ e.2.1 := by simp
    rw [this]
    exact List.drop_left' (by simp)
  unfold decI
  rw [hv, hc, hc2, hd_app _ (ask_64 h1)]

theorem cut2_len (c : UInt8) (s : List UInt8) : (cut2 c s).length ≤ s.length := by
  unfold cut2; split <;> simp
theorem verB_len (s : List UInt8) : (verB s).length ≤ s.length := by
  unfold verB; have := hd_len 35 s; split
  · exact this
  · simp

/-! ### Reading -/
theorem l_open (s : List UInt8) (hs : Small s) : ∀ (f m at' : Nat) (p : List D_LogRecord), p.length + f = 60 → f < m → at' ≤ s.length →
    l_spec_l12Open_3 m s p (at' : Int) = some (p ++ recs (rd f p.length (s.drop at')), ((at' + tot (rd f p.length (s.drop at')) : Nat) : Int), ())
  | f, 0, _, p, _, hm, _ => by omega
  | f, m + 1, a, p, hp, hm, ha => by
    have hs' := hs
    unfold Small at hs'
    rw [q_spec_l12Open_3]
    by_cases c1 : a < s.length
    · rw [ltT c1]
      simp only [cond_true]
      cases f with
      | zero =>
        rw [decide_eq_false (by omega)]
        simp [rd, recs, tot]
      | succ f =>
        rw [decide_eq_true (p := (p.length : Int) < 60) (by omega), decide_eq_true (p := (0 : Int) ≤ (a : Int)) (by omega), decide_eq_true (p := (a : Int) ≤ (s.length : Int)) (by omega), decide_eq_true (p := (s.length : Int) ≤ (s.length : Int)) (by omega)]
        simp only [Bool.and_self, cond_true]
        have ce : cut s (a : Int) (s.length : Int) = s.drop a := by
          show (s.take s.length).drop a = _
          rw [List.take_length]
        rw [ce]
        generalize hR : s.drop a = R
        have hrl : R.length = s.length - a := by rw [← hR]; simp
        have hsp : P_spec_l1Split (R, 10, ()) = some (splitG 10 [] R, ()) := f_split 10 R (by unfold Small; omega)
        obtain ⟨r1, g1, g2⟩ := splitG_hd 10 R []
        rw [hsp, g1]
        simp only [Option.bind_some, List.nil_append, inB0, cond_true]
        have n0 : nth (.str : Ty) (hd 10 R :: r1) 0 = hd 10 R := rfl
        simp only [n0]
        have hl := hd_len 10 R
        rw [f_decS (hd 10 R) p.length (by unfold Small; omega) (by omega)]
        simp only [Option.bind_some]
        obtain ⟨d1, d2⟩ := decS_dec p.length (hd 10 R)
        rw [rd]
        by_cases hm10 : (10 : UInt8) ∈ R
        · rw [if_pos hm10]
          have hr1 : r1 ≠ [] := fun h => g2.1 h hm10
          have hr2 : ¬ (((hd 10 R :: r1).length : Nat) : Int) < 2 := by
            cases r1 with
            | nil => exact absurd rfl hr1
            | cons x y => simp only [List.length_cons]; omega
          rw [decide_eq_false hr2, d1]
          cases hdec : dec p.length (hd 10 R) with
          | none => simp [recs, tot]
          | some e =>
            have he := d2 e hdec
            rw [he]
            have hle := hd_le 10 R hm10
            simp only [Option.isSome_some, Bool.not_true, cond_false]
            rw [decide_eq_true (p := (p.length + ([e] : List D_LogRecord).length) * 32 ≤ 140737488355328) (by simp; omega), decide_eq_true (p := p.length + ([e] : List D_LogRecord).length ≤ 140737488355328) (by simp; omega)]
            simp only [Bool.and_self, cond_true]
            have e1 : IntKind.wrap .i64 (IntKind.wrap .i64 ((a : Int) + ((hd 10 R).length : Int)) + 1) = ((a + ((hd 10 R).length + 1) : Nat) : Int) := by
              rw [w64 (x := (a : Int) + ((hd 10 R).length : Int)) (by omega) (by omega), w64 (by omega) (by omega)]; omega
            rw [e1, l_open s hs f m (a + ((hd 10 R).length + 1)) (p ++ [e]) (by simp; omega) (by omega) (by omega)]
            have ed : s.drop (a + ((hd 10 R).length + 1)) = R.drop ((hd 10 R).length + 1) := by rw [← hR, List.drop_drop]
            have el : (p ++ [e]).length = p.length + 1 := by simp
            rw [ed, el]
            simp only [recs, tot, List.map_cons, List.append_assoc, List.singleton_append]
            congr 3
            omega
        · rw [if_neg hm10]
          have hr1 : r1 = [] := g2.2 hm10
          rw [hr1]
          simp [recs, tot]
    · rw [ltF c1, List.drop_eq_nil_of_le (by omega)]
      have : rd f p.length [] = [] := by cases f <;> simp [rd]
      rw [this]
      simp [recs, tot]

/-- All that is read. -/
noncomputable def rdAll (s : List UInt8) : List (LRec × Nat) := rd 60 0 s

theorem f_open (s : List UInt8) (hs : Small s) : P_spec_l12Open (s, ()) = some (recs (rdAll s), ((tot (rdAll s) : Nat) : Int), ()) := by
  have := l_open s hs 60 N 0 [] (by simp) (by have := N_ge; omega) (by omega)
  rw [p_spec_l12Open]
  simpa [rdAll] using this

theorem l_read (s : List UInt8) (hs : Small s) : ∀ (f m a : Nat) (p : List D_LogRecord) (q : List Int), p.length + f = 60 → f < m → a ≤ s.length → q.length = p.length →
    l_impl_readRecords_2 m s p (q ++ [(a : Int)]) (a : Int) = some (p ++ recs (rd f p.length (s.drop a)), q ++ (ends a (rd f p.length (s.drop a))).map (fun (n : Nat) => (n : Int)), ())
  | f, 0, _, p, q, _, hm, _, _ => by omega
  | f, m + 1, a, p, q, hp, hm, ha, hq => by
    have hs' := hs
    unfold Small at hs'
    rw [q_impl_readRecords_2]
    cases f with
    | zero =>
      rw [decide_eq_false (by omega)]
      simp [rd, recs, ends]
    | succ f =>
      rw [decide_eq_true (p := (p.length : Int) < 60) (by omega), decide_eq_true (p := (0 : Int) ≤ (a : Int)) (by omega), decide_eq_true (p := (a : Int) ≤ (s.length : Int)) (by omega), decide_eq_true (p := (s.length : Int) ≤ (s.length : Int)) (by omega)]
      simp only [Bool.and_self, cond_true]
      have ce : cut s (a : Int) (s.length : Int) = s.drop a := by
        show (s.take s.length).drop a = _
        rw [List.take_length]
      rw [ce]
      generalize hR : s.drop a = R
      have hrl : R.length = s.length - a := by rw [← hR]; simp
      rw [f_cut 10 R (by unfold Small; omega)]
      simp only [Option.bind_some]
      rw [rd]
      by_cases hm10 : (10 : UInt8) ∈ R
      · rw [if_pos hm10, decide_eq_true hm10]
        simp only [Bool.not_true, cond_false]
        have hl := hd_len 10 R
        have hle := hd_le 10 R hm10
        obtain ⟨b, hb⟩ := f_verify (hd 10 R) (by unfold Small; omega)
        have v1 := verB_len (hd 10 R)
        have v2 := cut2_len 32 (verB (hd 10 R))
        have v3 := cut2_len 64 (cut2 32 (verB (hd 10 R)))
        have v4 := hd_len 64 (cut2 32 (verB (hd 10 R)))
        rw [hb]
        simp only [Option.bind_some]
        rw [f_cut 32 _ (by unfold Small; omega)]
        simp only [Option.bind_some]
        rw [f_cut 64 _ (by unfold Small; omega)]
        simp only [Option.bind_some]
        have eI : ((hd 64 (cut2 32 (verB (hd 10 R))), cut2 64 (cut2 32 (verB (hd 10 R))), ()) : D_LogRecord) = decI (hd 10 R) := rfl
        rw [eI, f_encI _ _ (by unfold Small decI; show (hd 64 (cut2 32 (verB (hd 10 R)))).length ≤ _; omega) (by unfold Small decI; show (cut2 64 (cut2 32 (verB (hd 10 R)))).length ≤ _; omega)]
        simp only [Option.bind_some]
        unfold encB
        rw [decide_eq_true (p := (0 : Int) ≤ (p.length : Int)) (by omega), decide_eq_true (p := (p.length : Int) ≤ 59) (by omega)]
        simp only [Bool.and_self, Bool.true_and, Int.toNat_natCast]
        cases ho : okRec (decI (hd 10 R)) with
        | false =>
          have hn : dec p.length (hd 10 R) = none := by
            cases hx : dec p.length (hd 10 R) with
            | none => rfl
            | some e =>
              have := decI_dec (by omega) hx
              rw [this, (dec_parts hx).1] at ho
              cases ho
          rw [hn]
          simp [recs, ends]
        | true =>
          simp only [cond_true, Bool.not_true, cond_false]
          rw [cat_ok (by omega) (by simp)]
          simp only [Option.bind_some]
          by_cases hq2 : lineB p.length (decI (hd 10 R)) = hd 10 R ++ [10]
          · have hx : dec p.length (hd 10 R) = some (decI (hd 10 R)) := dec_iff.2 ⟨ho, hq2⟩
            have eb : (lineB p.length (decI (hd 10 R)) == hd 10 R ++ [10]) = true := by rw [beq_iff_eq]; exact hq2
            rw [hx, eb]
            simp only [Bool.not_true, cond_false]
            generalize decI (hd 10 R) = e
            have e1 : IntKind.wrap .i64 ((a : Int) + IntKind.wrap .i64 (((hd 10 R).length : Int) + 1)) = ((a + ((hd 10 R).length + 1) : Nat) : Int) := by
              rw [w64 (x := ((hd 10 R).length : Int) + 1) (by omega) (by omega), w64 (by omega) (by omega)]; omega
            rw [e1, decide_eq_true (p := (p.length + ([e] : List D_LogRecord).length) * 32 ≤ 140737488355328) (by simp; omega), decide_eq_true (p := p.length + ([e] : List D_LogRecord).length ≤ 140737488355328) (by simp; omega)]
            rw [decide_eq_true (p := ((q ++ [(a : Int)]).length + ([((a + ((hd 10 R).length + 1) : Nat) : Int)] : List Int).length) * 8 ≤ 140737488355328) (by simp; omega), decide_eq_true (p := (q ++ [(a : Int)]).length + ([((a + ((hd 10 R).length + 1) : Nat) : Int)] : List Int).length ≤ 140737488355328) (by simp; omega)]
            simp only [Bool.and_self, cond_true]
            rw [l_read s hs f m (a + ((hd 10 R).length + 1)) (p ++ [e]) (q ++ [(a : Int)]) (by simp; omega) (by omega) (by omega) (by simp; omega)]
            have ed : s.drop (a + ((hd 10 R).length + 1)) = R.drop ((hd 10 R).length + 1) := by rw [← hR, List.drop_drop]
            have el : (p ++ [e]).length = p.length + 1 := by simp
            rw [ed, el]
            simp [recs, ends]
          · have hn : dec p.length (hd 10 R) = none := by
              cases hx : dec p.length (hd 10 R) with
              | none => rfl
              | some e =>
                have h1 := decI_dec (by omega) hx
                rw [h1] at hq2
                exact absurd (dec_iff.1 hx).2 hq2
            have eb : (lineB p.length (decI (hd 10 R)) == hd 10 R ++ [10]) = false := by simp [hq2]
            rw [hn, eb]
            simp [recs, ends]
      · rw [if_neg hm10, decide_eq_false hm10]
        simp [recs, ends]

theorem f_read (s : List UInt8) (hs : Small s) : P_impl_readRecords (s, ()) = some (recs (rdAll s), (ends 0 (rdAll s)).map (fun (n : Nat) => (n : Int)), ()) := by
  have := l_read s hs 60 N 0 [] [] (by simp) (by have := N_ge; omega) (by omega) rfl
  rw [p_impl_readRecords]
  simpa [rdAll] using this
end Go.VI
