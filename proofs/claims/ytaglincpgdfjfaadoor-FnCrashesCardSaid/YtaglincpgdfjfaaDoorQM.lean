/- Plain: what the walks of the log's functions compute. -/
import Derived.Test.YtaglincpgdfjfaaDoorQAd
import Derived.Test.YtaglincpgdfjfaaDoorQL
namespace Go.VI
open Go.Proofs

theorem ok_same (e : D_LogRecord) : okRecord e = okRec e := rfl

theorem cat_ok {a b : List UInt8} (ha : a.length ≤ 1000000000) (hb : b.length ≤ 1000000000) : catS a b = some (a ++ b) := by
  rw [catS_eq, decide_eq_true (by omega)]; rfl

theorem cut_digit' : ∀ u : Fin 10, cut ([48, 49, 50, 51, 52, 53, 54, 55, 56, 57] : List UInt8) (u.val : Int) ((u.val + 1 : Nat) : Int) = [UInt8.ofNat (48 + u.val)] := by decide
theorem cut_digit (u : Nat) (h : u < 10) : cut ([48, 49, 50, 51, 52, 53, 54, 55, 56, 57] : List UInt8) (u : Int) ((u + 1 : Nat) : Int) = [UInt8.ofNat (48 + u)] := cut_digit' ⟨u, h⟩

theorem k_num : ∀ (k m u : Nat), u < 10 ^ m → m ≤ 18 → m < k → Pk_spec_l1Num k ((u : Int), ()) = some (Lib.decDigits u, ())
  | 0, m, u, _, _, h => by omega
  | k + 1, m, u, hu, hm, hk => by
    have hb : u < 10 ^ 18 := Nat.lt_of_lt_of_le hu (Nat.pow_le_pow_right (by decide) hm)
    rw [p_spec_l1Num, decide_eq_false (p := (u : Int) < 0) (by omega)]
    simp only [cond_false]
    by_cases h10 : u < 10
    · have e1 : IntKind.wrap .i64 ((u : Int) + 1) = ((u + 1 : Nat) : Int) := by rw [w64 (by omega) (by omega)]; omega
      rw [decide_eq_true (p := (u : Int) < 10) (by omega), e1, decide_eq_true (p := (0 : Int) ≤ (u : Int)) (by omega), decide_eq_true (p := (u : Int) ≤ ((u + 1 : Nat) : Int)) (by omega), decide_eq_true (p := ((u + 1 : Nat) : Int) ≤ 10) (by omega), cut_digit u h10, Lib.decDigits, dif_pos h10]
      rfl
    · match m, hu, hm, hk with
      | 0, hu, _, _ => simp at hu; omega
      | m + 1, hu, hm, hk =>
        have ih := k_num k m (u / 10) (by rw [Nat.pow_succ] at hu; omega) (by omega) (by omega)
        have e0 : Int.tdiv (u : Int) 10 = ((u / 10 : Nat) : Int) := by rw [Int.tdiv_eq_ediv_of_nonneg (by omega)]; omega
        have e2 : Int.tmod (u : Int) 10 = ((u % 10 : Nat) : Int) := by rw [Int.tmod_eq_emod_of_nonneg (by omega)]; omega
        have e1 : IntKind.wrap .i64 (((u % 10 : Nat) : Int) + 1) = ((u % 10 + 1 : Nat) : Int) := by rw [w64 (by omega) (by omega)]; omega
        have hl := dec_len 17 (u / 10) (by omega)
        rw [decide_eq_false (p := (u : Int) < 10) (by omega), e0, e2, w64 (x := ((u / 10 : Nat) : Int)) (by omega) (by omega), ih, e1, decide_eq_true (p := (0 : Int) ≤ ((u % 10 : Nat) : Int)) (by omega), decide_eq_true (p := ((u % 10 : Nat) : Int) ≤ ((u % 10 + 1 : Nat) : Int)) (by omega), decide_eq_true (p := ((u % 10 + 1 : Nat) : Int) ≤ 10) (by omega), cut_digit (u % 10) (by omega), Lib.decDigits.eq_def u, dif_neg h10]
        simp only [cond_false, Option.bind_some, Bool.and_self, cond_true]
        rw [cat_ok (by omega) (by simp)]
        rfl

theorem f_num (u : Nat) (h : u < 1000000) : P_spec_l1Num ((u : Int), ()) = some (Lib.decDigits u, ()) :=
  k_num N 6 u (by omega) (by omega) (by have := N_ge; omega)

theorem sum_step (h : Nat) (b : UInt8) (hh : h < 999979) : Int.tmod (IntKind.wrap .i64 ((IntKind.wrap .i64 ((IntKind.wrap .i64 (41 * (h : Int))) + (IntKind.wrap .i64 (b.toNat : Int)))) + 1)) 999979 = (((41 * h + b.toNat + 1) % 999979 : Nat) : Int) := by
  have hb : b.toNat < 256 := b.toNat_lt
  rw [w64 (x := 41 * (h : Int)) (by omega) (by omega), w64 (x := (b.toNat : Int)) (by omega) (by omega), w64 (x := 41 * (h : Int) + (b.toNat : Int)) (by omega) (by omega), w64 (x := 41 * (h : Int) + (b.toNat : Int) + 1) (by omega) (by omega), Int.tmod_eq_emod_of_nonneg (by omega)]
  omega

theorem sumFrom_cons (h : Nat) (b : UInt8) (s : List UInt8) : sumFrom h (b :: s) = sumFrom ((41 * h + b.toNat + 1) % 999979) s := rfl

theorem l_sumS (s : List UInt8) (hs : Small s) : ∀ (d k m h : Nat), s.length = k + d → d < m → h < 999979 → l_spec_l1Sum_3 m s (h : Int) (k : Int) = some ((sumFrom h (s.drop k) : Int), ())
  | d, k, 0, h, hk, hm, hh => by omega
  | d, k, m + 1, h, hk, hm, hh => by
    unfold Small at hs
    rw [q_spec_l1Sum_3]
    by_cases hlt : k < s.length
    · rw [ltT hlt, inB_at hlt, byteAt_at s k hlt, succI k (by omega), sum_step h _ hh, l_sumS s hs (d - 1) (k + 1) m _ (by omega) (by omega) (Nat.mod_lt _ (by decide)), drop_at s k hlt, sumFrom_cons]
      rfl
    · rw [ltF hlt, List.drop_eq_nil_of_le (by omega)]
      rfl

theorem f_sumS (s : List UInt8) (hs : Small s) : P_spec_l1Sum (s, ()) = some ((sumB s : Int), ()) := by
  have := l_sumS s hs s.length 0 N 7 (by simp) (by unfold Small at hs; have := N_ge; omega) (by decide)
  rw [p_spec_l1Sum]
  simpa [sumB] using this

theorem l_sumI (s : List UInt8) (hs : Small s) : ∀ (d k m h : Nat), s.length = k + d → d < m → h < 999979 → l_impl_checksum_3 m s (h : Int) (s.length : Int) (k : Int) = some ((sumFrom h (s.drop k) : Int), ())
  | d, k, 0, h, hk, hm, hh => by omega
  | d, k, m + 1, h, hk, hm, hh => by
    unfold Small at hs
    rw [q_impl_checksum_3]
    by_cases hlt : k < s.length
    · rw [ltT hlt, inB_at hlt, byteAt_at s k hlt, succI k (by omega), sum_step h _ hh, l_sumI s hs (d - 1) (k + 1) m _ (by omega) (by omega) (Nat.mod_lt _ (by decide)), drop_at s k hlt, sumFrom_cons]
      rfl
    · rw [ltF hlt, List.drop_eq_nil_of_le (by omega)]
      rfl

theorem f_sumI (s : List UInt8) (hs : Small s) : P_impl_checksum (s, ()) = some ((sumB s : Int), ()) := by
  have := l_sumI s hs s.length 0 N 7 (by simp) (by unfold Small at hs; have := N_ge; omega) (by decide)
  rw [p_impl_checksum]
  simpa [sumB] using this

theorem f_seal (s : List UInt8) (hs : Small s) : P_spec_l1Seal (s, ()) = some (sealB s, ()) := by
  have h1 := sumB_lt s
  have h2 := dec_len 5 (sumB s) (by omega)
  have hs' := hs
  unfold Small at hs'
  rw [p_spec_l1Seal, cat_ok (by omega) (by simp), f_sumS s hs]
  simp only [Option.bind_some]
  rw [f_num (sumB s) (by omega)]
  simp only [Option.bind_some]
  rw [cat_ok (by simp; omega) (by omega)]
  simp [sealB]

theorem f_line (k : Nat) (hk : k < 1000000) (e : D_LogRecord) (h : okRec e = true) : P_spec_l12Line ((k : Int), e, ()) = some (lineB k e, ()) := by
  have h1 := dec_len 5 k (by omega)
  have h2 := okRec_len h
  have ht : Small (textB k e) := by unfold Small textB; simp only [List.length_append, List.length_cons]; omega
  have hsl := seal_len (textB k e)
  unfold Small at ht
  rw [p_spec_l12Line, f_num k hk]
  simp only [Option.bind_some]
  rw [cat_ok (by omega) (by simp)]
  simp only [Option.bind_some]
  rw [cat_ok (by simp; omega) (by omega)]
  simp only [Option.bind_some]
  rw [cat_ok (by simp; omega) (by simp)]
  simp only [Option.bind_some]
  rw [cat_ok (by simp; omega) (by omega)]
  simp only [Option.bind_some]
  have et : Lib.decDigits k ++ [32] ++ e.1 ++ [64] ++ e.2.1 = textB k e := by simp [textB]
  rw [et, f_seal _ (by unfold Small; omega)]
  simp only [Option.bind_some]
  rw [cat_ok (by omega) (by simp)]
  rfl

theorem f_within (a b c : Int) : P_impl_within (a, b, c, ()) = some (decide (b ≤ a) && decide (a ≤ c), ()) := by
  rw [p_impl_within]
  by_cases h : a ≥ b <;> simp [h]

/-! ### Searching -/
theorem ixByte (c : UInt8) : ∀ s : List UInt8, Lib.indexByte s c = if c ∈ s then ((hd c s).length : Int) else -1
  | [] => by simp [Lib.indexByte]
  | b :: s => by
    rw [Lib.indexByte, ixByte c s]
    by_cases e : b = c
    · simp [e, hd]
    · have e' : ¬ c = b := fun h => e h.symm
      by_cases hm : c ∈ s
      · have : ¬ ((hd c s).length : Int) = -1 := by omega
        simp [e, e', hd, hm, this]
      · simp [e, e', hm]

theorem ixOne (c : UInt8) : ∀ s : List UInt8, Lib.index s [c] = if c ∈ s then ((hd c s).length : Int) else -1
  | [] => by simp [Lib.index]
  | b :: s => by
    rw [Lib.index, ixOne c s]
    by_cases e : b = c
    · simp [e, hd]
    · have e' : ¬ c = b := fun h => e h.symm
      by_cases hm : c ∈ s
      · have : ¬ ((hd c s).length : Int) = -1 := by omega
        simp [e, e', hd, hm, this]
      · simp [e, e', hm]

def cut2 (c : UInt8) (s : List UInt8) : List UInt8 := if c ∈ s then s.drop ((hd c s).length + 1) else []

theorem f_cut (c : UInt8) (s : List UInt8) (hs : Small s) : P_strings_Cut (s, [c], ()) = some (hd c s, cut2 c s, decide (c ∈ s), ()) := by
  unfold Small at hs
  show (bif decide (s.length < 4294967281) then some ((Lib.cut s [c]).1, (Lib.cut s [c]).2.1, (Lib.cut s [c]).2.2, ()) else none) = _
  rw [decide_eq_true (by omega), cond_true]
  unfold Lib.cut cut2
  rw [ixOne]
  by_cases hm : c ∈ s
  · have ht : s.take (hd c s).length = hd c s := by
      exact (congrArg (List.take (hd c s).length) (hd_split hm)).trans (by simp)
    simp [hm, ht]
  · simp [hm, hd_no hm]

theorem f_contains (c : UInt8) (s : List UInt8) : P_strings_Contains (s, [c], ()) = some (decide (c ∈ s), ()) := by
  show (bif decide (([c] : List UInt8).length = 1) then some (decide (0 ≤ Lib.indexByte s (([c] : List UInt8).headD 0)), ()) else none) = _
  simp only [List.length_cons, List.length_nil, Nat.zero_add, decide_true, cond_true, List.headD_cons, ixByte]
  by_cases hm : c ∈ s <;> simp [hm]

theorem f_itoa (u : Nat) (h : u < 1000000) : P_strconv_Itoa ((u : Int), ()) = some (Lib.decDigits u, ()) := by
  show (bif decide (-9223372036854775808 ≤ (u : Int)) && decide ((u : Int) ≤ 9223372036854775807) then some (Lib.itoa (u : Int), ()) else none) = _
  rw [decide_eq_true (by omega), decide_eq_true (by omega)]
  simp only [Bool.and_self, cond_true]
  unfold Lib.itoa
  rw [if_neg (by omega)]
  rfl

def appB (s : List UInt8) : List UInt8 × Bool × Unit := if s.length ≤ 4000 ∧ (35 : UInt8) ∉ s ∧ (sealB s).length ≤ 4000 then (sealB s, true, ()) else ([], false, ())

theorem f_append (s : List UInt8) (hs : Small s) : P_impl_AppendChecksum (s, ()) = some (appB s) := by
  unfold appB
  have hsl := seal_len s
  rw [p_impl_AppendChecksum]
  by_cases h1 : s.length ≤ 4000
  · rw [decide_eq_false (by omega)]
    simp only [cond_false]
    rw [f_contains]
    simp only [Option.bind_some]
    by_cases h2 : (35 : UInt8) ∈ s
    · simp [h2]
    · rw [cat_ok (by omega) (by simp), f_sumI s hs]
      simp only [Option.bind_some]
      have hlt := sumB_lt s
      have hdl := dec_len 5 (sumB s) (by omega)
      rw [f_itoa _ (by omega)]
      simp only [Option.bind_some]
      rw [cat_ok (by simp; omega) (by omega)]
      simp only [Option.bind_some]
      have e : s ++ [35] ++ Lib.decDigits (sumB s) = sealB s := by simp [sealB]
      rw [e]
      by_cases h3 : (sealB s).length ≤ 4000
      · rw [if_pos ⟨h1, h2, h3⟩, decide_eq_false h2, decide_eq_false (p := ((sealB s).length : Int) > 4000) (by omega)]
        rfl
      · rw [if_neg (fun h => h3 h.2.2), decide_eq_true (p := ((sealB s).length : Int) > 4000) (by omega), decide_eq_false h2]
        rfl
  · rw [decide_eq_true (by omega), if_neg (fun h => h1 h.1)]
    rfl

/-- What is verified of a line. -/
def verB (s : List UInt8) : List UInt8 := if (hd 35 s).length ≤ 4000 ∧ (sealB (hd 35 s)).length ≤ 4000 ∧ sealB (hd 35 s) = s then hd 35 s else []

theorem f_verify (s : List UInt8) (hs : Small s) : ∃ b, P_impl_VerifyChecksum (s, ()) = some (verB s, b, ()) := by
  have hl := hd_len 35 s
  have hs' := hs
  unfold Small at hs'
  rw [p_impl_VerifyChecksum, f_cut 35 s hs]
  simp only [Option.bind_some]
  rw [f_append _ (by unfold Small; omega)]
  simp only [Option.bind_some]
  unfold verB appB
  have hn := hd_not 35 s
  by_cases h1 : (hd 35 s).length ≤ 4000
  · by_cases h3 : (sealB (hd 35 s)).length ≤ 4000
    · rw [if_pos ⟨h1, hn, h3⟩]
      by_cases h4 : sealB (hd 35 s) = s
      · rw [if_pos ⟨h1, h3, h4⟩]
        have : (sealB (hd 35 s) == s) = true := by rw [h4]; simp
        simp only [Bool.not_true, cond_false, this]
        exact ⟨_, rfl⟩
      · rw [if_neg (fun h => h4 h.2.2)]
        have : (sealB (hd 35 s) == s) = false := by simp [h4]
        simp only [Bool.not_true, cond_false, this, Bool.not_false, cond_true]
        exact ⟨_, rfl⟩
    · rw [if_neg (fun h => h3 h.2.2), if_neg (fun h => h3 h.2.1)]
      exact ⟨_, rfl⟩
  · rw [if_neg (fun h => h1 h.1), if_neg (fun h => h1 h.1)]
    exact ⟨_, rfl⟩

def encB (k : Int) (e : D_LogRecord) : List UInt8 × Bool × Unit := bif (decide (0 ≤ k) && decide (k ≤ 59)) && okRec e then (lineB k.toNat e, true, ()) else ([], false, ())

theorem f_encS (k : Int) (e : D_LogRecord) (h1 : Small e.1) (h2 : Small e.2.1) : P_spec_EncodeRecord (k, e, ()) = some (encB k e) := by
  rw [p_spec_EncodeRecord, f_spec_l1In, f_specRecord e h1 h2, ok_same]
  simp only [Option.bind_some]
  unfold encB
  cases hk : decide (0 ≤ k) && decide (k ≤ 59) with
  | false => rfl
  | true =>
    cases ho : okRec e with
    | false => rfl
    | true =>
      simp only [Bool.and_eq_true, decide_eq_true_eq] at hk
      obtain ⟨n, rfl⟩ : ∃ n : Nat, k = n := ⟨k.toNat, by omega⟩
      rw [f_line n (by omega) e ho]
      rfl

theorem f_encI (k : Int) (e : D_LogRecord) (h1 : Small e.1) (h2 : Small e.2.1) : P_impl_EncodeRecord (k, e, ()) = some (encB k e) := by
  rw [p_impl_EncodeRecord, f_within, f_implRecord e h1 h2, ok_same]
  simp only [Option.bind_some]
  unfold encB
  cases hk : decide (0 ≤ k) && decide (k ≤ 59) with
  | false => rfl
  | true =>
    cases ho : okRec e with
    | false => rfl
    | true =>
      simp only [Bool.and_eq_true, decide_eq_true_eq] at hk
      obtain ⟨n, rfl⟩ : ∃ n : Nat, k = n := ⟨k.toNat, by omega⟩
      have h3 := dec_len 5 n (by omega)
      have h4 := okRec_len ho
      have ht := text_len (k := n) (by omega) ho
      have hsl := seal_len (textB n e)
      simp only [Bool.not_true, cond_false, Bool.and_self, cond_true, Int.toNat_natCast]
      rw [f_itoa n (by omega)]
      simp only [Option.bind_some]
      rw [cat_ok (by omega) (by simp)]
      simp only [Option.bind_some]
      rw [cat_ok (by simp; omega) (by omega)]
      simp only [Option.bind_some]
      rw [cat_ok (by simp; omega) (by simp)]
      simp only [Option.bind_some]
      rw [cat_ok (by simp; omega) (by omega)]
      simp only [Option.bind_some]
      have et : Lib.decDigits n ++ [32] ++ e.1 ++ [64] ++ e.2.1 = textB n e := by simp [textB]
      rw [et, f_append _ (by unfold Small; omega)]
      simp only [Option.bind_some]
      unfold appB
      rw [if_pos ⟨by omega, text_35 ho, by omega⟩]
      dsimp only
      rw [cat_ok (by omega) (by simp)]
      rfl
end Go.VI
