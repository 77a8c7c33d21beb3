/- Plain: valid records (the other seat). -/
import Derived.Test.YtaglincpgdfjfaaDoorG14
namespace Go.VI
open Go.Proofs

theorem w64 {x : Int} (h0 : -9223372036854775808 ≤ x) (h1 : x ≤ 9223372036854775807) : IntKind.wrap .i64 x = x := by rw [IntKind.wrap_i64]; omega
theorem inB_at {k n : Nat} (h : k < n) : inB (k : Int) n = true := by simp [inB]; omega
theorem ltT {k n : Nat} (h : k < n) : decide ((k : Int) < (n : Int)) = true := decide_eq_true (by omega)
theorem ltF {k n : Nat} (h : ¬ k < n) : decide ((k : Int) < (n : Int)) = false := decide_eq_false (by omega)
theorem succI (k : Nat) (h : k < 1000000000) : IntKind.wrap .i64 ((k : Int) + 1) = ((k + 1 : Nat) : Int) := by rw [w64 (by omega) (by omega)]; omega
theorem drop_at {α : Type} (s : List α) (k : Nat) (h : k < s.length) : s.drop k = s[k] :: s.drop (k + 1) := List.drop_eq_getElem_cons h
theorem byteAt_at (s : List UInt8) (k : Nat) (h : k < s.length) : byteAt s (k : Int) = (s[k].toNat : Int) := by simp [byteAt, List.getD, List.getElem?_eq_getElem h]
def Small {α : Type} (l : List α) : Prop := l.length ≤ 1048576

theorem f_spec_l1In (a b c : Int) : P_spec_l1In (a, b, c, ()) = some (decide (b ≤ a) && decide (a ≤ c), ()) := by
  rw [p_spec_l1In]
  by_cases h : a ≥ b <;> simp [h]

def okByte (b : UInt8) : Bool := decide (32 ≤ b.toNat) && decide (b.toNat ≤ 126)

theorem containsAny_any (chars : List UInt8) : ∀ s : List UInt8, Lib.containsAny s chars = s.any fun c => chars.contains c
  | [] => rfl
  | b :: l => by
    have ih := containsAny_any chars l
    have hge := Lib.indexAny_ge chars l
    unfold Lib.containsAny at *
    rw [List.any_cons, Lib.indexAny]
    cases hb : chars.contains b with
    | true => simp
    | false =>
      simp only [Bool.false_eq_true, if_false, Bool.false_or]
      rw [← ih]
      by_cases h : Lib.indexAny l chars = -1
      · simp [h]
      · simp only [beq_iff_eq, h, if_false]
        rw [decide_eq_true (by omega), decide_eq_true (by omega)]

theorem l_stands (s : List UInt8) (c : UInt8) (hs : Small s) : ∀ (d k m : Nat), s.length = k + d → d < m → l_spec_l1Stands_2 m s (c.toNat : Int) (k : Int) = some ((s.drop k).contains c, ())
  | d, k, 0, hk, hm => by omega
  | d, k, m + 1, hk, hm => by
    unfold Small at hs
    rw [q_spec_l1Stands_2]
    by_cases hlt : k < s.length
    · rw [ltT hlt, inB_at hlt, byteAt_at s k hlt, succI k (by omega), l_stands s c hs (d - 1) (k + 1) m (by omega) (by omega), drop_at s k hlt]
      have e35 : decide ((s[k].toNat : Int) = (c.toNat : Int)) = (c == s[k]) := by
        rw [Bool.eq_iff_iff]
        simp only [decide_eq_true_eq, beq_iff_eq]
        constructor
        · intro h; exact UInt8.toNat_inj.1 (by omega)
        · intro h; rw [h]
      simp only [cond_true, e35, List.contains_cons]
      cases (c == s[k]) <;> simp
    · rw [ltF hlt, List.drop_eq_nil_of_le (by omega)]
      simp

theorem f_stands (s : List UInt8) (c : UInt8) (hs : Small s) : P_spec_l1Stands (s, (c.toNat : Int), ()) = some (s.contains c, ()) := by
  have := l_stands s c hs s.length 0 N (by simp) (by unfold Small at hs; have := N_ge; omega)
  rw [p_spec_l1Stands]
  simpa using this

theorem l_bytes (s : List UInt8) (most : Int) (hs : Small s) : ∀ (d k m : Nat), s.length = k + d → d < m → l_spec_l12Bytes_2 m s most (k : Int) = some ((s.drop k).all (fun b => okByte b && !(b == 35)) && decide ((s.length : Int) ≤ most), ())
  | d, k, 0, hk, hm => by omega
  | d, k, m + 1, hk, hm => by
    unfold Small at hs
    rw [q_spec_l12Bytes_2]
    by_cases hlt : k < s.length
    · have hb : s[k].toNat < 256 := s[k].toNat_lt
      rw [ltT hlt, inB_at hlt, byteAt_at s k hlt, succI k (by omega), l_bytes s most hs (d - 1) (k + 1) m (by omega) (by omega), drop_at s k hlt, f_spec_l1In, w64 (by omega) (by omega)]
      have e35 : decide ((s[k].toNat : Int) = 35) = (s[k] == 35) := by
        rw [Bool.eq_iff_iff]
        simp only [decide_eq_true_eq, beq_iff_eq]
        constructor
        · intro h
          apply UInt8.toNat_inj.1
          show s[k].toNat = 35
          omega
        · intro h; rw [h]; rfl
      have ea : (decide ((32 : Int) ≤ (s[k].toNat : Int)) && decide ((s[k].toNat : Int) ≤ 126)) = okByte s[k] := by
        unfold okByte
        rw [Bool.eq_iff_iff]
        simp only [Bool.and_eq_true, decide_eq_true_eq]
        omega
      simp only [cond_true, Option.bind_some, e35, ea, List.all_cons]
      cases okByte s[k] <;> cases (s[k] == 35) <;> simp
    · rw [ltF hlt, List.drop_eq_nil_of_le (by omega)]
      simp

theorem f_bytes (s : List UInt8) (most : Int) (hs : Small s) : P_spec_l12Bytes (s, most, ()) = some (s.all (fun b => okByte b && !(b == 35)) && decide ((s.length : Int) ≤ most), ()) := by
  have := l_bytes s most hs s.length 0 N (by simp) (by unfold Small at hs; have := N_ge; omega)
  rw [p_spec_l12Bytes]
  simpa using this

theorem ascii_of {s : List UInt8} (hs : Small s) (h : s.all okByte = true) : ascii s = true := by
  unfold ascii
  rw [Bool.and_eq_true]
  refine ⟨decide_eq_true (by unfold Small at hs; omega), ?_⟩
  rw [List.all_eq_true] at h ⊢
  intro b hb
  have := h b hb
  unfold okByte at this
  simp only [Bool.and_eq_true, decide_eq_true_eq] at this
  exact decide_eq_true (by omega)

theorem l_plain (s : List UInt8) (most : Int) (stops : List UInt8) (hst : ascii stops = true) (hs : Small s) : ∀ (d k m : Nat), s.length = k + d → d < m → (s.take k).all okByte = true →
    l_impl_isPlain_2 m s most stops (s.length : Int) (k : Int) = some ((s.drop k).all okByte && decide ((s.length : Int) ≤ most) && !(s.any fun c => stops.contains c), ())
  | d, k, 0, hk, hm, ht => by omega
  | d, k, m + 1, hk, hm, ht => by
    have hs' := hs
    unfold Small at hs'
    rw [q_impl_isPlain_2]
    by_cases hlt : k < s.length
    · rw [ltT hlt, inB_at hlt, byteAt_at s k hlt, succI k (by omega), drop_at s k hlt]
      simp only [cond_true, List.all_cons]
      by_cases a1 : (s[k].toNat : Int) < 32
      · have n1 : okByte s[k] = false := by unfold okByte; rw [decide_eq_false (by omega)]; rfl
        rw [decide_eq_true a1, n1]; rfl
      · by_cases a2 : (126 : Int) < (s[k].toNat : Int)
        · have n1 : okByte s[k] = false := by unfold okByte; rw [decide_eq_false (p := s[k].toNat ≤ 126) (by omega), Bool.and_false]
          rw [decide_eq_false a1, decide_eq_true (p := (s[k].toNat : Int) > 126) a2, n1]; rfl
        · have n1 : okByte s[k] = true := by unfold okByte; rw [decide_eq_true (by omega), decide_eq_true (by omega)]; rfl
          rw [decide_eq_false a1, decide_eq_false (p := (s[k].toNat : Int) > 126) a2, n1, l_plain s most stops hst hs (d - 1) (k + 1) m (by omega) (by omega) (by
            rw [List.take_add_one, List.getElem?_eq_getElem hlt, List.all_append, ht]
            simp [n1])]
          rfl
    · rw [ltF hlt, List.drop_eq_nil_of_le (by omega)]
      rw [List.take_of_length_le (by omega)] at ht
      simp only [cond_false, List.all_nil, Bool.true_and]
      have hc : P_strings_ContainsAny (s, stops, ()) = some (s.any fun c => stops.contains c, ()) := by
        show (bif ascii s && ascii stops then some (Lib.containsAny s stops, ()) else none) = _
        rw [ascii_of hs ht, hst, containsAny_any]
        rfl
      rw [hc]
      cases decide ((s.length : Int) ≤ most) <;> rfl

theorem f_plain (s : List UInt8) (most : Int) (stops : List UInt8) (hst : ascii stops = true) (hs : Small s) : P_impl_isPlain (s, most, stops, ()) = some (s.all okByte && decide ((s.length : Int) ≤ most) && !(s.any fun c => stops.contains c), ()) := by
  have := l_plain s most stops hst hs s.length 0 N (by simp) (by unfold Small at hs; have := N_ge; omega) (by simp)
  rw [p_impl_isPlain]
  simpa using this

theorem ascii35 : ascii [35] = true := by decide
theorem ascii3564 : ascii [35, 64] = true := by decide

/-- A record is valid. -/
def okRecord (e : D_LogRecord) : Bool := !(e.1 == []) && (e.1.all (fun b => okByte b && !(b == 35)) && decide ((e.1.length : Int) ≤ 160)) && !e.1.contains 64 && (e.2.1.all (fun b => okByte b && !(b == 35)) && decide ((e.2.1.length : Int) ≤ 300))

theorem all_not35 : ∀ (s : List UInt8), (s.all okByte && !(s.any fun c => [35].contains c)) = s.all fun b => okByte b && !(b == 35)
  | [] => rfl
  | b :: r => by
    have ih := all_not35 r
    simp only [List.all_cons, List.any_cons, ← ih]
    have e : ([35] : List UInt8).contains b = (b == 35) := by simp only [List.contains_cons, List.contains_nil, Bool.or_false]
    rw [e]
    cases okByte b <;> cases (b == 35) <;> cases r.all okByte <;> simp

theorem any_3564 : ∀ (s : List UInt8), (s.any fun c => [35, 64].contains c) = ((s.any fun c => [35].contains c) || s.contains 64)
  | [] => rfl
  | b :: r => by
    have ih := any_3564 r
    have e : ((64 : UInt8) == b) = (b == 64) := by
      rw [Bool.eq_iff_iff, beq_iff_eq, beq_iff_eq]
      exact eq_comm
    have e1 : ([35, 64] : List UInt8).contains b = (b == 35 || b == 64) := by simp only [List.contains_cons, List.contains_nil, Bool.or_false]
    have e2 : ([35] : List UInt8).contains b = (b == 35) := by simp only [List.contains_cons, List.contains_nil, Bool.or_false]
    rw [List.any_cons, List.any_cons, ih, e1, e2, List.contains_cons, e]
    cases (b == 35) <;> cases (b == 64) <;> simp

theorem f_specRecord (e : D_LogRecord) (h1 : Small e.1) (h2 : Small e.2.1) : P_spec_l12Record (e, ()) = some (okRecord e, ()) := by
  have hst : P_spec_l1Stands (e.1, 64, ()) = some (e.1.contains 64, ()) := f_stands e.1 64 h1
  rw [p_spec_l12Record, f_bytes _ _ h1, f_bytes _ _ h2, hst]
  unfold okRecord
  simp only [Option.bind_some]
  cases (e.1 == []) <;> cases (e.1.all (fun b => okByte b && !(b == 35)) && decide ((e.1.length : Int) ≤ 160)) <;> cases e.1.contains 64 <;> rfl

theorem f_implRecord (e : D_LogRecord) (h1 : Small e.1) (h2 : Small e.2.1) : P_impl_IsValidRecord (e, ()) = some (okRecord e, ()) := by
  rw [p_impl_IsValidRecord, p_impl_isCommand, f_plain _ _ _ ascii3564 h1, f_plain _ _ _ ascii35 h2]
  unfold okRecord
  rw [← all_not35 e.1, ← all_not35 e.2.1, any_3564]
  simp only [Option.bind_some]
  cases (e.1 == []) <;> cases e.1.all okByte <;> cases decide ((e.1.length : Int) ≤ 160) <;> cases (e.1.any fun c => [35].contains c) <;> cases e.1.contains 64 <;> cases e.2.1.all okByte <;> cases decide ((e.2.1.length : Int) ≤ 300) <;> cases (e.2.1.any fun c => [35].contains c) <;> rfl

end Go.VI
