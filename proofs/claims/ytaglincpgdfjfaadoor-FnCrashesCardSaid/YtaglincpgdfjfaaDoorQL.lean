/- Plain: the lines of a log and how they are read, without any program. -/
import Derived.Lib.ItoaNum
import Derived.Lib.IndexMore
namespace Go.VI

abbrev LRec := List UInt8 × List UInt8 × Unit

def okB (b : UInt8) : Bool := decide (32 ≤ b.toNat) && decide (b.toNat ≤ 126)
def okRec (e : LRec) : Bool := !(e.1 == []) && (e.1.all (fun b => okB b && !(b == 35)) && decide ((e.1.length : Int) ≤ 160)) && !e.1.contains 64 && (e.2.1.all (fun b => okB b && !(b == 35)) && decide ((e.2.1.length : Int) ≤ 300))

def sumFrom (h : Nat) (s : List UInt8) : Nat := s.foldl (fun h b => (41 * h + b.toNat + 1) % 999979) h
def sumB (s : List UInt8) : Nat := sumFrom 7 s
def sealB (s : List UInt8) : List UInt8 := s ++ 35 :: Lib.decDigits (sumB s)
def textB (k : Nat) (e : LRec) : List UInt8 := Lib.decDigits k ++ 32 :: (e.1 ++ 64 :: e.2.1)
def lineB (k : Nat) (e : LRec) : List UInt8 := sealB (textB k e) ++ [10]

def hd (c : UInt8) : List UInt8 → List UInt8
  | [] => []
  | b :: r => if b = c then [] else b :: hd c r

theorem hd_app {c : UInt8} : ∀ {a : List UInt8} (b : List UInt8), c ∉ a → hd c (a ++ c :: b) = a
  | [], b, _ => by simp [hd]
  | x :: a, b, h => by
    have h' : ¬ x = c ∧ c ∉ a := by
      simp only [List.mem_cons, not_or] at h
      exact ⟨fun e => h.1 e.symm, h.2⟩
    simp [hd, h'.1, hd_app b h'.2]

theorem hd_no {c : UInt8} : ∀ {a : List UInt8}, c ∉ a → hd c a = a
  | [], _ => rfl
  | x :: a, h => by
    have h' : ¬ x = c ∧ c ∉ a := by
      simp only [List.mem_cons, not_or] at h
      exact ⟨fun e => h.1 e.symm, h.2⟩
    simp [hd, h'.1, hd_no h'.2]

theorem hd_not (c : UInt8) : ∀ a : List UInt8, c ∉ hd c a
  | [] => by simp [hd]
  | x :: a => by
    by_cases e : x = c
    · simp [hd, e]
    · simp only [hd, e, if_false, List.mem_cons, not_or]
      exact ⟨fun h => e h.symm, hd_not c a⟩

theorem hd_split {c : UInt8} : ∀ {a : List UInt8}, c ∈ a → a = hd c a ++ c :: a.drop ((hd c a).length + 1)
  | [], h => by cases h
  | x :: a, h => by
    by_cases e : x = c
    · simp [hd, e]
    · have h' : c ∈ a := by
        rcases List.mem_cons.1 h with h | h
        · exact absurd h.symm e
        · exact h
      have ih := hd_split h'
      simp only [hd, e, if_false, List.length_cons, List.drop_succ_cons, List.cons_append]
      rw [← ih]

theorem hd_le (c : UInt8) (a : List UInt8) (h : c ∈ a) : (hd c a).length + 1 ≤ a.length := by
  have := congrArg List.length (hd_split h)
  simp only [List.length_append, List.length_cons, List.length_drop] at this
  omega

theorem hd_append_mem {c : UInt8} : ∀ {a : List UInt8} (b : List UInt8), c ∈ a → hd c (a ++ b) = hd c a
  | [], _, h => by cases h
  | x :: a, b, h => by
    by_cases e : x = c
    · simp [hd, e]
    · have h' : c ∈ a := by
        rcases List.mem_cons.1 h with h | h
        · exact absurd h.symm e
        · exact h
      simp [hd, e, hd_append_mem b h']

theorem hd_append_not {c : UInt8} : ∀ {a : List UInt8} (b : List UInt8), c ∉ a → hd c (a ++ b) = a ++ hd c b
  | [], _, _ => rfl
  | x :: a, b, h => by
    have h' : ¬ x = c ∧ c ∉ a := by
      simp only [List.mem_cons, not_or] at h
      exact ⟨fun e => h.1 e.symm, h.2⟩
    simp [hd, h'.1, hd_append_not b h'.2]

theorem hd_len (c : UInt8) : ∀ a : List UInt8, (hd c a).length ≤ a.length
  | [] => by simp [hd]
  | x :: a => by
    by_cases e : x = c
    · simp [hd, e]
    · simp only [hd, e, if_false, List.length_cons]
      have := hd_len c a
      omega

theorem hd_full {c : UInt8} {a : List UInt8} (h : (hd c a).length = a.length) : c ∉ a := by
  intro hm
  have := hd_le c a hm
  omega

/-! digits -/
theorem dec_mem (u : Nat) (b : UInt8) (h : b ∈ Lib.decDigits u) : 48 ≤ b.toNat ∧ b.toNat ≤ 57 := by
  revert h
  induction u using Nat.strongRecOn with
  | _ u ih =>
    intro h
    rw [Lib.decDigits] at h
    by_cases hu : u < 10
    · rw [dif_pos hu] at h
      simp only [List.mem_singleton] at h
      subst h
      have : (UInt8.ofNat (48 + u)).toNat = 48 + u := by simp [UInt8.toNat_ofNat']; omega
      omega
    · rw [dif_neg hu] at h
      rcases List.mem_append.1 h with h | h
      · exact ih (u / 10) (by omega) h
      · simp only [List.mem_singleton] at h
        subst h
        have : (UInt8.ofNat (48 + u % 10)).toNat = 48 + u % 10 := by simp [UInt8.toNat_ofNat']; omega
        omega

theorem dec_not (u : Nat) (c : UInt8) (h : c.toNat < 48 ∨ 57 < c.toNat) : c ∉ Lib.decDigits u := by
  intro hm
  have := dec_mem u c hm
  omega

theorem dec_len (n : Nat) : ∀ (u : Nat), u < 10 ^ (n + 1) → (Lib.decDigits u).length ≤ n + 1 := by
  induction n with
  | zero => intro u h; rw [Lib.decDigits, dif_pos (by simpa using h)]; simp
  | succ n ih =>
    intro u h
    rw [Lib.decDigits]
    by_cases hu : u < 10
    · rw [dif_pos hu]; simp
    · rw [dif_neg hu]
      have := ih (u / 10) (by rw [Nat.pow_succ] at h; omega)
      simp only [List.length_append, List.length_singleton]
      omega

theorem sumFrom_lt (s : List UInt8) : ∀ h, h < 999979 → sumFrom h s < 999979 := by
  induction s with
  | nil => intro h hh; exact hh
  | cons b r ih => intro h _; exact ih _ (Nat.mod_lt _ (by decide))

theorem sumB_lt (s : List UInt8) : sumB s < 999979 := sumFrom_lt s 7 (by decide)

/-! records -/
theorem okRec_ask {e : LRec} (h : okRec e = true) (b : UInt8) (hb : b ∈ e.1) : 32 ≤ b.toNat ∧ b.toNat ≤ 126 ∧ b ≠ 35 ∧ b ≠ 64 := by
  simp only [okRec, okB, Bool.and_eq_true, List.all_eq_true, decide_eq_true_eq, Bool.not_eq_true', beq_eq_false_iff_ne] at h
  have h1 := h.1.1.2.1 b hb
  refine ⟨h1.1.1, h1.1.2, h1.2, ?_⟩
  rintro rfl
  have := h.1.2
  simp [hb] at this

theorem okRec_rep {e : LRec} (h : okRec e = true) (b : UInt8) (hb : b ∈ e.2.1) : 32 ≤ b.toNat ∧ b.toNat ≤ 126 ∧ b ≠ 35 := by
  simp only [okRec, okB, Bool.and_eq_true, List.all_eq_true, decide_eq_true_eq, Bool.not_eq_true', beq_eq_false_iff_ne] at h
  have h1 := h.2.1 b hb
  exact ⟨h1.1.1, h1.1.2, h1.2⟩

theorem okRec_len {e : LRec} (h : okRec e = true) : e.1.length ≤ 160 ∧ e.2.1.length ≤ 300 := by
  simp only [okRec, Bool.and_eq_true, decide_eq_true_eq] at h
  omega

theorem text_bytes {k : Nat} {e : LRec} (h : okRec e = true) (b : UInt8) (hb : b ∈ textB k e) : 32 ≤ b.toNat ∧ b.toNat ≤ 126 ∧ b ≠ 35 := by
  unfold textB at hb
  rcases List.mem_append.1 hb with hb | hb
  · have := dec_mem k b hb
    refine ⟨by omega, by omega, ?_⟩
    rintro rfl
    exact absurd this (by decide)
  · rcases List.mem_cons.1 hb with rfl | hb
    · decide
    · rcases List.mem_append.1 hb with hb | hb
      · have := okRec_ask h b hb
        exact ⟨this.1, this.2.1, this.2.2.1⟩
      · rcases List.mem_cons.1 hb with rfl | hb
        · decide
        · exact okRec_rep h b hb

theorem text_35 {k : Nat} {e : LRec} (h : okRec e = true) : (35 : UInt8) ∉ textB k e := fun hb => (text_bytes h _ hb).2.2 rfl

theorem seal_10 {k : Nat} {e : LRec} (h : okRec e = true) : (10 : UInt8) ∉ sealB (textB k e) := by
  intro hb
  unfold sealB at hb
  rcases List.mem_append.1 hb with hb | hb
  · exact absurd (text_bytes h _ hb).1 (by decide)
  · rcases List.mem_cons.1 hb with hb | hb
    · exact absurd hb (by decide)
    · exact dec_not _ _ (by decide) hb

theorem text_len {k : Nat} (hk : k < 100) {e : LRec} (h : okRec e = true) : (textB k e).length ≤ 464 := by
  have := okRec_len h
  have := dec_len 1 k (by omega)
  simp only [textB, List.length_append, List.length_cons]
  omega

theorem seal_len (s : List UInt8) : (sealB s).length ≤ s.length + 7 ∧ s.length + 1 ≤ (sealB s).length := by
  have := dec_len 5 (sumB s) (by have := sumB_lt s; omega)
  simp only [sealB, List.length_append, List.length_cons]
  omega

theorem hd_seal {k : Nat} {e : LRec} (h : okRec e = true) : hd 35 (sealB (textB k e)) = textB k e := hd_app _ (text_35 h)

theorem ask_64 {e : LRec} (h : okRec e = true) : (64 : UInt8) ∉ e.1 := fun hb => (okRec_ask h _ hb).2.2.2 rfl

theorem line_inj {k : Nat} {e e' : LRec} (h : okRec e = true) (h' : okRec e' = true) (he : lineB k e = lineB k e') : e = e' := by
  unfold lineB at he
  have h1 := List.append_cancel_right he
  have h2 : textB k e = textB k e' := by rw [← hd_seal h, ← hd_seal h', h1]
  unfold textB at h2
  have h3 := List.append_cancel_left h2
  simp only [List.cons.injEq, true_and] at h3
  have a : e.1 = e'.1 := by rw [← hd_app e.2.1 (ask_64 h), ← hd_app e'.2.1 (ask_64 h'), h3]
  rw [a] at h3
  have h4 := List.append_cancel_left h3
  simp only [List.cons.injEq, true_and] at h4
  obtain ⟨x, y, ⟨⟩⟩ := e
  obtain ⟨x', y', ⟨⟩⟩ := e'
  simp only at a h4
  rw [a, h4]

open Classical in
/-- The record of a line without its newline. -/
noncomputable def dec (k : Nat) (l : List UInt8) : Option LRec := if h : ∃ e, okRec e = true ∧ lineB k e = l ++ [10] then some h.choose else none

theorem dec_iff {k : Nat} {l : List UInt8} {e : LRec} : dec k l = some e ↔ okRec e = true ∧ lineB k e = l ++ [10] := by
  unfold dec
  by_cases h : ∃ e, okRec e = true ∧ lineB k e = l ++ [10]
  · rw [dif_pos h]
    have hc := h.choose_spec
    constructor
    · intro he
      rw [← Option.some.inj he]
      exact hc
    · intro he
      rw [line_inj he.1 hc.1 (he.2.trans hc.2.symm)]
  · rw [dif_neg h]
    constructor
    · intro he; cases he
    · intro he; exact absurd ⟨e, he⟩ h

theorem dec_none {k : Nat} {l : List UInt8} : dec k l = none ↔ ∀ e, okRec e = true → lineB k e ≠ l ++ [10] := by
  unfold dec
  by_cases h : ∃ e, okRec e = true ∧ lineB k e = l ++ [10]
  · rw [dif_pos h]
    constructor
    · intro he; cases he
    · intro ha; obtain ⟨e, h1, h2⟩ := h; exact absurd h2 (ha e h1)
  · rw [dif_neg h]
    simp only [true_iff]
    intro e h1 h2
    exact h ⟨e, h1, h2⟩

/-- What is read: records and the lengths of their lines. -/
noncomputable def rd : Nat → Nat → List UInt8 → List (LRec × Nat)
  | 0, _, _ => []
  | f + 1, k, s => if (10 : UInt8) ∈ s then match dec k (hd 10 s) with
    | some e => (e, (hd 10 s).length + 1) :: rd f (k + 1) (s.drop ((hd 10 s).length + 1))
    | none => []
    else []

def recs (l : List (LRec × Nat)) : List LRec := l.map (·.1)
def tot : List (LRec × Nat) → Nat
  | [] => 0
  | x :: r => x.2 + tot r
/-- The places behind the lines. -/
def ends : Nat → List (LRec × Nat) → List Nat
  | a, [] => [a]
  | a, x :: r => a :: ends (a + x.2) r

theorem ends_len : ∀ (l : List (LRec × Nat)) (a : Nat), (ends a l).length = l.length + 1
  | [], _ => rfl
  | x :: r, a => by simp [ends, ends_len r]

theorem ends_last : ∀ (l : List (LRec × Nat)) (a : Nat), (ends a l)[l.length]? = some (a + tot l)
  | [], a => by simp [ends, tot]
  | x :: r, a => by
    simp only [ends, List.length_cons, List.getElem?_cons_succ, ends_last r, tot]
    congr 1; omega

theorem ends_ge : ∀ (l : List (LRec × Nat)) (a : Nat) (b : Nat), b ∈ ends a l → a ≤ b
  | [], a, b, h => by simp [ends] at h; omega
  | x :: r, a, b, h => by
    rcases List.mem_cons.1 h with h | h
    · omega
    · have := ends_ge r _ b h; omega

theorem rd_len : ∀ (f k : Nat) (s : List UInt8), (rd f k s).length ≤ f
  | 0, _, _ => by simp [rd]
  | f + 1, k, s => by
    rw [rd]
    by_cases h : (10 : UInt8) ∈ s
    · rw [if_pos h]
      cases dec k (hd 10 s) with
      | none => simp
      | some e => simp only [List.length_cons]; have := rd_len f (k + 1) (s.drop ((hd 10 s).length + 1)); omega
    · rw [if_neg h]; simp

theorem rd_tot : ∀ (f k : Nat) (s : List UInt8), tot (rd f k s) ≤ s.length
  | 0, _, _ => by simp [rd, tot]
  | f + 1, k, s => by
    rw [rd]
    by_cases h : (10 : UInt8) ∈ s
    · rw [if_pos h]
      have := hd_le 10 s h
      cases dec k (hd 10 s) with
      | none => simp [tot]
      | some e =>
        have := rd_tot f (k + 1) (s.drop ((hd 10 s).length + 1))
        simp only [tot, List.length_drop] at *
        omega
    · rw [if_neg h]; simp [tot]

/-- A beginning ends behind a line if it is read whole. -/
theorem rd_part : ∀ (f k : Nat) (d p : List UInt8) (a : Nat), tot (rd f k (d ++ p)) = (d ++ p).length → (a + d.length ∈ ends a (rd f k (d ++ p)) ↔ tot (rd f k d) = d.length)
  | f, k, [], p, a, h => by
    have h0 := rd_tot f k []
    simp only [List.length_nil, Nat.le_zero] at h0
    simp only [List.length_nil, Nat.add_zero, h0, iff_true]
    cases rd f k ([] ++ p) <;> simp [ends]
  | 0, k, b :: d, p, a, h => by simp [rd, tot] at h
  | f + 1, k, b :: d, p, a, h => by
    generalize hD : b :: d = D at h ⊢
    have hne : 0 < D.length := by rw [← hD]; simp
    rw [rd] at h ⊢
    by_cases hm : (10 : UInt8) ∈ D ++ p
    · rw [if_pos hm] at h ⊢
      cases hd1 : dec k (hd 10 (D ++ p)) with
      | none => rw [hd1] at h; simp only [tot, List.length_append] at h; omega
      | some e =>
        rw [hd1] at h
        simp only [tot] at h
        simp only [ends, List.mem_cons]
        by_cases hm2 : (10 : UInt8) ∈ D
        · rw [hd_append_mem p hm2] at h hd1 ⊢
          have hle := hd_le 10 D hm2
          rw [List.drop_append_of_le_length hle] at h ⊢
          rw [rd, if_pos hm2, hd1]
          simp only [tot]
          have ih := rd_part f (k + 1) (D.drop ((hd 10 D).length + 1)) p (a + ((hd 10 D).length + 1)) (by
            simp only [List.length_append, List.length_drop] at h ⊢; omega)
          have e1 : a + ((hd 10 D).length + 1) + (D.drop ((hd 10 D).length + 1)).length = a + D.length := by
            simp only [List.length_drop]; omega
          rw [e1] at ih
          rw [ih]
          simp only [List.length_drop]
          omega
        · rw [rd, if_neg hm2]
          rw [hd_append_not p hm2] at hd1 h ⊢
          simp only [tot]
          constructor
          · rintro (h1 | h1)
            · omega
            · have := ends_ge _ _ _ h1
              simp only [List.length_append] at this
              omega
          · intro h1; omega
    · rw [if_neg hm] at h
      simp only [tot, List.length_append] at h
      omega
end Go.VI
