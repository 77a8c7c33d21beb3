/- Plain: the heap of a text. -/
import Derived.Test.YtcamgjgfjpcelaaGreatDoorPlN
import Derived.Test.YtcamgjgfjpcelaaGreatDoorPlA
namespace Go.VI
open Go.Proofs

theorem splitG_head (c : UInt8) : ∀ (s acc : List UInt8), ∃ hd tl, splitG c acc s = hd :: tl ∧ hd.length ≤ acc.length + s.length
  | [], acc => ⟨acc, [], by simp [splitG], by simp⟩
  | b :: r, acc => by
    by_cases e : b = c
    · exact ⟨acc, splitG c [] r, by simp [splitG, e], by omega⟩
    · obtain ⟨hd, tl, h1, h2⟩ := splitG_head c r (acc ++ [b])
      refine ⟨hd, tl, by simp [splitG, e, h1], ?_⟩
      simp at h2 ⊢
      omega

theorem splitG_no (c : UInt8) : ∀ (w acc : List UInt8), c ∉ w → splitG c acc w = [acc ++ w]
  | [], acc, _ => by simp [splitG]
  | b :: r, acc, h => by
    have h1 : b ≠ c := fun e => h (by simp [e])
    have h2 : c ∉ r := fun e => h (by simp [e])
    simp [splitG, h1, splitG_no c r (acc ++ [b]) h2]

theorem splitG_at (c : UInt8) : ∀ (w acc r : List UInt8), c ∉ w → splitG c acc (w ++ c :: r) = (acc ++ w) :: splitG c [] r
  | [], acc, r, _ => by simp [splitG]
  | b :: w, acc, r, h => by
    have h1 : b ≠ c := fun e => h (by simp [e])
    have h2 : c ∉ w := fun e => h (by simp [e])
    rw [List.cons_append]
    simp [splitG, h1, splitG_at c w (acc ++ [b]) r h2]

theorem dg_ne {n : Int} (h0 : 0 ≤ n) (h1 : n < 10) (x : UInt8) (hx : x.toNat < 48 ∨ 57 < x.toNat) : x ≠ dg n := by
  intro e
  have : x.toNat = (dg n).toNat := by rw [e]
  unfold dg at this
  rw [UInt8.toNat_ofNat'] at this
  omega

theorem word_no {c : D_A3} (h : (0 ≤ c.1 ∧ c.1 < 10) ∧ (0 ≤ c.2.1 ∧ c.2.1 < 10) ∧ (0 ≤ c.2.2.1 ∧ c.2.2.1 < 10)) : (32 : UInt8) ∉ word c := by
  unfold word
  simp only [List.mem_cons, List.not_mem_nil, or_false, not_or]
  exact ⟨dg_ne h.1.1 h.1.2 32 (.inl (by decide)), dg_ne h.2.1.1 h.2.1.2 32 (.inl (by decide)), dg_ne h.2.2.1 h.2.2.2 32 (.inl (by decide))⟩

theorem split_txt : ∀ (l : List D_A3) (w acc : List UInt8), Dig l → (32 : UInt8) ∉ w → splitG 32 acc (w ++ txtC l) = (acc ++ w) :: l.map word
  | [], w, acc, _, hw => by
    have e : txtC [] = [] := rfl
    rw [e, List.append_nil, splitG_no 32 w acc hw]
    rfl
  | c :: r, w, acc, hd, hw => by
    have e : txtC (c :: r) = 32 :: (word c ++ txtC r) := rfl
    rw [e, splitG_at 32 w acc _ hw, split_txt r (word c) [] (fun x hx => hd x (List.mem_cons_of_mem _ hx)) (word_no (hd c (List.mem_cons_self ..)))]
    rfl

theorem txt_len {h : D_Heap} (ho : okHeap h = true) : (txt h).length ≤ 261 := by
  obtain ⟨hs, hi, hr⟩ := okHeap_iff.1 ho
  have h64 := srt_small64 hs hi hr
  unfold txt
  rw [List.length_append, txtC_len]
  have : (txtH h.1 h.2.1 h.2.2.1).length = 5 := rfl
  omega

theorem txt_split {h : D_Heap} (ho : okHeap h = true) : splitG 32 [] (txt h) = txtH h.1 h.2.1 h.2.2.1 :: h.2.2.2.1.map word := by
  obtain ⟨hd, h1, h2, h3⟩ := dig_of ho
  refine split_txt _ _ [] hd ?_
  unfold txtH
  simp only [List.mem_cons, List.not_mem_nil, or_false, not_or]
  exact ⟨dg_ne h1.1 h1.2 32 (.inl (by decide)), by decide, dg_ne h2.1 h2.2 32 (.inl (by decide)), by decide, dg_ne h3.1 h3.2 32 (.inl (by decide))⟩

theorem three_words (l : List D_A3) : three (l.map word) = true := by
  unfold three
  rw [List.all_eq_true]
  intro w hw
  obtain ⟨c, _, rfl⟩ := List.mem_map.1 hw
  rfl

theorem cells_words {l : List D_A3} (hd : Dig l) : (l.map word).map cell3 = l := by
  rw [List.map_map]
  conv => rhs; rw [← List.map_id l]
  exact List.map_congr_left fun c hc => cell3_word (hd c hc)

/-- What a text's reader answers. -/
def Reads (r : D_Heap × Bool × Unit) (s : List UInt8) : Prop := (r = noH ∨ ∃ h, r = (h, true, ()) ∧ okHeap h = true ∧ txt h = s) ∧ ∀ h, okHeap h = true → txt h = s → r = (h, true, ())

theorem Reads.uniq {r r' : D_Heap × Bool × Unit} {s : List UInt8} (h : Reads r s) (h' : Reads r' s) : r = r' := by
  rcases h.1 with e | ⟨g, e, o, t⟩
  · rcases h'.1 with e' | ⟨g', e', o', t'⟩
    · rw [e, e']
    · rw [e', h.2 g' o' t']
  · rw [e, h'.2 g o t]

theorem finP_or (h : D_Heap) (s : List UInt8) : finP h s = noH ∨ ∃ g, finP h s = (g, true, ()) ∧ okHeap g = true ∧ txt g = s := by
  unfold finP
  by_cases e : okHeap h = true ∧ txt h = s
  · rw [if_pos e]; exact .inr ⟨h, rfl, e.1, e.2⟩
  · rw [if_neg e]; exact .inl rfl

theorem finP_is {h : D_Heap} (ho : okHeap h = true) : finP h (txt h) = (h, true, ()) := by
  unfold finP
  rw [if_pos ⟨ho, rfl⟩]

theorem cut_tail (a : List UInt8) (r : List (List UInt8)) : cut (a :: r) 1 ((a :: r).length : Int) = r := by
  show ((a :: r).take ((a :: r).length)).drop 1 = r
  rw [List.take_length]
  rfl

theorem reads_no {s : List UInt8} (h : ∀ g, okHeap g = true → txt g = s → False) : Reads noH s := ⟨.inl rfl, fun g o t => absurd (h g o t) not_false⟩

theorem parse_impl (s : List UInt8) (hs : Small s) : ∃ r, P_impl_ParseHeap (s, ()) = some r ∧ Reads r s := by
  obtain ⟨w0, ws, hw, hlen⟩ := splitG_head 32 s []
  have hwl := splitG_len 32 s []
  rw [hw] at hwl
  rw [p_impl_ParseHeap, f_Split 32 s hs, hw]
  simp only [Option.bind_some]
  by_cases h300 : s.length > 300
  · rw [decide_eq_true (p := ((s.length : Nat) : Int) > 300) (by omega)]
    exact ⟨noH, rfl, reads_no fun g o t => by have := txt_len o; rw [t] at this; omega⟩
  · rw [decide_eq_false (p := ((s.length : Nat) : Int) > 300) (by omega)]
    have i0 : inB 0 (w0 :: ws).length = true := by simp [inB]
    have n0 : nth (.str : Ty) (w0 :: ws) 0 = w0 := rfl
    rw [i0, n0]
    simp only [cond_false, cond_true]
    by_cases h5 : w0.length = 5
    · rw [decide_eq_true (p := ((w0.length : Nat) : Int) = 5) (by omega)]
      have hsl : 5 ≤ s.length := by simp at hlen; omega
      have j0 : inB 0 s.length = true := inB_at (k := 0) (by omega)
      have j2 : inB 2 s.length = true := inB_at (k := 2) (by omega)
      have j4 : inB 4 s.length = true := inB_at (k := 4) (by omega)
      have b0 : byteAt s 0 = (s[0].toNat : Int) := byteAt_at s 0 (by omega)
      have b2 : byteAt s 2 = (s[2].toNat : Int) := byteAt_at s 2 (by omega)
      have b4 : byteAt s 4 = (s[4].toNat : Int) := byteAt_at s 4 (by omega)
      rw [j0, j2, j4, b0, b2, b4, f_p1, f_p1, f_p1, cut_tail, decide_eq_true (p := (1 : Int) ≤ (((w0 :: ws).length : Nat) : Int)) (by rw [List.length_cons]; omega), decide_eq_true (p := (((w0 :: ws).length : Nat) : Int) ≤ (((w0 :: ws).length : Nat) : Int)) (Int.le_refl _)]
      simp only [Bool.not_true, cond_false, cond_true, Option.bind_some]
      have hl := l_phI (dv s[0]) (dv s[2]) (dv s[4]) s ws (by rw [List.length_cons] at hwl; omega) ws.length 0 N [] (by simp) (by rw [List.length_cons] at hwl; have := N_ge; omega) (by simp)
      refine ⟨_, hl, ?_⟩
      rw [List.drop_zero, List.nil_append]
      refine ⟨?_, fun g o t => ?_⟩
      · cases three ws with
        | false => exact .inl rfl
        | true => exact finP_or _ _
      · have hsp := txt_split o
        rw [t, hw] at hsp
        obtain ⟨e1, e2⟩ : w0 = txtH g.1 g.2.1 g.2.2.1 ∧ ws = g.2.2.2.1.map word := by simpa using hsp
        obtain ⟨hd, h1, h2, h3⟩ := dig_of o
        rw [e2, three_words, cells_words hd]
        have q0 : s[0] = dg g.1 := by simp only [← t]; rfl
        have q2 : s[2] = dg g.2.1 := by simp only [← t]; rfl
        have q4 : s[4] = dg g.2.2.1 := by simp only [← t]; rfl
        rw [q0, q2, q4, dv_dg h1.1 h1.2, dv_dg h2.1 h2.2, dv_dg h3.1 h3.2, if_pos rfl, ← t]
        exact finP_is o
    · rw [decide_eq_false (p := ((w0.length : Nat) : Int) = 5) (by omega)]
      refine ⟨noH, rfl, reads_no fun g o t => ?_⟩
      have hsp := txt_split o
      rw [t, hw] at hsp
      have e1 : w0 = txtH g.1 g.2.1 g.2.2.1 := (List.cons.inj hsp).1
      rw [e1] at h5
      exact h5 rfl

/-! ### The reference's numbers -/
theorem f_neg (v : Nat) (h : v < 1000000) : ∃ r, P_spec_l1Num (-(v : Int), ()) = some (r, ()) := by
  by_cases e : v = 0
  · subst e; exact ⟨_, f_num 0 (by decide)⟩
  · have hN : N = (N - 1) + 1 := by have := N_ge; omega
    have : P_spec_l1Num (-(v : Int), ()) = Pk_spec_l1Num N (-(v : Int), ()) := rfl
    rw [this, hN, p_spec_l1Num, decide_eq_true (p := -(v : Int) < 0) (by omega), w64 (x := 0 - -(v : Int)) (by omega) (by omega)]
    have e2 : (0 - -(v : Int)) = ((v : Nat) : Int) := by omega
    have hk := k_num (N - 1) 6 v (by omega) (by omega) (by have := N_ge; omega)
    have hl := dec_len 17 v (by omega)
    rw [e2, hk]
    simp only [cond_true, Option.bind_some]
    rw [cat_ok (by simp) (by omega)]
    exact ⟨_, rfl⟩

theorem l_read (s t : List UInt8) (ht : t.length ≤ 6) : ∀ (d k m v : Nat), t.length = k + d → d < m → v < 10 ^ k → ∃ n ok, l_spec_l1Read_8 m s t (v : Int) (k : Int) = some (n, ok, ())
  | d, k, 0, v, _, h, _ => by omega
  | d, k, m + 1, v, hk, hm, hv => by
    have hb : (10 : Nat) ^ k ≤ 10 ^ 6 := Nat.pow_le_pow_right (by decide) (by omega)
    rw [q_spec_l1Read_8]
    by_cases hlt : k < t.length
    · rw [ltT hlt, inB_at hlt, byteAt_at t k hlt]
      simp only [cond_true]
      by_cases h1 : (t[k].toNat : Int) < 48
      · rw [decide_eq_true h1]; exact ⟨0, false, rfl⟩
      · rw [decide_eq_false h1]
        simp only [cond_false]
        by_cases h2 : (t[k].toNat : Int) > 57
        · rw [decide_eq_true h2]; exact ⟨0, false, rfl⟩
        · rw [decide_eq_false h2]
          simp only [cond_false]
          have hw8 : IntKind.wrap .u8 ((t[k].toNat : Int) - 48) = (t[k].toNat : Int) - 48 := by
            have e : IntKind.wrap .u8 ((t[k].toNat : Int) - 48) = ((t[k].toNat : Int) - 48) % 256 := by simp [IntKind.wrap, IntKind.bits, IntKind.signed]
            rw [e]; omega
          rw [hw8, w64 (x := 10 * (v : Int)) (by omega) (by omega), w64 (x := (t[k].toNat : Int) - 48) (by omega) (by omega), w64 (by omega) (by omega), succI k (by omega)]
          have e : 10 * (v : Int) + ((t[k].toNat : Int) - 48) = ((10 * v + (t[k].toNat - 48) : Nat) : Int) := by omega
          rw [e]
          exact l_read s t ht (d - 1) (k + 1) m _ (by omega) (by omega) (by rw [Nat.pow_succ]; omega)
    · rw [ltF hlt]
      simp only [cond_false]
      have hv6 : v < 1000000 := by omega
      cases decide ((t.length : Int) < (s.length : Int)) with
      | true =>
        obtain ⟨r, hr⟩ := f_neg v hv6
        rw [w64 (x := 0 - (v : Int)) (by omega) (by omega), Int.zero_sub, hr]
        simp only [cond_true, Option.bind_some]
        cases r == s with
        | true => exact ⟨_, _, rfl⟩
        | false => exact ⟨_, _, rfl⟩
      | false =>
        rw [f_num v hv6]
        simp only [cond_false, Option.bind_some]
        cases Lib.decDigits v == s with
        | true => exact ⟨_, _, rfl⟩
        | false => exact ⟨_, _, rfl⟩

theorem read_in (s t : List UInt8) : ∃ n ok, (Option.bind (P_spec_l1In ((t.length : Int), 1, 6, ())) fun r4 => bif !r4.1 then some (0, false, ()) else l_spec_l1Read_8 N s t 0 0) = some ((n : Int), ok, ()) := by
  rw [f_spec_l1In]
  by_cases h : 1 ≤ (t.length : Int) ∧ (t.length : Int) ≤ 6
  · rw [decide_eq_true h.1, decide_eq_true h.2]
    exact l_read s t (by omega) t.length 0 N 0 (by simp) (by have := N_ge; omega) (by decide)
  · have : (decide (1 ≤ (t.length : Int)) && decide ((t.length : Int) ≤ 6)) = false := by
      rw [Bool.and_eq_false_iff, decide_eq_false_iff_not, decide_eq_false_iff_not]
      omega
    rw [this]
    exact ⟨0, false, rfl⟩

theorem f_read (s : List UInt8) : ∃ n ok, P_spec_l1Read (s, ()) = some (n, ok, ()) := by
  rw [p_spec_l1Read]
  by_cases h : 1 < s.length
  · have j0 : inB 0 s.length = true := inB_at (k := 0) (by omega)
    rw [decide_eq_true (p := ((s.length : Nat) : Int) > 1) (by omega), j0, decide_eq_true (p := (1 : Int) ≤ ((s.length : Nat) : Int)) (by omega), decide_eq_true (p := ((s.length : Nat) : Int) ≤ ((s.length : Nat) : Int)) (Int.le_refl _)]
    simp only [cond_true]
    cases decide (byteAt s 0 = 45) with
    | true => exact read_in s _
    | false => exact read_in s s
  · rw [decide_eq_false (p := ((s.length : Nat) : Int) > 1) (by omega)]
    exact read_in s s

theorem f_read1 {n : Int} (h0 : 0 ≤ n) (h1 : n < 10) : P_spec_l1Read ([dg n], ()) = some (n, true, ()) := by
  have hN : N = (N - 2) + 1 + 1 := by have := N_ge; omega
  have hb : byteAt [dg n] 0 = 48 + n := by
    show ((dg n).toNat : Int) = _
    have := dv_dg h0 h1
    unfold dv at this
    omega
  have l1 : ((List.length [dg n] : Nat) : Int) = 1 := rfl
  have i0 : inB 0 (List.length [dg n]) = true := rfl
  have hw8 : IntKind.wrap .u8 (48 + n - 48) = n := by
    have e : IntKind.wrap .u8 (48 + n - 48) = (48 + n - 48) % 256 := by simp [IntKind.wrap, IntKind.bits, IntKind.signed]
    rw [e]; omega
  rw [p_spec_l1Read, l1, decide_eq_false (p := (1 : Int) > 1) (by omega)]
  simp only [cond_false]
  rw [f_spec_l1In, decide_eq_true (p := (1 : Int) ≤ 1) (by omega), decide_eq_true (p := (1 : Int) ≤ 6) (by omega)]
  simp only [cond_false, Option.bind_some, Bool.and_self, Bool.not_true]
  rw [hN, q_spec_l1Read_8, l1, i0, hb, decide_eq_true (p := (0 : Int) < 1) (by omega), decide_eq_false (p := 48 + n < 48) (by omega), decide_eq_false (p := 48 + n > 57) (by omega), hw8, w64 (x := 10 * 0) (by omega) (by omega), w64 (x := n) (by omega) (by omega), w64 (x := 10 * 0 + n) (by omega) (by omega), one64]
  simp only [cond_true, cond_false]
  rw [q_spec_l1Read_8, l1, decide_eq_false (p := (1 : Int) < 1) (by omega)]
  simp only [cond_false]
  have e : (10 * 0 + n : Int) = n := by omega
  rw [e, f_num1 h0 h1]
  simp

theorem sides_split {X Y Z : Int} (h1 : 0 ≤ X ∧ X < 10) (h2 : 0 ≤ Y ∧ Y < 10) (h3 : 0 ≤ Z ∧ Z < 10) : splitG 120 [] (txtH X Y Z) = [[dg X], [dg Y], [dg Z]] := by
  have e : txtH X Y Z = [dg X] ++ 120 :: ([dg Y] ++ 120 :: [dg Z]) := rfl
  have ne : ∀ {n : Int}, 0 ≤ n ∧ n < 10 → (120 : UInt8) ∉ [dg n] := fun hn hh => dg_ne hn.1 hn.2 120 (.inr (by decide)) (List.mem_singleton.1 hh)
  rw [e, splitG_at 120 _ [] _ (ne h1), splitG_at 120 _ [] _ (ne h2), splitG_no 120 _ [] (ne h3)]
  rfl

theorem parse_spec (s : List UInt8) (hs : Small s) : ∃ r, P_spec_ParseHeap (s, ()) = some r ∧ Reads r s := by
  obtain ⟨w0, ws, hw, hlen⟩ := splitG_head 32 s []
  have hwl := splitG_len 32 s []
  rw [hw] at hwl
  rw [p_spec_ParseHeap]
  by_cases h300 : s.length > 300
  · rw [decide_eq_true (p := ((s.length : Nat) : Int) > 300) (by omega)]
    exact ⟨noH, rfl, reads_no fun g o t => by have := txt_len o; rw [t] at this; omega⟩
  · have f1 : P_spec_l1Split (s, 32, ()) = _ := f_split 32 s hs
    have i0 : inB 0 (w0 :: ws).length = true := by simp [inB]
    have n0 : nth (.str : Ty) (w0 :: ws) 0 = w0 := rfl
    have f2 : P_spec_l1Split (w0, 120, ()) = _ := f_split 120 w0 (by unfold Small at hs ⊢; simp at hlen; omega)
    rw [decide_eq_false (p := ((s.length : Nat) : Int) > 300) (by omega), f1, hw]
    simp only [cond_false, Option.bind_some]
    rw [i0, n0, f2]
    simp only [cond_true, Option.bind_some]
    have hex : ∀ g, okHeap g = true → txt g = s → splitG 120 [] w0 = [[dg g.1], [dg g.2.1], [dg g.2.2.1]] ∧ ws = g.2.2.2.1.map word := fun g o t => by
      have hsp := txt_split o
      rw [t, hw] at hsp
      obtain ⟨e1, e2⟩ : w0 = txtH g.1 g.2.1 g.2.2.1 ∧ ws = g.2.2.2.1.map word := by simpa using hsp
      obtain ⟨hd, h1, h2, h3⟩ := dig_of o
      rw [e1, sides_split h1 h2 h3]
      exact ⟨rfl, e2⟩
    generalize hS : splitG 120 [] w0 = S at hex ⊢
    match S, hex with
    | [a, b, c], hex =>
      rw [decide_eq_true (p := ((List.length [a, b, c] : Nat) : Int) = 3) rfl]
      simp only [Bool.not_true, cond_false]
      have hN : N = (N - 4) + 1 + 1 + 1 + 1 := by have := N_ge; omega
      obtain ⟨na, oa, ea⟩ := f_read a
      obtain ⟨nb', ob, eb⟩ := f_read b
      obtain ⟨nc, oc, ec⟩ := f_read c
      have ga : ∀ g, okHeap g = true → txt g = s → na = g.1 ∧ oa = true ∧ nb' = g.2.1 ∧ ob = true ∧ nc = g.2.2.1 ∧ oc = true := fun g o t => by
        obtain ⟨e1, _⟩ := hex g o t
        obtain ⟨hd, h1, h2, h3⟩ := dig_of o
        obtain ⟨rfl, rfl, rfl⟩ : a = [dg g.1] ∧ b = [dg g.2.1] ∧ c = [dg g.2.2.1] := by simpa using e1
        rw [f_read1 h1.1 h1.2] at ea
        rw [f_read1 h2.1 h2.2] at eb
        rw [f_read1 h3.1 h3.2] at ec
        obtain ⟨rfl, rfl⟩ : g.1 = na ∧ true = oa := by simpa using ea
        obtain ⟨rfl, rfl⟩ : g.2.1 = nb' ∧ true = ob := by simpa using eb
        obtain ⟨rfl, rfl⟩ : g.2.2.1 = nc ∧ true = oc := by simpa using ec
        exact ⟨rfl, rfl, rfl, rfl, rfl, rfl⟩
      have n0' : nth (.str : Ty) [a, b, c] 0 = a := rfl
      have n1' : nth (.str : Ty) [a, b, c] 1 = b := rfl
      have n2' : nth (.str : Ty) [a, b, c] 2 = c := rfl
      have k0 : inB 0 (List.length [a, b, c]) = true := rfl
      have k1 : inB 1 (List.length [a, b, c]) = true := rfl
      have k2 : inB 2 (List.length [a, b, c]) = true := rfl
      have t0 : inB 0 3 = true := rfl
      have t1 : inB 1 3 = true := rfl
      have t2 : inB 2 3 = true := rfl
      rw [hN, q_spec_ParseHeap_8, decide_eq_true (p := (0 : Int) < 3) (by decide), k0, t0, n0', ea, one64]
      simp only [cond_true, Option.bind_some]
      cases oa with
      | false => exact ⟨noH, rfl, reads_no fun g o t => by have := (ga g o t).2.1; cases this⟩
      | true =>
        rw [q_spec_ParseHeap_8, decide_eq_true (p := (1 : Int) < 3) (by decide), k1, t1, n1', eb, two64]
        simp only [cond_true, Option.bind_some, Bool.not_true, cond_false]
        cases ob with
        | false => exact ⟨noH, rfl, reads_no fun g o t => by have := (ga g o t).2.2.2.1; cases this⟩
        | true =>
          rw [q_spec_ParseHeap_8, decide_eq_true (p := (2 : Int) < 3) (by decide), k2, t2, n2', ec, three64]
          simp only [cond_true, Option.bind_some, Bool.not_true, cond_false]
          cases oc with
          | false => exact ⟨noH, rfl, reads_no fun g o t => by have := (ga g o t).2.2.2.2.2; cases this⟩
          | true =>
            rw [q_spec_ParseHeap_8, decide_eq_false (p := (3 : Int) < 3) (by decide), p_spec_l2Empty]
            have hl := l_phS na nb' nc s w0 ws (by rw [List.length_cons] at hwl; omega) ws.length 0 N [] (by simp) (by rw [List.length_cons] at hwl; have := N_ge; omega) (by simp)
            refine ⟨_, hl, ?_⟩
            rw [List.drop_zero, List.nil_append]
            refine ⟨?_, fun g o t => ?_⟩
            · cases three ws with
              | false => exact .inl rfl
              | true => exact finP_or _ _
            · obtain ⟨rfl, _, rfl, _, rfl, _⟩ := ga g o t
              obtain ⟨_, e2⟩ := hex g o t
              obtain ⟨hd, _⟩ := dig_of o
              rw [e2, three_words, cells_words hd, if_pos rfl, ← t]
              exact finP_is o
    | [], hex => exact ⟨noH, rfl, reads_no fun g o t => by have := (hex g o t).1; cases this⟩
    | [a], hex => exact ⟨noH, rfl, reads_no fun g o t => by have := (hex g o t).1; simp at this⟩
    | [a, b], hex => exact ⟨noH, rfl, reads_no fun g o t => by have := (hex g o t).1; simp at this⟩
    | a :: b :: c :: d :: r, hex =>
      rw [decide_eq_false (p := ((List.length (a :: b :: c :: d :: r) : Nat) : Int) = 3) (by simp only [List.length_cons]; omega)]
      exact ⟨noH, rfl, reads_no fun g o t => by have := (hex g o t).1; simp at this⟩

theorem parse_both (s : List UInt8) (hs : Small s) : ∃ r, P_impl_ParseHeap (s, ()) = some r ∧ P_spec_ParseHeap (s, ()) = some r ∧ Reads r s := by
  obtain ⟨r, h1, h2⟩ := parse_impl s hs
  obtain ⟨r', h1', h2'⟩ := parse_spec s hs
  rw [h2.uniq h2'] at h1 h2
  exact ⟨r', h1, h1', h2⟩
end Go.VI
/- Plain: cuts. -/
namespace Go.VI
open Go.Proofs

theorem dir {d : Int} (h0 : 0 ≤ d) (h1 : d ≤ 2) : d = 0 ∨ d = 1 ∨ d = 2 := by omega

theorem inB_dir {d : Int} (h0 : 0 ≤ d) (h1 : d ≤ 2) : inB d 3 = true := by
  rcases dir h0 h1 with rfl | rfl | rfl <;> decide

def side3 (X Y Z d : Int) : Int := bif decide (d = 0) then X else (bif decide (d = 1) then Y else Z)

theorem f_l2Long {X Y Z : Int} (l : List D_A3) {d : Int} (d0 : 0 ≤ d) (d1 : d ≤ 2) : P_spec_l2Long ((X, Y, Z, l, ()), d, ()) = some (side3 X Y Z d, ()) := by
  rw [p_spec_l2Long, inB_dir d0 d1]; rfl

end Go.VI
/- Plain: cutting a heap. -/
namespace Go.VI
open Go.Proofs

/-! ### Marks from any number on -/
/-! ### The two parts -/
theorem mask_append (Y Z : Int) (l r : List D_A3) (v : BitVec 64) : mask Y Z (l ++ r) v = mask Y Z r (mask Y Z l v) := by
  unfold mask
  rw [List.foldl_append]

end Go.VI
/- Plain: gluing two heaps. -/
namespace Go.VI
open Go.Proofs

theorem cut_lo {l : List D_A3} (k : Nat) : cut l 0 (k : Int) = l.take k := by simp [cut]
theorem cut_hi {l : List D_A3} (k : Nat) : cut l (k : Int) (l.length : Int) = l.drop k := by simp [cut]

theorem f_l2Own {X Y Z : Int} {l : List D_A3} (hl : l.length ≤ 3000000) : P_spec_l2Own ((X, Y, Z, l, ()), ()) = some ((X, Y, Z, l, ()), ()) := by
  rw [p_spec_l2Own]
  simp only [List.length_nil, List.nil_append, p_spec_l2Made, Option.bind_some]
  rw [decide_eq_true (by omega), decide_eq_true (by omega)]
  rfl

theorem srt_insert {l : List D_A3} (hr : Srt l) (c : D_A3) (k : Nat) (h1 : ∀ x ∈ l.take k, ltC x c = true) (h2 : ∀ x ∈ l.drop k, ltC c x = true) : Srt (l.take k ++ [c] ++ l.drop k) := by
  unfold Srt
  rw [List.append_assoc, List.pairwise_append]
  have ht : Srt (l.take k) := List.Pairwise.sublist (List.take_sublist k l) hr
  have hd : Srt (l.drop k) := List.Pairwise.sublist (List.drop_sublist k l) hr
  refine ⟨ht, List.pairwise_cons.2 ⟨h2, hd⟩, fun a ha b hb => ?_⟩
  rcases List.mem_cons.1 hb with rfl | hb'
  · exact h1 a ha
  · exact ltC_trans (h1 a ha) (h2 b hb')

theorem mem_insert {l : List D_A3} (c x : D_A3) (k : Nat) : x ∈ l.take k ++ [c] ++ l.drop k ↔ x = c ∨ x ∈ l := by
  have : x ∈ l ↔ x ∈ l.take k ∨ x ∈ l.drop k := by rw [← List.mem_append, List.take_append_drop]
  rw [this]
  simp only [List.mem_append, List.mem_singleton]
  constructor
  · rintro ((h | h) | h)
    · exact .inr (.inl h)
    · exact .inl h
    · exact .inr (.inr h)
  · rintro (h | h | h)
    · exact .inl (.inr h)
    · exact .inl (.inl h)
    · exact .inr h

theorem l_with {X Y Z : Int} {l : List D_A3} (hr : Srt l) (c : D_A3) (hl : l.length ≤ 2500000) : ∀ (n k m : Nat), l.length = k + n → n < m → (∀ x ∈ l.take k, ltC x c = true) →
    ∃ l', l_spec_l2With_2 m X Y Z l c.1 c.2.1 c.2.2.1 0 0 0 [] (k : Int) = some ((X, Y, Z, l', ()), ()) ∧ Srt l' ∧ (∀ x, x ∈ l' ↔ x = c ∨ x ∈ l) ∧ l'.length ≤ l.length + 1
  | n, k, 0, hk, hm, _ => by omega
  | n, k, m + 1, hk, hm, hlow => by
    have g1 : (decide (((List.length ([] : List D_A3)) + (List.length (l.take k))) * 24 ≤ 140737488355328) && decide (((List.length ([] : List D_A3)) + (List.length (l.take k))) ≤ 140737488355328)) = true := by
      rw [List.length_take, List.length_nil, decide_eq_true (by omega), decide_eq_true (by omega)]; rfl
    have g2 : (decide (((List.length (([] : List D_A3) ++ (l.take k))) + (List.length ([c] : List D_A3))) * 24 ≤ 140737488355328) && decide (((List.length (([] : List D_A3) ++ (l.take k))) + (List.length ([c] : List D_A3))) ≤ 140737488355328)) = true := by
      rw [List.nil_append, List.length_take, List.length_singleton, decide_eq_true (by omega), decide_eq_true (by omega)]; rfl
    have g3 : (decide (((List.length ((([] : List D_A3) ++ (l.take k)) ++ ([c] : List D_A3))) + (List.length (l.drop k))) * 24 ≤ 140737488355328) && decide (((List.length ((([] : List D_A3) ++ (l.take k)) ++ ([c] : List D_A3))) + (List.length (l.drop k))) ≤ 140737488355328)) = true := by
      rw [List.nil_append, List.length_append, List.length_take, List.length_singleton, List.length_drop, decide_eq_true (by omega), decide_eq_true (by omega)]; rfl
    have g4 : (decide ((0 : Int) ≤ 0) && decide ((0 : Int) ≤ (k : Int)) && decide ((k : Int) ≤ (List.length l : Int))) = true := by
      rw [decide_eq_true (by omega), decide_eq_true (by omega), decide_eq_true (by omega)]; rfl
    have g5 : (decide ((0 : Int) ≤ (k : Int)) && decide ((k : Int) ≤ (List.length l : Int)) && decide ((List.length l : Int) ≤ (List.length l : Int))) = true := by
      rw [decide_eq_true (by omega), decide_eq_true (by omega), decide_eq_true (by omega)]; rfl
    have hlen : (l.take k ++ [c] ++ l.drop k).length ≤ l.length + 1 := by
      rw [List.length_append, List.length_append, List.length_take, List.length_drop, List.length_singleton]; omega
    have ec : ((c.1, (c.2.1, (c.2.2.1, ()))) : D_A3) = c := rfl
    rw [q_spec_l2With_2]
    by_cases hlt : k < l.length
    · rw [ltT hlt, inB_at hlt, nthA (t := T_A3) hlt, f_spec_l2Before, ec, cut_lo, cut_hi, g1, g2, g3, g4, g5, succI k (by omega)]
      simp only [cond_true, Option.bind_some, Bool.and_true]
      cases hb : ltC l[k] c with
      | true =>
        refine l_with hr c hl (n - 1) (k + 1) m (by omega) (by omega) ?_
        intro x hx
        rw [List.take_add_one, List.getElem?_eq_getElem hlt] at hx
        rcases List.mem_append.1 hx with h | h
        · exact hlow x h
        · have : x = l[k] := by simpa using h
          rw [this]; exact hb
      | false =>
        simp only [cond_false]
        by_cases he : l[k] = c
        · have hq : (decide ((l[k]).1 = c.1) && (decide ((l[k]).2.1 = c.2.1) && decide ((l[k]).2.2.1 = c.2.2.1))) = true := by rw [he]; simp
          rw [hq, f_l2Own (by omega)]
          refine ⟨l, rfl, hr, fun x => ?_, by omega⟩
          constructor
          · exact .inr
          · rintro (rfl | h)
            · rw [← he]; exact List.getElem_mem hlt
            · exact h
        · have hq : (decide ((l[k]).1 = c.1) && (decide ((l[k]).2.1 = c.2.1) && decide ((l[k]).2.2.1 = c.2.2.1))) = false := by
            rw [Bool.eq_false_iff]
            intro h
            simp only [Bool.and_eq_true, decide_eq_true_eq] at h
            exact he (cell_ext h.1 h.2.1 h.2.2)
          rw [hq, p_spec_l2Made]
          have hck : ltC c l[k] = true := by
            cases h : ltC c l[k] with
            | true => rfl
            | false => exact absurd (ltC_total hb h) he
          refine ⟨l.take k ++ [c] ++ l.drop k, rfl, srt_insert hr c k hlow ?_, fun x => mem_insert c x k, hlen⟩
          intro x hx
          rw [drop_at l k hlt] at hx
          rcases List.mem_cons.1 hx with rfl | h
          · exact hck
          · have hd : Srt (l.drop k) := List.Pairwise.sublist (List.drop_sublist k l) hr
            rw [drop_at l k hlt] at hd
            exact ltC_trans hck ((List.pairwise_cons.1 hd).1 x h)
    · rw [ltF hlt, ec, cut_lo, cut_hi, g1, g2, g3, g4, g5, p_spec_l2Made]
      refine ⟨l.take k ++ [c] ++ l.drop k, rfl, srt_insert hr c k hlow ?_, fun x => mem_insert c x k, hlen⟩
      intro x hx
      rw [List.drop_eq_nil_of_le (by omega)] at hx
      cases hx

theorem f_l2With {X Y Z : Int} {l : List D_A3} (hr : Srt l) (c : D_A3) (hl : l.length ≤ 2500000) : ∃ l', P_spec_l2With ((X, Y, Z, l, ()), c, ()) = some ((X, Y, Z, l', ()), ()) ∧ Srt l' ∧ (∀ x, x ∈ l' ↔ x = c ∨ x ∈ l) ∧ l'.length ≤ l.length + 1 := by
  obtain ⟨l', h, r⟩ := l_with (X := X) (Y := Y) (Z := Z) hr c hl l.length 0 N (by simp) (by have := N_ge; omega) (by simp)
  exact ⟨l', by rw [p_spec_l2With]; exact h, r⟩

/-! ### The reference -/
/-! ### The program -/
end Go.VI
/- Plain: what acts make of heaps. -/
namespace Go.VI
open Go.Proofs

/-- Both say the same of a heap. -/
def Both (a b : Option (D_Heap × Bool × Unit)) : Prop := ∃ r : D_Heap × Bool × Unit, a = some r ∧ b = some r ∧ Small r.1.2.2.2.1

theorem small64 {l : List D_A3} (h : l.length ≤ 64) : Small l := by unfold Small; omega
theorem small_no : Small noHeap.2.2.2.1 := by unfold Small noHeap; simp

theorem heap_is {X Y Z : Int} (hs : sides X Y Z = true) {v : BitVec 64} {g : D_A3 → Bool} (hv : SetIs X Y Z v g) {l : List D_A3} (hr : Srt l) (hm : ∀ c, c ∈ l ↔ within3 X Y Z c = true ∧ g c = true) : P_box_heap ((X, Y, Z, ()), (v.toNat : Int), ()) = some ((X, Y, Z, l, ()), ()) := by
  rw [f_box_heap hs, hv.cells hs hr hm]

theorem app_len' {α : Type} {l : List α} {x : α} (h : l.length ≤ 100000000) : (decide ((l.length + ([x] : List α).length) * 24 ≤ 140737488355328) && decide (l.length + ([x] : List α).length ≤ 140737488355328)) = true := by
  rw [Bool.and_eq_true, decide_eq_true_eq, decide_eq_true_eq]
  simp only [List.length_singleton]
  omega

/-! ### A cube more, a cube less, other cells -/
theorem put_both (h : D_Heap) (c : D_A3) (hl : Small h.2.2.2.1) : Both (P_spec_PutCube (h, c, ())) (P_impl_PutCube (h, c, ())) := by
  rw [p_spec_PutCube, p_impl_PutCube, p_spec_l2Cell, p_impl_isCell, f_spec_l2Heap _ hl, f_impl_IsHeap _ hl]
  cases ho : okHeap h with
  | false => exact ⟨_, rfl, rfl, small_no⟩
  | true =>
    obtain ⟨hs, hi, hr⟩ := okHeap_iff.1 ho
    simp only [Option.bind_some, cond_true]
    rw [f_spec_l2In _ _ hs, f_Heap_box]
    simp only [Option.bind_some]
    rw [f_box_has _ _ hs]
    simp only [Option.bind_some]
    cases hw : within3 h.1 h.2.1 h.2.2.1 c with
    | false => exact ⟨_, rfl, rfl, small_no⟩
    | true =>
      have f1 : P_spec_l2Has (h, c, ()) = some (decide (c ∈ h.2.2.2.1), ()) := f_l2Has _ _ _ _ _ hl
      have f2 : P_Heap_hasCube (h, c, ()) = some (decide (c ∈ h.2.2.2.1), ()) := f_hasCube hs hl hi hw
      rw [f1, f2]
      simp only [Bool.not_true, cond_false, Option.bind_some]
      by_cases hm : c ∈ h.2.2.2.1
      · rw [decide_eq_true hm]
        exact ⟨_, rfl, rfl, small_no⟩
      · rw [decide_eq_false hm]
        simp only [cond_false]
        have h64 := srt_small64 hs hi hr
        obtain ⟨l', g1, g2, g3, g4⟩ := f_l2With (X := h.1) (Y := h.2.1) (Z := h.2.2.1) hr c (by omega)
        have g1' : P_spec_l2With (h, c, ()) = _ := g1
        have f3 : P_Heap_cubes (h, ()) = _ := f_Heap_cubes hs hl hi
        rw [g1', f3, f_box_index hs hw]
        simp only [Option.bind_some]
        have hins : Ins h.1 h.2.1 h.2.2.1 (h.2.2.2.1 ++ [c]) := fun x hx => by
          rcases List.mem_append.1 hx with hx | hx
          · exact hi x hx
          · rw [List.mem_singleton.1 hx]; exact hw
        rw [decide_eq_true (p := (0 : Int) ≤ (idx h.2.1 h.2.2.1 c : Int)) (by omega), shl64, or64]
        have e : mask h.2.1 h.2.2.1 h.2.2.2.1 0 ||| BitVec.twoPow 64 (idx h.2.1 h.2.2.1 c) = mask h.2.1 h.2.2.1 (h.2.2.2.1 ++ [c]) 0 := by rw [mask_append]; rfl
        rw [e, heap_is hs (setIs_mask hs hins) g2 (fun x => by
          rw [g3, decide_eq_true_eq, List.mem_append, List.mem_singleton]
          constructor
          · rintro (rfl | hx)
            · exact ⟨hw, .inr rfl⟩
            · exact ⟨hi x hx, .inl hx⟩
          · rintro ⟨_, hx | hx⟩
            · exact .inr hx
            · exact .inl hx)]
        exact ⟨_, rfl, rfl, small64 (show l'.length ≤ 64 from srt_small64 hs (fun x hx => by
          rcases (g3 x).1 hx with rfl | hx
          · exact hw
          · exact hi x hx) g2)⟩

theorem cell_eq (a c : D_A3) : (decide (a.1 = c.1) && (decide (a.2.1 = c.2.1) && (decide (a.2.2.1 = c.2.2.1) && true))) = decide (a = c) := by
  rw [Bool.eq_iff_iff, Bool.and_eq_true, Bool.and_eq_true, Bool.and_eq_true, decide_eq_true_eq, decide_eq_true_eq, decide_eq_true_eq, decide_eq_true_eq]
  constructor
  · rintro ⟨h1, h2, h3, _⟩; exact cell_ext h1 h2 h3
  · intro h; rw [← h]; exact ⟨rfl, rfl, rfl, rfl⟩

theorem l_without {X Y Z X' Y' Z' : Int} (l : List D_A3) (c : D_A3) (hl : l.length ≤ 3000000) : ∀ (d i m : Nat) (out : List D_A3), l.length = i + d → d < m → out.length ≤ i →
    l_spec_l2Without_3 m X Y Z l c.1 c.2.1 c.2.2.1 0 0 0 [] X' Y' Z' out (i : Int) = some ((X', Y', Z', out ++ (l.drop i).filter (fun x => !decide (x = c)), ()), ())
  | d, i, 0, out, _, h, _ => by omega
  | d, i, m + 1, out, hk, hm, ho => by
    rw [q_spec_l2Without_3]
    by_cases hlt : i < l.length
    · rw [ltT hlt, inB_at hlt, nthA (t := T_A3) hlt, cell_eq l[i] c, app_len' (by omega), drop_at l i hlt, succI i (by omega)]
      simp only [cond_true, List.filter_cons]
      by_cases e : l[i] = c
      · rw [decide_eq_true e]
        simp only [Bool.not_true, cond_false, Bool.false_eq_true, if_false]
        exact l_without l c hl (d - 1) (i + 1) m out (by omega) (by omega) (by omega)
      · rw [decide_eq_false e]
        simp only [Bool.not_false, cond_true, if_true]
        rw [l_without l c hl (d - 1) (i + 1) m _ (by omega) (by omega) (by simp; omega)]
        simp
    · rw [ltF hlt, List.drop_eq_nil_of_le (by omega)]
      simp

theorem f_without {X Y Z : Int} (l : List D_A3) (c : D_A3) (hl : l.length ≤ 3000000) : P_spec_l2Without ((X, Y, Z, l, ()), c, ()) = some ((X, Y, Z, l.filter (fun x => !decide (x = c)), ()), ()) := by
  have := l_without (X := X) (Y := Y) (Z := Z) (X' := X) (Y' := Y) (Z' := Z) l c hl l.length 0 N [] (by simp) (by have := N_ge; omega) (by simp)
  rw [p_spec_l2Without, p_spec_l2Empty]
  exact this

theorem setIs_less {X Y Z : Int} (hs : sides X Y Z = true) {l : List D_A3} (hi : Ins X Y Z l) {c : D_A3} (hw : within3 X Y Z c = true) : SetIs X Y Z (mask Y Z l 0 &&& ~~~(BitVec.twoPow 64 (idx Y Z c))) (fun x => decide (x ∈ l) && !decide (x = c)) := by
  refine ⟨low_and (low_mask hs hi), fun x hx => ?_⟩
  have h1 := (idx_eq hs hx).2.1
  have h2 := (idx_eq hs hx).2.2.1
  rw [BitVec.getLsbD_and, BitVec.getLsbD_not, BitVec.getLsbD_twoPow, mask_mem hs hi hx]
  have e : decide (idx Y Z c = idx Y Z x) = decide (x = c) := by
    rw [Bool.eq_iff_iff, decide_eq_true_eq, decide_eq_true_eq]
    exact ⟨fun h => (idx_inj hs hw hx h).symm, fun h => by rw [h]⟩
  have h3 := (idx_eq hs hw).2.1
  rw [e, decide_eq_true (p := idx Y Z x < 64) (by omega), decide_eq_true (p := idx Y Z c < 64) (by omega)]
  simp

theorem take_both (h : D_Heap) (c : D_A3) (hl : Small h.2.2.2.1) : Both (P_spec_TakeCube (h, c, ())) (P_impl_TakeCube (h, c, ())) := by
  rw [p_spec_TakeCube, p_impl_TakeCube, p_spec_l2Cell, p_impl_isCell, f_spec_l2Heap _ hl, f_impl_IsHeap _ hl]
  cases ho : okHeap h with
  | false => exact ⟨_, rfl, rfl, small_no⟩
  | true =>
    obtain ⟨hs, hi, hr⟩ := okHeap_iff.1 ho
    simp only [Option.bind_some, cond_true]
    rw [f_spec_l2In _ _ hs, f_Heap_box]
    simp only [Option.bind_some]
    rw [f_box_has _ _ hs]
    simp only [Option.bind_some]
    cases hw : within3 h.1 h.2.1 h.2.2.1 c with
    | false => exact ⟨_, rfl, rfl, small_no⟩
    | true =>
      have f1 : P_spec_l2Has (h, c, ()) = some (decide (c ∈ h.2.2.2.1), ()) := f_l2Has _ _ _ _ _ hl
      have f2 : P_Heap_hasCube (h, c, ()) = some (decide (c ∈ h.2.2.2.1), ()) := f_hasCube hs hl hi hw
      rw [f1, f2]
      simp only [Bool.not_true, cond_false, Option.bind_some]
      by_cases hm : c ∈ h.2.2.2.1
      · rw [decide_eq_true hm]
        have h64 := srt_small64 hs hi hr
        have g1 : P_spec_l2Without (h, c, ()) = _ := f_without (X := h.1) (Y := h.2.1) (Z := h.2.2.1) h.2.2.2.1 c (by omega)
        have f3 : P_Heap_cubes (h, ()) = _ := f_Heap_cubes hs hl hi
        simp only [Bool.not_true, cond_false]
        rw [g1, f3, f_box_index hs hw]
        simp only [Option.bind_some]
        rw [decide_eq_true (p := (0 : Int) ≤ (idx h.2.1 h.2.2.1 c : Int)) (by omega), shl64, andNot64]
        rw [heap_is hs (setIs_less hs hi hw) (hr.filter fun x => !decide (x = c)) (fun x => by
          rw [List.mem_filter, Bool.and_eq_true, decide_eq_true_eq]
          constructor
          · rintro ⟨a, b⟩; exact ⟨hi x a, a, b⟩
          · rintro ⟨_, a, b⟩; exact ⟨a, b⟩)]
        exact ⟨_, rfl, rfl, small64 (show (h.2.2.2.1.filter fun x => !decide (x = c)).length ≤ 64 from Nat.le_trans (List.length_filter_le _ _) h64)⟩
      · rw [decide_eq_false hm]
        exact ⟨_, rfl, rfl, small_no⟩

theorem l_other {X Y Z X' Y' Z' : Int} {l al : List D_A3} (hl : Small l) (hal : Small al) : ∀ (d i m : Nat) (out : List D_A3), al.length = i + d → d < m → out.length ≤ i →
    l_spec_OtherCells_5 m X Y Z l 0 0 0 [] X' Y' Z' out al (i : Int) = some ((X', Y', Z', out ++ (al.drop i).filter (fun x => !decide (x ∈ l)), ()), true, ())
  | d, i, 0, out, _, h, _ => by omega
  | d, i, m + 1, out, hk, hm, ho => by
    have hal' := hal
    unfold Small at hal'
    rw [q_spec_OtherCells_5]
    by_cases hlt : i < al.length
    · rw [ltT hlt, inB_at hlt, nthA (t := T_A3) hlt, f_l2Has X Y Z l _ hl, app_len' (by omega), drop_at al i hlt, succI i (by omega)]
      simp only [cond_true, Option.bind_some, List.filter_cons]
      by_cases e : al[i] ∈ l
      · rw [decide_eq_true e]
        simp only [Bool.not_true, cond_false, Bool.false_eq_true, if_false]
        exact l_other hl hal (d - 1) (i + 1) m out (by omega) (by omega) (by omega)
      · rw [decide_eq_false e]
        simp only [Bool.not_false, cond_true, if_true]
        rw [l_other hl hal (d - 1) (i + 1) m _ (by omega) (by omega) (by simp; omega)]
        simp
    · rw [ltF hlt, List.drop_eq_nil_of_le (by omega)]
      simp

theorem low_full {X Y Z : Int} (hs : sides X Y Z = true) : Low (X * Y * Z).toNat (fullBits (X * Y * Z).toNat) := fun i hi => by
  have := size64 hs
  rw [fullBits_bit (by omega)]; exact decide_eq_false (by omega)

theorem setIs_other {X Y Z : Int} (hs : sides X Y Z = true) {l : List D_A3} (hi : Ins X Y Z l) : SetIs X Y Z (fullBits (X * Y * Z).toNat &&& ~~~(mask Y Z l 0)) (fun c => !decide (c ∈ l)) := by
  refine ⟨low_and (low_full hs), fun c hc => ?_⟩
  have h64 := size64 hs
  have hi' := (idx_eq hs hc).2.1
  rw [BitVec.getLsbD_and, BitVec.getLsbD_not, fullBits_bit (by omega), mask_mem hs hi hc, decide_eq_true hi', decide_eq_true (p := idx Y Z c < 64) (by omega)]
  simp

/-! ### Cubes elsewhere -/
end Go.VI
/- Plain: dropped heaps. -/
namespace Go.VI
open Go.Proofs

def lineI (Y : Int) (c : D_A3) : Int := c.1 * Y + c.2.1

theorem line_ok {X Y Z : Int} (hs : sides X Y Z = true) {c : D_A3} (hc : within3 X Y Z c = true) : 0 ≤ lineI Y c ∧ lineI Y c < X * Y ∧ 0 ≤ c.1 * Y ∧ c.1 * Y ≤ 16 := by
  have s := sides_iff.1 hs
  have w := within3_iff.1 hc
  unfold lineI
  rcases four s.1.1 s.1.2 with rfl | rfl | rfl | rfl <;> rcases four s.2.1.1 s.2.1.2 with rfl | rfl | rfl | rfl <;> omega

/-- One cube more in its column. -/
def upL (Y : Int) (acc : List Int) (c : D_A3) : List Int := List.set acc (Int.toNat (lineI Y c)) (IntKind.wrap .i64 ((nth ((.int .i64) : Ty) acc (lineI Y c)) + 1))

theorem inB_line {X Y Z : Int} (hs : sides X Y Z = true) {c : D_A3} (hc : within3 X Y Z c = true) {acc : List Int} (ha : acc.length = (X * Y).toNat) : inB (lineI Y c) acc.length = true := by
  obtain ⟨h1, h2, h3, h4⟩ := line_ok hs hc
  unfold inB
  rw [Bool.and_eq_true, decide_eq_true_eq, decide_eq_true_eq]
  omega

theorem upL_len {Y : Int} {acc : List Int} {c : D_A3} : (upL Y acc c).length = acc.length := by simp [upL]

theorem l_viewS {X Y Z : Int} (hs : sides X Y Z = true) {l : List D_A3} (hl : Small l) (hi : Ins X Y Z l) : ∀ (d i m : Nat) (acc : List Int), l.length = i + d → d < m → acc.length = (X * Y).toNat →
    l_spec_l2View_4 m X Y Z l 0 1 acc (i : Int) = some ((l.drop i).foldl (upL Y) acc, ())
  | d, i, 0, acc, _, h, _ => by omega
  | d, i, m + 1, acc, hk, hm, ha => by
    have hl' := hl
    unfold Small at hl'
    rw [q_spec_l2View_4]
    by_cases hlt : i < l.length
    · have hc := hi _ (List.getElem_mem hlt)
      obtain ⟨h1, h2, h3, h4⟩ := line_ok hs hc
      have h5 := size64 hs
      have w := within3_iff.1 hc
      have s := sides_iff.1 hs
      rw [ltT hlt, inB_at hlt, nthA (t := T_A3) hlt, f_l2Long l (show (0 : Int) ≤ 1 by decide) (by decide), drop_at l i hlt, succI i (by omega)]
      have e : IntKind.wrap .i64 (IntKind.wrap .i64 ((bif decide ((0 : Int) = (0 : Int)) then l[i].1 else (bif decide ((0 : Int) = (1 : Int)) then l[i].2.1 else l[i].2.2.1)) * side3 X Y Z 1) + (bif decide ((1 : Int) = (0 : Int)) then l[i].1 else (bif decide ((1 : Int) = (1 : Int)) then l[i].2.1 else l[i].2.2.1))) = lineI Y l[i] := by
        show IntKind.wrap .i64 (IntKind.wrap .i64 (l[i].1 * Y) + l[i].2.1) = _
        unfold lineI at *
        rw [w64 (x := l[i].1 * Y) (by omega) (by omega), w64 (by omega) (by omega)]
      simp only [cond_true, Option.bind_some, show inB (0 : Int) 3 = true from rfl, show inB (1 : Int) 3 = true from rfl] at e ⊢
      rw [e, inB_line hs hc ha]
      simp only [cond_true, List.foldl_cons]
      exact l_viewS hs hl hi (d - 1) (i + 1) m (upL Y acc l[i]) (by omega) (by omega) (by rw [upL_len, ha])
    · rw [ltF hlt, List.drop_eq_nil_of_le (by omega)]
      rfl

/-- How many cubes each column has. -/
def cols (X Y : Int) (l : List D_A3) : List Int := l.foldl (upL Y) (List.replicate (X * Y).toNat 0)

theorem foldl_upL_len (Y : Int) : ∀ (l : List D_A3) (acc : List Int), (l.foldl (upL Y) acc).length = acc.length
  | [], _ => rfl
  | c :: l, acc => by rw [List.foldl_cons, foldl_upL_len Y l, upL_len]

theorem cols_len (X Y : Int) (l : List D_A3) : (cols X Y l).length = (X * Y).toNat := by
  unfold cols
  rw [foldl_upL_len, List.length_replicate]

theorem guardN {n : Int} (h0 : 0 ≤ n) (h1 : n ≤ 1000) : (decide ((0 : Int) ≤ n) && decide (n ≤ n) && decide (n * ((8 : Nat) : Int) ≤ 140737488355328) && decide (n ≤ 140737488355328)) = true := by
  rw [decide_eq_true h0, decide_eq_true (Int.le_refl n), decide_eq_true (p := n * ((8 : Nat) : Int) ≤ 140737488355328) (by omega), decide_eq_true (p := n ≤ 140737488355328) (by omega)]
  rfl

theorem f_viewS {X Y Z : Int} (hs : sides X Y Z = true) {l : List D_A3} (hl : Small l) (hi : Ins X Y Z l) : P_spec_l2View ((X, Y, Z, l, ()), 2, ()) = some (cols X Y l, ()) := by
  have h5 := size64 hs
  rw [p_spec_l2View, p_spec_l2Others]
  simp only [show decide ((2 : Int) = 0) = false from rfl, show decide ((2 : Int) = 1) = false from rfl, cond_false, Option.bind_some]
  rw [f_l2Long l (show (0 : Int) ≤ 0 by decide) (by decide), f_l2Long l (show (0 : Int) ≤ 1 by decide) (by decide)]
  simp only [Option.bind_some]
  have e : IntKind.wrap .i64 (side3 X Y Z 0 * side3 X Y Z 1) = X * Y := by
    show IntKind.wrap .i64 (X * Y) = _
    rw [w64 (by omega) (by omega)]
  rw [e, guardN (by omega) (by omega)]
  exact l_viewS hs hl hi l.length 0 N (List.replicate (X * Y).toNat 0) (by simp) (by unfold Small at hl; have := N_ge; omega) (by simp)

/-- Is a cell below the top of its column? -/
def lowC (Y : Int) (V : List Int) (c : D_A3) : Bool := decide (c.2.2.1 < nth ((.int .i64) : Ty) V (lineI Y c))

theorem l_stackS {X Y Z X' Y' Z' : Int} (hs : sides X Y Z = true) {V : List Int} (hV : V.length = (X * Y).toNat) {al : List D_A3} (hal : Small al) (hin : Ins X Y Z al) : ∀ (d i m : Nat) (out : List D_A3), al.length = i + d → d < m → out.length ≤ i →
    l_spec_l2Stack_4 m 0 0 0 [] X' Y' Z' out Y V al (i : Int) = some ((X', Y', Z', out ++ (al.drop i).filter (lowC Y V), ()), ())
  | d, i, 0, out, _, h, _ => by omega
  | d, i, m + 1, out, hk, hm, ho => by
    have hal' := hal
    unfold Small at hal'
    rw [q_spec_l2Stack_4]
    by_cases hlt : i < al.length
    · have hc := hin _ (List.getElem_mem hlt)
      obtain ⟨h1, h2, h3, h4⟩ := line_ok hs hc
      have h5 := size64 hs
      have w := within3_iff.1 hc
      have s := sides_iff.1 hs
      have e : IntKind.wrap .i64 (IntKind.wrap .i64 (al[i].1 * Y) + al[i].2.1) = lineI Y al[i] := by
        unfold lineI at *
        rw [w64 (x := al[i].1 * Y) (by omega) (by omega), w64 (by omega) (by omega)]
      rw [ltT hlt, inB_at hlt, nthA (t := T_A3) hlt, e, inB_line hs hc hV, app_len' (by omega), drop_at al i hlt, succI i (by omega)]
      simp only [cond_true, List.filter_cons]
      cases hlow : decide (al[i].2.2.1 < nth ((.int .i64) : Ty) V (lineI Y al[i])) with
      | false =>
        have hl2 : lowC Y V al[i] = false := hlow
        rw [hl2]
        simp only [cond_false, Bool.false_eq_true, if_false]
        exact l_stackS hs hV hal hin (d - 1) (i + 1) m out (by omega) (by omega) (by omega)
      | true =>
        have hl2 : lowC Y V al[i] = true := hlow
        rw [hl2]
        simp only [cond_true, if_true]
        rw [l_stackS hs hV hal hin (d - 1) (i + 1) m _ (by omega) (by omega) (by simp; omega)]
        simp
    · rw [ltF hlt, List.drop_eq_nil_of_le (by omega)]
      simp

end Go.VI
/- Plain: parts of heaps, and what stands. -/
namespace Go.VI
open Go.Proofs

/-! ### Near cubes -/
def ab (x y : Int) : Int := if x - y > y - x then x - y else y - x

theorem most_ab (x y : Int) : P_spec_l1Most (x - y, y - x, ()) = some (ab x y, ()) := by
  rw [p_spec_l1Most]
  unfold ab
  by_cases h : x - y > y - x <;> simp [h]

theorem f_apart (a b : D_A3) (ha : Near a) (hb : Near b) : P_spec_l2Apart (a, b, ()) = some (ab a.1 b.1 + ab a.2.1 b.2.1 + ab a.2.2.1 b.2.2.1, ()) := by
  obtain ⟨n, hn⟩ : ∃ n, N = n + 4 := ⟨N - 4, by have := N_ge; omega⟩
  unfold Near at ha hb
  have bd : ∀ x y : Int, -1000 ≤ x → x ≤ 1000 → -1000 ≤ y → y ≤ 1000 → 0 ≤ ab x y ∧ ab x y ≤ 2000 := fun x y h1 h2 h3 h4 => by unfold ab; split <;> omega
  obtain ⟨x0, x1⟩ := bd a.1 b.1 (by omega) (by omega) (by omega) (by omega)
  obtain ⟨y0, y1⟩ := bd a.2.1 b.2.1 (by omega) (by omega) (by omega) (by omega)
  obtain ⟨z0, z1⟩ := bd a.2.2.1 b.2.2.1 (by omega) (by omega) (by omega) (by omega)
  have wr : ∀ x y : Int, -1000 ≤ x → x ≤ 1000 → -1000 ≤ y → y ≤ 1000 → IntKind.wrap .i64 (x - y) = x - y := fun x y h1 h2 h3 h4 => w64 (by omega) (by omega)
  have s : ∀ (m : Nat) (v x y : Int) (k : Nat), k < 3 → (bif decide ((k : Int) = (0 : Int)) then a.1 else (bif decide ((k : Int) = (1 : Int)) then a.2.1 else a.2.2.1)) = x → (bif decide ((k : Int) = (0 : Int)) then b.1 else (bif decide ((k : Int) = (1 : Int)) then b.2.1 else b.2.2.1)) = y → -1000 ≤ x → x ≤ 1000 → -1000 ≤ y → y ≤ 1000 → 0 ≤ v → v ≤ 100000 →
      l_spec_l2Apart_3 (m + 1) a.1 a.2.1 a.2.2.1 b.1 b.2.1 b.2.2.1 v (k : Int) = l_spec_l2Apart_3 m a.1 a.2.1 a.2.2.1 b.1 b.2.1 b.2.2.1 (v + ab x y) ((k + 1 : Nat) : Int) := by
    intro m v x y k hk hx hy h1 h2 h3 h4 h5 h6
    obtain ⟨b0, b1⟩ := bd x y h1 h2 h3 h4
    rw [q_spec_l2Apart_3, decide_eq_true (p := (k : Int) < 3) (by omega), inB_at (k := k) (n := 3) hk, hx, hy, wr x y h1 h2 h3 h4, wr y x h3 h4 h1 h2, most_ab, succI k (by omega)]
    simp only [cond_true, Option.bind_some]
    rw [w64 (by omega) (by omega)]
  have fin : ∀ (m : Nat) (v : Int), l_spec_l2Apart_3 (m + 1) a.1 a.2.1 a.2.2.1 b.1 b.2.1 b.2.2.1 v ((3 : Nat) : Int) = some (v, ()) := by
    intro m v; rw [q_spec_l2Apart_3]; rfl
  rw [p_spec_l2Apart]
  show l_spec_l2Apart_3 N a.1 a.2.1 a.2.2.1 b.1 b.2.1 b.2.2.1 0 ((0 : Nat) : Int) = _
  rw [hn, s (n + 3) 0 a.1 b.1 0 (by omega) rfl rfl (by omega) (by omega) (by omega) (by omega) (by omega) (by omega), s (n + 2) _ a.2.1 b.2.1 1 (by omega) rfl rfl (by omega) (by omega) (by omega) (by omega) (by omega) (by omega), s (n + 1) _ a.2.2.1 b.2.2.1 2 (by omega) rfl rfl (by omega) (by omega) (by omega) (by omega) (by omega) (by omega), fin]
  congr 2
  omega

theorem apart_nb (a c : D_A3) : ab a.1 c.1 + ab a.2.1 c.2.1 + ab a.2.2.1 c.2.2.1 = 1 ↔ nb c a := by
  rw [nb_iff]
  unfold ab
  constructor
  · intro h
    split at h <;> split at h <;> split at h <;> omega
  · intro h
    split <;> split <;> split <;> omega

theorem l_near {X Y Z : Int} {l : List D_A3} (hl : l.length ≤ 1000000) (hn : ∀ c ∈ l, Near c) {c : D_A3} (hc : Near c) (p : D_A3 → Bool) (hp : ∀ x, p x = true ↔ nb c x) : ∀ (d i m : Nat) (out : List D_A3), l.length = i + d → d < m → out.length ≤ i →
    l_spec_l2Near_3 m X Y Z l c.1 c.2.1 c.2.2.1 out (i : Int) = some (out ++ (l.drop i).filter p, ())
  | d, i, 0, out, _, h, _ => by omega
  | d, i, m + 1, out, hk, hm, ho => by
    rw [q_spec_l2Near_3]
    by_cases hlt : i < l.length
    · have e := f_apart l[i] c (hn _ (List.getElem_mem hlt)) hc
      have e' : P_spec_l2Apart (l[i], (c.1, (c.2.1, (c.2.2.1, ()))), ()) = _ := e
      rw [ltT hlt, inB_at hlt, nthA (t := T_A3) hlt, e', app_len' (by omega), drop_at l i hlt, succI i (by omega)]
      simp only [cond_true, Option.bind_some, List.filter_cons]
      by_cases h : nb c l[i]
      · rw [decide_eq_true ((apart_nb l[i] c).2 h), (hp _).2 h]
        simp only [cond_true, if_true]
        rw [l_near hl hn hc p hp (d - 1) (i + 1) m _ (by omega) (by omega) (by simp; omega)]
        simp
      · have hpf : p l[i] = false := by
          cases hb : p l[i] with
          | false => rfl
          | true => exact absurd ((hp _).1 hb) h
        rw [decide_eq_false (fun hh => h ((apart_nb l[i] c).1 hh)), hpf]
        simp only [cond_false, Bool.false_eq_true, if_false]
        exact l_near hl hn hc p hp (d - 1) (i + 1) m out (by omega) (by omega) (by omega)
    · rw [ltF hlt, List.drop_eq_nil_of_le (by omega)]
      simp

open Classical in
/-- Is a cell a neighbor? -/
noncomputable def nbB (c x : D_A3) : Bool := decide (nb c x)
open Classical in
theorem nbB_iff (c x : D_A3) : nbB c x = true ↔ nb c x := by simp [nbB]

theorem f_nearL {X Y Z : Int} {l : List D_A3} (hl : l.length ≤ 1000000) (hn : ∀ c ∈ l, Near c) {c : D_A3} (hc : Near c) : P_spec_l2Near ((X, Y, Z, l, ()), c, ()) = some (l.filter (nbB c), ()) := by
  have := l_near (X := X) (Y := Y) (Z := Z) hl hn hc (nbB c) (nbB_iff c) l.length 0 N [] (by simp) (by have := N_ge; omega) (by simp)
  rw [p_spec_l2Near]
  exact this

/-! ### One part -/
def Conn (l : List D_A3) (c0 : D_A3) : D_A3 → Prop := Rch (fun c => c = c0) (fun c => c ∈ l)

theorem Conn.mem {l : List D_A3} {c0 c : D_A3} (h0 : c0 ∈ l) (h : Conn l c0 c) : c ∈ l := by
  cases h with
  | base h => rw [h]; exact h0
  | step _ _ h => exact h

theorem Conn.trans {l : List D_A3} {a b c : D_A3} (h : Conn l a b) (k : Conn l b c) : Conn l a c :=
  Rch.mono (p := fun x => x = b) (fun x hx => by rw [hx]; exact h) (fun _ h => h) k

theorem Conn.symm {l : List D_A3} {a b : D_A3} (ha : a ∈ l) (h : Conn l a b) : Conn l b a := by
  induction h with
  | base h => exact .base h.symm
  | step hr hn hd ih =>
    rename_i c d
    have hc : c ∈ l := Conn.mem ha hr
    exact Conn.trans (.step (.base rfl) (nb_symm hn) hc) ih

/-- A part is being gathered: what is left, the list, what is put together; n cells are done. -/
structure Part (l L0 : List D_A3) (c0 : D_A3) (n np : Nat) (ls lf pt : List D_A3) : Prop where
  srt : Srt lf
  sub : ∀ c ∈ lf, c ∈ L0
  lsub : ∀ c ∈ ls, c ∈ L0
  all : ∀ c ∈ L0, c ∈ ls ∨ c ∈ lf
  apart : ∀ c ∈ ls, c ∉ lf
  conn : ∀ c ∈ ls, Conn l c0 c
  done : ∀ i, i < n → ∀ c, ls[i]? = some c → ∀ d, nb c d → d ∉ lf
  psrt : Srt pt
  pmem : ∀ c, c ∈ pt ↔ c ∈ ls.take np
  nodup : ls.Nodup
  start : c0 ∈ ls

theorem Part.len {l L0 : List D_A3} {c0 : D_A3} {n np : Nat} {ls lf pt : List D_A3} (h : Part l L0 c0 n np ls lf pt) (hr : Srt L0) : ls.length + lf.length = L0.length := by
  have hp : L0.Perm (ls ++ lf) := by
    refine (List.perm_ext_iff_of_nodup hr.nodup ?_).2 fun c => ?_
    · rw [List.nodup_append]
      exact ⟨h.nodup, h.srt.nodup, fun a ha b hb e => h.apart a ha (e ▸ hb)⟩
    · rw [List.mem_append]
      exact ⟨h.all c, fun hc => hc.elim (h.lsub c) (h.sub c)⟩
  rw [hp.length_eq, List.length_append]

/-- One near cell is taken over. -/
theorem Part.take {l L0 : List D_A3} {c0 : D_A3} {n np : Nat} {ls lf pt : List D_A3} (hl : ∀ c ∈ L0, c ∈ l) (h : Part l L0 c0 n np ls lf pt) {c x : D_A3} (hcl : c ∈ ls) (hx : x ∈ lf) (hn : nb c x) (hnp : np ≤ ls.length) (hpt : n ≤ ls.length) :
    Part l L0 c0 n np (ls ++ [x]) (lf.filter fun y => !decide (y = x)) pt := by
  have hxl : x ∉ ls := fun hh => h.apart x hh hx
  refine ⟨h.srt.filter _, fun y hy => h.sub y (List.mem_filter.1 hy).1, fun y hy => ?_, fun y hy => ?_, fun y hy => ?_, fun y hy => ?_, fun i hi y hy d hd => ?_, h.psrt, fun y => ?_, ?_, List.mem_append_left _ h.start⟩
  · rcases List.mem_append.1 hy with hy | hy
    · exact h.lsub y hy
    · rw [List.mem_singleton.1 hy]; exact h.sub x hx
  · rcases h.all y hy with hy | hy
    · exact .inl (List.mem_append_left _ hy)
    · by_cases e : y = x
      · exact .inl (by rw [e]; simp)
      · exact .inr (List.mem_filter.2 ⟨hy, by simp [e]⟩)
  · intro hh
    have hh' := List.mem_filter.1 hh
    rcases List.mem_append.1 hy with hy | hy
    · exact h.apart y hy hh'.1
    · rw [List.mem_singleton.1 hy] at hh'
      simp at hh'
  · rcases List.mem_append.1 hy with hy | hy
    · exact h.conn y hy
    · rw [List.mem_singleton.1 hy]
      exact .step (h.conn c hcl) hn (hl x (h.sub x hx))
  · rw [List.getElem?_append_left (by omega)] at hy
    exact fun hh => h.done i hi y hy d hd (List.mem_filter.1 hh).1
  · rw [h.pmem, List.take_append_of_le_length (by omega)]
  · rw [List.nodup_append]
    exact ⟨h.nodup, (by simp), fun a ha b hb e => hxl (by rw [← List.mem_singleton.1 hb, ← e]; exact ha)⟩
end Go.VI
/- Plain: pieces behind cuts, as the reference finds them. -/
namespace Go.VI
open Go.Proofs

/-- Do two cells lie on the same sides of all cuts? -/
def same (cuts : List D_A2) (a b : D_A3) : Bool := cuts.all fun t => decide (get3 a t.1 < t.2.1) == decide (get3 b t.1 < t.2.1)

theorem same_iff {cuts : List D_A2} {a b : D_A3} : same cuts a b = true ↔ ∀ t ∈ cuts, (get3 a t.1 < t.2.1 ↔ get3 b t.1 < t.2.1) := by
  unfold same
  rw [List.all_eq_true]
  constructor
  · intro h t ht
    have := h t ht
    rw [beq_iff_eq, decide_eq_decide] at this
    exact this
  · intro h t ht
    rw [beq_iff_eq, decide_eq_decide]
    exact h t ht

theorem same_refl (cuts : List D_A2) (a : D_A3) : same cuts a a = true := same_iff.2 fun _ _ => Iff.rfl
theorem same_symm {cuts : List D_A2} {a b : D_A3} (h : same cuts a b = true) : same cuts b a = true := same_iff.2 fun t ht => (same_iff.1 h t ht).symm
theorem same_trans {cuts : List D_A2} {a b c : D_A3} (h : same cuts a b = true) (k : same cuts b c = true) : same cuts a c = true := same_iff.2 fun t ht => (same_iff.1 h t ht).trans (same_iff.1 k t ht)

def Dirs (cuts : List D_A2) : Prop := ∀ t ∈ cuts, 0 ≤ t.1 ∧ t.1 ≤ 2

/-- What is reached on one side of all cuts. -/
def ConnS (cuts : List D_A2) (l : List D_A3) (c0 : D_A3) : D_A3 → Prop := Rch (fun c => c = c0) (fun c => c ∈ l ∧ same cuts c0 c = true)

theorem ConnS.mem {cuts : List D_A2} {l : List D_A3} {c0 c : D_A3} (h0 : c0 ∈ l) (h : ConnS cuts l c0 c) : c ∈ l := by
  cases h with
  | base h => rw [h]; exact h0
  | step _ _ h => exact h.1

theorem ConnS.same {cuts : List D_A2} {l : List D_A3} {c0 c : D_A3} (h : ConnS cuts l c0 c) : same cuts c0 c = true := by
  cases h with
  | base h => rw [h]; exact same_refl _ _
  | step _ _ h => exact h.2

theorem ConnS.conn {cuts : List D_A2} {l : List D_A3} {c0 c : D_A3} (h : ConnS cuts l c0 c) : Conn l c0 c := Rch.mono (fun _ hx => .base hx) (fun _ hx => hx.1) h

/-- A piece is being gathered. -/
structure PartS (cuts : List D_A2) (l L0 : List D_A3) (c0 : D_A3) (n np : Nat) (ls lf pt : List D_A3) : Prop where
  srt : Srt lf
  sub : ∀ c ∈ lf, c ∈ L0
  lsub : ∀ c ∈ ls, c ∈ L0
  all : ∀ c ∈ L0, c ∈ ls ∨ c ∈ lf
  apart : ∀ c ∈ ls, c ∉ lf
  conn : ∀ c ∈ ls, ConnS cuts l c0 c
  done : ∀ i, i < n → ∀ c, ls[i]? = some c → ∀ d, nb c d → same cuts c d = true → d ∉ lf
  psrt : Srt pt
  pmem : ∀ c, c ∈ pt ↔ c ∈ ls.take np
  nodup : ls.Nodup
  start : c0 ∈ ls

theorem PartS.len {cuts : List D_A2} {l L0 : List D_A3} {c0 : D_A3} {n np : Nat} {ls lf pt : List D_A3} (h : PartS cuts l L0 c0 n np ls lf pt) (hr : Srt L0) : ls.length + lf.length = L0.length := by
  have hp : L0.Perm (ls ++ lf) := by
    refine (List.perm_ext_iff_of_nodup hr.nodup ?_).2 fun c => ?_
    · rw [List.nodup_append]
      exact ⟨h.nodup, h.srt.nodup, fun a ha b hb e => h.apart a ha (e ▸ hb)⟩
    · rw [List.mem_append]
      exact ⟨h.all c, fun hc => hc.elim (h.lsub c) (h.sub c)⟩
  rw [hp.length_eq, List.length_append]

theorem PartS.take {cuts : List D_A2} {l L0 : List D_A3} {c0 : D_A3} {n np : Nat} {ls lf pt : List D_A3} (hl : ∀ c ∈ L0, c ∈ l) (h : PartS cuts l L0 c0 n np ls lf pt) {c x : D_A3} (hcl : c ∈ ls) (hx : x ∈ lf) (hn : nb c x) (hsm : same cuts c x = true) (hnp : np ≤ ls.length) (hpt : n ≤ ls.length) :
    PartS cuts l L0 c0 n np (ls ++ [x]) (lf.filter fun y => !decide (y = x)) pt := by
  have hxl : x ∉ ls := fun hh => h.apart x hh hx
  refine ⟨h.srt.filter _, fun y hy => h.sub y (List.mem_filter.1 hy).1, fun y hy => ?_, fun y hy => ?_, fun y hy => ?_, fun y hy => ?_, fun i hi y hy d hd hs => ?_, h.psrt, fun y => ?_, ?_, List.mem_append_left _ h.start⟩
  · rcases List.mem_append.1 hy with hy | hy
    · exact h.lsub y hy
    · rw [List.mem_singleton.1 hy]; exact h.sub x hx
  · rcases h.all y hy with hy | hy
    · exact .inl (List.mem_append_left _ hy)
    · by_cases e : y = x
      · exact .inl (by rw [e]; simp)
      · exact .inr (List.mem_filter.2 ⟨hy, by simp [e]⟩)
  · intro hh
    have hh' := List.mem_filter.1 hh
    rcases List.mem_append.1 hy with hy | hy
    · exact h.apart y hy hh'.1
    · rw [List.mem_singleton.1 hy] at hh'
      simp at hh'
  · rcases List.mem_append.1 hy with hy | hy
    · exact h.conn y hy
    · rw [List.mem_singleton.1 hy]
      exact .step (h.conn c hcl) hn ⟨hl x (h.sub x hx), same_trans (h.conn c hcl).same hsm⟩
  · intro hh
    have hh' := List.mem_filter.1 hh
    rw [List.getElem?_append_left (by omega)] at hy
    exact h.done i hi y hy d hd hs hh'.1
  · rw [h.pmem, List.take_append_of_le_length hnp]
  · rw [List.nodup_append]
    exact ⟨h.nodup, by simp, fun a ha b hb e => hxl (by rw [← List.mem_singleton.1 hb, ← e]; exact ha)⟩

end Go.VI
