/- Plain: the lines of cells, and what the reference's search finds. -/
import Derived.Test.YtbpjlmhkoflcgaaGreatPlMg
namespace Go.VI
open Go.Proofs
def l1 (s : D_Shadow) (c : D_A3) : Nat := (lineD s.1 s.2.1 s.2.2.1 2 c).toNat
def l2 (s : D_Shadow) (c : D_A3) : Nat := (s.1 * s.2.1).toNat + (lineD s.1 s.2.1 s.2.2.1 1 c).toNat
def l3 (s : D_Shadow) (c : D_A3) : Nat := (s.1 * s.2.1).toNat + (s.1 * s.2.2.1).toNat + (lineD s.1 s.2.1 s.2.2.1 0 c).toNat
def allL (s : D_Shadow) : List Int := (s.2.2.2.1 ++ s.2.2.2.2.1) ++ s.2.2.2.2.2.1
theorem all_len3 {s : D_Shadow} (ho : okSh s = true) : s.2.2.2.1.length = (s.1 * s.2.1).toNat ∧ s.2.2.2.2.1.length = (s.1 * s.2.2.1).toNat ∧ s.2.2.2.2.2.1.length = (s.2.1 * s.2.2.1).toNat ∧ 1 ≤ s.1 * s.2.1 ∧ s.1 * s.2.1 ≤ 16 ∧ 1 ≤ s.1 * s.2.2.1 ∧ s.1 * s.2.2.1 ≤ 16 ∧ 1 ≤ s.2.1 * s.2.2.1 ∧ s.2.1 * s.2.2.1 ≤ 16 := by
  obtain ⟨hs, _⟩ := okSh_iff.1 ho
  have h2 := (list_len ho (d := 2) (by decide) (by decide)).1
  have h1 := (list_len ho (d := 1) (by decide) (by decide)).1
  have h0 := (list_len ho (d := 0) (by decide) (by decide)).1
  have e2 := lines_ok hs (d := 2) (by decide) (by decide)
  have e1 := lines_ok hs (d := 1) (by decide) (by decide)
  have e0 := lines_ok hs (d := 0) (by decide) (by decide)
  exact ⟨h2, h1, h0, e2.1, e2.2, e1.1, e1.2, e0.1, e0.2⟩
theorem f_lines3 {s : D_Shadow} (hs : sides s.1 s.2.1 s.2.2.1 = true) {c : D_A3} (hc : within3 s.1 s.2.1 s.2.2.1 c = true) : P_ch (s, c, ()) = some (((l1 s c : Int), (l2 s c : Int), (l3 s c : Int), ()), ()) := by
  obtain ⟨b0, b1, b2, b3, b4, b5⟩ := lineD_ok hs (d := 2) (by decide) (by decide) hc
  obtain ⟨c0, c1, c2, c3, c4, c5⟩ := lineD_ok hs (d := 1) (by decide) (by decide) hc
  obtain ⟨d0, d1, d2, d3, d4, d5⟩ := lineD_ok hs (d := 0) (by decide) (by decide) hc
  have e2 := lines_ok hs (d := 2) (by decide) (by decide)
  have e1 := lines_ok hs (d := 1) (by decide) (by decide)
  have e0 := lines_ok hs (d := 0) (by decide) (by decide)
  have k2 : lineD s.1 s.2.1 s.2.2.1 2 c = c.1 * s.2.1 + c.2.1 := rfl
  have k1 : lineD s.1 s.2.1 s.2.2.1 1 c = c.1 * s.2.2.1 + c.2.2.1 := rfl
  have k0 : lineD s.1 s.2.1 s.2.2.1 0 c = c.2.1 * s.2.2.1 + c.2.2.1 := rfl
  have q2 : linesD s.1 s.2.1 s.2.2.1 2 = s.1 * s.2.1 := rfl
  have q1 : linesD s.1 s.2.1 s.2.2.1 1 = s.1 * s.2.2.1 := rfl
  have q0 : linesD s.1 s.2.1 s.2.2.1 0 = s.2.1 * s.2.2.1 := rfl
  have r2 : 0 ≤ c.1 * s.2.1 := b2
  have r2' : c.1 * s.2.1 ≤ 16 := b3
  have r1 : 0 ≤ c.1 * s.2.2.1 := c2
  have r1' : c.1 * s.2.2.1 ≤ 16 := c3
  have r0 : 0 ≤ c.2.1 * s.2.2.1 := d2
  have r0' : c.2.1 * s.2.2.1 ≤ 16 := d3
  rw [p_ch]
  unfold l1 l2 l3
  rw [k2] at b0 b1 ⊢
  rw [k1] at c0 c1 ⊢
  rw [k0] at d0 d1 ⊢
  rw [q2] at e2 b1
  rw [q1] at e1 c1
  rw [q0] at e0 d1
  generalize c.1 * s.2.1 = A at *
  generalize c.1 * s.2.2.1 = B at *
  generalize c.2.1 * s.2.2.1 = C at *
  generalize s.1 * s.2.1 = D at *
  generalize s.1 * s.2.2.1 = E at *
  rw [w64 (x := A) (by omega) (by omega), w64 (x := B) (by omega) (by omega), w64 (x := C) (by omega) (by omega), w64 (x := D) (by omega) (by omega), w64 (x := E) (by omega) (by omega), w64 (x := A + c.2.1) (by omega) (by omega), w64 (x := D + B) (by omega) (by omega), w64 (x := D + E) (by omega) (by omega), w64 (x := D + B + c.2.2.1) (by omega) (by omega), w64 (x := D + E + C) (by omega) (by omega), w64 (x := D + E + C + c.2.2.1) (by omega) (by omega)]
  have x1 : ((A + c.2.1).toNat : Int) = A + c.2.1 := by omega
  have x2 : ((D.toNat + (B + c.2.2.1).toNat : Nat) : Int) = D + B + c.2.2.1 := by omega
  have x3 : ((D.toNat + E.toNat + (C + c.2.2.1).toNat : Nat) : Int) = D + E + C + c.2.2.1 := by omega
  rw [x1, x2, x3]
theorem lines_in {s : D_Shadow} (ho : okSh s = true) {c : D_A3} (hc : within3 s.1 s.2.1 s.2.2.1 c = true) : l1 s c < (allL s).length ∧ l2 s c < (allL s).length ∧ l3 s c < (allL s).length ∧ (allL s).length ≤ 48 := by
  obtain ⟨hs, _⟩ := okSh_iff.1 ho
  obtain ⟨h2, h1, h0, e1, e2, e3, e4, e5, e6⟩ := all_len3 ho
  obtain ⟨b0, b1, _⟩ := lineD_ok hs (d := 2) (by decide) (by decide) hc
  obtain ⟨c0, c1, _⟩ := lineD_ok hs (d := 1) (by decide) (by decide) hc
  obtain ⟨d0, d1, _⟩ := lineD_ok hs (d := 0) (by decide) (by decide) hc
  have q2 : linesD s.1 s.2.1 s.2.2.1 2 = s.1 * s.2.1 := rfl
  have q1 : linesD s.1 s.2.1 s.2.2.1 1 = s.1 * s.2.2.1 := rfl
  have q0 : linesD s.1 s.2.1 s.2.2.1 0 = s.2.1 * s.2.2.1 := rfl
  rw [q2] at b1
  rw [q1] at c1
  rw [q0] at d1
  have hl : (allL s).length = (s.1 * s.2.1).toNat + (s.1 * s.2.2.1).toNat + (s.2.1 * s.2.2.1).toNat := by
    unfold allL
    rw [List.length_append, List.length_append, h2, h1, h0]
  unfold l1 l2 l3
  omega
def onLine (s : D_Shadow) (c : D_A3) (i : Nat) : Bool := decide (i = l1 s c) || (decide (i = l2 s c) || decide (i = l3 s c))
def set3 (s : D_Shadow) (b : Bool) (V : List Bool) (c : D_A3) : List Bool := ((V.set (l1 s c) b).set (l2 s c) b).set (l3 s c) b
theorem set3_len (s : D_Shadow) (b : Bool) (V : List Bool) (c : D_A3) : (set3 s b V c).length = V.length := by simp [set3]
theorem set3_at {s : D_Shadow} {b : Bool} {V : List Bool} {c : D_A3} {i : Nat} (hi : i < V.length) : (set3 s b V c)[i]? = some (if onLine s c i = true then b else V[i]) := by
  unfold set3 onLine
  simp only [List.getElem?_set, List.length_set]
  by_cases h3 : l3 s c = i
  · subst h3; simp [hi]
  · by_cases h2 : l2 s c = i
    · subst h2; simp [hi, h3, Ne.symm h3]
    · by_cases h1 : l1 s c = i
      · subst h1; simp [hi, h3, h2, Ne.symm h2, Ne.symm h3]
      · simp [h1, h2, h3, Ne.symm h1, Ne.symm h2, Ne.symm h3, List.getElem?_eq_getElem hi]
theorem fold3_len (s : D_Shadow) (b : Bool) : ∀ (l : List D_A3) (V : List Bool), (l.foldl (set3 s b) V).length = V.length
  | [], V => rfl
  | c :: l, V => by rw [List.foldl_cons, fold3_len s b l, set3_len]
theorem fold3_at {s : D_Shadow} {b : Bool} {i : Nat} : ∀ (l : List D_A3) (V : List Bool) (hi : i < V.length), (l.foldl (set3 s b) V)[i]? = some (if (l.any fun c => onLine s c i) = true then b else V[i])
  | [], V, hi => by simp [List.getElem?_eq_getElem hi]
  | c :: l, V, hi => by
    have hi' : i < (set3 s b V c).length := by rw [set3_len]; exact hi
    have e := set3_at (s := s) (b := b) (c := c) hi
    rw [List.getElem?_eq_getElem hi'] at e
    have e := Option.some.inj e
    rw [List.foldl_cons, fold3_at l _ hi', e, List.any_cons]
    cases onLine s c i <;> cases (l.any fun c => onLine s c i) <;> simp
def darkL (s : D_Shadow) (ch : List D_A3) : List Bool := ch.foldl (set3 s false) ((allL s).map fun x => decide (x = 1))
theorem darkL_len (s : D_Shadow) (ch : List D_A3) : (darkL s ch).length = (allL s).length := by rw [darkL, fold3_len, List.length_map]
def Dark (s : D_Shadow) (ch : List D_A3) (i : Nat) : Prop := (allL s)[i]? = some 1 ∧ ∀ c ∈ ch, onLine s c i = false
theorem darkL_at {s : D_Shadow} {ch : List D_A3} {i : Nat} (hi : i < (darkL s ch).length) : (darkL s ch)[i] = true ↔ Dark s ch i := by
  have hi' : i < (allL s).length := by rwa [darkL_len] at hi
  have e : (darkL s ch)[i]? = _ := fold3_at (s := s) (b := false) ch ((allL s).map fun x => decide (x = 1)) (by rw [List.length_map]; exact hi')
  rw [List.getElem?_eq_getElem hi] at e
  rw [Option.some.inj e, List.getElem_map]
  unfold Dark
  rw [List.getElem?_eq_getElem hi', Option.some.injEq]
  cases ha : (ch.any fun c => onLine s c i) with
  | true =>
    simp only [if_true]
    constructor
    · intro h; cases h
    · rintro ⟨_, h⟩
      rw [List.any_eq_true] at ha
      obtain ⟨c, hc, h2⟩ := ha
      rw [h c hc] at h2
      cases h2
  | false =>
    simp only [Bool.false_eq_true, if_false, decide_eq_true_eq]
    rw [List.any_eq_false] at ha
    exact ⟨fun h => ⟨h, fun c hc => by simpa using ha c hc⟩, fun h => h.1⟩
theorem l_dark12 {s : D_Shadow} (ho : okSh s = true) {c : D_A3} (hc : within3 s.1 s.2.1 s.2.2.1 c = true) (ch : List D_A3) (V : List Bool) (hV : V.length = (allL s).length) (k : Int) (m0 m1 : Nat) :
    l_ah_12 m0 (m1 + 1 + 1 + 1 + 1) s.1 s.2.1 s.2.2.1 s.2.2.2.1 s.2.2.2.2.1 s.2.2.2.2.2.1 (l1 s c : Int) (l2 s c : Int) (l3 s c : Int) ch V k 0 = l_ah_8 m0 s.1 s.2.1 s.2.2.1 s.2.2.2.1 s.2.2.2.2.1 s.2.2.2.2.2.1 ch (set3 s false V c) (IntKind.wrap .i64 (k + 1)) := by
  obtain ⟨h1, h2, h3, _⟩ := lines_in ho hc
  rw [q_ah_12, decide_eq_true (p := (0 : Int) < 3) (by decide), decide_eq_true (p := (0 : Int) = 0) rfl, one64]
  simp only [cond_true]
  rw [show inB 0 3 = true from rfl, inB_at (k := l1 s c) (by omega), Int.toNat_natCast]
  simp only [cond_true]
  rw [q_ah_12, decide_eq_true (p := (1 : Int) < 3) (by decide), decide_eq_false (p := (1 : Int) = 0) (by decide), decide_eq_true (p := (1 : Int) = 1) rfl, two64]
  simp only [cond_true, cond_false]
  rw [show inB 1 3 = true from rfl, inB_at (k := l2 s c) (by rw [List.length_set]; omega), Int.toNat_natCast]
  simp only [cond_true]
  rw [q_ah_12, decide_eq_true (p := (2 : Int) < 3) (by decide), decide_eq_false (p := (2 : Int) = 0) (by decide), decide_eq_false (p := (2 : Int) = 1) (by decide), three64]
  simp only [cond_true, cond_false]
  rw [show inB 2 3 = true from rfl, inB_at (k := l3 s c) (by rw [List.length_set, List.length_set]; omega), Int.toNat_natCast]
  simp only [cond_true]
  rw [q_ah_12, decide_eq_false (p := (3 : Int) < 3) (by decide)]
  rfl
theorem l_dark8 {s : D_Shadow} (ho : okSh s = true) {ch : List D_A3} (hch : Ins s.1 s.2.1 s.2.2.1 ch) (hl : ch.length ≤ 1000000) : ∀ (d k m : Nat) (V : List Bool), ch.length = k + d → d < m → V.length = (allL s).length →
    l_ah_8 m s.1 s.2.1 s.2.2.1 s.2.2.2.1 s.2.2.2.2.1 s.2.2.2.2.2.1 ch V (k : Int) = some ((ch.drop k).foldl (set3 s false) V, ())
  | d, k, 0, V, _, h, _ => by omega
  | d, k, m + 1, V, hk, hm, hV => by
    obtain ⟨hs, _⟩ := okSh_iff.1 ho
    rw [q_ah_8]
    by_cases hlt : k < ch.length
    · have hc := hch _ (List.getElem_mem hlt)
      have e : P_ch ((s.1, (s.2.1, (s.2.2.1, (s.2.2.2.1, (s.2.2.2.2.1, (s.2.2.2.2.2.1, ())))))), ch[k], ()) = _ := f_lines3 hs hc
      obtain ⟨n, hn⟩ : ∃ n, N = n + 1 + 1 + 1 + 1 := ⟨N - 4, by have := N_ge; omega⟩
      rw [ltT hlt, inB_at hlt, nthA (t := T_A3) hlt, e]
      simp only [cond_true, Option.bind_some]
      rw [hn, l_dark12 ho hc ch V hV (k : Int) m n, succI k (by omega), l_dark8 ho hch hl (d - 1) (k + 1) m _ (by omega) (by omega) (by rw [set3_len]; exact hV), drop_at ch k hlt]
      rfl
    · rw [ltF hlt, List.drop_eq_nil_of_le (by omega)]
      rfl
theorem l_dark4 {s : D_Shadow} {ch : List D_A3} {L : List Int} (hL : L.length ≤ 100) : ∀ (d k m : Nat) (V : List Bool), L.length = k + d → d < m → V.length = k →
    l_ah_4 m s.1 s.2.1 s.2.2.1 s.2.2.2.1 s.2.2.2.2.1 s.2.2.2.2.2.1 ch V L (k : Int) = l_ah_8 N s.1 s.2.1 s.2.2.1 s.2.2.2.1 s.2.2.2.2.1 s.2.2.2.2.2.1 ch (V ++ (L.drop k).map fun x => decide (x = 1)) 0
  | d, k, 0, V, _, h, _ => by omega
  | d, k, m + 1, V, hk, hm, hV => by
    rw [q_ah_4]
    by_cases hlt : k < L.length
    · have e : nth ((.int .i64) : Ty) L (k : Int) = L[k] := nthA (t := .int .i64) hlt
      rw [ltT hlt, inB_at hlt, e]
      simp only [cond_true]
      rw [decide_eq_true (p := (V.length + ([decide (L[k] = 1)] : List Bool).length) * 1 ≤ 140737488355328) (by simp only [List.length_singleton]; omega), decide_eq_true (p := V.length + ([decide (L[k] = 1)] : List Bool).length ≤ 140737488355328) (by simp only [List.length_singleton]; omega), succI k (by omega)]
      simp only [Bool.and_self, cond_true]
      rw [l_dark4 hL (d - 1) (k + 1) m _ (by omega) (by omega) (by simp [hV]), drop_at L k hlt, List.map_cons, List.append_assoc]
      rfl
    · rw [ltF hlt, List.drop_eq_nil_of_le (by omega)]
      simp
theorem f_l1Own3 {l : List Int} (hl : l.length ≤ 1000000) : P_b7 (l, ()) = some (l, ()) := by
  rw [p_b7, decide_eq_true (p := (([] : List Int).length + l.length) * 8 ≤ 140737488355328) (by simp only [List.length_nil]; omega), decide_eq_true (p := ([] : List Int).length + l.length ≤ 140737488355328) (by simp only [List.length_nil]; omega)]
  rfl
theorem f_dark {s : D_Shadow} (ho : okSh s = true) {ch : List D_A3} (hch : Ins s.1 s.2.1 s.2.2.1 ch) (hl : ch.length ≤ 1000000) : P_ah (s, ch, ()) = some (darkL s ch, ()) := by
  obtain ⟨h2, h1, h0, e1, e2, e3, e4, e5, e6⟩ := all_len3 ho
  have hL : (allL s).length ≤ 100 := by
    unfold allL
    rw [List.length_append, List.length_append]
    omega
  have h4 := l_dark4 (s := s) (ch := ch) hL (allL s).length 0 N [] (by simp) (by have := N_ge; omega) rfl
  have h8 := l_dark8 ho hch hl ch.length 0 N ((allL s).map fun x => decide (x = 1)) (by simp) (by have := N_ge; omega) (by simp)
  rw [p_ah, f_l1Own3 (by omega)]
  simp only [Option.bind_some]
  rw [decide_eq_true (p := (s.2.2.2.1.length + s.2.2.2.2.1.length) * 8 ≤ 140737488355328) (by omega), decide_eq_true (p := s.2.2.2.1.length + s.2.2.2.2.1.length ≤ 140737488355328) (by omega), List.length_append, decide_eq_true (p := (s.2.2.2.1.length + s.2.2.2.2.1.length + s.2.2.2.2.2.1.length) * 8 ≤ 140737488355328) (by omega), decide_eq_true (p := s.2.2.2.1.length + s.2.2.2.2.1.length + s.2.2.2.2.2.1.length ≤ 140737488355328) (by omega)]
  simp only [Bool.and_self, cond_true]
  rw [List.drop_zero, List.nil_append] at h4
  rw [List.drop_zero] at h8
  exact h4.trans h8
end Go.VI
/- Plain: the reference's search for few cells. -/
namespace Go.VI
open Go.Proofs
theorem l_can7 {s : D_Shadow} (ho : okSh s = true) {c : D_A3} (hc : within3 s.1 s.2.1 s.2.2.1 c = true) (l : List D_A3) (W V : List Bool) (hV : V.length = (allL s).length) (k : Int) (m0 m1 : Nat) :
    l_ag_7 m0 (m1 + 1 + 1 + 1 + 1) s.1 s.2.1 s.2.2.1 s.2.2.2.1 s.2.2.2.2.1 s.2.2.2.2.2.1 (l1 s c : Int) (l2 s c : Int) (l3 s c : Int) l W V k 0 = l_ag_3 m0 s.1 s.2.1 s.2.2.1 s.2.2.2.1 s.2.2.2.2.1 s.2.2.2.2.2.1 l W (set3 s true V c) (IntKind.wrap .i64 (k + 1)) := by
  obtain ⟨h1, h2, h3, _⟩ := lines_in ho hc
  rw [q_ag_7, decide_eq_true (p := (0 : Int) < 3) (by decide), decide_eq_true (p := (0 : Int) = 0) rfl, one64]
  simp only [cond_true]
  rw [show inB 0 3 = true from rfl, inB_at (k := l1 s c) (by omega), Int.toNat_natCast]
  simp only [cond_true]
  rw [q_ag_7, decide_eq_true (p := (1 : Int) < 3) (by decide), decide_eq_false (p := (1 : Int) = 0) (by decide), decide_eq_true (p := (1 : Int) = 1) rfl, two64]
  simp only [cond_true, cond_false]
  rw [show inB 1 3 = true from rfl, inB_at (k := l2 s c) (by rw [List.length_set]; omega), Int.toNat_natCast]
  simp only [cond_true]
  rw [q_ag_7, decide_eq_true (p := (2 : Int) < 3) (by decide), decide_eq_false (p := (2 : Int) = 0) (by decide), decide_eq_false (p := (2 : Int) = 1) (by decide), three64]
  simp only [cond_true, cond_false]
  rw [show inB 2 3 = true from rfl, inB_at (k := l3 s c) (by rw [List.length_set, List.length_set]; omega), Int.toNat_natCast]
  simp only [cond_true]
  rw [q_ag_7, decide_eq_false (p := (3 : Int) < 3) (by decide)]
  rfl
theorem l_can3 {s : D_Shadow} (ho : okSh s = true) {l : List D_A3} (hch : Ins s.1 s.2.1 s.2.2.1 l) (hl : l.length ≤ 1000000) (W : List Bool) : ∀ (d k m : Nat) (V : List Bool), l.length = k + d → d < m → V.length = (allL s).length →
    l_ag_3 m s.1 s.2.1 s.2.2.1 s.2.2.2.1 s.2.2.2.2.1 s.2.2.2.2.2.1 l W V (k : Int) = l_ag_11 N W ((l.drop k).foldl (set3 s true) V) 0
  | d, k, 0, V, _, h, _ => by omega
  | d, k, m + 1, V, hk, hm, hV => by
    obtain ⟨hs, _⟩ := okSh_iff.1 ho
    rw [q_ag_3]
    by_cases hlt : k < l.length
    · have hc := hch _ (List.getElem_mem hlt)
      have e : P_ch ((s.1, (s.2.1, (s.2.2.1, (s.2.2.2.1, (s.2.2.2.2.1, (s.2.2.2.2.2.1, ())))))), l[k], ()) = _ := f_lines3 hs hc
      obtain ⟨n, hn⟩ : ∃ n, N = n + 1 + 1 + 1 + 1 := ⟨N - 4, by have := N_ge; omega⟩
      rw [ltT hlt, inB_at hlt, nthA (t := T_A3) hlt, e]
      simp only [cond_true, Option.bind_some]
      have h7 := l_can7 ho hc l W V hV (k : Int) m n
      rw [← hn] at h7
      rw [h7, succI k (by omega), l_can3 ho hch hl W (d - 1) (k + 1) m _ (by omega) (by omega) (by rw [set3_len]; exact hV), drop_at l k hlt]
      rfl
    · rw [ltF hlt, List.drop_eq_nil_of_le (by omega)]
      rfl
theorem l_can11 {W S : List Bool} (hW : W.length ≤ 100) (hS : S.length = W.length) : ∀ (d k m : Nat), W.length = k + d → d < m →
    ∃ b, l_ag_11 m W S (k : Int) = some (b, ()) ∧ (b = true ↔ ∀ i, k ≤ i → W[i]? = some true → S[i]? = some true)
  | d, k, 0, _, h => by omega
  | d, k, m + 1, hk, hm => by
    rw [q_ag_11]
    by_cases hlt : k < W.length
    · have e : nth (.bool : Ty) W (k : Int) = W[k] := nthA (t := .bool) hlt
      have e2 : nth (.bool : Ty) S (k : Int) = S[k]'(by omega) := nthA (t := .bool) (by omega)
      obtain ⟨b, r1, r2⟩ := l_can11 hW hS (d - 1) (k + 1) m (by omega) (by omega)
      rw [ltT hlt, inB_at hlt, inB_at (k := k) (n := S.length) (by omega), e, e2, succI k (by omega), r1]
      simp only [cond_true]
      have stepf : (∀ i, k + 1 ≤ i → W[i]? = some true → S[i]? = some true) → (W[k]? = some true → S[k]? = some true) → ∀ i, k ≤ i → W[i]? = some true → S[i]? = some true := fun h h0 i hi hw => by
        by_cases e : i = k
        · subst e; exact h0 hw
        · exact h i (by omega) hw
      cases hb : W[k] with
      | false =>
        refine ⟨b, rfl, r2.trans ⟨fun h => stepf h (fun hw => ?_), fun h i hi => h i (by omega)⟩⟩
        rw [List.getElem?_eq_getElem hlt, hb] at hw
        cases hw
      | true =>
        cases hc : S[k]'(by omega) with
        | false =>
          refine ⟨false, rfl, Iff.intro (fun h => Bool.noConfusion h) (fun h => ?_)⟩
          have := h k (Nat.le_refl _) (by rw [List.getElem?_eq_getElem hlt, hb])
          rw [List.getElem?_eq_getElem (by omega), hc] at this
          cases this
        | true =>
          refine ⟨b, rfl, r2.trans ⟨fun h => stepf h (fun _ => by rw [List.getElem?_eq_getElem (by omega), hc]), fun h i hi => h i (by omega)⟩⟩
    · rw [ltF hlt]
      refine ⟨true, rfl, Iff.intro (fun _ i hi hw => ?_) (fun _ => rfl)⟩
      rw [List.getElem?_eq_none (by omega)] at hw
      cases hw
theorem f_can {s : D_Shadow} (ho : okSh s = true) {ch l : List D_A3} (hi : Ins s.1 s.2.1 s.2.2.1 l) (hl : l.length ≤ 1000000) : ∃ b, P_ag (s, l, darkL s ch, ()) = some (b, ()) ∧ (b = true ↔ ∀ i, Dark s ch i → ∃ c ∈ l, onLine s c i = true) := by
  have hlen := darkL_len s ch
  obtain ⟨h2, h1, h0, e1, e2, e3, e4, e5, e6⟩ := all_len3 ho
  have hL : (allL s).length ≤ 100 := by
    unfold allL
    rw [List.length_append, List.length_append]
    omega
  have h3 := l_can3 ho hi hl (darkL s ch) l.length 0 N (List.replicate (darkL s ch).length false) (by simp) (by have := N_ge; omega) (by simp [hlen])
  obtain ⟨b, r1, r2⟩ := l_can11 (W := darkL s ch) (S := l.foldl (set3 s true) (List.replicate (darkL s ch).length false)) (by omega) (by rw [fold3_len, List.length_replicate]) (darkL s ch).length 0 N (by simp) (by have := N_ge; omega)
  rw [List.drop_zero] at h3
  refine ⟨b, ?_, r2.trans ?_⟩
  · rw [p_ag, decide_eq_true (p := (0 : Int) ≤ ((darkL s ch).length : Int)) (by omega), decide_eq_true (p := ((darkL s ch).length : Int) ≤ ((darkL s ch).length : Int)) (Int.le_refl _), decide_eq_true (p := ((darkL s ch).length : Int) * ((1 : Nat) : Int) ≤ 140737488355328) (by omega), decide_eq_true (p := ((darkL s ch).length : Int) ≤ 140737488355328) (by omega)]
    simp only [Bool.and_self, cond_true]
    exact h3.trans r1
  · have hat : ∀ i, i < (darkL s ch).length → ((l.foldl (set3 s true) (List.replicate (darkL s ch).length false))[i]? = some true ↔ ∃ c ∈ l, onLine s c i = true) := fun i hi => by
      rw [fold3_at (s := s) (b := true) l _ (by rw [List.length_replicate]; exact hi), List.getElem_replicate]
      cases ha : (l.any fun c => onLine s c i) with
      | true => rw [List.any_eq_true] at ha; exact Iff.intro (fun _ => ha) (fun _ => rfl)
      | false =>
        rw [List.any_eq_false] at ha
        refine ⟨(fun h => by cases h), ?_⟩
        rintro ⟨c, hc, h⟩
        exact absurd h (by simpa using ha c hc)
    constructor
    · intro h i hd
      have hlt : i < (darkL s ch).length := by
        rw [hlen]
        exact (List.getElem?_eq_some_iff.1 hd.1).1
      refine (hat i hlt).1 (h i (Nat.zero_le _) ?_)
      rw [List.getElem?_eq_getElem hlt, (darkL_at hlt).2 hd]
    · intro h i _ hw
      obtain ⟨hlt, hw'⟩ := List.getElem?_eq_some_iff.1 hw
      exact (hat i hlt).2 (h i ((darkL_at hlt).1 hw'))
def Cov (s : D_Shadow) (ch : List D_A3) : Prop := ∀ i, ¬ Dark s ch i
open Classical in
noncomputable def firstExt (s : D_Shadow) : List D_A3 → List D_A3 → Nat → Option (List D_A3)
  | [], ch, r => if r = 0 ∧ Cov s ch then some ch else none
  | b :: B, ch, r => if r = 0 then (if Cov s ch then some ch else none) else (firstExt s B (ch ++ [b]) (r - 1)).or (firstExt s B ch r)
theorem firstExt_zero (s : D_Shadow) (B ch : List D_A3) : firstExt s B ch 0 = (open Classical in if Cov s ch then some ch else none) := by
  cases B with
  | nil => unfold firstExt; by_cases h : Cov s ch <;> simp [h]
  | cons b B => unfold firstExt; rw [if_pos rfl]
theorem firstExt_some (s : D_Shadow) : ∀ (B ch : List D_A3) (r : Nat) (x : List D_A3), firstExt s B ch r = some x → ∃ T, T.Sublist B ∧ T.length = r ∧ x = ch ++ T ∧ Cov s x
  | [], ch, r, x, h => by
    unfold firstExt at h
    split at h
    · rename_i hc
      obtain rfl := Option.some.inj h
      exact ⟨[], List.Sublist.refl _, hc.1.symm, by simp, hc.2⟩
    · cases h
  | b :: B, ch, r, x, h => by
    unfold firstExt at h
    split at h
    · rename_i hr
      split at h
      · rename_i hc
        obtain rfl := Option.some.inj h
        exact ⟨[], List.nil_sublist _, hr.symm, by simp, hc⟩
      · cases h
    · rename_i hr
      cases h1 : firstExt s B (ch ++ [b]) (r - 1) with
      | some y =>
        rw [h1] at h
        obtain rfl := Option.some.inj h
        obtain ⟨T, t1, t2, t3, t4⟩ := firstExt_some s B _ _ _ h1
        exact ⟨b :: T, t1.cons_cons b, by rw [List.length_cons]; omega, by rw [t3]; simp, t4⟩
      | none =>
        rw [h1] at h
        obtain ⟨T, t1, t2, t3, t4⟩ := firstExt_some s B _ _ _ h
        exact ⟨T, t1.cons b, t2, t3, t4⟩
theorem firstExt_ex (s : D_Shadow) : ∀ (B ch : List D_A3) (r : Nat) (T : List D_A3), T.Sublist B → T.length = r → Cov s (ch ++ T) → ∃ x, firstExt s B ch r = some x
  | [], ch, r, T, h1, h2, h3 => by
    have hT : T = [] := List.sublist_nil.1 h1
    subst hT
    have h2 : r = 0 := h2.symm
    subst h2
    rw [List.append_nil] at h3
    exact ⟨ch, by unfold firstExt; rw [if_pos ⟨rfl, h3⟩]⟩
  | b :: B, ch, r, T, h1, h2, h3 => by
    unfold firstExt
    by_cases hr : r = 0
    · rw [if_pos hr]
      have hT : T = [] := List.length_eq_zero_iff.1 (by omega)
      subst hT
      rw [List.append_nil] at h3
      rw [if_pos h3]
      exact ⟨ch, rfl⟩
    · rw [if_neg hr]
      cases h4 : firstExt s B (ch ++ [b]) (r - 1) with
      | some y => exact ⟨y, rfl⟩
      | none =>
        cases h1 with
        | cons _ h1 => exact firstExt_ex s B ch r T h1 h2 h3
        | cons_cons _ h1 =>
          rename_i T'
          obtain ⟨x, hx⟩ := firstExt_ex s B (ch ++ [b]) (r - 1) T' h1 (by rw [List.length_cons] at h2; omega) (by rw [List.append_assoc]; exact h3)
          rw [h4] at hx
          cases hx
theorem firstExt_none {s : D_Shadow} {B ch : List D_A3} {r : Nat} (h : ∀ T, T.Sublist B → T.length = r → ¬ Cov s (ch ++ T)) : firstExt s B ch r = none := by
  cases e : firstExt s B ch r with
  | none => rfl
  | some x =>
    obtain ⟨T, t1, t2, t3, t4⟩ := firstExt_some s B ch r x e
    rw [t3] at t4
    exact absurd t4 (h T t1 t2)
theorem dark_app {s : D_Shadow} {ch T : List D_A3} {i : Nat} : Dark s (ch ++ T) i ↔ Dark s ch i ∧ ∀ c ∈ T, onLine s c i = false := by
  unfold Dark
  constructor
  · rintro ⟨h1, h2⟩
    exact ⟨⟨h1, fun c hc => h2 c (List.mem_append_left _ hc)⟩, fun c hc => h2 c (List.mem_append_right _ hc)⟩
  · rintro ⟨⟨h1, h2⟩, h3⟩
    exact ⟨h1, fun c hc => (List.mem_append.1 hc).elim (h2 c) (h3 c)⟩
theorem no_can {s : D_Shadow} {B ch : List D_A3} {r : Nat} (h : ¬ ∀ i, Dark s ch i → ∃ c ∈ B, onLine s c i = true) : firstExt s B ch r = none := by
  refine firstExt_none fun T hT _ hc => h fun i hd => ?_
  apply Classical.byContradiction
  intro hn
  refine hc i (dark_app.2 ⟨hd, fun c hcT => ?_⟩)
  cases e : onLine s c i with
  | false => rfl
  | true => exact absurd ⟨c, hT.subset hcT, e⟩ hn
theorem nodup_len {α : Type} [DecidableEq α] : ∀ (l m : List α), l.Nodup → (∀ x ∈ l, x ∈ m) → l.length ≤ m.length
  | [], m, _, _ => Nat.zero_le _
  | a :: l, m, hn, hs => by
    have ha := hs a (List.mem_cons_self ..)
    have hn' := List.nodup_cons.1 hn
    have := nodup_len l (m.erase a) hn'.2 (fun x hx => (List.mem_erase_of_ne (fun e => hn'.1 (by rw [← e]; exact hx))).2 (hs x (List.mem_cons_of_mem _ hx)))
    rw [List.length_erase_of_mem ha] at this
    have hpos := List.length_pos_of_mem ha
    rw [List.length_cons]
    omega
def darkN (s : D_Shadow) (ch : List D_A3) : Nat := ((darkL s ch).filter id).length
theorem darkN_list : ∀ V : List Bool, (V.filter id).length = ((List.range V.length).filter fun i => V.getD i false).length
  | [] => rfl
  | b :: V => by
    have ih := darkN_list V
    rw [List.length_cons, List.range_succ_eq_map, List.filter_cons, List.filter_cons, List.filter_map]
    have e : ((fun i => (b :: V).getD i false) ∘ Nat.succ) = fun i => V.getD i false := by funext i; simp
    rw [e]
    cases b with
    | true => simp [ih]
    | false => simp [ih]
theorem too_dark {s : D_Shadow} {B ch : List D_A3} {r : Nat} (h : darkN s ch > 3 * r) : firstExt s B ch r = none := by
  refine firstExt_none fun T _ hr hc => ?_
  have hle : ((List.range (darkL s ch).length).filter fun i => (darkL s ch).getD i false).length ≤ (T.flatMap fun c => [l1 s c, l2 s c, l3 s c]).length := by
    refine nodup_len _ _ (List.nodup_range.filter _) fun i hi => ?_
    obtain ⟨h1, h2⟩ := List.mem_filter.1 hi
    have hlt := List.mem_range.1 h1
    rw [List.getD_eq_getElem?_getD, List.getElem?_eq_getElem hlt] at h2
    have hd := (darkL_at hlt).1 h2
    apply Classical.byContradiction
    intro hn
    refine hc i (dark_app.2 ⟨hd, fun c hcT => ?_⟩)
    cases e : onLine s c i with
    | false => rfl
    | true =>
      refine absurd (List.mem_flatMap.2 ⟨c, hcT, ?_⟩) hn
      unfold onLine at e
      simp only [Bool.or_eq_true, decide_eq_true_eq] at e
      simp only [List.mem_cons, List.not_mem_nil, or_false]
      exact e
  have h3 : (T.flatMap fun c => [l1 s c, l2 s c, l3 s c]).length = 3 * T.length := by
    clear hr hc hle
    rename_i hTB
    clear hTB
    induction T with
    | nil => rfl
    | cons a T ih => rw [List.flatMap_cons, List.length_append, ih, List.length_cons]; simp only [List.length_cons, List.length_nil]; omega
  unfold darkN at h
  rw [darkN_list] at h
  omega
theorem too_few {s : D_Shadow} {B ch : List D_A3} {r : Nat} (h : B.length < r) : firstExt s B ch r = none :=
  firstExt_none fun T hT hr _ => by
    have := hT.length_le
    omega
theorem darkN_zero {s : D_Shadow} {ch : List D_A3} : darkN s ch = 0 ↔ Cov s ch := by
  unfold darkN Cov
  rw [List.length_eq_zero_iff, List.filter_eq_nil_iff]
  constructor
  · intro h i hd
    have hlt : i < (darkL s ch).length := by rw [darkL_len]; exact (List.getElem?_eq_some_iff.1 hd.1).1
    exact h _ (List.getElem_mem hlt) ((darkL_at hlt).2 hd)
  · intro h b hb hbt
    obtain ⟨i, hlt, e⟩ := List.getElem_of_mem hb
    exact h i ((darkL_at hlt).1 (by rw [e]; exact hbt))
end Go.VI
/- Plain: the reference's search finds the first extension. -/
namespace Go.VI
open Go.Proofs
def ansS (o : Option (List D_A3)) : List D_A3 × Bool × Unit := match o with | some x => (x, true, ()) | none => ([], false, ())
theorem l_s4 {s : D_Shadow} {A ch : List D_A3} {f K : Int} {V : List Bool} (hV : V.length ≤ 100) (k : Nat) : ∀ (d p m v : Nat), V.length = p + d → d < m → v ≤ p →
    l_af_4 k m s.1 s.2.1 s.2.2.1 s.2.2.2.1 s.2.2.2.2.1 s.2.2.2.2.2.1 A f ch K V (v : Int) (p : Int) = l_af_4 k 1 s.1 s.2.1 s.2.2.1 s.2.2.2.1 s.2.2.2.2.1 s.2.2.2.2.2.1 A f ch K V ((v + ((V.drop p).filter id).length : Nat) : Int) (V.length : Int)
  | d, p, 0, v, _, h, _ => by omega
  | d, p, m + 1, v, hk, hm, hv => by
    by_cases hlt : p < V.length
    · have e : nth (.bool : Ty) V (p : Int) = V[p] := nthA (t := .bool) hlt
      rw [q_af_4 k m, ltT hlt, inB_at hlt, e, succI p (by omega), succI v (by omega), drop_at V p hlt, List.filter_cons]
      cases hb : V[p] with
      | true =>
        simp only [cond_true, id_eq, if_true, List.length_cons]
        rw [l_s4 hV k (d - 1) (p + 1) m (v + 1) (by omega) (by omega) (by omega)]
        congr 2
        omega
      | false =>
        simp only [cond_true, cond_false, id_eq, Bool.false_eq_true, if_false]
        exact l_s4 hV k (d - 1) (p + 1) m v (by omega) (by omega) (by omega)
    · have hp : p = V.length := by omega
      subst hp
      rw [List.drop_length]
      rw [q_af_4 k m, q_af_4 k 0, ltF hlt]
      rfl
theorem app24' {l : List D_A3} {x : D_A3} (h : l.length ≤ 1000) : (decide ((l.length + ([x] : List D_A3).length) * 24 ≤ 140737488355328) && decide (l.length + ([x] : List D_A3).length ≤ 140737488355328)) = true := by
  rw [Bool.and_eq_true, decide_eq_true_eq, decide_eq_true_eq]
  simp only [List.length_singleton]
  omega
theorem l_s13 {s : D_Shadow} (ho : okSh s = true) {A : List D_A3} (hA : Ins s.1 s.2.1 s.2.2.1 A) (hlA : A.length ≤ 64) {K : Nat} (hK : K ≤ 64) {ch : List D_A3} (hr : ch.length < K) (k : Nat) (f : Nat)
    (ih : ∀ i (h : i < A.length), f ≤ i → Pk_af k (s, A, ((i + 1 : Nat) : Int), ch ++ [A[i]], (K : Int), ()) = some (ansS (firstExt s (A.drop (i + 1)) (ch ++ [A[i]]) (K - ch.length - 1)))) : ∀ (d i m : Nat), A.length = i + d → d < m → f ≤ i →
    l_af_13 k m s.1 s.2.1 s.2.2.1 s.2.2.2.1 s.2.2.2.2.1 s.2.2.2.2.2.1 A ch (K : Int) (darkL s ch) (i : Int) = some (ansS (firstExt s (A.drop i) ch (K - ch.length)))
  | d, i, 0, _, h, _ => by omega
  | d, i, m + 1, hk, hm, hf => by
    rw [q_af_13]
    by_cases hlt : i < A.length
    · have e := ih i hlt hf
      have e' : Pk_af k ((s.1, (s.2.1, (s.2.2.1, (s.2.2.2.1, (s.2.2.2.2.1, (s.2.2.2.2.2.1, ())))))), A, ((i + 1 : Nat) : Int), ch ++ [A[i]], (K : Int), ()) = _ := e
      have hc : (decide (((List.length ([] : List D_A3)) + (List.length ch)) * 24 ≤ 140737488355328) && decide (((List.length ([] : List D_A3)) + (List.length ch)) ≤ 140737488355328)) = true := by
        rw [Bool.and_eq_true, decide_eq_true_eq, decide_eq_true_eq, List.length_nil]
        omega
      rw [ltT hlt, inB_at hlt, nthA (t := T_A3) hlt, hc, List.nil_append, app24' (by omega), succI i (by omega), e']
      simp only [cond_true, Option.bind_some]
      rw [drop_at A i hlt]
      have hne : ¬ K - ch.length = 0 := by omega
      have hfe : firstExt s (A[i] :: A.drop (i + 1)) ch (K - ch.length) = (firstExt s (A.drop (i + 1)) (ch ++ [A[i]]) (K - ch.length - 1)).or (firstExt s (A.drop (i + 1)) ch (K - ch.length)) := by
        conv => lhs; unfold firstExt
        rw [if_neg hne]
      rw [hfe]
      cases h1 : firstExt s (A.drop (i + 1)) (ch ++ [A[i]]) (K - ch.length - 1) with
      | some y => rfl
      | none =>
        have hcut : cut A ((i + 1 : Nat) : Int) (A.length : Int) = A.drop (i + 1) := by
          show (A.take A.length).drop (i + 1) = _
          rw [List.take_length]
        have hin : Ins s.1 s.2.1 s.2.2.1 (A.drop (i + 1)) := fun c hc => hA c (List.mem_of_mem_drop hc)
        obtain ⟨b, c1, c2⟩ := f_can ho (ch := ch) hin (by rw [List.length_drop]; omega)
        have c1' : P_ag ((s.1, (s.2.1, (s.2.2.1, (s.2.2.2.1, (s.2.2.2.2.1, (s.2.2.2.2.2.1, ())))))), A.drop (i + 1), darkL s ch, ()) = _ := c1
        show (bif false then _ else bif (decide ((0 : Int) ≤ ((i + 1 : Nat) : Int)) && decide (((i + 1 : Nat) : Int) ≤ (A.length : Int)) && decide ((A.length : Int) ≤ (A.length : Int))) then _ else none) = _
        rw [decide_eq_true (p := (0 : Int) ≤ ((i + 1 : Nat) : Int)) (by omega), decide_eq_true (p := ((i + 1 : Nat) : Int) ≤ (A.length : Int)) (by omega), decide_eq_true (p := (A.length : Int) ≤ (A.length : Int)) (Int.le_refl _), hcut, c1']
        simp only [cond_false, Bool.and_self, cond_true, Option.bind_some, Option.none_or]
        cases hb : b with
        | false =>
          rw [hb] at c2
          rw [no_can (r := K - ch.length) (fun h => by have := c2.2 h; cases this)]
          rfl
        | true =>
          simp only [Bool.not_true, cond_false]
          exact l_s13 ho hA hlA hK hr k f ih (d - 1) (i + 1) m (by omega) (by omega) (by omega)
    · rw [ltF hlt, List.drop_eq_nil_of_le (by omega)]
      have : firstExt s [] ch (K - ch.length) = none := by
        unfold firstExt
        rw [if_neg (fun h => by have := h.1; omega)]
      rw [this]
      rfl
theorem f_search {s : D_Shadow} (ho : okSh s = true) {A : List D_A3} (hA : Ins s.1 s.2.1 s.2.2.1 A) (hlA : A.length ≤ 64) {K : Nat} (hK : K ≤ 64) : ∀ (d k f : Nat) (ch : List D_A3), A.length = f + d → d < k → ch.length ≤ K → Ins s.1 s.2.1 s.2.2.1 ch →
    Pk_af k (s, A, (f : Int), ch, (K : Int), ()) = some (ansS (firstExt s (A.drop f) ch (K - ch.length)))
  | d, 0, f, ch, _, h, _, _ => by omega
  | d, k + 1, f, ch, hk, hm, hc, hin => by
    have hlen := darkL_len s ch
    obtain ⟨h2, h1, h0, e1, e2, e3, e4, e5, e6⟩ := all_len3 ho
    have hL : (allL s).length ≤ 100 := by
      unfold allL
      rw [List.length_append, List.length_append]
      omega
    have h4 := l_s4 (s := s) (A := A) (ch := ch) (f := (f : Int)) (K := (K : Int)) (V := darkL s ch) (by omega) k (darkL s ch).length 0 N 0 (by simp) (by have := N_ge; omega) (Nat.le_refl _)
    rw [List.drop_zero, Nat.zero_add] at h4
    rw [p_af, f_dark ho hin (by omega)]
    simp only [Option.bind_some]
    have h4' : l_af_4 k N s.1 s.2.1 s.2.2.1 s.2.2.2.1 s.2.2.2.2.1 s.2.2.2.2.2.1 A (f : Int) ch (K : Int) (darkL s ch) 0 0 = l_af_4 k 1 s.1 s.2.1 s.2.2.1 s.2.2.2.1 s.2.2.2.2.1 s.2.2.2.2.2.1 A (f : Int) ch (K : Int) (darkL s ch) ((darkN s ch : Nat) : Int) ((darkL s ch).length : Int) := h4
    rw [h4', q_af_4 k 0, ltF (Nat.lt_irrefl _)]
    simp only [cond_false]
    have w1 : IntKind.wrap .i64 ((K : Int) - (ch.length : Int)) = ((K - ch.length : Nat) : Int) := by rw [w64 (by omega) (by omega)]; omega
    have w2 : IntKind.wrap .i64 (3 * ((K - ch.length : Nat) : Int)) = ((3 * (K - ch.length) : Nat) : Int) := by rw [w64 (by omega) (by omega)]; omega
    have w3 : IntKind.wrap .i64 ((A.length : Int) - (f : Int)) = ((A.length - f : Nat) : Int) := by rw [w64 (by omega) (by omega)]; omega
    have hcut : cut A (f : Int) (A.length : Int) = A.drop f := by
      show (A.take A.length).drop f = _
      rw [List.take_length]
    have hind : Ins s.1 s.2.1 s.2.2.1 (A.drop f) := fun c hc => hA c (List.mem_of_mem_drop hc)
    obtain ⟨b, c1, c2⟩ := f_can ho (ch := ch) hind (by rw [List.length_drop]; omega)
    have c1' : P_ag ((s.1, (s.2.1, (s.2.2.1, (s.2.2.2.1, (s.2.2.2.2.1, (s.2.2.2.2.2.1, ())))))), A.drop f, darkL s ch, ()) = _ := c1
    have rest : ¬ (darkN s ch = 0 ∧ ch.length = K) → (bif decide (((darkN s ch : Nat) : Int) > ((3 * (K - ch.length) : Nat) : Int)) then
        some (([] : List D_A3), false, ())
      else
        bif decide (((A.length - f : Nat) : Int) < ((K - ch.length : Nat) : Int)) then
          some (([] : List D_A3), false, ())
        else
          bif (decide ((0 : Int) ≤ (f : Int)) && decide ((f : Int) ≤ (A.length : Int)) && decide ((A.length : Int) ≤ (A.length : Int))) then
            Option.bind (P_ag ((s.1, (s.2.1, (s.2.2.1, (s.2.2.2.1, (s.2.2.2.2.1, (s.2.2.2.2.2.1, ())))))), (cut A (f : Int) (A.length : Int)), darkL s ch, ())) fun r5 =>
            bif !r5.1 then
              some (([] : List D_A3), false, ())
            else
              l_af_13 k N s.1 s.2.1 s.2.2.1 s.2.2.2.1 s.2.2.2.2.1 s.2.2.2.2.2.1 A ch (K : Int) (darkL s ch) (f : Int)
          else none) = some (ansS (firstExt s (A.drop f) ch (K - ch.length))) := fun hno => by
      by_cases g1 : darkN s ch > 3 * (K - ch.length)
      · rw [decide_eq_true (p := ((darkN s ch : Nat) : Int) > ((3 * (K - ch.length) : Nat) : Int)) (by omega), too_dark g1]
        rfl
      · rw [decide_eq_false (p := ((darkN s ch : Nat) : Int) > ((3 * (K - ch.length) : Nat) : Int)) (by omega)]
        simp only [cond_false]
        by_cases g2 : A.length - f < K - ch.length
        · rw [decide_eq_true (p := ((A.length - f : Nat) : Int) < ((K - ch.length : Nat) : Int)) (by omega), too_few (by rw [List.length_drop]; exact g2)]
          rfl
        · rw [decide_eq_false (p := ((A.length - f : Nat) : Int) < ((K - ch.length : Nat) : Int)) (by omega), decide_eq_true (p := (0 : Int) ≤ (f : Int)) (by omega), decide_eq_true (p := (f : Int) ≤ (A.length : Int)) (by omega), decide_eq_true (p := (A.length : Int) ≤ (A.length : Int)) (Int.le_refl _), hcut, c1']
          simp only [cond_false, Bool.and_self, cond_true, Option.bind_some]
          cases hb : b with
          | false =>
            rw [hb] at c2
            rw [no_can (r := K - ch.length) (fun h => by have := c2.2 h; cases this)]
            rfl
          | true =>
            simp only [Bool.not_true, cond_false]
            have hr : ch.length < K := by
              by_cases e : ch.length = K
              · exact absurd ⟨by omega, e⟩ hno
              · omega
            refine l_s13 ho hA hlA hK hr k f (fun i hi hfi => ?_) (A.length - f) f N (by omega) (by have := N_ge; omega) (Nat.le_refl _)
            have := f_search ho hA hlA hK (A.length - (i + 1)) k (i + 1) (ch ++ [A[i]]) (by omega) (by omega) (by simp; omega) (fun c hc => by
              rcases List.mem_append.1 hc with hc | hc
              · exact hin c hc
              · rw [List.mem_singleton.1 hc]; exact hA _ (List.getElem_mem hi))
            rw [this, List.length_append, List.length_singleton, Nat.sub_sub]
    rw [w1, w2, w3]
    by_cases z : darkN s ch = 0
    · rw [decide_eq_true (p := ((darkN s ch : Nat) : Int) = 0) (by omega)]
      simp only [cond_true]
      by_cases e : ch.length = K
      · rw [decide_eq_true (p := ((ch.length : Nat) : Int) = (K : Int)) (by omega)]
        have e0 : K - ch.length = 0 := by omega
        rw [e0, firstExt_zero, if_pos (darkN_zero.1 z)]
        rfl
      · rw [decide_eq_false (p := ((ch.length : Nat) : Int) = (K : Int)) (by omega)]
        exact rest (fun h => e h.2)
    · rw [decide_eq_false (p := ((darkN s ch : Nat) : Int) = 0) (by omega)]
      exact rest (fun h => z h.1)
end Go.VI
/- Plain: allowed cells, covers, and the sets that the program's search meets. -/
namespace Go.VI
open Go.Proofs
def AL (s : D_Shadow) : List D_A3 := bitCells s.1 s.2.1 s.2.2.1 (allowedB s)
theorem mem_AL {s : D_Shadow} (hs : sides s.1 s.2.1 s.2.2.1 = true) {c : D_A3} : c ∈ AL s ↔ within3 s.1 s.2.1 s.2.2.1 c = true ∧ allowedC s c = true := by
  have h := setB_is hs (allowedC s)
  unfold AL
  rw [mem_listOf hs]
  constructor
  · rintro ⟨h1, h2⟩
    exact ⟨h1, by rw [← h.2 c h1]; exact h2⟩
  · rintro ⟨h1, h2⟩
    refine ⟨h1, ?_⟩
    have := h.2 c h1
    unfold allowedB
    rw [this]; exact h2
theorem AL_ins {s : D_Shadow} (hs : sides s.1 s.2.1 s.2.2.1 = true) : Ins s.1 s.2.1 s.2.2.1 (AL s) := fun _ hc => ((mem_AL hs).1 hc).1
theorem AL_srt {s : D_Shadow} (hs : sides s.1 s.2.1 s.2.2.1 = true) : Srt (AL s) := srt_listOf hs _
theorem AL_len {s : D_Shadow} (hs : sides s.1 s.2.1 s.2.2.1 = true) : (AL s).length ≤ 64 := srt_small64 hs (AL_ins hs) (AL_srt hs)
theorem AL_filter {s : D_Shadow} (hs : sides s.1 s.2.1 s.2.2.1 = true) : AL s = (allCells s.1 s.2.1 s.2.2.1).filter (allowedC s) :=
  srt_ext _ _ (AL_srt hs) ((allCells_ok hs).2.2.filter _) fun c => by rw [mem_AL hs, List.mem_filter, mem_allCells hs]
theorem lit_one {s : D_Shadow} (ho : okSh s = true) {d : Int} (d0 : 0 ≤ d) (d1 : d ≤ 2) {c : D_A3} (hc : within3 s.1 s.2.1 s.2.2.1 c = true) : decide (nth ((.int .i64) : Ty) (listD s d) (lineD s.1 s.2.1 s.2.2.1 d c) = 1) = litAt s d c := by
  obtain ⟨hs, _⟩ := okSh_iff.1 ho
  obtain ⟨e1, e2, e3⟩ := list_len ho d0 d1
  obtain ⟨b0, b1, _⟩ := lineD_ok hs d0 d1 hc
  obtain ⟨k, hk⟩ : ∃ k : Nat, lineD s.1 s.2.1 s.2.2.1 d c = (k : Int) := ⟨(lineD s.1 s.2.1 s.2.2.1 d c).toNat, by omega⟩
  have hlt : k < (listD s d).length := by omega
  unfold litAt
  rw [hk, nthA (t := .int .i64) hlt]
  rcases e3 _ (List.getElem_mem hlt) with h | h
  · rw [h]; rfl
  · rw [h]; rfl
theorem l_allow4 {s : D_Shadow} (ho : okSh s = true) {al : List D_A3} (hal : al.length ≤ 64) (hin : Ins s.1 s.2.1 s.2.2.1 al) (q6 q7 q8 : Int) (q9 : List D_A3) (q13 : List D_A3) : ∀ (d k m : Nat) (out : List D_A3), al.length = k + d → d < m → out.length ≤ k →
    l_ax_4 m s.1 s.2.1 s.2.2.1 s.2.2.2.1 s.2.2.2.2.1 s.2.2.2.2.2.1 q6 q7 q8 q9 s.1 s.2.1 s.2.2.1 out al (k : Int) = some ((s.1, (s.2.1, (s.2.2.1, (out ++ (al.drop k).filter (allowedC s), ())))), ())
  | d, k, 0, out, _, h, _ => by omega
  | d, k, m + 1, out, hk, hm, hout => by
    rw [q_ax_4]
    by_cases hlt : k < al.length
    · have hc := hin _ (List.getElem_mem hlt)
      obtain ⟨hs, _⟩ := okSh_iff.1 ho
      obtain ⟨b0, b1, b2, b3, b4, b5⟩ := lineD_ok hs (d := 2) (by decide) (by decide) hc
      obtain ⟨c0, c1, c2, c3, c4, c5⟩ := lineD_ok hs (d := 1) (by decide) (by decide) hc
      obtain ⟨d0, d1, d2, d3, d4, d5⟩ := lineD_ok hs (d := 0) (by decide) (by decide) hc
      have t2 := lit_one ho (d := 2) (by decide) (by decide) hc
      have t1 := lit_one ho (d := 1) (by decide) (by decide) hc
      have t0 := lit_one ho (d := 0) (by decide) (by decide) hc
      have g2 := (list_len ho (d := 2) (by decide) (by decide)).1
      have g1 := (list_len ho (d := 1) (by decide) (by decide)).1
      have g0 := (list_len ho (d := 0) (by decide) (by decide)).1
      have k2 : lineD s.1 s.2.1 s.2.2.1 2 al[k] = al[k].1 * s.2.1 + al[k].2.1 := rfl
      have k1 : lineD s.1 s.2.1 s.2.2.1 1 al[k] = al[k].1 * s.2.2.1 + al[k].2.2.1 := rfl
      have k0 : lineD s.1 s.2.1 s.2.2.1 0 al[k] = al[k].2.1 * s.2.2.1 + al[k].2.2.1 := rfl
      have r2 : 0 ≤ al[k].1 * s.2.1 := b2
      have r2' : al[k].1 * s.2.1 ≤ 16 := b3
      have r1 : 0 ≤ al[k].1 * s.2.2.1 := c2
      have r1' : al[k].1 * s.2.2.1 ≤ 16 := c3
      have r0 : 0 ≤ al[k].2.1 * s.2.2.1 := d2
      have r0' : al[k].2.1 * s.2.2.1 ≤ 16 := d3
      have v2 : 0 ≤ al[k].2.1 ∧ al[k].2.1 ≤ 3 := ⟨b4, b5⟩
      have v1 : 0 ≤ al[k].2.2.1 ∧ al[k].2.2.1 ≤ 3 := ⟨c4, c5⟩
      have wb2 : IntKind.wrap .i64 ((IntKind.wrap .i64 (al[k].1 * s.2.1)) + al[k].2.1) = lineD s.1 s.2.1 s.2.2.1 2 al[k] := by rw [w64 (x := al[k].1 * s.2.1) (by omega) (by omega), w64 (by omega) (by omega)]; rfl
      have wb1 : IntKind.wrap .i64 ((IntKind.wrap .i64 (al[k].1 * s.2.2.1)) + al[k].2.2.1) = lineD s.1 s.2.1 s.2.2.1 1 al[k] := by rw [w64 (x := al[k].1 * s.2.2.1) (by omega) (by omega), w64 (by omega) (by omega)]; rfl
      have wb0 : IntKind.wrap .i64 ((IntKind.wrap .i64 (al[k].2.1 * s.2.2.1)) + al[k].2.2.1) = lineD s.1 s.2.1 s.2.2.1 0 al[k] := by rw [w64 (x := al[k].2.1 * s.2.2.1) (by omega) (by omega), w64 (by omega) (by omega)]; rfl
      have i2 : inB (lineD s.1 s.2.1 s.2.2.1 2 al[k]) s.2.2.2.1.length = true := by
        have g : s.2.2.2.1.length = (linesD s.1 s.2.1 s.2.2.1 2).toNat := g2
        simp [inB]; omega
      have i1 : inB (lineD s.1 s.2.1 s.2.2.1 1 al[k]) s.2.2.2.2.1.length = true := by
        have g : s.2.2.2.2.1.length = (linesD s.1 s.2.1 s.2.2.1 1).toNat := g1
        simp [inB]; omega
      have i0 : inB (lineD s.1 s.2.1 s.2.2.1 0 al[k]) s.2.2.2.2.2.1.length = true := by
        have g : s.2.2.2.2.2.1.length = (linesD s.1 s.2.1 s.2.2.1 0).toNat := g0
        simp [inB]; omega
      have t2' : decide (nth ((.int .i64) : Ty) s.2.2.2.1 (lineD s.1 s.2.1 s.2.2.1 2 al[k]) = 1) = litAt s 2 al[k] := t2
      have t1' : decide (nth ((.int .i64) : Ty) s.2.2.2.2.1 (lineD s.1 s.2.1 s.2.2.1 1 al[k]) = 1) = litAt s 1 al[k] := t1
      have t0' : decide (nth ((.int .i64) : Ty) s.2.2.2.2.2.1 (lineD s.1 s.2.1 s.2.2.1 0 al[k]) = 1) = litAt s 0 al[k] := t0
      have ihn := l_allow4 ho hal hin q6 q7 q8 q9 q13 (d - 1) (k + 1) m out (by omega) (by omega) (by omega)
      have ihy := l_allow4 ho hal hin q6 q7 q8 q9 q13 (d - 1) (k + 1) m (out ++ [al[k]]) (by omega) (by omega) (by simp; omega)
      rw [ltT hlt, inB_at hlt, nthA (t := T_A3) hlt, wb2, wb1, wb0, i2, i1, i0, t2', t1', t0', app24' (by omega), succI k (by omega), ihn, ihy, drop_at al k hlt, List.filter_cons]
      unfold allowedC
      cases litAt s 2 al[k] <;> cases litAt s 1 al[k] <;> cases litAt s 0 al[k] <;> simp
    · rw [ltF hlt, List.drop_eq_nil_of_le (by omega)]
      simp
theorem f_allowS {s : D_Shadow} (ho : okSh s = true) : P_ax (s, ()) = some ((s.1, s.2.1, s.2.2.1, AL s, ()), ()) := by
  obtain ⟨hs, _⟩ := okSh_iff.1 ho
  obtain ⟨a1, a2, a3⟩ := allCells_ok hs
  have h64 := srt_small64 hs a2 a3
  rw [p_ax, p_bp]
  simp only [Option.bind_some]
  rw [f_l2All _ hs]
  simp only [Option.bind_some]
  have := l_allow4 ho h64 a2 0 0 0 [] [] (allCells s.1 s.2.1 s.2.2.1).length 0 N [] (by simp) (by have := N_ge; omega) (Nat.le_refl _)
  rw [AL_filter hs]
  rw [List.drop_zero, List.nil_append] at this
  exact this
theorem l_same4 {a b : List Int} (ha : a.length ≤ 1000000) (hab : a.length = b.length) : ∀ (d i m : Nat), a.length = i + d → d < m → l_bc_4 m a b (i : Int) = some (decide (a.drop i = b.drop i), ())
  | d, i, 0, _, h => by omega
  | d, i, m + 1, hi, hm => by
    rw [q_bc_4]
    by_cases hlt : i < a.length
    · have e1 : nth ((.int .i64) : Ty) a (i : Int) = a[i] := nthA (t := .int .i64) hlt
      have e2 : nth ((.int .i64) : Ty) b (i : Int) = b[i]'(by omega) := nthA (t := .int .i64) (by omega)
      rw [ltT hlt, inB_at hlt, inB_at (k := i) (n := b.length) (by omega), e1, e2, succI i (by omega), drop_at a i hlt, drop_at b i (by omega)]
      by_cases e : a[i] = b[i]'(by omega)
      · rw [decide_eq_true e, l_same4 ha hab (d - 1) (i + 1) m (by omega) (by omega), e]
        generalize a.drop (i + 1) = A
        generalize b.drop (i + 1) = B
        simp
      · rw [decide_eq_false e]
        generalize a.drop (i + 1) = A
        generalize b.drop (i + 1) = B
        have e2 : ¬ (a[i] :: A = (b[i]'(by omega)) :: B) := fun h => e (List.cons.inj h).1
        rw [decide_eq_false e2]
        rfl
    · rw [ltF hlt, List.drop_eq_nil_of_le (by omega), List.drop_eq_nil_of_le (by omega)]
      rfl
theorem f_l1Same {a b : List Int} (ha : a.length ≤ 1000000) : P_bc (a, b, ()) = some (decide (a = b), ()) := by
  rw [p_bc]
  by_cases h : a.length = b.length
  · rw [decide_eq_true (p := ((a.length : Nat) : Int) = (b.length : Int)) (by omega)]
    exact l_same4 ha h a.length 0 N (by simp) (by have := N_ge; omega)
  · rw [decide_eq_false (p := ((a.length : Nat) : Int) = (b.length : Int)) (by omega), decide_eq_false (p := a = b) (fun e => h (by rw [e]))]
    rfl
theorem f_l3Has {s : D_Shadow} (ho : okSh s = true) {l : List D_A3} (hl : Small l) (hi : Ins s.1 s.2.1 s.2.2.1 l) : P_dh (s, (s.1, s.2.1, s.2.2.1, l, ()), ()) = some (sameL s (shadowOf s.1 s.2.1 s.2.2.1 l), ()) := by
  obtain ⟨hs, _⟩ := okSh_iff.1 ho
  have q2 := lines_ok hs (d := 2) (by decide) (by decide)
  have q1 := lines_ok hs (d := 1) (by decide) (by decide)
  have q0 := lines_ok hs (d := 0) (by decide) (by decide)
  have sh : ∀ d : Int, (shD s.1 s.2.1 s.2.2.1 d l).length = (linesD s.1 s.2.1 s.2.2.1 d).toNat := fun d => shD_len ..
  have s2 := sh 2
  have s1 := sh 1
  have s0 := sh 0
  rw [p_dh, p_co, p_ct, p_cl, f_viewSD hs (by decide) (by decide) hl hi, f_viewSD hs (by decide) (by decide) hl hi, f_viewSD hs (by decide) (by decide) hl hi]
  simp only [Option.bind_some]
  rw [f_onesV hs (by decide) (by decide) hl hi, f_onesV hs (by decide) (by decide) hl hi, f_onesV hs (by decide) (by decide) hl hi]
  simp only [Option.bind_some]
  rw [f_l1Same (by omega), f_l1Same (by omega), f_l1Same (by omega)]
  simp only [Option.bind_some]
  have hsame : sameL s (shadowOf s.1 s.2.1 s.2.2.1 l) = (decide (shD s.1 s.2.1 s.2.2.1 2 l = s.2.2.2.1) && (decide (shD s.1 s.2.1 s.2.2.1 1 l = s.2.2.2.2.1) && decide (shD s.1 s.2.1 s.2.2.1 0 l = s.2.2.2.2.2.1))) := by
    unfold sameL
    have e2 : decide (listD s 2 = listD (shadowOf s.1 s.2.1 s.2.2.1 l) 2) = decide (shD s.1 s.2.1 s.2.2.1 2 l = s.2.2.2.1) := decide_eq_decide.2 ⟨fun h => h.symm, fun h => h.symm⟩
    have e1 : decide (listD s 1 = listD (shadowOf s.1 s.2.1 s.2.2.1 l) 1) = decide (shD s.1 s.2.1 s.2.2.1 1 l = s.2.2.2.2.1) := decide_eq_decide.2 ⟨fun h => h.symm, fun h => h.symm⟩
    have e0 : decide (listD s 0 = listD (shadowOf s.1 s.2.1 s.2.2.1 l) 0) = decide (shD s.1 s.2.1 s.2.2.1 0 l = s.2.2.2.2.2.1) := decide_eq_decide.2 ⟨fun h => h.symm, fun h => h.symm⟩
    rw [e2, e1, e0]
  rw [hsame]
  cases decide (shD s.1 s.2.1 s.2.2.1 2 l = s.2.2.2.1) <;> cases decide (shD s.1 s.2.1 s.2.2.1 1 l = s.2.2.2.2.1) <;> rfl
theorem f_l3Fit (s : D_Shadow) (hm : SmallS s) : P_cp (s, ()) = some (okSh s && fitsB s, ()) := by
  rw [p_cp, f_l3Shadow s hm]
  cases ho : okSh s with
  | false => rfl
  | true =>
    obtain ⟨hs, _⟩ := okSh_iff.1 ho
    have hl := AL_len hs
    simp only [Option.bind_some, cond_true]
    rw [f_allowS ho]
    simp only [Option.bind_some]
    rw [f_l3Has ho (by unfold Small; omega) (AL_ins hs)]
    rfl
theorem listD_all {s : D_Shadow} (ho : okSh s = true) : (∀ i, i < (listD s 2).length → (allL s)[i]? = (listD s 2)[i]?) ∧ (∀ i, i < (listD s 1).length → (allL s)[(s.1 * s.2.1).toNat + i]? = (listD s 1)[i]?) ∧ (∀ i, i < (listD s 0).length → (allL s)[(s.1 * s.2.1).toNat + (s.1 * s.2.2.1).toNat + i]? = (listD s 0)[i]?) := by
  obtain ⟨h2, h1, h0, _⟩ := all_len3 ho
  refine ⟨fun i hi => ?_, fun i hi => ?_, fun i hi => ?_⟩
  · have hi' : i < s.2.2.2.1.length := hi
    unfold allL
    rw [List.getElem?_append_left (by rw [List.length_append]; omega), List.getElem?_append_left hi']
    rfl
  · have hi' : i < s.2.2.2.2.1.length := hi
    unfold allL
    rw [List.getElem?_append_left (by rw [List.length_append]; omega), List.getElem?_append_right (by omega)]
    show s.2.2.2.2.1[_]? = s.2.2.2.2.1[i]?
    congr 1
    omega
  · unfold allL
    rw [List.getElem?_append_right (by rw [List.length_append]; omega)]
    show s.2.2.2.2.2.1[_]? = s.2.2.2.2.2.1[i]?
    congr 1
    rw [List.length_append]
    omega
def CovD (s : D_Shadow) (l : List D_A3) : Prop := ∀ d : Int, 0 ≤ d → d ≤ 2 → ∀ i : Nat, (listD s d)[i]? = some 1 → ∃ c ∈ l, lineD s.1 s.2.1 s.2.2.1 d c = (i : Int)
theorem cov_iff {s : D_Shadow} (ho : okSh s = true) {l : List D_A3} (hi : Ins s.1 s.2.1 s.2.2.1 l) : Cov s l ↔ CovD s l := by
  obtain ⟨hs, _⟩ := okSh_iff.1 ho
  obtain ⟨h2, h1, h0, z1, z2, z3, z4, z5, z6⟩ := all_len3 ho
  obtain ⟨a2, a1, a0⟩ := listD_all ho
  have rng : ∀ c ∈ l, (0 ≤ lineD s.1 s.2.1 s.2.2.1 2 c ∧ lineD s.1 s.2.1 s.2.2.1 2 c < s.1 * s.2.1) ∧ (0 ≤ lineD s.1 s.2.1 s.2.2.1 1 c ∧ lineD s.1 s.2.1 s.2.2.1 1 c < s.1 * s.2.2.1) ∧ (0 ≤ lineD s.1 s.2.1 s.2.2.1 0 c ∧ lineD s.1 s.2.1 s.2.2.1 0 c < s.2.1 * s.2.2.1) := fun c hc => by
    obtain ⟨b0, b1, _⟩ := lineD_ok hs (d := 2) (by decide) (by decide) (hi c hc)
    obtain ⟨c0, c1, _⟩ := lineD_ok hs (d := 1) (by decide) (by decide) (hi c hc)
    obtain ⟨d0, d1, _⟩ := lineD_ok hs (d := 0) (by decide) (by decide) (hi c hc)
    exact ⟨⟨b0, b1⟩, ⟨c0, c1⟩, ⟨d0, d1⟩⟩
  have on2 : ∀ c ∈ l, ∀ i : Nat, i < (s.1 * s.2.1).toNat → (onLine s c i = true ↔ lineD s.1 s.2.1 s.2.2.1 2 c = (i : Int)) := fun c hc i hlt => by
    obtain ⟨b, d, e⟩ := rng c hc
    unfold onLine l1 l2 l3
    simp only [Bool.or_eq_true, decide_eq_true_eq]
    omega
  have on1 : ∀ c ∈ l, ∀ i : Nat, i < (s.1 * s.2.2.1).toNat → (onLine s c ((s.1 * s.2.1).toNat + i) = true ↔ lineD s.1 s.2.1 s.2.2.1 1 c = (i : Int)) := fun c hc i hlt => by
    obtain ⟨b, d, e⟩ := rng c hc
    unfold onLine l1 l2 l3
    simp only [Bool.or_eq_true, decide_eq_true_eq]
    omega
  have on0 : ∀ c ∈ l, ∀ i : Nat, i < (s.2.1 * s.2.2.1).toNat → (onLine s c ((s.1 * s.2.1).toNat + (s.1 * s.2.2.1).toNat + i) = true ↔ lineD s.1 s.2.1 s.2.2.1 0 c = (i : Int)) := fun c hc i hlt => by
    obtain ⟨b, d, e⟩ := rng c hc
    unfold onLine l1 l2 l3
    simp only [Bool.or_eq_true, decide_eq_true_eq]
    omega
  have ex : ∀ i, ¬ Dark s l i → (allL s)[i]? = some 1 → ∃ c ∈ l, onLine s c i = true := fun i h h1 => by
    apply Classical.byContradiction
    intro hn
    refine h ⟨h1, fun c hc => ?_⟩
    cases e : onLine s c i with
    | false => rfl
    | true => exact absurd ⟨c, hc, e⟩ hn
  have l2' : (listD s 2).length = (s.1 * s.2.1).toNat := h2
  have l1' : (listD s 1).length = (s.1 * s.2.2.1).toNat := h1
  have l0' : (listD s 0).length = (s.2.1 * s.2.2.1).toNat := h0
  constructor
  · intro hc d d0 d1 i hi1
    obtain ⟨hlt, _⟩ := List.getElem?_eq_some_iff.1 hi1
    rcases dir d0 d1 with rfl | rfl | rfl
    · obtain ⟨c, k1, k2⟩ := ex _ (hc _) (by rw [a0 i hlt]; exact hi1)
      exact ⟨c, k1, (on0 c k1 i (by omega)).1 k2⟩
    · obtain ⟨c, k1, k2⟩ := ex _ (hc _) (by rw [a1 i hlt]; exact hi1)
      exact ⟨c, k1, (on1 c k1 i (by omega)).1 k2⟩
    · obtain ⟨c, k1, k2⟩ := ex _ (hc _) (by rw [a2 i hlt]; exact hi1)
      exact ⟨c, k1, (on2 c k1 i (by omega)).1 k2⟩
  · rintro hc i ⟨hd1, hd2⟩
    obtain ⟨hlt, _⟩ := List.getElem?_eq_some_iff.1 hd1
    have hlen : (allL s).length = (s.1 * s.2.1).toNat + (s.1 * s.2.2.1).toNat + (s.2.1 * s.2.2.1).toNat := by
      unfold allL
      rw [List.length_append, List.length_append, h2, h1, h0]
    have no : ∀ c ∈ l, onLine s c i = true → False := fun c hc h => by rw [hd2 c hc] at h; cases h
    by_cases k2 : i < (s.1 * s.2.1).toNat
    · obtain ⟨c, m1, m2⟩ := hc 2 (by decide) (by decide) i (by rw [← a2 i (by omega)]; exact hd1)
      exact no c m1 ((on2 c m1 i k2).2 m2)
    · by_cases k1 : i < (s.1 * s.2.1).toNat + (s.1 * s.2.2.1).toNat
      · obtain ⟨j, rfl⟩ : ∃ j, i = (s.1 * s.2.1).toNat + j := ⟨i - (s.1 * s.2.1).toNat, by omega⟩
        obtain ⟨c, m1, m2⟩ := hc 1 (by decide) (by decide) j (by rw [← a1 j (by omega)]; exact hd1)
        exact no c m1 ((on1 c m1 j (by omega)).2 m2)
      · obtain ⟨j, rfl⟩ : ∃ j, i = (s.1 * s.2.1).toNat + (s.1 * s.2.2.1).toNat + j := ⟨i - ((s.1 * s.2.1).toNat + (s.1 * s.2.2.1).toNat), by omega⟩
        obtain ⟨c, m1, m2⟩ := hc 0 (by decide) (by decide) j (by rw [← a0 j (by omega)]; exact hd1)
        exact no c m1 ((on0 c m1 j (by omega)).2 m2)
theorem nat_line {s : D_Shadow} (hs : sides s.1 s.2.1 s.2.2.1 = true) {d : Int} (d0 : 0 ≤ d) (d1 : d ≤ 2) {c : D_A3} (hc : within3 s.1 s.2.1 s.2.2.1 c = true) : ∃ k : Nat, lineD s.1 s.2.1 s.2.2.1 d c = (k : Int) ∧ k < (linesD s.1 s.2.1 s.2.2.1 d).toNat := by
  obtain ⟨b0, b1, _⟩ := lineD_ok hs d0 d1 hc
  exact ⟨(lineD s.1 s.2.1 s.2.2.1 d c).toNat, by omega, by omega⟩
theorem litAt_iff {s : D_Shadow} (ho : okSh s = true) {d : Int} (d0 : 0 ≤ d) (d1 : d ≤ 2) {c : D_A3} (hc : within3 s.1 s.2.1 s.2.2.1 c = true) {k : Nat} (hk : lineD s.1 s.2.1 s.2.2.1 d c = (k : Int)) : litAt s d c = true ↔ (listD s d)[k]? = some 1 := by
  obtain ⟨hs, _⟩ := okSh_iff.1 ho
  obtain ⟨e1, e2, e3⟩ := list_len ho d0 d1
  obtain ⟨k', hk', hlt⟩ := nat_line hs d0 d1 hc
  obtain rfl : k = k' := by omega
  have hlt' : k < (listD s d).length := by omega
  rw [← lit_one ho d0 d1 hc, hk, nthA (t := .int .i64) hlt', decide_eq_true_eq, List.getElem?_eq_getElem hlt', Option.some.injEq]
theorem same_iff {s : D_Shadow} (ho : okSh s = true) {l : List D_A3} (hi : Ins s.1 s.2.1 s.2.2.1 l) : sameL s (shadowOf s.1 s.2.1 s.2.2.1 l) = true ↔ CovD s l ∧ ∀ c ∈ l, allowedC s c = true := by
  obtain ⟨hs, _⟩ := okSh_iff.1 ho
  have hsd : sameL s (shadowOf s.1 s.2.1 s.2.2.1 l) = true ↔ ∀ d : Int, 0 ≤ d → d ≤ 2 → listD s d = shD s.1 s.2.1 s.2.2.1 d l := by
    unfold sameL
    rw [Bool.and_eq_true, Bool.and_eq_true, decide_eq_true_eq, decide_eq_true_eq, decide_eq_true_eq]
    constructor
    · rintro ⟨h2, h1, h0⟩ d d0 d1
      rcases dir d0 d1 with rfl | rfl | rfl
      · exact h0
      · exact h1
      · exact h2
    · intro h
      exact ⟨h 2 (by decide) (by decide), h 1 (by decide) (by decide), h 0 (by decide) (by decide)⟩
  rw [hsd]
  have hat : ∀ (d : Int) (i : Nat), i < (linesD s.1 s.2.1 s.2.2.1 d).toNat → (shD s.1 s.2.1 s.2.2.1 d l)[i]? = some (if l.any fun c => decide (lineD s.1 s.2.1 s.2.2.1 d c = (i : Int)) then 1 else 0) := fun d i h => by
    rw [List.getElem?_eq_getElem (by rw [shD_len]; exact h), shD_at]
  constructor
  · intro h
    refine ⟨fun d d0 d1 i hi1 => ?_, fun c hc => ?_⟩
    · obtain ⟨e1, e2, e3⟩ := list_len ho d0 d1
      obtain ⟨hlt, _⟩ := List.getElem?_eq_some_iff.1 hi1
      rw [h d d0 d1, hat d i (by omega)] at hi1
      cases ha : (l.any fun c => decide (lineD s.1 s.2.1 s.2.2.1 d c = (i : Int))) with
      | true =>
        obtain ⟨c, hc, k⟩ := List.any_eq_true.1 ha
        exact ⟨c, hc, of_decide_eq_true k⟩
      | false => rw [ha] at hi1; simp at hi1
    · have lt : ∀ d : Int, 0 ≤ d → d ≤ 2 → litAt s d c = true := fun d d0 d1 => by
        obtain ⟨k, hk, hlt⟩ := nat_line hs d0 d1 (hi c hc)
        rw [litAt_iff ho d0 d1 (hi c hc) hk, h d d0 d1, hat d k hlt, if_pos (List.any_eq_true.2 ⟨c, hc, decide_eq_true hk⟩)]
      unfold allowedC
      rw [lt 0 (by decide) (by decide), lt 1 (by decide) (by decide), lt 2 (by decide) (by decide)]
      rfl
  · rintro ⟨h1, h2⟩ d d0 d1
    obtain ⟨e1, e2, e3⟩ := list_len ho d0 d1
    refine List.ext_getElem? fun i => ?_
    by_cases hlt : i < (linesD s.1 s.2.1 s.2.2.1 d).toNat
    · rw [hat d i hlt]
      have hlt' : i < (listD s d).length := by omega
      cases ha : (l.any fun c => decide (lineD s.1 s.2.1 s.2.2.1 d c = (i : Int))) with
      | true =>
        obtain ⟨c, hc, k⟩ := List.any_eq_true.1 ha
        have k := of_decide_eq_true k
        have hl : litAt s d c = true := by
          have := h2 c hc
          unfold allowedC at this
          rw [Bool.and_eq_true, Bool.and_eq_true] at this
          rcases dir d0 d1 with rfl | rfl | rfl
          · exact this.1
          · exact this.2.1
          · exact this.2.2
        rw [(litAt_iff ho d0 d1 (hi c hc) k).1 hl]
        rfl
      | false =>
        rw [List.getElem?_eq_getElem hlt']
        rcases e3 _ (List.getElem_mem hlt') with h | h
        · rw [h]; rfl
        · exfalso
          obtain ⟨c, hc, k⟩ := h1 d d0 d1 i (by rw [List.getElem?_eq_getElem hlt', h])
          rw [List.any_eq_false] at ha
          exact ha c hc (decide_eq_true k)
    · rw [List.getElem?_eq_none (by omega), List.getElem?_eq_none (by rw [shD_len]; omega)]
end Go.VI
