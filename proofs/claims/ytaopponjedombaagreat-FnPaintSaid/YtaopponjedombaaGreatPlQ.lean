/- Plain: what is enclosed, as the reference has it. -/
import Derived.Test.YtaopponjedombaaGreatPlO
import Derived.Test.YtaopponjedombaaGreatPlM
namespace Go.VI
open Go.Proofs

/-! ### The margin -/
def rowM (X Y Z x y : Int) : Nat → Int → List D_A3
  | 0, _ => []
  | d + 1, z => (if within3 X Y Z (x, y, z, ()) = true then [] else [(x, y, z, ())]) ++ rowM X Y Z x y d (z + 1)
def planeM (X Y Z x : Int) : Nat → Int → List D_A3
  | 0, _ => []
  | d + 1, y => rowM X Y Z x y (Z + 2).toNat (-1) ++ planeM X Y Z x d (y + 1)
def spaceM (X Y Z : Int) : Nat → Int → List D_A3
  | 0, _ => []
  | d + 1, x => planeM X Y Z x (Y + 2).toNat (-1) ++ spaceM X Y Z d (x + 1)
def margin (X Y Z : Int) : List D_A3 := spaceM X Y Z (X + 2).toNat (-1)

theorem mem_rowM {X Y Z x y : Int} (c : D_A3) : ∀ (d : Nat) (z : Int), c ∈ rowM X Y Z x y d z ↔ within3 X Y Z c = false ∧ c.1 = x ∧ c.2.1 = y ∧ z ≤ c.2.2.1 ∧ c.2.2.1 < z + d
  | 0, z => by
    simp only [rowM, List.not_mem_nil, false_iff]
    rintro ⟨_, _, _, h4, h5⟩
    omega
  | d + 1, z => by
    rw [rowM, List.mem_append, mem_rowM c d (z + 1)]
    have e : c = (x, y, z, ()) ↔ c.1 = x ∧ c.2.1 = y ∧ c.2.2.1 = z := by
      obtain ⟨a, b, e, ⟨⟩⟩ := c
      simp
    by_cases hw : within3 X Y Z (x, y, z, ()) = true
    · rw [if_pos hw]
      constructor
      · rintro (h | ⟨h1, h2, h3, h4, h5⟩)
        · cases h
        · exact ⟨h1, h2, h3, by omega, by omega⟩
      · rintro ⟨h1, h2, h3, h4, h5⟩
        refine .inr ⟨h1, h2, h3, ?_, by omega⟩
        have : c.2.2.1 ≠ z := fun hz => by rw [e.2 ⟨h2, h3, hz⟩, hw] at h1; cases h1
        omega
    · rw [if_neg hw, List.mem_singleton, e]
      constructor
      · rintro (⟨h1, h2, h3⟩ | ⟨h1, h2, h3, h4, h5⟩)
        · exact ⟨by rw [e.2 ⟨h1, h2, h3⟩]; simpa using hw, h1, h2, by omega, by omega⟩
        · exact ⟨h1, h2, h3, by omega, by omega⟩
      · rintro ⟨h1, h2, h3, h4, h5⟩
        by_cases hz : c.2.2.1 = z
        · exact .inl ⟨h2, h3, hz⟩
        · exact .inr ⟨h1, h2, h3, by omega, by omega⟩

theorem mem_planeM {X Y Z x : Int} (hZ : 0 ≤ Z) (c : D_A3) : ∀ (d : Nat) (y : Int), c ∈ planeM X Y Z x d y ↔ within3 X Y Z c = false ∧ c.1 = x ∧ (y ≤ c.2.1 ∧ c.2.1 < y + d) ∧ (-1 ≤ c.2.2.1 ∧ c.2.2.1 ≤ Z)
  | 0, y => by simp [planeM]; intros; omega
  | d + 1, y => by
    rw [planeM, List.mem_append, mem_rowM, mem_planeM hZ c d (y + 1)]
    constructor
    · rintro (⟨h1, h2, h3, h4, h5⟩ | ⟨h1, h2, h3, h4⟩)
      · exact ⟨h1, h2, ⟨by omega, by omega⟩, by omega, by omega⟩
      · exact ⟨h1, h2, ⟨by omega, by omega⟩, h4⟩
    · rintro ⟨h1, h2, h3, h4⟩
      by_cases hy : c.2.1 = y
      · exact .inl ⟨h1, h2, hy, by omega, by omega⟩
      · exact .inr ⟨h1, h2, ⟨by omega, by omega⟩, h4⟩

theorem mem_spaceM {X Y Z : Int} (hY : 0 ≤ Y) (hZ : 0 ≤ Z) (c : D_A3) : ∀ (d : Nat) (x : Int), c ∈ spaceM X Y Z d x ↔ within3 X Y Z c = false ∧ (x ≤ c.1 ∧ c.1 < x + d) ∧ (-1 ≤ c.2.1 ∧ c.2.1 ≤ Y) ∧ (-1 ≤ c.2.2.1 ∧ c.2.2.1 ≤ Z)
  | 0, x => by simp [spaceM]; intros; omega
  | d + 1, x => by
    rw [spaceM, List.mem_append, mem_planeM hZ, mem_spaceM hY hZ c d (x + 1)]
    constructor
    · rintro (⟨h1, h2, h3, h4⟩ | ⟨h1, h2, h3⟩)
      · exact ⟨h1, ⟨by omega, by omega⟩, ⟨by omega, by omega⟩, h4⟩
      · exact ⟨h1, ⟨by omega, by omega⟩, h3⟩
    · rintro ⟨h1, h2, h3, h4⟩
      by_cases hx : c.1 = x
      · exact .inl ⟨h1, hx, ⟨by omega, by omega⟩, h4⟩
      · exact .inr ⟨h1, ⟨by omega, by omega⟩, h3, h4⟩

theorem len_rowM (X Y Z x y : Int) : ∀ (d : Nat) (z : Int), (rowM X Y Z x y d z).length ≤ d
  | 0, _ => by simp [rowM]
  | d + 1, z => by
    rw [rowM, List.length_append]
    have := len_rowM X Y Z x y d (z + 1)
    split <;> simp <;> omega
theorem len_planeM {X Y Z x : Int} (hZ : Z ≤ 4) : ∀ (d : Nat) (y : Int), (planeM X Y Z x d y).length ≤ d * 6
  | 0, _ => by simp [planeM]
  | d + 1, y => by
    rw [planeM, List.length_append]
    have h1 := len_planeM (X := X) (Y := Y) (x := x) hZ d (y + 1)
    have h2 := len_rowM X Y Z x y (Z + 2).toNat (-1)
    omega
theorem len_spaceM {X Y Z : Int} (hY : Y ≤ 4) (hZ : Z ≤ 4) : ∀ (d : Nat) (x : Int), (spaceM X Y Z d x).length ≤ d * 36
  | 0, _ => by simp [spaceM]
  | d + 1, x => by
    rw [spaceM, List.length_append]
    have h1 := len_spaceM (X := X) hY hZ d (x + 1)
    have h2 := len_planeM (X := X) (Y := Y) (x := x) hZ (Y + 2).toNat (-1)
    omega

theorem margin_ok {X Y Z : Int} (hs : sides X Y Z = true) : (∀ c, c ∈ margin X Y Z ↔ within3 X Y Z c = false ∧ (-1 ≤ c.1 ∧ c.1 ≤ X) ∧ (-1 ≤ c.2.1 ∧ c.2.1 ≤ Y) ∧ (-1 ≤ c.2.2.1 ∧ c.2.2.1 ≤ Z)) ∧ (margin X Y Z).length ≤ 216 := by
  have s := sides_iff.1 hs
  refine ⟨fun c => ?_, ?_⟩
  · unfold margin
    rw [mem_spaceM (by omega) (by omega)]
    constructor
    · rintro ⟨h1, h2, h3⟩; exact ⟨h1, ⟨by omega, by omega⟩, h3⟩
    · rintro ⟨h1, h2, h3⟩; exact ⟨h1, ⟨by omega, by omega⟩, h3⟩
  · have := len_spaceM (X := X) (Y := Y) (Z := Z) (by omega) (by omega) (X + 2).toNat (-1)
    unfold margin
    omega

theorem margin_near {X Y Z : Int} (hs : sides X Y Z = true) {m : D_A3} (hm : m ∈ margin X Y Z) : Near m := by
  have s := sides_iff.1 hs
  have h := ((margin_ok hs).1 m).1 hm
  unfold Near
  omega

theorem margin_all {X Y Z : Int} (hs : sides X Y Z = true) (m c : D_A3) (hm : within3 X Y Z m = false) (hc : within3 X Y Z c = true) (hn : nb m c) : m ∈ margin X Y Z := by
  have h := within3_iff.1 hc
  rw [nb_iff] at hn
  refine ((margin_ok hs).1 m).2 ⟨hm, ?_⟩
  omega

/-! ### The walk -/
theorem app_len {α : Type} {l : List α} {x : α} (h : l.length ≤ 100000000) : (decide ((l.length + ([x] : List α).length) * 24 ≤ 140737488355328) && decide (l.length + ([x] : List α).length ≤ 140737488355328)) = true := by
  rw [Bool.and_eq_true, decide_eq_true_eq, decide_eq_true_eq]
  simp only [List.length_singleton]
  omega

theorem l_m10 {X Y Z : Int} {l : List D_A3} (hs : sides X Y Z = true) (A B C : Int) (sn : List D_A3) (m0 m1 : Nat) (x y : Int) : ∀ (d m : Nat) (z : Int) (ls : List D_A3), z + d = Z + 1 → -1 ≤ z → d < m → ls.length + d ≤ 1000 →
    l_spec_l6Enclosed_10 m0 m1 m X Y Z l A B C sn (-1) 0 0 1 0 0 0 (-1) 0 0 1 0 0 0 (-1) 0 0 1 ls x y z = l_spec_l6Enclosed_7 m0 m1 X Y Z l A B C sn (-1) 0 0 1 0 0 0 (-1) 0 0 1 0 0 0 (-1) 0 0 1 (ls ++ rowM X Y Z x y d z) x (IntKind.wrap .i64 (y + 1))
  | d, 0, z, ls, _, _, h, _ => by omega
  | 0, m + 1, z, ls, hz, h0, hm, hl => by
    rw [q_spec_l6Enclosed_10, decide_eq_false (by omega)]
    simp [rowM]
  | d + 1, m + 1, z, ls, hz, h0, hm, hl => by
    have s := sides_iff.1 hs
    rw [q_spec_l6Enclosed_10, decide_eq_true (p := z ≤ Z) (by omega), f_spec_l2In (X, Y, Z, l, ()) _ hs, app_len (by omega), w64 (x := z + 1) (by omega) (by omega)]
    simp only [cond_true, Option.bind_some]
    rw [rowM]
    cases hw : within3 X Y Z (x, y, z, ()) with
    | true =>
      simp only [Bool.not_true, cond_false, if_true, List.nil_append]
      exact l_m10 hs A B C sn m0 m1 x y d m (z + 1) ls (by omega) (by omega) (by omega) (by omega)
    | false =>
      simp only [Bool.not_false, cond_true, Bool.false_eq_true, if_false]
      rw [l_m10 hs A B C sn m0 m1 x y d m (z + 1) _ (by omega) (by omega) (by omega) (by simp; omega), List.append_assoc]

theorem l_m7 {X Y Z : Int} {l : List D_A3} (hs : sides X Y Z = true) (A B C : Int) (sn : List D_A3) (m0 : Nat) (x : Int) : ∀ (d m : Nat) (y : Int) (ls : List D_A3), y + d = Y + 1 → -1 ≤ y → d < m → ls.length + d * 6 ≤ 900 →
    l_spec_l6Enclosed_7 m0 m X Y Z l A B C sn (-1) 0 0 1 0 0 0 (-1) 0 0 1 0 0 0 (-1) 0 0 1 ls x y = l_spec_l6Enclosed_4 m0 X Y Z l A B C sn (-1) 0 0 1 0 0 0 (-1) 0 0 1 0 0 0 (-1) 0 0 1 (ls ++ planeM X Y Z x d y) (IntKind.wrap .i64 (x + 1))
  | d, 0, y, ls, _, _, h, _ => by omega
  | 0, m + 1, y, ls, hz, h0, hm, hl => by
    rw [q_spec_l6Enclosed_7, decide_eq_false (by omega)]
    simp [planeM]
  | d + 1, m + 1, y, ls, hz, h0, hm, hl => by
    have s := sides_iff.1 hs
    rw [q_spec_l6Enclosed_7, decide_eq_true (p := y ≤ Y) (by omega)]
    simp only [cond_true]
    rw [l_m10 hs A B C sn m0 m x y (Z + 2).toNat N (-1) ls (by omega) (by omega) (by have := N_ge; omega) (by omega), w64 (x := y + 1) (by omega) (by omega), planeM]
    have hlen := len_rowM X Y Z x y (Z + 2).toNat (-1)
    rw [l_m7 hs A B C sn m0 x d m (y + 1) _ (by omega) (by omega) (by omega) (by rw [List.length_append]; omega), List.append_assoc]

theorem l_m4 {X Y Z : Int} {l : List D_A3} (hs : sides X Y Z = true) (A B C : Int) (sn : List D_A3) : ∀ (d m : Nat) (x : Int) (ls : List D_A3), x + d = X + 1 → -1 ≤ x → d < m → ls.length + d * 36 ≤ 500 →
    l_spec_l6Enclosed_4 m X Y Z l A B C sn (-1) 0 0 1 0 0 0 (-1) 0 0 1 0 0 0 (-1) 0 0 1 ls x = l_spec_l6Enclosed_15 N X Y Z l A B C sn (-1) 0 0 1 0 0 0 (-1) 0 0 1 0 0 0 (-1) 0 0 1 (ls ++ spaceM X Y Z d x) 0
  | d, 0, x, ls, _, _, h, _ => by omega
  | 0, m + 1, x, ls, hz, h0, hm, hl => by
    rw [q_spec_l6Enclosed_4, decide_eq_false (by omega)]
    simp [spaceM]
  | d + 1, m + 1, x, ls, hz, h0, hm, hl => by
    have s := sides_iff.1 hs
    rw [q_spec_l6Enclosed_4, decide_eq_true (p := x ≤ X) (by omega)]
    simp only [cond_true]
    rw [l_m7 hs A B C sn m x (Y + 2).toNat N (-1) ls (by omega) (by omega) (by have := N_ge; omega) (by omega), w64 (x := x + 1) (by omega) (by omega), spaceM]
    have hlen := len_planeM (X := X) (Y := Y) (x := x) (Z := Z) (by omega) (Y + 2).toNat (-1)
    rw [l_m4 hs A B C sn d m (x + 1) _ (by omega) (by omega) (by omega) (by rw [List.length_append]; omega), List.append_assoc]

theorem step_at (k : Nat) (hk : k < 6) (c : D_A3) (hc : Near c) : P_spec_l6Beside (c, ((bif decide ((k : Int) = (0 : Int)) then (-1) else (bif decide ((k : Int) = (1 : Int)) then 1 else (bif decide ((k : Int) = (2 : Int)) then 0 else (bif decide ((k : Int) = (3 : Int)) then 0 else (bif decide ((k : Int) = (4 : Int)) then 0 else 0))))), ((bif decide ((k : Int) = (0 : Int)) then 0 else (bif decide ((k : Int) = (1 : Int)) then 0 else (bif decide ((k : Int) = (2 : Int)) then (-1) else (bif decide ((k : Int) = (3 : Int)) then 1 else (bif decide ((k : Int) = (4 : Int)) then 0 else 0))))), ((bif decide ((k : Int) = (0 : Int)) then 0 else (bif decide ((k : Int) = (1 : Int)) then 0 else (bif decide ((k : Int) = (2 : Int)) then 0 else (bif decide ((k : Int) = (3 : Int)) then 0 else (bif decide ((k : Int) = (4 : Int)) then (-1) else 1))))), ()))), ()) = some (stp k c, ()) := by
  rcases six hk with rfl | rfl | rfl | rfl | rfl | rfl <;> rw [f_beside c hc _ _ _ (by decide) (by decide) (by decide), stp0] <;> simp

theorem l_b18 {X Y Z : Int} {l M : List D_A3} (hs : sides X Y Z = true) (hl : Small l) (hM : ∀ m ∈ M, within3 X Y Z m = false) (hN : ∀ m ∈ M, Near m) (hML : M.length ≤ 300) (m0 n : Nat) : ∀ (d k m : Nat) (ls sn : List D_A3), k + d = 6 → d < m → Bfs X Y Z l M n k ls sn → n < ls.length →
    ∃ ls' sn', l_spec_l6Enclosed_18 m0 m X Y Z l X Y Z sn (-1) 0 0 1 0 0 0 (-1) 0 0 1 0 0 0 (-1) 0 0 1 ls (n : Int) (k : Int) = l_spec_l6Enclosed_15 m0 X Y Z l X Y Z sn' (-1) 0 0 1 0 0 0 (-1) 0 0 1 0 0 0 (-1) 0 0 1 ls' ((n + 1 : Nat) : Int) ∧ Bfs X Y Z l M n 6 ls' sn' ∧ n < ls'.length
  | d, k, 0, ls, sn, _, h, _, _ => by omega
  | 0, k, m + 1, ls, sn, hk, hm, hB, hn => by
    have h64 := srt_small64 hs hB.ins hB.srt
    have hle := hB.len
    have hk6 : k = 6 := by omega
    subst hk6
    rw [q_spec_l6Enclosed_18, decide_eq_false (by omega), succI n (by omega)]
    exact ⟨ls, sn, rfl, hB, hn⟩
  | d + 1, k, m + 1, ls, sn, hk, hm, hB, hn => by
    have h64 := srt_small64 hs hB.ins hB.srt
    have hle := hB.len
    have hc : ls[n]? = some ls[n] := List.getElem?_eq_getElem hn
    have hnear : Near ls[n] := by
      rcases (hB.mem ls[n]).1 (List.getElem_mem hn) with h | h
      · exact hN _ h
      · exact near_of hs (hB.ins _ h)
    have hsn : Small sn := by unfold Small; omega
    rw [q_spec_l6Enclosed_18, decide_eq_true (p := (k : Int) < 6) (by omega), inB_at hn, inB_at (k := k) (n := 6) (by omega), nthA (t := T_A3) hn]
    simp only [cond_true]
    have hst := step_at k (by omega) ls[n] hnear
    rw [hst]
    simp only [Option.bind_some]
    rw [f_spec_l2In (X, Y, Z, l, ()) _ hs]
    simp only [Option.bind_some]
    rw [succI k (by omega)]
    cases hw : within3 X Y Z (stp k ls[n]) with
    | false =>
      simp only [cond_false]
      exact l_b18 hs hl hM hN hML m0 n d (k + 1) m ls sn (by omega) (by omega) (hB.pass fun c hc' hf => by
        rw [hc] at hc'
        obtain rfl := Option.some.inj hc'
        rw [hf.1] at hw; cases hw) hn
    | true =>
      simp only [cond_true]
      rw [f_l2Has X Y Z l _ hl]
      simp only [Option.bind_some]
      by_cases h1 : stp k ls[n] ∈ l
      · rw [decide_eq_true h1]
        simp only [Bool.not_true, cond_false]
        exact l_b18 hs hl hM hN hML m0 n d (k + 1) m ls sn (by omega) (by omega) (hB.pass fun c hc' hf => by
          rw [hc] at hc'
          obtain rfl := Option.some.inj hc'
          exact absurd h1 hf.2) hn
      · rw [decide_eq_false h1, f_l2Has X Y Z sn _ hsn]
        simp only [Bool.not_false, cond_true, Option.bind_some]
        by_cases h2 : stp k ls[n] ∈ sn
        · rw [decide_eq_true h2]
          simp only [Bool.not_true, cond_false]
          exact l_b18 hs hl hM hN hML m0 n d (k + 1) m ls sn (by omega) (by omega) (hB.pass fun c hc' hf => by
            rw [hc] at hc'
            obtain rfl := Option.some.inj hc'
            exact h2) hn
        · obtain ⟨sn', g1, g2, g3, g4⟩ := f_l2With (X := X) (Y := Y) (Z := Z) hB.srt (stp k ls[n]) (by omega)
          rw [decide_eq_false h2, g1, app_len (by omega)]
          simp only [Bool.not_false, cond_true, Option.bind_some]
          exact l_b18 hs hl hM hN hML m0 n d (k + 1) m _ sn' (by omega) (by omega) (hB.add hM hc (by omega) ⟨hw, h1⟩ h2 g2 g3) (by simp; omega)

theorem l_b15 {X Y Z : Int} {l M : List D_A3} (hs : sides X Y Z = true) (hl : Small l) (hM : ∀ m ∈ M, within3 X Y Z m = false) (hN : ∀ m ∈ M, Near m) (hML : M.length ≤ 300) : ∀ (d n m : Nat) (ls sn : List D_A3), n + d = M.length + 64 → d < m → Bfs X Y Z l M n 0 ls sn → n ≤ ls.length →
    ∃ ls' sn', l_spec_l6Enclosed_15 m X Y Z l X Y Z sn (-1) 0 0 1 0 0 0 (-1) 0 0 1 0 0 0 (-1) 0 0 1 ls (n : Int) = l_spec_l6Enclosed_26 N X Y Z l X Y Z sn' [] (allCells X Y Z) 0 ∧ Bfs X Y Z l M ls'.length 0 ls' sn'
  | d, n, 0, ls, sn, _, h, _, _ => by omega
  | d, n, m + 1, ls, sn, hd, hm, hB, hn => by
    have h64 := srt_small64 hs hB.ins hB.srt
    have hle := hB.len
    rw [q_spec_l6Enclosed_15]
    by_cases hlt : n < ls.length
    · rw [ltT hlt]
      simp only [cond_true]
      obtain ⟨ls', sn', e1, e2, e3⟩ := l_b18 hs hl hM hN hML m n 6 0 N ls sn rfl (by have := N_ge; omega) hB hlt
      have e1' : l_spec_l6Enclosed_18 m N X Y Z l X Y Z sn (-1) 0 0 1 0 0 0 (-1) 0 0 1 0 0 0 (-1) 0 0 1 ls (n : Int) 0 = _ := e1
      rw [e1']
      exact l_b15 hs hl hM hN hML (d - 1) (n + 1) m ls' sn' (by omega) (by omega) e2.next (by omega)
    · rw [ltF hlt, f_l2All l hs]
      have : n = ls.length := by omega
      subst this
      exact ⟨ls, sn, rfl, hB⟩

theorem l_b26 {X Y Z : Int} {l sn al : List D_A3} (hl : Small l) (hsn : Small sn) (hal : Small al) : ∀ (d i m : Nat) (out : List D_A3), al.length = i + d → d < m → out.length ≤ i →
    l_spec_l6Enclosed_26 m X Y Z l X Y Z sn out al (i : Int) = some (out ++ (al.drop i).filter fun c => !decide (c ∈ l) && !decide (c ∈ sn), ())
  | d, i, 0, out, _, h, _ => by omega
  | d, i, m + 1, out, hd, hm, ho => by
    have hal' := hal
    unfold Small at hal'
    rw [q_spec_l6Enclosed_26]
    by_cases hlt : i < al.length
    · rw [ltT hlt, inB_at hlt, nthA (t := T_A3) hlt, drop_at al i hlt, f_l2Has X Y Z l _ hl, f_l2Has X Y Z sn _ hsn, app_len (by omega), succI i (by omega)]
      simp only [cond_true, Option.bind_some, List.filter_cons]
      by_cases h1 : al[i] ∈ l
      · rw [decide_eq_true h1]
        simp only [Bool.not_true, cond_false, Bool.false_and, Bool.false_eq_true, if_false]
        exact l_b26 hl hsn hal (d - 1) (i + 1) m out (by omega) (by omega) (by omega)
      · rw [decide_eq_false h1]
        by_cases h2 : al[i] ∈ sn
        · rw [decide_eq_true h2]
          simp only [Bool.not_true, Bool.not_false, cond_false, cond_true, Bool.true_and, Bool.false_eq_true, if_false]
          exact l_b26 hl hsn hal (d - 1) (i + 1) m out (by omega) (by omega) (by omega)
        · rw [decide_eq_false h2]
          simp only [Bool.not_false, cond_true, Bool.true_and, if_true]
          rw [l_b26 hl hsn hal (d - 1) (i + 1) m _ (by omega) (by omega) (by simp; omega)]
          simp
    · rw [ltF hlt, List.drop_eq_nil_of_le (by omega)]
      simp

open Classical in
theorem f_l6Enclosed {X Y Z : Int} {l : List D_A3} (hs : sides X Y Z = true) (hl : Small l) : P_spec_l6Enclosed ((X, Y, Z, l, ()), ()) = some (encl X Y Z l, ()) := by
  have s := sides_iff.1 hs
  obtain ⟨hm1, hm2⟩ := margin_ok hs
  have hM : ∀ m ∈ margin X Y Z, within3 X Y Z m = false := fun m hm => ((hm1 m).1 hm).1
  obtain ⟨ls, sn, e1, e2⟩ := l_b15 hs hl hM (fun m hm => margin_near hs hm) (by omega) ((margin X Y Z).length + 64) 0 N (margin X Y Z) [] (by omega) (by have := N_ge; omega) Bfs.begin (by omega)
  have hsn := srt_small64 hs e2.ins e2.srt
  rw [p_spec_l6Enclosed, p_spec_l2Empty, p_spec_l6Steps]
  simp only [Option.bind_some]
  rw [l_m4 hs X Y Z [] (X + 2).toNat N (-1) [] (by omega) (by omega) (by have := N_ge; omega) (by simp; omega)]
  have e1' : l_spec_l6Enclosed_15 N X Y Z l X Y Z [] (-1) 0 0 1 0 0 0 (-1) 0 0 1 0 0 0 (-1) 0 0 1 ([] ++ spaceM X Y Z (X + 2).toNat (-1)) 0 = _ := e1
  rw [e1']
  have hal := (allCells_ok hs).1
  have e3 := l_b26 (X := X) (Y := Y) (Z := Z) (sn := sn) hl (by unfold Small; omega) hal (allCells X Y Z).length 0 N [] (by simp) (by unfold Small at hal; have := N_ge; omega) (by simp)
  have e3' : l_spec_l6Enclosed_26 N X Y Z l X Y Z sn [] (allCells X Y Z) 0 = _ := e3
  rw [e3']
  simp only [List.drop_zero, List.nil_append]
  congr 2
  unfold encl
  refine List.filter_congr fun c _ => ?_
  rw [Bool.eq_iff_iff, Bool.and_eq_true, decide_eq_true_eq, ← Bfs.all (fun m c h1 h2 h3 => margin_all hs m c h1 h2 h3) e2 c]
  simp
end Go.VI
