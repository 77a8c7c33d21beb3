/- Plain: is a list a packing? -/
import Derived.Test.YtdejhienahdoiaaGreatPlRb
namespace Go.VI
open Go.Proofs
noncomputable def dB (P : Prop) : Bool := @decide P (Classical.propDecidable P)
theorem dB_iff {P : Prop} : dB P = true ↔ P := by unfold dB; exact @decide_eq_true_iff P (Classical.propDecidable P)
theorem dB_eq {P : Prop} {b : Bool} (h : b = true ↔ P) : b = dB P := by
  rw [Bool.eq_iff_iff, dB_iff]; exact h
def zipEq (a : D_A3) : List D_A3 → List D_A3 → Bool
  | [], [] => true
  | c :: r, p :: t => decide (c = ad a p) && zipEq a r t
  | _, _ => false
theorem zipEq_iff (a : D_A3) : ∀ cs q : List D_A3, zipEq a cs q = true ↔ cs = mvP q a
  | [], [] => by simp [zipEq, mvP]
  | [], p :: t => by simp [zipEq, mvP]
  | c :: r, [] => by simp [zipEq, mvP]
  | c :: r, p :: t => by
    rw [zipEq, Bool.and_eq_true, decide_eq_true_eq, zipEq_iff a r t]
    constructor
    · rintro ⟨h1, h2⟩; rw [h1, h2]; rfl
    · intro h; exact List.cons.inj h
def hd (l : List D_A3) : D_A3 := l.headD (0, 0, 0, ())
def dif (cs q : List D_A3) : D_A3 := ((hd cs).1 - (hd q).1, (hd cs).2.1 - (hd q).2.1, (hd cs).2.2.1 - (hd q).2.2.1, ())
def shB (cs q : List D_A3) : Bool := decide (cs.length = q.length) && zipEq (dif cs q) (cs.drop 1) (q.drop 1)
theorem dif_is {p : D_A3} {t : List D_A3} {a : D_A3} : dif (mvP (p :: t) a) (p :: t) = a :=
  cell_ext (by show p.1 + a.1 - p.1 = a.1; omega) (by show p.2.1 + a.2.1 - p.2.1 = a.2.1; omega) (by show p.2.2.1 + a.2.2.1 - p.2.2.1 = a.2.2.1; omega)
theorem shB_iff {cs q : List D_A3} (hq : q ≠ []) : shB cs q = true ↔ ∃ a, cs = mvP q a := by
  obtain ⟨p, t, rfl⟩ := List.exists_cons_of_ne_nil hq
  unfold shB
  rw [Bool.and_eq_true, decide_eq_true_eq, zipEq_iff]
  constructor
  · rintro ⟨h1, h2⟩
    cases cs with
    | nil => simp at h1
    | cons c r =>
      refine ⟨dif (c :: r) (p :: t), ?_⟩
      have h2' : r = mvP t (dif (c :: r) (p :: t)) := h2
      have hc : c = ad (dif (c :: r) (p :: t)) p := cell_ext (by show c.1 = p.1 + (c.1 - p.1); omega) (by show c.2.1 = p.2.1 + (c.2.1 - p.2.1); omega) (by show c.2.2.1 = p.2.2.1 + (c.2.2.1 - p.2.2.1); omega)
      exact (congr (congrArg List.cons hc) h2').trans rfl
  · rintro ⟨a, rfl⟩
    refine ⟨mvP_len _ _, ?_⟩
    rw [dif_is]
    rfl
section
variable {ps : List (List D_A3)}
theorem ax24 (m0 m1 m2 : Nat) (x : List Int) (all cs : List D_A3) {k i : Nat} (hk : k < ps.length) (hi : i < cs.length) (hq : i < (ps[k]).length) (hc : Ins 4 4 4 cs) (hp : PieceOK ps[k]) (h9 : i < 1000) :
    l_spec_l9Packing_24 m0 m1 (m2 + 4) ps x all (k : Int) cs (i : Int) 0 = bif decide (cs[i] = ad (dif cs ps[k]) ps[k][i]) then l_spec_l9Packing_21 m0 m1 ps x all (k : Int) cs ((i + 1 : Nat) : Int) else some (false, ()) := by
  have hc0 : 0 < cs.length := by omega
  have hq0 : 0 < (ps[k]).length := by omega
  have b0 : inB 0 cs.length = true := inB_at (k := 0) hc0
  have b1 : inB 0 (List.length (ps[k])) = true := inB_at (k := 0) hq0
  have n0 : nth T_A3 cs 0 = hd cs := by
    cases cs with
    | nil => simp at hc0
    | cons c r => rfl
  have n1 : nth T_A3 (ps[k]) 0 = hd ps[k] := by
    generalize ps[k] = q at hq0
    cases q with
    | nil => simp at hq0
    | cons c r => rfl
  have m1' : hd cs ∈ cs := by
    cases cs with
    | nil => simp at hc0
    | cons c r => exact List.mem_cons_self
  have m2' : hd ps[k] ∈ ps[k] := by
    generalize ps[k] = q at hq0
    cases q with
    | nil => simp at hq0
    | cons c r => exact List.mem_cons_self
  have w1 := within3_iff.1 (hc _ (List.getElem_mem hi))
  have w2 := within3_iff.1 (hc _ m1')
  have w3 := within3_iff.1 (hp.ins _ (List.getElem_mem hq))
  have w4 := within3_iff.1 (hp.ins _ m2')
  have i0 : inB 0 3 = true := rfl
  have i1 : inB 1 3 = true := rfl
  have i2 : inB 2 3 = true := rfl
  have hiq : inB (i : Int) (List.length (ps[k])) = true := inB_at hq
  rw [q_spec_l9Packing_24, inB_at hi, inB_at hk, nthA (t := T_A3) hi, nthA (t := .sl T_A3) hk, hiq, nthA (t := T_A3) (l := ps[k]) hq, b0, b1, n0, n1, one64]
  simp only [i0, cond_true, decide_true, show decide ((0 : Int) < 3) = true from rfl]
  rw [w64 (x := cs[i].1 - (hd cs).1) (by omega) (by omega), w64 (x := ps[k][i].1 - (hd ps[k]).1) (by omega) (by omega)]
  have e0 : decide (cs[i] = ad (dif cs ps[k]) ps[k][i]) = (decide (cs[i].1 - (hd cs).1 = ps[k][i].1 - (hd ps[k]).1) && (decide (cs[i].2.1 - (hd cs).2.1 = ps[k][i].2.1 - (hd ps[k]).2.1) && decide (cs[i].2.2.1 - (hd cs).2.2.1 = ps[k][i].2.2.1 - (hd ps[k]).2.2.1))) := by
    rw [Bool.eq_iff_iff, decide_eq_true_eq, Bool.and_eq_true, Bool.and_eq_true, decide_eq_true_eq, decide_eq_true_eq, decide_eq_true_eq]
    constructor
    · intro h
      have h1 := congrArg (fun x : D_A3 => x.1) h
      have h2 := congrArg (fun x : D_A3 => x.2.1) h
      have h3 := congrArg (fun x : D_A3 => x.2.2.1) h
      simp only [ad, dif] at h1 h2 h3
      omega
    · rintro ⟨h1, h2, h3⟩
      exact cell_ext (by show cs[i].1 = ps[k][i].1 + ((hd cs).1 - (hd ps[k]).1); omega) (by show cs[i].2.1 = ps[k][i].2.1 + ((hd cs).2.1 - (hd ps[k]).2.1); omega) (by show cs[i].2.2.1 = ps[k][i].2.2.1 + ((hd cs).2.2.1 - (hd ps[k]).2.2.1); omega)
  rw [e0]
  cases decide (cs[i].1 - (hd cs).1 = ps[k][i].1 - (hd ps[k]).1) with
  | false => rfl
  | true =>
    simp only [Bool.not_true, cond_false, Bool.true_and]
    rw [q_spec_l9Packing_24, inB_at hi, inB_at hk, nthA (t := T_A3) hi, nthA (t := .sl T_A3) hk, hiq, nthA (t := T_A3) (l := ps[k]) hq, b0, b1, n0, n1, two64]
    simp only [i1, cond_true, decide_true, show decide ((1 : Int) < 3) = true from rfl, show decide ((1 : Int) = 0) = false from rfl, cond_false]
    rw [w64 (x := cs[i].2.1 - (hd cs).2.1) (by omega) (by omega), w64 (x := ps[k][i].2.1 - (hd ps[k]).2.1) (by omega) (by omega)]
    cases decide (cs[i].2.1 - (hd cs).2.1 = ps[k][i].2.1 - (hd ps[k]).2.1) with
    | false => rfl
    | true =>
      simp only [Bool.not_true, cond_false, Bool.true_and]
      rw [q_spec_l9Packing_24, inB_at hi, inB_at hk, nthA (t := T_A3) hi, nthA (t := .sl T_A3) hk, hiq, nthA (t := T_A3) (l := ps[k]) hq, b0, b1, n0, n1, three64]
      simp only [i2, cond_true, show decide ((2 : Int) < 3) = true from rfl, show decide ((2 : Int) = 0) = false from rfl, show decide ((2 : Int) = 1) = false from rfl, cond_false]
      rw [w64 (x := cs[i].2.2.1 - (hd cs).2.2.1) (by omega) (by omega), w64 (x := ps[k][i].2.2.1 - (hd ps[k]).2.2.1) (by omega) (by omega)]
      cases decide (cs[i].2.2.1 - (hd cs).2.2.1 = ps[k][i].2.2.1 - (hd ps[k]).2.2.1) with
      | false => rfl
      | true =>
        simp only [Bool.not_true, cond_false]
        rw [q_spec_l9Packing_24, succI i (by omega)]
        rfl
theorem l21 (m0 : Nat) (x : List Int) (all cs : List D_A3) {k : Nat} (h9 : k < 1000) (hk : k < ps.length) (hl : cs.length = (ps[k]).length) (hc : Ins 4 4 4 cs) (hp : PieceOK ps[k]) : ∀ (d i m : Nat), cs.length + 1 = i + d → d < m →
    l_spec_l9Packing_21 m0 m ps x all (k : Int) cs (i : Int) = bif zipEq (dif cs ps[k]) (cs.drop i) ((ps[k]).drop i) then l_spec_l9Packing_10 m0 ps x all ((k + 1 : Nat) : Int) else some (false, ())
  | d, i, 0, hi, hm => by omega
  | d, i, m + 1, hi, hm => by
    have h5 := hp.len
    rw [q_spec_l9Packing_21]
    by_cases hlt : i < cs.length
    · rw [ltT hlt, N_eq, ax24 m0 m _ x all cs hk hlt (by omega) hc hp (by omega), l21 m0 x all cs h9 hk hl hc hp (d - 1) (i + 1) m (by omega) (by omega), drop_at cs i hlt, drop_at (ps[k]) i (by omega)]
      simp only [cond_true, zipEq]
      cases decide (cs[i] = ad (dif cs ps[k]) ps[k][i]) <;> rfl
    · rw [ltF hlt, List.drop_eq_nil_of_le (by omega), List.drop_eq_nil_of_le (by omega), succI k (by omega)]
      rfl
end
section
variable {X Y Z : Int} (hs : sides X Y Z = true) {L : List D_A3} (hL : Small L) {ps : List (List D_A3)} (h8 : ps.length ≤ 8) (hps : ∀ q ∈ ps, PieceOK q) {x : List Int} (hx : x.length = (X * Y * Z).toNat)
include hs hx
theorem atCell {i : Nat} (hi : i < (allCells X Y Z).length) : i < x.length ∧ ((allCells X Y Z)[i] = cellOf Y Z i ∧ within3 X Y Z (allCells X Y Z)[i] = true) ∧ nth (.int .i64) x (i : Int) = atL Y Z x (allCells X Y Z)[i] := by
  have hlen : (allCells X Y Z).length = (X * Y * Z).toNat := by rw [← upto_all hs]; simp [upto]
  have hn := (nth_all hs (j := i) (by omega)).2
  rw [nthA (t := T_A3) hi] at hn
  have hcw := cellOf_ok hs (i := i) (by omega)
  refine ⟨by omega, ⟨hn, by rw [hn]; exact hcw.1⟩, ?_⟩
  rw [nthA (t := .int .i64) (by omega), hn]
  unfold atL
  rw [hcw.2, List.getD, List.getElem?_eq_getElem (by omega), Option.getD_some]
include h8 hps
theorem l14 (m0 : Nat) {k : Nat} (hk : k < ps.length) : ∀ (d i m : Nat) (acc : List D_A3), (allCells X Y Z).length = i + d → d < m → acc.length ≤ i → Ins X Y Z acc →
    l_spec_l9Packing_14 m0 m ps x (allCells X Y Z) (k : Int) acc (i : Int) = bif shB (acc ++ ((allCells X Y Z).drop i).filter fun c => decide (atL Y Z x c = (k : Int))) ps[k] then l_spec_l9Packing_10 m0 ps x (allCells X Y Z) ((k + 1 : Nat) : Int) else some (false, ())
  | d, i, 0, acc, hi, hm, _, _ => by omega
  | d, i, m + 1, acc, hi, hm, ha, hin => by
    have h64 := size64 hs
    have hlen : (allCells X Y Z).length = (X * Y * Z).toNat := by rw [← upto_all hs]; simp [upto]
    have hp : PieceOK ps[k] := hps _ (List.getElem_mem hk)
    rw [q_spec_l9Packing_14]
    by_cases hlt : i < (allCells X Y Z).length
    · obtain ⟨hix, ⟨_, hw⟩, hn⟩ := atCell hs hx hlt
      have hg : (decide ((acc.length + ([(allCells X Y Z)[i]] : List D_A3).length) * 24 ≤ 140737488355328) && decide (acc.length + ([(allCells X Y Z)[i]] : List D_A3).length ≤ 140737488355328)) = true := len24 (by omega) 1 (by omega)
      rw [ltT hlt, inB_at hix, inB_at hlt, nthA (t := T_A3) hlt, hn, hg, succI i (by omega), drop_at _ i hlt, List.filter_cons]
      simp only [cond_true]
      by_cases he : atL Y Z x (allCells X Y Z)[i] = (k : Int)
      · rw [decide_eq_true he, l14 m0 hk (d - 1) (i + 1) m _ (by omega) (by omega) (by simp; omega) (fun c hc => by
          rcases List.mem_append.1 hc with h | h
          · exact hin c h
          · rw [List.mem_singleton.1 h]; exact hw)]
        simp
      · rw [decide_eq_false he, l14 m0 hk (d - 1) (i + 1) m _ (by omega) (by omega) (by omega) hin]
        simp
    · rw [ltF hlt, inB_at hk, nthA (t := .sl T_A3) hk, List.drop_eq_nil_of_le (by omega), List.filter_nil, List.append_nil]
      simp only [cond_false, cond_true]
      unfold shB
      have hin4 : Ins 4 4 4 acc := fun c hc => by
        obtain ⟨s1, s2, s3⟩ := sides_iff.1 hs
        have := within3_iff.1 (hin c hc)
        rw [within3_iff]; omega
      have e : decide ((acc.length : Int) = ((ps[k]).length : Int)) = decide (acc.length = (ps[k]).length) := by
        apply decide_eq_decide.2; omega
      have e' : decide ((acc.length : Int) = (List.length (ps[k]) : Int)) = decide (acc.length = (ps[k]).length) := e
      rw [e']
      by_cases hl : acc.length = (ps[k]).length
      · rw [decide_eq_true hl]
        have h1 := hp.len
        have := l21 m0 x (allCells X Y Z) acc (show k < 1000 by omega) hk hl hin4 hp acc.length 1 N (by omega) (by have := N_ge; omega)
        simp only [Bool.not_true, cond_false, Bool.true_and]
        exact this
      · rw [decide_eq_false hl]; rfl
theorem l10 : ∀ (d k m : Nat), ps.length = k + d → d < m → l_spec_l9Packing_10 m ps x (allCells X Y Z) (k : Int) = some (dB (∀ j (hj : j < ps.length), k ≤ j → ∃ a, cellsOf X Y Z x (j : Int) = mvP ps[j] a), ())
  | d, k, 0, hk, hm => by omega
  | d, k, m + 1, hk, hm => by
    have h64 := size64 hs
    have hsm := (allCells_ok hs).1
    unfold Small at hsm
    rw [q_spec_l9Packing_10]
    by_cases hlt : k < ps.length
    · have hp : PieceOK ps[k] := hps _ (List.getElem_mem hlt)
      have h14 := l14 hs h8 hps hx m hlt (allCells X Y Z).length 0 N [] (by simp) (by have := N_ge; omega) (by simp) (fun c hc => by cases hc)
      simp only [Int.natCast_zero, List.drop_zero, List.nil_append] at h14
      rw [ltT hlt, h14, l10 (d - 1) (k + 1) m (by omega) (by omega)]
      simp only [cond_true]
      have hsh := shB_iff (cs := (allCells X Y Z).filter fun c => decide (atL Y Z x c = (k : Int))) hp.ne
      cases hb : shB ((allCells X Y Z).filter fun c => decide (atL Y Z x c = (k : Int))) ps[k] with
      | false =>
        have hn : ¬ ∀ j (hj : j < ps.length), k ≤ j → ∃ a, cellsOf X Y Z x (j : Int) = mvP ps[j] a := fun h => by
          have := hsh.2 (h k hlt (Nat.le_refl k))
          rw [hb] at this; cases this
        have : dB (∀ j (hj : j < ps.length), k ≤ j → ∃ a, cellsOf X Y Z x (j : Int) = mvP ps[j] a) = false := by
          rw [Bool.eq_false_iff]
          exact fun h => hn (dB_iff.1 h)
        rw [this]; rfl
      | true =>
        have hk0 := hsh.1 hb
        have : dB (∀ j (hj : j < ps.length), k + 1 ≤ j → ∃ a, cellsOf X Y Z x (j : Int) = mvP ps[j] a) = dB (∀ j (hj : j < ps.length), k ≤ j → ∃ a, cellsOf X Y Z x (j : Int) = mvP ps[j] a) := by
          apply dB_eq
          rw [dB_iff]
          constructor
          · intro h j hj hkj
            by_cases e : k = j
            · subst e; exact hk0
            · exact h j hj (by omega)
          · intro h j hj hkj
            exact h j hj (by omega)
        rw [this]; rfl
    · rw [ltF hlt]
      have : dB (∀ j (hj : j < ps.length), k ≤ j → ∃ a, cellsOf X Y Z x (j : Int) = mvP ps[j] a) = true := dB_iff.2 fun j hj hkj => by omega
      rw [this]; rfl
include hL
theorem l5 : ∀ (d i m : Nat), (allCells X Y Z).length = i + d → d < m → l_spec_l9Packing_5 m X Y Z L ps x (allCells X Y Z) (i : Int) =
    some (dB ((∀ c ∈ (allCells X Y Z).drop i, -1 ≤ atL Y Z x c ∧ atL Y Z x c ≤ (ps.length : Int) - 1 ∧ (atL Y Z x c < 0 ↔ c ∈ L)) ∧ ∀ j (hj : j < ps.length), ∃ a, cellsOf X Y Z x (j : Int) = mvP ps[j] a), ())
  | d, i, 0, hi, hm => by omega
  | d, i, m + 1, hi, hm => by
    have h64 := size64 hs
    have hlen : (allCells X Y Z).length = (X * Y * Z).toNat := by rw [← upto_all hs]; simp [upto]
    rw [q_spec_l9Packing_5]
    by_cases hlt : i < (allCells X Y Z).length
    · obtain ⟨hix, ⟨_, hw⟩, hn⟩ := atCell hs hx hlt
      rw [ltT hlt, inB_at hix, inB_at hlt, nthA (t := T_A3) hlt, hn, f_spec_l1In, f_l2Has X Y Z L _ hL, succI i (by omega), l5 (d - 1) (i + 1) m (by omega) (by omega), drop_at _ i hlt]
      rw [w64 (x := (ps.length : Int) - 1) (by omega) (by omega)]
      simp only [cond_true, Option.bind_some]
      generalize (allCells X Y Z)[i] = c
      generalize (∀ j (hj : j < ps.length), ∃ a, cellsOf X Y Z x (j : Int) = mvP ps[j] a) = Q
      generalize (allCells X Y Z).drop (i + 1) = rest
      by_cases h1 : -1 ≤ atL Y Z x c ∧ atL Y Z x c ≤ (ps.length : Int) - 1
      · rw [decide_eq_true h1.1, decide_eq_true h1.2]
        by_cases h2 : atL Y Z x c < 0 ↔ c ∈ L
        · rw [decide_eq_decide.2 h2]
          have e : dB ((∀ c ∈ rest, -1 ≤ atL Y Z x c ∧ atL Y Z x c ≤ (ps.length : Int) - 1 ∧ (atL Y Z x c < 0 ↔ c ∈ L)) ∧ Q) = dB ((∀ d ∈ c :: rest, -1 ≤ atL Y Z x d ∧ atL Y Z x d ≤ (ps.length : Int) - 1 ∧ (atL Y Z x d < 0 ↔ d ∈ L)) ∧ Q) := by
            apply dB_eq
            rw [dB_iff]
            constructor
            · rintro ⟨a, b⟩
              exact ⟨fun d hd => (List.mem_cons.1 hd).elim (fun e => e ▸ ⟨h1.1, h1.2, h2⟩) (a d), b⟩
            · rintro ⟨a, b⟩
              exact ⟨fun d hd => a d (List.mem_cons_of_mem _ hd), b⟩
          rw [e]
          cases decide (c ∈ L) <;> rfl
        · have hne : (decide (atL Y Z x c < 0) == decide (c ∈ L)) = false := by
            rw [Bool.eq_false_iff]
            intro h
            exact h2 (decide_eq_decide.1 (beq_iff_eq.1 h))
          have : dB ((∀ d ∈ c :: rest, -1 ≤ atL Y Z x d ∧ atL Y Z x d ≤ (ps.length : Int) - 1 ∧ (atL Y Z x d < 0 ↔ d ∈ L)) ∧ Q) = false := by
            rw [Bool.eq_false_iff]
            exact fun h => h2 ((dB_iff.1 h).1 c List.mem_cons_self).2.2
          rw [hne, this]; rfl
      · have : dB ((∀ d ∈ c :: rest, -1 ≤ atL Y Z x d ∧ atL Y Z x d ≤ (ps.length : Int) - 1 ∧ (atL Y Z x d < 0 ↔ d ∈ L)) ∧ Q) = false := by
          rw [Bool.eq_false_iff]
          exact fun h => h1 ⟨((dB_iff.1 h).1 c List.mem_cons_self).1, ((dB_iff.1 h).1 c List.mem_cons_self).2.1⟩
        have hf : (decide (-1 ≤ atL Y Z x c) && decide (atL Y Z x c ≤ (ps.length : Int) - 1)) = false := by
          rw [Bool.eq_false_iff]
          intro h
          rw [Bool.and_eq_true, decide_eq_true_eq, decide_eq_true_eq] at h
          exact h1 h
        rw [hf, this]; rfl
    · have h10 := l10 hs h8 hps hx ps.length 0 N (by simp) (by have := N_ge; omega)
      rw [Int.natCast_zero] at h10
      rw [ltF hlt, List.drop_eq_nil_of_le (by omega)]
      simp only [cond_false]
      rw [h10]
      congr 2
      apply dB_eq
      rw [dB_iff]
      exact ⟨fun h => ⟨fun c hc => (List.not_mem_nil hc).elim, fun j hj => h j hj (Nat.zero_le j)⟩, fun h j hj _ => h.2 j hj⟩
end
theorem f_specIs {h : D_Heap} {ps : List (List D_A3)} (hl : Small h.2.2.2.1) (ha : askB h ps = true) (x : List Int) : P_spec_l9Packing (h, ps, x, ()) = some (dB (PackV h.1 h.2.1 h.2.2.1 h.2.2.2.1 ps x), ()) := by
  obtain ⟨ho, hps, h8⟩ := askB_iff ha
  obtain ⟨hs, hi, hr⟩ := okHeap_iff.1 ho
  have h64 := size64 hs
  have hlen : (allCells h.1 h.2.1 h.2.2.1).length = (h.1 * h.2.1 * h.2.2.1).toNat := by rw [← upto_all hs]; simp [upto]
  have h5 := psum_le hps ps.length (Nat.le_refl _)
  have hL := srt_small64 hs hi hr
  have hall : P_spec_l2All (h, ()) = _ := f_l2All h.2.2.2.1 hs
  rw [p_spec_l9Packing, hall]
  simp only [Option.bind_some]
  by_cases hx : x.length = (h.1 * h.2.1 * h.2.2.1).toNat
  · rw [decide_eq_true (p := (x.length : Int) = ((allCells h.1 h.2.1 h.2.2.1).length : Int)) (by omega), f_cells9 h8 hps]
    simp only [Bool.not_true, cond_false, Option.bind_some]
    rw [w64 (x := (psum ps ps.length : Int) + (h.2.2.2.1.length : Int)) (by omega) (by omega)]
    have hiff : dB ((∀ c ∈ (allCells h.1 h.2.1 h.2.2.1).drop 0, -1 ≤ atL h.2.1 h.2.2.1 x c ∧ atL h.2.1 h.2.2.1 x c ≤ (ps.length : Int) - 1 ∧ (atL h.2.1 h.2.2.1 x c < 0 ↔ c ∈ h.2.2.2.1)) ∧ ∀ j (hj : j < ps.length), ∃ a, cellsOf h.1 h.2.1 h.2.2.1 x (j : Int) = mvP ps[j] a) = dB (PackV h.1 h.2.1 h.2.2.1 h.2.2.2.1 ps x) := by
      apply dB_eq
      rw [dB_iff, List.drop_zero]
      constructor
      · rintro ⟨a, b⟩
        exact ⟨hx, fun c hc => a c ((mem_allCells hs c).2 hc), b⟩
      · intro p
        exact ⟨fun c hc => p.val c ((mem_allCells hs c).1 hc), p.pcs⟩
    by_cases he : (psum ps ps.length : Int) + (h.2.2.2.1.length : Int) = ((allCells h.1 h.2.1 h.2.2.1).length : Int)
    · have := l5 hs hl h8 hps hx (allCells h.1 h.2.1 h.2.2.1).length 0 N (by simp) (by have := N_ge; omega)
      rw [Int.natCast_zero] at this
      rw [decide_eq_true he, this, hiff]
      rfl
    · have hn : dB (PackV h.1 h.2.1 h.2.2.1 h.2.2.2.1 ps x) = false := by
        rw [Bool.eq_false_iff]
        intro hp
        have := pack_count hs hi hr (dB_iff.1 hp)
        omega
      rw [decide_eq_false he, hn]
      rfl
  · have hn : dB (PackV h.1 h.2.1 h.2.2.1 h.2.2.2.1 ps x) = false := by
      rw [Bool.eq_false_iff]
      exact fun hp => hx (dB_iff.1 hp).len
    rw [decide_eq_false (p := (x.length : Int) = ((allCells h.1 h.2.1 h.2.2.1).length : Int)) (by omega), hn]
    rfl
end Go.VI
namespace Go.VI
open Go.Proofs
theorem mask_inj {X Y Z : Int} (hs : sides X Y Z = true) {l l' : List D_A3} (hi : Ins X Y Z l) (h : Srt l) (hi' : Ins X Y Z l') (h' : Srt l') (e : mask Y Z l 0 = mask Y Z l' 0) : l = l' := by
  rw [← listOf_mask hs hi h, e, listOf_mask hs hi' h']
section
variable {X Y Z : Int} (hs : sides X Y Z = true) {L : List D_A3} {ps : List (List D_A3)} (h8 : ps.length ≤ 8) (hps : ∀ q ∈ ps, PieceOK q) {x : List Int} (hx : x.length = (X * Y * Z).toNat)
include hs hx
theorem mask_from (k : Int) : ∀ (d i : Nat) (w : BitVec 64), (allCells X Y Z).length = i + d →
    mask Y Z (((allCells X Y Z).drop i).filter fun c => decide (atL Y Z x c = k)) w = (List.range' i d).foldl (fun w j => bif decide (x.getD j 0 = k) then w ||| BitVec.twoPow 64 j else w) w
  | 0, i, w, hi => by rw [List.drop_eq_nil_of_le (by omega)]; rfl
  | d + 1, i, w, hi => by
    have hlt : i < (allCells X Y Z).length := by omega
    obtain ⟨hix, ⟨he, hw⟩, hn⟩ := atCell hs hx hlt
    have hidx : idx Y Z (allCells X Y Z)[i] = i := by
      have hlen : (allCells X Y Z).length = (X * Y * Z).toNat := by rw [← upto_all hs]; simp [upto]
      rw [he]; exact (cellOf_ok hs (by omega)).2
    have hat : atL Y Z x (allCells X Y Z)[i] = x.getD i 0 := by unfold atL; rw [hidx]
    rw [drop_at _ i hlt, List.range'_succ, List.foldl_cons, List.filter_cons, hat]
    by_cases h : x.getD i 0 = k
    · rw [decide_eq_true h, ← mask_from k d (i + 1) _ (by omega)]
      simp only [if_true, cond_true, mask, List.foldl_cons, hidx]
    · rw [decide_eq_false h, ← mask_from k d (i + 1) _ (by omega)]
      simp only [Bool.false_eq_true, if_false, cond_false]
theorem l_is10 (m0 : Nat) {v : BitVec 64} {k : Nat} (hk : k < ps.length) : ∀ (d i m : Nat) (w : BitVec 64), x.length = i + d → d < m →
    l_Heap_isPacking_10 m0 m X Y Z x (v.toNat : Int) (k : Int) ps[k] (w.toNat : Int) ps (ps.length : Int) (k : Int) x (x.length : Int) (i : Int) =
      l_Heap_isPacking_10 m0 1 X Y Z x (v.toNat : Int) (k : Int) ps[k] ((((List.range' i d).foldl (fun w j => bif decide (x.getD j 0 = (k : Int)) then w ||| BitVec.twoPow 64 j else w) w : BitVec 64).toNat : Nat) : Int) ps (ps.length : Int) (k : Int) x (x.length : Int) (x.length : Int)
  | 0, i, 0, w, hi, hm => by omega
  | 0, i, m + 1, w, hi, hm => by
    obtain rfl : i = x.length := by omega
    simp only [List.range'_zero, List.foldl_nil]
    rw [q_Heap_isPacking_10, q_Heap_isPacking_10, ltF (Nat.lt_irrefl _)]
    rfl
  | d + 1, i, 0, w, hi, hm => by omega
  | d + 1, i, m + 1, w, hi, hm => by
    have h64 := size64 hs
    have hlt : i < x.length := by omega
    have hn : nth (.int .i64) x (i : Int) = x.getD i 0 := by
      rw [nthA (t := .int .i64) hlt, List.getD, List.getElem?_eq_getElem hlt, Option.getD_some]
    rw [q_Heap_isPacking_10, ltT hlt, inB_at hlt, hn, decide_eq_true (Int.natCast_nonneg i), shl64, or64, succI i (by omega), List.range'_succ, List.foldl_cons]
    simp only [cond_true]
    by_cases he : x.getD i 0 = (k : Int)
    · rw [decide_eq_true he, ← l_is10 m0 hk d (i + 1) m _ (by omega) (by omega)]
      simp only [cond_true]
    · rw [decide_eq_false he, ← l_is10 m0 hk d (i + 1) m _ (by omega) (by omega)]
      simp only [cond_false]
include h8 hps
theorem l_is6 : ∀ (d k m : Nat) (v : BitVec 64), ps.length = k + d → d < m → Low (X * Y * Z).toNat v → (∀ c, within3 X Y Z c = true → (v.getLsbD (idx Y Z c) = true ↔ c ∉ L ∧ ¬ (0 ≤ atL Y Z x c ∧ atL Y Z x c < (k : Int)))) →
    l_Heap_isPacking_6 m X Y Z x (v.toNat : Int) ps (ps.length : Int) (k : Int) = some (dB ((∀ j (hj : j < ps.length), k ≤ j → (∃ a, cellsOf X Y Z x (j : Int) = mvP ps[j] a) ∧ ∀ c ∈ cellsOf X Y Z x (j : Int), c ∉ L) ∧ ∀ c, within3 X Y Z c = true → c ∉ L → 0 ≤ atL Y Z x c ∧ atL Y Z x c < (ps.length : Int)), ())
  | d, k, 0, v, hk, hm, _, _ => by omega
  | d, k, m + 1, v, hk, hm, hv, hb => by
    have h64 := size64 hs
    have hlen : (allCells X Y Z).length = (X * Y * Z).toNat := by rw [← upto_all hs]; simp [upto]
    rw [q_Heap_isPacking_6]
    by_cases hlt : k < ps.length
    · have hq : PieceOK ps[k] := hps _ (List.getElem_mem hlt)
      have h10 := l_is10 hs hx m (v := v) hlt x.length 0 N 0 (by omega) (by have := N_ge; omega)
      have hmf := mask_from hs hx (k : Int) (allCells X Y Z).length 0 0 (by omega)
      rw [List.drop_zero] at hmf
      have hcs : (allCells X Y Z).filter (fun c => decide (atL Y Z x c = (k : Int))) = cellsOf X Y Z x (k : Int) := rfl
      rw [hcs] at hmf
      have hxl : x.length = (allCells X Y Z).length := by omega
      rw [ltT hlt, inB_at hlt, nthA (t := .sl T_A3) hlt]
      simp only [cond_true]
      have h10' : l_Heap_isPacking_10 m N X Y Z x (v.toNat : Int) (k : Int) ps[k] 0 ps (ps.length : Int) (k : Int) x (x.length : Int) 0 = _ := h10
      rw [h10', hxl, ← hmf, ← hxl, q_Heap_isPacking_10, ltF (Nat.lt_irrefl _)]
      simp only [cond_false]
      have hmem := fun c => mem_cellsOf hs (x := x) (k := (k : Int)) (c := c)
      have hins : Ins X Y Z (cellsOf X Y Z x (k : Int)) := fun c hc => ((hmem c).1 hc).1
      have hsrt := srt_cellsOf hs x (k : Int)
      generalize hCS : cellsOf X Y Z x (k : Int) = cs at hmem hins hsrt ⊢
      have no : (¬ ((∃ a, cs = mvP ps[k] a) ∧ ∀ c ∈ cs, c ∉ L)) → dB ((∀ j (hj : j < ps.length), k ≤ j → (∃ a, cellsOf X Y Z x (j : Int) = mvP ps[j] a) ∧ ∀ c ∈ cellsOf X Y Z x (j : Int), c ∉ L) ∧ ∀ c, within3 X Y Z c = true → c ∉ L → 0 ≤ atL Y Z x c ∧ atL Y Z x c < (ps.length : Int)) = false := fun hn => by
        rw [Bool.eq_false_iff]
        intro h
        have := (dB_iff.1 h).1 k hlt (Nat.le_refl k)
        rw [hCS] at this
        exact hn this
      cases cs with
      | nil =>
        have : decide ((((mask Y Z ([] : List D_A3) 0).toNat : Nat) : Int) = 0) = true := rfl
        rw [this, no]
        · rfl
        · rintro ⟨⟨a, e⟩, _⟩
          have := congrArg List.length e
          rw [mvP_len] at this
          have h1 := hq.ne
          cases hps' : ps[k] with
          | nil => exact h1 hps'
          | cons p t => rw [hps'] at this; simp at this
      | cons c r =>
        have hcw := hins c List.mem_cons_self
        have hw0 : decide ((((mask Y Z (c :: r) 0).toNat : Nat) : Int) = 0) = false := by
          apply decide_eq_false
          intro e
          have e0 : mask Y Z (c :: r) 0 = 0 := by
            apply BitVec.eq_of_toNat_eq
            have : (mask Y Z (c :: r) 0).toNat = 0 := by omega
            rw [this]; rfl
          have := mask_mem hs hins hcw
          rw [e0] at this
          simp at this
        obtain ⟨hnear, hpos⟩ := pos_near hs hq hcw
        obtain ⟨p, t, ep⟩ := List.exists_cons_of_ne_nil hq.ne
        have hadd : P_impl_added (c, ((IntKind.wrap .i64 (0 - (hd ps[k]).1)), ((IntKind.wrap .i64 (0 - (hd ps[k]).2.1)), ((IntKind.wrap .i64 (0 - (hd ps[k]).2.2.1)), ()))), ()) = some (posP ps[k] c, ()) := by
          have h1 := within3_iff.1 (hq.ins p (by rw [ep]; exact List.mem_cons_self))
          have h2 := within3_iff.1 hcw
          obtain ⟨s1, s2, s3⟩ := sides_iff.1 hs
          have hh : hd ps[k] = p := by rw [ep]; rfl
          have hpp : posP ps[k] c = (c.1 - p.1, c.2.1 - p.2.1, c.2.2.1 - p.2.2.1, ()) := by rw [ep]; rfl
          rw [p_impl_added, hh, hpp]
          simp only
          rw [w64 (x := 0 - p.1) (by omega) (by omega), w64 (x := 0 - p.2.1) (by omega) (by omega), w64 (x := 0 - p.2.2.1) (by omega) (by omega), w64 (x := c.1 + (0 - p.1)) (by omega) (by omega), w64 (x := c.2.1 + (0 - p.2.1)) (by omega) (by omega), w64 (x := c.2.2.1 + (0 - p.2.2.1)) (by omega) (by omega)]
          rw [show c.1 + (0 - p.1) = c.1 - p.1 by omega, show c.2.1 + (0 - p.2.1) = c.2.1 - p.2.1 by omega, show c.2.2.1 + (0 - p.2.2.1) = c.2.2.1 - p.2.2.1 by omega]
        have hb0 : inB 0 (List.length (ps[k])) = true := by rw [ep]; exact inB_at (k := 0) (by simp)
        have hn0 : nth T_A3 (ps[k]) 0 = hd ps[k] := by rw [ep]; rfl
        have hb1 : inB 0 (List.length (c :: r)) = true := inB_at (k := 0) (by simp)
        have hn1 : nth T_A3 (c :: r) 0 = c := rfl
        rw [hw0, f_box_list hs, listOf_mask hs hins hsrt]
        simp only [cond_false, Option.bind_some, hb0, hb1, hn0, hn1, cond_true]
        rw [hadd]
        simp only [Option.bind_some]
        rw [f_placed hs hq hnear]
        have key : ((∃ a, (c :: r) = mvP ps[k] a) ∧ ∀ e ∈ c :: r, e ∉ L) ↔ fitB X Y Z (fun c => v.getLsbD (idx Y Z c)) ps[k] (posP ps[k] c) = true ∧ mask Y Z (mvP ps[k] (posP ps[k] c)) 0 = mask Y Z (c :: r) 0 := by
          constructor
          · rintro ⟨⟨a, e⟩, hnL⟩
            have ha : a = posP ps[k] c := by
              rw [ep] at e ⊢
              have hc : c = ad a p := (List.cons.inj e).1
              rw [hc]
              exact cell_ext (by show a.1 = p.1 + a.1 - p.1; omega) (by show a.2.1 = p.2.1 + a.2.1 - p.2.1; omega) (by show a.2.2.1 = p.2.2.1 + a.2.2.1 - p.2.2.1; omega)
            refine ⟨List.all_eq_true.2 fun f hf => ?_, by rw [e, ← ha]⟩
            rw [← ha, ← e] at hf
            obtain ⟨f1, f2⟩ := (hmem f).1 hf
            rw [f1, Bool.true_and]
            exact (hb f f1).2 ⟨hnL f hf, fun h => by omega⟩
          · rintro ⟨hf, hmk⟩
            have e := mask_inj hs (fun f h => (fitB_cells hf f h).1) (mvP_srt hq.srt _) hins hsrt hmk
            exact ⟨⟨_, e.symm⟩, fun f hf' => by
              rw [← e] at hf'
              obtain ⟨f1, f2⟩ := fitB_cells hf f hf'
              exact ((hb f f1).1 f2).1⟩
        cases hf : fitB X Y Z (fun c => v.getLsbD (idx Y Z c)) ps[k] (posP ps[k] c) with
        | false =>
          rw [no fun h => by have := (key.1 h).1; rw [hf] at this; cases this]
          rfl
        | true =>
          simp only [cond_true, Option.bind_some, Bool.not_true, cond_false]
          by_cases he : mask Y Z (mvP ps[k] (posP ps[k] c)) 0 = mask Y Z (c :: r) 0
          · have hyes := key.2 ⟨hf, he⟩
            rw [he, decide_eq_true rfl, andNot64, succI k (by omega), l_is6 (d - 1) (k + 1) m _ (by omega) (by omega) (fun j hj => by rw [BitVec.getLsbD_and, hv j hj, Bool.false_and]) (fun e hew => by
              have hb' := hb e hew
              have hi64 : idx Y Z e < 64 := by have := (idx_eq hs hew).2.1; omega
              rw [BitVec.getLsbD_and, BitVec.getLsbD_not, decide_eq_true hi64, mask_mem hs hins hew, Bool.and_eq_true, hb', Bool.true_and, Bool.not_eq_true', decide_eq_false_iff_not, hmem]
              constructor
              · rintro ⟨⟨a, b⟩, c'⟩
                exact ⟨a, fun h => by
                  by_cases e' : atL Y Z x e = (k : Int)
                  · exact c' ⟨hew, e'⟩
                  · exact b (by omega)⟩
              · rintro ⟨a, b⟩
                exact ⟨⟨a, fun h => b (by omega)⟩, fun h => b (by omega)⟩)]
            simp only [Bool.not_true, cond_false]
            congr 2
            apply dB_eq
            rw [dB_iff]
            constructor
            · rintro ⟨a, b⟩
              refine ⟨fun j hj hkj => ?_, b⟩
              by_cases e : k = j
              · subst e
                rw [hCS]; exact hyes
              · exact a j hj (by omega)
            · rintro ⟨a, b⟩
              exact ⟨fun j hj hkj => a j hj (by omega), b⟩
          · have hne : decide ((((mask Y Z (mvP ps[k] (posP ps[k] c)) 0).toNat : Nat) : Int) = ((mask Y Z (c :: r) 0).toNat : Int)) = false := by
              apply decide_eq_false
              intro e
              exact he (BitVec.eq_of_toNat_eq (by omega))
            rw [hne, no fun h => he (key.1 h).2]
            rfl
    · obtain rfl : k = ps.length := by omega
      rw [ltF hlt]
      simp only [cond_false]
      congr 2
      apply dB_eq
      rw [decide_eq_true_eq]
      constructor
      · intro h
        have h0 : v = 0 := by
          apply BitVec.eq_of_toNat_eq
          have : v.toNat = 0 := by omega
          rw [this]; rfl
        refine ⟨fun j hj hkj => by omega, fun c hc hcL => ?_⟩
        apply Classical.byContradiction
        intro hn
        have := (hb c hc).2 ⟨hcL, hn⟩
        rw [h0] at this
        simp at this
      · rintro ⟨_, h⟩
        have h0 : v = 0 := by
          apply BitVec.eq_of_getLsbD_eq
          intro i _
          rw [BitVec.ofNat_eq_ofNat, BitVec.getLsbD_zero, Bool.eq_false_iff]
          intro hi
          by_cases hin : i < (X * Y * Z).toNat
          · have hcw := cellOf_ok hs hin
            rw [← hcw.2] at hi
            obtain ⟨a, b⟩ := (hb _ hcw.1).1 hi
            exact b (h _ hcw.1 a)
          · rw [hv i (by omega)] at hi; cases hi
        rw [h0]; rfl
end
theorem f_isPack {h : D_Heap} {ps : List (List D_A3)} (hl : Small h.2.2.2.1) (ha : askB h ps = true) {x : List Int} (hxs : Small x) : P_Heap_isPacking (h, ps, x, ()) = some (dB (PackV h.1 h.2.1 h.2.2.1 h.2.2.2.1 ps x), ()) := by
  obtain ⟨ho, hps, h8⟩ := askB_iff ha
  obtain ⟨hs, hi, hr⟩ := okHeap_iff.1 ho
  have h64 := size64 hs
  rw [p_Heap_isPacking, f_Heap_box]
  simp only [Option.bind_some]
  rw [f_size hs]
  simp only [Option.bind_some]
  by_cases hx : x.length = (h.1 * h.2.1 * h.2.2.1).toNat
  · rw [decide_eq_true (p := (x.length : Int) = ((h.1 * h.2.1 * h.2.2.1).toNat : Int)) (by omega), f_allWithin x hxs, w64 (x := (ps.length : Int) - 1) (by omega) (by omega)]
    simp only [Bool.not_true, cond_false, Option.bind_some]
    cases hall : (x.all fun y => decide (-1 ≤ y) && decide (y ≤ (ps.length : Int) - 1)) with
    | false =>
      have hn : dB (PackV h.1 h.2.1 h.2.2.1 h.2.2.2.1 ps x) = false := by
        rw [Bool.eq_false_iff]
        intro hp
        have p := dB_iff.1 hp
        rw [Bool.eq_false_iff] at hall
        apply hall
        apply List.all_eq_true.2
        intro y hy
        obtain ⟨j, hj, rfl⟩ := mem_getD.1 hy
        have hcw := cellOf_ok hs (i := j) (by omega)
        have := p.val _ hcw.1
        unfold atL at this
        rw [hcw.2] at this
        rw [decide_eq_true this.1, decide_eq_true this.2.1]; rfl
      rw [hn]; rfl
    | true =>
      rw [f_free hl ho]
      simp only [Bool.not_true, cond_false, Option.bind_some]
      have hval : ∀ c, within3 h.1 h.2.1 h.2.2.1 c = true → -1 ≤ atL h.2.1 h.2.2.1 x c ∧ atL h.2.1 h.2.2.1 x c ≤ (ps.length : Int) - 1 := fun c hc => by
        have := List.all_eq_true.1 hall _ (atL_mem hs hx hc)
        rwa [Bool.and_eq_true, decide_eq_true_eq, decide_eq_true_eq] at this
      have h6 := l_is6 hs (L := h.2.2.2.1) h8 hps hx ps.length 0 N (fullBits (h.1 * h.2.1 * h.2.2.1).toNat &&& ~~~(mask h.2.1 h.2.2.1 h.2.2.2.1 0)) (by omega) (by have := N_ge; omega)
        (fun i hi => by rw [BitVec.getLsbD_and, fullBits_bit (by omega), decide_eq_false (by omega), Bool.false_and])
        (fun c hc => by
          have hix := (idx_eq hs hc).2.1
          rw [BitVec.getLsbD_and, BitVec.getLsbD_not, fullBits_bit (by omega), decide_eq_true hix, decide_eq_true (show idx h.2.1 h.2.2.1 c < 64 by omega), mask_mem hs hi hc, Bool.true_and, Bool.true_and, Bool.not_eq_true', decide_eq_false_iff_not]
          exact ⟨fun a => ⟨a, fun h => by omega⟩, fun a => a.1⟩)
      rw [Int.natCast_zero] at h6
      rw [h6]
      congr 2
      apply dB_eq
      rw [dB_iff]
      constructor
      · rintro ⟨a, b⟩
        refine ⟨hx, fun c hc => ⟨(hval c hc).1, (hval c hc).2, ?_, ?_⟩, fun k hk => (a k hk (Nat.zero_le k)).1⟩
        · intro hneg
          apply Classical.byContradiction
          intro hc'
          have := b c hc hc'
          omega
        · intro hcL
          apply Classical.byContradiction
          intro hge
          have hv := hval c hc
          obtain ⟨k, hk⟩ : ∃ k : Nat, atL h.2.1 h.2.2.1 x c = (k : Int) := ⟨(atL h.2.1 h.2.2.1 x c).toNat, by omega⟩
          exact (a k (by omega) (Nat.zero_le k)).2 c ((mem_cellsOf hs).2 ⟨hc, hk⟩) hcL
      · intro p
        refine ⟨fun j hj _ => ⟨p.pcs j hj, fun c hc hcL => ?_⟩, fun c hc hcL => ?_⟩
        · obtain ⟨h1, h2⟩ := (mem_cellsOf hs).1 hc
          have := (p.val c h1).2.2.2 hcL
          omega
        · obtain ⟨h1, h2, h3⟩ := p.val c hc
          refine ⟨?_, by omega⟩
          apply Int.not_lt.1
          exact fun h => hcL (h3.1 h)
  · have hn : dB (PackV h.1 h.2.1 h.2.2.1 h.2.2.2.1 ps x) = false := by
      rw [Bool.eq_false_iff]
      exact fun hp => hx (dB_iff.1 hp).len
    rw [decide_eq_false (p := (x.length : Int) = ((h.1 * h.2.1 * h.2.2.1).toNat : Int)) (by omega), hn]
    rfl
theorem f_IsPacking {h : D_Heap} {ps : List (List D_A3)} (hl : Small h.2.2.2.1) (hp : Small ps) {x : List Int} (hxs : Small x) : ∃ r : Bool × Bool × Unit, P_impl_IsPacking (h, ps, x, ()) = some r ∧ P_spec_IsPacking (h, ps, x, ()) = some r ∧ r.2.1 = askB h ps ∧ r.1 = (askB h ps && dB (PackV h.1 h.2.1 h.2.2.1 h.2.2.2.1 ps x)) := by
  rw [p_impl_IsPacking, p_spec_IsPacking, f_ask h hl ps hp, f_packed h hl ps hp]
  simp only [Option.bind_some]
  cases ha : askB h ps with
  | false => exact ⟨_, rfl, rfl, rfl, rfl⟩
  | true =>
    rw [f_isPack hl ha hxs, f_specIs hl ha x]
    exact ⟨_, rfl, rfl, rfl, rfl⟩
end Go.VI
namespace Go.VI
open Go.Proofs
section
variable (Y Z : Int) (x : List Int) (n : Nat) (dr k : Int)
def anyF (num : Int) (j d : Nat) : Bool := (List.range' j d).any fun t => decide (x.getD t 0 = num) && decide (get3 (cellOf Y Z t) dr ≥ k)
def crI (i : Nat) : Bool := decide (0 ≤ x.getD i 0) && (decide (get3 (cellOf Y Z i) dr < k) && anyF Y Z x dr k (x.getD i 0) 0 n)
def crB : Bool := (List.range n).any (crI Y Z x n dr k)
end
def planesK (Y Z : Int) (x : List Int) (n : Nat) (dr : Int) : (d k : Nat) → List D_A2
  | 0, _ => []
  | d + 1, k => (bif crB Y Z x n dr (k : Int) then [] else [(dr, ((k : Int), ()))]) ++ planesK Y Z x n dr d (k + 1)
def planesV (X Y Z : Int) (x : List Int) : List D_A2 := planesK Y Z x (X * Y * Z).toNat 0 (X - 1).toNat 1 ++ planesK Y Z x (X * Y * Z).toNat 1 (Y - 1).toNat 1 ++ planesK Y Z x (X * Y * Z).toNat 2 (Z - 1).toNat 1
theorem planesK_len (Y Z : Int) (x : List Int) (n : Nat) (dr : Int) : ∀ d k, (planesK Y Z x n dr d k).length ≤ d
  | 0, _ => by simp [planesK]
  | d + 1, k => by
    have := planesK_len Y Z x n dr d (k + 1)
    rw [planesK]
    cases crB Y Z x n dr (k : Int) <;> simp <;> omega
theorem planesK_mem (Y Z : Int) (x : List Int) (n : Nat) (dr : Int) : ∀ d k, ∀ p ∈ planesK Y Z x n dr d k, p.1 = dr ∧ (k : Int) ≤ p.2.1 ∧ p.2.1 < (k : Int) + d
  | 0, _, p, h => by cases h
  | d + 1, k, p, h => by
    rw [planesK] at h
    rcases List.mem_append.1 h with h | h
    · cases hb : crB Y Z x n dr (k : Int) with
      | true => rw [hb] at h; cases h
      | false =>
        rw [hb] at h
        have := List.mem_singleton.1 h
        rw [this]
        exact ⟨rfl, by simp only; omega, by simp only; omega⟩
    · have := planesK_mem Y Z x n dr d (k + 1) p h
      omega
theorem bif_len {α : Type} (b : Bool) (p : α) : (bif b then [] else [p]).length ≤ 1 := by cases b <;> simp
section
variable {X Y Z : Int} (hs : sides X Y Z = true) {x : List Int} (hx : x.length = (X * Y * Z).toNat) {dr : Int} (d0 : 0 ≤ dr) (d1 : dr ≤ 2)
include hs hx
omit hs hx in
theorem nthX {i : Nat} (hi : i < x.length) : nth (.int .i64) x (i : Int) = x.getD i 0 := by
  rw [nthA (t := .int .i64) hi, List.getD, List.getElem?_eq_getElem hi, Option.getD_some]
include d0 d1
theorem f17 (m0 m1 m2 : Nat) (out : List D_A2) (k num dr2 : Int) {i : Nat} (hi : i < x.length) : ∀ (d j m : Nat) (b : Bool), x.length = j + d → d < m →
    l_impl_FaultPlanes_17 m0 m1 m2 m X Y Z x out dr k b num dr2 x (x.length : Int) (i : Int) x (x.length : Int) (j : Int) = l_impl_FaultPlanes_12 m0 m1 m2 X Y Z x out dr k (b || anyF Y Z x dr k num j d) dr2 x (x.length : Int) ((i + 1 : Nat) : Int)
  | d, j, 0, b, hj, hm => by omega
  | d, j, m + 1, b, hj, hm => by
    have h64 := size64 hs
    rw [q_impl_FaultPlanes_17]
    by_cases hlt : j < x.length
    · obtain ⟨d, rfl⟩ : ∃ d', d = d' + 1 := ⟨d - 1, by omega⟩
      have e : anyF Y Z x dr k num j (d + 1) = (decide (x.getD j 0 = num) && decide (get3 (cellOf Y Z j) dr ≥ k) || anyF Y Z x dr k num (j + 1) d) := by
        unfold anyF; rw [List.range'_succ, List.any_cons]
      rw [ltT hlt, inB_at hlt, nthX hlt, f_box_cell hs (by omega), inB_dir d0 d1, succI j (by omega), e]
      simp only [cond_true, Option.bind_some]
      rw [f17 m0 m1 m2 out k num dr2 hi d (j + 1) m true (by omega) (by omega), f17 m0 m1 m2 out k num dr2 hi d (j + 1) m false (by omega) (by omega), f17 m0 m1 m2 out k num dr2 hi d (j + 1) m _ (by omega) (by omega)]
      have hg : decide ((bif decide (dr = (0 : Int)) then (cellOf Y Z j).1 else (bif decide (dr = (1 : Int)) then (cellOf Y Z j).2.1 else (cellOf Y Z j).2.2.1)) ≥ k) = decide (get3 (cellOf Y Z j) dr ≥ k) := rfl
      rw [hg]
      cases b <;> cases decide (x.getD j 0 = num) <;> simp
    · obtain rfl : d = 0 := by omega
      rw [ltF hlt, succI i (by omega)]
      simp [anyF]
theorem f12 (m0 m1 : Nat) (out : List D_A2) (ho : out.length ≤ 1000) (k dr2 : Int) : ∀ (d i m : Nat) (b : Bool), x.length = i + d → d < m →
    l_impl_FaultPlanes_12 m0 m1 m X Y Z x out dr k b dr2 x (x.length : Int) (i : Int) = l_impl_FaultPlanes_8 m0 m1 X Y Z x (out ++ (bif (b || (List.range' i d).any (crI Y Z x x.length dr k)) then [] else [(dr, (k, ()))])) dr (IntKind.wrap .i64 (k + 1)) dr2
  | d, i, 0, b, hi, hm => by omega
  | d, i, m + 1, b, hi, hm => by
    have h64 := size64 hs
    rw [q_impl_FaultPlanes_12]
    by_cases hlt : i < x.length
    · obtain ⟨d, rfl⟩ : ∃ d', d = d' + 1 := ⟨d - 1, by omega⟩
      have ih := fun b => f12 m0 m1 out ho k dr2 d (i + 1) m b (by omega) (by omega)
      rw [ltT hlt, inB_at hlt, nthX hlt, f_box_cell hs (by omega), inB_dir d0 d1, succI i (by omega), List.range'_succ, List.any_cons]
      have h17 := f17 hs hx d0 d1 m0 m1 m out k (x.getD i 0) dr2 hlt x.length 0 N b (by omega) (by have := N_ge; omega)
      rw [Int.natCast_zero] at h17
      simp only [cond_true, Option.bind_some]
      rw [h17, ih, ih]
      have hg : decide ((bif decide (dr = (0 : Int)) then (cellOf Y Z i).1 else (bif decide (dr = (1 : Int)) then (cellOf Y Z i).2.1 else (cellOf Y Z i).2.2.1)) ≥ k) = decide (get3 (cellOf Y Z i) dr ≥ k) := rfl
      rw [hg]
      unfold crI
      by_cases h1 : x.getD i 0 < 0
      · rw [decide_eq_true h1, decide_eq_false (p := 0 ≤ x.getD i 0) (by omega)]
        simp
      · rw [decide_eq_false h1, decide_eq_true (p := 0 ≤ x.getD i 0) (by omega)]
        by_cases h2 : get3 (cellOf Y Z i) dr ≥ k
        · rw [decide_eq_true h2, decide_eq_false (p := get3 (cellOf Y Z i) dr < k) (by omega)]
          simp
        · rw [decide_eq_false h2, decide_eq_true (p := get3 (cellOf Y Z i) dr < k) (by omega)]
          simp [Bool.or_assoc]
    · obtain rfl : d = 0 := by omega
      have hg : (decide ((out.length + ([(dr, (k, ()))] : List D_A2).length) * 16 ≤ 140737488355328) && decide (out.length + ([(dr, (k, ()))] : List D_A2).length ≤ 140737488355328)) = true := by
        simp only [List.length_cons, List.length_nil, Bool.and_eq_true, decide_eq_true_eq]; omega
      rw [ltF hlt, hg]
      cases b <;> simp
theorem f8 (m0 : Nat) : ∀ (d k m : Nat) (out : List D_A2), side3 X Y Z dr = (k : Int) + d → d < m → k ≤ 1000 → out.length + d ≤ 1000 →
    l_impl_FaultPlanes_8 m0 m X Y Z x out dr (k : Int) dr = l_impl_FaultPlanes_5 m0 X Y Z x (out ++ planesK Y Z x (X * Y * Z).toNat dr d k) (IntKind.wrap .i64 (dr + 1))
  | d, k, 0, out, hk, hm, _, _ => by omega
  | d, k, m + 1, out, hk, hm, h9, ho => by
    have h64 := size64 hs
    have hs4 := (side3_ok hs dr).2
    rw [q_impl_FaultPlanes_8, inB_dir d0 d1]
    have hsd : (bif decide (dr = (0 : Int)) then X else (bif decide (dr = (1 : Int)) then Y else Z)) = side3 X Y Z dr := rfl
    rw [hsd, hk]
    simp only [cond_true]
    cases d with
    | zero =>
      rw [decide_eq_false (by omega)]
      simp [planesK]
    | succ d =>
      have h12 := f12 hs hx d0 d1 m0 m out (by omega) (k : Int) dr x.length 0 N false (by omega) (by have := N_ge; omega)
      rw [Int.natCast_zero] at h12
      rw [decide_eq_true (by omega), cond_true, h12, succI k (by omega), f8 m0 d (k + 1) m _ (by omega) (by omega) (by omega) (by
        rw [List.length_append]
        exact Nat.le_trans (Nat.add_le_add_right (Nat.add_le_add_left (bif_len _ _) _) _) (by omega))]
      rw [planesK, hx, Bool.false_or, ← List.range_eq_range', List.append_assoc]
      rfl
end
theorem f_faultI {X Y Z : Int} (hs : sides X Y Z = true) {x : List Int} (hx : x.length = (X * Y * Z).toNat) : l_impl_FaultPlanes_5 N X Y Z x [] 0 = some (planesV X Y Z x, true, ()) := by
  obtain ⟨s1, s2, s3⟩ := sides_iff.1 hs
  have a0 : side3 X Y Z 0 = X := rfl
  have a1 : side3 X Y Z 1 = Y := rfl
  have a2 : side3 X Y Z 2 = Z := rfl
  have l0 := planesK_len Y Z x (X * Y * Z).toNat 0 (X - 1).toNat 1
  have l1 := planesK_len Y Z x (X * Y * Z).toNat 1 (Y - 1).toNat 1
  have e0 := fun m0 => f8 hs hx (dr := 0) (by omega) (by omega) m0 (X - 1).toNat 1 N [] (by rw [a0]; omega) (by have := N_ge; omega) (by omega) (by rw [List.length_nil]; omega)
  have e1 := fun m0 => f8 hs hx (dr := 1) (by omega) (by omega) m0 (Y - 1).toNat 1 N ([] ++ planesK Y Z x (X * Y * Z).toNat 0 (X - 1).toNat 1) (by rw [a1]; omega) (by have := N_ge; omega) (by omega) (by rw [List.nil_append]; omega)
  have e2 := fun m0 => f8 hs hx (dr := 2) (by omega) (by omega) m0 (Z - 1).toNat 1 N ([] ++ planesK Y Z x (X * Y * Z).toNat 0 (X - 1).toNat 1 ++ planesK Y Z x (X * Y * Z).toNat 1 (Y - 1).toNat 1) (by rw [a2]; omega) (by have := N_ge; omega) (by omega) (by rw [List.nil_append, List.length_append]; omega)
  rw [Int.natCast_one] at e0 e1 e2
  obtain ⟨n, hn⟩ : ∃ n, N = n + 4 := ⟨N - 4, N_eq⟩
  rw [hn, q_impl_FaultPlanes_5]
  rw [show decide ((0 : Int) < 3) = true from rfl, cond_true, e0, one64, q_impl_FaultPlanes_5]
  rw [show decide ((1 : Int) < 3) = true from rfl, cond_true, e1, two64, q_impl_FaultPlanes_5]
  rw [show decide ((2 : Int) < 3) = true from rfl, cond_true, e2, three64, q_impl_FaultPlanes_5]
  rw [show decide ((3 : Int) < 3) = false from rfl, cond_false, List.nil_append]
  rfl
section
variable {X Y Z : Int} (hs : sides X Y Z = true) (L : List D_A3) {x : List Int} (hx : x.length = (X * Y * Z).toNat) {dr : Int} (d0 : 0 ≤ dr) (d1 : dr ≤ 2)
include hs hx
theorem allN : (allCells X Y Z).length = x.length := by rw [hx, ← upto_all hs]; simp [upto]
theorem nthC {i : Nat} (hi : i < x.length) : nth T_A3 (allCells X Y Z) (i : Int) = cellOf Y Z i := (nth_all hs (by omega)).2
include d0 d1
theorem g16 (m0 m1 m2 : Nat) (out : List D_A2) (k : Int) {i : Nat} (hi : i < x.length) (hpos : 0 ≤ x.getD i 0) : ∀ (d j m : Nat) (b : Bool), x.length = j + d → d < m →
    l_spec_FaultPlanes_16 m0 m1 m2 m X Y Z L x out (allCells X Y Z) dr k b (i : Int) (j : Int) = l_spec_FaultPlanes_13 m0 m1 m2 X Y Z L x out (allCells X Y Z) dr k (b || (decide (get3 (cellOf Y Z i) dr < k) && anyF Y Z x dr k (x.getD i 0) j d)) ((i + 1 : Nat) : Int)
  | d, j, 0, b, hj, hm => by omega
  | d, j, m + 1, b, hj, hm => by
    have h64 := size64 hs
    rw [q_spec_FaultPlanes_16, allN hs hx]
    by_cases hlt : j < x.length
    · obtain ⟨d, rfl⟩ : ∃ d', d = d' + 1 := ⟨d - 1, by omega⟩
      have e : anyF Y Z x dr k (x.getD i 0) j (d + 1) = (decide (x.getD j 0 = x.getD i 0) && decide (get3 (cellOf Y Z j) dr ≥ k) || anyF Y Z x dr k (x.getD i 0) (j + 1) d) := by
        unfold anyF; rw [List.range'_succ, List.any_cons]
      rw [ltT hlt, inB_at hlt, inB_at hi, nthX hlt, nthX hi, nthC hs hx hlt, nthC hs hx hi, inB_dir d0 d1, succI j (by omega), e, decide_eq_true (p := x.getD i 0 ≥ 0) hpos]
      simp only [cond_true]
      rw [g16 m0 m1 m2 out k hi hpos d (j + 1) m true (by omega) (by omega), g16 m0 m1 m2 out k hi hpos d (j + 1) m b (by omega) (by omega)]
      have hg : decide ((bif decide (dr = (0 : Int)) then (cellOf Y Z j).1 else (bif decide (dr = (1 : Int)) then (cellOf Y Z j).2.1 else (cellOf Y Z j).2.2.1)) ≥ k) = decide (get3 (cellOf Y Z j) dr ≥ k) := rfl
      have hg2 : decide ((bif decide (dr = (0 : Int)) then (cellOf Y Z i).1 else (bif decide (dr = (1 : Int)) then (cellOf Y Z i).2.1 else (cellOf Y Z i).2.2.1)) < k) = decide (get3 (cellOf Y Z i) dr < k) := rfl
      rw [hg, hg2]
      cases decide (x.getD j 0 = x.getD i 0) <;> cases decide (get3 (cellOf Y Z i) dr < k) <;> cases decide (get3 (cellOf Y Z j) dr ≥ k) <;> simp
    · obtain rfl : d = 0 := by omega
      rw [ltF hlt, succI i (by omega)]
      simp [anyF]
theorem g13 (m0 m1 : Nat) (out : List D_A2) (ho : out.length ≤ 1000) (k : Int) : ∀ (d i m : Nat) (b : Bool), x.length = i + d → d < m →
    l_spec_FaultPlanes_13 m0 m1 m X Y Z L x out (allCells X Y Z) dr k b (i : Int) = l_spec_FaultPlanes_9 m0 m1 X Y Z L x (out ++ (bif (b || (List.range' i d).any (crI Y Z x x.length dr k)) then [] else [(dr, (k, ()))])) (allCells X Y Z) dr (IntKind.wrap .i64 (k + 1))
  | d, i, 0, b, hi, hm => by omega
  | d, i, m + 1, b, hi, hm => by
    have h64 := size64 hs
    rw [q_spec_FaultPlanes_13, allN hs hx]
    by_cases hlt : i < x.length
    · obtain ⟨d, rfl⟩ : ∃ d', d = d' + 1 := ⟨d - 1, by omega⟩
      have ih := fun b => g13 m0 m1 out ho k d (i + 1) m b (by omega) (by omega)
      rw [ltT hlt, List.range'_succ, List.any_cons]
      simp only [cond_true]
      unfold crI
      by_cases h1 : 0 ≤ x.getD i 0
      · have h16 := g16 hs L hx d0 d1 m0 m1 m out k hlt h1 x.length 0 N b (by omega) (by have := N_ge; omega)
        rw [Int.natCast_zero] at h16
        rw [h16, ih, decide_eq_true h1, Bool.true_and, Bool.or_assoc]
        rfl
      · have hN : N = N - 4 + 4 := N_eq
        rw [hN, q_spec_FaultPlanes_16, allN hs hx, inB_at hlt, nthX hlt, decide_eq_false (p := x.getD i 0 ≥ 0) h1, succI i (by omega), ih]
        have h0 : decide ((0 : Int) < (x.length : Int)) = true := decide_eq_true (by omega)
        rw [h0]
        simp only [cond_true, cond_false, Bool.false_and, Bool.false_or]
        rfl
    · obtain rfl : d = 0 := by omega
      have hg : (decide ((out.length + ([(dr, (k, ()))] : List D_A2).length) * 16 ≤ 140737488355328) && decide (out.length + ([(dr, (k, ()))] : List D_A2).length ≤ 140737488355328)) = true := by
        simp only [List.length_cons, List.length_nil, Bool.and_eq_true, decide_eq_true_eq]; omega
      rw [ltF hlt, hg]
      cases b <;> simp
theorem g9 (m0 : Nat) : ∀ (d k m : Nat) (out : List D_A2), side3 X Y Z dr = (k : Int) + d → d < m → k ≤ 1000 → out.length + d ≤ 1000 →
    l_spec_FaultPlanes_9 m0 m X Y Z L x out (allCells X Y Z) dr (k : Int) = l_spec_FaultPlanes_6 m0 X Y Z L x (out ++ planesK Y Z x (X * Y * Z).toNat dr d k) (allCells X Y Z) (IntKind.wrap .i64 (dr + 1))
  | d, k, 0, out, hk, hm, _, _ => by omega
  | d, k, m + 1, out, hk, hm, h9, ho => by
    have h64 := size64 hs
    have hs4 := (side3_ok hs dr).2
    rw [q_spec_FaultPlanes_9, f_l2Long L d0 d1, hk]
    simp only [Option.bind_some]
    cases d with
    | zero =>
      rw [decide_eq_false (by omega)]
      simp [planesK]
    | succ d =>
      have h12 := g13 hs L hx d0 d1 m0 m out (by omega) (k : Int) x.length 0 N false (by omega) (by have := N_ge; omega)
      rw [Int.natCast_zero] at h12
      rw [decide_eq_true (by omega), cond_true, h12, succI k (by omega), g9 m0 d (k + 1) m _ (by omega) (by omega) (by omega) (by
        rw [List.length_append]
        exact Nat.le_trans (Nat.add_le_add_right (Nat.add_le_add_left (bif_len _ _) _) _) (by omega))]
      rw [planesK, hx, Bool.false_or, ← List.range_eq_range', List.append_assoc]
      rfl
end
theorem f_faultS {X Y Z : Int} (hs : sides X Y Z = true) (L : List D_A3) {x : List Int} (hx : x.length = (X * Y * Z).toNat) : l_spec_FaultPlanes_6 N X Y Z L x [] (allCells X Y Z) 0 = some (planesV X Y Z x, true, ()) := by
  obtain ⟨s1, s2, s3⟩ := sides_iff.1 hs
  have a0 : side3 X Y Z 0 = X := rfl
  have a1 : side3 X Y Z 1 = Y := rfl
  have a2 : side3 X Y Z 2 = Z := rfl
  have l0 := planesK_len Y Z x (X * Y * Z).toNat 0 (X - 1).toNat 1
  have l1 := planesK_len Y Z x (X * Y * Z).toNat 1 (Y - 1).toNat 1
  have e0 := fun m0 => g9 hs L hx (dr := 0) (by omega) (by omega) m0 (X - 1).toNat 1 N [] (by rw [a0]; omega) (by have := N_ge; omega) (by omega) (by rw [List.length_nil]; omega)
  have e1 := fun m0 => g9 hs L hx (dr := 1) (by omega) (by omega) m0 (Y - 1).toNat 1 N ([] ++ planesK Y Z x (X * Y * Z).toNat 0 (X - 1).toNat 1) (by rw [a1]; omega) (by have := N_ge; omega) (by omega) (by rw [List.nil_append]; omega)
  have e2 := fun m0 => g9 hs L hx (dr := 2) (by omega) (by omega) m0 (Z - 1).toNat 1 N ([] ++ planesK Y Z x (X * Y * Z).toNat 0 (X - 1).toNat 1 ++ planesK Y Z x (X * Y * Z).toNat 1 (Y - 1).toNat 1) (by rw [a2]; omega) (by have := N_ge; omega) (by omega) (by rw [List.nil_append, List.length_append]; omega)
  rw [Int.natCast_one] at e0 e1 e2
  obtain ⟨n, hn⟩ : ∃ n, N = n + 4 := ⟨N - 4, N_eq⟩
  rw [hn, q_spec_FaultPlanes_6]
  rw [show decide ((0 : Int) < 3) = true from rfl, cond_true, e0, one64, q_spec_FaultPlanes_6]
  rw [show decide ((1 : Int) < 3) = true from rfl, cond_true, e1, two64, q_spec_FaultPlanes_6]
  rw [show decide ((2 : Int) < 3) = true from rfl, cond_true, e2, three64, q_spec_FaultPlanes_6]
  rw [show decide ((3 : Int) < 3) = false from rfl, cond_false, List.nil_append]
  rfl
theorem f_fault {h : D_Heap} {ps : List (List D_A3)} (hl : Small h.2.2.2.1) (hp : Small ps) {x : List Int} (hxs : Small x) : ∃ r : List D_A2 × Bool × Unit, P_impl_FaultPlanes (h, ps, x, ()) = some r ∧ P_spec_FaultPlanes (h, ps, x, ()) = some r ∧
    r.2.1 = (askB h ps && dB (PackV h.1 h.2.1 h.2.2.1 h.2.2.2.1 ps x)) ∧ Small r.1 ∧ ∀ p ∈ r.1, (0 ≤ p.1 ∧ p.1 ≤ 2) ∧ 1 ≤ p.2.1 ∧ p.2.1 ≤ 3 := by
  rw [p_impl_FaultPlanes, p_spec_FaultPlanes, f_ask h hl ps hp, f_packed h hl ps hp]
  simp only [Option.bind_some]
  cases ha : askB h ps with
  | false => exact ⟨_, rfl, rfl, rfl, by unfold Small; simp, fun p h => by cases h⟩
  | true =>
    rw [f_isPack hl ha hxs, f_specIs hl ha x]
    simp only [Option.bind_some, Bool.not_true, cond_false]
    cases hd : dB (PackV h.1 h.2.1 h.2.2.1 h.2.2.2.1 ps x) with
    | false => exact ⟨_, rfl, rfl, rfl, by unfold Small; simp, fun p h => by cases h⟩
    | true =>
      obtain ⟨ho, hps, h8⟩ := askB_iff ha
      obtain ⟨hs, hi, hr⟩ := okHeap_iff.1 ho
      obtain ⟨s1, s2, s3⟩ := sides_iff.1 hs
      have hx := (dB_iff.1 hd).len
      have hall : P_spec_l2All (h, ()) = _ := f_l2All h.2.2.2.1 hs
      have e1 := f_faultI hs hx
      have e2 := f_faultS hs h.2.2.2.1 hx
      rw [f_Heap_box, hall]
      simp only [Option.bind_some, Bool.not_true, cond_false]
      refine ⟨_, e1, e2, rfl, ?_, fun p hp => ?_⟩
      · have l0 := planesK_len h.2.1 h.2.2.1 x (h.1 * h.2.1 * h.2.2.1).toNat 0 (h.1 - 1).toNat 1
        have l1 := planesK_len h.2.1 h.2.2.1 x (h.1 * h.2.1 * h.2.2.1).toNat 1 (h.2.1 - 1).toNat 1
        have l2 := planesK_len h.2.1 h.2.2.1 x (h.1 * h.2.1 * h.2.2.1).toNat 2 (h.2.2.1 - 1).toNat 1
        unfold Small planesV
        rw [List.length_append, List.length_append]
        omega
      · have hp' : p ∈ planesV h.1 h.2.1 h.2.2.1 x := hp
        unfold planesV at hp'
        rcases List.mem_append.1 hp' with h' | h'
        · rcases List.mem_append.1 h' with h' | h'
          · have := planesK_mem _ _ _ _ _ _ _ p h'; omega
          · have := planesK_mem _ _ _ _ _ _ _ p h'; omega
        · have := planesK_mem _ _ _ _ _ _ _ p h'; omega
end Go.VI
namespace Go.VI
open Go.Proofs
def sgn (c : D_A3) : Int := 1 - 2 * ((c.1 + c.2.1 + c.2.2.1) % 2)
def par : List D_A3 → Int
  | [] => 0
  | c :: r => sgn c + par r
theorem sgn_is (c : D_A3) : sgn c = 1 ∨ sgn c = -1 := by
  unfold sgn
  omega
theorem par_le : ∀ l : List D_A3, -(l.length : Int) ≤ par l ∧ par l ≤ l.length
  | [] => by simp [par]
  | c :: r => by
    have := par_le r
    have := sgn_is c
    rw [List.length_cons, par]
    omega
theorem sgn_text {c : D_A3} (h : within3 4 4 4 c = true) : IntKind.wrap .i64 (2 * (Int.tmod (IntKind.wrap .i64 ((IntKind.wrap .i64 (c.1 + c.2.1)) + c.2.2.1)) 2)) = 1 - sgn c := by
  obtain ⟨h0, h1, h2⟩ := within3_iff.1 h
  rw [w64 (x := c.1 + c.2.1) (by omega) (by omega), w64 (x := c.1 + c.2.1 + c.2.2.1) (by omega) (by omega), Int.tmod_eq_emod_of_nonneg (by omega), w64 (by omega) (by omega)]
  unfold sgn
  omega
theorem l_parI {l : List D_A3} (hl : l.length ≤ 1000) (hi : Ins 4 4 4 l) : ∀ (d k m : Nat) (acc : Int), l.length = k + d → d < m → -(k : Int) ≤ acc ∧ acc ≤ k → l_impl_parity_3 m acc l (l.length : Int) (k : Int) = some (acc + par (l.drop k), ())
  | d, k, 0, acc, hk, hm, _ => by omega
  | d, k, m + 1, acc, hk, hm, ha => by
    rw [q_impl_parity_3]
    by_cases hlt : k < l.length
    · have hs := sgn_is l[k]
      rw [ltT hlt, inB_at hlt, nthA (t := T_A3) hlt, sgn_text (hi _ (List.getElem_mem hlt)), w64 (x := 1 - (1 - sgn l[k])) (by omega) (by omega), w64 (x := acc + (1 - (1 - sgn l[k]))) (by omega) (by omega), succI k (by omega), l_parI hl hi (d - 1) (k + 1) m _ (by omega) (by omega) (by omega), drop_at l k hlt, par]
      simp only [cond_true]
      rw [show acc + (1 - (1 - sgn l[k])) + par (l.drop (k + 1)) = acc + (sgn l[k] + par (l.drop (k + 1))) by omega]
    · rw [ltF hlt, List.drop_eq_nil_of_le (by omega), par, Int.add_zero]; rfl
theorem f_parI {l : List D_A3} (hl : l.length ≤ 1000) (hi : Ins 4 4 4 l) : P_impl_parity (l, ()) = some (par l, ()) := by
  have := l_parI hl hi l.length 0 N 0 (by simp) (by have := N_ge; omega) (by omega)
  rw [Int.natCast_zero, List.drop_zero, Int.zero_add] at this
  rw [p_impl_parity]
  exact this
theorem l_parS {l : List D_A3} (hl : l.length ≤ 1000) (hi : Ins 4 4 4 l) : ∀ (d k m : Nat) (acc : Int), l.length = k + d → d < m → -(k : Int) ≤ acc ∧ acc ≤ k → l_spec_l9Parity_3 m l acc (k : Int) = some (acc + par (l.drop k), ())
  | d, k, 0, acc, hk, hm, _ => by omega
  | d, k, m + 1, acc, hk, hm, ha => by
    rw [q_spec_l9Parity_3]
    by_cases hlt : k < l.length
    · have hs := sgn_is l[k]
      rw [ltT hlt, inB_at hlt, nthA (t := T_A3) hlt, sgn_text (hi _ (List.getElem_mem hlt)), w64 (x := acc + 1) (by omega) (by omega), w64 (x := acc + 1 - (1 - sgn l[k])) (by omega) (by omega), succI k (by omega), l_parS hl hi (d - 1) (k + 1) m _ (by omega) (by omega) (by omega), drop_at l k hlt, par]
      simp only [cond_true]
      rw [show acc + 1 - (1 - sgn l[k]) + par (l.drop (k + 1)) = acc + (sgn l[k] + par (l.drop (k + 1))) by omega]
    · rw [ltF hlt, List.drop_eq_nil_of_le (by omega), par, Int.add_zero]; rfl
theorem f_parS {l : List D_A3} (hl : l.length ≤ 1000) (hi : Ins 4 4 4 l) : P_spec_l9Parity (l, ()) = some (par l, ()) := by
  have := l_parS hl hi l.length 0 N 0 (by simp) (by have := N_ge; omega) (by omega)
  rw [Int.natCast_zero, List.drop_zero, Int.zero_add] at this
  rw [p_spec_l9Parity]
  exact this
def sg (code i : Nat) : Int := bif code.testBit i then -1 else 1
theorem sg_is (code i : Nat) : sg code i = 1 ∨ sg code i = -1 := by unfold sg; cases code.testBit i <;> simp
def ssum (code : Nat) : Nat → List (List D_A3) → Int
  | _, [] => 0
  | i, q :: r => sg code i * par q + ssum code (i + 1) r
def chkS : Bool := ((List.range 256).all fun code => (List.range 8).all fun i => (intBits .and .i64 (shrI .i64 (code : Int) (i : Int)) 1 == (bif code.testBit i then 1 else 0))) && (List.range 9).all fun m => shlI .i64 1 (m : Int) == ((2 ^ m : Nat) : Int)
theorem chkS_ok : chkS = true := by kernel_rfl
theorem bit_is {code i : Nat} (hc : code < 256) (hi : i < 8) : IntKind.wrap .i64 (1 - (IntKind.wrap .i64 (2 * (intBits .and .i64 (shrI .i64 (code : Int) (i : Int)) 1)))) = sg code i := by
  have h := chkS_ok
  unfold chkS at h
  rw [Bool.and_eq_true] at h
  have h' := List.all_eq_true.1 (List.all_eq_true.1 h.1 code (List.mem_range.2 hc)) i (List.mem_range.2 hi)
  rw [beq_iff_eq.1 h']
  unfold sg
  cases code.testBit i with
  | true => rw [cond_true, cond_true, w64 (x := 2 * 1) (by omega) (by omega), w64 (by omega) (by omega)]; rfl
  | false => rw [cond_false, cond_false, w64 (x := 2 * 0) (by omega) (by omega), w64 (by omega) (by omega)]; rfl
theorem shl_is {m : Nat} (hm : m ≤ 8) : shlI .i64 1 (m : Int) = ((2 ^ m : Nat) : Int) := by
  have h := chkS_ok
  unfold chkS at h
  rw [Bool.and_eq_true] at h
  exact beq_iff_eq.1 (List.all_eq_true.1 h.2 m (List.mem_range.2 (by omega)))
theorem two_pow8 {m : Nat} (hm : m ≤ 8) : 2 ^ m ≤ 256 := Nat.pow_le_pow_right (n := 2) (by omega) hm
section
variable {ps : List (List D_A3)} (h8 : ps.length ≤ 8) (hps : ∀ q ∈ ps, PieceOK q) (want : Int)
include h8 hps
theorem b9S (m0 : Nat) {code : Nat} (hc : code < 256) : ∀ (d i m : Nat) (acc : Int), ps.length = i + d → d < m → -(5 * i : Int) ≤ acc ∧ acc ≤ 5 * i →
    l_spec_ParityBars_9 m0 m ps want (code : Int) acc (i : Int) = bif decide (acc + ssum code i (ps.drop i) = want) then some (false, true, ()) else l_spec_ParityBars_5 m0 ps want ((code + 1 : Nat) : Int)
  | d, i, 0, acc, hi, hm, _ => by omega
  | d, i, m + 1, acc, hi, hm, ha => by
    rw [q_spec_ParityBars_9]
    by_cases hlt : i < ps.length
    · have hq : PieceOK ps[i] := hps _ (List.getElem_mem hlt)
      have h5 := hq.len
      have hp := par_le ps[i]
      have hb : -5 ≤ sg code i * par ps[i] ∧ sg code i * par ps[i] ≤ 5 := by
        rcases sg_is code i with h | h <;> rw [h] <;> omega
      have hf : P_spec_l9Parity (ps[i], ()) = some (par ps[i], ()) := f_parS (by omega) hq.ins
      rw [ltT hlt, decide_eq_true (Int.natCast_nonneg i), inB_at hlt, nthA (t := .sl T_A3) hlt, hf, bit_is hc (by omega)]
      simp only [cond_true, Option.bind_some]
      rw [w64 (x := sg code i * par ps[i]) (by omega) (by omega), w64 (x := acc + sg code i * par ps[i]) (by omega) (by omega), succI i (by omega), b9S m0 hc (d - 1) (i + 1) m _ (by omega) (by omega) (by omega), drop_at ps i hlt, ssum, Int.add_assoc]
    · rw [ltF hlt, List.drop_eq_nil_of_le (by omega), ssum, Int.add_zero, succI code (by omega)]; rfl
theorem b5S : ∀ (d code m : Nat), 2 ^ ps.length = code + d → d < m → l_spec_ParityBars_5 m ps want (code : Int) = some (!(List.range' code d).any fun c => decide (ssum c 0 ps = want), true, ())
  | d, code, 0, hc, hm => by omega
  | d, code, m + 1, hc, hm => by
    have h256 := two_pow8 h8
    rw [q_spec_ParityBars_5, decide_eq_true (p := (0 : Int) ≤ (ps.length : Int)) (by omega), shl_is h8]
    by_cases hlt : code < 2 ^ ps.length
    · obtain ⟨d, rfl⟩ : ∃ d', d = d' + 1 := ⟨d - 1, by omega⟩
      have := b9S h8 hps want m (code := code) (by omega) ps.length 0 N 0 (by omega) (by have := N_ge; omega) (by omega)
      rw [Int.natCast_zero, List.drop_zero, Int.zero_add] at this
      rw [decide_eq_true (p := (code : Int) < ((2 ^ ps.length : Nat) : Int)) (by omega), cond_true, cond_true, this, b5S d (code + 1) m (by omega) (by omega), List.range'_succ, List.any_cons]
      cases decide (ssum code 0 ps = want) <;> rfl
    · obtain rfl : d = 0 := by omega
      rw [decide_eq_false (p := (code : Int) < ((2 ^ ps.length : Nat) : Int)) (by omega)]
      rfl
theorem b9I (m0 : Nat) {code : Nat} (hc : code < 256) (lim : Int) : ∀ (d i m : Nat) (acc : Int), ps.length = i + d → d < m → -(5 * i : Int) ≤ acc ∧ acc ≤ 5 * i →
    l_impl_ParityBars_9 m0 m ps want (code : Int) acc lim (code : Int) ps (ps.length : Int) (i : Int) = bif decide (acc + ssum code i (ps.drop i) = want) then some (false, true, ()) else l_impl_ParityBars_5 m0 ps want lim ((code + 1 : Nat) : Int)
  | d, i, 0, acc, hi, hm, _ => by omega
  | d, i, m + 1, acc, hi, hm, ha => by
    rw [q_impl_ParityBars_9]
    by_cases hlt : i < ps.length
    · have hq : PieceOK ps[i] := hps _ (List.getElem_mem hlt)
      have h5 := hq.len
      have hp := par_le ps[i]
      have hb : -5 ≤ sg code i * par ps[i] ∧ sg code i * par ps[i] ≤ 5 := by
        rcases sg_is code i with h | h <;> rw [h] <;> omega
      have hf : P_impl_parity (ps[i], ()) = some (par ps[i], ()) := f_parI (by omega) hq.ins
      rw [ltT hlt, decide_eq_true (Int.natCast_nonneg i), inB_at hlt, nthA (t := .sl T_A3) hlt, hf, bit_is hc (by omega)]
      simp only [cond_true, Option.bind_some]
      rw [Int.mul_comm (par ps[i]), w64 (x := sg code i * par ps[i]) (by omega) (by omega), w64 (x := acc + sg code i * par ps[i]) (by omega) (by omega), succI i (by omega), b9I m0 hc lim (d - 1) (i + 1) m _ (by omega) (by omega) (by omega), drop_at ps i hlt, ssum, Int.add_assoc]
    · rw [ltF hlt, List.drop_eq_nil_of_le (by omega), ssum, Int.add_zero, succI code (by omega)]; rfl
theorem b5I : ∀ (d code m : Nat), 2 ^ ps.length = code + d → d < m → l_impl_ParityBars_5 m ps want ((2 ^ ps.length : Nat) : Int) (code : Int) = some (!(List.range' code d).any fun c => decide (ssum c 0 ps = want), true, ())
  | d, code, 0, hc, hm => by omega
  | d, code, m + 1, hc, hm => by
    have h256 := two_pow8 h8
    rw [q_impl_ParityBars_5]
    by_cases hlt : code < 2 ^ ps.length
    · obtain ⟨d, rfl⟩ : ∃ d', d = d' + 1 := ⟨d - 1, by omega⟩
      have := b9I h8 hps want m (code := code) (by omega) ((2 ^ ps.length : Nat) : Int) ps.length 0 N 0 (by omega) (by have := N_ge; omega) (by omega)
      rw [Int.natCast_zero, List.drop_zero, Int.zero_add] at this
      rw [decide_eq_true (p := (code : Int) < ((2 ^ ps.length : Nat) : Int)) (by omega), cond_true, this, b5I d (code + 1) m (by omega) (by omega), List.range'_succ, List.any_cons]
      cases decide (ssum code 0 ps = want) <;> rfl
    · obtain rfl : d = 0 := by omega
      rw [decide_eq_false (p := (code : Int) < ((2 ^ ps.length : Nat) : Int)) (by omega)]
      rfl
end
def freeC (X Y Z : Int) (L : List D_A3) : List D_A3 := (allCells X Y Z).filter fun c => decide (c ∉ L)
theorem l_free9 {X Y Z : Int} (hs : sides X Y Z = true) {L : List D_A3} (hL : Small L) : ∀ (d k m : Nat) (acc : List D_A3), (allCells X Y Z).length = k + d → d < m → acc.length ≤ k →
    l_spec_l9Free_4 m X Y Z L 0 0 0 [] X Y Z acc (allCells X Y Z) (k : Int) = some ((X, Y, Z, acc ++ ((allCells X Y Z).drop k).filter (fun c => decide (c ∉ L)), ()), ())
  | d, k, 0, acc, hk, hm, _ => by omega
  | d, k, m + 1, acc, hk, hm, hac => by
    have hsm := (allCells_ok hs).1
    unfold Small at hsm
    rw [q_spec_l9Free_4]
    by_cases hlt : k < (allCells X Y Z).length
    · have hg : (decide ((acc.length + ([(allCells X Y Z)[k]] : List D_A3).length) * 24 ≤ 140737488355328) && decide (acc.length + ([(allCells X Y Z)[k]] : List D_A3).length ≤ 140737488355328)) = true := len24 (by omega) 1 (by omega)
      rw [ltT hlt, inB_at hlt, nthA (t := T_A3) hlt, f_l2Has X Y Z L _ hL, hg, succI k (by omega), l_free9 hs hL (d - 1) (k + 1) m _ (by omega) (by omega) (by simp; omega), l_free9 hs hL (d - 1) (k + 1) m _ (by omega) (by omega) (by omega), drop_at _ k hlt, List.filter_cons]
      simp only [cond_true, Option.bind_some]
      by_cases hm : (allCells X Y Z)[k] ∈ L
      · rw [decide_eq_true hm, decide_eq_false (p := (allCells X Y Z)[k] ∉ L) (fun h => h hm)]
        simp
      · rw [decide_eq_false hm, decide_eq_true (p := (allCells X Y Z)[k] ∉ L) hm]
        simp
    · rw [ltF hlt, List.drop_eq_nil_of_le (by omega)]
      simp
theorem f_free9 {h : D_Heap} (hl : Small h.2.2.2.1) (ho : okHeap h = true) : P_spec_l9Free (h, ()) = some ((h.1, h.2.1, h.2.2.1, freeC h.1 h.2.1 h.2.2.1 h.2.2.2.1, ()), ()) := by
  obtain ⟨hs, hi, hr⟩ := okHeap_iff.1 ho
  have hall : P_spec_l2All (h, ()) = _ := f_l2All h.2.2.2.1 hs
  have hsm := (allCells_ok hs).1
  unfold Small at hsm
  have := l_free9 hs hl (allCells h.1 h.2.1 h.2.2.1).length 0 N [] (by simp) (by have := N_ge; omega) (by simp)
  rw [Int.natCast_zero, List.drop_zero, List.nil_append] at this
  rw [p_spec_l9Free, p_spec_l2Empty, hall]
  exact this
theorem free_list {h : D_Heap} (ho : okHeap h = true) : P_box_list ((h.1, h.2.1, h.2.2.1, ()), ((fullBits (h.1 * h.2.1 * h.2.2.1).toNat &&& ~~~(mask h.2.1 h.2.2.1 h.2.2.2.1 0)).toNat : Int), ()) = some (freeC h.1 h.2.1 h.2.2.1 h.2.2.2.1, ()) := by
  obtain ⟨hs, hi, hr⟩ := okHeap_iff.1 ho
  have h64 := size64 hs
  rw [f_box_list hs]
  have e : bitCells h.1 h.2.1 h.2.2.1 (fullBits (h.1 * h.2.1 * h.2.2.1).toNat &&& ~~~(mask h.2.1 h.2.2.1 h.2.2.2.1 0)) = freeC h.1 h.2.1 h.2.2.1 h.2.2.2.1 := by
    apply srt_ext _ _ (srt_listOf hs _) ((allCells_ok hs).2.2.filter _)
    intro c
    rw [mem_listOf hs, List.mem_filter, mem_allCells hs, decide_eq_true_eq]
    constructor
    · rintro ⟨hw, hb⟩
      have hi64 : idx h.2.1 h.2.2.1 c < 64 := by have := (idx_eq hs hw).2.1; omega
      rw [BitVec.getLsbD_and, BitVec.getLsbD_not, decide_eq_true hi64, mask_mem hs hi hw, Bool.true_and, Bool.and_eq_true, Bool.not_eq_true', decide_eq_false_iff_not] at hb
      exact ⟨hw, hb.2⟩
    · rintro ⟨hw, hb⟩
      have hix := (idx_eq hs hw).2.1
      refine ⟨hw, ?_⟩
      rw [BitVec.getLsbD_and, BitVec.getLsbD_not, decide_eq_true (show idx h.2.1 h.2.2.1 c < 64 by omega), mask_mem hs hi hw, fullBits_bit (by omega), decide_eq_true hix, decide_eq_false hb]
      rfl
  rw [e]
def barsV (h : D_Heap) (ps : List (List D_A3)) : Bool := !(List.range (2 ^ ps.length)).any fun c => decide (ssum c 0 ps = par (freeC h.1 h.2.1 h.2.2.1 h.2.2.2.1))
theorem f_bars {h : D_Heap} {ps : List (List D_A3)} (hl : Small h.2.2.2.1) (hp : Small ps) : ∃ r : Bool × Bool × Unit, P_impl_ParityBars (h, ps, ()) = some r ∧ P_spec_ParityBars (h, ps, ()) = some r ∧ r.2.1 = askB h ps ∧ r.1 = (askB h ps && barsV h ps) := by
  rw [p_impl_ParityBars, p_spec_ParityBars, f_ask h hl ps hp, f_packed h hl ps hp]
  simp only [Option.bind_some]
  cases ha : askB h ps with
  | false => exact ⟨_, rfl, rfl, rfl, rfl⟩
  | true =>
    obtain ⟨ho, hps, h8⟩ := askB_iff ha
    obtain ⟨hs, hi, hr⟩ := okHeap_iff.1 ho
    obtain ⟨s1, s2, s3⟩ := sides_iff.1 hs
    have h64 := size64 hs
    have hfl : (freeC h.1 h.2.1 h.2.2.1 h.2.2.2.1).length ≤ 1000 := by
      have hlen : (allCells h.1 h.2.1 h.2.2.1).length = (h.1 * h.2.1 * h.2.2.1).toNat := by rw [← upto_all hs]; simp [upto]
      have := List.length_filter_le (fun c => decide (c ∉ h.2.2.2.1)) (allCells h.1 h.2.1 h.2.2.1)
      unfold freeC
      omega
    have hfi : Ins 4 4 4 (freeC h.1 h.2.1 h.2.2.1 h.2.2.2.1) := fun c hc => by
      have := within3_iff.1 ((mem_allCells hs c).1 (List.mem_filter.1 hc).1)
      rw [within3_iff]; omega
    have h256 := two_pow8 h8
    have eI := b5I h8 hps (par (freeC h.1 h.2.1 h.2.2.1 h.2.2.2.1)) (2 ^ ps.length) 0 N (by omega) (by have := N_ge; omega)
    have eS := b5S h8 hps (par (freeC h.1 h.2.1 h.2.2.1 h.2.2.2.1)) (2 ^ ps.length) 0 N (by omega) (by have := N_ge; omega)
    rw [Int.natCast_zero] at eI eS
    rw [f_Heap_box, f_free hl ho, f_free9 hl ho]
    simp only [Bool.not_true, cond_false, Option.bind_some]
    rw [free_list ho]
    simp only [Option.bind_some]
    rw [f_parI hfl hfi, f_parS hfl hfi]
    simp only [Option.bind_some]
    rw [decide_eq_true (p := (0 : Int) ≤ (ps.length : Int)) (by omega), shl_is h8, cond_true, eI, eS]
    refine ⟨_, rfl, rfl, rfl, ?_⟩
    unfold barsV
    rw [List.range_eq_range']
    rfl
theorem sgn_ad (a c : D_A3) : sgn (ad a c) = sgn a * sgn c := by
  have e : (c.1 + a.1 + (c.2.1 + a.2.1) + (c.2.2.1 + a.2.2.1)) % 2 = ((a.1 + a.2.1 + a.2.2.1) % 2 + (c.1 + c.2.1 + c.2.2.1) % 2) % 2 := by omega
  have h1 : (a.1 + a.2.1 + a.2.2.1) % 2 = 0 ∨ (a.1 + a.2.1 + a.2.2.1) % 2 = 1 := by omega
  have h2 : (c.1 + c.2.1 + c.2.2.1) % 2 = 0 ∨ (c.1 + c.2.1 + c.2.2.1) % 2 = 1 := by omega
  show 1 - 2 * ((c.1 + a.1 + (c.2.1 + a.2.1) + (c.2.2.1 + a.2.2.1)) % 2) = _
  unfold sgn
  rw [e]
  rcases h1 with h1 | h1 <;> rcases h2 with h2 | h2 <;> rw [h1, h2] <;> decide
theorem par_mv (a : D_A3) : ∀ q : List D_A3, par (mvP q a) = sgn a * par q
  | [] => by simp [mvP, par]
  | c :: r => by
    show sgn (ad a c) + par (mvP r a) = sgn a * (sgn c + par r)
    rw [sgn_ad, par_mv a r, Int.mul_add]
theorem par_split (f : D_A3 → Int) (m : Int) (h0 : 0 ≤ m) : ∀ cs : List D_A3, par (cs.filter fun c => decide (0 ≤ f c ∧ f c < m + 1)) = par (cs.filter fun c => decide (0 ≤ f c ∧ f c < m)) + par (cs.filter fun c => decide (f c = m))
  | [] => rfl
  | c :: r => by
    have ih := par_split f m h0 r
    rw [List.filter_cons, List.filter_cons, List.filter_cons]
    by_cases h : 0 ≤ f c
    · rcases Int.lt_trichotomy (f c) m with h1 | h1 | h1
      · rw [decide_eq_true (p := 0 ≤ f c ∧ f c < m + 1) (by omega), decide_eq_true (p := 0 ≤ f c ∧ f c < m) (by omega), decide_eq_false (p := f c = m) (by omega)]
        simp only [if_true, par, Bool.false_eq_true, if_false]
        omega
      · rw [decide_eq_true (p := 0 ≤ f c ∧ f c < m + 1) (by omega), decide_eq_false (p := 0 ≤ f c ∧ f c < m) (by omega), decide_eq_true (p := f c = m) h1]
        simp only [if_true, par, Bool.false_eq_true, if_false]
        omega
      · rw [decide_eq_false (p := 0 ≤ f c ∧ f c < m + 1) (by omega), decide_eq_false (p := 0 ≤ f c ∧ f c < m) (by omega), decide_eq_false (p := f c = m) (by omega)]
        simp only [Bool.false_eq_true, if_false]
        omega
    · rw [decide_eq_false (p := 0 ≤ f c ∧ f c < m + 1) (by omega), decide_eq_false (p := 0 ≤ f c ∧ f c < m) (by omega), decide_eq_false (p := f c = m) (by omega)]
      simp only [Bool.false_eq_true, if_false]
      omega
theorem code_ex (b : Nat → Bool) : ∀ m : Nat, ∃ code, code < 2 ^ m ∧ ∀ i, i < m → code.testBit i = b i
  | 0 => ⟨0, by simp, fun i h => by omega⟩
  | m + 1 => by
    obtain ⟨c, h1, h2⟩ := code_ex b m
    have hp : 2 ^ m < 2 ^ (m + 1) := Nat.pow_lt_pow_right (by omega) (by omega)
    cases hb : b m with
    | true =>
      refine ⟨c ||| 2 ^ m, Nat.or_lt_two_pow (by omega) hp, fun i hi => ?_⟩
      rw [Nat.testBit_or, Nat.testBit_two_pow]
      by_cases e : m = i
      · subst e; rw [hb, decide_eq_true rfl, Bool.or_true]
      · rw [decide_eq_false e, Bool.or_false, h2 i (by omega)]
    | false =>
      refine ⟨c, by omega, fun i hi => ?_⟩
      by_cases e : m = i
      · subst e; rw [hb]; exact Nat.testBit_lt_two_pow h1
      · exact h2 i (by omega)
theorem not_barred {h : D_Heap} {ps : List (List D_A3)} (ha : askB h ps = true) {x : List Int} (p : PackV h.1 h.2.1 h.2.2.1 h.2.2.2.1 ps x) : barsV h ps = false := by
  obtain ⟨ho, hps, h8⟩ := askB_iff ha
  obtain ⟨hs, hi, hr⟩ := okHeap_iff.1 ho
  have hch : ∀ k, ∃ a : D_A3, ∀ hk : k < ps.length, cellsOf h.1 h.2.1 h.2.2.1 x (k : Int) = mvP ps[k] a := fun k => by
    by_cases hk : k < ps.length
    · obtain ⟨a, h⟩ := p.pcs k hk
      exact ⟨a, fun _ => h⟩
    · exact ⟨(0, 0, 0, ()), fun h => absurd h hk⟩
  obtain ⟨A, hA⟩ := Classical.axiomOfChoice hch
  obtain ⟨code, hc1, hc2⟩ := code_ex (fun i => decide (sgn (A i) = -1)) ps.length
  have hsg : ∀ i, i < ps.length → sg code i = sgn (A i) := fun i hi => by
    unfold sg
    rw [hc2 i hi]
    rcases sgn_is (A i) with e | e
    · rw [e]; rfl
    · rw [e]; rfl
  have key : ∀ (d k : Nat), ps.length = k + d → par ((allCells h.1 h.2.1 h.2.2.1).filter fun c => decide (0 ≤ atL h.2.1 h.2.2.1 x c ∧ atL h.2.1 h.2.2.1 x c < (ps.length : Int))) = par ((allCells h.1 h.2.1 h.2.2.1).filter fun c => decide (0 ≤ atL h.2.1 h.2.2.1 x c ∧ atL h.2.1 h.2.2.1 x c < (k : Int))) + ssum code k (ps.drop k) := fun d => by
    induction d with
    | zero =>
      intro k hk
      obtain rfl : k = ps.length := by omega
      rw [List.drop_eq_nil_of_le (Nat.le_refl _), ssum, Int.add_zero]
    | succ d ih =>
      intro k hk
      have hlt : k < ps.length := by omega
      have hcs : (allCells h.1 h.2.1 h.2.2.1).filter (fun c => decide (atL h.2.1 h.2.2.1 x c = (k : Int))) = mvP ps[k] (A k) := hA k hlt
      rw [ih (k + 1) (by omega), Int.natCast_add, Int.natCast_one, par_split _ _ (by omega), hcs, par_mv, drop_at ps k hlt, ssum, hsg k hlt]
      omega
  have h0 : (allCells h.1 h.2.1 h.2.2.1).filter (fun c => decide (0 ≤ atL h.2.1 h.2.2.1 x c ∧ atL h.2.1 h.2.2.1 x c < ((0 : Nat) : Int))) = [] := by
    apply List.filter_eq_nil_iff.2
    intro c _ hc
    have := of_decide_eq_true hc
    omega
  have hf : (allCells h.1 h.2.1 h.2.2.1).filter (fun c => decide (0 ≤ atL h.2.1 h.2.2.1 x c ∧ atL h.2.1 h.2.2.1 x c < (ps.length : Int))) = freeC h.1 h.2.1 h.2.2.1 h.2.2.2.1 := by
    unfold freeC
    apply List.filter_congr
    intro c hc
    obtain ⟨a, b, e⟩ := p.val c ((mem_allCells hs c).1 hc)
    apply decide_eq_decide.2
    constructor
    · intro hh hL
      have := e.2 hL
      omega
    · intro hL
      refine ⟨?_, by omega⟩
      apply Int.not_lt.1
      exact fun h => hL (e.1 h)
  have hk := key ps.length 0 (by omega)
  rw [hf, h0, List.drop_zero] at hk
  unfold barsV
  rw [Bool.not_eq_false']
  exact List.any_eq_true.2 ⟨code, List.mem_range.2 hc1, decide_eq_true (by rw [hk]; show _ = 0 + _; omega)⟩
end Go.VI
namespace Go.VI
open Go.Proofs
theorem places_some {h : D_Heap} {ps : List (List D_A3)} (hl : Small h.2.2.2.1) (ha : askB h ps = true) {x : List Int} (p : PackV h.1 h.2.1 h.2.2.1 h.2.2.2.1 ps x) {k : Nat} (hk : k < ps.length) :
    ∃ l, P_impl_PlacesFor (h, ps[k], ()) = some (l, true, ()) ∧ l ≠ [] ∧ l.length ≤ 1048576 := by
  obtain ⟨ho, hps, h8⟩ := askB_iff ha
  obtain ⟨hs, hi, hr⟩ := okHeap_iff.1 ho
  obtain ⟨s1, s2, s3⟩ := sides_iff.1 hs
  have hq : PieceOK ps[k] := hps _ (List.getElem_mem hk)
  have hok : okPiece ps[k] = true := by
    unfold askB at ha
    rw [Bool.and_eq_true, List.all_eq_true] at ha
    exact ha.1 _ (List.getElem_mem hk)
  have h1 : P_impl_isPacked (h, ([ps[k]] : List (List D_A3)), ()) = some (true, ()) := by
    rw [f_isPacked h hl _ (by unfold Small; simp), ho]
    simp [hok]
  generalize hv : fullBits (h.1 * h.2.1 * h.2.2.1).toNat &&& ~~~(mask h.2.1 h.2.2.1 h.2.2.2.1 0) = v
  have hfree := f_free hl ho
  rw [hv] at hfree
  have hcl : ∀ c, within3 h.1 h.2.1 h.2.2.1 c = true → (fun (y : D_A3 × Unit) => P_impl_PlacesFor_1 (y.1, (h.1, h.2.1, h.2.2.1, ()), h, ps[k], ())) (c, ()) = some (fitB h.1 h.2.1 h.2.2.1 (fun c => v.getLsbD (idx h.2.1 h.2.2.1 c)) ps[k] c, ()) := fun c hc => by
    show P_impl_PlacesFor_1 (c, (h.1, h.2.1, h.2.2.1, ()), h, ps[k], ()) = _
    rw [p_impl_PlacesFor_1, hfree]
    simp only [Option.bind_some]
    rw [f_placed hs hq (near_of hs hc)]
    cases fitB h.1 h.2.1 h.2.2.1 (fun c => v.getLsbD (idx h.2.1 h.2.2.1 c)) ps[k] c <;> rfl
  obtain ⟨w, e1, _, e2⟩ := f_those hs (g := fun c => fitB h.1 h.2.1 h.2.2.1 (fun c => v.getLsbD (idx h.2.1 h.2.2.1 c)) ps[k] c) (F := fun (y : D_A3 × Unit) => P_impl_PlacesFor_1 (y.1, (h.1, h.2.1, h.2.2.1, ()), h, ps[k], ())) hcl
  refine ⟨bitCells h.1 h.2.1 h.2.2.1 w, ?_, ?_, small_listOf hs w⟩
  · rw [p_impl_PlacesFor, h1, f_Heap_box]
    simp only [Option.bind_some, Bool.not_true, cond_false]
    rw [e1]
    simp only [Option.bind_some]
    rw [f_box_list hs]
    rfl
  · obtain ⟨a, ha'⟩ := p.pcs k hk
    have hmem : ∀ c ∈ mvP ps[k] a, within3 h.1 h.2.1 h.2.2.1 c = true ∧ atL h.2.1 h.2.2.1 x c = (k : Int) := fun c hc => by
      rw [← ha'] at hc
      exact (mem_cellsOf hs).1 hc
    have hf : fitB h.1 h.2.1 h.2.2.1 (fun c => v.getLsbD (idx h.2.1 h.2.2.1 c)) ps[k] a = true := List.all_eq_true.2 fun c hc => by
      obtain ⟨hw, hk'⟩ := hmem c hc
      have hL : c ∉ h.2.2.2.1 := fun hh => by
        have := (p.val c hw).2.2.2 hh
        omega
      have hix := (idx_eq hs hw).2.1
      have h64 := size64 hs
      rw [hw, Bool.true_and]
      show v.getLsbD (idx h.2.1 h.2.2.1 c) = true
      rw [← hv, BitVec.getLsbD_and, BitVec.getLsbD_not, decide_eq_true (show idx h.2.1 h.2.2.1 c < 64 by omega), mask_mem hs hi hw, fullBits_bit (by omega), decide_eq_true hix, decide_eq_false hL]
      rfl
    have haw : within3 h.1 h.2.1 h.2.2.1 a = true := by
      have key : ∀ c ∈ ps[k], within3 h.1 h.2.1 h.2.2.1 (ad a c) = true := fun c hc => (hmem (ad a c) (List.mem_map.2 ⟨c, hc, rfl⟩)).1
      obtain ⟨c, hc, z⟩ := hq.z0
      obtain ⟨d, hd, z'⟩ := hq.z1
      obtain ⟨e, he, z''⟩ := hq.z2
      have a1 := within3_iff.1 (key c hc)
      have a2 := within3_iff.1 (key d hd)
      have a3 := within3_iff.1 (key e he)
      simp only [ad] at a1 a2 a3
      rw [within3_iff]
      omega
    intro hn
    have : a ∈ bitCells h.1 h.2.1 h.2.2.1 w := (mem_listOf hs w a).2 ⟨haw, by rw [e2 a haw]; exact hf⟩
    rw [hn] at this
    cases this
theorem cut_hiP {l : List (List D_A3)} {k : Nat} : cut l (k : Int) (l.length : Int) = l.drop k := by simp [cut]
theorem all64 {X Y Z : Int} (hs : sides X Y Z = true) : (allCells X Y Z).length ≤ 64 := by
  have h64 := size64 hs
  have hlen : (allCells X Y Z).length = (X * Y * Z).toNat := by rw [← upto_all hs]; simp [upto]
  omega
theorem l_p15 (X Y Z : Int) (l : List D_A3) (hl : l.length ≤ 1000) (C : List Int) (s : Sd) (acc : List D_A3) : ∀ (d i m : Nat) (b : Int), l.length = i + d → d < m →
    ∃ b', l_l1Cur_piece9_15 m X Y Z l C s.1 s.2.1 acc b (i : Int) = l_l1Cur_piece9_19 N X Y Z l C s.1 s.2.1 acc b' 0
  | d, i, 0, b, hi, hm => by omega
  | d, i, m + 1, b, hi, hm => by
    rw [q_l1Cur_piece9_15]
    by_cases hlt : i < l.length
    · rw [ltT hlt, inB_at hlt, f_mn, succI i (by omega)]
      exact l_p15 X Y Z l hl C s acc (d - 1) (i + 1) m _ (by omega) (by omega)
    · rw [ltF hlt]
      exact ⟨b, rfl⟩
theorem l_p19 (X Y Z : Int) (l : List D_A3) (hl : l.length ≤ 1000) (C : List Int) (s : Sd) (b : Int) : ∀ (d i m : Nat) (acc : List D_A3), l.length = i + d → d < m → acc.length ≤ i →
    ∃ q : List D_A3, l_l1Cur_piece9_19 m X Y Z l C s.1 s.2.1 acc b (i : Int) = some ((q, ()), ((C, s), ())) ∧ q.length ≤ l.length
  | d, i, 0, acc, hi, hm, _ => by omega
  | d, i, m + 1, acc, hi, hm, ha => by
    rw [q_l1Cur_piece9_19]
    by_cases hlt : i < l.length
    · have hg : ∀ c : D_A3, (decide ((acc.length + ([c] : List D_A3).length) * 24 ≤ 140737488355328) && decide (acc.length + ([c] : List D_A3).length ≤ 140737488355328)) = true := fun c => len24 (by omega) 1 (by omega)
      rw [ltT hlt, inB_at hlt, hg, succI i (by omega)]
      exact l_p19 X Y Z l hl C s b (d - 1) (i + 1) m _ (by omega) (by omega) (by simp; omega)
    · rw [ltF hlt]
      exact ⟨acc, rfl, by omega⟩
theorem l_p7 {C : List Int} (hC : Bts C) (X Y Z : Int) : ∀ (k m n : Nat) (s : Sd) (l : List D_A3), k < m → k ≤ 100 → Srt l → l.length + k ≤ 200 → At (n + 6 * k + 4) s →
    ∃ (q : List D_A3) (s' : Sd), l_l1Cur_piece9_7 m X Y Z l C s.1 s.2.1 (k : Int) = some ((q, ()), ((C, s'), ())) ∧ At n s' ∧ q.length ≤ 201
  | k, 0, n, s, l, hm, _, _, _, _ => by omega
  | 0, m + 1, n, s, l, hm, h100, hr, hl, hA => by
    obtain ⟨b, s1, e1, a1⟩ := f_one hC (n := n + 2) (s := s) (hA.le (by omega)) 12
    have e1' : P_l1Cur_one ((C, (s.1, (s.2.1, ()))), 12, ()) = _ := e1
    rw [q_l1Cur_piece9_7, decide_eq_false (p := ((0 : Nat) : Int) > 0) (by omega), e1']
    simp only [cond_false, Option.bind_some]
    cases b with
    | true =>
      obtain ⟨x, s2, e2, a2, _⟩ := f_pick hC a1 5
      have hg : ∀ c : D_A3, (decide ((l.length + ([c] : List D_A3).length) * 24 ≤ 140737488355328) && decide (l.length + ([c] : List D_A3).length ≤ 140737488355328)) = true := fun c => len24 (by omega) 1 (by omega)
      simp only [cond_true]
      rw [e2]
      simp only [Option.bind_some]
      rw [hg]
      exact ⟨_, s2, rfl, a2, by simp; omega⟩
    | false =>
      simp only [cond_false]
      obtain ⟨b', e3⟩ := l_p15 X Y Z l (by omega) C s1 [] l.length 0 N 1 (by omega) (by have := N_ge; omega)
      obtain ⟨q, e4, h4⟩ := l_p19 X Y Z l (by omega) C s1 b' l.length 0 N [] (by omega) (by have := N_ge; omega) (by simp)
      rw [Int.natCast_zero] at e3 e4
      rw [e3, e4]
      exact ⟨q, s1, rfl, a1.le (by omega), by omega⟩
  | k + 1, m + 1, n, s, l, hm, h100, hr, hl, hA => by
    obtain ⟨x1, s1, e1, a1, _⟩ := f_pick hC (n := n + 6 * k + 4 + 4) (s := s) (hA.le (by omega)) 2
    obtain ⟨x2, s2, e2, a2, _⟩ := f_pick hC (n := n + 6 * k + 4 + 2) (s := s1) (a1.le (by omega)) 2
    obtain ⟨x3, s3, e3, a3, _⟩ := f_pick hC (n := n + 6 * k + 4) (s := s2) (a2.le (by omega)) 2
    have e1' : P_l1Cur_pick ((C, (s.1, (s.2.1, ()))), 2, ()) = _ := e1
    obtain ⟨l', e4, r4, _, l4⟩ := f_l2With (X := X) (Y := Y) (Z := Z) hr (x1, (x2, (x3, ()))) (by omega)
    rw [q_l1Cur_piece9_7, decide_eq_true (p := ((k + 1 : Nat) : Int) > 0) (by omega), e1']
    simp only [cond_true, Option.bind_some]
    rw [e2]
    simp only [Option.bind_some]
    rw [e3]
    simp only [Option.bind_some]
    rw [e4]
    simp only [Option.bind_some]
    rw [w64 (x := ((k + 1 : Nat) : Int) - 1) (by omega) (by omega), show ((k + 1 : Nat) : Int) - 1 = (k : Int) by omega]
    exact l_p7 hC X Y Z k m n s3 l' (by omega) (by omega) r4 (by omega) a3
theorem f_piece9 {C : List Int} (hC : Bts C) {n : Nat} {s : Sd} (h : At (n + 40) s) : ∃ (q : List D_A3) (s' : Sd), P_l1Cur_piece9 ((C, s), ()) = some ((q, ()), ((C, s'), ())) ∧ At n s' ∧ q.length ≤ 201 := by
  obtain ⟨b, s1, e1, a1⟩ := f_one hC (n := n + 38) (s := s) h 4
  rw [p_l1Cur_piece9, e1]
  simp only [Option.bind_some]
  cases b with
  | false =>
    simp only [Bool.not_false, cond_true]
    obtain ⟨x, s2, e2, a2, x0, x1⟩ := f_pick hC (n := n) (s := s1) (a1.le (by omega)) (List.length ([(1, (1, (2, ()))), (2, (1, (1, ()))), (1, (2, (1, ()))), (1, (1, (1, ()))), (1, (1, (3, ()))), (2, (2, (1, ()))), (3, (1, (1, ())))] : List D_A3) : Int)
    have x7 : x < 7 := by
      rcases x1 with h | h
      · exact h
      · omega
    rw [e2]
    simp only [Option.bind_some]
    have hx : x = 0 ∨ x = 1 ∨ x = 2 ∨ x = 3 ∨ x = 4 ∨ x = 5 ∨ x = 6 := by omega
    have fin : ∀ X Y Z : Int, sides X Y Z = true → ∃ (q : List D_A3) (s' : Sd), (Option.bind (P_spec_l2Box (X, Y, Z, ())) fun r4 => some ((r4.1.2.2.2.1, ()), ((C, s2), ()))) = some ((q, ()), ((C, s'), ())) ∧ At n s' ∧ q.length ≤ 201 := fun X Y Z hs => by
      rw [f_l2Box hs]
      exact ⟨_, s2, rfl, a2, by have := all64 hs; show (allCells X Y Z).length ≤ 201; omega⟩
    rcases hx with rfl | rfl | rfl | rfl | rfl | rfl | rfl
    · exact fin 1 1 2 (by decide)
    · exact fin 2 1 1 (by decide)
    · exact fin 1 2 1 (by decide)
    · exact fin 1 1 1 (by decide)
    · exact fin 1 1 3 (by decide)
    · exact fin 2 2 1 (by decide)
    · exact fin 3 1 1 (by decide)
  | true =>
    simp only [Bool.not_true, cond_false]
    obtain ⟨x, s2, e2, a2, _⟩ := f_pick hC (n := n + 36) (s := s1) (a1.le (by omega)) 2
    obtain ⟨l', e4, r4, _, l4⟩ := f_l2With (X := 2) (Y := 2) (Z := 2) (l := []) List.Pairwise.nil (0, (0, (x, ()))) (by simp)
    obtain ⟨y, s3, e3, a3, y0, y1⟩ := f_pick hC (n := n + 34) (s := s2) (a2.le (by omega)) 4
    rw [p_spec_l2Empty]
    simp only [Option.bind_some]
    rw [e2]
    simp only [Option.bind_some]
    rw [e4]
    simp only [Option.bind_some]
    rw [e3]
    simp only [Option.bind_some]
    have hy : ∃ k : Nat, y = (k : Int) ∧ k ≤ 4 := ⟨y.toNat, by omega, by omega⟩
    obtain ⟨k, rfl, hk⟩ := hy
    simp only [List.length_nil] at l4
    exact l_p7 hC 2 2 2 k N n s3 l' (by have := N_ge; omega) (by omega) r4 (by omega) (a3.le (by omega))
theorem l_pk14 {C : List Int} {X Y Z : Int} (lh : List D_A3) (s : Sd) (ps : List (List D_A3)) (hps : ps.length ≤ 7) (q cs : List D_A3) (hcs : cs.length ≤ 1000) (m0 : Nat) {i : Nat} (hi : i < 1000) : ∀ (d j m : Nat) (lf : List D_A3), cs.length = j + d → d < m → Srt lf → lf.length + d ≤ 100000 →
    ∃ lf', l_l1Cur_pack9_14 m0 m 0 0 0 [] X Y Z lh X Y Z lf C s.1 s.2.1 ps (allCells X Y Z) (i : Int) q cs (j : Int) = l_l1Cur_pack9_5 m0 0 0 0 [] X Y Z lh X Y Z lf' C s.1 s.2.1 (ps ++ [q]) (allCells X Y Z) ((i + 1 : Nat) : Int) ∧ Srt lf' ∧ lf'.length ≤ lf.length + d
  | d, j, 0, lf, hj, hm, _, _ => by omega
  | d, j, m + 1, lf, hj, hm, hr, hl => by
    rw [q_l1Cur_pack9_14]
    by_cases hlt : j < cs.length
    · obtain ⟨l', e4, r4, _, l4⟩ := f_l2With (X := X) (Y := Y) (Z := Z) hr cs[j] (by omega)
      rw [ltT hlt, inB_at hlt, nthA (t := T_A3) hlt, e4, succI j (by omega)]
      simp only [cond_true, Option.bind_some]
      obtain ⟨lf', e, r, h⟩ := l_pk14 (C := C) lh s ps hps q cs hcs m0 hi (d - 1) (j + 1) m l' (by omega) (by omega) r4 (by omega)
      exact ⟨lf', e, r, by omega⟩
    · have hg : (decide ((ps.length + ([q] : List (List D_A3)).length) * 24 ≤ 140737488355328) && decide (ps.length + ([q] : List (List D_A3)).length ≤ 140737488355328)) = true := by
        simp only [List.length_cons, List.length_nil, Bool.and_eq_true, decide_eq_true_eq]; omega
      rw [ltF hlt, hg, succI i (by omega)]
      exact ⟨lf, rfl, hr, by omega⟩
theorem l_pack {C : List Int} (hC : Bts C) {X Y Z : Int} (hs : sides X Y Z = true) : ∀ (d i m n : Nat) (s : Sd) (lh lf : List D_A3) (ps : List (List D_A3)), (allCells X Y Z).length = i + d → d < m → Srt lh → Srt lf → lh.length ≤ i → lf.length ≤ 5 * i → ps.length ≤ 8 → At (n + 60 * d + 200) s →
    ∃ (g : D_Heap) (ps' : List (List D_A3)) (s' : Sd), l_l1Cur_pack9_5 m 0 0 0 [] X Y Z lh X Y Z lf C s.1 s.2.1 ps (allCells X Y Z) (i : Int) = some ((g, ps', ()), ((C, s'), ())) ∧ At n s' ∧ g.2.2.2.1.length ≤ 65 ∧ ps'.length ≤ 9
  | d, i, 0, n, s, lh, lf, ps, hi, hm, _, _, _, _, _, _ => by omega
  | d, i, m + 1, n, s, lh, lf, ps, hi, hm, rh, rf, hh, hf, hp, hA => by
    have h64 := all64 hs
    rw [q_l1Cur_pack9_5]
    by_cases hlt : i < (allCells X Y Z).length
    · obtain ⟨d, rfl⟩ : ∃ d', d = d' + 1 := ⟨d - 1, by omega⟩
      have hw := (mem_allCells hs _).1 (List.getElem_mem hlt)
      rw [ltT hlt, inB_at hlt, nthA (t := T_A3) hlt, f_l2Has X Y Z lf _ (by unfold Small; omega), succI i (by omega)]
      simp only [cond_true, Option.bind_some]
      cases decide ((allCells X Y Z)[i] ∈ lf) with
      | true =>
        simp only [cond_true]
        exact l_pack hC hs d (i + 1) m n s lh lf ps (by omega) (by omega) rh rf (by omega) (by omega) hp (hA.le (by omega))
      | false =>
        simp only [cond_false]
        obtain ⟨q, s1, e1, a1, hq⟩ := f_piece9 hC (n := n + 60 * d + 202) (s := s) (hA.le (by omega))
        have e1' : P_l1Cur_piece9 ((C, (s.1, (s.2.1, ()))), ()) = _ := e1
        obtain ⟨lh', eh, rh', _, hh'⟩ := f_l2With (X := X) (Y := Y) (Z := Z) rh (allCells X Y Z)[i] (by omega)
        obtain ⟨lf', ef, rf', _, hf'⟩ := f_l2With (X := X) (Y := Y) (Z := Z) rf (allCells X Y Z)[i] (by omega)
        rw [e1']
        simp only [Option.bind_some]
        rw [eh, ef]
        simp only [Option.bind_some]
        have add : ∀ s2 : Sd, At (n + 60 * d + 200) s2 → ∃ (g : D_Heap) (ps' : List (List D_A3)) (s' : Sd), l_l1Cur_pack9_5 m 0 0 0 [] X Y Z lh' X Y Z lf' C s2.1 s2.2.1 ps (allCells X Y Z) ((i + 1 : Nat) : Int) = some ((g, ps', ()), ((C, s'), ())) ∧ At n s' ∧ g.2.2.2.1.length ≤ 65 ∧ ps'.length ≤ 9 := fun s2 a2 =>
          l_pack hC hs d (i + 1) m n s2 lh' lf' ps (by omega) (by omega) rh' rf' (by omega) (by omega) hp a2
        by_cases h8 : (ps.length : Int) = 8
        · rw [decide_eq_true h8]
          exact add s1 (a1.le (by omega))
        · rw [decide_eq_false h8, f_l9Piece]
          simp only [cond_false, Option.bind_some]
          cases hok : okPiece q with
          | false => exact add s1 (a1.le (by omega))
          | true =>
            have hqo := pieceOK hok
            have h0 : inB 0 q.length = true := inB_at (k := 0) (by have := hqo.ne; cases q with | nil => exact absurd rfl this | cons c r => simp)
            rw [h0]
            simp only [Bool.not_true, cond_false, cond_true]
            rw [f_fits hs (by unfold Small; omega) hqo (near_of hs hw)]
            cases (decide ((nth T_A3 q 0).1 = 0) && (decide ((nth T_A3 q 0).2.1 = 0) && (decide ((nth T_A3 q 0).2.2.1 = 0) && true))) with
            | false => exact add s1 (a1.le (by omega))
            | true =>
              simp only [Bool.not_true, cond_false, Option.bind_some]
              cases fitB X Y Z (fun c => decide (c ∉ lf)) q (allCells X Y Z)[i] with
              | false => exact add s1 (a1.le (by omega))
              | true =>
                obtain ⟨b, s2, e2, a2⟩ := f_one hC (n := n + 60 * d + 200) (s := s1) a1 8
                rw [e2, f_moved hqo (near_of hs hw)]
                simp only [Bool.not_true, cond_false, Option.bind_some]
                cases b with
                | true => exact add s2 a2
                | false =>
                  simp only [cond_false]
                  have h5 := hqo.len
                  obtain ⟨lf2, e3, r3, h3⟩ := l_pk14 (C := C) (X := X) (Y := Y) (Z := Z) lh s2 ps (by omega) q (mvP q (allCells X Y Z)[i]) (by rw [mvP_len]; omega) m (i := i) (by omega) (mvP q (allCells X Y Z)[i]).length 0 N lf (by omega) (by rw [mvP_len]; have := N_ge; omega) rf (by rw [mvP_len]; omega)
                  rw [Int.natCast_zero] at e3
                  rw [mvP_len] at h3
                  rw [e3]
                  exact l_pack hC hs d (i + 1) m n s2 lh lf2 (ps ++ [q]) (by omega) (by omega) rh r3 (by omega) (by omega) (by simp; omega) a2
    · rw [ltF hlt]
      simp only [cond_false]
      obtain ⟨x, s1, e1, a1, _⟩ := f_pick hC (n := n + 150) (s := s) (hA.le (by omega)) 16
      have e1' : P_l1Cur_pick ((C, (s.1, (s.2.1, ()))), 16, ()) = _ := e1
      rw [e1']
      simp only [Option.bind_some]
      by_cases x0 : x = 0
      · rw [decide_eq_true x0]
        obtain ⟨q, s2, e2, a2, _⟩ := f_piece9 hC (n := n) (s := s1) (a1.le (by omega))
        have hg : (decide ((ps.length + ([q] : List (List D_A3)).length) * 24 ≤ 140737488355328) && decide (ps.length + ([q] : List (List D_A3)).length ≤ 140737488355328)) = true := by
          simp only [List.length_cons, List.length_nil, Bool.and_eq_true, decide_eq_true_eq]; omega
        simp only [cond_true]
        rw [e2]
        simp only [Option.bind_some]
        rw [hg]
        exact ⟨_, _, s2, rfl, a2, by show lh.length ≤ 65; omega, by simp; omega⟩
      · rw [decide_eq_false x0]
        simp only [cond_false]
        by_cases x1 : x = 1
        · rw [decide_eq_true x1]
          simp only [cond_true]
          by_cases hgt : (ps.length : Int) > 1
          · have hl : ps.length = ps.length := rfl
            have hc1 : (decide ((0 : Int) ≤ 1) && decide ((1 : Int) ≤ (ps.length : Int)) && decide ((ps.length : Int) ≤ (ps.length : Int))) = true := by
              rw [decide_eq_true (p := (1 : Int) ≤ (ps.length : Int)) (by omega)]; simp
            have hcl : (cut ps 1 (ps.length : Int)).length ≤ ps.length := by
              have : cut ps 1 (ps.length : Int) = ps.drop 1 := cut_hiP (k := 1)
              rw [this, List.length_drop]; omega
            have hg1 : (decide ((([] : List (List D_A3)).length + (cut ps 1 (ps.length : Int)).length) * 24 ≤ 140737488355328) && decide (([] : List (List D_A3)).length + (cut ps 1 (ps.length : Int)).length ≤ 140737488355328)) = true := by
              simp only [List.length_nil, Bool.and_eq_true, decide_eq_true_eq]; omega
            have hg2 : ∀ y : List D_A3, (decide ((([] ++ cut ps 1 (ps.length : Int)).length + ([y] : List (List D_A3)).length) * 24 ≤ 140737488355328) && decide (([] ++ cut ps 1 (ps.length : Int)).length + ([y] : List (List D_A3)).length ≤ 140737488355328)) = true := fun y => by
              simp only [List.nil_append, List.length_cons, List.length_nil, Bool.and_eq_true, decide_eq_true_eq]; omega
            rw [decide_eq_true hgt, hc1, hg1, hg2, show inB 0 ps.length = true from inB_at (k := 0) (by omega)]
            refine ⟨_, _, s1, rfl, a1.le (by omega), by show lh.length ≤ 65; omega, ?_⟩
            rw [List.nil_append, List.length_append, List.length_singleton]
            omega
          · rw [decide_eq_false hgt]
            exact ⟨_, _, s1, rfl, a1.le (by omega), by show lh.length ≤ 65; omega, by omega⟩
        · rw [decide_eq_false x1]
          simp only [cond_false]
          by_cases x2 : x = 2
          · rw [decide_eq_true x2]
            obtain ⟨g, s2, e2, a2, hg⟩ := f_heap hC (n := n) (s := s1) (a1.le (by omega))
            simp only [cond_true]
            rw [e2]
            exact ⟨g, ps, s2, rfl, a2, hg, by omega⟩
          · rw [decide_eq_false x2]
            exact ⟨_, _, s1, rfl, a1.le (by omega), by show lh.length ≤ 65; omega, by omega⟩
theorem f_pack9 {C : List Int} (hC : Bts C) {n : Nat} {s : Sd} (h : At (n + 5000) s) : ∃ (g : D_Heap) (ps : List (List D_A3)) (s' : Sd), P_l1Cur_pack9 ((C, s), ()) = some ((g, ps, ()), ((C, s'), ())) ∧ At n s' ∧ Small g.2.2.2.1 ∧ Small ps := by
  obtain ⟨x, s1, e1, a1, m1⟩ := f_among hC (n := n + 4800) (s := s) (h.le (by omega)) [2, 3, 1, 2] (by simp)
  obtain ⟨y, s2, e2, a2, m2⟩ := f_among hC (n := n + 4700) (s := s1) (a1.le (by omega)) [2, 2, 1, 3] (by simp)
  obtain ⟨z, s3, e3, a3, m3⟩ := f_among hC (n := n + 4600) (s := s2) (a2.le (by omega)) [2, 1, 3, 2] (by simp)
  have hs : sides x y z = true := by
    simp only [List.mem_cons, List.not_mem_nil, or_false] at m1 m2 m3
    rw [sides_iff]
    omega
  have h64 := all64 hs
  have h0 : P_spec_l2Own ((x, y, z, ([] : List D_A3), ()), ()) = some ((x, y, z, [], ()), ()) := f_l2Own (by simp)
  obtain ⟨g, ps, s', e, a, hg, hp⟩ := l_pack hC hs (allCells x y z).length 0 N n s3 [] [] [] (by omega) (by have := N_ge; omega) List.Pairwise.nil List.Pairwise.nil (by simp) (by simp) (by simp) (a3.le (by omega))
  rw [p_l1Cur_pack9, e1]
  simp only [Option.bind_some]
  rw [e2]
  simp only [Option.bind_some]
  rw [e3]
  simp only [Option.bind_some]
  rw [p_spec_l2Empty]
  simp only [Option.bind_some]
  rw [h0, f_l2All [] hs]
  simp only [Option.bind_some]
  rw [Int.natCast_zero] at e
  exact ⟨g, ps, s', e, a, by unfold Small; omega, by unfold Small; omega⟩
end Go.VI
