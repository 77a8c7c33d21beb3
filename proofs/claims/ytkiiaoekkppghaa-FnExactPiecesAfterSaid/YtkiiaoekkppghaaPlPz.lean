/- Pieces: the law's own lists. -/
import Derived.Test.YtkiiaoekkppghaaPlS
import Derived.Test.YtkiiaoekkppghaaVhLaw3
namespace Go.VI
open Go.Proofs
set_option maxRecDepth 100000

theorem f_szA2 (l : List D_A2) (left : Int) (h0 : 0 ≤ left) (h1 : left ≤ 1048576) (hl : l.length ≤ 9223372036854775807) : ∃ z, P_laws_szIntA2S (l, left, ()) = some (z, ()) ∧ (z < 0 ∨ Small l) := by
  rw [p_laws_szIntA2S, w64 (by omega) (by omega)]
  by_cases h : left - (l.length : Int) < 0
  · exact ⟨-1, by simp [h], .inl (by omega)⟩
  · exact ⟨left - l.length, by simp [h], .inr (by unfold Small; omega)⟩

theorem f_toIntA2 (c : D_A2) : P_laws_toIntA2 (c, ()) = some (c, ()) := by
  rw [p_laws_toIntA2, N_eq, q_laws_toIntA2_3, one64]
  simp only [inB, decide_true, Bool.and_self, cond_true]
  rw [q_laws_toIntA2_3, two64, q_laws_toIntA2_3]
  simp [inB]

theorem l_toIntA2S (l : List D_A2) (hl : Small l) : ∀ (d k m : Nat) (acc : List D_A2), l.length = k + d → d < m → acc.length = l.length → acc.take k = l.take k → l_laws_toIntA2S_3 m l acc (k : Int) = some (l, ())
  | d, k, 0, acc, hk, hm, ha, ht => by omega
  | d, k, m + 1, acc, hk, hm, ha, ht => by
    unfold Small at hl
    rw [q_laws_toIntA2S_3]
    by_cases hlt : k < l.length
    · rw [ltT hlt, inB_at hlt, nthA (t := T_A2) hlt, f_toIntA2, inB_at (by omega), succI k (by omega)]
      simp only [cond_true, Option.bind_some, Int.toNat_natCast]
      exact l_toIntA2S l hl (d - 1) (k + 1) m _ (by omega) (by omega) (by simp [ha]) (set_take l acc k hlt ha ht)
    · rw [ltF hlt]
      rw [List.take_of_length_le (by omega), List.take_of_length_le (by omega)] at ht
      simp [ht]

theorem f_toIntA2S (l : List D_A2) (hl : Small l) : P_laws_toIntA2S (l, ()) = some (l, ()) := by
  have := l_toIntA2S l hl l.length 0 N (List.replicate l.length (Ty.dflt T_A2)) (by simp) (by unfold Small at hl; have := N_ge; omega) (by simp) (by simp)
  unfold Small at hl
  have h1 : ((l.length : Int)) * ((16 : Nat) : Int) ≤ 140737488355328 := by omega
  have h2 : (l.length : Int) ≤ 140737488355328 := by omega
  have h0 : (0 : Int) ≤ (l.length : Int) := by omega
  rw [p_laws_toIntA2S]
  simp only [h0, h2, Int.le_refl, decide_true, Bool.and_self, Bool.true_and, Bool.and_true, decide_eq_true h1, cond_true, Int.toNat_natCast]
  exact this

theorem f_eqIntA2 (c : D_A2) : P_laws_eqIntA2 (c, c, ()) = some (true, ()) := by
  rw [p_laws_eqIntA2, N_eq, q_laws_eqIntA2_2, one64, q_laws_eqIntA2_2, two64, q_laws_eqIntA2_2]
  simp [inB]

theorem l_eqIntA2S (l : List D_A2) (hl : Small l) : ∀ (d k m : Nat), l.length = k + d → d < m → l_laws_eqIntA2S_4 m l l (k : Int) = some (true, ())
  | d, k, 0, hk, hm => by omega
  | d, k, m + 1, hk, hm => by
    unfold Small at hl
    rw [q_laws_eqIntA2S_4]
    by_cases hlt : k < l.length
    · rw [ltT hlt, inB_at hlt, nthA (t := T_A2) hlt, f_eqIntA2, succI k (by omega), l_eqIntA2S l hl (d - 1) (k + 1) m (by omega) (by omega)]
      simp
    · rw [ltF hlt]; rfl

theorem f_eqIntA2S (l : List D_A2) (hl : Small l) : P_laws_eqIntA2S (l, l, ()) = some (true, ()) := by
  have := l_eqIntA2S l hl l.length 0 N (by simp) (by unfold Small at hl; have := N_ge; omega)
  rw [p_laws_eqIntA2S]
  simp only [decide_true, Bool.not_true, cond_false]
  exact this

theorem l_markA2 : ∀ (d i m : Nat) (l : List D_A2) (k : Int), l.length = i + d → d < m → l.length ≤ 1048576 → 0 ≤ k → k + 2 * d ≤ 100000000 → ∃ l' : List D_A2, l_laws_markIntA2S_2 m l k (i : Int) = some ((k + 2 * d, ()), (l', ()))
  | d, i, 0, l, k, hk, hm, _, _, _ => by omega
  | d, i, m + 1, l, k, hk, hm, hl, h0, h1 => by
    rw [q_laws_markIntA2S_2]
    by_cases hlt : i < l.length
    · rw [ltT hlt]
      simp only [cond_true]
      have hn : ∀ x : D_A2, nth T_A2 (l.set i x) (i : Int) = x := fun x => by rw [nthA (t := T_A2) (by simpa using hlt)]; simp
      rw [N_eq, q_laws_markIntA2S_5, one64, w64 (x := k + 1) (by omega) (by omega)]
      simp only [inB_at hlt, show inB 0 2 = true from rfl, show decide ((0 : Int) < 2) = true from rfl, cond_true, Int.toNat_natCast]
      rw [q_laws_markIntA2S_5, two64, w64 (x := k + 1 + 1) (by omega) (by omega)]
      simp only [hn, List.length_set, inB_at hlt, show inB 1 2 = true from rfl, show decide ((1 : Int) < 2) = true from rfl, cond_true, Int.toNat_natCast, List.set_set]
      rw [q_laws_markIntA2S_5, succI i (by omega), show decide ((2 : Int) < 2) = false from rfl]
      simp only [cond_false]
      obtain ⟨l', e⟩ := l_markA2 (d - 1) (i + 1) m (l.set i _) (k + 1 + 1) (by simp; omega) (by omega) (by simpa using hl) (by omega) (by omega)
      refine ⟨l', ?_⟩
      rw [e, show k + 1 + 1 + 2 * ((d - 1 : Nat) : Int) = k + 2 * (d : Int) by omega]
    · rw [ltF hlt]
      have hd : d = 0 := by omega
      subst hd
      exact ⟨l, by simp⟩

theorem f_markA2 (l : List D_A2) (k : Int) (hl : Small l) (h0 : 0 ≤ k) (h1 : k ≤ 10000000) : ∃ l', P_laws_markIntA2S (l, k, ()) = some ((k + 2 * (l.length : Int), ()), (l', ())) := by
  unfold Small at hl
  rw [p_laws_markIntA2S]
  exact l_markA2 l.length 0 N l k (by simp) (by have := N_ge; omega) hl h0 (by omega)

/-! ### Rows of rows -/
theorem l_eqSS (ps : List (List D_A3)) (hn : ps.length ≤ 1000) (hp : ∀ p ∈ ps, Small p) : ∀ (d k m : Nat), ps.length = k + d → d < m → l_laws_eqIntA3SS_4 m ps ps (k : Int) = some (true, ())
  | d, k, 0, hk, hm => by omega
  | d, k, m + 1, hk, hm => by
    rw [q_laws_eqIntA3SS_4]
    by_cases hlt : k < ps.length
    · rw [ltT hlt, inB_at hlt, nthA (t := .sl T_A3) hlt, f_eqIntA3S _ (hp _ (List.getElem_mem hlt)), succI k (by omega), l_eqSS ps hn hp (d - 1) (k + 1) m (by omega) (by omega)]
      simp
    · rw [ltF hlt]; rfl

theorem f_eqSS (ps : List (List D_A3)) (hn : ps.length ≤ 1000) (hp : ∀ p ∈ ps, Small p) : P_laws_eqIntA3SS (ps, ps, ()) = some (true, ()) := by
  have := l_eqSS ps hn hp ps.length 0 N (by simp) (by have := N_ge; omega)
  rw [p_laws_eqIntA3SS]
  simp only [decide_true, Bool.not_true, cond_false]
  exact this

def sumTo (ps : List (List D_A3)) (i : Nat) : Nat := ((ps.take i).map List.length).sum
theorem sumTo_succ (ps : List (List D_A3)) (i : Nat) (h : i < ps.length) : sumTo ps (i + 1) = sumTo ps i + ps[i].length := by
  unfold sumTo
  rw [List.take_succ_eq_append_getElem h, List.map_append, List.sum_append]
  simp
theorem sumTo_le (ps : List (List D_A3)) (hp : ∀ p ∈ ps, p.length ≤ 64) : ∀ i, i ≤ ps.length → sumTo ps i ≤ 64 * i
  | 0, _ => by simp [sumTo]
  | i + 1, h => by
    rw [sumTo_succ ps i (by omega)]
    have := sumTo_le ps hp i (by omega)
    have := hp ps[i] (List.getElem_mem (by omega))
    omega

def kfP (ps : List (List D_A3)) (i : Nat) : Int := 1 + 3 * (sumTo ps i : Int)
def lfP (ps : List (List D_A3)) (i : Nat) : List D_A3 := marked (ps.getD i []) (kfP ps i)

theorem f_markP {l : List D_A3} {k : Int} (hl : Small l) (h0 : 0 ≤ k) (h1 : k ≤ 10000000) : P_laws_markIntA3S (l, k, ()) = some ((k + 3 * (l.length : Int), ()), (marked l k, ())) := by
  have := l_mark2 l k hl h0 h1 l.length 0 N l (by simp) (by unfold Small at hl; have := N_ge; omega) rfl (by simp)
  rw [p_laws_markIntA3S]
  simpa using this

theorem f_heldP {l : List D_A3} {k : Int} (hl : Small l) (h0 : 0 ≤ k) (h1 : k ≤ 10000000) : P_laws_heldIntA3S (marked l k, k, ()) = some (k + 3 * (l.length : Int), ()) := by
  have := l_held2 l k hl h0 h1 l.length 0 N (by simp) (by unfold Small at hl; have := N_ge; omega)
  rw [p_laws_heldIntA3S]
  simpa using this

theorem l_heldSS (ps : List (List D_A3)) (hn : ps.length ≤ 100) (hp : ∀ p ∈ ps, p.length ≤ 64) : ∀ (d i m : Nat), ps.length = i + d → d < m → l_laws_heldIntA3SS_2 m ((List.range ps.length).map (lfP ps)) (kfP ps i) (i : Int) = some (kfP ps ps.length, ())
  | d, i, 0, hk, hm => by omega
  | d, i, m + 1, hk, hm => by
    rw [q_laws_heldIntA3SS_2]
    by_cases hlt : i < ps.length
    · have hlt' : i < ((List.range ps.length).map (lfP ps)).length := by simpa using hlt
      have hle := sumTo_le ps hp i (by omega)
      have hpi := hp ps[i] (List.getElem_mem hlt)
      have hg : ((List.range ps.length).map (lfP ps))[i] = marked ps[i] (kfP ps i) := by simp [lfP, hlt]
      rw [ltT hlt', inB_at hlt', nthA (t := .sl T_A3) hlt', hg, f_heldP (by unfold Small; omega) (by unfold kfP; omega) (by unfold kfP; omega)]
      have hk1 : kfP ps i + 3 * (ps[i].length : Int) = kfP ps (i + 1) := by unfold kfP; rw [sumTo_succ ps i hlt]; omega
      have hnn : ¬ kfP ps (i + 1) < 0 := by unfold kfP; omega
      rw [hk1]
      simp only [cond_true, Option.bind_some, decide_eq_false hnn, cond_false]
      rw [succI i (by omega)]
      exact l_heldSS ps hn hp (d - 1) (i + 1) m (by omega) (by omega)
    · rw [ltF (by simpa using hlt)]
      have hil : i = ps.length := by omega
      subst hil
      rfl

theorem f_heldSS (ps : List (List D_A3)) (hn : ps.length ≤ 100) (hp : ∀ p ∈ ps, p.length ≤ 64) : P_laws_heldIntA3SS ((List.range ps.length).map (lfP ps), 1, ()) = some (kfP ps ps.length, ()) := by
  have := l_heldSS ps hn hp ps.length 0 N (by simp) (by have := N_ge; omega)
  rw [p_laws_heldIntA3SS]
  exact this

theorem le_sum {ps : List (List D_A3)} {p : List D_A3} (hp : p ∈ ps) : p.length ≤ (ps.map List.length).sum := by
  induction ps with
  | nil => cases hp
  | cons a r ih =>
    simp only [List.map_cons, List.sum_cons]
    rcases List.mem_cons.1 hp with rfl | h
    · omega
    · have := ih h; omega

/-- All that the law calls is told. -/
theorem pieces_facts (h : D_Heap) (cuts : List D_A2) (hl : h.2.2.2.1.length ≤ 9223372036854775807) (hc : cuts.length ≤ 9223372036854775807) :
    ∃ ps b z1 z2 k1 k2 kf lf, LawF h.1 h.2.1 h.2.2.1 h.2.2.2.1 cuts ps b z1 z2 k1 k2 kf lf ∧ ¬ k2 < 0 ∧ ¬ kf ps.length < 0 := by
  obtain ⟨z1, e1, hz1, hs1⟩ := f_szHeap h 1048576 (by omega) (by omega) hl
  by_cases n1 : z1 < 0
  · exact ⟨[], false, z1, 0, 0, 0, fun _ => 1, fun _ => [], ⟨e1, fun hh => absurd n1 hh, fun hh => absurd n1 hh⟩, by decide, by decide⟩
  have hs := hs1.resolve_left n1
  obtain ⟨z2, e2, hs2⟩ := f_szA2 cuts z1 (by omega) hz1 hc
  by_cases n2 : z2 < 0
  · exact ⟨[], false, z1, z2, 0, 0, fun _ => 1, fun _ => [], ⟨e1, fun _ => e2, fun _ hh => absurd n2 hh⟩, by decide, by decide⟩
  have hsc := hs2.resolve_left n2
  obtain ⟨ps, b, f1, f2, f3, f4, f5, f6⟩ := pieces_full h cuts hs
  have h64 : ∀ p ∈ ps, p.length ≤ 64 := by
    cases b with
    | false => rw [f6 rfl]; simp
    | true =>
      intro p hp
      have ht := (f4 rfl).tot
      have := le_sum hp
      have hh : okHeap h = true := by
        have := f3.symm
        simp only [Bool.and_eq_true] at this
        exact this.1
      obtain ⟨q1, q2, q3⟩ := okHeap_iff.1 hh
      have := srt_small64 q1 q2 q3
      simp only [List.length_nil, Nat.add_zero] at ht
      omega
  have hsm : ∀ p ∈ ps, Small p := fun p hp => by have := h64 p hp; unfold Small; omega
  obtain ⟨c', e3⟩ := f_markA2 cuts (1 + 3 * (h.2.2.2.1.length : Int)) hsc (by omega) (by unfold Small at hs; omega)
  refine ⟨ps, b, z1, z2, 1 + 3 * (h.2.2.2.1.length : Int), _, kfP ps, lfP ps, ⟨e1, fun _ => e2, fun _ _ => ⟨f_toHeap h hs, f_toIntA2S cuts hsc, f1, f2, f_eqSS ps (by omega) hsm, f_eqHeap h hs, f_eqIntA2S cuts hsc, ⟨_, f_markHeap h hs⟩, ⟨c', e3⟩, by omega, rfl, fun i l hi => ?_, f_heldSS ps f5 h64⟩⟩, by omega, by unfold kfP; omega⟩
  have hlt : i < ps.length := by
    rcases Nat.lt_or_ge i ps.length with h' | h'
    · exact h'
    · rw [List.getElem?_eq_none h'] at hi; cases hi
  have hil : l = ps[i] := by rw [List.getElem?_eq_getElem hlt] at hi; exact (Option.some.inj hi).symm
  subst hil
  have hle := sumTo_le ps h64 i (by omega)
  rw [f_markP (hsm _ (List.getElem_mem hlt)) (by unfold kfP; omega) (by unfold kfP; omega)]
  have hk1 : kfP ps i + 3 * (ps[i].length : Int) = kfP ps (i + 1) := by unfold kfP; rw [sumTo_succ ps i hlt]; omega
  rw [hk1]
  simp [lfP, hlt]

/-! ### The law's contract -/
open Classical in
noncomputable def P_laws_FnExactPiecesAfter (x : D_Heap × List D_A2 × Unit) : Option (Bool × Unit) :=
  if ∃ ps b z1 z2 k1 k2 kf lf, LawF x.1.1 x.1.2.1 x.1.2.2.1 x.1.2.2.2.1 x.2.1 ps b z1 z2 k1 k2 kf lf ∧ ¬ k2 < 0 ∧ ¬ kf ps.length < 0 then some (true, ()) else none

theorem law_PiecesAfter (h : D_Heap) (cuts : List D_A2) (hl : h.2.2.2.1.length ≤ 9223372036854775807) (hc : cuts.length ≤ 9223372036854775807) : P_laws_FnExactPiecesAfter (h, cuts, ()) = some (true, ()) := by
  unfold P_laws_FnExactPiecesAfter
  rw [if_pos (pieces_facts h cuts hl hc)]

noncomputable def B_laws_FnExactPiecesAfter : Code := (Try.f3.body).getD .skip

theorem s_laws_FnExactPiecesAfter : Sound Try.prog GG 3 ⟨[.data true T_Heap, .data false (.sl T_A2)], [(false, .bool)], [], P_laws_FnExactPiecesAfter⟩ := by
  intro w Z vs xs r _ hZ hrel hF
  obtain ⟨⟨X, Y, Zz, l, ⟨⟩⟩, cuts, ⟨⟩⟩ := xs
  obtain ⟨us, vs', rfl, _, hrep, us2, vs2, rfl, _, hrep2, hn⟩ := hrel
  obtain rfl : vs2 = [] := hn
  obtain ⟨c1, c2, rfl, e1, c3, c4, rfl, e2, c5, c6, rfl, e3, c7, c8, rfl, e4, e5⟩ := hrep
  obtain rfl : c1 = [.int .i64 X] := e1
  obtain rfl : c3 = [.int .i64 Y] := e2
  obtain rfl : c5 = [.int .i64 Zz] := e3
  obtain rfl : c8 = [] := e5
  have hc2 := hrep2
  obtain ⟨A, n, rfl, _⟩ := hrep2
  have hc7 := e4
  obtain ⟨A7, n7, rfl, _⟩ := e4
  have hF' : P_laws_FnExactPiecesAfter ((X, Y, Zz, l, ()), cuts, ()) = some r := hF
  unfold P_laws_FnExactPiecesAfter at hF'
  split at hF'
  case isFalse => cases hF'
  case isTrue hex =>
    obtain ⟨ps, b, z1, z2, k1, k2, kf, lf, f, hk2, hm⟩ := hex
    obtain rfl := Option.some.inj hF'
    have ha : ArgsP Z w l (.slice A7 l.length n7) cuts (.slice A cuts.length n) := ⟨hZ, hc7, hc2⟩
    have hw := law_walk (script ha f) hk2 hm
    refine Calls.fcalls (fn := Try.f3) Try.func3 rfl (by kernel_rfl) (Calls.mono hw ?_)
    rintro e w' ⟨rfl, hb⟩
    refine ⟨_, rfl, Z, [.bool true], rfl, hb, fun g hg => hg, fun g hg => .inl hg, fun _ _ => .bool true, rfl, ?_, ?_⟩
    · intro i p hp
      match i, hp with
      | 0, hp =>
        obtain rfl := Option.some.inj hp
        refine ⟨rfl, fun _ => rfl, fun j rc hj => ?_⟩
        match j, hj with
        | 0, hj =>
          obtain rfl := Option.some.inj hj
          exact ⟨rfl, rfl⟩
    · intro i j i' j' p p' rc rc' g hp hj ho hp' hj' ho' hg hg'
      simp [Value.ownBlock] at hg
end Go.VI
