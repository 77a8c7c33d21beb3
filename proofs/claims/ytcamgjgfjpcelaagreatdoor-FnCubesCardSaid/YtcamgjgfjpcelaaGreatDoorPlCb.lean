/- Plain: pieces behind cuts, as the program finds them. -/
import Derived.Test.YtcamgjgfjpcelaaGreatDoorPlTy
import Derived.Test.YtcamgjgfjpcelaaGreatDoorPlN
namespace Go.VI
open Go.Proofs

/-- The lowest bit. -/
theorem low_bit (v : BitVec 64) (i : Nat) (hi : i < 64) (h1 : v.getLsbD i = true) (h0 : ∀ j, j < i → v.getLsbD j = false) : intBits .and .u64 (v.toNat : Int) (IntKind.wrap .u64 (0 - (v.toNat : Int))) = ((BitVec.twoPow 64 i).toNat : Int) := by
  have hlt := v.isLt
  have hpos : 0 < v.toNat := by
    apply Nat.pos_of_ne_zero
    intro hz
    have : v.getLsbD i = false := by
      unfold BitVec.getLsbD
      rw [hz, Nat.zero_testBit]
    rw [this] at h1
    cases h1
  have hw : IntKind.wrap .u64 (0 - (v.toNat : Int)) = ((BitVec.ofNat 64 (2 ^ 64 - v.toNat)).toNat : Int) := by
    rw [wu64, BitVec.toNat_ofNat, Nat.mod_eq_of_lt (by omega)]
    omega
  rw [hw, and64]
  congr 2
  have hmod : v.toNat % 2 ^ i = 0 := by
    apply Nat.eq_of_testBit_eq
    intro j
    rw [Nat.testBit_mod_two_pow, Nat.zero_testBit]
    by_cases hj : j < i
    · have := h0 j hj
      unfold BitVec.getLsbD at this
      rw [this, Bool.and_false]
    · rw [decide_eq_false hj, Bool.false_and]
  have hodd : v.toNat / 2 ^ i % 2 = 1 := by
    have h := h1
    unfold BitVec.getLsbD at h
    rw [Nat.testBit_eq_decide_div_mod_eq] at h
    exact of_decide_eq_true h
  obtain ⟨q, hq⟩ : ∃ q, v.toNat / 2 ^ i = 2 * q + 1 := ⟨v.toNat / 2 ^ i / 2, by omega⟩
  have hv : v.toNat = 2 ^ i * (2 * q + 1) + 0 := by
    have := Nat.div_add_mod v.toNat (2 ^ i)
    rw [hmod, hq] at this
    exact this.symm
  have h2i : 0 < 2 ^ i := Nat.two_pow_pos i
  have hx : v.toNat - 1 = 2 ^ i * (2 * q) + (2 ^ i - 1) := by
    rw [hv, Nat.mul_add, Nat.mul_one]
    omega
  apply BitVec.eq_of_getLsbD_eq
  intro j hj
  rw [BitVec.getLsbD_and, BitVec.getLsbD_twoPow, BitVec.getLsbD_ofNat]
  have e1 : 2 ^ 64 - v.toNat = 2 ^ 64 - (v.toNat - 1 + 1) := by omega
  rw [e1, Nat.testBit_two_pow_sub_succ (by omega), hx, Nat.testBit_two_pow_mul_add _ (by omega)]
  by_cases c : j < i
  · rw [h0 j c, decide_eq_false (p := i = j) (by omega), Bool.false_and, Bool.and_false]
  · have hvb : v.getLsbD j = (2 * q + 1).testBit (j - i) := by
      unfold BitVec.getLsbD
      rw [hv, Nat.testBit_two_pow_mul_add _ h2i, if_neg c]
    rw [hvb, if_neg c, decide_eq_true hj]
    by_cases e : i = j
    · subst e
      simp
      exact hj
    · obtain ⟨k, hk⟩ : ∃ k, j - i = k + 1 := ⟨j - i - 1, by omega⟩
      rw [hk, Nat.testBit_succ, Nat.testBit_succ, decide_eq_false e, show (2 * q + 1) / 2 = q by omega, show 2 * q / 2 = q by omega]
      cases q.testBit k <;> simp

theorem setIs_one {X Y Z : Int} (hs : sides X Y Z = true) {c0 : D_A3} (hc : within3 X Y Z c0 = true) : SetIs X Y Z (BitVec.twoPow 64 (idx Y Z c0)) (fun c => decide (c = c0)) := by
  obtain ⟨_, h2, h3, _⟩ := idx_eq hs hc
  refine ⟨fun i hi => ?_, fun c hw => ?_⟩
  · rw [BitVec.getLsbD_twoPow, decide_eq_false (p := idx Y Z c0 = i) (by omega), Bool.and_false]
  · have h4 := (idx_eq hs hw).2.1
    rw [BitVec.getLsbD_twoPow]
    show _ = decide (c = c0)
    by_cases e : c = c0
    · rw [e, decide_eq_true (p := c0 = c0) rfl, decide_eq_true (p := idx Y Z c0 = idx Y Z c0) rfl, decide_eq_true (p := idx Y Z c0 < 64) (by omega)]
      rfl
    · rw [decide_eq_false e, decide_eq_false (p := idx Y Z c0 = idx Y Z c) (fun h => e (idx_inj hs hw hc h.symm)), Bool.and_false]

theorem setIs_and {X Y Z : Int} {v w : BitVec 64} {f g : D_A3 → Bool} (hv : SetIs X Y Z v f) (hw : SetIs X Y Z w g) : SetIs X Y Z (v &&& w) (fun c => f c && g c) :=
  ⟨fun i hi => by rw [BitVec.getLsbD_and, hv.1 i hi, Bool.false_and], fun c hc => by rw [BitVec.getLsbD_and, hv.2 c hc, hw.2 c hc]⟩

/-- Some pieces are told; the cells of L0 are left. -/
structure PiecesI (cuts : List D_A2) (l L0 : List D_A3) (ps : List (List D_A3)) : Prop where
  srt : Srt L0
  sub : ∀ c ∈ L0, c ∈ l
  closed : ∀ c ∈ L0, ∀ d ∈ l, nb c d → same cuts c d = true → d ∈ L0
  good : ∀ p ∈ ps, Srt p ∧ ∃ c0 ∈ l, ∀ c, c ∈ p ↔ ConnS cuts l c0 c
  cover : ∀ c ∈ l, c ∈ L0 ∨ ∃ p ∈ ps, c ∈ p
  tot : (ps.map List.length).sum + L0.length = l.length

end Go.VI
/- Plain: how many pieces and parts there are. -/
namespace Go.VI
open Go.Proofs

/-! ### Lists of lists -/
theorem l_rCellsC (l : List D_A3) (hl : Small l) : ∀ (d k m : Nat), l.length = k + d → d < m → l_laws_rCells_4 m l l (k : Int) = some (true, ())
  | d, k, 0, hk, hm => by omega
  | d, k, m + 1, hk, hm => by
    have hl' := hl
    unfold Small at hl'
    rw [q_laws_rCells_4]
    by_cases hlt : k < l.length
    · rw [ltT hlt, inB_at hlt, succI k (by omega), l_rCellsC l hl (d - 1) (k + 1) m (by omega) (by omega)]
      simp
    · rw [ltF hlt]; rfl

theorem f_rCellsC (l : List D_A3) (hl : Small l) : P_laws_rCells (l, l, ()) = some (true, ()) := by
  have := l_rCellsC l hl l.length 0 N (by simp) (by unfold Small at hl; have := N_ge; omega)
  rw [p_laws_rCells, decide_eq_true rfl]
  exact this

theorem f_rHeapC (h : D_Heap) (hl : Small h.2.2.2.1) : P_laws_rHeap (h, h, ()) = some (true, ()) := by
  rw [p_laws_rHeap, f_rCellsC h.2.2.2.1 hl]
  simp

theorem l_rLists (ps : List (List D_A3)) (h1 : ps.length ≤ 1000) (h2 : ∀ p ∈ ps, Small p) : ∀ (d k m : Nat), ps.length = k + d → d < m → l_laws_rLists_4 m ps ps (k : Int) = some (true, ())
  | d, k, 0, hk, hm => by omega
  | d, k, m + 1, hk, hm => by
    rw [q_laws_rLists_4]
    by_cases hlt : k < ps.length
    · have e : nth ((.sl T_A3) : Ty) ps (k : Int) = ps[k] := nthA (t := .sl T_A3) hlt
      rw [ltT hlt, inB_at hlt, e, f_rCellsC _ (h2 _ (List.getElem_mem hlt)), succI k (by omega)]
      simp only [cond_true, Option.bind_some, Bool.not_true, cond_false]
      exact l_rLists ps h1 h2 (d - 1) (k + 1) m (by omega) (by omega)
    · rw [ltF hlt]; rfl

theorem f_rLists (ps : List (List D_A3)) (h1 : ps.length ≤ 1000) (h2 : ∀ p ∈ ps, Small p) : P_laws_rLists (ps, ps, ()) = some (true, ()) := by
  rw [p_laws_rLists, decide_eq_true rfl]
  exact l_rLists ps h1 h2 ps.length 0 N (by simp) (by have := N_ge; omega)

theorem sum_drop (ps : List (List D_A3)) (k : Nat) (hlt : k < ps.length) : ((ps.drop k).map List.length).sum = ps[k].length + ((ps.drop (k + 1)).map List.length).sum := by
  rw [drop_at ps k hlt, List.map_cons, List.sum_cons]

theorem l_rAll (ps : List (List D_A3)) (h1 : ps.length ≤ 1000) : ∀ (d k m : Nat) (v : Nat), ps.length = k + d → d < m → v + ((ps.drop k).map List.length).sum ≤ 1000000 → l_laws_rAll_3 m ps (v : Int) (k : Int) = some (((v + ((ps.drop k).map List.length).sum : Nat) : Int), ())
  | d, k, 0, v, hk, hm, hv => by omega
  | d, k, m + 1, v, hk, hm, hv => by
    rw [q_laws_rAll_3]
    by_cases hlt : k < ps.length
    · have e : nth ((.sl T_A3) : Ty) ps (k : Int) = ps[k] := nthA (t := .sl T_A3) hlt
      have hs := sum_drop ps k hlt
      rw [ltT hlt, inB_at hlt, e, w64 (by omega) (by omega), succI k (by omega)]
      simp only [cond_true]
      have := l_rAll ps h1 (d - 1) (k + 1) m (v + ps[k].length) (by omega) (by omega) (by omega)
      rw [← Int.natCast_add, this, hs, Nat.add_assoc]
    · rw [ltF hlt, List.drop_eq_nil_of_le (by omega)]
      simp

theorem f_rAll (ps : List (List D_A3)) (h1 : ps.length ≤ 1000) (h2 : (ps.map List.length).sum ≤ 1000000) : P_laws_rAll (ps, ()) = some ((((ps.map List.length).sum : Nat) : Int), ()) := by
  have := l_rAll ps h1 ps.length 0 N 0 (by simp) (by have := N_ge; omega) (by simpa using h2)
  rw [p_laws_rAll]
  simpa using this

/-! ### Heads of parts -/
theorem one_of {H : List D_A3} (hn : H.Nodup) (he : ∀ h ∈ H, ∀ h' ∈ H, h = h') : H.length ≤ 1 := by
  match H, hn, he with
  | [], _, _ => simp
  | [_], _, _ => simp
  | a :: b :: r, hn, he =>
    have := he a (by simp) b (by simp)
    rw [List.nodup_cons] at hn
    exact absurd (by simp [this]) hn.1

theorem filter_split {α : Type} (p : α → Bool) : ∀ l : List α, l.length = (l.filter p).length + (l.filter fun x => !p x).length
  | [] => rfl
  | a :: r => by
    have := filter_split p r
    rw [List.filter_cons, List.filter_cons]
    cases p a <;> simp <;> omega

open Classical in
theorem heads_le : ∀ (P : List (List D_A3)) (H : List D_A3), H.Nodup → (∀ h ∈ H, ∃ p ∈ P, h ∈ p) → (∀ p ∈ P, ∀ h ∈ H, ∀ h' ∈ H, h ∈ p → h' ∈ p → h = h') → H.length ≤ P.length
  | [], H, _, hc, _ => by
    match H, hc with
    | [], _ => simp
    | a :: r, hc =>
      obtain ⟨p, hp, _⟩ := hc a (by simp)
      cases hp
  | p :: P, H, hn, hc, ha => by
    have hsplit : H.length = (H.filter fun h => decide (h ∈ p)).length + (H.filter fun h => !decide (h ∈ p)).length := by
      exact filter_split (fun h => decide (h ∈ p)) H
    have h1 : (H.filter fun h => decide (h ∈ p)).length ≤ 1 := one_of (hn.filter _) fun a ha' b hb => by
      rw [List.mem_filter, decide_eq_true_eq] at ha' hb
      exact ha p (List.mem_cons_self ..) a ha'.1 b hb.1 ha'.2 hb.2
    have h2 := heads_le P (H.filter fun h => !decide (h ∈ p)) (hn.filter _) (fun h hh => by
      rw [List.mem_filter, Bool.not_eq_true', decide_eq_false_iff_not] at hh
      obtain ⟨q, hq, hm⟩ := hc h hh.1
      rcases List.mem_cons.1 hq with rfl | hq
      · exact absurd hm hh.2
      · exact ⟨q, hq, hm⟩) (fun q hq h hh h' hh' => ha q (List.mem_cons_of_mem _ hq) h (List.mem_filter.1 hh).1 h' (List.mem_filter.1 hh').1)
    rw [List.length_cons]
    omega

/-- Parts are told by their heads; the cells of L0 are left. -/
structure HeadsI (l L0 H : List D_A3) : Prop where
  srt : Srt L0
  sub : ∀ c ∈ L0, c ∈ l
  closed : ∀ c ∈ L0, ∀ d ∈ l, nb c d → d ∈ L0
  hmem : ∀ h ∈ H, h ∈ l
  nodup : H.Nodup
  apart : ∀ h ∈ H, ∀ h' ∈ H, Conn l h h' → h = h'
  left : ∀ h ∈ H, ∀ c ∈ L0, ¬ Conn l h c

theorem app_len8 {α : Type} {l : List α} {x : α} (h : l.length ≤ 100000000) : (decide ((l.length + ([x] : List α).length) * 8 ≤ 140737488355328) && decide (l.length + ([x] : List α).length ≤ 140737488355328)) = true := by
  rw [Bool.and_eq_true, decide_eq_true_eq, decide_eq_true_eq]
  simp only [List.length_singleton]
  omega

theorem parts_walk {X Y Z : Int} {l : List D_A3} (hs : sides X Y Z = true) (hi : Ins X Y Z l) : ∀ (d m : Nat) (L0 H : List D_A3) (ws : List (BitVec 64)), L0.length ≤ d → d < m → d ≤ 64 → ws.length + d ≤ 100 → ws.length = H.length → HeadsI l L0 H →
    ∃ (ws' : List (BitVec 64)) (H' : List D_A3), l_box_parts_2 m X Y Z ((mask Y Z L0 0).toNat : Int) (ws.map fun w => ((w.toNat : Nat) : Int)) = some (ws'.map (fun w => ((w.toNat : Nat) : Int)), ()) ∧ ws'.length = H'.length ∧ ws'.length ≤ 100 ∧ HeadsI l [] H'
  | d, 0, L0, H, ws, _, h, _, _, _, _ => by omega
  | d, m + 1, [], H, ws, hd, hm, h64, hps, hw, hI => by
    rw [q_box_parts_2]
    exact ⟨ws, H, rfl, hw, by omega, hI⟩
  | d, m + 1, c0 :: L, H, ws, hd, hm, h64, hps, hw, hI => by
    have hin : Ins X Y Z (c0 :: L) := fun c hc => hi c (hI.sub c hc)
    have hw0 := hin c0 (List.mem_cons_self ..)
    obtain ⟨_, k2, k3, _⟩ := idx_eq hs hw0
    have hb1 : (mask Y Z (c0 :: L) 0).getLsbD (idx Y Z c0) = true := by
      rw [mask_mem hs hin hw0]; simp
    have hb0 : ∀ j, j < idx Y Z c0 → (mask Y Z (c0 :: L) 0).getLsbD j = false := by
      intro j hj
      rw [mask_bit]
      have : ((c0 :: L).any fun c => decide (idx Y Z c = j)) = false := by
        rw [List.any_eq_false]
        intro c hc
        have hge : idx Y Z c0 ≤ idx Y Z c := by
          rcases List.mem_cons.1 hc with rfl | hc'
          · exact Nat.le_refl _
          · exact Nat.le_of_lt ((idx_lt hs hw0 (hin c hc)).2 ((List.pairwise_cons.1 hI.srt).1 c hc'))
        simp only [decide_eq_true_eq]
        omega
      rw [this]
      simp
    have hne : (mask Y Z (c0 :: L) 0).toNat ≠ 0 := by
      intro hz
      unfold BitVec.getLsbD at hb1
      rw [hz, Nat.zero_testBit] at hb1
      cases hb1
    have hlow := low_bit _ (idx Y Z c0) (by omega) hb1 hb0
    have hset := setIs_mask hs hin
    have hs1 := setIs_one hs hw0
    obtain ⟨w, w1, w2, w3⟩ := f_grown hs hs1.1 hset.1
    rw [q_box_parts_2, decide_eq_false (p := ((mask Y Z (c0 :: L) 0).toNat : Int) = 0) (by omega), hlow]
    simp only [Bool.not_false, cond_true]
    rw [w1]
    simp only [Option.bind_some]
    rw [app_len8 (by rw [List.length_map]; omega), andNot64]
    simp only [cond_true]
    have hreach : ∀ c, bitP X Y Z w c ↔ Conn l c0 c := by
      intro c
      rw [w3]
      constructor
      · intro h
        refine Rch.mono (fun x hx => .base ?_) (fun x hx => ?_) h
        · have := hx.2
          rw [hs1.2 x hx.1] at this
          exact of_decide_eq_true this
        · have := hx.2
          rw [hset.2 x hx.1, decide_eq_true_eq] at this
          exact hI.sub x this
      · intro h
        have key : c ∈ c0 :: L ∧ Rch (bitP X Y Z (BitVec.twoPow 64 (idx Y Z c0))) (bitP X Y Z (mask Y Z (c0 :: L) 0)) c := by
          refine Rch.of (r := fun c => c ∈ c0 :: L ∧ Rch (bitP X Y Z (BitVec.twoPow 64 (idx Y Z c0))) (bitP X Y Z (mask Y Z (c0 :: L) 0)) c) (fun x hx => ?_) (fun x d hx hn hd => ?_) h
          · have hx' : x = c0 := hx
            subst hx'
            exact ⟨List.mem_cons_self .., .base ⟨hw0, by rw [hs1.2 _ hw0]; simp⟩⟩
          · have hdm := hI.closed x hx.1 d hd hn
            refine ⟨hdm, .step hx.2 hn ⟨hin d hdm, ?_⟩⟩
            rw [hset.2 d (hin d hdm)]
            exact decide_eq_true hdm
        exact key.2
    have hlf : ∃ lf, Srt lf ∧ ∀ c, c ∈ lf ↔ c ∈ c0 :: L ∧ ¬ Conn l c0 c := by
      refine ⟨bitCells X Y Z (mask Y Z (c0 :: L) 0 &&& ~~~w), srt_listOf hs _, fun c => ?_⟩
      rw [mem_listOf hs, ← hreach]
      constructor
      · rintro ⟨hc, hb⟩
        have h64 := (idx_eq hs hc).2.1
        have hsz := size64 hs
        rw [BitVec.getLsbD_and, hset.2 c hc, BitVec.getLsbD_not, decide_eq_true (p := idx Y Z c < 64) (by omega), Bool.true_and, Bool.and_eq_true, decide_eq_true_eq, Bool.not_eq_true'] at hb
        refine ⟨hb.1, fun hh => ?_⟩
        have := hh.2
        rw [hb.2] at this
        cases this
      · rintro ⟨hc, hb⟩
        have hw' := hin c hc
        have h64 := (idx_eq hs hw').2.1
        have hsz := size64 hs
        refine ⟨hw', ?_⟩
        rw [BitVec.getLsbD_and, hset.2 c hw', BitVec.getLsbD_not, decide_eq_true (p := idx Y Z c < 64) (by omega), Bool.true_and, Bool.and_eq_true, decide_eq_true_eq, Bool.not_eq_true', ← Bool.not_eq_true]
        exact ⟨hc, fun hh => hb ⟨hw', hh⟩⟩
    obtain ⟨lf, s1, s2⟩ := hlf
    have hlfin : Ins X Y Z lf := fun c hc => hin c ((s2 c).1 hc).1
    have hmask : mask Y Z (c0 :: L) 0 &&& ~~~w = mask Y Z lf 0 := by
      refine SetIs.ext hs (g := fun c => decide (c ∈ lf)) ⟨fun i hi => by rw [BitVec.getLsbD_and, hset.1 i hi, Bool.false_and], fun c hc => ?_⟩ (setIs_mask hs hlfin)
      have h64 := (idx_eq hs hc).2.1
      have hsz := size64 hs
      rw [BitVec.getLsbD_and, hset.2 c hc, BitVec.getLsbD_not, decide_eq_true (p := idx Y Z c < 64) (by omega), Bool.true_and, Bool.eq_iff_iff, Bool.and_eq_true, decide_eq_true_eq, decide_eq_true_eq, s2, Bool.not_eq_true', ← Bool.not_eq_true]
      have := hreach c
      constructor
      · rintro ⟨a, b⟩
        exact ⟨a, fun hh => b (this.2 hh).2⟩
      · rintro ⟨a, b⟩
        exact ⟨a, fun hh => b (this.1 ⟨hc, hh⟩)⟩
    have hlen : lf.length < (c0 :: L).length := by
      have hsub : ∀ c ∈ lf, c ∈ (c0 :: L).filter fun x => !decide (x = c0) := fun c hc => by
        rw [List.mem_filter, Bool.not_eq_true', decide_eq_false_iff_not]
        exact ⟨((s2 c).1 hc).1, fun e => ((s2 c).1 hc).2 (.base e)⟩
      have h1 : lf.length ≤ L.length := by
        have hc0 : c0 ∉ L := fun h => by
          have := (List.pairwise_cons.1 hI.srt).1 c0 h
          rw [ltC_irrefl] at this
          cases this
        have hLsub : ∀ c ∈ lf, c ∈ L := fun c hc => by
          have := List.mem_filter.1 (hsub c hc)
          rcases List.mem_cons.1 this.1 with e | h
          · have h2 := this.2
            rw [e] at h2
            simp at h2
          · exact h
        have hsrtL : Srt L := (List.pairwise_cons.1 hI.srt).2
        have e : lf = L.filter fun x => decide (x ∈ lf) := srt_ext _ _ s1 (hsrtL.filter _) fun c => by
          rw [List.mem_filter, decide_eq_true_eq]
          exact ⟨fun hc => ⟨hLsub c hc, hc⟩, fun hc => hc.2⟩
        rw [e]
        exact List.length_filter_le _ _
      rw [List.length_cons]
      omega
    rw [hmask]
    have hmap : (ws.map fun w => ((w.toNat : Nat) : Int)) ++ ([((w.toNat : Nat) : Int)] : List Int) = (ws ++ [w]).map fun w => ((w.toNat : Nat) : Int) := by simp
    rw [hmap]
    have hc0l := hI.sub c0 (List.mem_cons_self ..)
    refine parts_walk hs hi (d - 1) m lf (H ++ [c0]) (ws ++ [w]) (by omega) (by omega) (by omega) (by simp; omega) (by simp [hw]) ⟨s1, fun c hc => hI.sub c ((s2 c).1 hc).1, fun c hc d hd hn => ?_, fun h hh => ?_, ?_, fun h hh h' hh' hcn => ?_, fun h hh c hc hcn => ?_⟩
    · obtain ⟨hcL, hnc⟩ := (s2 c).1 hc
      refine (s2 d).2 ⟨hI.closed c hcL d hd hn, fun hcd => hnc (.step hcd (nb_symm hn) (hI.sub c hcL))⟩
    · rcases List.mem_append.1 hh with hh | hh
      · exact hI.hmem h hh
      · rw [List.mem_singleton.1 hh]; exact hc0l
    · rw [List.nodup_append]
      exact ⟨hI.nodup, by simp, fun a ha b hb e => hI.left a ha c0 (List.mem_cons_self ..) (by rw [← List.mem_singleton.1 hb, ← e]; exact .base rfl)⟩
    · rcases List.mem_append.1 hh with hh | hh
      · rcases List.mem_append.1 hh' with hh' | hh'
        · exact hI.apart h hh h' hh' hcn
        · rw [List.mem_singleton.1 hh'] at hcn
          exact absurd hcn (hI.left h hh c0 (List.mem_cons_self ..))
      · rw [List.mem_singleton.1 hh] at hcn ⊢
        rcases List.mem_append.1 hh' with hh' | hh'
        · exact absurd (Conn.symm hc0l hcn) (hI.left h' hh' c0 (List.mem_cons_self ..))
        · exact (List.mem_singleton.1 hh').symm
    · rcases List.mem_append.1 hh with hh | hh
      · exact hI.left h hh c ((s2 c).1 hc).1 hcn
      · rw [List.mem_singleton.1 hh] at hcn
        exact ((s2 c).1 hc).2 hcn

theorem l_po {X Y Z : Int} {l : List D_A3} (hs : sides X Y Z = true) (ws : List (BitVec 64)) (hw : ws.length ≤ 100) : ∀ (d k m : Nat) (out : List (List D_A3)), ws.length = k + d → d < m → out.length ≤ k →
    ∃ out', l_impl_PartsOf_5 m X Y Z l out (ws.map fun w => ((w.toNat : Nat) : Int)) ((ws.map fun w => ((w.toNat : Nat) : Int)).length : Int) (k : Int) = some (out', true, ()) ∧ out'.length = out.length + d
  | d, k, 0, out, _, h, _ => by omega
  | d, k, m + 1, out, hk, hm, ho => by
    rw [q_impl_PartsOf_5]
    by_cases hlt : k < ws.length
    · have hlt' : k < (ws.map fun w => ((w.toNat : Nat) : Int)).length := by simpa using hlt
      have e : nth ((.int .u64) : Ty) (ws.map fun w => ((w.toNat : Nat) : Int)) (k : Int) = ((ws[k].toNat : Nat) : Int) := by
        have := nthA (t := .int .u64) hlt'
        rw [this, List.getElem_map]
      rw [ltT hlt', inB_at hlt', e, f_Heap_box]
      simp only [cond_true, Option.bind_some]
      rw [f_box_list hs]
      simp only [Option.bind_some]
      rw [app_len' (by omega), succI k (by omega)]
      simp only [cond_true]
      obtain ⟨out', k1, k2⟩ := l_po hs ws hw (d - 1) (k + 1) m (out ++ [bitCells X Y Z ws[k]]) (by omega) (by omega) (by simp; omega)
      refine ⟨out', k1, ?_⟩
      rw [k2, List.length_append, List.length_singleton]
      omega
    · have hlt' : ¬ k < (ws.map fun w => ((w.toNat : Nat) : Int)).length := by simpa using hlt
      rw [ltF hlt']
      exact ⟨out, rfl, by omega⟩

theorem parts_full (h : D_Heap) (hl : Small h.2.2.2.1) (ho : okHeap h = true) : ∃ (R : List (List D_A3)) (H : List D_A3), P_impl_PartsOf (h, ()) = some (R, true, ()) ∧ R.length = H.length ∧ HeadsI h.2.2.2.1 [] H := by
  obtain ⟨hs, hi, hr⟩ := okHeap_iff.1 ho
  have h64 := srt_small64 hs hi hr
  have f3 : P_Heap_cubes (h, ()) = _ := f_Heap_cubes hs hl hi
  obtain ⟨ws, H, w1, w2, w3, w4⟩ := parts_walk hs hi h.2.2.2.1.length N h.2.2.2.1 [] [] (Nat.le_refl _) (by have := N_ge; omega) h64 (by simp; omega) rfl ⟨hr, fun c hc => hc, fun c hc d hd _ => hd, (fun h hh => by cases hh), by simp, (fun h hh => by cases hh), fun h hh => by cases hh⟩
  have w1' : l_box_parts_2 N h.1 h.2.1 h.2.2.1 ((mask h.2.1 h.2.2.1 h.2.2.2.1 0).toNat : Int) [] = _ := w1
  obtain ⟨R, r1, r2⟩ := l_po (l := h.2.2.2.1) hs ws w3 ws.length 0 N [] (by simp) (by have := N_ge; omega) (by simp)
  rw [p_impl_PartsOf, f_impl_IsHeap _ hl, ho, f_Heap_box, f3]
  simp only [Option.bind_some, Bool.not_true, cond_false]
  rw [p_box_parts]
  simp only
  rw [w1']
  simp only [Option.bind_some]
  exact ⟨R, H, r1, by rw [r2, ← w2]; simp, w4⟩

theorem parts_le {cuts : List D_A2} {l H : List D_A3} {ps : List (List D_A3)} (hP : PiecesI cuts l [] ps) (hH : HeadsI l [] H) : H.length ≤ ps.length := by
  refine heads_le ps H hH.nodup (fun h hh => ?_) (fun p hp h hh h' hh' h1 h2 => ?_)
  · rcases hP.cover h (hH.hmem h hh) with hc | hc
    · cases hc
    · exact hc
  · obtain ⟨_, c0, hc0, hm⟩ := hP.good p hp
    have k1 := ((hm h).1 h1).conn
    have k2 := ((hm h').1 h2).conn
    exact hH.apart h hh h' hh' (Conn.trans (Conn.symm hc0 k1) k2)
end Go.VI
/- Plain: the walk over the parts of a heap. -/
namespace Go.VI
open Go.Proofs

theorem l_p11 {X Y Z : Int} {l L0 lf0 nr pt : List D_A3} {c0 c : D_A3} {n : Nat} (hs : sides X Y Z = true) (hl : ∀ x ∈ L0, x ∈ l) (hL : Srt L0) (h64 : L0.length ≤ 64) (hnr : nr.Nodup) (hc : ∀ x ∈ nr, nb c x) (hlen : nr.length ≤ 64) (ps : List (List D_A3)) (m0 m1 : Nat) :
    ∀ (d k m : Nat) (ls lf : List D_A3), nr.length = k + d → d < m → Part l L0 c0 n (n + 1) ls lf pt → ls[n]? = some c → (∀ x ∈ lf, x ∈ lf0) → (∀ x ∈ nr.take k, x ∉ lf) → (∀ x ∈ nr.drop k, x ∈ lf) →
    ∃ ls' lf', l_spec_l2Parts_11 m0 m1 m X Y Z l X Y Z lf X Y Z pt ps ls (n : Int) nr (k : Int) = l_spec_l2Parts_6 m0 m1 X Y Z l X Y Z lf' X Y Z pt ps ls' ((n + 1 : Nat) : Int) ∧ Part l L0 c0 n (n + 1) ls' lf' pt ∧ (∀ x ∈ lf', x ∈ lf0) ∧ (∀ x ∈ nr, x ∉ lf') ∧ ls'[n]? = some c
  | d, k, 0, ls, lf, _, h, _, _, _, _, _ => by omega
  | d, k, m + 1, ls, lf, hk, hm, hP, hn, h0, h1, h2 => by
    have hle := hP.len hL
    have hlt0 : n < ls.length := (List.getElem?_eq_some_iff.1 hn).1
    rw [q_spec_l2Parts_11]
    by_cases hlt : k < nr.length
    · rw [ltT hlt, inB_at hlt, nthA (t := T_A3) hlt, app_len' (by omega), succI k (by omega), f_without lf nr[k] (by omega)]
      simp only [cond_true, Option.bind_some]
      have hx : nr[k] ∈ lf := h2 _ (by rw [drop_at nr k hlt]; exact List.mem_cons_self ..)
      have hP' := hP.take hl (List.mem_of_getElem? hn) hx (hc _ (List.getElem_mem hlt)) (by omega) (by omega)
      refine l_p11 hs hl hL h64 hnr hc hlen ps m0 m1 (d - 1) (k + 1) m _ _ (by omega) (by omega) hP' (by rw [List.getElem?_append_left hlt0]; exact hn) (fun x hx => h0 x (List.mem_filter.1 hx).1) (fun x hx hh => ?_) (fun x hx => ?_)
      · rw [List.take_add_one, List.getElem?_eq_getElem hlt] at hx
        have hh' := List.mem_filter.1 hh
        rcases List.mem_append.1 hx with hx | hx
        · exact h1 x hx hh'.1
        · rw [show x = nr[k] by simpa using hx] at hh'
          simp at hh'
      · have hd : nr.drop k = nr[k] :: nr.drop (k + 1) := drop_at nr k hlt
        have hnd : (nr.drop k).Nodup := hnr.sublist (List.drop_sublist k nr)
        rw [hd] at hnd
        have hne : x ≠ nr[k] := fun e => (List.nodup_cons.1 hnd).1 (e ▸ hx)
        exact List.mem_filter.2 ⟨h2 x (by rw [hd]; exact List.mem_cons_of_mem _ hx), by simp [hne]⟩
    · rw [ltF hlt, succI n (by omega)]
      refine ⟨ls, lf, rfl, hP, h0, fun x hx => h1 x (by rw [List.take_of_length_le (by omega)]; exact hx), hn⟩

theorem l_p6 {X Y Z : Int} {l L0 : List D_A3} {c0 : D_A3} (hs : sides X Y Z = true) (hi : Ins X Y Z l) (hl : ∀ x ∈ L0, x ∈ l) (hL : Srt L0) (h64 : L0.length ≤ 64) (ps : List (List D_A3)) (hps : ps.length ≤ 1000) (m0 : Nat) :
    ∀ (d n m : Nat) (ls lf pt : List D_A3), L0.length = n + d → d < m → Part l L0 c0 n n ls lf pt → n ≤ ls.length →
    ∃ ls' lf' pt', l_spec_l2Parts_6 m0 m X Y Z l X Y Z lf X Y Z pt ps ls (n : Int) = l_spec_l2Parts_2 m0 X Y Z l X Y Z lf' (ps ++ [pt']) ∧ Part l L0 c0 ls'.length ls'.length ls' lf' pt'
  | d, n, 0, ls, lf, pt, _, h, _, _ => by omega
  | d, n, m + 1, ls, lf, pt, hk, hm, hP, hn => by
    have hle := hP.len hL
    rw [q_spec_l2Parts_6]
    by_cases hlt : n < ls.length
    · have hcm : ls[n] ∈ ls := List.getElem_mem hlt
      have hin : ∀ x ∈ L0, Near x := fun x hx => near_of hs (hi x (hl x hx))
      have hptl : pt.length ≤ 64 := srt_small64 hs (fun x hx => hi x (hl x (hP.lsub x (List.mem_of_mem_take ((hP.pmem x).1 hx))))) hP.psrt
      obtain ⟨pt', g1, g2, g3, g4⟩ := f_l2With (X := X) (Y := Y) (Z := Z) hP.psrt ls[n] (by omega)
      rw [ltT hlt, inB_at hlt, nthA (t := T_A3) hlt, g1, f_nearL (X := X) (Y := Y) (Z := Z) (l := lf) (by omega) (fun x hx => hin x (hP.sub x hx)) (hin _ (hP.lsub _ hcm))]
      simp only [cond_true, Option.bind_some]
      have hpm : ∀ x, x ∈ pt' ↔ x ∈ ls.take (n + 1) := fun x => by
        rw [g3, hP.pmem, List.take_add_one, List.getElem?_eq_getElem hlt, List.mem_append]
        simp only [Option.toList_some, List.mem_singleton]
        exact or_comm
      have hP1 : Part l L0 c0 n (n + 1) ls lf pt' := { hP with psrt := g2, pmem := hpm }
      have hnr : (lf.filter (nbB ls[n])).Nodup := (hP.srt.filter _).nodup
      obtain ⟨ls', lf', e1, e2, e3, e4, e5⟩ := l_p11 (lf0 := lf) (nr := lf.filter (nbB ls[n])) (c := ls[n]) hs hl hL h64 hnr (fun x hx => (nbB_iff _ _).1 (List.mem_filter.1 hx).2) (Nat.le_trans (List.length_filter_le _ _) (by omega)) ps m0 m (lf.filter (nbB ls[n])).length 0 N ls lf (by omega) (by have := List.length_filter_le (nbB ls[n]) lf; have := N_ge; omega) hP1 (List.getElem?_eq_getElem hlt) (fun x hx => hx) (by simp) (fun x hx => (List.mem_filter.1 (by simpa using hx)).1)
      have e1' : l_spec_l2Parts_11 m0 m N X Y Z l X Y Z lf X Y Z pt' ps ls (n : Int) (lf.filter (nbB ls[n])) 0 = _ := e1
      rw [e1']
      have hlt' : n < ls'.length := (List.getElem?_eq_some_iff.1 e5).1
      have hle' := e2.len hL
      refine l_p6 hs hi hl hL h64 ps hps m0 (d - 1) (n + 1) m ls' lf' pt' (by omega) (by omega) { e2 with done := fun i hii x hx y hy hh => ?_ } (by omega)
      by_cases e : i = n
      · subst e
        rw [e5] at hx
        have hx := Option.some.inj hx
        rw [← hx] at hy
        exact e4 y (List.mem_filter.2 ⟨e3 y hh, (nbB_iff _ _).2 hy⟩) hh
      · exact e2.done i (by omega) x hx y hy hh
    · have e : n = ls.length := by omega
      subst e
      rw [ltF hlt, app_len' (by omega)]
      exact ⟨ls, lf, pt, rfl, hP⟩

/-- Some parts are told; the cells of L0 are left. -/
structure PartsI (X Y Z : Int) (l L0 : List D_A3) (ps : List (List D_A3)) : Prop where
  srt : Srt L0
  sub : ∀ c ∈ L0, c ∈ l
  closed : ∀ c ∈ L0, ∀ d ∈ l, nb c d → d ∈ L0
  good : ∀ p ∈ ps, Srt p ∧ Ins X Y Z p ∧ ∃ c0 ∈ l, ∀ c, c ∈ p ↔ Conn l c0 c
  cover : ∀ c ∈ l, c ∈ L0 ∨ ∃ p ∈ ps, c ∈ p

theorem l_p2 {X Y Z : Int} {l : List D_A3} (hs : sides X Y Z = true) (hi : Ins X Y Z l) : ∀ (d m : Nat) (L0 : List D_A3) (ps : List (List D_A3)), L0.length ≤ d → d < m → d ≤ 64 → ps.length + d ≤ 100 → PartsI X Y Z l L0 ps →
    ∃ ps', l_spec_l2Parts_2 m X Y Z l X Y Z L0 ps = some (ps', ()) ∧ PartsI X Y Z l [] ps' ∧ ps'.length ≤ 100
  | d, 0, L0, ps, _, h, _, _, _ => by omega
  | d, m + 1, [], ps, hd, hm, h64, hps, hI => by
    rw [q_spec_l2Parts_2]
    exact ⟨ps, rfl, hI, by omega⟩
  | d, m + 1, c0 :: L, ps, hd, hm, h64, hps, hI => by
    rw [q_spec_l2Parts_2, decide_eq_true (by simp), p_spec_l2Empty]
    have n0 : nth T_A3 (c0 :: L) 0 = c0 := rfl
    have n1 : nth T_A3 ([nth T_A3 (c0 :: L) 0] : List D_A3) 0 = c0 := rfl
    have i0 : inB 0 (c0 :: L).length = true := by simp [inB]
    have i1 : inB 0 ([nth T_A3 (c0 :: L) 0] : List D_A3).length = true := rfl
    have hlen : (c0 :: L).length ≤ 64 := by omega
    simp only [cond_true, Option.bind_some]
    rw [i0, i1, n1, n0, f_without (c0 :: L) c0 (by omega)]
    simp only [cond_true, Option.bind_some]
    have hmemF : ∀ x, x ∈ (c0 :: L).filter (fun x => !decide (x = c0)) ↔ x ∈ (c0 :: L) ∧ x ≠ c0 := fun x => by rw [List.mem_filter]; simp
    have hP : Part l (c0 :: L) c0 0 0 [c0] ((c0 :: L).filter fun x => !decide (x = c0)) [] := {
      srt := hI.srt.filter _
      sub := fun x hx => ((hmemF x).1 hx).1
      lsub := fun x hx => by rw [List.mem_singleton.1 hx]; exact List.mem_cons_self ..
      all := fun x hx => by
        by_cases e : x = c0
        · exact .inl (by rw [e]; simp)
        · exact .inr ((hmemF x).2 ⟨hx, e⟩)
      apart := fun x hx hh => ((hmemF x).1 hh).2 (List.mem_singleton.1 hx)
      conn := fun x hx => .base (List.mem_singleton.1 hx)
      done := fun i hii => by omega
      psrt := List.Pairwise.nil
      pmem := fun x => by simp
      nodup := by simp
      start := by simp }
    obtain ⟨ls', lf', pt', e1, e2⟩ := l_p6 hs hi hI.sub hI.srt hlen ps (by omega) m (c0 :: L).length 0 N [c0] _ [] (by omega) (by have := N_ge; omega) hP (by omega)
    have e1' : l_spec_l2Parts_6 m N X Y Z l X Y Z ((c0 :: L).filter fun x => !decide (x = c0)) X Y Z [] ps [c0] 0 = _ := e1
    rw [e1']
    have hle := e2.len hI.srt
    have hpos : 0 < ls'.length := List.length_pos_of_mem e2.start
    have fin : ∀ i, i < ls'.length → True := fun _ _ => trivial
    have hlsn : ∀ c ∈ ls', ∀ d, nb c d → d ∉ lf' := fun c hc d hd => by
      obtain ⟨i, hii, e⟩ := List.getElem_of_mem hc
      exact e2.done i hii c (by rw [List.getElem?_eq_getElem hii, e]) d hd
    have hcomp : ∀ c, c ∈ pt' ↔ Conn l c0 c := fun c => by
      rw [e2.pmem, List.take_length]
      refine ⟨e2.conn c, fun hc => Rch.of (r := fun c => c ∈ ls') (fun c hc => by rw [show c = c0 from hc]; exact e2.start) (fun c d hc hn hd => ?_) hc⟩
      rcases e2.all d (hI.closed c (e2.lsub c hc) d hd hn) with h | h
      · exact h
      · exact absurd h (hlsn c hc d hn)
    refine l_p2 hs hi (d - 1) m lf' (ps ++ [pt']) (by omega) (by omega) (by omega) (by simp; omega) ⟨e2.srt, fun c hc => hI.sub c (e2.sub c hc), fun c hc d hd hn => ?_, fun p hp => ?_, fun c hc => ?_⟩
    · rcases e2.all d (hI.closed c (e2.sub c hc) d hd hn) with h | h
      · exact absurd hc (hlsn d h c (nb_symm hn))
      · exact h
    · rcases List.mem_append.1 hp with hp | hp
      · exact hI.good p hp
      · rw [List.mem_singleton.1 hp]
        refine ⟨e2.psrt, fun x hx => hi x (Conn.mem (hI.sub c0 (List.mem_cons_self ..)) ((hcomp x).1 hx)), c0, hI.sub c0 (List.mem_cons_self ..), hcomp⟩
    · rcases hI.cover c hc with h | ⟨p, hp, h⟩
      · rcases e2.all c h with h | h
        · exact .inr ⟨pt', by simp, (hcomp c).2 (e2.conn c h)⟩
        · exact .inl h
      · exact .inr ⟨p, List.mem_append_left _ hp, h⟩

theorem f_parts {X Y Z : Int} {l : List D_A3} (hs : sides X Y Z = true) (hi : Ins X Y Z l) (hr : Srt l) : ∃ ps, P_spec_l2Parts ((X, Y, Z, l, ()), ()) = some (ps, ()) ∧ PartsI X Y Z l [] ps ∧ ps.length ≤ 100 := by
  have h64 := srt_small64 hs hi hr
  obtain ⟨ps, h1, h2⟩ := l_p2 hs hi 64 N l [] h64 (by have := N_ge; omega) (by omega) (by simp) ⟨hr, fun c h => h, fun _ _ d hd _ => hd, (fun p hp => by cases hp), fun c hc => .inl hc⟩
  refine ⟨ps, ?_, h2⟩
  rw [p_spec_l2Parts, f_l2Own (by omega)]
  exact h1

/-! ### What stands -/
def Stand (l : List D_A3) : D_A3 → Prop := Rch (fun c => c ∈ l ∧ c.2.2.1 = 0) (fun c => c ∈ l)

theorem Stand.mem {l : List D_A3} {c : D_A3} (h : Stand l c) : c ∈ l := by
  cases h with
  | base h => exact h.1
  | step _ _ h => exact h
end Go.VI
/- Plain: the parts of a heap, in order. -/
namespace Go.VI
open Go.Proofs

/-- The parts of some cells, in order. -/
inductive Pts (l : List D_A3) : List D_A3 → List (List D_A3) → Prop
  | nil : Pts l [] []
  | cons {c0 : D_A3} {L p lf : List D_A3} {ps : List (List D_A3)} (h1 : Srt p) (h2 : ∀ c, c ∈ p ↔ Conn l c0 c) (h3 : Srt lf) (h4 : ∀ c, c ∈ lf ↔ c ∈ c0 :: L ∧ ¬ Conn l c0 c) (h5 : Pts l lf ps) : Pts l (c0 :: L) (p :: ps)

theorem Pts.uniq {l : List D_A3} {L : List D_A3} {ps : List (List D_A3)} (h : Pts l L ps) : ∀ {ps' : List (List D_A3)}, Pts l L ps' → ps = ps' := by
  induction h with
  | nil => intro ps' h'; cases h'; rfl
  | cons h1 h2 h3 h4 h5 ih =>
    intro ps' h'
    cases h' with
    | cons k1 k2 k3 k4 k5 =>
      have e1 := srt_ext _ _ h1 k1 fun c => by rw [h2, k2]
      have e2 := srt_ext _ _ h3 k3 fun c => by rw [h4, k4]
      subst e1
      subst e2
      rw [ih k5]

theorem srt_len {A B : List D_A3} (hA : Srt A) (hB : Srt B) (h : ∀ c, c ∈ A ↔ c ∈ B) : A.length = B.length := by rw [srt_ext A B hA hB h]

theorem Pts.sum {l : List D_A3} {L : List D_A3} {ps : List (List D_A3)} (h : Pts l L ps) : Srt L → (∀ c ∈ L, c ∈ l) → (∀ c ∈ L, ∀ d ∈ l, nb c d → d ∈ L) → (ps.map List.length).sum = L.length := by
  induction h with
  | nil => intro _ _ _; rfl
  | cons h1 h2 h3 h4 h5 ih =>
    rename_i c0 L p lf ps
    intro hr hsub hcl
    have hpL : ∀ c, c ∈ p → c ∈ c0 :: L := fun c hc => by
      have hconn := (h2 c).1 hc
      exact Rch.of (r := fun c => c ∈ c0 :: L) (fun c hc => by rw [show c = c0 from hc]; exact List.mem_cons_self ..) (fun c d hc hn hd => hcl c hc d hd hn) hconn
    have e := ih h3 (fun c hc => hsub c ((h4 c).1 hc).1) (fun c hc d hd hn => by
      obtain ⟨a, b⟩ := (h4 c).1 hc
      exact (h4 d).2 ⟨hcl c a d hd hn, fun hcd => b (.step hcd (nb_symm hn) (hsub c a))⟩)
    have hp : (c0 :: L).Perm (p ++ lf) := by
      refine (List.perm_ext_iff_of_nodup hr.nodup ?_).2 fun c => ?_
      · rw [List.nodup_append]
        exact ⟨h1.nodup, h3.nodup, fun a ha b hb e => ((h4 b).1 hb).2 (e ▸ (h2 a).1 ha)⟩
      · rw [List.mem_append, h4, h2]
        constructor
        · intro hc
          by_cases hh : Conn l c0 c
          · exact .inl hh
          · exact .inr ⟨hc, hh⟩
        · rintro (hc | hc)
          · exact hpL c ((h2 c).2 hc)
          · exact hc.1
    rw [hp.length_eq, List.length_append, ← e]
    rfl

theorem Pts.good {l : List D_A3} {L : List D_A3} {ps : List (List D_A3)} (h : Pts l L ps) : (∀ c ∈ L, c ∈ l) → ∀ p ∈ ps, Srt p ∧ ∃ c0 ∈ l, ∀ c, c ∈ p ↔ Conn l c0 c := by
  induction h with
  | nil => intro _ p hp; cases hp
  | cons h1 h2 h3 h4 h5 ih =>
    rename_i c0 L p lf ps
    intro hsub q hq
    rcases List.mem_cons.1 hq with rfl | hq
    · exact ⟨h1, c0, hsub c0 (List.mem_cons_self ..), h2⟩
    · exact ih (fun c hc => hsub c ((h4 c).1 hc).1) q hq

theorem Pts.len {l : List D_A3} {L : List D_A3} {ps : List (List D_A3)} (h : Pts l L ps) : ∀ n, L.length ≤ n → Srt L → ps.length ≤ n := by
  induction h with
  | nil => intro n _ _; exact Nat.zero_le _
  | cons h1 h2 h3 h4 h5 ih =>
    rename_i c0 L p lf ps
    intro n hn hr
    have hlf : lf.length < (c0 :: L).length := by
      have hsub : ∀ c ∈ lf, c ∈ L := fun c hc => by
        obtain ⟨a, b⟩ := (h4 c).1 hc
        rcases List.mem_cons.1 a with rfl | a
        · exact absurd (.base rfl) b
        · exact a
      have e : lf = L.filter fun x => decide (x ∈ lf) := srt_ext _ _ h3 ((List.pairwise_cons.1 hr).2.filter _) fun c => by
        rw [List.mem_filter, decide_eq_true_eq]
        exact ⟨fun hc => ⟨hsub c hc, hc⟩, fun hc => hc.2⟩
      rw [e, List.length_cons]
      exact Nat.lt_succ_of_le (List.length_filter_le _ _)
    have := ih (n - 1) (by omega) h3
    rw [List.length_cons]
    omega

/-! ### The reference -/
theorem l_p2x {X Y Z : Int} {l : List D_A3} (hs : sides X Y Z = true) (hi : Ins X Y Z l) : ∀ (d m : Nat) (L0 : List D_A3) (ps : List (List D_A3)), L0.length ≤ d → d < m → d ≤ 64 → ps.length + d ≤ 100 → Srt L0 → (∀ c ∈ L0, c ∈ l) → (∀ c ∈ L0, ∀ d ∈ l, nb c d → d ∈ L0) →
    ∃ qs, l_spec_l2Parts_2 m X Y Z l X Y Z L0 ps = some (ps ++ qs, ()) ∧ Pts l L0 qs
  | d, 0, L0, ps, _, h, _, _, _, _, _ => by omega
  | d, m + 1, [], ps, hd, hm, h64, hps, _, _, _ => by
    rw [q_spec_l2Parts_2]
    exact ⟨[], by rw [List.append_nil]; rfl, .nil⟩
  | d, m + 1, c0 :: L, ps, hd, hm, h64, hps, hsrt, hsub, hclosed => by
    rw [q_spec_l2Parts_2, decide_eq_true (by simp), p_spec_l2Empty]
    have n0 : nth T_A3 (c0 :: L) 0 = c0 := rfl
    have n1 : nth T_A3 ([nth T_A3 (c0 :: L) 0] : List D_A3) 0 = c0 := rfl
    have i0 : inB 0 (c0 :: L).length = true := by simp [inB]
    have i1 : inB 0 ([nth T_A3 (c0 :: L) 0] : List D_A3).length = true := rfl
    have hlen : (c0 :: L).length ≤ 64 := by omega
    simp only [cond_true, Option.bind_some]
    rw [i0, i1, n1, n0, f_without (c0 :: L) c0 (by omega)]
    simp only [cond_true, Option.bind_some]
    have hmemF : ∀ x, x ∈ (c0 :: L).filter (fun x => !decide (x = c0)) ↔ x ∈ (c0 :: L) ∧ x ≠ c0 := fun x => by rw [List.mem_filter]; simp
    have hP : Part l (c0 :: L) c0 0 0 [c0] ((c0 :: L).filter fun x => !decide (x = c0)) [] := {
      srt := hsrt.filter _
      sub := fun x hx => ((hmemF x).1 hx).1
      lsub := fun x hx => by rw [List.mem_singleton.1 hx]; exact List.mem_cons_self ..
      all := fun x hx => by
        by_cases e : x = c0
        · exact .inl (by rw [e]; simp)
        · exact .inr ((hmemF x).2 ⟨hx, e⟩)
      apart := fun x hx hh => ((hmemF x).1 hh).2 (List.mem_singleton.1 hx)
      conn := fun x hx => .base (List.mem_singleton.1 hx)
      done := fun i hii => by omega
      psrt := List.Pairwise.nil
      pmem := fun x => by simp
      nodup := by simp
      start := by simp }
    obtain ⟨ls', lf', pt', e1, e2⟩ := l_p6 hs hi hsub hsrt hlen ps (by omega) m (c0 :: L).length 0 N [c0] _ [] (by omega) (by have := N_ge; omega) hP (by omega)
    have e1' : l_spec_l2Parts_6 m N X Y Z l X Y Z ((c0 :: L).filter fun x => !decide (x = c0)) X Y Z [] ps [c0] 0 = _ := e1
    rw [e1']
    have hle := e2.len hsrt
    have hpos : 0 < ls'.length := List.length_pos_of_mem e2.start
    have hlsn : ∀ c ∈ ls', ∀ d, nb c d → d ∉ lf' := fun c hc d hd => by
      obtain ⟨i, hii, e⟩ := List.getElem_of_mem hc
      exact e2.done i hii c (by rw [List.getElem?_eq_getElem hii, e]) d hd
    have hls : ∀ c, c ∈ ls' ↔ Conn l c0 c := fun c => by
      refine ⟨e2.conn c, fun hc => Rch.of (r := fun c => c ∈ ls') (fun c hc => by rw [show c = c0 from hc]; exact e2.start) (fun c d hc hn hd => ?_) hc⟩
      rcases e2.all d (hclosed c (e2.lsub c hc) d hd hn) with h | h
      · exact h
      · exact absurd h (hlsn c hc d hn)
    have hcomp : ∀ c, c ∈ pt' ↔ Conn l c0 c := fun c => by rw [e2.pmem, List.take_length, hls]
    have hlf : ∀ c, c ∈ lf' ↔ c ∈ c0 :: L ∧ ¬ Conn l c0 c := fun c => by
      constructor
      · intro hc
        exact ⟨e2.sub c hc, fun hh => e2.apart c ((hls c).2 hh) hc⟩
      · rintro ⟨hc, hh⟩
        rcases e2.all c hc with h | h
        · exact absurd ((hls c).1 h) hh
        · exact h
    obtain ⟨qs, r1, r2⟩ := l_p2x hs hi (d - 1) m lf' (ps ++ [pt']) (by omega) (by omega) (by omega) (by simp; omega) e2.srt (fun c hc => hsub c (e2.sub c hc)) (fun c hc d hd hn => by
      rcases e2.all d (hclosed c (e2.sub c hc) d hd hn) with h | h
      · exact absurd hc (hlsn d h c (nb_symm hn))
      · exact h)
    exact ⟨pt' :: qs, by rw [r1, List.append_assoc]; rfl, .cons e2.psrt hcomp e2.srt hlf r2⟩

theorem f_partsx {X Y Z : Int} {l : List D_A3} (hs : sides X Y Z = true) (hi : Ins X Y Z l) (hr : Srt l) : ∃ ps, P_spec_l2Parts ((X, Y, Z, l, ()), ()) = some (ps, ()) ∧ Pts l l ps := by
  have h64 := srt_small64 hs hi hr
  obtain ⟨ps, h1, h2⟩ := l_p2x hs hi 64 N l [] h64 (by have := N_ge; omega) (by omega) (by simp) hr (fun c h => h) (fun _ _ d hd _ => hd)
  refine ⟨ps, ?_, h2⟩
  rw [p_spec_l2Parts, f_l2Own (by omega)]
  exact h1

/-! ### The program -/
theorem parts_walkx {X Y Z : Int} {l : List D_A3} (hs : sides X Y Z = true) (hi : Ins X Y Z l) : ∀ (d m : Nat) (L0 : List D_A3) (ws : List (BitVec 64)), L0.length ≤ d → d < m → d ≤ 64 → ws.length + d ≤ 100 → Srt L0 → (∀ c ∈ L0, c ∈ l) → (∀ c ∈ L0, ∀ d ∈ l, nb c d → d ∈ L0) →
    ∃ vs : List (BitVec 64), l_box_parts_2 m X Y Z ((mask Y Z L0 0).toNat : Int) (ws.map fun w => ((w.toNat : Nat) : Int)) = some ((ws ++ vs).map (fun w => ((w.toNat : Nat) : Int)), ()) ∧ vs.length ≤ d ∧ Pts l L0 (vs.map (bitCells X Y Z))
  | d, 0, L0, ws, _, h, _, _, _, _, _ => by omega
  | d, m + 1, [], ws, hd, hm, h64, hps, _, _, _ => by
    rw [q_box_parts_2]
    exact ⟨[], by rw [List.append_nil]; rfl, Nat.zero_le _, .nil⟩
  | d, m + 1, c0 :: L, ws, hd, hm, h64, hps, hsrt, hsub, hclosed => by
    have hin : Ins X Y Z (c0 :: L) := fun c hc => hi c (hsub c hc)
    have hw0 := hin c0 (List.mem_cons_self ..)
    obtain ⟨_, k2, k3, _⟩ := idx_eq hs hw0
    have hb1 : (mask Y Z (c0 :: L) 0).getLsbD (idx Y Z c0) = true := by
      rw [mask_mem hs hin hw0]; simp
    have hb0 : ∀ j, j < idx Y Z c0 → (mask Y Z (c0 :: L) 0).getLsbD j = false := by
      intro j hj
      rw [mask_bit]
      have : ((c0 :: L).any fun c => decide (idx Y Z c = j)) = false := by
        rw [List.any_eq_false]
        intro c hc
        have hge : idx Y Z c0 ≤ idx Y Z c := by
          rcases List.mem_cons.1 hc with rfl | hc'
          · exact Nat.le_refl _
          · exact Nat.le_of_lt ((idx_lt hs hw0 (hin c hc)).2 ((List.pairwise_cons.1 hsrt).1 c hc'))
        simp only [decide_eq_true_eq]
        omega
      rw [this]
      simp
    have hne : (mask Y Z (c0 :: L) 0).toNat ≠ 0 := by
      intro hz
      unfold BitVec.getLsbD at hb1
      rw [hz, Nat.zero_testBit] at hb1
      cases hb1
    have hlow := low_bit _ (idx Y Z c0) (by omega) hb1 hb0
    have hset := setIs_mask hs hin
    have hs1 := setIs_one hs hw0
    obtain ⟨w, w1, w2, w3⟩ := f_grown hs hs1.1 hset.1
    rw [q_box_parts_2, decide_eq_false (p := ((mask Y Z (c0 :: L) 0).toNat : Int) = 0) (by omega), hlow]
    simp only [Bool.not_false, cond_true]
    rw [w1]
    simp only [Option.bind_some]
    rw [app_len8 (by rw [List.length_map]; omega), andNot64]
    simp only [cond_true]
    have hreach : ∀ c, bitP X Y Z w c ↔ Conn l c0 c := by
      intro c
      rw [w3]
      constructor
      · intro h
        refine Rch.mono (fun x hx => .base ?_) (fun x hx => ?_) h
        · have := hx.2
          rw [hs1.2 x hx.1] at this
          exact of_decide_eq_true this
        · have := hx.2
          rw [hset.2 x hx.1, decide_eq_true_eq] at this
          exact hsub x this
      · intro h
        have key : c ∈ c0 :: L ∧ Rch (bitP X Y Z (BitVec.twoPow 64 (idx Y Z c0))) (bitP X Y Z (mask Y Z (c0 :: L) 0)) c := by
          refine Rch.of (r := fun c => c ∈ c0 :: L ∧ Rch (bitP X Y Z (BitVec.twoPow 64 (idx Y Z c0))) (bitP X Y Z (mask Y Z (c0 :: L) 0)) c) (fun x hx => ?_) (fun x d hx hn hd => ?_) h
          · have hx' : x = c0 := hx
            subst hx'
            exact ⟨List.mem_cons_self .., .base ⟨hw0, by rw [hs1.2 _ hw0]; simp⟩⟩
          · have hdm := hclosed x hx.1 d hd hn
            refine ⟨hdm, .step hx.2 hn ⟨hin d hdm, ?_⟩⟩
            rw [hset.2 d (hin d hdm)]
            exact decide_eq_true hdm
        exact key.2
    have hlf : ∃ lf, Srt lf ∧ ∀ c, c ∈ lf ↔ c ∈ c0 :: L ∧ ¬ Conn l c0 c := by
      refine ⟨bitCells X Y Z (mask Y Z (c0 :: L) 0 &&& ~~~w), srt_listOf hs _, fun c => ?_⟩
      rw [mem_listOf hs, ← hreach]
      constructor
      · rintro ⟨hc, hb⟩
        have h64 := (idx_eq hs hc).2.1
        have hsz := size64 hs
        rw [BitVec.getLsbD_and, hset.2 c hc, BitVec.getLsbD_not, decide_eq_true (p := idx Y Z c < 64) (by omega), Bool.true_and, Bool.and_eq_true, decide_eq_true_eq, Bool.not_eq_true'] at hb
        refine ⟨hb.1, fun hh => ?_⟩
        have := hh.2
        rw [hb.2] at this
        cases this
      · rintro ⟨hc, hb⟩
        have hw' := hin c hc
        have h64 := (idx_eq hs hw').2.1
        have hsz := size64 hs
        refine ⟨hw', ?_⟩
        rw [BitVec.getLsbD_and, hset.2 c hw', BitVec.getLsbD_not, decide_eq_true (p := idx Y Z c < 64) (by omega), Bool.true_and, Bool.and_eq_true, decide_eq_true_eq, Bool.not_eq_true', ← Bool.not_eq_true]
        exact ⟨hc, fun hh => hb ⟨hw', hh⟩⟩
    obtain ⟨lf, s1, s2⟩ := hlf
    have hlfin : Ins X Y Z lf := fun c hc => hin c ((s2 c).1 hc).1
    have hmask : mask Y Z (c0 :: L) 0 &&& ~~~w = mask Y Z lf 0 := by
      refine SetIs.ext hs (g := fun c => decide (c ∈ lf)) ⟨fun i hi => by rw [BitVec.getLsbD_and, hset.1 i hi, Bool.false_and], fun c hc => ?_⟩ (setIs_mask hs hlfin)
      have h64 := (idx_eq hs hc).2.1
      have hsz := size64 hs
      rw [BitVec.getLsbD_and, hset.2 c hc, BitVec.getLsbD_not, decide_eq_true (p := idx Y Z c < 64) (by omega), Bool.true_and, Bool.eq_iff_iff, Bool.and_eq_true, decide_eq_true_eq, decide_eq_true_eq, s2, Bool.not_eq_true', ← Bool.not_eq_true]
      have := hreach c
      constructor
      · rintro ⟨a, b⟩
        exact ⟨a, fun hh => b (this.2 hh).2⟩
      · rintro ⟨a, b⟩
        exact ⟨a, fun hh => b (this.1 ⟨hc, hh⟩)⟩
    have hlen : lf.length < (c0 :: L).length := by
      have hsub : ∀ c ∈ lf, c ∈ (c0 :: L).filter fun x => !decide (x = c0) := fun c hc => by
        rw [List.mem_filter, Bool.not_eq_true', decide_eq_false_iff_not]
        exact ⟨((s2 c).1 hc).1, fun e => ((s2 c).1 hc).2 (.base e)⟩
      have h1 : lf.length ≤ L.length := by
        have hc0 : c0 ∉ L := fun h => by
          have := (List.pairwise_cons.1 hsrt).1 c0 h
          rw [ltC_irrefl] at this
          cases this
        have hLsub : ∀ c ∈ lf, c ∈ L := fun c hc => by
          have := List.mem_filter.1 (hsub c hc)
          rcases List.mem_cons.1 this.1 with e | h
          · have h2 := this.2
            rw [e] at h2
            simp at h2
          · exact h
        have hsrtL : Srt L := (List.pairwise_cons.1 hsrt).2
        have e : lf = L.filter fun x => decide (x ∈ lf) := srt_ext _ _ s1 (hsrtL.filter _) fun c => by
          rw [List.mem_filter, decide_eq_true_eq]
          exact ⟨fun hc => ⟨hLsub c hc, hc⟩, fun hc => hc.2⟩
        rw [e]
        exact List.length_filter_le _ _
      rw [List.length_cons]
      omega
    rw [hmask]
    have hmap : (ws.map fun w => ((w.toNat : Nat) : Int)) ++ ([((w.toNat : Nat) : Int)] : List Int) = (ws ++ [w]).map fun w => ((w.toNat : Nat) : Int) := by simp
    rw [hmap]
    obtain ⟨vs, r1, r2, r3⟩ := parts_walkx hs hi (d - 1) m lf (ws ++ [w]) (by omega) (by omega) (by omega) (by simp; omega) s1 (fun c hc => hsub c ((s2 c).1 hc).1) (fun c hc d hd hn => by
      obtain ⟨hcL, hnc⟩ := (s2 c).1 hc
      exact (s2 d).2 ⟨hclosed c hcL d hd hn, fun hcd => hnc (.step hcd (nb_symm hn) (hsub c hcL))⟩)
    rw [List.length_cons] at hd
    exact ⟨w :: vs, by rw [r1, List.append_assoc]; rfl, by rw [List.length_cons]; omega, .cons (srt_listOf hs w) (fun c => by rw [mem_listOf hs]; exact hreach c) s1 s2 r3⟩

theorem l_pox {X Y Z : Int} {l : List D_A3} (hs : sides X Y Z = true) (ws : List (BitVec 64)) (hw : ws.length ≤ 100) : ∀ (d k m : Nat) (out : List (List D_A3)), ws.length = k + d → d < m → out.length ≤ k →
    l_impl_PartsOf_5 m X Y Z l out (ws.map fun w => ((w.toNat : Nat) : Int)) ((ws.map fun w => ((w.toNat : Nat) : Int)).length : Int) (k : Int) = some (out ++ (ws.drop k).map (bitCells X Y Z), true, ())
  | d, k, 0, out, _, h, _ => by omega
  | d, k, m + 1, out, hk, hm, ho => by
    rw [q_impl_PartsOf_5]
    by_cases hlt : k < ws.length
    · have hlt' : k < (ws.map fun w => ((w.toNat : Nat) : Int)).length := by simpa using hlt
      have e : nth ((.int .u64) : Ty) (ws.map fun w => ((w.toNat : Nat) : Int)) (k : Int) = ((ws[k].toNat : Nat) : Int) := by
        have := nthA (t := .int .u64) hlt'
        rw [this, List.getElem_map]
      rw [ltT hlt', inB_at hlt', e, f_Heap_box]
      simp only [cond_true, Option.bind_some]
      rw [f_box_list hs]
      simp only [Option.bind_some]
      rw [app_len' (by omega), succI k (by omega)]
      simp only [cond_true]
      rw [l_pox hs ws hw (d - 1) (k + 1) m (out ++ [bitCells X Y Z ws[k]]) (by omega) (by omega) (by simp; omega), drop_at ws k hlt, List.map_cons, List.append_assoc]
      rfl
    · have hlt' : ¬ k < (ws.map fun w => ((w.toNat : Nat) : Int)).length := by simpa using hlt
      rw [ltF hlt', List.drop_eq_nil_of_le (by omega)]
      simp

/-- Both tell the same parts. -/
theorem parts_both (h : D_Heap) (hl : Small h.2.2.2.1) (ho : okHeap h = true) : ∃ R : List (List D_A3), P_impl_PartsOf (h, ()) = some (R, true, ()) ∧ P_spec_PartsOf (h, ()) = some (R, true, ()) ∧ Pts h.2.2.2.1 h.2.2.2.1 R := by
  obtain ⟨hs, hi, hr⟩ := okHeap_iff.1 ho
  have h64 := srt_small64 hs hi hr
  have f3 : P_Heap_cubes (h, ()) = _ := f_Heap_cubes hs hl hi
  obtain ⟨vs, w1, w2, w3⟩ := parts_walkx hs hi h.2.2.2.1.length N h.2.2.2.1 [] (Nat.le_refl _) (by have := N_ge; omega) h64 (by simp; omega) hr (fun c hc => hc) (fun c hc d hd _ => hd)
  rw [List.nil_append] at w1
  have w1' : l_box_parts_2 N h.1 h.2.1 h.2.2.1 ((mask h.2.1 h.2.2.1 h.2.2.2.1 0).toNat : Int) [] = _ := w1
  have r1 := l_pox (l := h.2.2.2.1) hs vs (by omega) vs.length 0 N [] (by simp) (by have := N_ge; omega) (by simp)
  rw [List.drop_zero, List.nil_append] at r1
  obtain ⟨ps, g1, g2⟩ := f_partsx hs hi hr
  have g1' : P_spec_l2Parts (h, ()) = _ := g1
  have e := g2.uniq w3
  subst e
  refine ⟨vs.map (bitCells h.1 h.2.1 h.2.2.1), ?_, ?_, w3⟩
  · rw [p_impl_PartsOf, f_impl_IsHeap _ hl, ho, f_Heap_box, f3]
    simp only [Option.bind_some, Bool.not_true, cond_false]
    rw [p_box_parts]
    simp only
    rw [w1']
    simp only [Option.bind_some]
    exact r1
  · rw [p_spec_PartsOf, f_spec_l2Heap _ hl, ho]
    simp only [Option.bind_some, Bool.not_true, cond_false]
    rw [g1']
    rfl

theorem parts_not (h : D_Heap) (hl : Small h.2.2.2.1) (ho : okHeap h = false) : P_impl_PartsOf (h, ()) = some ([], false, ()) ∧ P_spec_PartsOf (h, ()) = some ([], false, ()) := by
  constructor
  · rw [p_impl_PartsOf, f_impl_IsHeap _ hl, ho]; rfl
  · rw [p_spec_PartsOf, f_spec_l2Heap _ hl, ho]; rfl
end Go.VI
/- Plain: acts that lead back. -/
namespace Go.VI
open Go.Proofs

theorem sorted_ex {X Y Z : Int} (hs : sides X Y Z = true) (k : List D_A3) (hk : Ins X Y Z k) : ∃ l', Srt l' ∧ Ins X Y Z l' ∧ ∀ x, x ∈ l' ↔ x ∈ k := by
  refine ⟨bitCells X Y Z (mask Y Z k 0), srt_listOf hs _, ?_, ?_⟩
  · intro c hc
    exact ((mem_listOf hs _ c).1 hc).1
  · intro c
    rw [mem_listOf hs]
    constructor
    · rintro ⟨w1, w2⟩
      rw [mask_mem hs hk w1] at w2
      simpa using w2
    · intro hc
      have w1 := hk c hc
      refine ⟨w1, ?_⟩
      rw [mask_mem hs hk w1]
      exact decide_eq_true hc

theorem some_bool {α : Type} {r : α × Bool × Unit} {x : α} (e : some (x, false, ()) = some r) (hr : r.2.1 = true) : False := by
  rw [← Option.some.inj e] at hr
  cases hr

/-! ### Put and take -/
theorem put_ok {h : D_Heap} {c : D_A3} (hl : Small h.2.2.2.1) {r : D_Heap × Bool × Unit} (e : P_impl_PutCube (h, c, ()) = some r) (hr : r.2.1 = true) : okHeap h = true ∧ within3 h.1 h.2.1 h.2.2.1 c = true ∧ c ∉ h.2.2.2.1 := by
  rw [p_impl_PutCube, p_impl_isCell, f_impl_IsHeap _ hl] at e
  cases ho : okHeap h with
  | false => rw [ho] at e; exact (some_bool e hr).elim
  | true =>
    obtain ⟨hs, hi, hr'⟩ := okHeap_iff.1 ho
    rw [ho, f_Heap_box] at e
    simp only [Option.bind_some, cond_true] at e
    rw [f_box_has _ _ hs] at e
    simp only [Option.bind_some] at e
    cases hw : within3 h.1 h.2.1 h.2.2.1 c with
    | false => rw [hw] at e; exact (some_bool e hr).elim
    | true =>
      have f2 : P_Heap_hasCube (h, c, ()) = some (decide (c ∈ h.2.2.2.1), ()) := f_hasCube hs hl hi hw
      rw [hw, f2] at e
      simp only [Bool.not_true, cond_false, Option.bind_some] at e
      by_cases hm : c ∈ h.2.2.2.1
      · rw [decide_eq_true hm] at e
        exact (some_bool e hr).elim
      · exact ⟨rfl, rfl, hm⟩

theorem put_is {h : D_Heap} {c : D_A3} (hl : Small h.2.2.2.1) (ho : okHeap h = true) (hw : within3 h.1 h.2.1 h.2.2.1 c = true) (hm : c ∉ h.2.2.2.1) {l' : List D_A3} (g2 : Srt l') (g3 : ∀ x, x ∈ l' ↔ x = c ∨ x ∈ h.2.2.2.1) : P_impl_PutCube (h, c, ()) = some ((h.1, h.2.1, h.2.2.1, l', ()), true, ()) := by
  obtain ⟨hs, hi, hr⟩ := okHeap_iff.1 ho
  rw [p_impl_PutCube, p_impl_isCell, f_impl_IsHeap _ hl, ho, f_Heap_box]
  simp only [Option.bind_some, cond_true]
  rw [f_box_has _ _ hs, hw]
  simp only [Option.bind_some]
  have f2 : P_Heap_hasCube (h, c, ()) = some (decide (c ∈ h.2.2.2.1), ()) := f_hasCube hs hl hi hw
  rw [f2, decide_eq_false hm]
  simp only [Bool.not_true, cond_false, Option.bind_some]
  have f3 : P_Heap_cubes (h, ()) = _ := f_Heap_cubes hs hl hi
  rw [f3, f_box_index hs hw]
  simp only [Option.bind_some]
  have hins : Ins h.1 h.2.1 h.2.2.1 (h.2.2.2.1 ++ [c]) := fun x hx => by
    rcases List.mem_append.1 hx with hx | hx
    · exact hi x hx
    · rw [List.mem_singleton.1 hx]; exact hw
  rw [decide_eq_true (p := (0 : Int) ≤ (idx h.2.1 h.2.2.1 c : Int)) (by omega), shl64, or64]
  have e : mask h.2.1 h.2.2.1 h.2.2.2.1 0 ||| BitVec.twoPow 64 (idx h.2.1 h.2.2.1 c) = mask h.2.1 h.2.2.1 (h.2.2.2.1 ++ [c]) 0 := by rw [mask_append]; rfl
  rw [e, heap_is hs (setIs_mask hs hins) g2 (fun x => by
    rw [g3, decide_eq_true_eq, List.mem_append, List.mem_singleton]
    constructor
    · rintro (rfl | hx)
      · exact ⟨hw, .inr rfl⟩
      · exact ⟨hi x hx, .inl hx⟩
    · rintro ⟨_, hx | hx⟩
      · exact .inr hx
      · exact .inl hx)]
  rfl

theorem take_ok {h : D_Heap} {c : D_A3} (hl : Small h.2.2.2.1) {r : D_Heap × Bool × Unit} (e : P_impl_TakeCube (h, c, ()) = some r) (hr : r.2.1 = true) : okHeap h = true ∧ within3 h.1 h.2.1 h.2.2.1 c = true ∧ c ∈ h.2.2.2.1 := by
  rw [p_impl_TakeCube, p_impl_isCell, f_impl_IsHeap _ hl] at e
  cases ho : okHeap h with
  | false => rw [ho] at e; exact (some_bool e hr).elim
  | true =>
    obtain ⟨hs, hi, hr'⟩ := okHeap_iff.1 ho
    rw [ho, f_Heap_box] at e
    simp only [Option.bind_some, cond_true] at e
    rw [f_box_has _ _ hs] at e
    simp only [Option.bind_some] at e
    cases hw : within3 h.1 h.2.1 h.2.2.1 c with
    | false => rw [hw] at e; exact (some_bool e hr).elim
    | true =>
      have f2 : P_Heap_hasCube (h, c, ()) = some (decide (c ∈ h.2.2.2.1), ()) := f_hasCube hs hl hi hw
      rw [hw, f2] at e
      simp only [Bool.not_true, cond_false, Option.bind_some] at e
      by_cases hm : c ∈ h.2.2.2.1
      · exact ⟨rfl, rfl, hm⟩
      · rw [decide_eq_false hm] at e
        exact (some_bool e hr).elim

theorem take_is {h : D_Heap} {c : D_A3} (hl : Small h.2.2.2.1) (ho : okHeap h = true) (hw : within3 h.1 h.2.1 h.2.2.1 c = true) (hm : c ∈ h.2.2.2.1) {l' : List D_A3} (g2 : Srt l') (g3 : ∀ x, x ∈ l' ↔ x ∈ h.2.2.2.1 ∧ x ≠ c) : P_impl_TakeCube (h, c, ()) = some ((h.1, h.2.1, h.2.2.1, l', ()), true, ()) := by
  obtain ⟨hs, hi, hr⟩ := okHeap_iff.1 ho
  rw [p_impl_TakeCube, p_impl_isCell, f_impl_IsHeap _ hl, ho, f_Heap_box]
  simp only [Option.bind_some, cond_true]
  rw [f_box_has _ _ hs, hw]
  simp only [Option.bind_some]
  have f2 : P_Heap_hasCube (h, c, ()) = some (decide (c ∈ h.2.2.2.1), ()) := f_hasCube hs hl hi hw
  rw [f2, decide_eq_true hm]
  simp only [Bool.not_true, cond_false, Option.bind_some]
  have f3 : P_Heap_cubes (h, ()) = _ := f_Heap_cubes hs hl hi
  rw [f3, f_box_index hs hw]
  simp only [Option.bind_some]
  rw [decide_eq_true (p := (0 : Int) ≤ (idx h.2.1 h.2.2.1 c : Int)) (by omega), shl64, andNot64]
  rw [heap_is hs (setIs_less hs hi hw) g2 (fun x => by
    rw [g3, Bool.and_eq_true, decide_eq_true_eq, Bool.not_eq_true', decide_eq_false_iff_not]
    constructor
    · rintro ⟨a, b⟩; exact ⟨hi x a, a, b⟩
    · rintro ⟨_, a, b⟩; exact ⟨a, b⟩)]
  rfl

theorem put_back {h : D_Heap} {c : D_A3} (hl : Small h.2.2.2.1) {r : D_Heap × Bool × Unit} (e : P_impl_PutCube (h, c, ()) = some r) (hr : r.2.1 = true) : P_impl_TakeCube (r.1, c, ()) = some (h, true, ()) := by
  obtain ⟨ho, hw, hm⟩ := put_ok hl e hr
  obtain ⟨hs, hi, hso⟩ := okHeap_iff.1 ho
  obtain ⟨l', s1, s2, s3⟩ := sorted_ex hs (c :: h.2.2.2.1) (fun x hx => by
    rcases List.mem_cons.1 hx with rfl | hx
    · exact hw
    · exact hi x hx)
  have s3' : ∀ x, x ∈ l' ↔ x = c ∨ x ∈ h.2.2.2.1 := fun x => by rw [s3, List.mem_cons]
  rw [put_is hl ho hw hm s1 s3'] at e
  rw [← Option.some.inj e]
  have ho' : okHeap ((h.1, h.2.1, h.2.2.1, l', ()) : D_Heap) = true := okHeap_iff.2 ⟨hs, s2, s1⟩
  exact take_is (h := (h.1, h.2.1, h.2.2.1, l', ())) (small64 (srt_small64 hs s2 s1)) ho' hw ((s3' c).2 (.inl rfl)) hso (fun x => by
    show x ∈ h.2.2.2.1 ↔ x ∈ l' ∧ x ≠ c
    rw [s3']
    constructor
    · intro hx
      exact ⟨.inr hx, fun hc => hm (hc ▸ hx)⟩
    · rintro ⟨hx | hx, hn⟩
      · exact absurd hx hn
      · exact hx)

theorem take_back {h : D_Heap} {c : D_A3} (hl : Small h.2.2.2.1) {r : D_Heap × Bool × Unit} (e : P_impl_TakeCube (h, c, ()) = some r) (hr : r.2.1 = true) : P_impl_PutCube (r.1, c, ()) = some (h, true, ()) := by
  obtain ⟨ho, hw, hm⟩ := take_ok hl e hr
  obtain ⟨hs, hi, hso⟩ := okHeap_iff.1 ho
  have s1 : Srt (h.2.2.2.1.filter fun x => !decide (x = c)) := hso.filter _
  have s2 : Ins h.1 h.2.1 h.2.2.1 (h.2.2.2.1.filter fun x => !decide (x = c)) := hi.filter _
  have s3 : ∀ x, x ∈ (h.2.2.2.1.filter fun x => !decide (x = c)) ↔ x ∈ h.2.2.2.1 ∧ x ≠ c := fun x => by
    rw [List.mem_filter, Bool.not_eq_true', decide_eq_false_iff_not]
  rw [take_is hl ho hw hm s1 s3] at e
  rw [← Option.some.inj e]
  have ho' : okHeap ((h.1, h.2.1, h.2.2.1, (h.2.2.2.1.filter fun x => !decide (x = c)), ()) : D_Heap) = true := okHeap_iff.2 ⟨hs, s2, s1⟩
  exact put_is (h := (h.1, h.2.1, h.2.2.1, (h.2.2.2.1.filter fun x => !decide (x = c)), ())) (small64 (srt_small64 hs s2 s1)) ho' hw (fun hc => ((s3 c).1 hc).2 rfl) hso (fun x => by
    show x ∈ h.2.2.2.1 ↔ x = c ∨ x ∈ (h.2.2.2.1.filter fun x => !decide (x = c))
    rw [s3]
    constructor
    · intro hx
      by_cases hc : x = c
      · exact .inl hc
      · exact .inr ⟨hx, hc⟩
    · rintro (rfl | ⟨hx, _⟩)
      · exact hm
      · exact hx)

/-! ### Other cells -/
theorem other_is {h : D_Heap} (hl : Small h.2.2.2.1) (ho : okHeap h = true) {l' : List D_A3} (g2 : Srt l') (g3 : ∀ x, x ∈ l' ↔ within3 h.1 h.2.1 h.2.2.1 x = true ∧ x ∉ h.2.2.2.1) : P_impl_OtherCells (h, ()) = some ((h.1, h.2.1, h.2.2.1, l', ()), true, ()) := by
  obtain ⟨hs, hi, hr⟩ := okHeap_iff.1 ho
  have f3 : P_Heap_cubes (h, ()) = _ := f_Heap_cubes hs hl hi
  rw [p_impl_OtherCells, f_impl_IsHeap _ hl, ho, f_Heap_box]
  simp only [Option.bind_some, Bool.not_true, cond_false]
  rw [f_box_full hs, f3]
  simp only [Option.bind_some]
  rw [andNot64, heap_is hs (setIs_other hs hi) g2 (fun x => by rw [g3, Bool.not_eq_true', decide_eq_false_iff_not])]
  rfl

/-! ### Mirrored ones -/
/-! ### Exchanged sides -/
end Go.VI
