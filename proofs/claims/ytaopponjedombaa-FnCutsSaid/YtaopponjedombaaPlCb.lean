/- Plain: pieces behind cuts, as the program finds them. -/
import Derived.Test.YtaopponjedombaaPlM
import Derived.Test.YtaopponjedombaaPlO
namespace Go.VI
open Go.Proofs

/-- The lowest bit. -/
theorem low_bit (v : BitVec 64) (i : Nat) (hi : i < 64) (h1 : v.getLsbD i = true) (h0 : ∀ j, j < i → v.getLsbD j = false) : intBits .and .u64 (v.toNat : Int) (IntKind.wrap .u64 (0 - (v.toNat : Int))) = ((BitVec.twoPow 64 i).toNat : Int) := by
  have hlt := v.isLt
  have hpos : 0 < v.toNat := by
    apply Nat.pos_of_ne_zero
    intro hz
    have : v.getLsbD i = false := by
      unfold BitVec.getLsbD
      rw [hz, Nat.zero_testBit]
    rw [this] at h1
    cases h1
  have hw : IntKind.wrap .u64 (0 - (v.toNat : Int)) = ((BitVec.ofNat 64 (2 ^ 64 - v.toNat)).toNat : Int) := by
    rw [wu64, BitVec.toNat_ofNat, Nat.mod_eq_of_lt (by omega)]
    omega
  rw [hw, and64]
  congr 2
  have hmod : v.toNat % 2 ^ i = 0 := by
    apply Nat.eq_of_testBit_eq
    intro j
    rw [Nat.testBit_mod_two_pow, Nat.zero_testBit]
    by_cases hj : j < i
    · have := h0 j hj
      unfold BitVec.getLsbD at this
      rw [this, Bool.and_false]
    · rw [decide_eq_false hj, Bool.false_and]
  have hodd : v.toNat / 2 ^ i % 2 = 1 := by
    have h := h1
    unfold BitVec.getLsbD at h
    rw [Nat.testBit_eq_decide_div_mod_eq] at h
    exact of_decide_eq_true h
  obtain ⟨q, hq⟩ : ∃ q, v.toNat / 2 ^ i = 2 * q + 1 := ⟨v.toNat / 2 ^ i / 2, by omega⟩
  have hv : v.toNat = 2 ^ i * (2 * q + 1) + 0 := by
    have := Nat.div_add_mod v.toNat (2 ^ i)
    rw [hmod, hq] at this
    exact this.symm
  have h2i : 0 < 2 ^ i := Nat.two_pow_pos i
  have hx : v.toNat - 1 = 2 ^ i * (2 * q) + (2 ^ i - 1) := by
    rw [hv, Nat.mul_add, Nat.mul_one]
    omega
  apply BitVec.eq_of_getLsbD_eq
  intro j hj
  rw [BitVec.getLsbD_and, BitVec.getLsbD_twoPow, BitVec.getLsbD_ofNat]
  have e1 : 2 ^ 64 - v.toNat = 2 ^ 64 - (v.toNat - 1 + 1) := by omega
  rw [e1, Nat.testBit_two_pow_sub_succ (by omega), hx, Nat.testBit_two_pow_mul_add _ (by omega)]
  by_cases c : j < i
  · rw [h0 j c, decide_eq_false (p := i = j) (by omega), Bool.false_and, Bool.and_false]
  · have hvb : v.getLsbD j = (2 * q + 1).testBit (j - i) := by
      unfold BitVec.getLsbD
      rw [hv, Nat.testBit_two_pow_mul_add _ h2i, if_neg c]
    rw [hvb, if_neg c, decide_eq_true hj]
    by_cases e : i = j
    · subst e
      simp
      exact hj
    · obtain ⟨k, hk⟩ : ∃ k, j - i = k + 1 := ⟨j - i - 1, by omega⟩
      rw [hk, Nat.testBit_succ, Nat.testBit_succ, decide_eq_false e, show (2 * q + 1) / 2 = q by omega, show 2 * q / 2 = q by omega]
      cases q.testBit k <;> simp

theorem setIs_one {X Y Z : Int} (hs : sides X Y Z = true) {c0 : D_A3} (hc : within3 X Y Z c0 = true) : SetIs X Y Z (BitVec.twoPow 64 (idx Y Z c0)) (fun c => decide (c = c0)) := by
  obtain ⟨_, h2, h3, _⟩ := idx_eq hs hc
  refine ⟨fun i hi => ?_, fun c hw => ?_⟩
  · rw [BitVec.getLsbD_twoPow, decide_eq_false (p := idx Y Z c0 = i) (by omega), Bool.and_false]
  · have h4 := (idx_eq hs hw).2.1
    rw [BitVec.getLsbD_twoPow]
    show _ = decide (c = c0)
    by_cases e : c = c0
    · rw [e, decide_eq_true (p := c0 = c0) rfl, decide_eq_true (p := idx Y Z c0 = idx Y Z c0) rfl, decide_eq_true (p := idx Y Z c0 < 64) (by omega)]
      rfl
    · rw [decide_eq_false e, decide_eq_false (p := idx Y Z c0 = idx Y Z c) (fun h => e (idx_inj hs hw hc h.symm)), Bool.and_false]

theorem setIs_and {X Y Z : Int} {v w : BitVec 64} {f g : D_A3 → Bool} (hv : SetIs X Y Z v f) (hw : SetIs X Y Z w g) : SetIs X Y Z (v &&& w) (fun c => f c && g c) :=
  ⟨fun i hi => by rw [BitVec.getLsbD_and, hv.1 i hi, Bool.false_and], fun c hc => by rw [BitVec.getLsbD_and, hv.2 c hc, hw.2 c hc]⟩

theorem l_i14 {X Y Z : Int} {cuts : List D_A2} (hdr : Dirs cuts) (hcl : cuts.length ≤ 1000) (hs : sides X Y Z = true) (c0 : D_A3) (f : D_A3 → Bool) (ps : List (List D_A3)) (p8 p9 : Int) (m0 : Nat) : ∀ (d k m : Nat) (v : BitVec 64), cuts.length = k + d → d < m → SetIs X Y Z v (fun c => f c && same (cuts.take k) c c0) →
    ∃ u : BitVec 64, SetIs X Y Z u (fun c => f c && same cuts c c0) ∧ l_impl_PiecesAfter_14 m0 m X Y Z c0.1 c0.2.1 c0.2.2.1 cuts ps p8 p9 (v.toNat : Int) cuts (cuts.length : Int) (k : Int) =
      Option.bind (P_box_grown ((X, (Y, (Z, ()))), p9, (u.toNat : Int), ())) fun r1 =>
      Option.bind (P_box_list ((X, (Y, (Z, ()))), r1.1, ())) fun r2 =>
      bif (decide (((List.length ps) + (List.length ([r2.1] : List (List D_A3)))) * 24 ≤ 140737488355328) && decide (((List.length ps) + (List.length ([r2.1] : List (List D_A3)))) ≤ 140737488355328)) then
        l_impl_PiecesAfter_10 m0 X Y Z cuts (ps ++ ([r2.1] : List (List D_A3))) (intBits .andNot .u64 p8 r1.1)
      else none
  | d, k, 0, v, _, h, _ => by omega
  | d, k, m + 1, v, hk, hm, hv => by
    rw [q_impl_PiecesAfter_14]
    by_cases hlt : k < cuts.length
    · have hdk := hdr _ (List.getElem_mem hlt)
      obtain ⟨r, e1, e2⟩ := f_those hs (g := fun c => decide (get3 c cuts[k].1 < cuts[k].2.1) == decide (get3 c0 cuts[k].1 < cuts[k].2.1)) (F := fun (y : D_A3 × Unit) => P_impl_PiecesAfter_1 (y.1, cuts[k], (c0.1, (c0.2.1, (c0.2.2.1, ()))), ())) (fun c hc => by
        show P_impl_PiecesAfter_1 (c, cuts[k], (c0.1, (c0.2.1, (c0.2.2.1, ()))), ()) = _
        rw [p_impl_PiecesAfter_1, inB_dir hdk.1 hdk.2]
        rfl)
      rw [ltT hlt, inB_at hlt, nthA (t := T_A2) hlt, e1, succI k (by omega)]
      simp only [cond_true, Option.bind_some]
      rw [and64]
      refine l_i14 hdr hcl hs c0 f ps p8 p9 m0 (d - 1) (k + 1) m _ (by omega) (by omega) ?_
      have h := setIs_and hv e2
      refine ⟨h.1, fun c hc => ?_⟩
      rw [h.2 c hc]
      show ((f c && same (cuts.take k) c c0) && (decide (get3 c cuts[k].1 < cuts[k].2.1) == decide (get3 c0 cuts[k].1 < cuts[k].2.1))) = (f c && same (cuts.take (k + 1)) c c0)
      rw [Bool.and_assoc]
      congr 1
      unfold same
      rw [List.take_add_one, List.getElem?_eq_getElem hlt, List.all_append]
      simp
    · rw [ltF hlt]
      refine ⟨v, ?_, rfl⟩
      rw [List.take_of_length_le (by omega)] at hv
      exact hv

theorem step_impl {X Y Z : Int} {cuts : List D_A2} (hdr : Dirs cuts) (hcl : cuts.length ≤ 1000) {l : List D_A3} (hs : sides X Y Z = true) (hi : Ins X Y Z l) {c0 : D_A3} {L : List D_A3} (hr : Srt (c0 :: L)) (hsub : ∀ c ∈ c0 :: L, c ∈ l) (hclo : ∀ c ∈ c0 :: L, ∀ d ∈ l, nb c d → same cuts c d = true → d ∈ c0 :: L) (ps : List (List D_A3)) (hps : ps.length ≤ 1000) (m : Nat)
    {pt lf : List D_A3} (p1 : Srt pt) (p2 : ∀ c, c ∈ pt ↔ ConnS cuts l c0 c) (p4 : ∀ c, c ∈ lf ↔ c ∈ c0 :: L ∧ c ∉ pt) :
    l_impl_PiecesAfter_10 (m + 1) X Y Z cuts ps ((mask Y Z (c0 :: L) 0).toNat : Int) = l_impl_PiecesAfter_10 m X Y Z cuts (ps ++ [pt]) ((mask Y Z lf 0).toNat : Int) := by
  have hin : Ins X Y Z (c0 :: L) := fun c hc => hi c (hsub c hc)
  have hw0 := hin c0 (List.mem_cons_self ..)
  obtain ⟨_, k2, k3, _⟩ := idx_eq hs hw0
  have hb1 : (mask Y Z (c0 :: L) 0).getLsbD (idx Y Z c0) = true := by
    rw [mask_mem hs hin hw0]; simp
  have hb0 : ∀ j, j < idx Y Z c0 → (mask Y Z (c0 :: L) 0).getLsbD j = false := by
    intro j hj
    rw [mask_bit]
    have : ((c0 :: L).any fun c => decide (idx Y Z c = j)) = false := by
      rw [List.any_eq_false]
      intro c hc
      have hge : idx Y Z c0 ≤ idx Y Z c := by
        rcases List.mem_cons.1 hc with rfl | hc'
        · exact Nat.le_refl _
        · exact Nat.le_of_lt ((idx_lt hs hw0 (hin c hc)).2 ((List.pairwise_cons.1 hr).1 c hc'))
      simp only [decide_eq_true_eq]
      omega
    rw [this]
    simp
  have hne : (mask Y Z (c0 :: L) 0).toNat ≠ 0 := by
    intro hz
    unfold BitVec.getLsbD at hb1
    rw [hz, Nat.zero_testBit] at hb1
    cases hb1
  have hlow := low_bit _ (idx Y Z c0) (by omega) hb1 hb0
  have hone : bitCells X Y Z (BitVec.twoPow 64 (idx Y Z c0)) = [c0] := (setIs_one hs hw0).cells hs (List.pairwise_singleton _ _) (fun c => by
    rw [List.mem_singleton, decide_eq_true_eq]
    constructor
    · rintro rfl; exact ⟨hw0, rfl⟩
    · rintro ⟨_, h⟩; exact h)
  rw [q_impl_PiecesAfter_10, decide_eq_false (p := ((mask Y Z (c0 :: L) 0).toNat : Int) = 0) (by omega), hlow]
  simp only [Bool.not_false, cond_true]
  rw [f_box_list hs, hone]
  simp only [Option.bind_some]
  have n0 : nth T_A3 ([c0] : List D_A3) 0 = c0 := rfl
  have i0 : inB 0 ([c0] : List D_A3).length = true := rfl
  rw [i0, n0]
  simp only [cond_true]
  have hset := setIs_mask hs hin
  obtain ⟨u, u1, u2⟩ := l_i14 (X := X) (Y := Y) (Z := Z) hdr hcl hs c0 (fun c => decide (c ∈ c0 :: L)) ps ((mask Y Z (c0 :: L) 0).toNat : Int) ((BitVec.twoPow 64 (idx Y Z c0)).toNat : Int) m cuts.length 0 N (mask Y Z (c0 :: L) 0) (by simp) (by have := N_ge; omega) ⟨hset.1, fun c hc => by rw [hset.2 c hc]; simp [same]⟩
  have u2' : l_impl_PiecesAfter_14 m N X Y Z c0.1 c0.2.1 c0.2.2.1 cuts ps ((mask Y Z (c0 :: L) 0).toNat : Int) ((BitVec.twoPow 64 (idx Y Z c0)).toNat : Int) ((mask Y Z (c0 :: L) 0).toNat : Int) cuts (cuts.length : Int) 0 = _ := u2
  rw [u2']
  have hs1 := setIs_one hs hw0
  obtain ⟨w, w1, w2, w3⟩ := f_grown hs hs1.1 u1.1
  rw [w1]
  simp only [Option.bind_some]
  have hreach : ∀ c, bitP X Y Z w c ↔ ConnS cuts l c0 c := by
    intro c
    rw [w3]
    constructor
    · intro h
      refine Rch.mono (fun x hx => .base ?_) (fun x hx => ?_) h
      · have := hx.2
        rw [hs1.2 x hx.1] at this
        exact of_decide_eq_true this
      · have := hx.2
        rw [u1.2 x hx.1, Bool.and_eq_true, decide_eq_true_eq] at this
        exact ⟨hsub x this.1, same_symm this.2⟩
    · intro h
      have key : c ∈ c0 :: L ∧ same cuts c0 c = true ∧ Rch (bitP X Y Z (BitVec.twoPow 64 (idx Y Z c0))) (bitP X Y Z u) c := by
        refine Rch.of (r := fun c => c ∈ c0 :: L ∧ same cuts c0 c = true ∧ Rch (bitP X Y Z (BitVec.twoPow 64 (idx Y Z c0))) (bitP X Y Z u) c) (fun x hx => ?_) (fun x d hx hn hd => ?_) h
        · have hx' : x = c0 := hx
          subst hx'
          exact ⟨List.mem_cons_self .., same_refl _ _, .base ⟨hw0, by rw [hs1.2 _ hw0]; simp⟩⟩
        · have hsm : same cuts x d = true := same_trans (same_symm hx.2.1) hd.2
          have hdm := hclo x hx.1 d hd.1 hn hsm
          refine ⟨hdm, hd.2, .step hx.2.2 hn ⟨hin d hdm, ?_⟩⟩
          rw [u1.2 d (hin d hdm), Bool.and_eq_true, decide_eq_true_eq]
          exact ⟨hdm, same_symm hd.2⟩
      exact key.2.2
  have hpt : bitCells X Y Z w = pt := srt_ext _ _ (srt_listOf hs w) p1 fun c => by
    rw [mem_listOf hs, p2]
    exact hreach c
  rw [f_box_list hs, hpt]
  simp only [Option.bind_some]
  rw [app_len' (by omega), andNot64]
  simp only [cond_true]
  have hmask : mask Y Z (c0 :: L) 0 &&& ~~~w = mask Y Z lf 0 := by
    have hlfin : Ins X Y Z lf := fun c hc => hin c ((p4 c).1 hc).1
    refine SetIs.ext hs (g := fun c => decide (c ∈ lf)) ⟨fun i hi => by rw [BitVec.getLsbD_and, hset.1 i hi, Bool.false_and], fun c hc => ?_⟩ (setIs_mask hs hlfin)
    have h64 := (idx_eq hs hc).2.1
    have hsz := size64 hs
    rw [BitVec.getLsbD_and, hset.2 c hc, BitVec.getLsbD_not, decide_eq_true (p := idx Y Z c < 64) (by omega), Bool.true_and, Bool.eq_iff_iff, Bool.and_eq_true, decide_eq_true_eq, decide_eq_true_eq, p4, Bool.not_eq_true', ← Bool.not_eq_true]
    have := hreach c
    rw [← p2] at this
    constructor
    · rintro ⟨a, b⟩
      exact ⟨a, fun hh => b (this.2 hh).2⟩
    · rintro ⟨a, b⟩
      exact ⟨a, fun hh => b (this.1 ⟨hc, hh⟩)⟩
  rw [hmask]

/-- Some pieces are told; the cells of L0 are left. -/
structure PiecesI (cuts : List D_A2) (l L0 : List D_A3) (ps : List (List D_A3)) : Prop where
  srt : Srt L0
  sub : ∀ c ∈ L0, c ∈ l
  closed : ∀ c ∈ L0, ∀ d ∈ l, nb c d → same cuts c d = true → d ∈ L0
  good : ∀ p ∈ ps, Srt p ∧ ∃ c0 ∈ l, ∀ c, c ∈ p ↔ ConnS cuts l c0 c
  cover : ∀ c ∈ l, c ∈ L0 ∨ ∃ p ∈ ps, c ∈ p
  tot : (ps.map List.length).sum + L0.length = l.length

theorem walk_both {X Y Z : Int} {cuts : List D_A2} (hdr : Dirs cuts) (hcl : cuts.length ≤ 1000) {l : List D_A3} (hs : sides X Y Z = true) (hi : Ins X Y Z l) : ∀ (d m m' : Nat) (L0 : List D_A3) (ps : List (List D_A3)), L0.length ≤ d → d < m → d < m' → d ≤ 64 → ps.length + d ≤ 100 → PiecesI cuts l L0 ps →
    ∃ ps', l_spec_l11Pieces_2 m X Y Z l X Y Z L0 cuts ps = some (ps', ()) ∧ l_impl_PiecesAfter_10 m' X Y Z cuts ps ((mask Y Z L0 0).toNat : Int) = some (ps', true, ()) ∧ PiecesI cuts l [] ps' ∧ ps'.length ≤ 100
  | d, 0, m', L0, ps, _, h, _, _, _, _ => by omega
  | d, m + 1, 0, L0, ps, _, _, h, _, _, _ => by omega
  | d, m + 1, m' + 1, [], ps, hd, hm, hm', h64, hps, hI => by
    rw [q_spec_l11Pieces_2, q_impl_PiecesAfter_10]
    exact ⟨ps, rfl, rfl, hI, by omega⟩
  | d, m + 1, m' + 1, c0 :: L, ps, hd, hm, hm', h64, hps, hI => by
    have hlen : (c0 :: L).length ≤ 64 := by omega
    obtain ⟨pt, lf, e1, e2, e3, e4, e5, e6⟩ := step_spec hdr hcl hs hi hI.srt hI.sub hI.closed hlen ps (by omega) m
    have e7 := step_impl hdr hcl hs hi hI.srt hI.sub hI.closed ps (by omega) m' e2 e3 e5
    have hc0 : c0 ∈ pt := (e3 c0).2 (.base rfl)
    have hpos : 0 < pt.length := List.length_pos_of_mem hc0
    rw [e1, e7]
    refine walk_both hdr hcl hs hi (d - 1) m m' lf (ps ++ [pt]) (by omega) (by omega) (by omega) (by omega) (by simp; omega) ⟨e4, fun c hc => hI.sub c ((e5 c).1 hc).1, fun c hc d hd hn hsm => ?_, fun p hp => ?_, fun c hc => ?_, ?_⟩
    · have hcL := ((e5 c).1 hc).1
      have hdL := hI.closed c hcL d hd hn hsm
      refine (e5 d).2 ⟨hdL, fun hdp => ((e5 c).1 hc).2 ((e3 c).2 ?_)⟩
      have hcd := (e3 d).1 hdp
      exact .step hcd (nb_symm hn) ⟨hI.sub c hcL, same_trans hcd.same (same_symm hsm)⟩
    · rcases List.mem_append.1 hp with hp | hp
      · exact hI.good p hp
      · rw [List.mem_singleton.1 hp]
        exact ⟨e2, c0, hI.sub c0 (List.mem_cons_self ..), e3⟩
    · rcases hI.cover c hc with h | ⟨p, hp, h⟩
      · by_cases hcp : c ∈ pt
        · exact .inr ⟨pt, by simp, hcp⟩
        · exact .inl ((e5 c).2 ⟨h, hcp⟩)
      · exact .inr ⟨p, List.mem_append_left _ hp, h⟩
    · have := hI.tot
      rw [List.map_append, List.sum_append]
      simp only [List.map_cons, List.map_nil, List.sum_cons, List.sum_nil]
      omega

def okCuts (X Y Z : Int) (cuts : List D_A2) : Bool := cuts.all fun t => isCut X Y Z t.1 t.2.1

theorem okCuts_dirs {X Y Z : Int} {cuts : List D_A2} (h : okCuts X Y Z cuts = true) : Dirs cuts := fun t ht => by
  have := isCut_iff.1 (List.all_eq_true.1 h t ht)
  exact ⟨this.1, this.2.1⟩

theorem l_vi {X Y Z : Int} {l : List D_A3} (hs : sides X Y Z = true) {cuts : List D_A2} (hcl : cuts.length ≤ 1000) : ∀ (d k m : Nat), cuts.length = k + d → d < m → l_impl_PiecesAfter_4 m X Y Z l cuts cuts (cuts.length : Int) (k : Int) = if okCuts X Y Z (cuts.drop k) = true then (Option.bind (P_Heap_cubes ((X, (Y, (Z, (l, ())))), ())) fun r2 => l_impl_PiecesAfter_10 N X Y Z cuts ([] : List (List D_A3)) r2.1) else some ([], false, ())
  | d, k, 0, _, h => by omega
  | d, k, m + 1, hk, hm => by
    rw [q_impl_PiecesAfter_4]
    by_cases hlt : k < cuts.length
    · rw [ltT hlt, inB_at hlt, nthA (t := T_A2) hlt, f_isCut l hs, succI k (by omega), l_vi hs hcl (d - 1) (k + 1) m (by omega) (by omega), drop_at cuts k hlt]
      simp only [cond_true, Option.bind_some]
      have e : okCuts X Y Z (cuts[k] :: cuts.drop (k + 1)) = (isCut X Y Z cuts[k].1 cuts[k].2.1 && okCuts X Y Z (cuts.drop (k + 1))) := rfl
      rw [e]
      cases isCut X Y Z cuts[k].1 cuts[k].2.1 <;> simp
    · rw [ltF hlt, List.drop_eq_nil_of_le (by omega), f_Heap_box]
      simp [okCuts]

theorem l_vs {X Y Z : Int} {l : List D_A3} (hl : Small l) (ho : okHeap (X, Y, Z, l, ()) = true) {cuts : List D_A2} (hcl : cuts.length ≤ 1000) : ∀ (d k m : Nat), cuts.length = k + d → d < m → l_spec_PiecesAfter_4 m X Y Z l cuts (k : Int) = if okCuts X Y Z (cuts.drop k) = true then (Option.bind (P_spec_l11Pieces ((X, (Y, (Z, (l, ())))), cuts, ())) fun r1 => some (r1.1, true, ())) else some ([], false, ())
  | d, k, 0, _, h => by omega
  | d, k, m + 1, hk, hm => by
    rw [q_spec_PiecesAfter_4]
    by_cases hlt : k < cuts.length
    · have e0 := f_l11Cut ((X, (Y, (Z, (l, ())))) : D_Heap) hl cuts[k].1 cuts[k].2.1
      rw [ltT hlt, inB_at hlt, nthA (t := T_A2) hlt, e0, ho, succI k (by omega), l_vs hl ho hcl (d - 1) (k + 1) m (by omega) (by omega), drop_at cuts k hlt]
      simp only [cond_true, Option.bind_some, Bool.true_and]
      have e : okCuts X Y Z (cuts[k] :: cuts.drop (k + 1)) = (isCut X Y Z cuts[k].1 cuts[k].2.1 && okCuts X Y Z (cuts.drop (k + 1))) := rfl
      rw [e]
      cases isCut X Y Z cuts[k].1 cuts[k].2.1 <;> simp
    · rw [ltF hlt, List.drop_eq_nil_of_le (by omega)]
      simp [okCuts]

theorem pieces_full (h : D_Heap) (cuts : List D_A2) (hl : Small h.2.2.2.1) : ∃ (ps : List (List D_A3)) (b : Bool), P_spec_PiecesAfter (h, cuts, ()) = some (ps, b, ()) ∧ P_impl_PiecesAfter (h, cuts, ()) = some (ps, b, ()) ∧ b = (okHeap h && (decide (cuts.length ≤ 12) && okCuts h.1 h.2.1 h.2.2.1 cuts)) ∧ (b = true → PiecesI cuts h.2.2.2.1 [] ps) ∧ ps.length ≤ 100 ∧ (b = false → ps = []) := by
  rw [p_spec_PiecesAfter, p_impl_PiecesAfter, f_spec_l2Heap _ hl, f_impl_IsHeap _ hl]
  cases ho : okHeap h with
  | false => exact ⟨[], false, rfl, rfl, rfl, (fun hh => by cases hh), by simp, fun _ => rfl⟩
  | true =>
    obtain ⟨hs, hi, hr⟩ := okHeap_iff.1 ho
    simp only [Option.bind_some, Bool.not_true, cond_false, Bool.true_and]
    by_cases hc : cuts.length ≤ 12
    · rw [decide_eq_false (p := (cuts.length : Int) > 12) (by omega), decide_eq_true hc]
      simp only [cond_false, Bool.true_and]
      have h1 := l_vs (X := h.1) (Y := h.2.1) (Z := h.2.2.1) hl ho (cuts := cuts) (by omega) cuts.length 0 N (by simp) (by have := N_ge; omega)
      have h2 := l_vi (X := h.1) (Y := h.2.1) (Z := h.2.2.1) (l := h.2.2.2.1) hs (cuts := cuts) (by omega) cuts.length 0 N (by simp) (by have := N_ge; omega)
      have h1' : l_spec_PiecesAfter_4 N h.1 h.2.1 h.2.2.1 h.2.2.2.1 cuts 0 = _ := h1
      have h2' : l_impl_PiecesAfter_4 N h.1 h.2.1 h.2.2.1 h.2.2.2.1 cuts cuts (cuts.length : Int) 0 = _ := h2
      rw [h1', h2', List.drop_zero]
      cases hk : okCuts h.1 h.2.1 h.2.2.1 cuts with
      | false => exact ⟨[], false, rfl, rfl, rfl, (fun hh => by cases hh), by simp, fun _ => rfl⟩
      | true =>
        have h64 := srt_small64 hs hi hr
        have hI : PiecesI cuts h.2.2.2.1 h.2.2.2.1 [] := ⟨hr, fun c hc => hc, fun c hc d hd _ _ => hd, (fun p hp => by cases hp), fun c hc => .inl hc, by simp⟩
        obtain ⟨ps, w1, w2, w3, w4⟩ := walk_both (okCuts_dirs hk) (by omega) hs hi h.2.2.2.1.length N N h.2.2.2.1 [] (Nat.le_refl _) (by have := N_ge; omega) (by have := N_ge; omega) h64 (by simp; omega) hI
        have f3 : P_Heap_cubes ((h.1, (h.2.1, (h.2.2.1, (h.2.2.2.1, ())))), ()) = _ := f_Heap_cubes hs hl hi
        have fo : P_spec_l2Own ((h.1, (h.2.1, (h.2.2.1, (h.2.2.2.1, ())))), ()) = _ := f_l2Own (X := h.1) (Y := h.2.1) (Z := h.2.2.1) (l := h.2.2.2.1) (by omega)
        simp only [if_true]
        rw [f3, p_spec_l11Pieces, fo]
        simp only [Option.bind_some]
        rw [w1, w2]
        exact ⟨ps, true, rfl, rfl, rfl, fun _ => w3, w4, fun hh => by cases hh⟩
    · rw [decide_eq_true (p := (cuts.length : Int) > 12) (by omega), decide_eq_false hc]
      exact ⟨[], false, rfl, rfl, rfl, (fun hh => by cases hh), by simp, fun _ => rfl⟩
end Go.VI
/- Plain: how many pieces and parts there are. -/
namespace Go.VI
open Go.Proofs

/-! ### Lists of lists -/
theorem l_rCellsC (l : List D_A3) (hl : Small l) : ∀ (d k m : Nat), l.length = k + d → d < m → l_laws_rCells_4 m l l (k : Int) = some (true, ())
  | d, k, 0, hk, hm => by omega
  | d, k, m + 1, hk, hm => by
    have hl' := hl
    unfold Small at hl'
    rw [q_laws_rCells_4]
    by_cases hlt : k < l.length
    · rw [ltT hlt, inB_at hlt, succI k (by omega), l_rCellsC l hl (d - 1) (k + 1) m (by omega) (by omega)]
      simp
    · rw [ltF hlt]; rfl

theorem f_rCellsC (l : List D_A3) (hl : Small l) : P_laws_rCells (l, l, ()) = some (true, ()) := by
  have := l_rCellsC l hl l.length 0 N (by simp) (by unfold Small at hl; have := N_ge; omega)
  rw [p_laws_rCells, decide_eq_true rfl]
  exact this

theorem f_rHeapC (h : D_Heap) (hl : Small h.2.2.2.1) : P_laws_rHeap (h, h, ()) = some (true, ()) := by
  rw [p_laws_rHeap, f_rCellsC h.2.2.2.1 hl]
  simp

theorem l_rLists (ps : List (List D_A3)) (h1 : ps.length ≤ 1000) (h2 : ∀ p ∈ ps, Small p) : ∀ (d k m : Nat), ps.length = k + d → d < m → l_laws_rLists_4 m ps ps (k : Int) = some (true, ())
  | d, k, 0, hk, hm => by omega
  | d, k, m + 1, hk, hm => by
    rw [q_laws_rLists_4]
    by_cases hlt : k < ps.length
    · have e : nth ((.sl T_A3) : Ty) ps (k : Int) = ps[k] := nthA (t := .sl T_A3) hlt
      rw [ltT hlt, inB_at hlt, e, f_rCellsC _ (h2 _ (List.getElem_mem hlt)), succI k (by omega)]
      simp only [cond_true, Option.bind_some, Bool.not_true, cond_false]
      exact l_rLists ps h1 h2 (d - 1) (k + 1) m (by omega) (by omega)
    · rw [ltF hlt]; rfl

theorem f_rLists (ps : List (List D_A3)) (h1 : ps.length ≤ 1000) (h2 : ∀ p ∈ ps, Small p) : P_laws_rLists (ps, ps, ()) = some (true, ()) := by
  rw [p_laws_rLists, decide_eq_true rfl]
  exact l_rLists ps h1 h2 ps.length 0 N (by simp) (by have := N_ge; omega)

theorem sum_drop (ps : List (List D_A3)) (k : Nat) (hlt : k < ps.length) : ((ps.drop k).map List.length).sum = ps[k].length + ((ps.drop (k + 1)).map List.length).sum := by
  rw [drop_at ps k hlt, List.map_cons, List.sum_cons]

theorem l_rAll (ps : List (List D_A3)) (h1 : ps.length ≤ 1000) : ∀ (d k m : Nat) (v : Nat), ps.length = k + d → d < m → v + ((ps.drop k).map List.length).sum ≤ 1000000 → l_laws_rAll_3 m ps (v : Int) (k : Int) = some (((v + ((ps.drop k).map List.length).sum : Nat) : Int), ())
  | d, k, 0, v, hk, hm, hv => by omega
  | d, k, m + 1, v, hk, hm, hv => by
    rw [q_laws_rAll_3]
    by_cases hlt : k < ps.length
    · have e : nth ((.sl T_A3) : Ty) ps (k : Int) = ps[k] := nthA (t := .sl T_A3) hlt
      have hs := sum_drop ps k hlt
      rw [ltT hlt, inB_at hlt, e, w64 (by omega) (by omega), succI k (by omega)]
      simp only [cond_true]
      have := l_rAll ps h1 (d - 1) (k + 1) m (v + ps[k].length) (by omega) (by omega) (by omega)
      rw [← Int.natCast_add, this, hs, Nat.add_assoc]
    · rw [ltF hlt, List.drop_eq_nil_of_le (by omega)]
      simp

theorem f_rAll (ps : List (List D_A3)) (h1 : ps.length ≤ 1000) (h2 : (ps.map List.length).sum ≤ 1000000) : P_laws_rAll (ps, ()) = some ((((ps.map List.length).sum : Nat) : Int), ()) := by
  have := l_rAll ps h1 ps.length 0 N 0 (by simp) (by have := N_ge; omega) (by simpa using h2)
  rw [p_laws_rAll]
  simpa using this

/-! ### Heads of parts -/
theorem one_of {H : List D_A3} (hn : H.Nodup) (he : ∀ h ∈ H, ∀ h' ∈ H, h = h') : H.length ≤ 1 := by
  match H, hn, he with
  | [], _, _ => simp
  | [_], _, _ => simp
  | a :: b :: r, hn, he =>
    have := he a (by simp) b (by simp)
    rw [List.nodup_cons] at hn
    exact absurd (by simp [this]) hn.1

theorem filter_split {α : Type} (p : α → Bool) : ∀ l : List α, l.length = (l.filter p).length + (l.filter fun x => !p x).length
  | [] => rfl
  | a :: r => by
    have := filter_split p r
    rw [List.filter_cons, List.filter_cons]
    cases p a <;> simp <;> omega

open Classical in
theorem heads_le : ∀ (P : List (List D_A3)) (H : List D_A3), H.Nodup → (∀ h ∈ H, ∃ p ∈ P, h ∈ p) → (∀ p ∈ P, ∀ h ∈ H, ∀ h' ∈ H, h ∈ p → h' ∈ p → h = h') → H.length ≤ P.length
  | [], H, _, hc, _ => by
    match H, hc with
    | [], _ => simp
    | a :: r, hc =>
      obtain ⟨p, hp, _⟩ := hc a (by simp)
      cases hp
  | p :: P, H, hn, hc, ha => by
    have hsplit : H.length = (H.filter fun h => decide (h ∈ p)).length + (H.filter fun h => !decide (h ∈ p)).length := by
      exact filter_split (fun h => decide (h ∈ p)) H
    have h1 : (H.filter fun h => decide (h ∈ p)).length ≤ 1 := one_of (hn.filter _) fun a ha' b hb => by
      rw [List.mem_filter, decide_eq_true_eq] at ha' hb
      exact ha p (List.mem_cons_self ..) a ha'.1 b hb.1 ha'.2 hb.2
    have h2 := heads_le P (H.filter fun h => !decide (h ∈ p)) (hn.filter _) (fun h hh => by
      rw [List.mem_filter, Bool.not_eq_true', decide_eq_false_iff_not] at hh
      obtain ⟨q, hq, hm⟩ := hc h hh.1
      rcases List.mem_cons.1 hq with rfl | hq
      · exact absurd hm hh.2
      · exact ⟨q, hq, hm⟩) (fun q hq h hh h' hh' => ha q (List.mem_cons_of_mem _ hq) h (List.mem_filter.1 hh).1 h' (List.mem_filter.1 hh').1)
    rw [List.length_cons]
    omega

/-- Parts are told by their heads; the cells of L0 are left. -/
structure HeadsI (l L0 H : List D_A3) : Prop where
  srt : Srt L0
  sub : ∀ c ∈ L0, c ∈ l
  closed : ∀ c ∈ L0, ∀ d ∈ l, nb c d → d ∈ L0
  hmem : ∀ h ∈ H, h ∈ l
  nodup : H.Nodup
  apart : ∀ h ∈ H, ∀ h' ∈ H, Conn l h h' → h = h'
  left : ∀ h ∈ H, ∀ c ∈ L0, ¬ Conn l h c

theorem app_len8 {α : Type} {l : List α} {x : α} (h : l.length ≤ 100000000) : (decide ((l.length + ([x] : List α).length) * 8 ≤ 140737488355328) && decide (l.length + ([x] : List α).length ≤ 140737488355328)) = true := by
  rw [Bool.and_eq_true, decide_eq_true_eq, decide_eq_true_eq]
  simp only [List.length_singleton]
  omega

theorem parts_walk {X Y Z : Int} {l : List D_A3} (hs : sides X Y Z = true) (hi : Ins X Y Z l) : ∀ (d m : Nat) (L0 H : List D_A3) (ws : List (BitVec 64)), L0.length ≤ d → d < m → d ≤ 64 → ws.length + d ≤ 100 → ws.length = H.length → HeadsI l L0 H →
    ∃ (ws' : List (BitVec 64)) (H' : List D_A3), l_box_parts_2 m X Y Z ((mask Y Z L0 0).toNat : Int) (ws.map fun w => ((w.toNat : Nat) : Int)) = some (ws'.map (fun w => ((w.toNat : Nat) : Int)), ()) ∧ ws'.length = H'.length ∧ ws'.length ≤ 100 ∧ HeadsI l [] H'
  | d, 0, L0, H, ws, _, h, _, _, _, _ => by omega
  | d, m + 1, [], H, ws, hd, hm, h64, hps, hw, hI => by
    rw [q_box_parts_2]
    exact ⟨ws, H, rfl, hw, by omega, hI⟩
  | d, m + 1, c0 :: L, H, ws, hd, hm, h64, hps, hw, hI => by
    have hin : Ins X Y Z (c0 :: L) := fun c hc => hi c (hI.sub c hc)
    have hw0 := hin c0 (List.mem_cons_self ..)
    obtain ⟨_, k2, k3, _⟩ := idx_eq hs hw0
    have hb1 : (mask Y Z (c0 :: L) 0).getLsbD (idx Y Z c0) = true := by
      rw [mask_mem hs hin hw0]; simp
    have hb0 : ∀ j, j < idx Y Z c0 → (mask Y Z (c0 :: L) 0).getLsbD j = false := by
      intro j hj
      rw [mask_bit]
      have : ((c0 :: L).any fun c => decide (idx Y Z c = j)) = false := by
        rw [List.any_eq_false]
        intro c hc
        have hge : idx Y Z c0 ≤ idx Y Z c := by
          rcases List.mem_cons.1 hc with rfl | hc'
          · exact Nat.le_refl _
          · exact Nat.le_of_lt ((idx_lt hs hw0 (hin c hc)).2 ((List.pairwise_cons.1 hI.srt).1 c hc'))
        simp only [decide_eq_true_eq]
        omega
      rw [this]
      simp
    have hne : (mask Y Z (c0 :: L) 0).toNat ≠ 0 := by
      intro hz
      unfold BitVec.getLsbD at hb1
      rw [hz, Nat.zero_testBit] at hb1
      cases hb1
    have hlow := low_bit _ (idx Y Z c0) (by omega) hb1 hb0
    have hset := setIs_mask hs hin
    have hs1 := setIs_one hs hw0
    obtain ⟨w, w1, w2, w3⟩ := f_grown hs hs1.1 hset.1
    rw [q_box_parts_2, decide_eq_false (p := ((mask Y Z (c0 :: L) 0).toNat : Int) = 0) (by omega), hlow]
    simp only [Bool.not_false, cond_true]
    rw [w1]
    simp only [Option.bind_some]
    rw [app_len8 (by rw [List.length_map]; omega), andNot64]
    simp only [cond_true]
    have hreach : ∀ c, bitP X Y Z w c ↔ Conn l c0 c := by
      intro c
      rw [w3]
      constructor
      · intro h
        refine Rch.mono (fun x hx => .base ?_) (fun x hx => ?_) h
        · have := hx.2
          rw [hs1.2 x hx.1] at this
          exact of_decide_eq_true this
        · have := hx.2
          rw [hset.2 x hx.1, decide_eq_true_eq] at this
          exact hI.sub x this
      · intro h
        have key : c ∈ c0 :: L ∧ Rch (bitP X Y Z (BitVec.twoPow 64 (idx Y Z c0))) (bitP X Y Z (mask Y Z (c0 :: L) 0)) c := by
          refine Rch.of (r := fun c => c ∈ c0 :: L ∧ Rch (bitP X Y Z (BitVec.twoPow 64 (idx Y Z c0))) (bitP X Y Z (mask Y Z (c0 :: L) 0)) c) (fun x hx => ?_) (fun x d hx hn hd => ?_) h
          · have hx' : x = c0 := hx
            subst hx'
            exact ⟨List.mem_cons_self .., .base ⟨hw0, by rw [hs1.2 _ hw0]; simp⟩⟩
          · have hdm := hI.closed x hx.1 d hd hn
            refine ⟨hdm, .step hx.2 hn ⟨hin d hdm, ?_⟩⟩
            rw [hset.2 d (hin d hdm)]
            exact decide_eq_true hdm
        exact key.2
    have hlf : ∃ lf, Srt lf ∧ ∀ c, c ∈ lf ↔ c ∈ c0 :: L ∧ ¬ Conn l c0 c := by
      refine ⟨bitCells X Y Z (mask Y Z (c0 :: L) 0 &&& ~~~w), srt_listOf hs _, fun c => ?_⟩
      rw [mem_listOf hs, ← hreach]
      constructor
      · rintro ⟨hc, hb⟩
        have h64 := (idx_eq hs hc).2.1
        have hsz := size64 hs
        rw [BitVec.getLsbD_and, hset.2 c hc, BitVec.getLsbD_not, decide_eq_true (p := idx Y Z c < 64) (by omega), Bool.true_and, Bool.and_eq_true, decide_eq_true_eq, Bool.not_eq_true'] at hb
        refine ⟨hb.1, fun hh => ?_⟩
        have := hh.2
        rw [hb.2] at this
        cases this
      · rintro ⟨hc, hb⟩
        have hw' := hin c hc
        have h64 := (idx_eq hs hw').2.1
        have hsz := size64 hs
        refine ⟨hw', ?_⟩
        rw [BitVec.getLsbD_and, hset.2 c hw', BitVec.getLsbD_not, decide_eq_true (p := idx Y Z c < 64) (by omega), Bool.true_and, Bool.and_eq_true, decide_eq_true_eq, Bool.not_eq_true', ← Bool.not_eq_true]
        exact ⟨hc, fun hh => hb ⟨hw', hh⟩⟩
    obtain ⟨lf, s1, s2⟩ := hlf
    have hlfin : Ins X Y Z lf := fun c hc => hin c ((s2 c).1 hc).1
    have hmask : mask Y Z (c0 :: L) 0 &&& ~~~w = mask Y Z lf 0 := by
      refine SetIs.ext hs (g := fun c => decide (c ∈ lf)) ⟨fun i hi => by rw [BitVec.getLsbD_and, hset.1 i hi, Bool.false_and], fun c hc => ?_⟩ (setIs_mask hs hlfin)
      have h64 := (idx_eq hs hc).2.1
      have hsz := size64 hs
      rw [BitVec.getLsbD_and, hset.2 c hc, BitVec.getLsbD_not, decide_eq_true (p := idx Y Z c < 64) (by omega), Bool.true_and, Bool.eq_iff_iff, Bool.and_eq_true, decide_eq_true_eq, decide_eq_true_eq, s2, Bool.not_eq_true', ← Bool.not_eq_true]
      have := hreach c
      constructor
      · rintro ⟨a, b⟩
        exact ⟨a, fun hh => b (this.2 hh).2⟩
      · rintro ⟨a, b⟩
        exact ⟨a, fun hh => b (this.1 ⟨hc, hh⟩)⟩
    have hlen : lf.length < (c0 :: L).length := by
      have hsub : ∀ c ∈ lf, c ∈ (c0 :: L).filter fun x => !decide (x = c0) := fun c hc => by
        rw [List.mem_filter, Bool.not_eq_true', decide_eq_false_iff_not]
        exact ⟨((s2 c).1 hc).1, fun e => ((s2 c).1 hc).2 (.base e)⟩
      have h1 : lf.length ≤ L.length := by
        have hc0 : c0 ∉ L := fun h => by
          have := (List.pairwise_cons.1 hI.srt).1 c0 h
          rw [ltC_irrefl] at this
          cases this
        have hLsub : ∀ c ∈ lf, c ∈ L := fun c hc => by
          have := List.mem_filter.1 (hsub c hc)
          rcases List.mem_cons.1 this.1 with e | h
          · have h2 := this.2
            rw [e] at h2
            simp at h2
          · exact h
        have hsrtL : Srt L := (List.pairwise_cons.1 hI.srt).2
        have e : lf = L.filter fun x => decide (x ∈ lf) := srt_ext _ _ s1 (hsrtL.filter _) fun c => by
          rw [List.mem_filter, decide_eq_true_eq]
          exact ⟨fun hc => ⟨hLsub c hc, hc⟩, fun hc => hc.2⟩
        rw [e]
        exact List.length_filter_le _ _
      rw [List.length_cons]
      omega
    rw [hmask]
    have hmap : (ws.map fun w => ((w.toNat : Nat) : Int)) ++ ([((w.toNat : Nat) : Int)] : List Int) = (ws ++ [w]).map fun w => ((w.toNat : Nat) : Int) := by simp
    rw [hmap]
    have hc0l := hI.sub c0 (List.mem_cons_self ..)
    refine parts_walk hs hi (d - 1) m lf (H ++ [c0]) (ws ++ [w]) (by omega) (by omega) (by omega) (by simp; omega) (by simp [hw]) ⟨s1, fun c hc => hI.sub c ((s2 c).1 hc).1, fun c hc d hd hn => ?_, fun h hh => ?_, ?_, fun h hh h' hh' hcn => ?_, fun h hh c hc hcn => ?_⟩
    · obtain ⟨hcL, hnc⟩ := (s2 c).1 hc
      refine (s2 d).2 ⟨hI.closed c hcL d hd hn, fun hcd => hnc (.step hcd (nb_symm hn) (hI.sub c hcL))⟩
    · rcases List.mem_append.1 hh with hh | hh
      · exact hI.hmem h hh
      · rw [List.mem_singleton.1 hh]; exact hc0l
    · rw [List.nodup_append]
      exact ⟨hI.nodup, by simp, fun a ha b hb e => hI.left a ha c0 (List.mem_cons_self ..) (by rw [← List.mem_singleton.1 hb, ← e]; exact .base rfl)⟩
    · rcases List.mem_append.1 hh with hh | hh
      · rcases List.mem_append.1 hh' with hh' | hh'
        · exact hI.apart h hh h' hh' hcn
        · rw [List.mem_singleton.1 hh'] at hcn
          exact absurd hcn (hI.left h hh c0 (List.mem_cons_self ..))
      · rw [List.mem_singleton.1 hh] at hcn ⊢
        rcases List.mem_append.1 hh' with hh' | hh'
        · exact absurd (Conn.symm hc0l hcn) (hI.left h' hh' c0 (List.mem_cons_self ..))
        · exact (List.mem_singleton.1 hh').symm
    · rcases List.mem_append.1 hh with hh | hh
      · exact hI.left h hh c ((s2 c).1 hc).1 hcn
      · rw [List.mem_singleton.1 hh] at hcn
        exact ((s2 c).1 hc).2 hcn

theorem l_po {X Y Z : Int} {l : List D_A3} (hs : sides X Y Z = true) (ws : List (BitVec 64)) (hw : ws.length ≤ 100) : ∀ (d k m : Nat) (out : List (List D_A3)), ws.length = k + d → d < m → out.length ≤ k →
    ∃ out', l_impl_PartsOf_5 m X Y Z l out (ws.map fun w => ((w.toNat : Nat) : Int)) ((ws.map fun w => ((w.toNat : Nat) : Int)).length : Int) (k : Int) = some (out', true, ()) ∧ out'.length = out.length + d
  | d, k, 0, out, _, h, _ => by omega
  | d, k, m + 1, out, hk, hm, ho => by
    rw [q_impl_PartsOf_5]
    by_cases hlt : k < ws.length
    · have hlt' : k < (ws.map fun w => ((w.toNat : Nat) : Int)).length := by simpa using hlt
      have e : nth ((.int .u64) : Ty) (ws.map fun w => ((w.toNat : Nat) : Int)) (k : Int) = ((ws[k].toNat : Nat) : Int) := by
        have := nthA (t := .int .u64) hlt'
        rw [this, List.getElem_map]
      rw [ltT hlt', inB_at hlt', e, f_Heap_box]
      simp only [cond_true, Option.bind_some]
      rw [f_box_list hs]
      simp only [Option.bind_some]
      rw [app_len' (by omega), succI k (by omega)]
      simp only [cond_true]
      obtain ⟨out', k1, k2⟩ := l_po hs ws hw (d - 1) (k + 1) m (out ++ [bitCells X Y Z ws[k]]) (by omega) (by omega) (by simp; omega)
      refine ⟨out', k1, ?_⟩
      rw [k2, List.length_append, List.length_singleton]
      omega
    · have hlt' : ¬ k < (ws.map fun w => ((w.toNat : Nat) : Int)).length := by simpa using hlt
      rw [ltF hlt']
      exact ⟨out, rfl, by omega⟩

theorem parts_full (h : D_Heap) (hl : Small h.2.2.2.1) (ho : okHeap h = true) : ∃ (R : List (List D_A3)) (H : List D_A3), P_impl_PartsOf (h, ()) = some (R, true, ()) ∧ R.length = H.length ∧ HeadsI h.2.2.2.1 [] H := by
  obtain ⟨hs, hi, hr⟩ := okHeap_iff.1 ho
  have h64 := srt_small64 hs hi hr
  have f3 : P_Heap_cubes (h, ()) = _ := f_Heap_cubes hs hl hi
  obtain ⟨ws, H, w1, w2, w3, w4⟩ := parts_walk hs hi h.2.2.2.1.length N h.2.2.2.1 [] [] (Nat.le_refl _) (by have := N_ge; omega) h64 (by simp; omega) rfl ⟨hr, fun c hc => hc, fun c hc d hd _ => hd, (fun h hh => by cases hh), by simp, (fun h hh => by cases hh), fun h hh => by cases hh⟩
  have w1' : l_box_parts_2 N h.1 h.2.1 h.2.2.1 ((mask h.2.1 h.2.2.1 h.2.2.2.1 0).toNat : Int) [] = _ := w1
  obtain ⟨R, r1, r2⟩ := l_po (l := h.2.2.2.1) hs ws w3 ws.length 0 N [] (by simp) (by have := N_ge; omega) (by simp)
  rw [p_impl_PartsOf, f_impl_IsHeap _ hl, ho, f_Heap_box, f3]
  simp only [Option.bind_some, Bool.not_true, cond_false]
  rw [p_box_parts]
  simp only
  rw [w1']
  simp only [Option.bind_some]
  exact ⟨R, H, r1, by rw [r2, ← w2]; simp, w4⟩

theorem parts_le {cuts : List D_A2} {l H : List D_A3} {ps : List (List D_A3)} (hP : PiecesI cuts l [] ps) (hH : HeadsI l [] H) : H.length ≤ ps.length := by
  refine heads_le ps H hH.nodup (fun h hh => ?_) (fun p hp h hh h' hh' h1 h2 => ?_)
  · rcases hP.cover h (hH.hmem h hh) with hc | hc
    · cases hc
    · exact hc
  · obtain ⟨_, c0, hc0, hm⟩ := hP.good p hp
    have k1 := ((hm h).1 h1).conn
    have k2 := ((hm h').1 h2).conn
    exact hH.apart h hh h' hh' (Conn.trans (Conn.symm hc0 k1) k2)
end Go.VI
/- Plain: the draws of numbers, cells and heaps give something. -/
namespace Go.VI
open Go.Proofs

/-- Bytes to draw from. -/
def Bts (C : List Int) : Prop := C.length ≤ 1000000 ∧ ∀ b ∈ C, 0 ≤ b ∧ b ≤ 255
abbrev Sd : Type := Int × Int × Unit
/-- A place from which n more bytes can be drawn. -/
def At (n : Nat) (s : Sd) : Prop := 0 ≤ s.1 ∧ s.1 + n ≤ 1000000000

theorem At.le {n m : Nat} {s : Sd} (h : At n s) (hm : m ≤ n) : At m s := ⟨h.1, by have := h.2; omega⟩

theorem and255 (a : Int) : 0 ≤ intBits .and .u64 a 255 ∧ intBits .and .u64 a 255 ≤ 255 := by
  have h : ((BitVec.ofInt 64 a) &&& (BitVec.ofInt 64 255)).toNat ≤ 255 := by
    rw [BitVec.toNat_and]
    exact Nat.le_trans Nat.and_le_right (by decide)
  have e : intBits .and .u64 a 255 = (((BitVec.ofInt 64 a) &&& (BitVec.ofInt 64 255)).toNat : Int) := by
    simp only [intBits]
    rw [show IntKind.bits .u64 = 64 from rfl, wu64]
    omega
  rw [e]
  omega

theorem nth_byte {C : List Int} (hC : Bts C) {i : Int} (h0 : 0 ≤ i) (h1 : i < C.length) : 0 ≤ nth ((.int .u8) : Ty) C i ∧ nth ((.int .u8) : Ty) C i ≤ 255 := by
  have hlt : i.toNat < C.length := by omega
  have e : nth ((.int .u8) : Ty) C i = C[i.toNat] := by simp [nth, List.getD, List.getElem?_eq_getElem hlt]
  rw [e]
  exact hC.2 _ (List.getElem_mem hlt)

theorem f_next {C : List Int} (hC : Bts C) {n : Nat} {s : Sd} (h : At (n + 1) s) : ∃ (x : Int) (s' : Sd), P_l1Cur_next ((C, s), ()) = some ((x, ()), ((C, s'), ())) ∧ At n s' ∧ 0 ≤ x ∧ x ≤ 255 := by
  obtain ⟨a, sd, ⟨⟩⟩ := s
  obtain ⟨h0, h1⟩ := h
  simp only at h0 h1
  rw [p_l1Cur_next]
  simp only
  rw [w64 (x := a + 1) (by omega) (by omega)]
  have hat : ∀ z : Int, At n (a + 1, z, ()) := fun z => ⟨by simp only; omega, by simp only; omega⟩
  by_cases c : a < (C.length : Int)
  · obtain ⟨b0, b1⟩ := nth_byte hC h0 c
    rw [decide_eq_true c, show inB a C.length = true by simp [inB]; omega, decide_eq_true (p := a + 1 ≤ (C.length : Int)) (by omega), w64 (x := nth ((.int .u8) : Ty) C a) (Int.le_trans (by decide) b0) (Int.le_trans b1 (by decide))]
    exact ⟨_, _, rfl, hat _, b0, b1⟩
  · rw [decide_eq_false c, decide_eq_false (p := a + 1 ≤ (C.length : Int)) (by omega)]
    simp only [cond_false]
    generalize hz : intBits .and .u64 _ 255 = z
    have hb : 0 ≤ z ∧ z ≤ 255 := by rw [← hz]; exact and255 _
    rw [w64 (x := z) (by omega) (by omega)]
    exact ⟨_, _, rfl, hat _, hb.1, hb.2⟩

theorem f_pick {C : List Int} (hC : Bts C) {n : Nat} {s : Sd} (h : At (n + 2) s) (k : Int) : ∃ (x : Int) (s' : Sd), P_l1Cur_pick ((C, s), k, ()) = some ((x, ()), ((C, s'), ())) ∧ At n s' ∧ 0 ≤ x ∧ (x < k ∨ (k ≤ 1 ∧ x = 0)) := by
  rw [p_l1Cur_pick]
  by_cases c : k ≤ 1
  · rw [decide_eq_true c]
    exact ⟨_, _, rfl, h.le (by omega), Int.le_refl _, .inr ⟨c, rfl⟩⟩
  · obtain ⟨x, s1, e1, a1, b1, b2⟩ := f_next hC h
    rw [decide_eq_false c, e1]
    simp only [cond_false, Option.bind_some]
    by_cases d : k > 200
    · obtain ⟨y, s2, e2, a2, c1, c2⟩ := f_next hC a1
      rw [decide_eq_true d, e2]
      simp only [cond_true, Option.bind_some]
      rw [decide_eq_false (p := k = 0) (by omega), w64 (x := x * 256) (by omega) (by omega), w64 (x := x * 256 + y) (by omega) (by omega)]
      exact ⟨_, _, rfl, a2, Int.tmod_nonneg _ (by omega), .inl (Int.tmod_lt_of_pos _ (by omega))⟩
    · rw [decide_eq_false d, decide_eq_false (p := k = 0) (by omega)]
      exact ⟨_, _, rfl, a1.le (by omega), Int.tmod_nonneg _ (by omega), .inl (Int.tmod_lt_of_pos _ (by omega))⟩

theorem f_one {C : List Int} (hC : Bts C) {n : Nat} {s : Sd} (h : At (n + 2) s) (k : Int) : ∃ (b : Bool) (s' : Sd), P_l1Cur_one ((C, s), k, ()) = some ((b, ()), ((C, s'), ())) ∧ At n s' := by
  obtain ⟨x, s1, e1, a1, _, _⟩ := f_pick hC h k
  rw [p_l1Cur_one, e1]
  exact ⟨_, _, rfl, a1⟩

theorem f_among {C : List Int} (hC : Bts C) {n : Nat} {s : Sd} (h : At (n + 2) s) (l : List Int) (hl : 0 < l.length) : ∃ (x : Int) (s' : Sd), P_l1Cur_among ((C, s), l, ()) = some ((x, ()), ((C, s'), ())) ∧ At n s' ∧ x ∈ l := by
  obtain ⟨x, s1, e1, a1, b1, b2⟩ := f_pick hC h (l.length : Int)
  rw [p_l1Cur_among, e1]
  simp only [Option.bind_some]
  have hx : x < (l.length : Int) := by omega
  rw [show inB x l.length = true by simp [inB]; omega]
  have hlt : x.toNat < l.length := by omega
  have e : nth ((.int .i64) : Ty) l x = l[x.toNat] := by simp [nth, List.getD, List.getElem?_eq_getElem hlt]
  rw [e]
  exact ⟨_, _, rfl, a1, List.getElem_mem hlt⟩

theorem f_sides {C : List Int} (hC : Bts C) {n : Nat} {s : Sd} (h : At (n + 10) s) : ∃ (x y z : Int) (s' : Sd), P_l1Cur_sides ((C, s), ()) = some ((x, y, z, ()), ((C, s'), ())) ∧ At n s' := by
  obtain ⟨x, s1, e1, a1, _⟩ := f_among hC (n := n + 8) h [2, 3, 3, 1, 4] (by decide)
  obtain ⟨y, s2, e2, a2, _⟩ := f_among hC (n := n + 6) a1 [2, 3, 2, 1, 4] (by decide)
  obtain ⟨z, s3, e3, a3, _⟩ := f_among hC (n := n + 4) a2 [2, 3, 3, 1, 4] (by decide)
  obtain ⟨p, s4, e4, a4, _⟩ := f_pick hC (n := n + 2) a3 60
  obtain ⟨x', s5, e5, a5, _⟩ := f_among hC (n := n) a4 [0, 5, (-1), 4611686018427387904] (by decide)
  obtain ⟨y', s6, e6, a6, _⟩ := f_among hC (n := n) a4 [0, 5, (-1)] (by decide)
  rw [p_l1Cur_sides, e1]
  simp only [Option.bind_some]
  rw [e2]
  simp only [Option.bind_some]
  rw [e3]
  simp only [Option.bind_some]
  rw [e4]
  simp only [Option.bind_some]
  rw [e5, e6]
  simp only [Option.bind_some]
  by_cases c0 : p = 0
  · rw [decide_eq_true c0]; exact ⟨_, _, _, _, rfl, a5⟩
  · rw [decide_eq_false c0]
    by_cases c1 : p = 1
    · rw [decide_eq_true c1]; exact ⟨_, _, _, _, rfl, a6⟩
    · rw [decide_eq_false c1]
      by_cases c2 : p = 2
      · rw [decide_eq_true c2]; exact ⟨_, _, _, _, rfl, a6⟩
      · rw [decide_eq_false c2]; exact ⟨_, _, _, _, rfl, a4.le (by omega)⟩

theorem f_least (a b : Int) : ∃ x, P_spec_l1Least (a, b, ()) = some (x, ()) := by
  rw [p_spec_l1Least]
  cases decide (a < b) <;> exact ⟨_, rfl⟩
theorem f_most (a b : Int) : ∃ x, P_spec_l1Most (a, b, ()) = some (x, ()) := by
  rw [p_spec_l1Most]
  cases decide (a > b) <;> exact ⟨_, rfl⟩

theorem f_direction {C : List Int} (hC : Bts C) {n : Nat} {s : Sd} (h : At (n + 4) s) : ∃ (x : Int) (s' : Sd), P_l1Cur_direction ((C, s), ()) = some ((x, ()), ((C, s'), ())) ∧ At n s' := by
  obtain ⟨b, s1, e1, a1⟩ := f_one hC (n := n + 2) h 30
  rw [p_l1Cur_direction, e1]
  simp only [Option.bind_some]
  cases b with
  | false =>
    obtain ⟨p, s2, e2, a2, _⟩ := f_pick hC (n := n) a1 3
    rw [e2]
    exact ⟨_, _, rfl, a2⟩
  | true =>
    obtain ⟨p, s2, e2, a2, _⟩ := f_among hC (n := n) a1 [(-1), 3, 4611686018427387904] (by decide)
    rw [e2]
    exact ⟨_, _, rfl, a2⟩

/-! ### Heaps -/
theorem other_len (h : D_Heap) (hl : Small h.2.2.2.1) : ∃ r, P_spec_OtherCells (h, ()) = some r ∧ r.1.2.2.2.1.length ≤ 64 := by
  rw [p_spec_OtherCells, f_spec_l2Heap _ hl]
  cases ho : okHeap h with
  | false => exact ⟨_, rfl, by simp⟩
  | true =>
    obtain ⟨hs, hi, hr⟩ := okHeap_iff.1 ho
    obtain ⟨a1, a2, a3⟩ := allCells_ok hs
    have f0 : P_spec_l2All (h, ()) = _ := f_l2All h.2.2.2.1 hs
    simp only [Option.bind_some, Bool.not_true, cond_false]
    rw [p_spec_l2Empty, f0]
    simp only [Option.bind_some]
    have e := l_other (X := h.1) (Y := h.2.1) (Z := h.2.2.1) (X' := h.1) (Y' := h.2.1) (Z' := h.2.2.1) hl a1 (allCells h.1 h.2.1 h.2.2.1).length 0 N [] (by simp) (by unfold Small at a1; have := N_ge; omega) (by simp)
    have e' : l_spec_OtherCells_5 N h.1 h.2.1 h.2.2.1 h.2.2.2.1 0 0 0 [] h.1 h.2.1 h.2.2.1 [] (allCells h.1 h.2.1 h.2.2.1) 0 = _ := e
    rw [e']
    exact ⟨_, rfl, show ((allCells h.1 h.2.1 h.2.2.1).filter fun x => !decide (x ∈ h.2.2.2.1)).length ≤ 64 from Nat.le_trans (List.length_filter_le _ _) (srt_small64 hs a2 a3)⟩

theorem stack_len {X Y Z : Int} (hs : sides X Y Z = true) {V : List Int} (hV : V.length = (X * Y).toNat) : ∃ r, P_spec_l2Stack (X, Y, Z, V, ()) = some r ∧ r.1.2.2.2.1.length ≤ 64 := by
  obtain ⟨a1, a2, a3⟩ := allCells_ok hs
  rw [p_spec_l2Stack, p_spec_l2Empty]
  simp only [Option.bind_some]
  rw [f_l2All [] hs]
  simp only [Option.bind_some]
  have e := l_stackS (X' := X) (Y' := Y) (Z' := Z) hs hV a1 a2 (allCells X Y Z).length 0 N [] (by simp) (by unfold Small at a1; have := N_ge; omega) (by simp)
  have e' : l_spec_l2Stack_4 N 0 0 0 [] X Y Z [] Y V (allCells X Y Z) 0 = _ := e
  rw [e']
  exact ⟨_, rfl, show ((allCells X Y Z).filter (lowC Y V)).length ≤ 64 from Nat.le_trans (List.length_filter_le _ _) (srt_small64 hs a2 a3)⟩

theorem l_some {C : List Int} (hC : Bts C) {X Y Z : Int} (hs : sides X Y Z = true) {al : List D_A3} (hal : al.length ≤ 64) (hin : Ins X Y Z al) (q0 q1 q2 : Int) (q3 : List D_A3) (odds : Int) : ∀ (d i m n : Nat) (s : Sd) (out : List D_A3), al.length = i + d → d < m → out.length ≤ i → Ins X Y Z out → At (n + 2 * d + 2) s →
    ∃ (g : D_Heap) (s' : Sd), l_l1Cur_someHeap_6 m q0 q1 q2 q3 X Y Z out C s.1 s.2.1 X Y Z odds al (i : Int) = some ((g, ()), ((C, s'), ())) ∧ At n s' ∧ g.2.2.2.1.length ≤ 64
  | d, i, 0, n, s, out, _, h, _, _, _ => by omega
  | d, i, m + 1, n, s, out, hk, hm, ho, hio, ha => by
    rw [q_l1Cur_someHeap_6]
    by_cases hlt : i < al.length
    · obtain ⟨b, s1, e1, a1⟩ := f_one hC (n := n + 2 * (d - 1) + 2) (s := s) (ha.le (by omega)) odds
      have e1' : P_l1Cur_one ((C, (s.1, (s.2.1, ()))), odds, ()) = _ := e1
      rw [ltT hlt, e1', succI i (by omega)]
      simp only [cond_true, Option.bind_some]
      cases b with
      | false => exact l_some hC hs hal hin q0 q1 q2 q3 odds (d - 1) (i + 1) m n s1 out (by omega) (by omega) (by omega) hio a1
      | true =>
        rw [inB_at hlt, nthA (t := T_A3) hlt, app_len' (l := out) (by omega)]
        simp only [cond_true]
        refine l_some hC hs hal hin q0 q1 q2 q3 odds (d - 1) (i + 1) m n s1 _ (by omega) (by omega) (by simp; omega) (fun c hc => ?_) a1
        rcases List.mem_append.1 hc with hc | hc
        · exact hio c hc
        · rw [List.mem_singleton.1 hc]; exact hin _ (List.getElem_mem hlt)
    · obtain ⟨p, s1, e1, a1, _⟩ := f_pick hC (n := n + 2 * d) (s := s) ha 12
      have e1' : P_l1Cur_pick ((C, (s.1, (s.2.1, ()))), 12, ()) = _ := e1
      have hso : Small out := by unfold Small; omega
      rw [ltF hlt, e1']
      simp only [cond_false, Option.bind_some]
      by_cases c0 : p = 0
      · obtain ⟨r, er, hr⟩ := other_len (X, Y, Z, out, ()) hso
        rw [decide_eq_true c0, er]
        exact ⟨_, _, rfl, a1.le (by omega), hr⟩
      · rw [decide_eq_false c0]
        by_cases c1 : p = 1
        · obtain ⟨r, er, hr⟩ := stack_len hs (cols_len X Y out)
          rw [decide_eq_true c1, p_spec_l2Heights, f_viewS hs hso hio]
          simp only [cond_true, cond_false, Option.bind_some]
          rw [er]
          exact ⟨_, _, rfl, a1.le (by omega), hr⟩
        · rw [decide_eq_false c1]
          exact ⟨_, _, rfl, a1.le (by omega), (by omega : out.length ≤ 64)⟩

theorem f_someHeap {C : List Int} (hC : Bts C) {n : Nat} {s : Sd} (h : At (n + 132) s) (X Y Z : Int) : ∃ (g : D_Heap) (s' : Sd), P_l1Cur_someHeap ((C, s), X, Y, Z, ()) = some ((g, ()), ((C, s'), ())) ∧ At n s' ∧ g.2.2.2.1.length ≤ 64 := by
  obtain ⟨o, s1, e1, a1, _⟩ := f_among hC (n := n + 130) h [2, 3, 2, 4] (by decide)
  rw [p_l1Cur_someHeap, p_spec_l2Empty, e1]
  simp only [Option.bind_some]
  rw [f_spec_l2Sides]
  simp only [Option.bind_some]
  cases hs : sides X Y Z with
  | false => exact ⟨_, _, rfl, a1.le (by omega), by simp⟩
  | true =>
    obtain ⟨k1, k2, k3⟩ := allCells_ok hs
    have h64 := srt_small64 hs k2 k3
    simp only [Bool.not_true, cond_false]
    rw [f_l2All [] hs]
    simp only [Option.bind_some]
    exact l_some hC hs h64 k2 0 0 0 [] o (allCells X Y Z).length 0 N n s1 [] (by simp) (by have := N_ge; omega) (by simp) (fun c hc => by cases hc) (a1.le (by omega))

theorem f_heap {C : List Int} (hC : Bts C) {n : Nat} {s : Sd} (h : At (n + 144) s) : ∃ (g : D_Heap) (s' : Sd), P_l1Cur_heap ((C, s), ()) = some ((g, ()), ((C, s'), ())) ∧ At n s' ∧ g.2.2.2.1.length ≤ 65 := by
  obtain ⟨x, y, z, s1, e1, a1⟩ := f_sides hC (n := n + 134) h
  obtain ⟨g, s2, e2, a2, hg⟩ := f_someHeap hC (n := n + 2) a1 x y z
  obtain ⟨p, s3, e3, a3, _⟩ := f_pick hC (n := n) a2 60
  rw [p_l1Cur_heap, e1]
  simp only [Option.bind_some]
  rw [e2]
  simp only [Option.bind_some]
  rw [e3]
  simp only [Option.bind_some]
  rw [app_len' (l := g.2.2.2.1) (by omega), app_len' (l := g.2.2.2.1) (by omega), app_len' (l := g.2.2.2.1) (by omega)]
  by_cases c0 : p = 0
  · rw [decide_eq_true c0]
    exact ⟨_, _, rfl, a3, by simp; omega⟩
  · rw [decide_eq_false c0]
    by_cases c1 : p = 1
    · rw [decide_eq_true c1]
      exact ⟨_, _, rfl, a3, by simp; omega⟩
    · rw [decide_eq_false c1]
      by_cases c2 : p = 2
      · rw [decide_eq_true c2]
        by_cases c : (g.2.2.2.1.length : Int) > 0
        · rw [decide_eq_true c, show inB 0 g.2.2.2.1.length = true by simp [inB]; omega]
          exact ⟨_, _, rfl, a3, by simp; omega⟩
        · rw [decide_eq_false c]
          exact ⟨_, _, rfl, a3, by omega⟩
      · rw [decide_eq_false c2]
        by_cases c3 : p = 3
        · rw [decide_eq_true c3]
          exact ⟨_, _, rfl, a3, by simp⟩
        · rw [decide_eq_false c3]
          exact ⟨_, _, rfl, a3, by omega⟩
end Go.VI
/- Plain: hollow heaps that are drawn. -/
namespace Go.VI
open Go.Proofs

theorem among343 {x : Int} (h : x ∈ ([3, 4, 3] : List Int)) : 3 ≤ x ∧ x ≤ 4 := by
  simp only [List.mem_cons, List.not_mem_nil, or_false] at h
  omega

theorem l_hol12 {C : List Int} {X Y Z : Int} (hs : sides X Y Z = true) (m0 : Nat) (q0 q1 q2 : Int) (q3 : List D_A3) (d p14 : Int) (d0 : 0 ≤ d) (d1 : d ≤ 2) (s1 s2 : Int) : ∀ (e j m : Nat) (l : List D_A3) (c1 c2 c3 : Int), (j : Int) + e = side3 X Y Z d → e < m → l.length ≤ 64 →
    ∃ l' : List D_A3, l_l1Cur_hollow_12 m0 m q0 q1 q2 q3 X Y Z l c1 c2 c3 C s1 s2 p14 d (j : Int) = l_l1Cur_hollow_5 m0 q0 q1 q2 q3 X Y Z l' C s1 s2 (IntKind.wrap .i64 (p14 - 1)) ∧ l'.length ≤ 64
  | e, j, 0, l, c1, c2, c3, hj, hm, hl => by omega
  | e, j, m + 1, l, c1, c2, c3, hj, hm, hl => by
    have h4 := side3_ok hs d
    rw [q_l1Cur_hollow_12, p_spec_l2Long, inB_dir d0 d1]
    simp only [cond_true, Option.bind_some]
    have hsd : (bif decide (d = (0 : Int)) then X else (bif decide (d = (1 : Int)) then Y else Z)) = side3 X Y Z d := rfl
    rw [hsd]
    by_cases hlt : (j : Int) < side3 X Y Z d
    · rw [decide_eq_true hlt]
      have f1 : ∀ c : D_A3, P_spec_l2Without ((X, (Y, (Z, (l, ())))), c, ()) = _ := fun c => f_without (X := X) (Y := Y) (Z := Z) l c (by omega)
      simp only [cond_true]
      rw [f1]
      simp only [Option.bind_some]
      rw [succI j (by omega)]
      exact l_hol12 hs m0 q0 q1 q2 q3 d p14 d0 d1 s1 s2 (e - 1) (j + 1) m _ _ _ _ (by omega) (by omega) (Nat.le_trans (List.length_filter_le _ _) hl)
    · rw [decide_eq_false hlt]
      exact ⟨l, rfl, hl⟩

theorem l_hol5 {C : List Int} (hC : Bts C) {X Y Z : Int} (hs : sides X Y Z = true) (q0 q1 q2 : Int) (q3 : List D_A3) : ∀ (k m n : Nat) (s : Sd) (l : List D_A3), k < m → k ≤ 1000 → l.length ≤ 64 → At (n + 10 * k) s →
    ∃ (g : D_Heap) (s' : Sd), l_l1Cur_hollow_5 m q0 q1 q2 q3 X Y Z l C s.1 s.2.1 (k : Int) = some ((g, ()), ((C, s'), ())) ∧ At n s' ∧ g.2.2.2.1.length ≤ 64
  | k, 0, n, s, l, h, _, _, _ => by omega
  | 0, m + 1, n, s, l, hm, hk, hl, ha => by
    rw [q_l1Cur_hollow_5, decide_eq_false (by omega)]
    exact ⟨_, s, rfl, ha.le (by omega), hl⟩
  | k + 1, m + 1, n, s, l, hm, hk, hl, ha => by
    rw [q_l1Cur_hollow_5, decide_eq_true (by omega)]
    simp only [cond_true]
    obtain ⟨x, s1, e1, a1, _⟩ := f_pick hC (n := n + 10 * k + 8) (s := s) (ha.le (by omega)) (IntKind.wrap .i64 (X - 2))
    obtain ⟨y, s2, e2, a2, _⟩ := f_pick hC (n := n + 10 * k + 6) a1 (IntKind.wrap .i64 (Y - 2))
    obtain ⟨z, s3, e3, a3, _⟩ := f_pick hC (n := n + 10 * k + 4) a2 (IntKind.wrap .i64 (Z - 2))
    obtain ⟨b, s4, e4, a4⟩ := f_one hC (n := n + 10 * k + 2) a3 3
    have e1' : P_l1Cur_pick ((C, (s.1, (s.2.1, ()))), IntKind.wrap .i64 (X - 2), ()) = _ := e1
    have f1 : ∀ c : D_A3, P_spec_l2Without ((X, (Y, (Z, (l, ())))), c, ()) = _ := fun c => f_without (X := X) (Y := Y) (Z := Z) l c (by omega)
    rw [e1']
    simp only [Option.bind_some]
    rw [e2]
    simp only [Option.bind_some]
    rw [e3]
    simp only [Option.bind_some]
    rw [f1]
    simp only [Option.bind_some]
    rw [e4]
    simp only [Option.bind_some]
    have hk1 : IntKind.wrap .i64 (((k + 1 : Nat) : Int) - 1) = (k : Int) := by rw [w64 (by omega) (by omega)]; omega
    cases b with
    | false =>
      simp only [cond_false]
      rw [hk1]
      exact l_hol5 hC hs q0 q1 q2 q3 k m n s4 _ (by omega) (by omega) (Nat.le_trans (List.length_filter_le _ _) hl) (a4.le (by omega))
    | true =>
      obtain ⟨d, s5, e5, a5, b1, b2⟩ := f_pick hC (n := n + 10 * k) a4 3
      simp only [cond_true]
      rw [e5]
      simp only [Option.bind_some]
      have h4 := side3_ok hs d
      obtain ⟨l', k1, k2⟩ := l_hol12 (C := C) hs m q0 q1 q2 q3 d ((k + 1 : Nat) : Int) b1 (by omega) s5.1 s5.2.1 (side3 X Y Z d).toNat 0 N (l.filter fun c => !decide (c = (IntKind.wrap .i64 (1 + x), IntKind.wrap .i64 (1 + y), IntKind.wrap .i64 (1 + z), ()))) (IntKind.wrap .i64 (1 + x)) (IntKind.wrap .i64 (1 + y)) (IntKind.wrap .i64 (1 + z)) (by omega) (by have := N_ge; omega) (Nat.le_trans (List.length_filter_le _ _) hl)
      rw [show ((0 : Nat) : Int) = 0 from rfl, hk1] at k1
      rw [k1]
      exact l_hol5 hC hs q0 q1 q2 q3 k m n s5 l' (by omega) (by omega) k2 a5

theorem f_hollow {C : List Int} (hC : Bts C) {n : Nat} {s : Sd} (h : At (n + 146) s) : ∃ (g : D_Heap) (s' : Sd), P_l1Cur_hollow ((C, s), ()) = some ((g, ()), ((C, s'), ())) ∧ At n s' ∧ g.2.2.2.1.length ≤ 65 := by
  obtain ⟨b, s1, e1, a1⟩ := f_one hC (n := n + 144) h 2
  rw [p_l1Cur_hollow, e1]
  simp only [Option.bind_some]
  cases b with
  | true =>
    obtain ⟨g, s2, e2, a2, hg⟩ := f_heap hC (n := n) a1
    simp only [cond_true]
    rw [e2]
    exact ⟨_, _, rfl, a2, hg⟩
  | false =>
    obtain ⟨x, s2, e2, a2, mx⟩ := f_among hC (n := n + 142) a1 [3, 4, 3] (by decide)
    obtain ⟨y, s3, e3, a3, my⟩ := f_among hC (n := n + 140) a2 [3, 4, 3] (by decide)
    obtain ⟨z, s4, e4, a4, mz⟩ := f_among hC (n := n + 138) a3 [3, 4, 3] (by decide)
    obtain ⟨p, s5, e5, a5, b1, b2⟩ := f_pick hC (n := n + 136) a4 5
    have hx := among343 mx
    have hy := among343 my
    have hz := among343 mz
    have hs : sides x y z = true := sides_iff.2 ⟨⟨by omega, by omega⟩, ⟨by omega, by omega⟩, ⟨by omega, by omega⟩⟩
    obtain ⟨k1, k2, k3⟩ := allCells_ok hs
    simp only [cond_false]
    rw [e2]
    simp only [Option.bind_some]
    rw [e3]
    simp only [Option.bind_some]
    rw [e4]
    simp only [Option.bind_some]
    rw [f_l2Box hs]
    simp only [Option.bind_some]
    rw [e5]
    simp only [Option.bind_some]
    obtain ⟨pn, rfl⟩ : ∃ pn : Nat, p = (pn : Int) := ⟨p.toNat, by omega⟩
    obtain ⟨g, s6, e6, a6, hg⟩ := l_hol5 hC hs 0 0 0 [] pn N n s5 (allCells x y z) (by have := N_ge; omega) (by omega) (srt_small64 hs k2 k3) (a5.le (by omega))
    rw [e6]
    exact ⟨_, _, rfl, a6, by omega⟩

theorem at0 (n : Nat) (h : n ≤ 1000000) : At n ((0, 0, ()) : Sd) := ⟨by simp only; omega, by simp only; omega⟩

end Go.VI
