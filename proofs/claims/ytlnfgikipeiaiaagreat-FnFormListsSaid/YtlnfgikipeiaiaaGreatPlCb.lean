/- Plain: pieces behind cuts, as the program finds them. -/
import Derived.Test.YtlnfgikipeiaiaaGreatWjSort
import Derived.Test.YtlnfgikipeiaiaaGreatPlN
namespace Go.VI
open Go.Proofs
theorem j7s (v : BitVec 64) (i : Nat) (hi : i < 64) (h1 : v.getLsbD i = true) (h0 : ∀ j, j < i → v.getLsbD j = false) : intBits .and .u64 (v.toNat : Int) (IntKind.wrap .u64 (0 - (v.toNat : Int))) = ((BitVec.twoPow 64 i).toNat : Int) := by
 have hlt := v.isLt
 have hpos : 0 < v.toNat := by
  apply Nat.pos_of_ne_zero
  intro hz
  have : v.getLsbD i = false := by
   unfold BitVec.getLsbD
   rw [hz, Nat.zero_testBit]
  rw [this] at h1
  cases h1
 have hw : IntKind.wrap .u64 (0 - (v.toNat : Int)) = ((BitVec.ofNat 64 (2 ^ 64 - v.toNat)).toNat : Int) := by
  rw [wu64, BitVec.toNat_ofNat, Nat.mod_eq_of_lt (by omega)]
  omega
 rw [hw, j8d]
 congr 2
 have hmod : v.toNat % 2 ^ i = 0 := by
  apply Nat.eq_of_testBit_eq
  intro j
  rw [Nat.testBit_mod_two_pow, Nat.zero_testBit]
  by_cases hj : j < i
  · have := h0 j hj
    unfold BitVec.getLsbD at this
    rw [this, Bool.and_false]
  · rw [decide_eq_false hj, Bool.false_and]
 have hodd : v.toNat / 2 ^ i % 2 = 1 := by
  have h := h1
  unfold BitVec.getLsbD at h
  rw [Nat.testBit_eq_decide_div_mod_eq] at h
  exact of_decide_eq_true h
 obtain ⟨q, hq⟩ : ∃ q, v.toNat / 2 ^ i = 2 * q + 1 := ⟨v.toNat / 2 ^ i / 2, by omega⟩
 have hv : v.toNat = 2 ^ i * (2 * q + 1) + 0 := by
  have := Nat.div_add_mod v.toNat (2 ^ i)
  rw [hmod, hq] at this
  exact this.symm
 have h2i : 0 < 2 ^ i := Nat.two_pow_pos i
 have hx : v.toNat - 1 = 2 ^ i * (2 * q) + (2 ^ i - 1) := by
  rw [hv, Nat.mul_add, Nat.mul_one]
  omega
 apply BitVec.eq_of_getLsbD_eq
 intro j hj
 rw [BitVec.getLsbD_and, BitVec.getLsbD_twoPow, BitVec.getLsbD_ofNat]
 have e1 : 2 ^ 64 - v.toNat = 2 ^ 64 - (v.toNat - 1 + 1) := by omega
 rw [e1, Nat.testBit_two_pow_sub_succ (by omega), hx, Nat.testBit_two_pow_mul_add _ (by omega)]
 by_cases c : j < i
 · rw [h0 j c, decide_eq_false (p := i = j) (by omega), Bool.false_and, Bool.and_false]
 · have hvb : v.getLsbD j = (2 * q + 1).testBit (j - i) := by
    unfold BitVec.getLsbD
    rw [hv, Nat.testBit_two_pow_mul_add _ h2i, if_neg c]
   rw [hvb, if_neg c, decide_eq_true hj]
   by_cases e : i = j
   · subst e
     simp
     exact hj
   · obtain ⟨k, hk⟩ : ∃ k, j - i = k + 1 := ⟨j - i - 1, by omega⟩
     rw [hk, Nat.testBit_succ, Nat.testBit_succ, decide_eq_false e, show (2 * q + 1) / 2 = q by omega, show 2 * q / 2 = q by omega]
     cases q.testBit k <;> simp
theorem j1t {X Y Z : Int} (hs : sides X Y Z = true) {c0 : a0a} (hc : a0k X Y Z c0 = true) : SetIs X Y Z (BitVec.twoPow 64 (idx Y Z c0)) (fun c => decide (c = c0)) := by
 obtain ⟨_, h2, h3, _⟩ := idx_eq hs hc
 refine ⟨fun i hi => ?_, fun c hw => ?_⟩
 · rw [BitVec.getLsbD_twoPow, decide_eq_false (p := idx Y Z c0 = i) (by omega), Bool.and_false]
 · have h4 := (idx_eq hs hw).2.1
   rw [BitVec.getLsbD_twoPow]
   show _ = decide (c = c0)
   by_cases e : c = c0
   · rw [e, decide_eq_true (p := c0 = c0) rfl, decide_eq_true (p := idx Y Z c0 = idx Y Z c0) rfl, decide_eq_true (p := idx Y Z c0 < 64) (by omega)]
     rfl
   · rw [decide_eq_false e, decide_eq_false (p := idx Y Z c0 = idx Y Z c) (fun h => e (h4q hs hw hc h.symm)), Bool.and_false]
structure PiecesI (cuts : List i9g) (l L0 : List a0a) (ps : List (List a0a)) : Prop where
 srt : Srt L0
 sub : ∀ c ∈ L0, c ∈ l
 closed : ∀ c ∈ L0, ∀ d ∈ l, nb c d → same cuts c d = true → d ∈ L0
 good : ∀ p ∈ ps, Srt p ∧ ∃ c0 ∈ l, ∀ c, c ∈ p ↔ ConnS cuts l c0 c
 cover : ∀ c ∈ l, c ∈ L0 ∨ ∃ p ∈ ps, c ∈ p
 tot : (ps.map List.length).sum + L0.length = l.length
end Go.VI
namespace Go.VI
open Go.Proofs
theorem h8l (l : List a0a) (hl : Small l) : ∀ (d k m : Nat), l.length = k + d → d < m → a7b m l l (k : Int) = some (true, ())
 | d, k, 0, hk, hm => by omega
 | d, k, m + 1, hk, hm => by
  have hl' := hl
  unfold Small at hl'
  rw [e4y]
  by_cases hlt : k < l.length
  · rw [ltT hlt, a1j hlt, a5v k (by omega), h8l l hl (d - 1) (k + 1) m (by omega) (by omega)]
    simp
  · rw [ltF hlt]; rfl
theorem j1j (l : List a0a) (hl : Small l) : b8c (l, l, ()) = some (true, ()) := by
 have := h8l l hl l.length 0 N (by simp) (by unfold Small at hl; have := b6u; omega)
 rw [f2d, decide_eq_true rfl]
 exact this
theorem i6j (h : a0b) (hl : Small h.2.2.2.1) : a8h (h, h, ()) = some (true, ()) := by
 rw [f9x, j1j h.2.2.2.1 hl]
 simp
structure HeadsI (l L0 H : List a0a) : Prop where
 srt : Srt L0
 sub : ∀ c ∈ L0, c ∈ l
 closed : ∀ c ∈ L0, ∀ d ∈ l, nb c d → d ∈ L0
 hmem : ∀ h ∈ H, h ∈ l
 nodup : H.Nodup
 apart : ∀ h ∈ H, ∀ h' ∈ H, Conn l h h' → h = h'
 left : ∀ h ∈ H, ∀ c ∈ L0, ¬ Conn l h c
theorem j3g {α : Type} {l : List α} {x : α} (h : l.length ≤ 100000000) : (decide ((l.length + ([x] : List α).length) * 8 ≤ 140737488355328) && decide (l.length + ([x] : List α).length ≤ 140737488355328)) = true := by
 rw [Bool.and_eq_true, decide_eq_true_eq, decide_eq_true_eq]
 simp only [List.length_singleton]
 omega
end Go.VI
namespace Go.VI
open Go.Proofs
theorem j9o {X Y Z : Int} {l L0 lf0 nr pt : List a0a} {c0 c : a0a} {n : Nat} (hs : sides X Y Z = true) (hl : ∀ x ∈ L0, x ∈ l) (hL : Srt L0) (h64 : L0.length ≤ 64) (hnr : nr.Nodup) (hc : ∀ x ∈ nr, nb c x) (hlen : nr.length ≤ 64) (ps : List (List a0a)) (m0 m1 : Nat) :
 ∀ (d k m : Nat) (ls lf : List a0a), nr.length = k + d → d < m → Part l L0 c0 n (n + 1) ls lf pt → ls[n]? = some c → (∀ x ∈ lf, x ∈ lf0) → (∀ x ∈ nr.take k, x ∉ lf) → (∀ x ∈ nr.drop k, x ∈ lf) →
 ∃ ls' lf', a6v m0 m1 m X Y Z l X Y Z lf X Y Z pt ps ls (n : Int) nr (k : Int) = a6g m0 m1 X Y Z l X Y Z lf' X Y Z pt ps ls' ((n + 1 : Nat) : Int) ∧ Part l L0 c0 n (n + 1) ls' lf' pt ∧ (∀ x ∈ lf', x ∈ lf0) ∧ (∀ x ∈ nr, x ∉ lf') ∧ ls'[n]? = some c
 | d, k, 0, ls, lf, _, h, _, _, _, _, _ => by omega
 | d, k, m + 1, ls, lf, hk, hm, hP, hn, h0, h1, h2 => by
  have hle := hP.len hL
  have hlt0 : n < ls.length := (List.getElem?_eq_some_iff.1 hn).1
  rw [f7t]
  by_cases hlt : k < nr.length
  · rw [ltT hlt, a1j hlt, b9l (t := a0e) hlt, b7v (by omega), a5v k (by omega), h9p lf nr[k] (by omega)]
    simp only [cond_true, Option.bind_some]
    have hx : nr[k] ∈ lf := h2 _ (by rw [drop_at nr k hlt]; exact List.mem_cons_self ..)
    have hP' := hP.take hl (List.mem_of_getElem? hn) hx (hc _ (List.getElem_mem hlt)) (by omega) (by omega)
    refine j9o hs hl hL h64 hnr hc hlen ps m0 m1 (d - 1) (k + 1) m _ _ (by omega) (by omega) hP' (by rw [List.getElem?_append_left hlt0]; exact hn) (fun x hx => h0 x (List.mem_filter.1 hx).1) (fun x hx hh => ?_) (fun x hx => ?_)
    · rw [List.take_add_one, List.getElem?_eq_getElem hlt] at hx
      have hh' := List.mem_filter.1 hh
      rcases List.mem_append.1 hx with hx | hx
      · exact h1 x hx hh'.1
      · rw [show x = nr[k] by simpa using hx] at hh'
        simp at hh'
    · have hd : nr.drop k = nr[k] :: nr.drop (k + 1) := drop_at nr k hlt
      have hnd : (nr.drop k).Nodup := hnr.sublist (List.drop_sublist k nr)
      rw [hd] at hnd
      have hne : x ≠ nr[k] := fun e => (List.nodup_cons.1 hnd).1 (e ▸ hx)
      exact List.mem_filter.2 ⟨h2 x (by rw [hd]; exact List.mem_cons_of_mem _ hx), by simp [hne]⟩
  · rw [ltF hlt, a5v n (by omega)]
    refine ⟨ls, lf, rfl, hP, h0, fun x hx => h1 x (by rw [List.take_of_length_le (by omega)]; exact hx), hn⟩
theorem k1f {X Y Z : Int} {l L0 : List a0a} {c0 : a0a} (hs : sides X Y Z = true) (hi : Ins X Y Z l) (hl : ∀ x ∈ L0, x ∈ l) (hL : Srt L0) (h64 : L0.length ≤ 64) (ps : List (List a0a)) (hps : ps.length ≤ 1000) (m0 : Nat) :
 ∀ (d n m : Nat) (ls lf pt : List a0a), L0.length = n + d → d < m → Part l L0 c0 n n ls lf pt → n ≤ ls.length →
 ∃ ls' lf' pt', a6g m0 m X Y Z l X Y Z lf X Y Z pt ps ls (n : Int) = a7w m0 X Y Z l X Y Z lf' (ps ++ [pt']) ∧ Part l L0 c0 ls'.length ls'.length ls' lf' pt'
 | d, n, 0, ls, lf, pt, _, h, _, _ => by omega
 | d, n, m + 1, ls, lf, pt, hk, hm, hP, hn => by
  have hle := hP.len hL
  rw [g2k]
  by_cases hlt : n < ls.length
  · have hcm : ls[n] ∈ ls := List.getElem_mem hlt
    have hin : ∀ x ∈ L0, e6t x := fun x hx => j1q hs (hi x (hl x hx))
    have hptl : pt.length ≤ 64 := a4n hs (fun x hx => hi x (hl x (hP.lsub x (List.mem_of_mem_take ((hP.pmem x).1 hx))))) hP.psrt
    obtain ⟨pt', g1, g2, g3, g4⟩ := f4i (X := X) (Y := Y) (Z := Z) hP.psrt ls[n] (by omega)
    rw [ltT hlt, a1j hlt, b9l (t := a0e) hlt, g1, j6f (X := X) (Y := Y) (Z := Z) (l := lf) (by omega) (fun x hx => hin x (hP.sub x hx)) (hin _ (hP.lsub _ hcm))]
    simp only [cond_true, Option.bind_some]
    have hpm : ∀ x, x ∈ pt' ↔ x ∈ ls.take (n + 1) := fun x => by
     rw [g3, hP.pmem, List.take_add_one, List.getElem?_eq_getElem hlt, List.mem_append]
     simp only [Option.toList_some, List.mem_singleton]
     exact or_comm
    have hP1 : Part l L0 c0 n (n + 1) ls lf pt' := { hP with psrt := g2, pmem := hpm }
    have hnr : (lf.filter (nbB ls[n])).Nodup := (hP.srt.filter _).nodup
    obtain ⟨ls', lf', e1, e2, e3, e4, e5⟩ := j9o (lf0 := lf) (nr := lf.filter (nbB ls[n])) (c := ls[n]) hs hl hL h64 hnr (fun x hx => (i2s _ _).1 (List.mem_filter.1 hx).2) (Nat.le_trans (List.length_filter_le _ _) (by omega)) ps m0 m (lf.filter (nbB ls[n])).length 0 N ls lf (by omega) (by have := List.length_filter_le (nbB ls[n]) lf; have := b6u; omega) hP1 (List.getElem?_eq_getElem hlt) (fun x hx => hx) (by simp) (fun x hx => (List.mem_filter.1 (by simpa using hx)).1)
    have e1' : a6v m0 m N X Y Z l X Y Z lf X Y Z pt' ps ls (n : Int) (lf.filter (nbB ls[n])) 0 = _ := e1
    rw [e1']
    have hlt' : n < ls'.length := (List.getElem?_eq_some_iff.1 e5).1
    have hle' := e2.len hL
    refine k1f hs hi hl hL h64 ps hps m0 (d - 1) (n + 1) m ls' lf' pt' (by omega) (by omega) { e2 with done := fun i hii x hx y hy hh => ?_ } (by omega)
    by_cases e : i = n
    · subst e
      rw [e5] at hx
      have hx := Option.some.inj hx
      rw [← hx] at hy
      exact e4 y (List.mem_filter.2 ⟨e3 y hh, (i2s _ _).2 hy⟩) hh
    · exact e2.done i (by omega) x hx y hy hh
  · have e : n = ls.length := by omega
    subst e
    rw [ltF hlt, b7v (by omega)]
    exact ⟨ls, lf, pt, rfl, hP⟩
structure PartsI (X Y Z : Int) (l L0 : List a0a) (ps : List (List a0a)) : Prop where
 srt : Srt L0
 sub : ∀ c ∈ L0, c ∈ l
 closed : ∀ c ∈ L0, ∀ d ∈ l, nb c d → d ∈ L0
 good : ∀ p ∈ ps, Srt p ∧ Ins X Y Z p ∧ ∃ c0 ∈ l, ∀ c, c ∈ p ↔ Conn l c0 c
 cover : ∀ c ∈ l, c ∈ L0 ∨ ∃ p ∈ ps, c ∈ p
def Stand (l : List a0a) : a0a → Prop := Rch (fun c => c ∈ l ∧ c.2.2.1 = 0) (fun c => c ∈ l)
theorem Stand.mem {l : List a0a} {c : a0a} (h : Stand l c) : c ∈ l := by
 cases h with
 | base h => exact h.1
 | step _ _ h => exact h
end Go.VI
namespace Go.VI
open Go.Proofs
inductive Pts (l : List a0a) : List a0a → List (List a0a) → Prop
 | nil : Pts l [] []
 | cons {c0 : a0a} {L p lf : List a0a} {ps : List (List a0a)} (h1 : Srt p) (h2 : ∀ c, c ∈ p ↔ Conn l c0 c) (h3 : Srt lf) (h4 : ∀ c, c ∈ lf ↔ c ∈ c0 :: L ∧ ¬ Conn l c0 c) (h5 : Pts l lf ps) : Pts l (c0 :: L) (p :: ps)
theorem Pts.uniq {l : List a0a} {L : List a0a} {ps : List (List a0a)} (h : Pts l L ps) : ∀ {ps' : List (List a0a)}, Pts l L ps' → ps = ps' := by
 induction h with
 | nil => intro ps' h'; cases h'; rfl
 | cons h1 h2 h3 h4 h5 ih =>
  intro ps' h'
  cases h' with
  | cons k1 k2 k3 k4 k5 =>
   have e1 := e4z _ _ h1 k1 fun c => by rw [h2, k2]
   have e2 := e4z _ _ h3 k3 fun c => by rw [h4, k4]
   subst e1
   subst e2
   rw [ih k5]
theorem Pts.sum {l : List a0a} {L : List a0a} {ps : List (List a0a)} (h : Pts l L ps) : Srt L → (∀ c ∈ L, c ∈ l) → (∀ c ∈ L, ∀ d ∈ l, nb c d → d ∈ L) → (ps.map List.length).sum = L.length := by
 induction h with
 | nil => intro _ _ _; rfl
 | cons h1 h2 h3 h4 h5 ih =>
  rename_i c0 L p lf ps
  intro hr hsub hcl
  have hpL : ∀ c, c ∈ p → c ∈ c0 :: L := fun c hc => by
   have hconn := (h2 c).1 hc
   exact Rch.of (r := fun c => c ∈ c0 :: L) (fun c hc => by rw [show c = c0 from hc]; exact List.mem_cons_self ..) (fun c d hc hn hd => hcl c hc d hd hn) hconn
  have e := ih h3 (fun c hc => hsub c ((h4 c).1 hc).1) (fun c hc d hd hn => by
   obtain ⟨a, b⟩ := (h4 c).1 hc
   exact (h4 d).2 ⟨hcl c a d hd hn, fun hcd => b (.step hcd (e2x hn) (hsub c a))⟩)
  have hp : (c0 :: L).Perm (p ++ lf) := by
   refine (List.perm_ext_iff_of_nodup hr.nodup ?_).2 fun c => ?_
   · rw [List.nodup_append]
     exact ⟨h1.nodup, h3.nodup, fun a ha b hb e => ((h4 b).1 hb).2 (e ▸ (h2 a).1 ha)⟩
   · rw [List.mem_append, h4, h2]
     constructor
     · intro hc
       by_cases hh : Conn l c0 c
       · exact .inl hh
       · exact .inr ⟨hc, hh⟩
     · rintro (hc | hc)
       · exact hpL c ((h2 c).2 hc)
       · exact hc.1
  rw [hp.length_eq, List.length_append, ← e]
  rfl
theorem Pts.good {l : List a0a} {L : List a0a} {ps : List (List a0a)} (h : Pts l L ps) : (∀ c ∈ L, c ∈ l) → ∀ p ∈ ps, Srt p ∧ ∃ c0 ∈ l, ∀ c, c ∈ p ↔ Conn l c0 c := by
 induction h with
 | nil => intro _ p hp; cases hp
 | cons h1 h2 h3 h4 h5 ih =>
  rename_i c0 L p lf ps
  intro hsub q hq
  rcases List.mem_cons.1 hq with rfl | hq
  · exact ⟨h1, c0, hsub c0 (List.mem_cons_self ..), h2⟩
  · exact ih (fun c hc => hsub c ((h4 c).1 hc).1) q hq
theorem Pts.len {l : List a0a} {L : List a0a} {ps : List (List a0a)} (h : Pts l L ps) : ∀ n, L.length ≤ n → Srt L → ps.length ≤ n := by
 induction h with
 | nil => intro n _ _; exact Nat.zero_le _
 | cons h1 h2 h3 h4 h5 ih =>
  rename_i c0 L p lf ps
  intro n hn hr
  have hlf : lf.length < (c0 :: L).length := by
   have hsub : ∀ c ∈ lf, c ∈ L := fun c hc => by
    obtain ⟨a, b⟩ := (h4 c).1 hc
    rcases List.mem_cons.1 a with rfl | a
    · exact absurd (.base rfl) b
    · exact a
   have e : lf = L.filter fun x => decide (x ∈ lf) := e4z _ _ h3 ((List.pairwise_cons.1 hr).2.filter _) fun c => by
    rw [List.mem_filter, decide_eq_true_eq]
    exact ⟨fun hc => ⟨hsub c hc, hc⟩, fun hc => hc.2⟩
   rw [e, List.length_cons]
   exact Nat.lt_succ_of_le (List.length_filter_le _ _)
  have := ih (n - 1) (by omega) h3
  rw [List.length_cons]
  omega
theorem j9e {X Y Z : Int} {l : List a0a} (hs : sides X Y Z = true) (hi : Ins X Y Z l) : ∀ (d m : Nat) (L0 : List a0a) (ps : List (List a0a)), L0.length ≤ d → d < m → d ≤ 64 → ps.length + d ≤ 100 → Srt L0 → (∀ c ∈ L0, c ∈ l) → (∀ c ∈ L0, ∀ d ∈ l, nb c d → d ∈ L0) →
 ∃ qs, a7w m X Y Z l X Y Z L0 ps = some (ps ++ qs, ()) ∧ Pts l L0 qs
 | d, 0, L0, ps, _, h, _, _, _, _, _ => by omega
 | d, m + 1, [], ps, hd, hm, h64, hps, _, _, _ => by
  rw [e0p]
  exact ⟨[], by rw [List.append_nil]; rfl, .nil⟩
 | d, m + 1, c0 :: L, ps, hd, hm, h64, hps, hsrt, hsub, hclosed => by
  rw [e0p, decide_eq_true (by simp), a2x]
  have n0 : nth a0e (c0 :: L) 0 = c0 := rfl
  have n1 : nth a0e ([nth a0e (c0 :: L) 0] : List a0a) 0 = c0 := rfl
  have i0 : inB 0 (c0 :: L).length = true := by simp [inB]
  have i1 : inB 0 ([nth a0e (c0 :: L) 0] : List a0a).length = true := rfl
  have hlen : (c0 :: L).length ≤ 64 := by omega
  simp only [cond_true, Option.bind_some]
  rw [i0, i1, n1, n0, h9p (c0 :: L) c0 (by omega)]
  simp only [cond_true, Option.bind_some]
  have hmemF : ∀ x, x ∈ (c0 :: L).filter (fun x => !decide (x = c0)) ↔ x ∈ (c0 :: L) ∧ x ≠ c0 := fun x => by rw [List.mem_filter]; simp
  have hP : Part l (c0 :: L) c0 0 0 [c0] ((c0 :: L).filter fun x => !decide (x = c0)) [] := {
   srt := hsrt.filter _
   sub := fun x hx => ((hmemF x).1 hx).1
   lsub := fun x hx => by rw [List.mem_singleton.1 hx]; exact List.mem_cons_self ..
   all := fun x hx => by
    by_cases e : x = c0
    · exact .inl (by rw [e]; simp)
    · exact .inr ((hmemF x).2 ⟨hx, e⟩)
   apart := fun x hx hh => ((hmemF x).1 hh).2 (List.mem_singleton.1 hx)
   conn := fun x hx => .base (List.mem_singleton.1 hx)
   done := fun i hii => by omega
   psrt := List.Pairwise.nil
   pmem := fun x => by simp
   nodup := by simp
   start := by simp }
  obtain ⟨ls', lf', pt', e1, e2⟩ := k1f hs hi hsub hsrt hlen ps (by omega) m (c0 :: L).length 0 N [c0] _ [] (by omega) (by have := b6u; omega) hP (by omega)
  have e1' : a6g m N X Y Z l X Y Z ((c0 :: L).filter fun x => !decide (x = c0)) X Y Z [] ps [c0] 0 = _ := e1
  rw [e1']
  have hle := e2.len hsrt
  have hpos : 0 < ls'.length := List.length_pos_of_mem e2.start
  have hlsn : ∀ c ∈ ls', ∀ d, nb c d → d ∉ lf' := fun c hc d hd => by
   obtain ⟨i, hii, e⟩ := List.getElem_of_mem hc
   exact e2.done i hii c (by rw [List.getElem?_eq_getElem hii, e]) d hd
  have hls : ∀ c, c ∈ ls' ↔ Conn l c0 c := fun c => by
   refine ⟨e2.conn c, fun hc => Rch.of (r := fun c => c ∈ ls') (fun c hc => by rw [show c = c0 from hc]; exact e2.start) (fun c d hc hn hd => ?_) hc⟩
   rcases e2.all d (hclosed c (e2.lsub c hc) d hd hn) with h | h
   · exact h
   · exact absurd h (hlsn c hc d hn)
  have hcomp : ∀ c, c ∈ pt' ↔ Conn l c0 c := fun c => by rw [e2.pmem, List.take_length, hls]
  have hlf : ∀ c, c ∈ lf' ↔ c ∈ c0 :: L ∧ ¬ Conn l c0 c := fun c => by
   constructor
   · intro hc
     exact ⟨e2.sub c hc, fun hh => e2.apart c ((hls c).2 hh) hc⟩
   · rintro ⟨hc, hh⟩
     rcases e2.all c hc with h | h
     · exact absurd ((hls c).1 h) hh
     · exact h
  obtain ⟨qs, r1, r2⟩ := j9e hs hi (d - 1) m lf' (ps ++ [pt']) (by omega) (by omega) (by omega) (by simp; omega) e2.srt (fun c hc => hsub c (e2.sub c hc)) (fun c hc d hd hn => by
   rcases e2.all d (hclosed c (e2.sub c hc) d hd hn) with h | h
   · exact absurd hc (hlsn d h c (e2x hn))
   · exact h)
  exact ⟨pt' :: qs, by rw [r1, List.append_assoc]; rfl, .cons e2.psrt hcomp e2.srt hlf r2⟩
theorem i6d {X Y Z : Int} {l : List a0a} (hs : sides X Y Z = true) (hi : Ins X Y Z l) (hr : Srt l) : ∃ ps, a8p ((X, Y, Z, l, ()), ()) = some (ps, ()) ∧ Pts l l ps := by
 have h64 := a4n hs hi hr
 obtain ⟨ps, h1, h2⟩ := j9e hs hi 64 N l [] h64 (by have := b6u; omega) (by omega) (by simp) hr (fun c h => h) (fun _ _ d hd _ => hd)
 refine ⟨ps, ?_, h2⟩
 rw [h0t, i9u (by omega)]
 exact h1
theorem f0w {X Y Z : Int} {l : List a0a} (hs : sides X Y Z = true) (hi : Ins X Y Z l) : ∀ (d m : Nat) (L0 : List a0a) (ws : List (BitVec 64)), L0.length ≤ d → d < m → d ≤ 64 → ws.length + d ≤ 100 → Srt L0 → (∀ c ∈ L0, c ∈ l) → (∀ c ∈ L0, ∀ d ∈ l, nb c d → d ∈ L0) →
 ∃ vs : List (BitVec 64), b2z m X Y Z ((mask Y Z L0 0).toNat : Int) (ws.map fun w => ((w.toNat : Nat) : Int)) = some ((ws ++ vs).map (fun w => ((w.toNat : Nat) : Int)), ()) ∧ vs.length ≤ d ∧ Pts l L0 (vs.map (a3x X Y Z))
 | d, 0, L0, ws, _, h, _, _, _, _, _ => by omega
 | d, m + 1, [], ws, hd, hm, h64, hps, _, _, _ => by
  rw [f3m]
  exact ⟨[], by rw [List.append_nil]; rfl, Nat.zero_le _, .nil⟩
 | d, m + 1, c0 :: L, ws, hd, hm, h64, hps, hsrt, hsub, hclosed => by
  have hin : Ins X Y Z (c0 :: L) := fun c hc => hi c (hsub c hc)
  have hw0 := hin c0 (List.mem_cons_self ..)
  obtain ⟨_, k2, k3, _⟩ := idx_eq hs hw0
  have hb1 : (mask Y Z (c0 :: L) 0).getLsbD (idx Y Z c0) = true := by
   rw [f3d hs hin hw0]; simp
  have hb0 : ∀ j, j < idx Y Z c0 → (mask Y Z (c0 :: L) 0).getLsbD j = false := by
   intro j hj
   rw [g3t]
   have : ((c0 :: L).any fun c => decide (idx Y Z c = j)) = false := by
    rw [List.any_eq_false]
    intro c hc
    have hge : idx Y Z c0 ≤ idx Y Z c := by
     rcases List.mem_cons.1 hc with rfl | hc'
     · exact Nat.le_refl _
     · exact Nat.le_of_lt ((i6g hs hw0 (hin c hc)).2 ((List.pairwise_cons.1 hsrt).1 c hc'))
    simp only [decide_eq_true_eq]
    omega
   rw [this]
   simp
  have hne : (mask Y Z (c0 :: L) 0).toNat ≠ 0 := by
   intro hz
   unfold BitVec.getLsbD at hb1
   rw [hz, Nat.zero_testBit] at hb1
   cases hb1
  have hlow := j7s _ (idx Y Z c0) (by omega) hb1 hb0
  have hset := d4e hs hin
  have hs1 := j1t hs hw0
  obtain ⟨w, w1, w2, w3⟩ := j6h hs hs1.1 hset.1
  rw [f3m, decide_eq_false (p := ((mask Y Z (c0 :: L) 0).toNat : Int) = 0) (by omega), hlow]
  simp only [Bool.not_false, cond_true]
  rw [w1]
  simp only [Option.bind_some]
  rw [j3g (by rw [List.length_map]; omega), j3x]
  simp only [cond_true]
  have hreach : ∀ c, g3i X Y Z w c ↔ Conn l c0 c := by
   intro c
   rw [w3]
   constructor
   · intro h
     refine Rch.mono (fun x hx => .base ?_) (fun x hx => ?_) h
     · have := hx.2
       rw [hs1.2 x hx.1] at this
       exact of_decide_eq_true this
     · have := hx.2
       rw [hset.2 x hx.1, decide_eq_true_eq] at this
       exact hsub x this
   · intro h
     have key : c ∈ c0 :: L ∧ Rch (g3i X Y Z (BitVec.twoPow 64 (idx Y Z c0))) (g3i X Y Z (mask Y Z (c0 :: L) 0)) c := by
      refine Rch.of (r := fun c => c ∈ c0 :: L ∧ Rch (g3i X Y Z (BitVec.twoPow 64 (idx Y Z c0))) (g3i X Y Z (mask Y Z (c0 :: L) 0)) c) (fun x hx => ?_) (fun x d hx hn hd => ?_) h
      · have hx' : x = c0 := hx
        subst hx'
        exact ⟨List.mem_cons_self .., .base ⟨hw0, by rw [hs1.2 _ hw0]; simp⟩⟩
      · have hdm := hclosed x hx.1 d hd hn
        refine ⟨hdm, .step hx.2 hn ⟨hin d hdm, ?_⟩⟩
        rw [hset.2 d (hin d hdm)]
        exact decide_eq_true hdm
     exact key.2
  have hlf : ∃ lf, Srt lf ∧ ∀ c, c ∈ lf ↔ c ∈ c0 :: L ∧ ¬ Conn l c0 c := by
   refine ⟨a3x X Y Z (mask Y Z (c0 :: L) 0 &&& ~~~w), b6g hs _, fun c => ?_⟩
   rw [c5p hs, ← hreach]
   constructor
   · rintro ⟨hc, hb⟩
     have h64 := (idx_eq hs hc).2.1
     have hsz := c2q hs
     rw [BitVec.getLsbD_and, hset.2 c hc, BitVec.getLsbD_not, decide_eq_true (p := idx Y Z c < 64) (by omega), Bool.true_and, Bool.and_eq_true, decide_eq_true_eq, Bool.not_eq_true'] at hb
     refine ⟨hb.1, fun hh => ?_⟩
     have := hh.2
     rw [hb.2] at this
     cases this
   · rintro ⟨hc, hb⟩
     have hw' := hin c hc
     have h64 := (idx_eq hs hw').2.1
     have hsz := c2q hs
     refine ⟨hw', ?_⟩
     rw [BitVec.getLsbD_and, hset.2 c hw', BitVec.getLsbD_not, decide_eq_true (p := idx Y Z c < 64) (by omega), Bool.true_and, Bool.and_eq_true, decide_eq_true_eq, Bool.not_eq_true', ← Bool.not_eq_true]
     exact ⟨hc, fun hh => hb ⟨hw', hh⟩⟩
  obtain ⟨lf, s1, s2⟩ := hlf
  have hlfin : Ins X Y Z lf := fun c hc => hin c ((s2 c).1 hc).1
  have hmask : mask Y Z (c0 :: L) 0 &&& ~~~w = mask Y Z lf 0 := by
   refine SetIs.ext hs (g := fun c => decide (c ∈ lf)) ⟨fun i hi => by rw [BitVec.getLsbD_and, hset.1 i hi, Bool.false_and], fun c hc => ?_⟩ (d4e hs hlfin)
   have h64 := (idx_eq hs hc).2.1
   have hsz := c2q hs
   rw [BitVec.getLsbD_and, hset.2 c hc, BitVec.getLsbD_not, decide_eq_true (p := idx Y Z c < 64) (by omega), Bool.true_and, Bool.eq_iff_iff, Bool.and_eq_true, decide_eq_true_eq, decide_eq_true_eq, s2, Bool.not_eq_true', ← Bool.not_eq_true]
   have := hreach c
   constructor
   · rintro ⟨a, b⟩
     exact ⟨a, fun hh => b (this.2 hh).2⟩
   · rintro ⟨a, b⟩
     exact ⟨a, fun hh => b (this.1 ⟨hc, hh⟩)⟩
  have hlen : lf.length < (c0 :: L).length := by
   have hsub : ∀ c ∈ lf, c ∈ (c0 :: L).filter fun x => !decide (x = c0) := fun c hc => by
    rw [List.mem_filter, Bool.not_eq_true', decide_eq_false_iff_not]
    exact ⟨((s2 c).1 hc).1, fun e => ((s2 c).1 hc).2 (.base e)⟩
   have h1 : lf.length ≤ L.length := by
    have hc0 : c0 ∉ L := fun h => by
     have := (List.pairwise_cons.1 hsrt).1 c0 h
     rw [b9s] at this
     cases this
    have hLsub : ∀ c ∈ lf, c ∈ L := fun c hc => by
     have := List.mem_filter.1 (hsub c hc)
     rcases List.mem_cons.1 this.1 with e | h
     · have h2 := this.2
       rw [e] at h2
       simp at h2
     · exact h
    have hsrtL : Srt L := (List.pairwise_cons.1 hsrt).2
    have e : lf = L.filter fun x => decide (x ∈ lf) := e4z _ _ s1 (hsrtL.filter _) fun c => by
     rw [List.mem_filter, decide_eq_true_eq]
     exact ⟨fun hc => ⟨hLsub c hc, hc⟩, fun hc => hc.2⟩
    rw [e]
    exact List.length_filter_le _ _
   rw [List.length_cons]
   omega
  rw [hmask]
  have hmap : (ws.map fun w => ((w.toNat : Nat) : Int)) ++ ([((w.toNat : Nat) : Int)] : List Int) = (ws ++ [w]).map fun w => ((w.toNat : Nat) : Int) := by simp
  rw [hmap]
  obtain ⟨vs, r1, r2, r3⟩ := f0w hs hi (d - 1) m lf (ws ++ [w]) (by omega) (by omega) (by omega) (by simp; omega) s1 (fun c hc => hsub c ((s2 c).1 hc).1) (fun c hc d hd hn => by
   obtain ⟨hcL, hnc⟩ := (s2 c).1 hc
   exact (s2 d).2 ⟨hclosed c hcL d hd hn, fun hcd => hnc (.step hcd (e2x hn) (hsub c hcL))⟩)
  rw [List.length_cons] at hd
  exact ⟨w :: vs, by rw [r1, List.append_assoc]; rfl, by rw [List.length_cons]; omega, .cons (b6g hs w) (fun c => by rw [c5p hs]; exact hreach c) s1 s2 r3⟩
theorem k0h {X Y Z : Int} {l : List a0a} (hs : sides X Y Z = true) (ws : List (BitVec 64)) (hw : ws.length ≤ 100) : ∀ (d k m : Nat) (out : List (List a0a)), ws.length = k + d → d < m → out.length ≤ k →
 b0s m X Y Z l out (ws.map fun w => ((w.toNat : Nat) : Int)) ((ws.map fun w => ((w.toNat : Nat) : Int)).length : Int) (k : Int) = some (out ++ (ws.drop k).map (a3x X Y Z), true, ())
 | d, k, 0, out, _, h, _ => by omega
 | d, k, m + 1, out, hk, hm, ho => by
  rw [g2n]
  by_cases hlt : k < ws.length
  · have hlt' : k < (ws.map fun w => ((w.toNat : Nat) : Int)).length := by simpa using hlt
    have e : nth ((.int .u64) : Ty) (ws.map fun w => ((w.toNat : Nat) : Int)) (k : Int) = ((ws[k].toNat : Nat) : Int) := by
     have := b9l (t := .int .u64) hlt'
     rw [this, List.getElem_map]
    rw [ltT hlt', a1j hlt', e, a6x]
    simp only [cond_true, Option.bind_some]
    rw [h1f hs]
    simp only [Option.bind_some]
    rw [b7v (by omega), a5v k (by omega)]
    simp only [cond_true]
    rw [k0h hs ws hw (d - 1) (k + 1) m (out ++ [a3x X Y Z ws[k]]) (by omega) (by omega) (by simp; omega), drop_at ws k hlt, List.map_cons, List.append_assoc]
    rfl
  · have hlt' : ¬ k < (ws.map fun w => ((w.toNat : Nat) : Int)).length := by simpa using hlt
    rw [ltF hlt', List.drop_eq_nil_of_le (by omega)]
    simp
end Go.VI
namespace Go.VI
open Go.Proofs
set_option maxRecDepth 100000
theorem c2j {α : Type} [DecidableEq α] : ∀ {a b : List α}, a.Nodup → (∀ c ∈ a, c ∈ b) → a.length ≤ b.length
 | [], _, _, _ => Nat.zero_le _
 | x :: a, b, h, hs => by
  have hx := hs x (by simp)
  have := c2j (a := a) (b := b.erase x) (List.nodup_cons.1 h).2 fun c hc => by
   have hne : c ≠ x := fun e => (List.nodup_cons.1 h).1 (e ▸ hc)
   exact (List.mem_erase_of_ne hne).2 (hs c (by simp [hc]))
  rw [List.length_erase_of_mem hx] at this
  have hp : 0 < b.length := List.length_pos_of_mem hx
  simp only [List.length_cons]
  omega
theorem d1q {l : List a0a} {k : a0b} (h : Nrm l k) : k.2.2.2.1.length ≤ l.length := by
 obtain ⟨lo, hi, a⟩ := h
 have := c2j (a := k.2.2.2.1.map fun c => a1s c lo) (b := l) (h4v a.srt lo).nodup fun c hc => by
  obtain ⟨d, hd, rfl⟩ := List.mem_map.1 hc
  exact (a.mem d).1 hd
 simpa using this
def Whole (l : List a0a) : Prop := ∀ a ∈ l, ∀ b ∈ l, Conn l a b
theorem j4b {l l' : List a0a} (e : ∀ c, c ∈ l ↔ c ∈ l') {a b : a0a} (h : Conn l a b) : Conn l' a b := Rch.mono (fun _ h => .base h) (fun c h => (e c).1 h) h
theorem Whole.set {l l' : List a0a} (e : ∀ c, c ∈ l ↔ c ∈ l') (h : Whole l) : Whole l' := fun a ha b hb => j4b e (h a ((e a).2 ha) b ((e b).2 hb))
theorem j2z {f : a0a → a0a} (hf : ∀ c d, nb c d → nb (f c) (f d)) {l : List a0a} {a b : a0a} (h : Conn l a b) : Conn (l.map f) (f a) (f b) := by
 induction h with
 | base h => exact .base (by rw [h])
 | step _ hn hd ih => exact .step ih (hf _ _ hn) (List.mem_map_of_mem hd)
theorem Whole.map {f : a0a → a0a} (hf : ∀ c d, nb c d → nb (f c) (f d)) {l : List a0a} (h : Whole l) : Whole (l.map f) := fun a ha b hb => by
 obtain ⟨x, hx, rfl⟩ := List.mem_map.1 ha
 obtain ⟨y, hy, rfl⟩ := List.mem_map.1 hb
 exact j2z hf (h x hx y hy)
theorem i0p (v : a0a) (c d : a0a) (h : nb c d) : nb (a1s c v) (a1s d v) := by
 rw [nb_iff] at h ⊢
 simp only [a1s]; omega
def Ok3 (t : a0c) : Prop := (t.1.1 = 0 ∧ t.1.2.1 = 1 ∧ t.1.2.2.1 = 2) ∨ (t.1.1 = 0 ∧ t.1.2.1 = 2 ∧ t.1.2.2.1 = 1) ∨ (t.1.1 = 1 ∧ t.1.2.1 = 0 ∧ t.1.2.2.1 = 2) ∨ (t.1.1 = 1 ∧ t.1.2.1 = 2 ∧ t.1.2.2.1 = 0) ∨ (t.1.1 = 2 ∧ t.1.2.1 = 0 ∧ t.1.2.2.1 = 1) ∨ (t.1.1 = 2 ∧ t.1.2.1 = 1 ∧ t.1.2.2.1 = 0)
def k1l (t : a0c) : Bool := (decide (t.1.1 = 0) && (decide (t.1.2.1 = 1) && decide (t.1.2.2.1 = 2))) || ((decide (t.1.1 = 0) && (decide (t.1.2.1 = 2) && decide (t.1.2.2.1 = 1))) || ((decide (t.1.1 = 1) && (decide (t.1.2.1 = 0) && decide (t.1.2.2.1 = 2))) || ((decide (t.1.1 = 1) && (decide (t.1.2.1 = 2) && decide (t.1.2.2.1 = 0))) || ((decide (t.1.1 = 2) && (decide (t.1.2.1 = 0) && decide (t.1.2.2.1 = 1))) || (decide (t.1.1 = 2) && (decide (t.1.2.1 = 1) && decide (t.1.2.2.1 = 0)))))))
theorem j4d : ∀ t ∈ T24, Ok3 t := by
 have h : T24.all k1l = true := by kernel_rfl
 rw [List.all_eq_true] at h
 intro t ht
 have := h t ht
 simpa [k1l, Ok3] using this
theorem j9r (c : a0a) : a8y c 0 = c.1 := rfl
theorem j8y (c : a0a) : a8y c 1 = c.2.1 := rfl
theorem k0g (c : a0a) : a8y c 2 = c.2.2.1 := rfl
set_option maxHeartbeats 4000000 in
theorem i9l {t : a0c} (ht : Ok3 t) (c d : a0a) (h : nb c d) : nb (tl t c) (tl t d) := by
 rw [nb_iff] at h ⊢
 unfold tl
 obtain ⟨c0, c1, c2, ⟨⟩⟩ := c
 obtain ⟨d0, d1, d2, ⟨⟩⟩ := d
 simp only at h
 rcases ht with ⟨e0, e1, e2⟩ | ⟨e0, e1, e2⟩ | ⟨e0, e1, e2⟩ | ⟨e0, e1, e2⟩ | ⟨e0, e1, e2⟩ | ⟨e0, e1, e2⟩ <;> simp only [e0, e1, e2, j9r, j8y, k0g] <;>
  cases decide (t.2.1.1 = 1) <;> cases decide (t.2.1.2.1 = 1) <;> cases decide (t.2.1.2.2.1 = 1) <;> simp only [cond_true, cond_false] <;> rcases h with ⟨h1, h2, h3⟩ | ⟨h1, h2, h3⟩ | ⟨h1, h2, h3⟩ <;> omega
theorem g8b {l : List a0a} {v : a0a} (h : Whole (l.map fun c => a1s c v)) : Whole l := by
 refine (h.map (i0p (negC v))).set fun c => ?_
 simp only [List.map_map, List.mem_map, Function.comp]
 constructor
 · rintro ⟨d, h1, rfl⟩; rw [b0u]; exact h1
 · intro h1; exact ⟨c, h1, b0u ..⟩
theorem d4j {l : List a0a} {k : a0b} (h : Nrm l k) (hw : Whole l) : Whole k.2.2.2.1 := by
 obtain ⟨v, hv⟩ := h.moved
 refine g8b (v := v) (hw.set fun c => ?_)
 rw [List.mem_map]
 constructor
 · intro hc; exact ⟨a1s c (negC v), (hv _).2 (by rw [a4j]; exact hc), a4j ..⟩
 · rintro ⟨d, hd, rfl⟩; exact (hv d).1 hd
theorem g4k {l : List a0a} {ps : List (List a0a)} (h : Pts l l ps) (hne : l ≠ []) : ps.length = 1 ↔ Whole l := by
 obtain ⟨L, hL⟩ : ∃ L, L = l := ⟨l, rfl⟩
 have h' : Pts l L ps := hL ▸ h
 cases h' with
 | nil => exact absurd hL.symm hne
 | cons h1 h2 h3 h4 h5 =>
  rename_i c0 L' p lf ps'
  have hc0 : c0 ∈ l := hL ▸ List.mem_cons_self ..
  constructor
  · intro e
    have : ps' = [] := List.length_eq_zero_iff.1 (by simpa using e)
    subst this
    have hlf : lf = [] := by cases h5; rfl
    have hall : ∀ c ∈ l, Conn l c0 c := fun c hc => by
     by_cases hk : Conn l c0 c
     · exact hk
     · have := (h4 c).2 ⟨hL.symm ▸ hc, hk⟩
       rw [hlf] at this
       cases this
    exact fun a ha b hb => (Conn.symm hc0 (hall a ha)).trans (hall b hb)
  · intro hw
    have hlf : lf = [] := by
     cases lf with
     | nil => rfl
     | cons x r =>
      obtain ⟨a, b⟩ := (h4 x).1 (by simp)
      exact absurd (hw c0 hc0 x (hL ▸ a)) b
    subst hlf
    cases h5
    rfl
theorem between {p : a0a → Int} (hp : ∀ c d, nb c d → p d ≤ p c + 1) {l : List a0a} {a d : a0a} (ha : a ∈ l) (h : Conn l a d) : ∀ v, p a ≤ v → v ≤ p d → ∃ c ∈ l, p c = v := by
 induction h with
 | base h => rw [h]; intro v h1 h2; exact ⟨a, ha, by omega⟩
 | step hr hn hd ih =>
  rename_i c d
  intro v h1 h2
  have := hp _ _ hn
  by_cases hv : v ≤ p c
  · exact ih v h1 hv
  · exact ⟨d, hd, by omega⟩
theorem spread {p : a0a → Int} (hp : ∀ c d, nb c d → p d ≤ p c + 1) {l : List a0a} (hw : Whole l) (h4 : l.length ≤ 4) {a d : a0a} (ha : a ∈ l) (hd : d ∈ l) : p d - p a ≤ 3 := by
 by_cases h : p d - p a ≤ 3
 · exact h
 · have hb := between hp ha (hw a ha d hd)
   have := c2j (a := [p a, p a + 1, p a + 2, p a + 3, p a + 4]) (b := l.map p) (by simp [List.nodup_cons]; omega) fun v hv => by
    rw [List.mem_map]
    obtain ⟨c, hc, e⟩ := hb v (by simp at hv; omega) (by simp at hv; omega)
    exact ⟨c, hc, e⟩
   simp at this
   omega
theorem c0y {l : List a0a} (hw : Whole l) (h4 : l.length ≤ 4) : Close l := fun c hc d hd => by
 refine ⟨spread (p := fun c => c.1) (fun c d h => ?_) hw h4 hd hc, spread (p := fun c => c.2.1) (fun c d h => ?_) hw h4 hd hc, spread (p := fun c => c.2.2.1) (fun c d h => ?_) hw h4 hd hc⟩
 all_goals rw [nb_iff] at h; omega
theorem e6a {F S : List a0a} (hF : Whole F) (hS : Whole S) {s f : a0a} (hs : s ∈ S) (hf : f ∈ F) (hn : nb s f) : Whole (F ++ S) := by
 have mF : ∀ {a b : a0a}, Conn F a b → Conn (F ++ S) a b := fun h => Rch.mono (fun _ h => .base h) (fun c h => List.mem_append_left _ h) h
 have mS : ∀ {a b : a0a}, Conn S a b → Conn (F ++ S) a b := fun h => Rch.mono (fun _ h => .base h) (fun c h => List.mem_append_right _ h) h
 have hsf : Conn (F ++ S) s f := .step (.base rfl) hn (List.mem_append_left _ hf)
 have hfs : Conn (F ++ S) f s := .step (.base rfl) (e2x hn) (List.mem_append_right _ hs)
 intro a ha b hb
 rcases List.mem_append.1 ha with ha | ha <;> rcases List.mem_append.1 hb with hb | hb
 · exact mF (hF a ha b hb)
 · exact ((mF (hF a ha f hf)).trans hfs).trans (mS (hS s hs b hb))
 · exact ((mS (hS a ha s hs)).trans hsf).trans (mF (hF f hf b hb))
 · exact mS (hS a ha b hb)
theorem i8a {F S : List a0a} (h : Whole (F ++ S)) {f s : a0a} (hf : f ∈ F) (hs : s ∈ S) (hd : ∀ c ∈ S, c ∉ F) : ∃ c ∈ S, ∃ d ∈ F, nb c d := by
 by_cases hex : ∃ c ∈ S, ∃ d ∈ F, nb c d
 · exact hex
 · have hc := h f (List.mem_append_left _ hf) s (List.mem_append_right _ hs)
   have : s ∈ F := Rch.of (r := fun c => c ∈ F) (fun c hc => by rw [show c = f from hc]; exact hf) (fun c d hcF hn hd' => by
    rcases List.mem_append.1 hd' with hd' | hd'
    · exact hd'
    · exact absurd ⟨d, hd', c, hcF, e2x hn⟩ hex) hc
   exact absurd this (hd s hs)
end Go.VI
namespace Go.VI
open Go.Proofs
def upd (b c : a0a) : a0a := (mx b.1 (-c.1), mx b.2.1 (-c.2.1), mx b.2.2.1 (-c.2.2.1), ())
structure IsBy (S : List a0a) (b : a0a) : Prop where
 pos : 0 ≤ b.1 ∧ 0 ≤ b.2.1 ∧ 0 ≤ b.2.2.1
 le : ∀ c ∈ S, -c.1 ≤ b.1 ∧ -c.2.1 ≤ b.2.1 ∧ -c.2.2.1 ≤ b.2.2.1
 at0 : b.1 = 0 ∨ ∃ c ∈ S, b.1 = -c.1
 at1 : b.2.1 = 0 ∨ ∃ c ∈ S, b.2.1 = -c.2.1
 at2 : b.2.2.1 = 0 ∨ ∃ c ∈ S, b.2.2.1 = -c.2.2.1
theorem IsBy.nil : IsBy [] (0, 0, 0, ()) := ⟨by simp, (fun c h => by cases h), .inl rfl, .inl rfl, .inl rfl⟩
theorem IsBy.snoc {S : List a0a} {b : a0a} (h : IsBy S b) (c : a0a) : IsBy (S ++ [c]) (upd b c) := by
 have e0 := h6f b.1 (-c.1); have e1 := h6f b.2.1 (-c.2.1); have e2 := h6f b.2.2.1 (-c.2.2.1)
 have hp := h.pos
 refine ⟨by simp only [upd]; omega, fun x hx => ?_, ?_, ?_, ?_⟩
 · simp only [upd]
   rcases List.mem_append.1 hx with hx | hx
   · have := h.le x hx; omega
   · rw [List.mem_singleton.1 hx]; omega
 · rcases e0.2.2 with e | e
   · rcases h.at0 with h | ⟨x, hx, h⟩
     · exact .inl (by simp only [upd]; omega)
     · exact .inr ⟨x, List.mem_append_left _ hx, by simp only [upd]; omega⟩
   · exact .inr ⟨c, by simp, by simp only [upd]; omega⟩
 · rcases e1.2.2 with e | e
   · rcases h.at1 with h | ⟨x, hx, h⟩
     · exact .inl (by simp only [upd]; omega)
     · exact .inr ⟨x, List.mem_append_left _ hx, by simp only [upd]; omega⟩
   · exact .inr ⟨c, by simp, by simp only [upd]; omega⟩
 · rcases e2.2.2 with e | e
   · rcases h.at2 with h | ⟨x, hx, h⟩
     · exact .inl (by simp only [upd]; omega)
     · exact .inr ⟨x, List.mem_append_left _ hx, by simp only [upd]; omega⟩
   · exact .inr ⟨c, by simp, by simp only [upd]; omega⟩
theorem j7l (m : Nat) (X Y Z : Int) (F S : List a0a) (b : a0a) {k : Nat} (hk : k < S.length) (ht : c7v S[k]) :
 a4w m N X Y Z F 0 0 0 [] b.1 b.2.1 b.2.2.1 S (k : Int) 0 = a4y m X Y Z F 0 0 0 [] (upd b S[k]).1 (upd b S[k]).2.1 (upd b S[k]).2.2.1 S (IntKind.wrap .i64 ((k : Int) + 1)) := by
 have hb := a1j hk
 have hn : nth a0e S (k : Int) = S[k] := b9l (t := a0e) hk
 unfold c7v at ht
 have w0 := f1w (x := (S[k]).1) (by omega) (by omega)
 have w1 := f1w (x := (S[k]).2.1) (by omega) (by omega)
 have w2 := f1w (x := (S[k]).2.2.1) (by omega) (by omega)
 rw [h8r, b7u]
 show (bif inB (k : Int) S.length then Option.bind (a1i (b.1, (IntKind.wrap .i64 (0 - (nth a0e S (k : Int)).1)), ())) fun r4 => a4w m (N - 4 + 1 + 1 + 1) X Y Z F 0 0 0 [] r4.1 b.2.1 b.2.2.1 S (k : Int) 1 else none) = _
 rw [hb, hn, w0, d6f]
 simp only [cond_true, Option.bind_some]
 rw [b7u]
 show (bif inB (k : Int) S.length then Option.bind (a1i (b.2.1, (IntKind.wrap .i64 (0 - (nth a0e S (k : Int)).2.1)), ())) fun r4 => a4w m (N - 4 + 1 + 1) X Y Z F 0 0 0 [] (mx b.1 (-(S[k]).1)) r4.1 b.2.2.1 S (k : Int) 2 else none) = _
 rw [hb, hn, w1, d6f]
 simp only [cond_true, Option.bind_some]
 rw [b7u]
 show (bif inB (k : Int) S.length then Option.bind (a1i (b.2.2.1, (IntKind.wrap .i64 (0 - (nth a0e S (k : Int)).2.2.1)), ())) fun r4 => a4w m (N - 4 + 1) X Y Z F 0 0 0 [] (mx b.1 (-(S[k]).1)) (mx b.2.1 (-(S[k]).2.1)) r4.1 S (k : Int) 3 else none) = _
 rw [hb, hn, w2, d6f]
 simp only [cond_true, Option.bind_some]
 rw [b7u]
 rfl
noncomputable def i6i (F S : List a0a) (b : a0a) : Option (a0b × Bool × Unit) := a6c N 0 0 0 [] 4 4 4 [] ((F ++ S).map fun c => a1s c b) 0
abbrev noH : a0b := (0, 0, 0, [], ())
theorem j2b {X Y Z : Int} {F S : List a0a} (hF : F.length ≤ 1000) (hS : S.length ≤ 1000) (tF : ∀ c ∈ F, -100000 ≤ c.1 ∧ c.1 ≤ 100000 ∧ -100000 ≤ c.2.1 ∧ c.2.1 ≤ 100000 ∧ -100000 ≤ c.2.2.1 ∧ c.2.2.1 ≤ 100000) (tS : ∀ c ∈ S, -100000 ≤ c.1 ∧ c.1 ≤ 100000 ∧ -100000 ≤ c.2.1 ∧ c.2.1 ≤ 100000 ∧ -100000 ≤ c.2.2.1 ∧ c.2.2.1 ≤ 100000) :
 ∀ (d k m : Nat) (b : a0a), S.length = k + d → d < m → (∀ c ∈ S.take k, c ∉ F) → IsBy (S.take k) b →
 ((∃ c ∈ S, c ∈ F) ∧ a4y m X Y Z F 0 0 0 [] b.1 b.2.1 b.2.2.1 S (k : Int) = some (noH, false, ())) ∨
 ((∀ c ∈ S, c ∉ F) ∧ ∃ b', IsBy S b' ∧ a4y m X Y Z F 0 0 0 [] b.1 b.2.1 b.2.2.1 S (k : Int) = i6i F S b')
 | d, k, 0, b, _, h, _, _ => by omega
 | d, k, m + 1, b, hk, hm, hn, hb => by
  rw [g7c]
  by_cases hlt : k < S.length
  · rw [ltT hlt, a1j hlt, b9l (t := a0e) hlt, i4g _ _ _ _ _ (show Small F by unfold Small; omega)]
    simp only [cond_true, Option.bind_some]
    by_cases hc : S[k] ∈ F
    · rw [decide_eq_true hc]
      exact .inl ⟨⟨_, List.getElem_mem _, hc⟩, rfl⟩
    · rw [decide_eq_false hc]
      simp only [cond_false]
      have ht := tS _ (List.getElem_mem hlt)
      rw [j7l m X Y Z F S b hlt (by unfold c7v; omega), a5v k (by omega)]
      refine j2b hF hS tF tS (d - 1) (k + 1) m _ (by omega) (by omega) (fun c hc' => ?_) ?_
      · rw [List.take_succ_eq_append_getElem hlt, List.mem_append] at hc'
        rcases hc' with hc' | hc'
        · exact hn c hc'
        · rw [List.mem_singleton.1 hc']; exact hc
      · rw [List.take_succ_eq_append_getElem hlt]; exact hb.snoc _
  · rw [ltF hlt]
    rw [List.take_of_length_le (by omega)] at hn hb
    refine .inr ⟨hn, b, hb, ?_⟩
    simp only [cond_false]
    have hbt : c7v b := by
     have := hb.pos
     unfold c7v
     refine ⟨by omega, ?_, by omega, ?_, by omega, ?_⟩
     · rcases hb.at0 with h | ⟨c, hc, h⟩
       · omega
       · have := tS c hc; omega
     · rcases hb.at1 with h | ⟨c, hc, h⟩
       · omega
       · have := tS c hc; omega
     · rcases hb.at2 with h | ⟨c, hc, h⟩
       · omega
       · have := tS c hc; omega
    rw [a2x]
    simp only [Option.bind_some, List.nil_append, List.length_nil]
    rw [h7k (by omega) (by omega), h7k (by omega) (by omega)]
    simp only [cond_true]
    rw [b8q]
    simp only [Option.bind_some]
    rw [show ((b.1, (b.2.1, (b.2.2.1, ()))) : a0a) = b from rfl, g3r (X := X) (Y := Y) (Z := Z) (l := F ++ S) (by unfold Small; rw [List.length_append]; omega) hbt fun c hc => by
     rcases List.mem_append.1 hc with hc | hc
     · have := tF c hc; unfold c7v; omega
     · have := tS c hc; unfold c7v; omega]
    rfl
theorem i5l {M : List a0a} (hM : M.length ≤ 3000) : ∀ (d k m : Nat) (o : List a0a), M.length = k + d → d < m → Srt o → o.length ≤ k → (∀ c, c ∈ o ↔ c ∈ M.take k) → (∀ c ∈ M.take k, a0k 4 4 4 c = true) →
 ((∀ c ∈ M, a0k 4 4 4 c = true) ∧ ∃ o', a6c m 0 0 0 [] 4 4 4 o M (k : Int) = some ((4, 4, 4, o', ()), true, ()) ∧ Srt o' ∧ ∀ c, c ∈ o' ↔ c ∈ M) ∨
 ((¬ ∀ c ∈ M, a0k 4 4 4 c = true) ∧ a6c m 0 0 0 [] 4 4 4 o M (k : Int) = some (noH, false, ()))
 | d, k, 0, o, _, h, _, _, _, _ => by omega
 | d, k, m + 1, o, hk, hm, hr, hol, ho, hw => by
  rw [g1y]
  by_cases hlt : k < M.length
  · rw [ltT hlt, a1j hlt, b9l (t := a0e) hlt, f0e ((4, (4, (4, (o, ())))) : a0b) _ (show sides 4 4 4 = true by decide)]
    simp only [cond_true, Option.bind_some]
    cases hc : a0k 4 4 4 M[k] with
    | false =>
     refine .inr ⟨fun h => ?_, rfl⟩
     have := h _ (List.getElem_mem hlt)
     rw [hc] at this
     cases this
    | true =>
     simp only [Bool.not_true, cond_false]
     obtain ⟨o', e1, e2, e3, e4⟩ := f4i (X := 4) (Y := 4) (Z := 4) hr M[k] (by omega)
     rw [e1]
     simp only [Option.bind_some]
     rw [a5v k (by omega)]
     refine i5l hM (d - 1) (k + 1) m o' (by omega) (by omega) e2 (by omega) (fun c => ?_) fun c hc' => ?_
     · rw [e3, ho, List.take_succ_eq_append_getElem hlt, List.mem_append, List.mem_singleton]
       exact Or.comm
     · rw [List.take_succ_eq_append_getElem hlt, List.mem_append] at hc'
       rcases hc' with hc' | hc'
       · exact hw c hc'
       · rw [List.mem_singleton.1 hc']; exact hc
  · rw [ltF hlt]
    rw [List.take_of_length_le (by omega)] at ho hw
    exact .inl ⟨hw, o, rfl, hr, ho⟩
theorem j9t {X Y Z : Int} {F S : List a0a} (hF : F.length ≤ 1000) (hS : S.length ≤ 1000) (tF : ∀ c ∈ F, -100000 ≤ c.1 ∧ c.1 ≤ 100000 ∧ -100000 ≤ c.2.1 ∧ c.2.1 ≤ 100000 ∧ -100000 ≤ c.2.2.1 ∧ c.2.2.1 ≤ 100000) (tS : ∀ c ∈ S, -100000 ≤ c.1 ∧ c.1 ≤ 100000 ∧ -100000 ≤ c.2.1 ∧ c.2.1 ≤ 100000 ∧ -100000 ≤ c.2.2.1 ∧ c.2.2.1 ≤ 100000) :
 ((∃ c ∈ S, c ∈ F) ∧ a6n ((X, Y, Z, F, ()), S, ()) = some (noH, false, ())) ∨
 ((∀ c ∈ S, c ∉ F) ∧ ∃ b, IsBy S b ∧
   (((∀ c ∈ (F ++ S).map (fun c => a1s c b), a0k 4 4 4 c = true) ∧ ∃ o', a6n ((X, Y, Z, F, ()), S, ()) = some ((4, 4, 4, o', ()), true, ()) ∧ Srt o' ∧ ∀ c, c ∈ o' ↔ c ∈ (F ++ S).map fun c => a1s c b) ∨
    ((¬ ∀ c ∈ (F ++ S).map (fun c => a1s c b), a0k 4 4 4 c = true) ∧ a6n ((X, Y, Z, F, ()), S, ()) = some (noH, false, ())))) := by
 have h := j2b (X := X) (Y := Y) (Z := Z) hF hS tF tS S.length 0 N (0, 0, 0, ()) (by omega) (by have := b6u; omega) (by simp) (by simpa using IsBy.nil)
 rw [show ((0 : Nat) : Int) = 0 from rfl] at h
 rw [h4m]
 rcases h with ⟨h1, h2⟩ | ⟨h1, b, hb, h2⟩
 · exact .inl ⟨h1, h2⟩
 · refine .inr ⟨h1, b, hb, ?_⟩
   have e : a4y N X Y Z F 0 0 0 [] 0 0 0 S 0 = i6i F S b := h2
   rw [e]
   have hM : ((F ++ S).map fun c => a1s c b).length ≤ 3000 := by simp; omega
   have k := i5l hM ((F ++ S).map fun c => a1s c b).length 0 N [] (by omega) (by have := b6u; omega) List.Pairwise.nil (by simp) (by simp) (by simp)
   exact k
end Go.VI
namespace Go.VI
open Go.Proofs
def Strict (l : List a0b) : Prop := l.Pairwise fun a b => a9f a b = true
def g6v (l : List a0b) : Prop := ∀ h ∈ l, Small h.2.2.2.1
theorem j6r {n k : Nat} (h : n ≤ 2000000) (hk : k ≤ 2000000) : (decide ((n + k) * 48 ≤ 140737488355328) && decide (n + k ≤ 140737488355328)) = true := by
 rw [decide_eq_true (by omega), decide_eq_true (by omega)]; rfl
theorem j6m {l : List a0b} (k : Nat) : cut l 0 (k : Int) = l.take k := by simp [cut]
theorem j8b {l : List a0b} (k : Nat) : cut l (k : Int) (l.length : Int) = l.drop k := by simp [cut]
theorem i5n {L : List a0b} (hL : L.length ≤ 100000) {k : Nat} (hk : k ≤ L.length) (h : a0b) :
 (bif (decide ((0 : Int) ≤ 0) && decide ((0 : Int) ≤ (k : Int)) && decide ((k : Int) ≤ (List.length L : Int))) then
       bif (decide (((List.length ([] : List a0b)) + (List.length (cut L 0 (k : Int)))) * 48 ≤ 140737488355328) && decide (((List.length ([] : List a0b)) + (List.length (cut L 0 (k : Int)))) ≤ 140737488355328)) then
        bif (decide (((List.length (([] : List a0b) ++ (cut L 0 (k : Int)))) + (List.length ([(h.1, (h.2.1, (h.2.2.1, (h.2.2.2.1, ()))))] : List a0b))) * 48 ≤ 140737488355328) && decide (((List.length (([] : List a0b) ++ (cut L 0 (k : Int)))) + (List.length ([(h.1, (h.2.1, (h.2.2.1, (h.2.2.2.1, ()))))] : List a0b))) ≤ 140737488355328)) then
         bif (decide ((0 : Int) ≤ (k : Int)) && decide ((k : Int) ≤ (List.length L : Int)) && decide ((List.length L : Int) ≤ (List.length L : Int))) then
          bif (decide (((List.length ((([] : List a0b) ++ (cut L 0 (k : Int))) ++ ([(h.1, (h.2.1, (h.2.2.1, (h.2.2.2.1, ()))))] : List a0b))) + (List.length (cut L (k : Int) (List.length L : Int)))) * 48 ≤ 140737488355328) && decide (((List.length ((([] : List a0b) ++ (cut L 0 (k : Int))) ++ ([(h.1, (h.2.1, (h.2.2.1, (h.2.2.2.1, ()))))] : List a0b))) + (List.length (cut L (k : Int) (List.length L : Int)))) ≤ 140737488355328)) then
           some ((((([] : List a0b) ++ (cut L 0 (k : Int))) ++ ([(h.1, (h.2.1, (h.2.2.1, (h.2.2.2.1, ()))))] : List a0b)) ++ (cut L (k : Int) (List.length L : Int))), ())
          else none
         else none
        else none
       else none
   else none) = some (L.take k ++ [h] ++ L.drop k, ()) := by
 rw [j6m, j8b, decide_eq_true (p := (0 : Int) ≤ (k : Int)) (by omega), decide_eq_true (p := (k : Int) ≤ (L.length : Int)) (by omega), decide_eq_true (p := (L.length : Int) ≤ (L.length : Int)) (by omega)]
 simp only [Bool.and_self, cond_true, List.nil_append, List.length_nil]
 have t1 : (L.take k).length ≤ 100000 := by rw [List.length_take]; omega
 have t2 : (L.drop k).length ≤ 100000 := by rw [List.length_drop]; omega
 rw [j6r (by omega) (by omega), j6r (by omega) (by simp), j6r (by rw [List.length_append]; simp; omega) (by omega)]
 rfl
theorem h2d {L : List a0b} (hs : Strict L) {k : Nat} {h : a0b} (h1 : ∀ x ∈ L.take k, a9f x h = true) (h2 : ∀ x ∈ L.drop k, a9f h x = true) : Strict (L.take k ++ [h] ++ L.drop k) := by
 have hs' : (L.take k ++ L.drop k).Pairwise fun a b => a9f a b = true := by rw [List.take_append_drop]; exact hs
 rw [List.pairwise_append] at hs'
 unfold Strict
 rw [List.pairwise_append, List.pairwise_append]
 refine ⟨⟨hs'.1, by simp, fun a ha b hb => by rw [List.mem_singleton.1 hb]; exact h1 a ha⟩, hs'.2.1, fun a ha b hb => ?_⟩
 rcases List.mem_append.1 ha with ha | ha
 · exact hs'.2.2 a ha b hb
 · rw [List.mem_singleton.1 ha]; exact h2 b hb
theorem j0r {L : List a0b} {h x : a0b} {k : Nat} : x ∈ L.take k ++ [h] ++ L.drop k ↔ x ∈ L ∨ x = h := by
 rw [List.mem_append, List.mem_append, List.mem_singleton]
 conv => rhs; rw [← List.take_append_drop k L, List.mem_append]
 constructor
 · rintro ((a | a) | a)
   · exact .inl (.inl a)
   · exact .inr a
   · exact .inl (.inr a)
 · rintro ((a | a) | a)
   · exact .inl (.inl a)
   · exact .inr a
   · exact .inl (.inr a)
theorem i5q {L : List a0b} (hs : Strict L) (ha : g6v L) (hL : L.length ≤ 100000) {h : a0b} (hh : Small h.2.2.2.1) : ∀ (d k m : Nat), L.length = k + d → d < m → (∀ x ∈ L.take k, a9f x h = true) →
 ∃ L', a9x m h.1 h.2.1 h.2.2.1 h.2.2.2.1 L (k : Int) = some (L', ()) ∧ Strict L' ∧ (∀ x, x ∈ L' ↔ x ∈ L ∨ x = h) ∧ L'.length ≤ L.length + 1
 | d, k, 0, _, h', _ => by omega
 | d, k, m + 1, hk, hm, ht => by
  rw [f8i]
  by_cases hlt : k < L.length
  · have hsm := ha _ (List.getElem_mem hlt)
    have hle : a4q (L[k], (h.1, (h.2.1, (h.2.2.1, (h.2.2.2.1, ())))), ()) = some (a9f L[k] h, ()) := i6y hsm hh
    have hsa : a8a (L[k], (h.1, (h.2.1, (h.2.2.1, (h.2.2.2.1, ())))), ()) = some (e6r L[k] h, ()) := i9x hsm hh
    rw [ltT hlt, a1j hlt, b9l (t := a0f) hlt, hle]
    simp only [cond_true, Option.bind_some]
    cases hl : a9f L[k] h with
    | true =>
     simp only [cond_true]
     rw [a5v k (by omega)]
     refine i5q hs ha hL hh (d - 1) (k + 1) m (by omega) (by omega) fun x hx => ?_
     rw [List.take_succ_eq_append_getElem hlt, List.mem_append] at hx
     rcases hx with hx | hx
     · exact ht x hx
     · rw [List.mem_singleton.1 hx]; exact hl
    | false =>
     simp only [cond_false]
     rw [hsa]
     simp only [Option.bind_some]
     cases hsb : e6r L[k] h with
     | true =>
      have e := sameB_iff.1 hsb
      refine ⟨L, rfl, hs, fun x => ⟨.inl, fun hx => ?_⟩, by omega⟩
      rcases hx with hx | rfl
      · exact hx
      · rw [← e]; exact List.getElem_mem _
     | false =>
      simp only [cond_false]
      rw [i5n hL (by omega)]
      have hgt : a9f h L[k] = true := by
       cases hg : a9f h L[k] with
       | true => rfl
       | false =>
        rw [f2i (d4g hl hg)] at hsb
        cases hsb
      refine ⟨_, rfl, h2d hs ht fun x hx => ?_, fun x => j0r, by simp; omega⟩
      rw [List.drop_eq_getElem_cons hlt] at hx
      rcases List.mem_cons.1 hx with rfl | hx
      · exact hgt
      · have hp := hs
        unfold Strict at hp
        rw [← List.take_append_drop k L, List.pairwise_append, List.drop_eq_getElem_cons hlt, List.pairwise_cons] at hp
        exact c9q hgt (hp.2.1.1 x hx)
  · rw [ltF hlt]
    simp only [cond_false]
    rw [i5n hL (by omega)]
    refine ⟨_, rfl, h2d hs ht fun x hx => ?_, fun x => j0r, by simp; omega⟩
    rw [List.drop_eq_nil_of_le (by omega)] at hx
    cases hx
theorem i6t {L : List a0b} (hs : Strict L) (ha : g6v L) (hL : L.length ≤ 100000) {h : a0b} (hh : Small h.2.2.2.1) : ∃ L', a9z (L, h, ()) = some (L', ()) ∧ Strict L' ∧ (∀ x, x ∈ L' ↔ x ∈ L ∨ x = h) ∧ L'.length ≤ L.length + 1 := by
 rw [g5z]
 exact i5q hs ha hL hh L.length 0 N (by omega) (by have := b6u; omega) (by simp)
theorem f8n : ∀ (a b : List a0b), Strict a → Strict b → (∀ x, x ∈ a ↔ x ∈ b) → a = b
 | [], [], _, _, _ => rfl
 | [], y :: b, _, _, h => by have := (h y).2 (by simp); simp at this
 | x :: a, [], _, _, h => by have := (h x).1 (by simp); simp at this
 | x :: a, y :: b, sa, sb, h => by
  have hxy : x = y := by
   rcases List.mem_cons.1 ((h x).1 (by simp)) with e | e
   · exact e
   rcases List.mem_cons.1 ((h y).2 (by simp)) with e' | e'
   · exact e'.symm
   have h1 := (List.pairwise_cons.1 sb).1 x e
   have h2 := (List.pairwise_cons.1 sa).1 y e'
   have := c9q h2 h1
   rw [b4g] at this
   cases this
  subst hxy
  have hna : x ∉ a := fun e => by have := (List.pairwise_cons.1 sa).1 x e; rw [b4g] at this; cases this
  have hnb : x ∉ b := fun e => by have := (List.pairwise_cons.1 sb).1 x e; rw [b4g] at this; cases this
  congr 1
  refine f8n a b (List.pairwise_cons.1 sa).2 (List.pairwise_cons.1 sb).2 fun z => ?_
  constructor
  · intro hz
    rcases List.mem_cons.1 ((h z).1 (by simp [hz])) with rfl | e
    · exact absurd hz hna
    · exact e
  · intro hz
    rcases List.mem_cons.1 ((h z).2 (by simp [hz])) with rfl | e
    · exact absurd hz hnb
    · exact e
end Go.VI
namespace Go.VI
open Go.Proofs
set_option maxRecDepth 100000
abbrev mv (S : List a0a) (v : a0a) : List a0a := S.map fun c => a1s c v
def j7g (F S : List a0a) (v : a0a) : Prop := (∀ c ∈ mv S v, c ∉ F) ∧ Whole (F ++ mv S v)
structure Cor (F : List a0a) : Prop where
 ne : F ≠ []
 len : F.length ≤ 3
 le : ∀ c ∈ F, 0 ≤ c.1 ∧ c.1 ≤ 3 ∧ 0 ≤ c.2.1 ∧ c.2.1 ≤ 3 ∧ 0 ≤ c.2.2.1 ∧ c.2.2.1 ≤ 3
 at0 : ∃ c ∈ F, c.1 = 0
 at1 : ∃ c ∈ F, c.2.1 = 0
 at2 : ∃ c ∈ F, c.2.2.1 = 0
def e9p (v : a0a) : Prop := -4 ≤ v.1 ∧ v.1 ≤ 4 ∧ -4 ≤ v.2.1 ∧ v.2.1 ≤ 4 ∧ -4 ≤ v.2.2.1 ∧ v.2.2.1 ≤ 4
theorem j2y {S : List a0a} (hS : Cor S) {v : a0a} (hv : e9p v) : ∀ c ∈ mv S v, -4 ≤ c.1 ∧ c.1 ≤ 7 ∧ -4 ≤ c.2.1 ∧ c.2.1 ≤ 7 ∧ -4 ≤ c.2.2.1 ∧ c.2.2.1 ≤ 7 := fun c hc => by
 obtain ⟨d, hd, rfl⟩ := List.mem_map.1 hc
 have := hS.le d hd
 unfold e9p at hv
 simp only [a1s]; omega
theorem fits {F S : List a0a} (hF : Cor F) {b : a0a} (hb : IsBy S b) (hc : Close (F ++ S)) : ∀ c ∈ (F ++ S).map (fun c => a1s c b), a0k 4 4 4 c = true := fun c hm => by
 obtain ⟨d, hd, rfl⟩ := List.mem_map.1 hm
 have hp := hb.pos
 have h1 : 0 ≤ d.1 + b.1 ∧ 0 ≤ d.2.1 + b.2.1 ∧ 0 ≤ d.2.2.1 + b.2.2.1 := by
  rcases List.mem_append.1 hd with hd | hd
  · have := hF.le d hd; omega
  · have := hb.le d hd; omega
 have u0 : d.1 + b.1 ≤ 3 := by
  rcases hb.at0 with h | ⟨s, hs, h⟩
  · obtain ⟨f, hf, e⟩ := hF.at0
    have := hc d hd f (List.mem_append_left _ hf); omega
  · have := hc d hd s (List.mem_append_right _ hs); omega
 have u1 : d.2.1 + b.2.1 ≤ 3 := by
  rcases hb.at1 with h | ⟨s, hs, h⟩
  · obtain ⟨f, hf, e⟩ := hF.at1
    have := hc d hd f (List.mem_append_left _ hf); omega
  · have := hc d hd s (List.mem_append_right _ hs); omega
 have u2 : d.2.2.1 + b.2.2.1 ≤ 3 := by
  rcases hb.at2 with h | ⟨s, hs, h⟩
  · obtain ⟨f, hf, e⟩ := hF.at2
    have := hc d hd f (List.mem_append_left _ hf); omega
  · have := hc d hd s (List.mem_append_right _ hs); omega
 rw [within3_iff]; simp only [a1s]; omega
theorem join_step {X Y Z X' Y' Z' : Int} {F S : List a0a} (hF : Cor F) (hS : Cor S) (h4 : F.length + S.length ≤ 4) {v : a0a} (hv : e9p v) :
 a2z ((X', Y', Z', S, ()), v, ()) = some (mv S v, ()) ∧
 ((∃ B ps, a6n ((X, Y, Z, F, ()), mv S v, ()) = some (B, true, ()) ∧ a8p (B, ()) = some (ps, ()) ∧ (ps.length = 1 ↔ j7g F S v) ∧ a3q (B, ()) = some (b1r (F ++ mv S v), ()) ∧ Small (b1r (F ++ mv S v)).2.2.2.1) ∨
  (a6n ((X, Y, Z, F, ()), mv S v, ()) = some (noH, false, ()) ∧ ¬ j7g F S v)) := by
 have hlF := hF.len
 have hlS := hS.len
 have hmv := j2y hS hv
 have hlm : (mv S v).length = S.length := by simp [mv]
 refine ⟨g3r (by unfold Small; omega) (by unfold e9p at hv; unfold c7v; omega) (fun c hc => by have := hS.le c hc; unfold c7v; omega), ?_⟩
 rcases j9t (X := X) (Y := Y) (Z := Z) (F := F) (S := mv S v) (by omega) (by omega) (fun c hc => by have := hF.le c hc; omega) (fun c hc => by have := hmv c hc; omega) with ⟨⟨c, hc, hcF⟩, e⟩ | ⟨hno, b, hb, h⟩
 · exact .inr ⟨e, fun h => h.1 c hc hcF⟩
 rcases h with ⟨hw, o, e, hr, hm⟩ | ⟨hw, e⟩
 · have g : GoodH 4 4 4 o := ⟨by decide, fun c hc => hw c ((hm c).1 hc), hr, fun h0 => by
    obtain ⟨f, hf⟩ := List.exists_mem_of_ne_nil F hF.ne
    have := (hm (a1s f b)).2 (List.mem_map_of_mem (List.mem_append_left _ hf))
    rw [h0] at this
    cases this⟩
   obtain ⟨ps, hp, hpt⟩ := i6d g.sides g.ins g.srt
   have hf : b1r o = b1r (F ++ mv S v) := by rw [d6e hm, d6g]
   refine .inl ⟨_, ps, e, hp, ?_, by rw [h5v g, hf], ?_⟩
   · rw [g4k hpt g.ne]
     constructor
     · intro hwo
       exact ⟨hno, g8b (hwo.set hm)⟩
     · intro hh
       exact (hh.2.map (i0p b)).set fun c => (hm c).symm
   · rw [← hf]
     have hk := e6i g
     obtain ⟨i, hi, ei⟩ : ∃ i, i < 24 ∧ b1r o = a8w (tAt i) o := by
      unfold b1r c7e
      have key : ∀ (l : List a0b) (a : a0b), (∃ i, i < 24 ∧ a = a8w (tAt i) o) → (∀ x ∈ l, ∃ i, i < 24 ∧ x = a8w (tAt i) o) → ∃ i, i < 24 ∧ j6z i1s l a = a8w (tAt i) o := by
       intro l
       induction l with
       | nil => intro a ha _; exact ha
       | cons x l ih =>
        intro a ha hl
        show ∃ i, i < 24 ∧ j6z i1s l (if i1s x a < 0 then x else a) = a8w (tAt i) o
        refine ih _ ?_ fun y hy => hl y (by simp [hy])
        split
        · exact hl x (by simp)
        · exact ha
      refine key _ _ ⟨0, by omega, rfl⟩ fun x hx => ?_
      obtain ⟨i, hi, rfl⟩ := List.mem_map.1 (List.mem_of_mem_drop hx)
      exact ⟨i, List.mem_range.1 hi, rfl⟩
     rw [ei]
     exact f7i g (i1r _ (f7f hi))
 · refine .inr ⟨e, fun hh => hw ?_⟩
   exact fits hF hb (c0y hh.2 (by rw [List.length_append, hlm]; exact h4))
structure Sr (out : List a0b) (P : a0b → Prop) (n : Nat) : Prop where
 strict : Strict out
 small : g6v out
 mem : ∀ x, x ∈ out ↔ P x
 len : out.length ≤ n
def Hit (F S : List a0a) (v : a0a) (x : a0b) : Prop := j7g F S v ∧ x = b1r (F ++ mv S v)
theorem Sr.congr {out : List a0b} {P Q : a0b → Prop} {n m : Nat} (h : Sr out P n) (e : ∀ x, P x ↔ Q x) (hnm : n ≤ m) : Sr out Q m := ⟨h.strict, h.small, fun x => by rw [h.mem, e], Nat.le_trans h.len hnm⟩
section
variable {X Y Z X1 Y1 Z1 X2 Y2 Z2 : Int} {l F S : List a0a} (hF : Cor F) (hS : Cor S) (h4 : F.length + S.length ≤ 4) (T : List a0c) (k : Int)
include hF hS h4
theorem j6k (m0 m1 m2 : Nat) {x y : Int} (hx : -4 ≤ x ∧ x ≤ 4) (hy : -4 ≤ y ∧ y ≤ 4) : ∀ (d m : Nat) (z : Int) (out : List a0b) (P : a0b → Prop) (n : Nat), z = 5 - (d : Int) → d ≤ 9 → d < m → n + d ≤ 100000 → Sr out P n →
 ∃ out', Sr out' (fun h => P h ∨ ∃ w, z ≤ w ∧ w ≤ 4 ∧ Hit F S (x, y, w, ()) h) (n + d) ∧ a2i m0 m1 m2 m X Y Z l X1 Y1 Z1 F X2 Y2 Z2 S out T k x y z = a3d m0 m1 m2 X Y Z l X1 Y1 Z1 F X2 Y2 Z2 S out' T k x (IntKind.wrap .i64 (y + 1))
 | d, 0, z, out, P, n, _, _, h, _, _ => by omega
 | d, m + 1, z, out, P, n, hz, hd, hm, hn, hs => by
  rw [f1q]
  by_cases hle : z ≤ 4
  · obtain ⟨e1, h⟩ := join_step (X := X1) (Y := Y1) (Z := Z1) (X' := X2) (Y' := Y2) (Z' := Z2) hF hS h4 (v := (x, y, z, ())) (by unfold e9p; simp only; omega)
    have e1' : a2z ((X2, (Y2, (Z2, (S, ())))), (x, (y, (z, ()))), ()) = _ := e1
    rw [decide_eq_true hle, e1']
    simp only [cond_true, Option.bind_some]
    have hw : IntKind.wrap .i64 (z + 1) = z + 1 := w64 (by omega) (by omega)
    have split : ∀ hh : a0b, (∃ w, z ≤ w ∧ w ≤ 4 ∧ Hit F S (x, y, w, ()) hh) ↔ (Hit F S (x, y, z, ()) hh ∨ ∃ w, z + 1 ≤ w ∧ w ≤ 4 ∧ Hit F S (x, y, w, ()) hh) := fun hh => by
     constructor
     · rintro ⟨w, w1, w2, w3⟩
       by_cases hwz : w = z
       · exact .inl (hwz ▸ w3)
       · exact .inr ⟨w, by omega, w2, w3⟩
     · rintro (w3 | ⟨w, w1, w2, w3⟩)
       · exact ⟨z, by omega, hle, w3⟩
       · exact ⟨w, by omega, w2, w3⟩
    have none' : ¬ j7g F S (x, y, z, ()) → ∃ out', Sr out' (fun h => P h ∨ ∃ w, z ≤ w ∧ w ≤ 4 ∧ Hit F S (x, y, w, ()) h) (n + d) ∧ a2i m0 m1 m2 m X Y Z l X1 Y1 Z1 F X2 Y2 Z2 S out T k x y (IntKind.wrap .i64 (z + 1)) = a3d m0 m1 m2 X Y Z l X1 Y1 Z1 F X2 Y2 Z2 S out' T k x (IntKind.wrap .i64 (y + 1)) := fun hno => by
     rw [hw]
     obtain ⟨out', o1, o2⟩ := j6k m0 m1 m2 hx hy (d - 1) m (z + 1) out P n (by omega) (by omega) (by omega) (by omega) hs
     refine ⟨out', o1.congr (fun hh => ?_) (by omega), o2⟩
     rw [split hh]
     constructor
     · rintro (a | a)
       · exact .inl a
       · exact .inr (.inr a)
     · rintro (a | a | a)
       · exact .inl a
       · exact absurd a.1 hno
       · exact .inr a
    rcases h with ⟨B, ps, f1, f2, f3, f4, f5⟩ | ⟨f1, f2⟩
    · rw [f1]
      simp only [Option.bind_some, cond_true]
      rw [f2]
      simp only [Option.bind_some]
      by_cases hone : ps.length = 1
      · rw [decide_eq_true (p := (ps.length : Int) = 1) (by omega)]
        simp only [cond_true]
        rw [f4]
        simp only [Option.bind_some]
        obtain ⟨L', g1, g2, g3, g4⟩ := i6t hs.strict hs.small (by have := hs.len; omega) f5
        rw [g1]
        simp only [Option.bind_some]
        rw [hw]
        have hlen := hs.len
        obtain ⟨out', o1, o2⟩ := j6k m0 m1 m2 hx hy (d - 1) m (z + 1) L' (fun hh => P hh ∨ hh = b1r (F ++ mv S (x, y, z, ()))) (n + 1) (by omega) (by omega) (by omega) (by omega) ⟨g2, fun a ha => by
         rcases (g3 a).1 ha with ha | rfl
         · exact hs.small a ha
         · exact f5, fun a => by rw [g3, hs.mem], by omega⟩
        refine ⟨out', o1.congr (fun hh => ?_) (by omega), o2⟩
        rw [split hh]
        have hc := f3.1 hone
        constructor
        · rintro ((a | a) | a)
          · exact .inl a
          · exact .inr (.inl ⟨hc, a⟩)
          · exact .inr (.inr a)
        · rintro (a | a | a)
          · exact .inl (.inl a)
          · exact .inl (.inr a.2)
          · exact .inr a
      · rw [decide_eq_false (p := (ps.length : Int) = 1) (by omega)]
        simp only [cond_false]
        exact none' fun hc => hone (f3.2 hc)
    · rw [f1]
      simp only [Option.bind_some, cond_false]
      exact none' f2
  · rw [decide_eq_false hle]
    refine ⟨out, hs.congr (fun hh => ⟨.inl, fun h => ?_⟩) (by omega), rfl⟩
    rcases h with h | ⟨w, w1, w2, _⟩
    · exact h
    · omega
theorem j8z (m0 m1 : Nat) {x : Int} (hx : -4 ≤ x ∧ x ≤ 4) : ∀ (d m : Nat) (y : Int) (out : List a0b) (P : a0b → Prop) (n : Nat), y = 5 - (d : Int) → d ≤ 9 → d < m → n + d * 9 ≤ 100000 → Sr out P n →
 ∃ out', Sr out' (fun h => P h ∨ ∃ u w, y ≤ u ∧ u ≤ 4 ∧ -4 ≤ w ∧ w ≤ 4 ∧ Hit F S (x, u, w, ()) h) (n + d * 9) ∧ a3d m0 m1 m X Y Z l X1 Y1 Z1 F X2 Y2 Z2 S out T k x y = a4o m0 m1 X Y Z l X1 Y1 Z1 F X2 Y2 Z2 S out' T k (IntKind.wrap .i64 (x + 1))
 | d, 0, y, out, P, n, _, _, h, _, _ => by omega
 | d, m + 1, y, out, P, n, hy, hd, hm, hn, hs => by
  rw [f1j]
  by_cases hle : y ≤ 4
  · rw [decide_eq_true hle]
    simp only [cond_true]
    obtain ⟨o1, a1, a2⟩ := j6k (X := X) (Y := Y) (Z := Z) (X1 := X1) (Y1 := Y1) (Z1 := Z1) (X2 := X2) (Y2 := Y2) (Z2 := Z2) (l := l) hF hS h4 T k m0 m1 m (x := x) (y := y) hx (by omega) 9 N (-4) out P n (by omega) (by omega) (by have := b6u; omega) (by omega) hs
    rw [a2, w64 (x := y + 1) (by omega) (by omega)]
    obtain ⟨o2, b1, b2⟩ := j8z m0 m1 hx (d - 1) m (y + 1) o1 _ (n + 9) (by omega) (by omega) (by omega) (by omega) a1
    refine ⟨o2, b1.congr (fun hh => ?_) (by omega), b2⟩
    constructor
    · rintro ((a | ⟨w, w1, w2, w3⟩) | ⟨u, w, u1, u2, w1, w2, w3⟩)
      · exact .inl a
      · exact .inr ⟨y, w, by omega, hle, w1, w2, w3⟩
      · exact .inr ⟨u, w, by omega, u2, w1, w2, w3⟩
    · rintro (a | ⟨u, w, u1, u2, w1, w2, w3⟩)
      · exact .inl (.inl a)
      · by_cases huy : u = y
        · exact .inl (.inr ⟨w, w1, w2, huy ▸ w3⟩)
        · exact .inr ⟨u, w, by omega, u2, w1, w2, w3⟩
  · rw [decide_eq_false hle]
    refine ⟨out, hs.congr (fun hh => ⟨.inl, fun h => ?_⟩) (by omega), rfl⟩
    rcases h with h | ⟨u, w, w1, w2, _⟩
    · exact h
    · omega
theorem j9i (m0 : Nat) : ∀ (d m : Nat) (x : Int) (out : List a0b) (P : a0b → Prop) (n : Nat), x = 5 - (d : Int) → d ≤ 9 → d < m → n + d * 81 ≤ 100000 → Sr out P n →
 ∃ out', Sr out' (fun h => P h ∨ ∃ v, e9p v ∧ x ≤ v.1 ∧ Hit F S v h) (n + d * 81) ∧ a4o m0 m X Y Z l X1 Y1 Z1 F X2 Y2 Z2 S out T k x = a5r m0 X Y Z l X1 Y1 Z1 F out' T (IntKind.wrap .i64 (k + 1))
 | d, 0, x, out, P, n, _, _, h, _, _ => by omega
 | d, m + 1, x, out, P, n, hx, hd, hm, hn, hs => by
  rw [f0j]
  by_cases hle : x ≤ 4
  · rw [decide_eq_true hle]
    simp only [cond_true]
    obtain ⟨o1, a1, a2⟩ := j8z (X := X) (Y := Y) (Z := Z) (X1 := X1) (Y1 := Y1) (Z1 := Z1) (X2 := X2) (Y2 := Y2) (Z2 := Z2) (l := l) hF hS h4 T k m0 m (x := x) (by omega) 9 N (-4) out P n (by omega) (by omega) (by have := b6u; omega) (by omega) hs
    rw [a2, w64 (x := x + 1) (by omega) (by omega)]
    obtain ⟨o2, b1, b2⟩ := j9i m0 (d - 1) m (x + 1) o1 _ (n + 9 * 9) (by omega) (by omega) (by omega) (by omega) a1
    refine ⟨o2, b1.congr (fun hh => ?_) (by omega), b2⟩
    constructor
    · rintro ((a | ⟨u, w, u1, u2, w1, w2, w3⟩) | ⟨v, v1, v2, v3⟩)
      · exact .inl a
      · exact .inr ⟨(x, u, w, ()), by unfold e9p; simp only; omega, by simp, w3⟩
      · exact .inr ⟨v, v1, by omega, v3⟩
    · rintro (a | ⟨v, v1, v2, v3⟩)
      · exact .inl (.inl a)
      · by_cases hvx : v.1 = x
        · unfold e9p at v1
          exact .inl (.inr ⟨v.2.1, v.2.2.1, by omega, by omega, by omega, by omega, by rw [← hvx]; exact v3⟩)
        · exact .inr ⟨v, v1, by omega, v3⟩
  · rw [decide_eq_false hle]
    refine ⟨out, hs.congr (fun hh => ⟨.inl, fun h => ?_⟩) (by omega), rfl⟩
    rcases h with h | ⟨v, v1, v2, _⟩
    · exact h
    · unfold e9p at v1; omega
end
end Go.VI
namespace Go.VI
open Go.Proofs
set_option maxRecDepth 100000
def xf (a b : Int) : Int := bif decide (a = 1) then (bif decide (b = 1) then 0 else 1) else (bif decide (b = 1) then 1 else 0)
def i5g (s t : a0c) : a0c := ((a8y t.1 s.1.1, a8y t.1 s.1.2.1, a8y t.1 s.1.2.2.1, ()), (xf s.2.1.1 (a8y t.2.1 s.1.1), xf s.2.1.2.1 (a8y t.2.1 s.1.2.1), xf s.2.1.2.2.1 (a8y t.2.1 s.1.2.2.1), ()), ())
theorem i3z (t : a0c) (c : a0a) (f : Int) : a8y (tl t c) f = bif decide (a8y t.2.1 f = 1) then -a8y c (a8y t.1 f) else a8y c (a8y t.1 f) := by
 show (bif decide (f = 0) then (tl t c).1 else bif decide (f = 1) then (tl t c).2.1 else (tl t c).2.2.1) = bif decide ((bif decide (f = 0) then t.2.1.1 else bif decide (f = 1) then t.2.1.2.1 else t.2.1.2.2.1) = 1) then -a8y c (bif decide (f = 0) then t.1.1 else bif decide (f = 1) then t.1.2.1 else t.1.2.2.1) else a8y c (bif decide (f = 0) then t.1.1 else bif decide (f = 1) then t.1.2.1 else t.1.2.2.1)
 cases decide (f = 0) <;> cases decide (f = 1) <;> rfl
theorem j6w (a b x : Int) : (bif decide (a = 1) then -(bif decide (b = 1) then -x else x) else (bif decide (b = 1) then -x else x)) = bif decide (xf a b = 1) then -x else x := by
 unfold xf
 cases decide (a = 1) <;> cases decide (b = 1) <;> simp
theorem j8x (s t : a0c) (c : a0a) : tl s (tl t c) = tl (i5g s t) c := by
 refine a5q ?_ ?_ ?_
 · show (bif decide (s.2.1.1 = 1) then -a8y (tl t c) s.1.1 else a8y (tl t c) s.1.1) = _
   rw [i3z, j6w]; rfl
 · show (bif decide (s.2.1.2.1 = 1) then -a8y (tl t c) s.1.2.1 else a8y (tl t c) s.1.2.1) = _
   rw [i3z, j6w]; rfl
 · show (bif decide (s.2.1.2.2.1 = 1) then -a8y (tl t c) s.1.2.2.1 else a8y (tl t c) s.1.2.2.1) = _
   rw [i3z, j6w]; rfl
def eqA (c d : a0a) : Bool := decide (c.1 = d.1) && (decide (c.2.1 = d.2.1) && decide (c.2.2.1 = d.2.2.1))
theorem j5r {c d : a0a} (h : eqA c d = true) : c = d := by
 simp only [eqA, Bool.and_eq_true, decide_eq_true_eq] at h
 exact a5q h.1 h.2.1 h.2.2
def eqT (s t : a0c) : Bool := eqA s.1 t.1 && eqA s.2.1 t.2.1
theorem i6b {s t : a0c} (h : eqT s t = true) : s = t := by
 simp only [eqT, Bool.and_eq_true] at h
 obtain ⟨a, b, ⟨⟩⟩ := s
 obtain ⟨a', b', ⟨⟩⟩ := t
 rw [show a = a' from j5r h.1, show b = b' from j5r h.2]
abbrev idT : a0c := ((0, 1, 2, ()), (0, 0, 0, ()), ())
abbrev h2f : a0c := ((0, 1, 2, ()), (1, 0, 0, ()), ())
theorem i3r {p : a0c → Bool} (h : T24.any p = true) : ∃ u ∈ T24, p u = true := List.any_eq_true.1 h
theorem j1u : ∀ s ∈ T24, ∀ t ∈ T24, i5g s t ∈ T24 := by
 have h : (T24.all fun s => T24.all fun t => T24.any fun u => eqT (i5g s t) u) = true := by kernel_rfl
 intro s hs t ht
 obtain ⟨u, hu, e⟩ := i3r (List.all_eq_true.1 (List.all_eq_true.1 h s hs) t ht)
 rw [i6b e]; exact hu
theorem k0c : ∀ s ∈ T24, ∃ t ∈ T24, i5g t s = idT := by
 have h : (T24.all fun s => T24.any fun t => eqT (i5g t s) idT) = true := by kernel_rfl
 intro s hs
 obtain ⟨t, ht, e⟩ := i3r (List.all_eq_true.1 h s hs)
 exact ⟨t, ht, i6b e⟩
theorem j2d : ∀ s ∈ T24, ∃ u ∈ T24, i5g h2f s = i5g u h2f := by
 have h : (T24.all fun s => T24.any fun u => eqT (i5g h2f s) (i5g u h2f)) = true := by kernel_rfl
 intro s hs
 obtain ⟨t, ht, e⟩ := i3r (List.all_eq_true.1 h s hs)
 exact ⟨t, ht, i6b e⟩
theorem k1d : i5g h2f h2f = idT := i6b (by kernel_rfl)
theorem j4t (c : a0a) : tl idT c = c := rfl
theorem h5c {s t : a0c} (h : i5g t s = idT) (c : a0a) : tl t (tl s c) = c := by rw [j8x, h, j4t]
theorem f4s (l : List a0a) : ∀ (T : List a0c) (b : a0b), (i1t l T b = b ∨ ∃ t ∈ T, i1t l T b = a8w t l) ∧ a9f b (i1t l T b) = false ∧ ∀ t ∈ T, a9f (a8w t l) (i1t l T b) = false
 | [], b => ⟨.inl rfl, b4g b, fun t h => by cases h⟩
 | t :: T, b => by
  have e : i1t l (t :: T) b = i1t l T (if a9f (a8w t l) b = true then a8w t l else b) := rfl
  rw [e]
  by_cases h : a9f (a8w t l) b = true
  · rw [if_pos h]
    obtain ⟨i1, i2, i3⟩ := f4s l T (a8w t l)
    refine ⟨?_, ?_, fun u hu => ?_⟩
    · rcases i1 with i1 | ⟨u, hu, i1⟩
      · exact .inr ⟨t, by simp, i1⟩
      · exact .inr ⟨u, by simp [hu], i1⟩
    · cases hb : a9f b (i1t l T (a8w t l)) with
      | false => rfl
      | true => rw [c9q h hb] at i2; cases i2
    · rcases List.mem_cons.1 hu with rfl | hu
      · exact i2
      · exact i3 u hu
  · rw [if_neg h]
    have h' : a9f (a8w t l) b = false := by simpa using h
    obtain ⟨i1, i2, i3⟩ := f4s l T b
    refine ⟨?_, i2, fun u hu => ?_⟩
    · rcases i1 with i1 | ⟨u, hu, i1⟩
      · exact .inl i1
      · exact .inr ⟨u, by simp [hu], i1⟩
    · rcases List.mem_cons.1 hu with rfl | hu
      · cases hb : a9f (a8w u l) (i1t l T b) with
        | false => rfl
        | true =>
         cases hc : a9f b (a8w u l) with
         | true => rw [c9q hc hb] at i2; cases i2
         | false => rw [d4g h' hc, i2] at hb; cases hb
      · exact i3 u hu
theorem h6b (l : List a0a) : ∃ t ∈ T24, b1r l = a8w t l := by
 rw [j1i]
 rcases (f4s l (T24.drop 1) (a8w (tAt 0) l)).1 with h | ⟨t, ht, h⟩
 · exact ⟨tAt 0, f7f (by omega), h⟩
 · exact ⟨t, List.mem_of_mem_drop ht, h⟩
theorem j4r (l : List a0a) : ∀ t ∈ T24, a9f (a8w t l) (b1r l) = false := fun t ht => by
 rw [j1i]
 obtain ⟨_, h2, h3⟩ := f4s l (T24.drop 1) (a8w (tAt 0) l)
 have eT : T24 = tAt 0 :: T24.drop 1 := rfl
 rw [eT] at ht
 rcases List.mem_cons.1 ht with rfl | ht
 · exact h2
 · exact h3 t ht
theorem j4e {l l' : List a0a} (h : ∀ t ∈ T24, ∃ u ∈ T24, a8w t l = a8w u l') (k : ∀ t ∈ T24, ∃ u ∈ T24, a8w t l' = a8w u l) : b1r l = b1r l' := by
 obtain ⟨t, ht, e⟩ := h6b l
 obtain ⟨t', ht', e'⟩ := h6b l'
 obtain ⟨u, hu, a⟩ := h t ht
 obtain ⟨u', hu', a'⟩ := k t' ht'
 refine d4g ?_ ?_
 · rw [e, a]; exact j4r l' u hu
 · rw [e', a']; exact j4r l u' hu'
theorem d4t (s t : a0c) (l : List a0a) : (l.map (tl t)).map (tl s) = l.map (tl (i5g s t)) := by
 rw [List.map_map]; exact List.map_congr_left fun c _ => j8x s t c
theorem j1x (l : List a0a) : l.map (tl idT) = l := (List.map_congr_left fun c _ => j4t c).trans (List.map_id l)
theorem h4o {t : a0c} (ht : t ∈ T24) (l : List a0a) : b1r (l.map (tl t)) = b1r l := by
 refine j4e (fun s hs => ⟨i5g s t, j1u s hs t ht, ?_⟩) fun u hu => ?_
 · unfold a8w; rw [d4t]
 · obtain ⟨t', ht', e⟩ := k0c t ht
   refine ⟨i5g u t', j1u u hu t' ht', ?_⟩
   unfold a8w
   rw [← d4t u t', d4t t' t, e, j1x]
noncomputable def g1s (l : List a0a) : a0b := b1r (l.map (tl h2f))
theorem i9y {t : a0c} (ht : t ∈ T24) (l : List a0a) : g1s (l.map (tl t)) = g1s l := by
 obtain ⟨u, hu, e⟩ := j2d t ht
 unfold g1s
 rw [d4t, e, ← d4t, h4o hu]
theorem map_set {l l' : List a0a} (e : ∀ c, c ∈ l ↔ c ∈ l') (f : a0a → a0a) : ∀ c, c ∈ l.map f ↔ c ∈ l'.map f := fun c => by
 simp only [List.mem_map]
 exact ⟨fun ⟨d, h1, h2⟩ => ⟨d, (e d).1 h1, h2⟩, fun ⟨d, h1, h2⟩ => ⟨d, (e d).2 h1, h2⟩⟩
theorem j3b {l l' : List a0a} (e : ∀ c, c ∈ l ↔ c ∈ l') : g1s l = g1s l' := d6e (map_set e _)
theorem j4g {l : List a0a} (v : a0a) : g1s (l.map fun c => a1s c v) = g1s l := by
 unfold g1s
 rw [List.map_map, show (tl h2f ∘ fun c => a1s c v) = (fun c => a1s c (tl h2f v)) ∘ tl h2f from funext fun c => j5e h2f c v, ← List.map_map]
 exact d6g _
theorem h4l {l : List a0a} {k : a0b} (h : Nrm l k) : ∃ v, ∀ c, c ∈ k.2.2.2.1.map (fun c => a1s c v) ↔ c ∈ l := by
 obtain ⟨v, hv⟩ := h.moved
 refine ⟨v, fun c => ?_⟩
 rw [List.mem_map]
 constructor
 · rintro ⟨d, hd, rfl⟩; exact (hv d).1 hd
 · intro hc
   exact ⟨a1s c (negC v), (hv _).2 (by rw [a4j]; exact hc), a4j ..⟩
theorem i6r {l : List a0a} {k : a0b} (h : Nrm l k) : g1s k.2.2.2.1 = g1s l := by
 obtain ⟨v, hv⟩ := h4l h
 rw [← j4g v]; exact j3b hv
theorem j4c (l : List a0a) : g1s (l.map (tl h2f)) = b1r l := by
 unfold g1s
 rw [d4t, k1d, j1x]
theorem j1k {t : a0c} (ht : t ∈ T24) {c d : a0a} (h : tl t c = tl t d) : c = d := by
 obtain ⟨t', _, e⟩ := k0c t ht
 rw [← h5c e c, h, h5c e d]
theorem f2f {l : List a0a} {k : a0b} (h : Nrm l k) (hn : l.Nodup) : l.length ≤ k.2.2.2.1.length := by
 obtain ⟨v, hv⟩ := h4l h
 have := c2j hn fun c hc => (hv c).2 hc
 simpa using this
theorem f5o {f : a0a → a0a} (hf : ∀ c d, f c = f d → c = d) : ∀ {l : List a0a}, l.Nodup → (l.map f).Nodup
 | [], _ => by simp
 | x :: l, h => by
  rw [List.nodup_cons] at h
  rw [List.map_cons, List.nodup_cons]
  refine ⟨fun hm => ?_, f5o hf h.2⟩
  obtain ⟨y, hy, e⟩ := List.mem_map.1 hm
  exact h.1 (hf _ _ e ▸ hy)
theorem h3n {X Y Z : Int} {l : List a0a} (g : GoodH X Y Z l) : ∃ t ∈ T24, Nrm (l.map (tl t)) (b1r l) := by
 obtain ⟨t, ht, e⟩ := h6b l
 obtain ⟨h', k, _, _, hk⟩ := i9q (i1r t ht) g.sides g.ins g.small g.ne
 refine ⟨t, ht, ?_⟩
 rw [e]
 unfold a8w
 rw [a7e hk]; exact hk
theorem i0f {X Y Z : Int} {l : List a0a} (g : GoodH X Y Z l) (w : Whole l) : GoodH (b1r l).1 (b1r l).2.1 (b1r l).2.2.1 (b1r l).2.2.2.1 ∧ Whole (b1r l).2.2.2.1 ∧ (b1r l).2.2.2.1.length = l.length ∧ b1r (b1r l).2.2.2.1 = b1r l ∧ g1s (b1r l).2.2.2.1 = g1s l := by
 obtain ⟨t, ht, hk⟩ := h3n g
 have hc := c5i (a7k g.sides g.ins) (i1r t ht)
 have h1 := d1q hk
 have h2 := f2f hk (f5o (fun c d e => j1k ht e) g.srt.nodup)
 rw [List.length_map] at h1 h2
 have hp : 0 < l.length := List.length_pos_iff.2 g.ne
 obtain ⟨s1, s2⟩ : sides (b1r l).1 (b1r l).2.1 (b1r l).2.2.1 = true ∧ Ins (b1r l).1 (b1r l).2.1 (b1r l).2.2.1 (b1r l).2.2.2.1 := by
  obtain ⟨lo, hi, a⟩ := hk; exact a.ok hc
 have s3 : Srt (b1r l).2.2.2.1 := by obtain ⟨lo, hi, a⟩ := hk; exact a.srt
 refine ⟨⟨s1, s2, s3, fun e => ?_⟩, d4j hk (w.map (i9l (j4d t ht))), by omega, ?_, ?_⟩
 · rw [e, List.length_nil] at h2; omega
 · rw [d7o hk, h4o ht]
 · rw [i6r hk, i9y ht]
end Go.VI
namespace Go.VI
open Go.Proofs
set_option maxRecDepth 100000
theorem e2e {l : List a0a} {k : a0b} (h : Nrm l k) (hc : Close l) (hl : l.length ≤ 3) : Cor k.2.2.2.1 := by
 have hlen := d1q h
 obtain ⟨lo, hi, a⟩ := h
 obtain ⟨h1, h2⟩ := a.ok hc
 obtain ⟨p, p1, p2⟩ := a.low.at0; obtain ⟨q, q1, q2⟩ := a.low.at1; obtain ⟨r, r1, r2⟩ := a.low.at2
 have back : ∀ c ∈ l, a1s c (negC lo) ∈ k.2.2.2.1 := fun c hc => (a.mem _).2 (by rw [a4j]; exact hc)
 refine ⟨fun e => ?_, by omega, fun c hc => ?_, ⟨_, back p p1, by simp [a1s, negC]; omega⟩, ⟨_, back q q1, by simp [a1s, negC]; omega⟩, ⟨_, back r r1, by simp [a1s, negC]; omega⟩⟩
 · have := back p p1
   rw [e] at this
   cases this
 · have := sides_iff.1 h1
   have := within3_iff.1 (h2 c hc)
   omega
theorem k1j {X Y Z X1 Y1 Z1 : Int} {l F : List a0a} (g : GoodH X Y Z l) (hF : Cor F) (h4 : F.length + l.length ≤ 4) (h3 : l.length ≤ 3) {T : List a0c} (hT : ∀ t ∈ T, OkT t) (hl : T.length ≤ 24) : ∀ (d k m : Nat) (out : List a0b) (P : a0b → Prop), T.length = k + d → d < m → Sr out P (k * 729) →
 ∃ out', Sr out' (fun h => P h ∨ ∃ t ∈ T.drop k, ∃ v, e9p v ∧ Hit F (a8w t l).2.2.2.1 v h) (T.length * 729) ∧ a5r m X Y Z l X1 Y1 Z1 F out T (k : Int) = some (out', true, ())
 | d, k, 0, out, P, _, h, _ => by omega
 | d, k, m + 1, out, P, hk, hm, hs => by
  rw [f2l]
  by_cases hlt : k < T.length
  · have ht := hT _ (List.getElem_mem hlt)
    obtain ⟨h', p, e1, e2, hp⟩ := i5o ht g.sides g.ins g.small g.ne
    have ep : a8w T[k] l = p := a7e hp
    have hcp := e2e hp (c5i (a7k g.sides g.ins) ht) (by simpa using h3)
    have hpl := d1q hp
    rw [List.length_map] at hpl
    rw [ltT hlt, a1j hlt, b9l (t := a1h) hlt]
    simp only [cond_true]
    rw [e1]
    simp only [Option.bind_some]
    rw [e2]
    simp only [Option.bind_some]
    obtain ⟨o1, a1, a2⟩ := j9i (X := X) (Y := Y) (Z := Z) (X1 := X1) (Y1 := Y1) (Z1 := Z1) (X2 := p.1) (Y2 := p.2.1) (Z2 := p.2.2.1) (l := l) (S := p.2.2.2.1) hF hcp (by omega) T (k : Int) m 9 N (-4) out P (k * 729) (by omega) (by omega) (by have := b6u; omega) (by omega) hs
    rw [a2, a5v k (by omega)]
    obtain ⟨o2, b1, b2⟩ := k1j (X1 := X1) (Y1 := Y1) (Z1 := Z1) g hF h4 h3 hT hl (d - 1) (k + 1) m o1 _ (by omega) (by omega) (a1.congr (fun _ => Iff.rfl) (by omega))
    refine ⟨o2, b1.congr (fun hh => ?_) (Nat.le_refl _), b2⟩
    rw [List.drop_eq_getElem_cons hlt]
    constructor
    · rintro ((a | ⟨v, v1, _, v3⟩) | ⟨t, t1, v, v1, v3⟩)
      · exact .inl a
      · exact .inr ⟨T[k], List.mem_cons_self .., v, v1, by rw [ep]; exact v3⟩
      · exact .inr ⟨t, List.mem_cons_of_mem _ t1, v, v1, v3⟩
    · rintro (a | ⟨t, t1, v, v1, v3⟩)
      · exact .inl (.inl a)
      · rcases List.mem_cons.1 t1 with rfl | t1
        · rw [ep] at v3
          exact .inl (.inr ⟨v, v1, by unfold e9p at v1; omega, v3⟩)
        · exact .inr ⟨t, t1, v, v1, v3⟩
  · rw [ltF hlt]
    refine ⟨out, hs.congr (fun hh => ⟨.inl, fun h => ?_⟩) (by omega), rfl⟩
    rcases h with h | ⟨t, t1, _⟩
    · exact h
    · rw [List.drop_eq_nil_of_le (by omega)] at t1
      cases t1
def One (h : a0b) : Prop := e3m h = true ∧ h.2.2.2.1 ≠ [] ∧ Whole h.2.2.2.1
theorem i6s (h : a0b) (hl : Small h.2.2.2.1) : ∃ b, b3c (h, ()) = some (b, ()) ∧ (b = true ↔ One h) := by
 obtain ⟨X, Y, Z, l, ⟨⟩⟩ := h
 rw [h4w, h5l, f2v _ hl]
 simp only [Option.bind_some]
 cases ho : e3m (X, Y, Z, l, ()) with
 | false => exact ⟨false, rfl, by simp [One, ho]⟩
 | true =>
  obtain ⟨hs, hi, hr⟩ := okHeap_iff.1 ho
  simp only [cond_true]
  by_cases hne : l = []
  · subst hne
    exact ⟨false, rfl, by simp [One]⟩
  · have hpos : 0 < l.length := List.length_pos_iff.2 hne
    rw [decide_eq_true (p := (List.length l : Int) > 0) (by omega)]
    simp only [Option.bind_some, cond_true]
    obtain ⟨ps, e1, e2⟩ := i6d hs hi hr
    rw [e1]
    simp only [Option.bind_some]
    refine ⟨_, rfl, ?_⟩
    rw [decide_eq_true_eq]
    constructor
    · intro e; exact ⟨ho, hne, (g4k e2 hne).1 (by omega)⟩
    · intro e; have := (g4k e2 hne).2 e.2.2; omega
theorem g3n (h : a0b) (hl : Small h.2.2.2.1) : ∃ b, a3v (h, ()) = some (b, ()) ∧ (b = true ↔ One h) := by
 obtain ⟨X, Y, Z, l, ⟨⟩⟩ := h
 rw [g5a, b7w _ hl]
 simp only [Option.bind_some]
 cases ho : e3m (X, Y, Z, l, ()) with
 | false => exact ⟨false, rfl, by simp [One, ho]⟩
 | true =>
  obtain ⟨hs, hi, hr⟩ := okHeap_iff.1 ho
  simp only [cond_true]
  rw [a6x, g0o hs hl hi]
  simp only [Option.bind_some]
  have h64 := a4n hs hi hr
  obtain ⟨vs, e1, _, e3⟩ := f0w hs hi 64 N l [] h64 (by have := b6u; omega) (by omega) (by simp) hr (fun c h => h) (fun _ _ d hd _ => hd)
  have e1' : b9r ((X, Y, Z, ()), ((mask Y Z l 0).toNat : Int), ()) = some (vs.map (fun w => ((w.toNat : Nat) : Int)), ()) := by
   rw [g6b]
   simpa using e1
  rw [e1']
  simp only [Option.bind_some, List.length_map]
  refine ⟨_, rfl, ?_⟩
  rw [decide_eq_true_eq]
  by_cases hne : l = []
  · subst hne
    have : vs = [] := by
     cases vs with
     | nil => rfl
     | cons v vs => cases e3
    subst this
    simp [One]
  · have e4 := g4k e3 hne
    rw [List.length_map] at e4
    constructor
    · intro e; exact ⟨ho, hne, e4.1 (by omega)⟩
    · intro e; have := e4.2 e.2.2; omega
theorem j7y {X Y Z X' Y' Z' : Int} {lg lh : List a0a} (hg : One (X, Y, Z, lg, ())) (hh : One (X', Y', Z', lh, ())) (h4 : lg.length + lh.length ≤ 4) :
 ∃ R, a4d ((X, Y, Z, lg, ()), (X', Y', Z', lh, ()), ()) = some (R, true, ()) ∧ Sr R (fun x => ∃ t ∈ T24, ∃ v, e9p v ∧ Hit (h3d lg).2.2.2.1 (a8w t lh).2.2.2.1 v x) 17496 := by
 obtain ⟨og, ng, wg⟩ := hg
 obtain ⟨oh, nh, wh⟩ := hh
 obtain ⟨sg, ig, rg⟩ := okHeap_iff.1 og
 obtain ⟨sh, ih, rh⟩ := okHeap_iff.1 oh
 simp only at sg ig rg sh ih rh ng nh wg wh
 have gg : GoodH X Y Z lg := ⟨sg, ig, rg, ng⟩
 have gh : GoodH X' Y' Z' lh := ⟨sh, ih, rh, nh⟩
 have pg : 0 < lg.length := List.length_pos_iff.2 ng
 have ph : 0 < lh.length := List.length_pos_iff.2 nh
 obtain ⟨b1, e1, k1⟩ := i6s (X, Y, Z, lg, ()) gg.small
 obtain ⟨b2, e2, k2⟩ := i6s (X', Y', Z', lh, ()) gh.small
 have t1 : b1 = true := k1.2 ⟨og, ng, wg⟩
 have t2 : b2 = true := k2.2 ⟨oh, nh, wh⟩
 subst t1; subst t2
 rw [e0d, e1]
 simp only [Option.bind_some, Bool.not_true, cond_false]
 rw [e2]
 simp only [Option.bind_some, Bool.not_true, cond_false]
 rw [w64 (by omega) (by omega), decide_eq_false (by omega)]
 simp only [cond_false]
 obtain ⟨K, c1, c2⟩ := h5q (X := X) (Y := Y) (Z := Z) gg.small rg gg.tame ng
 rw [c1]
 simp only [Option.bind_some]
 rw [i5t]
 simp only [Option.bind_some]
 have hF := e2e c2 (a7k sg ig) (by omega)
 have hFl := d1q c2
 obtain ⟨R, r1, r2⟩ := k1j (X1 := K.1) (Y1 := K.2.1) (Z1 := K.2.2.1) (F := K.2.2.2.1) gh hF (by omega) (by omega) i1r (by decide) T24.length 0 N [] (fun _ => False) (by omega) (by have := b6u; have : T24.length = 24 := rfl; omega) ⟨List.Pairwise.nil, (fun a ha => by cases ha), (fun x => by simp), by simp⟩
 refine ⟨R, r2, r1.congr (fun x => ?_) (Nat.le_refl _)⟩
 rw [List.drop_zero, a7e c2]
 simp
end Go.VI
namespace Go.VI
open Go.Proofs
set_option maxRecDepth 100000
theorem j1l {l : List a0a} (hl : Small l) (c : a0a) : ∀ (d k m : Nat), l.length = k + d → d < m → (∀ x ∈ l.take k, x ≠ c) →
 ∃ r : Int, a2e m c.1 c.2.1 c.2.2.1 l (l.length : Int) (k : Int) = some (r, ()) ∧ (r ≥ 0 ↔ c ∈ l)
 | d, k, 0, _, h, _ => by omega
 | d, k, m + 1, hk, hm, hn => by
  have h1 := hl
  unfold Small at h1
  rw [c4r]
  by_cases hlt : k < l.length
  · rw [ltT hlt, a1j hlt, b9l (t := a0e) hlt, j8i]
    simp only [cond_true]
    by_cases e : c = l[k]
    · rw [decide_eq_true e]
      exact ⟨_, rfl, ⟨fun _ => by rw [e]; exact List.getElem_mem _, fun _ => by omega⟩⟩
    · rw [decide_eq_false e, a5v k (by omega)]
      refine j1l hl c (d - 1) (k + 1) m (by omega) (by omega) fun x hx => ?_
      rw [List.take_succ_eq_append_getElem hlt, List.mem_append] at hx
      rcases hx with hx | hx
      · exact hn x hx
      · rw [List.mem_singleton.1 hx]; exact fun e' => e e'.symm
  · rw [ltF hlt]
    rw [List.take_of_length_le (by omega)] at hn
    exact ⟨_, rfl, ⟨fun h => by simp at h, fun h => absurd rfl (hn c h)⟩⟩
theorem h2m {l : List a0a} (hl : Small l) (c : a0a) : a1b (l, c, ()) = some (decide (c ∈ l), ()) := by
 obtain ⟨r, e, h⟩ := j1l hl c l.length 0 N (by omega) (by unfold Small at hl; have := b6u; omega) (by simp)
 have e' : a2n (l, c, ()) = some (r, ()) := by rw [c9c]; exact e
 rw [c2w, e']
 simp only [Option.bind_some]
 by_cases hc : c ∈ l
 · rw [decide_eq_true (h.2 hc), decide_eq_true hc]
 · rw [decide_eq_false (fun k => hc (h.1 k)), decide_eq_false hc]
noncomputable def VJ (F : List a0a) : JoinV where
 add := fun c d => (IntKind.wrap .i64 (c.1 + d.1), IntKind.wrap .i64 (c.2.1 + d.2.1), IntKind.wrap .i64 (c.2.2.1 + d.2.2.1), ())
 bey := fun d f => match a3t (d, (f : Int), ()) with
  | some r => r.1
  | none => d
 has := fun d => decide (d ∈ F)
 hof := h3d
 frm := fun h => b1r h.2.2.2.1
theorem j4m (d : a0a) {f : Nat} (hf : f < 6) : ∃ r, a3t (d, (f : Int), ()) = some (r, ()) := by
 rcases six hf with rfl | rfl | rfl | rfl | rfl | rfl
 · rw [b0g]; exact ⟨_, rfl⟩
 · rw [b0g]; exact ⟨_, rfl⟩
 · rw [b0g]; exact ⟨_, rfl⟩
 · rw [b0g]; exact ⟨_, rfl⟩
 · rw [b0g]; exact ⟨_, rfl⟩
 · rw [b0g]; exact ⟨_, rfl⟩
theorem i9t (F : List a0a) (d : a0a) {f : Nat} (hf : f < 6) : a3t (d, (f : Int), ()) = some ((VJ F).bey d f, ()) := by
 obtain ⟨r, e⟩ := j4m d hf
 rw [e]
 show some (r, ()) = some ((match a3t (d, (f : Int), ()) with | some r => r.1 | none => d), ())
 rw [e]
theorem g8n (F : List a0a) {d : a0a} (hd : e6t d) {f : Nat} (hf : f < 6) : (VJ F).bey d f = stp f d := by
 have h := i9t F d hf
 rw [j2w d hd f hf] at h
 simpa using h.symm
theorem k0f (F : List a0a) {c d : a0a} (hc : c7v c) (hd : c7v d) : (VJ F).add c d = a1s c d := by
 have h := f_add hc hd
 rw [e3z] at h
 simpa [VJ] using h
theorem i2y (n : Nat) (h : n < 729) : e9p (byN n) := by
 unfold e9p byN
 simp only
 omega
theorem j5w {v : a0a} (h : e9p v) : ∃ n < 729, byN n = v := by
 unfold e9p at h
 refine ⟨((v.1 + 4) + 9 * (v.2.1 + 4) + 81 * (v.2.2.1 + 4)).toNat, by omega, ?_⟩
 unfold byN
 exact a5q (by simp only; omega) (by simp only; omega) (by simp only; omega)
section
variable {F S : List a0a} (hF : Cor F) (hS : Cor S)
include hS
theorem j7j {v : a0a} (hv : e9p v) : (S.map fun c => (VJ F).add c v) = mv S v := by
 refine List.map_congr_left fun c hc => ?_
 have := hS.le c hc
 unfold e9p at hv
 exact k0f F (by unfold c7v; omega) (by unfold c7v; omega)
theorem g3k {v : a0a} (hv : e9p v) : (VJ F).cells F S v = F ++ mv S v := by
 unfold JoinV.cells
 rw [j7j hS hv]
theorem i5z {v : a0a} (hv : e9p v) : (VJ F).clash S v = true ↔ ∃ c ∈ mv S v, c ∈ F := by
 have e : (VJ F).clash S v = (S.map fun c => (VJ F).add c v).any fun c => (VJ F).has c := by unfold JoinV.clash; rw [List.any_map]; rfl
 rw [e, j7j hS hv, List.any_eq_true]
 simp [VJ]
theorem j3i {v : a0a} (hv : e9p v) : (VJ F).touch S v = true ↔ ∃ c ∈ mv S v, ∃ d ∈ F, nb c d := by
 have e : (VJ F).touch S v = (S.map fun c => (VJ F).add c v).any fun c => (VJ F).touchF c 6 := by unfold JoinV.touch; rw [List.any_map]; rfl
 rw [e, j7j hS hv, List.any_eq_true]
 have key : ∀ c ∈ mv S v, ((VJ F).touchF c 6 = true ↔ ∃ d ∈ F, nb c d) := fun c hc => by
  have hn : e6t c := by have := j2y hS hv c hc; unfold e6t; omega
  unfold JoinV.touchF
  rw [List.any_eq_true]
  constructor
  · rintro ⟨f, hf, h⟩
    have hf6 := List.mem_range.1 hf
    rw [g8n F hn hf6] at h
    exact ⟨stp f c, of_decide_eq_true h, f, hf6, rfl⟩
  · rintro ⟨d, hd, f, hf, rfl⟩
    exact ⟨f, List.mem_range.2 hf, by rw [g8n F hn hf]; exact decide_eq_true hd⟩
 constructor
 · rintro ⟨c, hc, h⟩; exact ⟨c, hc, (key c hc).1 h⟩
 · rintro ⟨c, hc, h⟩; exact ⟨c, hc, (key c hc).2 h⟩
include hF
theorem h5d (wF : Whole F) (wS : Whole S) {v : a0a} (hv : e9p v) : (VJ F).keep S v = true ↔ j7g F S v := by
 unfold JoinV.keep
 rw [Bool.and_eq_true, Bool.not_eq_true', j3i hS hv]
 have hcl : (VJ F).clash S v = false ↔ ∀ c ∈ mv S v, c ∉ F := by
  constructor
  · intro h c hc hcF
    have := (i5z hS hv).2 ⟨c, hc, hcF⟩
    rw [h] at this
    cases this
  · intro h
    cases hb : (VJ F).clash S v with
    | false => rfl
    | true =>
     obtain ⟨c, hc, hcF⟩ := (i5z hS hv).1 hb
     exact absurd hcF (h c hc)
 rw [hcl]
 constructor
 · rintro ⟨⟨c, hc, d, hd, hn⟩, hno⟩
   exact ⟨hno, e6a wF (wS.map (i0p v)) hc hd hn⟩
 · rintro ⟨hno, hw⟩
   obtain ⟨f, hf⟩ := List.exists_mem_of_ne_nil F hF.ne
   obtain ⟨s, hs⟩ := List.exists_mem_of_ne_nil S hS.ne
   exact ⟨i8a hw hf (List.mem_map_of_mem hs) hno, hno⟩
theorem i9c (wF : Whole F) (wS : Whole S) : ∃ v, e9p v ∧ j7g F S v := by
 obtain ⟨s, hs, es⟩ := hS.at0
 have hmax : ∀ (l : List a0a), l ≠ [] → ∃ f ∈ l, ∀ c ∈ l, c.1 ≤ f.1 := by
  intro l
  induction l with
  | nil => intro h; exact absurd rfl h
  | cons a l ih =>
   intro _
   by_cases hl : l = []
   · subst hl; exact ⟨a, by simp, fun c hc => by rw [List.mem_singleton.1 hc]; omega⟩
   · obtain ⟨f, hf, h⟩ := ih hl
     by_cases hc : f.1 ≤ a.1
     · exact ⟨a, by simp, fun c hc' => by
        rcases List.mem_cons.1 hc' with rfl | hc'
        · omega
        · have := h c hc'; omega⟩
     · exact ⟨f, by simp [hf], fun c hc' => by
        rcases List.mem_cons.1 hc' with rfl | hc'
        · omega
        · exact h c hc'⟩
 obtain ⟨f, hf, hm⟩ := hmax F hF.ne
 have h1 := hF.le f hf
 have h2 := hS.le s hs
 have hv : e9p (f.1 + 1 - s.1, f.2.1 - s.2.1, f.2.2.1 - s.2.2.1, ()) := by unfold e9p; simp only; omega
 refine ⟨_, hv, ?_⟩
 have hno : ∀ c ∈ mv S (f.1 + 1 - s.1, f.2.1 - s.2.1, f.2.2.1 - s.2.2.1, ()), c ∉ F := fun c hc hcF => by
  obtain ⟨x, hx, rfl⟩ := List.mem_map.1 hc
  have := hm _ hcF
  have := hS.le x hx
  simp only [a1s] at *
  omega
 refine ⟨hno, e6a wF (wS.map (i0p _)) (s := a1s s (f.1 + 1 - s.1, f.2.1 - s.2.1, f.2.2.1 - s.2.2.1, ())) (f := f) (List.mem_map_of_mem hs) hf ?_⟩
 rw [nb_iff]; simp only [a1s]; omega
end
theorem j7o {X Y Z : Int} {F l : List a0a} (g : GoodH X Y Z l) (hF : Cor F) (wF : Whole F) (wl : Whole l) (h4 : F.length + l.length ≤ 4) (h3 : l.length ≤ 3) :
 JoinOK (VJ F) F ((List.range T24.length).map fun i => a8w (tAt i) l) ∧ (∀ x, x ∈ (VJ F).cands F ((List.range T24.length).map fun i => a8w (tAt i) l) ↔ ∃ t ∈ T24, ∃ v, e9p v ∧ Hit F (a8w t l).2.2.2.1 v x) := by
 have hpos : ∀ t ∈ T24, Cor (a8w t l).2.2.2.1 ∧ Whole (a8w t l).2.2.2.1 ∧ (a8w t l).2.2.2.1.length ≤ l.length := fun t ht => by
  obtain ⟨h', p, _, _, hp⟩ := i5o (i1r t ht) g.sides g.ins g.small g.ne
  have ep : a8w t l = p := a7e hp
  have hl := d1q hp
  rw [List.length_map] at hl
  rw [ep]
  exact ⟨e2e hp (c5i (a7k g.sides g.ins) (i1r t ht)) (by simpa using h3), d4j hp (wl.map (i9l (j4d t ht))), hl⟩
 have hmem : ∀ h, h ∈ (List.range T24.length).map (fun i => a8w (tAt i) l) ↔ ∃ t ∈ T24, h = a8w t l := fun h => by
  rw [List.mem_map]
  constructor
  · rintro ⟨i, hi, rfl⟩; exact ⟨tAt i, f7f (List.mem_range.1 hi), rfl⟩
  · rintro ⟨t, ht, rfl⟩
    obtain ⟨i, hi, rfl⟩ := List.getElem_of_mem ht
    exact ⟨i, List.mem_range.2 hi, by rw [i5m (List.getElem?_eq_getElem hi)]⟩
 have hlF := hF.len
 have hin : ∀ c ∈ F, 0 ≤ c.1 ∧ c.1 ≤ 3 ∧ 0 ≤ c.2.1 ∧ c.2.1 ≤ 3 ∧ 0 ≤ c.2.2.1 ∧ c.2.2.1 ≤ 3 := hF.le
 have key : ∀ t ∈ T24, ∀ v, e9p v → j7g F (a8w t l).2.2.2.1 v → ∃ K, a2l (F ++ mv (a8w t l).2.2.2.1 v, ()) = some (K, ()) ∧ Nrm (F ++ mv (a8w t l).2.2.2.1 v) K ∧ GoodH K.1 K.2.1 K.2.2.1 K.2.2.2.1 := fun t ht v hv hh => by
  obtain ⟨hS, _, hSl⟩ := hpos t ht
  have hlen : (F ++ mv (a8w t l).2.2.2.1 v).length ≤ 4 := by simp [mv]; omega
  have hc := c0y hh.2 hlen
  have hmv := j2y hS hv
  have hne : F ++ mv (a8w t l).2.2.2.1 v ≠ [] := by simp [hF.ne]
  obtain ⟨K, k1, k2⟩ := i6v (l := F ++ mv (a8w t l).2.2.2.1 v) (by unfold Small; omega) hc (fun c hc => by
   rcases List.mem_append.1 hc with hc | hc
   · have := hin c hc; omega
   · have := hmv c hc; omega) hne
  obtain ⟨lo, hi, a⟩ := k2
  obtain ⟨s1, s2⟩ := a.ok hc
  refine ⟨K, k1, ⟨lo, hi, a⟩, s1, s2, a.srt, fun e => ?_⟩
  obtain ⟨c, hcm⟩ := List.exists_mem_of_ne_nil _ hne
  have := (a.mem (a1s c (negC lo))).2 (by rw [a4j]; exact hcm)
  rw [e] at this
  cases this
 refine ⟨⟨by omega, by rw [List.length_map, List.length_range]; decide, fun h hh => ?_, fun c d => by rw [e3z]; rfl, fun d f hf => i9t F d hf, fun d => h2m (by unfold Small; omega) d, fun h hh n hn hk => ?_, fun h hh n hn hk => ?_⟩, fun x => ?_⟩
 · obtain ⟨t, ht, rfl⟩ := (hmem h).1 hh
   have := (hpos t ht).2.2
   omega
 · obtain ⟨t, ht, rfl⟩ := (hmem h).1 hh
   obtain ⟨hS, wS, _⟩ := hpos t ht
   have hv := i2y n hn
   have hh' := (h5d hF hS wF wS hv).1 hk
   obtain ⟨K, k1, k2, _⟩ := key t ht _ hv hh'
   rw [g3k hS hv, k1]
   show some (K, ()) = some (h3d _, ())
   rw [a7e k2]
 · obtain ⟨t, ht, rfl⟩ := (hmem h).1 hh
   obtain ⟨hS, wS, _⟩ := hpos t ht
   have hv := i2y n hn
   have hh' := (h5d hF hS wF wS hv).1 hk
   obtain ⟨K, k1, k2, k3⟩ := key t ht _ hv hh'
   have e : (VJ F).hof ((VJ F).cells F (a8w t l).2.2.2.1 (byN n)) = K := by
    rw [g3k hS hv]
    exact a7e k2
   rw [e]
   exact ⟨T24, _, _, _, _, e6i k3, rfl⟩
 · unfold JoinV.cands
   rw [List.mem_flatMap]
   constructor
   · rintro ⟨h, hh, hx⟩
     obtain ⟨t, ht, rfl⟩ := (hmem h).1 hh
     obtain ⟨hS, wS, _⟩ := hpos t ht
     unfold JoinV.candS at hx
     obtain ⟨n, hn, hc⟩ := List.mem_filterMap.1 hx
     have hn' := List.mem_range.1 hn
     have hv := i2y n hn'
     unfold JoinV.cand at hc
     by_cases hk : (VJ F).keep (a8w t l).2.2.2.1 (byN n) = true
     · rw [if_pos hk] at hc
       have hh' := (h5d hF hS wF wS hv).1 hk
       obtain ⟨K, k1, k2, _⟩ := key t ht _ hv hh'
       refine ⟨t, ht, byN n, hv, hh', ?_⟩
       have hc' := Option.some.inj hc
       rw [← hc', g3k hS hv]
       show b1r (h3d _).2.2.2.1 = _
       rw [a7e k2, d7o k2]
     · rw [if_neg hk] at hc; cases hc
   · rintro ⟨t, ht, v, hv, hh', rfl⟩
     obtain ⟨hS, wS, _⟩ := hpos t ht
     obtain ⟨n, hn, rfl⟩ := j5w hv
     refine ⟨a8w t l, (hmem _).2 ⟨t, ht, rfl⟩, ?_⟩
     unfold JoinV.candS
     refine List.mem_filterMap.2 ⟨n, List.mem_range.2 hn, ?_⟩
     obtain ⟨K, k1, k2, _⟩ := key t ht _ hv hh'
     unfold JoinV.cand
     rw [if_pos ((h5d hF hS wF wS hv).2 hh'), g3k hS hv]
     show some (b1r (h3d _).2.2.2.1) = _
     rw [a7e k2, d7o k2]
theorem j7u {X Y Z : Int} {F l : List a0a} (g : GoodH X Y Z l) (hF : Cor F) (wF : Whole F) (wl : Whole l) (h3 : l.length ≤ 3) : ∃ x, ∃ t ∈ T24, ∃ v, e9p v ∧ Hit F (a8w t l).2.2.2.1 v x := by
 have ht : tAt 0 ∈ T24 := f7f (by omega)
 obtain ⟨h', p, _, _, hp⟩ := i5o (i1r _ ht) g.sides g.ins g.small g.ne
 have ep : a8w (tAt 0) l = p := a7e hp
 obtain ⟨v, hv, hh⟩ := i9c hF (e2e hp (c5i (a7k g.sides g.ins) (i1r _ ht)) (by simpa using h3)) wF (d4j hp (wl.map (i9l (j4d _ ht))))
 exact ⟨_, tAt 0, ht, v, hv, ep ▸ hh, rfl⟩
end Go.VI
