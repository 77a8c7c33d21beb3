/- Plain: the walk over the parts of a heap. -/
import Derived.Test.YtaopponjedombaaGreatPlU
namespace Go.VI
open Go.Proofs

theorem l_p11 {X Y Z : Int} {l L0 lf0 nr pt : List D_A3} {c0 c : D_A3} {n : Nat} (hs : sides X Y Z = true) (hl : ∀ x ∈ L0, x ∈ l) (hL : Srt L0) (h64 : L0.length ≤ 64) (hnr : nr.Nodup) (hc : ∀ x ∈ nr, nb c x) (hlen : nr.length ≤ 64) (ps : List (List D_A3)) (m0 m1 : Nat) :
    ∀ (d k m : Nat) (ls lf : List D_A3), nr.length = k + d → d < m → Part l L0 c0 n (n + 1) ls lf pt → ls[n]? = some c → (∀ x ∈ lf, x ∈ lf0) → (∀ x ∈ nr.take k, x ∉ lf) → (∀ x ∈ nr.drop k, x ∈ lf) →
    ∃ ls' lf', l_spec_l2Parts_11 m0 m1 m X Y Z l X Y Z lf X Y Z pt ps ls (n : Int) nr (k : Int) = l_spec_l2Parts_6 m0 m1 X Y Z l X Y Z lf' X Y Z pt ps ls' ((n + 1 : Nat) : Int) ∧ Part l L0 c0 n (n + 1) ls' lf' pt ∧ (∀ x ∈ lf', x ∈ lf0) ∧ (∀ x ∈ nr, x ∉ lf') ∧ ls'[n]? = some c
  | d, k, 0, ls, lf, _, h, _, _, _, _, _ => by omega
  | d, k, m + 1, ls, lf, hk, hm, hP, hn, h0, h1, h2 => by
    have hle := hP.len hL
    have hlt0 : n < ls.length := (List.getElem?_eq_some_iff.1 hn).1
    rw [q_spec_l2Parts_11]
    by_cases hlt : k < nr.length
    · rw [ltT hlt, inB_at hlt, nthA (t := T_A3) hlt, app_len' (by omega), succI k (by omega), f_without lf nr[k] (by omega)]
      simp only [cond_true, Option.bind_some]
      have hx : nr[k] ∈ lf := h2 _ (by rw [drop_at nr k hlt]; exact List.mem_cons_self ..)
      have hP' := hP.take hl (List.mem_of_getElem? hn) hx (hc _ (List.getElem_mem hlt)) (by omega) (by omega)
      refine l_p11 hs hl hL h64 hnr hc hlen ps m0 m1 (d - 1) (k + 1) m _ _ (by omega) (by omega) hP' (by rw [List.getElem?_append_left hlt0]; exact hn) (fun x hx => h0 x (List.mem_filter.1 hx).1) (fun x hx hh => ?_) (fun x hx => ?_)
      · rw [List.take_add_one, List.getElem?_eq_getElem hlt] at hx
        have hh' := List.mem_filter.1 hh
        rcases List.mem_append.1 hx with hx | hx
        · exact h1 x hx hh'.1
        · rw [show x = nr[k] by simpa using hx] at hh'
          simp at hh'
      · have hd : nr.drop k = nr[k] :: nr.drop (k + 1) := drop_at nr k hlt
        have hnd : (nr.drop k).Nodup := hnr.sublist (List.drop_sublist k nr)
        rw [hd] at hnd
        have hne : x ≠ nr[k] := fun e => (List.nodup_cons.1 hnd).1 (e ▸ hx)
        exact List.mem_filter.2 ⟨h2 x (by rw [hd]; exact List.mem_cons_of_mem _ hx), by simp [hne]⟩
    · rw [ltF hlt, succI n (by omega)]
      refine ⟨ls, lf, rfl, hP, h0, fun x hx => h1 x (by rw [List.take_of_length_le (by omega)]; exact hx), hn⟩

theorem l_p6 {X Y Z : Int} {l L0 : List D_A3} {c0 : D_A3} (hs : sides X Y Z = true) (hi : Ins X Y Z l) (hl : ∀ x ∈ L0, x ∈ l) (hL : Srt L0) (h64 : L0.length ≤ 64) (ps : List (List D_A3)) (hps : ps.length ≤ 1000) (m0 : Nat) :
    ∀ (d n m : Nat) (ls lf pt : List D_A3), L0.length = n + d → d < m → Part l L0 c0 n n ls lf pt → n ≤ ls.length →
    ∃ ls' lf' pt', l_spec_l2Parts_6 m0 m X Y Z l X Y Z lf X Y Z pt ps ls (n : Int) = l_spec_l2Parts_2 m0 X Y Z l X Y Z lf' (ps ++ [pt']) ∧ Part l L0 c0 ls'.length ls'.length ls' lf' pt'
  | d, n, 0, ls, lf, pt, _, h, _, _ => by omega
  | d, n, m + 1, ls, lf, pt, hk, hm, hP, hn => by
    have hle := hP.len hL
    rw [q_spec_l2Parts_6]
    by_cases hlt : n < ls.length
    · have hcm : ls[n] ∈ ls := List.getElem_mem hlt
      have hin : ∀ x ∈ L0, Near x := fun x hx => near_of hs (hi x (hl x hx))
      have hptl : pt.length ≤ 64 := srt_small64 hs (fun x hx => hi x (hl x (hP.lsub x (List.mem_of_mem_take ((hP.pmem x).1 hx))))) hP.psrt
      obtain ⟨pt', g1, g2, g3, g4⟩ := f_l2With (X := X) (Y := Y) (Z := Z) hP.psrt ls[n] (by omega)
      rw [ltT hlt, inB_at hlt, nthA (t := T_A3) hlt, g1, f_nearL (X := X) (Y := Y) (Z := Z) (l := lf) (by omega) (fun x hx => hin x (hP.sub x hx)) (hin _ (hP.lsub _ hcm))]
      simp only [cond_true, Option.bind_some]
      have hpm : ∀ x, x ∈ pt' ↔ x ∈ ls.take (n + 1) := fun x => by
        rw [g3, hP.pmem, List.take_add_one, List.getElem?_eq_getElem hlt, List.mem_append]
        simp only [Option.toList_some, List.mem_singleton]
        exact or_comm
      have hP1 : Part l L0 c0 n (n + 1) ls lf pt' := { hP with psrt := g2, pmem := hpm }
      have hnr : (lf.filter (nbB ls[n])).Nodup := (hP.srt.filter _).nodup
      obtain ⟨ls', lf', e1, e2, e3, e4, e5⟩ := l_p11 (lf0 := lf) (nr := lf.filter (nbB ls[n])) (c := ls[n]) hs hl hL h64 hnr (fun x hx => (nbB_iff _ _).1 (List.mem_filter.1 hx).2) (Nat.le_trans (List.length_filter_le _ _) (by omega)) ps m0 m (lf.filter (nbB ls[n])).length 0 N ls lf (by omega) (by have := List.length_filter_le (nbB ls[n]) lf; have := N_ge; omega) hP1 (List.getElem?_eq_getElem hlt) (fun x hx => hx) (by simp) (fun x hx => (List.mem_filter.1 (by simpa using hx)).1)
      have e1' : l_spec_l2Parts_11 m0 m N X Y Z l X Y Z lf X Y Z pt' ps ls (n : Int) (lf.filter (nbB ls[n])) 0 = _ := e1
      rw [e1']
      have hlt' : n < ls'.length := (List.getElem?_eq_some_iff.1 e5).1
      have hle' := e2.len hL
      refine l_p6 hs hi hl hL h64 ps hps m0 (d - 1) (n + 1) m ls' lf' pt' (by omega) (by omega) { e2 with done := fun i hii x hx y hy hh => ?_ } (by omega)
      by_cases e : i = n
      · subst e
        rw [e5] at hx
        have hx := Option.some.inj hx
        rw [← hx] at hy
        exact e4 y (List.mem_filter.2 ⟨e3 y hh, (nbB_iff _ _).2 hy⟩) hh
      · exact e2.done i (by omega) x hx y hy hh
    · have e : n = ls.length := by omega
      subst e
      rw [ltF hlt, app_len' (by omega)]
      exact ⟨ls, lf, pt, rfl, hP⟩

/-- Some parts are told; the cells of L0 are left. -/
structure PartsI (X Y Z : Int) (l L0 : List D_A3) (ps : List (List D_A3)) : Prop where
  srt : Srt L0
  sub : ∀ c ∈ L0, c ∈ l
  closed : ∀ c ∈ L0, ∀ d ∈ l, nb c d → d ∈ L0
  good : ∀ p ∈ ps, Srt p ∧ Ins X Y Z p ∧ ∃ c0 ∈ l, ∀ c, c ∈ p ↔ Conn l c0 c
  cover : ∀ c ∈ l, c ∈ L0 ∨ ∃ p ∈ ps, c ∈ p

theorem l_p2 {X Y Z : Int} {l : List D_A3} (hs : sides X Y Z = true) (hi : Ins X Y Z l) : ∀ (d m : Nat) (L0 : List D_A3) (ps : List (List D_A3)), L0.length ≤ d → d < m → d ≤ 64 → ps.length + d ≤ 100 → PartsI X Y Z l L0 ps →
    ∃ ps', l_spec_l2Parts_2 m X Y Z l X Y Z L0 ps = some (ps', ()) ∧ PartsI X Y Z l [] ps' ∧ ps'.length ≤ 100
  | d, 0, L0, ps, _, h, _, _, _ => by omega
  | d, m + 1, [], ps, hd, hm, h64, hps, hI => by
    rw [q_spec_l2Parts_2]
    exact ⟨ps, rfl, hI, by omega⟩
  | d, m + 1, c0 :: L, ps, hd, hm, h64, hps, hI => by
    rw [q_spec_l2Parts_2, decide_eq_true (by simp), p_spec_l2Empty]
    have n0 : nth T_A3 (c0 :: L) 0 = c0 := rfl
    have n1 : nth T_A3 ([nth T_A3 (c0 :: L) 0] : List D_A3) 0 = c0 := rfl
    have i0 : inB 0 (c0 :: L).length = true := by simp [inB]
    have i1 : inB 0 ([nth T_A3 (c0 :: L) 0] : List D_A3).length = true := rfl
    have hlen : (c0 :: L).length ≤ 64 := by omega
    simp only [cond_true, Option.bind_some]
    rw [i0, i1, n1, n0, f_without (c0 :: L) c0 (by omega)]
    simp only [cond_true, Option.bind_some]
    have hmemF : ∀ x, x ∈ (c0 :: L).filter (fun x => !decide (x = c0)) ↔ x ∈ (c0 :: L) ∧ x ≠ c0 := fun x => by rw [List.mem_filter]; simp
    have hP : Part l (c0 :: L) c0 0 0 [c0] ((c0 :: L).filter fun x => !decide (x = c0)) [] := {
      srt := hI.srt.filter _
      sub := fun x hx => ((hmemF x).1 hx).1
      lsub := fun x hx => by rw [List.mem_singleton.1 hx]; exact List.mem_cons_self ..
      all := fun x hx => by
        by_cases e : x = c0
        · exact .inl (by rw [e]; simp)
        · exact .inr ((hmemF x).2 ⟨hx, e⟩)
      apart := fun x hx hh => ((hmemF x).1 hh).2 (List.mem_singleton.1 hx)
      conn := fun x hx => .base (List.mem_singleton.1 hx)
      done := fun i hii => by omega
      psrt := List.Pairwise.nil
      pmem := fun x => by simp
      nodup := by simp
      start := by simp }
    obtain ⟨ls', lf', pt', e1, e2⟩ := l_p6 hs hi hI.sub hI.srt hlen ps (by omega) m (c0 :: L).length 0 N [c0] _ [] (by omega) (by have := N_ge; omega) hP (by omega)
    have e1' : l_spec_l2Parts_6 m N X Y Z l X Y Z ((c0 :: L).filter fun x => !decide (x = c0)) X Y Z [] ps [c0] 0 = _ := e1
    rw [e1']
    have hle := e2.len hI.srt
    have hpos : 0 < ls'.length := List.length_pos_of_mem e2.start
    have fin : ∀ i, i < ls'.length → True := fun _ _ => trivial
    have hlsn : ∀ c ∈ ls', ∀ d, nb c d → d ∉ lf' := fun c hc d hd => by
      obtain ⟨i, hii, e⟩ := List.getElem_of_mem hc
      exact e2.done i hii c (by rw [List.getElem?_eq_getElem hii, e]) d hd
    have hcomp : ∀ c, c ∈ pt' ↔ Conn l c0 c := fun c => by
      rw [e2.pmem, List.take_length]
      refine ⟨e2.conn c, fun hc => Rch.of (r := fun c => c ∈ ls') (fun c hc => by rw [show c = c0 from hc]; exact e2.start) (fun c d hc hn hd => ?_) hc⟩
      rcases e2.all d (hI.closed c (e2.lsub c hc) d hd hn) with h | h
      · exact h
      · exact absurd h (hlsn c hc d hn)
    refine l_p2 hs hi (d - 1) m lf' (ps ++ [pt']) (by omega) (by omega) (by omega) (by simp; omega) ⟨e2.srt, fun c hc => hI.sub c (e2.sub c hc), fun c hc d hd hn => ?_, fun p hp => ?_, fun c hc => ?_⟩
    · rcases e2.all d (hI.closed c (e2.sub c hc) d hd hn) with h | h
      · exact absurd hc (hlsn d h c (nb_symm hn))
      · exact h
    · rcases List.mem_append.1 hp with hp | hp
      · exact hI.good p hp
      · rw [List.mem_singleton.1 hp]
        refine ⟨e2.psrt, fun x hx => hi x (Conn.mem (hI.sub c0 (List.mem_cons_self ..)) ((hcomp x).1 hx)), c0, hI.sub c0 (List.mem_cons_self ..), hcomp⟩
    · rcases hI.cover c hc with h | ⟨p, hp, h⟩
      · rcases e2.all c h with h | h
        · exact .inr ⟨pt', by simp, (hcomp c).2 (e2.conn c h)⟩
        · exact .inl h
      · exact .inr ⟨p, List.mem_append_left _ hp, h⟩

theorem f_parts {X Y Z : Int} {l : List D_A3} (hs : sides X Y Z = true) (hi : Ins X Y Z l) (hr : Srt l) : ∃ ps, P_spec_l2Parts ((X, Y, Z, l, ()), ()) = some (ps, ()) ∧ PartsI X Y Z l [] ps ∧ ps.length ≤ 100 := by
  have h64 := srt_small64 hs hi hr
  obtain ⟨ps, h1, h2⟩ := l_p2 hs hi 64 N l [] h64 (by have := N_ge; omega) (by omega) (by simp) ⟨hr, fun c h => h, fun _ _ d hd _ => hd, (fun p hp => by cases hp), fun c hc => .inl hc⟩
  refine ⟨ps, ?_, h2⟩
  rw [p_spec_l2Parts, f_l2Own (by omega)]
  exact h1

/-! ### What stands -/
def Stand (l : List D_A3) : D_A3 → Prop := Rch (fun c => c ∈ l ∧ c.2.2.1 = 0) (fun c => c ∈ l)

theorem Stand.mem {l : List D_A3} {c : D_A3} (h : Stand l c) : c ∈ l := by
  cases h with
  | base h => exact h.1
  | step _ _ h => exact h

theorem Stand.floor {l : List D_A3} {c : D_A3} (h : Stand l c) : ∃ f, f ∈ l ∧ f.2.2.1 = 0 ∧ Conn l f c := by
  induction h with
  | base h => exact ⟨_, h.1, h.2, .base rfl⟩
  | step _ hn hd ih =>
    obtain ⟨f, h1, h2, h3⟩ := ih
    exact ⟨f, h1, h2, .step h3 hn hd⟩

/-- Does a part have a cube on the floor? -/
def onFloor (p : List D_A3) : Bool := p.any fun c => decide (c.2.2.1 = 0)

theorem part_stand {X Y Z : Int} {l L0 : List D_A3} {ps : List (List D_A3)} (hI : PartsI X Y Z l L0 ps) {p : List D_A3} (hp : p ∈ ps) {c : D_A3} (hc : c ∈ p) : onFloor p = true ↔ Stand l c := by
  obtain ⟨_, _, c0, h0, hm⟩ := hI.good p hp
  unfold onFloor
  rw [List.any_eq_true]
  constructor
  · rintro ⟨f, hf, hz⟩
    have h1 := (hm f).1 hf
    have h2 := (hm c).1 hc
    have h3 : Conn l f c := Conn.trans (Conn.symm h0 h1) h2
    exact Rch.mono (fun x hx => by rw [hx]; exact .base ⟨Conn.mem h0 h1, by simpa using hz⟩) (fun _ h => h) h3
  · intro h
    obtain ⟨f, f1, f2, f3⟩ := Stand.floor h
    exact ⟨f, (hm f).2 (Conn.trans ((hm c).1 hc) (Conn.symm f1 f3)), by simp [f2]⟩

theorem l_q7 {X' Y' Z' : Int} {out : List D_A3} {ps : List (List D_A3)} (b : Bool) {i : Nat} (hps : ps.length ≤ 1000) {p : List D_A3} (hp : ps[i]? = some p) (hlen : p.length ≤ 64) (m0 : Nat) : ∀ (d k m : Nat) (fl : Bool), p.length = k + d → d < m →
    l_spec_l7Parted_7 m0 m X' Y' Z' out b ps (i : Int) fl (k : Int) = l_spec_l7Parted_11 m0 N X' Y' Z' out b ps (i : Int) (fl || onFloor (p.drop k)) 0
  | d, k, 0, fl, _, h => by omega
  | d, k, m + 1, fl, hk, hm => by
    have hi : i < ps.length := (List.getElem?_eq_some_iff.1 hp).1
    have hpe : nth ((.sl T_A3) : Ty) ps (i : Int) = p := by
      rw [nthA (t := .sl T_A3) hi]
      rw [List.getElem?_eq_getElem hi] at hp
      exact Option.some.inj hp
    rw [q_spec_l7Parted_7, inB_at hi, hpe]
    simp only [cond_true]
    by_cases hlt : k < p.length
    · rw [ltT hlt, inB_at hlt, nthA (t := T_A3) hlt, succI k (by omega), drop_at p k hlt]
      simp only [cond_true, onFloor, List.any_cons]
      cases fl with
      | true =>
        simp only [cond_true]
        rw [l_q7 b hps hp hlen m0 (d - 1) (k + 1) m true (by omega) (by omega)]
        simp
      | false =>
        simp only [cond_false]
        rw [l_q7 b hps hp hlen m0 (d - 1) (k + 1) m _ (by omega) (by omega)]
        simp [onFloor]
    · rw [ltF hlt, List.drop_eq_nil_of_le (by omega)]
      simp [onFloor]

theorem l_q11 {X Y Z : Int} {ps : List (List D_A3)} (b fl : Bool) {i : Nat} (hps : ps.length ≤ 1000) {p : List D_A3} (hp : ps[i]? = some p) (hlen : p.length ≤ 64) (m0 : Nat) : ∀ (d k m : Nat) (out : List D_A3), p.length = k + d → d < m → Srt out → out.length ≤ 100000 + k →
    ∃ out', l_spec_l7Parted_11 m0 m X Y Z out b ps (i : Int) fl (k : Int) = l_spec_l7Parted_3 m0 X Y Z out' b ps ((i + 1 : Nat) : Int) ∧ Srt out' ∧ (∀ c, c ∈ out' ↔ c ∈ out ∨ ((fl == b) = false ∧ c ∈ p.drop k))
  | d, k, 0, out, _, h, _, _ => by omega
  | d, k, m + 1, out, hk, hm, hr, ho => by
    have hi : i < ps.length := (List.getElem?_eq_some_iff.1 hp).1
    have hpe : nth ((.sl T_A3) : Ty) ps (i : Int) = p := by
      rw [nthA (t := .sl T_A3) hi]
      rw [List.getElem?_eq_getElem hi] at hp
      exact Option.some.inj hp
    rw [q_spec_l7Parted_11, inB_at hi, hpe, succI i (by omega)]
    simp only [cond_true]
    by_cases hlt : k < p.length
    · rw [ltT hlt, inB_at hlt, nthA (t := T_A3) hlt, succI k (by omega)]
      simp only [cond_true]
      cases hb : fl == b with
      | true =>
        simp only [Bool.not_true, cond_false]
        exact ⟨out, rfl, hr, fun c => by simp⟩
      | false =>
        obtain ⟨o1, g1, g2, g3, g4⟩ := f_l2With (X := X) (Y := Y) (Z := Z) hr p[k] (by omega)
        rw [g1]
        simp only [Bool.not_false, cond_true, Option.bind_some]
        obtain ⟨o2, k1, k2, k3⟩ := l_q11 (X := X) (Y := Y) (Z := Z) b fl hps hp hlen m0 (d - 1) (k + 1) m o1 (by omega) (by omega) g2 (by omega)
        refine ⟨o2, k1, k2, fun c => ?_⟩
        rw [k3, g3, hb, drop_at p k hlt, List.mem_cons]
        simp only [true_and]
        constructor
        · rintro ((h | h) | h)
          · exact .inr (.inl h)
          · exact .inl h
          · exact .inr (.inr h)
        · rintro (h | h | h)
          · exact .inl (.inr h)
          · exact .inl (.inl h)
          · exact .inr h
    · rw [ltF hlt, List.drop_eq_nil_of_le (by omega)]
      exact ⟨out, rfl, hr, fun c => by simp⟩

theorem l_q3 {X Y Z : Int} {l : List D_A3} (hs : sides X Y Z = true) {ps : List (List D_A3)} (b : Bool) (hI : PartsI X Y Z l [] ps) (hps : ps.length ≤ 100) (hil : Ins X Y Z l) : ∀ (d i m : Nat) (out : List D_A3), ps.length = i + d → d < m → Srt out → (∀ c, c ∈ out ↔ ∃ p ∈ ps.take i, c ∈ p ∧ (onFloor p == b) = false) →
    ∃ out', l_spec_l7Parted_3 m X Y Z out b ps (i : Int) = some (out', ()) ∧ Srt out' ∧ ∀ c, c ∈ out' ↔ ∃ p ∈ ps, c ∈ p ∧ (onFloor p == b) = false
  | d, i, 0, out, _, h, _, _ => by omega
  | d, i, m + 1, out, hk, hm, hr, hmem => by
    rw [q_spec_l7Parted_3]
    by_cases hlt : i < ps.length
    · have hp : ps[i]? = some ps[i] := List.getElem?_eq_getElem hlt
      obtain ⟨s1, s2, c0, h0, hm0⟩ := hI.good ps[i] (List.getElem_mem hlt)
      have hlen := srt_small64 hs s2 s1
      have hout : out.length ≤ 64 := srt_small64 hs (fun c hc => by
        obtain ⟨p, hp', hcp, _⟩ := (hmem c).1 hc
        obtain ⟨_, t2, _⟩ := hI.good p (List.mem_of_mem_take hp')
        exact t2 c hcp) hr
      have e7 := l_q7 (X' := X) (Y' := Y) (Z' := Z) (out := out) b (by omega) hp hlen m ps[i].length 0 N false (by omega) (by have := N_ge; omega)
      obtain ⟨o1, k1, k2, k3⟩ := l_q11 (X := X) (Y := Y) (Z := Z) b (onFloor ps[i]) (by omega) hp hlen m ps[i].length 0 N out (by omega) (by have := N_ge; omega) hr (by omega)
      have e7' : l_spec_l7Parted_7 m N X Y Z out b ps (i : Int) false 0 = l_spec_l7Parted_11 m N X Y Z out b ps (i : Int) (onFloor ps[i]) 0 := by
        have := e7
        rw [List.drop_zero, Bool.false_or] at this
        exact this
      have k1' : l_spec_l7Parted_11 m N X Y Z out b ps (i : Int) (onFloor ps[i]) 0 = _ := k1
      rw [ltT hlt]
      simp only [cond_true]
      rw [e7', k1']
      refine l_q3 hs b hI hps hil (d - 1) (i + 1) m o1 (by omega) (by omega) k2 fun c => ?_
      rw [k3, hmem, List.drop_zero, List.take_add_one, hp]
      simp only [Option.toList_some, List.mem_append, List.mem_singleton]
      constructor
      · rintro (⟨p, h1, h2⟩ | ⟨h1, h2⟩)
        · exact ⟨p, .inl h1, h2⟩
        · exact ⟨ps[i], .inr rfl, h2, h1⟩
      · rintro ⟨p, h1 | h1, h2⟩
        · exact .inl ⟨p, h1, h2⟩
        · rw [h1] at h2; exact .inr ⟨h2.2, h2.1⟩
    · rw [ltF hlt]
      refine ⟨out, rfl, hr, fun c => ?_⟩
      rw [hmem, List.take_of_length_le (by omega)]

/-- What hangs (b = true), or what stands. -/
theorem f_l7Parted {X Y Z : Int} {l : List D_A3} (hs : sides X Y Z = true) (hi : Ins X Y Z l) (hr : Srt l) (b : Bool) : ∃ out, P_spec_l7Parted ((X, Y, Z, l, ()), b, ()) = some (out, ()) ∧ Srt out ∧ ∀ c, c ∈ out ↔ c ∈ l ∧ (Stand l c ↔ b = false) := by
  obtain ⟨ps, h1, h2, h3⟩ := f_parts hs hi hr
  obtain ⟨out, k1, k2, k3⟩ := l_q3 hs b h2 h3 hi ps.length 0 N [] (by omega) (by have := N_ge; omega) List.Pairwise.nil (by simp)
  refine ⟨out, ?_, k2, fun c => ?_⟩
  · rw [p_spec_l7Parted, h1, p_spec_l2Empty]
    exact k1
  · rw [k3]
    constructor
    · rintro ⟨p, hp, hc, hb⟩
      obtain ⟨_, _, c0, h0, hm⟩ := h2.good p hp
      refine ⟨Conn.mem h0 ((hm c).1 hc), ?_⟩
      rw [← part_stand h2 hp hc]
      cases hf : onFloor p <;> cases b <;> simp [hf] at hb ⊢
    · rintro ⟨hc, hb⟩
      rcases h2.cover c hc with h | ⟨p, hp, hcp⟩
      · cases h
      · refine ⟨p, hp, hcp, ?_⟩
        rw [← part_stand h2 hp hcp] at hb
        cases hf : onFloor p <;> cases b <;> simp [hf] at hb ⊢
end Go.VI
