/- Plain: the walk over the parts of a heap. -/
import Derived.Test.YtbpjlmhkoflcgaaGreatPlSi
import Derived.Test.YtbpjlmhkoflcgaaGreatPlM
namespace Go.VI
open Go.Proofs

theorem l_p11 {X Y Z : Int} {l L0 lf0 nr pt : List D_A3} {c0 c : D_A3} {n : Nat} (hs : sides X Y Z = true) (hl : ∀ x ∈ L0, x ∈ l) (hL : Srt L0) (h64 : L0.length ≤ 64) (hnr : nr.Nodup) (hc : ∀ x ∈ nr, nb c x) (hlen : nr.length ≤ 64) (ps : List (List D_A3)) (m0 m1 : Nat) :
    ∀ (d k m : Nat) (ls lf : List D_A3), nr.length = k + d → d < m → Part l L0 c0 n (n + 1) ls lf pt → ls[n]? = some c → (∀ x ∈ lf, x ∈ lf0) → (∀ x ∈ nr.take k, x ∉ lf) → (∀ x ∈ nr.drop k, x ∈ lf) →
    ∃ ls' lf', l_spec_l2Parts_11 m0 m1 m X Y Z l X Y Z lf X Y Z pt ps ls (n : Int) nr (k : Int) = l_spec_l2Parts_6 m0 m1 X Y Z l X Y Z lf' X Y Z pt ps ls' ((n + 1 : Nat) : Int) ∧ Part l L0 c0 n (n + 1) ls' lf' pt ∧ (∀ x ∈ lf', x ∈ lf0) ∧ (∀ x ∈ nr, x ∉ lf') ∧ ls'[n]? = some c
  | d, k, 0, ls, lf, _, h, _, _, _, _, _ => by omega
  | d, k, m + 1, ls, lf, hk, hm, hP, hn, h0, h1, h2 => by
    have hle := hP.len hL
    have hlt0 : n < ls.length := (List.getElem?_eq_some_iff.1 hn).1
    rw [q_spec_l2Parts_11]
    by_cases hlt : k < nr.length
    · rw [ltT hlt, inB_at hlt, nthA (t := T_A3) hlt, app_len' (by omega), succI k (by omega), f_without lf nr[k] (by omega)]
      simp only [cond_true, Option.bind_some]
      have hx : nr[k] ∈ lf := h2 _ (by rw [drop_at nr k hlt]; exact List.mem_cons_self ..)
      have hP' := hP.take hl (List.mem_of_getElem? hn) hx (hc _ (List.getElem_mem hlt)) (by omega) (by omega)
      refine l_p11 hs hl hL h64 hnr hc hlen ps m0 m1 (d - 1) (k + 1) m _ _ (by omega) (by omega) hP' (by rw [List.getElem?_append_left hlt0]; exact hn) (fun x hx => h0 x (List.mem_filter.1 hx).1) (fun x hx hh => ?_) (fun x hx => ?_)
      · rw [List.take_add_one, List.getElem?_eq_getElem hlt] at hx
        have hh' := List.mem_filter.1 hh
        rcases List.mem_append.1 hx with hx | hx
        · exact h1 x hx hh'.1
        · rw [show x = nr[k] by simpa using hx] at hh'
          simp at hh'
      · have hd : nr.drop k = nr[k] :: nr.drop (k + 1) := drop_at nr k hlt
        have hnd : (nr.drop k).Nodup := hnr.sublist (List.drop_sublist k nr)
        rw [hd] at hnd
        have hne : x ≠ nr[k] := fun e => (List.nodup_cons.1 hnd).1 (e ▸ hx)
        exact List.mem_filter.2 ⟨h2 x (by rw [hd]; exact List.mem_cons_of_mem _ hx), by simp [hne]⟩
    · rw [ltF hlt, succI n (by omega)]
      refine ⟨ls, lf, rfl, hP, h0, fun x hx => h1 x (by rw [List.take_of_length_le (by omega)]; exact hx), hn⟩

theorem l_p6 {X Y Z : Int} {l L0 : List D_A3} {c0 : D_A3} (hs : sides X Y Z = true) (hi : Ins X Y Z l) (hl : ∀ x ∈ L0, x ∈ l) (hL : Srt L0) (h64 : L0.length ≤ 64) (ps : List (List D_A3)) (hps : ps.length ≤ 1000) (m0 : Nat) :
    ∀ (d n m : Nat) (ls lf pt : List D_A3), L0.length = n + d → d < m → Part l L0 c0 n n ls lf pt → n ≤ ls.length →
    ∃ ls' lf' pt', l_spec_l2Parts_6 m0 m X Y Z l X Y Z lf X Y Z pt ps ls (n : Int) = l_spec_l2Parts_2 m0 X Y Z l X Y Z lf' (ps ++ [pt']) ∧ Part l L0 c0 ls'.length ls'.length ls' lf' pt'
  | d, n, 0, ls, lf, pt, _, h, _, _ => by omega
  | d, n, m + 1, ls, lf, pt, hk, hm, hP, hn => by
    have hle := hP.len hL
    rw [q_spec_l2Parts_6]
    by_cases hlt : n < ls.length
    · have hcm : ls[n] ∈ ls := List.getElem_mem hlt
      have hin : ∀ x ∈ L0, Near x := fun x hx => near_of hs (hi x (hl x hx))
      have hptl : pt.length ≤ 64 := srt_small64 hs (fun x hx => hi x (hl x (hP.lsub x (List.mem_of_mem_take ((hP.pmem x).1 hx))))) hP.psrt
      obtain ⟨pt', g1, g2, g3, g4⟩ := f_l2With (X := X) (Y := Y) (Z := Z) hP.psrt ls[n] (by omega)
      rw [ltT hlt, inB_at hlt, nthA (t := T_A3) hlt, g1, f_nearL (X := X) (Y := Y) (Z := Z) (l := lf) (by omega) (fun x hx => hin x (hP.sub x hx)) (hin _ (hP.lsub _ hcm))]
      simp only [cond_true, Option.bind_some]
      have hpm : ∀ x, x ∈ pt' ↔ x ∈ ls.take (n + 1) := fun x => by
        rw [g3, hP.pmem, List.take_add_one, List.getElem?_eq_getElem hlt, List.mem_append]
        simp only [Option.toList_some, List.mem_singleton]
        exact or_comm
      have hP1 : Part l L0 c0 n (n + 1) ls lf pt' := { hP with psrt := g2, pmem := hpm }
      have hnr : (lf.filter (nbB ls[n])).Nodup := (hP.srt.filter _).nodup
      obtain ⟨ls', lf', e1, e2, e3, e4, e5⟩ := l_p11 (lf0 := lf) (nr := lf.filter (nbB ls[n])) (c := ls[n]) hs hl hL h64 hnr (fun x hx => (nbB_iff _ _).1 (List.mem_filter.1 hx).2) (Nat.le_trans (List.length_filter_le _ _) (by omega)) ps m0 m (lf.filter (nbB ls[n])).length 0 N ls lf (by omega) (by have := List.length_filter_le (nbB ls[n]) lf; have := N_ge; omega) hP1 (List.getElem?_eq_getElem hlt) (fun x hx => hx) (by simp) (fun x hx => (List.mem_filter.1 (by simpa using hx)).1)
      have e1' : l_spec_l2Parts_11 m0 m N X Y Z l X Y Z lf X Y Z pt' ps ls (n : Int) (lf.filter (nbB ls[n])) 0 = _ := e1
      rw [e1']
      have hlt' : n < ls'.length := (List.getElem?_eq_some_iff.1 e5).1
      have hle' := e2.len hL
      refine l_p6 hs hi hl hL h64 ps hps m0 (d - 1) (n + 1) m ls' lf' pt' (by omega) (by omega) { e2 with done := fun i hii x hx y hy hh => ?_ } (by omega)
      by_cases e : i = n
      · subst e
        rw [e5] at hx
        have hx := Option.some.inj hx
        rw [← hx] at hy
        exact e4 y (List.mem_filter.2 ⟨e3 y hh, (nbB_iff _ _).2 hy⟩) hh
      · exact e2.done i (by omega) x hx y hy hh
    · have e : n = ls.length := by omega
      subst e
      rw [ltF hlt, app_len' (by omega)]
      exact ⟨ls, lf, pt, rfl, hP⟩

/-- Some parts are told; the cells of L0 are left. -/
structure PartsI (X Y Z : Int) (l L0 : List D_A3) (ps : List (List D_A3)) : Prop where
  srt : Srt L0
  sub : ∀ c ∈ L0, c ∈ l
  closed : ∀ c ∈ L0, ∀ d ∈ l, nb c d → d ∈ L0
  good : ∀ p ∈ ps, Srt p ∧ Ins X Y Z p ∧ ∃ c0 ∈ l, ∀ c, c ∈ p ↔ Conn l c0 c
  cover : ∀ c ∈ l, c ∈ L0 ∨ ∃ p ∈ ps, c ∈ p

theorem l_p2 {X Y Z : Int} {l : List D_A3} (hs : sides X Y Z = true) (hi : Ins X Y Z l) : ∀ (d m : Nat) (L0 : List D_A3) (ps : List (List D_A3)), L0.length ≤ d → d < m → d ≤ 64 → ps.length + d ≤ 100 → PartsI X Y Z l L0 ps →
    ∃ ps', l_spec_l2Parts_2 m X Y Z l X Y Z L0 ps = some (ps', ()) ∧ PartsI X Y Z l [] ps' ∧ ps'.length ≤ 100
  | d, 0, L0, ps, _, h, _, _, _ => by omega
  | d, m + 1, [], ps, hd, hm, h64, hps, hI => by
    rw [q_spec_l2Parts_2]
    exact ⟨ps, rfl, hI, by omega⟩
  | d, m + 1, c0 :: L, ps, hd, hm, h64, hps, hI => by
    rw [q_spec_l2Parts_2, decide_eq_true (by simp), p_spec_l2Empty]
    have n0 : nth T_A3 (c0 :: L) 0 = c0 := rfl
    have n1 : nth T_A3 ([nth T_A3 (c0 :: L) 0] : List D_A3) 0 = c0 := rfl
    have i0 : inB 0 (c0 :: L).length = true := by simp [inB]
    have i1 : inB 0 ([nth T_A3 (c0 :: L) 0] : List D_A3).length = true := rfl
    have hlen : (c0 :: L).length ≤ 64 := by omega
    simp only [cond_true, Option.bind_some]
    rw [i0, i1, n1, n0, f_without (c0 :: L) c0 (by omega)]
    simp only [cond_true, Option.bind_some]
    have hmemF : ∀ x, x ∈ (c0 :: L).filter (fun x => !decide (x = c0)) ↔ x ∈ (c0 :: L) ∧ x ≠ c0 := fun x => by rw [List.mem_filter]; simp
    have hP : Part l (c0 :: L) c0 0 0 [c0] ((c0 :: L).filter fun x => !decide (x = c0)) [] := {
      srt := hI.srt.filter _
      sub := fun x hx => ((hmemF x).1 hx).1
      lsub := fun x hx => by rw [List.mem_singleton.1 hx]; exact List.mem_cons_self ..
      all := fun x hx => by
        by_cases e : x = c0
        · exact .inl (by rw [e]; simp)
        · exact .inr ((hmemF x).2 ⟨hx, e⟩)
      apart := fun x hx hh => ((hmemF x).1 hh).2 (List.mem_singleton.1 hx)
      conn := fun x hx => .base (List.mem_singleton.1 hx)
      done := fun i hii => by omega
      psrt := List.Pairwise.nil
      pmem := fun x => by simp
      nodup := by simp
      start := by simp }
    obtain ⟨ls', lf', pt', e1, e2⟩ := l_p6 hs hi hI.sub hI.srt hlen ps (by omega) m (c0 :: L).length 0 N [c0] _ [] (by omega) (by have := N_ge; omega) hP (by omega)
    have e1' : l_spec_l2Parts_6 m N X Y Z l X Y Z ((c0 :: L).filter fun x => !decide (x = c0)) X Y Z [] ps [c0] 0 = _ := e1
    rw [e1']
    have hle := e2.len hI.srt
    have hpos : 0 < ls'.length := List.length_pos_of_mem e2.start
    have fin : ∀ i, i < ls'.length → True := fun _ _ => trivial
    have hlsn : ∀ c ∈ ls', ∀ d, nb c d → d ∉ lf' := fun c hc d hd => by
      obtain ⟨i, hii, e⟩ := List.getElem_of_mem hc
      exact e2.done i hii c (by rw [List.getElem?_eq_getElem hii, e]) d hd
    have hcomp : ∀ c, c ∈ pt' ↔ Conn l c0 c := fun c => by
      rw [e2.pmem, List.take_length]
      refine ⟨e2.conn c, fun hc => Rch.of (r := fun c => c ∈ ls') (fun c hc => by rw [show c = c0 from hc]; exact e2.start) (fun c d hc hn hd => ?_) hc⟩
      rcases e2.all d (hI.closed c (e2.lsub c hc) d hd hn) with h | h
      · exact h
      · exact absurd h (hlsn c hc d hn)
    refine l_p2 hs hi (d - 1) m lf' (ps ++ [pt']) (by omega) (by omega) (by omega) (by simp; omega) ⟨e2.srt, fun c hc => hI.sub c (e2.sub c hc), fun c hc d hd hn => ?_, fun p hp => ?_, fun c hc => ?_⟩
    · rcases e2.all d (hI.closed c (e2.sub c hc) d hd hn) with h | h
      · exact absurd hc (hlsn d h c (nb_symm hn))
      · exact h
    · rcases List.mem_append.1 hp with hp | hp
      · exact hI.good p hp
      · rw [List.mem_singleton.1 hp]
        refine ⟨e2.psrt, fun x hx => hi x (Conn.mem (hI.sub c0 (List.mem_cons_self ..)) ((hcomp x).1 hx)), c0, hI.sub c0 (List.mem_cons_self ..), hcomp⟩
    · rcases hI.cover c hc with h | ⟨p, hp, h⟩
      · rcases e2.all c h with h | h
        · exact .inr ⟨pt', by simp, (hcomp c).2 (e2.conn c h)⟩
        · exact .inl h
      · exact .inr ⟨p, List.mem_append_left _ hp, h⟩

theorem f_parts {X Y Z : Int} {l : List D_A3} (hs : sides X Y Z = true) (hi : Ins X Y Z l) (hr : Srt l) : ∃ ps, P_spec_l2Parts ((X, Y, Z, l, ()), ()) = some (ps, ()) ∧ PartsI X Y Z l [] ps ∧ ps.length ≤ 100 := by
  have h64 := srt_small64 hs hi hr
  obtain ⟨ps, h1, h2⟩ := l_p2 hs hi 64 N l [] h64 (by have := N_ge; omega) (by omega) (by simp) ⟨hr, fun c h => h, fun _ _ d hd _ => hd, (fun p hp => by cases hp), fun c hc => .inl hc⟩
  refine ⟨ps, ?_, h2⟩
  rw [p_spec_l2Parts, f_l2Own (by omega)]
  exact h1

/-! ### What stands -/
def Stand (l : List D_A3) : D_A3 → Prop := Rch (fun c => c ∈ l ∧ c.2.2.1 = 0) (fun c => c ∈ l)

theorem Stand.mem {l : List D_A3} {c : D_A3} (h : Stand l c) : c ∈ l := by
  cases h with
  | base h => exact h.1
  | step _ _ h => exact h

theorem Stand.floor {l : List D_A3} {c : D_A3} (h : Stand l c) : ∃ f, f ∈ l ∧ f.2.2.1 = 0 ∧ Conn l f c := by
  induction h with
  | base h => exact ⟨_, h.1, h.2, .base rfl⟩
  | step _ hn hd ih =>
    obtain ⟨f, h1, h2, h3⟩ := ih
    exact ⟨f, h1, h2, .step h3 hn hd⟩

/-- Does a part have a cube on the floor? -/
def onFloor (p : List D_A3) : Bool := p.any fun c => decide (c.2.2.1 = 0)

theorem part_stand {X Y Z : Int} {l L0 : List D_A3} {ps : List (List D_A3)} (hI : PartsI X Y Z l L0 ps) {p : List D_A3} (hp : p ∈ ps) {c : D_A3} (hc : c ∈ p) : onFloor p = true ↔ Stand l c := by
  obtain ⟨_, _, c0, h0, hm⟩ := hI.good p hp
  unfold onFloor
  rw [List.any_eq_true]
  constructor
  · rintro ⟨f, hf, hz⟩
    have h1 := (hm f).1 hf
    have h2 := (hm c).1 hc
    have h3 : Conn l f c := Conn.trans (Conn.symm h0 h1) h2
    exact Rch.mono (fun x hx => by rw [hx]; exact .base ⟨Conn.mem h0 h1, by simpa using hz⟩) (fun _ h => h) h3
  · intro h
    obtain ⟨f, f1, f2, f3⟩ := Stand.floor h
    exact ⟨f, (hm f).2 (Conn.trans ((hm c).1 hc) (Conn.symm f1 f3)), by simp [f2]⟩

theorem l_q7 {X' Y' Z' : Int} {out : List D_A3} {ps : List (List D_A3)} (b : Bool) {i : Nat} (hps : ps.length ≤ 1000) {p : List D_A3} (hp : ps[i]? = some p) (hlen : p.length ≤ 64) (m0 : Nat) : ∀ (d k m : Nat) (fl : Bool), p.length = k + d → d < m →
    l_spec_l7Parted_7 m0 m X' Y' Z' out b ps (i : Int) fl (k : Int) = l_spec_l7Parted_11 m0 N X' Y' Z' out b ps (i : Int) (fl || onFloor (p.drop k)) 0
  | d, k, 0, fl, _, h => by omega
  | d, k, m + 1, fl, hk, hm => by
    have hi : i < ps.length := (List.getElem?_eq_some_iff.1 hp).1
    have hpe : nth ((.sl T_A3) : Ty) ps (i : Int) = p := by
      rw [nthA (t := .sl T_A3) hi]
      rw [List.getElem?_eq_getElem hi] at hp
      exact Option.some.inj hp
    rw [q_spec_l7Parted_7, inB_at hi, hpe]
    simp only [cond_true]
    by_cases hlt : k < p.length
    · rw [ltT hlt, inB_at hlt, nthA (t := T_A3) hlt, succI k (by omega), drop_at p k hlt]
      simp only [cond_true, onFloor, List.any_cons]
      cases fl with
      | true =>
        simp only [cond_true]
        rw [l_q7 b hps hp hlen m0 (d - 1) (k + 1) m true (by omega) (by omega)]
        simp
      | false =>
        simp only [cond_false]
        rw [l_q7 b hps hp hlen m0 (d - 1) (k + 1) m _ (by omega) (by omega)]
        simp [onFloor]
    · rw [ltF hlt, List.drop_eq_nil_of_le (by omega)]
      simp [onFloor]

theorem l_q11 {X Y Z : Int} {ps : List (List D_A3)} (b fl : Bool) {i : Nat} (hps : ps.length ≤ 1000) {p : List D_A3} (hp : ps[i]? = some p) (hlen : p.length ≤ 64) (m0 : Nat) : ∀ (d k m : Nat) (out : List D_A3), p.length = k + d → d < m → Srt out → out.length ≤ 100000 + k →
    ∃ out', l_spec_l7Parted_11 m0 m X Y Z out b ps (i : Int) fl (k : Int) = l_spec_l7Parted_3 m0 X Y Z out' b ps ((i + 1 : Nat) : Int) ∧ Srt out' ∧ (∀ c, c ∈ out' ↔ c ∈ out ∨ ((fl == b) = false ∧ c ∈ p.drop k))
  | d, k, 0, out, _, h, _, _ => by omega
  | d, k, m + 1, out, hk, hm, hr, ho => by
    have hi : i < ps.length := (List.getElem?_eq_some_iff.1 hp).1
    have hpe : nth ((.sl T_A3) : Ty) ps (i : Int) = p := by
      rw [nthA (t := .sl T_A3) hi]
      rw [List.getElem?_eq_getElem hi] at hp
      exact Option.some.inj hp
    rw [q_spec_l7Parted_11, inB_at hi, hpe, succI i (by omega)]
    simp only [cond_true]
    by_cases hlt : k < p.length
    · rw [ltT hlt, inB_at hlt, nthA (t := T_A3) hlt, succI k (by omega)]
      simp only [cond_true]
      cases hb : fl == b with
      | true =>
        simp only [Bool.not_true, cond_false]
        exact ⟨out, rfl, hr, fun c => by simp⟩
      | false =>
        obtain ⟨o1, g1, g2, g3, g4⟩ := f_l2With (X := X) (Y := Y) (Z := Z) hr p[k] (by omega)
        rw [g1]
        simp only [Bool.not_false, cond_true, Option.bind_some]
        obtain ⟨o2, k1, k2, k3⟩ := l_q11 (X := X) (Y := Y) (Z := Z) b fl hps hp hlen m0 (d - 1) (k + 1) m o1 (by omega) (by omega) g2 (by omega)
        refine ⟨o2, k1, k2, fun c => ?_⟩
        rw [k3, g3, hb, drop_at p k hlt, List.mem_cons]
        simp only [true_and]
        constructor
        · rintro ((h | h) | h)
          · exact .inr (.inl h)
          · exact .inl h
          · exact .inr (.inr h)
        · rintro (h | h | h)
          · exact .inl (.inr h)
          · exact .inl (.inl h)
          · exact .inr h
    · rw [ltF hlt, List.drop_eq_nil_of_le (by omega)]
      exact ⟨out, rfl, hr, fun c => by simp⟩

theorem l_q3 {X Y Z : Int} {l : List D_A3} (hs : sides X Y Z = true) {ps : List (List D_A3)} (b : Bool) (hI : PartsI X Y Z l [] ps) (hps : ps.length ≤ 100) (hil : Ins X Y Z l) : ∀ (d i m : Nat) (out : List D_A3), ps.length = i + d → d < m → Srt out → (∀ c, c ∈ out ↔ ∃ p ∈ ps.take i, c ∈ p ∧ (onFloor p == b) = false) →
    ∃ out', l_spec_l7Parted_3 m X Y Z out b ps (i : Int) = some (out', ()) ∧ Srt out' ∧ ∀ c, c ∈ out' ↔ ∃ p ∈ ps, c ∈ p ∧ (onFloor p == b) = false
  | d, i, 0, out, _, h, _, _ => by omega
  | d, i, m + 1, out, hk, hm, hr, hmem => by
    rw [q_spec_l7Parted_3]
    by_cases hlt : i < ps.length
    · have hp : ps[i]? = some ps[i] := List.getElem?_eq_getElem hlt
      obtain ⟨s1, s2, c0, h0, hm0⟩ := hI.good ps[i] (List.getElem_mem hlt)
      have hlen := srt_small64 hs s2 s1
      have hout : out.length ≤ 64 := srt_small64 hs (fun c hc => by
        obtain ⟨p, hp', hcp, _⟩ := (hmem c).1 hc
        obtain ⟨_, t2, _⟩ := hI.good p (List.mem_of_mem_take hp')
        exact t2 c hcp) hr
      have e7 := l_q7 (X' := X) (Y' := Y) (Z' := Z) (out := out) b (by omega) hp hlen m ps[i].length 0 N false (by omega) (by have := N_ge; omega)
      obtain ⟨o1, k1, k2, k3⟩ := l_q11 (X := X) (Y := Y) (Z := Z) b (onFloor ps[i]) (by omega) hp hlen m ps[i].length 0 N out (by omega) (by have := N_ge; omega) hr (by omega)
      have e7' : l_spec_l7Parted_7 m N X Y Z out b ps (i : Int) false 0 = l_spec_l7Parted_11 m N X Y Z out b ps (i : Int) (onFloor ps[i]) 0 := by
        have := e7
        rw [List.drop_zero, Bool.false_or] at this
        exact this
      have k1' : l_spec_l7Parted_11 m N X Y Z out b ps (i : Int) (onFloor ps[i]) 0 = _ := k1
      rw [ltT hlt]
      simp only [cond_true]
      rw [e7', k1']
      refine l_q3 hs b hI hps hil (d - 1) (i + 1) m o1 (by omega) (by omega) k2 fun c => ?_
      rw [k3, hmem, List.drop_zero, List.take_add_one, hp]
      simp only [Option.toList_some, List.mem_append, List.mem_singleton]
      constructor
      · rintro (⟨p, h1, h2⟩ | ⟨h1, h2⟩)
        · exact ⟨p, .inl h1, h2⟩
        · exact ⟨ps[i], .inr rfl, h2, h1⟩
      · rintro ⟨p, h1 | h1, h2⟩
        · exact .inl ⟨p, h1, h2⟩
        · rw [h1] at h2; exact .inr ⟨h2.2, h2.1⟩
    · rw [ltF hlt]
      refine ⟨out, rfl, hr, fun c => ?_⟩
      rw [hmem, List.take_of_length_le (by omega)]

/-- What hangs (b = true), or what stands. -/
theorem f_l7Parted {X Y Z : Int} {l : List D_A3} (hs : sides X Y Z = true) (hi : Ins X Y Z l) (hr : Srt l) (b : Bool) : ∃ out, P_spec_l7Parted ((X, Y, Z, l, ()), b, ()) = some (out, ()) ∧ Srt out ∧ ∀ c, c ∈ out ↔ c ∈ l ∧ (Stand l c ↔ b = false) := by
  obtain ⟨ps, h1, h2, h3⟩ := f_parts hs hi hr
  obtain ⟨out, k1, k2, k3⟩ := l_q3 hs b h2 h3 hi ps.length 0 N [] (by omega) (by have := N_ge; omega) List.Pairwise.nil (by simp)
  refine ⟨out, ?_, k2, fun c => ?_⟩
  · rw [p_spec_l7Parted, h1, p_spec_l2Empty]
    exact k1
  · rw [k3]
    constructor
    · rintro ⟨p, hp, hc, hb⟩
      obtain ⟨_, _, c0, h0, hm⟩ := h2.good p hp
      refine ⟨Conn.mem h0 ((hm c).1 hc), ?_⟩
      rw [← part_stand h2 hp hc]
      cases hf : onFloor p <;> cases b <;> simp [hf] at hb ⊢
    · rintro ⟨hc, hb⟩
      rcases h2.cover c hc with h | ⟨p, hp, hcp⟩
      · cases h
      · refine ⟨p, hp, hcp, ?_⟩
        rw [← part_stand h2 hp hcp] at hb
        cases hf : onFloor p <;> cases b <;> simp [hf] at hb ⊢
end Go.VI
/- Plain: cubes that sink. -/
namespace Go.VI
open Go.Proofs

/-! ### The sum of the heights -/
def zs : List D_A3 → Nat
  | [] => 0
  | c :: r => c.2.2.1.toNat + zs r

theorem zs_perm {l l' : List D_A3} (h : l.Perm l') : zs l = zs l' := by
  induction h with
  | nil => rfl
  | cons x _ ih => simp [zs, ih]
  | swap x y l => simp only [zs]; omega
  | trans _ _ ih1 ih2 => rw [ih1, ih2]

theorem zs_append (l l' : List D_A3) : zs (l ++ l') = zs l + zs l' := by
  induction l with
  | nil => simp [zs]
  | cons c l ih => simp only [List.cons_append, zs, ih]; omega

def down (c : D_A3) : D_A3 := (c.1, c.2.1, c.2.2.1 - 1, ())

theorem zs_with {l l' : List D_A3} (hr : Srt l) (hr' : Srt l') {c : D_A3} (hm : ∀ x, x ∈ l' ↔ x = c ∨ x ∈ l) : zs l' ≤ zs l + c.2.2.1.toNat := by
  by_cases h : c ∈ l
  · have : l' = l := srt_ext _ _ hr' hr fun x => by
      rw [hm]
      exact ⟨fun hh => hh.elim (fun e => e ▸ h) id, .inr⟩
    rw [this]; omega
  · have hp : l'.Perm (c :: l) := (List.perm_ext_iff_of_nodup hr'.nodup (List.nodup_cons.2 ⟨h, hr.nodup⟩)).2 fun x => by rw [hm, List.mem_cons]
    rw [zs_perm hp]
    simp only [zs]; omega

theorem w1 {z : Int} (h0 : 0 ≤ z) (h1 : z ≤ 10) : IntKind.wrap .i64 (z - 1) = z - 1 := w64 (by omega) (by omega)

theorem l_s9 {X Y Z : Int} {H : List D_A3} (hH : ∀ c ∈ H, 0 ≤ c.2.2.1 ∧ c.2.2.1 ≤ 10) (hlen : H.length ≤ 64) (t : Nat) (ht : t < 1000000) (m0 : Nat) : ∀ (d i m : Nat) (out : List D_A3), H.length = i + d → d < m → Srt out → out.length ≤ 1000 + i →
    ∃ out', l_spec_SinkHeap_9 m0 m 0 0 0 [] X Y Z out (t : Int) H (i : Int) = l_spec_SinkHeap_4 m0 0 0 0 [] X Y Z out' ((t + 1 : Nat) : Int) ∧ Srt out' ∧ (∀ c, c ∈ out' ↔ c ∈ out ∨ c ∈ (H.drop i).map down) ∧ zs out' ≤ zs out + zs ((H.drop i).map down)
  | d, i, 0, out, _, h, _, _ => by omega
  | d, i, m + 1, out, hk, hm, hr, ho => by
    rw [q_spec_SinkHeap_9]
    by_cases hlt : i < H.length
    · have hz := hH _ (List.getElem_mem hlt)
      rw [ltT hlt, inB_at hlt, nthA (t := T_A3) hlt, succI i (by omega), w1 hz.1 hz.2]
      simp only [cond_true]
      obtain ⟨o1, g1, g2, g3, g4⟩ := f_l2With (X := X) (Y := Y) (Z := Z) hr (down H[i]) (by omega)
      have g1' : P_spec_l2With ((X, (Y, (Z, (out, ())))), (H[i].1, (H[i].2.1, (H[i].2.2.1 - 1, ()))), ()) = _ := g1
      rw [g1']
      simp only [Option.bind_some]
      obtain ⟨o2, k1, k2, k3, k4⟩ := l_s9 (X := X) (Y := Y) (Z := Z) hH hlen t ht m0 (d - 1) (i + 1) m o1 (by omega) (by omega) g2 (by omega)
      have hzs := zs_with hr g2 g3
      refine ⟨o2, k1, k2, fun c => ?_, ?_⟩
      · rw [k3, g3, drop_at H i hlt, List.map_cons, List.mem_cons]
        constructor
        · rintro ((h | h) | h)
          · exact .inr (.inl h)
          · exact .inl h
          · exact .inr (.inr h)
        · rintro (h | h | h)
          · exact .inl (.inr h)
          · exact .inl (.inl h)
          · exact .inr h
      · rw [drop_at H i hlt, List.map_cons]
        simp only [zs]
        omega
    · rw [ltF hlt, List.drop_eq_nil_of_le (by omega), succI t (by omega)]
      exact ⟨out, rfl, hr, fun c => by simp, by simp⟩

theorem zs_down : ∀ (H : List D_A3), (∀ c ∈ H, 1 ≤ c.2.2.1) → zs (H.map down) + H.length = zs H
  | [], _ => rfl
  | c :: H, h => by
    have h1 := h c (List.mem_cons_self ..)
    have ih := zs_down H fun x hx => h x (List.mem_cons_of_mem _ hx)
    simp only [List.map_cons, zs, List.length_cons, down]
    omega

theorem zs_le {X Y Z : Int} (hs : sides X Y Z = true) : ∀ (l : List D_A3), Ins X Y Z l → zs l ≤ 3 * l.length
  | [], _ => by simp [zs]
  | c :: l, h => by
    have ih := zs_le hs l fun x hx => h x (List.mem_cons_of_mem _ hx)
    have hw := within3_iff.1 (h c (List.mem_cons_self ..))
    have s := sides_iff.1 hs
    simp only [zs, List.length_cons]
    omega

end Go.VI
/- Plain: the laws of acts. -/
namespace Go.VI
open Go.Proofs

theorem bifp (x z : Bool) : (bif x then some (z, ()) else some (false, ())) = some (x && z, ()) := by cases x <;> rfl
theorem bifp3 (x y z : Bool) : (bif x then bif y then some (z, ()) else some (false, ()) else some (false, ())) = some (x && (y && z), ()) := by cases x <;> cases y <;> rfl

end Go.VI
/- Plain: acts that lead back. -/
namespace Go.VI
open Go.Proofs

/-! ### Put and take -/
/-! ### Other cells -/
/-! ### Mirrored ones -/
/-! ### Exchanged sides -/
end Go.VI
/- Plain: the draws of numbers, cells and heaps give something. -/
namespace Go.VI
open Go.Proofs

/-- Bytes to draw from. -/
def Bts (C : List Int) : Prop := C.length ≤ 1000000 ∧ ∀ b ∈ C, 0 ≤ b ∧ b ≤ 255
abbrev Sd : Type := Int × Int × Unit
/-- A place from which n more bytes can be drawn. -/
def At (n : Nat) (s : Sd) : Prop := 0 ≤ s.1 ∧ s.1 + n ≤ 1000000000

theorem At.le {n m : Nat} {s : Sd} (h : At n s) (hm : m ≤ n) : At m s := ⟨h.1, by have := h.2; omega⟩

theorem and255 (a : Int) : 0 ≤ intBits .and .u64 a 255 ∧ intBits .and .u64 a 255 ≤ 255 := by
  have h : ((BitVec.ofInt 64 a) &&& (BitVec.ofInt 64 255)).toNat ≤ 255 := by
    rw [BitVec.toNat_and]
    exact Nat.le_trans Nat.and_le_right (by decide)
  have e : intBits .and .u64 a 255 = (((BitVec.ofInt 64 a) &&& (BitVec.ofInt 64 255)).toNat : Int) := by
    simp only [intBits]
    rw [show IntKind.bits .u64 = 64 from rfl, wu64]
    omega
  rw [e]
  omega

theorem nth_byte {C : List Int} (hC : Bts C) {i : Int} (h0 : 0 ≤ i) (h1 : i < C.length) : 0 ≤ nth ((.int .u8) : Ty) C i ∧ nth ((.int .u8) : Ty) C i ≤ 255 := by
  have hlt : i.toNat < C.length := by omega
  have e : nth ((.int .u8) : Ty) C i = C[i.toNat] := by simp [nth, List.getD, List.getElem?_eq_getElem hlt]
  rw [e]
  exact hC.2 _ (List.getElem_mem hlt)

theorem f_next {C : List Int} (hC : Bts C) {n : Nat} {s : Sd} (h : At (n + 1) s) : ∃ (x : Int) (s' : Sd), P_l1Cur_next ((C, s), ()) = some ((x, ()), ((C, s'), ())) ∧ At n s' ∧ 0 ≤ x ∧ x ≤ 255 := by
  obtain ⟨a, sd, ⟨⟩⟩ := s
  obtain ⟨h0, h1⟩ := h
  simp only at h0 h1
  rw [p_l1Cur_next]
  simp only
  rw [w64 (x := a + 1) (by omega) (by omega)]
  have hat : ∀ z : Int, At n (a + 1, z, ()) := fun z => ⟨by simp only; omega, by simp only; omega⟩
  by_cases c : a < (C.length : Int)
  · obtain ⟨b0, b1⟩ := nth_byte hC h0 c
    rw [decide_eq_true c, show inB a C.length = true by simp [inB]; omega, decide_eq_true (p := a + 1 ≤ (C.length : Int)) (by omega), w64 (x := nth ((.int .u8) : Ty) C a) (Int.le_trans (by decide) b0) (Int.le_trans b1 (by decide))]
    exact ⟨_, _, rfl, hat _, b0, b1⟩
  · rw [decide_eq_false c, decide_eq_false (p := a + 1 ≤ (C.length : Int)) (by omega)]
    simp only [cond_false]
    generalize hz : intBits .and .u64 _ 255 = z
    have hb : 0 ≤ z ∧ z ≤ 255 := by rw [← hz]; exact and255 _
    rw [w64 (x := z) (by omega) (by omega)]
    exact ⟨_, _, rfl, hat _, hb.1, hb.2⟩

theorem f_pick {C : List Int} (hC : Bts C) {n : Nat} {s : Sd} (h : At (n + 2) s) (k : Int) : ∃ (x : Int) (s' : Sd), P_l1Cur_pick ((C, s), k, ()) = some ((x, ()), ((C, s'), ())) ∧ At n s' ∧ 0 ≤ x ∧ (x < k ∨ (k ≤ 1 ∧ x = 0)) := by
  rw [p_l1Cur_pick]
  by_cases c : k ≤ 1
  · rw [decide_eq_true c]
    exact ⟨_, _, rfl, h.le (by omega), Int.le_refl _, .inr ⟨c, rfl⟩⟩
  · obtain ⟨x, s1, e1, a1, b1, b2⟩ := f_next hC h
    rw [decide_eq_false c, e1]
    simp only [cond_false, Option.bind_some]
    by_cases d : k > 200
    · obtain ⟨y, s2, e2, a2, c1, c2⟩ := f_next hC a1
      rw [decide_eq_true d, e2]
      simp only [cond_true, Option.bind_some]
      rw [decide_eq_false (p := k = 0) (by omega), w64 (x := x * 256) (by omega) (by omega), w64 (x := x * 256 + y) (by omega) (by omega)]
      exact ⟨_, _, rfl, a2, Int.tmod_nonneg _ (by omega), .inl (Int.tmod_lt_of_pos _ (by omega))⟩
    · rw [decide_eq_false d, decide_eq_false (p := k = 0) (by omega)]
      exact ⟨_, _, rfl, a1.le (by omega), Int.tmod_nonneg _ (by omega), .inl (Int.tmod_lt_of_pos _ (by omega))⟩

theorem f_one {C : List Int} (hC : Bts C) {n : Nat} {s : Sd} (h : At (n + 2) s) (k : Int) : ∃ (b : Bool) (s' : Sd), P_l1Cur_one ((C, s), k, ()) = some ((b, ()), ((C, s'), ())) ∧ At n s' := by
  obtain ⟨x, s1, e1, a1, _, _⟩ := f_pick hC h k
  rw [p_l1Cur_one, e1]
  exact ⟨_, _, rfl, a1⟩

theorem f_among {C : List Int} (hC : Bts C) {n : Nat} {s : Sd} (h : At (n + 2) s) (l : List Int) (hl : 0 < l.length) : ∃ (x : Int) (s' : Sd), P_l1Cur_among ((C, s), l, ()) = some ((x, ()), ((C, s'), ())) ∧ At n s' ∧ x ∈ l := by
  obtain ⟨x, s1, e1, a1, b1, b2⟩ := f_pick hC h (l.length : Int)
  rw [p_l1Cur_among, e1]
  simp only [Option.bind_some]
  have hx : x < (l.length : Int) := by omega
  rw [show inB x l.length = true by simp [inB]; omega]
  have hlt : x.toNat < l.length := by omega
  have e : nth ((.int .i64) : Ty) l x = l[x.toNat] := by simp [nth, List.getD, List.getElem?_eq_getElem hlt]
  rw [e]
  exact ⟨_, _, rfl, a1, List.getElem_mem hlt⟩

theorem f_least (a b : Int) : ∃ x, P_spec_l1Least (a, b, ()) = some (x, ()) := by
  rw [p_spec_l1Least]
  cases decide (a < b) <;> exact ⟨_, rfl⟩
theorem f_most (a b : Int) : ∃ x, P_spec_l1Most (a, b, ()) = some (x, ()) := by
  rw [p_spec_l1Most]
  cases decide (a > b) <;> exact ⟨_, rfl⟩

theorem l_cell {C : List Int} (hC : Bts C) {X Y Z : Int} {l : List D_A3} (p4 p5 p6 : Int) : ∀ (d i m n : Nat) (s : Sd) (x y z : Int), i + d = 3 → d < m → At (n + 2 * d + 6) s →
    ∃ (c : D_A3) (s' : Sd), l_l1Cur_cell_3 m X Y Z l p4 p5 p6 x y z C s.1 s.2.1 (i : Int) = some ((c, ()), ((C, s'), ())) ∧ At n s'
  | d, i, 0, n, s, x, y, z, _, h, _ => by omega
  | 0, i, m + 1, n, s, x, y, z, hi, hm, ha => by
    have hi3 : i = 3 := by omega
    subst hi3
    obtain ⟨b, s1, e1, a1⟩ := f_one hC (n := n + 4) (s := s) ha 30
    obtain ⟨p, s2, e2, a2, b1, b2⟩ := f_pick hC (n := n + 2) a1 3
    obtain ⟨v, s3, e3, a3, _⟩ := f_among hC (n := n) a2 [(-1), 4, 4611686018427387904] (by decide)
    have e1' : P_l1Cur_one ((C, (s.1, (s.2.1, ()))), 30, ()) = _ := e1
    rw [q_l1Cur_cell_3, decide_eq_false (by omega), e1']
    simp only [cond_false, Option.bind_some]
    cases b with
    | false => exact ⟨_, _, rfl, a1.le (by omega)⟩
    | true =>
      rw [e2]
      simp only [cond_true, Option.bind_some]
      rw [e3]
      simp only [Option.bind_some]
      rw [show inB p 3 = true by simp [inB]; omega]
      exact ⟨_, _, rfl, a3⟩
  | d + 1, i, m + 1, n, s, x, y, z, hi, hm, ha => by
    rw [q_l1Cur_cell_3, decide_eq_true (p := (i : Int) < 3) (by omega), p_spec_l2Long, inB_at (k := i) (n := 3) (by omega), succI i (by omega)]
    simp only [cond_true, Option.bind_some]
    obtain ⟨u, eu⟩ := f_least (bif decide ((i : Int) = (0 : Int)) then X else (bif decide ((i : Int) = (1 : Int)) then Y else Z)) 4
    rw [eu]
    simp only [Option.bind_some]
    obtain ⟨v, ev⟩ := f_most u 1
    rw [ev]
    simp only [Option.bind_some]
    obtain ⟨p, s1, e1, a1, _⟩ := f_pick hC (n := n + 2 * d + 6) (s := s) (ha.le (by omega)) v
    have e1' : P_l1Cur_pick ((C, (s.1, (s.2.1, ()))), v, ()) = _ := e1
    rw [e1']
    simp only [Option.bind_some]
    exact l_cell hC p4 p5 p6 d (i + 1) m n s1 _ _ _ (by omega) (by omega) a1
termination_by d => d

theorem f_cell {C : List Int} (hC : Bts C) {n : Nat} {s : Sd} (h : At (n + 12) s) (g : D_Heap) : ∃ (c : D_A3) (s' : Sd), P_l1Cur_cell ((C, s), g, ()) = some ((c, ()), ((C, s'), ())) ∧ At n s' := by
  rw [p_l1Cur_cell]
  exact l_cell hC 0 0 0 3 0 N n s 0 0 0 rfl (by have := N_ge; omega) h

theorem f_cube {C : List Int} (hC : Bts C) {n : Nat} {s : Sd} (h : At (n + 14) s) (g : D_Heap) : ∃ (c : D_A3) (s' : Sd), P_l1Cur_cube ((C, s), g, ()) = some ((c, ()), ((C, s'), ())) ∧ At n s' := by
  rw [p_l1Cur_cube]
  by_cases c : (g.2.2.2.1.length : Int) > 0
  · obtain ⟨b, s1, e1, a1⟩ := f_one hC (n := n + 12) h 8
    rw [decide_eq_true c, e1]
    simp only [cond_true, Option.bind_some]
    cases b with
    | false =>
      obtain ⟨p, s2, e2, a2, b1, b2⟩ := f_pick hC (n := n + 10) a1 (g.2.2.2.1.length : Int)
      rw [e2]
      simp only [Bool.not_false, cond_true, Option.bind_some]
      rw [show inB p g.2.2.2.1.length = true by simp [inB]; omega]
      exact ⟨_, _, rfl, a2.le (by omega)⟩
    | true =>
      obtain ⟨x, s2, e2, a2⟩ := f_cell hC (n := n) a1 g
      rw [e2]
      exact ⟨_, _, rfl, a2⟩
  · obtain ⟨x, s2, e2, a2⟩ := f_cell hC (n := n) (h.le (by omega)) g
    rw [decide_eq_false c, e2]
    exact ⟨_, _, rfl, a2⟩

theorem f_direction {C : List Int} (hC : Bts C) {n : Nat} {s : Sd} (h : At (n + 4) s) : ∃ (x : Int) (s' : Sd), P_l1Cur_direction ((C, s), ()) = some ((x, ()), ((C, s'), ())) ∧ At n s' := by
  obtain ⟨b, s1, e1, a1⟩ := f_one hC (n := n + 2) h 30
  rw [p_l1Cur_direction, e1]
  simp only [Option.bind_some]
  cases b with
  | false =>
    obtain ⟨p, s2, e2, a2, _⟩ := f_pick hC (n := n) a1 3
    rw [e2]
    exact ⟨_, _, rfl, a2⟩
  | true =>
    obtain ⟨p, s2, e2, a2, _⟩ := f_among hC (n := n) a1 [(-1), 3, 4611686018427387904] (by decide)
    rw [e2]
    exact ⟨_, _, rfl, a2⟩

/-! ### Heaps -/
theorem other_len (h : D_Heap) (hl : Small h.2.2.2.1) : ∃ r, P_spec_OtherCells (h, ()) = some r ∧ r.1.2.2.2.1.length ≤ 64 := by
  rw [p_spec_OtherCells, f_spec_l2Heap _ hl]
  cases ho : okHeap h with
  | false => exact ⟨_, rfl, by simp⟩
  | true =>
    obtain ⟨hs, hi, hr⟩ := okHeap_iff.1 ho
    obtain ⟨a1, a2, a3⟩ := allCells_ok hs
    have f0 : P_spec_l2All (h, ()) = _ := f_l2All h.2.2.2.1 hs
    simp only [Option.bind_some, Bool.not_true, cond_false]
    rw [p_spec_l2Empty, f0]
    simp only [Option.bind_some]
    have e := l_other (X := h.1) (Y := h.2.1) (Z := h.2.2.1) (X' := h.1) (Y' := h.2.1) (Z' := h.2.2.1) hl a1 (allCells h.1 h.2.1 h.2.2.1).length 0 N [] (by simp) (by unfold Small at a1; have := N_ge; omega) (by simp)
    have e' : l_spec_OtherCells_5 N h.1 h.2.1 h.2.2.1 h.2.2.2.1 0 0 0 [] h.1 h.2.1 h.2.2.1 [] (allCells h.1 h.2.1 h.2.2.1) 0 = _ := e
    rw [e']
    exact ⟨_, rfl, show ((allCells h.1 h.2.1 h.2.2.1).filter fun x => !decide (x ∈ h.2.2.2.1)).length ≤ 64 from Nat.le_trans (List.length_filter_le _ _) (srt_small64 hs a2 a3)⟩

theorem stack_len {X Y Z : Int} (hs : sides X Y Z = true) {V : List Int} (hV : V.length = (X * Y).toNat) : ∃ r, P_spec_l2Stack (X, Y, Z, V, ()) = some r ∧ r.1.2.2.2.1.length ≤ 64 := by
  obtain ⟨a1, a2, a3⟩ := allCells_ok hs
  rw [p_spec_l2Stack, p_spec_l2Empty]
  simp only [Option.bind_some]
  rw [f_l2All [] hs]
  simp only [Option.bind_some]
  have e := l_stackS (X' := X) (Y' := Y) (Z' := Z) hs hV a1 a2 (allCells X Y Z).length 0 N [] (by simp) (by unfold Small at a1; have := N_ge; omega) (by simp)
  have e' : l_spec_l2Stack_4 N 0 0 0 [] X Y Z [] Y V (allCells X Y Z) 0 = _ := e
  rw [e']
  exact ⟨_, rfl, show ((allCells X Y Z).filter (lowC Y V)).length ≤ 64 from Nat.le_trans (List.length_filter_le _ _) (srt_small64 hs a2 a3)⟩

theorem l_some {C : List Int} (hC : Bts C) {X Y Z : Int} (hs : sides X Y Z = true) {al : List D_A3} (hal : al.length ≤ 64) (hin : Ins X Y Z al) (q0 q1 q2 : Int) (q3 : List D_A3) (odds : Int) : ∀ (d i m n : Nat) (s : Sd) (out : List D_A3), al.length = i + d → d < m → out.length ≤ i → Ins X Y Z out → At (n + 2 * d + 2) s →
    ∃ (g : D_Heap) (s' : Sd), l_l1Cur_someHeap_6 m q0 q1 q2 q3 X Y Z out C s.1 s.2.1 X Y Z odds al (i : Int) = some ((g, ()), ((C, s'), ())) ∧ At n s' ∧ g.2.2.2.1.length ≤ 64
  | d, i, 0, n, s, out, _, h, _, _, _ => by omega
  | d, i, m + 1, n, s, out, hk, hm, ho, hio, ha => by
    rw [q_l1Cur_someHeap_6]
    by_cases hlt : i < al.length
    · obtain ⟨b, s1, e1, a1⟩ := f_one hC (n := n + 2 * (d - 1) + 2) (s := s) (ha.le (by omega)) odds
      have e1' : P_l1Cur_one ((C, (s.1, (s.2.1, ()))), odds, ()) = _ := e1
      rw [ltT hlt, e1', succI i (by omega)]
      simp only [cond_true, Option.bind_some]
      cases b with
      | false => exact l_some hC hs hal hin q0 q1 q2 q3 odds (d - 1) (i + 1) m n s1 out (by omega) (by omega) (by omega) hio a1
      | true =>
        rw [inB_at hlt, nthA (t := T_A3) hlt, app_len' (l := out) (by omega)]
        simp only [cond_true]
        refine l_some hC hs hal hin q0 q1 q2 q3 odds (d - 1) (i + 1) m n s1 _ (by omega) (by omega) (by simp; omega) (fun c hc => ?_) a1
        rcases List.mem_append.1 hc with hc | hc
        · exact hio c hc
        · rw [List.mem_singleton.1 hc]; exact hin _ (List.getElem_mem hlt)
    · obtain ⟨p, s1, e1, a1, _⟩ := f_pick hC (n := n + 2 * d) (s := s) ha 12
      have e1' : P_l1Cur_pick ((C, (s.1, (s.2.1, ()))), 12, ()) = _ := e1
      have hso : Small out := by unfold Small; omega
      rw [ltF hlt, e1']
      simp only [cond_false, Option.bind_some]
      by_cases c0 : p = 0
      · obtain ⟨r, er, hr⟩ := other_len (X, Y, Z, out, ()) hso
        rw [decide_eq_true c0, er]
        exact ⟨_, _, rfl, a1.le (by omega), hr⟩
      · rw [decide_eq_false c0]
        by_cases c1 : p = 1
        · obtain ⟨r, er, hr⟩ := stack_len hs (cols_len X Y out)
          rw [decide_eq_true c1, p_spec_l2Heights, f_viewS hs hso hio]
          simp only [cond_true, cond_false, Option.bind_some]
          rw [er]
          exact ⟨_, _, rfl, a1.le (by omega), hr⟩
        · rw [decide_eq_false c1]
          exact ⟨_, _, rfl, a1.le (by omega), (by omega : out.length ≤ 64)⟩

theorem f_someHeap {C : List Int} (hC : Bts C) {n : Nat} {s : Sd} (h : At (n + 132) s) (X Y Z : Int) : ∃ (g : D_Heap) (s' : Sd), P_l1Cur_someHeap ((C, s), X, Y, Z, ()) = some ((g, ()), ((C, s'), ())) ∧ At n s' ∧ g.2.2.2.1.length ≤ 64 := by
  obtain ⟨o, s1, e1, a1, _⟩ := f_among hC (n := n + 130) h [2, 3, 2, 4] (by decide)
  rw [p_l1Cur_someHeap, p_spec_l2Empty, e1]
  simp only [Option.bind_some]
  rw [f_spec_l2Sides]
  simp only [Option.bind_some]
  cases hs : sides X Y Z with
  | false => exact ⟨_, _, rfl, a1.le (by omega), by simp⟩
  | true =>
    obtain ⟨k1, k2, k3⟩ := allCells_ok hs
    have h64 := srt_small64 hs k2 k3
    simp only [Bool.not_true, cond_false]
    rw [f_l2All [] hs]
    simp only [Option.bind_some]
    exact l_some hC hs h64 k2 0 0 0 [] o (allCells X Y Z).length 0 N n s1 [] (by simp) (by have := N_ge; omega) (by simp) (fun c hc => by cases hc) (a1.le (by omega))

end Go.VI
/- Plain: benches and acts that are drawn, and what acts lead to. -/
namespace Go.VI
open Go.Proofs

/-! ### Acts that are drawn -/
theorem act_tail {C : List Int} (hC : Bts C) {n : Nat} {s : Sd} (h : At (n + 6) s) (f0 f1 f2 : Int → D_Act) (f3 : Int → Int → D_Act) (f4 : D_Act) : ∃ (a : D_Act) (s' : Sd),
    (Option.bind (P_l1Cur_pick ((C, s), 32, ())) fun r3 =>
      bif decide (r3.1.1 = 0) then
        Option.bind (P_l1Cur_among ((C, r3.2.1.2), ([(-1), 3, 1, 4611686018427387904] : List Int), ())) fun r5 =>
        some ((f0 r5.1.1, ()), ((C, r5.2.1.2), ()))
      else
        bif decide (r3.1.1 = 1) then
          Option.bind (P_l1Cur_among ((C, r3.2.1.2), ([(-1), 3, 1] : List Int), ())) fun r6 =>
          some ((f1 r6.1.1, ()), ((C, r6.2.1.2), ()))
        else
          bif decide (r3.1.1 = 2) then
            Option.bind (P_l1Cur_among ((C, r3.2.1.2), ([0, 8, (-1)] : List Int), ())) fun r7 =>
            some ((f2 r7.1.1, ()), ((C, r7.2.1.2), ()))
          else
            bif decide (r3.1.1 = 3) then
              Option.bind (P_l1Cur_pick ((C, r3.2.1.2), 3, ())) fun r8 =>
              Option.bind (P_l1Cur_among ((C, r8.2.1.2), ([(-1), 4, 1] : List Int), ())) fun r9 =>
              bif inB r8.1.1 3 then
                some ((f3 r8.1.1 r9.1.1, ()), ((C, r9.2.1.2), ()))
              else none
            else
              some ((f4, ()), ((C, r3.2.1.2), ()))) = some ((a, ()), ((C, s'), ())) ∧ At n s' := by
  obtain ⟨p, s1, e1, a1, _⟩ := f_pick hC (n := n + 4) h 32
  rw [e1]
  simp only [Option.bind_some]
  by_cases c0 : p = 0
  · obtain ⟨v, s2, e2, a2, _⟩ := f_among hC (n := n + 2) a1 [(-1), 3, 1, 4611686018427387904] (by decide)
    rw [decide_eq_true c0, e2]
    exact ⟨_, _, rfl, a2.le (by omega)⟩
  rw [decide_eq_false c0]
  by_cases c1 : p = 1
  · obtain ⟨v, s2, e2, a2, _⟩ := f_among hC (n := n + 2) a1 [(-1), 3, 1] (by decide)
    rw [decide_eq_true c1, e2]
    exact ⟨_, _, rfl, a2.le (by omega)⟩
  rw [decide_eq_false c1]
  by_cases c2 : p = 2
  · obtain ⟨v, s2, e2, a2, _⟩ := f_among hC (n := n + 2) a1 [0, 8, (-1)] (by decide)
    rw [decide_eq_true c2, e2]
    exact ⟨_, _, rfl, a2.le (by omega)⟩
  rw [decide_eq_false c2]
  by_cases c3 : p = 3
  · obtain ⟨q, s2, e2, a2, b1, b2⟩ := f_pick hC (n := n + 2) a1 3
    obtain ⟨v, s3, e3, a3, _⟩ := f_among hC (n := n) a2 [(-1), 4, 1] (by decide)
    rw [decide_eq_true c3, e2]
    simp only [cond_true, cond_false, Option.bind_some]
    rw [e3]
    simp only [Option.bind_some]
    rw [show inB q 3 = true by simp [inB]; omega]
    exact ⟨_, _, rfl, a3⟩
  rw [decide_eq_false c3]
  exact ⟨_, _, rfl, a1.le (by omega)⟩

theorem f_act12 {C : List Int} (hC : Bts C) {n : Nat} {s : Sd} (h : At (n + 22) s) (g : D_Heap) : ∃ (a : D_Act) (s' : Sd), P_l1Cur_act12 ((C, s), g, ()) = some ((a, ()), ((C, s'), ())) ∧ At n s' := by
  obtain ⟨k, s1, e1, a1, _⟩ := f_among hC (n := n + 20) h [1, 1, 1, 2, 2, 3, 4, 5, 6, 7] (by decide)
  rw [p_l1Cur_act12, e1]
  simp only [Option.bind_some]
  by_cases c1 : k = 1
  · obtain ⟨c, s2, e2, a2⟩ := f_cell hC (n := n + 8) a1 g
    rw [decide_eq_true c1, e2]
    exact act_tail hC (a2.le (by omega)) (fun v => (k, (c, (v, (0, ()))))) (fun v => (k, (c, (0, (v, ()))))) (fun v => (v, (c, (0, (0, ()))))) (fun i v => (k, (((bif decide (i = (0 : Int)) then v else c.1), ((bif decide (i = (1 : Int)) then v else c.2.1), ((bif decide (i = (2 : Int)) then v else c.2.2.1), ()))), (0, (0, ()))))) (k, (c, (0, (0, ()))))
  rw [decide_eq_false c1]
  by_cases c2 : k = 2
  · obtain ⟨c, s2, e2, a2⟩ := f_cube hC (n := n + 6) a1 g
    rw [decide_eq_true c2, e2]
    exact act_tail hC (a2.le (by omega)) (fun v => (k, (c, (v, (0, ()))))) (fun v => (k, (c, (0, (v, ()))))) (fun v => (v, (c, (0, (0, ()))))) (fun i v => (k, (((bif decide (i = (0 : Int)) then v else c.1), ((bif decide (i = (1 : Int)) then v else c.2.1), ((bif decide (i = (2 : Int)) then v else c.2.2.1), ()))), (0, (0, ()))))) (k, (c, (0, (0, ()))))
  rw [decide_eq_false c2]
  by_cases c5 : k = 5
  · obtain ⟨d, s2, e2, a2⟩ := f_direction hC (n := n + 16) a1
    rw [decide_eq_true c5, e2]
    exact act_tail hC (a2.le (by omega)) (fun v => (k, ((0, (0, (0, ()))), (v, (0, ()))))) (fun v => (k, ((0, (0, (0, ()))), (d, (v, ()))))) (fun v => (v, ((0, (0, (0, ()))), (d, (0, ()))))) (fun i v => (k, (((bif decide (i = (0 : Int)) then v else 0), ((bif decide (i = (1 : Int)) then v else 0), ((bif decide (i = (2 : Int)) then v else 0), ()))), (d, (0, ()))))) (k, ((0, (0, (0, ()))), (d, (0, ()))))
  rw [decide_eq_false c5]
  by_cases c6 : k = 6
  · obtain ⟨d, s2, e2, a2⟩ := f_direction hC (n := n + 16) a1
    obtain ⟨d', s3, e3, a3⟩ := f_direction hC (n := n + 12) a2
    rw [decide_eq_true c6, e2]
    simp only [cond_true, cond_false, Option.bind_some]
    rw [e3]
    exact act_tail hC (a3.le (by omega)) (fun v => (k, ((0, (0, (0, ()))), (v, (d', ()))))) (fun v => (k, ((0, (0, (0, ()))), (d, (v, ()))))) (fun v => (v, ((0, (0, (0, ()))), (d, (d', ()))))) (fun i v => (k, (((bif decide (i = (0 : Int)) then v else 0), ((bif decide (i = (1 : Int)) then v else 0), ((bif decide (i = (2 : Int)) then v else 0), ()))), (d, (d', ()))))) (k, ((0, (0, (0, ()))), (d, (d', ()))))
  rw [decide_eq_false c6]
  exact act_tail hC (a1.le (by omega)) (fun v => (k, ((0, (0, (0, ()))), (v, (0, ()))))) (fun v => (k, ((0, (0, (0, ()))), (0, (v, ()))))) (fun v => (v, ((0, (0, (0, ()))), (0, (0, ()))))) (fun i v => (k, (((bif decide (i = (0 : Int)) then v else 0), ((bif decide (i = (1 : Int)) then v else 0), ((bif decide (i = (2 : Int)) then v else 0), ()))), (0, (0, ()))))) (k, ((0, (0, (0, ()))), (0, (0, ()))))

/-! ### What an act makes -/
theorem okBench_iff {b : D_Bench} : okBench b = true ↔ okHeap b.1 = true ∧ (0 ≤ b.2.1 ∧ b.2.1 ≤ (b.1.2.2.2.1.length : Int)) ∧ (0 ≤ b.2.2.1 ∧ b.2.2.1 ≤ 1000) := by
  simp only [okBench, okBench.within3one, Bool.and_eq_true, decide_eq_true_eq]
  constructor
  · rintro ⟨⟨h1, h2⟩, h3⟩; exact ⟨h1, h2, h3⟩
  · rintro ⟨h1, h2, h3⟩; exact ⟨⟨h1, h2⟩, h3⟩

theorem okBench_len {b : D_Bench} (h : okBench b = true) : b.1.2.2.2.1.length ≤ 64 := by
  obtain ⟨h1, _⟩ := okBench_iff.1 h
  obtain ⟨hs, hi, hr⟩ := okHeap_iff.1 h1
  exact srt_small64 hs hi hr

/-! ### Benches that are drawn -/
theorem l_bench0 {C : List Int} (hC : Bts C) (ok : Bool) : ∀ (m n : Nat) (s : Sd) (b : D_Bench), b.1.2.2.2.1.length ≤ 64 → At (n + 4) s →
    ∃ (b' : D_Bench) (s' : Sd), l_l1Cur_bench_4 (m + 1) 0 0 0 [] 0 0 b.1.1 b.1.2.1 b.1.2.2.1 b.1.2.2.2.1 b.2.1 b.2.2.1 C s.1 s.2.1 ok 0 = some ((b', ()), ((C, s'), ())) ∧ At n s' ∧ b'.1.2.2.2.1.length ≤ 65 := by
  intro m n s b hb ha
  obtain ⟨p, s1, e1, a1, _⟩ := f_pick hC (n := n + 2) (s := s) ha 48
  have e1' : P_l1Cur_pick ((C, (s.1, (s.2.1, ()))), 48, ()) = _ := e1
  rw [q_l1Cur_bench_4, decide_eq_false (p := (0 : Int) > 0) (by decide), e1']
  simp only [cond_false, Option.bind_some]
  by_cases c0 : p = 0
  · obtain ⟨v, s2, e2, a2, _⟩ := f_among hC (n := n) a1 [(-1), 1000, 1001] (by decide)
    rw [decide_eq_true c0, e2]
    exact ⟨_, _, rfl, a2, Nat.le_trans hb (by omega)⟩
  rw [decide_eq_false c0]
  by_cases c1 : p = 1
  · obtain ⟨v, s2, e2, a2, _⟩ := f_among hC (n := n) a1 [(-1), (IntKind.wrap .i64 ((b.1.2.2.2.1.length : Int) + 1)), 0] (by simp)
    rw [decide_eq_true c1, e2]
    exact ⟨_, _, rfl, a2, Nat.le_trans hb (by omega)⟩
  rw [decide_eq_false c1]
  by_cases c2 : p = 2
  · rw [decide_eq_true c2, own1 _ (small64 hb), app_len' (l := ([] : List D_A3) ++ b.1.2.2.2.1) (by simp; omega)]
    exact ⟨_, _, rfl, a1.le (by omega), by simp; omega⟩
  rw [decide_eq_false c2]
  by_cases c3 : p = 3
  · obtain ⟨v, s2, e2, a2, _⟩ := f_among hC (n := n) a1 [0, 5, 4] (by decide)
    rw [decide_eq_true c3, e2]
    exact ⟨_, _, rfl, a2, Nat.le_trans hb (by omega)⟩
  rw [decide_eq_false c3]
  exact ⟨_, _, rfl, a1.le (by omega), Nat.le_trans hb (by omega)⟩

theorem at00 (n : Nat) (h : n ≤ 1000000) : At n ((0, 0, ()) : Sd) := ⟨by simp only; omega, by simp only; omega⟩

end Go.VI
