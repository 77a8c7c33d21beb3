/- Rows of rows that are one's own: read, and marked. -/
import Derived.Test.YtkiiaoekkppghaaVhOne
import Derived.Deep.LoopGhost
namespace Go.VI
open Go.Proofs Go.RowKit
set_option maxRecDepth 100000

/-- One inner row is turned. -/
theorem DeepR.turn {w w2 : World} {B : Nat} {eo ei : TypeId} {t : Ty} {v : Value} {vs : List Value} {ls : List (List t.den)} (h : DeepR w B eo ei t v vs ls) (he : eo ≠ ei) {i : Nat} {u : Value} {l l' : List t.den} (hu : vs[i]? = some u) (hl : ls[i]? = some l)
    (hf : FrameL (fun g => u.ownBlock = some g) w w2) (hn : OwnV (fun _ => False) w2 B ei t u l') : DeepR w2 B eo ei t v vs (ls.set i l') := by
  have hlen := h.len
  refine ⟨?_, fun j a m ha hm => ?_, h.apart⟩
  · rw [List.length_set]
    refine ownsRow_at h.outer fun g hg => hf.block g (h.outer.lt g hg).2 fun e => h.outer_ne he hu hl e hg
  · by_cases hij : i = j
    · subst hij
      obtain rfl : u = a := by rw [hu] at ha; exact Option.some.inj ha
      have hlt : i < ls.length := by
        rcases Nat.lt_or_ge i ls.length with h' | h'
        · exact h'
        · rw [List.getElem?_eq_none h'] at hl; cases hl
      rw [List.getElem?_set_self hlt] at hm
      obtain rfl : l' = m := Option.some.inj hm
      exact hn
    · rw [List.getElem?_set_ne hij] at hm
      have hi := h.inner j a m ha hm
      exact hi.mono (fun _ hz => hz) (fun _ hz => hz.elim) fun g hg => hf.block g (hi.lt g hg).2 fun e => hij (h.apart i j u a g hu ha e hg)

/-- Read as rows of a zone. -/
theorem DeepR.reads {w : World} {B : Nat} {eo ei : TypeId} {t : Ty} {v : Value} {vs : List Value} {ls : List (List t.den)} (h : DeepR w B eo ei t v vs ls) {Z : Nat → Prop} (hv : ∀ g, v.ownBlock = some g → Z g) (hu : ∀ u ∈ vs, ∀ g, u.ownBlock = some g → Z g) :
    RepI Z w (.sl (.sl t)) ls [v] := by
  have hlen := h.len
  rcases h.outer.2 with ⟨rfl, h0⟩ | ⟨g, cap, cur, rfl, hb, hg, hnc, _⟩
  · have : ls = [] := List.length_eq_zero_iff.1 h0
    subst this
    exact ⟨none, 0, rfl, Nat.le_refl _, fun i x hx => by simp at hx⟩
  · refine ⟨some ⟨g, 0, none⟩, cap, rfl, hnc, fun i x hx => ⟨_, rfl, hv g rfl, ?_⟩⟩
    obtain ⟨u, hui⟩ := getElem?_len hlen.symm hx
    refine ⟨[u], (h.inner i u x hui hx).reads Z (fun _ hz => hz.elim) (fun g' hg' => hu u (List.mem_of_getElem? hui) g' hg'), fun j a ha => ?_⟩
    match j, ha with
    | 0, ha =>
      obtain rfl : u = a := by simpa using ha
      have := h.outer.cells (g := g) rfl i u hui
      have e : i * (Ty.sl t).size + 0 = i := by show i * 1 + 0 = i; omega
      rw [e]
      exact this

/-- A call to which one row is lent. -/
theorem mark_row {w : World} {B : Nat} {u : Value} {l l2 : List D_A3} {k k2 : Int} (hu : OwnV (fun _ => False) w B 48 T_A3 u l) (hF : P_laws_markIntA3S (l, k, ()) = some ((k2, ()), (l2, ()))) :
    Calls Try.prog 33 #[u, .int .i64 k] w fun e w' => e = .returned (.int .i64 k2) ∧ FrameL (fun g => u.ownBlock = some g) w w' ∧ OwnV (fun _ => False) w' B 48 T_A3 u l2 := by
  have hs := s_laws_markIntA3S w (fun _ => False) [u, .int .i64 k] (l, k, ()) (k2, ()) (l2, ()) [.row u 48 T_A3] trivial (fun _ h => h.elim)
    ⟨[u], [.int .i64 k], [.row u 48 T_A3], [], rfl, (fun _ => rfl), rfl, ⟨48, u, rfl, rfl, rfl, OwnV.rebaseM hu fun g _ => Nat.zero_le g⟩, [.int .i64 k], [], rfl, (fun _ => rfl), rfl, rfl, rfl⟩
    ⟨fun g hg => by
      obtain ⟨it, hit, hb⟩ := hg
      obtain rfl : it = .row u 48 T_A3 := by simpa using hit
      exact ⟨fun hz => hz, (hu.lt g hb).2, Nat.zero_le _⟩, fun i j p q g hp hq _ _ => by
      match i, j, hp, hq with
      | 0, 0, _, _ => rfl⟩ hF
  refine (FCalls.calls (enter_run (fn := Try.f33) Try.func33 rfl (by kernel_rfl)) hs).mono ?_
  rintro e w' ⟨v, rfl, Z', us, rfl, hfr, _, _, hres, hout⟩
  have hus := resRel_flat (R := [(false, .int .i64)]) rfl hres
  obtain ⟨l', ns', he, hown, _⟩ := hout
  have he' : (l' = l2 : Prop) := by
    have : [New.row T_A3 l2] = New.row T_A3 l' :: ns' := he
    simp at this
    exact this.1.symm
  subst he'
  refine ⟨by rw [hus]; rfl, ⟨hfr.os, hfr.tape, hfr.output, hfr.size, fun g hg hn => hfr.block g hg fun ⟨it, hit, hb⟩ => ?_⟩, ?_⟩
  · obtain rfl : it = .row u 48 T_A3 := by simpa using hit
    exact hn hb
  · exact (OwnV.rebaseM hown fun g hg => (hu.lt g hg).1).flat rfl

/-- All inner rows are marked, one behind the other. -/
theorem mark_deep {w : World} {B : Nat} {v : Value} {vs : List Value} {ls : List (List D_A3)} (h : DeepR w B 22 48 T_A3 v vs ls) (hn : ls.length ≤ 1000) (kf : Nat → Int) (lf : Nat → List D_A3)
    (hm : ∀ i l, ls[i]? = some l → P_laws_markIntA3S (l, kf i, ()) = some ((kf (i + 1), ()), (lf i, ()))) :
    Calls Try.prog 15 #[v, .int .i64 (kf 0)] w fun e w' => e = .returned (.int .i64 (kf ls.length)) ∧ FrameL (fun g => ∃ u ∈ vs, u.ownBlock = some g) w w' ∧ DeepR w' B 22 48 T_A3 v vs ((List.range ls.length).map lf) := by
  have hlen := h.len
  obtain ⟨A, c, rfl⟩ : ∃ A c, v = .slice A ls.length c := by
    rcases h.outer.2 with ⟨rfl, h0⟩ | ⟨g, c, cur, rfl, _⟩
    · exact ⟨none, 0, by rw [h0]⟩
    · exact ⟨_, _, rfl⟩
  go_enter Try.func15, Try.ntmps15
  go_wp2
  go_loopg [1, 5] ls.length (fun m v1 v5 wr => ∃ i : Nat, i ≤ ls.length ∧ m = ls.length - i ∧ v1 = .int .i64 (kf i) ∧ v5 = .int .i64 i ∧ FrameL (fun g => ∃ u ∈ vs, u.ownBlock = some g) w wr ∧ DeepR wr B 22 48 T_A3 (.slice A ls.length c) vs ((List.range i).map lf ++ ls.drop i))
  case atStart => exact ⟨0, Nat.zero_le _, rfl, rfl, rfl, ⟨rfl, rfl, rfl, Nat.le_refl _, fun _ _ _ => rfl⟩, by simpa using h⟩
  case round =>
    obtain ⟨i, hi, rfl, rfl, rfl, hf, hd⟩ := hrel
    by_cases hin : i < ls.length
    · obtain ⟨u, hu⟩ : ∃ u, vs[i]? = some u := ⟨vs[i]'(by omega), List.getElem?_eq_getElem (by omega)⟩
      have hgl : ls[i]? = some ls[i] := List.getElem?_eq_getElem hin
      have hl0 : ((List.range i).map lf ++ ls.drop i)[i]? = some ls[i] := by
        rw [List.getElem?_append_right (by simp)]
        simp [hin]
      have hset : ((List.range i).map lf ++ ls.drop i).set i (lf i) = (List.range (i + 1)).map lf ++ ls.drop (i + 1) := by
        rw [List.set_append_right _ _ (by simp)]
        simp only [List.length_map, List.length_range, Nat.sub_self]
        simp only [List.range_succ, List.map_append, List.map_cons, List.map_nil, List.append_assoc, List.cons_append, List.nil_append]
        rw [List.drop_eq_getElem_cons hin]
        rfl
      obtain ⟨g, rfl⟩ : ∃ g, A = some ⟨g, 0, none⟩ := by
        rcases h.outer.2 with ⟨e, h0⟩ | ⟨g, c', cur, e, _⟩
        · omega
        · injection e with e1 e2 e3; exact ⟨g, e1⟩
      have hc := hd.outer.cells (g := g) rfl i u hu
      rw [Addr.add_lit, Nat.zero_add] at hc
      have hcall := mark_row (k := kf i) (hd.inner i u _ hu hl0) (hm i _ hgl)
      have hlt : (i : Int) < (ls.length : Int) := by omega
      go_wp2_with (go_at_call 33; refine hcall.mono ?_; rintro e w2 ⟨rfl, hf2, ho2⟩; have hd2 := hd.turn (by decide) hu hl0 hf2 ho2)
      go_roundg (ls.length - (i + 1))
      case measure => omega
      case rel => exact ⟨i + 1, by omega, rfl, rfl, by go_num, ⟨hf2.os.trans hf.os, hf2.tape.trans hf.tape, hf2.output.trans hf.output, Nat.le_trans hf.size hf2.size, fun g' hg' hn' => (hf2.block g' (Nat.lt_of_lt_of_le hg' hf.size) fun e => hn' ⟨u, List.mem_of_getElem? hu, e⟩).trans (hf.block g' hg' hn')⟩, by rw [← hset]; exact hd2⟩
    · obtain rfl : i = ls.length := by omega
      have hlt : ¬ ((ls.length : Int) < (ls.length : Int)) := by omega
      go_wp2
      go_ret
      exact ⟨rfl, hf, by simpa using hd⟩
end Go.VI
