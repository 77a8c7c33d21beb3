/- Plain: what is whole, and how far it goes. -/
import Derived.Test.YtlnfgikipeiaiaaGreatPlJh
import Derived.Test.YtlnfgikipeiaiaaGreatWjComp
import Derived.Lib.Hide
import Derived.Deep.QuietTactic
import Derived.BigQuiet
import Derived.Deep.RegionHeld3
namespace Go.VI
open Go.Proofs
set_option maxRecDepth 100000
theorem nodup_len {α : Type} [DecidableEq α] : ∀ {a b : List α}, a.Nodup → (∀ c ∈ a, c ∈ b) → a.length ≤ b.length
  | [], _, _, _ => Nat.zero_le _
  | x :: a, b, h, hs => by
    have hx := hs x (by simp)
    have := nodup_len (a := a) (b := b.erase x) (List.nodup_cons.1 h).2 fun c hc => by
      have hne : c ≠ x := fun e => (List.nodup_cons.1 h).1 (e ▸ hc)
      exact (List.mem_erase_of_ne hne).2 (hs c (by simp [hc]))
    rw [List.length_erase_of_mem hx] at this
    have hp : 0 < b.length := List.length_pos_of_mem hx
    simp only [List.length_cons]
    omega
theorem nrm_len {l : List D_A3} {k : D_Heap} (h : Nrm l k) : k.2.2.2.1.length ≤ l.length := by
  obtain ⟨lo, hi, a⟩ := h
  have := nodup_len (a := k.2.2.2.1.map fun c => addC c lo) (b := l) (srt_addC a.srt lo).nodup fun c hc => by
    obtain ⟨d, hd, rfl⟩ := List.mem_map.1 hc
    exact (a.mem d).1 hd
  simpa using this
def Whole (l : List D_A3) : Prop := ∀ a ∈ l, ∀ b ∈ l, Conn l a b
theorem conn_set {l l' : List D_A3} (e : ∀ c, c ∈ l ↔ c ∈ l') {a b : D_A3} (h : Conn l a b) : Conn l' a b := Rch.mono (fun _ h => .base h) (fun c h => (e c).1 h) h
theorem Whole.set {l l' : List D_A3} (e : ∀ c, c ∈ l ↔ c ∈ l') (h : Whole l) : Whole l' := fun a ha b hb => conn_set e (h a ((e a).2 ha) b ((e b).2 hb))
theorem conn_map {f : D_A3 → D_A3} (hf : ∀ c d, nb c d → nb (f c) (f d)) {l : List D_A3} {a b : D_A3} (h : Conn l a b) : Conn (l.map f) (f a) (f b) := by
  induction h with
  | base h => exact .base (by rw [h])
  | step _ hn hd ih => exact .step ih (hf _ _ hn) (List.mem_map_of_mem hd)
theorem Whole.map {f : D_A3 → D_A3} (hf : ∀ c d, nb c d → nb (f c) (f d)) {l : List D_A3} (h : Whole l) : Whole (l.map f) := fun a ha b hb => by
  obtain ⟨x, hx, rfl⟩ := List.mem_map.1 ha
  obtain ⟨y, hy, rfl⟩ := List.mem_map.1 hb
  exact conn_map hf (h x hx y hy)
theorem nb_add (v : D_A3) (c d : D_A3) (h : nb c d) : nb (addC c v) (addC d v) := by
  rw [nb_iff] at h ⊢
  simp only [addC]; omega
def Ok3 (t : D_l8Turn) : Prop := (t.1.1 = 0 ∧ t.1.2.1 = 1 ∧ t.1.2.2.1 = 2) ∨ (t.1.1 = 0 ∧ t.1.2.1 = 2 ∧ t.1.2.2.1 = 1) ∨ (t.1.1 = 1 ∧ t.1.2.1 = 0 ∧ t.1.2.2.1 = 2) ∨ (t.1.1 = 1 ∧ t.1.2.1 = 2 ∧ t.1.2.2.1 = 0) ∨ (t.1.1 = 2 ∧ t.1.2.1 = 0 ∧ t.1.2.2.1 = 1) ∨ (t.1.1 = 2 ∧ t.1.2.1 = 1 ∧ t.1.2.2.1 = 0)
def ok3B (t : D_l8Turn) : Bool := (decide (t.1.1 = 0) && (decide (t.1.2.1 = 1) && decide (t.1.2.2.1 = 2))) || ((decide (t.1.1 = 0) && (decide (t.1.2.1 = 2) && decide (t.1.2.2.1 = 1))) || ((decide (t.1.1 = 1) && (decide (t.1.2.1 = 0) && decide (t.1.2.2.1 = 2))) || ((decide (t.1.1 = 1) && (decide (t.1.2.1 = 2) && decide (t.1.2.2.1 = 0))) || ((decide (t.1.1 = 2) && (decide (t.1.2.1 = 0) && decide (t.1.2.2.1 = 1))) || (decide (t.1.1 = 2) && (decide (t.1.2.1 = 1) && decide (t.1.2.2.1 = 0)))))))
theorem ok324 : ∀ t ∈ T24, Ok3 t := by
  have h : T24.all ok3B = true := by kernel_rfl
  rw [List.all_eq_true] at h
  intro t ht
  have := h t ht
  simpa [ok3B, Ok3] using this
theorem get3_0 (c : D_A3) : get3 c 0 = c.1 := rfl
theorem get3_1 (c : D_A3) : get3 c 1 = c.2.1 := rfl
theorem get3_2 (c : D_A3) : get3 c 2 = c.2.2.1 := rfl
set_option maxHeartbeats 4000000 in
theorem nb_tl {t : D_l8Turn} (ht : Ok3 t) (c d : D_A3) (h : nb c d) : nb (tl t c) (tl t d) := by
  rw [nb_iff] at h ⊢
  unfold tl
  obtain ⟨c0, c1, c2, ⟨⟩⟩ := c
  obtain ⟨d0, d1, d2, ⟨⟩⟩ := d
  simp only at h
  rcases ht with ⟨e0, e1, e2⟩ | ⟨e0, e1, e2⟩ | ⟨e0, e1, e2⟩ | ⟨e0, e1, e2⟩ | ⟨e0, e1, e2⟩ | ⟨e0, e1, e2⟩ <;> simp only [e0, e1, e2, get3_0, get3_1, get3_2] <;>
    cases decide (t.2.1.1 = 1) <;> cases decide (t.2.1.2.1 = 1) <;> cases decide (t.2.1.2.2.1 = 1) <;> simp only [cond_true, cond_false] <;> rcases h with ⟨h1, h2, h3⟩ | ⟨h1, h2, h3⟩ | ⟨h1, h2, h3⟩ <;> omega
theorem whole_unmap {l : List D_A3} {v : D_A3} (h : Whole (l.map fun c => addC c v)) : Whole l := by
  refine (h.map (nb_add (negC v))).set fun c => ?_
  simp only [List.map_map, List.mem_map, Function.comp]
  constructor
  · rintro ⟨d, h1, rfl⟩; rw [addC_negC]; exact h1
  · intro h1; exact ⟨c, h1, addC_negC ..⟩
theorem whole_nrm {l : List D_A3} {k : D_Heap} (h : Nrm l k) (hw : Whole l) : Whole k.2.2.2.1 := by
  obtain ⟨v, hv⟩ := h.moved
  refine whole_unmap (v := v) (hw.set fun c => ?_)
  rw [List.mem_map]
  constructor
  · intro hc; exact ⟨addC c (negC v), (hv _).2 (by rw [addC_negC']; exact hc), addC_negC' ..⟩
  · rintro ⟨d, hd, rfl⟩; exact (hv d).1 hd
theorem pts_one {l : List D_A3} {ps : List (List D_A3)} (h : Pts l l ps) (hne : l ≠ []) : ps.length = 1 ↔ Whole l := by
  obtain ⟨L, hL⟩ : ∃ L, L = l := ⟨l, rfl⟩
  have h' : Pts l L ps := hL ▸ h
  cases h' with
  | nil => exact absurd hL.symm hne
  | cons h1 h2 h3 h4 h5 =>
    rename_i c0 L' p lf ps'
    have hc0 : c0 ∈ l := hL ▸ List.mem_cons_self ..
    constructor
    · intro e
      have : ps' = [] := List.length_eq_zero_iff.1 (by simpa using e)
      subst this
      have hlf : lf = [] := by cases h5; rfl
      have hall : ∀ c ∈ l, Conn l c0 c := fun c hc => by
        by_cases hk : Conn l c0 c
        · exact hk
        · have := (h4 c).2 ⟨hL.symm ▸ hc, hk⟩
          rw [hlf] at this
          cases this
      exact fun a ha b hb => (Conn.symm hc0 (hall a ha)).trans (hall b hb)
    · intro hw
      have hlf : lf = [] := by
        cases lf with
        | nil => rfl
        | cons x r =>
          obtain ⟨a, b⟩ := (h4 x).1 (by simp)
          exact absurd (hw c0 hc0 x (hL ▸ a)) b
      subst hlf
      cases h5
      rfl
theorem between {p : D_A3 → Int} (hp : ∀ c d, nb c d → p d ≤ p c + 1) {l : List D_A3} {a d : D_A3} (ha : a ∈ l) (h : Conn l a d) : ∀ v, p a ≤ v → v ≤ p d → ∃ c ∈ l, p c = v := by
  induction h with
  | base h => rw [h]; intro v h1 h2; exact ⟨a, ha, by omega⟩
  | step hr hn hd ih =>
    rename_i c d
    intro v h1 h2
    have := hp _ _ hn
    by_cases hv : v ≤ p c
    · exact ih v h1 hv
    · exact ⟨d, hd, by omega⟩
theorem spread {p : D_A3 → Int} (hp : ∀ c d, nb c d → p d ≤ p c + 1) {l : List D_A3} (hw : Whole l) (h4 : l.length ≤ 4) {a d : D_A3} (ha : a ∈ l) (hd : d ∈ l) : p d - p a ≤ 3 := by
  by_cases h : p d - p a ≤ 3
  · exact h
  · have hb := between hp ha (hw a ha d hd)
    have := nodup_len (a := [p a, p a + 1, p a + 2, p a + 3, p a + 4]) (b := l.map p) (by simp [List.nodup_cons]; omega) fun v hv => by
      rw [List.mem_map]
      obtain ⟨c, hc, e⟩ := hb v (by simp at hv; omega) (by simp at hv; omega)
      exact ⟨c, hc, e⟩
    simp at this
    omega
theorem whole_close {l : List D_A3} (hw : Whole l) (h4 : l.length ≤ 4) : Close l := fun c hc d hd => by
  refine ⟨spread (p := fun c => c.1) (fun c d h => ?_) hw h4 hd hc, spread (p := fun c => c.2.1) (fun c d h => ?_) hw h4 hd hc, spread (p := fun c => c.2.2.1) (fun c d h => ?_) hw h4 hd hc⟩
  all_goals rw [nb_iff] at h; omega
theorem whole_join {F S : List D_A3} (hF : Whole F) (hS : Whole S) {s f : D_A3} (hs : s ∈ S) (hf : f ∈ F) (hn : nb s f) : Whole (F ++ S) := by
  have mF : ∀ {a b : D_A3}, Conn F a b → Conn (F ++ S) a b := fun h => Rch.mono (fun _ h => .base h) (fun c h => List.mem_append_left _ h) h
  have mS : ∀ {a b : D_A3}, Conn S a b → Conn (F ++ S) a b := fun h => Rch.mono (fun _ h => .base h) (fun c h => List.mem_append_right _ h) h
  have hsf : Conn (F ++ S) s f := .step (.base rfl) hn (List.mem_append_left _ hf)
  have hfs : Conn (F ++ S) f s := .step (.base rfl) (nb_symm hn) (List.mem_append_right _ hs)
  intro a ha b hb
  rcases List.mem_append.1 ha with ha | ha <;> rcases List.mem_append.1 hb with hb | hb
  · exact mF (hF a ha b hb)
  · exact ((mF (hF a ha f hf)).trans hfs).trans (mS (hS s hs b hb))
  · exact ((mS (hS a ha s hs)).trans hsf).trans (mF (hF f hf b hb))
  · exact mS (hS a ha b hb)
theorem join_touch {F S : List D_A3} (h : Whole (F ++ S)) {f s : D_A3} (hf : f ∈ F) (hs : s ∈ S) (hd : ∀ c ∈ S, c ∉ F) : ∃ c ∈ S, ∃ d ∈ F, nb c d := by
  by_cases hex : ∃ c ∈ S, ∃ d ∈ F, nb c d
  · exact hex
  · have hc := h f (List.mem_append_left _ hf) s (List.mem_append_right _ hs)
    have : s ∈ F := Rch.of (r := fun c => c ∈ F) (fun c hc => by rw [show c = f from hc]; exact hf) (fun c d hcF hn hd' => by
      rcases List.mem_append.1 hd' with hd' | hd'
      · exact hd'
      · exact absurd ⟨d, hd', c, hcF, nb_symm hn⟩ hex) hc
    exact absurd this (hd s hs)
end Go.VI
namespace Go.VI
open Go.Proofs
def upd (b c : D_A3) : D_A3 := (mx b.1 (-c.1), mx b.2.1 (-c.2.1), mx b.2.2.1 (-c.2.2.1), ())
structure IsBy (S : List D_A3) (b : D_A3) : Prop where
  pos : 0 ≤ b.1 ∧ 0 ≤ b.2.1 ∧ 0 ≤ b.2.2.1
  le : ∀ c ∈ S, -c.1 ≤ b.1 ∧ -c.2.1 ≤ b.2.1 ∧ -c.2.2.1 ≤ b.2.2.1
  at0 : b.1 = 0 ∨ ∃ c ∈ S, b.1 = -c.1
  at1 : b.2.1 = 0 ∨ ∃ c ∈ S, b.2.1 = -c.2.1
  at2 : b.2.2.1 = 0 ∨ ∃ c ∈ S, b.2.2.1 = -c.2.2.1
theorem IsBy.nil : IsBy [] (0, 0, 0, ()) := ⟨by simp, (fun c h => by cases h), .inl rfl, .inl rfl, .inl rfl⟩
theorem IsBy.snoc {S : List D_A3} {b : D_A3} (h : IsBy S b) (c : D_A3) : IsBy (S ++ [c]) (upd b c) := by
  have e0 := mx_le b.1 (-c.1); have e1 := mx_le b.2.1 (-c.2.1); have e2 := mx_le b.2.2.1 (-c.2.2.1)
  have hp := h.pos
  refine ⟨by simp only [upd]; omega, fun x hx => ?_, ?_, ?_, ?_⟩
  · simp only [upd]
    rcases List.mem_append.1 hx with hx | hx
    · have := h.le x hx; omega
    · rw [List.mem_singleton.1 hx]; omega
  · rcases e0.2.2 with e | e
    · rcases h.at0 with h | ⟨x, hx, h⟩
      · exact .inl (by simp only [upd]; omega)
      · exact .inr ⟨x, List.mem_append_left _ hx, by simp only [upd]; omega⟩
    · exact .inr ⟨c, by simp, by simp only [upd]; omega⟩
  · rcases e1.2.2 with e | e
    · rcases h.at1 with h | ⟨x, hx, h⟩
      · exact .inl (by simp only [upd]; omega)
      · exact .inr ⟨x, List.mem_append_left _ hx, by simp only [upd]; omega⟩
    · exact .inr ⟨c, by simp, by simp only [upd]; omega⟩
  · rcases e2.2.2 with e | e
    · rcases h.at2 with h | ⟨x, hx, h⟩
      · exact .inl (by simp only [upd]; omega)
      · exact .inr ⟨x, List.mem_append_left _ hx, by simp only [upd]; omega⟩
    · exact .inr ⟨c, by simp, by simp only [upd]; omega⟩
theorem l_both8 (m : Nat) (X Y Z : Int) (F S : List D_A3) (b : D_A3) {k : Nat} (hk : k < S.length) (ht : Tame S[k]) :
 l_spec_l8Both_8 m N X Y Z F 0 0 0 [] b.1 b.2.1 b.2.2.1 S (k : Int) 0 = l_spec_l8Both_3 m X Y Z F 0 0 0 [] (upd b S[k]).1 (upd b S[k]).2.1 (upd b S[k]).2.2.1 S (IntKind.wrap .i64 ((k : Int) + 1)) := by
  have hb := inB_at hk
  have hn : nth T_A3 S (k : Int) = S[k] := nthA (t := T_A3) hk
  unfold Tame at ht
  have w0 := neg_w (x := (S[k]).1) (by omega) (by omega)
  have w1 := neg_w (x := (S[k]).2.1) (by omega) (by omega)
  have w2 := neg_w (x := (S[k]).2.2.1) (by omega) (by omega)
  rw [N_eq3, q_spec_l8Both_8]
  show (bif inB (k : Int) S.length then Option.bind (P_spec_l1Most (b.1, (IntKind.wrap .i64 (0 - (nth T_A3 S (k : Int)).1)), ())) fun r4 => l_spec_l8Both_8 m (N - 4 + 1 + 1 + 1) X Y Z F 0 0 0 [] r4.1 b.2.1 b.2.2.1 S (k : Int) 1 else none) = _
  rw [hb, hn, w0, f_mostN]
  simp only [cond_true, Option.bind_some]
  rw [q_spec_l8Both_8]
  show (bif inB (k : Int) S.length then Option.bind (P_spec_l1Most (b.2.1, (IntKind.wrap .i64 (0 - (nth T_A3 S (k : Int)).2.1)), ())) fun r4 => l_spec_l8Both_8 m (N - 4 + 1 + 1) X Y Z F 0 0 0 [] (mx b.1 (-(S[k]).1)) r4.1 b.2.2.1 S (k : Int) 2 else none) = _
  rw [hb, hn, w1, f_mostN]
  simp only [cond_true, Option.bind_some]
  rw [q_spec_l8Both_8]
  show (bif inB (k : Int) S.length then Option.bind (P_spec_l1Most (b.2.2.1, (IntKind.wrap .i64 (0 - (nth T_A3 S (k : Int)).2.2.1)), ())) fun r4 => l_spec_l8Both_8 m (N - 4 + 1) X Y Z F 0 0 0 [] (mx b.1 (-(S[k]).1)) (mx b.2.1 (-(S[k]).2.1)) r4.1 S (k : Int) 3 else none) = _
  rw [hb, hn, w2, f_mostN]
  simp only [cond_true, Option.bind_some]
  rw [q_spec_l8Both_8]
  rfl
noncomputable def bothTail (F S : List D_A3) (b : D_A3) : Option (D_Heap × Bool × Unit) := l_spec_l8Both_14 N 0 0 0 [] 4 4 4 [] ((F ++ S).map fun c => addC c b) 0
abbrev noH : D_Heap := (0, 0, 0, [], ())
theorem l_both3 {X Y Z : Int} {F S : List D_A3} (hF : F.length ≤ 1000) (hS : S.length ≤ 1000) (tF : ∀ c ∈ F, -100000 ≤ c.1 ∧ c.1 ≤ 100000 ∧ -100000 ≤ c.2.1 ∧ c.2.1 ≤ 100000 ∧ -100000 ≤ c.2.2.1 ∧ c.2.2.1 ≤ 100000) (tS : ∀ c ∈ S, -100000 ≤ c.1 ∧ c.1 ≤ 100000 ∧ -100000 ≤ c.2.1 ∧ c.2.1 ≤ 100000 ∧ -100000 ≤ c.2.2.1 ∧ c.2.2.1 ≤ 100000) :
 ∀ (d k m : Nat) (b : D_A3), S.length = k + d → d < m → (∀ c ∈ S.take k, c ∉ F) → IsBy (S.take k) b →
 ((∃ c ∈ S, c ∈ F) ∧ l_spec_l8Both_3 m X Y Z F 0 0 0 [] b.1 b.2.1 b.2.2.1 S (k : Int) = some (noH, false, ())) ∨
 ((∀ c ∈ S, c ∉ F) ∧ ∃ b', IsBy S b' ∧ l_spec_l8Both_3 m X Y Z F 0 0 0 [] b.1 b.2.1 b.2.2.1 S (k : Int) = bothTail F S b')
  | d, k, 0, b, _, h, _, _ => by omega
  | d, k, m + 1, b, hk, hm, hn, hb => by
    rw [q_spec_l8Both_3]
    by_cases hlt : k < S.length
    · rw [ltT hlt, inB_at hlt, nthA (t := T_A3) hlt, f_l2Has _ _ _ _ _ (show Small F by unfold Small; omega)]
      simp only [cond_true, Option.bind_some]
      by_cases hc : S[k] ∈ F
      · rw [decide_eq_true hc]
        exact .inl ⟨⟨_, List.getElem_mem _, hc⟩, rfl⟩
      · rw [decide_eq_false hc]
        simp only [cond_false]
        have ht := tS _ (List.getElem_mem hlt)
        rw [l_both8 m X Y Z F S b hlt (by unfold Tame; omega), succI k (by omega)]
        refine l_both3 hF hS tF tS (d - 1) (k + 1) m _ (by omega) (by omega) (fun c hc' => ?_) ?_
        · rw [List.take_succ_eq_append_getElem hlt, List.mem_append] at hc'
          rcases hc' with hc' | hc'
          · exact hn c hc'
          · rw [List.mem_singleton.1 hc']; exact hc
        · rw [List.take_succ_eq_append_getElem hlt]; exact hb.snoc _
    · rw [ltF hlt]
      rw [List.take_of_length_le (by omega)] at hn hb
      refine .inr ⟨hn, b, hb, ?_⟩
      simp only [cond_false]
      have hbt : Tame b := by
        have := hb.pos
        unfold Tame
        refine ⟨by omega, ?_, by omega, ?_, by omega, ?_⟩
        · rcases hb.at0 with h | ⟨c, hc, h⟩
          · omega
          · have := tS c hc; omega
        · rcases hb.at1 with h | ⟨c, hc, h⟩
          · omega
          · have := tS c hc; omega
        · rcases hb.at2 with h | ⟨c, hc, h⟩
          · omega
          · have := tS c hc; omega
      rw [p_spec_l2Empty]
      simp only [Option.bind_some, List.nil_append, List.length_nil]
      rw [room_ok (by omega) (by omega), room_ok (by omega) (by omega)]
      simp only [cond_true]
      rw [p_spec_l2Made]
      simp only [Option.bind_some]
      rw [show ((b.1, (b.2.1, (b.2.2.1, ()))) : D_A3) = b from rfl, f_movedS (X := X) (Y := Y) (Z := Z) (l := F ++ S) (by unfold Small; rw [List.length_append]; omega) hbt fun c hc => by
        rcases List.mem_append.1 hc with hc | hc
        · have := tF c hc; unfold Tame; omega
        · have := tS c hc; unfold Tame; omega]
      rfl
theorem l_both14 {M : List D_A3} (hM : M.length ≤ 3000) : ∀ (d k m : Nat) (o : List D_A3), M.length = k + d → d < m → Srt o → o.length ≤ k → (∀ c, c ∈ o ↔ c ∈ M.take k) → (∀ c ∈ M.take k, within3 4 4 4 c = true) →
 ((∀ c ∈ M, within3 4 4 4 c = true) ∧ ∃ o', l_spec_l8Both_14 m 0 0 0 [] 4 4 4 o M (k : Int) = some ((4, 4, 4, o', ()), true, ()) ∧ Srt o' ∧ ∀ c, c ∈ o' ↔ c ∈ M) ∨
 ((¬ ∀ c ∈ M, within3 4 4 4 c = true) ∧ l_spec_l8Both_14 m 0 0 0 [] 4 4 4 o M (k : Int) = some (noH, false, ()))
  | d, k, 0, o, _, h, _, _, _, _ => by omega
  | d, k, m + 1, o, hk, hm, hr, hol, ho, hw => by
    rw [q_spec_l8Both_14]
    by_cases hlt : k < M.length
    · rw [ltT hlt, inB_at hlt, nthA (t := T_A3) hlt, f_spec_l2In ((4, (4, (4, (o, ())))) : D_Heap) _ (show sides 4 4 4 = true by decide)]
      simp only [cond_true, Option.bind_some]
      cases hc : within3 4 4 4 M[k] with
      | false =>
        refine .inr ⟨fun h => ?_, rfl⟩
        have := h _ (List.getElem_mem hlt)
        rw [hc] at this
        cases this
      | true =>
        simp only [Bool.not_true, cond_false]
        obtain ⟨o', e1, e2, e3, e4⟩ := f_l2With (X := 4) (Y := 4) (Z := 4) hr M[k] (by omega)
        rw [e1]
        simp only [Option.bind_some]
        rw [succI k (by omega)]
        refine l_both14 hM (d - 1) (k + 1) m o' (by omega) (by omega) e2 (by omega) (fun c => ?_) fun c hc' => ?_
        · rw [e3, ho, List.take_succ_eq_append_getElem hlt, List.mem_append, List.mem_singleton]
          exact Or.comm
        · rw [List.take_succ_eq_append_getElem hlt, List.mem_append] at hc'
          rcases hc' with hc' | hc'
          · exact hw c hc'
          · rw [List.mem_singleton.1 hc']; exact hc
    · rw [ltF hlt]
      rw [List.take_of_length_le (by omega)] at ho hw
      exact .inl ⟨hw, o, rfl, hr, ho⟩
theorem f_both {X Y Z : Int} {F S : List D_A3} (hF : F.length ≤ 1000) (hS : S.length ≤ 1000) (tF : ∀ c ∈ F, -100000 ≤ c.1 ∧ c.1 ≤ 100000 ∧ -100000 ≤ c.2.1 ∧ c.2.1 ≤ 100000 ∧ -100000 ≤ c.2.2.1 ∧ c.2.2.1 ≤ 100000) (tS : ∀ c ∈ S, -100000 ≤ c.1 ∧ c.1 ≤ 100000 ∧ -100000 ≤ c.2.1 ∧ c.2.1 ≤ 100000 ∧ -100000 ≤ c.2.2.1 ∧ c.2.2.1 ≤ 100000) :
 ((∃ c ∈ S, c ∈ F) ∧ P_spec_l8Both ((X, Y, Z, F, ()), S, ()) = some (noH, false, ())) ∨
 ((∀ c ∈ S, c ∉ F) ∧ ∃ b, IsBy S b ∧
 (((∀ c ∈ (F ++ S).map (fun c => addC c b), within3 4 4 4 c = true) ∧ ∃ o', P_spec_l8Both ((X, Y, Z, F, ()), S, ()) = some ((4, 4, 4, o', ()), true, ()) ∧ Srt o' ∧ ∀ c, c ∈ o' ↔ c ∈ (F ++ S).map fun c => addC c b) ∨
 ((¬ ∀ c ∈ (F ++ S).map (fun c => addC c b), within3 4 4 4 c = true) ∧ P_spec_l8Both ((X, Y, Z, F, ()), S, ()) = some (noH, false, ())))) := by
  have h := l_both3 (X := X) (Y := Y) (Z := Z) hF hS tF tS S.length 0 N (0, 0, 0, ()) (by omega) (by have := N_ge; omega) (by simp) (by simpa using IsBy.nil)
  rw [show ((0 : Nat) : Int) = 0 from rfl] at h
  rw [p_spec_l8Both]
  rcases h with ⟨h1, h2⟩ | ⟨h1, b, hb, h2⟩
  · exact .inl ⟨h1, h2⟩
  · refine .inr ⟨h1, b, hb, ?_⟩
    have e : l_spec_l8Both_3 N X Y Z F 0 0 0 [] 0 0 0 S 0 = bothTail F S b := h2
    rw [e]
    have hM : ((F ++ S).map fun c => addC c b).length ≤ 3000 := by simp; omega
    have k := l_both14 hM ((F ++ S).map fun c => addC c b).length 0 N [] (by omega) (by have := N_ge; omega) List.Pairwise.nil (by simp) (by simp) (by simp)
    exact k
end Go.VI
namespace Go.VI
open Go.Proofs
def Strict (l : List D_Heap) : Prop := l.Pairwise fun a b => lessH a b = true
def SmallA (l : List D_Heap) : Prop := ∀ h ∈ l, Small h.2.2.2.1
theorem roomH {n k : Nat} (h : n ≤ 2000000) (hk : k ≤ 2000000) : (decide ((n + k) * 48 ≤ 140737488355328) && decide (n + k ≤ 140737488355328)) = true := by
  rw [decide_eq_true (by omega), decide_eq_true (by omega)]; rfl
theorem cutH_lo {l : List D_Heap} (k : Nat) : cut l 0 (k : Int) = l.take k := by simp [cut]
theorem cutH_hi {l : List D_Heap} (k : Nat) : cut l (k : Int) (l.length : Int) = l.drop k := by simp [cut]
theorem ins_rest {L : List D_Heap} (hL : L.length ≤ 100000) {k : Nat} (hk : k ≤ L.length) (h : D_Heap) :
 (bif (decide ((0 : Int) ≤ 0) && decide ((0 : Int) ≤ (k : Int)) && decide ((k : Int) ≤ (List.length L : Int))) then
 bif (decide (((List.length ([] : List D_Heap)) + (List.length (cut L 0 (k : Int)))) * 48 ≤ 140737488355328) && decide (((List.length ([] : List D_Heap)) + (List.length (cut L 0 (k : Int)))) ≤ 140737488355328)) then
 bif (decide (((List.length (([] : List D_Heap) ++ (cut L 0 (k : Int)))) + (List.length ([(h.1, (h.2.1, (h.2.2.1, (h.2.2.2.1, ()))))] : List D_Heap))) * 48 ≤ 140737488355328) && decide (((List.length (([] : List D_Heap) ++ (cut L 0 (k : Int)))) + (List.length ([(h.1, (h.2.1, (h.2.2.1, (h.2.2.2.1, ()))))] : List D_Heap))) ≤ 140737488355328)) then
 bif (decide ((0 : Int) ≤ (k : Int)) && decide ((k : Int) ≤ (List.length L : Int)) && decide ((List.length L : Int) ≤ (List.length L : Int))) then
 bif (decide (((List.length ((([] : List D_Heap) ++ (cut L 0 (k : Int))) ++ ([(h.1, (h.2.1, (h.2.2.1, (h.2.2.2.1, ()))))] : List D_Heap))) + (List.length (cut L (k : Int) (List.length L : Int)))) * 48 ≤ 140737488355328) && decide (((List.length ((([] : List D_Heap) ++ (cut L 0 (k : Int))) ++ ([(h.1, (h.2.1, (h.2.2.1, (h.2.2.2.1, ()))))] : List D_Heap))) + (List.length (cut L (k : Int) (List.length L : Int)))) ≤ 140737488355328)) then
 some ((((([] : List D_Heap) ++ (cut L 0 (k : Int))) ++ ([(h.1, (h.2.1, (h.2.2.1, (h.2.2.2.1, ()))))] : List D_Heap)) ++ (cut L (k : Int) (List.length L : Int))), ())
 else none
 else none
 else none
 else none
 else none) = some (L.take k ++ [h] ++ L.drop k, ()) := by
  rw [cutH_lo, cutH_hi, decide_eq_true (p := (0 : Int) ≤ (k : Int)) (by omega), decide_eq_true (p := (k : Int) ≤ (L.length : Int)) (by omega), decide_eq_true (p := (L.length : Int) ≤ (L.length : Int)) (by omega)]
  simp only [Bool.and_self, cond_true, List.nil_append, List.length_nil]
  have t1 : (L.take k).length ≤ 100000 := by rw [List.length_take]; omega
  have t2 : (L.drop k).length ≤ 100000 := by rw [List.length_drop]; omega
  rw [roomH (by omega) (by omega), roomH (by omega) (by simp), roomH (by rw [List.length_append]; simp; omega) (by omega)]
  rfl
theorem strict_ins {L : List D_Heap} (hs : Strict L) {k : Nat} {h : D_Heap} (h1 : ∀ x ∈ L.take k, lessH x h = true) (h2 : ∀ x ∈ L.drop k, lessH h x = true) : Strict (L.take k ++ [h] ++ L.drop k) := by
  have hs' : (L.take k ++ L.drop k).Pairwise fun a b => lessH a b = true := by rw [List.take_append_drop]; exact hs
  rw [List.pairwise_append] at hs'
  unfold Strict
  rw [List.pairwise_append, List.pairwise_append]
  refine ⟨⟨hs'.1, by simp, fun a ha b hb => by rw [List.mem_singleton.1 hb]; exact h1 a ha⟩, hs'.2.1, fun a ha b hb => ?_⟩
  rcases List.mem_append.1 ha with ha | ha
  · exact hs'.2.2 a ha b hb
  · rw [List.mem_singleton.1 ha]; exact h2 b hb
theorem mem_ins {L : List D_Heap} {h x : D_Heap} {k : Nat} : x ∈ L.take k ++ [h] ++ L.drop k ↔ x ∈ L ∨ x = h := by
  rw [List.mem_append, List.mem_append, List.mem_singleton]
  conv => rhs; rw [← List.take_append_drop k L, List.mem_append]
  constructor
  · rintro ((a | a) | a)
    · exact .inl (.inl a)
    · exact .inr a
    · exact .inl (.inr a)
  · rintro ((a | a) | a)
    · exact .inl (.inl a)
    · exact .inr a
    · exact .inl (.inr a)
theorem l_insert {L : List D_Heap} (hs : Strict L) (ha : SmallA L) (hL : L.length ≤ 100000) {h : D_Heap} (hh : Small h.2.2.2.1) : ∀ (d k m : Nat), L.length = k + d → d < m → (∀ x ∈ L.take k, lessH x h = true) →
 ∃ L', l_spec_l8Insert_2 m h.1 h.2.1 h.2.2.1 h.2.2.2.1 L (k : Int) = some (L', ()) ∧ Strict L' ∧ (∀ x, x ∈ L' ↔ x ∈ L ∨ x = h) ∧ L'.length ≤ L.length + 1
  | d, k, 0, _, h', _ => by omega
  | d, k, m + 1, hk, hm, ht => by
    rw [q_spec_l8Insert_2]
    by_cases hlt : k < L.length
    · have hsm := ha _ (List.getElem_mem hlt)
      have hle : P_spec_l8Less (L[k], (h.1, (h.2.1, (h.2.2.1, (h.2.2.2.1, ())))), ()) = some (lessH L[k] h, ()) := f_less hsm hh
      have hsa : P_spec_l8Same (L[k], (h.1, (h.2.1, (h.2.2.1, (h.2.2.2.1, ())))), ()) = some (sameB L[k] h, ()) := f_sameS hsm hh
      rw [ltT hlt, inB_at hlt, nthA (t := T_Heap) hlt, hle]
      simp only [cond_true, Option.bind_some]
      cases hl : lessH L[k] h with
      | true =>
        simp only [cond_true]
        rw [succI k (by omega)]
        refine l_insert hs ha hL hh (d - 1) (k + 1) m (by omega) (by omega) fun x hx => ?_
        rw [List.take_succ_eq_append_getElem hlt, List.mem_append] at hx
        rcases hx with hx | hx
        · exact ht x hx
        · rw [List.mem_singleton.1 hx]; exact hl
      | false =>
        simp only [cond_false]
        rw [hsa]
        simp only [Option.bind_some]
        cases hsb : sameB L[k] h with
        | true =>
          have e := sameB_iff.1 hsb
          refine ⟨L, rfl, hs, fun x => ⟨.inl, fun hx => ?_⟩, by omega⟩
          rcases hx with hx | rfl
          · exact hx
          · rw [← e]; exact List.getElem_mem _
        | false =>
          simp only [cond_false]
          rw [ins_rest hL (by omega)]
          have hgt : lessH h L[k] = true := by
            cases hg : lessH h L[k] with
            | true => rfl
            | false =>
              rw [sameB_of (lessH_tot hl hg)] at hsb
              cases hsb
          refine ⟨_, rfl, strict_ins hs ht fun x hx => ?_, fun x => mem_ins, by simp; omega⟩
          rw [List.drop_eq_getElem_cons hlt] at hx
          rcases List.mem_cons.1 hx with rfl | hx
          · exact hgt
          · have hp := hs
            unfold Strict at hp
            rw [← List.take_append_drop k L, List.pairwise_append, List.drop_eq_getElem_cons hlt, List.pairwise_cons] at hp
            exact lessH_tr hgt (hp.2.1.1 x hx)
    · rw [ltF hlt]
      simp only [cond_false]
      rw [ins_rest hL (by omega)]
      refine ⟨_, rfl, strict_ins hs ht fun x hx => ?_, fun x => mem_ins, by simp; omega⟩
      rw [List.drop_eq_nil_of_le (by omega)] at hx
      cases hx
theorem f_insert {L : List D_Heap} (hs : Strict L) (ha : SmallA L) (hL : L.length ≤ 100000) {h : D_Heap} (hh : Small h.2.2.2.1) : ∃ L', P_spec_l8Insert (L, h, ()) = some (L', ()) ∧ Strict L' ∧ (∀ x, x ∈ L' ↔ x ∈ L ∨ x = h) ∧ L'.length ≤ L.length + 1 := by
  rw [p_spec_l8Insert]
  exact l_insert hs ha hL hh L.length 0 N (by omega) (by have := N_ge; omega) (by simp)
theorem strict_one : ∀ (a b : List D_Heap), Strict a → Strict b → (∀ x, x ∈ a ↔ x ∈ b) → a = b
  | [], [], _, _, _ => rfl
  | [], y :: b, _, _, h => by have := (h y).2 (by simp); simp at this
  | x :: a, [], _, _, h => by have := (h x).1 (by simp); simp at this
  | x :: a, y :: b, sa, sb, h => by
    have hxy : x = y := by
      rcases List.mem_cons.1 ((h x).1 (by simp)) with e | e
      · exact e
      rcases List.mem_cons.1 ((h y).2 (by simp)) with e' | e'
      · exact e'.symm
      have h1 := (List.pairwise_cons.1 sb).1 x e
      have h2 := (List.pairwise_cons.1 sa).1 y e'
      have := lessH_tr h2 h1
      rw [lessH_irr] at this
      cases this
    subst hxy
    have hna : x ∉ a := fun e => by have := (List.pairwise_cons.1 sa).1 x e; rw [lessH_irr] at this; cases this
    have hnb : x ∉ b := fun e => by have := (List.pairwise_cons.1 sb).1 x e; rw [lessH_irr] at this; cases this
    congr 1
    refine strict_one a b (List.pairwise_cons.1 sa).2 (List.pairwise_cons.1 sb).2 fun z => ?_
    constructor
    · intro hz
      rcases List.mem_cons.1 ((h z).1 (by simp [hz])) with rfl | e
      · exact absurd hz hna
      · exact e
    · intro hz
      rcases List.mem_cons.1 ((h z).2 (by simp [hz])) with rfl | e
      · exact absurd hz hnb
      · exact e
end Go.VI
namespace Go.VI
open Go.Proofs
set_option maxRecDepth 100000
abbrev mv (S : List D_A3) (v : D_A3) : List D_A3 := S.map fun c => addC c v
def HitC (F S : List D_A3) (v : D_A3) : Prop := (∀ c ∈ mv S v, c ∉ F) ∧ Whole (F ++ mv S v)
structure Cor (F : List D_A3) : Prop where
  ne : F ≠ []
  len : F.length ≤ 3
  le : ∀ c ∈ F, 0 ≤ c.1 ∧ c.1 ≤ 3 ∧ 0 ≤ c.2.1 ∧ c.2.1 ≤ 3 ∧ 0 ≤ c.2.2.1 ∧ c.2.2.1 ≤ 3
  at0 : ∃ c ∈ F, c.1 = 0
  at1 : ∃ c ∈ F, c.2.1 = 0
  at2 : ∃ c ∈ F, c.2.2.1 = 0
def Nine (v : D_A3) : Prop := -4 ≤ v.1 ∧ v.1 ≤ 4 ∧ -4 ≤ v.2.1 ∧ v.2.1 ≤ 4 ∧ -4 ≤ v.2.2.1 ∧ v.2.2.1 ≤ 4
theorem mv_in {S : List D_A3} (hS : Cor S) {v : D_A3} (hv : Nine v) : ∀ c ∈ mv S v, -4 ≤ c.1 ∧ c.1 ≤ 7 ∧ -4 ≤ c.2.1 ∧ c.2.1 ≤ 7 ∧ -4 ≤ c.2.2.1 ∧ c.2.2.1 ≤ 7 := fun c hc => by
  obtain ⟨d, hd, rfl⟩ := List.mem_map.1 hc
  have := hS.le d hd
  unfold Nine at hv
  simp only [addC]; omega
theorem fits {F S : List D_A3} (hF : Cor F) {b : D_A3} (hb : IsBy S b) (hc : Close (F ++ S)) : ∀ c ∈ (F ++ S).map (fun c => addC c b), within3 4 4 4 c = true := fun c hm => by
  obtain ⟨d, hd, rfl⟩ := List.mem_map.1 hm
  have hp := hb.pos
  have h1 : 0 ≤ d.1 + b.1 ∧ 0 ≤ d.2.1 + b.2.1 ∧ 0 ≤ d.2.2.1 + b.2.2.1 := by
    rcases List.mem_append.1 hd with hd | hd
    · have := hF.le d hd; omega
    · have := hb.le d hd; omega
  have u0 : d.1 + b.1 ≤ 3 := by
    rcases hb.at0 with h | ⟨s, hs, h⟩
    · obtain ⟨f, hf, e⟩ := hF.at0
      have := hc d hd f (List.mem_append_left _ hf); omega
    · have := hc d hd s (List.mem_append_right _ hs); omega
  have u1 : d.2.1 + b.2.1 ≤ 3 := by
    rcases hb.at1 with h | ⟨s, hs, h⟩
    · obtain ⟨f, hf, e⟩ := hF.at1
      have := hc d hd f (List.mem_append_left _ hf); omega
    · have := hc d hd s (List.mem_append_right _ hs); omega
  have u2 : d.2.2.1 + b.2.2.1 ≤ 3 := by
    rcases hb.at2 with h | ⟨s, hs, h⟩
    · obtain ⟨f, hf, e⟩ := hF.at2
      have := hc d hd f (List.mem_append_left _ hf); omega
    · have := hc d hd s (List.mem_append_right _ hs); omega
  rw [within3_iff]; simp only [addC]; omega
theorem join_step {X Y Z X' Y' Z' : Int} {F S : List D_A3} (hF : Cor F) (hS : Cor S) (h4 : F.length + S.length ≤ 4) {v : D_A3} (hv : Nine v) :
 P_spec_l2Moved ((X', Y', Z', S, ()), v, ()) = some (mv S v, ()) ∧
 ((∃ B ps, P_spec_l8Both ((X, Y, Z, F, ()), mv S v, ()) = some (B, true, ()) ∧ P_spec_l2Parts (B, ()) = some (ps, ()) ∧ (ps.length = 1 ↔ HitC F S v) ∧ P_spec_l8First (B, ()) = some (frmV (F ++ mv S v), ()) ∧ Small (frmV (F ++ mv S v)).2.2.2.1) ∨
 (P_spec_l8Both ((X, Y, Z, F, ()), mv S v, ()) = some (noH, false, ()) ∧ ¬ HitC F S v)) := by
  have hlF := hF.len
  have hlS := hS.len
  have hmv := mv_in hS hv
  have hlm : (mv S v).length = S.length := by simp [mv]
  refine ⟨f_movedS (by unfold Small; omega) (by unfold Nine at hv; unfold Tame; omega) (fun c hc => by have := hS.le c hc; unfold Tame; omega), ?_⟩
  rcases f_both (X := X) (Y := Y) (Z := Z) (F := F) (S := mv S v) (by omega) (by omega) (fun c hc => by have := hF.le c hc; omega) (fun c hc => by have := hmv c hc; omega) with ⟨⟨c, hc, hcF⟩, e⟩ | ⟨hno, b, hb, h⟩
  · exact .inr ⟨e, fun h => h.1 c hc hcF⟩
  rcases h with ⟨hw, o, e, hr, hm⟩ | ⟨hw, e⟩
  · have g : GoodH 4 4 4 o := ⟨by decide, fun c hc => hw c ((hm c).1 hc), hr, fun h0 => by
      obtain ⟨f, hf⟩ := List.exists_mem_of_ne_nil F hF.ne
      have := (hm (addC f b)).2 (List.mem_map_of_mem (List.mem_append_left _ hf))
      rw [h0] at this
      cases this⟩
    obtain ⟨ps, hp, hpt⟩ := f_partsx g.sides g.ins g.srt
    have hf : frmV o = frmV (F ++ mv S v) := by rw [frmV_set hm, frmV_add]
    refine .inl ⟨_, ps, e, hp, ?_, by rw [f_first g, hf], ?_⟩
    · rw [pts_one hpt g.ne]
      constructor
      · intro hwo
        exact ⟨hno, whole_unmap (hwo.set hm)⟩
      · intro hh
        exact (hh.2.map (nb_add b)).set fun c => (hm c).symm
    · rw [← hf]
      have hk := form_facts g
      obtain ⟨i, hi, ei⟩ : ∃ i, i < 24 ∧ frmV o = posV (tAt i) o := by
        unfold frmV formOf
        have key : ∀ (l : List D_Heap) (a : D_Heap), (∃ i, i < 24 ∧ a = posV (tAt i) o) → (∀ x ∈ l, ∃ i, i < 24 ∧ x = posV (tAt i) o) → ∃ i, i < 24 ∧ minC cmpH l a = posV (tAt i) o := by
          intro l
          induction l with
          | nil => intro a ha _; exact ha
          | cons x l ih =>
            intro a ha hl
            show ∃ i, i < 24 ∧ minC cmpH l (if cmpH x a < 0 then x else a) = posV (tAt i) o
            refine ih _ ?_ fun y hy => hl y (by simp [hy])
            split
            · exact hl x (by simp)
            · exact ha
        refine key _ _ ⟨0, by omega, rfl⟩ fun x hx => ?_
        obtain ⟨i, hi, rfl⟩ := List.mem_map.1 (List.mem_of_mem_drop hx)
        exact ⟨i, List.mem_range.1 hi, rfl⟩
      rw [ei]
      exact posV_small g (ok24 _ (tAt_mem hi))
  · refine .inr ⟨e, fun hh => hw ?_⟩
    exact fits hF hb (whole_close hh.2 (by rw [List.length_append, hlm]; exact h4))
structure Sr (out : List D_Heap) (P : D_Heap → Prop) (n : Nat) : Prop where
  strict : Strict out
  small : SmallA out
  mem : ∀ x, x ∈ out ↔ P x
  len : out.length ≤ n
def Hit (F S : List D_A3) (v : D_A3) (x : D_Heap) : Prop := HitC F S v ∧ x = frmV (F ++ mv S v)
theorem Sr.congr {out : List D_Heap} {P Q : D_Heap → Prop} {n m : Nat} (h : Sr out P n) (e : ∀ x, P x ↔ Q x) (hnm : n ≤ m) : Sr out Q m := ⟨h.strict, h.small, fun x => by rw [h.mem, e], Nat.le_trans h.len hnm⟩
section
variable {X Y Z X1 Y1 Z1 X2 Y2 Z2 : Int} {l F S : List D_A3} (hF : Cor F) (hS : Cor S) (h4 : F.length + S.length ≤ 4) (T : List D_l8Turn) (k : Int)
include hF hS h4
theorem l_j16 (m0 m1 m2 : Nat) {x y : Int} (hx : -4 ≤ x ∧ x ≤ 4) (hy : -4 ≤ y ∧ y ≤ 4) : ∀ (d m : Nat) (z : Int) (out : List D_Heap) (P : D_Heap → Prop) (n : Nat), z = 5 - (d : Int) → d ≤ 9 → d < m → n + d ≤ 100000 → Sr out P n →
 ∃ out', Sr out' (fun h => P h ∨ ∃ w, z ≤ w ∧ w ≤ 4 ∧ Hit F S (x, y, w, ()) h) (n + d) ∧ l_spec_JoinForms_16 m0 m1 m2 m X Y Z l X1 Y1 Z1 F X2 Y2 Z2 S out T k x y z = l_spec_JoinForms_13 m0 m1 m2 X Y Z l X1 Y1 Z1 F X2 Y2 Z2 S out' T k x (IntKind.wrap .i64 (y + 1))
  | d, 0, z, out, P, n, _, _, h, _, _ => by omega
  | d, m + 1, z, out, P, n, hz, hd, hm, hn, hs => by
    rw [q_spec_JoinForms_16]
    by_cases hle : z ≤ 4
    · obtain ⟨e1, h⟩ := join_step (X := X1) (Y := Y1) (Z := Z1) (X' := X2) (Y' := Y2) (Z' := Z2) hF hS h4 (v := (x, y, z, ())) (by unfold Nine; simp only; omega)
      have e1' : P_spec_l2Moved ((X2, (Y2, (Z2, (S, ())))), (x, (y, (z, ()))), ()) = _ := e1
      rw [decide_eq_true hle, e1']
      simp only [cond_true, Option.bind_some]
      have hw : IntKind.wrap .i64 (z + 1) = z + 1 := w64 (by omega) (by omega)
      have split : ∀ hh : D_Heap, (∃ w, z ≤ w ∧ w ≤ 4 ∧ Hit F S (x, y, w, ()) hh) ↔ (Hit F S (x, y, z, ()) hh ∨ ∃ w, z + 1 ≤ w ∧ w ≤ 4 ∧ Hit F S (x, y, w, ()) hh) := fun hh => by
        constructor
        · rintro ⟨w, w1, w2, w3⟩
          by_cases hwz : w = z
          · exact .inl (hwz ▸ w3)
          · exact .inr ⟨w, by omega, w2, w3⟩
        · rintro (w3 | ⟨w, w1, w2, w3⟩)
          · exact ⟨z, by omega, hle, w3⟩
          · exact ⟨w, by omega, w2, w3⟩
      have none' : ¬ HitC F S (x, y, z, ()) → ∃ out', Sr out' (fun h => P h ∨ ∃ w, z ≤ w ∧ w ≤ 4 ∧ Hit F S (x, y, w, ()) h) (n + d) ∧ l_spec_JoinForms_16 m0 m1 m2 m X Y Z l X1 Y1 Z1 F X2 Y2 Z2 S out T k x y (IntKind.wrap .i64 (z + 1)) = l_spec_JoinForms_13 m0 m1 m2 X Y Z l X1 Y1 Z1 F X2 Y2 Z2 S out' T k x (IntKind.wrap .i64 (y + 1)) := fun hno => by
        rw [hw]
        obtain ⟨out', o1, o2⟩ := l_j16 m0 m1 m2 hx hy (d - 1) m (z + 1) out P n (by omega) (by omega) (by omega) (by omega) hs
        refine ⟨out', o1.congr (fun hh => ?_) (by omega), o2⟩
        rw [split hh]
        constructor
        · rintro (a | a)
          · exact .inl a
          · exact .inr (.inr a)
        · rintro (a | a | a)
          · exact .inl a
          · exact absurd a.1 hno
          · exact .inr a
      rcases h with ⟨B, ps, f1, f2, f3, f4, f5⟩ | ⟨f1, f2⟩
      · rw [f1]
        simp only [Option.bind_some, cond_true]
        rw [f2]
        simp only [Option.bind_some]
        by_cases hone : ps.length = 1
        · rw [decide_eq_true (p := (ps.length : Int) = 1) (by omega)]
          simp only [cond_true]
          rw [f4]
          simp only [Option.bind_some]
          obtain ⟨L', g1, g2, g3, g4⟩ := f_insert hs.strict hs.small (by have := hs.len; omega) f5
          rw [g1]
          simp only [Option.bind_some]
          rw [hw]
          have hlen := hs.len
          obtain ⟨out', o1, o2⟩ := l_j16 m0 m1 m2 hx hy (d - 1) m (z + 1) L' (fun hh => P hh ∨ hh = frmV (F ++ mv S (x, y, z, ()))) (n + 1) (by omega) (by omega) (by omega) (by omega) ⟨g2, fun a ha => by
            rcases (g3 a).1 ha with ha | rfl
            · exact hs.small a ha
            · exact f5, fun a => by rw [g3, hs.mem], by omega⟩
          refine ⟨out', o1.congr (fun hh => ?_) (by omega), o2⟩
          rw [split hh]
          have hc := f3.1 hone
          constructor
          · rintro ((a | a) | a)
            · exact .inl a
            · exact .inr (.inl ⟨hc, a⟩)
            · exact .inr (.inr a)
          · rintro (a | a | a)
            · exact .inl (.inl a)
            · exact .inl (.inr a.2)
            · exact .inr a
        · rw [decide_eq_false (p := (ps.length : Int) = 1) (by omega)]
          simp only [cond_false]
          exact none' fun hc => hone (f3.2 hc)
      · rw [f1]
        simp only [Option.bind_some, cond_false]
        exact none' f2
    · rw [decide_eq_false hle]
      refine ⟨out, hs.congr (fun hh => ⟨.inl, fun h => ?_⟩) (by omega), rfl⟩
      rcases h with h | ⟨w, w1, w2, _⟩
      · exact h
      · omega
theorem l_j13 (m0 m1 : Nat) {x : Int} (hx : -4 ≤ x ∧ x ≤ 4) : ∀ (d m : Nat) (y : Int) (out : List D_Heap) (P : D_Heap → Prop) (n : Nat), y = 5 - (d : Int) → d ≤ 9 → d < m → n + d * 9 ≤ 100000 → Sr out P n →
 ∃ out', Sr out' (fun h => P h ∨ ∃ u w, y ≤ u ∧ u ≤ 4 ∧ -4 ≤ w ∧ w ≤ 4 ∧ Hit F S (x, u, w, ()) h) (n + d * 9) ∧ l_spec_JoinForms_13 m0 m1 m X Y Z l X1 Y1 Z1 F X2 Y2 Z2 S out T k x y = l_spec_JoinForms_10 m0 m1 X Y Z l X1 Y1 Z1 F X2 Y2 Z2 S out' T k (IntKind.wrap .i64 (x + 1))
  | d, 0, y, out, P, n, _, _, h, _, _ => by omega
  | d, m + 1, y, out, P, n, hy, hd, hm, hn, hs => by
    rw [q_spec_JoinForms_13]
    by_cases hle : y ≤ 4
    · rw [decide_eq_true hle]
      simp only [cond_true]
      obtain ⟨o1, a1, a2⟩ := l_j16 (X := X) (Y := Y) (Z := Z) (X1 := X1) (Y1 := Y1) (Z1 := Z1) (X2 := X2) (Y2 := Y2) (Z2 := Z2) (l := l) hF hS h4 T k m0 m1 m (x := x) (y := y) hx (by omega) 9 N (-4) out P n (by omega) (by omega) (by have := N_ge; omega) (by omega) hs
      rw [a2, w64 (x := y + 1) (by omega) (by omega)]
      obtain ⟨o2, b1, b2⟩ := l_j13 m0 m1 hx (d - 1) m (y + 1) o1 _ (n + 9) (by omega) (by omega) (by omega) (by omega) a1
      refine ⟨o2, b1.congr (fun hh => ?_) (by omega), b2⟩
      constructor
      · rintro ((a | ⟨w, w1, w2, w3⟩) | ⟨u, w, u1, u2, w1, w2, w3⟩)
        · exact .inl a
        · exact .inr ⟨y, w, by omega, hle, w1, w2, w3⟩
        · exact .inr ⟨u, w, by omega, u2, w1, w2, w3⟩
      · rintro (a | ⟨u, w, u1, u2, w1, w2, w3⟩)
        · exact .inl (.inl a)
        · by_cases huy : u = y
          · exact .inl (.inr ⟨w, w1, w2, huy ▸ w3⟩)
          · exact .inr ⟨u, w, by omega, u2, w1, w2, w3⟩
    · rw [decide_eq_false hle]
      refine ⟨out, hs.congr (fun hh => ⟨.inl, fun h => ?_⟩) (by omega), rfl⟩
      rcases h with h | ⟨u, w, w1, w2, _⟩
      · exact h
      · omega
theorem l_j10 (m0 : Nat) : ∀ (d m : Nat) (x : Int) (out : List D_Heap) (P : D_Heap → Prop) (n : Nat), x = 5 - (d : Int) → d ≤ 9 → d < m → n + d * 81 ≤ 100000 → Sr out P n →
 ∃ out', Sr out' (fun h => P h ∨ ∃ v, Nine v ∧ x ≤ v.1 ∧ Hit F S v h) (n + d * 81) ∧ l_spec_JoinForms_10 m0 m X Y Z l X1 Y1 Z1 F X2 Y2 Z2 S out T k x = l_spec_JoinForms_6 m0 X Y Z l X1 Y1 Z1 F out' T (IntKind.wrap .i64 (k + 1))
  | d, 0, x, out, P, n, _, _, h, _, _ => by omega
  | d, m + 1, x, out, P, n, hx, hd, hm, hn, hs => by
    rw [q_spec_JoinForms_10]
    by_cases hle : x ≤ 4
    · rw [decide_eq_true hle]
      simp only [cond_true]
      obtain ⟨o1, a1, a2⟩ := l_j13 (X := X) (Y := Y) (Z := Z) (X1 := X1) (Y1 := Y1) (Z1 := Z1) (X2 := X2) (Y2 := Y2) (Z2 := Z2) (l := l) hF hS h4 T k m0 m (x := x) (by omega) 9 N (-4) out P n (by omega) (by omega) (by have := N_ge; omega) (by omega) hs
      rw [a2, w64 (x := x + 1) (by omega) (by omega)]
      obtain ⟨o2, b1, b2⟩ := l_j10 m0 (d - 1) m (x + 1) o1 _ (n + 9 * 9) (by omega) (by omega) (by omega) (by omega) a1
      refine ⟨o2, b1.congr (fun hh => ?_) (by omega), b2⟩
      constructor
      · rintro ((a | ⟨u, w, u1, u2, w1, w2, w3⟩) | ⟨v, v1, v2, v3⟩)
        · exact .inl a
        · exact .inr ⟨(x, u, w, ()), by unfold Nine; simp only; omega, by simp, w3⟩
        · exact .inr ⟨v, v1, by omega, v3⟩
      · rintro (a | ⟨v, v1, v2, v3⟩)
        · exact .inl (.inl a)
        · by_cases hvx : v.1 = x
          · unfold Nine at v1
            exact .inl (.inr ⟨v.2.1, v.2.2.1, by omega, by omega, by omega, by omega, by rw [← hvx]; exact v3⟩)
          · exact .inr ⟨v, v1, by omega, v3⟩
    · rw [decide_eq_false hle]
      refine ⟨out, hs.congr (fun hh => ⟨.inl, fun h => ?_⟩) (by omega), rfl⟩
      rcases h with h | ⟨v, v1, v2, _⟩
      · exact h
      · unfold Nine at v1; omega
end
end Go.VI
namespace Go.VI
open Go.Proofs
set_option maxRecDepth 100000
theorem cor_nrm {l : List D_A3} {k : D_Heap} (h : Nrm l k) (hc : Close l) (hl : l.length ≤ 3) : Cor k.2.2.2.1 := by
  have hlen := nrm_len h
  obtain ⟨lo, hi, a⟩ := h
  obtain ⟨h1, h2⟩ := a.ok hc
  obtain ⟨p, p1, p2⟩ := a.low.at0; obtain ⟨q, q1, q2⟩ := a.low.at1; obtain ⟨r, r1, r2⟩ := a.low.at2
  have back : ∀ c ∈ l, addC c (negC lo) ∈ k.2.2.2.1 := fun c hc => (a.mem _).2 (by rw [addC_negC']; exact hc)
  refine ⟨fun e => ?_, by omega, fun c hc => ?_, ⟨_, back p p1, by simp [addC, negC]; omega⟩, ⟨_, back q q1, by simp [addC, negC]; omega⟩, ⟨_, back r r1, by simp [addC, negC]; omega⟩⟩
  · have := back p p1
    rw [e] at this
    cases this
  · have := sides_iff.1 h1
    have := within3_iff.1 (h2 c hc)
    omega
theorem l_j6 {X Y Z X1 Y1 Z1 : Int} {l F : List D_A3} (g : GoodH X Y Z l) (hF : Cor F) (h4 : F.length + l.length ≤ 4) (h3 : l.length ≤ 3) {T : List D_l8Turn} (hT : ∀ t ∈ T, OkT t) (hl : T.length ≤ 24) : ∀ (d k m : Nat) (out : List D_Heap) (P : D_Heap → Prop), T.length = k + d → d < m → Sr out P (k * 729) →
 ∃ out', Sr out' (fun h => P h ∨ ∃ t ∈ T.drop k, ∃ v, Nine v ∧ Hit F (posV t l).2.2.2.1 v h) (T.length * 729) ∧ l_spec_JoinForms_6 m X Y Z l X1 Y1 Z1 F out T (k : Int) = some (out', true, ())
  | d, k, 0, out, P, _, h, _ => by omega
  | d, k, m + 1, out, P, hk, hm, hs => by
    rw [q_spec_JoinForms_6]
    by_cases hlt : k < T.length
    · have ht := hT _ (List.getElem_mem hlt)
      obtain ⟨h', p, e1, e2, hp⟩ := f_spos ht g.sides g.ins g.small g.ne
      have ep : posV T[k] l = p := nrmV_is hp
      have hcp := cor_nrm hp (tl_close (ins_close g.sides g.ins) ht) (by simpa using h3)
      have hpl := nrm_len hp
      rw [List.length_map] at hpl
      rw [ltT hlt, inB_at hlt, nthA (t := T_l8Turn) hlt]
      simp only [cond_true]
      rw [e1]
      simp only [Option.bind_some]
      rw [e2]
      simp only [Option.bind_some]
      obtain ⟨o1, a1, a2⟩ := l_j10 (X := X) (Y := Y) (Z := Z) (X1 := X1) (Y1 := Y1) (Z1 := Z1) (X2 := p.1) (Y2 := p.2.1) (Z2 := p.2.2.1) (l := l) (S := p.2.2.2.1) hF hcp (by omega) T (k : Int) m 9 N (-4) out P (k * 729) (by omega) (by omega) (by have := N_ge; omega) (by omega) hs
      rw [a2, succI k (by omega)]
      obtain ⟨o2, b1, b2⟩ := l_j6 (X1 := X1) (Y1 := Y1) (Z1 := Z1) g hF h4 h3 hT hl (d - 1) (k + 1) m o1 _ (by omega) (by omega) (a1.congr (fun _ => Iff.rfl) (by omega))
      refine ⟨o2, b1.congr (fun hh => ?_) (Nat.le_refl _), b2⟩
      rw [List.drop_eq_getElem_cons hlt]
      constructor
      · rintro ((a | ⟨v, v1, _, v3⟩) | ⟨t, t1, v, v1, v3⟩)
        · exact .inl a
        · exact .inr ⟨T[k], List.mem_cons_self .., v, v1, by rw [ep]; exact v3⟩
        · exact .inr ⟨t, List.mem_cons_of_mem _ t1, v, v1, v3⟩
      · rintro (a | ⟨t, t1, v, v1, v3⟩)
        · exact .inl (.inl a)
        · rcases List.mem_cons.1 t1 with rfl | t1
          · rw [ep] at v3
            exact .inl (.inr ⟨v, v1, by unfold Nine at v1; omega, v3⟩)
          · exact .inr ⟨t, t1, v, v1, v3⟩
    · rw [ltF hlt]
      refine ⟨out, hs.congr (fun hh => ⟨.inl, fun h => ?_⟩) (by omega), rfl⟩
      rcases h with h | ⟨t, t1, _⟩
      · exact h
      · rw [List.drop_eq_nil_of_le (by omega)] at t1
        cases t1
def One (h : D_Heap) : Prop := okHeap h = true ∧ h.2.2.2.1 ≠ [] ∧ Whole h.2.2.2.1
theorem f_part (h : D_Heap) (hl : Small h.2.2.2.1) : ∃ b, P_spec_l8Part (h, ()) = some (b, ()) ∧ (b = true ↔ One h) := by
  obtain ⟨X, Y, Z, l, ⟨⟩⟩ := h
  rw [p_spec_l8Part, p_spec_l8Some, f_spec_l2Heap _ hl]
  simp only [Option.bind_some]
  cases ho : okHeap (X, Y, Z, l, ()) with
  | false => exact ⟨false, rfl, by simp [One, ho]⟩
  | true =>
    obtain ⟨hs, hi, hr⟩ := okHeap_iff.1 ho
    simp only [cond_true]
    by_cases hne : l = []
    · subst hne
      exact ⟨false, rfl, by simp [One]⟩
    · have hpos : 0 < l.length := List.length_pos_iff.2 hne
      rw [decide_eq_true (p := (List.length l : Int) > 0) (by omega)]
      simp only [Option.bind_some, cond_true]
      obtain ⟨ps, e1, e2⟩ := f_partsx hs hi hr
      rw [e1]
      simp only [Option.bind_some]
      refine ⟨_, rfl, ?_⟩
      rw [decide_eq_true_eq]
      constructor
      · intro e; exact ⟨ho, hne, (pts_one e2 hne).1 (by omega)⟩
      · intro e; have := (pts_one e2 hne).2 e.2.2; omega
theorem f_single (h : D_Heap) (hl : Small h.2.2.2.1) : ∃ b, P_impl_isSingle (h, ()) = some (b, ()) ∧ (b = true ↔ One h) := by
  obtain ⟨X, Y, Z, l, ⟨⟩⟩ := h
  rw [p_impl_isSingle, f_impl_IsHeap _ hl]
  simp only [Option.bind_some]
  cases ho : okHeap (X, Y, Z, l, ()) with
  | false => exact ⟨false, rfl, by simp [One, ho]⟩
  | true =>
    obtain ⟨hs, hi, hr⟩ := okHeap_iff.1 ho
    simp only [cond_true]
    rw [f_Heap_box, f_Heap_cubes hs hl hi]
    simp only [Option.bind_some]
    have h64 := srt_small64 hs hi hr
    obtain ⟨vs, e1, _, e3⟩ := parts_walkx hs hi 64 N l [] h64 (by have := N_ge; omega) (by omega) (by simp) hr (fun c h => h) (fun _ _ d hd _ => hd)
    have e1' : P_box_parts ((X, Y, Z, ()), ((mask Y Z l 0).toNat : Int), ()) = some (vs.map (fun w => ((w.toNat : Nat) : Int)), ()) := by
      rw [p_box_parts]
      simpa using e1
    rw [e1']
    simp only [Option.bind_some, List.length_map]
    refine ⟨_, rfl, ?_⟩
    rw [decide_eq_true_eq]
    by_cases hne : l = []
    · subst hne
      have : vs = [] := by
        cases vs with
        | nil => rfl
        | cons v vs => cases e3
      subst this
      simp [One]
    · have e4 := pts_one e3 hne
      rw [List.length_map] at e4
      constructor
      · intro e; exact ⟨ho, hne, e4.1 (by omega)⟩
      · intro e; have := e4.2 e.2.2; omega
theorem f_sjoin {X Y Z X' Y' Z' : Int} {lg lh : List D_A3} (hg : One (X, Y, Z, lg, ())) (hh : One (X', Y', Z', lh, ())) (h4 : lg.length + lh.length ≤ 4) :
 ∃ R, P_spec_JoinForms ((X, Y, Z, lg, ()), (X', Y', Z', lh, ()), ()) = some (R, true, ()) ∧ Sr R (fun x => ∃ t ∈ T24, ∃ v, Nine v ∧ Hit (nrmV lg).2.2.2.1 (posV t lh).2.2.2.1 v x) 17496 := by
  obtain ⟨og, ng, wg⟩ := hg
  obtain ⟨oh, nh, wh⟩ := hh
  obtain ⟨sg, ig, rg⟩ := okHeap_iff.1 og
  obtain ⟨sh, ih, rh⟩ := okHeap_iff.1 oh
  simp only at sg ig rg sh ih rh ng nh wg wh
  have gg : GoodH X Y Z lg := ⟨sg, ig, rg, ng⟩
  have gh : GoodH X' Y' Z' lh := ⟨sh, ih, rh, nh⟩
  have pg : 0 < lg.length := List.length_pos_iff.2 ng
  have ph : 0 < lh.length := List.length_pos_iff.2 nh
  obtain ⟨b1, e1, k1⟩ := f_part (X, Y, Z, lg, ()) gg.small
  obtain ⟨b2, e2, k2⟩ := f_part (X', Y', Z', lh, ()) gh.small
  have t1 : b1 = true := k1.2 ⟨og, ng, wg⟩
  have t2 : b2 = true := k2.2 ⟨oh, nh, wh⟩
  subst t1; subst t2
  rw [p_spec_JoinForms, e1]
  simp only [Option.bind_some, Bool.not_true, cond_false]
  rw [e2]
  simp only [Option.bind_some, Bool.not_true, cond_false]
  rw [w64 (by omega) (by omega), decide_eq_false (by omega)]
  simp only [cond_false]
  obtain ⟨K, c1, c2⟩ := f_scrop (X := X) (Y := Y) (Z := Z) gg.small rg gg.tame ng
  rw [c1]
  simp only [Option.bind_some]
  rw [sturns24]
  simp only [Option.bind_some]
  have hF := cor_nrm c2 (ins_close sg ig) (by omega)
  have hFl := nrm_len c2
  obtain ⟨R, r1, r2⟩ := l_j6 (X1 := K.1) (Y1 := K.2.1) (Z1 := K.2.2.1) (F := K.2.2.2.1) gh hF (by omega) (by omega) ok24 (by decide) T24.length 0 N [] (fun _ => False) (by omega) (by have := N_ge; have : T24.length = 24 := rfl; omega) ⟨List.Pairwise.nil, (fun a ha => by cases ha), (fun x => by simp), by simp⟩
  refine ⟨R, r2, r1.congr (fun x => ?_) (Nat.le_refl _)⟩
  rw [List.drop_zero, nrmV_is c2]
  simp
end Go.VI
namespace Go.VI
open Go.Proofs
set_option maxRecDepth 100000
theorem l_index {l : List D_A3} (hl : Small l) (c : D_A3) : ∀ (d k m : Nat), l.length = k + d → d < m → (∀ x ∈ l.take k, x ≠ c) →
 ∃ r : Int, l_slices_Index_3_int_3_int_2 m c.1 c.2.1 c.2.2.1 l (l.length : Int) (k : Int) = some (r, ()) ∧ (r ≥ 0 ↔ c ∈ l)
  | d, k, 0, _, h, _ => by omega
  | d, k, m + 1, hk, hm, hn => by
    have h1 := hl
    unfold Small at h1
    rw [q_slices_Index_3_int_3_int_2]
    by_cases hlt : k < l.length
    · rw [ltT hlt, inB_at hlt, nthA (t := T_A3) hlt, eqC3]
      simp only [cond_true]
      by_cases e : c = l[k]
      · rw [decide_eq_true e]
        exact ⟨_, rfl, ⟨fun _ => by rw [e]; exact List.getElem_mem _, fun _ => by omega⟩⟩
      · rw [decide_eq_false e, succI k (by omega)]
        refine l_index hl c (d - 1) (k + 1) m (by omega) (by omega) fun x hx => ?_
        rw [List.take_succ_eq_append_getElem hlt, List.mem_append] at hx
        rcases hx with hx | hx
        · exact hn x hx
        · rw [List.mem_singleton.1 hx]; exact fun e' => e e'.symm
    · rw [ltF hlt]
      rw [List.take_of_length_le (by omega)] at hn
      exact ⟨_, rfl, ⟨fun h => by simp at h, fun h => absurd rfl (hn c h)⟩⟩
theorem f_contains {l : List D_A3} (hl : Small l) (c : D_A3) : P_sCont3 (l, c, ()) = some (decide (c ∈ l), ()) := by
  obtain ⟨r, e, h⟩ := l_index hl c l.length 0 N (by omega) (by unfold Small at hl; have := N_ge; omega) (by simp)
  have e' : P_slices_Index_3_int_3_int (l, c, ()) = some (r, ()) := by rw [p_slices_Index_3_int_3_int]; exact e
  rw [p_sCont3, e']
  simp only [Option.bind_some]
  by_cases hc : c ∈ l
  · rw [decide_eq_true (h.2 hc), decide_eq_true hc]
  · rw [decide_eq_false (fun k => hc (h.1 k)), decide_eq_false hc]
noncomputable def VJ (F : List D_A3) : JoinV where
  add := fun c d => (IntKind.wrap .i64 (c.1 + d.1), IntKind.wrap .i64 (c.2.1 + d.2.1), IntKind.wrap .i64 (c.2.2.1 + d.2.2.1), ())
  bey := fun d f => match P_impl_beyond (d, (f : Int), ()) with
    | some r => r.1
    | none => d
  has := fun d => decide (d ∈ F)
  hof := nrmV
  frm := fun h => frmV h.2.2.2.1
theorem bey_some (d : D_A3) {f : Nat} (hf : f < 6) : ∃ r, P_impl_beyond (d, (f : Int), ()) = some (r, ()) := by
  rcases six hf with rfl | rfl | rfl | rfl | rfl | rfl
  · rw [p_impl_beyond]; exact ⟨_, rfl⟩
  · rw [p_impl_beyond]; exact ⟨_, rfl⟩
  · rw [p_impl_beyond]; exact ⟨_, rfl⟩
  · rw [p_impl_beyond]; exact ⟨_, rfl⟩
  · rw [p_impl_beyond]; exact ⟨_, rfl⟩
  · rw [p_impl_beyond]; exact ⟨_, rfl⟩
theorem vj_bey (F : List D_A3) (d : D_A3) {f : Nat} (hf : f < 6) : P_impl_beyond (d, (f : Int), ()) = some ((VJ F).bey d f, ()) := by
  obtain ⟨r, e⟩ := bey_some d hf
  rw [e]
  show some (r, ()) = some ((match P_impl_beyond (d, (f : Int), ()) with | some r => r.1 | none => d), ())
  rw [e]
theorem vj_bey_is (F : List D_A3) {d : D_A3} (hd : Near d) {f : Nat} (hf : f < 6) : (VJ F).bey d f = stp f d := by
  have h := vj_bey F d hf
  rw [f_beyond d hd f hf] at h
  simpa using h.symm
theorem vj_add (F : List D_A3) {c d : D_A3} (hc : Tame c) (hd : Tame d) : (VJ F).add c d = addC c d := by
  have h := f_add hc hd
  rw [p_impl_added] at h
  simpa [VJ] using h
theorem nine_by (n : Nat) (h : n < 729) : Nine (byN n) := by
  unfold Nine byN
  simp only
  omega
theorem by_nine {v : D_A3} (h : Nine v) : ∃ n < 729, byN n = v := by
  unfold Nine at h
  refine ⟨((v.1 + 4) + 9 * (v.2.1 + 4) + 81 * (v.2.2.1 + 4)).toNat, by omega, ?_⟩
  unfold byN
  exact cell_ext (by simp only; omega) (by simp only; omega) (by simp only; omega)
section
variable {F S : List D_A3} (hF : Cor F) (hS : Cor S)
include hS
theorem vj_mv {v : D_A3} (hv : Nine v) : (S.map fun c => (VJ F).add c v) = mv S v := by
  refine List.map_congr_left fun c hc => ?_
  have := hS.le c hc
  unfold Nine at hv
  exact vj_add F (by unfold Tame; omega) (by unfold Tame; omega)
theorem vj_cells {v : D_A3} (hv : Nine v) : (VJ F).cells F S v = F ++ mv S v := by
  unfold JoinV.cells
  rw [vj_mv hS hv]
theorem vj_clash {v : D_A3} (hv : Nine v) : (VJ F).clash S v = true ↔ ∃ c ∈ mv S v, c ∈ F := by
  have e : (VJ F).clash S v = (S.map fun c => (VJ F).add c v).any fun c => (VJ F).has c := by unfold JoinV.clash; rw [List.any_map]; rfl
  rw [e, vj_mv hS hv, List.any_eq_true]
  simp [VJ]
theorem vj_touch {v : D_A3} (hv : Nine v) : (VJ F).touch S v = true ↔ ∃ c ∈ mv S v, ∃ d ∈ F, nb c d := by
  have e : (VJ F).touch S v = (S.map fun c => (VJ F).add c v).any fun c => (VJ F).touchF c 6 := by unfold JoinV.touch; rw [List.any_map]; rfl
  rw [e, vj_mv hS hv, List.any_eq_true]
  have key : ∀ c ∈ mv S v, ((VJ F).touchF c 6 = true ↔ ∃ d ∈ F, nb c d) := fun c hc => by
    have hn : Near c := by have := mv_in hS hv c hc; unfold Near; omega
    unfold JoinV.touchF
    rw [List.any_eq_true]
    constructor
    · rintro ⟨f, hf, h⟩
      have hf6 := List.mem_range.1 hf
      rw [vj_bey_is F hn hf6] at h
      exact ⟨stp f c, of_decide_eq_true h, f, hf6, rfl⟩
    · rintro ⟨d, hd, f, hf, rfl⟩
      exact ⟨f, List.mem_range.2 hf, by rw [vj_bey_is F hn hf]; exact decide_eq_true hd⟩
  constructor
  · rintro ⟨c, hc, h⟩; exact ⟨c, hc, (key c hc).1 h⟩
  · rintro ⟨c, hc, h⟩; exact ⟨c, hc, (key c hc).2 h⟩
include hF
theorem vj_keep (wF : Whole F) (wS : Whole S) {v : D_A3} (hv : Nine v) : (VJ F).keep S v = true ↔ HitC F S v := by
  unfold JoinV.keep
  rw [Bool.and_eq_true, Bool.not_eq_true', vj_touch hS hv]
  have hcl : (VJ F).clash S v = false ↔ ∀ c ∈ mv S v, c ∉ F := by
    constructor
    · intro h c hc hcF
      have := (vj_clash hS hv).2 ⟨c, hc, hcF⟩
      rw [h] at this
      cases this
    · intro h
      cases hb : (VJ F).clash S v with
      | false => rfl
      | true =>
        obtain ⟨c, hc, hcF⟩ := (vj_clash hS hv).1 hb
        exact absurd hcF (h c hc)
  rw [hcl]
  constructor
  · rintro ⟨⟨c, hc, d, hd, hn⟩, hno⟩
    exact ⟨hno, whole_join wF (wS.map (nb_add v)) hc hd hn⟩
  · rintro ⟨hno, hw⟩
    obtain ⟨f, hf⟩ := List.exists_mem_of_ne_nil F hF.ne
    obtain ⟨s, hs⟩ := List.exists_mem_of_ne_nil S hS.ne
    exact ⟨join_touch hw hf (List.mem_map_of_mem hs) hno, hno⟩
theorem some_place (wF : Whole F) (wS : Whole S) : ∃ v, Nine v ∧ HitC F S v := by
  obtain ⟨s, hs, es⟩ := hS.at0
  have hmax : ∀ (l : List D_A3), l ≠ [] → ∃ f ∈ l, ∀ c ∈ l, c.1 ≤ f.1 := by
    intro l
    induction l with
    | nil => intro h; exact absurd rfl h
    | cons a l ih =>
      intro _
      by_cases hl : l = []
      · subst hl; exact ⟨a, by simp, fun c hc => by rw [List.mem_singleton.1 hc]; omega⟩
      · obtain ⟨f, hf, h⟩ := ih hl
        by_cases hc : f.1 ≤ a.1
        · exact ⟨a, by simp, fun c hc' => by
            rcases List.mem_cons.1 hc' with rfl | hc'
            · omega
            · have := h c hc'; omega⟩
        · exact ⟨f, by simp [hf], fun c hc' => by
            rcases List.mem_cons.1 hc' with rfl | hc'
            · omega
            · exact h c hc'⟩
  obtain ⟨f, hf, hm⟩ := hmax F hF.ne
  have h1 := hF.le f hf
  have h2 := hS.le s hs
  have hv : Nine (f.1 + 1 - s.1, f.2.1 - s.2.1, f.2.2.1 - s.2.2.1, ()) := by unfold Nine; simp only; omega
  refine ⟨_, hv, ?_⟩
  have hno : ∀ c ∈ mv S (f.1 + 1 - s.1, f.2.1 - s.2.1, f.2.2.1 - s.2.2.1, ()), c ∉ F := fun c hc hcF => by
    obtain ⟨x, hx, rfl⟩ := List.mem_map.1 hc
    have := hm _ hcF
    have := hS.le x hx
    simp only [addC] at *
    omega
  refine ⟨hno, whole_join wF (wS.map (nb_add _)) (s := addC s (f.1 + 1 - s.1, f.2.1 - s.2.1, f.2.2.1 - s.2.2.1, ())) (f := f) (List.mem_map_of_mem hs) hf ?_⟩
  rw [nb_iff]; simp only [addC]; omega
end
theorem join_ok {X Y Z : Int} {F l : List D_A3} (g : GoodH X Y Z l) (hF : Cor F) (wF : Whole F) (wl : Whole l) (h4 : F.length + l.length ≤ 4) (h3 : l.length ≤ 3) :
 JoinOK (VJ F) F ((List.range T24.length).map fun i => posV (tAt i) l) ∧ (∀ x, x ∈ (VJ F).cands F ((List.range T24.length).map fun i => posV (tAt i) l) ↔ ∃ t ∈ T24, ∃ v, Nine v ∧ Hit F (posV t l).2.2.2.1 v x) := by
  have hpos : ∀ t ∈ T24, Cor (posV t l).2.2.2.1 ∧ Whole (posV t l).2.2.2.1 ∧ (posV t l).2.2.2.1.length ≤ l.length := fun t ht => by
    obtain ⟨h', p, _, _, hp⟩ := f_spos (ok24 t ht) g.sides g.ins g.small g.ne
    have ep : posV t l = p := nrmV_is hp
    have hl := nrm_len hp
    rw [List.length_map] at hl
    rw [ep]
    exact ⟨cor_nrm hp (tl_close (ins_close g.sides g.ins) (ok24 t ht)) (by simpa using h3), whole_nrm hp (wl.map (nb_tl (ok324 t ht))), hl⟩
  have hmem : ∀ h, h ∈ (List.range T24.length).map (fun i => posV (tAt i) l) ↔ ∃ t ∈ T24, h = posV t l := fun h => by
    rw [List.mem_map]
    constructor
    · rintro ⟨i, hi, rfl⟩; exact ⟨tAt i, tAt_mem (List.mem_range.1 hi), rfl⟩
    · rintro ⟨t, ht, rfl⟩
      obtain ⟨i, hi, rfl⟩ := List.getElem_of_mem ht
      exact ⟨i, List.mem_range.2 hi, by rw [tAt_is (List.getElem?_eq_getElem hi)]⟩
  have hlF := hF.len
  have hin : ∀ c ∈ F, 0 ≤ c.1 ∧ c.1 ≤ 3 ∧ 0 ≤ c.2.1 ∧ c.2.1 ≤ 3 ∧ 0 ≤ c.2.2.1 ∧ c.2.2.1 ≤ 3 := hF.le
  have key : ∀ t ∈ T24, ∀ v, Nine v → HitC F (posV t l).2.2.2.1 v → ∃ K, P_impl_heapOf (F ++ mv (posV t l).2.2.2.1 v, ()) = some (K, ()) ∧ Nrm (F ++ mv (posV t l).2.2.2.1 v) K ∧ GoodH K.1 K.2.1 K.2.2.1 K.2.2.2.1 := fun t ht v hv hh => by
    obtain ⟨hS, _, hSl⟩ := hpos t ht
    have hlen : (F ++ mv (posV t l).2.2.2.1 v).length ≤ 4 := by simp [mv]; omega
    have hc := whole_close hh.2 hlen
    have hmv := mv_in hS hv
    have hne : F ++ mv (posV t l).2.2.2.1 v ≠ [] := by simp [hF.ne]
    obtain ⟨K, k1, k2⟩ := pf_hof (l := F ++ mv (posV t l).2.2.2.1 v) (by unfold Small; omega) hc (fun c hc => by
      rcases List.mem_append.1 hc with hc | hc
      · have := hin c hc; omega
      · have := hmv c hc; omega) hne
    obtain ⟨lo, hi, a⟩ := k2
    obtain ⟨s1, s2⟩ := a.ok hc
    refine ⟨K, k1, ⟨lo, hi, a⟩, s1, s2, a.srt, fun e => ?_⟩
    obtain ⟨c, hcm⟩ := List.exists_mem_of_ne_nil _ hne
    have := (a.mem (addC c (negC lo))).2 (by rw [addC_negC']; exact hcm)
    rw [e] at this
    cases this
  refine ⟨⟨by omega, by rw [List.length_map, List.length_range]; decide, fun h hh => ?_, fun c d => by rw [p_impl_added]; rfl, fun d f hf => vj_bey F d hf, fun d => f_contains (by unfold Small; omega) d, fun h hh n hn hk => ?_, fun h hh n hn hk => ?_⟩, fun x => ?_⟩
  · obtain ⟨t, ht, rfl⟩ := (hmem h).1 hh
    have := (hpos t ht).2.2
    omega
  · obtain ⟨t, ht, rfl⟩ := (hmem h).1 hh
    obtain ⟨hS, wS, _⟩ := hpos t ht
    have hv := nine_by n hn
    have hh' := (vj_keep hF hS wF wS hv).1 hk
    obtain ⟨K, k1, k2, _⟩ := key t ht _ hv hh'
    rw [vj_cells hS hv, k1]
    show some (K, ()) = some (nrmV _, ())
    rw [nrmV_is k2]
  · obtain ⟨t, ht, rfl⟩ := (hmem h).1 hh
    obtain ⟨hS, wS, _⟩ := hpos t ht
    have hv := nine_by n hn
    have hh' := (vj_keep hF hS wF wS hv).1 hk
    obtain ⟨K, k1, k2, k3⟩ := key t ht _ hv hh'
    have e : (VJ F).hof ((VJ F).cells F (posV t l).2.2.2.1 (byN n)) = K := by
      rw [vj_cells hS hv]
      exact nrmV_is k2
    rw [e]
    exact ⟨T24, _, _, _, _, form_facts k3, rfl⟩
  · unfold JoinV.cands
    rw [List.mem_flatMap]
    constructor
    · rintro ⟨h, hh, hx⟩
      obtain ⟨t, ht, rfl⟩ := (hmem h).1 hh
      obtain ⟨hS, wS, _⟩ := hpos t ht
      unfold JoinV.candS at hx
      obtain ⟨n, hn, hc⟩ := List.mem_filterMap.1 hx
      have hn' := List.mem_range.1 hn
      have hv := nine_by n hn'
      unfold JoinV.cand at hc
      by_cases hk : (VJ F).keep (posV t l).2.2.2.1 (byN n) = true
      · rw [if_pos hk] at hc
        have hh' := (vj_keep hF hS wF wS hv).1 hk
        obtain ⟨K, k1, k2, _⟩ := key t ht _ hv hh'
        refine ⟨t, ht, byN n, hv, hh', ?_⟩
        have hc' := Option.some.inj hc
        rw [← hc', vj_cells hS hv]
        show frmV (nrmV _).2.2.2.1 = _
        rw [nrmV_is k2, frmV_nrm k2]
      · rw [if_neg hk] at hc; cases hc
    · rintro ⟨t, ht, v, hv, hh', rfl⟩
      obtain ⟨hS, wS, _⟩ := hpos t ht
      obtain ⟨n, hn, rfl⟩ := by_nine hv
      refine ⟨posV t l, (hmem _).2 ⟨t, ht, rfl⟩, ?_⟩
      unfold JoinV.candS
      refine List.mem_filterMap.2 ⟨n, List.mem_range.2 hn, ?_⟩
      obtain ⟨K, k1, k2, _⟩ := key t ht _ hv hh'
      unfold JoinV.cand
      rw [if_pos ((vj_keep hF hS wF wS hv).2 hh'), vj_cells hS hv]
      show some (frmV (nrmV _).2.2.2.1) = _
      rw [nrmV_is k2, frmV_nrm k2]
theorem join_ne {X Y Z : Int} {F l : List D_A3} (g : GoodH X Y Z l) (hF : Cor F) (wF : Whole F) (wl : Whole l) (h3 : l.length ≤ 3) : ∃ x, ∃ t ∈ T24, ∃ v, Nine v ∧ Hit F (posV t l).2.2.2.1 v x := by
  have ht : tAt 0 ∈ T24 := tAt_mem (by omega)
  obtain ⟨h', p, _, _, hp⟩ := f_spos (ok24 _ ht) g.sides g.ins g.small g.ne
  have ep : posV (tAt 0) l = p := nrmV_is hp
  obtain ⟨v, hv, hh⟩ := some_place hF (cor_nrm hp (tl_close (ins_close g.sides g.ins) (ok24 _ ht)) (by simpa using h3)) wF (whole_nrm hp (wl.map (nb_tl (ok324 _ ht))))
  exact ⟨_, tAt 0, ht, v, hv, ep ▸ hh, rfl⟩
end Go.VI
namespace Go.VI
open Go.Proofs Go.RowKit
set_option maxRecDepth 100000
theorem box3 {w : World} {b t : Nat} {a0 a1 a2 : Value} (h : w.heap[b]? = some (.cells #[a0, a1, a2] t (0, 0))) :
 (w.cell? ⟨b, 0, none⟩ = some a0 ∧ w.cell? ⟨b, 1, none⟩ = some a1 ∧ w.cell? ⟨b, 2, none⟩ = some a2) := by
  refine ⟨?_, ?_, ?_⟩ <;> simp [World.cell?, h]
theorem row_cells {w : World} {B : Nat} {A : Option Addr} {n c : Nat} {l : List DA3} (h : OwnV (fun _ => False) w B 55 A3ty (.slice A n c) l) {i : Nat} {d : DA3} (hi : l[i]? = some d) : ∃ g, A = some ⟨g, 0, none⟩ ∧
 w.cell? ⟨g, i * 3, none⟩ = some (.int .i64 d.1) ∧ w.cell? ⟨g, i * 3 + 1, none⟩ = some (.int .i64 d.2.1) ∧ w.cell? ⟨g, i * 3 + 2, none⟩ = some (.int .i64 d.2.2.1) := by
  have hr : RepI (fun _ => True) w (.sl A3ty) l [.slice A n c] := h.reads _ (fun _ h => h.elim) fun _ _ => trivial
  obtain ⟨_, xs, ho, _⟩ := h
  rcases ho.2 with ⟨e, h0⟩ | ⟨g, cap, cur, fz, e, _⟩
  · have : l = [] := List.length_eq_zero_iff.1 h0
    subst this
    simp at hi
  · obtain ⟨rfl, _⟩ : A = some ⟨g, 0, none⟩ ∧ n = l.length ∧ c = cap := by simpa using e
    have hc := read3 hr
    have e0 := hc (i * 3 + 0) _ (by rw [enc3_at hi 0 (by decide)]; rfl)
    have e1 := hc (i * 3 + 1) _ (by rw [enc3_at hi 1 (by decide)]; rfl)
    have e2 := hc (i * 3 + 2) _ (by rw [enc3_at hi 2 (by decide)]; rfl)
    rw [Addr.add_lit, Nat.zero_add] at e0 e1 e2
    exact ⟨g, rfl, e0, e1, e2⟩
end Go.VI
namespace Go.VI
open Go.Proofs Go.RowKit
set_option maxRecDepth 100000
theorem c_single {Z : Nat → Prop} {W : World} {h : DHeap} {lv : Value} {b : Bool} (a0 : ArgH Z W h lv) (hF : P_impl_isSingle (h, ()) = some (b, ())) :
 Calls Tryz.prog 35 #[hpV h lv] W fun e' w' => e' = .returned (.bool b) ∧ Below W.heap.size W w' :=
  flatH_calls (As := As_impl_isSingle) (fn := Tryz.f35) (r := (b, ())) s_impl_isSingle rfl Tryz.func35 rfl (by kernel_rfl) trivial a0.zone (xs := (h, ())) (vs := [hpV h lv]) ⟨_, _, rfl, (fun h => by cases h), a0.arg, rfl⟩ hF
theorem belowDN (w : World) (n : Nat) : Below w.heap.size w (w.drewN n) := by
  unfold World.drewN
  exact ⟨rfl, rfl, rfl, Nat.le_refl _, fun _ _ => rfl, Nat.le_add_right _ _⟩
theorem DeepH.slice {w : World} {B : Nat} {eo ei : TypeId} {v : Value} {hs : List HE} (h : DeepH w B eo ei v hs) : ∃ A c, v = .slice A hs.length c := by
  rcases h.outer.2 with ⟨rfl, h0⟩ | ⟨g, c, cur, rfl, _⟩
  · exact ⟨none, 0, by rw [h0]⟩
  · exact ⟨_, _, rfl⟩
theorem jf_start {W w3 w5 w6 : World} {A fa : Option Addr} {c fc : Nat} {gs : List HE} {F : List DA3} {oF : Obj} (e : Below W.heap.size W w3)
 (hb5 : Below (w3.alloc (.cells #[] 29)).heap.size (w3.alloc (.cells #[] 29)) w5) (hu5 : OwnV (fun _ => False) w5 (w3.alloc (.cells #[] 29)).heap.size 55 A3ty (.slice fa F.length fc) F)
 (hb6 : Below (w5.alloc oF).heap.size (w5.alloc oF) w6) (hd6 : DeepH w6 (w5.alloc oF).heap.size 29 55 (.slice A gs.length c) gs) :
 JF W w6 (.slice (some ⟨w3.heap.size, 0, none⟩) 0 0) [] (.slice A gs.length c) gs (.slice fa F.length fc) F [(w5.heap.size, oF)] := by
  have s3 := e.size
  have s5 := hb5.size
  have s6 := hb6.size
  rw [alloc_size] at s5 s6
  refine ⟨⟨bThen (belowA (bThen (belowA e _) hb5) _) hb6, DeepH.nil ⟨rfl, .inr ⟨w3.heap.size, 0, #[], rfl, s3, belowBlock (blockA (belowBlock (alloc_at _ _) hb5) _) hb6, Nat.le_refl _, by decide, rfl, rfl⟩⟩, hd6.rebase (by rw [alloc_size]; omega), fun g hg hZ => ?_, fun b o hm => ?_⟩, OwnV.rebaseH (ownBH (ownBH hu5 (belowAlloc _ _)) hb6) fun g hg => ?_, fun g hg hf => ?_⟩
  · have := (ZH.lt hd6 g hZ).1
    rw [alloc_size] at this
    have e : w3.heap.size = g := Option.some.inj hg
    omega
  · obtain ⟨rfl, rfl⟩ : b = w5.heap.size ∧ o = oF := by simpa using hm
    refine ⟨by omega, belowBlock (alloc_at _ _) hb6, fun h => ?_⟩
    have e : w3.heap.size = w5.heap.size := Option.some.inj h
    omega
  · have := (hu5.lt g hg).1
    rw [alloc_size] at this
    omega
  · have := (hu5.lt g hf).1
    rw [alloc_size] at this
    have e : w3.heap.size = g := Option.some.inj hg
    omega
set_option maxHeartbeats 4000000 in
theorem join_walk {Z Zh : Nat → Prop} {W : World} {g h F0 : DHeap} {ga ha : Option Addr} {gc hc : Nat} {bF : Bool} (ag : ArgH Z W g (.slice ga g.2.2.2.1.length gc)) (ah : ArgH Zh W h (.slice ha h.2.2.2.1.length hc))
 (hg1 : P_impl_isSingle (g, ()) = some (true, ())) (hh1 : P_impl_isSingle (h, ()) = some (true, ())) (hl4 : g.2.2.2.1.length + h.2.2.2.1.length ≤ 4)
 (hcr : P_impl_CropHeap (g, ()) = some (F0, bF, ())) {Tn : List D_l8Turn} (hT : P_impl_turnings () = some (Tn, ())) (hTl : Tn.length ≤ 24) {gf cf : Nat → DHeap} {bf : Nat → Bool}
 (hof : ∀ i t, Tn[i]? = some t → P_turning_of (t, h, ()) = some (gf i, ()) ∧ P_impl_CropHeap (gf i, ()) = some (cf i, bf i, ()))
 {V : JoinV} (J : JoinOK V F0.2.2.2.1 ((List.range Tn.length).map cf)) (hne : V.cands F0.2.2.2.1 ((List.range Tn.length).map cf) ≠ [])
 {Pc : DHeap → Prop} {cmp : DHeap → DHeap → Int} {sm : DHeap → DHeap → Bool} (O : OrdOK Pc cmp sm) (hP : ∀ x ∈ V.cands F0.2.2.2.1 ((List.range Tn.length).map cf), Pc x) :
 Calls Tryz.prog 8 #[hpV g (.slice ga g.2.2.2.1.length gc), hpV h (.slice ha h.2.2.2.1.length hc)] W fun e w' => ∃ v hs hs2, e = .returned (.tuple #[v, .bool true]) ∧ Below W.heap.size W w' ∧ DeepH w' W.heap.size 29 55 v hs2 ∧ hs.map HE.heap = V.cands F0.2.2.2.1 ((List.range Tn.length).map cf) ∧ SortedOf cmp sm hs hs2 := by
  obtain ⟨L, hL⟩ : ∃ L, (List.range Tn.length).map cf = L := ⟨_, rfl⟩
  obtain ⟨F, hF⟩ : ∃ F, F0.2.2.2.1 = F := ⟨_, rfl⟩
  rw [hL, hF] at J hne hP ⊢
  have e0 := belowAlloc W (.cells #[.int .i64 g.1, .int .i64 g.2.1, .int .i64 g.2.2.1, .slice ga g.2.2.2.1.length gc] 29)
  have B0 := alloc_at W (.cells #[.int .i64 g.1, .int .i64 g.2.1, .int .i64 g.2.2.1, .slice ga g.2.2.2.1.length gc] 29)
  have e1 := belowA e0 (.cells #[.int .i64 h.1, .int .i64 h.2.1, .int .i64 h.2.2.1, .slice ha h.2.2.2.1.length hc] 29)
  have sA := alloc_size W (.cells #[.int .i64 g.1, .int .i64 g.2.1, .int .i64 g.2.2.1, .slice ga g.2.2.2.1.length gc] 29)
  have sB := alloc_size (W.alloc (.cells #[.int .i64 g.1, .int .i64 g.2.1, .int .i64 g.2.2.1, .slice ga g.2.2.2.1.length gc] 29)) (.cells #[.int .i64 h.1, .int .i64 h.2.1, .int .i64 h.2.2.1, .slice ha h.2.2.2.1.length hc] 29)
  have B1 := alloc_at (W.alloc (.cells #[.int .i64 g.1, .int .i64 g.2.1, .int .i64 g.2.2.1, .slice ga g.2.2.2.1.length gc] 29)) (.cells #[.int .i64 h.1, .int .i64 h.2.1, .int .i64 h.2.2.1, .slice ha h.2.2.2.1.length hc] 29)
  rw [sA] at B1
  have hle : ¬ ((g.2.2.2.1.length : Int) + (h.2.2.2.1.length : Int) > 4) := by omega
  have hs1 : ∀ U, Below W.heap.size W U → _ := fun U hU => c_single (W := U) (ag.at hU) hg1
  have hs2 : ∀ U, Below W.heap.size W U → _ := fun U hU => c_single (W := U) (ah.at hU) hh1
  have hs3 : ∀ U, Below W.heap.size W U → _ := fun U hU => c_crop (W := U) (ag.at hU) hcr
  have hs4 : ∀ U, Below W.heap.size W U → _ := fun U hU => pos_calls (W := U) (ah.at hU) hT (by omega) gf cf bf hof
  unfold hpV at *
  go_enter Tryz.func8, Tryz.ntmps8
  obtain ⟨k0, k1, k2, k3⟩ := box4 B1
  obtain ⟨j0, j1, j2, j3⟩ := box4A B0
  go_wp2_with (first
    | (go_at_call 35; refine (hs1 _ e1).mono ?_; rintro e w2 ⟨rfl, hb2⟩; clear hs1; obtain ⟨_, _, _, _⟩ := box4 (belowBlock B1 hb2); obtain ⟨_, _, _, _⟩ := box4 (belowBlock (blockA B0 _) hb2))
    | (go_at_call 35; refine (hs2 _ (bThen e1 hb2)).mono ?_; rintro e w3 ⟨rfl, hb3⟩; clear hs2; have hb4 := bThen hb2 hb3; obtain ⟨_, _, _, _⟩ := box4 (belowBlock B1 hb4); obtain ⟨_, _, _, _⟩ := box4 (belowBlock (blockA B0 _) hb4); obtain ⟨_, _, _, _⟩ := box4A (belowBlock (blockA B0 _) hb4))
    | (go_at_call 36; refine (hs3 _ (belowA (bThen e1 hb4) _)).mono ?_; rintro e w5 ⟨fu, rfl, hb5, hu5⟩; clear hs3; obtain ⟨fa, fc, rfl⟩ := hu5.slice1; obtain ⟨_, _, _, _⟩ := box4A (belowBlock (blockA (belowBlock B1 hb4) _) hb5))
    | (go_at_call 37; refine (hs4 _ (belowA (bThen (belowA (bThen e1 hb4) _) hb5) _)).mono ?_; rintro e w6 ⟨v47, gs, rfl, hb6, hd6, hm6⟩; clear hs4; obtain ⟨A, c, rfl⟩ := hd6.slice))
  have hl0 := jf_start (bThen e1 hb4) hb5 hu5 hb6 hd6
  rw [hF] at hl0
  rw [hL] at hm6
  have hgl : gs.length = L.length := by have := congrArg List.length hm6; simpa using this
  have hL24 := J.smallL
  have hF10 := J.smallF
  have hat : ∀ (i : Nat) (a : HE), gs[i]? = some a → L[i]? = some a.heap := fun i a ha => by rw [← hm6]; simp [ha]
  have hgs24 : gs.length ≤ 24 := by omega
  have hHG := Lib.hid hgl
  clear hgl hm6 hF hL hof hT hTl hcr hg1 hh1 hl4 hle ag ah e0 B0 e1 sA sB B1 k0 k1 k2 k3 j0 j1 j2 j3 hb2 hb3 hb4 hb5 hu5 hb6 hd6
  go_loopg [6, 49] gs.length (fun m v6 v49 wr => ∃ (i : Nat) (hs : List HE), i ≤ gs.length ∧ m = gs.length - i ∧ v49 = .int .i64 i ∧ JF W wr v6 hs (.slice A gs.length c) gs (.slice fa F.length fc) F [(w5.heap.size, .cells #[.int .i64 F0.1, .int .i64 F0.2.1, .int .i64 F0.2.2.1, .slice fa F.length fc] 29)] ∧ hs.map HE.heap = V.cands F (L.take i) ∧ hs.length ≤ i * 729)
  case atStart => exact ⟨0, [], Nat.zero_le _, rfl, rfl, hl0, rfl, Nat.le_refl _⟩
  case round =>
    obtain ⟨i, hs, hi, rfl, rfl, hl, hq, hlen⟩ := hrel
    clear hl0
    obtain ⟨wA, hwA⟩ : ∃ x, x = wr := ⟨wr, rfl⟩
    subst hwA
    have hHq := Lib.hid hq
    clear hq
    by_cases hin : i < gs.length
    · obtain ⟨a, ha⟩ : ∃ a, gs[i]? = some a := ⟨gs[i], List.getElem?_eq_getElem hin⟩
      have hLi := Lib.hid (hat i a ha)
      have hmem : a.heap ∈ L := List.mem_of_getElem? hLi.out
      have hc10 : a.cells.length ≤ 10 := J.small _ hmem
      obtain ⟨g', c', hv, x0, x1, x2, x3⟩ := heap_cells hl.loop.list ha
      obtain ⟨hA, hcc⟩ : A = some ⟨g', 0, none⟩ ∧ c = c' := by simp only [Value.slice.injEq] at hv; exact ⟨hv.1, hv.2.2⟩
      clear hv
      subst hA
      subst hcc
      obtain ⟨ra, rc, hav⟩ : ∃ ra rc, a.v = .slice ra a.cells.length rc := by
        obtain ⟨x, y, e⟩ := (hl.loop.list.inner i a ha).slice1
        exact ⟨x, y, e⟩
      rw [hav] at x3
      have hHa := Lib.hid ha
      have hHav := Lib.hid hav
      clear ha hav
      have hltI : (i : Int) < (gs.length : Int) := by omega
      have hl1 := hl.alloc (.cells #[.int .i64 a.x, .int .i64 a.y, .int .i64 a.z, .slice ra a.cells.length rc] 29)
      go_wp2
      clear x0 x1 x2 x3
      go_loopg [6, 53] 729 (fun m v6 v53 wr2 => ∃ (n : Nat) (hs2 : List HE), n ≤ 729 ∧ m = 729 - n ∧ v53 = .int .i64 n ∧ JF W wr2 v6 hs2 (.slice (some ⟨g', 0, none⟩) gs.length c) gs (.slice fa F.length fc) F [(wA.heap.size, .cells #[.int .i64 a.x, .int .i64 a.y, .int .i64 a.z, .slice ra a.cells.length rc] 29), (w5.heap.size, .cells #[.int .i64 F0.1, .int .i64 F0.2.1, .int .i64 F0.2.2.1, .slice fa F.length fc] 29)] ∧ hs2.map HE.heap = V.cands F (L.take i) ++ V.candS F a.cells n ∧ hs2.length ≤ i * 729 + n)
      case atStart => exact ⟨0, hs, Nat.zero_le _, rfl, rfl, hl1, by rw [hHq.out]; simp [JoinV.candS], by omega⟩
      case round =>
        obtain ⟨n, hs2, hn, rfl, rfl, hl2, hq2, hlen2⟩ := hrel
        clear hl1 hHq
        obtain ⟨wB, hwB⟩ : ∃ x, x = wr := ⟨wr, rfl⟩
        subst hwB
        have hHq2 := Lib.hid hq2
        clear hq2
        by_cases hn729 : n < 729
        · have hltN : (n : Int) < 729 := by omega
          have hl3 := hl2.alloc (.cells #[.int .i64 ((n : Int) % 9 - 4), .int .i64 ((n : Int) / 9 % 9 - 4), .int .i64 ((n : Int) / 81 - 4)] 55)
          obtain ⟨_, _, _, _⟩ := box4 (hl3.loop.boxes _ _ (List.mem_cons_of_mem _ (List.mem_cons_self ..))).2.1
          go_wp2
          go_loopg [13, 14, 70] a.cells.length (fun m v13 v14 v70 wr3 => ∃ (j : Nat), j ≤ a.cells.length ∧ m = a.cells.length - j ∧ v13 = .bool ((a.cells.take j).any fun c => V.touchF (V.add c (byN n)) 6) ∧ v14 = .bool ((a.cells.take j).any fun c => V.has (V.add c (byN n))) ∧ v70 = .int .i64 j ∧ JF W wr3 u6 hs2 (.slice (some ⟨g', 0, none⟩) gs.length c) gs (.slice fa F.length fc) F [(wB.heap.size, .cells #[.int .i64 ((n : Int) % 9 - 4), .int .i64 ((n : Int) / 9 % 9 - 4), .int .i64 ((n : Int) / 81 - 4)] 55), (wA.heap.size, .cells #[.int .i64 a.x, .int .i64 a.y, .int .i64 a.z, .slice ra a.cells.length rc] 29), (w5.heap.size, .cells #[.int .i64 F0.1, .int .i64 F0.2.1, .int .i64 F0.2.2.1, .slice fa F.length fc] 29)])
          case atStart => exact ⟨0, Nat.zero_le _, rfl, by simp, by simp, rfl, hl3⟩
          case round =>
            obtain ⟨j, hj, rfl, h13, h14, rfl, hl4⟩ := hrel
            clear hl3
            obtain ⟨wC, hwC⟩ : ∃ x, x = wr := ⟨wr, rfl⟩
            subst hwC
            obtain ⟨t0, ht0⟩ : ∃ t, ((a.cells.take j).any fun c => V.touchF (V.add c (byN n)) 6) = t := ⟨_, rfl⟩
            obtain ⟨c0, hc0⟩ : ∃ t, ((a.cells.take j).any fun c => V.has (V.add c (byN n))) = t := ⟨_, rfl⟩
            rw [ht0] at h13
            rw [hc0] at h14
            subst h13
            subst h14
            have hHt0 := Lib.hid ht0
            have hHc0 := Lib.hid hc0
            clear ht0 hc0
            by_cases hjn : j < a.cells.length
            · obtain ⟨d, hd⟩ : ∃ d, a.cells[j]? = some d := ⟨a.cells[j], List.getElem?_eq_getElem hjn⟩
              have hinn := hl4.loop.list.inner i a hHa.out
              rw [hHav.out] at hinn
              obtain ⟨gr, hra, y0, y1, y2⟩ := row_cells hinn hd
              subst hra
              have hHd := Lib.hid hd
              clear hd hinn
              have hltJ : (j : Int) < (a.cells.length : Int) := by omega
              have hl5 := hl4.alloc (.cells #[.int .i64 d.1, .int .i64 d.2.1, .int .i64 d.2.2.1] 55)
              obtain ⟨_, _, _⟩ := box3 (hl5.loop.boxes _ _ (List.mem_cons_of_mem _ (List.mem_cons_self ..))).2.1
              have hadd := c_added (W := wC.alloc (.cells #[.int .i64 d.1, .int .i64 d.2.1, .int .i64 d.2.2.1] 55)) (J.add d (byN n))
              obtain ⟨d2, hd2⟩ : ∃ d2, V.add d (byN n) = d2 := ⟨_, rfl⟩
              rw [hd2] at hadd
              unfold a3V byN at hadd
              have hHd2 := Lib.hid hd2
              clear hd2
              go_upto_region 17 with (go_at_call 38; refine hadd.mono ?_; rintro e w4 ⟨rfl, hb4⟩)
              have hl6 := (hl5.call hb4).alloc (.cells #[.int .i64 d2.1, .int .i64 d2.2.1, .int .i64 d2.2.2.1] 55)
              have hhas : ∀ U x, Below (w4.alloc (.cells #[.int .i64 d2.1, .int .i64 d2.2.1, .int .i64 d2.2.2.1] 55)).heap.size (w4.alloc (.cells #[.int .i64 d2.1, .int .i64 d2.2.1, .int .i64 d2.2.2.1] 55)) U → Calls Tryz.prog 39 #[.slice fa F.length fc, a3V x] U fun e' w' => e' = .returned (.bool (V.has x)) ∧ Below U.heap.size U w' := fun U x hU =>
                c_has ((hl6.call hU).zone) ((hl6.call hU).read) (J.has x)
              unfold a3V at hhas
              clear hadd hl5 y0 y1 y2
              go_cut [14] from 77 to 83 (fun v14 wc => v14 = .bool (c0 || V.has d2) ∧ Below (w4.alloc (.cells #[.int .i64 d2.1, .int .i64 d2.2.1, .int .i64 d2.2.2.1] 55)).heap.size (w4.alloc (.cells #[.int .i64 d2.1, .int .i64 d2.2.1, .int .i64 d2.2.2.1] 55)) wc)
              case first =>
                obtain ⟨_, _, _⟩ := box3 (hl6.loop.boxes _ _ (List.mem_cons_self ..)).2.1
                obtain ⟨_, _, _, _⟩ := box4 (hl6.loop.boxes _ _ (List.mem_cons_of_mem _ (List.mem_cons_of_mem _ (List.mem_cons_of_mem _ (List.mem_cons_of_mem _ (List.mem_cons_self ..)))))).2.1
                cases c0
                · go_wp2_with (go_at_call 39; refine (hhas _ d2 (Below.refl _ _)).mono ?_; rintro e w6' ⟨rfl, hb6'⟩)
                  go_meet
                  exact ⟨rfl, hb6'⟩
                · go_wp2
                  go_meet
                  exact ⟨rfl, Below.refl _ _⟩
              case rest =>
                obtain ⟨rfl, hbc⟩ := hcut
                have hl7 := hl6.call hbc
                have hbe : ∀ U f, f < 6 → _ := fun U f hf => c_beyond (W := U) (J.bey d2 f hf)
                unfold a3V at hbe
                go_wp2
                go_loopg [13, 84] 6 (fun m v13 v84 wr4 => ∃ (f : Nat), f ≤ 6 ∧ m = 6 - f ∧ v13 = .bool (t0 || V.touchF d2 f) ∧ v84 = .int .i64 f ∧ Below (w4.alloc (.cells #[.int .i64 d2.1, .int .i64 d2.2.1, .int .i64 d2.2.2.1] 55)).heap.size (w4.alloc (.cells #[.int .i64 d2.1, .int .i64 d2.2.1, .int .i64 d2.2.2.1] 55)) wr4)
                case atStart => exact ⟨0, Nat.zero_le _, rfl, by simp [JoinV.touchF], rfl, hbc⟩
                case round =>
                  obtain ⟨f, hf, rfl, h13, rfl, hbf⟩ := hrel
                  clear hbc hl7
                  obtain ⟨wD, hwD⟩ : ∃ x, x = wr := ⟨wr, rfl⟩
                  subst hwD
                  obtain ⟨t1, ht1⟩ : ∃ t, (t0 || V.touchF d2 f) = t := ⟨_, rfl⟩
                  rw [ht1] at h13
                  subst h13
                  have hHt1 := Lib.hid ht1
                  clear ht1
                  by_cases hf6 : f < 6
                  · have hltF : (f : Int) < 6 := by omega
                    have hl8 := hl6.call hbf
                    obtain ⟨_, _, _⟩ := box3 (hl8.loop.boxes _ _ (List.mem_cons_self ..)).2.1
                    obtain ⟨_, _, _, _⟩ := box4 (hl8.loop.boxes _ _ (List.mem_cons_of_mem _ (List.mem_cons_of_mem _ (List.mem_cons_of_mem _ (List.mem_cons_of_mem _ (List.mem_cons_self ..)))))).2.1
                    go_upto_region 21 with fail
                    have hhas' : ∀ U, Below wD.heap.size wD U → _ := fun U hU => hhas U (V.bey d2 f) (bThen hbf hU)
                    have hbe' : ∀ U, _ := fun U => hbe U f hf6
                    obtain ⟨x, hx⟩ : ∃ x, V.bey d2 f = x := ⟨_, rfl⟩
                    rw [hx] at hhas' hbe'
                    have hHx := Lib.hid hx
                    clear hx hhas hbe
                    have hBd := (hl8.loop.boxes _ _ (List.mem_cons_self ..)).2.1
                    have hBf := (hl8.loop.boxes _ _ (List.mem_cons_of_mem _ (List.mem_cons_of_mem _ (List.mem_cons_of_mem _ (List.mem_cons_of_mem _ (List.mem_cons_self ..)))))).2.1
                    have hS : ∀ w', Below wD.heap.size wD w' → w'.cell? ⟨w5.heap.size, 3, none⟩ = some (.slice fa F.length fc) ∧ w'.cell? ⟨w4.heap.size, 0, none⟩ = some (.int .i64 d2.1) ∧ w'.cell? ⟨w4.heap.size, 1, none⟩ = some (.int .i64 d2.2.1) ∧ w'.cell? ⟨w4.heap.size, 2, none⟩ = some (.int .i64 d2.2.2.1) ∧ Below wD.heap.size wD w' := fun w' hw => by
                      obtain ⟨a0, a1, a2⟩ := box3 (belowBlock hBd hw)
                      exact ⟨(box4 (belowBlock hBf hw)).2.2.2, a0, a1, a2, hw⟩
                    have hbeS : ∀ U, Below wD.heap.size wD U → Calls Tryz.prog 40 #[.agg #[.int .i64 d2.1, .int .i64 d2.2.1, .int .i64 d2.2.2.1], .int .i64 f] U fun e w' => e = .returned (.agg #[.int .i64 x.1, .int .i64 x.2.1, .int .i64 x.2.2.1]) ∧ (w'.cell? ⟨w5.heap.size, 3, none⟩ = some (.slice fa F.length fc) ∧ w'.cell? ⟨w4.heap.size, 0, none⟩ = some (.int .i64 d2.1) ∧ w'.cell? ⟨w4.heap.size, 1, none⟩ = some (.int .i64 d2.2.1) ∧ w'.cell? ⟨w4.heap.size, 2, none⟩ = some (.int .i64 d2.2.2.1) ∧ Below wD.heap.size wD w') := fun U hU => by
                      refine (hbe' U).mono ?_
                      rintro e w' ⟨rfl, hb⟩
                      exact ⟨rfl, hS _ (bThen hU hb)⟩
                    obtain ⟨hx', hxx⟩ : ∃ b, V.has x = b := ⟨_, rfl⟩
                    rw [hxx] at hhas'
                    have hhasS : ∀ U, Below wD.heap.size wD U → Calls Tryz.prog 39 #[.slice fa F.length fc, .agg #[.int .i64 x.1, .int .i64 x.2.1, .int .i64 x.2.2.1]] U fun e w' => e = .returned (.bool hx') ∧ (w'.cell? ⟨w5.heap.size, 3, none⟩ = some (.slice fa F.length fc) ∧ w'.cell? ⟨w4.heap.size, 0, none⟩ = some (.int .i64 d2.1) ∧ w'.cell? ⟨w4.heap.size, 1, none⟩ = some (.int .i64 d2.2.1) ∧ w'.cell? ⟨w4.heap.size, 2, none⟩ = some (.int .i64 d2.2.2.1) ∧ Below wD.heap.size wD w') := fun U hU => by
                      refine (hhas' U hU).mono ?_
                      rintro e w' ⟨rfl, hb⟩
                      exact ⟨rfl, hS _ (bThen hU hb)⟩
                    have hHxx := Lib.hid hxx
                    have hHS := Lib.hid hS
                    have hB0 := Below.refl wD.heap.size wD
                    clear hxx hhas' hbe' hS hBd hBf
                    cases t1
                    · go_region_held3 (fun w' => w'.cell? ⟨w5.heap.size, 3, none⟩ = some (.slice fa F.length fc) ∧ w'.cell? ⟨w4.heap.size, 0, none⟩ = some (.int .i64 d2.1) ∧ w'.cell? ⟨w4.heap.size, 1, none⟩ = some (.int .i64 d2.2.1) ∧ w'.cell? ⟨w4.heap.size, 2, none⟩ = some (.int .i64 d2.2.2.1) ∧ Below wD.heap.size wD w')
                        (first | (refine ⟨?_, ?_, ?_, ?_, ?_⟩ <;> first | assumption | (apply belowD; assumption) | (go_keep; done)) | (go_keep; done))
                        (first
                          | (go_at_call 40; refine (hbeS _ ?_).mono ?_; (first | assumption | (apply belowD; assumption)); rintro e w7 ⟨rfl, _, _, _, _, hb7⟩)
                          | (go_at_call 39; refine (hhasS _ ?_).mono ?_; (first | assumption | (apply belowD; assumption)); rintro e w8 ⟨rfl, _, _, _, _, hb8⟩))
                      go_wp2
                      go_roundg (6 - (f + 1))
                      case measure => omega
                      case rel => exact ⟨f + 1, by omega, rfl, by rw [touchF_succ, ← Bool.or_assoc, hHt1.out, hHx.out, hHxx.out]; rfl, by go_num, bThen hbf hb8⟩
                    · go_quiet (fail)
                      go_wp2
                      go_roundg (6 - (f + 1))
                      case measure => omega
                      case rel => exact ⟨f + 1, by omega, rfl, by rw [touchF_succ, ← Bool.or_assoc, hHt1.out]; rfl, by go_num, bThen hbf (belowDN _ _)⟩
                  · obtain rfl : f = 6 := by omega
                    go_wp2
                    go_roundg (a.cells.length - (j + 1))
                    case measure => omega
                    case rel =>
                      refine ⟨j + 1, by omega, rfl, ?_, ?_, by go_num, (hl6.call hbf).less.less⟩
                      · rw [any_take_succ _ _ _ _ hHd.out, hHt0.out, hHd2.out, hHt1.out]
                      · rw [any_take_succ _ _ _ _ hHd.out, hHc0.out, hHd2.out]
            · obtain rfl : j = a.cells.length := by omega
              have hT0 : V.touch a.cells (byN n) = t0 := by rw [← hHt0.out, List.take_length]; rfl
              have hC0 : V.clash a.cells (byN n) = c0 := by rw [← hHc0.out, List.take_length]; rfl
              have hkp : V.keep a.cells (byN n) = (t0 && !c0) := by unfold JoinV.keep; rw [hT0, hC0]
              have hHk := Lib.hid hkp
              clear hkp hT0 hC0 hHt0 hHc0
              have skip : ∀ hk : (t0 && !c0) = false, hs2.map HE.heap = V.cands F (L.take i) ++ V.candS F a.cells (n + 1) := fun hk => by
                rw [hHq2.out, candS_succ, JoinV.cand, if_neg (by rw [hHk.out, hk]; decide)]; simp
              cases t0
              · go_wp2
                go_roundg (729 - (n + 1))
                case measure => omega
                case rel => exact ⟨n + 1, hs2, by omega, rfl, by go_num, hl4.less, skip rfl, by omega⟩
              · cases c0
                · have hkk : V.keep a.cells (byN n) = true := hHk.out.trans rfl
                  have hhof := J.hof _ hmem n hn729 hkk
                  obtain ⟨T, gf, cf, bf, cm, hform, hformv⟩ := J.frm _ hmem n hn729 hkk
                  change P_impl_heapOf (V.cells F a.cells (byN n), ()) = some (V.hof (V.cells F a.cells (byN n)), ()) at hhof
                  change FormOK (V.hof (V.cells F a.cells (byN n))) T gf cf bf cm at hform
                  change formOf T.length cf cm = V.frm (V.hof (V.cells F a.cells (byN n))) at hformv
                  have hq5 : hs2.map HE.heap ++ [V.frm (V.hof (V.cells F a.cells (byN n)))] = V.cands F (L.take i) ++ V.candS F a.cells (n + 1) := by
                    rw [hHq2.out, candS_succ, JoinV.cand, if_pos hkk]; simp
                  obtain ⟨G, hG⟩ : ∃ G, V.hof (V.cells F a.cells (byN n)) = G := ⟨_, rfl⟩
                  obtain ⟨R, hR⟩ : ∃ R, V.frm G = R := ⟨_, rfl⟩
                  rw [hG] at hhof hform hformv hq5
                  rw [hR] at hformv hq5
                  have hHq5 := Lib.hid hq5
                  clear hq5 hG hR skip hkk
                  obtain ⟨i0, hi0, hz0, hz1, hz2⟩ := info_parts info35
                  obtain ⟨i3, hi3, hz30, hz31, hz32⟩ := info_parts info42
                  have hcl := c_clone (hl4.read) (hl4.zone) (by omega)
                  have hinn := hl4.loop.list.inner i a hHa.out
                  rw [hHav.out] at hinn
                  obtain ⟨_, _, _, _⟩ := box4 (hl4.loop.boxes _ _ (List.mem_cons_of_mem _ (List.mem_cons_of_mem _ (List.mem_cons_self ..)))).2.1
                  have hBa := (hl4.loop.boxes _ _ (List.mem_cons_of_mem _ (List.mem_cons_self ..))).2.1
                  have hBy := (hl4.loop.boxes _ _ (List.mem_cons_self ..)).2.1
                  go_wp2_with (go_at_call 41; refine hcl.mono ?_; rintro e w6' ⟨xv, yv, rfl, hb6', ho6⟩; obtain ⟨_, _, _, _⟩ := box4 (belowBlock hBa hb6'))
                  go_loopg [19, 109] a.cells.length (fun m v19 v109 wr5 => ∃ (j : Nat), j ≤ a.cells.length ∧ m = a.cells.length - j ∧ v109 = .int .i64 j ∧ Below wC.heap.size wC wr5 ∧ wr5.ownsRow wC.heap.size 55 3 v19 (F.length + j) (enc3 (F ++ (a.cells.take j).map fun c => V.add c (byN n))))
                  case atStart => exact ⟨0, Nat.zero_le _, rfl, rfl, hb6', by simpa using ho6⟩
                  case round =>
                    obtain ⟨j, hj, rfl, rfl, hbj, hoj⟩ := hrel
                    clear hb6' ho6 hcl
                    obtain ⟨wE, hwE⟩ : ∃ x, x = wr := ⟨wr, rfl⟩
                    subst hwE
                    by_cases hjn : j < a.cells.length
                    · obtain ⟨d, hd⟩ : ∃ d, a.cells[j]? = some d := ⟨a.cells[j], List.getElem?_eq_getElem hjn⟩
                      obtain ⟨gr, hra, y0, y1, y2⟩ := row_cells (ownBH hinn hbj) hd
                      subst hra
                      have hHd := Lib.hid hd
                      clear hd
                      have hltJ : (j : Int) < (a.cells.length : Int) := by omega
                      obtain ⟨_, _, _⟩ := box3 (blockA (belowBlock hBy hbj) (.cells #[.int .i64 d.1, .int .i64 d.2.1, .int .i64 d.2.2.1] 55))
                      have hadd := c_added (W := wE.alloc (.cells #[.int .i64 d.1, .int .i64 d.2.1, .int .i64 d.2.2.1] 55)) (J.add d (byN n))
                      obtain ⟨d2, hd2⟩ : ∃ d2, V.add d (byN n) = d2 := ⟨_, rfl⟩
                      rw [hd2] at hadd
                      unfold a3V byN at hadd
                      have hHd2 := Lib.hid hd2
                      clear hd2
                      have hlenE : (enc3 (F ++ (a.cells.take j).map fun c => V.add c (byN n))).length = (F.length + j) * 3 := hoj.1
                      have hHlE := Lib.hid hlenE
                      clear hlenE
                      go_wp2_with (first
                        | (go_at_call 38; refine hadd.mono ?_; rintro e w4 ⟨rfl, hb4⟩; have hB4 := bThen (belowA hbj _) hb4; have ho4 : w4.ownsRow wC.heap.size 55 3 u19 (F.length + j) (enc3 (F ++ (a.cells.take j).map fun c => V.add c (byN n))) := ownsRow_atH hoj fun q hq => (hb4.block q (by have := (hoj.lt q hq).2; rw [alloc_size]; omega)).trans (Below.heap_alloc _ _ _ (hoj.lt q hq).2))
                        | (at_builtin; refine wpList_append_own2 _ rfl _ _ 22 22 rfl wC.heap.size 55 i3 (.agg #[.int .i64 0, .int .i64 0, .int .i64 0]) 3 24 Tryz.underlying22 hi3 hz30 hz31 hz32 rfl _ (F.length + j) (enc3 (F ++ (a.cells.take j).map fun c => V.add c (byN n))) rfl (ho4.alloc _) (.slice (some ⟨_, 0, none⟩) 1 1) 1 [.int .i64 d2.1, .int .i64 d2.2.1, .int .i64 d2.2.2.1] rfl (src3 (alloc_at _ _)) ?_ ?_ ?_ ?_; rotate_left; rotate_left; rotate_left; intro v' w8 hv' hgr' hp'))
                      · have hB8 := after_app (w5 := wC) (belowA hB4 (.cells #[.int .i64 d2.1, .int .i64 d2.2.1, .int .i64 d2.2.2.1] 55)) (ho4.alloc _) hgr'
                        go_roundg (a.cells.length - (j + 1))
                        case measure => omega
                        case rel =>
                          refine ⟨j + 1, by omega, rfl, by go_num, hB8, ?_⟩
                          rw [List.take_add_one, hHd.out, List.map_append, ← List.append_assoc, enc3_append]
                          simp only [Option.toList_some, List.map_cons, List.map_nil, hHd2.out]
                          exact hv'
                      · unfold maxLen; omega
                      · omega
                      · have := hB4.size; rw [alloc_size]; omega
                    · obtain rfl : j = a.cells.length := by omega
                      rw [List.take_length] at hoj
                      have ho9 : wE.ownsRow wC.heap.size 55 3 u19 (V.cells F a.cells (byN n)).length (enc3 (V.cells F a.cells (byN n))) := by
                        have e : (V.cells F a.cells (byN n)).length = F.length + a.cells.length := by simp [JoinV.cells]
                        rw [e]; exact hoj
                      have how := own3 (Z := fun _ => False) ho9
                      have hch := c_hof (Z := fun q => u19.ownBlock = some q) (fun q hq => (how.lt q hq).2) (how.reads _ (fun _ hz => hz.elim) fun q hq => hq) hhof
                      have hfm : ∀ (U : World) (u : Value), OwnV (fun _ => False) U wE.heap.size 55 A3ty u G.2.2.2.1 → Calls Tryz.prog 43 #[hpV G u] U fun e w' => ∃ x y, e = .returned (.agg #[.int .i64 R.1, .int .i64 R.2.1, .int .i64 R.2.2.1, .slice x R.2.2.2.1.length y]) ∧ Below U.heap.size U w' ∧ OwnV (fun _ => False) w' U.heap.size 55 A3ty (.slice x R.2.2.2.1.length y) R.2.2.2.1 := fun U u hu => by
                        refine (form_calls (ArgH.own hu) hform).mono ?_
                        rintro e w' ⟨u, rfl, hb, hu⟩
                        rw [hformv] at hu
                        obtain ⟨x, y, rfl⟩ := hu.slice1
                        exact ⟨x, y, by rw [hformv]; rfl, hb, hu⟩
                      unfold hpV at hch hfm
                      clear hform hformv hhof ho9 how hoj
                      go_wp2_with (first
                        | (go_at_call 42; refine hch.mono ?_; rintro e w7 ⟨u7, rfl, hb7, hu7⟩; have hfm7 := hfm w7 u7 hu7)
                        | (go_at_call 43; refine hfm7.mono ?_; rintro e w9 ⟨fx, fy, rfl, hb9, hu9⟩; have hB9 := bThen (bThen hbj hb7) hb9; have ho9 := fun o => ((hl4.call hB9).loop.deep.outer.alloc o))
                        | (at_builtin; refine wpList_append_own2 _ rfl _ _ 26 26 rfl W.heap.size 29 i0 (.agg #[.int .i64 0, .int .i64 0, .int .i64 0, .slice none 0 0]) 4 48 Tryz.underlying26 hi0 hz0 hz1 hz2 rfl _ hs2.length (encs hs2) rfl (ho9 _) (.slice (some ⟨_, 0, none⟩) 1 1) 1 [.int .i64 R.1, .int .i64 R.2.1, .int .i64 R.2.2.1, .slice fx R.2.2.2.1.length fy] rfl (heap_src _ _ rfl _ _ _ _ rfl rfl rfl rfl) ?_ ?_ ?_ ?_; rotate_left; rotate_left; rotate_left; intro v' w10 hv' hgr' hp'))
                      · have hu10 : OwnV (fun _ => False) w9 wC.heap.size 55 A3ty (.slice fx R.2.2.2.1.length fy) R.2.2.2.1 := OwnV.rebaseH hu9 fun q hq => by have := (hu9.lt q hq).1; have := hbj.size; have := hb7.size; omega
                        have hpu := hl4.push (a := ⟨R.1, R.2.1, R.2.2.1, R.2.2.2.1, .slice fx R.2.2.2.1.length fy⟩) hB9 hu10 hv' hgr' hp'
                        go_roundg (729 - (n + 1))
                        case measure => omega
                        case rel => exact ⟨n + 1, _, by omega, rfl, by go_num, hpu.less, by rw [List.map_append]; exact hHq5.out, by rw [List.length_append]; exact Nat.succ_le_succ hlen2⟩
                      · unfold maxLen; omega
                      · omega
                      · have := hB9.size; have := hl4.loop.below.size; rw [alloc_size]; omega
                · go_wp2
                  go_roundg (729 - (n + 1))
                  case measure => omega
                  case rel => exact ⟨n + 1, hs2, by omega, rfl, by go_num, hl4.less, skip rfl, by omega⟩
        · obtain rfl : n = 729 := by omega
          go_wp2
          go_roundg (gs.length - (i + 1))
          case measure => omega
          case rel => exact ⟨i + 1, hs2, by omega, rfl, by go_num, hl2.less, hHq2.out.trans (jcands_succ V F L i _ hLi.out).symm, by omega⟩
    · obtain rfl : i = gs.length := by omega
      have hltI : ¬ ((gs.length : Int) < (gs.length : Int)) := by omega
      have hq' : hs.map HE.heap = V.cands F L := by rw [hHq.out, hHG.out, List.take_length]
      obtain ⟨a0, h0⟩ : ∃ a0, a0 ∈ hs := by
        cases hs with
        | nil => exact absurd hq'.symm hne
        | cons x r => exact ⟨x, List.mem_cons_self ..⟩
      have hn' : hs.length ≤ 100000 := by
        have hgL : gs.length = L.length := hHG.out
        omega
      have hso := sorted_calls hl.loop.deep h0 hn' (Pc := Pc) (fun x hx => hP _ (hq' ▸ List.mem_map_of_mem hx)) O
      have hHq' := Lib.hid hq'
      clear hq' hn'
      go_wp2_with (go_at_call 44; refine hso.mono ?_; rintro e w3' ⟨v3, hs2, rfl, hf3, hsd, hd3⟩)
      go_ret2
      have hb := hl.loop.below
      have hdo := hl.loop.deep.outer
      exact ⟨_, hs, hs2, rfl, ⟨hf3.os.trans hb.os, hf3.tape.trans hb.tape, hf3.output.trans hb.output, Nat.le_trans hb.size hf3.size, fun k hk => (hf3.block k (Nat.lt_of_lt_of_le hk hb.size) fun e => by have := (hdo.lt k e).1; omega).trans (hb.block k hk), Nat.le_trans hb.drawn hf3.drawn⟩, hd3, hHq'.out, hsd⟩
end Go.VI
