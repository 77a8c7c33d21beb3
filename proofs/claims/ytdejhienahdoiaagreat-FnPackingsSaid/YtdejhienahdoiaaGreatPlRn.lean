/- Plain: the law of packings. -/
import Derived.Test.YtdejhienahdoiaaGreatPlRi
namespace Go.VI
open Go.Proofs
theorem at00 (n : Nat) (h : n ≤ 1000000) : At n ((0, 0, ()) : Sd) := ⟨by simp only; omega, by simp only; omega⟩
theorem wrap8 (x : Int) : 0 ≤ IntKind.wrap .u8 x ∧ IntKind.wrap .u8 x ≤ 255 := by
  have : IntKind.wrap .u8 x = x % 256 := by simp [IntKind.wrap, IntKind.bits, IntKind.signed]
  rw [this]
  omega
theorem f_vCut {C : List Int} (hC : Bts C) (hn : C.length ≤ 65536) (k : Int) (k0 : 0 ≤ k) : ∃ C' : List Int, P_laws_vCut (C, k, ()) = some (C', ()) ∧ Bts C' := by
  have key : ∀ lo : Int, 0 ≤ lo → lo ≤ (C.length : Int) → ∀ v : Int, Bts ((([] : List Int) ++ (cut C lo (C.length : Int))) ++ ([(IntKind.wrap .u8 v)] : List Int)) ∧ (cut C lo (C.length : Int)).length ≤ 65536 := by
    intro lo l0 l1 v
    have hlen : (cut C lo (C.length : Int)).length ≤ 65536 := by
      unfold cut
      rw [List.length_drop, List.length_take]
      omega
    refine ⟨⟨by simp only [List.nil_append, List.length_append, List.length_singleton]; omega, fun b hb => ?_⟩, hlen⟩
    rcases List.mem_append.1 hb with hb | hb
    · have hb' : b ∈ cut C lo (C.length : Int) := by simpa using hb
      unfold cut at hb'
      exact hC.2 b (List.mem_of_mem_take (List.mem_of_mem_drop hb'))
    · rw [List.mem_singleton.1 hb]
      exact wrap8 v
  rw [p_laws_vCut]
  by_cases c : k > (C.length : Int)
  · obtain ⟨h1, h2⟩ := key (C.length : Int) (by omega) (by omega) (C.length : Int)
    rw [decide_eq_true c, decide_eq_true (p := (0 : Int) ≤ (C.length : Int)) (by omega), decide_eq_true (p := (C.length : Int) ≤ (C.length : Int)) (by omega)]
    rw [decide_eq_true (p := (([] : List Int).length + (cut C (C.length : Int) (C.length : Int)).length) * 1 ≤ 140737488355328) (by simp only [List.length_nil]; omega), decide_eq_true (p := ([] : List Int).length + (cut C (C.length : Int) (C.length : Int)).length ≤ 140737488355328) (by simp only [List.length_nil]; omega)]
    rw [decide_eq_true (p := ((([] : List Int) ++ cut C (C.length : Int) (C.length : Int)).length + ([(IntKind.wrap .u8 (C.length : Int))] : List Int).length) * 1 ≤ 140737488355328) (by simp only [List.nil_append, List.length_singleton]; omega), decide_eq_true (p := (([] : List Int) ++ cut C (C.length : Int) (C.length : Int)).length + ([(IntKind.wrap .u8 (C.length : Int))] : List Int).length ≤ 140737488355328) (by simp only [List.nil_append, List.length_singleton]; omega)]
    exact ⟨_, rfl, h1⟩
  · obtain ⟨h1, h2⟩ := key k k0 (by omega) k
    rw [decide_eq_false c, decide_eq_true (p := (0 : Int) ≤ k) k0, decide_eq_true (p := k ≤ (C.length : Int)) (by omega), decide_eq_true (p := (C.length : Int) ≤ (C.length : Int)) (by omega)]
    rw [decide_eq_true (p := (([] : List Int).length + (cut C k (C.length : Int)).length) * 1 ≤ 140737488355328) (by simp only [List.length_nil]; omega), decide_eq_true (p := ([] : List Int).length + (cut C k (C.length : Int)).length ≤ 140737488355328) (by simp only [List.length_nil]; omega)]
    rw [decide_eq_true (p := ((([] : List Int) ++ cut C k (C.length : Int)).length + ([(IntKind.wrap .u8 k)] : List Int).length) * 1 ≤ 140737488355328) (by simp only [List.nil_append, List.length_singleton]; omega), decide_eq_true (p := (([] : List Int) ++ cut C k (C.length : Int)).length + ([(IntKind.wrap .u8 k)] : List Int).length ≤ 140737488355328) (by simp only [List.nil_append, List.length_singleton]; omega)]
    exact ⟨_, rfl, h1⟩
theorem l_vInts (l : List Int) (hl : Small l) : ∀ (d k m : Nat), l.length = k + d → d < m → l_laws_vInts_4 m l l (k : Int) = some (true, ())
  | d, k, 0, hk, hm => by omega
  | d, k, m + 1, hk, hm => by
    have hl' := hl
    unfold Small at hl'
    rw [q_laws_vInts_4]
    by_cases hlt : k < l.length
    · rw [ltT hlt, inB_at hlt, succI k (by omega), l_vInts l hl (d - 1) (k + 1) m (by omega) (by omega)]
      simp
    · rw [ltF hlt]; rfl
theorem f_vInts (l : List Int) (hl : Small l) : P_laws_vInts (l, l, ()) = some (true, ()) := by
  have := l_vInts l hl l.length 0 N (by simp) (by unfold Small at hl; have := N_ge; omega)
  rw [p_laws_vInts, decide_eq_true rfl]
  exact this
theorem l_vPairs (l : List D_A2) (hl : Small l) : ∀ (d k m : Nat), l.length = k + d → d < m → l_laws_vPairs_4 m l l (k : Int) = some (true, ())
  | d, k, 0, hk, hm => by omega
  | d, k, m + 1, hk, hm => by
    have hl' := hl
    unfold Small at hl'
    rw [q_laws_vPairs_4]
    by_cases hlt : k < l.length
    · rw [ltT hlt, inB_at hlt, succI k (by omega), l_vPairs l hl (d - 1) (k + 1) m (by omega) (by omega)]
      simp
    · rw [ltF hlt]; rfl
theorem f_vPairs (l : List D_A2) (hl : Small l) : P_laws_vPairs (l, l, ()) = some (true, ()) := by
  have := l_vPairs l hl l.length 0 N (by simp) (by unfold Small at hl; have := N_ge; omega)
  rw [p_laws_vPairs, decide_eq_true rfl]
  exact this
theorem l_vLess (l : List Int) (hl : Small l) : ∀ (d k m : Nat), l.length = k + d → d < m → l_laws_vLess_2 m l l (k : Int) = some (false, ())
  | d, k, 0, hk, hm => by omega
  | d, k, m + 1, hk, hm => by
    have hl' := hl
    unfold Small at hl'
    rw [q_laws_vLess_2]
    by_cases hlt : k < l.length
    · rw [ltT hlt, inB_at hlt, succI k (by omega), l_vLess l hl (d - 1) (k + 1) m (by omega) (by omega)]
      simp
    · rw [ltF hlt]; rfl
theorem f_vLess (l : List Int) (hl : Small l) : P_laws_vLess (l, l, ()) = some (false, ()) := by
  have := l_vLess l hl l.length 0 N (by simp) (by unfold Small at hl; have := N_ge; omega)
  rw [p_laws_vLess]
  exact this
theorem set_same {X Y Z : Int} (hs : sides X Y Z = true) {L : List D_A3} {ps : List (List D_A3)} {x : List Int} {i : Nat} {v : Int} (p : PackV X Y Z L ps x) (p' : PackV X Y Z L ps (x.set i v)) : x.set i v = x := by
  by_cases hi : i < x.length
  · have hcw := cellOf_ok hs (i := i) (by rw [← p.len]; exact hi)
    generalize hc : cellOf Y Z i = c at hcw
    obtain ⟨hw, hix⟩ := hcw
    have at' : ∀ d, within3 X Y Z d = true → atL Y Z (x.set i v) d = if d = c then v else atL Y Z x d := fun d hd => by
      unfold atL
      rw [getD_set hi]
      by_cases e : d = c
      · rw [if_pos e, if_pos (by rw [e, hix])]
      · rw [if_neg e, if_neg]
        intro h
        exact e (idx_inj hs hd hw (by rw [h, hix]))
    have e1 := at' c hw
    rw [if_pos rfl] at e1
    have hv : v = atL Y Z x c := by
      apply Classical.byContradiction
      intro hne
      obtain ⟨a1, a2, a3⟩ := p.val c hw
      obtain ⟨b1, b2, b3⟩ := p'.val c hw
      rw [e1] at b1 b2 b3
      by_cases hneg : atL Y Z x c < 0
      · have := b3.2 (a3.1 hneg)
        omega
      · obtain ⟨k, hk⟩ : ∃ k : Nat, atL Y Z x c = (k : Int) := ⟨(atL Y Z x c).toNat, by omega⟩
        have hkp : k < ps.length := by omega
        obtain ⟨a, ha⟩ := p.pcs k hkp
        obtain ⟨b, hb⟩ := p'.pcs k hkp
        have hl : (cellsOf X Y Z (x.set i v) (k : Int)).length = (cellsOf X Y Z x (k : Int)).length := by rw [ha, hb, mvP_len, mvP_len]
        have hlt : (cellsOf X Y Z (x.set i v) (k : Int)).length < (cellsOf X Y Z x (k : Int)).length := by
          unfold cellsOf
          refine filter_lt _ _ _ (fun d hd hd' => ?_) ⟨c, (mem_allCells hs c).2 hw, decide_eq_true hk, ?_⟩
          · have hdw := (mem_allCells hs d).1 hd
            have := of_decide_eq_true hd'
            rw [at' d hdw] at this
            split at this
            · omega
            · exact decide_eq_true this
          · apply decide_eq_false
            rw [e1]
            omega
        omega
    apply ext_getD (by simp)
    intro j hj
    rw [getD_set hi]
    split
    · rename_i e
      rw [e, hv]
      unfold atL
      rw [hix]
    · rfl
  · exact List.set_eq_of_length_le (by omega)
def baseV (h : D_Heap) (ps : List (List D_A3)) : List Int := if askB h ps = true ∧ allSols h ps ≠ [] then firstV h ps else [0, 0]
theorem first_mem {h : D_Heap} {ps : List (List D_A3)} (hn : allSols h ps ≠ []) : firstV h ps ∈ allSols h ps := by
  unfold firstV
  cases e : allSols h ps with
  | nil => exact absurd e hn
  | cons x r => exact List.mem_cons_self
theorem first_len {h : D_Heap} {ps : List (List D_A3)} (ha : askB h ps = true) : (firstV h ps).length ≤ 64 := by
  obtain ⟨ho, hps, h8⟩ := askB_iff ha
  obtain ⟨hs, hi, hr⟩ := okHeap_iff.1 ho
  have h64 := size64 hs
  by_cases hn : allSols h ps = []
  · unfold firstV; rw [hn]; simp
  · have := ((sols_count ha).1 (first_mem hn)).len
    omega
theorem draw_tail {C : List Int} (hC : Bts C) {s : Sd} (hA : At 1000 s) (u : D_Heap) (ps : List (List D_A3)) (b : List Int) (hb : b.length ≤ 64) :
    ∃ l : List Int, (bif decide ((List.length b : Int) > 0) then
      Option.bind (P_l1Cur_one ((C, s), 6, ())) fun r4 =>
      bif r4.1.1 then
        Option.bind (P_spec_l1Own (b, ())) fun r6 =>
        Option.bind (P_l1Cur_pick ((C, r4.2.1.2), (List.length r6.1 : Int), ())) fun r7 =>
        Option.bind (P_l1Cur_among ((C, r7.2.1.2), ([(-1), 0, 1, 8, (-2)] : List Int), ())) fun r8 =>
        bif inB r7.1.1 (List.length r6.1) then
          some (u, ps, (List.set r6.1 (Int.toNat r7.1.1) r8.1.1), ())
        else none
      else
        some (u, ps, b, ())
    else
      some (u, ps, b, ())) = some (u, ps, l, ()) ∧ l.length ≤ 64 ∧ (l = b ∨ ∃ i v, l = b.set i v) := by
  by_cases h0 : (b.length : Int) > 0
  · obtain ⟨q, s1, e1, a1⟩ := f_one hC (n := 900) (s := s) (hA.le (by omega)) 6
    rw [decide_eq_true h0, e1]
    simp only [cond_true, Option.bind_some]
    cases q with
    | false => exact ⟨b, rfl, hb, .inl rfl⟩
    | true =>
      obtain ⟨i, s2, e2, a2, i0, i1⟩ := f_pick hC (n := 800) (s := s1) (a1.le (by omega)) (b.length : Int)
      obtain ⟨v, s3, e3, a3, _⟩ := f_among hC (n := 700) (s := s2) (a2.le (by omega)) [(-1), 0, 1, 8, (-2)] (by simp)
      have hlt : i < (b.length : Int) := by
        rcases i1 with h | ⟨h, h'⟩
        · exact h
        · omega
      have hin : inB i b.length = true := by unfold inB; rw [Bool.and_eq_true, decide_eq_true_eq, decide_eq_true_eq]; exact ⟨i0, hlt⟩
      simp only [cond_true]
      rw [l_own b (by unfold Small; omega)]
      simp only [Option.bind_some]
      rw [e2]
      simp only [Option.bind_some]
      rw [e3]
      simp only [Option.bind_some]
      rw [hin]
      exact ⟨_, rfl, by rw [List.length_set]; exact hb, .inr ⟨_, _, rfl⟩⟩
  · rw [decide_eq_false h0]
    exact ⟨b, rfl, hb, .inl rfl⟩
theorem d_IsPacking {C : List Int} (hC : Bts C) : ∃ (u : D_Heap) (ps : List (List D_A3)) (l : List Int), P_spec_DrawIsPacking (C, ()) = some (u, ps, l, ()) ∧ Small u.2.2.2.1 ∧ Small ps ∧ Small l ∧ (l = baseV u ps ∨ ∃ i v, l = (baseV u ps).set i v) := by
  obtain ⟨u, ps, s1, e1, a1, hu, hp⟩ := f_pack9 hC (n := 1000) (at00 6000 (by omega))
  have e1' : P_l1Cur_pack9 ((C, (0, (0, ()))), ()) = _ := e1
  rw [p_spec_DrawIsPacking, e1']
  simp only [Option.bind_some]
  rw [f_specFirst hu hp]
  simp only [Option.bind_some]
  by_cases ha : askB u ps = true
  · rw [if_pos ha]
    by_cases hn : allSols u ps = []
    · have hb : baseV u ps = [0, 0] := by unfold baseV; rw [if_neg]; exact fun h => h.2 hn
      obtain ⟨l, e, h1, h2⟩ := draw_tail hC a1 u ps [0, 0] (by simp)
      rw [decide_eq_false (p := allSols u ps ≠ []) (fun h => h hn)]
      exact ⟨u, ps, l, e, hu, hp, by unfold Small; omega, by rw [hb]; exact h2⟩
    · have hb : baseV u ps = firstV u ps := by unfold baseV; rw [if_pos ⟨ha, hn⟩]
      obtain ⟨l, e, h1, h2⟩ := draw_tail hC a1 u ps (firstV u ps) (first_len ha)
      rw [decide_eq_true (p := allSols u ps ≠ []) hn]
      exact ⟨u, ps, l, e, hu, hp, by unfold Small; omega, by rw [hb]; exact h2⟩
  · have hb : baseV u ps = [0, 0] := by unfold baseV; rw [if_neg]; exact fun h => ha h.1
    obtain ⟨l, e, h1, h2⟩ := draw_tail hC a1 u ps [0, 0] (by simp)
    rw [if_neg ha]
    exact ⟨u, ps, l, e, hu, hp, by unfold Small; omega, by rw [hb]; exact h2⟩
theorem drawn_first {u : D_Heap} {ps : List (List D_A3)} (ha : askB u ps = true) {l : List Int} (hl : l = baseV u ps ∨ ∃ i v, l = (baseV u ps).set i v) (p : PackV u.1 u.2.1 u.2.2.1 u.2.2.2.1 ps l) : allSols u ps ≠ [] ∧ l = firstV u ps := by
  obtain ⟨ho, hps, h8⟩ := askB_iff ha
  obtain ⟨hs, hi, hr⟩ := okHeap_iff.1 ho
  have hne : allSols u ps ≠ [] := List.ne_nil_of_mem ((sols_count ha).2 p)
  have hb : baseV u ps = firstV u ps := by unfold baseV; rw [if_pos ⟨ha, hne⟩]
  have pf := (sols_count ha).1 (first_mem hne)
  rw [hb] at hl
  refine ⟨hne, ?_⟩
  rcases hl with h | ⟨i, v, h⟩
  · exact h
  · rw [h] at p ⊢
    exact set_same hs pf p
noncomputable def restF (h : D_Heap) (ps : List (List D_A3)) (first : List Int) (fine : Bool) : Option (Bool × Unit) :=
  bif !fine then some (true, ()) else
  Option.bind (P_impl_IsPacking ((h.1, (h.2.1, (h.2.2.1, (h.2.2.2.1, ())))), ps, first, ())) fun r =>
  bif !r.2.1 then some (false, ()) else bif !r.1 then some (false, ()) else
  bif !decide ((List.length first : Int) = (IntKind.wrap .i64 ((IntKind.wrap .i64 (h.1 * h.2.1)) * h.2.2.1))) then some (false, ()) else
  l_laws_FnPackings_34 N h.1 h.2.1 h.2.2.1 h.2.2.2.1 ps 0
noncomputable def tailF (h : D_Heap) (ps : List (List D_A3)) (many : Int) (ok : Bool) (first : List Int) (fine bars : Bool) : Option (Bool × Unit) :=
  bif ok then (bif bars then (bif decide (many > 0) then some (false, ()) else restF h ps first fine) else restF h ps first fine) else restF h ps first fine
theorem l_places {h : D_Heap} {ps : List (List D_A3)} (hl : Small h.2.2.2.1) (ha : askB h ps = true) {x : List Int} (p : PackV h.1 h.2.1 h.2.2.1 h.2.2.2.1 ps x) : ∀ (d k m : Nat), ps.length = k + d → d < m → l_laws_FnPackings_34 m h.1 h.2.1 h.2.2.1 h.2.2.2.1 ps (k : Int) = some (true, ())
  | d, k, 0, hk, hm => by omega
  | d, k, m + 1, hk, hm => by
    have h8 := (askB_iff ha).2.2
    rw [q_laws_FnPackings_34]
    by_cases hlt : k < ps.length
    · obtain ⟨l, e, h1, h2⟩ := places_some hl ha p hlt
      have e' : P_impl_PlacesFor ((h.1, (h.2.1, (h.2.2.1, (h.2.2.2.1, ())))), ps[k], ()) = some (l, true, ()) := e
      have hl0 : 0 < l.length := List.length_pos_iff.2 h1
      rw [ltT hlt, inB_at hlt, nthA (t := .sl T_A3) hlt, e', succI k (by omega), l_places hl ha p (d - 1) (k + 1) m (by omega) (by omega)]
      simp only [cond_true, Option.bind_some]
      rw [decide_eq_false (p := (l.length : Int) = 0) (by omega)]
      rfl
    · rw [ltF hlt]; rfl
theorem rest_ok {h : D_Heap} {ps : List (List D_A3)} (hl : Small h.2.2.2.1) (hp : Small ps) {first : List Int} {fine : Bool} (hf : fine = true → askB h ps = true ∧ PackV h.1 h.2.1 h.2.2.1 h.2.2.2.1 ps first) : restF h ps first fine = some (true, ()) := by
  unfold restF
  cases fine with
  | false => rfl
  | true =>
    obtain ⟨ha, p⟩ := hf rfl
    obtain ⟨ho, hps, h8⟩ := askB_iff ha
    obtain ⟨hs, hi, hr⟩ := okHeap_iff.1 ho
    obtain ⟨s1, s2, s3⟩ := sides_iff.1 hs
    have h64 := size64 hs
    obtain ⟨⟨a, b, ⟨⟩⟩, e1, _, e2, e3⟩ := f_IsPacking hl hp (x := first) (by unfold Small; rw [p.len]; omega)
    have e1' : P_impl_IsPacking ((h.1, (h.2.1, (h.2.2.1, (h.2.2.2.1, ())))), ps, first, ()) = _ := e1
    have e2' : b = true := by rw [show b = askB h ps from e2]; exact ha
    have e3' : a = true := by rw [show a = _ from e3, ha, Bool.true_and]; exact dB_iff.2 p
    subst e2' e3'
    have hlen : (first.length : Int) = IntKind.wrap .i64 ((IntKind.wrap .i64 (h.1 * h.2.1)) * h.2.2.1) := by
      rw [w64 (x := h.1 * h.2.1) (by omega) (by omega), w64 (by omega) (by omega), p.len]
      omega
    have h34 := l_places hl ha p ps.length 0 N (by omega) (by have := N_ge; omega)
    rw [Int.natCast_zero] at h34
    rw [e1', decide_eq_true hlen]
    exact h34
theorem tail_ok {h : D_Heap} {ps : List (List D_A3)} {many : Int} {ok : Bool} {first : List Int} {fine bars : Bool} (hr : restF h ps first fine = some (true, ())) (hb : ok = true → bars = true → ¬ many > 0) : tailF h ps many ok first fine bars = some (true, ()) := by
  unfold tailF
  cases ok with
  | false => exact hr
  | true =>
    cases bars with
    | false => exact hr
    | true =>
      rw [decide_eq_false (hb rfl rfl)]
      exact hr
theorem l_planes {h : D_Heap} {ps : List (List D_A3)} {many : Int} {ok : Bool} {first : List Int} {fine bars : Bool} (ht : tailF h ps many ok first fine bars = some (true, ())) {pl : List D_A2} (hpl : Small pl) (hb : ∀ p ∈ pl, (0 ≤ p.1 ∧ p.1 ≤ 2) ∧ 1 ≤ p.2.1 ∧ p.2.1 ≤ 3) : ∀ (d k m : Nat), pl.length = k + d → d < m →
    l_laws_FnPackings_22 m h.1 h.2.1 h.2.2.1 h.2.2.2.1 ps many ok first fine bars pl (k : Int) = some (true, ())
  | d, k, 0, hk, hm => by omega
  | d, k, m + 1, hk, hm => by
    have hl' := hpl
    unfold Small at hl'
    rw [q_laws_FnPackings_22]
    by_cases hlt : k < pl.length
    · have := hb _ (List.getElem_mem hlt)
      rw [ltT hlt, inB_at hlt, nthA (t := T_A2) hlt, decide_eq_false (p := (pl[k]).1 < 0) (by omega), decide_eq_false (p := (pl[k]).1 > 2) (by omega), decide_eq_false (p := (pl[k]).2.1 < 1) (by omega), decide_eq_false (p := (pl[k]).2.1 > 3) (by omega), succI k (by omega), l_planes ht hpl hb (d - 1) (k + 1) m (by omega) (by omega)]
      rfl
    · rw [ltF hlt]
      exact ht
noncomputable def midF (h : D_Heap) (ps : List (List D_A3)) (many : Int) (ok : Bool) (first : List Int) (fine bars : Bool) (u : D_Heap) (some' : List (List D_A3)) (l : List Int) (two : Bool) (pl : List D_A2) : Option (Bool × Unit) :=
  bif two then
    Option.bind (P_impl_FirstPacking (u, some', ())) fun r33 =>
    bif !r33.2.1 then some (false, ()) else
    Option.bind (P_laws_vLess (l, r33.1, ())) fun r35 =>
    bif r35.1 then some (false, ()) else l_laws_FnPackings_22 N h.1 h.2.1 h.2.2.1 h.2.2.2.1 ps many ok first fine bars pl 0
  else tailF h ps many ok first fine bars
theorem mid_ok {h : D_Heap} {ps : List (List D_A3)} {many : Int} {ok : Bool} {first : List Int} {fine bars : Bool} (ht : tailF h ps many ok first fine bars = some (true, ())) {pl : List D_A2} (hpl : Small pl) (hb : ∀ p ∈ pl, (0 ≤ p.1 ∧ p.1 ≤ 2) ∧ 1 ≤ p.2.1 ∧ p.2.1 ≤ 3)
    {u : D_Heap} {sm : List (List D_A3)} (hu : Small u.2.2.2.1) (hsm : Small sm) {l : List Int} (hl : l = baseV u sm ∨ ∃ i v, l = (baseV u sm).set i v) {two : Bool} (h2 : two = (askB u sm && dB (PackV u.1 u.2.1 u.2.2.1 u.2.2.2.1 sm l))) :
    midF h ps many ok first fine bars u sm l two pl = some (true, ()) := by
  unfold midF
  cases two with
  | false => exact ht
  | true =>
    have h2' := h2.symm
    rw [Bool.and_eq_true] at h2'
    obtain ⟨ha, hd⟩ := h2'
    obtain ⟨hne, he⟩ := drawn_first ha hl (dB_iff.1 hd)
    have h64 := first_len ha
    have h22 := l_planes ht hpl hb pl.length 0 N (by omega) (by unfold Small at hpl; have := N_ge; omega)
    rw [Int.natCast_zero] at h22
    rw [f_first hu hsm, if_pos ha, he]
    simp only [cond_true, Option.bind_some]
    rw [decide_eq_true (p := allSols u sm ≠ []) hne, f_vLess _ (by unfold Small; omega)]
    exact h22
theorem law_Packings (a0 : List Int) (hb : ∀ b ∈ a0, 0 ≤ b ∧ b ≤ 255) : P_laws_FnPackings (a0, ()) = some (true, ()) := by
  rw [p_laws_FnPackings, p_laws_vBig]
  simp only [Option.bind_some]
  by_cases hbig : (a0.length : Int) > 65536
  · rw [decide_eq_true hbig]; rfl
  · rw [decide_eq_false hbig]
    simp only [cond_false]
    have hC : Bts a0 := ⟨by omega, hb⟩
    obtain ⟨h, ps, s1, e1, _, hh, hp⟩ := f_pack9 hC (n := 1000) (at00 6000 (by omega))
    have e1' : P_l1Cur_pack9 ((a0, (0, (0, ()))), ()) = _ := e1
    have ed : P_spec_DrawCountPackings (a0, ()) = some (h, ps, ()) := by
      rw [p_spec_DrawCountPackings, p_spec_DrawFirstPacking, e1']
      rfl
    obtain ⟨C', ec, hC'⟩ := f_vCut hC (by omega) 1 (by omega)
    obtain ⟨u, sm, l, e10, hu, hsm, hl, hbase⟩ := d_IsPacking hC'
    obtain ⟨⟨bars, there, ⟨⟩⟩, e7, e8, t7, b7⟩ := f_bars hh hp
    obtain ⟨⟨is, one, ⟨⟩⟩, e11, e12, o11, i11⟩ := f_IsPacking hu hsm hl
    obtain ⟨⟨pl, two, ⟨⟩⟩, e13, e14, t13, sp, bp⟩ := f_fault hu hsm hl
    simp only at t7 b7 o11 i11 t13 sp bp
    rw [ed]
    simp only [Option.bind_some]
    rw [f_count hh hp, f_specCount hh hp, f_first hh hp, f_specFirst hh hp]
    simp only [Option.bind_some]
    rw [e7, e8, ec]
    simp only [Option.bind_some]
    rw [e10]
    simp only [Option.bind_some]
    rw [e11, e12, e13, e14]
    simp only [Option.bind_some]
    obtain ⟨many, ok, first, fine, ec1, ef1, hfirst, hmany, hfine, hbars, hthere⟩ : ∃ (many : Int) (ok : Bool) (first : List Int) (fine : Bool),
        (if askB h ps = true then (countV h ps, true, ()) else (0, false, ())) = ((many, ok, ()) : Int × Bool × Unit) ∧ (if askB h ps = true then (firstV h ps, decide (allSols h ps ≠ []), ()) else ([], false, ())) = ((first, fine, ()) : List Int × Bool × Unit) ∧
        first.length ≤ 64 ∧ (fine = (bif ok then decide (many > 0) else false)) ∧ (fine = true → askB h ps = true ∧ PackV h.1 h.2.1 h.2.2.1 h.2.2.2.1 ps first) ∧ (ok = true → bars = true → ¬ many > 0) ∧ ok = there := by
      by_cases ha : askB h ps = true
      · have hpos : decide (allSols h ps ≠ []) = decide (countV h ps > 0) := by
          unfold countV
          cases allSols h ps with
          | nil => rfl
          | cons x r => rw [decide_eq_true (by simp), decide_eq_true (by rw [List.length_cons]; omega)]
        refine ⟨_, _, _, _, if_pos ha, if_pos ha, first_len ha, hpos, fun hf => ⟨ha, (sols_count ha).1 (first_mem (of_decide_eq_true hf))⟩, fun _ hbr hm => ?_, by rw [t7, ha]⟩
        have hne : allSols h ps ≠ [] := by
          have := hpos.trans (decide_eq_true hm)
          exact of_decide_eq_true this
        have := not_barred ha ((sols_count ha).1 (first_mem hne))
        rw [b7, this, Bool.and_false] at hbr
        cases hbr
      · refine ⟨_, _, _, _, if_neg ha, if_neg ha, by simp, rfl, (fun hf => by cases hf), (fun hf => by cases hf), ?_⟩
        rw [t7]
        cases hx : askB h ps with
        | false => rfl
        | true => exact absurd hx ha
    rw [ec1, ef1]
    have ht := tail_ok (rest_ok hh hp hfine) hbars (bars := bars)
    have hmid := mid_ok ht sp bp hu hsm hbase t13
    simp only [beq_self_eq_true, decide_true, Bool.not_true, cond_false]
    rw [f_vInts first (by unfold Small; omega), f_vPairs pl sp]
    simp only [Option.bind_some, Bool.not_true, cond_false]
    rw [← hthere]
    have h1 : two = (bif one then is else false) := by
      rw [t13, o11, i11]
      cases askB u sm <;> rfl
    cases ok with
    | true =>
      simp only [cond_true] at hmany
      have hc : (fine == decide (many > 0)) = true := by rw [hmany]; exact beq_self_eq_true _
      rw [hc]
      simp only [beq_self_eq_true, Bool.not_true, cond_false, cond_true]
      cases one with
      | true =>
        simp only [cond_true] at h1
        have hc2 : (two == is) = true := by rw [h1]; exact beq_self_eq_true _
        rw [hc2]
        exact hmid
      | false =>
        simp only [cond_false] at h1
        subst h1
        exact hmid
    | false =>
      simp only [cond_false] at hmany
      subst hmany
      cases one with
      | true =>
        simp only [cond_true] at h1
        have hc2 : (two == is) = true := by rw [h1]; exact beq_self_eq_true _
        rw [hc2]
        exact hmid
      | false =>
        simp only [cond_false] at h1
        subst h1
        exact hmid
end Go.VI
