/- Plain: the fewest cubes, by both. -/
import Derived.Test.YtbpjlmhkoflcgaaGreatPlFa
namespace Go.VI
open Go.Proofs
theorem need_bit {s : D_Shadow} (hs : sides s.1 s.2.1 s.2.2.1 = true) {d : Int} {i j : Nat} : (allowedB s &&& lineB s d i).getLsbD j = true ↔ ∃ c ∈ AL s, j = idx s.2.1 s.2.2.1 c ∧ lineD s.1 s.2.1 s.2.2.1 d c = (i : Int) := by
  have h1 := setB_is hs (allowedC s)
  have h2 := setB_is hs (fun c => decide (lineD s.1 s.2.1 s.2.2.1 d c = (i : Int)))
  rw [BitVec.getLsbD_and, Bool.and_eq_true]
  constructor
  · rintro ⟨a, b⟩
    have hlt : j < (s.1 * s.2.1 * s.2.2.1).toNat := by
      apply Classical.byContradiction
      intro hn
      have := h1.1 j (by omega)
      unfold allowedB at a
      rw [this] at a
      cases a
    obtain ⟨c1, c2⟩ := cellOf_ok hs hlt
    have a' := h1.2 _ c1
    rw [c2] at a'
    have b' := h2.2 _ c1
    rw [c2] at b'
    unfold allowedB at a
    unfold lineB at b
    rw [a'] at a
    rw [b'] at b
    exact ⟨_, (mem_AL hs).2 ⟨c1, a⟩, c2.symm, of_decide_eq_true b⟩
  · rintro ⟨c, hc, rfl, hl⟩
    obtain ⟨w, al⟩ := (mem_AL hs).1 hc
    unfold allowedB lineB
    rw [h1.2 c w, h2.2 c w]
    exact ⟨al, decide_eq_true hl⟩
theorem needsB_mem {s : D_Shadow} {v : B64} : v ∈ needsB s ↔ ∃ d : Int, 0 ≤ d ∧ d ≤ 2 ∧ ∃ i : Nat, (listD s d)[i]? = some 1 ∧ v = allowedB s &&& lineB s d i := by
  constructor
  · intro h
    obtain ⟨d, d0, d1, i, hi, h1, h2⟩ := mem_needsB h
    exact ⟨d, d0, d1, i, by rw [List.getElem?_eq_getElem hi, h1], h2⟩
  · rintro ⟨d, d0, d1, i, h1, h2⟩
    obtain ⟨hi, h1'⟩ := List.getElem?_eq_some_iff.1 h1
    have hm : v ∈ needR s d (listD s d) 0 := mem_needR.2 ⟨i, hi, h1', by rw [h2, Nat.zero_add]⟩
    unfold needsB
    rcases dir d0 d1 with rfl | rfl | rfl
    · exact List.mem_append_left _ hm
    · exact List.mem_append_right _ (List.mem_append_left _ hm)
    · exact List.mem_append_right _ (List.mem_append_right _ hm)
theorem AL_inj {s : D_Shadow} (hs : sides s.1 s.2.1 s.2.2.1 = true) {a b : D_A3} (ha : a ∈ AL s) (hb : b ∈ AL s) (h : idx s.2.1 s.2.2.1 a = idx s.2.1 s.2.2.1 b) : a = b := idx_inj hs (AL_ins hs a ha) (AL_ins hs b hb) h
theorem covD_needs {s : D_Shadow} (hs : sides s.1 s.2.1 s.2.2.1 = true) {l : List D_A3} (hl : ∀ c ∈ l, c ∈ AL s) : CovD s l ↔ ∀ v ∈ needsB s, ∃ c ∈ l, v.getLsbD (idx s.2.1 s.2.2.1 c) = true := by
  constructor
  · intro h v hv
    obtain ⟨d, d0, d1, i, h1, rfl⟩ := needsB_mem.1 hv
    obtain ⟨c, hc, hci⟩ := h d d0 d1 i h1
    exact ⟨c, hc, (need_bit hs).2 ⟨c, hl c hc, rfl, hci⟩⟩
  · intro h d d0 d1 i h1
    obtain ⟨c, hc, hb⟩ := h _ (needsB_mem.2 ⟨d, d0, d1, i, h1, rfl⟩)
    obtain ⟨c', hc', e, hl'⟩ := (need_bit hs).1 hb
    obtain rfl := AL_inj hs (hl c hc) hc' e
    exact ⟨c, hc, hl'⟩
structure Cover (s : D_Shadow) (l : List D_A3) : Prop where
  srt : Srt l
  sub : ∀ c ∈ l, c ∈ AL s
  cov : CovD s l
theorem or_len {α : Type} (p q : α → Bool) : ∀ l : List α, (l.filter fun x => p x || q x).length ≤ (l.filter p).length + (l.filter q).length
  | [] => Nat.le_refl _
  | a :: l => by
    have := or_len p q l
    rw [List.filter_cons, List.filter_cons, List.filter_cons]
    cases p a <;> cases q a <;> simp <;> omega
def Has (s : D_Shadow) (ch : B64) (L : List D_A3) : Prop := (∀ c ∈ L, c ∈ AL s) ∧ ∀ i, ch.getLsbD i = true ↔ ∃ c ∈ L, i = idx s.2.1 s.2.2.1 c
theorem Has.bit {s : D_Shadow} (hs : sides s.1 s.2.1 s.2.2.1 = true) {ch : B64} {L : List D_A3} (h : Has s ch L) {c : D_A3} (hc : c ∈ AL s) : ch.getLsbD (idx s.2.1 s.2.2.1 c) = decide (c ∈ L) := by
  rw [Bool.eq_iff_iff, h.2, decide_eq_true_eq]
  constructor
  · rintro ⟨c', h1, h2⟩
    rw [AL_inj hs hc (h.1 c' h1) h2]; exact h1
  · intro h1; exact ⟨c, h1, rfl⟩
theorem Has.pop {s : D_Shadow} (hs : sides s.1 s.2.1 s.2.2.1 = true) {ch : B64} {L : List D_A3} (h : Has s ch L) (hr : Srt L) : popB ch.toNat = L.length := by
  have hi : Ins s.1 s.2.1 s.2.2.1 L := fun c hc => AL_ins hs c (h.1 c hc)
  have hn := idx_nodup hs hi hr
  rw [pop_filter hn (fun i hb => by
    obtain ⟨c, hc, e⟩ := (h.2 i).1 hb
    rw [e]; exact List.mem_map_of_mem hc)]
  have : (L.map (idx s.2.1 s.2.2.1)).filter (fun i => ch.getLsbD i) = L.map (idx s.2.1 s.2.2.1) := by
    rw [List.filter_eq_self]
    intro i hi
    obtain ⟨c, hc, e⟩ := List.mem_map.1 hi
    exact (h.2 i).2 ⟨c, hc, e.symm⟩
  rw [this, List.length_map]
open Classical in
theorem sat_iff {s : D_Shadow} (hs : sides s.1 s.2.1 s.2.2.1 = true) {ch wo : B64} {L W : List D_A3} (hL : Has s ch L) (hr : Srt L) (hW : Has s wo W) (more : Nat) :
    Sat (needsB s) ch (fun i => wo.getLsbD i = true) more ↔ ∃ l, Cover s l ∧ (∀ c ∈ L, c ∈ l) ∧ (∀ c ∈ l, c ∈ W → c ∈ L) ∧ l.length ≤ L.length + more := by
  constructor
  · rintro ⟨T, t1, t2, t3⟩
    refine ⟨(AL s).filter fun c => decide (c ∈ L) || decide (idx s.2.1 s.2.2.1 c ∈ T), ⟨(AL_srt hs).filter _, fun c hc => (List.mem_filter.1 hc).1, ?_⟩, fun c hc => List.mem_filter.2 ⟨hL.1 c hc, by rw [decide_eq_true hc]; rfl⟩, fun c hc hw => ?_, ?_⟩
    · rw [covD_needs hs (fun c hc => (List.mem_filter.1 hc).1)]
      intro v hv
      obtain ⟨d, d0, d1, i, h1, rfl⟩ := needsB_mem.1 hv
      rcases t3 _ hv with h | ⟨j, hj, hb⟩
      · obtain ⟨j, _, hb⟩ := nz_bit h
        rw [BitVec.getLsbD_and, Bool.and_eq_true] at hb
        obtain ⟨c, hc, e⟩ := (hL.2 j).1 hb.2
        exact ⟨c, List.mem_filter.2 ⟨hL.1 c hc, by rw [decide_eq_true hc]; rfl⟩, by rw [← e]; exact hb.1⟩
      · obtain ⟨c, hc, e, _⟩ := (need_bit hs).1 hb
        exact ⟨c, List.mem_filter.2 ⟨hc, by rw [← e, decide_eq_true hj, Bool.or_true]⟩, by rw [← e]; exact hb⟩
    · obtain ⟨h1, h2⟩ := List.mem_filter.1 hc
      rw [Bool.or_eq_true, decide_eq_true_eq, decide_eq_true_eq] at h2
      rcases h2 with h2 | h2
      · exact h2
      · exact absurd ((hW.2 _).2 ⟨c, hw, rfl⟩) (t2 _ h2)
    · refine Nat.le_trans (or_len _ _ _) (Nat.add_le_add ?_ (Nat.le_trans ?_ t1))
      · refine nodup_len _ _ ((AL_srt hs).nodup.filter _) fun c hc => of_decide_eq_true (List.mem_filter.1 hc).2
      · have hn : (((AL s).filter fun c => decide (idx s.2.1 s.2.2.1 c ∈ T)).map (idx s.2.1 s.2.2.1)).Nodup := idx_nodup hs (fun c hc => AL_ins hs c (List.mem_filter.1 hc).1) ((AL_srt hs).filter _)
        have := nodup_len _ T hn (fun i hi => by
          obtain ⟨c, hc, rfl⟩ := List.mem_map.1 hi
          exact of_decide_eq_true (List.mem_filter.1 hc).2)
        rwa [List.length_map] at this
  · rintro ⟨l, hl, h1, h2, h3⟩
    refine ⟨(l.filter fun c => !decide (c ∈ L)).map (idx s.2.1 s.2.2.1), ?_, fun i hi hw => ?_, fun v hv => ?_⟩
    · have hsp := filter_split2 (fun c => decide (c ∈ L)) l
      have : L.length ≤ (l.filter fun c => decide (c ∈ L)).length := nodup_len _ _ hr.nodup fun c hc => List.mem_filter.2 ⟨h1 c hc, decide_eq_true hc⟩
      rw [List.length_map]
      omega
    · obtain ⟨c, hc, rfl⟩ := List.mem_map.1 hi
      obtain ⟨m1, m2⟩ := List.mem_filter.1 hc
      rw [hW.bit hs (hl.sub c m1), decide_eq_true_eq] at hw
      have := h2 c m1 hw
      simp [this] at m2
    · obtain ⟨c, hc, hb⟩ := (covD_needs hs hl.sub).1 hl.cov v hv
      by_cases hm : c ∈ L
      · left
        intro hz
        have := (zero_iff _).1 hz (idx s.2.1 s.2.2.1 c)
        rw [BitVec.getLsbD_and, hb, (hL.2 _).2 ⟨c, hm, rfl⟩] at this
        cases this
      · exact .inr ⟨_, List.mem_map_of_mem (List.mem_filter.2 ⟨hc, by simp [hm]⟩), hb⟩
def ML (s : D_Shadow) : List D_A3 := (AL s).filter fun c => (mustB s).getLsbD (idx s.2.1 s.2.2.1 c)
theorem must_need {s : D_Shadow} {i : Nat} : (mustB s).getLsbD i = true ↔ ∃ v ∈ needsB s, popB v.toNat = 1 ∧ v.getLsbD i = true := by
  have := mustR_bit i (needsB s) 0
  unfold mustB
  rw [this]
  simp
theorem ML_has {s : D_Shadow} (hs : sides s.1 s.2.1 s.2.2.1 = true) : Has s (mustB s) (ML s) := by
  refine ⟨fun c hc => (List.mem_filter.1 hc).1, fun i => ?_⟩
  constructor
  · intro hb
    obtain ⟨v, hv, hp, hvb⟩ := must_need.1 hb
    obtain ⟨d, d0, d1, j, h1, rfl⟩ := needsB_mem.1 hv
    obtain ⟨c, hc, e, _⟩ := (need_bit hs).1 hvb
    exact ⟨c, List.mem_filter.2 ⟨hc, by rw [← e]; exact hb⟩, e⟩
  · rintro ⟨c, hc, rfl⟩
    exact (List.mem_filter.1 hc).2
theorem ML_srt {s : D_Shadow} (hs : sides s.1 s.2.1 s.2.2.1 = true) : Srt (ML s) := (AL_srt hs).filter _
theorem must_in {s : D_Shadow} (hs : sides s.1 s.2.1 s.2.2.1 = true) {l : List D_A3} (hl : Cover s l) : ∀ c ∈ ML s, c ∈ l := fun c hc => by
  obtain ⟨h1, h2⟩ := List.mem_filter.1 hc
  obtain ⟨v, hv, hp, hvb⟩ := must_need.1 h2
  obtain ⟨c', hc', hb⟩ := (covD_needs hs hl.sub).1 hl.cov v hv
  have := one_bit hp hvb hb
  rw [AL_inj hs h1 (hl.sub c' hc') this]
  exact hc'
theorem must_pop {s : D_Shadow} (hs : sides s.1 s.2.1 s.2.2.1 = true) : popB (mustB s).toNat = (ML s).length := (ML_has hs).pop hs (ML_srt hs)
theorem must_len {s : D_Shadow} (hs : sides s.1 s.2.1 s.2.2.1 = true) {l : List D_A3} (hl : Cover s l) : (ML s).length ≤ l.length := nodup_len _ _ (ML_srt hs).nodup (must_in hs hl)
theorem no_has (s : D_Shadow) : Has s 0 [] := ⟨fun c hc => (by cases hc), fun i => by simp⟩
theorem sat_must {s : D_Shadow} (hs : sides s.1 s.2.1 s.2.2.1 = true) {t : Nat} (ht : (ML s).length ≤ t) : Sat (needsB s) (mustB s) (fun i => (0 : B64).getLsbD i = true) (t - popB (mustB s).toNat) ↔ ∃ l, Cover s l ∧ l.length ≤ t := by
  rw [sat_iff hs (ML_has hs) (ML_srt hs) (no_has s), must_pop hs]
  constructor
  · rintro ⟨l, a, _, _, b⟩; exact ⟨l, a, by omega⟩
  · rintro ⟨l, a, b⟩; exact ⟨l, a, must_in hs a, (fun c _ h => by cases h), by omega⟩
structure Least (s : D_Shadow) (n : Nat) : Prop where
  ex : ∃ l, Cover s l ∧ l.length = n
  min : ∀ l, Cover s l → n ≤ l.length
theorem least_ex {s : D_Shadow} (h : ∃ l, Cover s l) : ∃ n, Least s n := by
  obtain ⟨l, hl⟩ := h
  have key : ∀ k (l : List D_A3), l.length ≤ k → Cover s l → ∃ n, Least s n := by
    intro k
    induction k with
    | zero =>
      intro l hk hl
      exact ⟨l.length, ⟨l, hl, rfl⟩, fun m _ => by omega⟩
    | succ k ih =>
      intro l hk hl
      by_cases hm : ∃ m, Cover s m ∧ m.length < l.length
      · obtain ⟨m, h1, h2⟩ := hm
        exact ih m (by omega) h1
      · exact ⟨l.length, ⟨l, hl, rfl⟩, fun m hm' => by
          apply Classical.byContradiction
          intro hn
          exact hm ⟨m, hm', by omega⟩⟩
  exact key _ l (Nat.le_refl _) hl
theorem fit_cover {s : D_Shadow} (ho : okSh s = true) (hf : fitsB s = true) : Cover s (AL s) := by
  obtain ⟨hs, _⟩ := okSh_iff.1 ho
  exact ⟨AL_srt hs, fun c hc => hc, ((same_iff ho (AL_ins hs)).1 hf).1⟩
theorem l_fewestE (s : D_Shadow) (ho : okSh s = true) {n : Nat} (hn : n ≤ 64) (hL : Least s n) : ∀ (d t m : Nat), t + d = n → (ML s).length ≤ t → d < m →
    l_ay_4 m s.1 s.2.1 s.2.2.1 s.2.2.2.1 s.2.2.2.2.1 s.2.2.2.2.2.1 (t : Int) = some ((n : Int), true, ())
  | d, t, 0, _, _, h => by omega
  | d, t, m + 1, ht, hpt, hm => by
    obtain ⟨hs, _⟩ := okSh_iff.1 ho
    have hlen := needsB_len ho
    have hp := must_pop hs
    have e1 : P_ab ((s.1, (s.2.1, (s.2.2.1, (s.2.2.2.1, (s.2.2.2.2.1, (s.2.2.2.2.2.1, ())))))), ()) = _ := f_needs s ho
    have e2 : P_ar ((s.1, (s.2.1, (s.2.2.1, (s.2.2.2.1, (s.2.2.2.2.1, (s.2.2.2.2.2.1, ())))))), ()) = _ := f_must s ho
    have ew : IntKind.wrap .i64 ((t : Int) - ((popB (mustB s).toNat : Nat) : Int)) = ((t - popB (mustB s).toNat : Nat) : Int) := by rw [w64 (by omega) (by omega)]; omega
    obtain ⟨b, e3, hb⟩ := f_canMeet (ns := needsB s) (by omega) (t - popB (mustB s).toNat) N (by omega) (by have := N_ge; omega) (mustB s) 0
    rw [sat_must hs hpt] at hb
    have e3' : P_ac (nums (needsB s), ((mustB s).toNat : Int), 0, ((t - popB (mustB s).toNat : Nat) : Int), ()) = some (b, ()) := e3
    rw [q_ay_4, e1, e2]
    simp only [Option.bind_some]
    rw [f_count]
    simp only [Option.bind_some]
    rw [ew, e3']
    simp only [Option.bind_some]
    cases hbv : b with
    | true =>
      obtain ⟨l, h1, h2⟩ := hb.1 hbv
      have := hL.min l h1
      have : t = n := by omega
      subst this
      rfl
    | false =>
      simp only [Bool.not_false, cond_true]
      have htn : t ≠ n := fun h => by
        obtain ⟨l, h1, h2⟩ := hL.ex
        have := hb.2 ⟨l, h1, by omega⟩
        rw [hbv] at this
        cases this
      rw [succI t (by omega)]
      exact l_fewestE s ho hn hL (d - 1) (t + 1) m (by omega) (by omega) (by omega)
def small27 (s : D_Shadow) : Bool := okSh s && (fitsB s && decide (s.1 * s.2.1 * s.2.2.1 ≤ 27))
theorem f_fewestE (s : D_Shadow) (hm : SmallS s) : (small27 s = false → P_ay (s, ()) = some (0, false, ())) ∧ (small27 s = true → ∃ n, Least s n ∧ n ≤ 64 ∧ P_ay (s, ()) = some ((n : Int), true, ())) := by
  have h0 := f_isFitting s hm
  constructor
  · intro h
    rw [p_ay, h0]
    simp only [Option.bind_some]
    unfold small27 at h
    cases ho : okSh s with
    | false => rfl
    | true =>
      cases hf : fitsB s with
      | false => rfl
      | true =>
        obtain ⟨hs, _⟩ := okSh_iff.1 ho
        have hz := size64 hs
        rw [ho, hf, Bool.true_and, Bool.true_and, decide_eq_false_iff_not] at h
        have e : P_ae (s, ()) = some ((s.1, s.2.1, s.2.2.1, ()), ()) := p_ae s
        simp only [Bool.and_self, Bool.not_true, cond_false]
        rw [e]
        simp only [Option.bind_some]
        rw [f_size hs]
        simp only [Option.bind_some]
        rw [decide_eq_true (p := (((s.1 * s.2.1 * s.2.2.1).toNat : Nat) : Int) > 27) (by omega)]
        rfl
  · intro h
    unfold small27 at h
    rw [Bool.and_eq_true, Bool.and_eq_true, decide_eq_true_eq] at h
    obtain ⟨ho, hf, h27⟩ := h
    obtain ⟨hs, _⟩ := okSh_iff.1 ho
    have hz := size64 hs
    have hc := fit_cover ho hf
    obtain ⟨n, hL⟩ := least_ex ⟨_, hc⟩
    have hn := hL.min _ hc
    have hal := AL_len hs
    obtain ⟨l, hl1, hl2⟩ := hL.ex
    have hml := must_len hs hl1
    refine ⟨n, hL, by omega, ?_⟩
    have e : P_ae (s, ()) = some ((s.1, s.2.1, s.2.2.1, ()), ()) := p_ae s
    rw [p_ay, h0, ho, hf]
    simp only [Option.bind_some, Bool.and_self, Bool.not_true, cond_false]
    rw [e]
    simp only [Option.bind_some]
    rw [f_size hs]
    simp only [Option.bind_some]
    rw [decide_eq_false (p := (((s.1 * s.2.1 * s.2.2.1).toNat : Nat) : Int) > 27) (by omega), f_must s ho]
    simp only [cond_false, Option.bind_some]
    rw [f_count, must_pop hs]
    exact l_fewestE s ho (by omega) hL (n - (ML s).length) (ML s).length N (by omega) (Nat.le_refl _) (by have := N_ge; omega)
end Go.VI
/- Plain: the first heap of the fewest cubes, by both. -/
namespace Go.VI
open Go.Proofs
theorem srt_sublist {l m : List D_A3} (hl : Srt l) (hm : Srt m) (h : ∀ c ∈ l, c ∈ m) : l.Sublist m := by
  have e : l = m.filter fun c => decide (c ∈ l) := srt_ext _ _ hl (hm.filter _) fun c => by
    rw [List.mem_filter, decide_eq_true_eq]
    exact ⟨fun hc => ⟨h c hc, hc⟩, fun hc => hc.2⟩
  rw [e]
  exact List.filter_sublist
theorem cover_sub {s : D_Shadow} (ho : okSh s = true) {T : List D_A3} (hT : T.Sublist (AL s)) (hc : Cov s T) : Cover s T := by
  obtain ⟨hs, _⟩ := okSh_iff.1 ho
  exact ⟨(AL_srt hs).sublist hT, fun c h => hT.subset h, (cov_iff ho (fun c h => AL_ins hs c (hT.subset h))).1 hc⟩
theorem cover_cov {s : D_Shadow} (ho : okSh s = true) {l : List D_A3} (h : Cover s l) : Cov s l := by
  obtain ⟨hs, _⟩ := okSh_iff.1 ho
  exact (cov_iff ho (fun c hc => AL_ins hs c (h.sub c hc))).2 h.cov
theorem first_less {s : D_Shadow} (ho : okSh s = true) {n k : Nat} (hL : Least s n) (hk : k < n) : firstExt s (AL s) [] k = none :=
  firstExt_none fun T hT hl hc => by
    rw [List.nil_append] at hc
    have := hL.min T (cover_sub ho hT hc)
    omega
theorem first_at {s : D_Shadow} (ho : okSh s = true) {n : Nat} (hL : Least s n) : ∃ x, firstExt s (AL s) [] n = some x ∧ Cover s x ∧ x.length = n := by
  obtain ⟨hs, _⟩ := okSh_iff.1 ho
  obtain ⟨l, h1, h2⟩ := hL.ex
  obtain ⟨x, hx⟩ := firstExt_ex s (AL s) [] n l (srt_sublist h1.srt (AL_srt hs) h1.sub) h2 (by rw [List.nil_append]; exact cover_cov ho h1)
  obtain ⟨T, t1, t2, t3, t4⟩ := firstExt_some s _ _ _ _ hx
  rw [List.nil_append] at t3
  subst t3
  exact ⟨x, hx, cover_sub ho t1 t4, t2⟩
theorem l_l3F {s : D_Shadow} (ho : okSh s = true) {n : Nat} (hn : n ≤ 64) (hL : Least s n) {x : List D_A3} (hx : firstExt s (AL s) [] n = some x) (hne : n ≤ (AL s).length) : ∀ (d k m : Nat), k + d = n → d < m →
    l_a9_3 m s.1 s.2.1 s.2.2.1 s.2.2.2.1 s.2.2.2.2.1 s.2.2.2.2.2.1 0 0 0 [] (AL s) (k : Int) = some ((s.1, (s.2.1, (s.2.2.1, (x, ())))), ())
  | d, k, 0, _, h => by omega
  | d, k, m + 1, hk, hm => by
    obtain ⟨hs, _⟩ := okSh_iff.1 ho
    have hal := AL_len hs
    have e : Pk_af N (s, AL s, ((0 : Nat) : Int), [], (k : Int), ()) = _ := f_search ho (AL_ins hs) hal (K := k) (by omega) (AL s).length N 0 [] (by simp) (by have := N_ge; omega) (Nat.zero_le _) (fun c hc => by cases hc)
    have e' : P_af ((s.1, (s.2.1, (s.2.2.1, (s.2.2.2.1, (s.2.2.2.2.1, (s.2.2.2.2.2.1, ())))))), AL s, 0, [], (k : Int), ()) = some (ansS (firstExt s (AL s) [] k)) := e
    rw [q_a9_3, decide_eq_true (p := (k : Int) ≤ ((AL s).length : Int)) (by omega), e']
    simp only [cond_true, Option.bind_some]
    by_cases h : k = n
    · subst h
      rw [hx]
      show (bif true then _ else _) = _
      rw [p_bp]
      simp only [cond_true, Option.bind_some]
      rw [p_dn]
      rfl
    · rw [first_less ho hL (by omega)]
      show (bif false then _ else _) = _
      rw [succI k (by omega)]
      exact l_l3F ho hn hL hx hne (d - 1) (k + 1) m (by omega) (by omega)
theorem f_l3Fewest {s : D_Shadow} (ho : okSh s = true) (hf : fitsB s = true) {n : Nat} (hL : Least s n) {x : List D_A3} (hx : firstExt s (AL s) [] n = some x) : P_a9 (s, ()) = some ((s.1, (s.2.1, (s.2.2.1, (x, ())))), ()) := by
  obtain ⟨hs, _⟩ := okSh_iff.1 ho
  have hal := AL_len hs
  have hn := hL.min _ (fit_cover ho hf)
  rw [p_a9, f_allowS ho]
  exact l_l3F ho (by omega) hL hx hn n 0 N (by omega) (by have := N_ge; omega)
theorem f_l3Small (s : D_Shadow) (hm : SmallS s) : P_cs (s, ()) = some (small27 s, ()) := by
  rw [p_cs, f_l3Fit s hm]
  unfold small27
  cases ho : okSh s with
  | false => rfl
  | true =>
    cases hf : fitsB s with
    | false => rfl
    | true =>
      obtain ⟨hs, _⟩ := okSh_iff.1 ho
      have hz := size64 hs
      simp only [Option.bind_some, Bool.and_self, cond_true]
      rw [w64 (x := s.1 * s.2.1) (by omega) (by omega), w64 (x := s.1 * s.2.1 * s.2.2.1) (by omega) (by omega)]
      rfl
def fromL (s : D_Shadow) (i : Nat) : List D_A3 := (AL s).filter fun c => decide (i ≤ idx s.2.1 s.2.2.1 c)
theorem fromL_zero (s : D_Shadow) : fromL s 0 = AL s := by
  unfold fromL
  rw [List.filter_eq_self]
  intro c _
  exact decide_eq_true (Nat.zero_le _)
theorem fromL_step {s : D_Shadow} (hs : sides s.1 s.2.1 s.2.2.1 = true) {c : D_A3} (hc : c ∈ AL s) : fromL s (idx s.2.1 s.2.2.1 c) = c :: fromL s (idx s.2.1 s.2.2.1 c + 1) := by
  have hcons : Srt (c :: fromL s (idx s.2.1 s.2.2.1 c + 1)) := by
    refine List.pairwise_cons.2 ⟨fun x hx => ?_, (AL_srt hs).filter _⟩
    obtain ⟨h1, h2⟩ := List.mem_filter.1 hx
    have h2 := of_decide_eq_true h2
    exact (idx_lt hs (AL_ins hs c hc) (AL_ins hs x h1)).1 (by omega)
  refine srt_ext _ _ ((AL_srt hs).filter _) hcons fun x => ?_
  unfold fromL
  rw [List.mem_cons, List.mem_filter, List.mem_filter, decide_eq_true_eq, decide_eq_true_eq]
  constructor
  · rintro ⟨h1, h2⟩
    by_cases e : idx s.2.1 s.2.2.1 x = idx s.2.1 s.2.2.1 c
    · exact .inl (AL_inj hs h1 hc e)
    · exact .inr ⟨h1, by omega⟩
  · rintro (rfl | ⟨h1, h2⟩)
    · exact ⟨hc, Nat.le_refl _⟩
    · exact ⟨h1, by omega⟩
theorem fromL_skip {s : D_Shadow} {i : Nat} (h : ∀ c ∈ AL s, idx s.2.1 s.2.2.1 c ≠ i) : fromL s i = fromL s (i + 1) := by
  unfold fromL
  refine List.filter_congr fun c hc => decide_eq_decide.2 ?_
  have := h c hc
  omega
theorem fromL_end {s : D_Shadow} (hs : sides s.1 s.2.1 s.2.2.1 = true) : fromL s (s.1 * s.2.1 * s.2.2.1).toNat = [] := by
  unfold fromL
  rw [List.filter_eq_nil_iff]
  intro c hc
  have := (idx_eq hs (AL_ins hs c hc)).2.1
  simp only [decide_eq_true_eq]
  omega
structure Grd (s : D_Shadow) (n i : Nat) (L W x : List D_A3) : Prop where
  srt : Srt L
  sub : ∀ c ∈ L, c ∈ AL s ∧ idx s.2.1 s.2.2.1 c < i
  wsub : ∀ c ∈ W, c ∈ AL s ∧ idx s.2.1 s.2.2.1 c < i
  apart : ∀ c ∈ W, c ∉ L
  all : L.length < n → ∀ c ∈ AL s, idx s.2.1 s.2.2.1 c < i → c ∈ L ∨ c ∈ W
  len : L.length ≤ n
  ext : firstExt s (fromL s i) L (n - L.length) = some x
theorem first_done {s : D_Shadow} {B ch x : List D_A3} (h : firstExt s B ch 0 = some x) (B' : List D_A3) : firstExt s B' ch 0 = some x := by
  rw [firstExt_zero] at h ⊢
  exact h
theorem grd_test {s : D_Shadow} (ho : okSh s = true) {n : Nat} (hL : Least s n) {L W x : List D_A3} {c : D_A3} (hc : c ∈ AL s) (h : Grd s n (idx s.2.1 s.2.2.1 c) L W x) (hlt : L.length < n) :
    (∃ l, Cover s l ∧ (∀ y ∈ L ++ [c], y ∈ l) ∧ (∀ y ∈ l, y ∈ W → y ∈ L ++ [c]) ∧ l.length ≤ (L ++ [c]).length + (n - L.length - 1)) ↔ ∃ y, firstExt s (fromL s (idx s.2.1 s.2.2.1 c + 1)) (L ++ [c]) (n - L.length - 1) = some y := by
  obtain ⟨hs, _⟩ := okSh_iff.1 ho
  constructor
  · rintro ⟨l, h1, h2, h3, h4⟩
    have hlen : (L ++ [c]).length = L.length + 1 := by simp
    have hmin := hL.min l h1
    have hln : l.length = n := by omega
    have hmem : ∀ y, y ∈ l ↔ y ∈ (L ++ [c]) ++ l.filter (fun y => decide (idx s.2.1 s.2.2.1 c + 1 ≤ idx s.2.1 s.2.2.1 y)) := fun y => by
      rw [List.mem_append, List.mem_filter, decide_eq_true_eq]
      constructor
      · intro hy
        by_cases e1 : idx s.2.1 s.2.2.1 c + 1 ≤ idx s.2.1 s.2.2.1 y
        · exact .inr ⟨hy, e1⟩
        · left
          by_cases e2 : idx s.2.1 s.2.2.1 y = idx s.2.1 s.2.2.1 c
          · rw [AL_inj hs (h1.sub y hy) hc e2]; simp
          · rcases h.all hlt y (h1.sub y hy) (by omega) with h5 | h5
            · exact List.mem_append_left _ h5
            · exact h3 y hy h5
      · rintro (hy | hy)
        · exact h2 y hy
        · exact hy.1
    have hnd : ((L ++ [c]) ++ l.filter (fun y => decide (idx s.2.1 s.2.2.1 c + 1 ≤ idx s.2.1 s.2.2.1 y))).Nodup := by
      rw [List.nodup_append, List.nodup_append]
      refine ⟨⟨h.srt.nodup, by simp, fun a ha b hb e => ?_⟩, h1.srt.nodup.filter _, fun a ha b hb e => ?_⟩
      · rw [List.mem_singleton.1 hb] at e
        have := (h.sub a ha).2
        rw [e] at this
        omega
      · have h6 := of_decide_eq_true (List.mem_filter.1 hb).2
        subst e
        rcases List.mem_append.1 ha with ha | ha
        · have := (h.sub a ha).2
          omega
        · rw [List.mem_singleton.1 ha] at h6
          omega
    have hperm : l.Perm ((L ++ [c]) ++ l.filter (fun y => decide (idx s.2.1 s.2.2.1 c + 1 ≤ idx s.2.1 s.2.2.1 y))) := (List.perm_ext_iff_of_nodup h1.srt.nodup hnd).2 hmem
    have hl2 := hperm.length_eq
    rw [List.length_append] at hl2
    refine firstExt_ex s _ _ _ (l.filter fun y => decide (idx s.2.1 s.2.2.1 c + 1 ≤ idx s.2.1 s.2.2.1 y)) (srt_sublist (h1.srt.filter _) ((AL_srt hs).filter _) fun y hy => ?_) (by omega) ?_
    · obtain ⟨a, b⟩ := List.mem_filter.1 hy
      exact List.mem_filter.2 ⟨h1.sub y a, b⟩
    · intro i hd
      refine cover_cov ho h1 i ⟨hd.1, fun y hy => hd.2 y ((hmem y).1 hy)⟩
  · rintro ⟨y, hy⟩
    obtain ⟨T, t1, t2, t3, t4⟩ := firstExt_some s _ _ _ _ hy
    have hTm : ∀ z ∈ T, z ∈ AL s ∧ idx s.2.1 s.2.2.1 c + 1 ≤ idx s.2.1 s.2.2.1 z := fun z hz => by
      obtain ⟨a, b⟩ := List.mem_filter.1 (t1.subset hz)
      exact ⟨a, of_decide_eq_true b⟩
    have hym : ∀ z, z ∈ y ↔ z ∈ L ∨ z = c ∨ z ∈ T := fun z => by
      rw [t3, List.mem_append, List.mem_append, List.mem_singleton, or_assoc]
    have hsub : ∀ z ∈ y, z ∈ AL s := fun z hz => by
      rcases (hym z).1 hz with h5 | rfl | h5
      · exact (h.sub z h5).1
      · exact hc
      · exact (hTm z h5).1
    have hsr : Srt y := by
      rw [t3]
      refine List.pairwise_append.2 ⟨List.pairwise_append.2 ⟨h.srt, by simp, fun a ha b hb => ?_⟩, ((AL_srt hs).filter _).sublist t1, fun a ha b hb => ?_⟩
      · rw [List.mem_singleton.1 hb]
        exact (idx_lt hs (AL_ins hs a (h.sub a ha).1) (AL_ins hs c hc)).1 (h.sub a ha).2
      · obtain ⟨b1, b2⟩ := hTm b hb
        rcases List.mem_append.1 ha with ha | ha
        · have := (h.sub a ha).2
          exact (idx_lt hs (AL_ins hs a (h.sub a ha).1) (AL_ins hs b b1)).1 (by omega)
        · rw [List.mem_singleton.1 ha]
          exact (idx_lt hs (AL_ins hs c hc) (AL_ins hs b b1)).1 (by omega)
    refine ⟨y, ⟨hsr, hsub, (cov_iff ho (fun z hz => AL_ins hs z (hsub z hz))).1 t4⟩, fun z hz => ?_, fun z hz hw => ?_, ?_⟩
    · rcases List.mem_append.1 hz with hz | hz
      · exact (hym z).2 (.inl hz)
      · exact (hym z).2 (.inr (.inl (List.mem_singleton.1 hz)))
    · rcases (hym z).1 hz with h5 | h5 | h5
      · exact List.mem_append_left _ h5
      · rw [h5]; simp
      · have := (h.wsub z hw).2
        have := (hTm z h5).2
        omega
    · rw [t3, List.length_append]
      omega
theorem l_FF (s : D_Shadow) (ho : okSh s = true) {n : Nat} (hn : n ≤ 64) (hL : Least s n) {x : List D_A3} : ∀ (d i m : Nat) (L W : List D_A3) (ch wo : B64), (s.1 * s.2.1 * s.2.2.1).toNat = i + d → d < m → Has s ch L → Has s wo W → Grd s n i L W x →
    l_a6_6 m s.1 s.2.1 s.2.2.1 s.2.2.2.1 s.2.2.2.2.1 s.2.2.2.2.2.1 0 0 0 [] (n : Int) (ch.toNat : Int) (wo.toNat : Int) (((s.1 * s.2.1 * s.2.2.1).toNat : Nat) : Int) (i : Int) = some ((s.1, (s.2.1, (s.2.2.1, (x, ())))), true, ())
  | d, i, 0, L, W, ch, wo, _, h, _, _, _ => by omega
  | d, i, m + 1, L, W, ch, wo, hi, hm, hch, hwo, hG => by
    obtain ⟨hs, _⟩ := okSh_iff.1 ho
    have hz := size64 hs
    have hpop := hch.pop hs hG.srt
    rw [q_a6_6]
    by_cases hlt : i < (s.1 * s.2.1 * s.2.2.1).toNat
    · obtain ⟨w1, w2⟩ := cellOf_ok hs hlt
      rw [ltT hlt, decide_eq_true (p := (0 : Int) ≤ (i : Int)) (by omega), f_count, succI i (by omega), hpop]
      simp only [cond_true, Option.bind_some]
      by_cases hfull : L.length = n
      · rw [decide_eq_true (p := ((L.length : Nat) : Int) = (n : Int)) (by omega)]
        simp only [cond_true]
        refine l_FF s ho hn hL (d - 1) (i + 1) m L W ch wo (by omega) (by omega) hch hwo ⟨hG.srt, fun c hc => ⟨(hG.sub c hc).1, by have := (hG.sub c hc).2; omega⟩, fun c hc => ⟨(hG.wsub c hc).1, by have := (hG.wsub c hc).2; omega⟩, hG.apart, fun h => by omega, hG.len, ?_⟩
        have e0 : n - L.length = 0 := by omega
        have := hG.ext
        rw [e0] at this ⊢
        exact first_done this _
      · have hl : L.length < n := by have := hG.len; omega
        rw [decide_eq_false (p := ((L.length : Nat) : Int) = (n : Int)) (by omega)]
        simp only [cond_false]
        have e1 : P_bs ((s.1, (s.2.1, (s.2.2.1, (s.2.2.2.1, (s.2.2.2.2.1, (s.2.2.2.2.2.1, ())))))), ()) = _ := f_allowed s ho
        rw [e1]
        simp only [Option.bind_some]
        rw [shl64, and64, zdec]
        by_cases hal : cellOf s.2.1 s.2.2.1 i ∈ AL s
        · have hab : (allowedB s).getLsbD i = true := by
            have := ((setB_is hs (allowedC s)).2 _ w1)
            rw [w2] at this
            unfold allowedB
            rw [this]
            exact ((mem_AL hs).1 hal).2
          have hnz : ¬ (allowedB s &&& BitVec.twoPow 64 i = 0) := fun h0 => by
            have := (zero_iff _).1 h0 i
            rw [BitVec.getLsbD_and, hab, BitVec.getLsbD_twoPow] at this
            simp at this
            omega
          rw [decide_eq_false hnz]
          simp only [cond_false]
          have e2 : P_ab ((s.1, (s.2.1, (s.2.2.1, (s.2.2.2.1, (s.2.2.2.2.1, (s.2.2.2.2.2.1, ())))))), ()) = _ := f_needs s ho
          rw [e2]
          simp only [Option.bind_some]
          have hlen := needsB_len ho
          have ew : IntKind.wrap .i64 ((IntKind.wrap .i64 ((n : Int) - ((L.length : Nat) : Int))) - 1) = ((n - L.length - 1 : Nat) : Int) := by rw [w64 (x := (n : Int) - ((L.length : Nat) : Int)) (by omega) (by omega), w64 (by omega) (by omega)]; omega
          obtain ⟨b, e3, hb⟩ := f_canMeet (ns := needsB s) (by omega) (n - L.length - 1) N (by omega) (by have := N_ge; omega) (ch ||| BitVec.twoPow 64 i) wo
          have e3' : P_ac (nums (needsB s), ((ch ||| BitVec.twoPow 64 i).toNat : Int), (wo.toNat : Int), ((n - L.length - 1 : Nat) : Int), ()) = some (b, ()) := e3
          rw [or64, ew, e3', or64]
          simp only [Option.bind_some]
          have hi64 : i < 64 := by omega
          have hch' : Has s (ch ||| BitVec.twoPow 64 i) (L ++ [cellOf s.2.1 s.2.2.1 i]) := ⟨fun c hc => by
            rcases List.mem_append.1 hc with hc | hc
            · exact hch.1 c hc
            · rw [List.mem_singleton.1 hc]; exact hal, fun j => by
            rw [bit_or_one _ _ hi64, Bool.or_eq_true, hch.2, decide_eq_true_eq]
            constructor
            · rintro (⟨c, h1, h2⟩ | rfl)
              · exact ⟨c, List.mem_append_left _ h1, h2⟩
              · exact ⟨_, List.mem_append_right _ (List.mem_singleton.2 rfl), w2.symm⟩
            · rintro ⟨c, h1, h2⟩
              rcases List.mem_append.1 h1 with h1 | h1
              · exact .inl ⟨c, h1, h2⟩
              · right
                rw [List.mem_singleton.1 h1, w2] at h2
                exact h2⟩
          have hsrt' : Srt (L ++ [cellOf s.2.1 s.2.2.1 i]) := List.pairwise_append.2 ⟨hG.srt, by simp, fun a ha b hb => by
            rw [List.mem_singleton.1 hb]
            exact (idx_lt hs (AL_ins hs a (hG.sub a ha).1) w1).1 (by rw [w2]; exact (hG.sub a ha).2)⟩
          have hG' : Grd s n (idx s.2.1 s.2.2.1 (cellOf s.2.1 s.2.2.1 i)) L W x := by rw [w2]; exact hG
          have htest := grd_test ho hL hal hG' hl
          rw [w2] at htest
          rw [sat_iff hs hch' hsrt' hwo, htest] at hb
          have hext := hG.ext
          have hfr := fromL_step hs hal
          rw [w2] at hfr
          rw [hfr] at hext
          have hne : ¬ n - L.length = 0 := by omega
          unfold firstExt at hext
          rw [if_neg hne] at hext
          cases hbv : b with
          | true =>
            obtain ⟨y, hy⟩ := hb.1 hbv
            rw [hy] at hext
            obtain rfl : y = x := by simpa using hext
            simp only [cond_true]
            refine l_FF s ho hn hL (d - 1) (i + 1) m (L ++ [cellOf s.2.1 s.2.2.1 i]) W _ wo (by omega) (by omega) hch' hwo ⟨hsrt', fun c hc => ?_, fun c hc => ⟨(hG.wsub c hc).1, by have := (hG.wsub c hc).2; omega⟩, fun c hc hcL => ?_, fun _ c hc hci => ?_, by simp; omega, ?_⟩
            · rcases List.mem_append.1 hc with hc | hc
              · exact ⟨(hG.sub c hc).1, by have := (hG.sub c hc).2; omega⟩
              · rw [List.mem_singleton.1 hc]
                exact ⟨hal, by omega⟩
            · rcases List.mem_append.1 hcL with h1 | h1
              · exact hG.apart c hc h1
              · have := (hG.wsub c hc).2
                rw [List.mem_singleton.1 h1, w2] at this
                omega
            · by_cases e : idx s.2.1 s.2.2.1 c = i
              · left
                rw [AL_inj hs hc hal (by rw [w2]; exact e)]
                simp
              · rcases hG.all hl c hc (by omega) with h1 | h1
                · exact .inl (List.mem_append_left _ h1)
                · exact .inr h1
            · rw [List.length_append, List.length_singleton, ← Nat.sub_sub]
              exact hy
          | false =>
            have hnone : firstExt s (fromL s (i + 1)) (L ++ [cellOf s.2.1 s.2.2.1 i]) (n - L.length - 1) = none := by
              cases e : firstExt s (fromL s (i + 1)) (L ++ [cellOf s.2.1 s.2.2.1 i]) (n - L.length - 1) with
              | none => rfl
              | some y =>
                have := hb.2 ⟨y, e⟩
                rw [hbv] at this
                cases this
            rw [hnone, Option.none_or] at hext
            simp only [cond_false]
            have hwo' : Has s (wo ||| BitVec.twoPow 64 i) (W ++ [cellOf s.2.1 s.2.2.1 i]) := ⟨fun c hc => by
              rcases List.mem_append.1 hc with hc | hc
              · exact hwo.1 c hc
              · rw [List.mem_singleton.1 hc]; exact hal, fun j => by
              rw [bit_or_one _ _ hi64, Bool.or_eq_true, hwo.2, decide_eq_true_eq]
              constructor
              · rintro (⟨c, h1, h2⟩ | rfl)
                · exact ⟨c, List.mem_append_left _ h1, h2⟩
                · exact ⟨_, List.mem_append_right _ (List.mem_singleton.2 rfl), w2.symm⟩
              · rintro ⟨c, h1, h2⟩
                rcases List.mem_append.1 h1 with h1 | h1
                · exact .inl ⟨c, h1, h2⟩
                · right
                  rw [List.mem_singleton.1 h1, w2] at h2
                  exact h2⟩
            refine l_FF s ho hn hL (d - 1) (i + 1) m L (W ++ [cellOf s.2.1 s.2.2.1 i]) ch _ (by omega) (by omega) hch hwo' ⟨hG.srt, fun c hc => ⟨(hG.sub c hc).1, by have := (hG.sub c hc).2; omega⟩, fun c hc => ?_, fun c hc hcL => ?_, fun _ c hc hci => ?_, hG.len, hext⟩
            · rcases List.mem_append.1 hc with hc | hc
              · exact ⟨(hG.wsub c hc).1, by have := (hG.wsub c hc).2; omega⟩
              · rw [List.mem_singleton.1 hc]
                exact ⟨hal, by omega⟩
            · rcases List.mem_append.1 hc with hc | hc
              · exact hG.apart c hc hcL
              · have := (hG.sub c hcL).2
                rw [List.mem_singleton.1 hc, w2] at this
                omega
            · by_cases e : idx s.2.1 s.2.2.1 c = i
              · right
                rw [AL_inj hs hc hal (by rw [w2]; exact e)]
                simp
              · rcases hG.all hl c hc (by omega) with h1 | h1
                · exact .inl h1
                · exact .inr (List.mem_append_left _ h1)
        · have hz0 : allowedB s &&& BitVec.twoPow 64 i = 0 := (zero_iff _).2 fun j => by
            rw [BitVec.getLsbD_and, BitVec.getLsbD_twoPow]
            by_cases e : i = j
            · subst e
              have := ((setB_is hs (allowedC s)).2 _ w1)
              rw [w2] at this
              have h2 : (allowedB s).getLsbD i = false := by
                unfold allowedB
                rw [this]
                cases hac : allowedC s (cellOf s.2.1 s.2.2.1 i) with
                | false => rfl
                | true => exact absurd ((mem_AL hs).2 ⟨w1, hac⟩) hal
              rw [h2, Bool.false_and]
            · rw [decide_eq_false (p := i = j) e, Bool.and_false, Bool.and_false]
          rw [decide_eq_true hz0]
          simp only [cond_true]
          have hskip : ∀ c ∈ AL s, idx s.2.1 s.2.2.1 c ≠ i := fun c hc e => hal (by rw [← e, cellOf_idx hs (AL_ins hs c hc)]; exact hc)
          refine l_FF s ho hn hL (d - 1) (i + 1) m L W ch wo (by omega) (by omega) hch hwo ⟨hG.srt, fun c hc => ⟨(hG.sub c hc).1, by have := (hG.sub c hc).2; omega⟩, fun c hc => ⟨(hG.wsub c hc).1, by have := (hG.wsub c hc).2; omega⟩, hG.apart, fun h c hc hci => hG.all h c hc (by have := hskip c hc; omega), hG.len, ?_⟩
          rw [← fromL_skip hskip]
          exact hG.ext
    · have e : i = (s.1 * s.2.1 * s.2.2.1).toNat := by omega
      rw [ltF hlt]
      simp only [cond_false]
      have hext := hG.ext
      rw [e, fromL_end hs] at hext
      unfold firstExt at hext
      split at hext
      · obtain rfl := Option.some.inj hext
        have eb : P_ae ((s.1, (s.2.1, (s.2.2.1, (s.2.2.2.1, (s.2.2.2.2.1, (s.2.2.2.2.2.1, ())))))), ()) = some ((s.1, s.2.1, s.2.2.1, ()), ()) := p_ae s
        rw [eb]
        simp only [Option.bind_some]
        rw [f_bv hs]
        simp only [Option.bind_some]
        have hcells : bitCells s.1 s.2.1 s.2.2.1 ch = L := srt_ext _ _ (srt_listOf hs _) hG.srt fun c => by
          rw [mem_listOf hs]
          constructor
          · rintro ⟨h1, h2⟩
            obtain ⟨c', h3, h4⟩ := (hch.2 _).1 h2
            rw [idx_inj hs h1 (AL_ins hs c' (hch.1 c' h3)) h4]
            exact h3
          · intro hc
            exact ⟨AL_ins hs c (hch.1 c hc), (hch.2 _).2 ⟨c, hc, rfl⟩⟩
        rw [hcells]
      · cases hext
theorem first_both (s : D_Shadow) (hm : SmallS s) : ∃ (n : Nat) (x : List D_A3), (small27 s = true → Least s n ∧ firstExt s (AL s) [] n = some x ∧ Cover s x ∧ x.length = n ∧ n ≤ 64) ∧
    P_ck (s, ()) = some (if small27 s then ((n : Int), true, ()) else (0, false, ())) ∧ P_c1 (s, ()) = some (if small27 s then ((n : Int), true, ()) else (0, false, ())) ∧
    P_a6 (s, ()) = some (if small27 s then ((s.1, (s.2.1, (s.2.2.1, (x, ())))), true, ()) else ((0, (0, (0, ([], ())))), false, ())) ∧ P_c4 (s, ()) = some (if small27 s then ((s.1, (s.2.1, (s.2.2.1, (x, ())))), true, ()) else ((0, (0, (0, ([], ())))), false, ())) := by
  obtain ⟨g0, g1⟩ := f_fewestE s hm
  have hsm := f_l3Small s hm
  cases h : small27 s with
  | false =>
    refine ⟨0, [], (fun hh => by cases hh), ?_, ?_, ?_, ?_⟩
    · rw [p_ck, g0 h]; rfl
    · rw [p_c1, hsm, h]; rfl
    · rw [p_a6, g0 h]; rfl
    · rw [p_c4, hsm, h]; rfl
  | true =>
    obtain ⟨n, hL, hn, hf⟩ := g1 h
    have h' := h
    unfold small27 at h'
    rw [Bool.and_eq_true, Bool.and_eq_true] at h'
    obtain ⟨ho, hfit, _⟩ := h'
    obtain ⟨hs, _⟩ := okSh_iff.1 ho
    have hz := size64 hs
    obtain ⟨x, hx, hcov, hlen⟩ := first_at ho hL
    have hsp := f_l3Fewest ho hfit hL hx
    have eb : P_ae (s, ()) = some ((s.1, s.2.1, s.2.2.1, ()), ()) := p_ae s
    refine ⟨n, x, fun _ => ⟨hL, hx, hcov, hlen, hn⟩, ?_, ?_, ?_, ?_⟩
    · rw [p_ck, hf]; rfl
    · rw [p_c1, hsm, h]
      simp only [Option.bind_some, Bool.not_true, cond_false]
      rw [hsp]
      simp [hlen]
    · rw [p_a6, hf]
      simp only [Option.bind_some, Bool.not_true, cond_false]
      rw [eb]
      simp only [Option.bind_some]
      rw [f_size hs]
      have hG : Grd s n 0 [] [] x := ⟨List.Pairwise.nil, (fun c hc => by cases hc), (fun c hc => by cases hc), (fun c hc => by cases hc), fun _ c _ hc => by omega, Nat.zero_le _, by rw [fromL_zero]; exact hx⟩
      exact l_FF s ho hn hL (s.1 * s.2.1 * s.2.2.1).toNat 0 N [] [] 0 0 (by omega) (by have := N_ge; omega) (no_has s) (no_has s) hG
    · rw [p_c4, hsm, h]
      simp only [Option.bind_some, Bool.not_true, cond_false]
      rw [hsp]
      rfl
end Go.VI
/- Plain: cells that must be, and those that are spare. -/
namespace Go.VI
open Go.Proofs
def SL (s : D_Shadow) : List D_A3 := (AL s).filter fun c => !(mustB s).getLsbD (idx s.2.1 s.2.2.1 c)
theorem SL_srt {s : D_Shadow} (hs : sides s.1 s.2.1 s.2.2.1 = true) : Srt (SL s) := (AL_srt hs).filter _
theorem line_has {s : D_Shadow} (hs : sides s.1 s.2.1 s.2.2.1 = true) (d : Int) (i : Nat) : Has s (allowedB s &&& lineB s d i) ((AL s).filter fun c => decide (lineD s.1 s.2.1 s.2.2.1 d c = (i : Int))) := by
  refine ⟨fun c hc => (List.mem_filter.1 hc).1, fun j => ?_⟩
  rw [need_bit hs]
  constructor
  · rintro ⟨c, h1, h2, h3⟩
    exact ⟨c, List.mem_filter.2 ⟨h1, decide_eq_true h3⟩, h2⟩
  · rintro ⟨c, h1, h2⟩
    obtain ⟨a, b⟩ := List.mem_filter.1 h1
    exact ⟨c, a, h2, of_decide_eq_true b⟩
theorem allowed_lit {s : D_Shadow} (ho : okSh s = true) {c : D_A3} (hc : c ∈ AL s) {d : Int} (d0 : 0 ≤ d) (d1 : d ≤ 2) {k : Nat} (hk : lineD s.1 s.2.1 s.2.2.1 d c = (k : Int)) : (listD s d)[k]? = some 1 := by
  obtain ⟨hs, _⟩ := okSh_iff.1 ho
  obtain ⟨w, al⟩ := (mem_AL hs).1 hc
  rw [← litAt_iff ho d0 d1 w hk]
  unfold allowedC at al
  rw [Bool.and_eq_true, Bool.and_eq_true] at al
  rcases dir d0 d1 with rfl | rfl | rfl
  · exact al.1
  · exact al.2.1
  · exact al.2.2
def aloneIn (s : D_Shadow) (d : Int) (c : D_A3) : Bool := decide (((AL s).filter fun x => decide (lineD s.1 s.2.1 s.2.2.1 d x = lineD s.1 s.2.1 s.2.2.1 d c)).length = 1)
theorem must_alone {s : D_Shadow} (ho : okSh s = true) {c : D_A3} (hc : c ∈ AL s) : (mustB s).getLsbD (idx s.2.1 s.2.2.1 c) = (aloneIn s 0 c || (aloneIn s 1 c || aloneIn s 2 c)) := by
  obtain ⟨hs, _⟩ := okSh_iff.1 ho
  have w := AL_ins hs c hc
  rw [Bool.eq_iff_iff, must_need, Bool.or_eq_true, Bool.or_eq_true]
  have one : ∀ d : Int, 0 ≤ d → d ≤ 2 → aloneIn s d c = true → ∃ v ∈ needsB s, popB v.toNat = 1 ∧ v.getLsbD (idx s.2.1 s.2.2.1 c) = true := fun d d0 d1 h => by
    obtain ⟨k, hk, _⟩ := nat_line hs d0 d1 w
    refine ⟨allowedB s &&& lineB s d k, needsB_mem.2 ⟨d, d0, d1, k, allowed_lit ho hc d0 d1 hk, rfl⟩, ?_, (need_bit hs).2 ⟨c, hc, rfl, hk⟩⟩
    rw [(line_has hs d k).pop hs ((AL_srt hs).filter _)]
    unfold aloneIn at h
    rw [hk] at h
    exact of_decide_eq_true h
  constructor
  · rintro ⟨v, hv, hp, hb⟩
    obtain ⟨d, d0, d1, i, h1, rfl⟩ := needsB_mem.1 hv
    obtain ⟨c', h2, h3, h4⟩ := (need_bit hs).1 hb
    obtain rfl := AL_inj hs hc h2 h3
    rw [(line_has hs d i).pop hs ((AL_srt hs).filter _)] at hp
    have : aloneIn s d c = true := by
      unfold aloneIn
      rw [h4]
      exact decide_eq_true hp
    rcases dir d0 d1 with rfl | rfl | rfl
    · exact .inl this
    · exact .inr (.inl this)
    · exact .inr (.inr this)
  · rintro (h | h | h)
    · exact one 0 (by decide) (by decide) h
    · exact one 1 (by decide) (by decide) h
    · exact one 2 (by decide) (by decide) h
theorem must_round {s : D_Shadow} (ho : okSh s = true) {c : D_A3} (hc : c ∈ AL s) {d : Int} (d0 : 0 ≤ d) (d1 : d ≤ 2) (m : Nat) : l_ba_2 (m + 1) s.1 s.2.1 s.2.2.1 (AL s) c.1 c.2.1 c.2.2.1 d = bif aloneIn s d c then some (true, ()) else l_ba_2 m s.1 s.2.1 s.2.2.1 (AL s) c.1 c.2.1 c.2.2.1 (IntKind.wrap .i64 (d + 1)) := by
  obtain ⟨hs, _⟩ := okSh_iff.1 ho
  have w := AL_ins hs c hc
  have hal := AL_len hs
  have hsm : Small (AL s) := by unfold Small; omega
  obtain ⟨b0, b1, b2, b3, b4, b5⟩ := lineD_ok hs d0 d1 w
  obtain ⟨v1, v2⟩ := view_at hs d0 d1 hsm (AL_ins hs)
  obtain ⟨k, hk, hlt⟩ := nat_line hs d0 d1 w
  have ho1 := o1_ok d
  have ho2 := o2_ok d
  have hv := v2 k hlt
  have hlv : k < (viewD s.1 s.2.1 s.2.2.1 d (AL s)).length := by omega
  rw [List.getElem?_eq_getElem hlv] at hv
  have hv := Option.some.inj hv
  have wl : IntKind.wrap .i64 ((IntKind.wrap .i64 (get3 c (o1 d) * side3 s.1 s.2.1 s.2.2.1 (o2 d))) + get3 c (o2 d)) = (k : Int) := by
    rw [w64 (x := get3 c (o1 d) * side3 s.1 s.2.1 s.2.2.1 (o2 d)) (by omega) (by omega), w64 (by omega) (by omega)]
    exact hk
  have wl' : IntKind.wrap .i64 ((IntKind.wrap .i64 ((bif decide (o1 d = (0 : Int)) then c.1 else (bif decide (o1 d = (1 : Int)) then c.2.1 else c.2.2.1)) * side3 s.1 s.2.1 s.2.2.1 (o2 d))) + (bif decide (o2 d = (0 : Int)) then c.1 else (bif decide (o2 d = (1 : Int)) then c.2.1 else c.2.2.1))) = (k : Int) := wl
  have i1 : inB (o1 d) 3 = true := by simp [inB]; omega
  have i2 : inB (o2 d) 3 = true := by simp [inB]; omega
  rw [q_ba_2, decide_eq_true (p := d < 3) (by omega), l2Others_eq]
  simp only [cond_true, Option.bind_some]
  rw [f_viewSD hs d0 d1 hsm (AL_ins hs)]
  simp only [Option.bind_some]
  rw [i1, f_l2Long _ ho2.1 ho2.2, i2]
  simp only [cond_true, Option.bind_some]
  rw [wl', inB_at hlv, nthA (t := .int .i64) hlv, hv]
  simp only [cond_true]
  have e : decide ((((AL s).filter fun c => decide (lineD s.1 s.2.1 s.2.2.1 d c = (k : Int))).length : Int) = 1) = aloneIn s d c := by
    unfold aloneIn
    rw [hk]
    exact decide_eq_decide.2 (by omega)
  rw [e]
theorem f_l3Must {s : D_Shadow} (ho : okSh s = true) {c : D_A3} (hc : c ∈ AL s) : P_ba ((s.1, (s.2.1, (s.2.2.1, (AL s, ())))), c, ()) = some ((mustB s).getLsbD (idx s.2.1 s.2.2.1 c), ()) := by
  obtain ⟨n, hn⟩ : ∃ n, N = n + 1 + 1 + 1 + 1 := ⟨N - 4, by have := N_ge; omega⟩
  rw [p_ba, must_alone ho hc, hn]
  show l_ba_2 _ _ _ _ _ _ _ _ 0 = _
  rw [must_round ho hc (d := 0) (by decide) (by decide), one64, must_round ho hc (d := 1) (by decide) (by decide), two64, must_round ho hc (d := 2) (by decide) (by decide), three64, q_ba_2, decide_eq_false (p := (3 : Int) < 3) (by decide)]
  cases aloneIn s 0 c <;> cases aloneIn s 1 c <;> cases aloneIn s 2 c <;> rfl
theorem l_parted {s : D_Shadow} (ho : okSh s = true) (sp : Bool) : ∀ (d k m : Nat) (out : List D_A3), (AL s).length = k + d → d < m → out.length ≤ k →
    l_a8_3 m s.1 s.2.1 s.2.2.1 (AL s) sp out (k : Int) = some (out ++ ((AL s).drop k).filter (fun c => !((mustB s).getLsbD (idx s.2.1 s.2.2.1 c) == sp)), ())
  | d, k, 0, out, _, h, _ => by omega
  | d, k, m + 1, out, hk, hm, hout => by
    obtain ⟨hs, _⟩ := okSh_iff.1 ho
    have hal := AL_len hs
    rw [q_a8_3]
    by_cases hlt : k < (AL s).length
    · have hc := List.getElem_mem hlt
      rw [ltT hlt, inB_at hlt, nthA (t := T_A3) hlt, f_l3Must ho hc, app24' (by omega), succI k (by omega), drop_at _ k hlt, List.filter_cons]
      simp only [cond_true, Option.bind_some]
      cases (mustB s).getLsbD (idx s.2.1 s.2.2.1 (AL s)[k]) == sp with
      | true =>
        simp only [Bool.not_true, cond_false, Bool.false_eq_true, if_false]
        exact l_parted ho sp (d - 1) (k + 1) m out (by omega) (by omega) (by omega)
      | false =>
        simp only [Bool.not_false, cond_true, if_true]
        rw [l_parted ho sp (d - 1) (k + 1) m (out ++ [(AL s)[k]]) (by omega) (by omega) (by simp; omega), List.append_assoc]
        rfl
    · rw [ltF hlt, List.drop_eq_nil_of_le (by omega)]
      simp
theorem f_parted {s : D_Shadow} (ho : okSh s = true) : P_a8 (s, true, ()) = some (SL s, ()) ∧ P_a8 (s, false, ()) = some (ML s, ()) := by
  have h1 := l_parted ho true (AL s).length 0 N [] (by simp) (by obtain ⟨hs, _⟩ := okSh_iff.1 ho; have := AL_len hs; have := N_ge; omega) (Nat.le_refl _)
  have h0 := l_parted ho false (AL s).length 0 N [] (by simp) (by obtain ⟨hs, _⟩ := okSh_iff.1 ho; have := AL_len hs; have := N_ge; omega) (Nat.le_refl _)
  rw [List.drop_zero, List.nil_append] at h1 h0
  constructor
  · rw [p_a8, f_allowS ho]
    refine h1.trans ?_
    unfold SL
    congr 2
    exact List.filter_congr fun c _ => by cases (mustB s).getLsbD (idx s.2.1 s.2.2.1 c) <;> rfl
  · rw [p_a8, f_allowS ho]
    refine h0.trans ?_
    unfold ML
    congr 2
    exact List.filter_congr fun c _ => by cases (mustB s).getLsbD (idx s.2.1 s.2.2.1 c) <;> rfl
theorem spare_has {s : D_Shadow} (hs : sides s.1 s.2.1 s.2.2.1 = true) : Has s (allowedB s &&& ~~~(mustB s)) (SL s) := by
  refine ⟨fun c hc => (List.mem_filter.1 hc).1, fun i => ?_⟩
  have h1 := setB_is hs (allowedC s)
  rw [BitVec.getLsbD_and, BitVec.getLsbD_not, Bool.and_eq_true, Bool.and_eq_true, decide_eq_true_eq, Bool.not_eq_true']
  constructor
  · rintro ⟨a, hi, b⟩
    have hlt : i < (s.1 * s.2.1 * s.2.2.1).toNat := by
      apply Classical.byContradiction
      intro hn
      have := h1.1 i (by omega)
      unfold allowedB at a
      rw [this] at a
      cases a
    obtain ⟨c1, c2⟩ := cellOf_ok hs hlt
    have a' := h1.2 _ c1
    rw [c2] at a'
    unfold allowedB at a
    rw [a'] at a
    refine ⟨_, List.mem_filter.2 ⟨(mem_AL hs).2 ⟨c1, a⟩, ?_⟩, c2.symm⟩
    rw [c2, b]
    rfl
  · rintro ⟨c, hc, rfl⟩
    obtain ⟨h2, h3⟩ := List.mem_filter.1 hc
    obtain ⟨w, al⟩ := (mem_AL hs).1 h2
    have h64 := (idx_eq hs w).2.1
    have hz := size64 hs
    unfold allowedB
    rw [h1.2 c w]
    exact ⟨al, by omega, by simpa using h3⟩
theorem has_cells {s : D_Shadow} (hs : sides s.1 s.2.1 s.2.2.1 = true) {v : B64} {L : List D_A3} (h : Has s v L) (hr : Srt L) : bitCells s.1 s.2.1 s.2.2.1 v = L := srt_ext _ _ (srt_listOf hs _) hr fun c => by
  rw [mem_listOf hs]
  constructor
  · rintro ⟨h1, h2⟩
    obtain ⟨c', h3, h4⟩ := (h.2 _).1 h2
    rw [idx_inj hs h1 (AL_ins hs c' (h.1 c' h3)) h4]
    exact h3
  · intro hc
    exact ⟨AL_ins hs c (h.1 c hc), (h.2 _).2 ⟨c, hc, rfl⟩⟩
def fitS (s : D_Shadow) : Bool := okSh s && fitsB s
theorem f_MustCells (s : D_Shadow) (hm : SmallS s) : P_by (s, ()) = some (if fitS s then (ML s, true, ()) else ([], false, ())) := by
  rw [p_by, f_isFitting s hm]
  unfold fitS
  cases h : okSh s && fitsB s with
  | false => rfl
  | true =>
    rw [Bool.and_eq_true] at h
    obtain ⟨hs, _⟩ := okSh_iff.1 h.1
    have eb : P_ae (s, ()) = some ((s.1, s.2.1, s.2.2.1, ()), ()) := p_ae s
    simp only [Option.bind_some, Bool.not_true, cond_false]
    rw [eb, f_must s h.1]
    simp only [Option.bind_some]
    rw [f_an hs, has_cells hs (ML_has hs) (ML_srt hs)]
    rfl
theorem f_SpareCells (s : D_Shadow) (hm : SmallS s) : P_bz (s, ()) = some (if fitS s then (SL s, true, ()) else ([], false, ())) := by
  rw [p_bz, f_isFitting s hm]
  unfold fitS
  cases h : okSh s && fitsB s with
  | false => rfl
  | true =>
    rw [Bool.and_eq_true] at h
    obtain ⟨hs, _⟩ := okSh_iff.1 h.1
    have eb : P_ae (s, ()) = some ((s.1, s.2.1, s.2.2.1, ()), ()) := p_ae s
    simp only [Option.bind_some, Bool.not_true, cond_false]
    rw [eb, f_must s h.1, f_allowed s h.1]
    simp only [Option.bind_some]
    rw [andNot64, f_an hs, has_cells hs (spare_has hs) (SL_srt hs)]
    rfl
theorem f_Greatest (s : D_Shadow) (hm : SmallS s) : P_bu (s, ()) = some (if fitS s then ((s.1, (s.2.1, (s.2.2.1, (AL s, ())))), true, ()) else ((0, (0, (0, ([], ())))), false, ())) := by
  rw [p_bu, f_isFitting s hm]
  unfold fitS
  cases h : okSh s && fitsB s with
  | false => rfl
  | true =>
    rw [Bool.and_eq_true] at h
    obtain ⟨hs, _⟩ := okSh_iff.1 h.1
    have eb : P_ae (s, ()) = some ((s.1, s.2.1, s.2.2.1, ()), ()) := p_ae s
    simp only [Option.bind_some, Bool.not_true, cond_false]
    rw [eb, f_allowed s h.1]
    simp only [Option.bind_some]
    rw [f_bv hs]
    rfl
theorem f_FitTogether (s : D_Shadow) (hm : SmallS s) : P_cb (s, ()) = some (if okSh s then (fitsB s, true, ()) else (false, false, ())) := by
  rw [p_cb, f_isShadow s hm]
  cases h : okSh s with
  | false => rfl
  | true =>
    simp only [Option.bind_some, Bool.not_true, cond_false]
    rw [f_fits s h]
    rfl
def isOfB (s : D_Shadow) (h : D_Heap) : Bool := decide (s.1 = h.1) && (decide (s.2.1 = h.2.1) && (decide (s.2.2.1 = h.2.2.1) && sameL s (shadowOf s.1 s.2.1 s.2.2.1 h.2.2.2.1)))
theorem f_IsShadowOf (s : D_Shadow) (h : D_Heap) (hm : SmallS s) (hl : Small h.2.2.2.1) (ho : okSh s = true) (hh : okHeap h = true) : P_bq (s, h, ()) = some (isOfB s h, true, ()) := by
  obtain ⟨hs, hi, hr⟩ := okHeap_iff.1 hh
  have eb : P_ae (s, ()) = some ((s.1, s.2.1, s.2.2.1, ()), ()) := p_ae s
  rw [p_bq, f_isShadow s hm, ho]
  simp only [Option.bind_some, Bool.not_true, cond_false]
  rw [f_aq _ hl, hh]
  simp only [Option.bind_some, Bool.not_true, cond_false]
  rw [eb, f_as]
  simp only [Option.bind_some, Bool.and_true]
  unfold isOfB
  by_cases e : s.1 = h.1 ∧ s.2.1 = h.2.1 ∧ s.2.2.1 = h.2.2.1
  · obtain ⟨e1, e2, e3⟩ := e
    have f3 : P_au (h, ()) = _ := f_au hs hl hi
    rw [decide_eq_true e1, decide_eq_true e2, decide_eq_true e3, f3]
    simp only [Bool.and_self, cond_true, Option.bind_some, Bool.true_and]
    have hcells : bitCells h.1 h.2.1 h.2.2.1 (mask h.2.1 h.2.2.1 h.2.2.2.1 0) = h.2.2.2.1 := (setIs_mask hs hi).cells hs hr fun c => by
      rw [decide_eq_true_eq]
      exact ⟨fun hc => ⟨hi c hc, hc⟩, fun hc => hc.2⟩
    rw [f_isOf s ho, e1, e2, e3, hcells]
    rfl
  · have : (decide (s.1 = h.1) && (decide (s.2.1 = h.2.1) && decide (s.2.2.1 = h.2.2.1))) = false := by
      rw [Bool.eq_false_iff]
      intro hn
      rw [Bool.and_eq_true, Bool.and_eq_true, decide_eq_true_eq, decide_eq_true_eq, decide_eq_true_eq] at hn
      exact e hn
    rw [this]
    have h2 : (decide (s.1 = h.1) && (decide (s.2.1 = h.2.1) && (decide (s.2.2.1 = h.2.2.1) && sameL s (shadowOf s.1 s.2.1 s.2.2.1 h.2.2.2.1)))) = false := by
      rw [← Bool.and_assoc, ← Bool.and_assoc]
      rw [← Bool.and_assoc] at this
      rw [this, Bool.false_and]
    rw [h2]
    rfl
end Go.VI
