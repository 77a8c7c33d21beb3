/- Plain: pieces at places. -/
import Derived.Test.YtdejhienahdoiaaGreatPlA
namespace Go.VI
open Go.Proofs
def ad (a c : D_A3) : D_A3 := (c.1 + a.1, c.2.1 + a.2.1, c.2.2.1 + a.2.2.1, ())
def mvP (q : List D_A3) (a : D_A3) : List D_A3 := q.map (ad a)
def fitB (X Y Z : Int) (F : D_A3 → Bool) (q : List D_A3) (a : D_A3) : Bool := (mvP q a).all fun c => within3 X Y Z c && F c
theorem mvP_len (q : List D_A3) (a : D_A3) : (mvP q a).length = q.length := by simp [mvP]
theorem ltC_ad (a c d : D_A3) : ltC (ad a c) (ad a d) = ltC c d := by
  rw [Bool.eq_iff_iff, ltC_iff, ltC_iff]
  simp only [ad]
  omega
theorem mvP_srt {q : List D_A3} (h : Srt q) (a : D_A3) : Srt (mvP q a) := List.pairwise_map.2 (h.imp fun {c d} hcd => by rw [ltC_ad]; exact hcd)
theorem ad_wrap {q : List D_A3} (hq : PieceOK q) {a c : D_A3} (ha : Near a) (hc : c ∈ q) : ((IntKind.wrap .i64 (c.1 + a.1), IntKind.wrap .i64 (c.2.1 + a.2.1), IntKind.wrap .i64 (c.2.2.1 + a.2.2.1), ()) : D_A3) = ad a c := by
  obtain ⟨h0, h1, h2⟩ := within3_iff.1 (hq.ins c hc)
  unfold Near at ha
  rw [w64 (by omega) (by omega), w64 (by omega) (by omega), w64 (by omega) (by omega)]
  rfl
theorem fit_at {X Y Z : Int} (hs : sides X Y Z = true) {F : D_A3 → Bool} {q : List D_A3} (hq : PieceOK q) {a : D_A3} (h : fitB X Y Z F q a = true) : (0 ≤ a.1 ∧ a.1 ≤ 3) ∧ (0 ≤ a.2.1 ∧ a.2.1 ≤ 3) ∧ 0 ≤ a.2.2.1 ∧ a.2.2.1 ≤ 3 := by
  obtain ⟨h1, h2, h3⟩ := sides_iff.1 hs
  have key : ∀ c ∈ q, within3 X Y Z (ad a c) = true := fun c hc => by
    have := List.all_eq_true.1 h (ad a c) (List.mem_map.2 ⟨c, hc, rfl⟩)
    rw [Bool.and_eq_true] at this
    exact this.1
  obtain ⟨c, hc, z⟩ := hq.z0
  obtain ⟨d, hd, z'⟩ := hq.z1
  obtain ⟨e, he, z''⟩ := hq.z2
  have a1 := within3_iff.1 (key c hc)
  have a2 := within3_iff.1 (key d hd)
  have a3 := within3_iff.1 (key e he)
  simp only [ad] at a1 a2 a3
  omega
theorem fitB_congr {X Y Z : Int} {F G : D_A3 → Bool} {q : List D_A3} {a : D_A3} (h : ∀ c, within3 X Y Z c = true → F c = G c) : fitB X Y Z F q a = fitB X Y Z G q a := by
  unfold fitB
  congr 1
  funext c
  cases hc : within3 X Y Z c with
  | false => rfl
  | true => rw [h c hc]
theorem fitB_cells {X Y Z : Int} {F : D_A3 → Bool} {q : List D_A3} {a : D_A3} (h : fitB X Y Z F q a = true) : ∀ c ∈ mvP q a, within3 X Y Z c = true ∧ F c = true := fun c hc => by
  have := List.all_eq_true.1 h c hc
  rwa [Bool.and_eq_true] at this
theorem len24 {l : List D_A3} (h : l.length ≤ 3000000) (n : Nat) (hn : n ≤ 3000000) : (decide ((l.length + n) * 24 ≤ 140737488355328) && decide (l.length + n ≤ 140737488355328)) = true := mid_len h n hn
theorem l_moved {q : List D_A3} (hq : PieceOK q) {a : D_A3} (ha : Near a) : ∀ (d k m : Nat) (acc : List D_A3), q.length = k + d → d < m → acc.length ≤ k → l_spec_l9Moved_3 m a.1 a.2.1 a.2.2.1 q acc (k : Int) = some (acc ++ mvP (q.drop k) a, ())
  | d, k, 0, acc, hk, hm, _ => by omega
  | d, k, m + 1, acc, hk, hm, hac => by
    have h5 := hq.len
    rw [q_spec_l9Moved_3]
    by_cases hlt : k < q.length
    · have hg : (decide ((acc.length + ([ad a q[k]] : List D_A3).length) * 24 ≤ 140737488355328) && decide (acc.length + ([ad a q[k]] : List D_A3).length ≤ 140737488355328)) = true := len24 (by omega) 1 (by omega)
      rw [ltT hlt, inB_at hlt, nthA (t := T_A3) hlt, ad_wrap hq ha (List.getElem_mem hlt), hg, succI k (by omega),
        l_moved hq ha (d - 1) (k + 1) m (acc ++ [ad a q[k]]) (by omega) (by omega) (by simp; omega), drop_at q k hlt]
      show some (acc ++ [ad a q[k]] ++ mvP (q.drop (k + 1)) a, ()) = some (acc ++ (ad a q[k] :: mvP (q.drop (k + 1)) a), ())
      rw [List.append_assoc]; rfl
    · rw [ltF hlt, List.drop_eq_nil_of_le (by omega)]
      simp [mvP]
theorem f_moved {q : List D_A3} (hq : PieceOK q) {a : D_A3} (ha : Near a) : P_spec_l9Moved (q, a, ()) = some (mvP q a, ()) := by
  have := l_moved hq ha q.length 0 N [] (by simp) (by have := N_ge; have := hq.len; omega) (by simp)
  rw [p_spec_l9Moved]
  simpa using this
theorem l_fits8 {X Y Z : Int} (hs : sides X Y Z = true) {L : List D_A3} (hL : Small L) {cs : List D_A3} (hc : cs.length ≤ 1000) : ∀ (d k m : Nat), cs.length = k + d → d < m →
    l_spec_l9Fits_8 m X Y Z L cs (k : Int) = some ((cs.drop k).all fun c => within3 X Y Z c && decide (c ∉ L), ())
  | d, k, 0, hk, hm => by omega
  | d, k, m + 1, hk, hm => by
    rw [q_spec_l9Fits_8]
    by_cases hlt : k < cs.length
    · rw [ltT hlt, inB_at hlt, nthA (t := T_A3) hlt, f_l2Has X Y Z L cs[k] hL, succI k (by omega), l_fits8 hs hL hc (d - 1) (k + 1) m (by omega) (by omega), drop_at cs k hlt]
      have hin : P_spec_l2In ((X, Y, Z, L, ()), cs[k], ()) = some (within3 X Y Z cs[k], ()) := f_spec_l2In (X, Y, Z, L, ()) cs[k] hs
      rw [hin]
      simp only [cond_true, Option.bind_some, List.all_cons]
      cases within3 X Y Z cs[k] with
      | false => rfl
      | true =>
        by_cases hm' : cs[k] ∈ L
        · simp [hm']
        · simp [hm']
    · rw [ltF hlt, List.drop_eq_nil_of_le (by omega)]; rfl
theorem f_fits {X Y Z : Int} (hs : sides X Y Z = true) {L : List D_A3} (hL : Small L) {q : List D_A3} (hq : PieceOK q) {a : D_A3} (ha : Near a) :
    P_spec_l9Fits ((X, Y, Z, L, ()), q, a, ()) = some (fitB X Y Z (fun c => decide (c ∉ L)) q a, ()) := by
  have h5 := hq.len
  have key : ¬ (((0 ≤ a.1 ∧ a.1 ≤ 3) ∧ (0 ≤ a.2.1 ∧ a.2.1 ≤ 3)) ∧ 0 ≤ a.2.2.1 ∧ a.2.2.1 ≤ 3) → fitB X Y Z (fun c => decide (c ∉ L)) q a = false := fun hn => by
    rw [Bool.eq_false_iff]
    intro hf
    have := fit_at hs hq hf
    exact hn ⟨⟨this.1, this.2.1⟩, this.2.2⟩
  have i0 : inB 0 3 = true := rfl
  have i1 : inB 1 3 = true := rfl
  have i2 : inB 2 3 = true := rfl
  rw [p_spec_l9Fits, N_eq, q_spec_l9Fits_2, one64]
  simp only [f_spec_l1In, i0, cond_true, Option.bind_some, decide_true, show decide ((0 : Int) < 3) = true from rfl]
  cases e0 : (decide (0 ≤ a.1) && decide (a.1 ≤ 3)) with
  | false =>
    rw [key (by rintro ⟨⟨⟨h, h'⟩, _⟩, _⟩; rw [decide_eq_true h, decide_eq_true h'] at e0; cases e0)]; rfl
  | true =>
    simp only [Bool.not_true, cond_false]
    rw [q_spec_l9Fits_2, two64]
    simp only [f_spec_l1In, i1, cond_true, Option.bind_some, decide_true, show decide ((1 : Int) < 3) = true from rfl, show decide ((1 : Int) = 0) = false from rfl, cond_false]
    cases e1 : (decide (0 ≤ a.2.1) && decide (a.2.1 ≤ 3)) with
    | false =>
      rw [key (by rintro ⟨⟨_, h, h'⟩, _⟩; rw [decide_eq_true h, decide_eq_true h'] at e1; cases e1)]; rfl
    | true =>
      simp only [Bool.not_true, cond_false]
      rw [q_spec_l9Fits_2, three64]
      simp only [f_spec_l1In, i2, cond_true, Option.bind_some, show decide ((2 : Int) < 3) = true from rfl, show decide ((2 : Int) = 0) = false from rfl, show decide ((2 : Int) = 1) = false from rfl, cond_false]
      cases e2 : (decide (0 ≤ a.2.2.1) && decide (a.2.2.1 ≤ 3)) with
      | false =>
        rw [key (by rintro ⟨_, h, h'⟩; rw [decide_eq_true h, decide_eq_true h'] at e2; cases e2)]; rfl
      | true =>
        simp only [Bool.not_true, cond_false]
        rw [q_spec_l9Fits_2]
        have hm : P_spec_l9Moved (q, (a.1, a.2.1, a.2.2.1, ()), ()) = some (mvP q a, ()) := f_moved hq ha
        simp only [show decide ((3 : Int) < 3) = false from rfl, cond_false]
        rw [hm]
        have := l_fits8 hs hL (cs := mvP q a) (by rw [mvP_len]; omega) (mvP q a).length 0 N (by simp) (by rw [mvP_len]; have := N_ge; omega)
        simp only [Int.natCast_zero, List.drop_zero] at this
        simp only [Option.bind_some]
        rw [this]
        rfl
theorem l_placed {X Y Z : Int} (hs : sides X Y Z = true) {q : List D_A3} (hq : PieceOK q) {a : D_A3} (ha : Near a) (v : BitVec 64) : ∀ (d k m : Nat) (w : BitVec 64), q.length = k + d → d < m →
    l_box_placed_5 m X Y Z a.1 a.2.1 a.2.2.1 (v.toNat : Int) (w.toNat : Int) q (q.length : Int) (k : Int) =
      some (bif fitB X Y Z (fun c => v.getLsbD (idx Y Z c)) (q.drop k) a then (((mask Y Z (mvP (q.drop k) a) w).toNat : Int), true, ()) else (0, false, ()))
  | d, k, 0, w, hk, hm => by omega
  | d, k, m + 1, w, hk, hm => by
    have h5 := hq.len
    rw [q_box_placed_5]
    by_cases hlt : k < q.length
    · have had : P_impl_added (q[k], (a.1, a.2.1, a.2.2.1, ()), ()) = some (ad a q[k], ()) := by
        rw [p_impl_added]
        have := ad_wrap hq ha (List.getElem_mem hlt)
        exact congrArg (fun x : D_A3 => some (x, ())) this
      rw [ltT hlt, inB_at hlt, nthA (t := T_A3) hlt, had, drop_at q k hlt]
      have hb : P_box_has ((X, Y, Z, ()), ad a q[k], ()) = some (within3 X Y Z (ad a q[k]), ()) := f_box_has (X, Y, Z, ()) _ hs
      simp only [cond_true, Option.bind_some, hb]
      have hcons : fitB X Y Z (fun c => v.getLsbD (idx Y Z c)) (q[k] :: q.drop (k + 1)) a = (within3 X Y Z (ad a q[k]) && v.getLsbD (idx Y Z (ad a q[k])) && fitB X Y Z (fun c => v.getLsbD (idx Y Z c)) (q.drop (k + 1)) a) := rfl
      rw [hcons]
      cases hw : within3 X Y Z (ad a q[k]) with
      | false => rfl
      | true =>
        rw [f_box_index hs hw]
        simp only [Option.bind_some, f_set_has, Bool.not_true, cond_false, Bool.true_and]
        cases v.getLsbD (idx Y Z (ad a q[k])) with
        | false => rfl
        | true =>
          simp only [Bool.not_true, cond_false, Bool.true_and, decide_eq_true (Int.natCast_nonneg (idx Y Z (ad a q[k]))), cond_true]
          rw [shl64, or64, succI k (by omega), l_placed hs hq ha v (d - 1) (k + 1) m _ (by omega) (by omega)]
          rfl
    · rw [ltF hlt, List.drop_eq_nil_of_le (by omega)]; rfl
theorem f_placed {X Y Z : Int} (hs : sides X Y Z = true) {q : List D_A3} (hq : PieceOK q) {a : D_A3} (ha : Near a) (v : BitVec 64) :
    P_box_placed ((X, Y, Z, ()), (v.toNat : Int), q, a, ()) =
      some (bif fitB X Y Z (fun c => v.getLsbD (idx Y Z c)) q a then (((mask Y Z (mvP q a) 0).toNat : Int), true, ()) else (0, false, ())) := by
  have hl := l_placed hs hq ha v q.length 0 N 0 (by simp) (by have := N_ge; have := hq.len; omega)
  simp only [Int.natCast_zero, List.drop_zero] at hl
  rw [p_box_placed, f_allWithin _ (by unfold Small; simp)]
  simp only [Option.bind_some, List.all_cons, List.all_nil, Bool.and_true]
  by_cases hr : (0 ≤ a.1 ∧ a.1 ≤ 4) ∧ (0 ≤ a.2.1 ∧ a.2.1 ≤ 4) ∧ 0 ≤ a.2.2.1 ∧ a.2.2.1 ≤ 4
  · rw [decide_eq_true hr.1.1, decide_eq_true hr.1.2, decide_eq_true hr.2.1.1, decide_eq_true hr.2.1.2, decide_eq_true hr.2.2.1, decide_eq_true hr.2.2.2]
    exact hl
  · have hf : fitB X Y Z (fun c => v.getLsbD (idx Y Z c)) q a = false := by
      rw [Bool.eq_false_iff]
      intro hf
      have := fit_at hs hq hf
      exact hr (by omega)
    have hr' : ((decide (0 ≤ a.1) && decide (a.1 ≤ 4)) && ((decide (0 ≤ a.2.1) && decide (a.2.1 ≤ 4)) && (decide (0 ≤ a.2.2.1) && decide (a.2.2.1 ≤ 4)))) = false := by
      rw [Bool.eq_false_iff]
      intro h
      simp only [Bool.and_eq_true, decide_eq_true_eq] at h
      exact hr h
    rw [hr', hf]
    rfl
def atL (Y Z : Int) (l : List Int) (c : D_A3) : Int := l.getD (idx Y Z c) 0
def putC (Y Z : Int) (l : List Int) (cs : List D_A3) (i : Int) : List Int := cs.foldl (fun l c => l.set (idx Y Z c) i) l
theorem putC_len (Y Z i : Int) : ∀ (cs : List D_A3) (l : List Int), (putC Y Z l cs i).length = l.length
  | [], l => rfl
  | c :: r, l => by
    show (putC Y Z (l.set (idx Y Z c) i) r i).length = _
    rw [putC_len Y Z i r, List.length_set]
theorem getD_set {l : List Int} {j k : Nat} {i : Int} (hj : j < l.length) : (l.set j i).getD k 0 = if k = j then i else l.getD k 0 := by
  by_cases h : k = j
  · subst h
    rw [if_pos rfl]
    simp [List.getD, hj]
  · rw [if_neg h]
    simp [List.getD, Ne.symm h]
theorem putC_get (Y Z i : Int) (k : Nat) : ∀ (cs : List D_A3) (l : List Int), (∀ c ∈ cs, idx Y Z c < l.length) → (putC Y Z l cs i).getD k 0 = if (∃ c ∈ cs, idx Y Z c = k) then i else l.getD k 0
  | [], l, _ => by simp [putC]
  | c :: r, l, h => by
    show (putC Y Z (l.set (idx Y Z c) i) r i).getD k 0 = _
    rw [putC_get Y Z i k r _ (fun d hd => by rw [List.length_set]; exact h d (by simp [hd])), getD_set (h c (by simp))]
    by_cases h1 : ∃ d ∈ r, idx Y Z d = k
    · rw [if_pos h1, if_pos (by obtain ⟨d, hd, e⟩ := h1; exact ⟨d, by simp [hd], e⟩)]
    · rw [if_neg h1]
      by_cases h2 : k = idx Y Z c
      · rw [if_pos h2, if_pos ⟨c, by simp, h2.symm⟩]
      · rw [if_neg h2, if_neg]
        rintro ⟨d, hd, e⟩
        rcases List.mem_cons.1 hd with rfl | hd
        · exact h2 e.symm
        · exact h1 ⟨d, hd, e⟩
theorem f_place {X Y Z : Int} (hs : sides X Y Z = true) (L : List D_A3) {c : D_A3} (hc : within3 X Y Z c = true) : P_spec_l9Place ((X, Y, Z, L, ()), c, ()) = some ((idx Y Z c : Int), ()) := by
  obtain ⟨h1, h2, h3, h4, h5, h6⟩ := idx_eq hs hc
  have hw := within3_iff.1 hc
  obtain ⟨s1, s2, s3⟩ := sides_iff.1 hs
  rw [p_spec_l9Place, h1]
  simp only
  rw [w64 (x := c.1 * Y) (by omega) (by omega), w64 (x := c.1 * Y + c.2.1) (by omega) (by omega), w64 (x := (c.1 * Y + c.2.1) * Z) (by omega) (by omega), w64 (by omega) (by omega)]
theorem l_put {X Y Z : Int} (hs : sides X Y Z = true) (L : List D_A3) {cs : List D_A3} (h9 : cs.length ≤ 1000) (hc : Ins X Y Z cs) (hr : Srt cs) (i : Int) : ∀ (d k m : Nat) (l : List Int), cs.length = k + d → d < m → l.length = (X * Y * Z).toNat →
    l_spec_l9Put_5 m X Y Z L i l cs (k : Int) = some (bif ((cs.drop k).all fun c => decide (atL Y Z l c = -2)) then (putC Y Z l (cs.drop k) i, true, ()) else ([], false, ()))
  | d, k, 0, l, hk, hm, _ => by omega
  | d, k, m + 1, l, hk, hm, hl => by
    rw [q_spec_l9Put_5]
    by_cases hlt : k < cs.length
    · have hw := hc cs[k] (List.getElem_mem hlt)
      obtain ⟨_, hix, _⟩ := idx_eq hs hw
      have hb : inB (idx Y Z cs[k] : Int) l.length = true := inB_at (by omega)
      have hn : nth (.int .i64) l (idx Y Z cs[k] : Int) = atL Y Z l cs[k] := by
        rw [nthA (t := .int .i64) (by omega)]
        simp [atL, List.getD, List.getElem?_eq_getElem (show idx Y Z cs[k] < l.length by omega)]
      rw [ltT hlt, inB_at hlt, nthA (t := T_A3) hlt, f_place hs L hw, drop_at cs k hlt]
      simp only [cond_true, Option.bind_some, hb, hn, List.all_cons]
      by_cases h2 : atL Y Z l cs[k] = -2
      · have ih := l_put hs L h9 hc hr i (d - 1) (k + 1) m (l.set (idx Y Z cs[k]) i) (by omega) (by omega) (by rw [List.length_set]; exact hl)
        have hall : ((cs.drop (k + 1)).all fun c => decide (atL Y Z (l.set (idx Y Z cs[k]) i) c = -2)) = ((cs.drop (k + 1)).all fun c => decide (atL Y Z l c = -2)) := by
          rw [Bool.eq_iff_iff, List.all_eq_true, List.all_eq_true]
          have hne : ∀ d ∈ cs.drop (k + 1), atL Y Z (l.set (idx Y Z cs[k]) i) d = atL Y Z l d := fun d hd => by
            unfold atL
            rw [getD_set (by omega), if_neg]
            intro e
            have hdw := hc d (List.mem_of_mem_drop hd)
            have := idx_inj hs hdw hw e
            have hp : Srt (cs.drop k) := List.Pairwise.sublist (List.drop_sublist k cs) hr
            rw [drop_at cs k hlt] at hp
            have := (List.pairwise_cons.1 hp).1 d hd
            rw [‹d = cs[k]›, ltC_irrefl] at this
            cases this
          exact ⟨fun h d hd => by rw [← hne d hd]; exact h d hd, fun h d hd => by rw [hne d hd]; exact h d hd⟩
        rw [decide_eq_true h2, Int.toNat_natCast, succI k (by omega), ih, hall]
        simp only [Bool.not_true, cond_false, Bool.true_and]
        rfl
      · rw [decide_eq_false h2]; rfl
    · rw [ltF hlt, List.drop_eq_nil_of_le (by omega)]; rfl
theorem l_own (l : List Int) (hl : Small l) : P_spec_l1Own (l, ()) = some (l, ()) := by
  unfold Small at hl
  rw [p_spec_l1Own]
  simp only [List.length_nil, Nat.zero_add, List.nil_append]
  rw [decide_eq_true (by omega), decide_eq_true (by omega)]
  rfl
theorem f_put {X Y Z : Int} (hs : sides X Y Z = true) {L : List D_A3} (hL : Small L) {q : List D_A3} (hq : PieceOK q) {a : D_A3} (ha : Near a) {l : List Int} (hl : l.length = (X * Y * Z).toNat) (i : Int)
    (hc : ∀ c, within3 X Y Z c = true → atL Y Z l c = -2 → c ∉ L) :
    P_spec_l9Put ((X, Y, Z, L, ()), q, a, l, i, ()) = some (bif fitB X Y Z (fun c => decide (atL Y Z l c = -2)) q a then (putC Y Z l (mvP q a) i, true, ()) else ([], false, ())) := by
  have h5 := hq.len
  have h64 := size64 hs
  rw [p_spec_l9Put, f_fits hs hL hq ha]
  simp only [Option.bind_some]
  cases hf : fitB X Y Z (fun c => decide (c ∉ L)) q a with
  | false =>
    have : fitB X Y Z (fun c => decide (atL Y Z l c = -2)) q a = false := by
      rw [Bool.eq_false_iff]
      intro h
      rw [Bool.eq_false_iff] at hf
      apply hf
      apply List.all_eq_true.2
      intro c hcm
      obtain ⟨h1, h2⟩ := fitB_cells h c hcm
      rw [h1, Bool.true_and]
      exact decide_eq_true (hc c h1 (by simpa using h2))
    rw [this]; rfl
  | true =>
    have hin : Ins X Y Z (mvP q a) := fun c hcm => (fitB_cells hf c hcm).1
    have hp := l_put hs L (cs := mvP q a) (by rw [mvP_len]; omega) hin (mvP_srt hq.srt a) i (mvP q a).length 0 N l (by simp) (by rw [mvP_len]; have := N_ge; omega) hl
    simp only [Int.natCast_zero, List.drop_zero] at hp
    have e : ((mvP q a).all fun c => decide (atL Y Z l c = -2)) = fitB X Y Z (fun c => decide (atL Y Z l c = -2)) q a := by
      unfold fitB
      rw [Bool.eq_iff_iff, List.all_eq_true, List.all_eq_true]
      exact ⟨fun h c hcm => by rw [hin c hcm, Bool.true_and]; exact h c hcm, fun h c hcm => by have := h c hcm; rw [Bool.and_eq_true] at this; exact this.2⟩
    rw [l_own l (by unfold Small; omega), f_moved hq ha]
    simp only [Bool.not_true, cond_false, Option.bind_some]
    rw [hp, e]
end Go.VI
namespace Go.VI
open Go.Proofs
def isF (x : Int) : Bool := decide (x = -2)
def fstI (l : List Int) : Nat := l.findIdx isF
def posP (q : List D_A3) (c : D_A3) : D_A3 := match q with
  | [] => c
  | p :: _ => (c.1 - p.1, c.2.1 - p.2.1, c.2.2.1 - p.2.2.1, ())
def allIn (n : Nat) (l : List Int) : Bool := (List.range n).all fun i : Nat => decide ((i : Int) ∈ l)
def freeF (Y Z : Int) (l : List Int) (c : D_A3) : Bool := decide (atL Y Z l c = -2)
def solP (X Y Z : Int) (rec : List Int → List (List Int)) (l : List Int) (c : D_A3) : Nat → List (List D_A3) → List (List Int)
  | _, [] => []
  | i, q :: r => (bif decide ((i : Int) ∈ l) then [] else bif fitB X Y Z (freeF Y Z l) q (posP q c) then rec (putC Y Z l (mvP q (posP q c)) (i : Int)) else []) ++ solP X Y Z rec l c (i + 1) r
def sols (X Y Z : Int) (ps : List (List D_A3)) : Nat → List Int → List (List Int)
  | 0, _ => []
  | m + 1, l => bif decide (fstI l < l.length) then solP X Y Z (sols X Y Z ps m) l (cellOf Y Z (fstI l)) 0 ps else bif allIn ps.length l then [l] else []
def visits {σ : Type} (run : List Int → σ → Bool × σ) : List (List Int) → σ → Bool × σ
  | [], s => (true, s)
  | x :: r, s => bif (run x s).1 then visits run r (run x s).2 else (false, (run x s).2)
theorem visits_append {σ : Type} (run : List Int → σ → Bool × σ) : ∀ (xs ys : List (List Int)) (s : σ), visits run (xs ++ ys) s = bif (visits run xs s).1 then visits run ys (visits run xs s).2 else visits run xs s
  | [], ys, s => rfl
  | x :: r, ys, s => by
    simp only [List.cons_append, visits]
    cases (run x s).1 with
    | false => rfl
    | true => exact visits_append run r ys _
theorem solP_len {X Y Z : Int} {rec : List Int → List (List Int)} {B : Nat} {l : List Int} (c : D_A3) : ∀ (i : Nat) (ps : List (List D_A3)), (∀ l' : List Int, (rec l').length ≤ B) → (solP X Y Z rec l c i ps).length ≤ ps.length * B
  | _, [], _ => by simp [solP]
  | i, q :: r, h => by
    have ih := solP_len (X := X) (Y := Y) (Z := Z) (l := l) c (i + 1) r h
    have e : ((bif decide ((i : Int) ∈ l) then [] else bif fitB X Y Z (freeF Y Z l) q (posP q c) then rec (putC Y Z l (mvP q (posP q c)) (i : Int)) else []) : List (List Int)).length ≤ B := by
      cases decide ((i : Int) ∈ l) with
      | true => simp
      | false =>
        cases fitB X Y Z (freeF Y Z l) q (posP q c) with
        | false => simp
        | true => exact h _
    simp only [solP, List.length_append, List.length_cons, Nat.succ_mul]
    omega
theorem sols_len {X Y Z : Int} {ps : List (List D_A3)} (h8 : ps.length ≤ 8) : ∀ (m : Nat) (l : List Int), (sols X Y Z ps m l).length ≤ 8 ^ m
  | 0, l => by simp [sols]
  | m + 1, l => by
    rw [sols]
    cases decide (fstI l < l.length) with
    | true =>
      have := solP_len (X := X) (Y := Y) (Z := Z) (rec := sols X Y Z ps m) (B := 8 ^ m) (l := l) (cellOf Y Z (fstI l)) 0 ps (sols_len h8 m)
      have h2 : ps.length * 8 ^ m ≤ 8 * 8 ^ m := Nat.mul_le_mul_right _ h8
      rw [Nat.pow_succ]
      simp only [cond_true]
      omega
    | false =>
      have : 1 ≤ 8 ^ (m + 1) := Nat.one_le_pow _ _ (by omega)
      cases allIn ps.length l <;> simp <;> omega
def left (n : Nat) (l : List Int) : Nat := ((List.range n).filter fun i : Nat => decide ((i : Int) ∉ l)).length
theorem left_le (n : Nat) (l : List Int) : left n l ≤ n := by
  unfold left
  have := List.length_filter_le (fun i : Nat => decide ((i : Int) ∉ l)) (List.range n)
  rwa [List.length_range] at this
theorem fit_idx {X Y Z : Int} (hs : sides X Y Z = true) {F : D_A3 → Bool} {q : List D_A3} {a : D_A3} {l : List Int} (hl : l.length = (X * Y * Z).toNat) (h : fitB X Y Z F q a = true) : ∀ c ∈ mvP q a, idx Y Z c < l.length := fun c hc => by
  rw [hl]
  exact (idx_eq hs (fitB_cells h c hc).1).2.1
theorem mem_getD {l : List Int} {y : Int} : y ∈ l ↔ ∃ k, k < l.length ∧ l.getD k 0 = y := by
  constructor
  · intro h
    obtain ⟨k, hk, e⟩ := List.mem_iff_getElem.1 h
    exact ⟨k, hk, by simp [List.getD, List.getElem?_eq_getElem hk, e]⟩
  · rintro ⟨k, hk, rfl⟩
    simp [List.getD, List.getElem?_eq_getElem hk]
theorem mem_put {X Y Z : Int} (hs : sides X Y Z = true) {q : List D_A3} (hq : q ≠ []) {a : D_A3} {l : List Int} (hl : l.length = (X * Y * Z).toNat) (h : fitB X Y Z (freeF Y Z l) q a = true) (i j : Nat) :
    (j : Int) ∈ putC Y Z l (mvP q a) (i : Int) ↔ j = i ∨ (j : Int) ∈ l := by
  rw [mem_getD, mem_getD, putC_len]
  have hix := fit_idx hs hl h
  constructor
  · rintro ⟨k, hk, e⟩
    rw [putC_get Y Z _ k _ _ hix] at e
    split at e
    · exact .inl (by omega)
    · exact .inr ⟨k, hk, e⟩
  · rintro (rfl | ⟨k, hk, e⟩)
    · obtain ⟨c, r, rfl⟩ := List.exists_cons_of_ne_nil hq
      have hm : ad a c ∈ mvP (c :: r) a := List.mem_map.2 ⟨c, by simp, rfl⟩
      exact ⟨idx Y Z (ad a c), hix _ hm, by rw [putC_get Y Z _ _ _ _ hix, if_pos ⟨_, hm, rfl⟩]⟩
    · refine ⟨k, hk, ?_⟩
      rw [putC_get Y Z _ k _ _ hix, if_neg, e]
      rintro ⟨c, hc, rfl⟩
      have := (fitB_cells h c hc).2
      unfold freeF atL at this
      rw [e] at this
      have := of_decide_eq_true this
      omega
theorem left_put {X Y Z : Int} (hs : sides X Y Z = true) {q : List D_A3} (hq : q ≠ []) {a : D_A3} {l : List Int} (hl : l.length = (X * Y * Z).toNat) (h : fitB X Y Z (freeF Y Z l) q a = true) {n i : Nat} (hi : i < n) (hm : (i : Int) ∉ l) :
    left n (putC Y Z l (mvP q a) (i : Int)) < left n l := by
  unfold left
  refine filter_lt _ _ _ (fun j _ hj => ?_) ⟨i, List.mem_range.2 hi, by simpa using hm, ?_⟩
  · have hj' := of_decide_eq_true hj
    rw [mem_put hs hq hl h] at hj'
    exact decide_eq_true fun hh => hj' (.inr hh)
  · apply decide_eq_false
    rw [Classical.not_not, mem_put hs hq hl h]
    exact .inl rfl
theorem put_free {X Y Z : Int} (hs : sides X Y Z = true) {q : List D_A3} {a : D_A3} {l : List Int} (hl : l.length = (X * Y * Z).toNat) (h : fitB X Y Z (freeF Y Z l) q a = true) (i : Nat) {c : D_A3} (hc : within3 X Y Z c = true) :
    atL Y Z (putC Y Z l (mvP q a) (i : Int)) c = if c ∈ mvP q a then (i : Int) else atL Y Z l c := by
  unfold atL
  rw [putC_get Y Z _ _ _ _ (fit_idx hs hl h)]
  by_cases hm : c ∈ mvP q a
  · rw [if_pos hm, if_pos ⟨c, hm, rfl⟩]
  · rw [if_neg hm, if_neg]
    rintro ⟨d, hd, e⟩
    exact hm (idx_inj hs (fitB_cells h d hd).1 hc e ▸ hd)
theorem l_has (l : List Int) (hl : Small l) (x : Int) : ∀ (d k m : Nat), l.length = k + d → d < m → l_spec_l1Has_2 m l x (k : Int) = some (decide (x ∈ l.drop k), ())
  | d, k, 0, hk, hm => by omega
  | d, k, m + 1, hk, hm => by
    have hl' := hl
    unfold Small at hl'
    rw [q_spec_l1Has_2]
    by_cases hlt : k < l.length
    · rw [ltT hlt, inB_at hlt, nthA (t := .int .i64) hlt, succI k (by omega), l_has l hl x (d - 1) (k + 1) m (by omega) (by omega), drop_at l k hlt]
      simp only [cond_true]
      by_cases he : l[k] = x
      · rw [decide_eq_true he]
        simp [he]
      · rw [decide_eq_false he]
        simp only [List.mem_cons, Ne.symm he, false_or, cond_false]
    · rw [ltF hlt, List.drop_eq_nil_of_le (by omega)]
      simp
theorem f_has (l : List Int) (hl : Small l) (x : Int) : P_spec_l1Has (l, x, ()) = some (decide (x ∈ l), ()) := by
  have := l_has l hl x l.length 0 N (by simp) (by unfold Small at hl; have := N_ge; omega)
  rw [p_spec_l1Has]
  simp only [Int.natCast_zero, List.drop_zero] at this
  exact this
abbrev Fd : Type := List Int × Int
def fdV (s : Fd) : D_l9Found := (s.1, s.2, ())
def runR (once : Bool) (x : List Int) (s : Fd) : Bool × Fd := (!once, (if s.2 = 0 then x else s.1, s.2 + 1))
theorem visR (once : Bool) : ∀ (xs : List (List Int)) (s : Fd), 0 ≤ s.2 → (once = true → s.2 = 0) →
    0 ≤ (visits (runR once) xs s).2.2 ∧ (visits (runR once) xs s).2.2 ≤ s.2 + xs.length ∧ ((visits (runR once) xs s).1 = false → once = true ∧ 0 < (visits (runR once) xs s).2.2) ∧ ((visits (runR once) xs s).1 = true → once = true → (visits (runR once) xs s).2.2 = 0)
  | [], s, h, h1 => ⟨h, by simp [visits], fun e => by simp [visits] at e, fun _ ho => h1 ho⟩
  | x :: r, s, h, h1 => by
    cases once with
    | true =>
      have := h1 rfl
      simp only [visits, runR, Bool.not_true, cond_false]
      refine ⟨by omega, ?_, fun _ => ⟨trivial, by omega⟩, fun e => by cases e⟩
      simp only [List.length_cons]
      omega
    | false =>
      obtain ⟨a, b, c, d⟩ := visR false r (if s.2 = 0 then x else s.1, s.2 + 1) (by show 0 ≤ s.2 + 1; omega) (fun e => by cases e)
      simp only [visits, runR, Bool.not_false, cond_true]
      refine ⟨a, ?_, c, d⟩
      simp only [List.length_cons]
      have b' : (visits (runR false) r (if s.2 = 0 then x else s.1, s.2 + 1)).2.2 ≤ s.2 + 1 + r.length := b
      unfold runR at b'
      omega
theorem l_search6 (k : Nat) (s : Fd) (h0 : 0 ≤ s.2) (h1 : s.2 ≤ 1152921504606846976) (p2 : List Int) (p3 : Int) (ps : List (List D_A3)) (h8 : ps.length ≤ 8) (l : List Int) (hl : Small l) : ∀ (d j m : Nat), ps.length = j + d → d < m →
    l_spec_l9Search_6 k m s.1 s.2 p2 p3 ps l (j : Int) = some (fdV (bif (List.range' j d).all fun i : Nat => decide ((i : Int) ∈ l) then (if s.2 = 0 then l else s.1, s.2 + 1) else s), ())
  | d, j, 0, hj, hm => by omega
  | d, j, m + 1, hj, hm => by
    rw [q_spec_l9Search_6]
    by_cases hlt : j < ps.length
    · obtain ⟨d', rfl⟩ : ∃ d', d = d' + 1 := ⟨d - 1, by omega⟩
      rw [ltT hlt, f_has l hl, succI j (by omega), l_search6 k s h0 h1 p2 p3 ps h8 l hl d' (j + 1) m (by omega) (by omega), List.range'_succ]
      simp only [cond_true, Option.bind_some, List.all_cons]
      cases decide ((j : Int) ∈ l) <;> rfl
    · obtain rfl : d = 0 := by omega
      rw [ltF hlt, w64 (x := s.2 + 1) (by omega) (by omega)]
      simp only [cond_false, List.range'_zero, List.all_nil, cond_true, fdV]
      by_cases hz : s.2 = 0
      · rw [decide_eq_true hz, if_pos hz]; rfl
      · rw [decide_eq_false hz, if_neg hz]; rfl
theorem fst_before {l : List Int} {j : Nat} (hj : j < fstI l) : l.getD j 0 ≠ -2 := by
  intro e
  have hlt : j < l.length := Nat.lt_of_lt_of_le hj List.findIdx_le_length
  have := List.not_of_lt_findIdx hj
  have e' : l[j] = -2 := by simpa [List.getD, List.getElem?_eq_getElem hlt] using e
  rw [e'] at this
  exact absurd this (by decide)
theorem fst_at {l : List Int} (h : fstI l < l.length) : l[fstI l] = -2 := by
  have := List.findIdx_getElem (p := isF) (xs := l) (w := h)
  exact of_decide_eq_true this
theorem nth_all {X Y Z : Int} (hs : sides X Y Z = true) {j : Nat} (hj : j < (X * Y * Z).toNat) : (allCells X Y Z).length = (X * Y * Z).toNat ∧ nth T_A3 (allCells X Y Z) (j : Int) = cellOf Y Z j := by
  have e := upto_all hs
  have hlen : (allCells X Y Z).length = (X * Y * Z).toNat := by rw [← e]; simp [upto]
  refine ⟨hlen, ?_⟩
  rw [nthA (t := T_A3) (by rw [hlen]; exact hj)]
  simp only [← e]
  simp [upto]
theorem l_search2 {X Y Z : Int} (hs : sides X Y Z = true) (L : List D_A3) (k : Nat) (s : Fd) (ps : List (List D_A3)) (l : List Int) (hl : l.length = (X * Y * Z).toNat) (once : Bool) : ∀ (d j m : Nat), fstI l = j + d → d < m →
    l_spec_l9Search_2 k m X Y Z L s.1 s.2 [] 0 ps l once (j : Int) = bif decide (fstI l < l.length) then l_spec_l9Search_16 k N X Y Z L s.1 s.2 [] 0 (cellOf Y Z (fstI l)).1 (cellOf Y Z (fstI l)).2.1 (cellOf Y Z (fstI l)).2.2.1 ps l once 0
      else l_spec_l9Search_6 k N s.1 s.2 [] 0 ps l 0
  | d, j, 0, hj, hm => by omega
  | d, j, m + 1, hj, hm => by
    have h64 := size64 hs
    have hle : fstI l ≤ l.length := List.findIdx_le_length
    rw [q_spec_l9Search_2]
    by_cases hlt : j < l.length
    · have hn : nth (.int .i64) l (j : Int) = l[j] := nthA (t := .int .i64) hlt
      rw [ltT hlt, inB_at hlt, hn]
      simp only [cond_true]
      by_cases hd : d = 0
      · subst hd
        obtain rfl : fstI l = j := hj
        have ha := nth_all hs (j := fstI l) (by omega)
        rw [fst_at hlt, decide_eq_false (p := ((fstI l : Nat) : Int) = (l.length : Int)) (by omega), f_l2All L hs, decide_eq_true hlt]
        simp only [decide_true, Bool.not_true, cond_false, Option.bind_some, cond_true]
        rw [inB_at (by rw [ha.1]; omega), ha.2]
        rfl
      · have hne := fst_before (l := l) (j := j) (by omega)
        have hne' : l[j] ≠ -2 := by simpa [List.getD, List.getElem?_eq_getElem hlt] using hne
        rw [decide_eq_false hne', succI j (by omega)]
        simp only [Bool.not_false, cond_true]
        exact l_search2 hs L k s ps l hl once (d - 1) (j + 1) m (by omega) (by omega)
    · have e : fstI l = l.length := by omega
      rw [ltF hlt, decide_eq_true (p := (j : Int) = (l.length : Int)) (by omega), decide_eq_false (p := fstI l < l.length) (by omega)]
      rfl
end Go.VI
namespace Go.VI
open Go.Proofs
structure GoodL (X Y Z : Int) (L : List D_A3) (l : List Int) : Prop where
  len : l.length = (X * Y * Z).toNat
  cube : ∀ c, within3 X Y Z c = true → atL Y Z l c = -2 → c ∉ L
theorem GoodL.put {X Y Z : Int} {L : List D_A3} {l : List Int} (g : GoodL X Y Z L l) (hs : sides X Y Z = true) {q : List D_A3} {a : D_A3} (h : fitB X Y Z (freeF Y Z l) q a = true) (i : Nat) : GoodL X Y Z L (putC Y Z l (mvP q a) (i : Int)) :=
  ⟨by rw [putC_len]; exact g.len, fun c hc e => by
    rw [put_free hs g.len h i hc] at e
    split at e
    · omega
    · exact g.cube c hc e⟩
theorem pos_near {X Y Z : Int} (hs : sides X Y Z = true) {q : List D_A3} (hq : PieceOK q) {c : D_A3} (hc : within3 X Y Z c = true) : Near (posP q c) ∧
    ∀ p r, q = p :: r → ((IntKind.wrap .i64 (c.1 - p.1), IntKind.wrap .i64 (c.2.1 - p.2.1), IntKind.wrap .i64 (c.2.2.1 - p.2.2.1), ()) : D_A3) = posP q c := by
  obtain ⟨p, r, rfl⟩ := List.exists_cons_of_ne_nil hq.ne
  have h1 := within3_iff.1 (hq.ins p (by simp))
  have h2 := within3_iff.1 hc
  obtain ⟨s1, s2, s3⟩ := sides_iff.1 hs
  refine ⟨?_, ?_⟩
  · show Near (c.1 - p.1, c.2.1 - p.2.1, c.2.2.1 - p.2.2.1, ())
    unfold Near
    simp only
    omega
  · rintro p' r' e
    obtain ⟨rfl, rfl⟩ := List.cons.inj e
    rw [w64 (by omega) (by omega), w64 (by omega) (by omega), w64 (by omega) (by omega)]
    rfl
def maxB : Int := 1152921504606846976
section
variable {X Y Z : Int} (hs : sides X Y Z = true) {L : List D_A3} (hL : Small L) {ps : List (List D_A3)} (h8 : ps.length ≤ 8) (hps : ∀ q ∈ ps, PieceOK q) (once : Bool)
include hs hL h8 hps
omit hs hL h8 hps in
theorem stop16 (k m : Nat) (s : Fd) (hz : 0 < s.2) (ho : once = true) (p : Int) (l : List Int) (c0 c1 c2 : Int) : l_spec_l9Search_16 k (m + 1) X Y Z L s.1 s.2 [] 0 c0 c1 c2 ps l once p = some (fdV s, ()) := by
  subst ho
  rw [q_spec_l9Search_16, decide_eq_true (p := s.2 > 0) hz]
  cases decide (p < (ps.length : Int)) <;> rfl
theorem l_search16 (k m : Nat)
    (hrec : ∀ (l' : List Int) (s' : Fd), GoodL X Y Z L l' → left ps.length l' < m → 0 ≤ s'.2 → s'.2 + 8 ^ m ≤ maxB → (once = true → s'.2 = 0) → Pk_spec_l9Search k ((X, Y, Z, L, ()), ps, l', once, fdV s', ()) = some (fdV (visits (runR once) (sols X Y Z ps m l') s').2, ()))
    {l : List Int} (g : GoodL X Y Z L l) (hleft : left ps.length l < m + 1) {c : D_A3} (hc : within3 X Y Z c = true) : ∀ (d i mm : Nat) (s : Fd), ps.length = i + d → d < mm → 0 ≤ s.2 → s.2 + d * 8 ^ m ≤ maxB → (once = true → s.2 = 0) →
    l_spec_l9Search_16 k mm X Y Z L s.1 s.2 [] 0 c.1 c.2.1 c.2.2.1 ps l once (i : Int) = some (fdV (visits (runR once) (solP X Y Z (sols X Y Z ps m) l c i (ps.drop i)) s).2, ())
  | d, i, 0, s, hi, hm, _, _, _ => by omega
  | d, i, mm + 1, s, hi, hm, h0, hB, ho => by
    have h64 := size64 hs
    have hsl : Small l := by unfold Small; rw [g.len]; omega
    by_cases hlt : i < ps.length
    · obtain ⟨d', rfl⟩ : ∃ d', d = d' + 1 := ⟨d - 1, by omega⟩
      have hq : PieceOK ps[i] := hps _ (List.getElem_mem hlt)
      obtain ⟨hnear, hpos⟩ := pos_near hs hq hc
      have hd : (((d' + 1 : Nat) : Int)) * 8 ^ m = (d' : Int) * 8 ^ m + 8 ^ m := by rw [Int.natCast_add, Int.add_mul]; simp
      have hp : (0 : Int) ≤ (d' : Int) * 8 ^ m := Int.mul_nonneg (by omega) (Int.pow_nonneg (by omega))
      have hp8 : (1 : Int) ≤ 8 ^ m := by have : (0 : Int) < 8 ^ m := Int.pow_pos (by omega); omega
      rw [hd] at hB
      have round : l_spec_l9Search_16 k (mm + 1) X Y Z L s.1 s.2 [] 0 c.1 c.2.1 c.2.2.1 ps l once (i : Int) =
          bif decide ((i : Int) ∈ l) then l_spec_l9Search_16 k mm X Y Z L s.1 s.2 [] 0 c.1 c.2.1 c.2.2.1 ps l once ((i + 1 : Nat) : Int) else
          bif fitB X Y Z (freeF Y Z l) ps[i] (posP ps[i] c) then Option.bind (Pk_spec_l9Search k ((X, Y, Z, L, ()), ps, putC Y Z l (mvP ps[i] (posP ps[i] c)) (i : Int), once, fdV s, ())) fun r =>
            l_spec_l9Search_16 k mm X Y Z L r.1.1 r.1.2.1 [] 0 c.1 c.2.1 c.2.2.1 ps l once ((i + 1 : Nat) : Int)
          else l_spec_l9Search_16 k mm X Y Z L s.1 s.2 [] 0 c.1 c.2.1 c.2.2.1 ps l once ((i + 1 : Nat) : Int) := by
        obtain ⟨p, r, e⟩ := List.exists_cons_of_ne_nil hq.ne
        have hn : nth T_A3 (ps[i]) 0 = p := by rw [e]; rfl
        have hb : inB 0 (List.length (ps[i])) = true := by rw [e]; exact inB_at (k := 0) (by simp)
        have hput := f_put hs hL hq hnear g.len (i : Int) g.cube
        rw [q_spec_l9Search_16, ltT hlt, inB_at hlt, nthA (t := .sl T_A3) hlt, f_has l hsl, succI i (by omega), hb, hn, hpos p r e]
        rw [hput]
        have hF : fitB X Y Z (fun c => decide (atL Y Z l c = -2)) ps[i] (posP ps[i] c) = fitB X Y Z (freeF Y Z l) ps[i] (posP ps[i] c) := rfl
        rw [hF]
        cases once with
        | true =>
          have hz := ho rfl
          rw [decide_eq_false (p := s.2 > 0) (by omega)]
          cases decide ((i : Int) ∈ l) with
          | true => rfl
          | false => cases fitB X Y Z (freeF Y Z l) ps[i] (posP ps[i] c) <;> rfl
        | false =>
          cases decide ((i : Int) ∈ l) with
          | true => rfl
          | false => cases fitB X Y Z (freeF Y Z l) ps[i] (posP ps[i] c) <;> rfl
      rw [round, drop_at ps i hlt, solP]
      cases hin : decide ((i : Int) ∈ l) with
      | true =>
        simp only [cond_true, List.nil_append]
        exact l_search16 k m hrec g hleft hc d' (i + 1) mm s (by omega) (by omega) h0 (by omega) ho
      | false =>
        cases hf : fitB X Y Z (freeF Y Z l) ps[i] (posP ps[i] c) with
        | false =>
          simp only [cond_false, List.nil_append]
          exact l_search16 k m hrec g hleft hc d' (i + 1) mm s (by omega) (by omega) h0 (by omega) ho
        | true =>
          simp only [cond_false, cond_true]
          have hlf := left_put hs hq.ne g.len hf hlt (of_decide_eq_false hin)
          rw [hrec _ s (g.put hs hf i) (by omega) h0 (by omega) ho, visits_append]
          obtain ⟨v1, v2, v3, v4⟩ := visR once (sols X Y Z ps m (putC Y Z l (mvP ps[i] (posP ps[i] c)) (i : Int))) s h0 ho
          have hlen := sols_len (X := X) (Y := Y) (Z := Z) h8 m (putC Y Z l (mvP ps[i] (posP ps[i] c)) (i : Int))
          have hlen' : ((sols X Y Z ps m (putC Y Z l (mvP ps[i] (posP ps[i] c)) (i : Int))).length : Int) ≤ 8 ^ m := by
            have := Int.ofNat_le.2 hlen
            simpa using this
          generalize hV : visits (runR once) (sols X Y Z ps m (putC Y Z l (mvP ps[i] (posP ps[i] c)) (i : Int))) s = V at v1 v2 v3 v4 ⊢
          simp only [Option.bind_some]
          cases hV1 : V.1 with
          | true =>
            simp only [cond_true]
            exact l_search16 k m hrec g hleft hc d' (i + 1) mm V.2 (by omega) (by omega) v1 (by omega) (v4 hV1)
          | false =>
            simp only [cond_false]
            obtain ⟨w1, w2⟩ := v3 hV1
            obtain ⟨mm', rfl⟩ : ∃ mm', mm = mm' + 1 := ⟨mm - 1, by omega⟩
            exact stop16 once k mm' V.2 w2 w1 _ l _ _ _
    · rw [q_spec_l9Search_16, ltF hlt, List.drop_eq_nil_of_le (by omega)]
      rfl
theorem search_is : ∀ (m k : Nat) (l : List Int) (s : Fd), m ≤ k → GoodL X Y Z L l → left ps.length l < m → 0 ≤ s.2 → s.2 + 8 ^ m ≤ maxB → (once = true → s.2 = 0) →
    Pk_spec_l9Search k ((X, Y, Z, L, ()), ps, l, once, fdV s, ()) = some (fdV (visits (runR once) (sols X Y Z ps m l) s).2, ())
  | 0, k, l, s, hk, g, hlf, _, _, _ => by omega
  | m + 1, k, l, s, hk, g, hlf, h0, hB, ho => by
    obtain ⟨k, rfl⟩ : ∃ k', k = k' + 1 := ⟨k - 1, by omega⟩
    have h64 := size64 hs
    have hsl : Small l := by unfold Small; rw [g.len]; omega
    have hle : fstI l ≤ l.length := List.findIdx_le_length
    have hp8 : (1 : Int) ≤ 8 ^ m := by have : (0 : Int) < 8 ^ m := Int.pow_pos (by omega); omega
    rw [Int.pow_succ] at hB
    have h2 := l_search2 hs L k s ps l g.len once (fstI l) 0 N (by omega) (by have := N_ge; have := g.len; omega)
    rw [p_spec_l9Search]
    have h2' : l_spec_l9Search_2 k N X Y Z L (fdV s).1 (fdV s).2.1 [] 0 ps l once 0 = _ := h2
    rw [h2', sols]
    cases hlt : decide (fstI l < l.length) with
    | true =>
      have hlt' := of_decide_eq_true hlt
      have hc := (cellOf_ok hs (i := fstI l) (by rw [← g.len]; exact hlt')).1
      have := l_search16 hs hL h8 hps once k m (fun l' s' g' hl' a b d => search_is m k l' s' (by omega) g' hl' a b d) g hlf hc ps.length 0 N s (by omega) (by have := N_ge; omega) h0 (by
        have h9 : (ps.length : Int) * 8 ^ m ≤ 8 * 8 ^ m := Int.mul_le_mul_of_nonneg_right (by omega) (by omega)
        omega) ho
      simp only [cond_true]
      rw [List.drop_zero] at this
      exact this
    | false =>
      have := l_search6 k s h0 (by unfold maxB at hB; omega) [] 0 ps h8 l hsl ps.length 0 N (by omega) (by have := N_ge; omega)
      simp only [cond_false]
      rw [Int.natCast_zero] at this
      rw [this]
      have hr : List.range' 0 ps.length = List.range ps.length := List.range_eq_range'.symm
      rw [hr]
      have ha : ((List.range ps.length).all fun i : Nat => decide ((i : Int) ∈ l)) = allIn ps.length l := rfl
      rw [ha]
      cases allIn ps.length l with
      | false => rfl
      | true => cases once <;> rfl
end
end Go.VI
namespace Go.VI
open Go.Proofs Go.RowKit
theorem bits_eq (op : BinOp) (k : IntKind) (x y : Int) : bits op k x y = intBits op k x y := by cases op <;> rfl
theorem hasB_eq (v : BitVec 64) (k : Nat) : hasB (v.toNat : Int) k = v.getLsbD k := by
  have h := f_hasB (v.toNat : Int) k
  rw [f_set_has] at h
  exact (congrArg Prod.fst (Option.some.inj h)).symm
theorem neg64 (v : BitVec 64) : IntKind.wrap .u64 (-(v.toNat : Int)) = ((-v).toNat : Int) := by
  have h := v.isLt
  rw [wu64, BitVec.toNat_neg]
  by_cases h0 : v.toNat = 0
  · rw [h0]; decide
  · rw [Nat.mod_eq_of_lt (by omega)]
    omega
theorem low_bit (v : BitVec 64) (i : Nat) : (v &&& -v).getLsbD i = (v.getLsbD i && decide (∀ j, j < i → v.getLsbD j = false)) := by
  rw [BitVec.getLsbD_and, BitVec.getLsbD_neg]
  cases hv : v.getLsbD i with
  | false => rfl
  | true =>
    have hi : i < 64 := by
      by_cases h : i < 64
      · exact h
      · rw [BitVec.getLsbD_of_ge _ _ (by omega)] at hv; cases hv
    have e : decide (∃ j, j < i ∧ v.getLsbD j = true) = !decide (∀ j, j < i → v.getLsbD j = false) := by
      by_cases h : ∀ j, j < i → v.getLsbD j = false
      · rw [decide_eq_true h, decide_eq_false]
        · rfl
        · rintro ⟨j, hj, e⟩
          rw [h j hj] at e; cases e
      · rw [decide_eq_false h, decide_eq_true]
        · rfl
        · rw [Classical.not_forall] at h
          obtain ⟨j, hj⟩ := h
          rw [Classical.not_imp] at hj
          exact ⟨j, hj.1, by simpa using hj.2⟩
    rw [e, decide_eq_true hi]
    cases decide (∀ j, j < i → v.getLsbD j = false) <;> rfl
def chkU : Bool := (List.range 256).all fun u => (List.range 8).all fun i => ((bits .and .i64 ((u : Int) / 2 ^ i) 1 == 1) == u.testBit i) && (bits .or .i64 (u : Int) (IntKind.i64.wrap (2 ^ i)) == ((u ||| 2 ^ i : Nat) : Int))
theorem chkU_ok : chkU = true := by kernel_rfl
theorem used_bits {u i : Nat} (hu : u < 256) (hi : i < 8) : (bits .and .i64 ((u : Int) / 2 ^ i) 1 == 1) = u.testBit i ∧ bits .or .i64 (u : Int) (IntKind.i64.wrap (2 ^ i)) = ((u ||| 2 ^ i : Nat) : Int) := by
  have h := List.all_eq_true.1 (List.all_eq_true.1 chkU_ok u (List.mem_range.2 hu)) i (List.mem_range.2 hi)
  rw [Bool.and_eq_true, beq_iff_eq, beq_iff_eq] at h
  exact h
theorem full_bits {n : Nat} (hn : n ≤ 8) : wrap64 (wrap64 (2 ^ n) - 1) = ((2 ^ n - 1 : Nat) : Int) := by
  have : n = 0 ∨ n = 1 ∨ n = 2 ∨ n = 3 ∨ n = 4 ∨ n = 5 ∨ n = 6 ∨ n = 7 ∨ n = 8 := by omega
  rcases this with rfl | rfl | rfl | rfl | rfl | rfl | rfl | rfl | rfl <;> (unfold wrap64; decide)
theorem ext_getD {l l' : List Int} (h : l.length = l'.length) (hg : ∀ j, j < l.length → l.getD j 0 = l'.getD j 0) : l = l' := by
  apply List.ext_getElem h
  intro j h1 h2
  have := hg j h1
  simpa [List.getD, List.getElem?_eq_getElem h1, List.getElem?_eq_getElem h2] using this
def mkA (v : BitVec 64) (l : List Int) : List Int := l.mapIdx fun k x => bif v.getLsbD k then -2 else x
theorem mkA_len (v : BitVec 64) (l : List Int) : (mkA v l).length = l.length := by simp [mkA]
theorem mkA_at (v : BitVec 64) (l : List Int) {j : Nat} (h : j < l.length) : (mkA v l).getD j 0 = bif v.getLsbD j then -2 else l.getD j 0 := by
  simp [mkA, List.getD, h]
theorem putL_get (w : BitVec 64) (i : Int) : ∀ (l : List Int) (k j : Nat), j < l.length → (putL (w.toNat : Int) i k l).getD j 0 = bif w.getLsbD (k + j) then i else l.getD j 0
  | [], _, j, h => by simp at h
  | x :: r, k, 0, _ => by
    simp only [putL, hasB_eq, Nat.add_zero]
    cases w.getLsbD k <;> rfl
  | x :: r, k, j + 1, h => by
    have := putL_get w i r (k + 1) j (by simpa using h)
    rw [show k + (j + 1) = k + 1 + j by omega]
    exact this
theorem mem_of_getD {l : List Int} {j : Nat} (h : j < l.length) : l.getD j 0 ∈ l := mem_getD.2 ⟨j, h, rfl⟩
structure AgL (v : BitVec 64) (l l' : List Int) : Prop where
  len : l'.length = l.length
  at' : ∀ j, j < l.length → v.getLsbD j = false → l'.getD j 0 = l.getD j 0
  no2 : ∀ x ∈ l', x ≠ -2
theorem AgL.mk_eq {v : BitVec 64} {l l' : List Int} (h : AgL v l l') : mkA v l' = mkA v l := by
  apply ext_getD
  · rw [mkA_len, mkA_len, h.len]
  · intro j hj
    rw [mkA_len, h.len] at hj
    rw [mkA_at _ _ (by rw [h.len]; exact hj), mkA_at _ _ hj]
    cases hv : v.getLsbD j with
    | true => rfl
    | false => exact h.at' j hj hv
structure FillI (X Y Z : Int) (ps : List (List D_A3)) (v : BitVec 64) (u : Nat) (l : List Int) : Prop where
  low : Low (X * Y * Z).toNat v
  len : l.length = (X * Y * Z).toNat
  no2 : ∀ x ∈ l, x ≠ -2
  ult : u < 2 ^ ps.length
  use : ∀ i, i < ps.length → u.testBit i = decide ((i : Int) ∈ mkA v l)
theorem fill_free {X Y Z : Int} (hs : sides X Y Z = true) {v : BitVec 64} {l : List Int} (hl : l.length = (X * Y * Z).toNat) (h2 : ∀ x ∈ l, x ≠ -2) {c : D_A3} (hc : within3 X Y Z c = true) : freeF Y Z (mkA v l) c = v.getLsbD (idx Y Z c) := by
  have hi := (idx_eq hs hc).2.1
  unfold freeF atL
  rw [mkA_at _ _ (by omega)]
  cases v.getLsbD (idx Y Z c) with
  | true => rfl
  | false =>
    exact decide_eq_false (h2 _ (mem_of_getD (by omega)))
theorem mk_put {X Y Z : Int} (hs : sides X Y Z = true) {v : BitVec 64} {l : List Int} (hl : l.length = (X * Y * Z).toNat) {q : List D_A3} {a : D_A3} (hf : fitB X Y Z (freeF Y Z (mkA v l)) q a = true) (i : Nat) :
    mkA (v &&& ~~~(mask Y Z (mvP q a) 0)) (putL ((mask Y Z (mvP q a) 0).toNat : Int) (i : Int) 0 l) = putC Y Z (mkA v l) (mvP q a) (i : Int) := by
  have h64 := size64 hs
  have hpl : ∀ (k : Nat) (l : List Int), (putL ((mask Y Z (mvP q a) 0).toNat : Int) (i : Int) k l).length = l.length := fun k l => putL_len _ _ k l
  apply ext_getD
  · rw [mkA_len, hpl, putC_len, mkA_len]
  · intro j hj
    rw [mkA_len, hpl] at hj
    have hj64 : j < 64 := by omega
    rw [mkA_at _ _ (by rw [hpl]; exact hj), putL_get _ _ _ _ _ hj, putC_get Y Z _ j _ _ (fit_idx hs (by rw [mkA_len]; exact hl) hf), mkA_at _ _ hj, Nat.zero_add, BitVec.getLsbD_and, BitVec.getLsbD_not, decide_eq_true hj64, mask_bit, decide_eq_true hj64]
    simp only [BitVec.ofNat_eq_ofNat, BitVec.getLsbD_zero, Bool.false_or, Bool.true_and]
    by_cases hm : ∃ c ∈ mvP q a, idx Y Z c = j
    · have : ((mvP q a).any fun c => decide (idx Y Z c = j)) = true := by
        obtain ⟨c, hc, e⟩ := hm
        exact List.any_eq_true.2 ⟨c, hc, decide_eq_true e⟩
      rw [this, if_pos hm]
      simp
    · have : ((mvP q a).any fun c => decide (idx Y Z c = j)) = false := by
        rw [Bool.eq_false_iff]
        intro h
        obtain ⟨c, hc, e⟩ := List.any_eq_true.1 h
        exact hm ⟨c, hc, of_decide_eq_true e⟩
      rw [this, if_neg hm]
      simp
end Go.VI
namespace Go.VI
open Go.Proofs Go.RowKit
theorem atF_eq {X Y Z : Int} (hs : sides X Y Z = true) {q : List D_A3} (hq : PieceOK q) {c : D_A3} (hc : within3 X Y Z c = true) : atF c q = some (posP q c) := by
  obtain ⟨p, r, rfl⟩ := List.exists_cons_of_ne_nil hq.ne
  have h1 := within3_iff.1 (hq.ins p (by simp))
  have h2 := within3_iff.1 hc
  obtain ⟨s1, s2, s3⟩ := sides_iff.1 hs
  show (Option.bind (P_impl_added (c, (IntKind.i64.wrap (-p.1), IntKind.i64.wrap (-p.2.1), IntKind.i64.wrap (-p.2.2.1), ()), ())) fun r => some r.1) = _
  rw [p_impl_added]
  simp only [Option.bind_some]
  rw [w64 (x := -p.1) (by omega) (by omega), w64 (x := -p.2.1) (by omega) (by omega), w64 (x := -p.2.2.1) (by omega) (by omega), w64 (x := c.1 + -p.1) (by omega) (by omega), w64 (x := c.2.1 + -p.2.1) (by omega) (by omega), w64 (x := c.2.2.1 + -p.2.2.1) (by omega) (by omega)]
  rfl
theorem low_cell {X Y Z : Int} (hs : sides X Y Z = true) {v : BitVec 64} (hv : Low (X * Y * Z).toNat v) (h0 : v ≠ 0) {l : List Int} (hl : l.length = (X * Y * Z).toNat) (h2 : ∀ x ∈ l, x ≠ -2) :
    fstI (mkA v l) < (mkA v l).length ∧ P_box_list ((X, Y, Z, ()), bits .and .u64 (v.toNat : Int) (IntKind.u64.wrap (-(v.toNat : Int))), ()) = some ([cellOf Y Z (fstI (mkA v l))], ()) := by
  have h64 := size64 hs
  have hex : ∃ k, v.getLsbD k = true := by
    apply Classical.byContradiction
    intro hn
    apply h0
    apply BitVec.eq_of_getLsbD_eq
    intro i _
    rw [BitVec.ofNat_eq_ofNat, BitVec.getLsbD_zero, Bool.eq_false_iff]
    exact fun h => hn ⟨i, h⟩
  have hk : ∃ k, v.getLsbD k = true ∧ ∀ j, j < k → v.getLsbD j = false := by
    obtain ⟨k, hk⟩ := hex
    induction k using Nat.strongRecOn with
    | _ k ih =>
      by_cases h : ∃ j, j < k ∧ v.getLsbD j = true
      · obtain ⟨j, hj, e⟩ := h
        exact ih j hj e
      · exact ⟨k, hk, fun j hj => by rw [Bool.eq_false_iff]; exact fun e => h ⟨j, hj, e⟩⟩
  obtain ⟨k, hk1, hk2⟩ := hk
  have hkn : k < l.length := by
    by_cases h : k < l.length
    · exact h
    · rw [hv k (by omega)] at hk1; cases hk1
  have hkl : k < (mkA v l).length := by rw [mkA_len]; exact hkn
  have get : ∀ j (hj : j < l.length), (mkA v l)[j]'(by rw [mkA_len]; exact hj) = bif v.getLsbD j then -2 else l.getD j 0 := fun j hj => by
    have := mkA_at v l hj
    rwa [List.getD, List.getElem?_eq_getElem (by rw [mkA_len]; exact hj), Option.getD_some] at this
  have hfst : fstI (mkA v l) = k := by
    refine (List.findIdx_eq hkl).2 ⟨?_, fun j hj => ?_⟩
    · rw [get k hkn, hk1]; rfl
    · rw [get j (by omega), hk2 j hj]
      exact decide_eq_false (h2 _ (mem_of_getD (by omega)))
  rw [hfst]
  refine ⟨hkl, ?_⟩
  rw [bits_eq, neg64, and64, f_box_list hs]
  have hcw := cellOf_ok hs (i := k) (by omega)
  have hb : bitCells X Y Z (v &&& -v) = [cellOf Y Z k] := by
    apply srt_ext _ _ (srt_listOf hs _) (List.pairwise_singleton _ _)
    intro c
    rw [mem_listOf hs, low_bit, List.mem_singleton, Bool.and_eq_true, decide_eq_true_eq]
    constructor
    · rintro ⟨hw, a, b⟩
      apply idx_inj hs hw hcw.1
      rw [hcw.2]
      rcases Nat.lt_trichotomy (idx Y Z c) k with h | h | h
      · rw [hk2 _ h] at a; cases a
      · exact h
      · rw [b k h] at hk1; cases hk1
    · rintro rfl
      refine ⟨hcw.1, ?_, ?_⟩
      · rw [hcw.2]; exact hk1
      · rw [hcw.2]; exact hk2
  rw [hb]
section
variable {σ : Type} (run : List Int → σ → Bool × σ) {X Y Z : Int} (hs : sides X Y Z = true) {ps : List (List D_A3)} (h8 : ps.length ≤ 8) (hps : ∀ q ∈ ps, PieceOK q)
include hs h8 hps
def Told (run : List Int → σ → Bool × σ) (v : BitVec 64) (l : List Int) (sl : List (List Int)) (s : σ) (o : Option (Bool × List Int × σ)) : Prop :=
  ∃ l', o = some ((visits run sl s).1, l', (visits run sl s).2) ∧ AgL v l l'
theorem pieces_told (m : Nat)
    (hrec : ∀ (v : BitVec 64) (u : Nat) (l : List Int) (s : σ), FillI X Y Z ps v u l → left ps.length (mkA v l) < m → Told run v l (sols X Y Z ps m (mkA v l)) s (fillF run (X, Y, Z, ()) ps m (v.toNat : Int) (u : Int) l s))
    {v : BitVec 64} {u : Nat} {c : D_A3} (hc : within3 X Y Z c = true) : ∀ (d i : Nat) (l : List Int) (s : σ), ps.length = i + d → FillI X Y Z ps v u l → left ps.length (mkA v l) < m + 1 →
    Told run v l (solP X Y Z (sols X Y Z ps m) (mkA v l) c i (ps.drop i)) s (piecesF (fillF run (X, Y, Z, ()) ps m) (X, Y, Z, ()) (v.toNat : Int) (u : Int) c i (ps.drop i) l s)
  | 0, i, l, s, hi, f, hlf => by
    rw [List.drop_eq_nil_of_le (by omega)]
    exact ⟨l, rfl, rfl, fun _ _ _ => rfl, f.no2⟩
  | d + 1, i, l, s, hi, f, hlf => by
    have hlt : i < ps.length := by omega
    have hq : PieceOK ps[i] := hps _ (List.getElem_mem hlt)
    have hu : u < 256 := Nat.lt_of_lt_of_le f.ult (by have := Nat.pow_le_pow_right (show 0 < 2 by omega) h8; simpa using this)
    obtain ⟨ub, uo⟩ := used_bits hu (show i < 8 by omega)
    have ih := pieces_told m hrec hc d (i + 1) l s (by omega) f hlf
    rw [drop_at ps i hlt, solP, piecesF, ub, f.use i hlt]
    cases hin : decide ((i : Int) ∈ mkA v l) with
    | true =>
      simp only [cond_true, List.nil_append]
      exact ih
    | false =>
      have hnear := (pos_near hs hq hc).1
      have hF : fitB X Y Z (fun c => v.getLsbD (idx Y Z c)) ps[i] (posP ps[i] c) = fitB X Y Z (freeF Y Z (mkA v l)) ps[i] (posP ps[i] c) := fitB_congr fun c hc => (fill_free hs f.len f.no2 hc).symm
      rw [atF_eq hs hq hc]
      simp only [cond_false, Option.bind_some]
      rw [f_placed hs hq hnear, hF]
      cases hf : fitB X Y Z (freeF Y Z (mkA v l)) ps[i] (posP ps[i] c) with
      | false =>
        simp only [cond_false, Option.bind_some, Bool.not_false, cond_true, List.nil_append]
        exact ih
      | true =>
        simp only [cond_true, Option.bind_some, Bool.not_true, cond_false]
        generalize hW : mask Y Z (mvP ps[i] (posP ps[i] c)) 0 = W
        have hWv : ∀ j, W.getLsbD j = true → v.getLsbD j = true := fun j hj => by
          rw [← hW, mask_bit] at hj
          simp only [BitVec.ofNat_eq_ofNat, BitVec.getLsbD_zero, Bool.false_or, Bool.and_eq_true] at hj
          obtain ⟨e, he, e2⟩ := List.any_eq_true.1 hj.2
          have := fitB_cells hf e he
          rw [← of_decide_eq_true e2, ← fill_free hs f.len f.no2 this.1]
          exact this.2
        have hmk : mkA (v &&& ~~~W) (putL (W.toNat : Int) (i : Int) 0 l) = putC Y Z (mkA v l) (mvP ps[i] (posP ps[i] c)) (i : Int) := by rw [← hW]; exact mk_put hs f.len hf i
        have hml : (mkA v l).length = (X * Y * Z).toNat := by rw [mkA_len]; exact f.len
        have f' : FillI X Y Z ps (v &&& ~~~W) (u ||| 2 ^ i) (putL (W.toNat : Int) (i : Int) 0 l) := by
          refine ⟨fun j hj => by rw [BitVec.getLsbD_and, f.low j hj, Bool.false_and], by rw [putL_len]; exact f.len, fun x hx => ?_, Nat.or_lt_two_pow f.ult (Nat.pow_lt_pow_right (by omega) hlt), fun j hj => ?_⟩
          · obtain ⟨j, hj, rfl⟩ := mem_getD.1 hx
            rw [putL_len] at hj
            rw [putL_get _ _ _ _ _ hj]
            cases W.getLsbD (0 + j) with
            | true => show (i : Int) ≠ -2; omega
            | false => exact f.no2 _ (mem_of_getD hj)
          · rw [hmk, Nat.testBit_or, f.use j hj, Nat.testBit_two_pow]
            rw [Bool.eq_iff_iff, Bool.or_eq_true, decide_eq_true_eq, decide_eq_true_eq, decide_eq_true_eq, mem_put hs hq.ne hml hf]
            exact ⟨fun h => h.elim .inr fun h => .inl h.symm, fun h => h.elim (fun h => .inr h.symm) .inl⟩
        obtain ⟨l1, e1, a1⟩ := hrec _ _ _ s f' (by
          rw [hmk]
          have := left_put hs hq.ne hml hf hlt (of_decide_eq_false hin)
          omega)
        have ag : AgL v l l1 := by
          refine ⟨by rw [a1.len, putL_len], fun j hj hv => ?_, a1.no2⟩
          have hw : W.getLsbD j = false := by
            rw [Bool.eq_false_iff]
            intro h
            rw [hWv j h] at hv; cases hv
          rw [a1.at' j (by rw [putL_len]; exact hj) (by rw [BitVec.getLsbD_and, hv, Bool.false_and]), putL_get _ _ _ _ _ hj, Nat.zero_add, hw]
          rfl
        rw [bits_eq, andNot64, uo, e1, hmk]
        simp only [Option.bind_some]
        unfold Told
        rw [visits_append]
        generalize visits run (sols X Y Z ps m (putC Y Z (mkA v l) (mvP ps[i] (posP ps[i] c)) (i : Int))) s = V
        cases hV : V.1 with
        | false =>
          simp only [Bool.not_false, cond_true, cond_false]
          exact ⟨l1, by rw [hV], ag⟩
        | true =>
          simp only [Bool.not_true, cond_true, cond_false]
          have fl1 : FillI X Y Z ps v u l1 := ⟨f.low, by rw [ag.len]; exact f.len, ag.no2, f.ult, fun j hj => by rw [ag.mk_eq]; exact f.use j hj⟩
          obtain ⟨l2, e2, a2⟩ := pieces_told m hrec hc d (i + 1) l1 V.2 (by omega) fl1 (by rw [ag.mk_eq]; exact hlf)
          rw [ag.mk_eq] at e2
          exact ⟨l2, e2, a2.len.trans ag.len, fun j hj hv => (a2.at' j (by rw [ag.len]; exact hj) hv).trans (ag.at' j hj hv), a2.no2⟩
theorem fill_told : ∀ (m : Nat) (v : BitVec 64) (u : Nat) (l : List Int) (s : σ), FillI X Y Z ps v u l → left ps.length (mkA v l) < m → Told run v l (sols X Y Z ps m (mkA v l)) s (fillF run (X, Y, Z, ()) ps m (v.toNat : Int) (u : Int) l s)
  | 0, v, u, l, s, f, hlf => by omega
  | m + 1, v, u, l, s, f, hlf => by
    have h64 := size64 hs
    rw [sols, fillF]
    by_cases h0 : v = 0
    · subst h0
      have hA : mkA 0 l = l := by
        apply ext_getD (mkA_len _ _)
        intro j hj
        rw [mkA_len] at hj
        rw [mkA_at _ _ hj]
        simp
      have hz : decide ((((0 : BitVec 64).toNat : Nat) : Int) = 0) = true := rfl
      have hfst : decide (fstI (mkA 0 l) < (mkA 0 l).length) = false := by
        apply decide_eq_false
        intro h
        have := fst_at h
        have hm : (-2 : Int) ∈ mkA 0 l := this ▸ List.getElem_mem h
        rw [hA] at hm
        exact f.no2 _ hm rfl
      rw [hz, hfst, full_bits h8]
      simp only [cond_true, cond_false]
      have hall : allIn ps.length (mkA 0 l) = (u == 2 ^ ps.length - 1) := by
        rw [Bool.eq_iff_iff, beq_iff_eq]
        unfold allIn
        rw [List.all_eq_true]
        constructor
        · intro h
          apply Nat.eq_of_testBit_eq
          intro i
          rw [Nat.testBit_two_pow_sub_one]
          by_cases hi : i < ps.length
          · rw [f.use i hi, h i (List.mem_range.2 hi), decide_eq_true hi]
          · rw [decide_eq_false hi]
            exact Nat.testBit_lt_two_pow (Nat.lt_of_lt_of_le f.ult (Nat.pow_le_pow_right (by omega) (by omega)))
        · intro h i hi
          rw [List.mem_range] at hi
          rw [← f.use i hi, h, Nat.testBit_two_pow_sub_one, decide_eq_true hi]
      have hu : ((u : Int) != ((2 ^ ps.length - 1 : Nat) : Int)) = !(u == 2 ^ ps.length - 1) := by
        rw [Bool.eq_iff_iff, bne_iff_ne, Bool.not_eq_true', beq_eq_false_iff_ne]
        constructor
        · exact fun h e => h (by rw [e])
        · exact fun h e => h (Int.ofNat.inj e)
      rw [hall, hu]
      cases (u == 2 ^ ps.length - 1) with
      | false => exact ⟨l, rfl, rfl, fun _ _ _ => rfl, f.no2⟩
      | true =>
        rw [hA]
        refine ⟨l, ?_, rfl, fun _ _ _ => rfl, f.no2⟩
        simp only [Bool.not_true, cond_false, cond_true, visits]
        cases (run l s).1 <;> rfl
    · obtain ⟨hf, hb⟩ := low_cell hs f.low h0 f.len f.no2
      have hz : decide ((v.toNat : Int) = 0) = false := by
        apply decide_eq_false
        intro e
        apply h0
        apply BitVec.eq_of_toNat_eq
        have : v.toNat = 0 := by omega
        rw [this]; rfl
      have hc := (cellOf_ok hs (i := fstI (mkA v l)) (by rw [← f.len, ← mkA_len v l]; exact hf)).1
      have ih := pieces_told run hs h8 hps m (fill_told m) hc ps.length 0 l s (by omega) f hlf
      rw [hz, hb, decide_eq_true hf]
      rw [List.drop_zero] at ih
      exact ih
end
end Go.VI
namespace Go.VI
open Go.Proofs
def cellsOf (X Y Z : Int) (x : List Int) (k : Int) : List D_A3 := (allCells X Y Z).filter fun c => decide (atL Y Z x c = k)
structure PackV (X Y Z : Int) (L : List D_A3) (ps : List (List D_A3)) (x : List Int) : Prop where
  len : x.length = (X * Y * Z).toNat
  val : ∀ c, within3 X Y Z c = true → -1 ≤ atL Y Z x c ∧ atL Y Z x c ≤ (ps.length : Int) - 1 ∧ (atL Y Z x c < 0 ↔ c ∈ L)
  pcs : ∀ k (hk : k < ps.length), ∃ a, cellsOf X Y Z x (k : Int) = mvP ps[k] a
structure PInv (X Y Z : Int) (L : List D_A3) (ps : List (List D_A3)) (l : List Int) : Prop where
  len : l.length = (X * Y * Z).toNat
  val : ∀ c, within3 X Y Z c = true → (atL Y Z l c = -2 ∧ c ∉ L) ∨ (-1 ≤ atL Y Z l c ∧ atL Y Z l c ≤ (ps.length : Int) - 1 ∧ (atL Y Z l c < 0 ↔ c ∈ L))
  pcs : ∀ k (hk : k < ps.length), (k : Int) ∈ l → ∃ a, cellsOf X Y Z l (k : Int) = mvP ps[k] a
section
variable {X Y Z : Int} (hs : sides X Y Z = true) {L : List D_A3} {ps : List (List D_A3)} (hps : ∀ q ∈ ps, PieceOK q)
include hs
theorem mem_cellsOf {x : List Int} {k : Int} {c : D_A3} : c ∈ cellsOf X Y Z x k ↔ within3 X Y Z c = true ∧ atL Y Z x c = k := by
  unfold cellsOf
  rw [List.mem_filter, mem_allCells hs, decide_eq_true_eq]
theorem srt_cellsOf (x : List Int) (k : Int) : Srt (cellsOf X Y Z x k) := (allCells_ok hs).2.2.filter _
theorem atL_mem {l : List Int} (hl : l.length = (X * Y * Z).toNat) {c : D_A3} (hc : within3 X Y Z c = true) : atL Y Z l c ∈ l := mem_of_getD (by rw [hl]; exact (idx_eq hs hc).2.1)
include hps
theorem PInv.put {l : List Int} (g : PInv X Y Z L ps l) {i : Nat} (hi : i < ps.length) (hm : (i : Int) ∉ l) {a : D_A3} (h : fitB X Y Z (freeF Y Z l) ps[i] a = true) : PInv X Y Z L ps (putC Y Z l (mvP ps[i] a) (i : Int)) := by
  have hq : PieceOK ps[i] := hps _ (List.getElem_mem hi)
  refine ⟨by rw [putC_len]; exact g.len, fun c hc => ?_, fun k hk hkm => ?_⟩
  · rw [put_free hs g.len h i hc]
    split
    · rename_i hcm
      have h2 : atL Y Z l c = -2 := of_decide_eq_true (fitB_cells h c hcm).2
      have hL : c ∉ L := (g.val c hc).elim (fun h => h.2) fun h => by omega
      exact .inr ⟨by omega, by omega, fun h => by omega, fun h => absurd h hL⟩
    · exact g.val c hc
  · rw [mem_put hs hq.ne g.len h] at hkm
    by_cases e : k = i
    · subst e
      refine ⟨a, srt_ext _ _ (srt_cellsOf hs _ _) (mvP_srt hq.srt a) fun c => ?_⟩
      rw [mem_cellsOf hs]
      constructor
      · rintro ⟨hc, h'⟩
        rw [put_free hs g.len h k hc] at h'
        split at h'
        · assumption
        · exact absurd (h' ▸ atL_mem hs g.len hc) hm
      · intro hc
        have hw := (fitB_cells h c hc).1
        exact ⟨hw, by rw [put_free hs g.len h k hw, if_pos hc]⟩
    · obtain ⟨b, hb⟩ := g.pcs k hk (hkm.resolve_left e)
      refine ⟨b, hb ▸ srt_ext _ _ (srt_cellsOf hs _ _) (srt_cellsOf hs _ _) fun c => ?_⟩
      rw [mem_cellsOf hs, mem_cellsOf hs]
      constructor
      · rintro ⟨hc, h'⟩
        rw [put_free hs g.len h i hc] at h'
        split at h'
        · omega
        · exact ⟨hc, h'⟩
      · rintro ⟨hc, h'⟩
        refine ⟨hc, ?_⟩
        rw [put_free hs g.len h i hc, if_neg]
        · exact h'
        · intro hcm
          have h2 : atL Y Z l c = -2 := of_decide_eq_true (fitB_cells h c hcm).2
          omega
omit hs hps in
theorem mem_solP {rec : List Int → List (List Int)} {l : List Int} {c : D_A3} {x : List Int} : ∀ (i : Nat) (r : List (List D_A3)), x ∈ solP X Y Z rec l c i r ↔ ∃ j, ∃ hj : j < r.length, ((i + j : Nat) : Int) ∉ l ∧ fitB X Y Z (freeF Y Z l) r[j] (posP r[j] c) = true ∧ x ∈ rec (putC Y Z l (mvP r[j] (posP r[j] c)) ((i + j : Nat) : Int))
  | i, [] => by simp [solP]
  | i, q :: r => by
    rw [solP, List.mem_append, mem_solP (i + 1) r]
    constructor
    · rintro (h | ⟨j, hj, h⟩)
      · refine ⟨0, by simp, ?_⟩
        cases hin : decide ((i : Int) ∈ l) with
        | true => rw [hin] at h; cases h
        | false =>
          rw [hin] at h
          cases hf : fitB X Y Z (freeF Y Z l) q (posP q c) with
          | false => rw [hf] at h; cases h
          | true =>
            rw [hf] at h
            exact ⟨of_decide_eq_false hin, hf, h⟩
      · refine ⟨j + 1, by simpa using hj, ?_⟩
        rw [show i + (j + 1) = i + 1 + j by omega]
        exact h
    · rintro ⟨j, hj, h1, h2, h3⟩
      cases j with
      | zero =>
        refine .inl ?_
        rw [Nat.add_zero] at h1 h3
        rw [decide_eq_false h1]
        have h2' : fitB X Y Z (freeF Y Z l) q (posP q c) = true := h2
        rw [h2']
        exact h3
      | succ j =>
        refine .inr ⟨j, by simpa using hj, ?_⟩
        rw [show i + 1 + j = i + (j + 1) by omega]
        exact ⟨h1, h2, h3⟩
theorem sols_sound : ∀ (m : Nat) (l : List Int), PInv X Y Z L ps l → ∀ x ∈ sols X Y Z ps m l, PackV X Y Z L ps x
  | 0, l, _, x, hx => by cases hx
  | m + 1, l, g, x, hx => by
    rw [sols] at hx
    by_cases hlt : fstI l < l.length
    · rw [decide_eq_true hlt] at hx
      obtain ⟨j, hj, h1, h2, h3⟩ := (mem_solP 0 ps).1 hx
      rw [Nat.zero_add] at h1 h3
      exact sols_sound m _ (g.put hs hps hj h1 h2) x h3
    · rw [decide_eq_false hlt] at hx
      cases ha : allIn ps.length l with
      | false => rw [ha] at hx; cases hx
      | true =>
        rw [ha] at hx
        obtain rfl : x = l := by simpa using hx
        have hall := List.all_eq_true.1 ha
        refine ⟨g.len, fun c hc => (g.val c hc).resolve_left fun h => ?_, fun k hk => g.pcs k hk (of_decide_eq_true (hall k (List.mem_range.2 hk)))⟩
        exact hlt (List.findIdx_lt_length_of_exists ⟨_, atL_mem hs g.len hc, by rw [h.1]; rfl⟩)
structure PartV (X Y Z : Int) (L : List D_A3) (ps : List (List D_A3)) (x l : List Int) : Prop where
  len : l.length = (X * Y * Z).toNat
  same : ∀ c, within3 X Y Z c = true → atL Y Z l c = -2 ∨ atL Y Z l c = atL Y Z x c
  whole : ∀ k, k < ps.length → (k : Int) ∈ l → ∀ c, within3 X Y Z c = true → atL Y Z x c = (k : Int) → atL Y Z l c = (k : Int)
  cube : ∀ c, within3 X Y Z c = true → atL Y Z l c = -2 → c ∉ L
theorem sols_all {x : List Int} (p : PackV X Y Z L ps x) : ∀ (m : Nat) (l : List Int), PartV X Y Z L ps x l → left ps.length l < m → x ∈ sols X Y Z ps m l
  | 0, l, _, h => by omega
  | m + 1, l, g, hlf => by
    rw [sols]
    by_cases hlt : fstI l < l.length
    · rw [decide_eq_true hlt]
      have hcw := cellOf_ok hs (i := fstI l) (by rw [← g.len]; exact hlt)
      generalize hc0 : cellOf Y Z (fstI l) = c0 at hcw ⊢
      obtain ⟨hw, hix⟩ := hcw
      have hfree : atL Y Z l c0 = -2 := by
        unfold atL
        rw [hix, List.getD, List.getElem?_eq_getElem hlt, Option.getD_some]
        exact fst_at hlt
      obtain ⟨v1, v2, v3⟩ := p.val c0 hw
      have hnL := g.cube c0 hw hfree
      have hv0 : 0 ≤ atL Y Z x c0 := by
        apply Int.not_lt.1
        exact fun h => hnL (v3.1 h)
      obtain ⟨i, hi⟩ : ∃ i : Nat, atL Y Z x c0 = (i : Int) := ⟨(atL Y Z x c0).toNat, by omega⟩
      have hip : i < ps.length := by omega
      have hq : PieceOK ps[i] := hps _ (List.getElem_mem hip)
      have hil : (i : Int) ∉ l := fun h => by
        have := g.whole i hip h c0 hw hi
        omega
      obtain ⟨a, ha⟩ := p.pcs i hip
      have memA : ∀ c, c ∈ mvP ps[i] a ↔ within3 X Y Z c = true ∧ atL Y Z x c = (i : Int) := fun c => by rw [← ha]; exact mem_cellsOf hs
      have free : ∀ c ∈ mvP ps[i] a, atL Y Z l c = -2 := fun c hc => by
        obtain ⟨h1, h2⟩ := (memA c).1 hc
        rcases g.same c h1 with h | h
        · exact h
        · exact absurd (h.trans h2 ▸ atL_mem hs g.len h1) hil
      have hpos : a = posP ps[i] c0 := by
        obtain ⟨q, r, e⟩ := List.exists_cons_of_ne_nil hq.ne
        have hsr := mvP_srt hq.srt a
        have hm0 := (memA c0).2 ⟨hw, hi⟩
        have hhead : ad a q = c0 := by
          rw [e] at hsr hm0
          rcases List.mem_cons.1 hm0 with h | h
          · exact h.symm
          · have hlt' := (List.pairwise_cons.1 hsr).1 c0 h
            have hmem : ad a q ∈ mvP ps[i] a := by rw [e]; exact List.mem_cons_self
            have hw' := ((memA _).1 hmem).1
            have hi' := (idx_lt hs hw' hw).2 hlt'
            rw [hix] at hi'
            exact absurd (free _ hmem) (fst_before hi')
        rw [← hhead]
        unfold posP
        rw [e]
        exact cell_ext (by show a.1 = q.1 + a.1 - q.1; omega) (by show a.2.1 = q.2.1 + a.2.1 - q.2.1; omega) (by show a.2.2.1 = q.2.2.1 + a.2.2.1 - q.2.2.1; omega)
      have hf : fitB X Y Z (freeF Y Z l) ps[i] a = true := List.all_eq_true.2 fun c hc => by
        rw [((memA c).1 hc).1, Bool.true_and]
        exact decide_eq_true (free c hc)
      refine (mem_solP 0 ps).2 ⟨i, hip, ?_⟩
      rw [Nat.zero_add, ← hpos]
      refine ⟨hil, hf, sols_all p m _ ⟨by rw [putC_len]; exact g.len, fun c hc => ?_, fun k hk hkm c hc hx => ?_, fun c hc h2 => ?_⟩ ?_⟩
      · rw [put_free hs g.len hf i hc]
        split
        · rename_i hcm
          exact .inr ((memA c).1 hcm).2.symm
        · exact g.same c hc
      · rw [mem_put hs hq.ne g.len hf] at hkm
        rw [put_free hs g.len hf i hc]
        by_cases e : k = i
        · subst e
          rw [if_pos ((memA c).2 ⟨hc, hx⟩)]
        · rw [if_neg]
          · exact g.whole k hk (hkm.resolve_left e) c hc hx
          · intro hcm
            have := ((memA c).1 hcm).2
            omega
      · rw [put_free hs g.len hf i hc] at h2
        split at h2
        · omega
        · exact g.cube c hc h2
      · have := left_put hs hq.ne g.len hf hip hil
        omega
    · rw [decide_eq_false hlt]
      have hno : ∀ c, within3 X Y Z c = true → atL Y Z l c = atL Y Z x c := fun c hc => by
        rcases g.same c hc with h | h
        · exact absurd (List.findIdx_lt_length_of_exists ⟨_, atL_mem hs g.len hc, by rw [h]; rfl⟩) hlt
        · exact h
      have hlx : l = x := by
        apply ext_getD (g.len.trans p.len.symm)
        intro j hj
        have hcw := cellOf_ok hs (i := j) (by rw [← g.len]; exact hj)
        have := hno _ hcw.1
        unfold atL at this
        rwa [hcw.2] at this
      have hall : allIn ps.length l = true := List.all_eq_true.2 fun k hk => by
        rw [List.mem_range] at hk
        obtain ⟨a, ha⟩ := p.pcs k hk
        obtain ⟨q, r, e⟩ := List.exists_cons_of_ne_nil (hps _ (List.getElem_mem hk)).ne
        have : ad a q ∈ cellsOf X Y Z x (k : Int) := by rw [ha, e]; exact List.mem_cons_self
        obtain ⟨h1, h2⟩ := (mem_cellsOf hs).1 this
        apply decide_eq_true
        rw [← h2, ← hno _ h1]
        exact atL_mem hs g.len h1
      rw [hall, hlx]
      simp
omit hps in
theorem start_facts (L : List D_A3) : let l := (allCells X Y Z).map fun c => if c ∈ L then (-1 : Int) else -2
    l.length = (X * Y * Z).toNat ∧ (∀ c, within3 X Y Z c = true → atL Y Z l c = if c ∈ L then (-1 : Int) else -2) ∧ ∀ k : Nat, (k : Int) ∉ l := by
  have e := upto_all hs
  have hlen : (allCells X Y Z).length = (X * Y * Z).toNat := by rw [← e]; simp [upto]
  refine ⟨by rw [List.length_map, hlen], fun c hc => ?_, fun k hk => ?_⟩
  · have hi := (idx_eq hs hc).2.1
    unfold atL
    have hg : (allCells X Y Z)[idx Y Z c]? = some c := by
      rw [← e]
      unfold upto
      rw [List.getElem?_map, List.getElem?_range hi]
      exact congrArg some (cellOf_idx hs hc)
    rw [List.getD, List.getElem?_map, hg]
    rfl
  · obtain ⟨c, _, h⟩ := List.mem_map.1 hk
    split at h <;> omega
def startL (X Y Z : Int) (L : List D_A3) : List Int := (allCells X Y Z).map fun c => if c ∈ L then (-1 : Int) else -2
omit hps in
theorem start_inv (L : List D_A3) (ps : List (List D_A3)) : PInv X Y Z L ps (startL X Y Z L) := by
  obtain ⟨h1, h2, h3⟩ := start_facts hs L
  refine ⟨h1, fun c hc => ?_, fun k _ h => absurd h (h3 k)⟩
  have e : atL Y Z (startL X Y Z L) c = _ := h2 c hc
  rw [e]
  split
  · exact .inr ⟨by omega, by omega, fun _ => by assumption, fun _ => by omega⟩
  · exact .inl ⟨rfl, by assumption⟩
omit hps in
theorem start_part {x : List Int} (p : PackV X Y Z L ps x) : PartV X Y Z L ps x (startL X Y Z L) := by
  obtain ⟨h1, h2, h3⟩ := start_facts hs L
  refine ⟨h1, fun c hc => ?_, fun k _ h => absurd h (h3 k), fun c hc h => ?_⟩
  · have e : atL Y Z (startL X Y Z L) c = _ := h2 c hc
    rw [e]
    split
    · rename_i hL
      obtain ⟨a, _, b⟩ := p.val c hc
      have := b.2 hL
      exact .inr (by omega)
    · exact .inl rfl
  · have e : atL Y Z (startL X Y Z L) c = _ := h2 c hc
    rw [e] at h
    split at h
    · omega
    · assumption
end
end Go.VI
namespace Go.VI
open Go.Proofs Go.RowKit
def psum (ps : List (List D_A3)) (k : Nat) : Nat := ((ps.take k).map List.length).sum
theorem psum_succ (ps : List (List D_A3)) {k : Nat} (hk : k < ps.length) : psum ps (k + 1) = psum ps k + ps[k].length := by
  unfold psum
  rw [List.take_succ_eq_append_getElem hk, List.map_append, List.sum_append]
  simp
theorem psum_le {ps : List (List D_A3)} (hps : ∀ q ∈ ps, PieceOK q) : ∀ k, k ≤ ps.length → psum ps k ≤ 5 * k
  | 0, _ => by simp [psum]
  | k + 1, h => by
    rw [psum_succ ps (by omega)]
    have := psum_le hps k (by omega)
    have := (hps _ (List.getElem_mem (show k < ps.length by omega))).len
    omega
theorem l_cells9 {ps : List (List D_A3)} (h8 : ps.length ≤ 8) (hps : ∀ q ∈ ps, PieceOK q) : ∀ (d k m : Nat), ps.length = k + d → d < m → l_spec_l9Cells_3 m ps (psum ps k : Int) (k : Int) = some ((psum ps ps.length : Int), ())
  | d, k, 0, hk, hm => by omega
  | d, k, m + 1, hk, hm => by
    rw [q_spec_l9Cells_3]
    by_cases hlt : k < ps.length
    · have h1 := psum_le hps (k + 1) (by omega)
      rw [psum_succ ps hlt] at h1
      rw [ltT hlt, inB_at hlt, nthA (t := .sl T_A3) hlt, w64 (by omega) (by omega), succI k (by omega)]
      have := l_cells9 h8 hps (d - 1) (k + 1) m (by omega) (by omega)
      rw [psum_succ ps hlt] at this
      rw [← this]
      simp
    · rw [ltF hlt]
      obtain rfl : k = ps.length := by omega
      rfl
theorem f_cells9 {ps : List (List D_A3)} (h8 : ps.length ≤ 8) (hps : ∀ q ∈ ps, PieceOK q) : P_spec_l9Cells (ps, ()) = some ((psum ps ps.length : Int), ()) := by
  rw [p_spec_l9Cells]
  exact l_cells9 h8 hps ps.length 0 N (by simp) (by have := N_ge; omega)
theorem split_lt (f : D_A3 → Int) (m : Int) : ∀ cs : List D_A3, (cs.filter fun c => decide (f c < m + 1)).length = (cs.filter fun c => decide (f c < m)).length + (cs.filter fun c => decide (f c = m)).length
  | [] => rfl
  | c :: r => by
    have ih := split_lt f m r
    rw [List.filter_cons, List.filter_cons, List.filter_cons]
    rcases Int.lt_trichotomy (f c) m with h | h | h
    · rw [decide_eq_true (p := f c < m + 1) (by omega), decide_eq_true (p := f c < m) h, decide_eq_false (p := f c = m) (by omega)]
      simp only [if_true, List.length_cons, Bool.false_eq_true, if_false]
      omega
    · rw [decide_eq_true (p := f c < m + 1) (by omega), decide_eq_false (p := f c < m) (by omega), decide_eq_true (p := f c = m) h]
      simp only [if_true, List.length_cons, Bool.false_eq_true, if_false]
      omega
    · rw [decide_eq_false (p := f c < m + 1) (by omega), decide_eq_false (p := f c < m) (by omega), decide_eq_false (p := f c = m) (by omega)]
      simp only [Bool.false_eq_true, if_false]
      omega
section
variable {X Y Z : Int} (hs : sides X Y Z = true) {L : List D_A3} (hi : Ins X Y Z L) (hr : Srt L) {ps : List (List D_A3)}
include hs hi hr
theorem pack_count {x : List Int} (p : PackV X Y Z L ps x) : psum ps ps.length + L.length = (X * Y * Z).toNat := by
  have hlen : (allCells X Y Z).length = (X * Y * Z).toNat := by rw [← upto_all hs]; simp [upto]
  have h0 : (allCells X Y Z).filter (fun c => decide (atL Y Z x c < 0)) = L := srt_ext _ _ ((allCells_ok hs).2.2.filter _) hr fun c => by
    rw [List.mem_filter, mem_allCells hs, decide_eq_true_eq]
    constructor
    · rintro ⟨h1, h2⟩
      exact (p.val c h1).2.2.1 h2
    · intro h
      exact ⟨hi c h, (p.val c (hi c h)).2.2.2 h⟩
  have key : ∀ k, k ≤ ps.length → ((allCells X Y Z).filter fun c => decide (atL Y Z x c < (k : Int))).length = psum ps k + L.length := fun k => by
    induction k with
    | zero => intro _; simp only [Int.natCast_zero, h0, psum, List.take_zero, List.map_nil, List.sum_nil]; omega
    | succ k ih =>
      intro hk
      obtain ⟨a, ha⟩ := p.pcs k (by omega)
      have hc : ((allCells X Y Z).filter fun c => decide (atL Y Z x c = (k : Int))).length = ps[k].length := by
        have : cellsOf X Y Z x (k : Int) = _ := ha
        unfold cellsOf at this
        rw [this, mvP_len]
      rw [Int.natCast_add, Int.natCast_one, split_lt, ih (by omega), hc, psum_succ ps (by omega)]
      omega
  rw [← key ps.length (Nat.le_refl _), ← hlen]
  congr 1
  apply List.filter_eq_self.2
  intro c hc
  have := (p.val c ((mem_allCells hs c).1 hc)).2.1
  exact decide_eq_true (by omega)
end
def allSols (h : D_Heap) (ps : List (List D_A3)) : List (List Int) := sols h.1 h.2.1 h.2.2.1 ps 12 (startL h.1 h.2.1 h.2.2.1 h.2.2.2.1)
def countV (h : D_Heap) (ps : List (List D_A3)) : Int := ((allSols h ps).length : Int)
def firstV (h : D_Heap) (ps : List (List D_A3)) : List Int := (allSols h ps).headD []
theorem sols_count {h : D_Heap} {ps : List (List D_A3)} (ha : askB h ps = true) {x : List Int} : x ∈ allSols h ps ↔ PackV h.1 h.2.1 h.2.2.1 h.2.2.2.1 ps x := by
  obtain ⟨ho, hps, h8⟩ := askB_iff ha
  obtain ⟨hs, hi, hr⟩ := okHeap_iff.1 ho
  constructor
  · exact sols_sound hs hps 12 _ (start_inv hs _ _) x
  · intro p
    exact sols_all hs hps p 12 _ (start_part hs p) (by have := left_le ps.length (startL h.1 h.2.1 h.2.2.1 h.2.2.2.1); omega)
theorem pow12 : (8 : Int) ^ 12 ≤ 100000000000 := by decide
theorem sols_small {h : D_Heap} {ps : List (List D_A3)} (h8 : ps.length ≤ 8) : countV h ps ≤ 100000000000 := by
  have h1 := sols_len (X := h.1) (Y := h.2.1) (Z := h.2.2.1) h8 12 (startL h.1 h.2.1 h.2.2.1 h.2.2.2.1)
  have h2 : (8 : Nat) ^ 12 ≤ 100000000000 := by decide
  unfold countV allSols
  omega
theorem l_start {X Y Z : Int} (hs : sides X Y Z = true) {L : List D_A3} (hL : Small L) : ∀ (d k m : Nat) (acc : List Int), (allCells X Y Z).length = k + d → d < m → acc.length = k →
    l_spec_l9Start_4 m X Y Z L acc (allCells X Y Z) (k : Int) = some (acc ++ ((allCells X Y Z).drop k).map (fun c => if c ∈ L then (-1 : Int) else -2), ())
  | d, k, 0, acc, hk, hm, _ => by omega
  | d, k, m + 1, acc, hk, hm, hac => by
    have hsm := (allCells_ok hs).1
    unfold Small at hsm
    rw [q_spec_l9Start_4]
    by_cases hlt : k < (allCells X Y Z).length
    · have hg : ∀ y : Int, (decide ((acc.length + ([y] : List Int).length) * 8 ≤ 140737488355328) && decide (acc.length + ([y] : List Int).length ≤ 140737488355328)) = true := fun y => by
        simp only [List.length_cons, List.length_nil, Bool.and_eq_true, decide_eq_true_eq]; omega
      rw [ltT hlt, inB_at hlt, nthA (t := T_A3) hlt, f_l2Has X Y Z L _ hL, hg, hg, succI k (by omega), l_start hs hL (d - 1) (k + 1) m _ (by omega) (by omega) (by simp; omega), l_start hs hL (d - 1) (k + 1) m _ (by omega) (by omega) (by simp; omega), drop_at _ k hlt]
      simp only [cond_true, Option.bind_some, List.map_cons]
      by_cases hm : (allCells X Y Z)[k] ∈ L
      · rw [decide_eq_true hm, if_pos hm]; simp
      · rw [decide_eq_false hm, if_neg hm]; simp
    · rw [ltF hlt, List.drop_eq_nil_of_le (by omega)]
      simp
theorem f_start {X Y Z : Int} (hs : sides X Y Z = true) {L : List D_A3} (hL : Small L) : P_spec_l9Start ((X, Y, Z, L, ()), ()) = some (startL X Y Z L, ()) := by
  have hsm := (allCells_ok hs).1
  unfold Small at hsm
  have := l_start hs hL (allCells X Y Z).length 0 N [] (by simp) (by have := N_ge; omega) rfl
  rw [p_spec_l9Start, f_l2All L hs]
  simp only [Int.natCast_zero, List.drop_zero, List.nil_append] at this
  exact this
theorem runs_end : ∀ (xs : List (List Int)) (s : Fd), 0 ≤ s.2 → (visits (runR false) xs s).2.2 = s.2 + xs.length
  | [], s, _ => by simp [visits]
  | x :: r, s, h => by
    have := runs_end r (if s.2 = 0 then x else s.1, s.2 + 1) (by show 0 ≤ s.2 + 1; omega)
    show (visits (runR false) r (if s.2 = 0 then x else s.1, s.2 + 1)).2.2 = _
    rw [this, List.length_cons]
    show s.2 + 1 + _ = _
    omega
theorem f_find {h : D_Heap} {ps : List (List D_A3)} (hl : Small h.2.2.2.1) (ha : askB h ps = true) (once : Bool) : P_spec_l9Find (h, ps, once, ()) = some (fdV (visits (runR once) (allSols h ps) ([], 0)).2, ()) := by
  obtain ⟨ho, hps, h8⟩ := askB_iff ha
  obtain ⟨hs, hi, hr⟩ := okHeap_iff.1 ho
  have h64 := size64 hs
  have h5 := psum_le hps ps.length (Nat.le_refl _)
  have hlen := srt_small64 hs hi hr
  obtain ⟨s1, s2, s3⟩ := sides_iff.1 hs
  rw [p_spec_l9Find, f_cells9 h8 hps]
  simp only [Option.bind_some]
  rw [w64 (x := (psum ps ps.length : Int) + (h.2.2.2.1.length : Int)) (by omega) (by omega), w64 (x := h.1 * h.2.1) (by omega) (by omega), w64 (x := h.1 * h.2.1 * h.2.2.1) (by omega) (by omega)]
  by_cases he : (psum ps ps.length : Int) + (h.2.2.2.1.length : Int) = h.1 * h.2.1 * h.2.2.1
  · rw [decide_eq_true he]
    have hst : P_spec_l9Start (h, ()) = some (startL h.1 h.2.1 h.2.2.1 h.2.2.2.1, ()) := f_start hs hl
    have hg : GoodL h.1 h.2.1 h.2.2.1 h.2.2.2.1 (startL h.1 h.2.1 h.2.2.1 h.2.2.2.1) := ⟨(start_inv hs h.2.2.2.1 ps).len, fun c hc e => by
      rcases (start_inv hs h.2.2.2.1 ps).val c hc with h | h
      · exact h.2
      · omega⟩
    have hsr : P_spec_l9Search (h, ps, startL h.1 h.2.1 h.2.2.1 h.2.2.2.1, once, ([], 0, ()), ()) = some (fdV (visits (runR once) (allSols h ps) ([], 0)).2, ()) :=
      search_is hs hl h8 hps once 12 N _ ([], 0) (by have := N_ge; omega) hg (by have := left_le ps.length (startL h.1 h.2.1 h.2.2.1 h.2.2.2.1); omega) (by simp) (by unfold maxB; have := pow12; show (0 : Int) + 8 ^ 12 ≤ _; omega) (fun _ => rfl)
    rw [hst]
    simp only [Bool.not_true, cond_false, Option.bind_some]
    rw [hsr]
    rfl
  · rw [decide_eq_false he]
    have hnil : allSols h ps = [] := by
      apply List.eq_nil_iff_forall_not_mem.2
      intro x hx
      have := pack_count hs hi hr ((sols_count ha).1 hx)
      omega
    rw [hnil]
    rfl
theorem f_specCount {h : D_Heap} {ps : List (List D_A3)} (hl : Small h.2.2.2.1) (hp : Small ps) : P_spec_CountPackings (h, ps, ()) = some (if askB h ps = true then (countV h ps, true, ()) else (0, false, ())) := by
  rw [p_spec_CountPackings, f_ask h hl ps hp]
  simp only [Option.bind_some]
  cases ha : askB h ps with
  | false => rfl
  | true =>
    rw [f_find hl ha false]
    simp only [Bool.not_true, cond_false, Option.bind_some, if_true]
    have := runs_end (allSols h ps) ([], 0) (by simp)
    show some ((visits (runR false) (allSols h ps) ([], 0)).2.2, true, ()) = _
    rw [this]
    simp [countV]
theorem f_specFirst {h : D_Heap} {ps : List (List D_A3)} (hl : Small h.2.2.2.1) (hp : Small ps) : P_spec_FirstPacking (h, ps, ()) = some (if askB h ps = true then (firstV h ps, decide (allSols h ps ≠ []), ()) else ([], false, ())) := by
  rw [p_spec_FirstPacking, f_ask h hl ps hp]
  simp only [Option.bind_some]
  cases ha : askB h ps with
  | false => rfl
  | true =>
    rw [f_find hl ha true]
    simp only [Bool.not_true, cond_false, Option.bind_some, if_true]
    unfold firstV
    cases allSols h ps with
    | nil => rfl
    | cons x r => rfl
theorem start_mk {X Y Z : Int} (hs : sides X Y Z = true) {L : List D_A3} (hi : Ins X Y Z L) : mkA (fullBits (X * Y * Z).toNat &&& ~~~(mask Y Z L 0)) (List.replicate (X * Y * Z).toNat (-1)) = startL X Y Z L := by
  have h64 := size64 hs
  obtain ⟨h1, h2, _⟩ := start_facts hs L
  have h1' : (startL X Y Z L).length = _ := h1
  apply ext_getD
  · rw [mkA_len, List.length_replicate, h1']
  · intro j hj
    rw [mkA_len, List.length_replicate] at hj
    have hcw := cellOf_ok hs hj
    have e : atL Y Z (startL X Y Z L) (cellOf Y Z j) = _ := h2 _ hcw.1
    unfold atL at e
    rw [hcw.2] at e
    have hb := mask_mem hs hi hcw.1
    rw [hcw.2] at hb
    rw [mkA_at _ _ (by rw [List.length_replicate]; exact hj), e, BitVec.getLsbD_and, BitVec.getLsbD_not, fullBits_bit (by omega), decide_eq_true hj, decide_eq_true (show j < 64 by omega), hb]
    have hr : (List.replicate (X * Y * Z).toNat (-1 : Int)).getD j 0 = -1 := by simp [List.getD, hj]
    rw [hr]
    by_cases hm : cellOf Y Z j ∈ L
    · rw [decide_eq_true hm, if_pos hm]; rfl
    · rw [decide_eq_false hm, if_neg hm]; rfl
theorem f_free {h : D_Heap} (hl : Small h.2.2.2.1) (ho : okHeap h = true) : P_Heap_free (h, ()) = some (((fullBits (h.1 * h.2.1 * h.2.2.1).toNat &&& ~~~(mask h.2.1 h.2.2.1 h.2.2.2.1 0)).toNat : Int), ()) := by
  obtain ⟨hs, hi, hr⟩ := okHeap_iff.1 ho
  have h1 : P_Heap_cubes (h, ()) = _ := f_Heap_cubes hs hl hi
  rw [p_Heap_free, f_Heap_box]
  simp only [Option.bind_some]
  rw [f_box_full hs, h1]
  simp only [Option.bind_some]
  rw [andNot64]
theorem f_pack {σ : Type} (run : List Int → σ → Bool × σ) (s0 : σ) {h : D_Heap} {ps : List (List D_A3)} (hl : Small h.2.2.2.1) (hp : Small ps) :
    packF run s0 (h, ps, ()) = some (if askB h ps = true then some (visits run (allSols h ps) s0).2 else none) := by
  unfold packF
  simp only
  rw [f_packed h hl ps hp]
  simp only [Option.bind_some]
  cases ha : askB h ps with
  | false => rfl
  | true =>
    obtain ⟨ho, hps, h8⟩ := askB_iff ha
    obtain ⟨hs, hi, hr⟩ := okHeap_iff.1 ho
    have h64 := size64 hs
    have hm := start_mk hs hi
    rw [f_Heap_box]
    simp only [Bool.not_true, cond_false, Option.bind_some]
    rw [f_size hs, f_free hl ho]
    simp only [Option.bind_some]
    rw [decide_eq_true (p := (1 : Int) ≤ ((h.1 * h.2.1 * h.2.2.1).toNat : Int)) (by omega), decide_eq_true (p := ((h.1 * h.2.1 * h.2.2.1).toNat : Int) ≤ 64) (by omega), decide_eq_true h8, Int.toNat_natCast]
    generalize hv : fullBits (h.1 * h.2.1 * h.2.2.1).toNat &&& ~~~(mask h.2.1 h.2.2.1 h.2.2.2.1 0) = v at hm ⊢
    have hn : ∀ k : Nat, (k : Int) ∉ startL h.1 h.2.1 h.2.2.1 h.2.2.2.1 := (start_facts hs h.2.2.2.1).2.2
    have f : FillI h.1 h.2.1 h.2.2.1 ps v 0 (List.replicate (h.1 * h.2.1 * h.2.2.1).toNat (-1)) := by
      refine ⟨fun i h' => ?_, by rw [List.length_replicate], fun x hx => by rw [(List.mem_replicate.1 hx).2]; decide, Nat.pow_pos (by omega), fun i _ => ?_⟩
      · rw [← hv, BitVec.getLsbD_and, fullBits_bit (by omega), decide_eq_false (by omega), Bool.false_and]
      · rw [hm, decide_eq_false (hn i), Nat.zero_testBit]
    have hl12 := left_le ps.length (startL h.1 h.2.1 h.2.2.1 h.2.2.2.1)
    obtain ⟨l', e, _⟩ := fill_told run hs h8 hps 12 v 0 _ s0 f (by rw [hm]; omega)
    have e' : fillF run (h.1, h.2.1, h.2.2.1, ()) ps 12 (v.toNat : Int) 0 (List.replicate (h.1 * h.2.1 * h.2.2.1).toNat (-1)) s0 = _ := e
    rw [e', hm]
    rfl
theorem wrap64_eq {x : Int} (h0 : -9223372036854775808 ≤ x) (h1 : x ≤ 9223372036854775807) : wrap64 x = x := by
  unfold wrap64
  omega
theorem visCnt : ∀ (xs : List (List Int)) (n : Int), 0 ≤ n → n + xs.length ≤ 1000000000000 → (visits (fun _ n => (true, wrap64 (n + 1))) xs n).2 = n + xs.length
  | [], n, _, _ => by simp [visits]
  | x :: r, n, h0, h1 => by
    rw [List.length_cons] at h1
    have e := wrap64_eq (x := n + 1) (by omega) (by omega)
    have := visCnt r (n + 1) (by omega) (by omega)
    show (visits (fun _ n => (true, wrap64 (n + 1))) r (wrap64 (n + 1))).2 = _
    rw [e, this, List.length_cons]
    omega
theorem f_count {h : D_Heap} {ps : List (List D_A3)} (hl : Small h.2.2.2.1) (hp : Small ps) : P_impl_CountPackings (h, ps, ()) = some (if askB h ps = true then (countV h ps, true, ()) else (0, false, ())) := by
  show (Option.bind (packF (fun _ n => (true, wrap64 (n + 1))) 0 (h, ps, ())) fun o => some (match o with | none => (0, false, ()) | some n => (n, true, ()))) = _
  rw [f_pack _ _ hl hp]
  simp only [Option.bind_some]
  cases ha : askB h ps with
  | false => rfl
  | true =>
    obtain ⟨ho, hps, h8⟩ := askB_iff ha
    have := sols_small (h := h) h8
    unfold countV at this
    have hv := visCnt (allSols h ps) 0 (by omega) (by omega)
    simp only [if_true]
    rw [hv]
    simp [countV]
theorem f_first {h : D_Heap} {ps : List (List D_A3)} (hl : Small h.2.2.2.1) (hp : Small ps) : P_impl_FirstPacking (h, ps, ()) = some (if askB h ps = true then (firstV h ps, decide (allSols h ps ≠ []), ()) else ([], false, ())) := by
  show (Option.bind (packF (fun l _ => (false, some l)) none (h, ps, ())) fun o => some (match o with | some (some l) => (l, true, ()) | _ => ([], false, ()))) = _
  rw [f_pack _ _ hl hp]
  simp only [Option.bind_some]
  cases ha : askB h ps with
  | false => rfl
  | true =>
    simp only [if_true]
    unfold firstV
    cases allSols h ps with
    | nil => rfl
    | cons x r => rfl
end Go.VI
