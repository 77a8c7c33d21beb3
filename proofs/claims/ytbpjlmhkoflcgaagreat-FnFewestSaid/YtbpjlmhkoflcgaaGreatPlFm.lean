/- Plain: the law of the fewest cubes. -/
import Derived.Test.YtbpjlmhkoflcgaaGreatPlFk
namespace Go.VI
open Go.Proofs
theorem l_vCells (l : List D_A3) (hl : Small l) : ∀ (d k m : Nat), l.length = k + d → d < m → l_bm_4 m l l (k : Int) = some (true, ())
  | d, k, 0, hk, hm => by omega
  | d, k, m + 1, hk, hm => by
    have hl' := hl
    unfold Small at hl'
    rw [q_bm_4]
    by_cases hlt : k < l.length
    · rw [ltT hlt, inB_at hlt, succI k (by omega), l_vCells l hl (d - 1) (k + 1) m (by omega) (by omega)]
      simp
    · rw [ltF hlt]; rfl
theorem f_vHeap (h : D_Heap) (hl : Small h.2.2.2.1) : P_c8 (h, h, ()) = some (true, ()) := by
  have := l_vCells h.2.2.2.1 hl h.2.2.2.1.length 0 N (by simp) (by unfold Small at hl; have := N_ge; omega)
  have e : P_bm (h.2.2.2.1, h.2.2.2.1, ()) = some (true, ()) := by
    rw [p_bm, decide_eq_true rfl]
    exact this
  rw [p_c8, e]
  simp
theorem l_vInts (l : List Int) (hl : Small l) : ∀ (d k m : Nat), l.length = k + d → d < m → l_bf_4 m l l (k : Int) = some (true, ())
  | d, k, 0, hk, hm => by omega
  | d, k, m + 1, hk, hm => by
    have hl' := hl
    unfold Small at hl'
    rw [q_bf_4]
    by_cases hlt : k < l.length
    · rw [ltT hlt, inB_at hlt, succI k (by omega), l_vInts l hl (d - 1) (k + 1) m (by omega) (by omega)]
      simp
    · rw [ltF hlt]; rfl
theorem f_vInts (l : List Int) (hl : Small l) : P_bf (l, l, ()) = some (true, ()) := by
  have := l_vInts l hl l.length 0 N (by simp) (by unfold Small at hl; have := N_ge; omega)
  rw [p_bf, decide_eq_true rfl]
  exact this
theorem f_vShadow (s : D_Shadow) (hm : SmallS s) : P_cw (s, s, ()) = some (true, ()) := by
  rw [p_cw, f_vInts _ hm.1, f_vInts _ hm.2.1, f_vInts _ hm.2.2]
  simp
theorem same_eq {s : D_Shadow} {l : List D_A3} (h : sameL s (shadowOf s.1 s.2.1 s.2.2.1 l) = true) : s = shadowOf s.1 s.2.1 s.2.2.1 l := by
  unfold sameL at h
  rw [Bool.and_eq_true, Bool.and_eq_true, decide_eq_true_eq, decide_eq_true_eq, decide_eq_true_eq] at h
  obtain ⟨h2, h1, h0⟩ := h
  obtain ⟨x, y, z, T, F, S, ⟨⟩⟩ := s
  have e2 : T = shD x y z 2 l := h2
  have e1 : F = shD x y z 1 l := h1
  have e0 : S = shD x y z 0 l := h0
  rw [e2, e1, e0]
  rfl
theorem cover_heap {s : D_Shadow} (ho : okSh s = true) {l : List D_A3} (h : Cover s l) : okHeap (s.1, s.2.1, s.2.2.1, l, ()) = true ∧ Small l ∧ sameL s (shadowOf s.1 s.2.1 s.2.2.1 l) = true := by
  obtain ⟨hs, _⟩ := okSh_iff.1 ho
  have hi : Ins s.1 s.2.1 s.2.2.1 l := fun c hc => AL_ins hs c (h.sub c hc)
  have h64 := srt_small64 hs hi h.srt
  exact ⟨okHeap_iff.2 ⟨hs, hi, h.srt⟩, by unfold Small; omega, (same_iff ho hi).2 ⟨h.cov, fun c hc => ((mem_AL hs).1 (h.sub c hc)).2⟩⟩
theorem l_few40 {s : D_Shadow} (hm : SmallS s) (ho : okSh s = true) {n : Nat} (hL : Least s n) {x : List D_A3} (hx : Cover s x) (hn : x.length = n) : ∀ (d k m : Nat), x.length = k + d → d < m →
    l_am_40 m s.1 s.2.1 s.2.2.1 s.2.2.2.1 s.2.2.2.2.1 s.2.2.2.2.2.1 s.1 s.2.1 s.2.2.1 x (k : Int) = some (true, ())
  | d, k, 0, _, h => by omega
  | d, k, m + 1, hk, hm' => by
    obtain ⟨hs, _⟩ := okSh_iff.1 ho
    obtain ⟨h1, h2, h3⟩ := cover_heap ho hx
    have hi : Ins s.1 s.2.1 s.2.2.1 x := fun c hc => AL_ins hs c (hx.sub c hc)
    have h64 := srt_small64 hs hi hx.srt
    rw [q_am_40]
    by_cases hlt : k < x.length
    · have hc := List.getElem_mem hlt
      have ht : P_c7 ((s.1, (s.2.1, (s.2.2.1, (x, ())))), x[k], ()) = _ := take_is (h := (s.1, s.2.1, s.2.2.1, x, ())) h2 h1 (hi _ hc) hc (l' := x.filter fun y => !decide (y = x[k])) (hx.srt.filter _) (fun y => by rw [List.mem_filter]; simp)
      have hin' : Ins s.1 s.2.1 s.2.2.1 (x.filter fun y => !decide (y = x[k])) := fun c hc => hi c (List.mem_filter.1 hc).1
      have hok' : okHeap (s.1, s.2.1, s.2.2.1, x.filter (fun y => !decide (y = x[k])), ()) = true := okHeap_iff.2 ⟨hs, hin', hx.srt.filter _⟩
      have hlen : (x.filter fun y => !decide (y = x[k])).length < x.length := by
        have := filter_split2 (fun y => decide (y = x[k])) x
        have hp : 0 < (x.filter fun y => decide (y = x[k])).length := List.length_pos_of_mem (List.mem_filter.2 ⟨hc, decide_eq_true rfl⟩)
        omega
      have hof : P_bq ((s.1, (s.2.1, (s.2.2.1, (s.2.2.2.1, (s.2.2.2.2.1, (s.2.2.2.2.2.1, ())))))), (s.1, s.2.1, s.2.2.1, x.filter (fun y => !decide (y = x[k])), ()), ()) = _ := f_IsShadowOf s (s.1, s.2.1, s.2.2.1, x.filter (fun y => !decide (y = x[k])), ()) hm (by unfold Small; show (x.filter _).length ≤ _; omega) ho hok'
      have hfalse : isOfB s (s.1, s.2.1, s.2.2.1, x.filter (fun y => !decide (y = x[k])), ()) = false := by
        rw [Bool.eq_false_iff]
        intro h
        unfold isOfB at h
        rw [Bool.and_eq_true, Bool.and_eq_true, Bool.and_eq_true] at h
        have hh := (same_iff ho hin').1 h.2.2.2
        have := hL.min _ ⟨hx.srt.filter _, fun c hc => hx.sub c (List.mem_filter.1 hc).1, hh.1⟩
        omega
      rw [ltT hlt, inB_at hlt, nthA (t := T_A3) hlt, ht]
      simp only [cond_true, Option.bind_some]
      rw [hof, hfalse]
      simp only [Option.bind_some, Bool.not_true, cond_false]
      rw [succI k (by omega)]
      exact l_few40 hm ho hL hx hn (d - 1) (k + 1) m (by omega) (by omega)
    · rw [ltF hlt]
      rfl
theorem tA (r2 : D_Shadow × Unit) (r3 : Int × Bool × Unit) (r5 : D_Heap × Bool × Unit) (r7 : Int × Bool × Unit) (hm : SmallS r2.1) (n : Nat) (x : List D_A3) (h27 : small27 r2.1 = true → Least r2.1 n ∧ Cover r2.1 x ∧ x.length = n) (h3 : r3 = if small27 r2.1 then ((n : Int), true, ()) else (0, false, ())) (h5 : r5 = if small27 r2.1 then ((r2.1.1, (r2.1.2.1, (r2.1.2.2.1, (x, ())))), true, ()) else ((0, (0, (0, ([], ())))), false, ())) (h7 : r7 = countV r2.1) :
  (Option.bind (P_cb (r2.1, ())) fun r36 =>
  bif r7.2.1 then
    bif !r36.2.1 then
      some (false, ())
    else
      bif !(decide (r7.1 > 0) == r36.1) then
        some (false, ())
      else
        bif !r3.2.1 then
          some (true, ())
        else
          Option.bind (P_al (r2.1, ())) fun r41 =>
          Option.bind (P_by (r2.1, ())) fun r42 =>
          Option.bind (P_bz (r2.1, ())) fun r43 =>
          Option.bind (P_bq (r2.1, r5.1, ())) fun r44 =>
          Option.bind (P_bu (r2.1, ())) fun r45 =>
          bif !r41.2.1 then
            some (false, ())
          else
            bif !r42.2.1 then
              some (false, ())
            else
              bif !r43.2.1 then
                some (false, ())
              else
                bif !r44.2.1 then
                  some (false, ())
                else
                  bif !r45.2.1 then
                    some (false, ())
                  else
                    bif !r44.1 then
                      some (false, ())
                    else
                      bif !decide ((List.length r5.1.2.2.2.1 : Int) = r3.1) then
                        some (false, ())
                      else
                        bif decide (r3.1 < r41.1) then
                          some (false, ())
                        else
                          bif decide (r3.1 < (List.length r42.1 : Int)) then
                            some (false, ())
                          else
                            bif decide (r3.1 > (List.length r45.1.2.2.2.1 : Int)) then
                              some (false, ())
                            else
                              bif r7.2.1 then
                                bif decide ((0 : Int) ≤ (List.length r43.1 : Int)) then
                                  bif decide (r7.1 > (shlI .i64 1 (List.length r43.1 : Int))) then
                                    some (false, ())
                                  else
                                    l_am_40 N r2.1.1 r2.1.2.1 r2.1.2.2.1 r2.1.2.2.2.1 r2.1.2.2.2.2.1 r2.1.2.2.2.2.2.1 r5.1.1 r5.1.2.1 r5.1.2.2.1 r5.1.2.2.2.1 0
                                else none
                              else
                                l_am_40 N r2.1.1 r2.1.2.1 r2.1.2.2.1 r2.1.2.2.2.1 r2.1.2.2.2.2.1 r2.1.2.2.2.2.2.1 r5.1.1 r5.1.2.1 r5.1.2.2.1 r5.1.2.2.2.1 0
  else
    bif !r3.2.1 then
      some (true, ())
    else
      Option.bind (P_al (r2.1, ())) fun r39 =>
      Option.bind (P_by (r2.1, ())) fun r40 =>
      Option.bind (P_bz (r2.1, ())) fun r41 =>
      Option.bind (P_bq (r2.1, r5.1, ())) fun r42 =>
      Option.bind (P_bu (r2.1, ())) fun r43 =>
      bif !r39.2.1 then
        some (false, ())
      else
        bif !r40.2.1 then
          some (false, ())
        else
          bif !r41.2.1 then
            some (false, ())
          else
            bif !r42.2.1 then
              some (false, ())
            else
              bif !r43.2.1 then
                some (false, ())
              else
                bif !r42.1 then
                  some (false, ())
                else
                  bif !decide ((List.length r5.1.2.2.2.1 : Int) = r3.1) then
                    some (false, ())
                  else
                    bif decide (r3.1 < r39.1) then
                      some (false, ())
                    else
                      bif decide (r3.1 < (List.length r40.1 : Int)) then
                        some (false, ())
                      else
                        bif decide (r3.1 > (List.length r43.1.2.2.2.1 : Int)) then
                          some (false, ())
                        else
                          bif r7.2.1 then
                            bif decide ((0 : Int) ≤ (List.length r41.1 : Int)) then
                              bif decide (r7.1 > (shlI .i64 1 (List.length r41.1 : Int))) then
                                some (false, ())
                              else
                                l_am_40 N r2.1.1 r2.1.2.1 r2.1.2.2.1 r2.1.2.2.2.1 r2.1.2.2.2.2.1 r2.1.2.2.2.2.2.1 r5.1.1 r5.1.2.1 r5.1.2.2.1 r5.1.2.2.2.1 0
                            else none
                          else
                            l_am_40 N r2.1.1 r2.1.2.1 r2.1.2.2.1 r2.1.2.2.2.1 r2.1.2.2.2.2.1 r2.1.2.2.2.2.2.1 r5.1.1 r5.1.2.1 r5.1.2.2.1 r5.1.2.2.2.1 0) = some (true, ()) := by
  obtain ⟨s, ⟨⟩⟩ := r2
  have hm : SmallS s := hm
  rw [f_FitTogether s hm]
  simp only [Option.bind_some]
  have hfit : r7.2.1 = true → (if okSh s = true then (fitsB s, true, ()) else (false, false, ()) : Bool × Bool × Unit).2.1 = true ∧ (decide (r7.1 > 0) == (if okSh s = true then (fitsB s, true, ()) else (false, false, ()) : Bool × Bool × Unit).1) = true ∧ (fitsB s = true → (SL s).length ≤ 14 ∧ r7.1 = ((cntTo s (2 ^ (SL s).length) : Nat) : Int)) := by
    intro h
    have h7 : r7 = countV s := h7
    unfold countV at h7
    cases ho : okSh s with
    | false => rw [ho] at h7; rw [h7] at h; simp at h
    | true =>
      rw [ho] at h7
      simp only [if_true] at h7 ⊢
      cases hf : fitsB s with
      | false =>
        rw [hf] at h7
        rw [h7]
        simp
      | true =>
        rw [hf] at h7
        simp only [if_true] at h7
        by_cases h14 : (SL s).length ≤ 14
        · rw [if_pos h14] at h7
          have := count_pos ho hf
          rw [h7]
          refine ⟨trivial, ?_, fun _ => ⟨h14, rfl⟩⟩
          have e : decide ((((cntTo s (2 ^ (SL s).length) : Nat) : Int)) > 0) = true := decide_eq_true (by omega)
          show (decide ((((cntTo s (2 ^ (SL s).length) : Nat) : Int)) > 0) == true) = true
          rw [e]
          rfl
        · rw [if_neg h14] at h7
          rw [h7] at h
          simp at h
  cases hs27 : small27 s with
  | false =>
    have h3' : r3 = (0, false, ()) := by
      have h3 : r3 = if small27 s then ((n : Int), true, ()) else (0, false, ()) := h3
      rw [hs27] at h3
      exact h3
    rw [h3']
    cases h72 : r7.2.1 with
    | false => rfl
    | true =>
      obtain ⟨g1, g2, _⟩ := hfit h72
      rw [g1, g2]
      rfl
  | true =>
    have h3' : r3 = ((n : Int), true, ()) := by
      have h3 : r3 = if small27 s then ((n : Int), true, ()) else (0, false, ()) := h3
      rw [hs27] at h3
      exact h3
    have h5' : r5 = ((s.1, (s.2.1, (s.2.2.1, (x, ())))), true, ()) := by
      have h5 : r5 = if small27 s then ((s.1, (s.2.1, (s.2.2.1, (x, ())))), true, ()) else ((0, (0, (0, ([], ())))), false, ()) := h5
      rw [hs27] at h5
      exact h5
    obtain ⟨hL, hx, hn⟩ := h27 hs27
    have hL : Least s n := hL
    have hx : Cover s x := hx
    have hs27' := hs27
    unfold small27 at hs27'
    rw [Bool.and_eq_true, Bool.and_eq_true] at hs27'
    obtain ⟨ho, hf, _⟩ := hs27'
    obtain ⟨hsd, _⟩ := okSh_iff.1 ho
    obtain ⟨c1, c2, c3⟩ := cover_heap ho hx
    have hfs : fitS s = true := by unfold fitS; rw [ho, hf]; rfl
    have hml := must_len hsd hx
    have hal := hL.min _ (fit_cover ho hf)
    have hal64 := AL_len hsd
    have hi : Ins s.1 s.2.1 s.2.2.1 x := fun c hc => AL_ins hsd c (hx.sub c hc)
    have hb : bound s ≤ (x.length : Int) := by
      have e := same_eq c3
      rw [e]
      exact (bound_le hsd hi).2
    have hof : P_bq (s, (s.1, (s.2.1, (s.2.2.1, (x, ())))), ()) = _ := f_IsShadowOf s (s.1, s.2.1, s.2.2.1, x, ()) hm c2 ho c1
    have hofB : isOfB s (s.1, s.2.1, s.2.2.1, x, ()) = true := by
      unfold isOfB
      rw [decide_eq_true rfl, decide_eq_true rfl, decide_eq_true rfl]
      exact c3
    have hloop : l_am_40 N s.1 s.2.1 s.2.2.1 s.2.2.2.1 s.2.2.2.2.1 s.2.2.2.2.2.1 s.1 s.2.1 s.2.2.1 x 0 = some (true, ()) := l_few40 hm ho hL hx hn x.length 0 N (by simp) (by have := N_ge; omega)
    have hM := f_MustCells s hm
    have hS := f_SpareCells s hm
    have hG := f_Greatest s hm
    have hB := f_LineBound s hm
    rw [hfs] at hM hS hG
    rw [ho] at hB
    simp only [if_true] at hM hS hG hB
    rw [h3', h5']
    simp only
    rw [hB, hM, hS, hof, hG, hofB, hloop]
    simp only [Option.bind_some, Bool.not_true, cond_false]
    rw [decide_eq_true (p := ((x.length : Nat) : Int) = (n : Int)) (by omega), decide_eq_false (p := (n : Int) < bound s) (by omega), decide_eq_false (p := (n : Int) < ((ML s).length : Int)) (by omega), decide_eq_false (p := (n : Int) > ((AL s).length : Int)) (by omega), decide_eq_true (p := (0 : Int) ≤ ((SL s).length : Int)) (by omega)]
    simp only [Bool.not_true, cond_false, cond_true]
    cases h72 : r7.2.1 with
    | false => rfl
    | true =>
      obtain ⟨g1, g2, g3⟩ := hfit h72
      obtain ⟨g4, g5⟩ := g3 hf
      have hle := cntTo_le s (2 ^ (SL s).length)
      rw [g1, g2, shl1 g4, decide_eq_false (p := r7.1 > ((2 ^ (SL s).length : Nat) : Int)) (by rw [g5]; omega)]
      rfl
theorem tB (r2 : D_Shadow × Unit) (r3 : Int × Bool × Unit) (r5 : D_Heap × Bool × Unit) (r7 : Int × Bool × Unit) (r10 : D_Shadow × Int × Unit) (r11 : D_Shadow × Bool × Unit) (hm : SmallS r2.1) (n : Nat) (x : List D_A3) (h27 : small27 r2.1 = true → Least r2.1 n ∧ Cover r2.1 x ∧ x.length = n) (h3 : r3 = if small27 r2.1 then ((n : Int), true, ()) else (0, false, ())) (h5 : r5 = if small27 r2.1 then ((r2.1.1, (r2.1.2.1, (r2.1.2.2.1, (x, ())))), true, ()) else ((0, (0, (0, ([], ())))), false, ())) (h7 : r7 = countV r2.1)
    (hm10 : SmallS r10.1) (hm11 : SmallS r11.1) (h11 : r11.2.1 = true → okSh r10.1 = true ∧ (0 ≤ r10.2.1 ∧ r10.2.1 ≤ 2) ∧ r11.1.1 = r10.1.1 ∧ r11.1.2.1 = r10.1.2.1 ∧ r11.1.2.2.1 = r10.1.2.2.1 ∧ ∀ d : Int, 0 ≤ d → d ≤ 2 → MirOK r10.1 r10.2.1 d (listD r11.1 d)) :
  (bif r11.2.1 then
    Option.bind (P_ak (r11.1, r10.2.1, ())) fun r25 =>
    bif !r25.2.1 then
      some (false, ())
    else
      Option.bind (P_cw (r25.1, r10.1, ())) fun r27 =>
      bif !r27.1 then
        some (false, ())
      else
        Option.bind (P_bu (r10.1, ())) fun r29 =>
        bif r29.2.1 then
          Option.bind (P_cz (r29.1, r10.2.1, ())) fun r31 =>
          Option.bind (P_bq (r11.1, r31.1, ())) fun r32 =>
          bif !r31.2.1 then
            some (false, ())
          else
            bif !r32.2.1 then
              some (false, ())
            else
              bif !r32.1 then
                some (false, ())
              else
                Option.bind (P_cb (r2.1, ())) fun r36 =>
                bif r7.2.1 then
                  bif !r36.2.1 then
                    some (false, ())
                  else
                    bif !(decide (r7.1 > 0) == r36.1) then
                      some (false, ())
                    else
                      bif !r3.2.1 then
                        some (true, ())
                      else
                        Option.bind (P_al (r2.1, ())) fun r41 =>
                        Option.bind (P_by (r2.1, ())) fun r42 =>
                        Option.bind (P_bz (r2.1, ())) fun r43 =>
                        Option.bind (P_bq (r2.1, r5.1, ())) fun r44 =>
                        Option.bind (P_bu (r2.1, ())) fun r45 =>
                        bif !r41.2.1 then
                          some (false, ())
                        else
                          bif !r42.2.1 then
                            some (false, ())
                          else
                            bif !r43.2.1 then
                              some (false, ())
                            else
                              bif !r44.2.1 then
                                some (false, ())
                              else
                                bif !r45.2.1 then
                                  some (false, ())
                                else
                                  bif !r44.1 then
                                    some (false, ())
                                  else
                                    bif !decide ((List.length r5.1.2.2.2.1 : Int) = r3.1) then
                                      some (false, ())
                                    else
                                      bif decide (r3.1 < r41.1) then
                                        some (false, ())
                                      else
                                        bif decide (r3.1 < (List.length r42.1 : Int)) then
                                          some (false, ())
                                        else
                                          bif decide (r3.1 > (List.length r45.1.2.2.2.1 : Int)) then
                                            some (false, ())
                                          else
                                            bif r7.2.1 then
                                              bif decide ((0 : Int) ≤ (List.length r43.1 : Int)) then
                                                bif decide (r7.1 > (shlI .i64 1 (List.length r43.1 : Int))) then
                                                  some (false, ())
                                                else
                                                  l_am_40 N r2.1.1 r2.1.2.1 r2.1.2.2.1 r2.1.2.2.2.1 r2.1.2.2.2.2.1 r2.1.2.2.2.2.2.1 r5.1.1 r5.1.2.1 r5.1.2.2.1 r5.1.2.2.2.1 0
                                              else none
                                            else
                                              l_am_40 N r2.1.1 r2.1.2.1 r2.1.2.2.1 r2.1.2.2.2.1 r2.1.2.2.2.2.1 r2.1.2.2.2.2.2.1 r5.1.1 r5.1.2.1 r5.1.2.2.1 r5.1.2.2.2.1 0
                else
                  bif !r3.2.1 then
                    some (true, ())
                  else
                    Option.bind (P_al (r2.1, ())) fun r39 =>
                    Option.bind (P_by (r2.1, ())) fun r40 =>
                    Option.bind (P_bz (r2.1, ())) fun r41 =>
                    Option.bind (P_bq (r2.1, r5.1, ())) fun r42 =>
                    Option.bind (P_bu (r2.1, ())) fun r43 =>
                    bif !r39.2.1 then
                      some (false, ())
                    else
                      bif !r40.2.1 then
                        some (false, ())
                      else
                        bif !r41.2.1 then
                          some (false, ())
                        else
                          bif !r42.2.1 then
                            some (false, ())
                          else
                            bif !r43.2.1 then
                              some (false, ())
                            else
                              bif !r42.1 then
                                some (false, ())
                              else
                                bif !decide ((List.length r5.1.2.2.2.1 : Int) = r3.1) then
                                  some (false, ())
                                else
                                  bif decide (r3.1 < r39.1) then
                                    some (false, ())
                                  else
                                    bif decide (r3.1 < (List.length r40.1 : Int)) then
                                      some (false, ())
                                    else
                                      bif decide (r3.1 > (List.length r43.1.2.2.2.1 : Int)) then
                                        some (false, ())
                                      else
                                        bif r7.2.1 then
                                          bif decide ((0 : Int) ≤ (List.length r41.1 : Int)) then
                                            bif decide (r7.1 > (shlI .i64 1 (List.length r41.1 : Int))) then
                                              some (false, ())
                                            else
                                              l_am_40 N r2.1.1 r2.1.2.1 r2.1.2.2.1 r2.1.2.2.2.1 r2.1.2.2.2.2.1 r2.1.2.2.2.2.2.1 r5.1.1 r5.1.2.1 r5.1.2.2.1 r5.1.2.2.2.1 0
                                          else none
                                        else
                                          l_am_40 N r2.1.1 r2.1.2.1 r2.1.2.2.1 r2.1.2.2.2.1 r2.1.2.2.2.2.1 r2.1.2.2.2.2.2.1 r5.1.1 r5.1.2.1 r5.1.2.2.1 r5.1.2.2.2.1 0
        else
          Option.bind (P_cb (r2.1, ())) fun r31 =>
          bif r7.2.1 then
            bif !r31.2.1 then
              some (false, ())
            else
              bif !(decide (r7.1 > 0) == r31.1) then
                some (false, ())
              else
                bif !r3.2.1 then
                  some (true, ())
                else
                  Option.bind (P_al (r2.1, ())) fun r36 =>
                  Option.bind (P_by (r2.1, ())) fun r37 =>
                  Option.bind (P_bz (r2.1, ())) fun r38 =>
                  Option.bind (P_bq (r2.1, r5.1, ())) fun r39 =>
                  Option.bind (P_bu (r2.1, ())) fun r40 =>
                  bif !r36.2.1 then
                    some (false, ())
                  else
                    bif !r37.2.1 then
                      some (false, ())
                    else
                      bif !r38.2.1 then
                        some (false, ())
                      else
                        bif !r39.2.1 then
                          some (false, ())
                        else
                          bif !r40.2.1 then
                            some (false, ())
                          else
                            bif !r39.1 then
                              some (false, ())
                            else
                              bif !decide ((List.length r5.1.2.2.2.1 : Int) = r3.1) then
                                some (false, ())
                              else
                                bif decide (r3.1 < r36.1) then
                                  some (false, ())
                                else
                                  bif decide (r3.1 < (List.length r37.1 : Int)) then
                                    some (false, ())
                                  else
                                    bif decide (r3.1 > (List.length r40.1.2.2.2.1 : Int)) then
                                      some (false, ())
                                    else
                                      bif r7.2.1 then
                                        bif decide ((0 : Int) ≤ (List.length r38.1 : Int)) then
                                          bif decide (r7.1 > (shlI .i64 1 (List.length r38.1 : Int))) then
                                            some (false, ())
                                          else
                                            l_am_40 N r2.1.1 r2.1.2.1 r2.1.2.2.1 r2.1.2.2.2.1 r2.1.2.2.2.2.1 r2.1.2.2.2.2.2.1 r5.1.1 r5.1.2.1 r5.1.2.2.1 r5.1.2.2.2.1 0
                                        else none
                                      else
                                        l_am_40 N r2.1.1 r2.1.2.1 r2.1.2.2.1 r2.1.2.2.2.1 r2.1.2.2.2.2.1 r2.1.2.2.2.2.2.1 r5.1.1 r5.1.2.1 r5.1.2.2.1 r5.1.2.2.2.1 0
          else
            bif !r3.2.1 then
              some (true, ())
            else
              Option.bind (P_al (r2.1, ())) fun r34 =>
              Option.bind (P_by (r2.1, ())) fun r35 =>
              Option.bind (P_bz (r2.1, ())) fun r36 =>
              Option.bind (P_bq (r2.1, r5.1, ())) fun r37 =>
              Option.bind (P_bu (r2.1, ())) fun r38 =>
              bif !r34.2.1 then
                some (false, ())
              else
                bif !r35.2.1 then
                  some (false, ())
                else
                  bif !r36.2.1 then
                    some (false, ())
                  else
                    bif !r37.2.1 then
                      some (false, ())
                    else
                      bif !r38.2.1 then
                        some (false, ())
                      else
                        bif !r37.1 then
                          some (false, ())
                        else
                          bif !decide ((List.length r5.1.2.2.2.1 : Int) = r3.1) then
                            some (false, ())
                          else
                            bif decide (r3.1 < r34.1) then
                              some (false, ())
                            else
                              bif decide (r3.1 < (List.length r35.1 : Int)) then
                                some (false, ())
                              else
                                bif decide (r3.1 > (List.length r38.1.2.2.2.1 : Int)) then
                                  some (false, ())
                                else
                                  bif r7.2.1 then
                                    bif decide ((0 : Int) ≤ (List.length r36.1 : Int)) then
                                      bif decide (r7.1 > (shlI .i64 1 (List.length r36.1 : Int))) then
                                        some (false, ())
                                      else
                                        l_am_40 N r2.1.1 r2.1.2.1 r2.1.2.2.1 r2.1.2.2.2.1 r2.1.2.2.2.2.1 r2.1.2.2.2.2.2.1 r5.1.1 r5.1.2.1 r5.1.2.2.1 r5.1.2.2.2.1 0
                                    else none
                                  else
                                    l_am_40 N r2.1.1 r2.1.2.1 r2.1.2.2.1 r2.1.2.2.2.1 r2.1.2.2.2.2.1 r2.1.2.2.2.2.2.1 r5.1.1 r5.1.2.1 r5.1.2.2.1 r5.1.2.2.2.1 0
  else
    Option.bind (P_cb (r2.1, ())) fun r25 =>
    bif r7.2.1 then
      bif !r25.2.1 then
        some (false, ())
      else
        bif !(decide (r7.1 > 0) == r25.1) then
          some (false, ())
        else
          bif !r3.2.1 then
            some (true, ())
          else
            Option.bind (P_al (r2.1, ())) fun r30 =>
            Option.bind (P_by (r2.1, ())) fun r31 =>
            Option.bind (P_bz (r2.1, ())) fun r32 =>
            Option.bind (P_bq (r2.1, r5.1, ())) fun r33 =>
            Option.bind (P_bu (r2.1, ())) fun r34 =>
            bif !r30.2.1 then
              some (false, ())
            else
              bif !r31.2.1 then
                some (false, ())
              else
                bif !r32.2.1 then
                  some (false, ())
                else
                  bif !r33.2.1 then
                    some (false, ())
                  else
                    bif !r34.2.1 then
                      some (false, ())
                    else
                      bif !r33.1 then
                        some (false, ())
                      else
                        bif !decide ((List.length r5.1.2.2.2.1 : Int) = r3.1) then
                          some (false, ())
                        else
                          bif decide (r3.1 < r30.1) then
                            some (false, ())
                          else
                            bif decide (r3.1 < (List.length r31.1 : Int)) then
                              some (false, ())
                            else
                              bif decide (r3.1 > (List.length r34.1.2.2.2.1 : Int)) then
                                some (false, ())
                              else
                                bif r7.2.1 then
                                  bif decide ((0 : Int) ≤ (List.length r32.1 : Int)) then
                                    bif decide (r7.1 > (shlI .i64 1 (List.length r32.1 : Int))) then
                                      some (false, ())
                                    else
                                      l_am_40 N r2.1.1 r2.1.2.1 r2.1.2.2.1 r2.1.2.2.2.1 r2.1.2.2.2.2.1 r2.1.2.2.2.2.2.1 r5.1.1 r5.1.2.1 r5.1.2.2.1 r5.1.2.2.2.1 0
                                  else none
                                else
                                  l_am_40 N r2.1.1 r2.1.2.1 r2.1.2.2.1 r2.1.2.2.2.1 r2.1.2.2.2.2.1 r2.1.2.2.2.2.2.1 r5.1.1 r5.1.2.1 r5.1.2.2.1 r5.1.2.2.2.1 0
    else
      bif !r3.2.1 then
        some (true, ())
      else
        Option.bind (P_al (r2.1, ())) fun r28 =>
        Option.bind (P_by (r2.1, ())) fun r29 =>
        Option.bind (P_bz (r2.1, ())) fun r30 =>
        Option.bind (P_bq (r2.1, r5.1, ())) fun r31 =>
        Option.bind (P_bu (r2.1, ())) fun r32 =>
        bif !r28.2.1 then
          some (false, ())
        else
          bif !r29.2.1 then
            some (false, ())
          else
            bif !r30.2.1 then
              some (false, ())
            else
              bif !r31.2.1 then
                some (false, ())
              else
                bif !r32.2.1 then
                  some (false, ())
                else
                  bif !r31.1 then
                    some (false, ())
                  else
                    bif !decide ((List.length r5.1.2.2.2.1 : Int) = r3.1) then
                      some (false, ())
                    else
                      bif decide (r3.1 < r28.1) then
                        some (false, ())
                      else
                        bif decide (r3.1 < (List.length r29.1 : Int)) then
                          some (false, ())
                        else
                          bif decide (r3.1 > (List.length r32.1.2.2.2.1 : Int)) then
                            some (false, ())
                          else
                            bif r7.2.1 then
                              bif decide ((0 : Int) ≤ (List.length r30.1 : Int)) then
                                bif decide (r7.1 > (shlI .i64 1 (List.length r30.1 : Int))) then
                                  some (false, ())
                                else
                                  l_am_40 N r2.1.1 r2.1.2.1 r2.1.2.2.1 r2.1.2.2.2.1 r2.1.2.2.2.2.1 r2.1.2.2.2.2.2.1 r5.1.1 r5.1.2.1 r5.1.2.2.1 r5.1.2.2.2.1 0
                              else none
                            else
                              l_am_40 N r2.1.1 r2.1.2.1 r2.1.2.2.1 r2.1.2.2.2.1 r2.1.2.2.2.2.1 r2.1.2.2.2.2.2.1 r5.1.1 r5.1.2.1 r5.1.2.2.1 r5.1.2.2.2.1 0) = some (true, ()) := by
  have hA := tA r2 r3 r5 r7 hm n x h27 h3 h5 h7
  cases hb : r11.2.1 with
  | false => exact hA
  | true =>
    obtain ⟨ho, hd, e1, e2, e3, hmir⟩ := h11 hb
    obtain ⟨hs, _⟩ := okSh_iff.1 ho
    have hot := mir_valid ho e1 e2 e3 hmir
    obtain ⟨r25, b1, b2, b3, b4⟩ := mir_both r11.1 hm11 r10.2.1
    have htrue : r25.2.1 = true := by
      obtain ⟨_, g1⟩ := mir_impl hm11 (dr := r10.2.1)
      obtain ⟨T, F, S, k1, _⟩ := g1 hot hd.1 hd.2
      rw [k1] at b1
      rw [← Option.some.inj b1]
    obtain ⟨_, _, f1, f2, f3, f4⟩ := b4 htrue
    have hback : r25.1 = r10.1 := mir_back hs ho e1 e2 e3 hmir f1 f2 f3 f4
    simp only [cond_true]
    rw [b1]
    simp only [Option.bind_some]
    rw [htrue, hback, f_vShadow _ hm10]
    simp only [Bool.not_true, cond_false, Option.bind_some]
    rw [f_Greatest _ hm10]
    simp only [Option.bind_some]
    cases hf : fitS r10.1 with
    | false =>
      simp only [Bool.false_eq_true, if_false, cond_false]
      exact hA
    | true =>
      simp only [if_true, cond_true]
      have hfit : fitsB r10.1 = true := by
        unfold fitS at hf
        rw [Bool.and_eq_true] at hf
        exact hf.2
      have hok : okHeap (r10.1.1, r10.1.2.1, r10.1.2.2.1, AL r10.1, ()) = true := okHeap_iff.2 ⟨hs, AL_ins hs, AL_srt hs⟩
      have hal := AL_len hs
      obtain ⟨l', q1, q2, q3⟩ := sorted_ex hs ((AL r10.1).map (mirC r10.1.1 r10.1.2.1 r10.1.2.2.1 r10.2.1)) (fun c hc => by
        obtain ⟨y, hy, rfl⟩ := List.mem_map.1 hc
        exact mirC_in (AL_ins hs y hy))
      have hmh : P_cz ((r10.1.1, (r10.1.2.1, (r10.1.2.2.1, (AL r10.1, ())))), r10.2.1, ()) = _ := mirror_is (h := (r10.1.1, r10.1.2.1, r10.1.2.2.1, AL r10.1, ())) (by unfold Small; show (AL r10.1).length ≤ _; omega) hok hd.1 hd.2 q1 q3
      have h64 := srt_small64 hs q2 q1
      have hsame := mir_heap ho hfit e1 e2 e3 hmir q3
      have hok' : okHeap (r10.1.1, r10.1.2.1, r10.1.2.2.1, l', ()) = true := okHeap_iff.2 ⟨hs, q2, q1⟩
      have hof := f_IsShadowOf r11.1 (r10.1.1, r10.1.2.1, r10.1.2.2.1, l', ()) hm11 (by unfold Small; show l'.length ≤ _; omega) hot hok'
      have hB : isOfB r11.1 (r10.1.1, r10.1.2.1, r10.1.2.2.1, l', ()) = true := by
        unfold isOfB
        rw [decide_eq_true e1, decide_eq_true e2, decide_eq_true e3]
        show sameL r11.1 (shadowOf r11.1.1 r11.1.2.1 r11.1.2.2.1 l') = true
        rw [e1, e2, e3]
        exact hsame
      rw [hmh]
      simp only [Option.bind_some]
      rw [hof, hB]
      simp only [Option.bind_some, Bool.not_true, cond_false]
      exact hA
theorem law_Fewest (a0 : List Int) (hb : ∀ b ∈ a0, 0 ≤ b ∧ b ≤ 255) : P_am (a0, ()) = some (true, ()) := by
  rw [p_am, p_do]
  simp only [Option.bind_some]
  by_cases hbig : (a0.length : Int) > 65536
  · rw [decide_eq_true hbig]
    rfl
  · rw [decide_eq_false hbig]
    have hC : Bts a0 := ⟨by omega, hb⟩
    obtain ⟨s, d1, hm⟩ := d_Fewest hC
    obtain ⟨n, x, h27, f1, f2, f3, f4⟩ := first_both s hm
    obtain ⟨c1, c2⟩ := count_both s hm
    obtain ⟨C', v1, hC'⟩ := f_vCut hC (by omega) 1 (by decide)
    obtain ⟨u, dr, m1, hmu⟩ := d_Mirror hC'
    obtain ⟨r11, k1, k2, k3, k4⟩ := mir_both u hmu dr
    have hsm : Small (if small27 s then ((s.1, (s.2.1, (s.2.2.1, (x, ())))), true, ()) else ((0, (0, (0, ([], ())))), false, ()) : D_Heap × Bool × Unit).1.2.2.2.1 := by
      cases h : small27 s with
      | false => simp [Small]
      | true =>
        have := (h27 h).2.2.2
        unfold Small
        show x.length ≤ _
        omega
    simp only [cond_false]
    rw [d1]
    simp only [Option.bind_some]
    rw [f1, f2, f3, f4, c1, c2, v1]
    simp only [Option.bind_some]
    rw [m1]
    simp only [Option.bind_some]
    rw [k1, k2]
    simp only [Option.bind_some, beq_self_eq_true, Bool.not_true, cond_false, decide_true]
    rw [f_vHeap _ hsm]
    simp only [Option.bind_some, Bool.not_true, cond_false]
    rw [f_vShadow _ k3]
    simp only [Option.bind_some, Bool.not_true, cond_false]
    have hB := tB (s, ()) (if small27 s then ((n : Int), true, ()) else (0, false, ())) (if small27 s then ((s.1, (s.2.1, (s.2.2.1, (x, ())))), true, ()) else ((0, (0, (0, ([], ())))), false, ())) (countV s) (u, dr, ()) r11 hm n x (fun h => ⟨(h27 h).1, (h27 h).2.2.1, (h27 h).2.2.2.1⟩) rfl rfl rfl hmu k3 k4
    have e : ((if small27 s then ((n : Int), true, ()) else (0, false, ()) : Int × Bool × Unit).2.1 == (if small27 s then ((s.1, (s.2.1, (s.2.2.1, (x, ())))), true, ()) else ((0, (0, (0, ([], ())))), false, ()) : D_Heap × Bool × Unit).2.1) = true := by
      cases small27 s <;> rfl
    rw [e]
    exact hB
end Go.VI
