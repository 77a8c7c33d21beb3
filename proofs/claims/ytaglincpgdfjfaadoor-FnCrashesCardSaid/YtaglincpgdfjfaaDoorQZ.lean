/- Plain: the law of crashes. -/
import Derived.Test.YtaglincpgdfjfaaDoorQY
namespace Go.VI
open Go.Proofs Go.Sort
set_option maxRecDepth 100000

/-! ### Draws -/
theorem lineX {k : Nat} (hk : k < 1000000) (e : D_LogRecord) (he : Sh e) : ∃ r : List UInt8, P_spec_l12Line ((k : Int), e, ()) = some (r, ()) ∧ r.length ≤ 1000 := by
  obtain ⟨h1, h2⟩ := he
  have hd : (Lib.decDigits k).length ≤ 6 := dec_len 5 k (by omega)
  rw [p_spec_l12Line, f_num k hk]
  simp only [Option.bind_some]
  rw [cat_ok (by omega) (by decide)]
  simp only [Option.bind_some]
  rw [cat_ok (by rw [List.length_append, List.length_singleton]; omega) (by omega)]
  simp only [Option.bind_some]
  rw [cat_ok (by rw [List.length_append, List.length_append, List.length_singleton]; omega) (by decide)]
  simp only [Option.bind_some]
  rw [cat_ok (by simp only [List.length_append, List.length_singleton]; omega) (by omega)]
  simp only [Option.bind_some]
  generalize hT : Lib.decDigits k ++ [32] ++ e.1 ++ [64] ++ e.2.1 = T
  have hTl : T.length ≤ 300 := by rw [← hT]; simp only [List.length_append, List.length_singleton]; omega
  rw [f_seal T (by unfold Small; omega)]
  have hs := (seal_len T).1
  simp only [Option.bind_some]
  rw [cat_ok (by omega) (by decide)]
  exact ⟨_, rfl, by rw [List.length_append, List.length_singleton]; omega⟩

theorem drec_tail {C : List Int} (hC : Bts C) {n : Nat} {s : Sd} (h : At (n + 4) s) (x : List UInt8) (hx : x.length ≤ 100000) : ∃ y : List UInt8, (Option.bind (P_l1Cur_one ((C, s), 40, ())) fun r5 =>
    bif r5.1.1 then
      Option.bind (P_l1Cur_pick ((C, r5.2.1.2), 2, ())) fun r7 =>
      bif (decide ((0 : Int) ≤ (IntKind.wrap .i64 (30000 + r7.1.1))) && decide (((IntKind.wrap .i64 (30000 + r7.1.1)) : Int) ≤ (IntKind.wrap .i64 (30000 + r7.1.1))) && decide (((IntKind.wrap .i64 (30000 + r7.1.1)) : Int) * (1 : Nat) ≤ 140737488355328) && decide (((IntKind.wrap .i64 (30000 + r7.1.1)) : Int) ≤ 140737488355328)) then
        some ((List.map (fun (k : Int) => k.toNat.toUInt8) (List.replicate (Int.toNat (IntKind.wrap .i64 (30000 + r7.1.1))) (Ty.dflt ((.int .u8) : Ty)))), ())
      else none
    else some (x, ())) = some (y, ()) ∧ y.length ≤ 100000 := by
  obtain ⟨o, s1, e1, a1⟩ := f_one hC (n := n + 2) h 40
  obtain ⟨p, s2, e2, a2, p1, p2⟩ := f_pick hC (n := n) a1 2
  rw [e1]
  simp only [Option.bind_some]
  cases o with
  | false => exact ⟨x, rfl, hx⟩
  | true =>
    simp only [cond_true]
    rw [e2]
    simp only [Option.bind_some]
    have hp : p ≤ 1 := by omega
    have hw : IntKind.wrap .i64 (30000 + p) = 30000 + p := w64 (by omega) (by omega)
    rw [hw, decide_eq_true (p := (0 : Int) ≤ 30000 + p) (by omega), decide_eq_true (p := 30000 + p ≤ 30000 + p) (by omega), decide_eq_true (p := (30000 + p) * ((1 : Nat) : Int) ≤ 140737488355328) (by omega), decide_eq_true (p := 30000 + p ≤ 140737488355328) (by omega)]
    exact ⟨_, rfl, by rw [List.length_map, List.length_replicate]; omega⟩

theorem d_Recover {C : List Int} (hC : Bts C) : ∃ s : List UInt8, P_spec_DrawRecoverLog (C, ()) = some (s, ()) ∧ Small s := by
  obtain ⟨l, s1, e1, a1, hl⟩ := f_log12 hC (n := 100) (at00 _ (by omega))
  unfold Lb at hl
  obtain ⟨p, s2, e2, a2, _⟩ := f_pick hC (n := 98) a1 4
  have e1' : P_l1Cur_log12 ((C, (0, (0, ()))), ()) = _ := e1
  have sm : ∀ y : List UInt8, y.length ≤ 100000 → Small y := fun y h => by unfold Small; omega
  rw [p_spec_DrawRecoverLog, e1']
  simp only [Option.bind_some]
  rw [cat_ok (a := l.1) (b := l.2.1) (by omega) (by omega)]
  simp only [Option.bind_some]
  rw [e2]
  simp only [Option.bind_some]
  have hlen : (l.1 ++ l.2.1).length ≤ 5000 := by rw [List.length_append]; omega
  generalize l.1 ++ l.2.1 = t at hlen
  by_cases c0 : p = 0
  · rw [decide_eq_true c0]
    obtain ⟨x, s3, e3, a3, hx⟩ := f_spoilt hC (n := 60) (a2.le (by omega)) t [35, 64, 10, 48, 49] (by omega) (by decide) (by decide)
    simp only [cond_true]
    rw [e3]
    simp only [Option.bind_some]
    obtain ⟨y, g, hy⟩ := drec_tail hC (n := 0) (s := s3) (a3.le (by omega)) x (by omega)
    exact ⟨y, g, sm y hy⟩
  · rw [decide_eq_false c0]
    by_cases c1 : p = 1
    · rw [decide_eq_true c1]
      obtain ⟨q, s3, e3, a3, q1, q2⟩ := f_pick hC (n := 60) (a2.le (by omega)) ((t.length : Int) + 1)
      have hw : IntKind.wrap .i64 ((t.length : Int) + 1) = (t.length : Int) + 1 := w64 (by omega) (by omega)
      simp only [cond_true, cond_false]
      rw [hw, e3]
      simp only [Option.bind_some]
      rw [decide_eq_true (p := (0 : Int) ≤ 0) (by omega), decide_eq_true (p := (0 : Int) ≤ q) (by omega), decide_eq_true (p := q ≤ (t.length : Int)) (by omega)]
      obtain ⟨y, g, hy⟩ := drec_tail hC (n := 0) (s := s3) (a3.le (by omega)) (cut t 0 q) (by simp [cut]; omega)
      exact ⟨y, g, sm y hy⟩
    · rw [decide_eq_false c1]
      by_cases c2 : p = 2
      · rw [decide_eq_true c2]
        obtain ⟨q, s3, e3, a3, q1, q2⟩ := f_pick hC (n := 60) (a2.le (by omega)) 4
        obtain ⟨e, s4, e4, a4, he⟩ := f_logRecord hC (n := 40) (a3.le (by omega))
        obtain ⟨k, rfl⟩ : ∃ k : Nat, q = (k : Int) := ⟨q.toNat, by omega⟩
        obtain ⟨r, e5, hr⟩ := lineX (k := k) (by omega) e he
        simp only [cond_true, cond_false]
        rw [e3]
        simp only [Option.bind_some]
        rw [e4]
        simp only [Option.bind_some]
        rw [e5]
        simp only [Option.bind_some]
        rw [cat_ok (a := t) (b := r) (by omega) (by omega)]
        obtain ⟨y, g, hy⟩ := drec_tail hC (n := 0) (s := s4) (a4.le (by omega)) (t ++ r) (by rw [List.length_append]; omega)
        exact ⟨y, g, sm y hy⟩
      · rw [decide_eq_false c2]
        obtain ⟨y, g, hy⟩ := drec_tail hC (n := 0) (s := s2) (a2.le (by omega)) t (by omega)
        exact ⟨y, g, sm y hy⟩

/-! ### What is read behind a crash -/
/-- The bytes of lines are plain ones and ends of lines. -/
theorem line_byte {k : Nat} {e : LRec} (ho : okRec e = true) (b : UInt8) (hb : b ∈ lineB k e) : b.toNat ≤ 126 := by
  unfold lineB sealB at hb
  rcases List.mem_append.1 hb with hb | hb
  · rcases List.mem_append.1 hb with hb | hb
    · exact (text_bytes ho b hb).2.1
    · rcases List.mem_cons.1 hb with rfl | hb
      · decide
      · have := (dec_mem _ b hb).2; omega
  · rw [List.mem_singleton.1 hb]; decide

theorem rd_bytes : ∀ (f k : Nat) (s : List UInt8), tot (rd f k s) = s.length → ∀ b ∈ s, b.toNat ≤ 126
  | 0, k, s, h, b, hb => by
    simp only [rd, tot] at h
    rw [List.length_eq_zero_iff.1 h.symm] at hb
    cases hb
  | f + 1, k, s, h, b, hb => by
    by_cases hm : (10 : UInt8) ∈ s
    · cases hd1 : dec k (hd 10 s) with
      | none =>
        have e0 : rd (f + 1) k s = [] := by rw [rd, if_pos hm, hd1]
        rw [e0] at h
        simp only [tot] at h
        rw [List.length_eq_zero_iff.1 h.symm] at hb
        cases hb
      | some e =>
        have e0 : rd (f + 1) k s = (e, (hd 10 s).length + 1) :: rd f (k + 1) (s.drop ((hd 10 s).length + 1)) := by rw [rd, if_pos hm, hd1]
        rw [e0] at h
        simp only [tot] at h
        have hle := hd_le 10 s hm
        obtain ⟨o1, o2⟩ := dec_iff.1 hd1
        rw [hd_split hm] at hb
        rcases List.mem_append.1 hb with hb | hb
        · exact line_byte o1 b (by rw [o2]; exact List.mem_append_left _ hb)
        · rcases List.mem_cons.1 hb with rfl | hb
          · decide
          · exact rd_bytes f (k + 1) (s.drop ((hd 10 s).length + 1)) (by rw [List.length_drop]; omega) b hb
    · have e0 : rd (f + 1) k s = [] := by rw [rd, if_neg hm]
      rw [e0] at h
      simp only [tot] at h
      rw [List.length_eq_zero_iff.1 h.symm] at hb
      cases hb

theorem torn_not10 {c : UInt8} (h : c.toNat ≤ 126) : torn1 c ≠ 10 := by
  unfold torn1
  have hw : IntKind.wrap .u8 (255 - (c.toNat : Int)) = 255 - (c.toNat : Int) := by
    simp only [IntKind.wrap, IntKind.bits, IntKind.signed]
    simp
    omega
  rw [hw]
  intro hh
  have h2 := congrArg UInt8.toNat hh
  simp at h2
  omega

/-- Behind a crash the records of a beginning of the log are read, those that are durable among them. -/
theorem crash_read {l : D_Log} (hv : okLog l = true) {k : Nat} (hk : k ≤ l.2.1.length) (t : Bool) :
    (crashB l k t).length = l.1.length + k ∧ l.1.length ≤ tot (rdAll (crashB l k t)) ∧ (∃ r, recs (rdAll (l.1 ++ l.2.1)) = recs (rdAll (crashB l k t)) ++ r) ∧ (t = false → k = l.2.1.length → rdAll (crashB l k t) = rdAll (l.1 ++ l.2.1)) := by
  obtain ⟨h1, h2, h3, h4⟩ := okLog_iff.1 hv
  have hlen : (l.2.1.take k).length = k := by rw [List.length_take]; omega
  have key : ∀ A B C' : List UInt8, A ++ B = l.1 ++ l.2.1 → (10 : UInt8) ∉ C' → (∃ D, A = l.1 ++ D) → l.1.length ≤ tot (rdAll (A ++ C')) ∧ ∃ r, recs (rdAll (l.1 ++ l.2.1)) = recs (rdAll (A ++ C')) ++ r := by
    rintro A B C' hAB hC ⟨D, rfl⟩
    have e1 : rdAll (l.1 ++ D ++ C') = rdAll (l.1 ++ D) := rd_no10 60 0 _ _ hC
    obtain ⟨r1, hr1⟩ := rd_pre 60 0 l.1 D
    obtain ⟨r2, hr2⟩ := rd_pre 60 0 (l.1 ++ D) B
    have e2 : rdAll (l.1 ++ D) = rdAll l.1 ++ r1 := hr1
    have e3 : rdAll (l.1 ++ l.2.1) = rdAll (l.1 ++ D) ++ r2 := by rw [← hAB]; exact hr2
    refine ⟨?_, recs r2, ?_⟩
    · rw [e1, e2, tot_app, h3]; omega
    · rw [e1, e3, recs_app]
  unfold crashB
  cases htk : t && decide (0 < k) with
  | false =>
    simp only [cond_false]
    have := key (l.1 ++ l.2.1.take k) (l.2.1.drop k) [] (by rw [List.append_assoc, List.take_append_drop]) (by simp) ⟨_, rfl⟩
    rw [List.append_nil] at this
    refine ⟨by rw [List.length_append, hlen], this.1, this.2, fun _ hkl => ?_⟩
    rw [hkl, List.take_length]
  | true =>
    simp only [cond_true]
    rw [Bool.and_eq_true, decide_eq_true_eq] at htk
    have hsp : l.2.1.take k = l.2.1.take (k - 1) ++ [l.2.1[k - 1]'(by omega)] := by
      conv => lhs; rw [show k = (k - 1) + 1 by omega]
      rw [List.take_add_one, List.getElem?_eq_getElem (by omega)]
      rfl
    have hl2 : (l.1 ++ l.2.1.take (k - 1)).length = l.1.length + k - 1 := by rw [List.length_append, List.length_take]; omega
    have hfull : l.1 ++ l.2.1.take k = (l.1 ++ l.2.1.take (k - 1)) ++ [l.2.1[k - 1]'(by omega)] := by rw [hsp, List.append_assoc]
    have hby : (l.2.1[k - 1]'(by omega)).toNat ≤ 126 := rd_bytes 60 0 (l.1 ++ l.2.1) (by rw [List.length_append]; exact h2) _ (List.mem_append_right _ (List.getElem_mem _))
    generalize l.2.1[k - 1]'(by omega) = c at hfull hby
    have hset : (l.1 ++ l.2.1.take k).set (l.1.length + k - 1) (torn1 ((l.1 ++ l.2.1.take k).getD (l.1.length + k - 1) 0)) = (l.1 ++ l.2.1.take (k - 1)) ++ [torn1 c] := by
      rw [hfull, ← hl2, List.set_append_right _ _ (Nat.le_refl _), Nat.sub_self]
      congr 1
      simp [List.getD]
    rw [hset]
    have := key (l.1 ++ l.2.1.take (k - 1)) (l.2.1.drop (k - 1)) [torn1 c] (by rw [List.append_assoc, List.take_append_drop]) (by
      intro hh
      exact torn_not10 hby (List.mem_singleton.1 hh).symm) ⟨_, rfl⟩
    refine ⟨by rw [List.length_append, hl2, List.length_singleton]; omega, this.1, this.2, fun hf => ?_⟩
    rw [hf] at htk
    cases htk.1

theorem law_Crashes (C : List Int) (hb : ∀ b ∈ C, 0 ≤ b ∧ b ≤ 255) : P_laws_FnCrashes (C, ()) = some (true, ()) := by
  rw [p_laws_FnCrashes, p_laws_vBig]
  simp only [Option.bind_some]
  by_cases hbig : ((C.length : Nat) : Int) > 65536
  · rw [decide_eq_true hbig]; rfl
  rw [decide_eq_false hbig]
  have hC : Bts C := ⟨by omega, hb⟩
  obtain ⟨C1, v1, b1⟩ := f_vCut hC (by omega) 1 (by decide)
  obtain ⟨l, k, t, d1, hl⟩ := d_Crash hC
  obtain ⟨s, d2, hs⟩ := d_Recover b1
  unfold Lb at hl
  have sl : l.1.length + l.2.1.length ≤ 1048576 := Nat.le_trans hl (by decide)
  obtain ⟨c1, c2⟩ := f_crash l k t sl
  obtain ⟨r1, r2⟩ := f_recover s hs
  simp only [cond_false]
  rw [d1]
  simp only [Option.bind_some]
  rw [c1, c2, v1]
  simp only [Option.bind_some]
  rw [d2]
  simp only [Option.bind_some]
  rw [r1, r2]
  simp only [Option.bind_some, beq_self_eq_true, Bool.not_true, cond_false, decide_true, Bool.and_self]
  unfold crashV
  cases hc : okLog l && (decide (0 ≤ k) && decide (k ≤ (l.2.1.length : Int))) with
  | false => rfl
  | true =>
    rw [Bool.and_eq_true, Bool.and_eq_true, decide_eq_true_eq, decide_eq_true_eq] at hc
    obtain ⟨hv, k0, k1⟩ := hc
    obtain ⟨n, rfl⟩ : ∃ n : Nat, k = (n : Int) := ⟨k.toNat, by omega⟩
    obtain ⟨g1, g2, ⟨r, g3⟩, g4⟩ := crash_read hv (k := n) (by omega) t
    obtain ⟨h1, h2, h3, h4⟩ := okLog_iff.1 hv
    simp only [cond_true, Int.toNat_natCast, Bool.not_true, cond_false]
    generalize crashB l n t = z at *
    have hz : z.length ≤ 30000 := by omega
    have hzs : Small z := by unfold Small; omega
    rw [(f_recover z hzs).2]
    have ev : recoverV z = ((z.take (tot (rdAll z)), [], ((recs (rdAll z)).length : Int), ()), (tot (rdAll z) : Int), true, ()) := by
      unfold recoverV
      rw [decide_eq_false (by omega)]
      rfl
    rw [ev]
    simp only [Option.bind_some, Bool.not_true, cond_false]
    have ht : tot (rdAll z) ≤ z.length := rd_tot 60 0 z
    have htk : (z.take (tot (rdAll z))).length = tot (rdAll z) := by rw [List.length_take]; omega
    have hrt : rdAll (z.take (tot (rdAll z))) = rdAll z := rd_take 60 0 z
    have hback : okLog (z.take (tot (rdAll z)), [], ((recs (rdAll z)).length : Int), ()) = true := by
      refine okLog_iff.2 ⟨?_, ?_, ?_, ?_⟩
      · show (z.take (tot (rdAll z))).length + 0 ≤ 30000; omega
      · show tot (rdAll (z.take (tot (rdAll z)) ++ [])) = (z.take (tot (rdAll z))).length + 0
        rw [List.append_nil, hrt, htk]
        omega
      · show tot (rdAll (z.take (tot (rdAll z)))) = (z.take (tot (rdAll z))).length
        rw [hrt, htk]
      · show ((recs (rdAll z)).length : Int) = ((recs (rdAll (z.take (tot (rdAll z)) ++ []))).length : Int)
        rw [List.append_nil, hrt]
    have hbs : (z.take (tot (rdAll z))).length + ([] : List UInt8).length ≤ 1048576 := by rw [htk]; simp; omega
    rw [f_validI (z.take (tot (rdAll z)), [], ((recs (rdAll z)).length : Int), ()) hbs, hback]
    simp only [Option.bind_some, Bool.not_true, cond_false]
    rw [decide_eq_false (by omega), htk]
    simp only [decide_true, Bool.not_true, cond_false]
    rw [(f_recs l sl).2, (f_recs (z.take (tot (rdAll z)), [], ((recs (rdAll z)).length : Int), ()) hbs).2]
    have e1 : recsV l = (recs (rdAll z) ++ r, true, ()) := by
      unfold recsV
      rw [hv, g3]
      rfl
    have e2 : recsV (z.take (tot (rdAll z)), [], ((recs (rdAll z)).length : Int), ()) = (recs (rdAll z), true, ()) := by
      unfold recsV
      rw [hback]
      show (recs (rdAll (z.take (tot (rdAll z)) ++ [])), true, ()) = _
      rw [List.append_nil, hrt]
    rw [e1, e2]
    simp only [Option.bind_some]
    have hrl : (recs (rdAll z)).length ≤ 60 := by rw [recs_len]; exact rdAll_len z
    have hle : (((recs (rdAll z)).length : Nat) : Int) ≤ ((recs (rdAll z) ++ r).length : Int) := by rw [List.length_append]; omega
    rw [decide_eq_true hle, decide_eq_true (p := (0 : Int) ≤ 0) (by omega), decide_eq_true (p := (0 : Int) ≤ ((recs (rdAll z)).length : Int)) (by omega), cut_pre, f_vRec _ (by omega)]
    simp only [Bool.and_self, cond_true, Option.bind_some]
    cases ht0 : t with
    | true => rfl
    | false =>
      simp only [cond_false]
      by_cases hkl : (n : Int) < (l.2.1.length : Int)
      · rw [decide_eq_true hkl]; rfl
      · rw [decide_eq_false hkl]
        simp only [cond_false]
        have := g4 ht0 (by omega)
        rw [← this] at g3
        have hr : r = [] := by
          have hh := congrArg List.length g3
          rw [List.length_append] at hh
          exact List.length_eq_zero_iff.1 (by omega)
        rw [hr, List.append_nil, decide_eq_true rfl]
end Go.VI
