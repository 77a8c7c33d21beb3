/- Plain: how many heaps have a shadow, by both. -/
import Derived.Test.YtbpjlmhkoflcgaaGreatPlFe
namespace Go.VI
open Go.Proofs
theorem and1 {k : Nat} (hk : k < 9223372036854775808) : intBits .and .i64 (k : Int) 1 = ((k % 2 : Nat) : Int) := by
  have ho : ∀ j : Nat, BitVec.ofInt 64 (j : Int) = BitVec.ofNat 64 j := fun j => BitVec.ofInt_natCast 64 j
  have hd : intBits .and .i64 (k : Int) 1 = IntKind.wrap .i64 ((BitVec.ofInt 64 (k : Int) &&& BitVec.ofInt 64 ((1 : Nat) : Int)).toNat : Int) := rfl
  rw [hd, ho, ho, BitVec.toNat_and, BitVec.toNat_ofNat, BitVec.toNat_ofNat, Nat.mod_eq_of_lt (a := k) (by omega), Nat.mod_eq_of_lt (a := 1) (by omega)]
  have : k &&& 1 = k % 2 := Nat.and_two_pow_sub_one_eq_mod k 1
  rw [this, w64 (by omega) (by omega)]
theorem shr1 (a k : Nat) (hk : k ≤ 64) : shrI .i64 (a : Int) (k : Int) = ((a / 2 ^ k : Nat) : Int) := by
  have : shrI .i64 (a : Int) (k : Int) = (a : Int).fdiv (2 ^ min k 64) := rfl
  rw [this, Nat.min_eq_left hk, Int.fdiv_eq_ediv_of_nonneg _ (by have := Nat.two_pow_pos k; exact_mod_cast Nat.le_of_lt this)]
  norm_cast
theorem shl1 {m : Nat} (hm : m ≤ 14) : shlI .i64 1 (m : Int) = ((2 ^ m : Nat) : Int) := by
  have hp : (2 : Nat) ^ m ≤ 2 ^ 14 := Nat.pow_le_pow_right (by decide) hm
  have : shlI .i64 1 (m : Int) = IntKind.wrap .i64 (1 * 2 ^ min m 64) := rfl
  rw [this, Nat.min_eq_left (by omega), Int.one_mul]
  have e : (2 : Int) ^ m = ((2 ^ m : Nat) : Int) := by norm_cast
  rw [e]
  generalize (2 : Nat) ^ m = K at hp ⊢
  rw [w64 (by omega) (by omega)]
theorem bit_code {c i : Nat} (hc : c < 16384) (hi : i ≤ 14) : decide (intBits .and .i64 (shrI .i64 (c : Int) (i : Int)) 1 = 1) = c.testBit i := by
  have hd : c / 2 ^ i ≤ c := Nat.div_le_self _ _
  rw [shr1 c i (by omega), and1 (by omega), Nat.testBit_eq_decide_div_mod_eq]
  exact decide_eq_decide.2 (by omega)
theorem pred_bit : ∀ n : Nat, 0 < n → ∃ q, n.testBit q = true ∧ (∀ j, j < q → n.testBit j = false) ∧ ∀ j, (n - 1).testBit j = if j < q then true else if j = q then false else n.testBit j := by
  intro n
  induction n using Nat.strongRecOn with
  | _ n ih =>
    intro h0
    by_cases h2 : n % 2 = 1
    · refine ⟨0, by rw [Nat.testBit_zero]; exact decide_eq_true h2, fun j hj => by omega, fun j => ?_⟩
      rw [if_neg (by omega)]
      cases j with
      | zero =>
        rw [if_pos rfl, Nat.testBit_zero]
        exact decide_eq_false (by omega)
      | succ j =>
        rw [if_neg (by omega), Nat.testBit_succ, Nat.testBit_succ]
        congr 1
        omega
    · obtain ⟨q, h1, h3, h4⟩ := ih (n / 2) (by omega) (by omega)
      refine ⟨q + 1, by rw [Nat.testBit_succ]; exact h1, fun j hj => ?_, fun j => ?_⟩
      · cases j with
        | zero => rw [Nat.testBit_zero]; exact decide_eq_false (by omega)
        | succ j => rw [Nat.testBit_succ]; exact h3 j (by omega)
      · cases j with
        | zero =>
          rw [if_pos (by omega), Nat.testBit_zero]
          exact decide_eq_true (by omega)
        | succ j =>
          have e : (n - 1) / 2 = n / 2 - 1 := by omega
          rw [Nat.testBit_succ, Nat.testBit_succ, e, h4]
          by_cases g1 : j < q
          · rw [if_pos g1, if_pos (show j + 1 < q + 1 by omega)]
          · rw [if_neg g1, if_neg (show ¬ j + 1 < q + 1 by omega)]
            by_cases g2 : j = q
            · rw [if_pos g2, if_pos (show j + 1 = q + 1 by omega)]
            · rw [if_neg g2, if_neg (show ¬ j + 1 = q + 1 by omega)]
def pickS (L : List D_A3) (c n : Nat) : List D_A3 := (List.range n).filterMap fun i => if c.testBit i then L[i]? else none
theorem mem_pick {L : List D_A3} {c n : Nat} {x : D_A3} : x ∈ pickS L c n ↔ ∃ i, i < n ∧ c.testBit i = true ∧ L[i]? = some x := by
  unfold pickS
  rw [List.mem_filterMap]
  constructor
  · rintro ⟨i, hi, h⟩
    by_cases hb : c.testBit i = true
    · rw [if_pos hb] at h; exact ⟨i, List.mem_range.1 hi, hb, h⟩
    · rw [if_neg hb] at h; cases h
  · rintro ⟨i, hi, hb, h⟩
    exact ⟨i, List.mem_range.2 hi, by rw [if_pos hb]; exact h⟩
theorem pick_succ {L : List D_A3} {c n : Nat} (hn : n < L.length) : pickS L c (n + 1) = pickS L c n ++ (if c.testBit n then [L[n]] else []) := by
  unfold pickS
  rw [List.range_succ, List.filterMap_append]
  congr 1
  by_cases hb : c.testBit n = true
  · simp [hb, List.getElem?_eq_getElem hn]
  · simp [hb]
theorem pick_len (L : List D_A3) (c n : Nat) : (pickS L c n).length ≤ n := by
  unfold pickS
  exact Nat.le_trans (List.length_filterMap_le ..) (by simp)
theorem has_mask {s : D_Shadow} (hs : sides s.1 s.2.1 s.2.2.1 = true) {L : List D_A3} (h : ∀ c ∈ L, c ∈ AL s) : Has s (mask s.2.1 s.2.2.1 L 0) L := by
  refine ⟨h, fun i => ?_⟩
  rw [mask_bit]
  constructor
  · intro hb
    have z : (0 : BitVec 64).getLsbD i = false := by simp
    rw [z, Bool.false_or, Bool.and_eq_true, List.any_eq_true] at hb
    obtain ⟨_, c, hc, e⟩ := hb
    exact ⟨c, hc, (of_decide_eq_true e).symm⟩
  · rintro ⟨c, hc, rfl⟩
    have h64 := (idx_eq hs (AL_ins hs c (h c hc))).2.1
    have hz := size64 hs
    rw [decide_eq_true (p := idx s.2.1 s.2.2.1 c < 64) (by omega), Bool.true_and, Bool.or_eq_true]
    exact .inr (List.any_eq_true.2 ⟨c, hc, decide_eq_true rfl⟩)
theorem has_ext {s : D_Shadow} {v w : B64} {L M : List D_A3} (hv : Has s v L) (hw : Has s w M) (h : ∀ c, c ∈ L ↔ c ∈ M) : v = w := by
  apply BitVec.eq_of_getLsbD_eq
  intro i _
  rw [Bool.eq_iff_iff, hv.2, hw.2]
  exact ⟨fun ⟨c, a, b⟩ => ⟨c, (h c).1 a, b⟩, fun ⟨c, a, b⟩ => ⟨c, (h c).2 a, b⟩⟩
def DB (s : D_Shadow) (c : Nat) : B64 := mask s.2.1 s.2.2.1 (pickS (SL s) c (SL s).length) 0
theorem pick_sub {s : D_Shadow} {c n : Nat} : ∀ x ∈ pickS (SL s) c n, x ∈ AL s := fun x hx => by
  obtain ⟨i, _, _, h⟩ := mem_pick.1 hx
  exact (List.mem_filter.1 (List.mem_of_getElem? h)).1
theorem DB_has {s : D_Shadow} (hs : sides s.1 s.2.1 s.2.2.1 = true) (c : Nat) : Has s (DB s c) (pickS (SL s) c (SL s).length) := has_mask hs pick_sub
theorem SL_idx {s : D_Shadow} (hs : sides s.1 s.2.1 s.2.2.1 = true) {i j : Nat} (hi : i < (SL s).length) (hj : j < (SL s).length) (h : i < j) : idx s.2.1 s.2.2.1 (SL s)[i] < idx s.2.1 s.2.2.1 (SL s)[j] := by
  have hr := List.pairwise_iff_getElem.1 (SL_srt hs) i j hi hj h
  have hin : ∀ c ∈ SL s, within3 s.1 s.2.1 s.2.2.1 c = true := fun c hc => AL_ins hs c (List.mem_filter.1 hc).1
  exact (idx_lt hs (hin _ (List.getElem_mem hi)) (hin _ (List.getElem_mem hj))).2 hr
theorem DB_bit {s : D_Shadow} (hs : sides s.1 s.2.1 s.2.2.1 = true) (c : Nat) {j : Nat} (hj : j < (SL s).length) : (DB s c).getLsbD (idx s.2.1 s.2.2.1 (SL s)[j]) = c.testBit j := by
  have hin : ∀ c ∈ SL s, c ∈ AL s := fun c hc => (List.mem_filter.1 hc).1
  rw [Bool.eq_iff_iff, (DB_has hs c).2]
  constructor
  · rintro ⟨x, hx, e⟩
    obtain ⟨i, hi, hb, h⟩ := mem_pick.1 hx
    obtain ⟨hlt, h'⟩ := List.getElem?_eq_some_iff.1 h
    have hij : i = j := by
      rcases Nat.lt_trichotomy i j with g | g | g
      · have := SL_idx hs hlt hj g
        rw [h'] at this
        omega
      · exact g
      · have := SL_idx hs hj hlt g
        rw [h'] at this
        omega
    rw [← hij]; exact hb
  · intro hb
    exact ⟨_, mem_pick.2 ⟨j, hj, hb, List.getElem?_eq_getElem hj⟩, rfl⟩
theorem DB_full {s : D_Shadow} (hs : sides s.1 s.2.1 s.2.2.1 = true) : DB s (2 ^ (SL s).length - 1) = allowedB s &&& ~~~(mustB s) := by
  refine has_ext (DB_has hs _) (spare_has hs) fun x => ?_
  rw [mem_pick]
  constructor
  · rintro ⟨i, _, _, h⟩
    exact List.mem_of_getElem? h
  · intro h
    obtain ⟨i, hi, rfl⟩ := List.getElem_of_mem h
    exact ⟨i, hi, by rw [Nat.testBit_two_pow_sub_one]; exact decide_eq_true hi, List.getElem?_eq_getElem hi⟩
theorem DB_zero {s : D_Shadow} (hs : sides s.1 s.2.1 s.2.2.1 = true) {c : Nat} (hc : c < 2 ^ (SL s).length) : DB s c = 0 ↔ c = 0 := by
  constructor
  · intro h
    apply Classical.byContradiction
    intro hne
    obtain ⟨q, h1, _, _⟩ := pred_bit c (by omega)
    have hq : q < (SL s).length := by
      apply Classical.byContradiction
      intro hn
      have := Nat.testBit_lt_two_pow (x := c) (i := q) (Nat.lt_of_lt_of_le hc (Nat.pow_le_pow_right (by decide) (by omega)))
      rw [h1] at this
      cases this
    have := DB_bit hs c hq
    rw [h, h1] at this
    simp at this
  · rintro rfl
    refine has_ext (DB_has hs 0) (no_has s) fun x => ?_
    rw [mem_pick]
    constructor
    · rintro ⟨i, _, hb, _⟩
      simp at hb
    · intro h; cases h
theorem DB_pred {s : D_Shadow} (hs : sides s.1 s.2.1 s.2.2.1 = true) {c : Nat} (hc : c < 2 ^ (SL s).length) (h0 : 0 < c) : intBits .and .u64 (IntKind.wrap .u64 (((DB s c).toNat : Int) - 1)) ((allowedB s &&& ~~~(mustB s)).toNat : Int) = ((DB s (c - 1)).toNat : Int) := by
  have hne : DB s c ≠ 0 := fun h => by have := (DB_zero hs hc).1 h; omega
  have hpos : 0 < (DB s c).toNat := by
    apply Classical.byContradiction
    intro hn
    exact hne (BitVec.eq_of_toNat_eq (by simp; omega))
  have hlt := (DB s c).isLt
  have e1 : ((DB s c).toNat : Int) - 1 = (((DB s c).toNat - 1 : Nat) : Int) := by omega
  rw [e1, wrapN (by omega), andN (by omega) (allowedB s &&& ~~~(mustB s)).isLt]
  congr 1
  obtain ⟨q, p1, p2, p3⟩ := pred_bit c h0
  have hq : q < (SL s).length := by
    apply Classical.byContradiction
    intro hn
    have := Nat.testBit_lt_two_pow (x := c) (i := q) (Nat.lt_of_lt_of_le hc (Nat.pow_le_pow_right (by decide) (by omega)))
    rw [p1] at this
    cases this
  obtain ⟨Q, r1, r2, r3⟩ := pred_bit (DB s c).toNat hpos
  have hQ : Q = idx s.2.1 s.2.2.1 (SL s)[q] := by
    have hb := DB_bit hs c hq
    rw [p1] at hb
    have hle : ¬ idx s.2.1 s.2.2.1 (SL s)[q] < Q := fun h => by
      have := r2 _ h
      unfold BitVec.getLsbD at hb
      rw [this] at hb
      cases hb
    obtain ⟨x, hx, e⟩ := ((DB_has hs c).2 Q).1 r1
    obtain ⟨i, hi, hbi, h⟩ := mem_pick.1 hx
    obtain ⟨hlt', h'⟩ := List.getElem?_eq_some_iff.1 h
    have hiq : ¬ i < q := fun h => by
      have := p2 i h
      rw [this] at hbi
      cases hbi
    rcases Nat.lt_or_eq_of_le (Nat.le_of_not_lt hiq) with g | g
    · have := SL_idx hs hq hlt' g
      rw [h', ← e] at this
      omega
    · subst g
      rw [h', ← e]
  apply Nat.eq_of_testBit_eq
  intro i
  rw [Nat.testBit_and]
  have hsp : (allowedB s &&& ~~~(mustB s)).toNat.testBit i = true ↔ ∃ x ∈ SL s, i = idx s.2.1 s.2.2.1 x := (spare_has hs).2 i
  by_cases hin : ∃ x ∈ SL s, i = idx s.2.1 s.2.2.1 x
  · rw [hsp.2 hin, Bool.and_true]
    obtain ⟨x, hx, rfl⟩ := hin
    obtain ⟨j, hj, rfl⟩ := List.getElem_of_mem hx
    have k1 : (DB s (c - 1)).toNat.testBit (idx s.2.1 s.2.2.1 (SL s)[j]) = (c - 1).testBit j := DB_bit hs (c - 1) hj
    have k2 : (DB s c).toNat.testBit (idx s.2.1 s.2.2.1 (SL s)[j]) = c.testBit j := DB_bit hs c hj
    rw [k1, r3, p3, k2, hQ]
    rcases Nat.lt_trichotomy j q with g | g | g
    · have := SL_idx hs hj hq g
      rw [if_pos this, if_pos g]
    · subst g
      rw [if_neg (by omega), if_pos rfl, if_neg (by omega), if_pos rfl]
    · have := SL_idx hs hq hj g
      rw [if_neg (by omega), if_neg (by omega), if_neg (by omega), if_neg (by omega)]
  · have h1 : (allowedB s &&& ~~~(mustB s)).toNat.testBit i = false := by
      rw [← Bool.not_eq_true, hsp]; exact hin
    rw [h1, Bool.and_false]
    symm
    rw [← Bool.not_eq_true]
    intro hb
    obtain ⟨x, hx, e⟩ := ((DB_has hs (c - 1)).2 i).1 hb
    obtain ⟨j, _, _, h⟩ := mem_pick.1 hx
    exact hin ⟨x, List.mem_of_getElem? h, e⟩
theorem l_idx {ns : List B64} (hn : ns.length ≤ 1000) {F : Int × Unit → Option (Bool × Unit)} {g : B64 → Bool} (hF : ∀ v ∈ ns, F ((v.toNat : Int), ()) = some (g v, ())) : ∀ (d k m : Nat), ns.length = k + d → d < m →
    ∃ r : Int, l_bj_2 m (nums ns) F ((nums ns).length : Int) (k : Int) = some (r, ()) ∧ (r ≥ 0 ↔ ∃ v ∈ ns.drop k, g v = true)
  | d, k, 0, _, h => by omega
  | d, k, m + 1, hk, hm => by
    have hl := nums_len ns
    rw [q_bj_2]
    by_cases hlt : k < ns.length
    · rw [ltT (by omega), inB_at (by omega), nums_at hlt, hF _ (List.getElem_mem hlt), succI k (by omega), drop_at ns k hlt]
      simp only [cond_true, Option.bind_some]
      cases hg : g ns[k] with
      | true => exact ⟨_, rfl, ⟨fun _ => ⟨_, List.mem_cons_self .., hg⟩, fun _ => by omega⟩⟩
      | false =>
        obtain ⟨r, r1, r2⟩ := l_idx hn hF (d - 1) (k + 1) m (by omega) (by omega)
        refine ⟨r, r1, r2.trans ⟨fun ⟨v, a, b⟩ => ⟨v, List.mem_cons_of_mem _ a, b⟩, ?_⟩⟩
        rintro ⟨v, a, b⟩
        rcases List.mem_cons.1 a with rfl | a
        · rw [hg] at b; cases b
        · exact ⟨v, a, b⟩
    · rw [ltF (by omega), List.drop_eq_nil_of_le (by omega)]
      refine ⟨-1, rfl, Iff.intro (fun h => by omega) ?_⟩
      rintro ⟨v, hv, _⟩
      cases hv
open Classical in
noncomputable def okC (s : D_Shadow) (c : Nat) : Bool := decide (CovD s (ML s ++ pickS (SL s) c (SL s).length))
theorem okC_iff {s : D_Shadow} {c : Nat} : okC s c = true ↔ CovD s (ML s ++ pickS (SL s) c (SL s).length) := by simp [okC]
theorem f_test {s : D_Shadow} (ho : okSh s = true) (c : Nat) : P_c9 (nums (needsB s), (fun (y : Int × Unit) => P_cq (y.1, ((DB s c).toNat : Int), ((mustB s).toNat : Int), ())), ()) = some (!okC s c, ()) := by
  obtain ⟨hs, _⟩ := okSh_iff.1 ho
  have hlen := needsB_len ho
  obtain ⟨r, r1, r2⟩ := l_idx (ns := needsB s) (by omega) (F := fun (y : Int × Unit) => P_cq (y.1, ((DB s c).toNat : Int), ((mustB s).toNat : Int), ())) (g := fun v => decide (v &&& (DB s c ||| mustB s) = 0)) (fun v _ => by
    show P_cq ((v.toNat : Int), ((DB s c).toNat : Int), ((mustB s).toNat : Int), ()) = _
    rw [p_cq, or64, and64, zdec]) (needsB s).length 0 N (by simp) (by have := N_ge; omega)
  have r1' : l_bj_2 N (nums (needsB s)) (fun (y : Int × Unit) => P_cq (y.1, ((DB s c).toNat : Int), ((mustB s).toNat : Int), ())) ((nums (needsB s)).length : Int) 0 = some (r, ()) := r1
  rw [p_c9, p_bj, r1']
  simp only [Option.bind_some]
  congr 2
  rw [List.drop_zero] at r2
  have hsub : ∀ x ∈ ML s ++ pickS (SL s) c (SL s).length, x ∈ AL s := fun x hx => by
    rcases List.mem_append.1 hx with hx | hx
    · exact (List.mem_filter.1 hx).1
    · exact pick_sub x hx
  have key : (∃ v ∈ needsB s, decide (v &&& (DB s c ||| mustB s) = 0) = true) ↔ ¬ CovD s (ML s ++ pickS (SL s) c (SL s).length) := by
    rw [covD_needs hs hsub]
    constructor
    · rintro ⟨v, hv, hz⟩ h
      have hz := of_decide_eq_true hz
      obtain ⟨x, hx, hb⟩ := h v hv
      have := (zero_iff _).1 hz (idx s.2.1 s.2.2.1 x)
      rw [BitVec.getLsbD_and, BitVec.getLsbD_or, hb, Bool.true_and, Bool.or_eq_false_iff] at this
      rcases List.mem_append.1 hx with hx | hx
      · rw [((ML_has hs).2 _).2 ⟨x, hx, rfl⟩] at this
        cases this.2
      · rw [((DB_has hs c).2 _).2 ⟨x, hx, rfl⟩] at this
        cases this.1
    · intro h
      apply Classical.byContradiction
      intro hn
      refine h fun v hv => ?_
      have hnz : v &&& (DB s c ||| mustB s) ≠ 0 := fun hz => hn ⟨v, hv, decide_eq_true hz⟩
      obtain ⟨i, _, hb⟩ := nz_bit hnz
      rw [BitVec.getLsbD_and, BitVec.getLsbD_or, Bool.and_eq_true, Bool.or_eq_true] at hb
      rcases hb.2 with h3 | h3
      · obtain ⟨x, hx, e⟩ := ((DB_has hs c).2 i).1 h3
        exact ⟨x, List.mem_append_right _ hx, by rw [← e]; exact hb.1⟩
      · obtain ⟨x, hx, e⟩ := ((ML_has hs).2 i).1 h3
        exact ⟨x, List.mem_append_left _ hx, by rw [← e]; exact hb.1⟩
  rw [Bool.eq_iff_iff, decide_eq_true_eq, r2, key, Bool.not_eq_true', ← Bool.not_eq_true, okC_iff]
noncomputable def cntTo (s : D_Shadow) (k : Nat) : Nat := ((List.range k).filter (okC s)).length
theorem cntTo_succ (s : D_Shadow) (k : Nat) : cntTo s (k + 1) = cntTo s k + (if okC s k then 1 else 0) := by
  unfold cntTo
  rw [List.range_succ, List.filter_append, List.length_append]
  congr 1
  by_cases h : okC s k = true
  · simp [h]
  · simp [h]
theorem cntTo_le (s : D_Shadow) (k : Nat) : cntTo s k ≤ k := by
  unfold cntTo
  exact Nat.le_trans (List.length_filter_le _ _) (by simp)
theorem l_cntI {s : D_Shadow} (ho : okSh s = true) (h14 : (SL s).length ≤ 14) : ∀ (c m v : Nat), c < 2 ^ (SL s).length → c < m → v + c ≤ 100000 →
    l_bi_12 m ((mustB s).toNat : Int) ((DB s c).toNat : Int) (nums (needsB s)) ((allowedB s &&& ~~~(mustB s)).toNat : Int) (v : Int) = some (((v + cntTo s (c + 1) : Nat) : Int), true, ())
  | c, 0, v, _, h, _ => by omega
  | c, m + 1, v, hc, hm, hv => by
    obtain ⟨hs, _⟩ := okSh_iff.1 ho
    have hp : (2 : Nat) ^ (SL s).length ≤ 2 ^ 14 := Nat.pow_le_pow_right (by decide) h14
    rw [q_bi_12, f_test ho c]
    simp only [Option.bind_some, Bool.not_not]
    rw [cntTo_succ, zdec]
    by_cases h0 : c = 0
    · subst h0
      rw [decide_eq_true ((DB_zero hs hc).2 rfl)]
      have e : cntTo s 0 = 0 := rfl
      rw [e]
      cases okC s 0 with
      | true => simp only [cond_true, if_true]; rw [succI v (by omega)]
      | false => simp
    · rw [decide_eq_false (fun h => h0 ((DB_zero hs hc).1 h)), DB_pred hs hc (by omega)]
      simp only [cond_false]
      have e : c - 1 + 1 = c := by omega
      cases okC s c with
      | true =>
        simp only [cond_true, if_true]
        rw [succI v (by omega), l_cntI ho h14 (c - 1) m (v + 1) (by omega) (by omega) (by omega), e]
        congr 3
        omega
      | false =>
        simp only [cond_false, Bool.false_eq_true, if_false]
        rw [l_cntI ho h14 (c - 1) m v (by omega) (by omega) (by omega), e]
        rfl
end Go.VI
/- Plain: how many heaps have a shadow: the reference, and both. -/
namespace Go.VI
open Go.Proofs
theorem l_cnt20 {s : D_Shadow} {A B : List D_A3} {v c : Int} {V : List Bool} (hV : V.length ≤ 100) (m0 : Nat) : ∀ (d k m : Nat) (b : Bool), V.length = k + d → d < m →
    l_ai_20 m0 m s.1 s.2.1 s.2.2.1 s.2.2.2.1 s.2.2.2.2.1 s.2.2.2.2.2.1 A B v c V b (k : Int) = bif b && (V.drop k).all (fun x => !x) then l_ai_10 m0 s.1 s.2.1 s.2.2.1 s.2.2.2.1 s.2.2.2.2.1 s.2.2.2.2.2.1 A B (IntKind.wrap .i64 (v + 1)) (IntKind.wrap .i64 (c + 1)) else l_ai_10 m0 s.1 s.2.1 s.2.2.1 s.2.2.2.1 s.2.2.2.2.1 s.2.2.2.2.2.1 A B v (IntKind.wrap .i64 (c + 1))
  | d, k, 0, b, _, h => by omega
  | d, k, m + 1, b, hk, hm => by
    rw [q_ai_20]
    by_cases hlt : k < V.length
    · have e : nth (.bool : Ty) V (k : Int) = V[k] := nthA (t := .bool) hlt
      rw [ltT hlt, inB_at hlt, e, succI k (by omega), drop_at V k hlt, List.all_cons]
      cases b with
      | true =>
        simp only [cond_true, Bool.true_and]
        exact l_cnt20 hV m0 (d - 1) (k + 1) m _ (by omega) (by omega)
      | false =>
        simp only [cond_true, cond_false, Bool.false_and]
        rw [l_cnt20 hV m0 (d - 1) (k + 1) m false (by omega) (by omega)]
        rfl
    · rw [ltF hlt, List.drop_eq_nil_of_le (by omega)]
      cases b <;> rfl
theorem l_cnt14 {s : D_Shadow} (ho : okSh s = true) (h14 : (SL s).length ≤ 14) {c : Nat} (hc : c < 16384) (v : Int) (m0 : Nat) : ∀ (d k m : Nat), (SL s).length = k + d → d < m →
    l_ai_14 m0 m s.1 s.2.1 s.2.2.1 s.2.2.2.1 s.2.2.2.2.1 s.2.2.2.2.2.1 (SL s) (ML s) v (c : Int) (ML s ++ pickS (SL s) c k) (k : Int) = bif okC s c then l_ai_10 m0 s.1 s.2.1 s.2.2.1 s.2.2.2.1 s.2.2.2.2.1 s.2.2.2.2.2.1 (SL s) (ML s) (IntKind.wrap .i64 (v + 1)) ((c + 1 : Nat) : Int) else l_ai_10 m0 s.1 s.2.1 s.2.2.1 s.2.2.2.1 s.2.2.2.2.1 s.2.2.2.2.2.1 (SL s) (ML s) v ((c + 1 : Nat) : Int)
  | d, k, 0, _, h => by omega
  | d, k, m + 1, hk, hm => by
    obtain ⟨hs, _⟩ := okSh_iff.1 ho
    have hal := AL_len hs
    have hml : (ML s).length ≤ 64 := Nat.le_trans (List.length_filter_le _ _) hal
    have hpl := pick_len (SL s) c k
    rw [q_ai_14]
    by_cases hlt : k < (SL s).length
    · rw [ltT hlt, decide_eq_true (p := (0 : Int) ≤ (k : Int)) (by omega), bit_code hc (by omega), inB_at hlt, nthA (t := T_A3) hlt, app24' (by rw [List.length_append]; omega), succI k (by omega)]
      simp only [cond_true]
      have hps := pick_succ (L := SL s) (c := c) (n := k) hlt
      have ih := l_cnt14 ho h14 hc v m0 (d - 1) (k + 1) m (by omega) (by omega)
      rw [hps] at ih
      cases hb : c.testBit k with
      | true =>
        rw [hb] at ih
        simp only [if_true] at ih
        simp only [cond_true]
        rw [List.append_assoc]
        exact ih
      | false =>
        rw [hb] at ih
        simp only [Bool.false_eq_true, if_false, List.append_nil] at ih
        simp only [cond_false]
        exact ih
    · have e : k = (SL s).length := by omega
      subst e
      rw [ltF hlt]
      simp only [cond_false]
      have hsub : ∀ x ∈ ML s ++ pickS (SL s) c (SL s).length, x ∈ AL s := fun x hx => by
        rcases List.mem_append.1 hx with hx | hx
        · exact (List.mem_filter.1 hx).1
        · exact pick_sub x hx
      have hin : Ins s.1 s.2.1 s.2.2.1 (ML s ++ pickS (SL s) c (SL s).length) := fun x hx => AL_ins hs x (hsub x hx)
      have hd : P_ah ((s.1, (s.2.1, (s.2.2.1, (s.2.2.2.1, (s.2.2.2.2.1, (s.2.2.2.2.2.1, ())))))), ML s ++ pickS (SL s) c (SL s).length, ()) = _ := f_dark ho hin (by rw [List.length_append]; omega)
      rw [hd]
      simp only [Option.bind_some]
      have hlen := darkL_len s (ML s ++ pickS (SL s) c (SL s).length)
      obtain ⟨h2, h1, h0, e1, e2, e3, e4, e5, e6⟩ := all_len3 ho
      have hL : (allL s).length ≤ 100 := by
        unfold allL
        rw [List.length_append, List.length_append]
        omega
      have h20 := l_cnt20 (s := s) (A := SL s) (B := ML s) (v := v) (c := (c : Int)) (V := darkL s (ML s ++ pickS (SL s) c (SL s).length)) (by omega) m0 (darkL s (ML s ++ pickS (SL s) c (SL s).length)).length 0 N true (by simp) (by have := N_ge; omega)
      have h20' : l_ai_20 m0 N s.1 s.2.1 s.2.2.1 s.2.2.2.1 s.2.2.2.2.1 s.2.2.2.2.2.1 (SL s) (ML s) v (c : Int) (darkL s (ML s ++ pickS (SL s) c (SL s).length)) true 0 = _ := h20
      rw [h20', List.drop_zero, Bool.true_and, succI c (by omega)]
      have e : (darkL s (ML s ++ pickS (SL s) c (SL s).length)).all (fun x => !x) = okC s c := by
        rw [Bool.eq_iff_iff, okC_iff, ← cov_iff ho hin, ← darkN_zero]
        unfold darkN
        rw [List.length_eq_zero_iff, List.filter_eq_nil_iff, List.all_eq_true]
        simp
      rw [e]
theorem l_cnt10 {s : D_Shadow} (ho : okSh s = true) (h14 : (SL s).length ≤ 14) : ∀ (d c m : Nat), 2 ^ (SL s).length = c + d → d < m →
    l_ai_10 m s.1 s.2.1 s.2.2.1 s.2.2.2.1 s.2.2.2.2.1 s.2.2.2.2.2.1 (SL s) (ML s) ((cntTo s c : Nat) : Int) (c : Int) = some (((cntTo s (2 ^ (SL s).length) : Nat) : Int), true, ())
  | d, c, 0, _, h => by omega
  | d, c, m + 1, hc, hm => by
    obtain ⟨hs, _⟩ := okSh_iff.1 ho
    have hal := AL_len hs
    have hml : (ML s).length ≤ 64 := Nat.le_trans (List.length_filter_le _ _) hal
    have hp : (2 : Nat) ^ (SL s).length ≤ 2 ^ 14 := Nat.pow_le_pow_right (by decide) h14
    have hle := cntTo_le s c
    rw [q_ai_10, decide_eq_true (p := (0 : Int) ≤ ((SL s).length : Int)) (by omega), shl1 h14]
    simp only [cond_true]
    by_cases hlt : c < 2 ^ (SL s).length
    · have hc14 : c < 16384 := by
        have : (2 : Nat) ^ 14 = 16384 := rfl
        omega
      have hl : (decide (((List.length ([] : List D_A3)) + (List.length (ML s))) * 24 ≤ 140737488355328) && decide (((List.length ([] : List D_A3)) + (List.length (ML s))) ≤ 140737488355328)) = true := by
        rw [Bool.and_eq_true, decide_eq_true_eq, decide_eq_true_eq, List.length_nil]
        omega
      rw [ltT hlt, hl]
      simp only [cond_true]
      have h := l_cnt14 ho h14 hc14 ((cntTo s c : Nat) : Int) m (SL s).length 0 N (by simp) (by have := N_ge; omega)
      have ep : pickS (SL s) c 0 = [] := rfl
      rw [ep, List.append_nil] at h
      have h' : l_ai_14 m N s.1 s.2.1 s.2.2.1 s.2.2.2.1 s.2.2.2.2.1 s.2.2.2.2.2.1 (SL s) (ML s) ((cntTo s c : Nat) : Int) (c : Int) (ML s) 0 = _ := h
      rw [List.nil_append, h', succI _ (by omega)]
      have hs' := cntTo_succ s c
      have ih := l_cnt10 ho h14 (d - 1) (c + 1) m (by omega) (by omega)
      cases hb : okC s c with
      | true =>
        rw [hb] at hs'
        simp only [if_true] at hs'
        rw [hs'] at ih
        simp only [cond_true]
        exact ih
      | false =>
        rw [hb] at hs'
        simp only [Bool.false_eq_true, if_false, Nat.add_zero] at hs'
        rw [hs'] at ih
        simp only [cond_false]
        exact ih
    · rw [ltF hlt]
      have e : c = 2 ^ (SL s).length := by omega
      rw [← e]
      rfl
noncomputable def countV (s : D_Shadow) : Int × Bool × Unit := if okSh s = true then (if fitsB s = true then (if (SL s).length ≤ 14 then (((cntTo s (2 ^ (SL s).length) : Nat) : Int), true, ()) else (0, false, ())) else (0, true, ())) else (0, false, ())
theorem SL_pop {s : D_Shadow} (hs : sides s.1 s.2.1 s.2.2.1 = true) : popB (allowedB s &&& ~~~(mustB s)).toNat = (SL s).length := (spare_has hs).pop hs (SL_srt hs)
theorem count_both (s : D_Shadow) (hm : SmallS s) : P_bi (s, ()) = some (countV s) ∧ P_ai (s, ()) = some (countV s) := by
  rw [p_bi, p_ai, f_isShadow s hm, f_l3Shadow s hm]
  unfold countV
  cases ho : okSh s with
  | false => exact ⟨rfl, rfl⟩
  | true =>
    obtain ⟨hs, _⟩ := okSh_iff.1 ho
    simp only [Option.bind_some, Bool.not_true, cond_false, if_true]
    rw [f_fits s ho, f_l3Fit s hm, ho, Bool.true_and]
    cases hf : fitsB s with
    | false => exact ⟨rfl, rfl⟩
    | true =>
      obtain ⟨p1, p2⟩ := f_parted ho
      simp only [Option.bind_some, Bool.not_true, cond_false, if_true]
      rw [f_must s ho, f_needs s ho, f_allowed s ho, p1, p2]
      simp only [Option.bind_some]
      rw [andNot64, f_count, SL_pop hs]
      simp only [Option.bind_some]
      by_cases h14 : (SL s).length ≤ 14
      · have hp : (2 : Nat) ^ (SL s).length ≤ 2 ^ 14 := Nat.pow_le_pow_right (by decide) h14
        have hp0 : 0 < (2 : Nat) ^ (SL s).length := Nat.two_pow_pos _
        have e14 : (2 : Nat) ^ 14 = 16384 := rfl
        rw [decide_eq_false (p := (((SL s).length : Nat) : Int) > 14) (by omega), if_pos h14]
        simp only [cond_false]
        constructor
        · have h := l_cntI ho h14 (2 ^ (SL s).length - 1) N 0 (by omega) (by have := N_ge; omega) (by omega)
          rw [DB_full hs] at h
          have e : 2 ^ (SL s).length - 1 + 1 = 2 ^ (SL s).length := by omega
          rw [e, Nat.zero_add] at h
          exact h
        · exact l_cnt10 ho h14 (2 ^ (SL s).length) 0 N (by omega) (by have := N_ge; omega)
      · rw [decide_eq_true (p := (((SL s).length : Nat) : Int) > 14) (by omega), if_neg h14]
        exact ⟨rfl, rfl⟩
theorem count_pos {s : D_Shadow} (ho : okSh s = true) (hf : fitsB s = true) : 0 < cntTo s (2 ^ (SL s).length) := by
  obtain ⟨hs, _⟩ := okSh_iff.1 ho
  have hp0 : 0 < (2 : Nat) ^ (SL s).length := Nat.two_pow_pos _
  have hk : okC s (2 ^ (SL s).length - 1) = true := okC_iff.2 fun d d0 d1 i hi => by
    obtain ⟨c, hc, e⟩ := (fit_cover ho hf).cov d d0 d1 i hi
    refine ⟨c, ?_, e⟩
    cases hb : (mustB s).getLsbD (idx s.2.1 s.2.2.1 c) with
    | true => exact List.mem_append_left _ (List.mem_filter.2 ⟨hc, hb⟩)
    | false =>
      obtain ⟨j, hj, rfl⟩ := List.getElem_of_mem (show c ∈ SL s from List.mem_filter.2 ⟨hc, by rw [hb]; rfl⟩)
      exact List.mem_append_right _ (mem_pick.2 ⟨j, hj, by rw [Nat.testBit_two_pow_sub_one]; exact decide_eq_true hj, List.getElem?_eq_getElem hj⟩)
  unfold cntTo
  exact List.length_pos_of_mem (List.mem_filter.2 ⟨List.mem_range.2 (by omega), hk⟩)
end Go.VI
/- Plain: mirrored shadows. -/
namespace Go.VI
open Go.Proofs
theorem dirQ {d : Int} (h0 : 0 ≤ d) (h1 : d ≤ 2) : d = 0 ∨ d = 1 ∨ d = 2 := by omega
theorem get3_mir {X Y Z dir : Int} {c : D_A3} {k : Int} (k0 : 0 ≤ k) (k1 : k ≤ 2) : get3 (mirC X Y Z dir c) k = bif decide (dir = k) then side3 X Y Z k - 1 - get3 c k else get3 c k := by
  rcases dirQ k0 k1 with rfl | rfl | rfl <;> rfl
theorem get3_in {X Y Z : Int} {c : D_A3} (hc : within3 X Y Z c = true) {k : Int} (k0 : 0 ≤ k) (k1 : k ≤ 2) : 0 ≤ get3 c k ∧ get3 c k ≤ side3 X Y Z k - 1 := by
  obtain ⟨h1, h2, h3⟩ := within3_iff.1 hc
  rcases dir k0 k1 with rfl | rfl | rfl
  · exact h1
  · exact h2
  · exact h3
theorem line_inj {X Y Z : Int} (hs : sides X Y Z = true) {d : Int} {c c' : D_A3} (hc : within3 X Y Z c = true) (hc' : within3 X Y Z c' = true) (h : lineD X Y Z d c = lineD X Y Z d c') : get3 c (o1 d) = get3 c' (o1 d) ∧ get3 c (o2 d) = get3 c' (o2 d) := by
  have a1 := get3_in hc (o1_ok d).1 (o1_ok d).2
  have a2 := get3_in hc (o2_ok d).1 (o2_ok d).2
  have b1 := get3_in hc' (o1_ok d).1 (o1_ok d).2
  have b2 := get3_in hc' (o2_ok d).1 (o2_ok d).2
  have e1 := side3_ok hs (o1 d)
  have e2 := side3_ok hs (o2 d)
  unfold lineD at h
  generalize side3 X Y Z (o2 d) = P at *
  generalize get3 c (o1 d) = u at *
  generalize get3 c' (o1 d) = u' at *
  rcases four e2.1 e2.2 with rfl | rfl | rfl | rfl <;> omega
theorem line_mir {X Y Z dir d : Int} {c c' : D_A3} (h : get3 c (o1 d) = get3 c' (o1 d) ∧ get3 c (o2 d) = get3 c' (o2 d)) : lineD X Y Z d (mirC X Y Z dir c) = lineD X Y Z d (mirC X Y Z dir c') := by
  unfold lineD
  rw [get3_mir (o1_ok d).1 (o1_ok d).2, get3_mir (o2_ok d).1 (o2_ok d).2, get3_mir (o1_ok d).1 (o1_ok d).2, get3_mir (o2_ok d).1 (o2_ok d).2, h.1, h.2]
theorem mirC2 (X Y Z dir : Int) (c : D_A3) : mirC X Y Z dir (mirC X Y Z dir c) = c := by
  unfold mirC
  refine cell_ext ?_ ?_ ?_
  · show (bif decide (dir = 0) then X - 1 - (bif decide (dir = 0) then X - 1 - c.1 else c.1) else (bif decide (dir = 0) then X - 1 - c.1 else c.1)) = c.1
    cases decide (dir = 0) <;> simp
    omega
  · show (bif decide (dir = 1) then Y - 1 - (bif decide (dir = 1) then Y - 1 - c.2.1 else c.2.1) else (bif decide (dir = 1) then Y - 1 - c.2.1 else c.2.1)) = c.2.1
    cases decide (dir = 1) <;> simp
    omega
  · show (bif decide (dir = 2) then Z - 1 - (bif decide (dir = 2) then Z - 1 - c.2.2.1 else c.2.2.1) else (bif decide (dir = 2) then Z - 1 - c.2.2.1 else c.2.2.1)) = c.2.2.1
    cases decide (dir = 2) <;> simp
    omega
theorem line_mir_iff {X Y Z dir d : Int} (hs : sides X Y Z = true) {c c' : D_A3} (hc : within3 X Y Z c = true) (hc' : within3 X Y Z c' = true) : lineD X Y Z d (mirC X Y Z dir c) = lineD X Y Z d (mirC X Y Z dir c') ↔ lineD X Y Z d c = lineD X Y Z d c' := by
  constructor
  · intro h
    have := line_mir (X := X) (Y := Y) (Z := Z) (dir := dir) (line_inj hs (mirC_in hc) (mirC_in hc') h)
    rwa [mirC2, mirC2] at this
  · intro h
    exact line_mir (line_inj hs hc hc' h)
theorem line_cell {X Y Z : Int} (hs : sides X Y Z = true) {d : Int} (d0 : 0 ≤ d) (d1 : d ≤ 2) {i : Nat} (hi : i < (linesD X Y Z d).toNat) : ∃ c, within3 X Y Z c = true ∧ lineD X Y Z d c = (i : Int) := by
  obtain ⟨s1, s2, s3⟩ := sides_iff.1 hs
  rcases dir d0 d1 with rfl | rfl | rfl
  · have hl : linesD X Y Z 0 = Y * Z := rfl
    rw [hl] at hi
    refine ⟨(0, (i : Int) / Z, (i : Int) % Z, ()), within3_iff.2 ?_, ?_⟩
    · show (0 ≤ (0 : Int) ∧ (0 : Int) ≤ X - 1) ∧ (0 ≤ (i : Int) / Z ∧ (i : Int) / Z ≤ Y - 1) ∧ (0 ≤ (i : Int) % Z ∧ (i : Int) % Z ≤ Z - 1)
      rcases four s3.1 s3.2 with rfl | rfl | rfl | rfl <;> omega
    · show (i : Int) / Z * Z + (i : Int) % Z = i
      rcases four s3.1 s3.2 with rfl | rfl | rfl | rfl <;> omega
  · have hl : linesD X Y Z 1 = X * Z := rfl
    rw [hl] at hi
    refine ⟨((i : Int) / Z, 0, (i : Int) % Z, ()), within3_iff.2 ?_, ?_⟩
    · show (0 ≤ (i : Int) / Z ∧ (i : Int) / Z ≤ X - 1) ∧ (0 ≤ (0 : Int) ∧ (0 : Int) ≤ Y - 1) ∧ (0 ≤ (i : Int) % Z ∧ (i : Int) % Z ≤ Z - 1)
      rcases four s3.1 s3.2 with rfl | rfl | rfl | rfl <;> omega
    · show (i : Int) / Z * Z + (i : Int) % Z = i
      rcases four s3.1 s3.2 with rfl | rfl | rfl | rfl <;> omega
  · have hl : linesD X Y Z 2 = X * Y := rfl
    rw [hl] at hi
    refine ⟨((i : Int) / Y, (i : Int) % Y, 0, ()), within3_iff.2 ?_, ?_⟩
    · show (0 ≤ (i : Int) / Y ∧ (i : Int) / Y ≤ X - 1) ∧ (0 ≤ (i : Int) % Y ∧ (i : Int) % Y ≤ Y - 1) ∧ (0 ≤ (0 : Int) ∧ (0 : Int) ≤ Z - 1)
      rcases four s2.1 s2.2 with rfl | rfl | rfl | rfl <;> omega
    · show (i : Int) / Y * Y + (i : Int) % Y = i
      rcases four s2.1 s2.2 with rfl | rfl | rfl | rfl <;> omega
def atL (X Y Z d : Int) (L : List Int) (c : D_A3) : Int := nth ((.int .i64) : Ty) L (lineD X Y Z d c)
structure MirOK (s : D_Shadow) (dr d : Int) (L : List Int) : Prop where
  len : L.length = (linesD s.1 s.2.1 s.2.2.1 d).toNat
  val : ∀ c, within3 s.1 s.2.1 s.2.2.1 c = true → atL s.1 s.2.1 s.2.2.1 d L c = atL s.1 s.2.1 s.2.2.1 d (listD s d) (mirC s.1 s.2.1 s.2.2.1 dr c)
theorem list_ext_lines {X Y Z : Int} (hs : sides X Y Z = true) {d : Int} (d0 : 0 ≤ d) (d1 : d ≤ 2) {L M : List Int} (hL : L.length = (linesD X Y Z d).toNat) (hM : M.length = (linesD X Y Z d).toNat) (h : ∀ c, within3 X Y Z c = true → atL X Y Z d L c = atL X Y Z d M c) : L = M := by
  refine List.ext_getElem (by omega) fun i h1 h2 => ?_
  obtain ⟨c, hc, e⟩ := line_cell hs d0 d1 (i := i) (by omega)
  have := h c hc
  unfold atL at this
  rw [e, nthA (t := .int .i64) h1, nthA (t := .int .i64) h2] at this
  exact this
theorem MirOK.uniq {s : D_Shadow} (hs : sides s.1 s.2.1 s.2.2.1 = true) {dr d : Int} (d0 : 0 ≤ d) (d1 : d ≤ 2) {L M : List Int} (h : MirOK s dr d L) (h' : MirOK s dr d M) : L = M :=
  list_ext_lines hs d0 d1 h.len h'.len fun c hc => by rw [h.val c hc, h'.val c hc]
theorem f_mirror {X Y Z : Int} (hs : sides X Y Z = true) {dr : Int} (r0 : 0 ≤ dr) (r1 : dr ≤ 2) {c : D_A3} (hc : within3 X Y Z c = true) : P_b6 ((X, Y, Z, ()), c, dr, ()) = some (mirC X Y Z dr c, ()) := by
  obtain ⟨s1, s2, s3⟩ := sides_iff.1 hs
  obtain ⟨w1, w2, w3⟩ := within3_iff.1 hc
  have i0 : inB dr 3 = true := by simp [inB]; omega
  rw [p_b6, i0]
  simp only [cond_true]
  rcases dir r0 r1 with rfl | rfl | rfl
  · simp only [decide_true, cond_true, Int.reduceEq, decide_false, cond_false]
    rw [w64 (x := X - 1) (by omega) (by omega), w64 (by omega) (by omega)]
    rfl
  · simp only [decide_true, cond_true, Int.reduceEq, decide_false, cond_false]
    rw [w64 (x := Y - 1) (by omega) (by omega), w64 (by omega) (by omega)]
    rfl
  · simp only [decide_true, cond_true, Int.reduceEq, decide_false, cond_false]
    rw [w64 (x := Z - 1) (by omega) (by omega), w64 (by omega) (by omega)]
    rfl
theorem a0_0 (t : D_Shadow) : P_b1 (t, 0, ()) = some (t.2.2.2.2.2.1, ()) := p_b1 t 0
theorem a0_1 (t : D_Shadow) : P_b1 (t, 1, ()) = none := p_b1 t 1
theorem a0_2 (t : D_Shadow) : P_b1 (t, 2, ()) = none := p_b1 t 2
theorem a1_1 (t : D_Shadow) : P_b3 (t, 1, ()) = some (t.2.2.2.2.1, ()) := p_b3 t 1
theorem a1_2 (t : D_Shadow) : P_b3 (t, 2, ()) = none := p_b3 t 2
theorem a2_2 (t : D_Shadow) : P_cm (t, 2, ()) = some (t.2.2.2.1, ()) := p_cm t 2
def setM (s : D_Shadow) (dr d : Int) (c : D_A3) (L : List Int) : List Int := List.set L (Int.toNat (lineD s.1 s.2.1 s.2.2.1 d (mirC s.1 s.2.1 s.2.2.1 dr c))) (atL s.1 s.2.1 s.2.2.1 d (listD s d) c)
theorem setM_len (s : D_Shadow) (dr d : Int) (c : D_A3) (L : List Int) : (setM s dr d c L).length = L.length := by simp [setM]
theorem l_mir10 {s : D_Shadow} (ho : okSh s = true) {dr : Int} (r0 : 0 ≤ dr) (r1 : dr ≤ 2) {c : D_A3} (hc : within3 s.1 s.2.1 s.2.2.1 c = true) {T F S : List Int} (hT : T.length = (linesD s.1 s.2.1 s.2.2.1 2).toNat) (hF : F.length = (linesD s.1 s.2.1 s.2.2.1 1).toNat) (hS : S.length = (linesD s.1 s.2.1 s.2.2.1 0).toNat) (sz i : Int) (m0 m : Nat) :
    l_ak_10 m0 (m + 1 + 1 + 1 + 1) s.1 s.2.1 s.2.2.1 s.2.2.2.1 s.2.2.2.2.1 s.2.2.2.2.2.1 0 0 0 [] [] [] s.1 s.2.1 s.2.2.1 s.1 s.2.1 s.2.2.1 T F S c.1 c.2.1 c.2.2.1 dr sz i 0 = l_ak_6 m0 s.1 s.2.1 s.2.2.1 s.2.2.2.1 s.2.2.2.2.1 s.2.2.2.2.2.1 0 0 0 [] [] [] s.1 s.2.1 s.2.2.1 s.1 s.2.1 s.2.2.1 (setM s dr 2 c T) (setM s dr 1 c F) (setM s dr 0 c S) dr sz (IntKind.wrap .i64 (i + 1)) := by
  obtain ⟨hs, _⟩ := okSh_iff.1 ho
  have hm := mirC_in (d := dr) hc
  have hmir : P_b6 ((s.1, (s.2.1, (s.2.2.1, ()))), (c.1, (c.2.1, (c.2.2.1, ()))), dr, ()) = _ := f_mirror hs r0 r1 hc
  have hl : ∀ d : Int, 0 ≤ d → d ≤ 2 → ∀ x, within3 s.1 s.2.1 s.2.2.1 x = true → ∀ L : List Int, L.length = (linesD s.1 s.2.1 s.2.2.1 d).toNat → inB (lineD s.1 s.2.1 s.2.2.1 d x) L.length = true := fun d d0 d1 x hx L hL => inB_lineD hs d0 d1 hx hL
  have g := fun (d : Int) (d0 : 0 ≤ d) (d1 : d ≤ 2) => (list_len ho d0 d1).1
  have ln : ∀ d : Int, 0 ≤ d → d ≤ 2 → P_a1 ((s.1, (s.2.1, (s.2.2.1, ()))), (c.1, (c.2.1, (c.2.2.1, ()))), d, ()) = some (lineD s.1 s.2.1 s.2.2.1 d c, ()) := fun d d0 d1 => f_lineD hs d0 d1 hc
  have lm : ∀ d : Int, 0 ≤ d → d ≤ 2 → P_a1 ((s.1, (s.2.1, (s.2.2.1, ()))), mirC s.1 s.2.1 s.2.2.1 dr c, d, ()) = some (lineD s.1 s.2.1 s.2.2.1 d (mirC s.1 s.2.1 s.2.2.1 dr c), ()) := fun d d0 d1 => f_lineD hs d0 d1 hm
  have i0 : inB (lineD s.1 s.2.1 s.2.2.1 0 c) s.2.2.2.2.2.1.length = true := hl 0 (by decide) (by decide) c hc _ (g 0 (by decide) (by decide))
  have i1 : inB (lineD s.1 s.2.1 s.2.2.1 1 c) s.2.2.2.2.1.length = true := hl 1 (by decide) (by decide) c hc _ (g 1 (by decide) (by decide))
  have i2 : inB (lineD s.1 s.2.1 s.2.2.1 2 c) s.2.2.2.1.length = true := hl 2 (by decide) (by decide) c hc _ (g 2 (by decide) (by decide))
  rw [q_ak_10, decide_eq_true (p := (0 : Int) < 3) (by decide), a0_0, a0_0, hmir]
  simp only [cond_true, Option.isSome_some, Option.bind_some]
  rw [lm 0 (by decide) (by decide), ln 0 (by decide) (by decide)]
  simp only [Option.bind_some]
  rw [i0, hl 0 (by decide) (by decide) _ hm S hS, one64]
  simp only [cond_true]
  rw [q_ak_10, decide_eq_true (p := (1 : Int) < 3) (by decide), a0_1, a0_1, a1_1, a1_1, hmir]
  simp only [cond_true, cond_false, Option.isSome_none, Option.isSome_some, Option.bind_some]
  rw [lm 1 (by decide) (by decide), ln 1 (by decide) (by decide)]
  simp only [Option.bind_some]
  rw [i1, hl 1 (by decide) (by decide) _ hm F hF, two64]
  simp only [cond_true]
  rw [q_ak_10, decide_eq_true (p := (2 : Int) < 3) (by decide), a0_2, a0_2, a1_2, a1_2, a2_2, a2_2, hmir]
  simp only [cond_true, cond_false, Option.isSome_none, Option.bind_some]
  rw [lm 2 (by decide) (by decide), ln 2 (by decide) (by decide)]
  simp only [Option.bind_some]
  rw [i2, hl 2 (by decide) (by decide) _ hm T hT, three64]
  simp only [cond_true]
  rw [q_ak_10, decide_eq_false (p := (3 : Int) < 3) (by decide)]
  rfl
structure MirTo (s : D_Shadow) (dr d : Int) (i : Nat) (L : List Int) : Prop where
  len : L.length = (linesD s.1 s.2.1 s.2.2.1 d).toNat
  val : ∀ c, within3 s.1 s.2.1 s.2.2.1 c = true → idx s.2.1 s.2.2.1 c < i → atL s.1 s.2.1 s.2.2.1 d L (mirC s.1 s.2.1 s.2.2.1 dr c) = atL s.1 s.2.1 s.2.2.1 d (listD s d) c
theorem MirTo.step {s : D_Shadow} (hs : sides s.1 s.2.1 s.2.2.1 = true) {dr d : Int} (d0 : 0 ≤ d) (d1 : d ≤ 2) {i : Nat} {L : List Int} (h : MirTo s dr d i L) {c : D_A3} (hc : within3 s.1 s.2.1 s.2.2.1 c = true) (hi : idx s.2.1 s.2.2.1 c = i) : MirTo s dr d (i + 1) (setM s dr d c L) := by
  refine ⟨by rw [setM_len]; exact h.len, fun x hx hxi => ?_⟩
  obtain ⟨k, hk, hkl⟩ := nat_line hs d0 d1 (mirC_in (d := dr) hc)
  obtain ⟨j, hj, hjl⟩ := nat_line hs d0 d1 (mirC_in (d := dr) hx)
  have hlen := h.len
  have hv : atL s.1 s.2.1 s.2.2.1 d (setM s dr d c L) (mirC s.1 s.2.1 s.2.2.1 dr x) = if k = j then atL s.1 s.2.1 s.2.2.1 d (listD s d) c else atL s.1 s.2.1 s.2.2.1 d L (mirC s.1 s.2.1 s.2.2.1 dr x) := by
    have hlt : j < (setM s dr d c L).length := by rw [setM_len]; omega
    have hlt' : j < L.length := by omega
    conv => lhs; unfold atL
    rw [hj, nthA (t := .int .i64) hlt]
    have e2 : atL s.1 s.2.1 s.2.2.1 d L (mirC s.1 s.2.1 s.2.2.1 dr x) = L[j] := by unfold atL; rw [hj, nthA (t := .int .i64) hlt']
    rw [e2]
    simp only [setM, hk, Int.toNat_natCast, List.getElem_set]
  rw [hv]
  by_cases e : k = j
  · rw [if_pos e]
    have : lineD s.1 s.2.1 s.2.2.1 d (mirC s.1 s.2.1 s.2.2.1 dr c) = lineD s.1 s.2.1 s.2.2.1 d (mirC s.1 s.2.1 s.2.2.1 dr x) := by rw [hk, hj, e]
    unfold atL
    rw [(line_mir_iff hs hc hx).1 this]
  · rw [if_neg e]
    refine h.val x hx ?_
    apply Classical.byContradiction
    intro hn
    have : idx s.2.1 s.2.2.1 x = idx s.2.1 s.2.2.1 c := by omega
    rw [idx_inj hs hx hc this, hk] at hj
    omega
theorem l_mir6 {s : D_Shadow} (ho : okSh s = true) {dr : Int} (r0 : 0 ≤ dr) (r1 : dr ≤ 2) : ∀ (d i m : Nat) (T F S : List Int), (s.1 * s.2.1 * s.2.2.1).toNat = i + d → d < m → MirTo s dr 2 i T → MirTo s dr 1 i F → MirTo s dr 0 i S →
    ∃ T' F' S', l_ak_6 m s.1 s.2.1 s.2.2.1 s.2.2.2.1 s.2.2.2.2.1 s.2.2.2.2.2.1 0 0 0 [] [] [] s.1 s.2.1 s.2.2.1 s.1 s.2.1 s.2.2.1 T F S dr (((s.1 * s.2.1 * s.2.2.1).toNat : Nat) : Int) (i : Int) = some ((s.1, (s.2.1, (s.2.2.1, (T', (F', (S', ())))))), true, ()) ∧ MirTo s dr 2 (s.1 * s.2.1 * s.2.2.1).toNat T' ∧ MirTo s dr 1 (s.1 * s.2.1 * s.2.2.1).toNat F' ∧ MirTo s dr 0 (s.1 * s.2.1 * s.2.2.1).toNat S'
  | d, i, 0, T, F, S, _, h, _, _, _ => by omega
  | d, i, m + 1, T, F, S, hi, hm, hT, hF, hS => by
    obtain ⟨hs, _⟩ := okSh_iff.1 ho
    have hz := size64 hs
    rw [q_ak_6]
    by_cases hlt : i < (s.1 * s.2.1 * s.2.2.1).toNat
    · obtain ⟨c1, c2⟩ := cellOf_ok hs hlt
      obtain ⟨n, hn⟩ : ∃ n, N = n + 1 + 1 + 1 + 1 := ⟨N - 4, by have := N_ge; omega⟩
      have h10 := l_mir10 ho r0 r1 c1 hT.len hF.len hS.len (((s.1 * s.2.1 * s.2.2.1).toNat : Nat) : Int) (i : Int) m n
      rw [← hn] at h10
      rw [ltT hlt, f_b2 hs (by omega)]
      simp only [cond_true, Option.bind_some]
      rw [h10, succI i (by omega)]
      exact l_mir6 ho r0 r1 (d - 1) (i + 1) m _ _ _ (by omega) (by omega) (hT.step hs (by decide) (by decide) c1 c2) (hF.step hs (by decide) (by decide) c1 c2) (hS.step hs (by decide) (by decide) c1 c2)
    · have e : i = (s.1 * s.2.1 * s.2.2.1).toNat := by omega
      rw [ltF hlt]
      rw [e] at hT hF hS
      exact ⟨T, F, S, rfl, hT, hF, hS⟩
theorem MirTo.ok {s : D_Shadow} (hs : sides s.1 s.2.1 s.2.2.1 = true) {dr d : Int} {L : List Int} (h : MirTo s dr d (s.1 * s.2.1 * s.2.2.1).toNat L) : MirOK s dr d L :=
  ⟨h.len, fun c hc => by
    have := h.val (mirC s.1 s.2.1 s.2.2.1 dr c) (mirC_in hc) (idx_eq hs (mirC_in hc)).2.1
    rwa [mirC2] at this⟩
theorem guard8 {n : Nat} (h : n ≤ 2000000) : (decide ((0 : Int) ≤ (n : Int)) && decide (((n : Int) : Int) ≤ (n : Int)) && decide (((n : Int) : Int) * ((8 : Nat) : Int) ≤ 140737488355328) && decide (((n : Int) : Int) ≤ 140737488355328)) = true := by
  rw [Bool.and_eq_true, Bool.and_eq_true, Bool.and_eq_true, decide_eq_true_eq, decide_eq_true_eq, decide_eq_true_eq, decide_eq_true_eq]
  omega
theorem mir_impl {s : D_Shadow} (hm : SmallS s) {dr : Int} : ((okSh s && (decide (0 ≤ dr) && decide (dr ≤ 2))) = false → P_ak (s, dr, ()) = some ((0, (0, (0, ([], ([], ([], ())))))), false, ())) ∧ (okSh s = true → 0 ≤ dr → dr ≤ 2 → ∃ T F S, P_ak (s, dr, ()) = some ((s.1, (s.2.1, (s.2.2.1, (T, (F, (S, ())))))), true, ()) ∧ MirOK s dr 2 T ∧ MirOK s dr 1 F ∧ MirOK s dr 0 S) := by
  have hdir : P_cg (dr, ()) = some (decide (0 ≤ dr) && decide (dr ≤ 2), ()) := by
    rw [p_cg, f_bl]
    rfl
  constructor
  · intro h
    rw [p_ak, f_isShadow s hm]
    cases ho : okSh s with
    | false => rfl
    | true =>
      rw [ho, Bool.true_and] at h
      simp only [Option.bind_some, Bool.not_true, cond_false]
      rw [hdir, h]
      rfl
  · intro ho r0 r1
    obtain ⟨hs, _⟩ := okSh_iff.1 ho
    have g := fun (d : Int) (d0 : 0 ≤ d) (d1 : d ≤ 2) => (list_len ho d0 d1)
    have g2 : s.2.2.2.1.length = (linesD s.1 s.2.1 s.2.2.1 2).toNat := (g 2 (by decide) (by decide)).1
    have g1 : s.2.2.2.2.1.length = (linesD s.1 s.2.1 s.2.2.1 1).toNat := (g 1 (by decide) (by decide)).1
    have g0 : s.2.2.2.2.2.1.length = (linesD s.1 s.2.1 s.2.2.1 0).toNat := (g 0 (by decide) (by decide)).1
    have hz := size64 hs
    have eb : P_ae (s, ()) = some ((s.1, s.2.1, s.2.2.1, ()), ()) := p_ae s
    have st : ∀ (d : Int) (n : Nat), n = (linesD s.1 s.2.1 s.2.2.1 d).toNat → MirTo s dr d 0 (List.replicate n (Ty.dflt ((.int .i64) : Ty))) := fun d n hn => ⟨by rw [List.length_replicate]; exact hn, fun c _ h => by omega⟩
    obtain ⟨T, F, S, e1, e2, e3, e4⟩ := l_mir6 ho r0 r1 (s.1 * s.2.1 * s.2.2.1).toNat 0 N _ _ _ (by omega) (by have := N_ge; omega) (st 2 s.2.2.2.1.length g2) (st 1 s.2.2.2.2.1.length g1) (st 0 s.2.2.2.2.2.1.length g0)
    refine ⟨T, F, S, ?_, e2.ok hs, e3.ok hs, e4.ok hs⟩
    rw [p_ak, f_isShadow s hm, ho]
    simp only [Option.bind_some, Bool.not_true, cond_false]
    rw [hdir, decide_eq_true r0, decide_eq_true r1]
    simp only [Option.bind_some, Bool.and_self, Bool.not_true, cond_false]
    rw [eb]
    simp only [Option.bind_some]
    unfold SmallS Small at hm
    rw [guard8 (by omega), guard8 (by omega), guard8 (by omega), f_size hs]
    simp only [cond_true, Option.bind_some, Int.toNat_natCast]
    exact e1
end Go.VI
