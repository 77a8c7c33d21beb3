/- Plain: the draws of records and logs give something. -/
import Derived.Test.YtaglincpgdfjfaaDoorQV
namespace Go.VI
open Go.Proofs Go.Sort
set_option maxRecDepth 100000

theorem wu64 (n : Int) : IntKind.wrap .u64 n = n % 18446744073709551616 := by simp [IntKind.wrap, IntKind.bits, IntKind.signed]

/-- Bytes to draw from. -/
def Bts (C : List Int) : Prop := C.length ≤ 1000000 ∧ ∀ b ∈ C, 0 ≤ b ∧ b ≤ 255
abbrev Sd : Type := Int × Int × Unit
/-- A place from which n more bytes can be drawn. -/
def At (n : Nat) (s : Sd) : Prop := 0 ≤ s.1 ∧ s.1 + n ≤ 1000000000

theorem At.le {n m : Nat} {s : Sd} (h : At n s) (hm : m ≤ n) : At m s := ⟨h.1, by have := h.2; omega⟩

theorem and255 (a : Int) : 0 ≤ intBits .and .u64 a 255 ∧ intBits .and .u64 a 255 ≤ 255 := by
  have h : ((BitVec.ofInt 64 a) &&& (BitVec.ofInt 64 255)).toNat ≤ 255 := by
    rw [BitVec.toNat_and]
    exact Nat.le_trans Nat.and_le_right (by decide)
  have e : intBits .and .u64 a 255 = (((BitVec.ofInt 64 a) &&& (BitVec.ofInt 64 255)).toNat : Int) := by
    simp only [intBits]
    rw [show IntKind.bits .u64 = 64 from rfl, wu64]
    omega
  rw [e]
  omega

theorem nth_byte {C : List Int} (hC : Bts C) {i : Int} (h0 : 0 ≤ i) (h1 : i < C.length) : 0 ≤ nth ((.int .u8) : Ty) C i ∧ nth ((.int .u8) : Ty) C i ≤ 255 := by
  have hlt : i.toNat < C.length := by omega
  have e : nth ((.int .u8) : Ty) C i = C[i.toNat] := by simp [nth, List.getD, List.getElem?_eq_getElem hlt]
  rw [e]
  exact hC.2 _ (List.getElem_mem hlt)

theorem f_next {C : List Int} (hC : Bts C) {n : Nat} {s : Sd} (h : At (n + 1) s) : ∃ (x : Int) (s' : Sd), P_l1Cur_next ((C, s), ()) = some ((x, ()), ((C, s'), ())) ∧ At n s' ∧ 0 ≤ x ∧ x ≤ 255 := by
  obtain ⟨a, sd, ⟨⟩⟩ := s
  obtain ⟨h0, h1⟩ := h
  simp only at h0 h1
  rw [p_l1Cur_next]
  simp only
  rw [w64 (x := a + 1) (by omega) (by omega)]
  have hat : ∀ z : Int, At n (a + 1, z, ()) := fun z => ⟨by simp only; omega, by simp only; omega⟩
  by_cases c : a < (C.length : Int)
  · obtain ⟨b0, b1⟩ := nth_byte hC h0 c
    rw [decide_eq_true c, show inB a C.length = true by simp [inB]; omega, decide_eq_true (p := a + 1 ≤ (C.length : Int)) (by omega), w64 (x := nth ((.int .u8) : Ty) C a) (Int.le_trans (by decide) b0) (Int.le_trans b1 (by decide))]
    exact ⟨_, _, rfl, hat _, b0, b1⟩
  · rw [decide_eq_false c, decide_eq_false (p := a + 1 ≤ (C.length : Int)) (by omega)]
    simp only [cond_false]
    generalize hz : intBits .and .u64 _ 255 = z
    have hb : 0 ≤ z ∧ z ≤ 255 := by rw [← hz]; exact and255 _
    rw [w64 (x := z) (by omega) (by omega)]
    exact ⟨_, _, rfl, hat _, hb.1, hb.2⟩

theorem f_pick {C : List Int} (hC : Bts C) {n : Nat} {s : Sd} (h : At (n + 2) s) (k : Int) : ∃ (x : Int) (s' : Sd), P_l1Cur_pick ((C, s), k, ()) = some ((x, ()), ((C, s'), ())) ∧ At n s' ∧ 0 ≤ x ∧ (x < k ∨ (k ≤ 1 ∧ x = 0)) := by
  rw [p_l1Cur_pick]
  by_cases c : k ≤ 1
  · rw [decide_eq_true c]
    exact ⟨_, _, rfl, h.le (by omega), Int.le_refl _, .inr ⟨c, rfl⟩⟩
  · obtain ⟨x, s1, e1, a1, b1, b2⟩ := f_next hC h
    rw [decide_eq_false c, e1]
    simp only [cond_false, Option.bind_some]
    by_cases d : k > 200
    · obtain ⟨y, s2, e2, a2, c1, c2⟩ := f_next hC a1
      rw [decide_eq_true d, e2]
      simp only [cond_true, Option.bind_some]
      rw [decide_eq_false (p := k = 0) (by omega), w64 (x := x * 256) (by omega) (by omega), w64 (x := x * 256 + y) (by omega) (by omega)]
      exact ⟨_, _, rfl, a2, Int.tmod_nonneg _ (by omega), .inl (Int.tmod_lt_of_pos _ (by omega))⟩
    · rw [decide_eq_false d, decide_eq_false (p := k = 0) (by omega)]
      exact ⟨_, _, rfl, a1.le (by omega), Int.tmod_nonneg _ (by omega), .inl (Int.tmod_lt_of_pos _ (by omega))⟩

theorem f_one {C : List Int} (hC : Bts C) {n : Nat} {s : Sd} (h : At (n + 2) s) (k : Int) : ∃ (b : Bool) (s' : Sd), P_l1Cur_one ((C, s), k, ()) = some ((b, ()), ((C, s'), ())) ∧ At n s' := by
  obtain ⟨x, s1, e1, a1, _, _⟩ := f_pick hC h k
  rw [p_l1Cur_one, e1]
  exact ⟨_, _, rfl, a1⟩

theorem f_among {C : List Int} (hC : Bts C) {n : Nat} {s : Sd} (h : At (n + 2) s) (l : List Int) (hl : 0 < l.length) : ∃ (x : Int) (s' : Sd), P_l1Cur_among ((C, s), l, ()) = some ((x, ()), ((C, s'), ())) ∧ At n s' ∧ x ∈ l := by
  obtain ⟨x, s1, e1, a1, b1, b2⟩ := f_pick hC h (l.length : Int)
  rw [p_l1Cur_among, e1]
  simp only [Option.bind_some]
  have hx : x < (l.length : Int) := by omega
  rw [show inB x l.length = true by simp [inB]; omega]
  have hlt : x.toNat < l.length := by omega
  have e : nth ((.int .i64) : Ty) l x = l[x.toNat] := by simp [nth, List.getD, List.getElem?_eq_getElem hlt]
  rw [e]
  exact ⟨_, _, rfl, a1, List.getElem_mem hlt⟩

theorem wrap8 (x : Int) : 0 ≤ IntKind.wrap .u8 x ∧ IntKind.wrap .u8 x ≤ 255 := by
  have : IntKind.wrap .u8 x = x % 256 := by simp [IntKind.wrap, IntKind.bits, IntKind.signed]
  rw [this]
  omega

theorem f_vCut {C : List Int} (hC : Bts C) (hn : C.length ≤ 65536) (k : Int) (k0 : 0 ≤ k) : ∃ C' : List Int, P_laws_vCut (C, k, ()) = some (C', ()) ∧ Bts C' := by
  have key : ∀ lo : Int, 0 ≤ lo → lo ≤ (C.length : Int) → ∀ v : Int, Bts ((([] : List Int) ++ (cut C lo (C.length : Int))) ++ ([(IntKind.wrap .u8 v)] : List Int)) ∧ (cut C lo (C.length : Int)).length ≤ 65536 := by
    intro lo l0 l1 v
    have hlen : (cut C lo (C.length : Int)).length ≤ 65536 := by
      unfold cut
      rw [List.length_drop, List.length_take]
      omega
    refine ⟨⟨by simp only [List.nil_append, List.length_append, List.length_singleton]; omega, fun b hb => ?_⟩, hlen⟩
    rcases List.mem_append.1 hb with hb | hb
    · have hb' : b ∈ cut C lo (C.length : Int) := by simpa using hb
      unfold cut at hb'
      exact hC.2 b (List.mem_of_mem_take (List.mem_of_mem_drop hb'))
    · rw [List.mem_singleton.1 hb]
      exact wrap8 v
  rw [p_laws_vCut]
  by_cases c : k > (C.length : Int)
  · obtain ⟨h1, h2⟩ := key (C.length : Int) (by omega) (by omega) (C.length : Int)
    rw [decide_eq_true c, decide_eq_true (p := (0 : Int) ≤ (C.length : Int)) (by omega), decide_eq_true (p := (C.length : Int) ≤ (C.length : Int)) (by omega)]
    rw [decide_eq_true (p := (([] : List Int).length + (cut C (C.length : Int) (C.length : Int)).length) * 1 ≤ 140737488355328) (by simp only [List.length_nil]; omega), decide_eq_true (p := ([] : List Int).length + (cut C (C.length : Int) (C.length : Int)).length ≤ 140737488355328) (by simp only [List.length_nil]; omega)]
    rw [decide_eq_true (p := ((([] : List Int) ++ cut C (C.length : Int) (C.length : Int)).length + ([(IntKind.wrap .u8 (C.length : Int))] : List Int).length) * 1 ≤ 140737488355328) (by simp only [List.nil_append, List.length_singleton]; omega), decide_eq_true (p := (([] : List Int) ++ cut C (C.length : Int) (C.length : Int)).length + ([(IntKind.wrap .u8 (C.length : Int))] : List Int).length ≤ 140737488355328) (by simp only [List.nil_append, List.length_singleton]; omega)]
    exact ⟨_, rfl, h1⟩
  · obtain ⟨h1, h2⟩ := key k k0 (by omega) k
    rw [decide_eq_false c, decide_eq_true (p := (0 : Int) ≤ k) k0, decide_eq_true (p := k ≤ (C.length : Int)) (by omega), decide_eq_true (p := (C.length : Int) ≤ (C.length : Int)) (by omega)]
    rw [decide_eq_true (p := (([] : List Int).length + (cut C k (C.length : Int)).length) * 1 ≤ 140737488355328) (by simp only [List.length_nil]; omega), decide_eq_true (p := ([] : List Int).length + (cut C k (C.length : Int)).length ≤ 140737488355328) (by simp only [List.length_nil]; omega)]
    rw [decide_eq_true (p := ((([] : List Int) ++ cut C k (C.length : Int)).length + ([(IntKind.wrap .u8 k)] : List Int).length) * 1 ≤ 140737488355328) (by simp only [List.nil_append, List.length_singleton]; omega), decide_eq_true (p := (([] : List Int) ++ cut C k (C.length : Int)).length + ([(IntKind.wrap .u8 k)] : List Int).length ≤ 140737488355328) (by simp only [List.nil_append, List.length_singleton]; omega)]
    exact ⟨_, rfl, h1⟩

theorem at00 (n : Nat) (h : n ≤ 1000000) : At n ((0, 0, ()) : Sd) := ⟨by simp only; omega, by simp only; omega⟩

theorem f_of {C : List Int} (hC : Bts C) {n : Nat} {s : Sd} (h : At (n + 2) s) (l : List (List UInt8)) (hl : 0 < l.length) : ∃ (x : List UInt8) (s' : Sd), P_l1Cur_of ((C, s), l, ()) = some ((x, ()), ((C, s'), ())) ∧ At n s' ∧ x ∈ l := by
  obtain ⟨x, s1, e1, a1, b1, b2⟩ := f_pick hC h (l.length : Int)
  rw [p_l1Cur_of, e1]
  simp only [Option.bind_some]
  have hx : x < (l.length : Int) := by omega
  rw [show inB x l.length = true by simp [inB]; omega]
  have hlt : x.toNat < l.length := by omega
  have e : nth (.str : Ty) l x = l[x.toNat] := by simp [nth, List.getD, List.getElem?_eq_getElem hlt]
  rw [e]
  exact ⟨_, _, rfl, a1, List.getElem_mem hlt⟩

/-- A record with short texts. -/
def Sh (e : D_LogRecord) : Prop := e.1.length ≤ 100 ∧ e.2.1.length ≤ 100

theorem f_logRecord {C : List Int} (hC : Bts C) {n : Nat} {s : Sd} (h : At (n + 8) s) : ∃ (e : D_LogRecord) (s' : Sd), P_l1Cur_logRecord ((C, s), ()) = some ((e, ()), ((C, s'), ())) ∧ At n s' ∧ Sh e := by
  obtain ⟨x, s1, e1, a1, m1⟩ := f_of hC (n := n + 6) h [[104, 101, 97, 112], [112, 117, 116, 32, 49, 32, 48, 32, 48], [120], [109, 105, 114, 114, 111, 114, 32, 50], [48, 32, 49]] (by decide)
  obtain ⟨y, s2, e2, a2, m2⟩ := f_of hC (n := n + 4) a1 [[], [51], [63], [97, 64, 98], [51, 32, 49, 32, 50]] (by decide)
  obtain ⟨p, s3, e3, a3, _⟩ := f_pick hC (n := n + 2) a2 24
  obtain ⟨u, s4, e4, a4, m4⟩ := f_of hC (n := n) a3 [[], [97, 64, 98], [97, 35], [10], [0, 0, 0]] (by decide)
  obtain ⟨v, s5, e5, a5, m5⟩ := f_of hC (n := n) a3 [[35], [10], [127]] (by decide)
  have lx : x.length ≤ 100 := by simp at m1; rcases m1 with rfl | rfl | rfl | rfl | rfl <;> decide
  have ly : y.length ≤ 100 := by simp at m2; rcases m2 with rfl | rfl | rfl | rfl | rfl <;> decide
  have lu : u.length ≤ 100 := by simp at m4; rcases m4 with rfl | rfl | rfl | rfl | rfl <;> decide
  have lv : v.length ≤ 100 := by simp at m5; rcases m5 with rfl | rfl | rfl <;> decide
  rw [p_l1Cur_logRecord, e1]
  simp only [Option.bind_some]
  rw [e2]
  simp only [Option.bind_some]
  rw [e3]
  simp only [Option.bind_some]
  have ez : (List.map (fun (k : Int) => k.toNat.toUInt8) (List.replicate (Int.toNat 3) (Ty.dflt ((.int .u8) : Ty)))) = [0, 0, 0] := by decide
  rw [ez, e4, e5]
  by_cases c0 : p = 0
  · rw [decide_eq_true c0]; exact ⟨_, _, rfl, a4, lu, ly⟩
  · rw [decide_eq_false c0]
    by_cases c1 : p = 1
    · rw [decide_eq_true c1]; exact ⟨_, _, rfl, a5, lx, lv⟩
    · rw [decide_eq_false c1]; exact ⟨_, _, rfl, a3.le (by omega), lx, ly⟩

/-- A log with at most b bytes. -/
def Lb (b : Nat) (l : D_Log) : Prop := l.1.length + l.2.1.length ≤ b

theorem app_b {b : Nat} {l : D_Log} {e : D_LogRecord} (hl : Lb b l) (hb : b ≤ 100000) (he : Sh e) : ∃ r : D_Log × Int × Unit, P_spec_AppendRecord (l, e, ()) = some r ∧ Lb (b + 472) r.1 := by
  unfold Lb at hl
  have g := (f_app l e (by omega) (by have := he.1; unfold Small; omega) (by have := he.2; unfold Small; omega)).1
  refine ⟨_, g, ?_⟩
  unfold appV
  cases hc : okLog l && okRec e with
  | false => exact Nat.le_trans hl (by omega)
  | true =>
    rw [Bool.and_eq_true] at hc
    have h60 := okLog_count hc.1
    simp only [Bool.not_true, cond_false]
    by_cases c : l.2.2.1 = 60
    · rw [decide_eq_true c]; exact Nat.le_trans hl (by omega)
    · rw [decide_eq_false c]
      have := line_len (k := l.2.2.1.toNat) (by omega) hc.2
      show l.1.length + (l.2.1 ++ lineB l.2.2.1.toNat e).length ≤ _
      rw [List.length_append]
      omega

theorem sync_b {b : Nat} {l : D_Log} (hl : Lb b l) (hb : b ≤ 100000) : ∃ r : D_Log × Bool × Unit, P_spec_SyncLog (l, ()) = some r ∧ Lb b r.1 := by
  unfold Lb at hl
  refine ⟨_, (f_sync l (by omega)).1, ?_⟩
  unfold syncV Lb
  cases okLog l with
  | false => simp
  | true => simp; omega

theorem l_log12 {C : List Int} (hC : Bts C) (q1 q2 : List UInt8) (q3 : Int) : ∀ (k m n b : Nat) (s : Sd) (l : D_Log), k < m → k ≤ 1000 → Lb b l → b + 472 * k ≤ 90000 → At (n + 10 * k) s →
    ∃ (l' : D_Log) (s' : Sd), l_l1Cur_log12_3 m q1 q2 q3 l.1 l.2.1 l.2.2.1 C s.1 s.2.1 (k : Int) = some ((l', ()), ((C, s'), ())) ∧ At n s' ∧ Lb (b + 472 * k) l'
  | k, 0, n, b, s, l, h, _, _, _, _ => by omega
  | 0, m + 1, n, b, s, l, _, _, hl, _, ha => by
    rw [q_l1Cur_log12_3, decide_eq_false (by decide)]
    exact ⟨_, _, rfl, ha.le (by omega), hl⟩
  | k + 1, m + 1, n, b, s, l, hm, hk, hl, hb, ha => by
    obtain ⟨e, s1, e1, a1, he⟩ := f_logRecord hC (n := n + 10 * k + 2) (s := s) (ha.le (by omega))
    have e1' : P_l1Cur_logRecord ((C, (s.1, (s.2.1, ()))), ()) = _ := e1
    obtain ⟨r, g, hr⟩ := app_b hl (by omega) he
    obtain ⟨t, g2, ht⟩ := sync_b hr (by omega)
    have g' : P_spec_AppendRecord ((l.1, (l.2.1, (l.2.2.1, ()))), e, ()) = some r := g
    obtain ⟨o, s2, e2, a2⟩ := f_one hC (n := n + 10 * k) a1 4
    have hk1 : IntKind.wrap .i64 (((k + 1 : Nat) : Int) - 1) = (k : Int) := by rw [w64 (by omega) (by omega)]; omega
    rw [q_l1Cur_log12_3, decide_eq_true (p := ((k + 1 : Nat) : Int) > 0) (by omega), e1']
    simp only [cond_true, Option.bind_some]
    rw [g']
    simp only [Option.bind_some]
    rw [e2, hk1]
    simp only [Option.bind_some]
    have eb : b + 472 + 472 * k = b + 472 * (k + 1) := by omega
    cases o with
    | false =>
      obtain ⟨l', s', i1, i2, i3⟩ := l_log12 hC q1 q2 q3 k m n (b + 472) s2 r.1 (by omega) (by omega) hr (by omega) a2
      exact ⟨l', s', i1, i2, by rw [← eb]; exact i3⟩
    | true =>
      simp only [cond_true]
      rw [g2]
      simp only [Option.bind_some]
      obtain ⟨l', s', i1, i2, i3⟩ := l_log12 hC q1 q2 q3 k m n (b + 472) s2 t.1 (by omega) (by omega) ht (by omega) a2
      exact ⟨l', s', i1, i2, by rw [← eb]; exact i3⟩

theorem f_log12 {C : List Int} (hC : Bts C) {n : Nat} {s : Sd} (h : At (n + 100) s) : ∃ (l : D_Log) (s' : Sd), P_l1Cur_log12 ((C, s), ()) = some ((l, ()), ((C, s'), ())) ∧ At n s' ∧ Lb 5000 l := by
  obtain ⟨p, s1, e1, a1, b1, b2⟩ := f_pick hC (n := n + 90) (h.le (by omega)) 7
  rw [p_l1Cur_log12, e1]
  simp only [Option.bind_some]
  obtain ⟨k, rfl⟩ : ∃ k : Nat, p = (k : Int) := ⟨p.toNat, by omega⟩
  have hk : k ≤ 6 := by omega
  obtain ⟨l, s', i1, i2, i3⟩ := l_log12 hC [] [] 0 k N n 0 s1 ([], [], 0, ()) (by have := N_ge; omega) (by omega) (by simp [Lb]) (by omega) (a1.le (by omega))
  exact ⟨l, s', i1, i2, by unfold Lb at *; omega⟩

theorem f_spoilt {C : List Int} (hC : Bts C) {n : Nat} {s : Sd} (h : At (n + 6) s) (t v : List UInt8) (ht : t.length ≤ 100000) (hv : 0 < v.length) (hv' : v.length ≤ 100) : ∃ (x : List UInt8) (s' : Sd), P_l1Cur_spoilt ((C, s), t, v, ()) = some ((x, ()), ((C, s'), ())) ∧ At n s' ∧ x.length ≤ t.length + 1 := by
  obtain ⟨p, s1, e1, a1, p1, p2⟩ := f_pick hC (n := n + 4) h (t.length : Int)
  obtain ⟨q, s2, e2, a2, q1, q2⟩ := f_pick hC (n := n + 2) a1 (v.length : Int)
  obtain ⟨u, s3, e3, a3, _⟩ := f_pick hC (n := n) a2 3
  rw [p_l1Cur_spoilt]
  cases hb : (t == ([] : List UInt8)) with
  | true =>
    have : t = [] := by simpa using hb
    subst this
    rw [decide_eq_true (p := (0 : Int) ≤ 0) (by omega), decide_eq_true (p := (0 : Int) ≤ 1) (by omega), decide_eq_true (p := (1 : Int) ≤ (v.length : Int)) (by omega)]
    exact ⟨_, _, rfl, h.le (by omega), by simp [cut]; omega⟩
  | false =>
    have htne : 0 < t.length := by
      cases t with
      | nil => simp at hb
      | cons => simp
    have hq : q < (v.length : Int) := by omega
    have hp : p < (t.length : Int) := by omega
    simp only [cond_false]
    rw [e1]
    simp only [Option.bind_some]
    rw [e2]
    simp only [Option.bind_some]
    obtain ⟨a, rfl⟩ : ∃ a : Nat, p = (a : Int) := ⟨p.toNat, by omega⟩
    obtain ⟨b, rfl⟩ : ∃ b : Nat, q = (b : Int) := ⟨q.toNat, by omega⟩
    have hc1 : (cut v (b : Int) (v.length : Int)).length = v.length - b := by simp [cut]
    rw [decide_eq_true (p := (0 : Int) ≤ (b : Int)) (by omega), decide_eq_true (p := (b : Int) ≤ (v.length : Int)) (by omega), decide_eq_true (p := (v.length : Int) ≤ (v.length : Int)) (by omega), hc1, decide_eq_true (p := (0 : Int) ≤ 0) (by omega), decide_eq_true (p := (0 : Int) ≤ 1) (by omega), decide_eq_true (p := (1 : Int) ≤ ((v.length - b : Nat) : Int)) (by omega), e3]
    simp only [Bool.and_self, cond_true, Option.bind_some]
    rw [decide_eq_true (p := (0 : Int) ≤ (a : Int)) (by omega), decide_eq_true (p := (a : Int) ≤ (t.length : Int)) (by omega), decide_eq_true (p := (t.length : Int) ≤ (t.length : Int)) (by omega), succI a (by omega), decide_eq_true (p := (0 : Int) ≤ ((a + 1 : Nat) : Int)) (by omega), decide_eq_true (p := ((a + 1 : Nat) : Int) ≤ (t.length : Int)) (by omega)]
    simp only [Bool.and_self, cond_true]
    have l1 : (cut t 0 (a : Int)).length = a := by simp [cut]; omega
    have l2 : (cut (cut v (b : Int) (v.length : Int)) 0 1).length ≤ 1 := by simp [cut]; omega
    have l3 : (cut t (a : Int) (t.length : Int)).length = t.length - a := by simp [cut]
    have l4 : (cut t ((a + 1 : Nat) : Int) (t.length : Int)).length = t.length - (a + 1) := by simp [cut]
    generalize cut t 0 (a : Int) = x1 at *
    generalize cut (cut v (b : Int) (v.length : Int)) 0 1 = x2 at *
    generalize cut t (a : Int) (t.length : Int) = x3 at *
    generalize cut t ((a + 1 : Nat) : Int) (t.length : Int) = x4 at *
    rw [cat_ok (a := x1) (b := x2) (by omega) (by omega), cat_ok (a := x1) (b := x4) (by omega) (by omega)]
    simp only [Option.bind_some]
    rw [cat_ok (a := x1 ++ x2) (b := x3) (by rw [List.length_append]; omega) (by omega), cat_ok (a := x1 ++ x2) (b := x4) (by rw [List.length_append]; omega) (by omega)]
    by_cases c0 : u = 0
    · rw [decide_eq_true c0]; exact ⟨_, _, rfl, a3, by simp only [List.length_append]; omega⟩
    · rw [decide_eq_false c0]
      by_cases c1 : u = 1
      · rw [decide_eq_true c1]; exact ⟨_, _, rfl, a3, by simp only [List.length_append]; omega⟩
      · rw [decide_eq_false c1]; exact ⟨_, _, rfl, a3, by simp only [List.length_append]; omega⟩

theorem f_anyLog {C : List Int} (hC : Bts C) {n : Nat} {s : Sd} (h : At (n + 110) s) : ∃ (l : D_Log) (s' : Sd), P_l1Cur_anyLog ((C, s), ()) = some ((l, ()), ((C, s'), ())) ∧ At n s' ∧ Lb 20000 l := by
  obtain ⟨l, s1, e1, a1, hl⟩ := f_log12 hC (n := n + 10) (h.le (by omega))
  obtain ⟨p, s2, e2, a2, _⟩ := f_pick hC (n := n + 8) a1 24
  unfold Lb at hl
  obtain ⟨x, s3, e3, a3, hx⟩ := f_spoilt hC (n := n + 2) a2 l.2.1 [35, 64, 10, 48, 49] (by omega) (by decide) (by decide)
  rw [p_l1Cur_anyLog, e1]
  simp only [Option.bind_some]
  rw [e2]
  simp only [Option.bind_some]
  rw [e3, cat_ok (a := l.1) (b := l.2.1) (by omega) (by omega)]
  by_cases c0 : p = 0
  · rw [decide_eq_true c0]; exact ⟨_, _, rfl, a2.le (by omega), by simp only [Lb]; omega⟩
  · rw [decide_eq_false c0]
    by_cases c1 : p = 1
    · rw [decide_eq_true c1]; exact ⟨_, _, rfl, a3.le (by omega), by simp only [Lb]; omega⟩
    · rw [decide_eq_false c1]
      by_cases c2 : p = 2
      · rw [decide_eq_true c2]; exact ⟨_, _, rfl, a2.le (by omega), by simp only [Lb, List.length_append]; omega⟩
      · rw [decide_eq_false c2]; exact ⟨_, _, rfl, a2.le (by omega), by simp only [Lb]; omega⟩

theorem d_Record {C : List Int} (hC : Bts C) : ∃ e : D_LogRecord, P_spec_DrawIsValidRecord (C, ()) = some (e, ()) ∧ Sh e := by
  obtain ⟨e, s', h, _, he⟩ := f_logRecord hC (n := 0) (at00 _ (by omega))
  rw [p_spec_DrawIsValidRecord]
  have h' : P_l1Cur_logRecord ((C, (0, (0, ()))), ()) = _ := h
  rw [h']
  exact ⟨e, rfl, he⟩

theorem d_Encode {C : List Int} (hC : Bts C) : ∃ (k : Int) (e : D_LogRecord), P_spec_DrawEncodeRecord (C, ()) = some (k, e, ()) ∧ Sh e := by
  obtain ⟨k, s1, e1, a1, _⟩ := f_among hC (n := 8) (at00 _ (by omega)) [0, 1, 12, 59, 60, (-1)] (by decide)
  obtain ⟨e, s', h, _, he⟩ := f_logRecord hC (n := 0) a1
  rw [p_spec_DrawEncodeRecord]
  have e1' : P_l1Cur_among ((C, (0, (0, ()))), [0, 1, 12, 59, 60, (-1)], ()) = _ := e1
  rw [e1']
  simp only [Option.bind_some]
  rw [h]
  exact ⟨k, e, rfl, he⟩

theorem d_ValidLog {C : List Int} (hC : Bts C) : ∃ l : D_Log, P_spec_DrawIsValidLog (C, ()) = some (l, ()) ∧ Lb 20000 l := by
  obtain ⟨l, s', h, _, he⟩ := f_anyLog hC (n := 0) (at00 _ (by omega))
  rw [p_spec_DrawIsValidLog]
  have h' : P_l1Cur_anyLog ((C, (0, (0, ()))), ()) = _ := h
  rw [h']
  exact ⟨l, rfl, he⟩

theorem l_dapp {C : List Int} (hC : Bts C) (q1 q2 : List UInt8) (q3 : Int) (q4 q5 : List UInt8) : ∀ (k m b : Nat) (s : Sd) (l : D_Log), k < m → k ≤ 1000 → Lb b l → b + 472 * k ≤ 90000 → At 8 s →
    ∃ (l' : D_Log) (e : D_LogRecord), l_spec_DrawAppendRecord_6 m q1 q2 q3 q4 q5 l.1 l.2.1 l.2.2.1 C s.1 s.2.1 (k : Int) = some (l', e, ()) ∧ Lb (b + 472 * k) l' ∧ Sh e
  | k, 0, b, s, l, h, _, _, _, _ => by omega
  | 0, m + 1, b, s, l, _, _, hl, _, ha => by
    obtain ⟨e, s1, e1, a1, he⟩ := f_logRecord hC (n := 0) (s := s) ha
    have e1' : P_l1Cur_logRecord ((C, (s.1, (s.2.1, ()))), ()) = _ := e1
    rw [q_spec_DrawAppendRecord_6, decide_eq_false (by decide), e1']
    exact ⟨_, _, rfl, hl, he⟩
  | k + 1, m + 1, b, s, l, hm, hk, hl, hb, ha => by
    obtain ⟨r, g, hr⟩ := app_b (e := ([120], [], ())) hl (by omega) ⟨by simp, by simp⟩
    have g' : P_spec_AppendRecord ((l.1, (l.2.1, (l.2.2.1, ()))), (([120] : List UInt8), (([] : List UInt8), ())), ()) = some r := g
    have hk1 : IntKind.wrap .i64 (((k + 1 : Nat) : Int) - 1) = (k : Int) := by rw [w64 (by omega) (by omega)]; omega
    rw [q_spec_DrawAppendRecord_6, decide_eq_true (p := ((k + 1 : Nat) : Int) > 0) (by omega), g', hk1]
    simp only [cond_true, Option.bind_some]
    obtain ⟨l', e, i1, i2, i3⟩ := l_dapp hC q1 q2 q3 q4 q5 k m (b + 472) s r.1 (by omega) (by omega) hr (by omega) ha
    exact ⟨l', e, i1, by unfold Lb at *; omega, i3⟩

theorem d_Append {C : List Int} (hC : Bts C) : ∃ (l : D_Log) (e : D_LogRecord), P_spec_DrawAppendRecord (C, ()) = some (l, e, ()) ∧ Lb 40000 l ∧ Sh e := by
  obtain ⟨l, s1, e1, a1, hl⟩ := f_anyLog hC (n := 20) (at00 _ (by omega))
  obtain ⟨o, s2, e2, a2⟩ := f_one hC (n := 18) a1 40
  obtain ⟨p, s3, e3, a3, p1, p2⟩ := f_pick hC (n := 16) a2 2
  obtain ⟨e, s4, e4, a4, he⟩ := f_logRecord hC (n := 10) a2
  rw [p_spec_DrawAppendRecord]
  have e1' : P_l1Cur_anyLog ((C, (0, (0, ()))), ()) = _ := e1
  rw [e1']
  simp only [Option.bind_some]
  rw [e2]
  simp only [Option.bind_some]
  cases o with
  | false =>
    simp only [cond_false]
    rw [e4]
    exact ⟨_, _, rfl, Nat.le_trans hl (by decide), he⟩
  | true =>
    simp only [cond_true]
    rw [e3]
    simp only [Option.bind_some]
    obtain ⟨k, rfl⟩ : ∃ k : Nat, p = (k : Int) := ⟨p.toNat, by omega⟩
    have hw : IntKind.wrap .i64 (59 + (k : Int)) = ((59 + k : Nat) : Int) := by rw [w64 (by omega) (by omega)]; omega
    rw [hw]
    obtain ⟨l', e', i1, i2, i3⟩ := l_dapp hC [] [] 0 [] [] (59 + k) N 0 s3 ([], [], 0, ()) (by have := N_ge; omega) (by omega) (by simp [Lb]) (by omega) (a3.le (by omega))
    exact ⟨l', e', i1, by unfold Lb at *; omega, i3⟩

theorem d_Crash {C : List Int} (hC : Bts C) : ∃ (l : D_Log) (k : Int) (t : Bool), P_spec_DrawCrashLog (C, ()) = some (l, k, t, ()) ∧ Lb 20000 l := by
  obtain ⟨l, s1, e1, a1, hl⟩ := f_anyLog hC (n := 20) (at00 _ (by omega))
  obtain ⟨p, s2, e2, a2, _⟩ := f_pick hC (n := 18) a1 (IntKind.wrap .i64 ((List.length l.2.1 : Int) + 3))
  obtain ⟨o, s3, e3, a3⟩ := f_one hC (n := 16) a2 2
  rw [p_spec_DrawCrashLog]
  have e1' : P_l1Cur_anyLog ((C, (0, (0, ()))), ()) = _ := e1
  rw [e1']
  simp only [Option.bind_some]
  rw [e2]
  simp only [Option.bind_some]
  rw [e3]
  exact ⟨_, _, _, rfl, hl⟩
end Go.VI
