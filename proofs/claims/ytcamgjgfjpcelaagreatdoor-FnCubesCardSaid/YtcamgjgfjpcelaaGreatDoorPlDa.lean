/- Plain: the draws of numbers, cells and heaps give something. -/
import Derived.Test.YtcamgjgfjpcelaaGreatDoorPlTy
import Derived.Test.YtcamgjgfjpcelaaGreatDoorPlCb
namespace Go.VI
open Go.Proofs

/-- Bytes to draw from. -/
def Bts (C : List Int) : Prop := C.length ≤ 1000000 ∧ ∀ b ∈ C, 0 ≤ b ∧ b ≤ 255
abbrev Sd : Type := Int × Int × Unit
/-- A place from which n more bytes can be drawn. -/
def At (n : Nat) (s : Sd) : Prop := 0 ≤ s.1 ∧ s.1 + n ≤ 1000000000

theorem At.le {n m : Nat} {s : Sd} (h : At n s) (hm : m ≤ n) : At m s := ⟨h.1, by have := h.2; omega⟩

theorem and255 (a : Int) : 0 ≤ intBits .and .u64 a 255 ∧ intBits .and .u64 a 255 ≤ 255 := by
  have h : ((BitVec.ofInt 64 a) &&& (BitVec.ofInt 64 255)).toNat ≤ 255 := by
    rw [BitVec.toNat_and]
    exact Nat.le_trans Nat.and_le_right (by decide)
  have e : intBits .and .u64 a 255 = (((BitVec.ofInt 64 a) &&& (BitVec.ofInt 64 255)).toNat : Int) := by
    simp only [intBits]
    rw [show IntKind.bits .u64 = 64 from rfl, wu64]
    omega
  rw [e]
  omega

theorem nth_byte {C : List Int} (hC : Bts C) {i : Int} (h0 : 0 ≤ i) (h1 : i < C.length) : 0 ≤ nth ((.int .u8) : Ty) C i ∧ nth ((.int .u8) : Ty) C i ≤ 255 := by
  have hlt : i.toNat < C.length := by omega
  have e : nth ((.int .u8) : Ty) C i = C[i.toNat] := by simp [nth, List.getD, List.getElem?_eq_getElem hlt]
  rw [e]
  exact hC.2 _ (List.getElem_mem hlt)

theorem f_next {C : List Int} (hC : Bts C) {n : Nat} {s : Sd} (h : At (n + 1) s) : ∃ (x : Int) (s' : Sd), P_l1Cur_next ((C, s), ()) = some ((x, ()), ((C, s'), ())) ∧ At n s' ∧ 0 ≤ x ∧ x ≤ 255 := by
  obtain ⟨a, sd, ⟨⟩⟩ := s
  obtain ⟨h0, h1⟩ := h
  simp only at h0 h1
  rw [p_l1Cur_next]
  simp only
  rw [w64 (x := a + 1) (by omega) (by omega)]
  have hat : ∀ z : Int, At n (a + 1, z, ()) := fun z => ⟨by simp only; omega, by simp only; omega⟩
  by_cases c : a < (C.length : Int)
  · obtain ⟨b0, b1⟩ := nth_byte hC h0 c
    rw [decide_eq_true c, show inB a C.length = true by simp [inB]; omega, decide_eq_true (p := a + 1 ≤ (C.length : Int)) (by omega), w64 (x := nth ((.int .u8) : Ty) C a) (Int.le_trans (by decide) b0) (Int.le_trans b1 (by decide))]
    exact ⟨_, _, rfl, hat _, b0, b1⟩
  · rw [decide_eq_false c, decide_eq_false (p := a + 1 ≤ (C.length : Int)) (by omega)]
    simp only [cond_false]
    generalize hz : intBits .and .u64 _ 255 = z
    have hb : 0 ≤ z ∧ z ≤ 255 := by rw [← hz]; exact and255 _
    rw [w64 (x := z) (by omega) (by omega)]
    exact ⟨_, _, rfl, hat _, hb.1, hb.2⟩

theorem f_pick {C : List Int} (hC : Bts C) {n : Nat} {s : Sd} (h : At (n + 2) s) (k : Int) : ∃ (x : Int) (s' : Sd), P_l1Cur_pick ((C, s), k, ()) = some ((x, ()), ((C, s'), ())) ∧ At n s' ∧ 0 ≤ x ∧ (x < k ∨ (k ≤ 1 ∧ x = 0)) := by
  rw [p_l1Cur_pick]
  by_cases c : k ≤ 1
  · rw [decide_eq_true c]
    exact ⟨_, _, rfl, h.le (by omega), Int.le_refl _, .inr ⟨c, rfl⟩⟩
  · obtain ⟨x, s1, e1, a1, b1, b2⟩ := f_next hC h
    rw [decide_eq_false c, e1]
    simp only [cond_false, Option.bind_some]
    by_cases d : k > 200
    · obtain ⟨y, s2, e2, a2, c1, c2⟩ := f_next hC a1
      rw [decide_eq_true d, e2]
      simp only [cond_true, Option.bind_some]
      rw [decide_eq_false (p := k = 0) (by omega), w64 (x := x * 256) (by omega) (by omega), w64 (x := x * 256 + y) (by omega) (by omega)]
      exact ⟨_, _, rfl, a2, Int.tmod_nonneg _ (by omega), .inl (Int.tmod_lt_of_pos _ (by omega))⟩
    · rw [decide_eq_false d, decide_eq_false (p := k = 0) (by omega)]
      exact ⟨_, _, rfl, a1.le (by omega), Int.tmod_nonneg _ (by omega), .inl (Int.tmod_lt_of_pos _ (by omega))⟩

theorem f_one {C : List Int} (hC : Bts C) {n : Nat} {s : Sd} (h : At (n + 2) s) (k : Int) : ∃ (b : Bool) (s' : Sd), P_l1Cur_one ((C, s), k, ()) = some ((b, ()), ((C, s'), ())) ∧ At n s' := by
  obtain ⟨x, s1, e1, a1, _, _⟩ := f_pick hC h k
  rw [p_l1Cur_one, e1]
  exact ⟨_, _, rfl, a1⟩

theorem f_among {C : List Int} (hC : Bts C) {n : Nat} {s : Sd} (h : At (n + 2) s) (l : List Int) (hl : 0 < l.length) : ∃ (x : Int) (s' : Sd), P_l1Cur_among ((C, s), l, ()) = some ((x, ()), ((C, s'), ())) ∧ At n s' ∧ x ∈ l := by
  obtain ⟨x, s1, e1, a1, b1, b2⟩ := f_pick hC h (l.length : Int)
  rw [p_l1Cur_among, e1]
  simp only [Option.bind_some]
  have hx : x < (l.length : Int) := by omega
  rw [show inB x l.length = true by simp [inB]; omega]
  have hlt : x.toNat < l.length := by omega
  have e : nth ((.int .i64) : Ty) l x = l[x.toNat] := by simp [nth, List.getD, List.getElem?_eq_getElem hlt]
  rw [e]
  exact ⟨_, _, rfl, a1, List.getElem_mem hlt⟩

theorem f_sides {C : List Int} (hC : Bts C) {n : Nat} {s : Sd} (h : At (n + 10) s) : ∃ (x y z : Int) (s' : Sd), P_l1Cur_sides ((C, s), ()) = some ((x, y, z, ()), ((C, s'), ())) ∧ At n s' := by
  obtain ⟨x, s1, e1, a1, _⟩ := f_among hC (n := n + 8) h [2, 3, 3, 1, 4] (by decide)
  obtain ⟨y, s2, e2, a2, _⟩ := f_among hC (n := n + 6) a1 [2, 3, 2, 1, 4] (by decide)
  obtain ⟨z, s3, e3, a3, _⟩ := f_among hC (n := n + 4) a2 [2, 3, 3, 1, 4] (by decide)
  obtain ⟨p, s4, e4, a4, _⟩ := f_pick hC (n := n + 2) a3 60
  obtain ⟨x', s5, e5, a5, _⟩ := f_among hC (n := n) a4 [0, 5, (-1), 4611686018427387904] (by decide)
  obtain ⟨y', s6, e6, a6, _⟩ := f_among hC (n := n) a4 [0, 5, (-1)] (by decide)
  rw [p_l1Cur_sides, e1]
  simp only [Option.bind_some]
  rw [e2]
  simp only [Option.bind_some]
  rw [e3]
  simp only [Option.bind_some]
  rw [e4]
  simp only [Option.bind_some]
  rw [e5, e6]
  simp only [Option.bind_some]
  by_cases c0 : p = 0
  · rw [decide_eq_true c0]; exact ⟨_, _, _, _, rfl, a5⟩
  · rw [decide_eq_false c0]
    by_cases c1 : p = 1
    · rw [decide_eq_true c1]; exact ⟨_, _, _, _, rfl, a6⟩
    · rw [decide_eq_false c1]
      by_cases c2 : p = 2
      · rw [decide_eq_true c2]; exact ⟨_, _, _, _, rfl, a6⟩
      · rw [decide_eq_false c2]; exact ⟨_, _, _, _, rfl, a4.le (by omega)⟩

theorem f_least (a b : Int) : ∃ x, P_spec_l1Least (a, b, ()) = some (x, ()) := by
  rw [p_spec_l1Least]
  cases decide (a < b) <;> exact ⟨_, rfl⟩
theorem f_most (a b : Int) : ∃ x, P_spec_l1Most (a, b, ()) = some (x, ()) := by
  rw [p_spec_l1Most]
  cases decide (a > b) <;> exact ⟨_, rfl⟩

theorem l_cell {C : List Int} (hC : Bts C) {X Y Z : Int} {l : List D_A3} (p4 p5 p6 : Int) : ∀ (d i m n : Nat) (s : Sd) (x y z : Int), i + d = 3 → d < m → At (n + 2 * d + 6) s →
    ∃ (c : D_A3) (s' : Sd), l_l1Cur_cell_3 m X Y Z l p4 p5 p6 x y z C s.1 s.2.1 (i : Int) = some ((c, ()), ((C, s'), ())) ∧ At n s'
  | d, i, 0, n, s, x, y, z, _, h, _ => by omega
  | 0, i, m + 1, n, s, x, y, z, hi, hm, ha => by
    have hi3 : i = 3 := by omega
    subst hi3
    obtain ⟨b, s1, e1, a1⟩ := f_one hC (n := n + 4) (s := s) ha 30
    obtain ⟨p, s2, e2, a2, b1, b2⟩ := f_pick hC (n := n + 2) a1 3
    obtain ⟨v, s3, e3, a3, _⟩ := f_among hC (n := n) a2 [(-1), 4, 4611686018427387904] (by decide)
    have e1' : P_l1Cur_one ((C, (s.1, (s.2.1, ()))), 30, ()) = _ := e1
    rw [q_l1Cur_cell_3, decide_eq_false (by omega), e1']
    simp only [cond_false, Option.bind_some]
    cases b with
    | false => exact ⟨_, _, rfl, a1.le (by omega)⟩
    | true =>
      rw [e2]
      simp only [cond_true, Option.bind_some]
      rw [e3]
      simp only [Option.bind_some]
      rw [show inB p 3 = true by simp [inB]; omega]
      exact ⟨_, _, rfl, a3⟩
  | d + 1, i, m + 1, n, s, x, y, z, hi, hm, ha => by
    rw [q_l1Cur_cell_3, decide_eq_true (p := (i : Int) < 3) (by omega), p_spec_l2Long, inB_at (k := i) (n := 3) (by omega), succI i (by omega)]
    simp only [cond_true, Option.bind_some]
    obtain ⟨u, eu⟩ := f_least (bif decide ((i : Int) = (0 : Int)) then X else (bif decide ((i : Int) = (1 : Int)) then Y else Z)) 4
    rw [eu]
    simp only [Option.bind_some]
    obtain ⟨v, ev⟩ := f_most u 1
    rw [ev]
    simp only [Option.bind_some]
    obtain ⟨p, s1, e1, a1, _⟩ := f_pick hC (n := n + 2 * d + 6) (s := s) (ha.le (by omega)) v
    have e1' : P_l1Cur_pick ((C, (s.1, (s.2.1, ()))), v, ()) = _ := e1
    rw [e1']
    simp only [Option.bind_some]
    exact l_cell hC p4 p5 p6 d (i + 1) m n s1 _ _ _ (by omega) (by omega) a1
termination_by d => d

theorem f_cell {C : List Int} (hC : Bts C) {n : Nat} {s : Sd} (h : At (n + 12) s) (g : D_Heap) : ∃ (c : D_A3) (s' : Sd), P_l1Cur_cell ((C, s), g, ()) = some ((c, ()), ((C, s'), ())) ∧ At n s' := by
  rw [p_l1Cur_cell]
  exact l_cell hC 0 0 0 3 0 N n s 0 0 0 rfl (by have := N_ge; omega) h

theorem f_cube {C : List Int} (hC : Bts C) {n : Nat} {s : Sd} (h : At (n + 14) s) (g : D_Heap) : ∃ (c : D_A3) (s' : Sd), P_l1Cur_cube ((C, s), g, ()) = some ((c, ()), ((C, s'), ())) ∧ At n s' := by
  rw [p_l1Cur_cube]
  by_cases c : (g.2.2.2.1.length : Int) > 0
  · obtain ⟨b, s1, e1, a1⟩ := f_one hC (n := n + 12) h 8
    rw [decide_eq_true c, e1]
    simp only [cond_true, Option.bind_some]
    cases b with
    | false =>
      obtain ⟨p, s2, e2, a2, b1, b2⟩ := f_pick hC (n := n + 10) a1 (g.2.2.2.1.length : Int)
      rw [e2]
      simp only [Bool.not_false, cond_true, Option.bind_some]
      rw [show inB p g.2.2.2.1.length = true by simp [inB]; omega]
      exact ⟨_, _, rfl, a2.le (by omega)⟩
    | true =>
      obtain ⟨x, s2, e2, a2⟩ := f_cell hC (n := n) a1 g
      rw [e2]
      exact ⟨_, _, rfl, a2⟩
  · obtain ⟨x, s2, e2, a2⟩ := f_cell hC (n := n) (h.le (by omega)) g
    rw [decide_eq_false c, e2]
    exact ⟨_, _, rfl, a2⟩

/-! ### Heaps -/
theorem other_len (h : D_Heap) (hl : Small h.2.2.2.1) : ∃ r, P_spec_OtherCells (h, ()) = some r ∧ r.1.2.2.2.1.length ≤ 64 := by
  rw [p_spec_OtherCells, f_spec_l2Heap _ hl]
  cases ho : okHeap h with
  | false => exact ⟨_, rfl, by simp⟩
  | true =>
    obtain ⟨hs, hi, hr⟩ := okHeap_iff.1 ho
    obtain ⟨a1, a2, a3⟩ := allCells_ok hs
    have f0 : P_spec_l2All (h, ()) = _ := f_l2All h.2.2.2.1 hs
    simp only [Option.bind_some, Bool.not_true, cond_false]
    rw [p_spec_l2Empty, f0]
    simp only [Option.bind_some]
    have e := l_other (X := h.1) (Y := h.2.1) (Z := h.2.2.1) (X' := h.1) (Y' := h.2.1) (Z' := h.2.2.1) hl a1 (allCells h.1 h.2.1 h.2.2.1).length 0 N [] (by simp) (by unfold Small at a1; have := N_ge; omega) (by simp)
    have e' : l_spec_OtherCells_5 N h.1 h.2.1 h.2.2.1 h.2.2.2.1 0 0 0 [] h.1 h.2.1 h.2.2.1 [] (allCells h.1 h.2.1 h.2.2.1) 0 = _ := e
    rw [e']
    exact ⟨_, rfl, show ((allCells h.1 h.2.1 h.2.2.1).filter fun x => !decide (x ∈ h.2.2.2.1)).length ≤ 64 from Nat.le_trans (List.length_filter_le _ _) (srt_small64 hs a2 a3)⟩

theorem stack_len {X Y Z : Int} (hs : sides X Y Z = true) {V : List Int} (hV : V.length = (X * Y).toNat) : ∃ r, P_spec_l2Stack (X, Y, Z, V, ()) = some r ∧ r.1.2.2.2.1.length ≤ 64 := by
  obtain ⟨a1, a2, a3⟩ := allCells_ok hs
  rw [p_spec_l2Stack, p_spec_l2Empty]
  simp only [Option.bind_some]
  rw [f_l2All [] hs]
  simp only [Option.bind_some]
  have e := l_stackS (X' := X) (Y' := Y) (Z' := Z) hs hV a1 a2 (allCells X Y Z).length 0 N [] (by simp) (by unfold Small at a1; have := N_ge; omega) (by simp)
  have e' : l_spec_l2Stack_4 N 0 0 0 [] X Y Z [] Y V (allCells X Y Z) 0 = _ := e
  rw [e']
  exact ⟨_, rfl, show ((allCells X Y Z).filter (lowC Y V)).length ≤ 64 from Nat.le_trans (List.length_filter_le _ _) (srt_small64 hs a2 a3)⟩

theorem l_some {C : List Int} (hC : Bts C) {X Y Z : Int} (hs : sides X Y Z = true) {al : List D_A3} (hal : al.length ≤ 64) (hin : Ins X Y Z al) (q0 q1 q2 : Int) (q3 : List D_A3) (odds : Int) : ∀ (d i m n : Nat) (s : Sd) (out : List D_A3), al.length = i + d → d < m → out.length ≤ i → Ins X Y Z out → At (n + 2 * d + 2) s →
    ∃ (g : D_Heap) (s' : Sd), l_l1Cur_someHeap_6 m q0 q1 q2 q3 X Y Z out C s.1 s.2.1 X Y Z odds al (i : Int) = some ((g, ()), ((C, s'), ())) ∧ At n s' ∧ g.2.2.2.1.length ≤ 64
  | d, i, 0, n, s, out, _, h, _, _, _ => by omega
  | d, i, m + 1, n, s, out, hk, hm, ho, hio, ha => by
    rw [q_l1Cur_someHeap_6]
    by_cases hlt : i < al.length
    · obtain ⟨b, s1, e1, a1⟩ := f_one hC (n := n + 2 * (d - 1) + 2) (s := s) (ha.le (by omega)) odds
      have e1' : P_l1Cur_one ((C, (s.1, (s.2.1, ()))), odds, ()) = _ := e1
      rw [ltT hlt, e1', succI i (by omega)]
      simp only [cond_true, Option.bind_some]
      cases b with
      | false => exact l_some hC hs hal hin q0 q1 q2 q3 odds (d - 1) (i + 1) m n s1 out (by omega) (by omega) (by omega) hio a1
      | true =>
        rw [inB_at hlt, nthA (t := T_A3) hlt, app_len' (l := out) (by omega)]
        simp only [cond_true]
        refine l_some hC hs hal hin q0 q1 q2 q3 odds (d - 1) (i + 1) m n s1 _ (by omega) (by omega) (by simp; omega) (fun c hc => ?_) a1
        rcases List.mem_append.1 hc with hc | hc
        · exact hio c hc
        · rw [List.mem_singleton.1 hc]; exact hin _ (List.getElem_mem hlt)
    · obtain ⟨p, s1, e1, a1, _⟩ := f_pick hC (n := n + 2 * d) (s := s) ha 12
      have e1' : P_l1Cur_pick ((C, (s.1, (s.2.1, ()))), 12, ()) = _ := e1
      have hso : Small out := by unfold Small; omega
      rw [ltF hlt, e1']
      simp only [cond_false, Option.bind_some]
      by_cases c0 : p = 0
      · obtain ⟨r, er, hr⟩ := other_len (X, Y, Z, out, ()) hso
        rw [decide_eq_true c0, er]
        exact ⟨_, _, rfl, a1.le (by omega), hr⟩
      · rw [decide_eq_false c0]
        by_cases c1 : p = 1
        · obtain ⟨r, er, hr⟩ := stack_len hs (cols_len X Y out)
          rw [decide_eq_true c1, p_spec_l2Heights, f_viewS hs hso hio]
          simp only [cond_true, cond_false, Option.bind_some]
          rw [er]
          exact ⟨_, _, rfl, a1.le (by omega), hr⟩
        · rw [decide_eq_false c1]
          exact ⟨_, _, rfl, a1.le (by omega), (by omega : out.length ≤ 64)⟩

theorem f_someHeap {C : List Int} (hC : Bts C) {n : Nat} {s : Sd} (h : At (n + 132) s) (X Y Z : Int) : ∃ (g : D_Heap) (s' : Sd), P_l1Cur_someHeap ((C, s), X, Y, Z, ()) = some ((g, ()), ((C, s'), ())) ∧ At n s' ∧ g.2.2.2.1.length ≤ 64 := by
  obtain ⟨o, s1, e1, a1, _⟩ := f_among hC (n := n + 130) h [2, 3, 2, 4] (by decide)
  rw [p_l1Cur_someHeap, p_spec_l2Empty, e1]
  simp only [Option.bind_some]
  rw [f_spec_l2Sides]
  simp only [Option.bind_some]
  cases hs : sides X Y Z with
  | false => exact ⟨_, _, rfl, a1.le (by omega), by simp⟩
  | true =>
    obtain ⟨k1, k2, k3⟩ := allCells_ok hs
    have h64 := srt_small64 hs k2 k3
    simp only [Bool.not_true, cond_false]
    rw [f_l2All [] hs]
    simp only [Option.bind_some]
    exact l_some hC hs h64 k2 0 0 0 [] o (allCells X Y Z).length 0 N n s1 [] (by simp) (by have := N_ge; omega) (by simp) (fun c hc => by cases hc) (a1.le (by omega))

theorem f_heap {C : List Int} (hC : Bts C) {n : Nat} {s : Sd} (h : At (n + 144) s) : ∃ (g : D_Heap) (s' : Sd), P_l1Cur_heap ((C, s), ()) = some ((g, ()), ((C, s'), ())) ∧ At n s' ∧ g.2.2.2.1.length ≤ 65 := by
  obtain ⟨x, y, z, s1, e1, a1⟩ := f_sides hC (n := n + 134) h
  obtain ⟨g, s2, e2, a2, hg⟩ := f_someHeap hC (n := n + 2) a1 x y z
  obtain ⟨p, s3, e3, a3, _⟩ := f_pick hC (n := n) a2 60
  rw [p_l1Cur_heap, e1]
  simp only [Option.bind_some]
  rw [e2]
  simp only [Option.bind_some]
  rw [e3]
  simp only [Option.bind_some]
  rw [app_len' (l := g.2.2.2.1) (by omega), app_len' (l := g.2.2.2.1) (by omega), app_len' (l := g.2.2.2.1) (by omega)]
  by_cases c0 : p = 0
  · rw [decide_eq_true c0]
    exact ⟨_, _, rfl, a3, by simp; omega⟩
  · rw [decide_eq_false c0]
    by_cases c1 : p = 1
    · rw [decide_eq_true c1]
      exact ⟨_, _, rfl, a3, by simp; omega⟩
    · rw [decide_eq_false c1]
      by_cases c2 : p = 2
      · rw [decide_eq_true c2]
        by_cases c : (g.2.2.2.1.length : Int) > 0
        · rw [decide_eq_true c, show inB 0 g.2.2.2.1.length = true by simp [inB]; omega]
          exact ⟨_, _, rfl, a3, by simp; omega⟩
        · rw [decide_eq_false c]
          exact ⟨_, _, rfl, a3, by omega⟩
      · rw [decide_eq_false c2]
        by_cases c3 : p = 3
        · rw [decide_eq_true c3]
          exact ⟨_, _, rfl, a3, by simp⟩
        · rw [decide_eq_false c3]
          exact ⟨_, _, rfl, a3, by omega⟩
end Go.VI
/- Plain: single cubes, neighbors, full boxes; what is drawn for them. -/
namespace Go.VI
open Go.Proofs

theorem small_nilQ : Small ([] : List D_A3) := by unfold Small; simp

def okCell (h : D_Heap) (c : D_A3) : Bool := okHeap h && within3 h.1 h.2.1 h.2.2.1 c

theorem f_isCell (h : D_Heap) (c : D_A3) (hl : Small h.2.2.2.1) : P_impl_isCell (h, c, ()) = some (okCell h c, ()) := by
  rw [p_impl_isCell, f_impl_IsHeap _ hl]
  unfold okCell
  cases ho : okHeap h with
  | false => rfl
  | true =>
    obtain ⟨hs, hi, hr⟩ := okHeap_iff.1 ho
    simp only [Option.bind_some, cond_true]
    rw [f_Heap_box]
    simp only [Option.bind_some]
    rw [f_box_has _ _ hs]
    rfl

theorem f_cellS (h : D_Heap) (c : D_A3) (hl : Small h.2.2.2.1) : P_spec_l2Cell (h, c, ()) = some (okCell h c, ()) := by
  rw [p_spec_l2Cell, f_spec_l2Heap _ hl]
  unfold okCell
  cases ho : okHeap h with
  | false => rfl
  | true =>
    obtain ⟨hs, hi, hr⟩ := okHeap_iff.1 ho
    simp only [Option.bind_some, cond_true]
    rw [f_spec_l2In _ _ hs]
    rfl

theorem has_both (h : D_Heap) (c : D_A3) (hl : Small h.2.2.2.1) : ∃ b : Bool, P_impl_HasCube (h, c, ()) = some (b, okCell h c, ()) ∧ P_spec_HasCube (h, c, ()) = some (b, okCell h c, ()) ∧ (okCell h c = true → b = decide (c ∈ h.2.2.2.1)) := by
  rw [p_impl_HasCube, p_spec_HasCube, f_isCell _ _ hl, f_cellS _ _ hl]
  cases ho : okCell h c with
  | false => exact ⟨false, rfl, rfl, fun hh => by cases hh⟩
  | true =>
    unfold okCell at ho
    rw [Bool.and_eq_true] at ho
    obtain ⟨hs, hi, hr⟩ := okHeap_iff.1 ho.1
    have f1 : P_spec_l2Has (h, c, ()) = some (decide (c ∈ h.2.2.2.1), ()) := f_l2Has _ _ _ _ _ hl
    have f2 : P_Heap_hasCube (h, c, ()) = some (decide (c ∈ h.2.2.2.1), ()) := f_hasCube hs hl hi ho.2
    rw [f1, f2]
    exact ⟨_, rfl, rfl, fun _ => rfl⟩

theorem near_cells {X Y Z : Int} {l : List D_A3} (hs : sides X Y Z = true) (hi : Ins X Y Z l) (hr : Srt l) (c : D_A3) : bitCells X Y Z (nearB X Y Z c &&& mask Y Z l 0) = l.filter (nbB c) := by
  refine srt_ext _ _ (srt_listOf hs _) (hr.filter _) fun x => ?_
  rw [mem_listOf hs, List.mem_filter, nbB_iff]
  constructor
  · rintro ⟨hw, hb⟩
    rw [BitVec.getLsbD_and, Bool.and_eq_true, nearB_bit hs hw, mask_mem hs hi hw, decide_eq_true_eq] at hb
    exact ⟨hb.2, hb.1⟩
  · rintro ⟨hx, hn⟩
    have hw := hi x hx
    refine ⟨hw, ?_⟩
    rw [BitVec.getLsbD_and, Bool.and_eq_true, nearB_bit hs hw, mask_mem hs hi hw, decide_eq_true_eq]
    exact ⟨hn, hx⟩

theorem near_impl {h : D_Heap} {c : D_A3} (hl : Small h.2.2.2.1) (ho : okCell h c = true) : P_impl_NearCubes (h, c, ()) = some (h.2.2.2.1.filter (nbB c), true, ()) := by
  rw [p_impl_NearCubes, f_isCell _ _ hl, ho]
  unfold okCell at ho
  rw [Bool.and_eq_true] at ho
  obtain ⟨hs, hi, hr⟩ := okHeap_iff.1 ho.1
  have f3 : P_Heap_cubes (h, ()) = _ := f_Heap_cubes hs hl hi
  simp only [Option.bind_some, Bool.not_true, cond_false]
  rw [f_Heap_box]
  simp only [Option.bind_some]
  rw [f_near hs (near_of hs ho.2), f3]
  simp only [Option.bind_some]
  rw [and64, f_box_list hs, near_cells hs hi hr]
  rfl

theorem near_both (h : D_Heap) (c : D_A3) (hl : Small h.2.2.2.1) : ∃ l, P_impl_NearCubes (h, c, ()) = some (l, okCell h c, ()) ∧ P_spec_NearCubes (h, c, ()) = some (l, okCell h c, ()) ∧ Small l := by
  cases ho : okCell h c with
  | false =>
    refine ⟨[], ?_, ?_, small_nilQ⟩
    · rw [p_impl_NearCubes, f_isCell _ _ hl, ho]; rfl
    · rw [p_spec_NearCubes, f_cellS _ _ hl, ho]; rfl
  | true =>
    refine ⟨_, near_impl hl ho, ?_, by unfold Small at hl ⊢; exact Nat.le_trans (List.length_filter_le _ _) hl⟩
    rw [p_spec_NearCubes, f_cellS _ _ hl, ho]
    unfold okCell at ho
    rw [Bool.and_eq_true] at ho
    obtain ⟨hs, hi, hr⟩ := okHeap_iff.1 ho.1
    have h64 := srt_small64 hs hi hr
    have f1 : P_spec_l2Near (h, c, ()) = _ := f_nearL (X := h.1) (Y := h.2.1) (Z := h.2.2.1) (l := h.2.2.2.1) (by omega) (fun x hx => near_of hs (hi x hx)) (near_of hs ho.2)
    simp only [Option.bind_some, Bool.not_true, cond_false]
    rw [f1]
    rfl

/-! ### Full and empty boxes -/
theorem bitCells_zero {X Y Z : Int} (hs : sides X Y Z = true) : bitCells X Y Z 0 = [] :=
  srt_ext _ _ (srt_listOf hs _) List.Pairwise.nil fun c => by
    rw [mem_listOf hs]
    simp

theorem all_len {X Y Z : Int} (hs : sides X Y Z = true) : ((allCells X Y Z).length : Int) = IntKind.wrap .i64 ((IntKind.wrap .i64 (X * Y)) * Z) := by
  have hz := size64 hs
  rw [← upto_all hs, w64 (x := X * Y) (by omega) (by omega), w64 (by omega) (by omega)]
  unfold upto
  rw [List.length_map, List.length_range]
  omega

theorem full_three (X Y Z : Int) : ∃ (f e : D_Heap), P_impl_FullHeap (X, Y, Z, ()) = some (f, sides X Y Z, ()) ∧ P_spec_FullHeap (X, Y, Z, ()) = some (f, sides X Y Z, ()) ∧ P_impl_EmptyHeap (X, Y, Z, ()) = some (e, sides X Y Z, ()) ∧ Small f.2.2.2.1 ∧ Small e.2.2.2.1 ∧
    (sides X Y Z = true → P_impl_OtherCells (f, ()) = some (e, true, ()) ∧ (f.2.2.2.1.length : Int) = IntKind.wrap .i64 ((IntKind.wrap .i64 (X * Y)) * Z)) := by
  cases hs : sides X Y Z with
  | false =>
    refine ⟨noHeap, noHeap, ?_, ?_, ?_, small_no, small_no, fun hh => by cases hh⟩
    · rw [f_FullHeap, hs]; rfl
    · rw [p_spec_FullHeap, f_spec_l2Sides, hs]; rfl
    · rw [p_impl_EmptyHeap, f_box_valid, hs]; rfl
  | true =>
    obtain ⟨k1, k2, k3⟩ := allCells_ok hs
    refine ⟨(X, Y, Z, allCells X Y Z, ()), (X, Y, Z, [], ()), ?_, ?_, ?_, k1, small_nilQ, fun _ => ⟨?_, all_len hs⟩⟩
    · rw [f_FullHeap, hs]; rfl
    · rw [p_spec_FullHeap, f_spec_l2Sides, hs]
      simp only [Option.bind_some, Bool.not_true, cond_false]
      rw [f_l2Box hs]
      rfl
    · rw [p_impl_EmptyHeap, f_box_valid, hs]
      have f1 : P_box_heap ((X, Y, Z, ()), 0, ()) = _ := f_box_heap hs 0
      simp only [Option.bind_some, Bool.not_true, cond_false]
      rw [f1, bitCells_zero hs]
      rfl
    · refine other_is (h := (X, Y, Z, allCells X Y Z, ())) k1 (okHeap_iff.2 ⟨hs, k2, k3⟩) List.Pairwise.nil fun x => ?_
      show x ∈ ([] : List D_A3) ↔ within3 X Y Z x = true ∧ x ∉ allCells X Y Z
      rw [mem_allCells hs]
      simp

/-! ### Draws -/
theorem at0 (n : Nat) (h : n ≤ 1000000) : At n ((0, 0, ()) : Sd) := ⟨by simp only; omega, by simp only; omega⟩

theorem d_HasCube {C : List Int} (hC : Bts C) : ∃ (h : D_Heap) (c : D_A3), P_spec_DrawHasCube (C, ()) = some (h, c, ()) ∧ Small h.2.2.2.1 := by
  rw [p_spec_DrawHasCube]
  obtain ⟨g, s1, e1, a1, b1⟩ := f_heap hC (n := 12) (at0 156 (by decide))
  obtain ⟨c, s2, e2, a2⟩ := f_cell hC (n := 0) a1 g
  rw [e1]
  simp only [Option.bind_some]
  rw [e2]
  exact ⟨g, c, rfl, by unfold Small; omega⟩

theorem d_TakeCube {C : List Int} (hC : Bts C) : ∃ (h : D_Heap) (c : D_A3), P_spec_DrawTakeCube (C, ()) = some (h, c, ()) ∧ Small h.2.2.2.1 := by
  rw [p_spec_DrawTakeCube]
  obtain ⟨g, s1, e1, a1, b1⟩ := f_heap hC (n := 14) (at0 158 (by decide))
  obtain ⟨c, s2, e2, a2⟩ := f_cube hC (n := 0) a1 g
  rw [e1]
  simp only [Option.bind_some]
  rw [e2]
  exact ⟨g, c, rfl, by unfold Small; omega⟩

theorem d_FullHeap {C : List Int} (hC : Bts C) : ∃ X Y Z : Int, P_spec_DrawFullHeap (C, ()) = some (X, Y, Z, ()) := by
  obtain ⟨x, y, z, s1, e1, a1⟩ := f_sides hC (n := 0) (at0 10 (by decide))
  rw [p_spec_DrawFullHeap, p_spec_DrawEmptyHeap, e1]
  exact ⟨x, y, z, rfl⟩

theorem cut_len (s : List UInt8) (a b : Int) : (cut s a b).length ≤ s.length := by
  unfold cut
  rw [List.length_drop, List.length_take]
  omega

theorem f_spoilt {C : List Int} (hC : Bts C) {n : Nat} {s : Sd} (h : At (n + 6) s) (t : List UInt8) (ht : t.length ≤ 1000) : ∃ (u : List UInt8) (s' : Sd), P_l1Cur_spoilt ((C, s), t, [48, 49, 50, 51, 120, 32], ()) = some ((u, ()), ((C, s'), ())) ∧ Small u := by
  rw [p_l1Cur_spoilt]
  by_cases e : t = []
  · subst e
    exact ⟨_, _, rfl, by unfold Small; exact Nat.le_trans (cut_len _ _ _) (by decide)⟩
  · have e' : (t == ([] : List UInt8)) = false := beq_eq_false_iff_ne.2 e
    have hpos : 0 < t.length := List.length_pos_iff.2 e
    obtain ⟨x, s1, e1, a1, b1, b2⟩ := f_pick hC (n := n + 4) h (t.length : Int)
    obtain ⟨y, s2, e2, a2, c1, c2⟩ := f_pick hC (n := n + 2) a1 (([48, 49, 50, 51, 120, 32] : List UInt8).length : Int)
    obtain ⟨z, s3, e3, a3, d1, d2⟩ := f_pick hC (n := n) a2 3
    have hl6 : (([48, 49, 50, 51, 120, 32] : List UInt8).length : Int) = 6 := rfl
    rw [e', e1]
    simp only [cond_false, Option.bind_some]
    rw [e2]
    simp only [Option.bind_some]
    rw [hl6] at c2 ⊢
    have hx : x < (t.length : Int) := by omega
    have hy : y < 6 := by omega
    have hcl : 1 ≤ (((cut ([48, 49, 50, 51, 120, 32] : List UInt8) y 6).length : Nat) : Int) := by
      unfold cut
      rw [List.length_drop, List.length_take]
      have : ([48, 49, 50, 51, 120, 32] : List UInt8).length = 6 := rfl
      omega
    rw [decide_eq_true (p := (0 : Int) ≤ y) c1, decide_eq_true (p := y ≤ 6) (by omega), decide_eq_true (p := (6 : Int) ≤ 6) (by decide), decide_eq_true (p := (0 : Int) ≤ 0) (by decide), decide_eq_true (p := (0 : Int) ≤ 1) (by decide), decide_eq_true hcl, e3]
    simp only [Bool.and_self, cond_true, Option.bind_some]
    rw [w64 (x := x + 1) (by omega) (by omega), decide_eq_true (p := (0 : Int) ≤ x) b1, decide_eq_true (p := x ≤ (t.length : Int)) (by omega), decide_eq_true (p := (t.length : Int) ≤ (t.length : Int)) (Int.le_refl _), decide_eq_true (p := (0 : Int) ≤ x + 1) (by omega), decide_eq_true (p := x + 1 ≤ (t.length : Int)) (by omega)]
    simp only [Bool.and_self, cond_true]
    have k1 := cut_len t 0 x
    have k2 := cut_len t x (t.length : Int)
    have k3 := cut_len t (x + 1) (t.length : Int)
    have k4 := cut_len (cut ([48, 49, 50, 51, 120, 32] : List UInt8) y 6) 0 1
    have k5 := cut_len ([48, 49, 50, 51, 120, 32] : List UInt8) y 6
    have k6 : ([48, 49, 50, 51, 120, 32] : List UInt8).length = 6 := rfl
    cases decide (z = 0) with
    | true =>
      simp only [cond_true]
      rw [cat_ok (by omega) (by omega)]
      simp only [Option.bind_some]
      rw [cat_ok (by rw [List.length_append]; omega) (by omega)]
      exact ⟨_, _, rfl, by unfold Small; rw [List.length_append, List.length_append]; omega⟩
    | false =>
      simp only [cond_false]
      cases decide (z = 1) with
      | true =>
        simp only [cond_true]
        rw [cat_ok (by omega) (by omega)]
        simp only [Option.bind_some]
        rw [cat_ok (by rw [List.length_append]; omega) (by omega)]
        exact ⟨_, _, rfl, by unfold Small; rw [List.length_append, List.length_append]; omega⟩
      | false =>
        simp only [cond_false]
        rw [cat_ok (by omega) (by omega)]
        exact ⟨_, _, rfl, by unfold Small; rw [List.length_append]; omega⟩

theorem d_ParseHeap {C : List Int} (hC : Bts C) : ∃ s : List UInt8, P_spec_DrawParseHeap (C, ()) = some (s, ()) ∧ Small s := by
  rw [p_spec_DrawParseHeap]
  obtain ⟨g, s1, e1, a1, b1⟩ := f_heap hC (n := 8) (at0 152 (by decide))
  rw [e1]
  simp only [Option.bind_some]
  rw [f_spec_l2Heap _ (by unfold Small; omega)]
  simp only [Option.bind_some]
  cases ho : okHeap g with
  | true =>
    have hlen := txt_len ho
    obtain ⟨b, s2, e2, a2⟩ := f_one hC (n := 6) a1 3
    rw [text_spec ho]
    simp only [cond_true, Option.bind_some]
    rw [e2]
    simp only [Option.bind_some]
    cases b with
    | true =>
      obtain ⟨u, s3, e3, q3⟩ := f_spoilt hC (n := 0) a2 (txt g) (by omega)
      simp only [cond_true]
      rw [e3]
      exact ⟨u, rfl, q3⟩
    | false => exact ⟨_, rfl, by unfold Small; omega⟩
  | false =>
    obtain ⟨b, s2, e2, a2⟩ := f_one hC (n := 6) a1 3
    simp only [cond_false]
    rw [e2]
    simp only [Option.bind_some]
    cases b with
    | true =>
      obtain ⟨u, s3, e3, q3⟩ := f_spoilt hC (n := 0) a2 [50, 120, 49, 120, 49, 32, 48, 48, 48] (by decide)
      simp only [cond_true]
      rw [e3]
      exact ⟨u, rfl, q3⟩
    | false => exact ⟨_, rfl, by unfold Small; decide⟩
end Go.VI
