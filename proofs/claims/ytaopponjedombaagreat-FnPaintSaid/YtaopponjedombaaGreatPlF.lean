/- Plain: cuts. -/
import Derived.Test.YtaopponjedombaaGreatPlE
namespace Go.VI
open Go.Proofs

theorem dir {d : Int} (h0 : 0 ≤ d) (h1 : d ≤ 2) : d = 0 ∨ d = 1 ∨ d = 2 := by omega

theorem inB_dir {d : Int} (h0 : 0 ≤ d) (h1 : d ≤ 2) : inB d 3 = true := by
  rcases dir h0 h1 with rfl | rfl | rfl <;> decide

def side3 (X Y Z d : Int) : Int := bif decide (d = 0) then X else (bif decide (d = 1) then Y else Z)

theorem side3_ok {X Y Z : Int} (hs : sides X Y Z = true) (d : Int) : 1 ≤ side3 X Y Z d ∧ side3 X Y Z d ≤ 4 := by
  obtain ⟨s1, s2, s3⟩ := sides_iff.1 hs
  unfold side3
  cases decide (d = 0) <;> cases decide (d = 1) <;> simp <;> omega

theorem f_l2Long {X Y Z : Int} (l : List D_A3) {d : Int} (d0 : 0 ≤ d) (d1 : d ≤ 2) : P_spec_l2Long ((X, Y, Z, l, ()), d, ()) = some (side3 X Y Z d, ()) := by
  rw [p_spec_l2Long, inB_dir d0 d1]; rfl

end Go.VI
/- Plain: painting and peeling. -/
namespace Go.VI
open Go.Proofs

/-- The cell behind one of the six faces. -/
def stp (k : Nat) (c : D_A3) : D_A3 := match k with
  | 0 => (c.1 + -1, c.2.1, c.2.2.1, ())
  | 1 => (c.1 + 1, c.2.1, c.2.2.1, ())
  | 2 => (c.1, c.2.1 + -1, c.2.2.1, ())
  | 3 => (c.1, c.2.1 + 1, c.2.2.1, ())
  | 4 => (c.1, c.2.1, c.2.2.1 + -1, ())
  | _ => (c.1, c.2.1, c.2.2.1 + 1, ())

def bareAt (l q : List D_A3) (c : D_A3) (k : Nat) : Bool := !decide (stp k c ∈ l) && !decide (stp k c ∈ q)

def pcount (l q : List D_A3) (c : D_A3) : (d k : Nat) → Nat
  | 0, _ => 0
  | d + 1, k => (if bareAt l q c k then 1 else 0) + pcount l q c d (k + 1)

def painted (l q : List D_A3) (c : D_A3) : Nat := pcount l q c 6 0

theorem pcount_le (l q : List D_A3) (c : D_A3) : ∀ (d k : Nat), pcount l q c d k ≤ d
  | 0, _ => by simp [pcount]
  | d + 1, k => by
    have := pcount_le l q c d (k + 1)
    simp only [pcount]
    split <;> omega

theorem painted_le (l q : List D_A3) (c : D_A3) : painted l q c ≤ 6 := pcount_le l q c 6 0

/-- Cells of which a sum fits. -/
def Near (c : D_A3) : Prop := -1000 ≤ c.1 ∧ c.1 ≤ 1000 ∧ -1000 ≤ c.2.1 ∧ c.2.1 ≤ 1000 ∧ -1000 ≤ c.2.2.1 ∧ c.2.2.1 ≤ 1000

theorem near_of {X Y Z : Int} (hs : sides X Y Z = true) {c : D_A3} (hc : within3 X Y Z c = true) : Near c := by
  obtain ⟨s1, s2, s3⟩ := sides_iff.1 hs
  obtain ⟨w1, w2, w3⟩ := within3_iff.1 hc
  unfold Near; omega

theorem six {k : Nat} (h : k < 6) : k = 0 ∨ k = 1 ∨ k = 2 ∨ k = 3 ∨ k = 4 ∨ k = 5 := by omega

theorem f_beside (c : D_A3) (hc : Near c) (a b d : Int) (ha : -1 ≤ a ∧ a ≤ 1) (hb : -1 ≤ b ∧ b ≤ 1) (hd : -1 ≤ d ∧ d ≤ 1) : P_spec_l6Beside (c, (a, (b, (d, ()))), ()) = some ((c.1 + a, c.2.1 + b, c.2.2.1 + d, ()), ()) := by
  unfold Near at hc
  rw [p_spec_l6Beside]
  simp only
  rw [w64 (by omega) (by omega), w64 (by omega) (by omega), w64 (by omega) (by omega)]

theorem stp0 (c : D_A3) (k : Nat) : stp k c = match k with
  | 0 => (c.1 + -1, c.2.1 + 0, c.2.2.1 + 0, ())
  | 1 => (c.1 + 1, c.2.1 + 0, c.2.2.1 + 0, ())
  | 2 => (c.1 + 0, c.2.1 + -1, c.2.2.1 + 0, ())
  | 3 => (c.1 + 0, c.2.1 + 1, c.2.2.1 + 0, ())
  | 4 => (c.1 + 0, c.2.1 + 0, c.2.2.1 + -1, ())
  | _ => (c.1 + 0, c.2.1 + 0, c.2.2.1 + 1, ()) := by
  unfold stp
  split <;> simp

theorem f_beyond (c : D_A3) (hc : Near c) (k : Nat) (hk : k < 6) : P_impl_beyond (c, (k : Int), ()) = some (stp k c, ()) := by
  have e0 : IntKind.wrap .i64 (Int.tdiv ((k : Nat) : Int) 2) = ((k / 2 : Nat) : Int) := by
    rw [w64] <;> rcases six hk with rfl | rfl | rfl | rfl | rfl | rfl <;> decide
  have e1 : IntKind.wrap .i64 ((IntKind.wrap .i64 (2 * (Int.tmod ((k : Nat) : Int) 2))) - 1) = 2 * ((k % 2 : Nat) : Int) - 1 := by
    rcases six hk with rfl | rfl | rfl | rfl | rfl | rfl <;> rw [w64, w64] <;> decide
  unfold Near at hc
  rw [p_impl_beyond, e0, e1]
  rcases six hk with rfl | rfl | rfl | rfl | rfl | rfl <;> simp only [stp, inB] <;> rw [w64] <;> simp <;> omega

theorem f_isBare {X Y Z : Int} {l : List D_A3} (hs : sides X Y Z = true) (hl : Small l) (hi : Ins X Y Z l) (c : D_A3) : P_Heap_isBare ((X, Y, Z, l, ()), c, ()) = some (!decide (c ∈ l), ()) := by
  rw [p_Heap_isBare, f_Heap_box]
  simp only [Option.bind_some]
  rw [f_box_has _ _ hs]
  simp only [Option.bind_some]
  cases hw : within3 X Y Z c with
  | false =>
    have : c ∉ l := fun h => by rw [hi c h] at hw; cases hw
    simp [this]
  | true =>
    rw [f_hasCube hs hl hi hw]; rfl

/-- A set of bits that holds the cells of a list. -/
def BitsOf (X Y Z : Int) (v : BitVec 64) (q : List D_A3) : Prop := Ins X Y Z q ∧ ∀ c, within3 X Y Z c = true → v.getLsbD (idx Y Z c) = decide (c ∈ q)

theorem holds_nil (X Y Z : Int) : BitsOf X Y Z 0 [] := ⟨(fun c h => by cases h), (fun c _ => by simp)⟩

theorem l_painted9 {X Y Z : Int} {l q : List D_A3} {v : BitVec 64} (hs : sides X Y Z = true) (hl : Small l) (hi : Ins X Y Z l) (hv : BitsOf X Y Z v q) (c : D_A3) (hc : Near c) (m0 : Nat) (out : List Int) (i : Nat) (ho : out.length ≤ 1048576) (hli : i < 1048576) : ∀ (d k m : Nat) (cnt : Nat), k + d = 6 → d < m → cnt + d < 1000 →
    l_Heap_painted_9 m0 m X Y Z l c.1 c.2.1 c.2.2.1 out (v.toNat : Int) (cnt : Int) l (l.length : Int) (i : Int) (k : Int) = l_Heap_painted_5 m0 X Y Z l (out ++ [((cnt + pcount l q c d k : Nat) : Int)]) (v.toNat : Int) l (l.length : Int) ((i + 1 : Nat) : Int)
  | d, k, 0, cnt, hk, hm, hcn => by omega
  | 0, k, m + 1, cnt, hk, hm, hcn => by
    rw [q_Heap_painted_9, decide_eq_false (by omega), succI i (by omega)]
    simp only [cond_false, List.length_cons, List.length_nil, pcount, Nat.add_zero]
    rw [decide_eq_true (by omega), decide_eq_true (by omega)]
    rfl
  | d + 1, k, m + 1, cnt, hk, hm, hcn => by
    rw [q_Heap_painted_9, decide_eq_true (by omega)]
    have hb : P_impl_beyond ((c.1, (c.2.1, (c.2.2.1, ()))), (k : Int), ()) = some (stp k c, ()) := f_beyond c hc k (by omega)
    have ih := l_painted9 hs hl hi hv c hc m0 out i ho hli d (k + 1) m
    rw [hb, succI k (by omega), succI cnt (by omega)]
    simp only [cond_true, Option.bind_some, pcount]
    rw [f_isBare hs hl hi, f_Heap_box]
    simp only [Option.bind_some]
    rw [f_box_has _ _ hs]
    simp only [Option.bind_some, bareAt]
    by_cases h1 : stp k c ∈ l
    · simp only [h1, decide_true, Bool.not_true, cond_false, Bool.false_and, Bool.false_eq_true, if_false, Nat.zero_add]
      exact ih cnt (by omega) (by omega) (by omega)
    · simp only [h1, decide_false, Bool.not_false, cond_true, Bool.true_and]
      cases hw : within3 X Y Z (stp k c) with
      | false =>
        have h2 : stp k c ∉ q := fun h => by rw [hv.1 _ h] at hw; cases hw
        simp only [h2, decide_false, Bool.not_false, cond_true, if_true]
        rw [ih (cnt + 1) (by omega) (by omega) (by omega), Nat.add_assoc]
      | true =>
        simp only [Bool.not_true, cond_false]
        rw [f_box_index hs hw]
        simp only [Option.bind_some]
        rw [f_set_has, hv.2 _ hw]
        simp only [Option.bind_some]
        by_cases h2 : stp k c ∈ q
        · simp only [h2, decide_true, Bool.not_true, cond_false, Bool.false_eq_true, if_false, Nat.zero_add]
          exact ih cnt (by omega) (by omega) (by omega)
        · simp only [h2, decide_false, Bool.not_false, cond_true, if_true]
          rw [ih (cnt + 1) (by omega) (by omega) (by omega), Nat.add_assoc]
termination_by d => d

theorem l_painted5 {X Y Z : Int} {l q : List D_A3} {v : BitVec 64} (hs : sides X Y Z = true) (hl : Small l) (hi : Ins X Y Z l) (hv : BitsOf X Y Z v q) : ∀ (d i m : Nat) (out : List Int), l.length = i + d → d < m → out.length = i →
    l_Heap_painted_5 m X Y Z l out (v.toNat : Int) l (l.length : Int) (i : Int) = some (out ++ (l.drop i).map fun c => (painted l q c : Int), ())
  | d, i, 0, out, hk, hm, ho => by omega
  | d, i, m + 1, out, hk, hm, ho => by
    have hl' := hl
    unfold Small at hl'
    rw [q_Heap_painted_5]
    by_cases hlt : i < l.length
    · rw [ltT hlt, inB_at hlt, nthA (t := T_A3) hlt]
      simp only [cond_true]
      have h9 := l_painted9 hs hl hi hv l[i] (near_of hs (hi _ (List.getElem_mem hlt))) m out i (by omega) (by omega) 6 0 N 0 rfl (by have := N_ge; omega) (by omega)
      have h9' : l_Heap_painted_9 m N X Y Z l l[i].1 l[i].2.1 l[i].2.2.1 out (v.toNat : Int) 0 l (l.length : Int) (i : Int) 0 = _ := h9
      rw [h9', l_painted5 hs hl hi hv (d - 1) (i + 1) m _ (by omega) (by omega) (by simp [ho]), drop_at l i hlt]
      simp only [List.map_cons, List.append_assoc, List.singleton_append, Nat.zero_add, painted]
    · rw [ltF hlt, List.drop_eq_nil_of_le (by omega)]
      simp

theorem f_painted {X Y Z : Int} {l : List D_A3} (hs : sides X Y Z = true) (hl : Small l) (hi : Ins X Y Z l) : P_Heap_painted ((X, Y, Z, l, ()), false, ()) = some (l.map fun c => (painted l [] c : Int), ()) := by
  have := l_painted5 hs hl hi (holds_nil X Y Z) l.length 0 N [] (by simp) (by unfold Small at hl; have := N_ge; omega) rfl
  rw [p_Heap_painted]
  exact this

theorem l_specPainted {X Y Z X' Y' Z' : Int} {l q : List D_A3} (hl : Small l) (hq : Small q) (c : D_A3) (hc : Near c) : ∀ (d k m : Nat) (cnt : Nat), k + d = 6 → d < m → cnt + d < 1000 →
    l_spec_l11Painted_3 m X Y Z l X' Y' Z' q c.1 c.2.1 c.2.2.1 (-1) 0 0 1 0 0 0 (-1) 0 0 1 0 0 0 (-1) 0 0 1 (cnt : Int) (k : Int) = some (((cnt + pcount l q c d k : Nat) : Int), ())
  | d, k, 0, cnt, hk, hm, hcn => by omega
  | 0, k, m + 1, cnt, hk, hm, hcn => by
    rw [q_spec_l11Painted_3, decide_eq_false (by omega)]
    simp only [cond_false, pcount, Nat.add_zero]
  | d + 1, k, m + 1, cnt, hk, hm, hcn => by
    have ih := l_specPainted (X := X) (Y := Y) (Z := Z) (X' := X') (Y' := Y') (Z' := Z') hl hq c hc d (k + 1) m
    rw [q_spec_l11Painted_3, decide_eq_true (by omega), show inB (k : Int) 6 = true by simp [inB]; omega, succI k (by omega), succI cnt (by omega)]
    have hb : P_spec_l6Beside ((c.1, (c.2.1, (c.2.2.1, ()))), ((bif decide ((k : Int) = (0 : Int)) then (-1) else (bif decide ((k : Int) = (1 : Int)) then 1 else (bif decide ((k : Int) = (2 : Int)) then 0 else (bif decide ((k : Int) = (3 : Int)) then 0 else (bif decide ((k : Int) = (4 : Int)) then 0 else 0))))), ((bif decide ((k : Int) = (0 : Int)) then 0 else (bif decide ((k : Int) = (1 : Int)) then 0 else (bif decide ((k : Int) = (2 : Int)) then (-1) else (bif decide ((k : Int) = (3 : Int)) then 1 else (bif decide ((k : Int) = (4 : Int)) then 0 else 0))))), ((bif decide ((k : Int) = (0 : Int)) then 0 else (bif decide ((k : Int) = (1 : Int)) then 0 else (bif decide ((k : Int) = (2 : Int)) then 0 else (bif decide ((k : Int) = (3 : Int)) then 0 else (bif decide ((k : Int) = (4 : Int)) then (-1) else 1))))), ()))), ()) = some (stp k c, ()) := by
      rw [stp0]
      rcases six (show k < 6 by omega) with rfl | rfl | rfl | rfl | rfl | rfl <;> exact f_beside c hc _ _ _ (by decide) (by decide) (by decide)
    rw [hb]
    simp only [cond_true, Option.bind_some, pcount, bareAt]
    rw [f_l2Has _ _ _ _ _ hl]
    simp only [Option.bind_some]
    rw [f_l2Has _ _ _ _ _ hq]
    simp only [Option.bind_some]
    by_cases h1 : stp k c ∈ l
    · simp only [h1, decide_true, Bool.not_true, cond_false, Bool.false_and, Bool.false_eq_true, if_false, Nat.zero_add]
      exact ih cnt (by omega) (by omega) (by omega)
    · by_cases h2 : stp k c ∈ q
      · simp only [h1, h2, decide_true, decide_false, Bool.not_true, Bool.not_false, cond_true, cond_false, Bool.and_false, Bool.false_eq_true, if_false, Nat.zero_add]
        exact ih cnt (by omega) (by omega) (by omega)
      · simp only [h1, h2, decide_false, Bool.not_false, cond_true, Bool.and_true, if_true]
        rw [ih (cnt + 1) (by omega) (by omega) (by omega), Nat.add_assoc]
termination_by d => d

theorem f_specPainted {X Y Z X' Y' Z' : Int} {l q : List D_A3} (hl : Small l) (hq : Small q) (c : D_A3) (hc : Near c) : P_spec_l11Painted ((X, Y, Z, l, ()), (X', Y', Z', q, ()), c, ()) = some ((painted l q c : Int), ()) := by
  have := l_specPainted (X := X) (Y := Y) (Z := Z) (X' := X') (Y' := Y') (Z' := Z') hl hq c hc 6 0 N 0 rfl (by have := N_ge; omega) (by omega)
  rw [p_spec_l11Painted, p_spec_l6Steps]
  simp only [Option.bind_some]
  simpa [painted] using this

/-! ### Peeling -/
theorem l_specPeel {X Y Z : Int} {l : List D_A3} (hs : sides X Y Z = true) (hl : Small l) (hi : Ins X Y Z l) (b : Bool) : ∀ (d i m : Nat) (out : List D_A3), l.length = i + d → d < m → out.length ≤ i →
    l_spec_l11Peel_3 m X Y Z l 0 0 0 [] X Y Z out X Y Z [] b (i : Int) = some ((X, Y, Z, out ++ (l.drop i).filter fun c => decide (painted l [] c > 0) == b, ()), ())
  | d, i, 0, out, hk, hm, ho => by omega
  | d, i, m + 1, out, hk, hm, ho => by
    have hl' := hl
    unfold Small at hl'
    rw [q_spec_l11Peel_3]
    by_cases hlt : i < l.length
    · have ih := l_specPeel hs hl hi b (d - 1) (i + 1) m
      rw [ltT hlt, inB_at hlt, nthA (t := T_A3) hlt, drop_at l i hlt, List.filter_cons, succI i (by omega)]
      simp only [cond_true]
      rw [f_specPainted hl (by unfold Small; simp) _ (near_of hs (hi _ (List.getElem_mem hlt)))]
      simp only [Option.bind_some, List.length_cons, List.length_nil]
      rw [decide_eq_true (p := (out.length + (0 + 1)) * 24 ≤ 140737488355328) (by omega), decide_eq_true (p := out.length + (0 + 1) ≤ 140737488355328) (by omega)]
      have hd : decide ((painted l [] l[i] : Int) > 0) = decide (painted l [] l[i] > 0) := by
        by_cases h : painted l [] l[i] > 0
        · rw [decide_eq_true h, decide_eq_true (by omega)]
        · rw [decide_eq_false h, decide_eq_false (by omega)]
      rw [hd]
      cases he : (decide (painted l [] l[i] > 0) == b) with
      | false =>
        simp only [cond_false, Bool.false_eq_true, if_false]
        exact ih out (by omega) (by omega) (by omega)
      | true =>
        simp only [cond_true, if_true, Bool.and_self]
        rw [ih _ (by omega) (by omega) (by simp; omega)]
        simp
    · rw [ltF hlt, List.drop_eq_nil_of_le (by omega)]
      simp

theorem f_specPeel {X Y Z : Int} {l : List D_A3} (hs : sides X Y Z = true) (hl : Small l) (hi : Ins X Y Z l) (b : Bool) : P_spec_l11Peel ((X, Y, Z, l, ()), b, ()) = some ((X, Y, Z, l.filter fun c => decide (painted l [] c > 0) == b, ()), ()) := by
  have := l_specPeel hs hl hi b l.length 0 N [] (by simp) (by unfold Small at hl; have := N_ge; omega) (by simp)
  rw [p_spec_l11Peel, p_spec_l2Empty]
  simpa using this

def peel (l : List D_A3) : List D_A3 := l.filter fun c => decide (painted l [] c > 0) == false

theorem l_peeled {X Y Z : Int} {l : List D_A3} (hs : sides X Y Z = true) (hl : Small l) (hi : Ins X Y Z l) : ∀ (d i m : Nat) (v : BitVec 64), l.length = i + d → d < m →
    l_Heap_peeled_3 m X Y Z l 0 0 0 [] (v.toNat : Int) (l.map fun c => (painted l [] c : Int)) ((l.map fun c => (painted l [] c : Int)).length : Int) (i : Int) = some ((X, Y, Z, bitCells X Y Z (mask Y Z ((l.drop i).filter fun c => decide (painted l [] c > 0) == false) v), ()), ())
  | d, i, 0, v, hk, hm => by omega
  | d, i, m + 1, v, hk, hm => by
    have hl' := hl
    unfold Small at hl'
    rw [q_Heap_peeled_3]
    by_cases hlt : i < l.length
    · have ih := l_peeled hs hl hi (d - 1) (i + 1) m
      have hlt' : i < (l.map fun c => (painted l [] c : Int)).length := by simpa using hlt
      rw [ltT hlt', inB_at hlt', nthA (t := .int .i64) hlt', drop_at l i hlt, List.filter_cons, succI i (by omega), f_Heap_box, inB_at hlt, nthA (t := T_A3) hlt]
      simp only [cond_true, List.getElem_map]
      by_cases hp : painted l [] l[i] > 0
      · rw [decide_eq_false (p := (painted l [] l[i] : Int) = 0) (by omega), decide_eq_true hp]
        exact ih v (by omega) (by omega)
      · rw [decide_eq_true (p := (painted l [] l[i] : Int) = 0) (by omega), decide_eq_false hp]
        simp only [cond_true, Option.bind_some]
        rw [f_box_index hs (hi _ (List.getElem_mem hlt))]
        simp only [Option.bind_some]
        rw [decide_eq_true (Int.natCast_nonneg _), shl64, or64]
        exact ih _ (by omega) (by omega)
    · have hlt' : ¬ i < (l.map fun c => (painted l [] c : Int)).length := by simpa using hlt
      rw [ltF hlt', List.drop_eq_nil_of_le (by omega), f_Heap_box]
      simp only [cond_false, Option.bind_some]
      rw [f_box_heap hs]
      rfl

theorem f_peeled {X Y Z : Int} {l : List D_A3} (hs : sides X Y Z = true) (hl : Small l) (hi : Ins X Y Z l) (hr : Srt l) : P_Heap_peeled ((X, Y, Z, l, ()), ()) = some ((X, Y, Z, peel l, ()), ()) := by
  have := l_peeled hs hl hi l.length 0 N 0 (by simp) (by unfold Small at hl; have := N_ge; omega)
  rw [p_Heap_peeled, f_painted hs hl hi]
  simp only [Option.bind_some]
  simp only [List.drop_zero, listOf_mask hs (hi.filter _) (hr.filter _)] at this
  exact this

theorem f_specPeel0 {X Y Z : Int} {l : List D_A3} (hs : sides X Y Z = true) (hl : Small l) (hi : Ins X Y Z l) : P_spec_l11Peel ((X, Y, Z, l, ()), false, ()) = some ((X, Y, Z, peel l, ()), ()) := f_specPeel hs hl hi false

theorem peel_small {l : List D_A3} (hl : Small l) : Small (peel l) := by
  unfold Small peel at *
  exact Nat.le_trans (List.length_filter_le _ _) hl

theorem peel_lt {l : List D_A3} (hr : Srt l) (h : 0 < l.length) : (peel l).length < l.length := by
  match l, hr, h with
  | a :: r, hr, _ =>
    have hn : stp 0 a ∉ a :: r := by
      intro hm
      have hlt : ltC (stp 0 a) a = true := by rw [ltC_iff]; left; show a.1 + -1 < a.1; omega
      rcases List.mem_cons.1 hm with e | hm'
      · rw [e, ltC_irrefl] at hlt; cases hlt
      · have := ltC_trans hlt ((List.pairwise_cons.1 hr).1 _ hm')
        rw [ltC_irrefl] at this; cases this
    have hp : painted (a :: r) [] a > 0 := by
      have hb : bareAt (a :: r) [] a 0 = true := by
        unfold bareAt
        rw [decide_eq_false hn, decide_eq_false (by simp)]
        rfl
      unfold painted
      simp only [pcount]
      rw [if_pos hb]
      omega
    unfold peel
    rw [List.filter_cons, if_neg (by simp [hp])]
    have := List.length_filter_le (fun c => decide (painted (a :: r) [] c > 0) == false) r
    simp only [List.length_cons]
    omega
end Go.VI
/- Plain: the laws of peeling. -/
namespace Go.VI
open Go.Proofs

def noHeap : D_Heap := (0, (0, (0, (([] : List D_A3), ()))))

def peelV (h : D_Heap) : D_Heap × Bool × Unit := if okHeap h then ((h.1, h.2.1, h.2.2.1, peel h.2.2.2.1, ()), true, ()) else (noHeap, false, ())

theorem f_spec_PeelHeap (h : D_Heap) (hl : Small h.2.2.2.1) : P_spec_PeelHeap (h, ()) = some (peelV h) := by
  rw [p_spec_PeelHeap, f_spec_l2Heap _ hl]
  unfold peelV
  cases ho : okHeap h with
  | false => simp [noHeap]
  | true =>
    obtain ⟨hs, hi, hr⟩ := okHeap_iff.1 ho
    have e : P_spec_l11Peel (h, false, ()) = some ((h.1, h.2.1, h.2.2.1, peel h.2.2.2.1, ()), ()) := f_specPeel0 hs hl hi
    simp [e]

theorem f_impl_PeelHeap (h : D_Heap) (hl : Small h.2.2.2.1) : P_impl_PeelHeap (h, ()) = some (peelV h) := by
  rw [p_impl_PeelHeap, f_impl_IsHeap _ hl]
  unfold peelV
  cases ho : okHeap h with
  | false => simp [noHeap]
  | true =>
    obtain ⟨hs, hi, hr⟩ := okHeap_iff.1 ho
    have e : P_Heap_peeled (h, ()) = some ((h.1, h.2.1, h.2.2.1, peel h.2.2.2.1, ()), ()) := f_peeled hs hl hi hr
    simp [e]

theorem peelV_small (h : D_Heap) (hl : Small h.2.2.2.1) : Small (peelV h).1.2.2.2.1 := by
  unfold peelV
  split
  · exact peel_small hl
  · unfold Small noHeap; simp

theorem count_ex {X Y Z : Int} (hs : sides X Y Z = true) : ∀ (n : Nat) (l : List D_A3), l.length ≤ n → Small l → Ins X Y Z l → Srt l → ∃ r : Nat, ∀ (m cnt : Nat), n < m → cnt + n < 1000000000 →
    l_spec_PeelCount_4 m X Y Z l (cnt : Int) = some (((cnt + r : Nat) : Int), true, ()) ∧ l_impl_PeelCount_4 m X Y Z l (cnt : Int) = some (((cnt + r : Nat) : Int), true, ())
  | 0, l, hn, hl, hi, hr => by
    refine ⟨0, fun m cnt hm hc => ?_⟩
    obtain ⟨m, rfl⟩ : ∃ k, m = k + 1 := ⟨m - 1, by omega⟩
    rw [q_spec_PeelCount_4, q_impl_PeelCount_4, decide_eq_false (by omega)]
    exact ⟨rfl, rfl⟩
  | n + 1, l, hn, hl, hi, hr => by
    by_cases h0 : 0 < l.length
    · obtain ⟨r, ih⟩ := count_ex hs n (peel l) (by have := peel_lt hr h0; omega) (peel_small hl) (hi.filter _) (hr.filter _)
      refine ⟨r + 1, fun m cnt hm hc => ?_⟩
      obtain ⟨m, rfl⟩ : ∃ k, m = k + 1 := ⟨m - 1, by omega⟩
      obtain ⟨i1, i2⟩ := ih m (cnt + 1) (by omega) (by omega)
      rw [q_spec_PeelCount_4, q_impl_PeelCount_4, decide_eq_true (by omega), f_specPeel0 hs hl hi, f_peeled hs hl hi hr, succI cnt (by omega)]
      simp only [cond_true, Option.bind_some]
      rw [i1, i2, show cnt + 1 + r = cnt + (r + 1) by omega]
      exact ⟨rfl, rfl⟩
    · refine ⟨0, fun m cnt hm hc => ?_⟩
      obtain ⟨m, rfl⟩ : ∃ k, m = k + 1 := ⟨m - 1, by omega⟩
      rw [q_spec_PeelCount_4, q_impl_PeelCount_4, decide_eq_false (by omega)]
      exact ⟨rfl, rfl⟩

theorem peelCount_eq (h : D_Heap) (hl : Small h.2.2.2.1) : ∃ r, P_spec_PeelCount (h, ()) = some r ∧ P_impl_PeelCount (h, ()) = some r := by
  rw [p_spec_PeelCount, p_impl_PeelCount, f_spec_l2Heap _ hl, f_impl_IsHeap _ hl]
  cases ho : okHeap h with
  | false => exact ⟨_, rfl, rfl⟩
  | true =>
    obtain ⟨hs, hi, hr⟩ := okHeap_iff.1 ho
    obtain ⟨r, hr'⟩ := count_ex hs h.2.2.2.1.length h.2.2.2.1 (Nat.le_refl _) hl hi hr
    obtain ⟨i1, i2⟩ := hr' N 0 (by unfold Small at hl; have := N_ge; omega) (by unfold Small at hl; omega)
    exact ⟨_, i1, i2⟩

theorem depth_ex {X Y Z : Int} (hs : sides X Y Z = true) (c : D_A3) (hc : within3 X Y Z c = true) : ∀ (n : Nat) (l : List D_A3), l.length ≤ n → Small l → Ins X Y Z l → Srt l → ∃ r : Nat, ∀ (m cnt : Nat), n < m → cnt + n < 1000000000 →
    l_spec_PeelDepth_4 m c.1 c.2.1 c.2.2.1 X Y Z l (cnt : Int) = some (((cnt + r : Nat) : Int), true, ()) ∧ l_impl_PeelDepth_4 m X Y Z l c.1 c.2.1 c.2.2.1 (cnt : Int) = some (((cnt + r : Nat) : Int), true, ())
  | n, l, hn, hl, hi, hr => by
    have f1 : P_spec_l2Has ((X, (Y, (Z, (l, ())))), (c.1, (c.2.1, (c.2.2.1, ()))), ()) = some (decide (c ∈ l), ()) := f_l2Has X Y Z l c hl
    have f2 : P_Heap_hasCube ((X, (Y, (Z, (l, ())))), (c.1, (c.2.1, (c.2.2.1, ()))), ()) = some (decide (c ∈ l), ()) := f_hasCube hs hl hi hc
    by_cases h0 : c ∈ l
    · match n, hn with
      | 0, hn => have : l = [] := List.eq_nil_of_length_eq_zero (by omega); subst this; cases h0
      | n + 1, hn =>
        obtain ⟨r, ih⟩ := depth_ex hs c hc n (peel l) (by have := peel_lt hr (List.length_pos_of_mem h0); omega) (peel_small hl) (hi.filter _) (hr.filter _)
        refine ⟨r + 1, fun m cnt hm hc => ?_⟩
        obtain ⟨m, rfl⟩ : ∃ k, m = k + 1 := ⟨m - 1, by omega⟩
        obtain ⟨i1, i2⟩ := ih m (cnt + 1) (by omega) (by omega)
        rw [q_spec_PeelDepth_4, q_impl_PeelDepth_4, f1, f2]
        simp only [Option.bind_some]
        rw [decide_eq_true h0, f_specPeel0 hs hl hi, f_peeled hs hl hi hr, succI cnt (by omega)]
        simp only [cond_true, Option.bind_some]
        rw [i1, i2, show cnt + 1 + r = cnt + (r + 1) by omega]
        exact ⟨rfl, rfl⟩
    · refine ⟨0, fun m cnt hm hc => ?_⟩
      obtain ⟨m, rfl⟩ : ∃ k, m = k + 1 := ⟨m - 1, by omega⟩
      rw [q_spec_PeelDepth_4, q_impl_PeelDepth_4, f1, f2]
      simp only [Option.bind_some]
      rw [decide_eq_false h0]
      exact ⟨rfl, rfl⟩
termination_by n => n

theorem peelDepth_eq (h : D_Heap) (c : D_A3) (hl : Small h.2.2.2.1) : ∃ r, P_spec_PeelDepth (h, c, ()) = some r ∧ P_impl_PeelDepth (h, c, ()) = some r := by
  rw [p_spec_PeelDepth, p_impl_PeelDepth, p_spec_l2Cell, p_impl_isCell, f_spec_l2Heap _ hl, f_impl_IsHeap _ hl]
  cases ho : okHeap h with
  | false => exact ⟨_, rfl, rfl⟩
  | true =>
    obtain ⟨hs, hi, hr⟩ := okHeap_iff.1 ho
    simp only [Option.bind_some, cond_true]
    rw [f_spec_l2In _ _ hs, f_Heap_box]
    simp only [Option.bind_some]
    rw [f_box_has _ _ hs]
    simp only [Option.bind_some]
    cases hw : within3 h.1 h.2.1 h.2.2.1 c with
    | false => exact ⟨_, rfl, rfl⟩
    | true =>
      have f1 : P_spec_l2Has (h, c, ()) = some (decide (c ∈ h.2.2.2.1), ()) := f_l2Has _ _ _ _ _ hl
      have f2 : P_Heap_hasCube (h, c, ()) = some (decide (c ∈ h.2.2.2.1), ()) := f_hasCube hs hl hi hw
      rw [f1, f2]
      simp only [Bool.not_true, cond_false, Option.bind_some]
      cases decide (c ∈ h.2.2.2.1) with
      | false => exact ⟨_, rfl, rfl⟩
      | true =>
        obtain ⟨r, hr'⟩ := depth_ex hs c hw h.2.2.2.1.length h.2.2.2.1 (Nat.le_refl _) hl hi hr
        obtain ⟨i1, i2⟩ := hr' N 0 (by unfold Small at hl; have := N_ge; omega) (by unfold Small at hl; omega)
        exact ⟨_, i1, i2⟩

end Go.VI
