/- Plain: the order of heaps. -/
import Derived.Test.YtlnfgikipeiaiaaGreatPlN
import Derived.Test.YtlnfgikipeiaiaaGreatViFunM
import Derived.Test.YtlnfgikipeiaiaaGreatG30p2
import Derived.Test.YtlnfgikipeiaiaaGreatWjComp
namespace Go.VI
open Go.Proofs
def boxC (h : D_Heap) : D_A3 := (h.1, h.2.1, h.2.2.1, ())
def lessL : List D_A3 → List D_A3 → Bool
  | [], [] => false
  | [], _ :: _ => true
  | _ :: _, [] => false
  | a :: l, b :: m => if a = b then lessL l m else ltC a b
def lessH (g h : D_Heap) : Bool := if boxC g = boxC h then lessL g.2.2.2.1 h.2.2.2.1 else ltC (boxC g) (boxC h)
def cmpL : List D_A3 → List D_A3 → Int
  | [], [] => 0
  | [], _ :: _ => -1
  | _ :: _, [] => 1
  | a :: l, b :: m => if cmpC a b = 0 then cmpL l m else cmpC a b
def cmpH (g h : D_Heap) : Int := if cmpC (boxC g) (boxC h) = 0 then cmpL g.2.2.2.1 h.2.2.2.1 else cmpC (boxC g) (boxC h)
theorem cmpC_zero {a b : D_A3} : cmpC a b = 0 ↔ a = b := by
  constructor
  · intro h
    unfold cmpC at h
    repeat' (split at h)
    all_goals first | omega | exact cell_ext (by omega) (by omega) (by omega)
  · rintro rfl
    unfold cmpC
    simp
theorem cmpC_neg {a b : D_A3} : cmpC a b < 0 ↔ ltC a b = true := by
  rw [ltC_iff]
  unfold cmpC
  repeat' split
  all_goals first | omega | (constructor <;> intro h <;> omega)
theorem cmpL_neg : ∀ {l m : List D_A3}, cmpL l m < 0 ↔ lessL l m = true
  | [], [] => by simp [cmpL, lessL]
  | [], _ :: _ => by simp [cmpL, lessL]
  | _ :: _, [] => by simp [cmpL, lessL]
  | a :: l, b :: m => by
    simp only [cmpL, lessL]
    by_cases h : a = b
    · rw [if_pos (cmpC_zero.2 h), if_pos h]; exact cmpL_neg
    · rw [if_neg (fun e => h (cmpC_zero.1 e)), if_neg h]; exact cmpC_neg
theorem cmpH_neg {g h : D_Heap} : cmpH g h < 0 ↔ lessH g h = true := by
  unfold cmpH lessH
  by_cases e : boxC g = boxC h
  · rw [if_pos (cmpC_zero.2 e), if_pos e]; exact cmpL_neg
  · rw [if_neg (fun e' => e (cmpC_zero.1 e')), if_neg e]; exact cmpC_neg
theorem lessL_irr : ∀ l : List D_A3, lessL l l = false
  | [] => rfl
  | a :: l => by simp only [lessL, if_true]; exact lessL_irr l
theorem lessL_tr : ∀ {l m n : List D_A3}, lessL l m = true → lessL m n = true → lessL l n = true
  | [], [], _, h, _ => by cases h
  | [], _ :: _, [], _, h => by cases h
  | [], _ :: _, _ :: _, _, _ => rfl
  | _ :: _, [], _, h, _ => by cases h
  | _ :: _, _ :: _, [], _, h => by cases h
  | a :: l, b :: m, c :: n, h, k => by
    simp only [lessL] at h k ⊢
    by_cases e : a = b
    · subst e
      rw [if_pos rfl] at h
      by_cases e' : a = c
      · rw [if_pos e'] at k ⊢; exact lessL_tr h k
      · rw [if_neg e'] at k ⊢; exact k
    · rw [if_neg e] at h
      by_cases e' : b = c
      · subst e'
        rw [if_neg e]; exact h
      · rw [if_neg e'] at k
        have hk := ltC_trans h k
        have hne : a ≠ c := fun e'' => by rw [e''] at hk; rw [ltC_irrefl] at hk; cases hk
        rw [if_neg hne]; exact hk
theorem lessL_tot : ∀ {l m : List D_A3}, lessL l m = false → lessL m l = false → l = m
  | [], [], _, _ => rfl
  | [], _ :: _, h, _ => by cases h
  | _ :: _, [], _, h => by cases h
  | a :: l, b :: m, h, k => by
    simp only [lessL] at h k
    by_cases e : a = b
    · subst e
      rw [if_pos rfl] at h k
      rw [lessL_tot h k]
    · rw [if_neg e] at h
      rw [if_neg (fun e' => e e'.symm)] at k
      exact absurd (ltC_total h k) e
theorem boxC_inj {g h : D_Heap} (e : boxC g = boxC h) (k : g.2.2.2.1 = h.2.2.2.1) : g = h := by
  simp only [boxC, Prod.mk.injEq, and_true] at e
  exact heap_ext e.1 e.2.1 e.2.2 k
theorem lessH_irr (g : D_Heap) : lessH g g = false := by unfold lessH; rw [if_pos rfl]; exact lessL_irr _
theorem lessH_tr {f g h : D_Heap} (a : lessH f g = true) (b : lessH g h = true) : lessH f h = true := by
  unfold lessH at a b ⊢
  by_cases e : boxC f = boxC g
  · rw [if_pos e] at a
    by_cases e' : boxC g = boxC h
    · rw [if_pos e'] at b; rw [if_pos (e.trans e')]; exact lessL_tr a b
    · rw [if_neg e'] at b; rw [if_neg (fun x => e' (e.symm.trans x)), e]; exact b
  · rw [if_neg e] at a
    by_cases e' : boxC g = boxC h
    · rw [if_neg (fun x => e (x.trans e'.symm)), ← e']; exact a
    · rw [if_neg e'] at b
      have hk := ltC_trans a b
      have hne : boxC f ≠ boxC h := fun e'' => by rw [e''] at hk; rw [ltC_irrefl] at hk; cases hk
      rw [if_neg hne]; exact hk
theorem lessH_tot {g h : D_Heap} (a : lessH g h = false) (b : lessH h g = false) : g = h := by
  unfold lessH at a b
  by_cases e : boxC g = boxC h
  · rw [if_pos e] at a; rw [if_pos e.symm] at b; exact boxC_inj e (lessL_tot a b)
  · rw [if_neg e] at a; rw [if_neg (fun x => e x.symm)] at b; exact absurd (ltC_total a b) e
def sameB (g h : D_Heap) : Bool := decide (boxC g = boxC h) && decide (g.2.2.2.1 = h.2.2.2.1)
theorem sameB_iff {g h : D_Heap} : sameB g h = true ↔ g = h := by
  unfold sameB
  rw [Bool.and_eq_true, decide_eq_true_eq, decide_eq_true_eq]
  exact ⟨fun e => boxC_inj e.1 e.2, fun e => by rw [e]; exact ⟨rfl, rfl⟩⟩
theorem sameB_of {g h : D_Heap} (e : g = h) : sameB g h = true := sameB_iff.2 e
theorem sameB_not {g h : D_Heap} (e : g ≠ h) : sameB g h = false := by
  cases k : sameB g h with
  | true => exact absurd (sameB_iff.1 k) e
  | false => rfl
theorem eqC3 (a b : D_A3) : (decide (a.1 = b.1) && (decide (a.2.1 = b.2.1) && (decide (a.2.2.1 = b.2.2.1) && true))) = decide (a = b) := by
  by_cases h : a = b
  · subst h; simp
  · rw [decide_eq_false h]
    by_cases h1 : a.1 = b.1
    · by_cases h2 : a.2.1 = b.2.1
      · by_cases h3 : a.2.2.1 = b.2.2.1
        · exact absurd (cell_ext h1 h2 h3) h
        · simp [h3]
      · simp [h2]
    · simp [h1]
theorem l_less {X Y Z X' Y' Z' : Int} {l l' : List D_A3} (hl : Small l) (hl' : Small l') : ∀ (d k m : Nat), l.length = k + d → d < m → k ≤ l'.length →
 l_spec_l8Less_5 m X Y Z l X' Y' Z' l' (k : Int) = some (lessL (l.drop k) (l'.drop k), ())
  | d, k, 0, _, h, _ => by omega
  | d, k, m + 1, hk, hm, hk' => by
    have h1 := hl
    have h2 := hl'
    unfold Small at h1 h2
    rw [q_spec_l8Less_5]
    by_cases hlt : k < l.length
    · rw [ltT hlt]
      by_cases hlt' : k < l'.length
      · rw [ltT hlt', inB_at hlt, inB_at hlt', nthA (t := T_A3) hlt, nthA (t := T_A3) hlt', eqC3, drop_at l k hlt, drop_at l' k hlt']
        simp only [cond_true, lessL]
        by_cases e : l[k] = l'[k]
        · rw [decide_eq_true e, if_pos e, succI k (by omega)]
          exact l_less hl hl' (d - 1) (k + 1) m (by omega) (by omega) (by omega)
        · rw [decide_eq_false e, if_neg e, f_spec_l2Before]
          rfl
      · rw [ltF hlt', drop_at l k hlt, List.drop_eq_nil_of_le (show l'.length ≤ k by omega)]
        simp only [cond_true, cond_false, lessL]
        rw [decide_eq_false (by omega)]
    · rw [ltF hlt, List.drop_eq_nil_of_le (show l.length ≤ k by omega)]
      simp only [cond_false]
      by_cases hlt' : k < l'.length
      · rw [drop_at l' k hlt', decide_eq_true (by omega)]; rfl
      · rw [List.drop_eq_nil_of_le (show l'.length ≤ k by omega), decide_eq_false (by omega)]; rfl
theorem f_less {g h : D_Heap} (hg : Small g.2.2.2.1) (hh : Small h.2.2.2.1) : P_spec_l8Less (g, h, ()) = some (lessH g h, ()) := by
  rw [p_spec_l8Less]
  have e : (decide (g.1 = h.1) && (decide (g.2.1 = h.2.1) && (decide (g.2.2.1 = h.2.2.1) && true))) = decide (boxC g = boxC h) := eqC3 (boxC g) (boxC h)
  rw [e]
  unfold lessH
  by_cases h' : boxC g = boxC h
  · rw [decide_eq_true h', if_pos h']
    have := l_less (X := g.1) (Y := g.2.1) (Z := g.2.2.1) (X' := h.1) (Y' := h.2.1) (Z' := h.2.2.1) hg hh g.2.2.2.1.length 0 N (by omega) (by unfold Small at hg; have := N_ge; omega) (by omega)
    simpa using this
  · rw [decide_eq_false h', if_neg h', f_spec_l2Before]
    rfl
theorem f_sameS {g h : D_Heap} (hg : Small g.2.2.2.1) (hh : Small h.2.2.2.1) : P_spec_l8Same (g, h, ()) = some (sameB g h, ()) := by
  rw [p_spec_l8Same, f_less hg hh]
  simp only [Option.bind_some]
  cases a : lessH g h with
  | true =>
    have : g ≠ h := fun e => by rw [e, lessH_irr] at a; cases a
    rw [sameB_not this]; rfl
  | false =>
    simp only [Bool.not_false, cond_true]
    rw [f_less hh hg]
    simp only [Option.bind_some]
    cases b : lessH h g with
    | true =>
      have : g ≠ h := fun e => by rw [e, lessH_irr] at b; cases b
      rw [sameB_not this]; rfl
    | false => rw [sameB_of (lessH_tot a b)]; rfl
theorem l_cmpF {l l' : List D_A3} (hl : Small l) (hl' : Small l') : ∀ (d k m : Nat), l.length = k + d → d < m → k ≤ l'.length →
 l_sCmp3_2 m l l' (fun y => P_impl_compareCells (y.1, y.2.1, ())) l (l.length : Int) (k : Int) = some (cmpL (l.drop k) (l'.drop k), ())
  | d, k, 0, _, h, _ => by omega
  | d, k, m + 1, hk, hm, hk' => by
    have h1 := hl
    have h2 := hl'
    unfold Small at h1 h2
    rw [q_sCmp3_2]
    by_cases hlt : k < l.length
    · rw [ltT hlt, inB_at hlt]
      simp only [cond_true]
      by_cases hlt' : k < l'.length
      · rw [decide_eq_false (p := (k : Int) ≥ (l'.length : Int)) (by omega), inB_at hlt', nthA (t := T_A3) hlt, nthA (t := T_A3) hlt', f_impl_compareCells, drop_at l k hlt, drop_at l' k hlt']
        simp only [cond_true, cond_false, cmpL, Option.bind_some]
        by_cases e : cmpC l[k] l'[k] = 0
        · rw [decide_eq_true e, if_pos e, succI k (by omega)]
          exact l_cmpF hl hl' (d - 1) (k + 1) m (by omega) (by omega) (by omega)
        · rw [decide_eq_false e, if_neg e]
          rfl
      · rw [decide_eq_true (p := (k : Int) ≥ (l'.length : Int)) (by omega), drop_at l k hlt, List.drop_eq_nil_of_le (show l'.length ≤ k by omega)]
        rfl
    · rw [ltF hlt, List.drop_eq_nil_of_le (show l.length ≤ k by omega)]
      simp only [cond_false]
      by_cases hlt' : k < l'.length
      · rw [drop_at l' k hlt', decide_eq_true (by omega)]; rfl
      · rw [List.drop_eq_nil_of_le (show l'.length ≤ k by omega), decide_eq_false (by omega)]; rfl
theorem f_cmpH {g h : D_Heap} (hg : Small g.2.2.2.1) (hh : Small h.2.2.2.1) : P_impl_compareHeaps (g, h, ()) = some (cmpH g h, ()) := by
  have hb : P_slices_Compare_int_int (([g.1, g.2.1, g.2.2.1] : List Int), ([h.1, h.2.1, h.2.2.1] : List Int), ()) = some (cmpC (boxC g) (boxC h), ()) := by
    have := f_impl_compareCells (boxC g) (boxC h)
    rw [p_impl_compareCells] at this
    cases hc : P_slices_Compare_int_int (([g.1, g.2.1, g.2.2.1] : List Int), ([h.1, h.2.1, h.2.2.1] : List Int), ()) with
    | none => simp only [boxC] at this; rw [hc] at this; cases this
    | some r =>
      simp only [boxC] at this
      rw [hc] at this
      obtain ⟨r1, ⟨⟩⟩ := r
      simpa [boxC] using this
  rw [p_impl_compareHeaps, f_Heap_box, f_Heap_box]
  simp only [Option.bind_some]
  rw [hb]
  simp only [Option.bind_some]
  unfold cmpH
  by_cases e : cmpC (boxC g) (boxC h) = 0
  · rw [decide_eq_true e, if_pos e, p_sCmp3]
    have := l_cmpF hg hh g.2.2.2.1.length 0 N (by omega) (by unfold Small at hg; have := N_ge; omega) (by omega)
    simp only [Bool.not_true, cond_false]
    rw [show ((0 : Nat) : Int) = 0 from rfl] at this
    rw [this]
    simp
  · rw [decide_eq_false e, if_neg e]; rfl
theorem l_eqS {l l' : List D_A3} (hl : Small l) (he : l.length = l'.length) : ∀ (d k m : Nat), l.length = k + d → d < m →
 l_slices_Equal_3_int_3_int_4 m l l' (l.length : Int) (k : Int) = some (decide (l.drop k = l'.drop k), ())
  | d, k, 0, _, h => by omega
  | d, k, m + 1, hk, hm => by
    have h1 := hl
    unfold Small at h1
    rw [q_slices_Equal_3_int_3_int_4]
    by_cases hlt : k < l.length
    · have hlt' : k < l'.length := by omega
      rw [ltT hlt, inB_at hlt, inB_at hlt', nthA (t := T_A3) hlt, nthA (t := T_A3) hlt', eqC3, drop_at l k hlt, drop_at l' k hlt']
      simp only [cond_true]
      by_cases e : l[k] = l'[k]
      · rw [decide_eq_true e, succI k (by omega)]
        simp only [Bool.not_true, cond_false]
        rw [l_eqS hl he (d - 1) (k + 1) m (by omega) (by omega)]
        simp only [List.cons.injEq, e, true_and]
      · rw [decide_eq_false e, decide_eq_false (fun h => e (List.cons.inj h).1)]
        rfl
    · rw [ltF hlt, List.drop_eq_nil_of_le (show l.length ≤ k by omega), List.drop_eq_nil_of_le (show l'.length ≤ k by omega)]
      simp
theorem f_eqL {l l' : List D_A3} (hl : Small l) : P_slices_Equal_3_int_3_int (l, l', ()) = some (decide (l = l'), ()) := by
  rw [p_slices_Equal_3_int_3_int]
  by_cases he : l.length = l'.length
  · rw [decide_eq_true (p := (l.length : Int) = (l'.length : Int)) (by omega)]
    have := l_eqS hl he l.length 0 N (by omega) (by unfold Small at hl; have := N_ge; omega)
    simpa using this
  · rw [decide_eq_false (p := (l.length : Int) = (l'.length : Int)) (by omega), decide_eq_false (fun e => he (by rw [e]))]
    rfl
theorem f_sameI {g h : D_Heap} (hg : Small g.2.2.2.1) : P_Heap_same (g, h, ()) = some (sameB g h, ()) := by
  rw [p_Heap_same, f_Heap_box, f_Heap_box]
  simp only [Option.bind_some]
  have e : (decide (g.1 = h.1) && (decide (g.2.1 = h.2.1) && (decide (g.2.2.1 = h.2.2.1) && true))) = decide (boxC g = boxC h) := eqC3 (boxC g) (boxC h)
  rw [e]
  by_cases h' : boxC g = boxC h
  · rw [decide_eq_true h', f_eqL hg]
    simp only [cond_true, Option.bind_some]
    by_cases hc : g.2.2.2.1 = h.2.2.2.1
    · rw [decide_eq_true hc, sameB_of (boxC_inj h' hc)]
    · rw [decide_eq_false hc, sameB_not (fun e => hc (by rw [e]))]
  · rw [decide_eq_false h', sameB_not (fun e => h' (by rw [e]))]
    rfl
end Go.VI
namespace Go.VI
def Le {α : Type} (x y : Option α) : Prop := ∀ r, x = some r → y = some r
theorem Le.rfl {α : Type} {x : Option α} : Le x x := fun _ h => h
theorem Le.none {α : Type} {x : Option α} : Le none x := fun _ h => by cases h
theorem Le.bind {α β : Type} {x y : Option α} {f g : α → Option β} (h : Le x y) (hf : ∀ a, Le (f a) (g a)) : Le (Option.bind x f) (Option.bind y g) := fun r hr => by
  cases x with
  | none => cases hr
  | some a => rw [h a _root_.rfl]; exact hf a r hr
theorem Le.cond {α : Type} {c : Bool} {x y x' y' : Option α} (h : Le x x') (h' : Le y y') : Le (bif c then x else y) (bif c then x' else y') := by
  cases c
  · exact h'
  · exact h
theorem K_le (k : Nat) (h : k ≤ 4194304) : k ≤ N := Nat.le_trans h N_ge
end Go.VI
namespace Go.VI
open Go.Proofs
set_option maxRecDepth 100000
set_option maxHeartbeats 2000000
noncomputable def e_spec_l8Odd_6 (k_3 : (Int) → (Int) → (Int) → (Int) → (Int) → Option (denL R_spec_l8Odd)) (m : Nat) : (Int) → (Int) → (Int) → (Int) → (Int) → (Int) → Option (denL R_spec_l8Odd) := Nat.rec (motive := fun _ => (Int) → (Int) → (Int) → (Int) → (Int) → (Int) → Option (denL R_spec_l8Odd)) (fun _ _ _ _ _ _ => none) (fun _ ih p0 p1 p2 p3 p4 p5 =>
 bif decide (p5 < p4) then
 bif inB p5 3 then
 bif inB p4 3 then
 bif decide ((bif decide (p5 = (0 : Int)) then p0 else (bif decide (p5 = (1 : Int)) then p1 else p2)) > (bif decide (p4 = (0 : Int)) then p0 else (bif decide (p4 = (1 : Int)) then p1 else p2))) then
 ih p0 p1 p2 (IntKind.wrap .i64 (p3 + 1)) p4 (IntKind.wrap .i64 (p5 + 1))
 else
 ih p0 p1 p2 p3 p4 (IntKind.wrap .i64 (p5 + 1))
 else none
 else none
 else
 k_3 p0 p1 p2 p3 (IntKind.wrap .i64 (p4 + 1))) m
theorem w_spec_l8Odd_6 (m0 : Nat) (k_3 : (Int) → (Int) → (Int) → (Int) → (Int) → Option (denL R_spec_l8Odd)) (h_3 : ∀ (p0 p1 : Int) (p2 p3 p4 : Int), Le (k_3 p0 p1 p2 p3 p4) (l_spec_l8Odd_3 m0 p0 p1 p2 p3 p4)) : ∀ (m M : Nat), m ≤ M → ∀ (p0 p1 : Int) (p2 p3 : Int) (p4 p5 : Int), Le (e_spec_l8Odd_6 k_3 m p0 p1 p2 p3 p4 p5) (l_spec_l8Odd_6 m0 M p0 p1 p2 p3 p4 p5) := by
 intro m
 induction m with
 | zero => intro M _ p0 p1 p2 p3 p4 p5 ; exact Le.none
 | succ m ih =>
 intro M0 hM p0 p1 p2 p3 p4 p5
 obtain ⟨M, rfl⟩ : ∃ M, M0 = M + 1 := ⟨M0 - 1, by omega⟩
 have hMM : m ≤ M := by omega
 have hK := K_le 200 (by decide)
 rw [q_spec_l8Odd_6]
 show Le (
 bif decide (p5 < p4) then
 bif inB p5 3 then
 bif inB p4 3 then
 bif decide ((bif decide (p5 = (0 : Int)) then p0 else (bif decide (p5 = (1 : Int)) then p1 else p2)) > (bif decide (p4 = (0 : Int)) then p0 else (bif decide (p4 = (1 : Int)) then p1 else p2))) then
 (e_spec_l8Odd_6 k_3 m) p0 p1 p2 (IntKind.wrap .i64 (p3 + 1)) p4 (IntKind.wrap .i64 (p5 + 1))
 else
 (e_spec_l8Odd_6 k_3 m) p0 p1 p2 p3 p4 (IntKind.wrap .i64 (p5 + 1))
 else none
 else none
 else
 k_3 p0 p1 p2 p3 (IntKind.wrap .i64 (p4 + 1))) _
 repeat first
 | with_reducible exact Le.rfl
 | with_reducible exact ih M hMM _ _ _ _ _ _
 | with_reducible exact h_3 _ _ _ _ _
 | with_reducible refine Le.bind ?_ (fun _ => ?_)
 | with_reducible refine Le.cond ?_ ?_
noncomputable def e_spec_l8Odd_3  (m : Nat) : (Int) → (Int) → (Int) → (Int) → (Int) → Option (denL R_spec_l8Odd) := Nat.rec (motive := fun _ => (Int) → (Int) → (Int) → (Int) → (Int) → Option (denL R_spec_l8Odd)) (fun _ _ _ _ _ => none) (fun _ ih p0 p1 p2 p3 p4 =>
 bif decide (p4 < 3) then
 e_spec_l8Odd_6 ih 200 p0 p1 p2 p3 p4 0
 else
 some ((Int.tmod p3 2), ())) m
theorem w_spec_l8Odd_3    : ∀ (m M : Nat), m ≤ M → ∀ (p0 p1 : Int) (p2 p3 p4 : Int), Le (e_spec_l8Odd_3  m p0 p1 p2 p3 p4) (l_spec_l8Odd_3  M p0 p1 p2 p3 p4) := by
 intro m
 induction m with
 | zero => intro M _ p0 p1 p2 p3 p4 ; exact Le.none
 | succ m ih =>
 intro M0 hM p0 p1 p2 p3 p4
 obtain ⟨M, rfl⟩ : ∃ M, M0 = M + 1 := ⟨M0 - 1, by omega⟩
 have hMM : m ≤ M := by omega
 have hK := K_le 200 (by decide)
 rw [q_spec_l8Odd_3]
 show Le (
 bif decide (p4 < 3) then
 e_spec_l8Odd_6 (e_spec_l8Odd_3  m) 200 p0 p1 p2 p3 p4 0
 else
 some ((Int.tmod p3 2), ())) _
 repeat first
 | with_reducible exact Le.rfl
 | with_reducible exact ih M hMM _ _ _ _ _
 | with_reducible exact w_spec_l8Odd_6 _ _ (ih M hMM) 200 N hK _ _ _ _ _ _
 | with_reducible refine Le.bind ?_ (fun _ => ?_)
 | with_reducible refine Le.cond ?_ ?_
noncomputable def E_spec_l8Odd : Ft_spec_l8Odd := fun x =>
 e_spec_l8Odd_3 200 x.1.1 x.1.2.1 x.1.2.2.1 0 0
theorem v_spec_l8Odd : ∀ x, Le (E_spec_l8Odd x) (P_spec_l8Odd x) := by
 have hK := K_le 200 (by decide)
 rintro ⟨a0, ⟨⟩⟩
 rw [show P_spec_l8Odd (a0, ()) = _ from p_spec_l8Odd a0]
 show Le (
 e_spec_l8Odd_3 200 a0.1 a0.2.1 a0.2.2.1 0 0) _
 repeat first
 | with_reducible exact Le.rfl
 | with_reducible exact w_spec_l8Odd_3 200 N hK _ _ _ _ _
 | with_reducible refine Le.bind ?_ (fun _ => ?_)
 | with_reducible refine Le.cond ?_ ?_
noncomputable def e_spec_l8Turns_9 (_k_3 : (List D_l8Turn) → (Int) → Option (denL R_spec_l8Turns)) (k_6 : (List D_l8Turn) → (Int) → (Int) → Option (denL R_spec_l8Turns)) (m : Nat) : (List D_l8Turn) → (Int) → (Int) → (Int) → Option (denL R_spec_l8Turns) := Nat.rec (motive := fun _ => (List D_l8Turn) → (Int) → (Int) → (Int) → Option (denL R_spec_l8Turns)) (fun _ _ _ _ => none) (fun _ ih p0 p1 p2 p3 =>
 bif decide (p3 < 8) then
 bif !decide (p1 = p2) then
 Option.bind (E_spec_l8Odd ((p1, (p2, ((IntKind.wrap .i64 ((IntKind.wrap .i64 (3 - p1)) - p2)), ()))), ())) fun r2 =>
 bif decide (r2.1 = (Int.tmod (IntKind.wrap .i64 ((IntKind.wrap .i64 ((intBits .and .i64 (shrI .i64 p3 2) 1) + (intBits .and .i64 (shrI .i64 p3 1) 1))) + (intBits .and .i64 p3 1))) 2)) then
 bif (decide (((List.length p0) + (List.length ([((p1, (p2, ((IntKind.wrap .i64 ((IntKind.wrap .i64 (3 - p1)) - p2)), ()))), (((intBits .and .i64 (shrI .i64 p3 2) 1), ((intBits .and .i64 (shrI .i64 p3 1) 1), ((intBits .and .i64 p3 1), ()))), ()))] : List D_l8Turn))) * 48 ≤ 140737488355328) && decide (((List.length p0) + (List.length ([((p1, (p2, ((IntKind.wrap .i64 ((IntKind.wrap .i64 (3 - p1)) - p2)), ()))), (((intBits .and .i64 (shrI .i64 p3 2) 1), ((intBits .and .i64 (shrI .i64 p3 1) 1), ((intBits .and .i64 p3 1), ()))), ()))] : List D_l8Turn))) ≤ 140737488355328)) then
 ih (p0 ++ ([((p1, (p2, ((IntKind.wrap .i64 ((IntKind.wrap .i64 (3 - p1)) - p2)), ()))), (((intBits .and .i64 (shrI .i64 p3 2) 1), ((intBits .and .i64 (shrI .i64 p3 1) 1), ((intBits .and .i64 p3 1), ()))), ()))] : List D_l8Turn)) p1 p2 (IntKind.wrap .i64 (p3 + 1))
 else none
 else
 ih p0 p1 p2 (IntKind.wrap .i64 (p3 + 1))
 else
 k_6 p0 p1 (IntKind.wrap .i64 (p2 + 1))
 else
 k_6 p0 p1 (IntKind.wrap .i64 (p2 + 1))) m
theorem w_spec_l8Turns_9 (m0 m1 : Nat) (k_3 : (List D_l8Turn) → (Int) → Option (denL R_spec_l8Turns)) (k_6 : (List D_l8Turn) → (Int) → (Int) → Option (denL R_spec_l8Turns)) (_h_3 : ∀ (p0 : List D_l8Turn) (p1 : Int), Le (k_3 p0 p1) (l_spec_l8Turns_3 m0 p0 p1)) (h_6 : ∀ (p0 : List D_l8Turn) (p1 p2 : Int), Le (k_6 p0 p1 p2) (l_spec_l8Turns_6 m0 m1 p0 p1 p2)) : ∀ (m M : Nat), m ≤ M → ∀ (p0 : List D_l8Turn) (p1 p2 p3 : Int), Le (e_spec_l8Turns_9 k_3 k_6 m p0 p1 p2 p3) (l_spec_l8Turns_9 m0 m1 M p0 p1 p2 p3) := by
 intro m
 induction m with
 | zero => intro M _ p0 p1 p2 p3 ; exact Le.none
 | succ m ih =>
 intro M0 hM p0 p1 p2 p3
 obtain ⟨M, rfl⟩ : ∃ M, M0 = M + 1 := ⟨M0 - 1, by omega⟩
 have hMM : m ≤ M := by omega
 have hK := K_le 200 (by decide)
 rw [q_spec_l8Turns_9]
 show Le (
 bif decide (p3 < 8) then
 bif !decide (p1 = p2) then
 Option.bind (E_spec_l8Odd ((p1, (p2, ((IntKind.wrap .i64 ((IntKind.wrap .i64 (3 - p1)) - p2)), ()))), ())) fun r2 =>
 bif decide (r2.1 = (Int.tmod (IntKind.wrap .i64 ((IntKind.wrap .i64 ((intBits .and .i64 (shrI .i64 p3 2) 1) + (intBits .and .i64 (shrI .i64 p3 1) 1))) + (intBits .and .i64 p3 1))) 2)) then
 bif (decide (((List.length p0) + (List.length ([((p1, (p2, ((IntKind.wrap .i64 ((IntKind.wrap .i64 (3 - p1)) - p2)), ()))), (((intBits .and .i64 (shrI .i64 p3 2) 1), ((intBits .and .i64 (shrI .i64 p3 1) 1), ((intBits .and .i64 p3 1), ()))), ()))] : List D_l8Turn))) * 48 ≤ 140737488355328) && decide (((List.length p0) + (List.length ([((p1, (p2, ((IntKind.wrap .i64 ((IntKind.wrap .i64 (3 - p1)) - p2)), ()))), (((intBits .and .i64 (shrI .i64 p3 2) 1), ((intBits .and .i64 (shrI .i64 p3 1) 1), ((intBits .and .i64 p3 1), ()))), ()))] : List D_l8Turn))) ≤ 140737488355328)) then
 (e_spec_l8Turns_9 k_3 k_6 m) (p0 ++ ([((p1, (p2, ((IntKind.wrap .i64 ((IntKind.wrap .i64 (3 - p1)) - p2)), ()))), (((intBits .and .i64 (shrI .i64 p3 2) 1), ((intBits .and .i64 (shrI .i64 p3 1) 1), ((intBits .and .i64 p3 1), ()))), ()))] : List D_l8Turn)) p1 p2 (IntKind.wrap .i64 (p3 + 1))
 else none
 else
 (e_spec_l8Turns_9 k_3 k_6 m) p0 p1 p2 (IntKind.wrap .i64 (p3 + 1))
 else
 k_6 p0 p1 (IntKind.wrap .i64 (p2 + 1))
 else
 k_6 p0 p1 (IntKind.wrap .i64 (p2 + 1))) _
 repeat first
 | with_reducible exact Le.rfl
 | with_reducible exact ih M hMM _ _ _ _
 | with_reducible exact h_6 _ _ _
 | with_reducible exact v_spec_l8Odd _
 | with_reducible refine Le.bind ?_ (fun _ => ?_)
 | with_reducible refine Le.cond ?_ ?_
noncomputable def e_spec_l8Turns_6 (k_3 : (List D_l8Turn) → (Int) → Option (denL R_spec_l8Turns)) (m : Nat) : (List D_l8Turn) → (Int) → (Int) → Option (denL R_spec_l8Turns) := Nat.rec (motive := fun _ => (List D_l8Turn) → (Int) → (Int) → Option (denL R_spec_l8Turns)) (fun _ _ _ => none) (fun _ ih p0 p1 p2 =>
 bif decide (p2 < 3) then
 e_spec_l8Turns_9 k_3 ih 200 p0 p1 p2 0
 else
 k_3 p0 (IntKind.wrap .i64 (p1 + 1))) m
theorem w_spec_l8Turns_6 (m0 : Nat) (k_3 : (List D_l8Turn) → (Int) → Option (denL R_spec_l8Turns)) (h_3 : ∀ (p0 : List D_l8Turn) (p1 : Int), Le (k_3 p0 p1) (l_spec_l8Turns_3 m0 p0 p1)) : ∀ (m M : Nat), m ≤ M → ∀ (p0 : List D_l8Turn) (p1 p2 : Int), Le (e_spec_l8Turns_6 k_3 m p0 p1 p2) (l_spec_l8Turns_6 m0 M p0 p1 p2) := by
 intro m
 induction m with
 | zero => intro M _ p0 p1 p2 ; exact Le.none
 | succ m ih =>
 intro M0 hM p0 p1 p2
 obtain ⟨M, rfl⟩ : ∃ M, M0 = M + 1 := ⟨M0 - 1, by omega⟩
 have hMM : m ≤ M := by omega
 have hK := K_le 200 (by decide)
 rw [q_spec_l8Turns_6]
 show Le (
 bif decide (p2 < 3) then
 e_spec_l8Turns_9 k_3 (e_spec_l8Turns_6 k_3 m) 200 p0 p1 p2 0
 else
 k_3 p0 (IntKind.wrap .i64 (p1 + 1))) _
 repeat first
 | with_reducible exact Le.rfl
 | with_reducible exact ih M hMM _ _ _
 | with_reducible exact h_3 _ _
 | with_reducible exact w_spec_l8Turns_9 _ _ _ _ h_3 (ih M hMM) 200 N hK _ _ _ _
 | with_reducible refine Le.bind ?_ (fun _ => ?_)
 | with_reducible refine Le.cond ?_ ?_
noncomputable def e_spec_l8Turns_3  (m : Nat) : (List D_l8Turn) → (Int) → Option (denL R_spec_l8Turns) := Nat.rec (motive := fun _ => (List D_l8Turn) → (Int) → Option (denL R_spec_l8Turns)) (fun _ _ => none) (fun _ ih p0 p1 =>
 bif decide (p1 < 3) then
 e_spec_l8Turns_6 ih 200 p0 p1 0
 else
 some (p0, ())) m
theorem w_spec_l8Turns_3    : ∀ (m M : Nat), m ≤ M → ∀ (p0 : List D_l8Turn) (p1 : Int), Le (e_spec_l8Turns_3  m p0 p1) (l_spec_l8Turns_3  M p0 p1) := by
 intro m
 induction m with
 | zero => intro M _ p0 p1 ; exact Le.none
 | succ m ih =>
 intro M0 hM p0 p1
 obtain ⟨M, rfl⟩ : ∃ M, M0 = M + 1 := ⟨M0 - 1, by omega⟩
 have hMM : m ≤ M := by omega
 have hK := K_le 200 (by decide)
 rw [q_spec_l8Turns_3]
 show Le (
 bif decide (p1 < 3) then
 e_spec_l8Turns_6 (e_spec_l8Turns_3  m) 200 p0 p1 0
 else
 some (p0, ())) _
 repeat first
 | with_reducible exact Le.rfl
 | with_reducible exact ih M hMM _ _
 | with_reducible exact w_spec_l8Turns_6 _ _ (ih M hMM) 200 N hK _ _ _
 | with_reducible refine Le.bind ?_ (fun _ => ?_)
 | with_reducible refine Le.cond ?_ ?_
noncomputable def E_spec_l8Turns : Ft_spec_l8Turns := fun _ =>
 e_spec_l8Turns_3 200 ([] : List D_l8Turn) 0
theorem v_spec_l8Turns : ∀ x, Le (E_spec_l8Turns x) (P_spec_l8Turns x) := by
 have hK := K_le 200 (by decide)
 rintro ⟨⟨⟩⟩
 rw [show P_spec_l8Turns () = _ from p_spec_l8Turns ]
 show Le (
 e_spec_l8Turns_3 200 ([] : List D_l8Turn) 0) _
 repeat first
 | with_reducible exact Le.rfl
 | with_reducible exact w_spec_l8Turns_3 200 N hK _ _
 | with_reducible refine Le.bind ?_ (fun _ => ?_)
 | with_reducible refine Le.cond ?_ ?_
noncomputable def E_impl_orders : Ft_impl_orders := fun _ =>
 some (([(0, (1, (2, ()))), (0, (2, (1, ()))), (1, (0, (2, ()))), (1, (2, (0, ()))), (2, (0, (1, ()))), (2, (1, (0, ())))] : List D_A3), ())
theorem v_impl_orders : ∀ x, Le (E_impl_orders x) (P_impl_orders x) := by
 have hK := K_le 200 (by decide)
 rintro ⟨⟨⟩⟩
 rw [show P_impl_orders () = _ from p_impl_orders ]
 show Le (
 some (([(0, (1, (2, ()))), (0, (2, (1, ()))), (1, (0, (2, ()))), (1, (2, (0, ()))), (2, (0, (1, ()))), (2, (1, (0, ())))] : List D_A3), ())) _
 repeat first
 | with_reducible exact Le.rfl
 | with_reducible refine Le.bind ?_ (fun _ => ?_)
 | with_reducible refine Le.cond ?_ ?_
noncomputable def e_impl_turnings_10 (_k_3 : (List D_l8Turn) → (List D_A3) → (Int) → (Int) → Option (denL R_impl_turnings)) (k_7 : (Int) → (Int) → (Int) → (List D_l8Turn) → (Int) → (List D_A3) → (Int) → (Int) → (Int) → Option (denL R_impl_turnings)) (m : Nat) : (Int) → (Int) → (Int) → (List D_l8Turn) → (Int) → (Int) → (List D_A3) → (Int) → (Int) → (Int) → (Int) → (Int) → Option (denL R_impl_turnings) := Nat.rec (motive := fun _ => (Int) → (Int) → (Int) → (List D_l8Turn) → (Int) → (Int) → (List D_A3) → (Int) → (Int) → (Int) → (Int) → (Int) → Option (denL R_impl_turnings)) (fun _ _ _ _ _ _ _ _ _ _ _ _ => none) (fun _ ih p0 p1 p2 p3 p4 p5 p6 p7 p8 p9 p10 p11 =>
 bif decide (p11 < p10) then
 bif inB p11 3 then
 bif inB p5 3 then
 bif decide ((bif decide (p11 = (0 : Int)) then p0 else (bif decide (p11 = (1 : Int)) then p1 else p2)) > (bif decide (p5 = (0 : Int)) then p0 else (bif decide (p5 = (1 : Int)) then p1 else p2))) then
 ih p0 p1 p2 p3 (IntKind.wrap .i64 (p4 + 1)) p5 p6 p7 p8 p9 p10 (IntKind.wrap .i64 (p11 + 1))
 else
 ih p0 p1 p2 p3 p4 p5 p6 p7 p8 p9 p10 (IntKind.wrap .i64 (p11 + 1))
 else none
 else none
 else
 k_7 p0 p1 p2 p3 p4 p6 p7 p8 (IntKind.wrap .i64 (p9 + 1))) m
theorem w_impl_turnings_10 (m0 m1 : Nat) (k_3 : (List D_l8Turn) → (List D_A3) → (Int) → (Int) → Option (denL R_impl_turnings)) (k_7 : (Int) → (Int) → (Int) → (List D_l8Turn) → (Int) → (List D_A3) → (Int) → (Int) → (Int) → Option (denL R_impl_turnings)) (_h_3 : ∀ (p0 : List D_l8Turn) (p1 : List D_A3) (p2 p3 : Int), Le (k_3 p0 p1 p2 p3) (l_impl_turnings_3 m0 p0 p1 p2 p3)) (h_7 : ∀ (p0 p1 p2 : Int) (p3 : List D_l8Turn) (p4 : Int) (p5 : List D_A3) (p6 p7 p8 : Int), Le (k_7 p0 p1 p2 p3 p4 p5 p6 p7 p8) (l_impl_turnings_7 m0 m1 p0 p1 p2 p3 p4 p5 p6 p7 p8)) : ∀ (m M : Nat), m ≤ M → ∀ (p0 p1 p2 : Int) (p3 : List D_l8Turn) (p4 p5 : Int) (p6 : List D_A3) (p7 p8 : Int) (p9 p10 p11 : Int), Le (e_impl_turnings_10 k_3 k_7 m p0 p1 p2 p3 p4 p5 p6 p7 p8 p9 p10 p11) (l_impl_turnings_10 m0 m1 M p0 p1 p2 p3 p4 p5 p6 p7 p8 p9 p10 p11) := by
 intro m
 induction m with
 | zero => intro M _ p0 p1 p2 p3 p4 p5 p6 p7 p8 p9 p10 p11 ; exact Le.none
 | succ m ih =>
 intro M0 hM p0 p1 p2 p3 p4 p5 p6 p7 p8 p9 p10 p11
 obtain ⟨M, rfl⟩ : ∃ M, M0 = M + 1 := ⟨M0 - 1, by omega⟩
 have hMM : m ≤ M := by omega
 have hK := K_le 200 (by decide)
 rw [q_impl_turnings_10]
 show Le (
 bif decide (p11 < p10) then
 bif inB p11 3 then
 bif inB p5 3 then
 bif decide ((bif decide (p11 = (0 : Int)) then p0 else (bif decide (p11 = (1 : Int)) then p1 else p2)) > (bif decide (p5 = (0 : Int)) then p0 else (bif decide (p5 = (1 : Int)) then p1 else p2))) then
 (e_impl_turnings_10 k_3 k_7 m) p0 p1 p2 p3 (IntKind.wrap .i64 (p4 + 1)) p5 p6 p7 p8 p9 p10 (IntKind.wrap .i64 (p11 + 1))
 else
 (e_impl_turnings_10 k_3 k_7 m) p0 p1 p2 p3 p4 p5 p6 p7 p8 p9 p10 (IntKind.wrap .i64 (p11 + 1))
 else none
 else none
 else
 k_7 p0 p1 p2 p3 p4 p6 p7 p8 (IntKind.wrap .i64 (p9 + 1))) _
 repeat first
 | with_reducible exact Le.rfl
 | with_reducible exact ih M hMM _ _ _ _ _ _ _ _ _ _ _ _
 | with_reducible exact h_7 _ _ _ _ _ _ _ _ _
 | with_reducible refine Le.bind ?_ (fun _ => ?_)
 | with_reducible refine Le.cond ?_ ?_
noncomputable def e_impl_turnings_17 (k_3 : (List D_l8Turn) → (List D_A3) → (Int) → (Int) → Option (denL R_impl_turnings)) (m : Nat) : (Int) → (Int) → (Int) → (List D_l8Turn) → (Int) → (List D_A3) → (Int) → (Int) → (Int) → Option (denL R_impl_turnings) := Nat.rec (motive := fun _ => (Int) → (Int) → (Int) → (List D_l8Turn) → (Int) → (List D_A3) → (Int) → (Int) → (Int) → Option (denL R_impl_turnings)) (fun _ _ _ _ _ _ _ _ _ => none) (fun _ ih p0 p1 p2 p3 p4 p5 p6 p7 p8 =>
 bif decide (p8 < 8) then
 bif decide ((Int.tmod (IntKind.wrap .i64 ((IntKind.wrap .i64 ((IntKind.wrap .i64 (p4 + (shrI .i64 p8 2))) + (intBits .and .i64 (shrI .i64 p8 1) 1))) + (intBits .and .i64 p8 1))) 2) = 0) then
 bif (decide (((List.length p3) + (List.length ([((p0, (p1, (p2, ()))), (((shrI .i64 p8 2), ((intBits .and .i64 (shrI .i64 p8 1) 1), ((intBits .and .i64 p8 1), ()))), ()))] : List D_l8Turn))) * 48 ≤ 140737488355328) && decide (((List.length p3) + (List.length ([((p0, (p1, (p2, ()))), (((shrI .i64 p8 2), ((intBits .and .i64 (shrI .i64 p8 1) 1), ((intBits .and .i64 p8 1), ()))), ()))] : List D_l8Turn))) ≤ 140737488355328)) then
 ih p0 p1 p2 (p3 ++ ([((p0, (p1, (p2, ()))), (((shrI .i64 p8 2), ((intBits .and .i64 (shrI .i64 p8 1) 1), ((intBits .and .i64 p8 1), ()))), ()))] : List D_l8Turn)) p4 p5 p6 p7 (IntKind.wrap .i64 (p8 + 1))
 else none
 else
 ih p0 p1 p2 p3 p4 p5 p6 p7 (IntKind.wrap .i64 (p8 + 1))
 else
 k_3 p3 p5 p6 (IntKind.wrap .i64 (p7 + 1))) m
theorem w_impl_turnings_17 (m0 : Nat) (k_3 : (List D_l8Turn) → (List D_A3) → (Int) → (Int) → Option (denL R_impl_turnings)) (h_3 : ∀ (p0 : List D_l8Turn) (p1 : List D_A3) (p2 p3 : Int), Le (k_3 p0 p1 p2 p3) (l_impl_turnings_3 m0 p0 p1 p2 p3)) : ∀ (m M : Nat), m ≤ M → ∀ (p0 p1 p2 : Int) (p3 : List D_l8Turn) (p4 : Int) (p5 : List D_A3) (p6 p7 p8 : Int), Le (e_impl_turnings_17 k_3 m p0 p1 p2 p3 p4 p5 p6 p7 p8) (l_impl_turnings_17 m0 M p0 p1 p2 p3 p4 p5 p6 p7 p8) := by
 intro m
 induction m with
 | zero => intro M _ p0 p1 p2 p3 p4 p5 p6 p7 p8 ; exact Le.none
 | succ m ih =>
 intro M0 hM p0 p1 p2 p3 p4 p5 p6 p7 p8
 obtain ⟨M, rfl⟩ : ∃ M, M0 = M + 1 := ⟨M0 - 1, by omega⟩
 have hMM : m ≤ M := by omega
 have hK := K_le 200 (by decide)
 rw [q_impl_turnings_17]
 show Le (
 bif decide (p8 < 8) then
 bif decide ((Int.tmod (IntKind.wrap .i64 ((IntKind.wrap .i64 ((IntKind.wrap .i64 (p4 + (shrI .i64 p8 2))) + (intBits .and .i64 (shrI .i64 p8 1) 1))) + (intBits .and .i64 p8 1))) 2) = 0) then
 bif (decide (((List.length p3) + (List.length ([((p0, (p1, (p2, ()))), (((shrI .i64 p8 2), ((intBits .and .i64 (shrI .i64 p8 1) 1), ((intBits .and .i64 p8 1), ()))), ()))] : List D_l8Turn))) * 48 ≤ 140737488355328) && decide (((List.length p3) + (List.length ([((p0, (p1, (p2, ()))), (((shrI .i64 p8 2), ((intBits .and .i64 (shrI .i64 p8 1) 1), ((intBits .and .i64 p8 1), ()))), ()))] : List D_l8Turn))) ≤ 140737488355328)) then
 (e_impl_turnings_17 k_3 m) p0 p1 p2 (p3 ++ ([((p0, (p1, (p2, ()))), (((shrI .i64 p8 2), ((intBits .and .i64 (shrI .i64 p8 1) 1), ((intBits .and .i64 p8 1), ()))), ()))] : List D_l8Turn)) p4 p5 p6 p7 (IntKind.wrap .i64 (p8 + 1))
 else none
 else
 (e_impl_turnings_17 k_3 m) p0 p1 p2 p3 p4 p5 p6 p7 (IntKind.wrap .i64 (p8 + 1))
 else
 k_3 p3 p5 p6 (IntKind.wrap .i64 (p7 + 1))) _
 repeat first
 | with_reducible exact Le.rfl
 | with_reducible exact ih M hMM _ _ _ _ _ _ _ _ _
 | with_reducible exact h_3 _ _ _ _
 | with_reducible refine Le.bind ?_ (fun _ => ?_)
 | with_reducible refine Le.cond ?_ ?_
noncomputable def e_impl_turnings_7 (k_3 : (List D_l8Turn) → (List D_A3) → (Int) → (Int) → Option (denL R_impl_turnings)) (m : Nat) : (Int) → (Int) → (Int) → (List D_l8Turn) → (Int) → (List D_A3) → (Int) → (Int) → (Int) → Option (denL R_impl_turnings) := Nat.rec (motive := fun _ => (Int) → (Int) → (Int) → (List D_l8Turn) → (Int) → (List D_A3) → (Int) → (Int) → (Int) → Option (denL R_impl_turnings)) (fun _ _ _ _ _ _ _ _ _ => none) (fun _ ih p0 p1 p2 p3 p4 p5 p6 p7 p8 =>
 bif decide (p8 < 3) then
 e_impl_turnings_10 k_3 ih 200 p0 p1 p2 p3 p4 p8 p5 p6 p7 p8 p8 0
 else
 e_impl_turnings_17 k_3 200 p0 p1 p2 p3 p4 p5 p6 p7 0) m
theorem w_impl_turnings_7 (m0 : Nat) (k_3 : (List D_l8Turn) → (List D_A3) → (Int) → (Int) → Option (denL R_impl_turnings)) (h_3 : ∀ (p0 : List D_l8Turn) (p1 : List D_A3) (p2 p3 : Int), Le (k_3 p0 p1 p2 p3) (l_impl_turnings_3 m0 p0 p1 p2 p3)) : ∀ (m M : Nat), m ≤ M → ∀ (p0 p1 p2 : Int) (p3 : List D_l8Turn) (p4 : Int) (p5 : List D_A3) (p6 p7 p8 : Int), Le (e_impl_turnings_7 k_3 m p0 p1 p2 p3 p4 p5 p6 p7 p8) (l_impl_turnings_7 m0 M p0 p1 p2 p3 p4 p5 p6 p7 p8) := by
 intro m
 induction m with
 | zero => intro M _ p0 p1 p2 p3 p4 p5 p6 p7 p8 ; exact Le.none
 | succ m ih =>
 intro M0 hM p0 p1 p2 p3 p4 p5 p6 p7 p8
 obtain ⟨M, rfl⟩ : ∃ M, M0 = M + 1 := ⟨M0 - 1, by omega⟩
 have hMM : m ≤ M := by omega
 have hK := K_le 200 (by decide)
 rw [q_impl_turnings_7]
 show Le (
 bif decide (p8 < 3) then
 e_impl_turnings_10 k_3 (e_impl_turnings_7 k_3 m) 200 p0 p1 p2 p3 p4 p8 p5 p6 p7 p8 p8 0
 else
 e_impl_turnings_17 k_3 200 p0 p1 p2 p3 p4 p5 p6 p7 0) _
 repeat first
 | with_reducible exact Le.rfl
 | with_reducible exact ih M hMM _ _ _ _ _ _ _ _ _
 | with_reducible exact h_3 _ _ _ _
 | with_reducible exact w_impl_turnings_10 _ _ _ _ h_3 (ih M hMM) 200 N hK _ _ _ _ _ _ _ _ _ _ _ _
 | with_reducible exact w_impl_turnings_17 _ _ h_3 200 N hK _ _ _ _ _ _ _ _ _
 | with_reducible refine Le.bind ?_ (fun _ => ?_)
 | with_reducible refine Le.cond ?_ ?_
noncomputable def e_impl_turnings_3  (m : Nat) : (List D_l8Turn) → (List D_A3) → (Int) → (Int) → Option (denL R_impl_turnings) := Nat.rec (motive := fun _ => (List D_l8Turn) → (List D_A3) → (Int) → (Int) → Option (denL R_impl_turnings)) (fun _ _ _ _ => none) (fun _ ih p0 p1 p2 p3 =>
 bif decide (p3 < p2) then
 bif inB p3 (List.length p1) then
 e_impl_turnings_7 ih 200 (((nth T_A3 p1 p3)).1) ((((nth T_A3 p1 p3)).2).1) (((((nth T_A3 p1 p3)).2).2).1) p0 0 p1 p2 p3 0
 else none
 else
 some (p0, ())) m
theorem w_impl_turnings_3    : ∀ (m M : Nat), m ≤ M → ∀ (p0 : List D_l8Turn) (p1 : List D_A3) (p2 p3 : Int), Le (e_impl_turnings_3  m p0 p1 p2 p3) (l_impl_turnings_3  M p0 p1 p2 p3) := by
 intro m
 induction m with
 | zero => intro M _ p0 p1 p2 p3 ; exact Le.none
 | succ m ih =>
 intro M0 hM p0 p1 p2 p3
 obtain ⟨M, rfl⟩ : ∃ M, M0 = M + 1 := ⟨M0 - 1, by omega⟩
 have hMM : m ≤ M := by omega
 have hK := K_le 200 (by decide)
 rw [q_impl_turnings_3]
 show Le (
 bif decide (p3 < p2) then
 bif inB p3 (List.length p1) then
 e_impl_turnings_7 (e_impl_turnings_3  m) 200 (((nth T_A3 p1 p3)).1) ((((nth T_A3 p1 p3)).2).1) (((((nth T_A3 p1 p3)).2).2).1) p0 0 p1 p2 p3 0
 else none
 else
 some (p0, ())) _
 repeat first
 | with_reducible exact Le.rfl
 | with_reducible exact ih M hMM _ _ _ _
 | with_reducible exact w_impl_turnings_7 _ _ (ih M hMM) 200 N hK _ _ _ _ _ _ _ _ _
 | with_reducible refine Le.bind ?_ (fun _ => ?_)
 | with_reducible refine Le.cond ?_ ?_
noncomputable def E_impl_turnings : Ft_impl_turnings := fun _ =>
 Option.bind (E_impl_orders (())) fun r0 =>
 e_impl_turnings_3 200 ([] : List D_l8Turn) r0.1 (List.length r0.1 : Int) 0
theorem v_impl_turnings : ∀ x, Le (E_impl_turnings x) (P_impl_turnings x) := by
 have hK := K_le 200 (by decide)
 rintro ⟨⟨⟩⟩
 rw [show P_impl_turnings () = _ from p_impl_turnings ]
 show Le (
 Option.bind (E_impl_orders (())) fun r0 =>
 e_impl_turnings_3 200 ([] : List D_l8Turn) r0.1 (List.length r0.1 : Int) 0) _
 repeat first
 | with_reducible exact Le.rfl
 | with_reducible exact w_impl_turnings_3 200 N hK _ _ _ _
 | with_reducible exact v_impl_orders _
 | with_reducible refine Le.bind ?_ (fun _ => ?_)
 | with_reducible refine Le.cond ?_ ?_
end Go.VI
namespace Go.VI
open Go.Proofs Go.RowKit
set_option maxRecDepth 100000
structure JoinV where
  add : DA3 → DA3 → DA3
  bey : DA3 → Nat → DA3
  has : DA3 → Bool
  hof : List DA3 → DHeap
  frm : DHeap → DHeap
def byN (n : Nat) : DA3 := ((n : Int) % 9 - 4, (n : Int) / 9 % 9 - 4, (n : Int) / 81 - 4, ())
def JoinV.clash (V : JoinV) (S : List DA3) (p : DA3) : Bool := S.any fun c => V.has (V.add c p)
def JoinV.touchF (V : JoinV) (d : DA3) (n : Nat) : Bool := (List.range n).any fun f => V.has (V.bey d f)
def JoinV.touch (V : JoinV) (S : List DA3) (p : DA3) : Bool := S.any fun c => V.touchF (V.add c p) 6
def JoinV.keep (V : JoinV) (S : List DA3) (p : DA3) : Bool := V.touch S p && !V.clash S p
def JoinV.cells (V : JoinV) (F S : List DA3) (p : DA3) : List DA3 := F ++ S.map fun c => V.add c p
def JoinV.cand (V : JoinV) (F S : List DA3) (n : Nat) : Option DHeap := if V.keep S (byN n) then some (V.frm (V.hof (V.cells F S (byN n)))) else none
def JoinV.candS (V : JoinV) (F S : List DA3) (n : Nat) : List DHeap := (List.range n).filterMap (V.cand F S)
def JoinV.cands (V : JoinV) (F : List DA3) (L : List DHeap) : List DHeap := L.flatMap fun h => V.candS F h.2.2.2.1 729
structure JoinOK (V : JoinV) (F : List DA3) (L : List DHeap) : Prop where
  smallF : F.length ≤ 10
  smallL : L.length ≤ 24
  small : ∀ h ∈ L, h.2.2.2.1.length ≤ 10
  add : ∀ c d, P_impl_added (c, d, ()) = some (V.add c d, ())
  bey : ∀ d (f : Nat), f < 6 → P_impl_beyond (d, (f : Int), ()) = some (V.bey d f, ())
  has : ∀ d, P_sCont3 (F, d, ()) = some (V.has d, ())
  hof : ∀ h ∈ L, ∀ n < 729, V.keep h.2.2.2.1 (byN n) = true → P_impl_heapOf (V.cells F h.2.2.2.1 (byN n), ()) = some (V.hof (V.cells F h.2.2.2.1 (byN n)), ())
  frm : ∀ h ∈ L, ∀ n < 729, V.keep h.2.2.2.1 (byN n) = true → ∃ T gf cf bf cmp, FormOK (V.hof (V.cells F h.2.2.2.1 (byN n))) T gf cf bf cmp ∧ formOf T.length cf cmp = V.frm (V.hof (V.cells F h.2.2.2.1 (byN n)))
theorem candS_succ (V : JoinV) (F S : List DA3) (n : Nat) : V.candS F S (n + 1) = V.candS F S n ++ (V.cand F S n).toList := by
  unfold JoinV.candS
  rw [List.range_succ, List.filterMap_append]
  congr 1
theorem jcands_succ (V : JoinV) (F : List DA3) (L : List DHeap) (n : Nat) (h : DHeap) (hh : L[n]? = some h) : V.cands F (L.take (n + 1)) = V.cands F (L.take n) ++ V.candS F h.2.2.2.1 729 := by
  have hlt : n < L.length := by
    rcases Nat.lt_or_ge n L.length with h' | h'
    · exact h'
    · rw [List.getElem?_eq_none h'] at hh; cases hh
  have : L[n] = h := by rw [List.getElem?_eq_getElem hlt] at hh; exact Option.some.inj hh
  unfold JoinV.cands
  rw [List.take_succ_eq_append_getElem hlt, this, List.flatMap_append]
  simp
theorem touchF_succ (V : JoinV) (d : DA3) (n : Nat) : V.touchF d (n + 1) = (V.touchF d n || V.has (V.bey d n)) := by
  unfold JoinV.touchF
  rw [List.range_succ, List.any_append]
  simp
theorem any_take_succ {α : Type} (p : α → Bool) (l : List α) (n : Nat) (a : α) (h : l[n]? = some a) : (l.take (n + 1)).any p = ((l.take n).any p || p a) := by
  have hlt : n < l.length := by
    rcases Nat.lt_or_ge n l.length with h' | h'
    · exact h'
    · rw [List.getElem?_eq_none h'] at h; cases h
  have : l[n] = a := by rw [List.getElem?_eq_getElem hlt] at h; exact Option.some.inj h
  rw [List.take_succ_eq_append_getElem hlt, this, List.any_append]
  simp
structure JF (W wr : World) (v : Value) (hs : List HE) (v47 : Value) (gs : List HE) (fv : Value) (F : List DA3) (K : List (Nat × Obj)) : Prop where
  loop : LoopF W wr v hs v47 gs K
  fst : OwnV (fun _ => False) wr W.heap.size 55 A3ty fv F
  far : ∀ g, v.ownBlock = some g → fv.ownBlock ≠ some g
section
variable {W wr w' : World} {v v47 fv : Value} {hs gs : List HE} {F : List DA3} {K : List (Nat × Obj)}
theorem JF.call (h : JF W wr v hs v47 gs fv F K) (hb : Below wr.heap.size wr w') : JF W w' v hs v47 gs fv F K := ⟨h.loop.call hb, ownBH h.fst hb, h.far⟩
theorem JF.alloc (h : JF W wr v hs v47 gs fv F K) (o : Obj) : JF W (wr.alloc o) v hs v47 gs fv F ((wr.heap.size, o) :: K) := ⟨h.loop.alloc o, ownBH h.fst (belowAlloc wr o), h.far⟩
theorem JF.less {x : Nat × Obj} (h : JF W wr v hs v47 gs fv F (x :: K)) : JF W wr v hs v47 gs fv F K := ⟨h.loop.less, h.fst, h.far⟩
theorem JF.push {w3 w6 : World} {v' : Value} {a : HE} {o : Obj} (h : JF W wr v hs v47 gs fv F K) (hb : Below wr.heap.size wr w3)
 (hu : OwnV (fun _ => False) w3 wr.heap.size 55 A3ty a.v a.cells) (hv : w6.ownsRow W.heap.size 29 4 v' (hs.length + 1) (encs hs ++ a.enc)) (hgr : GrownD (w3.alloc o) w6 v.ownBlock) (hp : v'.ownBlock = v.ownBlock ∨ v'.ownBlock = some (w3.alloc o).heap.size) :
 JF W w6 v' (hs ++ [a]) v47 gs fv F K := by
  refine ⟨h.loop.push hb hu hv hgr hp, ?_, fun g hg hf => ?_⟩
  · have hf := ownBH h.fst hb
    exact hf.mono (fun _ hz => hz) (fun _ hz => hz.elim) fun g hg => by
      have hl := (hf.lt g hg).2
      rw [hgr.block g (by rw [alloc_size]; omega) (fun e => h.far g e.symm hg), Below.heap_alloc _ _ _ hl]
  · rcases hp with e | e
    · exact h.far g (e ▸ hg) hf
    · have := (h.fst.lt g hf).2
      have := hb.size
      rw [e, alloc_size] at hg
      have : w3.heap.size + 1 = g := Option.some.inj hg
      omega
theorem JF.read (h : JF W wr v hs v47 gs fv F K) : RepI (fun q => fv.ownBlock = some q) wr (.sl A3ty) F [fv] := h.fst.reads _ (fun _ hz => hz.elim) fun q hq => hq
theorem JF.zone (h : JF W wr v hs v47 gs fv F K) : ∀ q, fv.ownBlock = some q → q < wr.heap.size := fun _ hq => (h.fst.lt _ hq).2
end
theorem c_added {W : World} {c d e : DA3} (hF : P_impl_added (c, d, ()) = some (e, ())) :
 Calls Tryz.prog 38 #[a3V c, a3V d] W fun e' w' => e' = .returned (a3V e) ∧ Below W.heap.size W w' :=
  arrH_calls (fn := Tryz.f38) s_impl_added Tryz.func38 rfl (by kernel_rfl) (Z := fun _ => False) trivial (fun _ h => h.elim) (xs := (c, d, ())) (vs := [a3V c, a3V d])
    ⟨_, _, rfl, (fun h => by cases h), repA3 c.1 c.2.1 c.2.2.1, _, _, rfl, (fun h => by cases h), repA3 d.1 d.2.1 d.2.2.1, rfl⟩ hF
end Go.VI
namespace Go.VI
open Go.Proofs
set_option maxRecDepth 100000
abbrev T24 : List D_l8Turn := [((0, 1, 2, ()), (0, 0, 0, ()), ()), ((0, 1, 2, ()), (0, 1, 1, ()), ()), ((0, 1, 2, ()), (1, 0, 1, ()), ()), ((0, 1, 2, ()), (1, 1, 0, ()), ()), ((0, 2, 1, ()), (0, 0, 1, ()), ()), ((0, 2, 1, ()), (0, 1, 0, ()), ()), ((0, 2, 1, ()), (1, 0, 0, ()), ()), ((0, 2, 1, ()), (1, 1, 1, ()), ()), ((1, 0, 2, ()), (0, 0, 1, ()), ()), ((1, 0, 2, ()), (0, 1, 0, ()), ()), ((1, 0, 2, ()), (1, 0, 0, ()), ()), ((1, 0, 2, ()), (1, 1, 1, ()), ()), ((1, 2, 0, ()), (0, 0, 0, ()), ()), ((1, 2, 0, ()), (0, 1, 1, ()), ()), ((1, 2, 0, ()), (1, 0, 1, ()), ()), ((1, 2, 0, ()), (1, 1, 0, ()), ()), ((2, 0, 1, ()), (0, 0, 0, ()), ()), ((2, 0, 1, ()), (0, 1, 1, ()), ()), ((2, 0, 1, ()), (1, 0, 1, ()), ()), ((2, 0, 1, ()), (1, 1, 0, ()), ()), ((2, 1, 0, ()), (0, 0, 1, ()), ()), ((2, 1, 0, ()), (0, 1, 0, ()), ()), ((2, 1, 0, ()), (1, 0, 0, ()), ()), ((2, 1, 0, ()), (1, 1, 1, ()), ())]
theorem turns24 : P_impl_turnings () = some (T24, ()) := v_impl_turnings () _ (by kernel_rfl)
theorem sturns24 : P_spec_l8Turns () = some (T24, ()) := v_spec_l8Turns () _ (by kernel_rfl)
def okTB (t : D_l8Turn) : Bool := (decide (t.1.1 = 0) || (decide (t.1.1 = 1) || decide (t.1.1 = 2))) && ((decide (t.1.2.1 = 0) || (decide (t.1.2.1 = 1) || decide (t.1.2.1 = 2))) && (decide (t.1.2.2.1 = 0) || (decide (t.1.2.2.1 = 1) || decide (t.1.2.2.1 = 2))))
theorem ok24 : ∀ t ∈ T24, OkT t := by
  have h : T24.all okTB = true := by kernel_rfl
  rw [List.all_eq_true] at h
  intro t ht
  have := h t ht
  simpa [okTB, OkT] using this
abbrev dT : D_l8Turn := ((0, 0, 0, ()), (0, 0, 0, ()), ())
noncomputable def tAt (i : Nat) : D_l8Turn := T24.getD i dT
theorem tAt_mem {i : Nat} (h : i < 24) : tAt i ∈ T24 := by
  unfold tAt
  rw [List.getD_eq_getElem?_getD, List.getElem?_eq_getElem (by exact h)]
  exact List.getElem_mem _
theorem tAt_is {i : Nat} {t : D_l8Turn} (h : T24[i]? = some t) : tAt i = t := by unfold tAt; rw [List.getD_eq_getElem?_getD, h]; rfl
theorem tl_id (c : D_A3) : tl (tAt 0) c = c := rfl
open Classical in
noncomputable def nrmV (l : List D_A3) : D_Heap := if h : ∃ k, Nrm l k then Classical.choose h else (0, 0, 0, [], ())
theorem nrmV_is {l : List D_A3} {k : D_Heap} (h : Nrm l k) : nrmV l = k := by
  have he : ∃ k, Nrm l k := ⟨k, h⟩
  unfold nrmV
  rw [dif_pos he]
  exact (Classical.choose_spec he).uniq h
theorem nrmV_congr {l l' : List D_A3} (h : ∀ k, Nrm l k ↔ Nrm l' k) : nrmV l = nrmV l' := by
  by_cases he : ∃ k, Nrm l k
  · obtain ⟨k, hk⟩ := he
    rw [nrmV_is hk, nrmV_is ((h k).1 hk)]
  · have he' : ¬ ∃ k, Nrm l' k := fun ⟨k, hk⟩ => he ⟨k, (h k).2 hk⟩
    unfold nrmV
    rw [dif_neg he, dif_neg he']
noncomputable def posV (t : D_l8Turn) (l : List D_A3) : D_Heap := nrmV (l.map (tl t))
noncomputable def frmV (l : List D_A3) : D_Heap := formOf 24 (fun i => posV (tAt i) l) cmpH
theorem posV_set {l l' : List D_A3} (e : ∀ c, c ∈ l ↔ c ∈ l') (t : D_l8Turn) : posV t l = posV t l' := by
  have e' : ∀ c, c ∈ l.map (tl t) ↔ c ∈ l'.map (tl t) := fun c => by
    simp only [List.mem_map]
    exact ⟨fun ⟨d, h1, h2⟩ => ⟨d, (e d).1 h1, h2⟩, fun ⟨d, h1, h2⟩ => ⟨d, (e d).2 h1, h2⟩⟩
  exact nrmV_congr fun k => ⟨fun h => h.set e', fun h => h.set fun c => (e' c).symm⟩
theorem nrm_add_iff {l : List D_A3} {v : D_A3} {k : D_Heap} : Nrm (l.map fun c => addC c v) k ↔ Nrm l k := by
  constructor
  · intro h
    refine (h.add (negC v)).set fun c => ?_
    simp only [List.map_map, List.mem_map, Function.comp]
    constructor
    · rintro ⟨d, h1, rfl⟩; rw [addC_negC]; exact h1
    · intro h1; exact ⟨c, h1, addC_negC ..⟩
  · intro h; exact h.add v
theorem posV_add {l : List D_A3} (v : D_A3) (t : D_l8Turn) : posV t (l.map fun c => addC c v) = posV t l := by
  refine nrmV_congr fun k => ?_
  rw [List.map_map, show (tl t ∘ fun c => addC c v) = (fun c => addC c (tl t v)) ∘ tl t from funext fun c => tl_add t c v, ← List.map_map]
  exact nrm_add_iff
theorem frmV_set {l l' : List D_A3} (e : ∀ c, c ∈ l ↔ c ∈ l') : frmV l = frmV l' := by
  unfold frmV
  rw [show (fun i => posV (tAt i) l) = fun i => posV (tAt i) l' from funext fun i => posV_set e _]
theorem frmV_add {l : List D_A3} (v : D_A3) : frmV (l.map fun c => addC c v) = frmV l := by
  unfold frmV
  rw [show (fun i => posV (tAt i) (l.map fun c => addC c v)) = fun i => posV (tAt i) l from funext fun i => posV_add v _]
theorem frmV_nrm {l : List D_A3} {k : D_Heap} (h : Nrm l k) : frmV k.2.2.2.1 = frmV l := by
  obtain ⟨v, hv⟩ := h.moved
  rw [← frmV_add (l := k.2.2.2.1) v]
  refine frmV_set fun c => ?_
  rw [List.mem_map]
  constructor
  · rintro ⟨d, hd, rfl⟩; exact (hv d).1 hd
  · intro hc
    exact ⟨addC c (negC v), (hv _).2 (by rw [addC_negC']; exact hc), addC_negC' ..⟩
structure GoodH (X Y Z : Int) (l : List D_A3) : Prop where
  sides : sides X Y Z = true
  ins : Ins X Y Z l
  srt : Srt l
  ne : l ≠ []
theorem GoodH.small {X Y Z : Int} {l : List D_A3} (h : GoodH X Y Z l) : Small l := by have := srt_small64 h.sides h.ins h.srt; unfold Small; omega
theorem GoodH.tame {X Y Z : Int} {l : List D_A3} (h : GoodH X Y Z l) : TameL l := fun c hc => by
  have := sides_iff.1 h.sides
  have := within3_iff.1 (h.ins c hc)
  omega
theorem tl_close {l : List D_A3} (h : Close l) {t : D_l8Turn} (_ : OkT t) : Close (l.map (tl t)) := fun c hc d hd => by
  obtain ⟨a, ha, rfl⟩ := List.mem_map.1 hc
  obtain ⟨b, hb, rfl⟩ := List.mem_map.1 hd
  have h1 := h a ha b hb
  have h2 := h b hb a ha
  have key : ∀ f, get3 a f - get3 b f ≤ 3 ∧ get3 b f - get3 a f ≤ 3 := fun f => by
    unfold get3
    cases decide (f = 0) <;> cases decide (f = 1) <;> simp <;> omega
  have k0 := key t.1.1; have k1 := key t.1.2.1; have k2 := key t.1.2.2.1
  unfold tl
  refine ⟨?_, ?_, ?_⟩
  · simp only; cases decide (t.2.1.1 = 1) <;> simp <;> omega
  · simp only; cases decide (t.2.1.2.1 = 1) <;> simp <;> omega
  · simp only; cases decide (t.2.1.2.2.1 = 1) <;> simp <;> omega
theorem nrm_small {l : List D_A3} (hc : Close l) {k : D_Heap} (h : Nrm l k) : Small k.2.2.2.1 := by
  obtain ⟨lo, hi, a⟩ := h
  obtain ⟨h1, h2⟩ := a.ok hc
  have := srt_small64 h1 h2 a.srt
  unfold Small; omega
theorem posV_small {X Y Z : Int} {l : List D_A3} (g : GoodH X Y Z l) {t : D_l8Turn} (ht : OkT t) : Small (posV t l).2.2.2.1 := by
  obtain ⟨h', k, _, _, hk⟩ := f_pos ht g.sides g.ins g.small g.ne
  unfold posV
  rw [nrmV_is hk]
  exact nrm_small (tl_close (ins_close g.sides g.ins) ht) hk
noncomputable def gfV (t : D_l8Turn) (h : D_Heap) : D_Heap := match P_turning_of (t, h, ()) with
  | some r => r.1
  | none => (0, 0, 0, [], ())
theorem pos_facts {X Y Z : Int} {l : List D_A3} (g : GoodH X Y Z l) {t : D_l8Turn} (ht : OkT t) : P_turning_of (t, (X, Y, Z, l, ()), ()) = some (gfV t (X, Y, Z, l, ()), ()) ∧ P_impl_CropHeap (gfV t (X, Y, Z, l, ()), ()) = some (posV t l, true, ()) := by
  obtain ⟨h', k, e1, e2, hk⟩ := f_pos ht g.sides g.ins g.small g.ne
  have e : gfV t (X, Y, Z, l, ()) = h' := by unfold gfV; rw [e1]
  unfold posV
  rw [e, nrmV_is hk]
  exact ⟨e1, e2⟩
theorem form_facts {X Y Z : Int} {l : List D_A3} (g : GoodH X Y Z l) : FormOK (X, Y, Z, l, ()) T24 (fun i => gfV (tAt i) (X, Y, Z, l, ())) (fun i => posV (tAt i) l) (fun _ => true) cmpH := by
  refine ⟨turns24, by decide, by decide, fun i t ht => ?_, fun i j hi hj => ?_⟩
  · have hm := List.mem_of_getElem? ht
    simp only [tAt_is ht]
    exact pos_facts g (ok24 t hm)
  · exact f_cmpH (posV_small g (ok24 _ (tAt_mem hi))) (posV_small g (ok24 _ (tAt_mem hj)))
noncomputable def minT (l : List D_A3) (T : List D_l8Turn) (b : D_Heap) : D_Heap := T.foldl (fun m t => if lessH (posV t l) m = true then posV t l else m) b
theorem l_first {X Y Z : Int} {l : List D_A3} (g : GoodH X Y Z l) {T : List D_l8Turn} (hT : ∀ t ∈ T, OkT t) (hl : T.length ≤ 1000) : ∀ (d k m : Nat) (b : D_Heap), T.length = k + d → d < m → Small b.2.2.2.1 →
 l_spec_l8First_3 m X Y Z l 0 0 0 [] b.1 b.2.1 b.2.2.1 b.2.2.2.1 T (k : Int) = some (minT l (T.drop k) b, ())
  | d, k, 0, b, _, h, _ => by omega
  | d, k, m + 1, b, hk, hm, hb => by
    rw [q_spec_l8First_3]
    by_cases hlt : k < T.length
    · have ht := hT _ (List.getElem_mem hlt)
      obtain ⟨h', p, e1, e2, hp⟩ := f_spos ht g.sides g.ins g.small g.ne
      have ep : posV T[k] l = p := nrmV_is hp
      rw [ltT hlt, inB_at hlt, nthA (t := T_l8Turn) hlt, drop_at T k hlt]
      simp only [cond_true]
      rw [e1]
      simp only [Option.bind_some]
      rw [e2]
      simp only [Option.bind_some]
      have hps : Small p.2.2.2.1 := nrm_small (tl_close (ins_close g.sides g.ins) ht) hp
      have hle : P_spec_l8Less (p, (b.1, (b.2.1, (b.2.2.1, (b.2.2.2.1, ())))), ()) = some (lessH p b, ()) := f_less hps hb
      rw [hle, succI k (by omega)]
      simp only [Option.bind_some]
      unfold minT
      rw [List.foldl_cons, ep]
      cases hlt' : lessH p b with
      | true =>
        rw [if_pos rfl]
        exact l_first g hT hl (d - 1) (k + 1) m p (by omega) (by omega) hps
      | false =>
        rw [if_neg (by simp)]
        exact l_first g hT hl (d - 1) (k + 1) m b (by omega) (by omega) hb
    · rw [ltF hlt, List.drop_eq_nil_of_le (by omega)]
      rfl
theorem minC_T : ∀ (T : List D_l8Turn) (l : List D_A3) (b : D_Heap), minC cmpH (T.map fun t => posV t l) b = minT l T b
  | [], _, _ => rfl
  | t :: T, l, b => by
    show minC cmpH (T.map fun t => posV t l) (if cmpH (posV t l) b < 0 then posV t l else b) = minT l T (if lessH (posV t l) b = true then posV t l else b)
    rw [minC_T T l]
    congr 1
    by_cases h : lessH (posV t l) b = true
    · rw [if_pos (cmpH_neg.2 h), if_pos h]
    · rw [if_neg (fun e => h (cmpH_neg.1 e)), if_neg h]
theorem range_T : (List.range 24).map tAt = T24 := by
  apply List.ext_getElem?
  intro i
  rw [List.getElem?_map]
  by_cases h : i < 24
  · rw [List.getElem?_range h]
    have : T24[i]? = some T24[i] := List.getElem?_eq_getElem (by exact h)
    rw [this, Option.map_some, tAt_is this]
  · rw [List.getElem?_eq_none (by simpa using h), List.getElem?_eq_none (by exact Nat.le_of_not_lt h)]
    rfl
theorem frmV_T (l : List D_A3) : frmV l = minT l (T24.drop 1) (posV (tAt 0) l) := by
  unfold frmV formOf
  rw [show (List.range 24).map (fun i => posV (tAt i) l) = ((List.range 24).map tAt).map fun t => posV t l by rw [List.map_map]; rfl, range_T, ← List.map_drop, minC_T]
theorem f_first {X Y Z : Int} {l : List D_A3} (g : GoodH X Y Z l) : P_spec_l8First ((X, Y, Z, l, ()), ()) = some (frmV l, ()) := by
  obtain ⟨k, e1, hk⟩ := f_scrop (X := X) (Y := Y) (Z := Z) g.small g.srt g.tame g.ne
  rw [p_spec_l8First, e1]
  simp only [Option.bind_some]
  rw [sturns24]
  simp only [Option.bind_some]
  have hks := nrm_small (ins_close g.sides g.ins) hk
  have := l_first g ok24 (by decide) T24.length 0 N k (by omega) (by have := N_ge; have : T24.length = 24 := rfl; omega) hks
  rw [show ((0 : Nat) : Int) = 0 from rfl, List.drop_zero] at this
  rw [this, frmV_T]
  have e0 : posV (tAt 0) l = k := by
    unfold posV
    rw [show l.map (tl (tAt 0)) = l from (List.map_congr_left fun c _ => tl_id c).trans (List.map_id l)]
    exact nrmV_is hk
  rw [e0]
  have eT : T24 = tAt 0 :: T24.drop 1 := rfl
  congr 2
  show minT l T24 k = minT l (T24.drop 1) k
  conv => lhs; rw [eT]
  unfold minT
  rw [List.foldl_cons, e0, lessH_irr]
  rfl
end Go.VI
namespace Go.VI
open Go.Proofs
end Go.VI
namespace Go.VI
open Go.Proofs
def ab (x y : Int) : Int := if x - y > y - x then x - y else y - x
theorem most_ab (x y : Int) : P_spec_l1Most (x - y, y - x, ()) = some (ab x y, ()) := by
  rw [p_spec_l1Most]
  unfold ab
  by_cases h : x - y > y - x <;> simp [h]
theorem f_apart (a b : D_A3) (ha : Near a) (hb : Near b) : P_spec_l2Apart (a, b, ()) = some (ab a.1 b.1 + ab a.2.1 b.2.1 + ab a.2.2.1 b.2.2.1, ()) := by
  obtain ⟨n, hn⟩ : ∃ n, N = n + 4 := ⟨N - 4, by have := N_ge; omega⟩
  unfold Near at ha hb
  have bd : ∀ x y : Int, -1000 ≤ x → x ≤ 1000 → -1000 ≤ y → y ≤ 1000 → 0 ≤ ab x y ∧ ab x y ≤ 2000 := fun x y h1 h2 h3 h4 => by unfold ab; split <;> omega
  obtain ⟨x0, x1⟩ := bd a.1 b.1 (by omega) (by omega) (by omega) (by omega)
  obtain ⟨y0, y1⟩ := bd a.2.1 b.2.1 (by omega) (by omega) (by omega) (by omega)
  obtain ⟨z0, z1⟩ := bd a.2.2.1 b.2.2.1 (by omega) (by omega) (by omega) (by omega)
  have wr : ∀ x y : Int, -1000 ≤ x → x ≤ 1000 → -1000 ≤ y → y ≤ 1000 → IntKind.wrap .i64 (x - y) = x - y := fun x y h1 h2 h3 h4 => w64 (by omega) (by omega)
  have s : ∀ (m : Nat) (v x y : Int) (k : Nat), k < 3 → (bif decide ((k : Int) = (0 : Int)) then a.1 else (bif decide ((k : Int) = (1 : Int)) then a.2.1 else a.2.2.1)) = x → (bif decide ((k : Int) = (0 : Int)) then b.1 else (bif decide ((k : Int) = (1 : Int)) then b.2.1 else b.2.2.1)) = y → -1000 ≤ x → x ≤ 1000 → -1000 ≤ y → y ≤ 1000 → 0 ≤ v → v ≤ 100000 →
      l_spec_l2Apart_3 (m + 1) a.1 a.2.1 a.2.2.1 b.1 b.2.1 b.2.2.1 v (k : Int) = l_spec_l2Apart_3 m a.1 a.2.1 a.2.2.1 b.1 b.2.1 b.2.2.1 (v + ab x y) ((k + 1 : Nat) : Int) := by
    intro m v x y k hk hx hy h1 h2 h3 h4 h5 h6
    obtain ⟨b0, b1⟩ := bd x y h1 h2 h3 h4
    rw [q_spec_l2Apart_3, decide_eq_true (p := (k : Int) < 3) (by omega), inB_at (k := k) (n := 3) hk, hx, hy, wr x y h1 h2 h3 h4, wr y x h3 h4 h1 h2, most_ab, succI k (by omega)]
    simp only [cond_true, Option.bind_some]
    rw [w64 (by omega) (by omega)]
  have fin : ∀ (m : Nat) (v : Int), l_spec_l2Apart_3 (m + 1) a.1 a.2.1 a.2.2.1 b.1 b.2.1 b.2.2.1 v ((3 : Nat) : Int) = some (v, ()) := by
    intro m v; rw [q_spec_l2Apart_3]; rfl
  rw [p_spec_l2Apart]
  show l_spec_l2Apart_3 N a.1 a.2.1 a.2.2.1 b.1 b.2.1 b.2.2.1 0 ((0 : Nat) : Int) = _
  rw [hn, s (n + 3) 0 a.1 b.1 0 (by omega) rfl rfl (by omega) (by omega) (by omega) (by omega) (by omega) (by omega), s (n + 2) _ a.2.1 b.2.1 1 (by omega) rfl rfl (by omega) (by omega) (by omega) (by omega) (by omega) (by omega), s (n + 1) _ a.2.2.1 b.2.2.1 2 (by omega) rfl rfl (by omega) (by omega) (by omega) (by omega) (by omega) (by omega), fin]
  congr 2
  omega
theorem apart_nb (a c : D_A3) : ab a.1 c.1 + ab a.2.1 c.2.1 + ab a.2.2.1 c.2.2.1 = 1 ↔ nb c a := by
  rw [nb_iff]
  unfold ab
  constructor
  · intro h
    split at h <;> split at h <;> split at h <;> omega
  · intro h
    split <;> split <;> split <;> omega
theorem l_near {X Y Z : Int} {l : List D_A3} (hl : l.length ≤ 1000000) (hn : ∀ c ∈ l, Near c) {c : D_A3} (hc : Near c) (p : D_A3 → Bool) (hp : ∀ x, p x = true ↔ nb c x) : ∀ (d i m : Nat) (out : List D_A3), l.length = i + d → d < m → out.length ≤ i →
 l_spec_l2Near_3 m X Y Z l c.1 c.2.1 c.2.2.1 out (i : Int) = some (out ++ (l.drop i).filter p, ())
  | d, i, 0, out, _, h, _ => by omega
  | d, i, m + 1, out, hk, hm, ho => by
    rw [q_spec_l2Near_3]
    by_cases hlt : i < l.length
    · have e := f_apart l[i] c (hn _ (List.getElem_mem hlt)) hc
      have e' : P_spec_l2Apart (l[i], (c.1, (c.2.1, (c.2.2.1, ()))), ()) = _ := e
      rw [ltT hlt, inB_at hlt, nthA (t := T_A3) hlt, e', app_len' (by omega), drop_at l i hlt, succI i (by omega)]
      simp only [cond_true, Option.bind_some, List.filter_cons]
      by_cases h : nb c l[i]
      · rw [decide_eq_true ((apart_nb l[i] c).2 h), (hp _).2 h]
        simp only [cond_true, if_true]
        rw [l_near hl hn hc p hp (d - 1) (i + 1) m _ (by omega) (by omega) (by simp; omega)]
        simp
      · have hpf : p l[i] = false := by
          cases hb : p l[i] with
          | false => rfl
          | true => exact absurd ((hp _).1 hb) h
        rw [decide_eq_false (fun hh => h ((apart_nb l[i] c).1 hh)), hpf]
        simp only [cond_false, Bool.false_eq_true, if_false]
        exact l_near hl hn hc p hp (d - 1) (i + 1) m out (by omega) (by omega) (by omega)
    · rw [ltF hlt, List.drop_eq_nil_of_le (by omega)]
      simp
open Classical in
noncomputable def nbB (c x : D_A3) : Bool := decide (nb c x)
open Classical in
theorem nbB_iff (c x : D_A3) : nbB c x = true ↔ nb c x := by simp [nbB]
theorem f_nearL {X Y Z : Int} {l : List D_A3} (hl : l.length ≤ 1000000) (hn : ∀ c ∈ l, Near c) {c : D_A3} (hc : Near c) : P_spec_l2Near ((X, Y, Z, l, ()), c, ()) = some (l.filter (nbB c), ()) := by
  have := l_near (X := X) (Y := Y) (Z := Z) hl hn hc (nbB c) (nbB_iff c) l.length 0 N [] (by simp) (by have := N_ge; omega) (by simp)
  rw [p_spec_l2Near]
  exact this
def Conn (l : List D_A3) (c0 : D_A3) : D_A3 → Prop := Rch (fun c => c = c0) (fun c => c ∈ l)
theorem Conn.mem {l : List D_A3} {c0 c : D_A3} (h0 : c0 ∈ l) (h : Conn l c0 c) : c ∈ l := by
  cases h with
  | base h => rw [h]; exact h0
  | step _ _ h => exact h
theorem Conn.trans {l : List D_A3} {a b c : D_A3} (h : Conn l a b) (k : Conn l b c) : Conn l a c :=
  Rch.mono (p := fun x => x = b) (fun x hx => by rw [hx]; exact h) (fun _ h => h) k
theorem Conn.symm {l : List D_A3} {a b : D_A3} (ha : a ∈ l) (h : Conn l a b) : Conn l b a := by
  induction h with
  | base h => exact .base h.symm
  | step hr hn hd ih =>
    rename_i c d
    have hc : c ∈ l := Conn.mem ha hr
    exact Conn.trans (.step (.base rfl) (nb_symm hn) hc) ih
structure Part (l L0 : List D_A3) (c0 : D_A3) (n np : Nat) (ls lf pt : List D_A3) : Prop where
  srt : Srt lf
  sub : ∀ c ∈ lf, c ∈ L0
  lsub : ∀ c ∈ ls, c ∈ L0
  all : ∀ c ∈ L0, c ∈ ls ∨ c ∈ lf
  apart : ∀ c ∈ ls, c ∉ lf
  conn : ∀ c ∈ ls, Conn l c0 c
  done : ∀ i, i < n → ∀ c, ls[i]? = some c → ∀ d, nb c d → d ∉ lf
  psrt : Srt pt
  pmem : ∀ c, c ∈ pt ↔ c ∈ ls.take np
  nodup : ls.Nodup
  start : c0 ∈ ls
theorem Part.len {l L0 : List D_A3} {c0 : D_A3} {n np : Nat} {ls lf pt : List D_A3} (h : Part l L0 c0 n np ls lf pt) (hr : Srt L0) : ls.length + lf.length = L0.length := by
  have hp : L0.Perm (ls ++ lf) := by
    refine (List.perm_ext_iff_of_nodup hr.nodup ?_).2 fun c => ?_
    · rw [List.nodup_append]
      exact ⟨h.nodup, h.srt.nodup, fun a ha b hb e => h.apart a ha (e ▸ hb)⟩
    · rw [List.mem_append]
      exact ⟨h.all c, fun hc => hc.elim (h.lsub c) (h.sub c)⟩
  rw [hp.length_eq, List.length_append]
theorem Part.take {l L0 : List D_A3} {c0 : D_A3} {n np : Nat} {ls lf pt : List D_A3} (hl : ∀ c ∈ L0, c ∈ l) (h : Part l L0 c0 n np ls lf pt) {c x : D_A3} (hcl : c ∈ ls) (hx : x ∈ lf) (hn : nb c x) (hnp : np ≤ ls.length) (hpt : n ≤ ls.length) :
 Part l L0 c0 n np (ls ++ [x]) (lf.filter fun y => !decide (y = x)) pt := by
  have hxl : x ∉ ls := fun hh => h.apart x hh hx
  refine ⟨h.srt.filter _, fun y hy => h.sub y (List.mem_filter.1 hy).1, fun y hy => ?_, fun y hy => ?_, fun y hy => ?_, fun y hy => ?_, fun i hi y hy d hd => ?_, h.psrt, fun y => ?_, ?_, List.mem_append_left _ h.start⟩
  · rcases List.mem_append.1 hy with hy | hy
    · exact h.lsub y hy
    · rw [List.mem_singleton.1 hy]; exact h.sub x hx
  · rcases h.all y hy with hy | hy
    · exact .inl (List.mem_append_left _ hy)
    · by_cases e : y = x
      · exact .inl (by rw [e]; simp)
      · exact .inr (List.mem_filter.2 ⟨hy, by simp [e]⟩)
  · intro hh
    have hh' := List.mem_filter.1 hh
    rcases List.mem_append.1 hy with hy | hy
    · exact h.apart y hy hh'.1
    · rw [List.mem_singleton.1 hy] at hh'
      simp at hh'
  · rcases List.mem_append.1 hy with hy | hy
    · exact h.conn y hy
    · rw [List.mem_singleton.1 hy]
      exact .step (h.conn c hcl) hn (hl x (h.sub x hx))
  · rw [List.getElem?_append_left (by omega)] at hy
    exact fun hh => h.done i hi y hy d hd (List.mem_filter.1 hh).1
  · rw [h.pmem, List.take_append_of_le_length (by omega)]
  · rw [List.nodup_append]
    exact ⟨h.nodup, (by simp), fun a ha b hb e => hxl (by rw [← List.mem_singleton.1 hb, ← e]; exact ha)⟩
end Go.VI
namespace Go.VI
open Go.Proofs
def same (cuts : List D_A2) (a b : D_A3) : Bool := cuts.all fun t => decide (get3 a t.1 < t.2.1) == decide (get3 b t.1 < t.2.1)
theorem same_iff {cuts : List D_A2} {a b : D_A3} : same cuts a b = true ↔ ∀ t ∈ cuts, (get3 a t.1 < t.2.1 ↔ get3 b t.1 < t.2.1) := by
  unfold same
  rw [List.all_eq_true]
  constructor
  · intro h t ht
    have := h t ht
    rw [beq_iff_eq, decide_eq_decide] at this
    exact this
  · intro h t ht
    rw [beq_iff_eq, decide_eq_decide]
    exact h t ht
theorem same_refl (cuts : List D_A2) (a : D_A3) : same cuts a a = true := same_iff.2 fun _ _ => Iff.rfl
theorem same_trans {cuts : List D_A2} {a b c : D_A3} (h : same cuts a b = true) (k : same cuts b c = true) : same cuts a c = true := same_iff.2 fun t ht => (same_iff.1 h t ht).trans (same_iff.1 k t ht)
def ConnS (cuts : List D_A2) (l : List D_A3) (c0 : D_A3) : D_A3 → Prop := Rch (fun c => c = c0) (fun c => c ∈ l ∧ same cuts c0 c = true)
theorem ConnS.mem {cuts : List D_A2} {l : List D_A3} {c0 c : D_A3} (h0 : c0 ∈ l) (h : ConnS cuts l c0 c) : c ∈ l := by
  cases h with
  | base h => rw [h]; exact h0
  | step _ _ h => exact h.1
theorem ConnS.same {cuts : List D_A2} {l : List D_A3} {c0 c : D_A3} (h : ConnS cuts l c0 c) : same cuts c0 c = true := by
  cases h with
  | base h => rw [h]; exact same_refl _ _
  | step _ _ h => exact h.2
theorem ConnS.conn {cuts : List D_A2} {l : List D_A3} {c0 c : D_A3} (h : ConnS cuts l c0 c) : Conn l c0 c := Rch.mono (fun _ hx => .base hx) (fun _ hx => hx.1) h
structure PartS (cuts : List D_A2) (l L0 : List D_A3) (c0 : D_A3) (n np : Nat) (ls lf pt : List D_A3) : Prop where
  srt : Srt lf
  sub : ∀ c ∈ lf, c ∈ L0
  lsub : ∀ c ∈ ls, c ∈ L0
  all : ∀ c ∈ L0, c ∈ ls ∨ c ∈ lf
  apart : ∀ c ∈ ls, c ∉ lf
  conn : ∀ c ∈ ls, ConnS cuts l c0 c
  done : ∀ i, i < n → ∀ c, ls[i]? = some c → ∀ d, nb c d → same cuts c d = true → d ∉ lf
  psrt : Srt pt
  pmem : ∀ c, c ∈ pt ↔ c ∈ ls.take np
  nodup : ls.Nodup
  start : c0 ∈ ls
theorem PartS.len {cuts : List D_A2} {l L0 : List D_A3} {c0 : D_A3} {n np : Nat} {ls lf pt : List D_A3} (h : PartS cuts l L0 c0 n np ls lf pt) (hr : Srt L0) : ls.length + lf.length = L0.length := by
  have hp : L0.Perm (ls ++ lf) := by
    refine (List.perm_ext_iff_of_nodup hr.nodup ?_).2 fun c => ?_
    · rw [List.nodup_append]
      exact ⟨h.nodup, h.srt.nodup, fun a ha b hb e => h.apart a ha (e ▸ hb)⟩
    · rw [List.mem_append]
      exact ⟨h.all c, fun hc => hc.elim (h.lsub c) (h.sub c)⟩
  rw [hp.length_eq, List.length_append]
theorem PartS.take {cuts : List D_A2} {l L0 : List D_A3} {c0 : D_A3} {n np : Nat} {ls lf pt : List D_A3} (hl : ∀ c ∈ L0, c ∈ l) (h : PartS cuts l L0 c0 n np ls lf pt) {c x : D_A3} (hcl : c ∈ ls) (hx : x ∈ lf) (hn : nb c x) (hsm : same cuts c x = true) (hnp : np ≤ ls.length) (hpt : n ≤ ls.length) :
 PartS cuts l L0 c0 n np (ls ++ [x]) (lf.filter fun y => !decide (y = x)) pt := by
  have hxl : x ∉ ls := fun hh => h.apart x hh hx
  refine ⟨h.srt.filter _, fun y hy => h.sub y (List.mem_filter.1 hy).1, fun y hy => ?_, fun y hy => ?_, fun y hy => ?_, fun y hy => ?_, fun i hi y hy d hd hs => ?_, h.psrt, fun y => ?_, ?_, List.mem_append_left _ h.start⟩
  · rcases List.mem_append.1 hy with hy | hy
    · exact h.lsub y hy
    · rw [List.mem_singleton.1 hy]; exact h.sub x hx
  · rcases h.all y hy with hy | hy
    · exact .inl (List.mem_append_left _ hy)
    · by_cases e : y = x
      · exact .inl (by rw [e]; simp)
      · exact .inr (List.mem_filter.2 ⟨hy, by simp [e]⟩)
  · intro hh
    have hh' := List.mem_filter.1 hh
    rcases List.mem_append.1 hy with hy | hy
    · exact h.apart y hy hh'.1
    · rw [List.mem_singleton.1 hy] at hh'
      simp at hh'
  · rcases List.mem_append.1 hy with hy | hy
    · exact h.conn y hy
    · rw [List.mem_singleton.1 hy]
      exact .step (h.conn c hcl) hn ⟨hl x (h.sub x hx), same_trans (h.conn c hcl).same hsm⟩
  · intro hh
    have hh' := List.mem_filter.1 hh
    rw [List.getElem?_append_left (by omega)] at hy
    exact h.done i hi y hy d hd hs hh'.1
  · rw [h.pmem, List.take_append_of_le_length hnp]
  · rw [List.nodup_append]
    exact ⟨h.nodup, by simp, fun a ha b hb e => hxl (by rw [← List.mem_singleton.1 hb, ← e]; exact ha)⟩
end Go.VI
namespace Go.VI
open Go.Proofs
theorem low_bit (v : BitVec 64) (i : Nat) (hi : i < 64) (h1 : v.getLsbD i = true) (h0 : ∀ j, j < i → v.getLsbD j = false) : intBits .and .u64 (v.toNat : Int) (IntKind.wrap .u64 (0 - (v.toNat : Int))) = ((BitVec.twoPow 64 i).toNat : Int) := by
  have hlt := v.isLt
  have hpos : 0 < v.toNat := by
    apply Nat.pos_of_ne_zero
    intro hz
    have : v.getLsbD i = false := by
      unfold BitVec.getLsbD
      rw [hz, Nat.zero_testBit]
    rw [this] at h1
    cases h1
  have hw : IntKind.wrap .u64 (0 - (v.toNat : Int)) = ((BitVec.ofNat 64 (2 ^ 64 - v.toNat)).toNat : Int) := by
    rw [wu64, BitVec.toNat_ofNat, Nat.mod_eq_of_lt (by omega)]
    omega
  rw [hw, and64]
  congr 2
  have hmod : v.toNat % 2 ^ i = 0 := by
    apply Nat.eq_of_testBit_eq
    intro j
    rw [Nat.testBit_mod_two_pow, Nat.zero_testBit]
    by_cases hj : j < i
    · have := h0 j hj
      unfold BitVec.getLsbD at this
      rw [this, Bool.and_false]
    · rw [decide_eq_false hj, Bool.false_and]
  have hodd : v.toNat / 2 ^ i % 2 = 1 := by
    have h := h1
    unfold BitVec.getLsbD at h
    rw [Nat.testBit_eq_decide_div_mod_eq] at h
    exact of_decide_eq_true h
  obtain ⟨q, hq⟩ : ∃ q, v.toNat / 2 ^ i = 2 * q + 1 := ⟨v.toNat / 2 ^ i / 2, by omega⟩
  have hv : v.toNat = 2 ^ i * (2 * q + 1) + 0 := by
    have := Nat.div_add_mod v.toNat (2 ^ i)
    rw [hmod, hq] at this
    exact this.symm
  have h2i : 0 < 2 ^ i := Nat.two_pow_pos i
  have hx : v.toNat - 1 = 2 ^ i * (2 * q) + (2 ^ i - 1) := by
    rw [hv, Nat.mul_add, Nat.mul_one]
    omega
  apply BitVec.eq_of_getLsbD_eq
  intro j hj
  rw [BitVec.getLsbD_and, BitVec.getLsbD_twoPow, BitVec.getLsbD_ofNat]
  have e1 : 2 ^ 64 - v.toNat = 2 ^ 64 - (v.toNat - 1 + 1) := by omega
  rw [e1, Nat.testBit_two_pow_sub_succ (by omega), hx, Nat.testBit_two_pow_mul_add _ (by omega)]
  by_cases c : j < i
  · rw [h0 j c, decide_eq_false (p := i = j) (by omega), Bool.false_and, Bool.and_false]
  · have hvb : v.getLsbD j = (2 * q + 1).testBit (j - i) := by
      unfold BitVec.getLsbD
      rw [hv, Nat.testBit_two_pow_mul_add _ h2i, if_neg c]
    rw [hvb, if_neg c, decide_eq_true hj]
    by_cases e : i = j
    · subst e
      simp
      exact hj
    · obtain ⟨k, hk⟩ : ∃ k, j - i = k + 1 := ⟨j - i - 1, by omega⟩
      rw [hk, Nat.testBit_succ, Nat.testBit_succ, decide_eq_false e, show (2 * q + 1) / 2 = q by omega, show 2 * q / 2 = q by omega]
      cases q.testBit k <;> simp
theorem setIs_one {X Y Z : Int} (hs : sides X Y Z = true) {c0 : D_A3} (hc : within3 X Y Z c0 = true) : SetIs X Y Z (BitVec.twoPow 64 (idx Y Z c0)) (fun c => decide (c = c0)) := by
  obtain ⟨_, h2, h3, _⟩ := idx_eq hs hc
  refine ⟨fun i hi => ?_, fun c hw => ?_⟩
  · rw [BitVec.getLsbD_twoPow, decide_eq_false (p := idx Y Z c0 = i) (by omega), Bool.and_false]
  · have h4 := (idx_eq hs hw).2.1
    rw [BitVec.getLsbD_twoPow]
    show _ = decide (c = c0)
    by_cases e : c = c0
    · rw [e, decide_eq_true (p := c0 = c0) rfl, decide_eq_true (p := idx Y Z c0 = idx Y Z c0) rfl, decide_eq_true (p := idx Y Z c0 < 64) (by omega)]
      rfl
    · rw [decide_eq_false e, decide_eq_false (p := idx Y Z c0 = idx Y Z c) (fun h => e (idx_inj hs hw hc h.symm)), Bool.and_false]
structure PiecesI (cuts : List D_A2) (l L0 : List D_A3) (ps : List (List D_A3)) : Prop where
  srt : Srt L0
  sub : ∀ c ∈ L0, c ∈ l
  closed : ∀ c ∈ L0, ∀ d ∈ l, nb c d → same cuts c d = true → d ∈ L0
  good : ∀ p ∈ ps, Srt p ∧ ∃ c0 ∈ l, ∀ c, c ∈ p ↔ ConnS cuts l c0 c
  cover : ∀ c ∈ l, c ∈ L0 ∨ ∃ p ∈ ps, c ∈ p
  tot : (ps.map List.length).sum + L0.length = l.length
end Go.VI
namespace Go.VI
open Go.Proofs
structure HeadsI (l L0 H : List D_A3) : Prop where
  srt : Srt L0
  sub : ∀ c ∈ L0, c ∈ l
  closed : ∀ c ∈ L0, ∀ d ∈ l, nb c d → d ∈ L0
  hmem : ∀ h ∈ H, h ∈ l
  nodup : H.Nodup
  apart : ∀ h ∈ H, ∀ h' ∈ H, Conn l h h' → h = h'
  left : ∀ h ∈ H, ∀ c ∈ L0, ¬ Conn l h c
theorem app_len8 {α : Type} {l : List α} {x : α} (h : l.length ≤ 100000000) : (decide ((l.length + ([x] : List α).length) * 8 ≤ 140737488355328) && decide (l.length + ([x] : List α).length ≤ 140737488355328)) = true := by
  rw [Bool.and_eq_true, decide_eq_true_eq, decide_eq_true_eq]
  simp only [List.length_singleton]
  omega
end Go.VI
namespace Go.VI
open Go.Proofs
theorem l_p11 {X Y Z : Int} {l L0 lf0 nr pt : List D_A3} {c0 c : D_A3} {n : Nat} (hs : sides X Y Z = true) (hl : ∀ x ∈ L0, x ∈ l) (hL : Srt L0) (h64 : L0.length ≤ 64) (hnr : nr.Nodup) (hc : ∀ x ∈ nr, nb c x) (hlen : nr.length ≤ 64) (ps : List (List D_A3)) (m0 m1 : Nat) :
 ∀ (d k m : Nat) (ls lf : List D_A3), nr.length = k + d → d < m → Part l L0 c0 n (n + 1) ls lf pt → ls[n]? = some c → (∀ x ∈ lf, x ∈ lf0) → (∀ x ∈ nr.take k, x ∉ lf) → (∀ x ∈ nr.drop k, x ∈ lf) →
 ∃ ls' lf', l_spec_l2Parts_11 m0 m1 m X Y Z l X Y Z lf X Y Z pt ps ls (n : Int) nr (k : Int) = l_spec_l2Parts_6 m0 m1 X Y Z l X Y Z lf' X Y Z pt ps ls' ((n + 1 : Nat) : Int) ∧ Part l L0 c0 n (n + 1) ls' lf' pt ∧ (∀ x ∈ lf', x ∈ lf0) ∧ (∀ x ∈ nr, x ∉ lf') ∧ ls'[n]? = some c
  | d, k, 0, ls, lf, _, h, _, _, _, _, _ => by omega
  | d, k, m + 1, ls, lf, hk, hm, hP, hn, h0, h1, h2 => by
    have hle := hP.len hL
    have hlt0 : n < ls.length := (List.getElem?_eq_some_iff.1 hn).1
    rw [q_spec_l2Parts_11]
    by_cases hlt : k < nr.length
    · rw [ltT hlt, inB_at hlt, nthA (t := T_A3) hlt, app_len' (by omega), succI k (by omega), f_without lf nr[k] (by omega)]
      simp only [cond_true, Option.bind_some]
      have hx : nr[k] ∈ lf := h2 _ (by rw [drop_at nr k hlt]; exact List.mem_cons_self ..)
      have hP' := hP.take hl (List.mem_of_getElem? hn) hx (hc _ (List.getElem_mem hlt)) (by omega) (by omega)
      refine l_p11 hs hl hL h64 hnr hc hlen ps m0 m1 (d - 1) (k + 1) m _ _ (by omega) (by omega) hP' (by rw [List.getElem?_append_left hlt0]; exact hn) (fun x hx => h0 x (List.mem_filter.1 hx).1) (fun x hx hh => ?_) (fun x hx => ?_)
      · rw [List.take_add_one, List.getElem?_eq_getElem hlt] at hx
        have hh' := List.mem_filter.1 hh
        rcases List.mem_append.1 hx with hx | hx
        · exact h1 x hx hh'.1
        · rw [show x = nr[k] by simpa using hx] at hh'
          simp at hh'
      · have hd : nr.drop k = nr[k] :: nr.drop (k + 1) := drop_at nr k hlt
        have hnd : (nr.drop k).Nodup := hnr.sublist (List.drop_sublist k nr)
        rw [hd] at hnd
        have hne : x ≠ nr[k] := fun e => (List.nodup_cons.1 hnd).1 (e ▸ hx)
        exact List.mem_filter.2 ⟨h2 x (by rw [hd]; exact List.mem_cons_of_mem _ hx), by simp [hne]⟩
    · rw [ltF hlt, succI n (by omega)]
      refine ⟨ls, lf, rfl, hP, h0, fun x hx => h1 x (by rw [List.take_of_length_le (by omega)]; exact hx), hn⟩
theorem l_p6 {X Y Z : Int} {l L0 : List D_A3} {c0 : D_A3} (hs : sides X Y Z = true) (hi : Ins X Y Z l) (hl : ∀ x ∈ L0, x ∈ l) (hL : Srt L0) (h64 : L0.length ≤ 64) (ps : List (List D_A3)) (hps : ps.length ≤ 1000) (m0 : Nat) :
 ∀ (d n m : Nat) (ls lf pt : List D_A3), L0.length = n + d → d < m → Part l L0 c0 n n ls lf pt → n ≤ ls.length →
 ∃ ls' lf' pt', l_spec_l2Parts_6 m0 m X Y Z l X Y Z lf X Y Z pt ps ls (n : Int) = l_spec_l2Parts_2 m0 X Y Z l X Y Z lf' (ps ++ [pt']) ∧ Part l L0 c0 ls'.length ls'.length ls' lf' pt'
  | d, n, 0, ls, lf, pt, _, h, _, _ => by omega
  | d, n, m + 1, ls, lf, pt, hk, hm, hP, hn => by
    have hle := hP.len hL
    rw [q_spec_l2Parts_6]
    by_cases hlt : n < ls.length
    · have hcm : ls[n] ∈ ls := List.getElem_mem hlt
      have hin : ∀ x ∈ L0, Near x := fun x hx => near_of hs (hi x (hl x hx))
      have hptl : pt.length ≤ 64 := srt_small64 hs (fun x hx => hi x (hl x (hP.lsub x (List.mem_of_mem_take ((hP.pmem x).1 hx))))) hP.psrt
      obtain ⟨pt', g1, g2, g3, g4⟩ := f_l2With (X := X) (Y := Y) (Z := Z) hP.psrt ls[n] (by omega)
      rw [ltT hlt, inB_at hlt, nthA (t := T_A3) hlt, g1, f_nearL (X := X) (Y := Y) (Z := Z) (l := lf) (by omega) (fun x hx => hin x (hP.sub x hx)) (hin _ (hP.lsub _ hcm))]
      simp only [cond_true, Option.bind_some]
      have hpm : ∀ x, x ∈ pt' ↔ x ∈ ls.take (n + 1) := fun x => by
        rw [g3, hP.pmem, List.take_add_one, List.getElem?_eq_getElem hlt, List.mem_append]
        simp only [Option.toList_some, List.mem_singleton]
        exact or_comm
      have hP1 : Part l L0 c0 n (n + 1) ls lf pt' := { hP with psrt := g2, pmem := hpm }
      have hnr : (lf.filter (nbB ls[n])).Nodup := (hP.srt.filter _).nodup
      obtain ⟨ls', lf', e1, e2, e3, e4, e5⟩ := l_p11 (lf0 := lf) (nr := lf.filter (nbB ls[n])) (c := ls[n]) hs hl hL h64 hnr (fun x hx => (nbB_iff _ _).1 (List.mem_filter.1 hx).2) (Nat.le_trans (List.length_filter_le _ _) (by omega)) ps m0 m (lf.filter (nbB ls[n])).length 0 N ls lf (by omega) (by have := List.length_filter_le (nbB ls[n]) lf; have := N_ge; omega) hP1 (List.getElem?_eq_getElem hlt) (fun x hx => hx) (by simp) (fun x hx => (List.mem_filter.1 (by simpa using hx)).1)
      have e1' : l_spec_l2Parts_11 m0 m N X Y Z l X Y Z lf X Y Z pt' ps ls (n : Int) (lf.filter (nbB ls[n])) 0 = _ := e1
      rw [e1']
      have hlt' : n < ls'.length := (List.getElem?_eq_some_iff.1 e5).1
      have hle' := e2.len hL
      refine l_p6 hs hi hl hL h64 ps hps m0 (d - 1) (n + 1) m ls' lf' pt' (by omega) (by omega) { e2 with done := fun i hii x hx y hy hh => ?_ } (by omega)
      by_cases e : i = n
      · subst e
        rw [e5] at hx
        have hx := Option.some.inj hx
        rw [← hx] at hy
        exact e4 y (List.mem_filter.2 ⟨e3 y hh, (nbB_iff _ _).2 hy⟩) hh
      · exact e2.done i (by omega) x hx y hy hh
    · have e : n = ls.length := by omega
      subst e
      rw [ltF hlt, app_len' (by omega)]
      exact ⟨ls, lf, pt, rfl, hP⟩
structure PartsI (X Y Z : Int) (l L0 : List D_A3) (ps : List (List D_A3)) : Prop where
  srt : Srt L0
  sub : ∀ c ∈ L0, c ∈ l
  closed : ∀ c ∈ L0, ∀ d ∈ l, nb c d → d ∈ L0
  good : ∀ p ∈ ps, Srt p ∧ Ins X Y Z p ∧ ∃ c0 ∈ l, ∀ c, c ∈ p ↔ Conn l c0 c
  cover : ∀ c ∈ l, c ∈ L0 ∨ ∃ p ∈ ps, c ∈ p
def Stand (l : List D_A3) : D_A3 → Prop := Rch (fun c => c ∈ l ∧ c.2.2.1 = 0) (fun c => c ∈ l)
theorem Stand.mem {l : List D_A3} {c : D_A3} (h : Stand l c) : c ∈ l := by
  cases h with
  | base h => exact h.1
  | step _ _ h => exact h
end Go.VI
namespace Go.VI
open Go.Proofs
inductive Pts (l : List D_A3) : List D_A3 → List (List D_A3) → Prop
  | nil : Pts l [] []
  | cons {c0 : D_A3} {L p lf : List D_A3} {ps : List (List D_A3)} (h1 : Srt p) (h2 : ∀ c, c ∈ p ↔ Conn l c0 c) (h3 : Srt lf) (h4 : ∀ c, c ∈ lf ↔ c ∈ c0 :: L ∧ ¬ Conn l c0 c) (h5 : Pts l lf ps) : Pts l (c0 :: L) (p :: ps)
theorem Pts.uniq {l : List D_A3} {L : List D_A3} {ps : List (List D_A3)} (h : Pts l L ps) : ∀ {ps' : List (List D_A3)}, Pts l L ps' → ps = ps' := by
  induction h with
  | nil => intro ps' h'; cases h'; rfl
  | cons h1 h2 h3 h4 h5 ih =>
    intro ps' h'
    cases h' with
    | cons k1 k2 k3 k4 k5 =>
      have e1 := srt_ext _ _ h1 k1 fun c => by rw [h2, k2]
      have e2 := srt_ext _ _ h3 k3 fun c => by rw [h4, k4]
      subst e1
      subst e2
      rw [ih k5]
theorem Pts.sum {l : List D_A3} {L : List D_A3} {ps : List (List D_A3)} (h : Pts l L ps) : Srt L → (∀ c ∈ L, c ∈ l) → (∀ c ∈ L, ∀ d ∈ l, nb c d → d ∈ L) → (ps.map List.length).sum = L.length := by
  induction h with
  | nil => intro _ _ _; rfl
  | cons h1 h2 h3 h4 h5 ih =>
    rename_i c0 L p lf ps
    intro hr hsub hcl
    have hpL : ∀ c, c ∈ p → c ∈ c0 :: L := fun c hc => by
      have hconn := (h2 c).1 hc
      exact Rch.of (r := fun c => c ∈ c0 :: L) (fun c hc => by rw [show c = c0 from hc]; exact List.mem_cons_self ..) (fun c d hc hn hd => hcl c hc d hd hn) hconn
    have e := ih h3 (fun c hc => hsub c ((h4 c).1 hc).1) (fun c hc d hd hn => by
      obtain ⟨a, b⟩ := (h4 c).1 hc
      exact (h4 d).2 ⟨hcl c a d hd hn, fun hcd => b (.step hcd (nb_symm hn) (hsub c a))⟩)
    have hp : (c0 :: L).Perm (p ++ lf) := by
      refine (List.perm_ext_iff_of_nodup hr.nodup ?_).2 fun c => ?_
      · rw [List.nodup_append]
        exact ⟨h1.nodup, h3.nodup, fun a ha b hb e => ((h4 b).1 hb).2 (e ▸ (h2 a).1 ha)⟩
      · rw [List.mem_append, h4, h2]
        constructor
        · intro hc
          by_cases hh : Conn l c0 c
          · exact .inl hh
          · exact .inr ⟨hc, hh⟩
        · rintro (hc | hc)
          · exact hpL c ((h2 c).2 hc)
          · exact hc.1
    rw [hp.length_eq, List.length_append, ← e]
    rfl
theorem Pts.good {l : List D_A3} {L : List D_A3} {ps : List (List D_A3)} (h : Pts l L ps) : (∀ c ∈ L, c ∈ l) → ∀ p ∈ ps, Srt p ∧ ∃ c0 ∈ l, ∀ c, c ∈ p ↔ Conn l c0 c := by
  induction h with
  | nil => intro _ p hp; cases hp
  | cons h1 h2 h3 h4 h5 ih =>
    rename_i c0 L p lf ps
    intro hsub q hq
    rcases List.mem_cons.1 hq with rfl | hq
    · exact ⟨h1, c0, hsub c0 (List.mem_cons_self ..), h2⟩
    · exact ih (fun c hc => hsub c ((h4 c).1 hc).1) q hq
theorem Pts.len {l : List D_A3} {L : List D_A3} {ps : List (List D_A3)} (h : Pts l L ps) : ∀ n, L.length ≤ n → Srt L → ps.length ≤ n := by
  induction h with
  | nil => intro n _ _; exact Nat.zero_le _
  | cons h1 h2 h3 h4 h5 ih =>
    rename_i c0 L p lf ps
    intro n hn hr
    have hlf : lf.length < (c0 :: L).length := by
      have hsub : ∀ c ∈ lf, c ∈ L := fun c hc => by
        obtain ⟨a, b⟩ := (h4 c).1 hc
        rcases List.mem_cons.1 a with rfl | a
        · exact absurd (.base rfl) b
        · exact a
      have e : lf = L.filter fun x => decide (x ∈ lf) := srt_ext _ _ h3 ((List.pairwise_cons.1 hr).2.filter _) fun c => by
        rw [List.mem_filter, decide_eq_true_eq]
        exact ⟨fun hc => ⟨hsub c hc, hc⟩, fun hc => hc.2⟩
      rw [e, List.length_cons]
      exact Nat.lt_succ_of_le (List.length_filter_le _ _)
    have := ih (n - 1) (by omega) h3
    rw [List.length_cons]
    omega
theorem l_p2x {X Y Z : Int} {l : List D_A3} (hs : sides X Y Z = true) (hi : Ins X Y Z l) : ∀ (d m : Nat) (L0 : List D_A3) (ps : List (List D_A3)), L0.length ≤ d → d < m → d ≤ 64 → ps.length + d ≤ 100 → Srt L0 → (∀ c ∈ L0, c ∈ l) → (∀ c ∈ L0, ∀ d ∈ l, nb c d → d ∈ L0) →
 ∃ qs, l_spec_l2Parts_2 m X Y Z l X Y Z L0 ps = some (ps ++ qs, ()) ∧ Pts l L0 qs
  | d, 0, L0, ps, _, h, _, _, _, _, _ => by omega
  | d, m + 1, [], ps, hd, hm, h64, hps, _, _, _ => by
    rw [q_spec_l2Parts_2]
    exact ⟨[], by rw [List.append_nil]; rfl, .nil⟩
  | d, m + 1, c0 :: L, ps, hd, hm, h64, hps, hsrt, hsub, hclosed => by
    rw [q_spec_l2Parts_2, decide_eq_true (by simp), p_spec_l2Empty]
    have n0 : nth T_A3 (c0 :: L) 0 = c0 := rfl
    have n1 : nth T_A3 ([nth T_A3 (c0 :: L) 0] : List D_A3) 0 = c0 := rfl
    have i0 : inB 0 (c0 :: L).length = true := by simp [inB]
    have i1 : inB 0 ([nth T_A3 (c0 :: L) 0] : List D_A3).length = true := rfl
    have hlen : (c0 :: L).length ≤ 64 := by omega
    simp only [cond_true, Option.bind_some]
    rw [i0, i1, n1, n0, f_without (c0 :: L) c0 (by omega)]
    simp only [cond_true, Option.bind_some]
    have hmemF : ∀ x, x ∈ (c0 :: L).filter (fun x => !decide (x = c0)) ↔ x ∈ (c0 :: L) ∧ x ≠ c0 := fun x => by rw [List.mem_filter]; simp
    have hP : Part l (c0 :: L) c0 0 0 [c0] ((c0 :: L).filter fun x => !decide (x = c0)) [] := {
      srt := hsrt.filter _
      sub := fun x hx => ((hmemF x).1 hx).1
      lsub := fun x hx => by rw [List.mem_singleton.1 hx]; exact List.mem_cons_self ..
      all := fun x hx => by
        by_cases e : x = c0
        · exact .inl (by rw [e]; simp)
        · exact .inr ((hmemF x).2 ⟨hx, e⟩)
      apart := fun x hx hh => ((hmemF x).1 hh).2 (List.mem_singleton.1 hx)
      conn := fun x hx => .base (List.mem_singleton.1 hx)
      done := fun i hii => by omega
      psrt := List.Pairwise.nil
      pmem := fun x => by simp
      nodup := by simp
      start := by simp }
    obtain ⟨ls', lf', pt', e1, e2⟩ := l_p6 hs hi hsub hsrt hlen ps (by omega) m (c0 :: L).length 0 N [c0] _ [] (by omega) (by have := N_ge; omega) hP (by omega)
    have e1' : l_spec_l2Parts_6 m N X Y Z l X Y Z ((c0 :: L).filter fun x => !decide (x = c0)) X Y Z [] ps [c0] 0 = _ := e1
    rw [e1']
    have hle := e2.len hsrt
    have hpos : 0 < ls'.length := List.length_pos_of_mem e2.start
    have hlsn : ∀ c ∈ ls', ∀ d, nb c d → d ∉ lf' := fun c hc d hd => by
      obtain ⟨i, hii, e⟩ := List.getElem_of_mem hc
      exact e2.done i hii c (by rw [List.getElem?_eq_getElem hii, e]) d hd
    have hls : ∀ c, c ∈ ls' ↔ Conn l c0 c := fun c => by
      refine ⟨e2.conn c, fun hc => Rch.of (r := fun c => c ∈ ls') (fun c hc => by rw [show c = c0 from hc]; exact e2.start) (fun c d hc hn hd => ?_) hc⟩
      rcases e2.all d (hclosed c (e2.lsub c hc) d hd hn) with h | h
      · exact h
      · exact absurd h (hlsn c hc d hn)
    have hcomp : ∀ c, c ∈ pt' ↔ Conn l c0 c := fun c => by rw [e2.pmem, List.take_length, hls]
    have hlf : ∀ c, c ∈ lf' ↔ c ∈ c0 :: L ∧ ¬ Conn l c0 c := fun c => by
      constructor
      · intro hc
        exact ⟨e2.sub c hc, fun hh => e2.apart c ((hls c).2 hh) hc⟩
      · rintro ⟨hc, hh⟩
        rcases e2.all c hc with h | h
        · exact absurd ((hls c).1 h) hh
        · exact h
    obtain ⟨qs, r1, r2⟩ := l_p2x hs hi (d - 1) m lf' (ps ++ [pt']) (by omega) (by omega) (by omega) (by simp; omega) e2.srt (fun c hc => hsub c (e2.sub c hc)) (fun c hc d hd hn => by
      rcases e2.all d (hclosed c (e2.sub c hc) d hd hn) with h | h
      · exact absurd hc (hlsn d h c (nb_symm hn))
      · exact h)
    exact ⟨pt' :: qs, by rw [r1, List.append_assoc]; rfl, .cons e2.psrt hcomp e2.srt hlf r2⟩
theorem f_partsx {X Y Z : Int} {l : List D_A3} (hs : sides X Y Z = true) (hi : Ins X Y Z l) (hr : Srt l) : ∃ ps, P_spec_l2Parts ((X, Y, Z, l, ()), ()) = some (ps, ()) ∧ Pts l l ps := by
  have h64 := srt_small64 hs hi hr
  obtain ⟨ps, h1, h2⟩ := l_p2x hs hi 64 N l [] h64 (by have := N_ge; omega) (by omega) (by simp) hr (fun c h => h) (fun _ _ d hd _ => hd)
  refine ⟨ps, ?_, h2⟩
  rw [p_spec_l2Parts, f_l2Own (by omega)]
  exact h1
theorem parts_walkx {X Y Z : Int} {l : List D_A3} (hs : sides X Y Z = true) (hi : Ins X Y Z l) : ∀ (d m : Nat) (L0 : List D_A3) (ws : List (BitVec 64)), L0.length ≤ d → d < m → d ≤ 64 → ws.length + d ≤ 100 → Srt L0 → (∀ c ∈ L0, c ∈ l) → (∀ c ∈ L0, ∀ d ∈ l, nb c d → d ∈ L0) →
 ∃ vs : List (BitVec 64), l_box_parts_2 m X Y Z ((mask Y Z L0 0).toNat : Int) (ws.map fun w => ((w.toNat : Nat) : Int)) = some ((ws ++ vs).map (fun w => ((w.toNat : Nat) : Int)), ()) ∧ vs.length ≤ d ∧ Pts l L0 (vs.map (bitCells X Y Z))
  | d, 0, L0, ws, _, h, _, _, _, _, _ => by omega
  | d, m + 1, [], ws, hd, hm, h64, hps, _, _, _ => by
    rw [q_box_parts_2]
    exact ⟨[], by rw [List.append_nil]; rfl, Nat.zero_le _, .nil⟩
  | d, m + 1, c0 :: L, ws, hd, hm, h64, hps, hsrt, hsub, hclosed => by
    have hin : Ins X Y Z (c0 :: L) := fun c hc => hi c (hsub c hc)
    have hw0 := hin c0 (List.mem_cons_self ..)
    obtain ⟨_, k2, k3, _⟩ := idx_eq hs hw0
    have hb1 : (mask Y Z (c0 :: L) 0).getLsbD (idx Y Z c0) = true := by
      rw [mask_mem hs hin hw0]; simp
    have hb0 : ∀ j, j < idx Y Z c0 → (mask Y Z (c0 :: L) 0).getLsbD j = false := by
      intro j hj
      rw [mask_bit]
      have : ((c0 :: L).any fun c => decide (idx Y Z c = j)) = false := by
        rw [List.any_eq_false]
        intro c hc
        have hge : idx Y Z c0 ≤ idx Y Z c := by
          rcases List.mem_cons.1 hc with rfl | hc'
          · exact Nat.le_refl _
          · exact Nat.le_of_lt ((idx_lt hs hw0 (hin c hc)).2 ((List.pairwise_cons.1 hsrt).1 c hc'))
        simp only [decide_eq_true_eq]
        omega
      rw [this]
      simp
    have hne : (mask Y Z (c0 :: L) 0).toNat ≠ 0 := by
      intro hz
      unfold BitVec.getLsbD at hb1
      rw [hz, Nat.zero_testBit] at hb1
      cases hb1
    have hlow := low_bit _ (idx Y Z c0) (by omega) hb1 hb0
    have hset := setIs_mask hs hin
    have hs1 := setIs_one hs hw0
    obtain ⟨w, w1, w2, w3⟩ := f_grown hs hs1.1 hset.1
    rw [q_box_parts_2, decide_eq_false (p := ((mask Y Z (c0 :: L) 0).toNat : Int) = 0) (by omega), hlow]
    simp only [Bool.not_false, cond_true]
    rw [w1]
    simp only [Option.bind_some]
    rw [app_len8 (by rw [List.length_map]; omega), andNot64]
    simp only [cond_true]
    have hreach : ∀ c, bitP X Y Z w c ↔ Conn l c0 c := by
      intro c
      rw [w3]
      constructor
      · intro h
        refine Rch.mono (fun x hx => .base ?_) (fun x hx => ?_) h
        · have := hx.2
          rw [hs1.2 x hx.1] at this
          exact of_decide_eq_true this
        · have := hx.2
          rw [hset.2 x hx.1, decide_eq_true_eq] at this
          exact hsub x this
      · intro h
        have key : c ∈ c0 :: L ∧ Rch (bitP X Y Z (BitVec.twoPow 64 (idx Y Z c0))) (bitP X Y Z (mask Y Z (c0 :: L) 0)) c := by
          refine Rch.of (r := fun c => c ∈ c0 :: L ∧ Rch (bitP X Y Z (BitVec.twoPow 64 (idx Y Z c0))) (bitP X Y Z (mask Y Z (c0 :: L) 0)) c) (fun x hx => ?_) (fun x d hx hn hd => ?_) h
          · have hx' : x = c0 := hx
            subst hx'
            exact ⟨List.mem_cons_self .., .base ⟨hw0, by rw [hs1.2 _ hw0]; simp⟩⟩
          · have hdm := hclosed x hx.1 d hd hn
            refine ⟨hdm, .step hx.2 hn ⟨hin d hdm, ?_⟩⟩
            rw [hset.2 d (hin d hdm)]
            exact decide_eq_true hdm
        exact key.2
    have hlf : ∃ lf, Srt lf ∧ ∀ c, c ∈ lf ↔ c ∈ c0 :: L ∧ ¬ Conn l c0 c := by
      refine ⟨bitCells X Y Z (mask Y Z (c0 :: L) 0 &&& ~~~w), srt_listOf hs _, fun c => ?_⟩
      rw [mem_listOf hs, ← hreach]
      constructor
      · rintro ⟨hc, hb⟩
        have h64 := (idx_eq hs hc).2.1
        have hsz := size64 hs
        rw [BitVec.getLsbD_and, hset.2 c hc, BitVec.getLsbD_not, decide_eq_true (p := idx Y Z c < 64) (by omega), Bool.true_and, Bool.and_eq_true, decide_eq_true_eq, Bool.not_eq_true'] at hb
        refine ⟨hb.1, fun hh => ?_⟩
        have := hh.2
        rw [hb.2] at this
        cases this
      · rintro ⟨hc, hb⟩
        have hw' := hin c hc
        have h64 := (idx_eq hs hw').2.1
        have hsz := size64 hs
        refine ⟨hw', ?_⟩
        rw [BitVec.getLsbD_and, hset.2 c hw', BitVec.getLsbD_not, decide_eq_true (p := idx Y Z c < 64) (by omega), Bool.true_and, Bool.and_eq_true, decide_eq_true_eq, Bool.not_eq_true', ← Bool.not_eq_true]
        exact ⟨hc, fun hh => hb ⟨hw', hh⟩⟩
    obtain ⟨lf, s1, s2⟩ := hlf
    have hlfin : Ins X Y Z lf := fun c hc => hin c ((s2 c).1 hc).1
    have hmask : mask Y Z (c0 :: L) 0 &&& ~~~w = mask Y Z lf 0 := by
      refine SetIs.ext hs (g := fun c => decide (c ∈ lf)) ⟨fun i hi => by rw [BitVec.getLsbD_and, hset.1 i hi, Bool.false_and], fun c hc => ?_⟩ (setIs_mask hs hlfin)
      have h64 := (idx_eq hs hc).2.1
      have hsz := size64 hs
      rw [BitVec.getLsbD_and, hset.2 c hc, BitVec.getLsbD_not, decide_eq_true (p := idx Y Z c < 64) (by omega), Bool.true_and, Bool.eq_iff_iff, Bool.and_eq_true, decide_eq_true_eq, decide_eq_true_eq, s2, Bool.not_eq_true', ← Bool.not_eq_true]
      have := hreach c
      constructor
      · rintro ⟨a, b⟩
        exact ⟨a, fun hh => b (this.2 hh).2⟩
      · rintro ⟨a, b⟩
        exact ⟨a, fun hh => b (this.1 ⟨hc, hh⟩)⟩
    have hlen : lf.length < (c0 :: L).length := by
      have hsub : ∀ c ∈ lf, c ∈ (c0 :: L).filter fun x => !decide (x = c0) := fun c hc => by
        rw [List.mem_filter, Bool.not_eq_true', decide_eq_false_iff_not]
        exact ⟨((s2 c).1 hc).1, fun e => ((s2 c).1 hc).2 (.base e)⟩
      have h1 : lf.length ≤ L.length := by
        have hc0 : c0 ∉ L := fun h => by
          have := (List.pairwise_cons.1 hsrt).1 c0 h
          rw [ltC_irrefl] at this
          cases this
        have hLsub : ∀ c ∈ lf, c ∈ L := fun c hc => by
          have := List.mem_filter.1 (hsub c hc)
          rcases List.mem_cons.1 this.1 with e | h
          · have h2 := this.2
            rw [e] at h2
            simp at h2
          · exact h
        have hsrtL : Srt L := (List.pairwise_cons.1 hsrt).2
        have e : lf = L.filter fun x => decide (x ∈ lf) := srt_ext _ _ s1 (hsrtL.filter _) fun c => by
          rw [List.mem_filter, decide_eq_true_eq]
          exact ⟨fun hc => ⟨hLsub c hc, hc⟩, fun hc => hc.2⟩
        rw [e]
        exact List.length_filter_le _ _
      rw [List.length_cons]
      omega
    rw [hmask]
    have hmap : (ws.map fun w => ((w.toNat : Nat) : Int)) ++ ([((w.toNat : Nat) : Int)] : List Int) = (ws ++ [w]).map fun w => ((w.toNat : Nat) : Int) := by simp
    rw [hmap]
    obtain ⟨vs, r1, r2, r3⟩ := parts_walkx hs hi (d - 1) m lf (ws ++ [w]) (by omega) (by omega) (by omega) (by simp; omega) s1 (fun c hc => hsub c ((s2 c).1 hc).1) (fun c hc d hd hn => by
      obtain ⟨hcL, hnc⟩ := (s2 c).1 hc
      exact (s2 d).2 ⟨hclosed c hcL d hd hn, fun hcd => hnc (.step hcd (nb_symm hn) (hsub c hcL))⟩)
    rw [List.length_cons] at hd
    exact ⟨w :: vs, by rw [r1, List.append_assoc]; rfl, by rw [List.length_cons]; omega, .cons (srt_listOf hs w) (fun c => by rw [mem_listOf hs]; exact hreach c) s1 s2 r3⟩
end Go.VI
