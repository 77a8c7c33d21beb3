/- Which forms are handed: a table. -/
import Derived.Test.YtlnfgikipeiaiaaEvLA
import Derived.Test.YtlnfgikipeiaiaaEvLC
import Derived.Test.YtlnfgikipeiaiaaEvH
import Derived.Test.YtlnfgikipeiaiaaEvLe
namespace Go.VI
open Go.Proofs
set_option maxRecDepth 100000
abbrev handTab : List (DHeap × Bool) := [((1,1,1,[(0,0,0,())],()), false),
  ((1,1,2,[(0,0,0,()),(0,0,1,())],()), false),
  ((1,1,3,[(0,0,0,()),(0,0,1,()),(0,0,2,())],()), false),
  ((1,2,2,[(0,0,0,()),(0,0,1,()),(0,1,0,())],()), false),
  ((1,1,4,[(0,0,0,()),(0,0,1,()),(0,0,2,()),(0,0,3,())],()), false),
  ((1,2,2,[(0,0,0,()),(0,0,1,()),(0,1,0,()),(0,1,1,())],()), false),
  ((1,2,3,[(0,0,0,()),(0,0,1,()),(0,0,2,()),(0,1,0,())],()), false),
  ((1,2,3,[(0,0,0,()),(0,0,1,()),(0,0,2,()),(0,1,1,())],()), false),
  ((1,2,3,[(0,0,0,()),(0,0,1,()),(0,1,1,()),(0,1,2,())],()), false),
  ((2,2,2,[(0,0,0,()),(0,0,1,()),(0,1,0,()),(1,0,0,())],()), false),
  ((2,2,2,[(0,0,0,()),(0,0,1,()),(0,1,0,()),(1,0,1,())],()), true),
  ((2,2,2,[(0,0,0,()),(0,0,1,()),(0,1,0,()),(1,1,0,())],()), true)]
def tabH (h : DHeap) : List (DHeap × Bool) → Option (Bool × Unit)
  | [] => none
  | p :: l => bif eqH h p.1 then some (p.2, ()) else tabH h l
theorem tabH_le {P : DHeap × Unit → Option (Bool × Unit)} : ∀ (l : List (DHeap × Bool)), (∀ p ∈ l, P (p.1, ()) = some (p.2, ())) → ∀ x : DHeap × Unit, Le (tabH x.1 l) (P x)
  | [], _, _ => fun r h => by cases h
  | p :: l, hp, x => fun r h => by
    obtain ⟨h1, ⟨⟩⟩ := x
    simp only [tabH] at h
    cases hb : eqH h1 p.1 with
    | true =>
      rw [hb] at h
      have := eqH_eq hb
      subst this
      rw [hp p (by simp)]
      exact h
    | false =>
      rw [hb] at h
      exact tabH_le l (fun q hq => hp q (by simp [hq])) (h1, ()) r h
noncomputable def E_Heap_handedB : Ft_Heap_handed := fun x => tabH x.1 handTab
noncomputable def E_spec_l8HandedB : Ft_spec_l8Handed := fun x => tabH x.1 handTab
theorem allOf {P : DHeap × Unit → Option (Bool × Unit)} (h : allP (fun p : DHeap × Bool => P (p.1, ()) = some (p.2, ())) handTab) : ∀ p ∈ handTab, P (p.1, ()) = some (p.2, ()) := allP_mem h
theorem v_Heap_handedB : ∀ x, Le (E_Heap_handedB x) (P_Heap_handed x) := tabH_le handTab (allOf ⟨v_Heap_handed _ _ hdI0, v_Heap_handed _ _ hdI1, v_Heap_handed _ _ hdI2, v_Heap_handed _ _ hdI3, v_Heap_handed _ _ hdI4, v_Heap_handed _ _ hdI5, v_Heap_handed _ _ hdI6, v_Heap_handed _ _ hdI7, v_Heap_handed _ _ hdI8, v_Heap_handed _ _ hdI9, v_Heap_handed _ _ hdI10, v_Heap_handed _ _ hdI11, trivial⟩)
theorem v_spec_l8HandedB : ∀ x, Le (E_spec_l8HandedB x) (P_spec_l8Handed x) := tabH_le handTab (allOf ⟨v_spec_l8Handed _ _ hdS0, v_spec_l8Handed _ _ hdS1, v_spec_l8Handed _ _ hdS2, v_spec_l8Handed _ _ hdS3, v_spec_l8Handed _ _ hdS4, v_spec_l8Handed _ _ hdS5, v_spec_l8Handed _ _ hdS6, v_spec_l8Handed _ _ hdS7, v_spec_l8Handed _ _ hdS8, v_spec_l8Handed _ _ hdS9, v_spec_l8Handed _ _ hdS10, v_spec_l8Handed _ _ hdS11, trivial⟩)
end Go.VI
/- Computable copies of the walked functions, for evaluation. Printed by wip/tools/evalgen.py. -/
namespace Go.VI
open Go.Proofs
set_option maxRecDepth 100000
set_option maxHeartbeats 2000000
noncomputable def e_spec_CountHanded_5  (m : Nat) : (Int) → (List D_Heap) → (Int) → Option (denL R_spec_CountHanded) := Nat.rec (motive := fun _ => (Int) → (List D_Heap) → (Int) → Option (denL R_spec_CountHanded)) (fun _ _ _ => none) (fun _ ih p0 p1 p2 =>
  bif decide (p2 < (List.length p1 : Int)) then
    bif inB p2 (List.length p1) then
      Option.bind (E_spec_l8HandedB ((nth T_Heap p1 p2), ())) fun r2 =>
      bif r2.1 then
        ih (IntKind.wrap .i64 (p0 + 1)) p1 (IntKind.wrap .i64 (p2 + 1))
      else
        ih p0 p1 (IntKind.wrap .i64 (p2 + 1))
    else none
  else
    some (p0, true, ())) m
theorem w_spec_CountHanded_5    : ∀ (m M : Nat), m ≤ M → ∀ (p0 : Int) (p1 : List D_Heap) (p2 : Int), Le (e_spec_CountHanded_5  m p0 p1 p2) (l_spec_CountHanded_5  M p0 p1 p2) := by
  intro m
  induction m with
  | zero => intro M _ p0 p1 p2 ; exact Le.none
  | succ m ih =>
    intro M0 hM p0 p1 p2
    obtain ⟨M, rfl⟩ : ∃ M, M0 = M + 1 := ⟨M0 - 1, by omega⟩
    have hMM : m ≤ M := by omega
    have hK := K_le 200 (by decide)
    rw [q_spec_CountHanded_5]
    show Le (
  bif decide (p2 < (List.length p1 : Int)) then
    bif inB p2 (List.length p1) then
      Option.bind (E_spec_l8HandedB ((nth T_Heap p1 p2), ())) fun r2 =>
      bif r2.1 then
        (e_spec_CountHanded_5  m) (IntKind.wrap .i64 (p0 + 1)) p1 (IntKind.wrap .i64 (p2 + 1))
      else
        (e_spec_CountHanded_5  m) p0 p1 (IntKind.wrap .i64 (p2 + 1))
    else none
  else
    some (p0, true, ())) _
    repeat first
    | with_reducible exact Le.rfl
    | with_reducible exact ih M hMM _ _ _
    | with_reducible exact v_spec_l8HandedB _
    | with_reducible refine Le.bind ?_ (fun _ => ?_)
    | with_reducible refine Le.cond ?_ ?_
noncomputable def E_spec_CountHanded : Ft_spec_CountHanded := fun x =>
  Option.bind (E_spec_l1In (x.1, 1, 4, ())) fun r0 =>
  bif !r0.1 then
    some (0, false, ())
  else
    Option.bind (E_spec_l8FormsB (x.1, ())) fun r2 =>
    e_spec_CountHanded_5 200 0 r2.1 0
theorem v_spec_CountHanded : ∀ x, Le (E_spec_CountHanded x) (P_spec_CountHanded x) := by
  have hK := K_le 200 (by decide)
  rintro ⟨a0, ⟨⟩⟩
  rw [show P_spec_CountHanded (a0, ()) = _ from p_spec_CountHanded a0]
  show Le (
  Option.bind (E_spec_l1In (a0, 1, 4, ())) fun r0 =>
  bif !r0.1 then
    some (0, false, ())
  else
    Option.bind (E_spec_l8FormsB (a0, ())) fun r2 =>
    e_spec_CountHanded_5 200 0 r2.1 0) _
  repeat first
    | with_reducible exact Le.rfl
    | with_reducible exact w_spec_CountHanded_5 200 N hK _ _ _
    | with_reducible exact v_spec_l1In _
    | with_reducible exact v_spec_l8FormsB _
    | with_reducible refine Le.bind ?_ (fun _ => ?_)
    | with_reducible refine Le.cond ?_ ?_
noncomputable def e_impl_CountHanded_4  (m : Nat) : (List D_Heap) → (Bool) → (Int) → (Int) → (Int) → Option (denL R_impl_CountHanded) := Nat.rec (motive := fun _ => (List D_Heap) → (Bool) → (Int) → (Int) → (Int) → Option (denL R_impl_CountHanded)) (fun _ _ _ _ _ => none) (fun _ ih p0 p1 p2 p3 p4 =>
  bif decide (p4 < p3) then
    bif inB p4 (List.length p0) then
      Option.bind (E_Heap_handedB ((nth T_Heap p0 p4), ())) fun r2 =>
      bif r2.1 then
        ih p0 p1 (IntKind.wrap .i64 (p2 + 1)) p3 (IntKind.wrap .i64 (p4 + 1))
      else
        ih p0 p1 p2 p3 (IntKind.wrap .i64 (p4 + 1))
    else none
  else
    some (p2, p1, ())) m
theorem w_impl_CountHanded_4    : ∀ (m M : Nat), m ≤ M → ∀ (p0 : List D_Heap) (p1 : Bool) (p2 : Int) (p3 : Int) (p4 : Int), Le (e_impl_CountHanded_4  m p0 p1 p2 p3 p4) (l_impl_CountHanded_4  M p0 p1 p2 p3 p4) := by
  intro m
  induction m with
  | zero => intro M _ p0 p1 p2 p3 p4 ; exact Le.none
  | succ m ih =>
    intro M0 hM p0 p1 p2 p3 p4
    obtain ⟨M, rfl⟩ : ∃ M, M0 = M + 1 := ⟨M0 - 1, by omega⟩
    have hMM : m ≤ M := by omega
    have hK := K_le 200 (by decide)
    rw [q_impl_CountHanded_4]
    show Le (
  bif decide (p4 < p3) then
    bif inB p4 (List.length p0) then
      Option.bind (E_Heap_handedB ((nth T_Heap p0 p4), ())) fun r2 =>
      bif r2.1 then
        (e_impl_CountHanded_4  m) p0 p1 (IntKind.wrap .i64 (p2 + 1)) p3 (IntKind.wrap .i64 (p4 + 1))
      else
        (e_impl_CountHanded_4  m) p0 p1 p2 p3 (IntKind.wrap .i64 (p4 + 1))
    else none
  else
    some (p2, p1, ())) _
    repeat first
    | with_reducible exact Le.rfl
    | with_reducible exact ih M hMM _ _ _ _ _
    | with_reducible exact v_Heap_handedB _
    | with_reducible refine Le.bind ?_ (fun _ => ?_)
    | with_reducible refine Le.cond ?_ ?_
noncomputable def E_impl_CountHanded : Ft_impl_CountHanded := fun x =>
  Option.bind (E_impl_FormsOf (x.1, ())) fun r0 =>
  e_impl_CountHanded_4 200 r0.1 r0.2.1 0 (List.length r0.1 : Int) 0
theorem v_impl_CountHanded : ∀ x, Le (E_impl_CountHanded x) (P_impl_CountHanded x) := by
  have hK := K_le 200 (by decide)
  rintro ⟨a0, ⟨⟩⟩
  rw [show P_impl_CountHanded (a0, ()) = _ from p_impl_CountHanded a0]
  show Le (
  Option.bind (E_impl_FormsOf (a0, ())) fun r0 =>
  e_impl_CountHanded_4 200 r0.1 r0.2.1 0 (List.length r0.1 : Int) 0) _
  repeat first
    | with_reducible exact Le.rfl
    | with_reducible exact w_impl_CountHanded_4 200 N hK _ _ _ _ _
    | with_reducible exact v_impl_FormsOf _
    | with_reducible refine Le.bind ?_ (fun _ => ?_)
    | with_reducible refine Le.cond ?_ ?_
noncomputable def E_laws_FnExactCountHanded : Ft_laws_FnExactCountHanded := fun x =>
  Option.bind (E_spec_CountHanded (x.1, ())) fun r0 =>
  Option.bind (E_impl_CountHanded (x.1, ())) fun r1 =>
  bif !decide (r1.1 = r0.1) then
    some (false, ())
  else
    bif !(r1.2.1 == r0.2.1) then
      some (false, ())
    else
      some (true, ())
theorem v_laws_FnExactCountHanded : ∀ x, Le (E_laws_FnExactCountHanded x) (P_laws_FnExactCountHanded x) := by
  have hK := K_le 200 (by decide)
  rintro ⟨a0, ⟨⟩⟩
  rw [show P_laws_FnExactCountHanded (a0, ()) = _ from p_laws_FnExactCountHanded a0]
  show Le (
  Option.bind (E_spec_CountHanded (a0, ())) fun r0 =>
  Option.bind (E_impl_CountHanded (a0, ())) fun r1 =>
  bif !decide (r1.1 = r0.1) then
    some (false, ())
  else
    bif !(r1.2.1 == r0.2.1) then
      some (false, ())
    else
      some (true, ())) _
  repeat first
    | with_reducible exact Le.rfl
    | with_reducible exact v_impl_CountHanded _
    | with_reducible exact v_spec_CountHanded _
    | with_reducible refine Le.bind ?_ (fun _ => ?_)
    | with_reducible refine Le.cond ?_ ?_
end Go.VI
/- The law of CountHanded, for all numbers. -/
namespace Go.VI
open Go.Proofs
set_option maxRecDepth 100000
theorem handed1 : P_laws_FnExactCountHanded (1, ()) = some (true, ()) := v_laws_FnExactCountHanded _ _ (by kernel_rfl)
theorem handed2 : P_laws_FnExactCountHanded (2, ()) = some (true, ()) := v_laws_FnExactCountHanded _ _ (by kernel_rfl)
theorem handed3 : P_laws_FnExactCountHanded (3, ()) = some (true, ()) := v_laws_FnExactCountHanded _ _ (by kernel_rfl)
theorem handed4 : P_laws_FnExactCountHanded (4, ()) = some (true, ()) := v_laws_FnExactCountHanded _ _ (by kernel_rfl)
theorem law_CountHanded (n : Int) : P_laws_FnExactCountHanded (n, ()) = some (true, ()) := by
  by_cases hn : 1 ≤ n ∧ n ≤ 4
  · obtain h | h | h | h : n = 1 ∨ n = 2 ∨ n = 3 ∨ n = 4 := by omega
    · subst h; exact handed1
    · subst h; exact handed2
    · subst h; exact handed3
    · subst h; exact handed4
  · have hs : P_spec_CountHanded (n, ()) = some (0, false, ()) := by
      rw [p_spec_CountHanded, in_spec]
      by_cases h : n ≥ 1
      · rw [decide_eq_true h, decide_eq_false (show ¬ n ≤ 4 by omega)]; rfl
      · rw [decide_eq_false h]; rfl
    have hf : P_impl_FormsOf (n, ()) = some ([], false, ()) := by
      show formsF (n, ()) = _
      unfold formsF
      simp only [decide_eq_false (show ¬ n = 1 by omega), decide_eq_false (show ¬ n = 2 by omega), decide_eq_false (show ¬ n = 3 by omega), decide_eq_false (show ¬ n = 4 by omega), cond_false]
    have hi : P_impl_CountHanded (n, ()) = some (0, false, ()) := by
      rw [p_impl_CountHanded, hf]
      obtain ⟨m, hm⟩ : ∃ m, N = m + 1 := ⟨N - 1, by have := N_ge; omega⟩
      show l_impl_CountHanded_4 N [] false 0 0 0 = _
      rw [hm, q_impl_CountHanded_4]
      rfl
    rw [p_laws_FnExactCountHanded, hs, hi]
    rfl
end Go.VI
