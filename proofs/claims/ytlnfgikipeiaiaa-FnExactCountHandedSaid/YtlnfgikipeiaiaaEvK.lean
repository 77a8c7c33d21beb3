/- Computable copies of the walked functions, for evaluation. Printed by wip/tools/evalgen.py. -/
import Derived.Test.YtlnfgikipeiaiaaG20
import Derived.Test.YtlnfgikipeiaiaaEvA
import Derived.Test.YtlnfgikipeiaiaaEvLe
namespace Go.VI
open Go.Proofs
set_option maxRecDepth 100000
set_option maxHeartbeats 2000000
noncomputable def E_Heap_form : Ft_Heap_form := P_Heap_form
theorem v_Heap_form : ∀ x, Le (E_Heap_form x) (P_Heap_form x) := fun _ => Le.rfl
noncomputable def E_impl_FormsOf : Ft_impl_FormsOf := P_impl_FormsOf
theorem v_impl_FormsOf : ∀ x, Le (E_impl_FormsOf x) (P_impl_FormsOf x) := fun _ => Le.rfl
noncomputable def E_impl_isDirection : Ft_impl_isDirection := fun x =>
  Option.bind (E_impl_within (x.1, 0, 2, ())) fun r0 =>
  some (r0.1, ())
theorem v_impl_isDirection : ∀ x, Le (E_impl_isDirection x) (P_impl_isDirection x) := by
  have hK := K_le 200 (by decide)
  rintro ⟨a0, ⟨⟩⟩
  rw [show P_impl_isDirection (a0, ()) = _ from p_impl_isDirection a0]
  show Le (
  Option.bind (E_impl_within (a0, 0, 2, ())) fun r0 =>
  some (r0.1, ())) _
  repeat first
    | with_reducible exact Le.rfl
    | with_reducible exact v_impl_within _
    | with_reducible refine Le.bind ?_ (fun _ => ?_)
    | with_reducible refine Le.cond ?_ ?_
noncomputable def E_box_mirror : Ft_box_mirror := fun x =>
  bif inB x.2.2.1 3 then
    bif inB x.2.2.1 3 then
      bif inB x.2.2.1 3 then
        some (((bif decide (x.2.2.1 = (0 : Int)) then (IntKind.wrap .i64 ((IntKind.wrap .i64 ((bif decide (x.2.2.1 = (0 : Int)) then x.1.1 else (bif decide (x.2.2.1 = (1 : Int)) then x.1.2.1 else x.1.2.2.1)) - 1)) - (bif decide (x.2.2.1 = (0 : Int)) then x.2.1.1 else (bif decide (x.2.2.1 = (1 : Int)) then x.2.1.2.1 else x.2.1.2.2.1)))) else x.2.1.1), ((bif decide (x.2.2.1 = (1 : Int)) then (IntKind.wrap .i64 ((IntKind.wrap .i64 ((bif decide (x.2.2.1 = (0 : Int)) then x.1.1 else (bif decide (x.2.2.1 = (1 : Int)) then x.1.2.1 else x.1.2.2.1)) - 1)) - (bif decide (x.2.2.1 = (0 : Int)) then x.2.1.1 else (bif decide (x.2.2.1 = (1 : Int)) then x.2.1.2.1 else x.2.1.2.2.1)))) else x.2.1.2.1), ((bif decide (x.2.2.1 = (2 : Int)) then (IntKind.wrap .i64 ((IntKind.wrap .i64 ((bif decide (x.2.2.1 = (0 : Int)) then x.1.1 else (bif decide (x.2.2.1 = (1 : Int)) then x.1.2.1 else x.1.2.2.1)) - 1)) - (bif decide (x.2.2.1 = (0 : Int)) then x.2.1.1 else (bif decide (x.2.2.1 = (1 : Int)) then x.2.1.2.1 else x.2.1.2.2.1)))) else x.2.1.2.2.1), ()))), ())
      else none
    else none
  else none
theorem v_box_mirror : ∀ x, Le (E_box_mirror x) (P_box_mirror x) := by
  have hK := K_le 200 (by decide)
  rintro ⟨a0, a1, a2, ⟨⟩⟩
  rw [show P_box_mirror (a0, a1, a2, ()) = _ from p_box_mirror a0 a1 a2]
  show Le (
  bif inB a2 3 then
    bif inB a2 3 then
      bif inB a2 3 then
        some (((bif decide (a2 = (0 : Int)) then (IntKind.wrap .i64 ((IntKind.wrap .i64 ((bif decide (a2 = (0 : Int)) then a0.1 else (bif decide (a2 = (1 : Int)) then a0.2.1 else a0.2.2.1)) - 1)) - (bif decide (a2 = (0 : Int)) then a1.1 else (bif decide (a2 = (1 : Int)) then a1.2.1 else a1.2.2.1)))) else a1.1), ((bif decide (a2 = (1 : Int)) then (IntKind.wrap .i64 ((IntKind.wrap .i64 ((bif decide (a2 = (0 : Int)) then a0.1 else (bif decide (a2 = (1 : Int)) then a0.2.1 else a0.2.2.1)) - 1)) - (bif decide (a2 = (0 : Int)) then a1.1 else (bif decide (a2 = (1 : Int)) then a1.2.1 else a1.2.2.1)))) else a1.2.1), ((bif decide (a2 = (2 : Int)) then (IntKind.wrap .i64 ((IntKind.wrap .i64 ((bif decide (a2 = (0 : Int)) then a0.1 else (bif decide (a2 = (1 : Int)) then a0.2.1 else a0.2.2.1)) - 1)) - (bif decide (a2 = (0 : Int)) then a1.1 else (bif decide (a2 = (1 : Int)) then a1.2.1 else a1.2.2.1)))) else a1.2.2.1), ()))), ())
      else none
    else none
  else none) _
  repeat first
    | with_reducible exact Le.rfl
    | with_reducible refine Le.bind ?_ (fun _ => ?_)
    | with_reducible refine Le.cond ?_ ?_
noncomputable def E_impl_MirrorHeap_1 : Ft_impl_MirrorHeap_1 := fun x =>
  Option.bind (E_Heap_box (x.2.1, ())) fun r0 =>
  Option.bind (E_box_mirror (r0.1, x.1, x.2.2.1, ())) fun r1 =>
  some (r1.1, ())
theorem v_impl_MirrorHeap_1 : ∀ x, Le (E_impl_MirrorHeap_1 x) (P_impl_MirrorHeap_1 x) := by
  have hK := K_le 200 (by decide)
  rintro ⟨a0, a1, a2, ⟨⟩⟩
  rw [show P_impl_MirrorHeap_1 (a0, a1, a2, ()) = _ from p_impl_MirrorHeap_1 a0 a1 a2]
  show Le (
  Option.bind (E_Heap_box (a1, ())) fun r0 =>
  Option.bind (E_box_mirror (r0.1, a0, a2, ())) fun r1 =>
  some (r1.1, ())) _
  repeat first
    | with_reducible exact Le.rfl
    | with_reducible exact v_Heap_box _
    | with_reducible exact v_box_mirror _
    | with_reducible refine Le.bind ?_ (fun _ => ?_)
    | with_reducible refine Le.cond ?_ ?_
noncomputable def E_impl_MirrorHeap : Ft_impl_MirrorHeap := fun x =>
  Option.bind (E_impl_IsHeap (x.1, ())) fun r0 =>
  bif !r0.1 then
    some ((0, (0, (0, (([] : List D_A3), ())))), false, ())
  else
    Option.bind (E_impl_isDirection (x.2.1, ())) fun r2 =>
    bif !r2.1 then
      some ((0, (0, (0, (([] : List D_A3), ())))), false, ())
    else
      Option.bind (E_Heap_box (x.1, ())) fun r4 =>
      Option.bind (E_Heap_moved (x.1, r4.1, (fun (y : D_A3 × Unit) => E_impl_MirrorHeap_1 (y.1, x.1, x.2.1, ())), ())) fun r5 =>
      some (r5.1, true, ())
theorem v_impl_MirrorHeap : ∀ x, Le (E_impl_MirrorHeap x) (P_impl_MirrorHeap x) := by
  have hK := K_le 200 (by decide)
  rintro ⟨a0, a1, ⟨⟩⟩
  rw [show P_impl_MirrorHeap (a0, a1, ()) = _ from p_impl_MirrorHeap a0 a1]
  show Le (
  Option.bind (E_impl_IsHeap (a0, ())) fun r0 =>
  bif !r0.1 then
    some ((0, (0, (0, (([] : List D_A3), ())))), false, ())
  else
    Option.bind (E_impl_isDirection (a1, ())) fun r2 =>
    bif !r2.1 then
      some ((0, (0, (0, (([] : List D_A3), ())))), false, ())
    else
      Option.bind (E_Heap_box (a0, ())) fun r4 =>
      Option.bind (E_Heap_moved (a0, r4.1, (fun (y : D_A3 × Unit) => E_impl_MirrorHeap_1 (y.1, a0, a1, ())), ())) fun r5 =>
      some (r5.1, true, ())) _
  repeat first
    | with_reducible exact Le.rfl
    | with_reducible exact v_Heap_box _
    | with_reducible refine v_Heap_moved _ _ _ _ (fun _ => ?_)
    | with_reducible exact v_impl_IsHeap _
    | with_reducible exact v_impl_MirrorHeap_1 _
    | with_reducible exact v_impl_isDirection _
    | with_reducible refine Le.bind ?_ (fun _ => ?_)
    | with_reducible refine Le.cond ?_ ?_
noncomputable def E_Heap_handed : Ft_Heap_handed := fun x =>
  Option.bind (E_impl_MirrorHeap (x.1, 0, ())) fun r0 =>
  Option.bind (E_Heap_form (r0.1, ())) fun r1 =>
  Option.bind (E_Heap_form (x.1, ())) fun r2 =>
  Option.bind (E_Heap_same (r1.1, r2.1, ())) fun r3 =>
  some (!r3.1, ())
theorem v_Heap_handed : ∀ x, Le (E_Heap_handed x) (P_Heap_handed x) := by
  have hK := K_le 200 (by decide)
  rintro ⟨a0, ⟨⟩⟩
  rw [show P_Heap_handed (a0, ()) = _ from p_Heap_handed a0]
  show Le (
  Option.bind (E_impl_MirrorHeap (a0, 0, ())) fun r0 =>
  Option.bind (E_Heap_form (r0.1, ())) fun r1 =>
  Option.bind (E_Heap_form (a0, ())) fun r2 =>
  Option.bind (E_Heap_same (r1.1, r2.1, ())) fun r3 =>
  some (!r3.1, ())) _
  repeat first
    | with_reducible exact Le.rfl
    | with_reducible exact v_Heap_form _
    | with_reducible exact v_Heap_same _
    | with_reducible exact v_impl_MirrorHeap _
    | with_reducible refine Le.bind ?_ (fun _ => ?_)
    | with_reducible refine Le.cond ?_ ?_
noncomputable def e_spec_l2Mirrored_3  (m : Nat) : (Int) → (Int) → (Int) → (List D_A3) → (Int) → (Int) → (Int) → (List D_A3) → (Int) → (Int) → (Int) → (List D_A3) → (Int) → (Int) → Option (denL R_spec_l2Mirrored) := Nat.rec (motive := fun _ => (Int) → (Int) → (Int) → (List D_A3) → (Int) → (Int) → (Int) → (List D_A3) → (Int) → (Int) → (Int) → (List D_A3) → (Int) → (Int) → Option (denL R_spec_l2Mirrored)) (fun _ _ _ _ _ _ _ _ _ _ _ _ _ _ => none) (fun _ ih p0 p1 p2 p3 p4 p5 p6 p7 p8 p9 p10 p11 p12 p13 =>
  bif decide (p13 < (List.length p3 : Int)) then
    bif inB p13 (List.length p3) then
      Option.bind (E_spec_l2Long ((p0, (p1, (p2, (p3, ())))), p12, ())) fun r2 =>
      bif inB p12 3 then
        bif inB p12 3 then
          Option.bind (E_spec_l2With ((p8, (p9, (p10, (p11, ())))), ((bif decide (p12 = (0 : Int)) then (IntKind.wrap .i64 ((IntKind.wrap .i64 (r2.1 - 1)) - (bif decide (p12 = (0 : Int)) then ((nth T_A3 p3 p13)).1 else (bif decide (p12 = (1 : Int)) then (((nth T_A3 p3 p13)).2).1 else ((((nth T_A3 p3 p13)).2).2).1)))) else ((nth T_A3 p3 p13)).1), ((bif decide (p12 = (1 : Int)) then (IntKind.wrap .i64 ((IntKind.wrap .i64 (r2.1 - 1)) - (bif decide (p12 = (0 : Int)) then ((nth T_A3 p3 p13)).1 else (bif decide (p12 = (1 : Int)) then (((nth T_A3 p3 p13)).2).1 else ((((nth T_A3 p3 p13)).2).2).1)))) else (((nth T_A3 p3 p13)).2).1), ((bif decide (p12 = (2 : Int)) then (IntKind.wrap .i64 ((IntKind.wrap .i64 (r2.1 - 1)) - (bif decide (p12 = (0 : Int)) then ((nth T_A3 p3 p13)).1 else (bif decide (p12 = (1 : Int)) then (((nth T_A3 p3 p13)).2).1 else ((((nth T_A3 p3 p13)).2).2).1)))) else ((((nth T_A3 p3 p13)).2).2).1), ()))), ())) fun r5 =>
          ih p0 p1 p2 p3 p4 p5 p6 p7 r5.1.1 r5.1.2.1 r5.1.2.2.1 r5.1.2.2.2.1 p12 (IntKind.wrap .i64 (p13 + 1))
        else none
      else none
    else none
  else
    some ((p8, (p9, (p10, (p11, ())))), ())) m
theorem w_spec_l2Mirrored_3    : ∀ (m M : Nat), m ≤ M → ∀ (p0 : Int) (p1 : Int) (p2 : Int) (p3 : List D_A3) (p4 : Int) (p5 : Int) (p6 : Int) (p7 : List D_A3) (p8 : Int) (p9 : Int) (p10 : Int) (p11 : List D_A3) (p12 : Int) (p13 : Int), Le (e_spec_l2Mirrored_3  m p0 p1 p2 p3 p4 p5 p6 p7 p8 p9 p10 p11 p12 p13) (l_spec_l2Mirrored_3  M p0 p1 p2 p3 p4 p5 p6 p7 p8 p9 p10 p11 p12 p13) := by
  intro m
  induction m with
  | zero => intro M _ p0 p1 p2 p3 p4 p5 p6 p7 p8 p9 p10 p11 p12 p13 ; exact Le.none
  | succ m ih =>
    intro M0 hM p0 p1 p2 p3 p4 p5 p6 p7 p8 p9 p10 p11 p12 p13
    obtain ⟨M, rfl⟩ : ∃ M, M0 = M + 1 := ⟨M0 - 1, by omega⟩
    have hMM : m ≤ M := by omega
    have hK := K_le 200 (by decide)
    rw [q_spec_l2Mirrored_3]
    show Le (
  bif decide (p13 < (List.length p3 : Int)) then
    bif inB p13 (List.length p3) then
      Option.bind (E_spec_l2Long ((p0, (p1, (p2, (p3, ())))), p12, ())) fun r2 =>
      bif inB p12 3 then
        bif inB p12 3 then
          Option.bind (E_spec_l2With ((p8, (p9, (p10, (p11, ())))), ((bif decide (p12 = (0 : Int)) then (IntKind.wrap .i64 ((IntKind.wrap .i64 (r2.1 - 1)) - (bif decide (p12 = (0 : Int)) then ((nth T_A3 p3 p13)).1 else (bif decide (p12 = (1 : Int)) then (((nth T_A3 p3 p13)).2).1 else ((((nth T_A3 p3 p13)).2).2).1)))) else ((nth T_A3 p3 p13)).1), ((bif decide (p12 = (1 : Int)) then (IntKind.wrap .i64 ((IntKind.wrap .i64 (r2.1 - 1)) - (bif decide (p12 = (0 : Int)) then ((nth T_A3 p3 p13)).1 else (bif decide (p12 = (1 : Int)) then (((nth T_A3 p3 p13)).2).1 else ((((nth T_A3 p3 p13)).2).2).1)))) else (((nth T_A3 p3 p13)).2).1), ((bif decide (p12 = (2 : Int)) then (IntKind.wrap .i64 ((IntKind.wrap .i64 (r2.1 - 1)) - (bif decide (p12 = (0 : Int)) then ((nth T_A3 p3 p13)).1 else (bif decide (p12 = (1 : Int)) then (((nth T_A3 p3 p13)).2).1 else ((((nth T_A3 p3 p13)).2).2).1)))) else ((((nth T_A3 p3 p13)).2).2).1), ()))), ())) fun r5 =>
          (e_spec_l2Mirrored_3  m) p0 p1 p2 p3 p4 p5 p6 p7 r5.1.1 r5.1.2.1 r5.1.2.2.1 r5.1.2.2.2.1 p12 (IntKind.wrap .i64 (p13 + 1))
        else none
      else none
    else none
  else
    some ((p8, (p9, (p10, (p11, ())))), ())) _
    repeat first
    | with_reducible exact Le.rfl
    | with_reducible exact ih M hMM _ _ _ _ _ _ _ _ _ _ _ _ _ _
    | with_reducible exact v_spec_l2Long _
    | with_reducible exact v_spec_l2With _
    | with_reducible refine Le.bind ?_ (fun _ => ?_)
    | with_reducible refine Le.cond ?_ ?_
noncomputable def E_spec_l2Mirrored : Ft_spec_l2Mirrored := fun x =>
  Option.bind (E_spec_l2Empty (x.1.1, x.1.2.1, x.1.2.2.1, ())) fun r0 =>
  e_spec_l2Mirrored_3 200 x.1.1 x.1.2.1 x.1.2.2.1 x.1.2.2.2.1 0 0 0 ([] : List D_A3) r0.1.1 r0.1.2.1 r0.1.2.2.1 r0.1.2.2.2.1 x.2.1 0
theorem v_spec_l2Mirrored : ∀ x, Le (E_spec_l2Mirrored x) (P_spec_l2Mirrored x) := by
  have hK := K_le 200 (by decide)
  rintro ⟨a0, a1, ⟨⟩⟩
  rw [show P_spec_l2Mirrored (a0, a1, ()) = _ from p_spec_l2Mirrored a0 a1]
  show Le (
  Option.bind (E_spec_l2Empty (a0.1, a0.2.1, a0.2.2.1, ())) fun r0 =>
  e_spec_l2Mirrored_3 200 a0.1 a0.2.1 a0.2.2.1 a0.2.2.2.1 0 0 0 ([] : List D_A3) r0.1.1 r0.1.2.1 r0.1.2.2.1 r0.1.2.2.2.1 a1 0) _
  repeat first
    | with_reducible exact Le.rfl
    | with_reducible exact w_spec_l2Mirrored_3 200 N hK _ _ _ _ _ _ _ _ _ _ _ _ _ _
    | with_reducible exact v_spec_l2Empty _
    | with_reducible refine Le.bind ?_ (fun _ => ?_)
    | with_reducible refine Le.cond ?_ ?_
noncomputable def E_spec_l8Handed : Ft_spec_l8Handed := fun x =>
  Option.bind (E_spec_l2Mirrored (x.1, 0, ())) fun r0 =>
  Option.bind (E_spec_l8First (r0.1, ())) fun r1 =>
  Option.bind (E_spec_l8First (x.1, ())) fun r2 =>
  Option.bind (E_spec_l8Same (r1.1, r2.1, ())) fun r3 =>
  some (!r3.1, ())
theorem v_spec_l8Handed : ∀ x, Le (E_spec_l8Handed x) (P_spec_l8Handed x) := by
  have hK := K_le 200 (by decide)
  rintro ⟨a0, ⟨⟩⟩
  rw [show P_spec_l8Handed (a0, ()) = _ from p_spec_l8Handed a0]
  show Le (
  Option.bind (E_spec_l2Mirrored (a0, 0, ())) fun r0 =>
  Option.bind (E_spec_l8First (r0.1, ())) fun r1 =>
  Option.bind (E_spec_l8First (a0, ())) fun r2 =>
  Option.bind (E_spec_l8Same (r1.1, r2.1, ())) fun r3 =>
  some (!r3.1, ())) _
  repeat first
    | with_reducible exact Le.rfl
    | with_reducible exact v_spec_l2Mirrored _
    | with_reducible exact v_spec_l8First _
    | with_reducible exact v_spec_l8Same _
    | with_reducible refine Le.bind ?_ (fun _ => ?_)
    | with_reducible refine Le.cond ?_ ?_
end Go.VI
