/- Computable copies of the walked functions, for evaluation. Printed by wip/tools/evalgen.py. -/
import Derived.Test.YtlnfgikipeiaiaaG18p1
import Derived.Test.YtlnfgikipeiaiaaEvLe
namespace Go.VI
open Go.Proofs
set_option maxRecDepth 100000
set_option maxHeartbeats 2000000
noncomputable def E_spec_l1In : Ft_spec_l1In := fun x =>
  bif decide (x.1 ≥ x.2.1) then
    some (decide (x.1 ≤ x.2.2.1), ())
  else
    some (false, ())
theorem v_spec_l1In : ∀ x, Le (E_spec_l1In x) (P_spec_l1In x) := by
  have hK := K_le 200 (by decide)
  rintro ⟨a0, a1, a2, ⟨⟩⟩
  rw [show P_spec_l1In (a0, a1, a2, ()) = _ from p_spec_l1In a0 a1 a2]
  show Le (
  bif decide (a0 ≥ a1) then
    some (decide (a0 ≤ a2), ())
  else
    some (false, ())) _
  repeat first
    | with_reducible exact Le.rfl
    | with_reducible refine Le.bind ?_ (fun _ => ?_)
    | with_reducible refine Le.cond ?_ ?_
noncomputable def E_spec_l2Empty : Ft_spec_l2Empty := fun x =>
  some ((x.1, (x.2.1, (x.2.2.1, (([] : List D_A3), ())))), ())
theorem v_spec_l2Empty : ∀ x, Le (E_spec_l2Empty x) (P_spec_l2Empty x) := by
  have hK := K_le 200 (by decide)
  rintro ⟨a0, a1, a2, ⟨⟩⟩
  rw [show P_spec_l2Empty (a0, a1, a2, ()) = _ from p_spec_l2Empty a0 a1 a2]
  show Le (
  some ((a0, (a1, (a2, (([] : List D_A3), ())))), ())) _
  repeat first
    | with_reducible exact Le.rfl
    | with_reducible refine Le.bind ?_ (fun _ => ?_)
    | with_reducible refine Le.cond ?_ ?_
noncomputable def e_spec_l2All_9 (_k_3 : (Int) → (Int) → (Int) → (List D_A3) → (List D_A3) → (Int) → Option (denL R_spec_l2All)) (k_6 : (Int) → (Int) → (Int) → (List D_A3) → (List D_A3) → (Int) → (Int) → Option (denL R_spec_l2All)) (m : Nat) : (Int) → (Int) → (Int) → (List D_A3) → (List D_A3) → (Int) → (Int) → (Int) → Option (denL R_spec_l2All) := Nat.rec (motive := fun _ => (Int) → (Int) → (Int) → (List D_A3) → (List D_A3) → (Int) → (Int) → (Int) → Option (denL R_spec_l2All)) (fun _ _ _ _ _ _ _ _ => none) (fun _ ih p0 p1 p2 p3 p4 p5 p6 p7 =>
  bif decide (p7 < p2) then
    bif (decide (((List.length p4) + (List.length ([(p5, (p6, (p7, ())))] : List D_A3))) * 24 ≤ 140737488355328) && decide (((List.length p4) + (List.length ([(p5, (p6, (p7, ())))] : List D_A3))) ≤ 140737488355328)) then
      ih p0 p1 p2 p3 (p4 ++ ([(p5, (p6, (p7, ())))] : List D_A3)) p5 p6 (IntKind.wrap .i64 (p7 + 1))
    else none
  else
    k_6 p0 p1 p2 p3 p4 p5 (IntKind.wrap .i64 (p6 + 1))) m
theorem w_spec_l2All_9 (m0 m1 : Nat) (k_3 : (Int) → (Int) → (Int) → (List D_A3) → (List D_A3) → (Int) → Option (denL R_spec_l2All)) (k_6 : (Int) → (Int) → (Int) → (List D_A3) → (List D_A3) → (Int) → (Int) → Option (denL R_spec_l2All)) (_h_3 : ∀ (p0 : Int) (p1 : Int) (p2 : Int) (p3 : List D_A3) (p4 : List D_A3) (p5 : Int), Le (k_3 p0 p1 p2 p3 p4 p5) (l_spec_l2All_3 m0 p0 p1 p2 p3 p4 p5)) (h_6 : ∀ (p0 : Int) (p1 : Int) (p2 : Int) (p3 : List D_A3) (p4 : List D_A3) (p5 : Int) (p6 : Int), Le (k_6 p0 p1 p2 p3 p4 p5 p6) (l_spec_l2All_6 m0 m1 p0 p1 p2 p3 p4 p5 p6)) : ∀ (m M : Nat), m ≤ M → ∀ (p0 : Int) (p1 : Int) (p2 : Int) (p3 : List D_A3) (p4 : List D_A3) (p5 : Int) (p6 : Int) (p7 : Int), Le (e_spec_l2All_9 k_3 k_6 m p0 p1 p2 p3 p4 p5 p6 p7) (l_spec_l2All_9 m0 m1 M p0 p1 p2 p3 p4 p5 p6 p7) := by
  intro m
  induction m with
  | zero => intro M _ p0 p1 p2 p3 p4 p5 p6 p7 ; exact Le.none
  | succ m ih =>
    intro M0 hM p0 p1 p2 p3 p4 p5 p6 p7
    obtain ⟨M, rfl⟩ : ∃ M, M0 = M + 1 := ⟨M0 - 1, by omega⟩
    have hMM : m ≤ M := by omega
    have hK := K_le 200 (by decide)
    rw [q_spec_l2All_9]
    show Le (
  bif decide (p7 < p2) then
    bif (decide (((List.length p4) + (List.length ([(p5, (p6, (p7, ())))] : List D_A3))) * 24 ≤ 140737488355328) && decide (((List.length p4) + (List.length ([(p5, (p6, (p7, ())))] : List D_A3))) ≤ 140737488355328)) then
      (e_spec_l2All_9 k_3 k_6 m) p0 p1 p2 p3 (p4 ++ ([(p5, (p6, (p7, ())))] : List D_A3)) p5 p6 (IntKind.wrap .i64 (p7 + 1))
    else none
  else
    k_6 p0 p1 p2 p3 p4 p5 (IntKind.wrap .i64 (p6 + 1))) _
    repeat first
    | with_reducible exact Le.rfl
    | with_reducible exact ih M hMM _ _ _ _ _ _ _ _
    | with_reducible exact h_6 _ _ _ _ _ _ _
    | with_reducible refine Le.bind ?_ (fun _ => ?_)
    | with_reducible refine Le.cond ?_ ?_
noncomputable def e_spec_l2All_6 (k_3 : (Int) → (Int) → (Int) → (List D_A3) → (List D_A3) → (Int) → Option (denL R_spec_l2All)) (m : Nat) : (Int) → (Int) → (Int) → (List D_A3) → (List D_A3) → (Int) → (Int) → Option (denL R_spec_l2All) := Nat.rec (motive := fun _ => (Int) → (Int) → (Int) → (List D_A3) → (List D_A3) → (Int) → (Int) → Option (denL R_spec_l2All)) (fun _ _ _ _ _ _ _ => none) (fun _ ih p0 p1 p2 p3 p4 p5 p6 =>
  bif decide (p6 < p1) then
    e_spec_l2All_9 k_3 ih 200 p0 p1 p2 p3 p4 p5 p6 0
  else
    k_3 p0 p1 p2 p3 p4 (IntKind.wrap .i64 (p5 + 1))) m
theorem w_spec_l2All_6 (m0 : Nat) (k_3 : (Int) → (Int) → (Int) → (List D_A3) → (List D_A3) → (Int) → Option (denL R_spec_l2All)) (h_3 : ∀ (p0 : Int) (p1 : Int) (p2 : Int) (p3 : List D_A3) (p4 : List D_A3) (p5 : Int), Le (k_3 p0 p1 p2 p3 p4 p5) (l_spec_l2All_3 m0 p0 p1 p2 p3 p4 p5)) : ∀ (m M : Nat), m ≤ M → ∀ (p0 : Int) (p1 : Int) (p2 : Int) (p3 : List D_A3) (p4 : List D_A3) (p5 : Int) (p6 : Int), Le (e_spec_l2All_6 k_3 m p0 p1 p2 p3 p4 p5 p6) (l_spec_l2All_6 m0 M p0 p1 p2 p3 p4 p5 p6) := by
  intro m
  induction m with
  | zero => intro M _ p0 p1 p2 p3 p4 p5 p6 ; exact Le.none
  | succ m ih =>
    intro M0 hM p0 p1 p2 p3 p4 p5 p6
    obtain ⟨M, rfl⟩ : ∃ M, M0 = M + 1 := ⟨M0 - 1, by omega⟩
    have hMM : m ≤ M := by omega
    have hK := K_le 200 (by decide)
    rw [q_spec_l2All_6]
    show Le (
  bif decide (p6 < p1) then
    e_spec_l2All_9 k_3 (e_spec_l2All_6 k_3 m) 200 p0 p1 p2 p3 p4 p5 p6 0
  else
    k_3 p0 p1 p2 p3 p4 (IntKind.wrap .i64 (p5 + 1))) _
    repeat first
    | with_reducible exact Le.rfl
    | with_reducible exact ih M hMM _ _ _ _ _ _ _
    | with_reducible exact h_3 _ _ _ _ _ _
    | with_reducible exact w_spec_l2All_9 _ _ _ _ h_3 (ih M hMM) 200 N hK _ _ _ _ _ _ _ _
    | with_reducible refine Le.bind ?_ (fun _ => ?_)
    | with_reducible refine Le.cond ?_ ?_
noncomputable def e_spec_l2All_3  (m : Nat) : (Int) → (Int) → (Int) → (List D_A3) → (List D_A3) → (Int) → Option (denL R_spec_l2All) := Nat.rec (motive := fun _ => (Int) → (Int) → (Int) → (List D_A3) → (List D_A3) → (Int) → Option (denL R_spec_l2All)) (fun _ _ _ _ _ _ => none) (fun _ ih p0 p1 p2 p3 p4 p5 =>
  bif decide (p5 < p0) then
    e_spec_l2All_6 ih 200 p0 p1 p2 p3 p4 p5 0
  else
    some (p4, ())) m
theorem w_spec_l2All_3    : ∀ (m M : Nat), m ≤ M → ∀ (p0 : Int) (p1 : Int) (p2 : Int) (p3 : List D_A3) (p4 : List D_A3) (p5 : Int), Le (e_spec_l2All_3  m p0 p1 p2 p3 p4 p5) (l_spec_l2All_3  M p0 p1 p2 p3 p4 p5) := by
  intro m
  induction m with
  | zero => intro M _ p0 p1 p2 p3 p4 p5 ; exact Le.none
  | succ m ih =>
    intro M0 hM p0 p1 p2 p3 p4 p5
    obtain ⟨M, rfl⟩ : ∃ M, M0 = M + 1 := ⟨M0 - 1, by omega⟩
    have hMM : m ≤ M := by omega
    have hK := K_le 200 (by decide)
    rw [q_spec_l2All_3]
    show Le (
  bif decide (p5 < p0) then
    e_spec_l2All_6 (e_spec_l2All_3  m) 200 p0 p1 p2 p3 p4 p5 0
  else
    some (p4, ())) _
    repeat first
    | with_reducible exact Le.rfl
    | with_reducible exact ih M hMM _ _ _ _ _ _
    | with_reducible exact w_spec_l2All_6 _ _ (ih M hMM) 200 N hK _ _ _ _ _ _ _
    | with_reducible refine Le.bind ?_ (fun _ => ?_)
    | with_reducible refine Le.cond ?_ ?_
noncomputable def E_spec_l2All : Ft_spec_l2All := fun x =>
  e_spec_l2All_3 200 x.1.1 x.1.2.1 x.1.2.2.1 x.1.2.2.2.1 ([] : List D_A3) 0
theorem v_spec_l2All : ∀ x, Le (E_spec_l2All x) (P_spec_l2All x) := by
  have hK := K_le 200 (by decide)
  rintro ⟨a0, ⟨⟩⟩
  rw [show P_spec_l2All (a0, ()) = _ from p_spec_l2All a0]
  show Le (
  e_spec_l2All_3 200 a0.1 a0.2.1 a0.2.2.1 a0.2.2.2.1 ([] : List D_A3) 0) _
  repeat first
    | with_reducible exact Le.rfl
    | with_reducible exact w_spec_l2All_3 200 N hK _ _ _ _ _ _
    | with_reducible refine Le.bind ?_ (fun _ => ?_)
    | with_reducible refine Le.cond ?_ ?_
noncomputable def E_spec_l2Box : Ft_spec_l2Box := fun x =>
  Option.bind (E_spec_l2Empty (x.1, x.2.1, x.2.2.1, ())) fun r0 =>
  Option.bind (E_spec_l2All (r0.1, ())) fun r1 =>
  some ((r0.1.1, (r0.1.2.1, (r0.1.2.2.1, (r1.1, ())))), ())
theorem v_spec_l2Box : ∀ x, Le (E_spec_l2Box x) (P_spec_l2Box x) := by
  have hK := K_le 200 (by decide)
  rintro ⟨a0, a1, a2, ⟨⟩⟩
  rw [show P_spec_l2Box (a0, a1, a2, ()) = _ from p_spec_l2Box a0 a1 a2]
  show Le (
  Option.bind (E_spec_l2Empty (a0, a1, a2, ())) fun r0 =>
  Option.bind (E_spec_l2All (r0.1, ())) fun r1 =>
  some ((r0.1.1, (r0.1.2.1, (r0.1.2.2.1, (r1.1, ())))), ())) _
  repeat first
    | with_reducible exact Le.rfl
    | with_reducible exact v_spec_l2All _
    | with_reducible exact v_spec_l2Empty _
    | with_reducible refine Le.bind ?_ (fun _ => ?_)
    | with_reducible refine Le.cond ?_ ?_
noncomputable def E_spec_l6Steps : Ft_spec_l6Steps := fun _ =>
  some ((((-1), (0, (0, ()))), ((1, (0, (0, ()))), ((0, ((-1), (0, ()))), ((0, (1, (0, ()))), ((0, (0, ((-1), ()))), ((0, (0, (1, ()))), ())))))), ())
theorem v_spec_l6Steps : ∀ x, Le (E_spec_l6Steps x) (P_spec_l6Steps x) := by
  have hK := K_le 200 (by decide)
  rintro ⟨⟨⟩⟩
  rw [show P_spec_l6Steps () = _ from p_spec_l6Steps ]
  show Le (
  some ((((-1), (0, (0, ()))), ((1, (0, (0, ()))), ((0, ((-1), (0, ()))), ((0, (1, (0, ()))), ((0, (0, ((-1), ()))), ((0, (0, (1, ()))), ())))))), ())) _
  repeat first
    | with_reducible exact Le.rfl
    | with_reducible refine Le.bind ?_ (fun _ => ?_)
    | with_reducible refine Le.cond ?_ ?_
noncomputable def E_spec_l6Beside : Ft_spec_l6Beside := fun x =>
  some (((IntKind.wrap .i64 (x.1.1 + x.2.1.1)), ((IntKind.wrap .i64 (x.1.2.1 + x.2.1.2.1)), ((IntKind.wrap .i64 (x.1.2.2.1 + x.2.1.2.2.1)), ()))), ())
theorem v_spec_l6Beside : ∀ x, Le (E_spec_l6Beside x) (P_spec_l6Beside x) := by
  have hK := K_le 200 (by decide)
  rintro ⟨a0, a1, ⟨⟩⟩
  rw [show P_spec_l6Beside (a0, a1, ()) = _ from p_spec_l6Beside a0 a1]
  show Le (
  some (((IntKind.wrap .i64 (a0.1 + a1.1)), ((IntKind.wrap .i64 (a0.2.1 + a1.2.1)), ((IntKind.wrap .i64 (a0.2.2.1 + a1.2.2.1)), ()))), ())) _
  repeat first
    | with_reducible exact Le.rfl
    | with_reducible refine Le.bind ?_ (fun _ => ?_)
    | with_reducible refine Le.cond ?_ ?_
noncomputable def e_spec_l2Has_2  (m : Nat) : (Int) → (Int) → (Int) → (List D_A3) → (Int) → (Int) → (Int) → (Int) → Option (denL R_spec_l2Has) := Nat.rec (motive := fun _ => (Int) → (Int) → (Int) → (List D_A3) → (Int) → (Int) → (Int) → (Int) → Option (denL R_spec_l2Has)) (fun _ _ _ _ _ _ _ _ => none) (fun _ ih p0 p1 p2 p3 p4 p5 p6 p7 =>
  bif decide (p7 < (List.length p3 : Int)) then
    bif inB p7 (List.length p3) then
      bif (decide (((nth T_A3 p3 p7)).1 = p4) && (decide ((((nth T_A3 p3 p7)).2).1 = p5) && (decide (((((nth T_A3 p3 p7)).2).2).1 = p6) && true))) then
        some (true, ())
      else
        ih p0 p1 p2 p3 p4 p5 p6 (IntKind.wrap .i64 (p7 + 1))
    else none
  else
    some (false, ())) m
theorem w_spec_l2Has_2    : ∀ (m M : Nat), m ≤ M → ∀ (p0 : Int) (p1 : Int) (p2 : Int) (p3 : List D_A3) (p4 : Int) (p5 : Int) (p6 : Int) (p7 : Int), Le (e_spec_l2Has_2  m p0 p1 p2 p3 p4 p5 p6 p7) (l_spec_l2Has_2  M p0 p1 p2 p3 p4 p5 p6 p7) := by
  intro m
  induction m with
  | zero => intro M _ p0 p1 p2 p3 p4 p5 p6 p7 ; exact Le.none
  | succ m ih =>
    intro M0 hM p0 p1 p2 p3 p4 p5 p6 p7
    obtain ⟨M, rfl⟩ : ∃ M, M0 = M + 1 := ⟨M0 - 1, by omega⟩
    have hMM : m ≤ M := by omega
    have hK := K_le 200 (by decide)
    rw [q_spec_l2Has_2]
    show Le (
  bif decide (p7 < (List.length p3 : Int)) then
    bif inB p7 (List.length p3) then
      bif (decide (((nth T_A3 p3 p7)).1 = p4) && (decide ((((nth T_A3 p3 p7)).2).1 = p5) && (decide (((((nth T_A3 p3 p7)).2).2).1 = p6) && true))) then
        some (true, ())
      else
        (e_spec_l2Has_2  m) p0 p1 p2 p3 p4 p5 p6 (IntKind.wrap .i64 (p7 + 1))
    else none
  else
    some (false, ())) _
    repeat first
    | with_reducible exact Le.rfl
    | with_reducible exact ih M hMM _ _ _ _ _ _ _ _
    | with_reducible refine Le.bind ?_ (fun _ => ?_)
    | with_reducible refine Le.cond ?_ ?_
noncomputable def E_spec_l2Has : Ft_spec_l2Has := fun x =>
  e_spec_l2Has_2 200 x.1.1 x.1.2.1 x.1.2.2.1 x.1.2.2.2.1 x.2.1.1 x.2.1.2.1 x.2.1.2.2.1 0
theorem v_spec_l2Has : ∀ x, Le (E_spec_l2Has x) (P_spec_l2Has x) := by
  have hK := K_le 200 (by decide)
  rintro ⟨a0, a1, ⟨⟩⟩
  rw [show P_spec_l2Has (a0, a1, ()) = _ from p_spec_l2Has a0 a1]
  show Le (
  e_spec_l2Has_2 200 a0.1 a0.2.1 a0.2.2.1 a0.2.2.2.1 a1.1 a1.2.1 a1.2.2.1 0) _
  repeat first
    | with_reducible exact Le.rfl
    | with_reducible exact w_spec_l2Has_2 200 N hK _ _ _ _ _ _ _ _
    | with_reducible refine Le.bind ?_ (fun _ => ?_)
    | with_reducible refine Le.cond ?_ ?_
noncomputable def E_spec_l1Most : Ft_spec_l1Most := fun x =>
  bif decide (x.1 > x.2.1) then
    some (x.1, ())
  else
    some (x.2.1, ())
theorem v_spec_l1Most : ∀ x, Le (E_spec_l1Most x) (P_spec_l1Most x) := by
  have hK := K_le 200 (by decide)
  rintro ⟨a0, a1, ⟨⟩⟩
  rw [show P_spec_l1Most (a0, a1, ()) = _ from p_spec_l1Most a0 a1]
  show Le (
  bif decide (a0 > a1) then
    some (a0, ())
  else
    some (a1, ())) _
  repeat first
    | with_reducible exact Le.rfl
    | with_reducible refine Le.bind ?_ (fun _ => ?_)
    | with_reducible refine Le.cond ?_ ?_
noncomputable def E_spec_l2Made : Ft_spec_l2Made := fun x =>
  some ((x.1.1, (x.1.2.1, (x.1.2.2.1, (x.2.1, ())))), ())
theorem v_spec_l2Made : ∀ x, Le (E_spec_l2Made x) (P_spec_l2Made x) := by
  have hK := K_le 200 (by decide)
  rintro ⟨a0, a1, ⟨⟩⟩
  rw [show P_spec_l2Made (a0, a1, ()) = _ from p_spec_l2Made a0 a1]
  show Le (
  some ((a0.1, (a0.2.1, (a0.2.2.1, (a1, ())))), ())) _
  repeat first
    | with_reducible exact Le.rfl
    | with_reducible refine Le.bind ?_ (fun _ => ?_)
    | with_reducible refine Le.cond ?_ ?_
noncomputable def e_spec_l2Moved_3  (m : Nat) : (Int) → (Int) → (Int) → (List D_A3) → (Int) → (Int) → (Int) → (List D_A3) → (Int) → Option (denL R_spec_l2Moved) := Nat.rec (motive := fun _ => (Int) → (Int) → (Int) → (List D_A3) → (Int) → (Int) → (Int) → (List D_A3) → (Int) → Option (denL R_spec_l2Moved)) (fun _ _ _ _ _ _ _ _ _ => none) (fun _ ih p0 p1 p2 p3 p4 p5 p6 p7 p8 =>
  bif decide (p8 < (List.length p3 : Int)) then
    bif inB p8 (List.length p3) then
      bif (decide (((List.length p7) + (List.length ([((IntKind.wrap .i64 (((nth T_A3 p3 p8)).1 + p4)), ((IntKind.wrap .i64 ((((nth T_A3 p3 p8)).2).1 + p5)), ((IntKind.wrap .i64 (((((nth T_A3 p3 p8)).2).2).1 + p6)), ())))] : List D_A3))) * 24 ≤ 140737488355328) && decide (((List.length p7) + (List.length ([((IntKind.wrap .i64 (((nth T_A3 p3 p8)).1 + p4)), ((IntKind.wrap .i64 ((((nth T_A3 p3 p8)).2).1 + p5)), ((IntKind.wrap .i64 (((((nth T_A3 p3 p8)).2).2).1 + p6)), ())))] : List D_A3))) ≤ 140737488355328)) then
        ih p0 p1 p2 p3 p4 p5 p6 (p7 ++ ([((IntKind.wrap .i64 (((nth T_A3 p3 p8)).1 + p4)), ((IntKind.wrap .i64 ((((nth T_A3 p3 p8)).2).1 + p5)), ((IntKind.wrap .i64 (((((nth T_A3 p3 p8)).2).2).1 + p6)), ())))] : List D_A3)) (IntKind.wrap .i64 (p8 + 1))
      else none
    else none
  else
    some (p7, ())) m
theorem w_spec_l2Moved_3    : ∀ (m M : Nat), m ≤ M → ∀ (p0 : Int) (p1 : Int) (p2 : Int) (p3 : List D_A3) (p4 : Int) (p5 : Int) (p6 : Int) (p7 : List D_A3) (p8 : Int), Le (e_spec_l2Moved_3  m p0 p1 p2 p3 p4 p5 p6 p7 p8) (l_spec_l2Moved_3  M p0 p1 p2 p3 p4 p5 p6 p7 p8) := by
  intro m
  induction m with
  | zero => intro M _ p0 p1 p2 p3 p4 p5 p6 p7 p8 ; exact Le.none
  | succ m ih =>
    intro M0 hM p0 p1 p2 p3 p4 p5 p6 p7 p8
    obtain ⟨M, rfl⟩ : ∃ M, M0 = M + 1 := ⟨M0 - 1, by omega⟩
    have hMM : m ≤ M := by omega
    have hK := K_le 200 (by decide)
    rw [q_spec_l2Moved_3]
    show Le (
  bif decide (p8 < (List.length p3 : Int)) then
    bif inB p8 (List.length p3) then
      bif (decide (((List.length p7) + (List.length ([((IntKind.wrap .i64 (((nth T_A3 p3 p8)).1 + p4)), ((IntKind.wrap .i64 ((((nth T_A3 p3 p8)).2).1 + p5)), ((IntKind.wrap .i64 (((((nth T_A3 p3 p8)).2).2).1 + p6)), ())))] : List D_A3))) * 24 ≤ 140737488355328) && decide (((List.length p7) + (List.length ([((IntKind.wrap .i64 (((nth T_A3 p3 p8)).1 + p4)), ((IntKind.wrap .i64 ((((nth T_A3 p3 p8)).2).1 + p5)), ((IntKind.wrap .i64 (((((nth T_A3 p3 p8)).2).2).1 + p6)), ())))] : List D_A3))) ≤ 140737488355328)) then
        (e_spec_l2Moved_3  m) p0 p1 p2 p3 p4 p5 p6 (p7 ++ ([((IntKind.wrap .i64 (((nth T_A3 p3 p8)).1 + p4)), ((IntKind.wrap .i64 ((((nth T_A3 p3 p8)).2).1 + p5)), ((IntKind.wrap .i64 (((((nth T_A3 p3 p8)).2).2).1 + p6)), ())))] : List D_A3)) (IntKind.wrap .i64 (p8 + 1))
      else none
    else none
  else
    some (p7, ())) _
    repeat first
    | with_reducible exact Le.rfl
    | with_reducible exact ih M hMM _ _ _ _ _ _ _ _ _
    | with_reducible refine Le.bind ?_ (fun _ => ?_)
    | with_reducible refine Le.cond ?_ ?_
noncomputable def E_spec_l2Moved : Ft_spec_l2Moved := fun x =>
  e_spec_l2Moved_3 200 x.1.1 x.1.2.1 x.1.2.2.1 x.1.2.2.2.1 x.2.1.1 x.2.1.2.1 x.2.1.2.2.1 ([] : List D_A3) 0
theorem v_spec_l2Moved : ∀ x, Le (E_spec_l2Moved x) (P_spec_l2Moved x) := by
  have hK := K_le 200 (by decide)
  rintro ⟨a0, a1, ⟨⟩⟩
  rw [show P_spec_l2Moved (a0, a1, ()) = _ from p_spec_l2Moved a0 a1]
  show Le (
  e_spec_l2Moved_3 200 a0.1 a0.2.1 a0.2.2.1 a0.2.2.2.1 a1.1 a1.2.1 a1.2.2.1 ([] : List D_A3) 0) _
  repeat first
    | with_reducible exact Le.rfl
    | with_reducible exact w_spec_l2Moved_3 200 N hK _ _ _ _ _ _ _ _ _
    | with_reducible refine Le.bind ?_ (fun _ => ?_)
    | with_reducible refine Le.cond ?_ ?_
noncomputable def E_spec_l2In : Ft_spec_l2In := fun x =>
  Option.bind (E_spec_l1In (x.2.1.1, 0, (IntKind.wrap .i64 (x.1.1 - 1)), ())) fun r0 =>
  bif r0.1 then
    Option.bind (E_spec_l1In (x.2.1.2.1, 0, (IntKind.wrap .i64 (x.1.2.1 - 1)), ())) fun r2 =>
    bif r2.1 then
      Option.bind (E_spec_l1In (x.2.1.2.2.1, 0, (IntKind.wrap .i64 (x.1.2.2.1 - 1)), ())) fun r4 =>
      some (r4.1, ())
    else
      some (false, ())
  else
    some (false, ())
theorem v_spec_l2In : ∀ x, Le (E_spec_l2In x) (P_spec_l2In x) := by
  have hK := K_le 200 (by decide)
  rintro ⟨a0, a1, ⟨⟩⟩
  rw [show P_spec_l2In (a0, a1, ()) = _ from p_spec_l2In a0 a1]
  show Le (
  Option.bind (E_spec_l1In (a1.1, 0, (IntKind.wrap .i64 (a0.1 - 1)), ())) fun r0 =>
  bif r0.1 then
    Option.bind (E_spec_l1In (a1.2.1, 0, (IntKind.wrap .i64 (a0.2.1 - 1)), ())) fun r2 =>
    bif r2.1 then
      Option.bind (E_spec_l1In (a1.2.2.1, 0, (IntKind.wrap .i64 (a0.2.2.1 - 1)), ())) fun r4 =>
      some (r4.1, ())
    else
      some (false, ())
  else
    some (false, ())) _
  repeat first
    | with_reducible exact Le.rfl
    | with_reducible exact v_spec_l1In _
    | with_reducible refine Le.bind ?_ (fun _ => ?_)
    | with_reducible refine Le.cond ?_ ?_
noncomputable def e_spec_l2Before_2  (m : Nat) : (Int) → (Int) → (Int) → (Int) → (Int) → (Int) → (Int) → Option (denL R_spec_l2Before) := Nat.rec (motive := fun _ => (Int) → (Int) → (Int) → (Int) → (Int) → (Int) → (Int) → Option (denL R_spec_l2Before)) (fun _ _ _ _ _ _ _ => none) (fun _ ih p0 p1 p2 p3 p4 p5 p6 =>
  bif decide (p6 < 3) then
    bif inB p6 3 then
      bif inB p6 3 then
        bif !decide ((bif decide (p6 = (0 : Int)) then p0 else (bif decide (p6 = (1 : Int)) then p1 else p2)) = (bif decide (p6 = (0 : Int)) then p3 else (bif decide (p6 = (1 : Int)) then p4 else p5))) then
          bif inB p6 3 then
            bif inB p6 3 then
              some (decide ((bif decide (p6 = (0 : Int)) then p0 else (bif decide (p6 = (1 : Int)) then p1 else p2)) < (bif decide (p6 = (0 : Int)) then p3 else (bif decide (p6 = (1 : Int)) then p4 else p5))), ())
            else none
          else none
        else
          ih p0 p1 p2 p3 p4 p5 (IntKind.wrap .i64 (p6 + 1))
      else none
    else none
  else
    some (false, ())) m
theorem w_spec_l2Before_2    : ∀ (m M : Nat), m ≤ M → ∀ (p0 : Int) (p1 : Int) (p2 : Int) (p3 : Int) (p4 : Int) (p5 : Int) (p6 : Int), Le (e_spec_l2Before_2  m p0 p1 p2 p3 p4 p5 p6) (l_spec_l2Before_2  M p0 p1 p2 p3 p4 p5 p6) := by
  intro m
  induction m with
  | zero => intro M _ p0 p1 p2 p3 p4 p5 p6 ; exact Le.none
  | succ m ih =>
    intro M0 hM p0 p1 p2 p3 p4 p5 p6
    obtain ⟨M, rfl⟩ : ∃ M, M0 = M + 1 := ⟨M0 - 1, by omega⟩
    have hMM : m ≤ M := by omega
    have hK := K_le 200 (by decide)
    rw [q_spec_l2Before_2]
    show Le (
  bif decide (p6 < 3) then
    bif inB p6 3 then
      bif inB p6 3 then
        bif !decide ((bif decide (p6 = (0 : Int)) then p0 else (bif decide (p6 = (1 : Int)) then p1 else p2)) = (bif decide (p6 = (0 : Int)) then p3 else (bif decide (p6 = (1 : Int)) then p4 else p5))) then
          bif inB p6 3 then
            bif inB p6 3 then
              some (decide ((bif decide (p6 = (0 : Int)) then p0 else (bif decide (p6 = (1 : Int)) then p1 else p2)) < (bif decide (p6 = (0 : Int)) then p3 else (bif decide (p6 = (1 : Int)) then p4 else p5))), ())
            else none
          else none
        else
          (e_spec_l2Before_2  m) p0 p1 p2 p3 p4 p5 (IntKind.wrap .i64 (p6 + 1))
      else none
    else none
  else
    some (false, ())) _
    repeat first
    | with_reducible exact Le.rfl
    | with_reducible exact ih M hMM _ _ _ _ _ _ _
    | with_reducible refine Le.bind ?_ (fun _ => ?_)
    | with_reducible refine Le.cond ?_ ?_
noncomputable def E_spec_l2Before : Ft_spec_l2Before := fun x =>
  e_spec_l2Before_2 200 x.1.1 x.1.2.1 x.1.2.2.1 x.2.1.1 x.2.1.2.1 x.2.1.2.2.1 0
theorem v_spec_l2Before : ∀ x, Le (E_spec_l2Before x) (P_spec_l2Before x) := by
  have hK := K_le 200 (by decide)
  rintro ⟨a0, a1, ⟨⟩⟩
  rw [show P_spec_l2Before (a0, a1, ()) = _ from p_spec_l2Before a0 a1]
  show Le (
  e_spec_l2Before_2 200 a0.1 a0.2.1 a0.2.2.1 a1.1 a1.2.1 a1.2.2.1 0) _
  repeat first
    | with_reducible exact Le.rfl
    | with_reducible exact w_spec_l2Before_2 200 N hK _ _ _ _ _ _ _
    | with_reducible refine Le.bind ?_ (fun _ => ?_)
    | with_reducible refine Le.cond ?_ ?_
noncomputable def E_spec_l2Own : Ft_spec_l2Own := fun x =>
  bif (decide (((List.length ([] : List D_A3)) + (List.length x.1.2.2.2.1)) * 24 ≤ 140737488355328) && decide (((List.length ([] : List D_A3)) + (List.length x.1.2.2.2.1)) ≤ 140737488355328)) then
    Option.bind (E_spec_l2Made (x.1, (([] : List D_A3) ++ x.1.2.2.2.1), ())) fun r1 =>
    some ((r1.1.1, (r1.1.2.1, (r1.1.2.2.1, ((([] : List D_A3) ++ x.1.2.2.2.1), ())))), ())
  else none
theorem v_spec_l2Own : ∀ x, Le (E_spec_l2Own x) (P_spec_l2Own x) := by
  have hK := K_le 200 (by decide)
  rintro ⟨a0, ⟨⟩⟩
  rw [show P_spec_l2Own (a0, ()) = _ from p_spec_l2Own a0]
  show Le (
  bif (decide (((List.length ([] : List D_A3)) + (List.length a0.2.2.2.1)) * 24 ≤ 140737488355328) && decide (((List.length ([] : List D_A3)) + (List.length a0.2.2.2.1)) ≤ 140737488355328)) then
    Option.bind (E_spec_l2Made (a0, (([] : List D_A3) ++ a0.2.2.2.1), ())) fun r1 =>
    some ((r1.1.1, (r1.1.2.1, (r1.1.2.2.1, ((([] : List D_A3) ++ a0.2.2.2.1), ())))), ())
  else none) _
  repeat first
    | with_reducible exact Le.rfl
    | with_reducible exact v_spec_l2Made _
    | with_reducible refine Le.bind ?_ (fun _ => ?_)
    | with_reducible refine Le.cond ?_ ?_
noncomputable def e_spec_l2With_2  (m : Nat) : (Int) → (Int) → (Int) → (List D_A3) → (Int) → (Int) → (Int) → (Int) → (Int) → (Int) → (List D_A3) → (Int) → Option (denL R_spec_l2With) := Nat.rec (motive := fun _ => (Int) → (Int) → (Int) → (List D_A3) → (Int) → (Int) → (Int) → (Int) → (Int) → (Int) → (List D_A3) → (Int) → Option (denL R_spec_l2With)) (fun _ _ _ _ _ _ _ _ _ _ _ _ => none) (fun _ ih p0 p1 p2 p3 p4 p5 p6 p7 p8 p9 p10 p11 =>
  bif decide (p11 < (List.length p3 : Int)) then
    bif inB p11 (List.length p3) then
      Option.bind (E_spec_l2Before ((nth T_A3 p3 p11), (p4, (p5, (p6, ()))), ())) fun r2 =>
      bif r2.1 then
        ih p0 p1 p2 p3 p4 p5 p6 p7 p8 p9 p10 (IntKind.wrap .i64 (p11 + 1))
      else
        bif decide (p11 < (List.length p3 : Int)) then
          bif inB p11 (List.length p3) then
            bif (decide (((nth T_A3 p3 p11)).1 = p4) && (decide ((((nth T_A3 p3 p11)).2).1 = p5) && (decide (((((nth T_A3 p3 p11)).2).2).1 = p6) && true))) then
              Option.bind (E_spec_l2Own ((p0, (p1, (p2, (p3, ())))), ())) fun r7 =>
              some (r7.1, ())
            else
              bif (decide ((0 : Int) ≤ 0) && decide ((0 : Int) ≤ p11) && decide (p11 ≤ (List.length p3 : Int))) then
                bif (decide (((List.length ([] : List D_A3)) + (List.length (cut p3 0 p11))) * 24 ≤ 140737488355328) && decide (((List.length ([] : List D_A3)) + (List.length (cut p3 0 p11))) ≤ 140737488355328)) then
                  bif (decide (((List.length (([] : List D_A3) ++ (cut p3 0 p11))) + (List.length ([(p4, (p5, (p6, ())))] : List D_A3))) * 24 ≤ 140737488355328) && decide (((List.length (([] : List D_A3) ++ (cut p3 0 p11))) + (List.length ([(p4, (p5, (p6, ())))] : List D_A3))) ≤ 140737488355328)) then
                    bif (decide ((0 : Int) ≤ p11) && decide (p11 ≤ (List.length p3 : Int)) && decide ((List.length p3 : Int) ≤ (List.length p3 : Int))) then
                      bif (decide (((List.length ((([] : List D_A3) ++ (cut p3 0 p11)) ++ ([(p4, (p5, (p6, ())))] : List D_A3))) + (List.length (cut p3 p11 (List.length p3 : Int)))) * 24 ≤ 140737488355328) && decide (((List.length ((([] : List D_A3) ++ (cut p3 0 p11)) ++ ([(p4, (p5, (p6, ())))] : List D_A3))) + (List.length (cut p3 p11 (List.length p3 : Int)))) ≤ 140737488355328)) then
                        Option.bind (E_spec_l2Made ((p0, (p1, (p2, (p3, ())))), (((([] : List D_A3) ++ (cut p3 0 p11)) ++ ([(p4, (p5, (p6, ())))] : List D_A3)) ++ (cut p3 p11 (List.length p3 : Int))), ())) fun r12 =>
                        some ((r12.1.1, (r12.1.2.1, (r12.1.2.2.1, ((((([] : List D_A3) ++ (cut p3 0 p11)) ++ ([(p4, (p5, (p6, ())))] : List D_A3)) ++ (cut p3 p11 (List.length p3 : Int))), ())))), ())
                      else none
                    else none
                  else none
                else none
              else none
          else none
        else
          bif (decide ((0 : Int) ≤ 0) && decide ((0 : Int) ≤ p11) && decide (p11 ≤ (List.length p3 : Int))) then
            bif (decide (((List.length ([] : List D_A3)) + (List.length (cut p3 0 p11))) * 24 ≤ 140737488355328) && decide (((List.length ([] : List D_A3)) + (List.length (cut p3 0 p11))) ≤ 140737488355328)) then
              bif (decide (((List.length (([] : List D_A3) ++ (cut p3 0 p11))) + (List.length ([(p4, (p5, (p6, ())))] : List D_A3))) * 24 ≤ 140737488355328) && decide (((List.length (([] : List D_A3) ++ (cut p3 0 p11))) + (List.length ([(p4, (p5, (p6, ())))] : List D_A3))) ≤ 140737488355328)) then
                bif (decide ((0 : Int) ≤ p11) && decide (p11 ≤ (List.length p3 : Int)) && decide ((List.length p3 : Int) ≤ (List.length p3 : Int))) then
                  bif (decide (((List.length ((([] : List D_A3) ++ (cut p3 0 p11)) ++ ([(p4, (p5, (p6, ())))] : List D_A3))) + (List.length (cut p3 p11 (List.length p3 : Int)))) * 24 ≤ 140737488355328) && decide (((List.length ((([] : List D_A3) ++ (cut p3 0 p11)) ++ ([(p4, (p5, (p6, ())))] : List D_A3))) + (List.length (cut p3 p11 (List.length p3 : Int)))) ≤ 140737488355328)) then
                    Option.bind (E_spec_l2Made ((p0, (p1, (p2, (p3, ())))), (((([] : List D_A3) ++ (cut p3 0 p11)) ++ ([(p4, (p5, (p6, ())))] : List D_A3)) ++ (cut p3 p11 (List.length p3 : Int))), ())) fun r10 =>
                    some ((r10.1.1, (r10.1.2.1, (r10.1.2.2.1, ((((([] : List D_A3) ++ (cut p3 0 p11)) ++ ([(p4, (p5, (p6, ())))] : List D_A3)) ++ (cut p3 p11 (List.length p3 : Int))), ())))), ())
                  else none
                else none
              else none
            else none
          else none
    else none
  else
    bif decide (p11 < (List.length p3 : Int)) then
      bif inB p11 (List.length p3) then
        bif (decide (((nth T_A3 p3 p11)).1 = p4) && (decide ((((nth T_A3 p3 p11)).2).1 = p5) && (decide (((((nth T_A3 p3 p11)).2).2).1 = p6) && true))) then
          Option.bind (E_spec_l2Own ((p0, (p1, (p2, (p3, ())))), ())) fun r4 =>
          some (r4.1, ())
        else
          bif (decide ((0 : Int) ≤ 0) && decide ((0 : Int) ≤ p11) && decide (p11 ≤ (List.length p3 : Int))) then
            bif (decide (((List.length ([] : List D_A3)) + (List.length (cut p3 0 p11))) * 24 ≤ 140737488355328) && decide (((List.length ([] : List D_A3)) + (List.length (cut p3 0 p11))) ≤ 140737488355328)) then
              bif (decide (((List.length (([] : List D_A3) ++ (cut p3 0 p11))) + (List.length ([(p4, (p5, (p6, ())))] : List D_A3))) * 24 ≤ 140737488355328) && decide (((List.length (([] : List D_A3) ++ (cut p3 0 p11))) + (List.length ([(p4, (p5, (p6, ())))] : List D_A3))) ≤ 140737488355328)) then
                bif (decide ((0 : Int) ≤ p11) && decide (p11 ≤ (List.length p3 : Int)) && decide ((List.length p3 : Int) ≤ (List.length p3 : Int))) then
                  bif (decide (((List.length ((([] : List D_A3) ++ (cut p3 0 p11)) ++ ([(p4, (p5, (p6, ())))] : List D_A3))) + (List.length (cut p3 p11 (List.length p3 : Int)))) * 24 ≤ 140737488355328) && decide (((List.length ((([] : List D_A3) ++ (cut p3 0 p11)) ++ ([(p4, (p5, (p6, ())))] : List D_A3))) + (List.length (cut p3 p11 (List.length p3 : Int)))) ≤ 140737488355328)) then
                    Option.bind (E_spec_l2Made ((p0, (p1, (p2, (p3, ())))), (((([] : List D_A3) ++ (cut p3 0 p11)) ++ ([(p4, (p5, (p6, ())))] : List D_A3)) ++ (cut p3 p11 (List.length p3 : Int))), ())) fun r9 =>
                    some ((r9.1.1, (r9.1.2.1, (r9.1.2.2.1, ((((([] : List D_A3) ++ (cut p3 0 p11)) ++ ([(p4, (p5, (p6, ())))] : List D_A3)) ++ (cut p3 p11 (List.length p3 : Int))), ())))), ())
                  else none
                else none
              else none
            else none
          else none
      else none
    else
      bif (decide ((0 : Int) ≤ 0) && decide ((0 : Int) ≤ p11) && decide (p11 ≤ (List.length p3 : Int))) then
        bif (decide (((List.length ([] : List D_A3)) + (List.length (cut p3 0 p11))) * 24 ≤ 140737488355328) && decide (((List.length ([] : List D_A3)) + (List.length (cut p3 0 p11))) ≤ 140737488355328)) then
          bif (decide (((List.length (([] : List D_A3) ++ (cut p3 0 p11))) + (List.length ([(p4, (p5, (p6, ())))] : List D_A3))) * 24 ≤ 140737488355328) && decide (((List.length (([] : List D_A3) ++ (cut p3 0 p11))) + (List.length ([(p4, (p5, (p6, ())))] : List D_A3))) ≤ 140737488355328)) then
            bif (decide ((0 : Int) ≤ p11) && decide (p11 ≤ (List.length p3 : Int)) && decide ((List.length p3 : Int) ≤ (List.length p3 : Int))) then
              bif (decide (((List.length ((([] : List D_A3) ++ (cut p3 0 p11)) ++ ([(p4, (p5, (p6, ())))] : List D_A3))) + (List.length (cut p3 p11 (List.length p3 : Int)))) * 24 ≤ 140737488355328) && decide (((List.length ((([] : List D_A3) ++ (cut p3 0 p11)) ++ ([(p4, (p5, (p6, ())))] : List D_A3))) + (List.length (cut p3 p11 (List.length p3 : Int)))) ≤ 140737488355328)) then
                Option.bind (E_spec_l2Made ((p0, (p1, (p2, (p3, ())))), (((([] : List D_A3) ++ (cut p3 0 p11)) ++ ([(p4, (p5, (p6, ())))] : List D_A3)) ++ (cut p3 p11 (List.length p3 : Int))), ())) fun r7 =>
                some ((r7.1.1, (r7.1.2.1, (r7.1.2.2.1, ((((([] : List D_A3) ++ (cut p3 0 p11)) ++ ([(p4, (p5, (p6, ())))] : List D_A3)) ++ (cut p3 p11 (List.length p3 : Int))), ())))), ())
              else none
            else none
          else none
        else none
      else none) m
theorem w_spec_l2With_2    : ∀ (m M : Nat), m ≤ M → ∀ (p0 : Int) (p1 : Int) (p2 : Int) (p3 : List D_A3) (p4 : Int) (p5 : Int) (p6 : Int) (p7 : Int) (p8 : Int) (p9 : Int) (p10 : List D_A3) (p11 : Int), Le (e_spec_l2With_2  m p0 p1 p2 p3 p4 p5 p6 p7 p8 p9 p10 p11) (l_spec_l2With_2  M p0 p1 p2 p3 p4 p5 p6 p7 p8 p9 p10 p11) := by
  intro m
  induction m with
  | zero => intro M _ p0 p1 p2 p3 p4 p5 p6 p7 p8 p9 p10 p11 ; exact Le.none
  | succ m ih =>
    intro M0 hM p0 p1 p2 p3 p4 p5 p6 p7 p8 p9 p10 p11
    obtain ⟨M, rfl⟩ : ∃ M, M0 = M + 1 := ⟨M0 - 1, by omega⟩
    have hMM : m ≤ M := by omega
    have hK := K_le 200 (by decide)
    rw [q_spec_l2With_2]
    show Le (
  bif decide (p11 < (List.length p3 : Int)) then
    bif inB p11 (List.length p3) then
      Option.bind (E_spec_l2Before ((nth T_A3 p3 p11), (p4, (p5, (p6, ()))), ())) fun r2 =>
      bif r2.1 then
        (e_spec_l2With_2  m) p0 p1 p2 p3 p4 p5 p6 p7 p8 p9 p10 (IntKind.wrap .i64 (p11 + 1))
      else
        bif decide (p11 < (List.length p3 : Int)) then
          bif inB p11 (List.length p3) then
            bif (decide (((nth T_A3 p3 p11)).1 = p4) && (decide ((((nth T_A3 p3 p11)).2).1 = p5) && (decide (((((nth T_A3 p3 p11)).2).2).1 = p6) && true))) then
              Option.bind (E_spec_l2Own ((p0, (p1, (p2, (p3, ())))), ())) fun r7 =>
              some (r7.1, ())
            else
              bif (decide ((0 : Int) ≤ 0) && decide ((0 : Int) ≤ p11) && decide (p11 ≤ (List.length p3 : Int))) then
                bif (decide (((List.length ([] : List D_A3)) + (List.length (cut p3 0 p11))) * 24 ≤ 140737488355328) && decide (((List.length ([] : List D_A3)) + (List.length (cut p3 0 p11))) ≤ 140737488355328)) then
                  bif (decide (((List.length (([] : List D_A3) ++ (cut p3 0 p11))) + (List.length ([(p4, (p5, (p6, ())))] : List D_A3))) * 24 ≤ 140737488355328) && decide (((List.length (([] : List D_A3) ++ (cut p3 0 p11))) + (List.length ([(p4, (p5, (p6, ())))] : List D_A3))) ≤ 140737488355328)) then
                    bif (decide ((0 : Int) ≤ p11) && decide (p11 ≤ (List.length p3 : Int)) && decide ((List.length p3 : Int) ≤ (List.length p3 : Int))) then
                      bif (decide (((List.length ((([] : List D_A3) ++ (cut p3 0 p11)) ++ ([(p4, (p5, (p6, ())))] : List D_A3))) + (List.length (cut p3 p11 (List.length p3 : Int)))) * 24 ≤ 140737488355328) && decide (((List.length ((([] : List D_A3) ++ (cut p3 0 p11)) ++ ([(p4, (p5, (p6, ())))] : List D_A3))) + (List.length (cut p3 p11 (List.length p3 : Int)))) ≤ 140737488355328)) then
                        Option.bind (E_spec_l2Made ((p0, (p1, (p2, (p3, ())))), (((([] : List D_A3) ++ (cut p3 0 p11)) ++ ([(p4, (p5, (p6, ())))] : List D_A3)) ++ (cut p3 p11 (List.length p3 : Int))), ())) fun r12 =>
                        some ((r12.1.1, (r12.1.2.1, (r12.1.2.2.1, ((((([] : List D_A3) ++ (cut p3 0 p11)) ++ ([(p4, (p5, (p6, ())))] : List D_A3)) ++ (cut p3 p11 (List.length p3 : Int))), ())))), ())
                      else none
                    else none
                  else none
                else none
              else none
          else none
        else
          bif (decide ((0 : Int) ≤ 0) && decide ((0 : Int) ≤ p11) && decide (p11 ≤ (List.length p3 : Int))) then
            bif (decide (((List.length ([] : List D_A3)) + (List.length (cut p3 0 p11))) * 24 ≤ 140737488355328) && decide (((List.length ([] : List D_A3)) + (List.length (cut p3 0 p11))) ≤ 140737488355328)) then
              bif (decide (((List.length (([] : List D_A3) ++ (cut p3 0 p11))) + (List.length ([(p4, (p5, (p6, ())))] : List D_A3))) * 24 ≤ 140737488355328) && decide (((List.length (([] : List D_A3) ++ (cut p3 0 p11))) + (List.length ([(p4, (p5, (p6, ())))] : List D_A3))) ≤ 140737488355328)) then
                bif (decide ((0 : Int) ≤ p11) && decide (p11 ≤ (List.length p3 : Int)) && decide ((List.length p3 : Int) ≤ (List.length p3 : Int))) then
                  bif (decide (((List.length ((([] : List D_A3) ++ (cut p3 0 p11)) ++ ([(p4, (p5, (p6, ())))] : List D_A3))) + (List.length (cut p3 p11 (List.length p3 : Int)))) * 24 ≤ 140737488355328) && decide (((List.length ((([] : List D_A3) ++ (cut p3 0 p11)) ++ ([(p4, (p5, (p6, ())))] : List D_A3))) + (List.length (cut p3 p11 (List.length p3 : Int)))) ≤ 140737488355328)) then
                    Option.bind (E_spec_l2Made ((p0, (p1, (p2, (p3, ())))), (((([] : List D_A3) ++ (cut p3 0 p11)) ++ ([(p4, (p5, (p6, ())))] : List D_A3)) ++ (cut p3 p11 (List.length p3 : Int))), ())) fun r10 =>
                    some ((r10.1.1, (r10.1.2.1, (r10.1.2.2.1, ((((([] : List D_A3) ++ (cut p3 0 p11)) ++ ([(p4, (p5, (p6, ())))] : List D_A3)) ++ (cut p3 p11 (List.length p3 : Int))), ())))), ())
                  else none
                else none
              else none
            else none
          else none
    else none
  else
    bif decide (p11 < (List.length p3 : Int)) then
      bif inB p11 (List.length p3) then
        bif (decide (((nth T_A3 p3 p11)).1 = p4) && (decide ((((nth T_A3 p3 p11)).2).1 = p5) && (decide (((((nth T_A3 p3 p11)).2).2).1 = p6) && true))) then
          Option.bind (E_spec_l2Own ((p0, (p1, (p2, (p3, ())))), ())) fun r4 =>
          some (r4.1, ())
        else
          bif (decide ((0 : Int) ≤ 0) && decide ((0 : Int) ≤ p11) && decide (p11 ≤ (List.length p3 : Int))) then
            bif (decide (((List.length ([] : List D_A3)) + (List.length (cut p3 0 p11))) * 24 ≤ 140737488355328) && decide (((List.length ([] : List D_A3)) + (List.length (cut p3 0 p11))) ≤ 140737488355328)) then
              bif (decide (((List.length (([] : List D_A3) ++ (cut p3 0 p11))) + (List.length ([(p4, (p5, (p6, ())))] : List D_A3))) * 24 ≤ 140737488355328) && decide (((List.length (([] : List D_A3) ++ (cut p3 0 p11))) + (List.length ([(p4, (p5, (p6, ())))] : List D_A3))) ≤ 140737488355328)) then
                bif (decide ((0 : Int) ≤ p11) && decide (p11 ≤ (List.length p3 : Int)) && decide ((List.length p3 : Int) ≤ (List.length p3 : Int))) then
                  bif (decide (((List.length ((([] : List D_A3) ++ (cut p3 0 p11)) ++ ([(p4, (p5, (p6, ())))] : List D_A3))) + (List.length (cut p3 p11 (List.length p3 : Int)))) * 24 ≤ 140737488355328) && decide (((List.length ((([] : List D_A3) ++ (cut p3 0 p11)) ++ ([(p4, (p5, (p6, ())))] : List D_A3))) + (List.length (cut p3 p11 (List.length p3 : Int)))) ≤ 140737488355328)) then
                    Option.bind (E_spec_l2Made ((p0, (p1, (p2, (p3, ())))), (((([] : List D_A3) ++ (cut p3 0 p11)) ++ ([(p4, (p5, (p6, ())))] : List D_A3)) ++ (cut p3 p11 (List.length p3 : Int))), ())) fun r9 =>
                    some ((r9.1.1, (r9.1.2.1, (r9.1.2.2.1, ((((([] : List D_A3) ++ (cut p3 0 p11)) ++ ([(p4, (p5, (p6, ())))] : List D_A3)) ++ (cut p3 p11 (List.length p3 : Int))), ())))), ())
                  else none
                else none
              else none
            else none
          else none
      else none
    else
      bif (decide ((0 : Int) ≤ 0) && decide ((0 : Int) ≤ p11) && decide (p11 ≤ (List.length p3 : Int))) then
        bif (decide (((List.length ([] : List D_A3)) + (List.length (cut p3 0 p11))) * 24 ≤ 140737488355328) && decide (((List.length ([] : List D_A3)) + (List.length (cut p3 0 p11))) ≤ 140737488355328)) then
          bif (decide (((List.length (([] : List D_A3) ++ (cut p3 0 p11))) + (List.length ([(p4, (p5, (p6, ())))] : List D_A3))) * 24 ≤ 140737488355328) && decide (((List.length (([] : List D_A3) ++ (cut p3 0 p11))) + (List.length ([(p4, (p5, (p6, ())))] : List D_A3))) ≤ 140737488355328)) then
            bif (decide ((0 : Int) ≤ p11) && decide (p11 ≤ (List.length p3 : Int)) && decide ((List.length p3 : Int) ≤ (List.length p3 : Int))) then
              bif (decide (((List.length ((([] : List D_A3) ++ (cut p3 0 p11)) ++ ([(p4, (p5, (p6, ())))] : List D_A3))) + (List.length (cut p3 p11 (List.length p3 : Int)))) * 24 ≤ 140737488355328) && decide (((List.length ((([] : List D_A3) ++ (cut p3 0 p11)) ++ ([(p4, (p5, (p6, ())))] : List D_A3))) + (List.length (cut p3 p11 (List.length p3 : Int)))) ≤ 140737488355328)) then
                Option.bind (E_spec_l2Made ((p0, (p1, (p2, (p3, ())))), (((([] : List D_A3) ++ (cut p3 0 p11)) ++ ([(p4, (p5, (p6, ())))] : List D_A3)) ++ (cut p3 p11 (List.length p3 : Int))), ())) fun r7 =>
                some ((r7.1.1, (r7.1.2.1, (r7.1.2.2.1, ((((([] : List D_A3) ++ (cut p3 0 p11)) ++ ([(p4, (p5, (p6, ())))] : List D_A3)) ++ (cut p3 p11 (List.length p3 : Int))), ())))), ())
              else none
            else none
          else none
        else none
      else none) _
    repeat first
    | with_reducible exact Le.rfl
    | with_reducible exact ih M hMM _ _ _ _ _ _ _ _ _ _ _ _
    | with_reducible exact v_spec_l2Before _
    | with_reducible exact v_spec_l2Made _
    | with_reducible exact v_spec_l2Own _
    | with_reducible refine Le.bind ?_ (fun _ => ?_)
    | with_reducible refine Le.cond ?_ ?_
noncomputable def E_spec_l2With : Ft_spec_l2With := fun x =>
  e_spec_l2With_2 200 x.1.1 x.1.2.1 x.1.2.2.1 x.1.2.2.2.1 x.2.1.1 x.2.1.2.1 x.2.1.2.2.1 0 0 0 ([] : List D_A3) 0
theorem v_spec_l2With : ∀ x, Le (E_spec_l2With x) (P_spec_l2With x) := by
  have hK := K_le 200 (by decide)
  rintro ⟨a0, a1, ⟨⟩⟩
  rw [show P_spec_l2With (a0, a1, ()) = _ from p_spec_l2With a0 a1]
  show Le (
  e_spec_l2With_2 200 a0.1 a0.2.1 a0.2.2.1 a0.2.2.2.1 a1.1 a1.2.1 a1.2.2.1 0 0 0 ([] : List D_A3) 0) _
  repeat first
    | with_reducible exact Le.rfl
    | with_reducible exact w_spec_l2With_2 200 N hK _ _ _ _ _ _ _ _ _ _ _ _
    | with_reducible refine Le.bind ?_ (fun _ => ?_)
    | with_reducible refine Le.cond ?_ ?_
noncomputable def e_spec_l8Grown_11  (m : Nat) : (Int) → (Int) → (Int) → (List D_A3) → (Int) → (Int) → (Int) → (List D_A3) → (List D_A3) → (Int) → Option (denL R_spec_l8Grown) := Nat.rec (motive := fun _ => (Int) → (Int) → (Int) → (List D_A3) → (Int) → (Int) → (Int) → (List D_A3) → (List D_A3) → (Int) → Option (denL R_spec_l8Grown)) (fun _ _ _ _ _ _ _ _ _ _ => none) (fun _ ih p0 p1 p2 p3 p4 p5 p6 p7 p8 p9 =>
  bif decide (p9 < (List.length p8 : Int)) then
    bif inB p9 (List.length p8) then
      Option.bind (E_spec_l2In ((p4, (p5, (p6, (p7, ())))), (nth T_A3 p8 p9), ())) fun r2 =>
      bif !r2.1 then
        some ((0, (0, (0, (([] : List D_A3), ())))), false, ())
      else
        bif inB p9 (List.length p8) then
          Option.bind (E_spec_l2With ((p4, (p5, (p6, (p7, ())))), (nth T_A3 p8 p9), ())) fun r5 =>
          ih p0 p1 p2 p3 r5.1.1 r5.1.2.1 r5.1.2.2.1 r5.1.2.2.2.1 p8 (IntKind.wrap .i64 (p9 + 1))
        else none
    else none
  else
    some ((p4, (p5, (p6, (p7, ())))), true, ())) m
theorem w_spec_l8Grown_11    : ∀ (m M : Nat), m ≤ M → ∀ (p0 : Int) (p1 : Int) (p2 : Int) (p3 : List D_A3) (p4 : Int) (p5 : Int) (p6 : Int) (p7 : List D_A3) (p8 : List D_A3) (p9 : Int), Le (e_spec_l8Grown_11  m p0 p1 p2 p3 p4 p5 p6 p7 p8 p9) (l_spec_l8Grown_11  M p0 p1 p2 p3 p4 p5 p6 p7 p8 p9) := by
  intro m
  induction m with
  | zero => intro M _ p0 p1 p2 p3 p4 p5 p6 p7 p8 p9 ; exact Le.none
  | succ m ih =>
    intro M0 hM p0 p1 p2 p3 p4 p5 p6 p7 p8 p9
    obtain ⟨M, rfl⟩ : ∃ M, M0 = M + 1 := ⟨M0 - 1, by omega⟩
    have hMM : m ≤ M := by omega
    have hK := K_le 200 (by decide)
    rw [q_spec_l8Grown_11]
    show Le (
  bif decide (p9 < (List.length p8 : Int)) then
    bif inB p9 (List.length p8) then
      Option.bind (E_spec_l2In ((p4, (p5, (p6, (p7, ())))), (nth T_A3 p8 p9), ())) fun r2 =>
      bif !r2.1 then
        some ((0, (0, (0, (([] : List D_A3), ())))), false, ())
      else
        bif inB p9 (List.length p8) then
          Option.bind (E_spec_l2With ((p4, (p5, (p6, (p7, ())))), (nth T_A3 p8 p9), ())) fun r5 =>
          (e_spec_l8Grown_11  m) p0 p1 p2 p3 r5.1.1 r5.1.2.1 r5.1.2.2.1 r5.1.2.2.2.1 p8 (IntKind.wrap .i64 (p9 + 1))
        else none
    else none
  else
    some ((p4, (p5, (p6, (p7, ())))), true, ())) _
    repeat first
    | with_reducible exact Le.rfl
    | with_reducible exact ih M hMM _ _ _ _ _ _ _ _ _ _
    | with_reducible exact v_spec_l2In _
    | with_reducible exact v_spec_l2With _
    | with_reducible refine Le.bind ?_ (fun _ => ?_)
    | with_reducible refine Le.cond ?_ ?_
noncomputable def e_spec_l8Grown_5  (m : Nat) : (Int) → (Int) → (Int) → (List D_A3) → (Int) → (Int) → (Int) → (Int) → (Int) → (Int) → (List D_A3) → (Int) → (Int) → (Int) → (Int) → Option (denL R_spec_l8Grown) := Nat.rec (motive := fun _ => (Int) → (Int) → (Int) → (List D_A3) → (Int) → (Int) → (Int) → (Int) → (Int) → (Int) → (List D_A3) → (Int) → (Int) → (Int) → (Int) → Option (denL R_spec_l8Grown)) (fun _ _ _ _ _ _ _ _ _ _ _ _ _ _ _ => none) (fun _ ih p0 p1 p2 p3 p4 p5 p6 p7 p8 p9 p10 p11 p12 p13 p14 =>
  bif decide (p14 < 3) then
    bif inB p14 3 then
      Option.bind (E_spec_l1Most (0, (IntKind.wrap .i64 (0 - (bif decide (p14 = (0 : Int)) then p4 else (bif decide (p14 = (1 : Int)) then p5 else p6)))), ())) fun r2 =>
      bif inB p14 3 then
        ih p0 p1 p2 p3 p4 p5 p6 p7 p8 p9 p10 (bif decide (p14 = (0 : Int)) then r2.1 else p11) (bif decide (p14 = (1 : Int)) then r2.1 else p12) (bif decide (p14 = (2 : Int)) then r2.1 else p13) (IntKind.wrap .i64 (p14 + 1))
      else none
    else none
  else
    Option.bind (E_spec_l2Empty (4, 4, 4, ())) fun r1 =>
    bif (decide (((List.length ([(p4, (p5, (p6, ())))] : List D_A3)) + (List.length p3)) * 24 ≤ 140737488355328) && decide (((List.length ([(p4, (p5, (p6, ())))] : List D_A3)) + (List.length p3)) ≤ 140737488355328)) then
      Option.bind (E_spec_l2Made ((p0, (p1, (p2, (p3, ())))), (([(p4, (p5, (p6, ())))] : List D_A3) ++ p3), ())) fun r3 =>
      Option.bind (E_spec_l2Moved ((r3.1.1, (r3.1.2.1, (r3.1.2.2.1, ((([(p4, (p5, (p6, ())))] : List D_A3) ++ p3), ())))), (p11, (p12, (p13, ()))), ())) fun r4 =>
      e_spec_l8Grown_11 200 p7 p8 p9 p10 r1.1.1 r1.1.2.1 r1.1.2.2.1 r1.1.2.2.2.1 r4.1 0
    else none) m
theorem w_spec_l8Grown_5    : ∀ (m M : Nat), m ≤ M → ∀ (p0 : Int) (p1 : Int) (p2 : Int) (p3 : List D_A3) (p4 : Int) (p5 : Int) (p6 : Int) (p7 : Int) (p8 : Int) (p9 : Int) (p10 : List D_A3) (p11 : Int) (p12 : Int) (p13 : Int) (p14 : Int), Le (e_spec_l8Grown_5  m p0 p1 p2 p3 p4 p5 p6 p7 p8 p9 p10 p11 p12 p13 p14) (l_spec_l8Grown_5  M p0 p1 p2 p3 p4 p5 p6 p7 p8 p9 p10 p11 p12 p13 p14) := by
  intro m
  induction m with
  | zero => intro M _ p0 p1 p2 p3 p4 p5 p6 p7 p8 p9 p10 p11 p12 p13 p14 ; exact Le.none
  | succ m ih =>
    intro M0 hM p0 p1 p2 p3 p4 p5 p6 p7 p8 p9 p10 p11 p12 p13 p14
    obtain ⟨M, rfl⟩ : ∃ M, M0 = M + 1 := ⟨M0 - 1, by omega⟩
    have hMM : m ≤ M := by omega
    have hK := K_le 200 (by decide)
    rw [q_spec_l8Grown_5]
    show Le (
  bif decide (p14 < 3) then
    bif inB p14 3 then
      Option.bind (E_spec_l1Most (0, (IntKind.wrap .i64 (0 - (bif decide (p14 = (0 : Int)) then p4 else (bif decide (p14 = (1 : Int)) then p5 else p6)))), ())) fun r2 =>
      bif inB p14 3 then
        (e_spec_l8Grown_5  m) p0 p1 p2 p3 p4 p5 p6 p7 p8 p9 p10 (bif decide (p14 = (0 : Int)) then r2.1 else p11) (bif decide (p14 = (1 : Int)) then r2.1 else p12) (bif decide (p14 = (2 : Int)) then r2.1 else p13) (IntKind.wrap .i64 (p14 + 1))
      else none
    else none
  else
    Option.bind (E_spec_l2Empty (4, 4, 4, ())) fun r1 =>
    bif (decide (((List.length ([(p4, (p5, (p6, ())))] : List D_A3)) + (List.length p3)) * 24 ≤ 140737488355328) && decide (((List.length ([(p4, (p5, (p6, ())))] : List D_A3)) + (List.length p3)) ≤ 140737488355328)) then
      Option.bind (E_spec_l2Made ((p0, (p1, (p2, (p3, ())))), (([(p4, (p5, (p6, ())))] : List D_A3) ++ p3), ())) fun r3 =>
      Option.bind (E_spec_l2Moved ((r3.1.1, (r3.1.2.1, (r3.1.2.2.1, ((([(p4, (p5, (p6, ())))] : List D_A3) ++ p3), ())))), (p11, (p12, (p13, ()))), ())) fun r4 =>
      e_spec_l8Grown_11 200 p7 p8 p9 p10 r1.1.1 r1.1.2.1 r1.1.2.2.1 r1.1.2.2.2.1 r4.1 0
    else none) _
    repeat first
    | with_reducible exact Le.rfl
    | with_reducible exact ih M hMM _ _ _ _ _ _ _ _ _ _ _ _ _ _ _
    | with_reducible exact w_spec_l8Grown_11    200 N hK _ _ _ _ _ _ _ _ _ _
    | with_reducible exact v_spec_l1Most _
    | with_reducible exact v_spec_l2Empty _
    | with_reducible exact v_spec_l2Made _
    | with_reducible exact v_spec_l2Moved _
    | with_reducible refine Le.bind ?_ (fun _ => ?_)
    | with_reducible refine Le.cond ?_ ?_
noncomputable def E_spec_l8Grown : Ft_spec_l8Grown := fun x =>
  Option.bind (E_spec_l2Has (x.1, x.2.1, ())) fun r0 =>
  bif r0.1 then
    some ((0, (0, (0, (([] : List D_A3), ())))), false, ())
  else
    e_spec_l8Grown_5 200 x.1.1 x.1.2.1 x.1.2.2.1 x.1.2.2.2.1 x.2.1.1 x.2.1.2.1 x.2.1.2.2.1 0 0 0 ([] : List D_A3) 0 0 0 0
theorem v_spec_l8Grown : ∀ x, Le (E_spec_l8Grown x) (P_spec_l8Grown x) := by
  have hK := K_le 200 (by decide)
  rintro ⟨a0, a1, ⟨⟩⟩
  rw [show P_spec_l8Grown (a0, a1, ()) = _ from p_spec_l8Grown a0 a1]
  show Le (
  Option.bind (E_spec_l2Has (a0, a1, ())) fun r0 =>
  bif r0.1 then
    some ((0, (0, (0, (([] : List D_A3), ())))), false, ())
  else
    e_spec_l8Grown_5 200 a0.1 a0.2.1 a0.2.2.1 a0.2.2.2.1 a1.1 a1.2.1 a1.2.2.1 0 0 0 ([] : List D_A3) 0 0 0 0) _
  repeat first
    | with_reducible exact Le.rfl
    | with_reducible exact w_spec_l8Grown_5 200 N hK _ _ _ _ _ _ _ _ _ _ _ _ _ _ _
    | with_reducible exact v_spec_l2Has _
    | with_reducible refine Le.bind ?_ (fun _ => ?_)
    | with_reducible refine Le.cond ?_ ?_
noncomputable def E_spec_l1Least : Ft_spec_l1Least := fun x =>
  bif decide (x.1 < x.2.1) then
    some (x.1, ())
  else
    some (x.2.1, ())
theorem v_spec_l1Least : ∀ x, Le (E_spec_l1Least x) (P_spec_l1Least x) := by
  have hK := K_le 200 (by decide)
  rintro ⟨a0, a1, ⟨⟩⟩
  rw [show P_spec_l1Least (a0, a1, ()) = _ from p_spec_l1Least a0 a1]
  show Le (
  bif decide (a0 < a1) then
    some (a0, ())
  else
    some (a1, ())) _
  repeat first
    | with_reducible exact Le.rfl
    | with_reducible refine Le.bind ?_ (fun _ => ?_)
    | with_reducible refine Le.cond ?_ ?_
noncomputable def e_spec_l2Cropped_6 (k_3 : (Int) → (Int) → (Int) → (List D_A3) → (Int) → (Int) → (Int) → (List D_A3) → (Int) → (Int) → (Int) → (Int) → (Int) → (Int) → (Int) → Option (denL R_spec_l2Cropped)) (m : Nat) : (Int) → (Int) → (Int) → (List D_A3) → (Int) → (Int) → (Int) → (List D_A3) → (Int) → (Int) → (Int) → (Int) → (Int) → (Int) → (Int) → (Int) → Option (denL R_spec_l2Cropped) := Nat.rec (motive := fun _ => (Int) → (Int) → (Int) → (List D_A3) → (Int) → (Int) → (Int) → (List D_A3) → (Int) → (Int) → (Int) → (Int) → (Int) → (Int) → (Int) → (Int) → Option (denL R_spec_l2Cropped)) (fun _ _ _ _ _ _ _ _ _ _ _ _ _ _ _ _ => none) (fun _ ih p0 p1 p2 p3 p4 p5 p6 p7 p8 p9 p10 p11 p12 p13 p14 p15 =>
  bif decide (p15 < 3) then
    bif inB p15 3 then
      bif inB p14 (List.length p3) then
        bif inB p15 3 then
          Option.bind (E_spec_l1Least ((bif decide (p15 = (0 : Int)) then p8 else (bif decide (p15 = (1 : Int)) then p9 else p10)), (bif decide (p15 = (0 : Int)) then ((nth T_A3 p3 p14)).1 else (bif decide (p15 = (1 : Int)) then (((nth T_A3 p3 p14)).2).1 else ((((nth T_A3 p3 p14)).2).2).1)), ())) fun r4 =>
          bif inB p15 3 then
            bif inB p15 3 then
              bif inB p14 (List.length p3) then
                bif inB p15 3 then
                  Option.bind (E_spec_l1Most ((bif decide (p15 = (0 : Int)) then p11 else (bif decide (p15 = (1 : Int)) then p12 else p13)), (bif decide (p15 = (0 : Int)) then ((nth T_A3 p3 p14)).1 else (bif decide (p15 = (1 : Int)) then (((nth T_A3 p3 p14)).2).1 else ((((nth T_A3 p3 p14)).2).2).1)), ())) fun r9 =>
                  bif inB p15 3 then
                    ih p0 p1 p2 p3 p4 p5 p6 p7 (bif decide (p15 = (0 : Int)) then r4.1 else p8) (bif decide (p15 = (1 : Int)) then r4.1 else p9) (bif decide (p15 = (2 : Int)) then r4.1 else p10) (bif decide (p15 = (0 : Int)) then r9.1 else p11) (bif decide (p15 = (1 : Int)) then r9.1 else p12) (bif decide (p15 = (2 : Int)) then r9.1 else p13) p14 (IntKind.wrap .i64 (p15 + 1))
                  else none
                else none
              else none
            else none
          else none
        else none
      else none
    else none
  else
    k_3 p0 p1 p2 p3 p4 p5 p6 p7 p8 p9 p10 p11 p12 p13 (IntKind.wrap .i64 (p14 + 1))) m
theorem w_spec_l2Cropped_6 (m0 : Nat) (k_3 : (Int) → (Int) → (Int) → (List D_A3) → (Int) → (Int) → (Int) → (List D_A3) → (Int) → (Int) → (Int) → (Int) → (Int) → (Int) → (Int) → Option (denL R_spec_l2Cropped)) (h_3 : ∀ (p0 : Int) (p1 : Int) (p2 : Int) (p3 : List D_A3) (p4 : Int) (p5 : Int) (p6 : Int) (p7 : List D_A3) (p8 : Int) (p9 : Int) (p10 : Int) (p11 : Int) (p12 : Int) (p13 : Int) (p14 : Int), Le (k_3 p0 p1 p2 p3 p4 p5 p6 p7 p8 p9 p10 p11 p12 p13 p14) (l_spec_l2Cropped_3 m0 p0 p1 p2 p3 p4 p5 p6 p7 p8 p9 p10 p11 p12 p13 p14)) : ∀ (m M : Nat), m ≤ M → ∀ (p0 : Int) (p1 : Int) (p2 : Int) (p3 : List D_A3) (p4 : Int) (p5 : Int) (p6 : Int) (p7 : List D_A3) (p8 : Int) (p9 : Int) (p10 : Int) (p11 : Int) (p12 : Int) (p13 : Int) (p14 : Int) (p15 : Int), Le (e_spec_l2Cropped_6 k_3 m p0 p1 p2 p3 p4 p5 p6 p7 p8 p9 p10 p11 p12 p13 p14 p15) (l_spec_l2Cropped_6 m0 M p0 p1 p2 p3 p4 p5 p6 p7 p8 p9 p10 p11 p12 p13 p14 p15) := by
  intro m
  induction m with
  | zero => intro M _ p0 p1 p2 p3 p4 p5 p6 p7 p8 p9 p10 p11 p12 p13 p14 p15 ; exact Le.none
  | succ m ih =>
    intro M0 hM p0 p1 p2 p3 p4 p5 p6 p7 p8 p9 p10 p11 p12 p13 p14 p15
    obtain ⟨M, rfl⟩ : ∃ M, M0 = M + 1 := ⟨M0 - 1, by omega⟩
    have hMM : m ≤ M := by omega
    have hK := K_le 200 (by decide)
    rw [q_spec_l2Cropped_6]
    show Le (
  bif decide (p15 < 3) then
    bif inB p15 3 then
      bif inB p14 (List.length p3) then
        bif inB p15 3 then
          Option.bind (E_spec_l1Least ((bif decide (p15 = (0 : Int)) then p8 else (bif decide (p15 = (1 : Int)) then p9 else p10)), (bif decide (p15 = (0 : Int)) then ((nth T_A3 p3 p14)).1 else (bif decide (p15 = (1 : Int)) then (((nth T_A3 p3 p14)).2).1 else ((((nth T_A3 p3 p14)).2).2).1)), ())) fun r4 =>
          bif inB p15 3 then
            bif inB p15 3 then
              bif inB p14 (List.length p3) then
                bif inB p15 3 then
                  Option.bind (E_spec_l1Most ((bif decide (p15 = (0 : Int)) then p11 else (bif decide (p15 = (1 : Int)) then p12 else p13)), (bif decide (p15 = (0 : Int)) then ((nth T_A3 p3 p14)).1 else (bif decide (p15 = (1 : Int)) then (((nth T_A3 p3 p14)).2).1 else ((((nth T_A3 p3 p14)).2).2).1)), ())) fun r9 =>
                  bif inB p15 3 then
                    (e_spec_l2Cropped_6 k_3 m) p0 p1 p2 p3 p4 p5 p6 p7 (bif decide (p15 = (0 : Int)) then r4.1 else p8) (bif decide (p15 = (1 : Int)) then r4.1 else p9) (bif decide (p15 = (2 : Int)) then r4.1 else p10) (bif decide (p15 = (0 : Int)) then r9.1 else p11) (bif decide (p15 = (1 : Int)) then r9.1 else p12) (bif decide (p15 = (2 : Int)) then r9.1 else p13) p14 (IntKind.wrap .i64 (p15 + 1))
                  else none
                else none
              else none
            else none
          else none
        else none
      else none
    else none
  else
    k_3 p0 p1 p2 p3 p4 p5 p6 p7 p8 p9 p10 p11 p12 p13 (IntKind.wrap .i64 (p14 + 1))) _
    repeat first
    | with_reducible exact Le.rfl
    | with_reducible exact ih M hMM _ _ _ _ _ _ _ _ _ _ _ _ _ _ _ _
    | with_reducible exact h_3 _ _ _ _ _ _ _ _ _ _ _ _ _ _ _
    | with_reducible exact v_spec_l1Least _
    | with_reducible exact v_spec_l1Most _
    | with_reducible refine Le.bind ?_ (fun _ => ?_)
    | with_reducible refine Le.cond ?_ ?_
noncomputable def e_spec_l2Cropped_3  (m : Nat) : (Int) → (Int) → (Int) → (List D_A3) → (Int) → (Int) → (Int) → (List D_A3) → (Int) → (Int) → (Int) → (Int) → (Int) → (Int) → (Int) → Option (denL R_spec_l2Cropped) := Nat.rec (motive := fun _ => (Int) → (Int) → (Int) → (List D_A3) → (Int) → (Int) → (Int) → (List D_A3) → (Int) → (Int) → (Int) → (Int) → (Int) → (Int) → (Int) → Option (denL R_spec_l2Cropped)) (fun _ _ _ _ _ _ _ _ _ _ _ _ _ _ _ => none) (fun _ ih p0 p1 p2 p3 p4 p5 p6 p7 p8 p9 p10 p11 p12 p13 p14 =>
  bif decide (p14 < (List.length p3 : Int)) then
    e_spec_l2Cropped_6 ih 200 p0 p1 p2 p3 p4 p5 p6 p7 p8 p9 p10 p11 p12 p13 p14 0
  else
    Option.bind (E_spec_l2Empty ((IntKind.wrap .i64 ((IntKind.wrap .i64 (p11 - p8)) + 1)), (IntKind.wrap .i64 ((IntKind.wrap .i64 (p12 - p9)) + 1)), (IntKind.wrap .i64 ((IntKind.wrap .i64 (p13 - p10)) + 1)), ())) fun r1 =>
    Option.bind (E_spec_l2Moved ((p0, (p1, (p2, (p3, ())))), ((IntKind.wrap .i64 (0 - p8)), ((IntKind.wrap .i64 (0 - p9)), ((IntKind.wrap .i64 (0 - p10)), ()))), ())) fun r2 =>
    some ((r1.1.1, (r1.1.2.1, (r1.1.2.2.1, (r2.1, ())))), ())) m
theorem w_spec_l2Cropped_3    : ∀ (m M : Nat), m ≤ M → ∀ (p0 : Int) (p1 : Int) (p2 : Int) (p3 : List D_A3) (p4 : Int) (p5 : Int) (p6 : Int) (p7 : List D_A3) (p8 : Int) (p9 : Int) (p10 : Int) (p11 : Int) (p12 : Int) (p13 : Int) (p14 : Int), Le (e_spec_l2Cropped_3  m p0 p1 p2 p3 p4 p5 p6 p7 p8 p9 p10 p11 p12 p13 p14) (l_spec_l2Cropped_3  M p0 p1 p2 p3 p4 p5 p6 p7 p8 p9 p10 p11 p12 p13 p14) := by
  intro m
  induction m with
  | zero => intro M _ p0 p1 p2 p3 p4 p5 p6 p7 p8 p9 p10 p11 p12 p13 p14 ; exact Le.none
  | succ m ih =>
    intro M0 hM p0 p1 p2 p3 p4 p5 p6 p7 p8 p9 p10 p11 p12 p13 p14
    obtain ⟨M, rfl⟩ : ∃ M, M0 = M + 1 := ⟨M0 - 1, by omega⟩
    have hMM : m ≤ M := by omega
    have hK := K_le 200 (by decide)
    rw [q_spec_l2Cropped_3]
    show Le (
  bif decide (p14 < (List.length p3 : Int)) then
    e_spec_l2Cropped_6 (e_spec_l2Cropped_3  m) 200 p0 p1 p2 p3 p4 p5 p6 p7 p8 p9 p10 p11 p12 p13 p14 0
  else
    Option.bind (E_spec_l2Empty ((IntKind.wrap .i64 ((IntKind.wrap .i64 (p11 - p8)) + 1)), (IntKind.wrap .i64 ((IntKind.wrap .i64 (p12 - p9)) + 1)), (IntKind.wrap .i64 ((IntKind.wrap .i64 (p13 - p10)) + 1)), ())) fun r1 =>
    Option.bind (E_spec_l2Moved ((p0, (p1, (p2, (p3, ())))), ((IntKind.wrap .i64 (0 - p8)), ((IntKind.wrap .i64 (0 - p9)), ((IntKind.wrap .i64 (0 - p10)), ()))), ())) fun r2 =>
    some ((r1.1.1, (r1.1.2.1, (r1.1.2.2.1, (r2.1, ())))), ())) _
    repeat first
    | with_reducible exact Le.rfl
    | with_reducible exact ih M hMM _ _ _ _ _ _ _ _ _ _ _ _ _ _ _
    | with_reducible exact w_spec_l2Cropped_6 _ _ (ih M hMM) 200 N hK _ _ _ _ _ _ _ _ _ _ _ _ _ _ _ _
    | with_reducible exact v_spec_l2Empty _
    | with_reducible exact v_spec_l2Moved _
    | with_reducible refine Le.bind ?_ (fun _ => ?_)
    | with_reducible refine Le.cond ?_ ?_
noncomputable def E_spec_l2Cropped : Ft_spec_l2Cropped := fun x =>
  bif inB 0 (List.length x.1.2.2.2.1) then
    bif inB 0 (List.length x.1.2.2.2.1) then
      e_spec_l2Cropped_3 200 x.1.1 x.1.2.1 x.1.2.2.1 x.1.2.2.2.1 0 0 0 ([] : List D_A3) (((nth T_A3 x.1.2.2.2.1 0)).1) ((((nth T_A3 x.1.2.2.2.1 0)).2).1) (((((nth T_A3 x.1.2.2.2.1 0)).2).2).1) (((nth T_A3 x.1.2.2.2.1 0)).1) ((((nth T_A3 x.1.2.2.2.1 0)).2).1) (((((nth T_A3 x.1.2.2.2.1 0)).2).2).1) 0
    else none
  else none
theorem v_spec_l2Cropped : ∀ x, Le (E_spec_l2Cropped x) (P_spec_l2Cropped x) := by
  have hK := K_le 200 (by decide)
  rintro ⟨a0, ⟨⟩⟩
  rw [show P_spec_l2Cropped (a0, ()) = _ from p_spec_l2Cropped a0]
  show Le (
  bif inB 0 (List.length a0.2.2.2.1) then
    bif inB 0 (List.length a0.2.2.2.1) then
      e_spec_l2Cropped_3 200 a0.1 a0.2.1 a0.2.2.1 a0.2.2.2.1 0 0 0 ([] : List D_A3) (((nth T_A3 a0.2.2.2.1 0)).1) ((((nth T_A3 a0.2.2.2.1 0)).2).1) (((((nth T_A3 a0.2.2.2.1 0)).2).2).1) (((nth T_A3 a0.2.2.2.1 0)).1) ((((nth T_A3 a0.2.2.2.1 0)).2).1) (((((nth T_A3 a0.2.2.2.1 0)).2).2).1) 0
    else none
  else none) _
  repeat first
    | with_reducible exact Le.rfl
    | with_reducible exact w_spec_l2Cropped_3 200 N hK _ _ _ _ _ _ _ _ _ _ _ _ _ _ _
    | with_reducible refine Le.bind ?_ (fun _ => ?_)
    | with_reducible refine Le.cond ?_ ?_
noncomputable def e_spec_l8Odd_6 (k_3 : (Int) → (Int) → (Int) → (Int) → (Int) → Option (denL R_spec_l8Odd)) (m : Nat) : (Int) → (Int) → (Int) → (Int) → (Int) → (Int) → Option (denL R_spec_l8Odd) := Nat.rec (motive := fun _ => (Int) → (Int) → (Int) → (Int) → (Int) → (Int) → Option (denL R_spec_l8Odd)) (fun _ _ _ _ _ _ => none) (fun _ ih p0 p1 p2 p3 p4 p5 =>
  bif decide (p5 < p4) then
    bif inB p5 3 then
      bif inB p4 3 then
        bif decide ((bif decide (p5 = (0 : Int)) then p0 else (bif decide (p5 = (1 : Int)) then p1 else p2)) > (bif decide (p4 = (0 : Int)) then p0 else (bif decide (p4 = (1 : Int)) then p1 else p2))) then
          ih p0 p1 p2 (IntKind.wrap .i64 (p3 + 1)) p4 (IntKind.wrap .i64 (p5 + 1))
        else
          ih p0 p1 p2 p3 p4 (IntKind.wrap .i64 (p5 + 1))
      else none
    else none
  else
    k_3 p0 p1 p2 p3 (IntKind.wrap .i64 (p4 + 1))) m
theorem w_spec_l8Odd_6 (m0 : Nat) (k_3 : (Int) → (Int) → (Int) → (Int) → (Int) → Option (denL R_spec_l8Odd)) (h_3 : ∀ (p0 : Int) (p1 : Int) (p2 : Int) (p3 : Int) (p4 : Int), Le (k_3 p0 p1 p2 p3 p4) (l_spec_l8Odd_3 m0 p0 p1 p2 p3 p4)) : ∀ (m M : Nat), m ≤ M → ∀ (p0 : Int) (p1 : Int) (p2 : Int) (p3 : Int) (p4 : Int) (p5 : Int), Le (e_spec_l8Odd_6 k_3 m p0 p1 p2 p3 p4 p5) (l_spec_l8Odd_6 m0 M p0 p1 p2 p3 p4 p5) := by
  intro m
  induction m with
  | zero => intro M _ p0 p1 p2 p3 p4 p5 ; exact Le.none
  | succ m ih =>
    intro M0 hM p0 p1 p2 p3 p4 p5
    obtain ⟨M, rfl⟩ : ∃ M, M0 = M + 1 := ⟨M0 - 1, by omega⟩
    have hMM : m ≤ M := by omega
    have hK := K_le 200 (by decide)
    rw [q_spec_l8Odd_6]
    show Le (
  bif decide (p5 < p4) then
    bif inB p5 3 then
      bif inB p4 3 then
        bif decide ((bif decide (p5 = (0 : Int)) then p0 else (bif decide (p5 = (1 : Int)) then p1 else p2)) > (bif decide (p4 = (0 : Int)) then p0 else (bif decide (p4 = (1 : Int)) then p1 else p2))) then
          (e_spec_l8Odd_6 k_3 m) p0 p1 p2 (IntKind.wrap .i64 (p3 + 1)) p4 (IntKind.wrap .i64 (p5 + 1))
        else
          (e_spec_l8Odd_6 k_3 m) p0 p1 p2 p3 p4 (IntKind.wrap .i64 (p5 + 1))
      else none
    else none
  else
    k_3 p0 p1 p2 p3 (IntKind.wrap .i64 (p4 + 1))) _
    repeat first
    | with_reducible exact Le.rfl
    | with_reducible exact ih M hMM _ _ _ _ _ _
    | with_reducible exact h_3 _ _ _ _ _
    | with_reducible refine Le.bind ?_ (fun _ => ?_)
    | with_reducible refine Le.cond ?_ ?_
noncomputable def e_spec_l8Odd_3  (m : Nat) : (Int) → (Int) → (Int) → (Int) → (Int) → Option (denL R_spec_l8Odd) := Nat.rec (motive := fun _ => (Int) → (Int) → (Int) → (Int) → (Int) → Option (denL R_spec_l8Odd)) (fun _ _ _ _ _ => none) (fun _ ih p0 p1 p2 p3 p4 =>
  bif decide (p4 < 3) then
    e_spec_l8Odd_6 ih 200 p0 p1 p2 p3 p4 0
  else
    some ((Int.tmod p3 2), ())) m
theorem w_spec_l8Odd_3    : ∀ (m M : Nat), m ≤ M → ∀ (p0 : Int) (p1 : Int) (p2 : Int) (p3 : Int) (p4 : Int), Le (e_spec_l8Odd_3  m p0 p1 p2 p3 p4) (l_spec_l8Odd_3  M p0 p1 p2 p3 p4) := by
  intro m
  induction m with
  | zero => intro M _ p0 p1 p2 p3 p4 ; exact Le.none
  | succ m ih =>
    intro M0 hM p0 p1 p2 p3 p4
    obtain ⟨M, rfl⟩ : ∃ M, M0 = M + 1 := ⟨M0 - 1, by omega⟩
    have hMM : m ≤ M := by omega
    have hK := K_le 200 (by decide)
    rw [q_spec_l8Odd_3]
    show Le (
  bif decide (p4 < 3) then
    e_spec_l8Odd_6 (e_spec_l8Odd_3  m) 200 p0 p1 p2 p3 p4 0
  else
    some ((Int.tmod p3 2), ())) _
    repeat first
    | with_reducible exact Le.rfl
    | with_reducible exact ih M hMM _ _ _ _ _
    | with_reducible exact w_spec_l8Odd_6 _ _ (ih M hMM) 200 N hK _ _ _ _ _ _
    | with_reducible refine Le.bind ?_ (fun _ => ?_)
    | with_reducible refine Le.cond ?_ ?_
noncomputable def E_spec_l8Odd : Ft_spec_l8Odd := fun x =>
  e_spec_l8Odd_3 200 x.1.1 x.1.2.1 x.1.2.2.1 0 0
theorem v_spec_l8Odd : ∀ x, Le (E_spec_l8Odd x) (P_spec_l8Odd x) := by
  have hK := K_le 200 (by decide)
  rintro ⟨a0, ⟨⟩⟩
  rw [show P_spec_l8Odd (a0, ()) = _ from p_spec_l8Odd a0]
  show Le (
  e_spec_l8Odd_3 200 a0.1 a0.2.1 a0.2.2.1 0 0) _
  repeat first
    | with_reducible exact Le.rfl
    | with_reducible exact w_spec_l8Odd_3 200 N hK _ _ _ _ _
    | with_reducible refine Le.bind ?_ (fun _ => ?_)
    | with_reducible refine Le.cond ?_ ?_
noncomputable def e_spec_l8Turns_9 (_k_3 : (List D_l8Turn) → (Int) → Option (denL R_spec_l8Turns)) (k_6 : (List D_l8Turn) → (Int) → (Int) → Option (denL R_spec_l8Turns)) (m : Nat) : (List D_l8Turn) → (Int) → (Int) → (Int) → Option (denL R_spec_l8Turns) := Nat.rec (motive := fun _ => (List D_l8Turn) → (Int) → (Int) → (Int) → Option (denL R_spec_l8Turns)) (fun _ _ _ _ => none) (fun _ ih p0 p1 p2 p3 =>
  bif decide (p3 < 8) then
    bif !decide (p1 = p2) then
      Option.bind (E_spec_l8Odd ((p1, (p2, ((IntKind.wrap .i64 ((IntKind.wrap .i64 (3 - p1)) - p2)), ()))), ())) fun r2 =>
      bif decide (r2.1 = (Int.tmod (IntKind.wrap .i64 ((IntKind.wrap .i64 ((intBits .and .i64 (shrI .i64 p3 2) 1) + (intBits .and .i64 (shrI .i64 p3 1) 1))) + (intBits .and .i64 p3 1))) 2)) then
        bif (decide (((List.length p0) + (List.length ([((p1, (p2, ((IntKind.wrap .i64 ((IntKind.wrap .i64 (3 - p1)) - p2)), ()))), (((intBits .and .i64 (shrI .i64 p3 2) 1), ((intBits .and .i64 (shrI .i64 p3 1) 1), ((intBits .and .i64 p3 1), ()))), ()))] : List D_l8Turn))) * 48 ≤ 140737488355328) && decide (((List.length p0) + (List.length ([((p1, (p2, ((IntKind.wrap .i64 ((IntKind.wrap .i64 (3 - p1)) - p2)), ()))), (((intBits .and .i64 (shrI .i64 p3 2) 1), ((intBits .and .i64 (shrI .i64 p3 1) 1), ((intBits .and .i64 p3 1), ()))), ()))] : List D_l8Turn))) ≤ 140737488355328)) then
          ih (p0 ++ ([((p1, (p2, ((IntKind.wrap .i64 ((IntKind.wrap .i64 (3 - p1)) - p2)), ()))), (((intBits .and .i64 (shrI .i64 p3 2) 1), ((intBits .and .i64 (shrI .i64 p3 1) 1), ((intBits .and .i64 p3 1), ()))), ()))] : List D_l8Turn)) p1 p2 (IntKind.wrap .i64 (p3 + 1))
        else none
      else
        ih p0 p1 p2 (IntKind.wrap .i64 (p3 + 1))
    else
      k_6 p0 p1 (IntKind.wrap .i64 (p2 + 1))
  else
    k_6 p0 p1 (IntKind.wrap .i64 (p2 + 1))) m
theorem w_spec_l8Turns_9 (m0 m1 : Nat) (k_3 : (List D_l8Turn) → (Int) → Option (denL R_spec_l8Turns)) (k_6 : (List D_l8Turn) → (Int) → (Int) → Option (denL R_spec_l8Turns)) (_h_3 : ∀ (p0 : List D_l8Turn) (p1 : Int), Le (k_3 p0 p1) (l_spec_l8Turns_3 m0 p0 p1)) (h_6 : ∀ (p0 : List D_l8Turn) (p1 : Int) (p2 : Int), Le (k_6 p0 p1 p2) (l_spec_l8Turns_6 m0 m1 p0 p1 p2)) : ∀ (m M : Nat), m ≤ M → ∀ (p0 : List D_l8Turn) (p1 : Int) (p2 : Int) (p3 : Int), Le (e_spec_l8Turns_9 k_3 k_6 m p0 p1 p2 p3) (l_spec_l8Turns_9 m0 m1 M p0 p1 p2 p3) := by
  intro m
  induction m with
  | zero => intro M _ p0 p1 p2 p3 ; exact Le.none
  | succ m ih =>
    intro M0 hM p0 p1 p2 p3
    obtain ⟨M, rfl⟩ : ∃ M, M0 = M + 1 := ⟨M0 - 1, by omega⟩
    have hMM : m ≤ M := by omega
    have hK := K_le 200 (by decide)
    rw [q_spec_l8Turns_9]
    show Le (
  bif decide (p3 < 8) then
    bif !decide (p1 = p2) then
      Option.bind (E_spec_l8Odd ((p1, (p2, ((IntKind.wrap .i64 ((IntKind.wrap .i64 (3 - p1)) - p2)), ()))), ())) fun r2 =>
      bif decide (r2.1 = (Int.tmod (IntKind.wrap .i64 ((IntKind.wrap .i64 ((intBits .and .i64 (shrI .i64 p3 2) 1) + (intBits .and .i64 (shrI .i64 p3 1) 1))) + (intBits .and .i64 p3 1))) 2)) then
        bif (decide (((List.length p0) + (List.length ([((p1, (p2, ((IntKind.wrap .i64 ((IntKind.wrap .i64 (3 - p1)) - p2)), ()))), (((intBits .and .i64 (shrI .i64 p3 2) 1), ((intBits .and .i64 (shrI .i64 p3 1) 1), ((intBits .and .i64 p3 1), ()))), ()))] : List D_l8Turn))) * 48 ≤ 140737488355328) && decide (((List.length p0) + (List.length ([((p1, (p2, ((IntKind.wrap .i64 ((IntKind.wrap .i64 (3 - p1)) - p2)), ()))), (((intBits .and .i64 (shrI .i64 p3 2) 1), ((intBits .and .i64 (shrI .i64 p3 1) 1), ((intBits .and .i64 p3 1), ()))), ()))] : List D_l8Turn))) ≤ 140737488355328)) then
          (e_spec_l8Turns_9 k_3 k_6 m) (p0 ++ ([((p1, (p2, ((IntKind.wrap .i64 ((IntKind.wrap .i64 (3 - p1)) - p2)), ()))), (((intBits .and .i64 (shrI .i64 p3 2) 1), ((intBits .and .i64 (shrI .i64 p3 1) 1), ((intBits .and .i64 p3 1), ()))), ()))] : List D_l8Turn)) p1 p2 (IntKind.wrap .i64 (p3 + 1))
        else none
      else
        (e_spec_l8Turns_9 k_3 k_6 m) p0 p1 p2 (IntKind.wrap .i64 (p3 + 1))
    else
      k_6 p0 p1 (IntKind.wrap .i64 (p2 + 1))
  else
    k_6 p0 p1 (IntKind.wrap .i64 (p2 + 1))) _
    repeat first
    | with_reducible exact Le.rfl
    | with_reducible exact ih M hMM _ _ _ _
    | with_reducible exact h_6 _ _ _
    | with_reducible exact v_spec_l8Odd _
    | with_reducible refine Le.bind ?_ (fun _ => ?_)
    | with_reducible refine Le.cond ?_ ?_
noncomputable def e_spec_l8Turns_6 (k_3 : (List D_l8Turn) → (Int) → Option (denL R_spec_l8Turns)) (m : Nat) : (List D_l8Turn) → (Int) → (Int) → Option (denL R_spec_l8Turns) := Nat.rec (motive := fun _ => (List D_l8Turn) → (Int) → (Int) → Option (denL R_spec_l8Turns)) (fun _ _ _ => none) (fun _ ih p0 p1 p2 =>
  bif decide (p2 < 3) then
    e_spec_l8Turns_9 k_3 ih 200 p0 p1 p2 0
  else
    k_3 p0 (IntKind.wrap .i64 (p1 + 1))) m
theorem w_spec_l8Turns_6 (m0 : Nat) (k_3 : (List D_l8Turn) → (Int) → Option (denL R_spec_l8Turns)) (h_3 : ∀ (p0 : List D_l8Turn) (p1 : Int), Le (k_3 p0 p1) (l_spec_l8Turns_3 m0 p0 p1)) : ∀ (m M : Nat), m ≤ M → ∀ (p0 : List D_l8Turn) (p1 : Int) (p2 : Int), Le (e_spec_l8Turns_6 k_3 m p0 p1 p2) (l_spec_l8Turns_6 m0 M p0 p1 p2) := by
  intro m
  induction m with
  | zero => intro M _ p0 p1 p2 ; exact Le.none
  | succ m ih =>
    intro M0 hM p0 p1 p2
    obtain ⟨M, rfl⟩ : ∃ M, M0 = M + 1 := ⟨M0 - 1, by omega⟩
    have hMM : m ≤ M := by omega
    have hK := K_le 200 (by decide)
    rw [q_spec_l8Turns_6]
    show Le (
  bif decide (p2 < 3) then
    e_spec_l8Turns_9 k_3 (e_spec_l8Turns_6 k_3 m) 200 p0 p1 p2 0
  else
    k_3 p0 (IntKind.wrap .i64 (p1 + 1))) _
    repeat first
    | with_reducible exact Le.rfl
    | with_reducible exact ih M hMM _ _ _
    | with_reducible exact h_3 _ _
    | with_reducible exact w_spec_l8Turns_9 _ _ _ _ h_3 (ih M hMM) 200 N hK _ _ _ _
    | with_reducible refine Le.bind ?_ (fun _ => ?_)
    | with_reducible refine Le.cond ?_ ?_
noncomputable def e_spec_l8Turns_3  (m : Nat) : (List D_l8Turn) → (Int) → Option (denL R_spec_l8Turns) := Nat.rec (motive := fun _ => (List D_l8Turn) → (Int) → Option (denL R_spec_l8Turns)) (fun _ _ => none) (fun _ ih p0 p1 =>
  bif decide (p1 < 3) then
    e_spec_l8Turns_6 ih 200 p0 p1 0
  else
    some (p0, ())) m
theorem w_spec_l8Turns_3    : ∀ (m M : Nat), m ≤ M → ∀ (p0 : List D_l8Turn) (p1 : Int), Le (e_spec_l8Turns_3  m p0 p1) (l_spec_l8Turns_3  M p0 p1) := by
  intro m
  induction m with
  | zero => intro M _ p0 p1 ; exact Le.none
  | succ m ih =>
    intro M0 hM p0 p1
    obtain ⟨M, rfl⟩ : ∃ M, M0 = M + 1 := ⟨M0 - 1, by omega⟩
    have hMM : m ≤ M := by omega
    have hK := K_le 200 (by decide)
    rw [q_spec_l8Turns_3]
    show Le (
  bif decide (p1 < 3) then
    e_spec_l8Turns_6 (e_spec_l8Turns_3  m) 200 p0 p1 0
  else
    some (p0, ())) _
    repeat first
    | with_reducible exact Le.rfl
    | with_reducible exact ih M hMM _ _
    | with_reducible exact w_spec_l8Turns_6 _ _ (ih M hMM) 200 N hK _ _ _
    | with_reducible refine Le.bind ?_ (fun _ => ?_)
    | with_reducible refine Le.cond ?_ ?_
noncomputable def E_spec_l8Turns : Ft_spec_l8Turns := fun _ =>
  e_spec_l8Turns_3 200 ([] : List D_l8Turn) 0
theorem v_spec_l8Turns : ∀ x, Le (E_spec_l8Turns x) (P_spec_l8Turns x) := by
  have hK := K_le 200 (by decide)
  rintro ⟨⟨⟩⟩
  rw [show P_spec_l8Turns () = _ from p_spec_l8Turns ]
  show Le (
  e_spec_l8Turns_3 200 ([] : List D_l8Turn) 0) _
  repeat first
    | with_reducible exact Le.rfl
    | with_reducible exact w_spec_l8Turns_3 200 N hK _ _
    | with_reducible refine Le.bind ?_ (fun _ => ?_)
    | with_reducible refine Le.cond ?_ ?_
noncomputable def E_spec_l2Long : Ft_spec_l2Long := fun x =>
  bif inB x.2.1 3 then
    some ((bif decide (x.2.1 = (0 : Int)) then x.1.1 else (bif decide (x.2.1 = (1 : Int)) then x.1.2.1 else x.1.2.2.1)), ())
  else none
theorem v_spec_l2Long : ∀ x, Le (E_spec_l2Long x) (P_spec_l2Long x) := by
  have hK := K_le 200 (by decide)
  rintro ⟨a0, a1, ⟨⟩⟩
  rw [show P_spec_l2Long (a0, a1, ()) = _ from p_spec_l2Long a0 a1]
  show Le (
  bif inB a1 3 then
    some ((bif decide (a1 = (0 : Int)) then a0.1 else (bif decide (a1 = (1 : Int)) then a0.2.1 else a0.2.2.1)), ())
  else none) _
  repeat first
    | with_reducible exact Le.rfl
    | with_reducible refine Le.bind ?_ (fun _ => ?_)
    | with_reducible refine Le.cond ?_ ?_
noncomputable def e_spec_l8Made_7 (k_3 : (Int) → (Int) → (Int) → (List D_A3) → (Int) → (Int) → (Int) → (Int) → (Int) → (Int) → (Int) → (Int) → (Int) → (List D_A3) → (Int) → (Int) → (Int) → (List D_A3) → (Int) → Option (denL R_spec_l8Made)) (m : Nat) : (Int) → (Int) → (Int) → (List D_A3) → (Int) → (Int) → (Int) → (Int) → (Int) → (Int) → (Int) → (Int) → (Int) → (List D_A3) → (Int) → (Int) → (Int) → (List D_A3) → (Int) → (Int) → (Int) → (Int) → (Int) → Option (denL R_spec_l8Made) := Nat.rec (motive := fun _ => (Int) → (Int) → (Int) → (List D_A3) → (Int) → (Int) → (Int) → (Int) → (Int) → (Int) → (Int) → (Int) → (Int) → (List D_A3) → (Int) → (Int) → (Int) → (List D_A3) → (Int) → (Int) → (Int) → (Int) → (Int) → Option (denL R_spec_l8Made)) (fun _ _ _ _ _ _ _ _ _ _ _ _ _ _ _ _ _ _ _ _ _ _ _ => none) (fun _ ih p0 p1 p2 p3 p4 p5 p6 p7 p8 p9 p10 p11 p12 p13 p14 p15 p16 p17 p18 p19 p20 p21 p22 =>
  bif decide (p22 < 3) then
    bif inB p22 3 then
      bif inB p21 (List.length p3) then
        bif inB (bif decide (p22 = (0 : Int)) then p4 else (bif decide (p22 = (1 : Int)) then p5 else p6)) 3 then
          bif inB p22 3 then
            bif inB p22 3 then
              bif decide ((bif decide (p22 = (0 : Int)) then p7 else (bif decide (p22 = (1 : Int)) then p8 else p9)) = 1) then
                bif inB p22 3 then
                  Option.bind (E_spec_l2Long ((p0, (p1, (p2, (p3, ())))), (bif decide (p22 = (0 : Int)) then p4 else (bif decide (p22 = (1 : Int)) then p5 else p6)), ())) fun r8 =>
                  bif inB p22 3 then
                    bif inB p22 3 then
                      ih p0 p1 p2 p3 p4 p5 p6 p7 p8 p9 p10 p11 p12 p13 p14 p15 p16 p17 (bif decide (p22 = (0 : Int)) then (IntKind.wrap .i64 ((IntKind.wrap .i64 (r8.1 - 1)) - (bif decide (p22 = (0 : Int)) then (bif decide (p22 = (0 : Int)) then (bif decide ((bif decide (p22 = (0 : Int)) then p4 else (bif decide (p22 = (1 : Int)) then p5 else p6)) = (0 : Int)) then ((nth T_A3 p3 p21)).1 else (bif decide ((bif decide (p22 = (0 : Int)) then p4 else (bif decide (p22 = (1 : Int)) then p5 else p6)) = (1 : Int)) then (((nth T_A3 p3 p21)).2).1 else ((((nth T_A3 p3 p21)).2).2).1)) else p18) else (bif decide (p22 = (1 : Int)) then (bif decide (p22 = (1 : Int)) then (bif decide ((bif decide (p22 = (0 : Int)) then p4 else (bif decide (p22 = (1 : Int)) then p5 else p6)) = (0 : Int)) then ((nth T_A3 p3 p21)).1 else (bif decide ((bif decide (p22 = (0 : Int)) then p4 else (bif decide (p22 = (1 : Int)) then p5 else p6)) = (1 : Int)) then (((nth T_A3 p3 p21)).2).1 else ((((nth T_A3 p3 p21)).2).2).1)) else p19) else (bif decide (p22 = (2 : Int)) then (bif decide ((bif decide (p22 = (0 : Int)) then p4 else (bif decide (p22 = (1 : Int)) then p5 else p6)) = (0 : Int)) then ((nth T_A3 p3 p21)).1 else (bif decide ((bif decide (p22 = (0 : Int)) then p4 else (bif decide (p22 = (1 : Int)) then p5 else p6)) = (1 : Int)) then (((nth T_A3 p3 p21)).2).1 else ((((nth T_A3 p3 p21)).2).2).1)) else p20))))) else (bif decide (p22 = (0 : Int)) then (bif decide ((bif decide (p22 = (0 : Int)) then p4 else (bif decide (p22 = (1 : Int)) then p5 else p6)) = (0 : Int)) then ((nth T_A3 p3 p21)).1 else (bif decide ((bif decide (p22 = (0 : Int)) then p4 else (bif decide (p22 = (1 : Int)) then p5 else p6)) = (1 : Int)) then (((nth T_A3 p3 p21)).2).1 else ((((nth T_A3 p3 p21)).2).2).1)) else p18)) (bif decide (p22 = (1 : Int)) then (IntKind.wrap .i64 ((IntKind.wrap .i64 (r8.1 - 1)) - (bif decide (p22 = (0 : Int)) then (bif decide (p22 = (0 : Int)) then (bif decide ((bif decide (p22 = (0 : Int)) then p4 else (bif decide (p22 = (1 : Int)) then p5 else p6)) = (0 : Int)) then ((nth T_A3 p3 p21)).1 else (bif decide ((bif decide (p22 = (0 : Int)) then p4 else (bif decide (p22 = (1 : Int)) then p5 else p6)) = (1 : Int)) then (((nth T_A3 p3 p21)).2).1 else ((((nth T_A3 p3 p21)).2).2).1)) else p18) else (bif decide (p22 = (1 : Int)) then (bif decide (p22 = (1 : Int)) then (bif decide ((bif decide (p22 = (0 : Int)) then p4 else (bif decide (p22 = (1 : Int)) then p5 else p6)) = (0 : Int)) then ((nth T_A3 p3 p21)).1 else (bif decide ((bif decide (p22 = (0 : Int)) then p4 else (bif decide (p22 = (1 : Int)) then p5 else p6)) = (1 : Int)) then (((nth T_A3 p3 p21)).2).1 else ((((nth T_A3 p3 p21)).2).2).1)) else p19) else (bif decide (p22 = (2 : Int)) then (bif decide ((bif decide (p22 = (0 : Int)) then p4 else (bif decide (p22 = (1 : Int)) then p5 else p6)) = (0 : Int)) then ((nth T_A3 p3 p21)).1 else (bif decide ((bif decide (p22 = (0 : Int)) then p4 else (bif decide (p22 = (1 : Int)) then p5 else p6)) = (1 : Int)) then (((nth T_A3 p3 p21)).2).1 else ((((nth T_A3 p3 p21)).2).2).1)) else p20))))) else (bif decide (p22 = (1 : Int)) then (bif decide ((bif decide (p22 = (0 : Int)) then p4 else (bif decide (p22 = (1 : Int)) then p5 else p6)) = (0 : Int)) then ((nth T_A3 p3 p21)).1 else (bif decide ((bif decide (p22 = (0 : Int)) then p4 else (bif decide (p22 = (1 : Int)) then p5 else p6)) = (1 : Int)) then (((nth T_A3 p3 p21)).2).1 else ((((nth T_A3 p3 p21)).2).2).1)) else p19)) (bif decide (p22 = (2 : Int)) then (IntKind.wrap .i64 ((IntKind.wrap .i64 (r8.1 - 1)) - (bif decide (p22 = (0 : Int)) then (bif decide (p22 = (0 : Int)) then (bif decide ((bif decide (p22 = (0 : Int)) then p4 else (bif decide (p22 = (1 : Int)) then p5 else p6)) = (0 : Int)) then ((nth T_A3 p3 p21)).1 else (bif decide ((bif decide (p22 = (0 : Int)) then p4 else (bif decide (p22 = (1 : Int)) then p5 else p6)) = (1 : Int)) then (((nth T_A3 p3 p21)).2).1 else ((((nth T_A3 p3 p21)).2).2).1)) else p18) else (bif decide (p22 = (1 : Int)) then (bif decide (p22 = (1 : Int)) then (bif decide ((bif decide (p22 = (0 : Int)) then p4 else (bif decide (p22 = (1 : Int)) then p5 else p6)) = (0 : Int)) then ((nth T_A3 p3 p21)).1 else (bif decide ((bif decide (p22 = (0 : Int)) then p4 else (bif decide (p22 = (1 : Int)) then p5 else p6)) = (1 : Int)) then (((nth T_A3 p3 p21)).2).1 else ((((nth T_A3 p3 p21)).2).2).1)) else p19) else (bif decide (p22 = (2 : Int)) then (bif decide ((bif decide (p22 = (0 : Int)) then p4 else (bif decide (p22 = (1 : Int)) then p5 else p6)) = (0 : Int)) then ((nth T_A3 p3 p21)).1 else (bif decide ((bif decide (p22 = (0 : Int)) then p4 else (bif decide (p22 = (1 : Int)) then p5 else p6)) = (1 : Int)) then (((nth T_A3 p3 p21)).2).1 else ((((nth T_A3 p3 p21)).2).2).1)) else p20))))) else (bif decide (p22 = (2 : Int)) then (bif decide ((bif decide (p22 = (0 : Int)) then p4 else (bif decide (p22 = (1 : Int)) then p5 else p6)) = (0 : Int)) then ((nth T_A3 p3 p21)).1 else (bif decide ((bif decide (p22 = (0 : Int)) then p4 else (bif decide (p22 = (1 : Int)) then p5 else p6)) = (1 : Int)) then (((nth T_A3 p3 p21)).2).1 else ((((nth T_A3 p3 p21)).2).2).1)) else p20)) p21 (IntKind.wrap .i64 (p22 + 1))
                    else none
                  else none
                else none
              else
                ih p0 p1 p2 p3 p4 p5 p6 p7 p8 p9 p10 p11 p12 p13 p14 p15 p16 p17 (bif decide (p22 = (0 : Int)) then (bif decide ((bif decide (p22 = (0 : Int)) then p4 else (bif decide (p22 = (1 : Int)) then p5 else p6)) = (0 : Int)) then ((nth T_A3 p3 p21)).1 else (bif decide ((bif decide (p22 = (0 : Int)) then p4 else (bif decide (p22 = (1 : Int)) then p5 else p6)) = (1 : Int)) then (((nth T_A3 p3 p21)).2).1 else ((((nth T_A3 p3 p21)).2).2).1)) else p18) (bif decide (p22 = (1 : Int)) then (bif decide ((bif decide (p22 = (0 : Int)) then p4 else (bif decide (p22 = (1 : Int)) then p5 else p6)) = (0 : Int)) then ((nth T_A3 p3 p21)).1 else (bif decide ((bif decide (p22 = (0 : Int)) then p4 else (bif decide (p22 = (1 : Int)) then p5 else p6)) = (1 : Int)) then (((nth T_A3 p3 p21)).2).1 else ((((nth T_A3 p3 p21)).2).2).1)) else p19) (bif decide (p22 = (2 : Int)) then (bif decide ((bif decide (p22 = (0 : Int)) then p4 else (bif decide (p22 = (1 : Int)) then p5 else p6)) = (0 : Int)) then ((nth T_A3 p3 p21)).1 else (bif decide ((bif decide (p22 = (0 : Int)) then p4 else (bif decide (p22 = (1 : Int)) then p5 else p6)) = (1 : Int)) then (((nth T_A3 p3 p21)).2).1 else ((((nth T_A3 p3 p21)).2).2).1)) else p20) p21 (IntKind.wrap .i64 (p22 + 1))
            else none
          else none
        else none
      else none
    else none
  else
    Option.bind (E_spec_l2With ((p14, (p15, (p16, (p17, ())))), (p18, (p19, (p20, ()))), ())) fun r1 =>
    k_3 p0 p1 p2 p3 p4 p5 p6 p7 p8 p9 p10 p11 p12 p13 r1.1.1 r1.1.2.1 r1.1.2.2.1 r1.1.2.2.2.1 (IntKind.wrap .i64 (p21 + 1))) m
theorem w_spec_l8Made_7 (m0 : Nat) (k_3 : (Int) → (Int) → (Int) → (List D_A3) → (Int) → (Int) → (Int) → (Int) → (Int) → (Int) → (Int) → (Int) → (Int) → (List D_A3) → (Int) → (Int) → (Int) → (List D_A3) → (Int) → Option (denL R_spec_l8Made)) (h_3 : ∀ (p0 : Int) (p1 : Int) (p2 : Int) (p3 : List D_A3) (p4 : Int) (p5 : Int) (p6 : Int) (p7 : Int) (p8 : Int) (p9 : Int) (p10 : Int) (p11 : Int) (p12 : Int) (p13 : List D_A3) (p14 : Int) (p15 : Int) (p16 : Int) (p17 : List D_A3) (p18 : Int), Le (k_3 p0 p1 p2 p3 p4 p5 p6 p7 p8 p9 p10 p11 p12 p13 p14 p15 p16 p17 p18) (l_spec_l8Made_3 m0 p0 p1 p2 p3 p4 p5 p6 p7 p8 p9 p10 p11 p12 p13 p14 p15 p16 p17 p18)) : ∀ (m M : Nat), m ≤ M → ∀ (p0 : Int) (p1 : Int) (p2 : Int) (p3 : List D_A3) (p4 : Int) (p5 : Int) (p6 : Int) (p7 : Int) (p8 : Int) (p9 : Int) (p10 : Int) (p11 : Int) (p12 : Int) (p13 : List D_A3) (p14 : Int) (p15 : Int) (p16 : Int) (p17 : List D_A3) (p18 : Int) (p19 : Int) (p20 : Int) (p21 : Int) (p22 : Int), Le (e_spec_l8Made_7 k_3 m p0 p1 p2 p3 p4 p5 p6 p7 p8 p9 p10 p11 p12 p13 p14 p15 p16 p17 p18 p19 p20 p21 p22) (l_spec_l8Made_7 m0 M p0 p1 p2 p3 p4 p5 p6 p7 p8 p9 p10 p11 p12 p13 p14 p15 p16 p17 p18 p19 p20 p21 p22) := by
  intro m
  induction m with
  | zero => intro M _ p0 p1 p2 p3 p4 p5 p6 p7 p8 p9 p10 p11 p12 p13 p14 p15 p16 p17 p18 p19 p20 p21 p22 ; exact Le.none
  | succ m ih =>
    intro M0 hM p0 p1 p2 p3 p4 p5 p6 p7 p8 p9 p10 p11 p12 p13 p14 p15 p16 p17 p18 p19 p20 p21 p22
    obtain ⟨M, rfl⟩ : ∃ M, M0 = M + 1 := ⟨M0 - 1, by omega⟩
    have hMM : m ≤ M := by omega
    have hK := K_le 200 (by decide)
    rw [q_spec_l8Made_7]
    show Le (
  bif decide (p22 < 3) then
    bif inB p22 3 then
      bif inB p21 (List.length p3) then
        bif inB (bif decide (p22 = (0 : Int)) then p4 else (bif decide (p22 = (1 : Int)) then p5 else p6)) 3 then
          bif inB p22 3 then
            bif inB p22 3 then
              bif decide ((bif decide (p22 = (0 : Int)) then p7 else (bif decide (p22 = (1 : Int)) then p8 else p9)) = 1) then
                bif inB p22 3 then
                  Option.bind (E_spec_l2Long ((p0, (p1, (p2, (p3, ())))), (bif decide (p22 = (0 : Int)) then p4 else (bif decide (p22 = (1 : Int)) then p5 else p6)), ())) fun r8 =>
                  bif inB p22 3 then
                    bif inB p22 3 then
                      (e_spec_l8Made_7 k_3 m) p0 p1 p2 p3 p4 p5 p6 p7 p8 p9 p10 p11 p12 p13 p14 p15 p16 p17 (bif decide (p22 = (0 : Int)) then (IntKind.wrap .i64 ((IntKind.wrap .i64 (r8.1 - 1)) - (bif decide (p22 = (0 : Int)) then (bif decide (p22 = (0 : Int)) then (bif decide ((bif decide (p22 = (0 : Int)) then p4 else (bif decide (p22 = (1 : Int)) then p5 else p6)) = (0 : Int)) then ((nth T_A3 p3 p21)).1 else (bif decide ((bif decide (p22 = (0 : Int)) then p4 else (bif decide (p22 = (1 : Int)) then p5 else p6)) = (1 : Int)) then (((nth T_A3 p3 p21)).2).1 else ((((nth T_A3 p3 p21)).2).2).1)) else p18) else (bif decide (p22 = (1 : Int)) then (bif decide (p22 = (1 : Int)) then (bif decide ((bif decide (p22 = (0 : Int)) then p4 else (bif decide (p22 = (1 : Int)) then p5 else p6)) = (0 : Int)) then ((nth T_A3 p3 p21)).1 else (bif decide ((bif decide (p22 = (0 : Int)) then p4 else (bif decide (p22 = (1 : Int)) then p5 else p6)) = (1 : Int)) then (((nth T_A3 p3 p21)).2).1 else ((((nth T_A3 p3 p21)).2).2).1)) else p19) else (bif decide (p22 = (2 : Int)) then (bif decide ((bif decide (p22 = (0 : Int)) then p4 else (bif decide (p22 = (1 : Int)) then p5 else p6)) = (0 : Int)) then ((nth T_A3 p3 p21)).1 else (bif decide ((bif decide (p22 = (0 : Int)) then p4 else (bif decide (p22 = (1 : Int)) then p5 else p6)) = (1 : Int)) then (((nth T_A3 p3 p21)).2).1 else ((((nth T_A3 p3 p21)).2).2).1)) else p20))))) else (bif decide (p22 = (0 : Int)) then (bif decide ((bif decide (p22 = (0 : Int)) then p4 else (bif decide (p22 = (1 : Int)) then p5 else p6)) = (0 : Int)) then ((nth T_A3 p3 p21)).1 else (bif decide ((bif decide (p22 = (0 : Int)) then p4 else (bif decide (p22 = (1 : Int)) then p5 else p6)) = (1 : Int)) then (((nth T_A3 p3 p21)).2).1 else ((((nth T_A3 p3 p21)).2).2).1)) else p18)) (bif decide (p22 = (1 : Int)) then (IntKind.wrap .i64 ((IntKind.wrap .i64 (r8.1 - 1)) - (bif decide (p22 = (0 : Int)) then (bif decide (p22 = (0 : Int)) then (bif decide ((bif decide (p22 = (0 : Int)) then p4 else (bif decide (p22 = (1 : Int)) then p5 else p6)) = (0 : Int)) then ((nth T_A3 p3 p21)).1 else (bif decide ((bif decide (p22 = (0 : Int)) then p4 else (bif decide (p22 = (1 : Int)) then p5 else p6)) = (1 : Int)) then (((nth T_A3 p3 p21)).2).1 else ((((nth T_A3 p3 p21)).2).2).1)) else p18) else (bif decide (p22 = (1 : Int)) then (bif decide (p22 = (1 : Int)) then (bif decide ((bif decide (p22 = (0 : Int)) then p4 else (bif decide (p22 = (1 : Int)) then p5 else p6)) = (0 : Int)) then ((nth T_A3 p3 p21)).1 else (bif decide ((bif decide (p22 = (0 : Int)) then p4 else (bif decide (p22 = (1 : Int)) then p5 else p6)) = (1 : Int)) then (((nth T_A3 p3 p21)).2).1 else ((((nth T_A3 p3 p21)).2).2).1)) else p19) else (bif decide (p22 = (2 : Int)) then (bif decide ((bif decide (p22 = (0 : Int)) then p4 else (bif decide (p22 = (1 : Int)) then p5 else p6)) = (0 : Int)) then ((nth T_A3 p3 p21)).1 else (bif decide ((bif decide (p22 = (0 : Int)) then p4 else (bif decide (p22 = (1 : Int)) then p5 else p6)) = (1 : Int)) then (((nth T_A3 p3 p21)).2).1 else ((((nth T_A3 p3 p21)).2).2).1)) else p20))))) else (bif decide (p22 = (1 : Int)) then (bif decide ((bif decide (p22 = (0 : Int)) then p4 else (bif decide (p22 = (1 : Int)) then p5 else p6)) = (0 : Int)) then ((nth T_A3 p3 p21)).1 else (bif decide ((bif decide (p22 = (0 : Int)) then p4 else (bif decide (p22 = (1 : Int)) then p5 else p6)) = (1 : Int)) then (((nth T_A3 p3 p21)).2).1 else ((((nth T_A3 p3 p21)).2).2).1)) else p19)) (bif decide (p22 = (2 : Int)) then (IntKind.wrap .i64 ((IntKind.wrap .i64 (r8.1 - 1)) - (bif decide (p22 = (0 : Int)) then (bif decide (p22 = (0 : Int)) then (bif decide ((bif decide (p22 = (0 : Int)) then p4 else (bif decide (p22 = (1 : Int)) then p5 else p6)) = (0 : Int)) then ((nth T_A3 p3 p21)).1 else (bif decide ((bif decide (p22 = (0 : Int)) then p4 else (bif decide (p22 = (1 : Int)) then p5 else p6)) = (1 : Int)) then (((nth T_A3 p3 p21)).2).1 else ((((nth T_A3 p3 p21)).2).2).1)) else p18) else (bif decide (p22 = (1 : Int)) then (bif decide (p22 = (1 : Int)) then (bif decide ((bif decide (p22 = (0 : Int)) then p4 else (bif decide (p22 = (1 : Int)) then p5 else p6)) = (0 : Int)) then ((nth T_A3 p3 p21)).1 else (bif decide ((bif decide (p22 = (0 : Int)) then p4 else (bif decide (p22 = (1 : Int)) then p5 else p6)) = (1 : Int)) then (((nth T_A3 p3 p21)).2).1 else ((((nth T_A3 p3 p21)).2).2).1)) else p19) else (bif decide (p22 = (2 : Int)) then (bif decide ((bif decide (p22 = (0 : Int)) then p4 else (bif decide (p22 = (1 : Int)) then p5 else p6)) = (0 : Int)) then ((nth T_A3 p3 p21)).1 else (bif decide ((bif decide (p22 = (0 : Int)) then p4 else (bif decide (p22 = (1 : Int)) then p5 else p6)) = (1 : Int)) then (((nth T_A3 p3 p21)).2).1 else ((((nth T_A3 p3 p21)).2).2).1)) else p20))))) else (bif decide (p22 = (2 : Int)) then (bif decide ((bif decide (p22 = (0 : Int)) then p4 else (bif decide (p22 = (1 : Int)) then p5 else p6)) = (0 : Int)) then ((nth T_A3 p3 p21)).1 else (bif decide ((bif decide (p22 = (0 : Int)) then p4 else (bif decide (p22 = (1 : Int)) then p5 else p6)) = (1 : Int)) then (((nth T_A3 p3 p21)).2).1 else ((((nth T_A3 p3 p21)).2).2).1)) else p20)) p21 (IntKind.wrap .i64 (p22 + 1))
                    else none
                  else none
                else none
              else
                (e_spec_l8Made_7 k_3 m) p0 p1 p2 p3 p4 p5 p6 p7 p8 p9 p10 p11 p12 p13 p14 p15 p16 p17 (bif decide (p22 = (0 : Int)) then (bif decide ((bif decide (p22 = (0 : Int)) then p4 else (bif decide (p22 = (1 : Int)) then p5 else p6)) = (0 : Int)) then ((nth T_A3 p3 p21)).1 else (bif decide ((bif decide (p22 = (0 : Int)) then p4 else (bif decide (p22 = (1 : Int)) then p5 else p6)) = (1 : Int)) then (((nth T_A3 p3 p21)).2).1 else ((((nth T_A3 p3 p21)).2).2).1)) else p18) (bif decide (p22 = (1 : Int)) then (bif decide ((bif decide (p22 = (0 : Int)) then p4 else (bif decide (p22 = (1 : Int)) then p5 else p6)) = (0 : Int)) then ((nth T_A3 p3 p21)).1 else (bif decide ((bif decide (p22 = (0 : Int)) then p4 else (bif decide (p22 = (1 : Int)) then p5 else p6)) = (1 : Int)) then (((nth T_A3 p3 p21)).2).1 else ((((nth T_A3 p3 p21)).2).2).1)) else p19) (bif decide (p22 = (2 : Int)) then (bif decide ((bif decide (p22 = (0 : Int)) then p4 else (bif decide (p22 = (1 : Int)) then p5 else p6)) = (0 : Int)) then ((nth T_A3 p3 p21)).1 else (bif decide ((bif decide (p22 = (0 : Int)) then p4 else (bif decide (p22 = (1 : Int)) then p5 else p6)) = (1 : Int)) then (((nth T_A3 p3 p21)).2).1 else ((((nth T_A3 p3 p21)).2).2).1)) else p20) p21 (IntKind.wrap .i64 (p22 + 1))
            else none
          else none
        else none
      else none
    else none
  else
    Option.bind (E_spec_l2With ((p14, (p15, (p16, (p17, ())))), (p18, (p19, (p20, ()))), ())) fun r1 =>
    k_3 p0 p1 p2 p3 p4 p5 p6 p7 p8 p9 p10 p11 p12 p13 r1.1.1 r1.1.2.1 r1.1.2.2.1 r1.1.2.2.2.1 (IntKind.wrap .i64 (p21 + 1))) _
    repeat first
    | with_reducible exact Le.rfl
    | with_reducible exact ih M hMM _ _ _ _ _ _ _ _ _ _ _ _ _ _ _ _ _ _ _ _ _ _ _
    | with_reducible exact h_3 _ _ _ _ _ _ _ _ _ _ _ _ _ _ _ _ _ _ _
    | with_reducible exact v_spec_l2Long _
    | with_reducible exact v_spec_l2With _
    | with_reducible refine Le.bind ?_ (fun _ => ?_)
    | with_reducible refine Le.cond ?_ ?_
noncomputable def e_spec_l8Made_3  (m : Nat) : (Int) → (Int) → (Int) → (List D_A3) → (Int) → (Int) → (Int) → (Int) → (Int) → (Int) → (Int) → (Int) → (Int) → (List D_A3) → (Int) → (Int) → (Int) → (List D_A3) → (Int) → Option (denL R_spec_l8Made) := Nat.rec (motive := fun _ => (Int) → (Int) → (Int) → (List D_A3) → (Int) → (Int) → (Int) → (Int) → (Int) → (Int) → (Int) → (Int) → (Int) → (List D_A3) → (Int) → (Int) → (Int) → (List D_A3) → (Int) → Option (denL R_spec_l8Made)) (fun _ _ _ _ _ _ _ _ _ _ _ _ _ _ _ _ _ _ _ => none) (fun _ ih p0 p1 p2 p3 p4 p5 p6 p7 p8 p9 p10 p11 p12 p13 p14 p15 p16 p17 p18 =>
  bif decide (p18 < (List.length p3 : Int)) then
    e_spec_l8Made_7 ih 200 p0 p1 p2 p3 p4 p5 p6 p7 p8 p9 p10 p11 p12 p13 p14 p15 p16 p17 0 0 0 p18 0
  else
    some ((p14, (p15, (p16, (p17, ())))), ())) m
theorem w_spec_l8Made_3    : ∀ (m M : Nat), m ≤ M → ∀ (p0 : Int) (p1 : Int) (p2 : Int) (p3 : List D_A3) (p4 : Int) (p5 : Int) (p6 : Int) (p7 : Int) (p8 : Int) (p9 : Int) (p10 : Int) (p11 : Int) (p12 : Int) (p13 : List D_A3) (p14 : Int) (p15 : Int) (p16 : Int) (p17 : List D_A3) (p18 : Int), Le (e_spec_l8Made_3  m p0 p1 p2 p3 p4 p5 p6 p7 p8 p9 p10 p11 p12 p13 p14 p15 p16 p17 p18) (l_spec_l8Made_3  M p0 p1 p2 p3 p4 p5 p6 p7 p8 p9 p10 p11 p12 p13 p14 p15 p16 p17 p18) := by
  intro m
  induction m with
  | zero => intro M _ p0 p1 p2 p3 p4 p5 p6 p7 p8 p9 p10 p11 p12 p13 p14 p15 p16 p17 p18 ; exact Le.none
  | succ m ih =>
    intro M0 hM p0 p1 p2 p3 p4 p5 p6 p7 p8 p9 p10 p11 p12 p13 p14 p15 p16 p17 p18
    obtain ⟨M, rfl⟩ : ∃ M, M0 = M + 1 := ⟨M0 - 1, by omega⟩
    have hMM : m ≤ M := by omega
    have hK := K_le 200 (by decide)
    rw [q_spec_l8Made_3]
    show Le (
  bif decide (p18 < (List.length p3 : Int)) then
    e_spec_l8Made_7 (e_spec_l8Made_3  m) 200 p0 p1 p2 p3 p4 p5 p6 p7 p8 p9 p10 p11 p12 p13 p14 p15 p16 p17 0 0 0 p18 0
  else
    some ((p14, (p15, (p16, (p17, ())))), ())) _
    repeat first
    | with_reducible exact Le.rfl
    | with_reducible exact ih M hMM _ _ _ _ _ _ _ _ _ _ _ _ _ _ _ _ _ _ _
    | with_reducible exact w_spec_l8Made_7 _ _ (ih M hMM) 200 N hK _ _ _ _ _ _ _ _ _ _ _ _ _ _ _ _ _ _ _ _ _ _ _
    | with_reducible refine Le.bind ?_ (fun _ => ?_)
    | with_reducible refine Le.cond ?_ ?_
noncomputable def E_spec_l8Made : Ft_spec_l8Made := fun x =>
  Option.bind (E_spec_l2Long (x.1, x.2.1.1.1, ())) fun r0 =>
  Option.bind (E_spec_l2Long (x.1, x.2.1.1.2.1, ())) fun r1 =>
  Option.bind (E_spec_l2Long (x.1, x.2.1.1.2.2.1, ())) fun r2 =>
  Option.bind (E_spec_l2Empty (r0.1, r1.1, r2.1, ())) fun r3 =>
  e_spec_l8Made_3 200 x.1.1 x.1.2.1 x.1.2.2.1 x.1.2.2.2.1 x.2.1.1.1 x.2.1.1.2.1 x.2.1.1.2.2.1 x.2.1.2.1.1 x.2.1.2.1.2.1 x.2.1.2.1.2.2.1 0 0 0 ([] : List D_A3) r3.1.1 r3.1.2.1 r3.1.2.2.1 r3.1.2.2.2.1 0
theorem v_spec_l8Made : ∀ x, Le (E_spec_l8Made x) (P_spec_l8Made x) := by
  have hK := K_le 200 (by decide)
  rintro ⟨a0, a1, ⟨⟩⟩
  rw [show P_spec_l8Made (a0, a1, ()) = _ from p_spec_l8Made a0 a1]
  show Le (
  Option.bind (E_spec_l2Long (a0, a1.1.1, ())) fun r0 =>
  Option.bind (E_spec_l2Long (a0, a1.1.2.1, ())) fun r1 =>
  Option.bind (E_spec_l2Long (a0, a1.1.2.2.1, ())) fun r2 =>
  Option.bind (E_spec_l2Empty (r0.1, r1.1, r2.1, ())) fun r3 =>
  e_spec_l8Made_3 200 a0.1 a0.2.1 a0.2.2.1 a0.2.2.2.1 a1.1.1 a1.1.2.1 a1.1.2.2.1 a1.2.1.1 a1.2.1.2.1 a1.2.1.2.2.1 0 0 0 ([] : List D_A3) r3.1.1 r3.1.2.1 r3.1.2.2.1 r3.1.2.2.2.1 0) _
  repeat first
    | with_reducible exact Le.rfl
    | with_reducible exact w_spec_l8Made_3 200 N hK _ _ _ _ _ _ _ _ _ _ _ _ _ _ _ _ _ _ _
    | with_reducible exact v_spec_l2Empty _
    | with_reducible exact v_spec_l2Long _
    | with_reducible refine Le.bind ?_ (fun _ => ?_)
    | with_reducible refine Le.cond ?_ ?_
noncomputable def e_spec_l8Less_5  (m : Nat) : (Int) → (Int) → (Int) → (List D_A3) → (Int) → (Int) → (Int) → (List D_A3) → (Int) → Option (denL R_spec_l8Less) := Nat.rec (motive := fun _ => (Int) → (Int) → (Int) → (List D_A3) → (Int) → (Int) → (Int) → (List D_A3) → (Int) → Option (denL R_spec_l8Less)) (fun _ _ _ _ _ _ _ _ _ => none) (fun _ ih p0 p1 p2 p3 p4 p5 p6 p7 p8 =>
  bif decide (p8 < (List.length p3 : Int)) then
    bif decide (p8 < (List.length p7 : Int)) then
      bif inB p8 (List.length p3) then
        bif inB p8 (List.length p7) then
          bif !(decide (((nth T_A3 p3 p8)).1 = ((nth T_A3 p7 p8)).1) && (decide ((((nth T_A3 p3 p8)).2).1 = (((nth T_A3 p7 p8)).2).1) && (decide (((((nth T_A3 p3 p8)).2).2).1 = ((((nth T_A3 p7 p8)).2).2).1) && true))) then
            bif inB p8 (List.length p3) then
              bif inB p8 (List.length p7) then
                Option.bind (E_spec_l2Before ((nth T_A3 p3 p8), (nth T_A3 p7 p8), ())) fun r7 =>
                some (r7.1, ())
              else none
            else none
          else
            ih p0 p1 p2 p3 p4 p5 p6 p7 (IntKind.wrap .i64 (p8 + 1))
        else none
      else none
    else
      some (decide ((List.length p3 : Int) < (List.length p7 : Int)), ())
  else
    some (decide ((List.length p3 : Int) < (List.length p7 : Int)), ())) m
theorem w_spec_l8Less_5    : ∀ (m M : Nat), m ≤ M → ∀ (p0 : Int) (p1 : Int) (p2 : Int) (p3 : List D_A3) (p4 : Int) (p5 : Int) (p6 : Int) (p7 : List D_A3) (p8 : Int), Le (e_spec_l8Less_5  m p0 p1 p2 p3 p4 p5 p6 p7 p8) (l_spec_l8Less_5  M p0 p1 p2 p3 p4 p5 p6 p7 p8) := by
  intro m
  induction m with
  | zero => intro M _ p0 p1 p2 p3 p4 p5 p6 p7 p8 ; exact Le.none
  | succ m ih =>
    intro M0 hM p0 p1 p2 p3 p4 p5 p6 p7 p8
    obtain ⟨M, rfl⟩ : ∃ M, M0 = M + 1 := ⟨M0 - 1, by omega⟩
    have hMM : m ≤ M := by omega
    have hK := K_le 200 (by decide)
    rw [q_spec_l8Less_5]
    show Le (
  bif decide (p8 < (List.length p3 : Int)) then
    bif decide (p8 < (List.length p7 : Int)) then
      bif inB p8 (List.length p3) then
        bif inB p8 (List.length p7) then
          bif !(decide (((nth T_A3 p3 p8)).1 = ((nth T_A3 p7 p8)).1) && (decide ((((nth T_A3 p3 p8)).2).1 = (((nth T_A3 p7 p8)).2).1) && (decide (((((nth T_A3 p3 p8)).2).2).1 = ((((nth T_A3 p7 p8)).2).2).1) && true))) then
            bif inB p8 (List.length p3) then
              bif inB p8 (List.length p7) then
                Option.bind (E_spec_l2Before ((nth T_A3 p3 p8), (nth T_A3 p7 p8), ())) fun r7 =>
                some (r7.1, ())
              else none
            else none
          else
            (e_spec_l8Less_5  m) p0 p1 p2 p3 p4 p5 p6 p7 (IntKind.wrap .i64 (p8 + 1))
        else none
      else none
    else
      some (decide ((List.length p3 : Int) < (List.length p7 : Int)), ())
  else
    some (decide ((List.length p3 : Int) < (List.length p7 : Int)), ())) _
    repeat first
    | with_reducible exact Le.rfl
    | with_reducible exact ih M hMM _ _ _ _ _ _ _ _ _
    | with_reducible exact v_spec_l2Before _
    | with_reducible refine Le.bind ?_ (fun _ => ?_)
    | with_reducible refine Le.cond ?_ ?_
noncomputable def E_spec_l8Less : Ft_spec_l8Less := fun x =>
  bif !(decide (x.1.1 = x.2.1.1) && (decide (x.1.2.1 = x.2.1.2.1) && (decide (x.1.2.2.1 = x.2.1.2.2.1) && true))) then
    Option.bind (E_spec_l2Before ((x.1.1, (x.1.2.1, (x.1.2.2.1, ()))), (x.2.1.1, (x.2.1.2.1, (x.2.1.2.2.1, ()))), ())) fun r1 =>
    some (r1.1, ())
  else
    e_spec_l8Less_5 200 x.1.1 x.1.2.1 x.1.2.2.1 x.1.2.2.2.1 x.2.1.1 x.2.1.2.1 x.2.1.2.2.1 x.2.1.2.2.2.1 0
theorem v_spec_l8Less : ∀ x, Le (E_spec_l8Less x) (P_spec_l8Less x) := by
  have hK := K_le 200 (by decide)
  rintro ⟨a0, a1, ⟨⟩⟩
  rw [show P_spec_l8Less (a0, a1, ()) = _ from p_spec_l8Less a0 a1]
  show Le (
  bif !(decide (a0.1 = a1.1) && (decide (a0.2.1 = a1.2.1) && (decide (a0.2.2.1 = a1.2.2.1) && true))) then
    Option.bind (E_spec_l2Before ((a0.1, (a0.2.1, (a0.2.2.1, ()))), (a1.1, (a1.2.1, (a1.2.2.1, ()))), ())) fun r1 =>
    some (r1.1, ())
  else
    e_spec_l8Less_5 200 a0.1 a0.2.1 a0.2.2.1 a0.2.2.2.1 a1.1 a1.2.1 a1.2.2.1 a1.2.2.2.1 0) _
  repeat first
    | with_reducible exact Le.rfl
    | with_reducible exact w_spec_l8Less_5 200 N hK _ _ _ _ _ _ _ _ _
    | with_reducible exact v_spec_l2Before _
    | with_reducible refine Le.bind ?_ (fun _ => ?_)
    | with_reducible refine Le.cond ?_ ?_
noncomputable def e_spec_l8First_3  (m : Nat) : (Int) → (Int) → (Int) → (List D_A3) → (Int) → (Int) → (Int) → (List D_A3) → (Int) → (Int) → (Int) → (List D_A3) → (List D_l8Turn) → (Int) → Option (denL R_spec_l8First) := Nat.rec (motive := fun _ => (Int) → (Int) → (Int) → (List D_A3) → (Int) → (Int) → (Int) → (List D_A3) → (Int) → (Int) → (Int) → (List D_A3) → (List D_l8Turn) → (Int) → Option (denL R_spec_l8First)) (fun _ _ _ _ _ _ _ _ _ _ _ _ _ _ => none) (fun _ ih p0 p1 p2 p3 p4 p5 p6 p7 p8 p9 p10 p11 p12 p13 =>
  bif decide (p13 < (List.length p12 : Int)) then
    bif inB p13 (List.length p12) then
      Option.bind (E_spec_l8Made ((p0, (p1, (p2, (p3, ())))), (nth T_l8Turn p12 p13), ())) fun r2 =>
      Option.bind (E_spec_l2Cropped (r2.1, ())) fun r3 =>
      Option.bind (E_spec_l8Less (r3.1, (p8, (p9, (p10, (p11, ())))), ())) fun r4 =>
      bif r4.1 then
        ih p0 p1 p2 p3 p4 p5 p6 p7 r3.1.1 r3.1.2.1 r3.1.2.2.1 r3.1.2.2.2.1 p12 (IntKind.wrap .i64 (p13 + 1))
      else
        ih p0 p1 p2 p3 p4 p5 p6 p7 p8 p9 p10 p11 p12 (IntKind.wrap .i64 (p13 + 1))
    else none
  else
    some ((p8, (p9, (p10, (p11, ())))), ())) m
theorem w_spec_l8First_3    : ∀ (m M : Nat), m ≤ M → ∀ (p0 : Int) (p1 : Int) (p2 : Int) (p3 : List D_A3) (p4 : Int) (p5 : Int) (p6 : Int) (p7 : List D_A3) (p8 : Int) (p9 : Int) (p10 : Int) (p11 : List D_A3) (p12 : List D_l8Turn) (p13 : Int), Le (e_spec_l8First_3  m p0 p1 p2 p3 p4 p5 p6 p7 p8 p9 p10 p11 p12 p13) (l_spec_l8First_3  M p0 p1 p2 p3 p4 p5 p6 p7 p8 p9 p10 p11 p12 p13) := by
  intro m
  induction m with
  | zero => intro M _ p0 p1 p2 p3 p4 p5 p6 p7 p8 p9 p10 p11 p12 p13 ; exact Le.none
  | succ m ih =>
    intro M0 hM p0 p1 p2 p3 p4 p5 p6 p7 p8 p9 p10 p11 p12 p13
    obtain ⟨M, rfl⟩ : ∃ M, M0 = M + 1 := ⟨M0 - 1, by omega⟩
    have hMM : m ≤ M := by omega
    have hK := K_le 200 (by decide)
    rw [q_spec_l8First_3]
    show Le (
  bif decide (p13 < (List.length p12 : Int)) then
    bif inB p13 (List.length p12) then
      Option.bind (E_spec_l8Made ((p0, (p1, (p2, (p3, ())))), (nth T_l8Turn p12 p13), ())) fun r2 =>
      Option.bind (E_spec_l2Cropped (r2.1, ())) fun r3 =>
      Option.bind (E_spec_l8Less (r3.1, (p8, (p9, (p10, (p11, ())))), ())) fun r4 =>
      bif r4.1 then
        (e_spec_l8First_3  m) p0 p1 p2 p3 p4 p5 p6 p7 r3.1.1 r3.1.2.1 r3.1.2.2.1 r3.1.2.2.2.1 p12 (IntKind.wrap .i64 (p13 + 1))
      else
        (e_spec_l8First_3  m) p0 p1 p2 p3 p4 p5 p6 p7 p8 p9 p10 p11 p12 (IntKind.wrap .i64 (p13 + 1))
    else none
  else
    some ((p8, (p9, (p10, (p11, ())))), ())) _
    repeat first
    | with_reducible exact Le.rfl
    | with_reducible exact ih M hMM _ _ _ _ _ _ _ _ _ _ _ _ _ _
    | with_reducible exact v_spec_l2Cropped _
    | with_reducible exact v_spec_l8Less _
    | with_reducible exact v_spec_l8Made _
    | with_reducible refine Le.bind ?_ (fun _ => ?_)
    | with_reducible refine Le.cond ?_ ?_
noncomputable def E_spec_l8First : Ft_spec_l8First := fun x =>
  Option.bind (E_spec_l2Cropped (x.1, ())) fun r0 =>
  Option.bind (E_spec_l8Turns (())) fun r1 =>
  e_spec_l8First_3 200 x.1.1 x.1.2.1 x.1.2.2.1 x.1.2.2.2.1 0 0 0 ([] : List D_A3) r0.1.1 r0.1.2.1 r0.1.2.2.1 r0.1.2.2.2.1 r1.1 0
theorem v_spec_l8First : ∀ x, Le (E_spec_l8First x) (P_spec_l8First x) := by
  have hK := K_le 200 (by decide)
  rintro ⟨a0, ⟨⟩⟩
  rw [show P_spec_l8First (a0, ()) = _ from p_spec_l8First a0]
  show Le (
  Option.bind (E_spec_l2Cropped (a0, ())) fun r0 =>
  Option.bind (E_spec_l8Turns (())) fun r1 =>
  e_spec_l8First_3 200 a0.1 a0.2.1 a0.2.2.1 a0.2.2.2.1 0 0 0 ([] : List D_A3) r0.1.1 r0.1.2.1 r0.1.2.2.1 r0.1.2.2.2.1 r1.1 0) _
  repeat first
    | with_reducible exact Le.rfl
    | with_reducible exact w_spec_l8First_3 200 N hK _ _ _ _ _ _ _ _ _ _ _ _ _ _
    | with_reducible exact v_spec_l2Cropped _
    | with_reducible exact v_spec_l8Turns _
    | with_reducible refine Le.bind ?_ (fun _ => ?_)
    | with_reducible refine Le.cond ?_ ?_
noncomputable def E_spec_l8Same : Ft_spec_l8Same := fun x =>
  Option.bind (E_spec_l8Less (x.1, x.2.1, ())) fun r0 =>
  bif !r0.1 then
    Option.bind (E_spec_l8Less (x.2.1, x.1, ())) fun r2 =>
    some (!r2.1, ())
  else
    some (false, ())
theorem v_spec_l8Same : ∀ x, Le (E_spec_l8Same x) (P_spec_l8Same x) := by
  have hK := K_le 200 (by decide)
  rintro ⟨a0, a1, ⟨⟩⟩
  rw [show P_spec_l8Same (a0, a1, ()) = _ from p_spec_l8Same a0 a1]
  show Le (
  Option.bind (E_spec_l8Less (a0, a1, ())) fun r0 =>
  bif !r0.1 then
    Option.bind (E_spec_l8Less (a1, a0, ())) fun r2 =>
    some (!r2.1, ())
  else
    some (false, ())) _
  repeat first
    | with_reducible exact Le.rfl
    | with_reducible exact v_spec_l8Less _
    | with_reducible refine Le.bind ?_ (fun _ => ?_)
    | with_reducible refine Le.cond ?_ ?_
noncomputable def e_spec_l8Insert_2  (m : Nat) : (Int) → (Int) → (Int) → (List D_A3) → (List D_Heap) → (Int) → Option (denL R_spec_l8Insert) := Nat.rec (motive := fun _ => (Int) → (Int) → (Int) → (List D_A3) → (List D_Heap) → (Int) → Option (denL R_spec_l8Insert)) (fun _ _ _ _ _ _ => none) (fun _ ih p0 p1 p2 p3 p4 p5 =>
  bif decide (p5 < (List.length p4 : Int)) then
    bif inB p5 (List.length p4) then
      Option.bind (E_spec_l8Less ((nth T_Heap p4 p5), (p0, (p1, (p2, (p3, ())))), ())) fun r2 =>
      bif r2.1 then
        ih p0 p1 p2 p3 p4 (IntKind.wrap .i64 (p5 + 1))
      else
        bif decide (p5 < (List.length p4 : Int)) then
          bif inB p5 (List.length p4) then
            Option.bind (E_spec_l8Same ((nth T_Heap p4 p5), (p0, (p1, (p2, (p3, ())))), ())) fun r6 =>
            bif r6.1 then
              some (p4, ())
            else
              bif (decide ((0 : Int) ≤ 0) && decide ((0 : Int) ≤ p5) && decide (p5 ≤ (List.length p4 : Int))) then
                bif (decide (((List.length ([] : List D_Heap)) + (List.length (cut p4 0 p5))) * 48 ≤ 140737488355328) && decide (((List.length ([] : List D_Heap)) + (List.length (cut p4 0 p5))) ≤ 140737488355328)) then
                  bif (decide (((List.length (([] : List D_Heap) ++ (cut p4 0 p5))) + (List.length ([(p0, (p1, (p2, (p3, ()))))] : List D_Heap))) * 48 ≤ 140737488355328) && decide (((List.length (([] : List D_Heap) ++ (cut p4 0 p5))) + (List.length ([(p0, (p1, (p2, (p3, ()))))] : List D_Heap))) ≤ 140737488355328)) then
                    bif (decide ((0 : Int) ≤ p5) && decide (p5 ≤ (List.length p4 : Int)) && decide ((List.length p4 : Int) ≤ (List.length p4 : Int))) then
                      bif (decide (((List.length ((([] : List D_Heap) ++ (cut p4 0 p5)) ++ ([(p0, (p1, (p2, (p3, ()))))] : List D_Heap))) + (List.length (cut p4 p5 (List.length p4 : Int)))) * 48 ≤ 140737488355328) && decide (((List.length ((([] : List D_Heap) ++ (cut p4 0 p5)) ++ ([(p0, (p1, (p2, (p3, ()))))] : List D_Heap))) + (List.length (cut p4 p5 (List.length p4 : Int)))) ≤ 140737488355328)) then
                        some ((((([] : List D_Heap) ++ (cut p4 0 p5)) ++ ([(p0, (p1, (p2, (p3, ()))))] : List D_Heap)) ++ (cut p4 p5 (List.length p4 : Int))), ())
                      else none
                    else none
                  else none
                else none
              else none
          else none
        else
          bif (decide ((0 : Int) ≤ 0) && decide ((0 : Int) ≤ p5) && decide (p5 ≤ (List.length p4 : Int))) then
            bif (decide (((List.length ([] : List D_Heap)) + (List.length (cut p4 0 p5))) * 48 ≤ 140737488355328) && decide (((List.length ([] : List D_Heap)) + (List.length (cut p4 0 p5))) ≤ 140737488355328)) then
              bif (decide (((List.length (([] : List D_Heap) ++ (cut p4 0 p5))) + (List.length ([(p0, (p1, (p2, (p3, ()))))] : List D_Heap))) * 48 ≤ 140737488355328) && decide (((List.length (([] : List D_Heap) ++ (cut p4 0 p5))) + (List.length ([(p0, (p1, (p2, (p3, ()))))] : List D_Heap))) ≤ 140737488355328)) then
                bif (decide ((0 : Int) ≤ p5) && decide (p5 ≤ (List.length p4 : Int)) && decide ((List.length p4 : Int) ≤ (List.length p4 : Int))) then
                  bif (decide (((List.length ((([] : List D_Heap) ++ (cut p4 0 p5)) ++ ([(p0, (p1, (p2, (p3, ()))))] : List D_Heap))) + (List.length (cut p4 p5 (List.length p4 : Int)))) * 48 ≤ 140737488355328) && decide (((List.length ((([] : List D_Heap) ++ (cut p4 0 p5)) ++ ([(p0, (p1, (p2, (p3, ()))))] : List D_Heap))) + (List.length (cut p4 p5 (List.length p4 : Int)))) ≤ 140737488355328)) then
                    some ((((([] : List D_Heap) ++ (cut p4 0 p5)) ++ ([(p0, (p1, (p2, (p3, ()))))] : List D_Heap)) ++ (cut p4 p5 (List.length p4 : Int))), ())
                  else none
                else none
              else none
            else none
          else none
    else none
  else
    bif decide (p5 < (List.length p4 : Int)) then
      bif inB p5 (List.length p4) then
        Option.bind (E_spec_l8Same ((nth T_Heap p4 p5), (p0, (p1, (p2, (p3, ())))), ())) fun r3 =>
        bif r3.1 then
          some (p4, ())
        else
          bif (decide ((0 : Int) ≤ 0) && decide ((0 : Int) ≤ p5) && decide (p5 ≤ (List.length p4 : Int))) then
            bif (decide (((List.length ([] : List D_Heap)) + (List.length (cut p4 0 p5))) * 48 ≤ 140737488355328) && decide (((List.length ([] : List D_Heap)) + (List.length (cut p4 0 p5))) ≤ 140737488355328)) then
              bif (decide (((List.length (([] : List D_Heap) ++ (cut p4 0 p5))) + (List.length ([(p0, (p1, (p2, (p3, ()))))] : List D_Heap))) * 48 ≤ 140737488355328) && decide (((List.length (([] : List D_Heap) ++ (cut p4 0 p5))) + (List.length ([(p0, (p1, (p2, (p3, ()))))] : List D_Heap))) ≤ 140737488355328)) then
                bif (decide ((0 : Int) ≤ p5) && decide (p5 ≤ (List.length p4 : Int)) && decide ((List.length p4 : Int) ≤ (List.length p4 : Int))) then
                  bif (decide (((List.length ((([] : List D_Heap) ++ (cut p4 0 p5)) ++ ([(p0, (p1, (p2, (p3, ()))))] : List D_Heap))) + (List.length (cut p4 p5 (List.length p4 : Int)))) * 48 ≤ 140737488355328) && decide (((List.length ((([] : List D_Heap) ++ (cut p4 0 p5)) ++ ([(p0, (p1, (p2, (p3, ()))))] : List D_Heap))) + (List.length (cut p4 p5 (List.length p4 : Int)))) ≤ 140737488355328)) then
                    some ((((([] : List D_Heap) ++ (cut p4 0 p5)) ++ ([(p0, (p1, (p2, (p3, ()))))] : List D_Heap)) ++ (cut p4 p5 (List.length p4 : Int))), ())
                  else none
                else none
              else none
            else none
          else none
      else none
    else
      bif (decide ((0 : Int) ≤ 0) && decide ((0 : Int) ≤ p5) && decide (p5 ≤ (List.length p4 : Int))) then
        bif (decide (((List.length ([] : List D_Heap)) + (List.length (cut p4 0 p5))) * 48 ≤ 140737488355328) && decide (((List.length ([] : List D_Heap)) + (List.length (cut p4 0 p5))) ≤ 140737488355328)) then
          bif (decide (((List.length (([] : List D_Heap) ++ (cut p4 0 p5))) + (List.length ([(p0, (p1, (p2, (p3, ()))))] : List D_Heap))) * 48 ≤ 140737488355328) && decide (((List.length (([] : List D_Heap) ++ (cut p4 0 p5))) + (List.length ([(p0, (p1, (p2, (p3, ()))))] : List D_Heap))) ≤ 140737488355328)) then
            bif (decide ((0 : Int) ≤ p5) && decide (p5 ≤ (List.length p4 : Int)) && decide ((List.length p4 : Int) ≤ (List.length p4 : Int))) then
              bif (decide (((List.length ((([] : List D_Heap) ++ (cut p4 0 p5)) ++ ([(p0, (p1, (p2, (p3, ()))))] : List D_Heap))) + (List.length (cut p4 p5 (List.length p4 : Int)))) * 48 ≤ 140737488355328) && decide (((List.length ((([] : List D_Heap) ++ (cut p4 0 p5)) ++ ([(p0, (p1, (p2, (p3, ()))))] : List D_Heap))) + (List.length (cut p4 p5 (List.length p4 : Int)))) ≤ 140737488355328)) then
                some ((((([] : List D_Heap) ++ (cut p4 0 p5)) ++ ([(p0, (p1, (p2, (p3, ()))))] : List D_Heap)) ++ (cut p4 p5 (List.length p4 : Int))), ())
              else none
            else none
          else none
        else none
      else none) m
theorem w_spec_l8Insert_2    : ∀ (m M : Nat), m ≤ M → ∀ (p0 : Int) (p1 : Int) (p2 : Int) (p3 : List D_A3) (p4 : List D_Heap) (p5 : Int), Le (e_spec_l8Insert_2  m p0 p1 p2 p3 p4 p5) (l_spec_l8Insert_2  M p0 p1 p2 p3 p4 p5) := by
  intro m
  induction m with
  | zero => intro M _ p0 p1 p2 p3 p4 p5 ; exact Le.none
  | succ m ih =>
    intro M0 hM p0 p1 p2 p3 p4 p5
    obtain ⟨M, rfl⟩ : ∃ M, M0 = M + 1 := ⟨M0 - 1, by omega⟩
    have hMM : m ≤ M := by omega
    have hK := K_le 200 (by decide)
    rw [q_spec_l8Insert_2]
    show Le (
  bif decide (p5 < (List.length p4 : Int)) then
    bif inB p5 (List.length p4) then
      Option.bind (E_spec_l8Less ((nth T_Heap p4 p5), (p0, (p1, (p2, (p3, ())))), ())) fun r2 =>
      bif r2.1 then
        (e_spec_l8Insert_2  m) p0 p1 p2 p3 p4 (IntKind.wrap .i64 (p5 + 1))
      else
        bif decide (p5 < (List.length p4 : Int)) then
          bif inB p5 (List.length p4) then
            Option.bind (E_spec_l8Same ((nth T_Heap p4 p5), (p0, (p1, (p2, (p3, ())))), ())) fun r6 =>
            bif r6.1 then
              some (p4, ())
            else
              bif (decide ((0 : Int) ≤ 0) && decide ((0 : Int) ≤ p5) && decide (p5 ≤ (List.length p4 : Int))) then
                bif (decide (((List.length ([] : List D_Heap)) + (List.length (cut p4 0 p5))) * 48 ≤ 140737488355328) && decide (((List.length ([] : List D_Heap)) + (List.length (cut p4 0 p5))) ≤ 140737488355328)) then
                  bif (decide (((List.length (([] : List D_Heap) ++ (cut p4 0 p5))) + (List.length ([(p0, (p1, (p2, (p3, ()))))] : List D_Heap))) * 48 ≤ 140737488355328) && decide (((List.length (([] : List D_Heap) ++ (cut p4 0 p5))) + (List.length ([(p0, (p1, (p2, (p3, ()))))] : List D_Heap))) ≤ 140737488355328)) then
                    bif (decide ((0 : Int) ≤ p5) && decide (p5 ≤ (List.length p4 : Int)) && decide ((List.length p4 : Int) ≤ (List.length p4 : Int))) then
                      bif (decide (((List.length ((([] : List D_Heap) ++ (cut p4 0 p5)) ++ ([(p0, (p1, (p2, (p3, ()))))] : List D_Heap))) + (List.length (cut p4 p5 (List.length p4 : Int)))) * 48 ≤ 140737488355328) && decide (((List.length ((([] : List D_Heap) ++ (cut p4 0 p5)) ++ ([(p0, (p1, (p2, (p3, ()))))] : List D_Heap))) + (List.length (cut p4 p5 (List.length p4 : Int)))) ≤ 140737488355328)) then
                        some ((((([] : List D_Heap) ++ (cut p4 0 p5)) ++ ([(p0, (p1, (p2, (p3, ()))))] : List D_Heap)) ++ (cut p4 p5 (List.length p4 : Int))), ())
                      else none
                    else none
                  else none
                else none
              else none
          else none
        else
          bif (decide ((0 : Int) ≤ 0) && decide ((0 : Int) ≤ p5) && decide (p5 ≤ (List.length p4 : Int))) then
            bif (decide (((List.length ([] : List D_Heap)) + (List.length (cut p4 0 p5))) * 48 ≤ 140737488355328) && decide (((List.length ([] : List D_Heap)) + (List.length (cut p4 0 p5))) ≤ 140737488355328)) then
              bif (decide (((List.length (([] : List D_Heap) ++ (cut p4 0 p5))) + (List.length ([(p0, (p1, (p2, (p3, ()))))] : List D_Heap))) * 48 ≤ 140737488355328) && decide (((List.length (([] : List D_Heap) ++ (cut p4 0 p5))) + (List.length ([(p0, (p1, (p2, (p3, ()))))] : List D_Heap))) ≤ 140737488355328)) then
                bif (decide ((0 : Int) ≤ p5) && decide (p5 ≤ (List.length p4 : Int)) && decide ((List.length p4 : Int) ≤ (List.length p4 : Int))) then
                  bif (decide (((List.length ((([] : List D_Heap) ++ (cut p4 0 p5)) ++ ([(p0, (p1, (p2, (p3, ()))))] : List D_Heap))) + (List.length (cut p4 p5 (List.length p4 : Int)))) * 48 ≤ 140737488355328) && decide (((List.length ((([] : List D_Heap) ++ (cut p4 0 p5)) ++ ([(p0, (p1, (p2, (p3, ()))))] : List D_Heap))) + (List.length (cut p4 p5 (List.length p4 : Int)))) ≤ 140737488355328)) then
                    some ((((([] : List D_Heap) ++ (cut p4 0 p5)) ++ ([(p0, (p1, (p2, (p3, ()))))] : List D_Heap)) ++ (cut p4 p5 (List.length p4 : Int))), ())
                  else none
                else none
              else none
            else none
          else none
    else none
  else
    bif decide (p5 < (List.length p4 : Int)) then
      bif inB p5 (List.length p4) then
        Option.bind (E_spec_l8Same ((nth T_Heap p4 p5), (p0, (p1, (p2, (p3, ())))), ())) fun r3 =>
        bif r3.1 then
          some (p4, ())
        else
          bif (decide ((0 : Int) ≤ 0) && decide ((0 : Int) ≤ p5) && decide (p5 ≤ (List.length p4 : Int))) then
            bif (decide (((List.length ([] : List D_Heap)) + (List.length (cut p4 0 p5))) * 48 ≤ 140737488355328) && decide (((List.length ([] : List D_Heap)) + (List.length (cut p4 0 p5))) ≤ 140737488355328)) then
              bif (decide (((List.length (([] : List D_Heap) ++ (cut p4 0 p5))) + (List.length ([(p0, (p1, (p2, (p3, ()))))] : List D_Heap))) * 48 ≤ 140737488355328) && decide (((List.length (([] : List D_Heap) ++ (cut p4 0 p5))) + (List.length ([(p0, (p1, (p2, (p3, ()))))] : List D_Heap))) ≤ 140737488355328)) then
                bif (decide ((0 : Int) ≤ p5) && decide (p5 ≤ (List.length p4 : Int)) && decide ((List.length p4 : Int) ≤ (List.length p4 : Int))) then
                  bif (decide (((List.length ((([] : List D_Heap) ++ (cut p4 0 p5)) ++ ([(p0, (p1, (p2, (p3, ()))))] : List D_Heap))) + (List.length (cut p4 p5 (List.length p4 : Int)))) * 48 ≤ 140737488355328) && decide (((List.length ((([] : List D_Heap) ++ (cut p4 0 p5)) ++ ([(p0, (p1, (p2, (p3, ()))))] : List D_Heap))) + (List.length (cut p4 p5 (List.length p4 : Int)))) ≤ 140737488355328)) then
                    some ((((([] : List D_Heap) ++ (cut p4 0 p5)) ++ ([(p0, (p1, (p2, (p3, ()))))] : List D_Heap)) ++ (cut p4 p5 (List.length p4 : Int))), ())
                  else none
                else none
              else none
            else none
          else none
      else none
    else
      bif (decide ((0 : Int) ≤ 0) && decide ((0 : Int) ≤ p5) && decide (p5 ≤ (List.length p4 : Int))) then
        bif (decide (((List.length ([] : List D_Heap)) + (List.length (cut p4 0 p5))) * 48 ≤ 140737488355328) && decide (((List.length ([] : List D_Heap)) + (List.length (cut p4 0 p5))) ≤ 140737488355328)) then
          bif (decide (((List.length (([] : List D_Heap) ++ (cut p4 0 p5))) + (List.length ([(p0, (p1, (p2, (p3, ()))))] : List D_Heap))) * 48 ≤ 140737488355328) && decide (((List.length (([] : List D_Heap) ++ (cut p4 0 p5))) + (List.length ([(p0, (p1, (p2, (p3, ()))))] : List D_Heap))) ≤ 140737488355328)) then
            bif (decide ((0 : Int) ≤ p5) && decide (p5 ≤ (List.length p4 : Int)) && decide ((List.length p4 : Int) ≤ (List.length p4 : Int))) then
              bif (decide (((List.length ((([] : List D_Heap) ++ (cut p4 0 p5)) ++ ([(p0, (p1, (p2, (p3, ()))))] : List D_Heap))) + (List.length (cut p4 p5 (List.length p4 : Int)))) * 48 ≤ 140737488355328) && decide (((List.length ((([] : List D_Heap) ++ (cut p4 0 p5)) ++ ([(p0, (p1, (p2, (p3, ()))))] : List D_Heap))) + (List.length (cut p4 p5 (List.length p4 : Int)))) ≤ 140737488355328)) then
                some ((((([] : List D_Heap) ++ (cut p4 0 p5)) ++ ([(p0, (p1, (p2, (p3, ()))))] : List D_Heap)) ++ (cut p4 p5 (List.length p4 : Int))), ())
              else none
            else none
          else none
        else none
      else none) _
    repeat first
    | with_reducible exact Le.rfl
    | with_reducible exact ih M hMM _ _ _ _ _ _
    | with_reducible exact v_spec_l8Less _
    | with_reducible exact v_spec_l8Same _
    | with_reducible refine Le.bind ?_ (fun _ => ?_)
    | with_reducible refine Le.cond ?_ ?_
noncomputable def E_spec_l8Insert : Ft_spec_l8Insert := fun x =>
  e_spec_l8Insert_2 200 x.2.1.1 x.2.1.2.1 x.2.1.2.2.1 x.2.1.2.2.2.1 x.1 0
theorem v_spec_l8Insert : ∀ x, Le (E_spec_l8Insert x) (P_spec_l8Insert x) := by
  have hK := K_le 200 (by decide)
  rintro ⟨a0, a1, ⟨⟩⟩
  rw [show P_spec_l8Insert (a0, a1, ()) = _ from p_spec_l8Insert a0 a1]
  show Le (
  e_spec_l8Insert_2 200 a1.1 a1.2.1 a1.2.2.1 a1.2.2.2.1 a0 0) _
  repeat first
    | with_reducible exact Le.rfl
    | with_reducible exact w_spec_l8Insert_2 200 N hK _ _ _ _ _ _
    | with_reducible refine Le.bind ?_ (fun _ => ?_)
    | with_reducible refine Le.cond ?_ ?_
noncomputable def e_spec_l8Forms_13 (_k_3 : (Int) → (List D_Heap) → (Int) → Option (denL R_spec_l8Forms)) (_k_7 : (Int) → (List D_Heap) → (Int) → (List D_Heap) → (Int) → Option (denL R_spec_l8Forms)) (k_10 : (Int) → (List D_Heap) → (Int) → (List D_Heap) → (Int) → (Int) → Option (denL R_spec_l8Forms)) (m : Nat) : (Int) → (List D_Heap) → (Int) → (List D_Heap) → (Int) → (Int) → (Int) → Option (denL R_spec_l8Forms) := Nat.rec (motive := fun _ => (Int) → (List D_Heap) → (Int) → (List D_Heap) → (Int) → (Int) → (Int) → Option (denL R_spec_l8Forms)) (fun _ _ _ _ _ _ _ => none) (fun _ ih p0 p1 p2 p3 p4 p5 p6 =>
  bif decide (p6 < 6) then
    bif inB p4 (List.length p1) then
      bif inB p4 (List.length p1) then
        bif inB p5 (List.length ((((((nth T_Heap p1 p4)).2).2).2).1)) then
          Option.bind (E_spec_l6Steps (())) fun r4 =>
          bif inB p6 6 then
            Option.bind (E_spec_l6Beside ((nth T_A3 ((((((nth T_Heap p1 p4)).2).2).2).1) p5), ((bif decide (p6 = (0 : Int)) then r4.1.1.1 else (bif decide (p6 = (1 : Int)) then r4.1.2.1.1 else (bif decide (p6 = (2 : Int)) then r4.1.2.2.1.1 else (bif decide (p6 = (3 : Int)) then r4.1.2.2.2.1.1 else (bif decide (p6 = (4 : Int)) then r4.1.2.2.2.2.1.1 else r4.1.2.2.2.2.2.1.1))))), ((bif decide (p6 = (0 : Int)) then r4.1.1.2.1 else (bif decide (p6 = (1 : Int)) then r4.1.2.1.2.1 else (bif decide (p6 = (2 : Int)) then r4.1.2.2.1.2.1 else (bif decide (p6 = (3 : Int)) then r4.1.2.2.2.1.2.1 else (bif decide (p6 = (4 : Int)) then r4.1.2.2.2.2.1.2.1 else r4.1.2.2.2.2.2.1.2.1))))), ((bif decide (p6 = (0 : Int)) then r4.1.1.2.2.1 else (bif decide (p6 = (1 : Int)) then r4.1.2.1.2.2.1 else (bif decide (p6 = (2 : Int)) then r4.1.2.2.1.2.2.1 else (bif decide (p6 = (3 : Int)) then r4.1.2.2.2.1.2.2.1 else (bif decide (p6 = (4 : Int)) then r4.1.2.2.2.2.1.2.2.1 else r4.1.2.2.2.2.2.1.2.2.1))))), ()))), ())) fun r6 =>
            Option.bind (E_spec_l8Grown ((nth T_Heap p1 p4), r6.1, ())) fun r7 =>
            bif r7.2.1 then
              Option.bind (E_spec_l8First (r7.1, ())) fun r9 =>
              Option.bind (E_spec_l8Insert (p3, r9.1, ())) fun r10 =>
              ih p0 p1 p2 r10.1 p4 p5 (IntKind.wrap .i64 (p6 + 1))
            else
              ih p0 p1 p2 p3 p4 p5 (IntKind.wrap .i64 (p6 + 1))
          else none
        else none
      else none
    else none
  else
    k_10 p0 p1 p2 p3 p4 (IntKind.wrap .i64 (p5 + 1))) m
theorem w_spec_l8Forms_13 (m0 m1 m2 : Nat) (k_3 : (Int) → (List D_Heap) → (Int) → Option (denL R_spec_l8Forms)) (k_7 : (Int) → (List D_Heap) → (Int) → (List D_Heap) → (Int) → Option (denL R_spec_l8Forms)) (k_10 : (Int) → (List D_Heap) → (Int) → (List D_Heap) → (Int) → (Int) → Option (denL R_spec_l8Forms)) (_h_3 : ∀ (p0 : Int) (p1 : List D_Heap) (p2 : Int), Le (k_3 p0 p1 p2) (l_spec_l8Forms_3 m0 p0 p1 p2)) (_h_7 : ∀ (p0 : Int) (p1 : List D_Heap) (p2 : Int) (p3 : List D_Heap) (p4 : Int), Le (k_7 p0 p1 p2 p3 p4) (l_spec_l8Forms_7 m0 m1 p0 p1 p2 p3 p4)) (h_10 : ∀ (p0 : Int) (p1 : List D_Heap) (p2 : Int) (p3 : List D_Heap) (p4 : Int) (p5 : Int), Le (k_10 p0 p1 p2 p3 p4 p5) (l_spec_l8Forms_10 m0 m1 m2 p0 p1 p2 p3 p4 p5)) : ∀ (m M : Nat), m ≤ M → ∀ (p0 : Int) (p1 : List D_Heap) (p2 : Int) (p3 : List D_Heap) (p4 : Int) (p5 : Int) (p6 : Int), Le (e_spec_l8Forms_13 k_3 k_7 k_10 m p0 p1 p2 p3 p4 p5 p6) (l_spec_l8Forms_13 m0 m1 m2 M p0 p1 p2 p3 p4 p5 p6) := by
  intro m
  induction m with
  | zero => intro M _ p0 p1 p2 p3 p4 p5 p6 ; exact Le.none
  | succ m ih =>
    intro M0 hM p0 p1 p2 p3 p4 p5 p6
    obtain ⟨M, rfl⟩ : ∃ M, M0 = M + 1 := ⟨M0 - 1, by omega⟩
    have hMM : m ≤ M := by omega
    have hK := K_le 200 (by decide)
    rw [q_spec_l8Forms_13]
    show Le (
  bif decide (p6 < 6) then
    bif inB p4 (List.length p1) then
      bif inB p4 (List.length p1) then
        bif inB p5 (List.length ((((((nth T_Heap p1 p4)).2).2).2).1)) then
          Option.bind (E_spec_l6Steps (())) fun r4 =>
          bif inB p6 6 then
            Option.bind (E_spec_l6Beside ((nth T_A3 ((((((nth T_Heap p1 p4)).2).2).2).1) p5), ((bif decide (p6 = (0 : Int)) then r4.1.1.1 else (bif decide (p6 = (1 : Int)) then r4.1.2.1.1 else (bif decide (p6 = (2 : Int)) then r4.1.2.2.1.1 else (bif decide (p6 = (3 : Int)) then r4.1.2.2.2.1.1 else (bif decide (p6 = (4 : Int)) then r4.1.2.2.2.2.1.1 else r4.1.2.2.2.2.2.1.1))))), ((bif decide (p6 = (0 : Int)) then r4.1.1.2.1 else (bif decide (p6 = (1 : Int)) then r4.1.2.1.2.1 else (bif decide (p6 = (2 : Int)) then r4.1.2.2.1.2.1 else (bif decide (p6 = (3 : Int)) then r4.1.2.2.2.1.2.1 else (bif decide (p6 = (4 : Int)) then r4.1.2.2.2.2.1.2.1 else r4.1.2.2.2.2.2.1.2.1))))), ((bif decide (p6 = (0 : Int)) then r4.1.1.2.2.1 else (bif decide (p6 = (1 : Int)) then r4.1.2.1.2.2.1 else (bif decide (p6 = (2 : Int)) then r4.1.2.2.1.2.2.1 else (bif decide (p6 = (3 : Int)) then r4.1.2.2.2.1.2.2.1 else (bif decide (p6 = (4 : Int)) then r4.1.2.2.2.2.1.2.2.1 else r4.1.2.2.2.2.2.1.2.2.1))))), ()))), ())) fun r6 =>
            Option.bind (E_spec_l8Grown ((nth T_Heap p1 p4), r6.1, ())) fun r7 =>
            bif r7.2.1 then
              Option.bind (E_spec_l8First (r7.1, ())) fun r9 =>
              Option.bind (E_spec_l8Insert (p3, r9.1, ())) fun r10 =>
              (e_spec_l8Forms_13 k_3 k_7 k_10 m) p0 p1 p2 r10.1 p4 p5 (IntKind.wrap .i64 (p6 + 1))
            else
              (e_spec_l8Forms_13 k_3 k_7 k_10 m) p0 p1 p2 p3 p4 p5 (IntKind.wrap .i64 (p6 + 1))
          else none
        else none
      else none
    else none
  else
    k_10 p0 p1 p2 p3 p4 (IntKind.wrap .i64 (p5 + 1))) _
    repeat first
    | with_reducible exact Le.rfl
    | with_reducible exact ih M hMM _ _ _ _ _ _ _
    | with_reducible exact h_10 _ _ _ _ _ _
    | with_reducible exact v_spec_l6Beside _
    | with_reducible exact v_spec_l6Steps _
    | with_reducible exact v_spec_l8First _
    | with_reducible exact v_spec_l8Grown _
    | with_reducible exact v_spec_l8Insert _
    | with_reducible refine Le.bind ?_ (fun _ => ?_)
    | with_reducible refine Le.cond ?_ ?_
noncomputable def e_spec_l8Forms_10 (k_3 : (Int) → (List D_Heap) → (Int) → Option (denL R_spec_l8Forms)) (k_7 : (Int) → (List D_Heap) → (Int) → (List D_Heap) → (Int) → Option (denL R_spec_l8Forms)) (m : Nat) : (Int) → (List D_Heap) → (Int) → (List D_Heap) → (Int) → (Int) → Option (denL R_spec_l8Forms) := Nat.rec (motive := fun _ => (Int) → (List D_Heap) → (Int) → (List D_Heap) → (Int) → (Int) → Option (denL R_spec_l8Forms)) (fun _ _ _ _ _ _ => none) (fun _ ih p0 p1 p2 p3 p4 p5 =>
  bif inB p4 (List.length p1) then
    bif decide (p5 < (List.length ((((((nth T_Heap p1 p4)).2).2).2).1) : Int)) then
      e_spec_l8Forms_13 k_3 k_7 ih 200 p0 p1 p2 p3 p4 p5 0
    else
      k_7 p0 p1 p2 p3 (IntKind.wrap .i64 (p4 + 1))
  else none) m
theorem w_spec_l8Forms_10 (m0 m1 : Nat) (k_3 : (Int) → (List D_Heap) → (Int) → Option (denL R_spec_l8Forms)) (k_7 : (Int) → (List D_Heap) → (Int) → (List D_Heap) → (Int) → Option (denL R_spec_l8Forms)) (h_3 : ∀ (p0 : Int) (p1 : List D_Heap) (p2 : Int), Le (k_3 p0 p1 p2) (l_spec_l8Forms_3 m0 p0 p1 p2)) (h_7 : ∀ (p0 : Int) (p1 : List D_Heap) (p2 : Int) (p3 : List D_Heap) (p4 : Int), Le (k_7 p0 p1 p2 p3 p4) (l_spec_l8Forms_7 m0 m1 p0 p1 p2 p3 p4)) : ∀ (m M : Nat), m ≤ M → ∀ (p0 : Int) (p1 : List D_Heap) (p2 : Int) (p3 : List D_Heap) (p4 : Int) (p5 : Int), Le (e_spec_l8Forms_10 k_3 k_7 m p0 p1 p2 p3 p4 p5) (l_spec_l8Forms_10 m0 m1 M p0 p1 p2 p3 p4 p5) := by
  intro m
  induction m with
  | zero => intro M _ p0 p1 p2 p3 p4 p5 ; exact Le.none
  | succ m ih =>
    intro M0 hM p0 p1 p2 p3 p4 p5
    obtain ⟨M, rfl⟩ : ∃ M, M0 = M + 1 := ⟨M0 - 1, by omega⟩
    have hMM : m ≤ M := by omega
    have hK := K_le 200 (by decide)
    rw [q_spec_l8Forms_10]
    show Le (
  bif inB p4 (List.length p1) then
    bif decide (p5 < (List.length ((((((nth T_Heap p1 p4)).2).2).2).1) : Int)) then
      e_spec_l8Forms_13 k_3 k_7 (e_spec_l8Forms_10 k_3 k_7 m) 200 p0 p1 p2 p3 p4 p5 0
    else
      k_7 p0 p1 p2 p3 (IntKind.wrap .i64 (p4 + 1))
  else none) _
    repeat first
    | with_reducible exact Le.rfl
    | with_reducible exact ih M hMM _ _ _ _ _ _
    | with_reducible exact h_3 _ _ _
    | with_reducible exact h_7 _ _ _ _ _
    | with_reducible exact w_spec_l8Forms_13 _ _ _ _ _ _ h_3 h_7 (ih M hMM) 200 N hK _ _ _ _ _ _ _
    | with_reducible refine Le.bind ?_ (fun _ => ?_)
    | with_reducible refine Le.cond ?_ ?_
noncomputable def e_spec_l8Forms_7 (k_3 : (Int) → (List D_Heap) → (Int) → Option (denL R_spec_l8Forms)) (m : Nat) : (Int) → (List D_Heap) → (Int) → (List D_Heap) → (Int) → Option (denL R_spec_l8Forms) := Nat.rec (motive := fun _ => (Int) → (List D_Heap) → (Int) → (List D_Heap) → (Int) → Option (denL R_spec_l8Forms)) (fun _ _ _ _ _ => none) (fun _ ih p0 p1 p2 p3 p4 =>
  bif decide (p4 < (List.length p1 : Int)) then
    e_spec_l8Forms_10 k_3 ih 200 p0 p1 p2 p3 p4 0
  else
    k_3 p0 p3 (IntKind.wrap .i64 (p2 + 1))) m
theorem w_spec_l8Forms_7 (m0 : Nat) (k_3 : (Int) → (List D_Heap) → (Int) → Option (denL R_spec_l8Forms)) (h_3 : ∀ (p0 : Int) (p1 : List D_Heap) (p2 : Int), Le (k_3 p0 p1 p2) (l_spec_l8Forms_3 m0 p0 p1 p2)) : ∀ (m M : Nat), m ≤ M → ∀ (p0 : Int) (p1 : List D_Heap) (p2 : Int) (p3 : List D_Heap) (p4 : Int), Le (e_spec_l8Forms_7 k_3 m p0 p1 p2 p3 p4) (l_spec_l8Forms_7 m0 M p0 p1 p2 p3 p4) := by
  intro m
  induction m with
  | zero => intro M _ p0 p1 p2 p3 p4 ; exact Le.none
  | succ m ih =>
    intro M0 hM p0 p1 p2 p3 p4
    obtain ⟨M, rfl⟩ : ∃ M, M0 = M + 1 := ⟨M0 - 1, by omega⟩
    have hMM : m ≤ M := by omega
    have hK := K_le 200 (by decide)
    rw [q_spec_l8Forms_7]
    show Le (
  bif decide (p4 < (List.length p1 : Int)) then
    e_spec_l8Forms_10 k_3 (e_spec_l8Forms_7 k_3 m) 200 p0 p1 p2 p3 p4 0
  else
    k_3 p0 p3 (IntKind.wrap .i64 (p2 + 1))) _
    repeat first
    | with_reducible exact Le.rfl
    | with_reducible exact ih M hMM _ _ _ _ _
    | with_reducible exact h_3 _ _ _
    | with_reducible exact w_spec_l8Forms_10 _ _ _ _ h_3 (ih M hMM) 200 N hK _ _ _ _ _ _
    | with_reducible refine Le.bind ?_ (fun _ => ?_)
    | with_reducible refine Le.cond ?_ ?_
noncomputable def e_spec_l8Forms_3  (m : Nat) : (Int) → (List D_Heap) → (Int) → Option (denL R_spec_l8Forms) := Nat.rec (motive := fun _ => (Int) → (List D_Heap) → (Int) → Option (denL R_spec_l8Forms)) (fun _ _ _ => none) (fun _ ih p0 p1 p2 =>
  bif decide (p2 < p0) then
    e_spec_l8Forms_7 ih 200 p0 p1 p2 ([] : List D_Heap) 0
  else
    some (p1, ())) m
theorem w_spec_l8Forms_3    : ∀ (m M : Nat), m ≤ M → ∀ (p0 : Int) (p1 : List D_Heap) (p2 : Int), Le (e_spec_l8Forms_3  m p0 p1 p2) (l_spec_l8Forms_3  M p0 p1 p2) := by
  intro m
  induction m with
  | zero => intro M _ p0 p1 p2 ; exact Le.none
  | succ m ih =>
    intro M0 hM p0 p1 p2
    obtain ⟨M, rfl⟩ : ∃ M, M0 = M + 1 := ⟨M0 - 1, by omega⟩
    have hMM : m ≤ M := by omega
    have hK := K_le 200 (by decide)
    rw [q_spec_l8Forms_3]
    show Le (
  bif decide (p2 < p0) then
    e_spec_l8Forms_7 (e_spec_l8Forms_3  m) 200 p0 p1 p2 ([] : List D_Heap) 0
  else
    some (p1, ())) _
    repeat first
    | with_reducible exact Le.rfl
    | with_reducible exact ih M hMM _ _ _
    | with_reducible exact w_spec_l8Forms_7 _ _ (ih M hMM) 200 N hK _ _ _ _ _
    | with_reducible refine Le.bind ?_ (fun _ => ?_)
    | with_reducible refine Le.cond ?_ ?_
noncomputable def E_spec_l8Forms : Ft_spec_l8Forms := fun x =>
  Option.bind (E_spec_l2Box (1, 1, 1, ())) fun r0 =>
  e_spec_l8Forms_3 200 x.1 ([r0.1] : List D_Heap) 1
theorem v_spec_l8Forms : ∀ x, Le (E_spec_l8Forms x) (P_spec_l8Forms x) := by
  have hK := K_le 200 (by decide)
  rintro ⟨a0, ⟨⟩⟩
  rw [show P_spec_l8Forms (a0, ()) = _ from p_spec_l8Forms a0]
  show Le (
  Option.bind (E_spec_l2Box (1, 1, 1, ())) fun r0 =>
  e_spec_l8Forms_3 200 a0 ([r0.1] : List D_Heap) 1) _
  repeat first
    | with_reducible exact Le.rfl
    | with_reducible exact w_spec_l8Forms_3 200 N hK _ _ _
    | with_reducible exact v_spec_l2Box _
    | with_reducible refine Le.bind ?_ (fun _ => ?_)
    | with_reducible refine Le.cond ?_ ?_
noncomputable def E_spec_FormsOf : Ft_spec_FormsOf := fun x =>
  Option.bind (E_spec_l1In (x.1, 1, 4, ())) fun r0 =>
  bif !r0.1 then
    some (([] : List D_Heap), false, ())
  else
    Option.bind (E_spec_l8Forms (x.1, ())) fun r2 =>
    some (r2.1, true, ())
theorem v_spec_FormsOf : ∀ x, Le (E_spec_FormsOf x) (P_spec_FormsOf x) := by
  have hK := K_le 200 (by decide)
  rintro ⟨a0, ⟨⟩⟩
  rw [show P_spec_FormsOf (a0, ()) = _ from p_spec_FormsOf a0]
  show Le (
  Option.bind (E_spec_l1In (a0, 1, 4, ())) fun r0 =>
  bif !r0.1 then
    some (([] : List D_Heap), false, ())
  else
    Option.bind (E_spec_l8Forms (a0, ())) fun r2 =>
    some (r2.1, true, ())) _
  repeat first
    | with_reducible exact Le.rfl
    | with_reducible exact v_spec_l1In _
    | with_reducible exact v_spec_l8Forms _
    | with_reducible refine Le.bind ?_ (fun _ => ?_)
    | with_reducible refine Le.cond ?_ ?_
noncomputable def E_impl_beyond : Ft_impl_beyond := fun x =>
  bif inB (IntKind.wrap .i64 (Int.tdiv x.2.1 2)) 3 then
    bif inB (IntKind.wrap .i64 (Int.tdiv x.2.1 2)) 3 then
      some (((bif decide ((IntKind.wrap .i64 (Int.tdiv x.2.1 2)) = (0 : Int)) then (IntKind.wrap .i64 ((bif decide ((IntKind.wrap .i64 (Int.tdiv x.2.1 2)) = (0 : Int)) then x.1.1 else (bif decide ((IntKind.wrap .i64 (Int.tdiv x.2.1 2)) = (1 : Int)) then x.1.2.1 else x.1.2.2.1)) + (IntKind.wrap .i64 ((IntKind.wrap .i64 (2 * (Int.tmod x.2.1 2))) - 1)))) else x.1.1), ((bif decide ((IntKind.wrap .i64 (Int.tdiv x.2.1 2)) = (1 : Int)) then (IntKind.wrap .i64 ((bif decide ((IntKind.wrap .i64 (Int.tdiv x.2.1 2)) = (0 : Int)) then x.1.1 else (bif decide ((IntKind.wrap .i64 (Int.tdiv x.2.1 2)) = (1 : Int)) then x.1.2.1 else x.1.2.2.1)) + (IntKind.wrap .i64 ((IntKind.wrap .i64 (2 * (Int.tmod x.2.1 2))) - 1)))) else x.1.2.1), ((bif decide ((IntKind.wrap .i64 (Int.tdiv x.2.1 2)) = (2 : Int)) then (IntKind.wrap .i64 ((bif decide ((IntKind.wrap .i64 (Int.tdiv x.2.1 2)) = (0 : Int)) then x.1.1 else (bif decide ((IntKind.wrap .i64 (Int.tdiv x.2.1 2)) = (1 : Int)) then x.1.2.1 else x.1.2.2.1)) + (IntKind.wrap .i64 ((IntKind.wrap .i64 (2 * (Int.tmod x.2.1 2))) - 1)))) else x.1.2.2.1), ()))), ())
    else none
  else none
theorem v_impl_beyond : ∀ x, Le (E_impl_beyond x) (P_impl_beyond x) := by
  have hK := K_le 200 (by decide)
  rintro ⟨a0, a1, ⟨⟩⟩
  rw [show P_impl_beyond (a0, a1, ()) = _ from p_impl_beyond a0 a1]
  show Le (
  bif inB (IntKind.wrap .i64 (Int.tdiv a1 2)) 3 then
    bif inB (IntKind.wrap .i64 (Int.tdiv a1 2)) 3 then
      some (((bif decide ((IntKind.wrap .i64 (Int.tdiv a1 2)) = (0 : Int)) then (IntKind.wrap .i64 ((bif decide ((IntKind.wrap .i64 (Int.tdiv a1 2)) = (0 : Int)) then a0.1 else (bif decide ((IntKind.wrap .i64 (Int.tdiv a1 2)) = (1 : Int)) then a0.2.1 else a0.2.2.1)) + (IntKind.wrap .i64 ((IntKind.wrap .i64 (2 * (Int.tmod a1 2))) - 1)))) else a0.1), ((bif decide ((IntKind.wrap .i64 (Int.tdiv a1 2)) = (1 : Int)) then (IntKind.wrap .i64 ((bif decide ((IntKind.wrap .i64 (Int.tdiv a1 2)) = (0 : Int)) then a0.1 else (bif decide ((IntKind.wrap .i64 (Int.tdiv a1 2)) = (1 : Int)) then a0.2.1 else a0.2.2.1)) + (IntKind.wrap .i64 ((IntKind.wrap .i64 (2 * (Int.tmod a1 2))) - 1)))) else a0.2.1), ((bif decide ((IntKind.wrap .i64 (Int.tdiv a1 2)) = (2 : Int)) then (IntKind.wrap .i64 ((bif decide ((IntKind.wrap .i64 (Int.tdiv a1 2)) = (0 : Int)) then a0.1 else (bif decide ((IntKind.wrap .i64 (Int.tdiv a1 2)) = (1 : Int)) then a0.2.1 else a0.2.2.1)) + (IntKind.wrap .i64 ((IntKind.wrap .i64 (2 * (Int.tmod a1 2))) - 1)))) else a0.2.2.1), ()))), ())
    else none
  else none) _
  repeat first
    | with_reducible exact Le.rfl
    | with_reducible refine Le.bind ?_ (fun _ => ?_)
    | with_reducible refine Le.cond ?_ ?_
noncomputable def e_slices_Index_3_int_3_int_2  (m : Nat) : (Int) → (Int) → (Int) → (List D_A3) → (Int) → (Int) → Option (denL R_slices_Index_3_int_3_int) := Nat.rec (motive := fun _ => (Int) → (Int) → (Int) → (List D_A3) → (Int) → (Int) → Option (denL R_slices_Index_3_int_3_int)) (fun _ _ _ _ _ _ => none) (fun _ ih p0 p1 p2 p3 p4 p5 =>
  bif decide (p5 < p4) then
    bif inB p5 (List.length p3) then
      bif (decide (p0 = ((nth T_A3 p3 p5)).1) && (decide (p1 = (((nth T_A3 p3 p5)).2).1) && (decide (p2 = ((((nth T_A3 p3 p5)).2).2).1) && true))) then
        some (p5, ())
      else
        ih p0 p1 p2 p3 p4 (IntKind.wrap .i64 (p5 + 1))
    else none
  else
    some ((-1), ())) m
theorem w_slices_Index_3_int_3_int_2    : ∀ (m M : Nat), m ≤ M → ∀ (p0 : Int) (p1 : Int) (p2 : Int) (p3 : List D_A3) (p4 : Int) (p5 : Int), Le (e_slices_Index_3_int_3_int_2  m p0 p1 p2 p3 p4 p5) (l_slices_Index_3_int_3_int_2  M p0 p1 p2 p3 p4 p5) := by
  intro m
  induction m with
  | zero => intro M _ p0 p1 p2 p3 p4 p5 ; exact Le.none
  | succ m ih =>
    intro M0 hM p0 p1 p2 p3 p4 p5
    obtain ⟨M, rfl⟩ : ∃ M, M0 = M + 1 := ⟨M0 - 1, by omega⟩
    have hMM : m ≤ M := by omega
    have hK := K_le 200 (by decide)
    rw [q_slices_Index_3_int_3_int_2]
    show Le (
  bif decide (p5 < p4) then
    bif inB p5 (List.length p3) then
      bif (decide (p0 = ((nth T_A3 p3 p5)).1) && (decide (p1 = (((nth T_A3 p3 p5)).2).1) && (decide (p2 = ((((nth T_A3 p3 p5)).2).2).1) && true))) then
        some (p5, ())
      else
        (e_slices_Index_3_int_3_int_2  m) p0 p1 p2 p3 p4 (IntKind.wrap .i64 (p5 + 1))
    else none
  else
    some ((-1), ())) _
    repeat first
    | with_reducible exact Le.rfl
    | with_reducible exact ih M hMM _ _ _ _ _ _
    | with_reducible refine Le.bind ?_ (fun _ => ?_)
    | with_reducible refine Le.cond ?_ ?_
noncomputable def E_slices_Index_3_int_3_int : Ft_slices_Index_3_int_3_int := fun x =>
  e_slices_Index_3_int_3_int_2 200 x.2.1.1 x.2.1.2.1 x.2.1.2.2.1 x.1 (List.length x.1 : Int) 0
theorem v_slices_Index_3_int_3_int : ∀ x, Le (E_slices_Index_3_int_3_int x) (P_slices_Index_3_int_3_int x) := by
  have hK := K_le 200 (by decide)
  rintro ⟨a0, a1, ⟨⟩⟩
  rw [show P_slices_Index_3_int_3_int (a0, a1, ()) = _ from p_slices_Index_3_int_3_int a0 a1]
  show Le (
  e_slices_Index_3_int_3_int_2 200 a1.1 a1.2.1 a1.2.2.1 a0 (List.length a0 : Int) 0) _
  repeat first
    | with_reducible exact Le.rfl
    | with_reducible exact w_slices_Index_3_int_3_int_2 200 N hK _ _ _ _ _ _
    | with_reducible refine Le.bind ?_ (fun _ => ?_)
    | with_reducible refine Le.cond ?_ ?_
noncomputable def E_slices_Contains_3_int_3_int : Ft_slices_Contains_3_int_3_int := fun x =>
  Option.bind (E_slices_Index_3_int_3_int (x.1, x.2.1, ())) fun r0 =>
  some (decide (r0.1 ≥ 0), ())
theorem v_slices_Contains_3_int_3_int : ∀ x, Le (E_slices_Contains_3_int_3_int x) (P_slices_Contains_3_int_3_int x) := by
  have hK := K_le 200 (by decide)
  rintro ⟨a0, a1, ⟨⟩⟩
  rw [show P_slices_Contains_3_int_3_int (a0, a1, ()) = _ from p_slices_Contains_3_int_3_int a0 a1]
  show Le (
  Option.bind (E_slices_Index_3_int_3_int (a0, a1, ())) fun r0 =>
  some (decide (r0.1 ≥ 0), ())) _
  repeat first
    | with_reducible exact Le.rfl
    | with_reducible exact v_slices_Index_3_int_3_int _
    | with_reducible refine Le.bind ?_ (fun _ => ?_)
    | with_reducible refine Le.cond ?_ ?_
noncomputable def E_impl_added : Ft_impl_added := fun x =>
  some (((IntKind.wrap .i64 (x.1.1 + x.2.1.1)), ((IntKind.wrap .i64 (x.1.2.1 + x.2.1.2.1)), ((IntKind.wrap .i64 (x.1.2.2.1 + x.2.1.2.2.1)), ()))), ())
theorem v_impl_added : ∀ x, Le (E_impl_added x) (P_impl_added x) := by
  have hK := K_le 200 (by decide)
  rintro ⟨a0, a1, ⟨⟩⟩
  rw [show P_impl_added (a0, a1, ()) = _ from p_impl_added a0 a1]
  show Le (
  some (((IntKind.wrap .i64 (a0.1 + a1.1)), ((IntKind.wrap .i64 (a0.2.1 + a1.2.1)), ((IntKind.wrap .i64 (a0.2.2.1 + a1.2.2.1)), ()))), ())) _
  repeat first
    | with_reducible exact Le.rfl
    | with_reducible refine Le.bind ?_ (fun _ => ?_)
    | with_reducible refine Le.cond ?_ ?_
noncomputable def E_box_index : Ft_box_index := fun x =>
  some ((IntKind.wrap .i64 ((IntKind.wrap .i64 ((IntKind.wrap .i64 ((IntKind.wrap .i64 (x.2.1.1 * x.1.2.1)) + x.2.1.2.1)) * x.1.2.2.1)) + x.2.1.2.2.1)), ())
theorem v_box_index : ∀ x, Le (E_box_index x) (P_box_index x) := by
  have hK := K_le 200 (by decide)
  rintro ⟨a0, a1, ⟨⟩⟩
  rw [show P_box_index (a0, a1, ()) = _ from p_box_index a0 a1]
  show Le (
  some ((IntKind.wrap .i64 ((IntKind.wrap .i64 ((IntKind.wrap .i64 ((IntKind.wrap .i64 (a1.1 * a0.2.1)) + a1.2.1)) * a0.2.2.1)) + a1.2.2.1)), ())) _
  repeat first
    | with_reducible exact Le.rfl
    | with_reducible refine Le.bind ?_ (fun _ => ?_)
    | with_reducible refine Le.cond ?_ ?_
noncomputable def E_box_size : Ft_box_size := fun x =>
  some ((IntKind.wrap .i64 ((IntKind.wrap .i64 (x.1.1 * x.1.2.1)) * x.1.2.2.1)), ())
theorem v_box_size : ∀ x, Le (E_box_size x) (P_box_size x) := by
  have hK := K_le 200 (by decide)
  rintro ⟨a0, ⟨⟩⟩
  rw [show P_box_size (a0, ()) = _ from p_box_size a0]
  show Le (
  some ((IntKind.wrap .i64 ((IntKind.wrap .i64 (a0.1 * a0.2.1)) * a0.2.2.1)), ())) _
  repeat first
    | with_reducible exact Le.rfl
    | with_reducible refine Le.bind ?_ (fun _ => ?_)
    | with_reducible refine Le.cond ?_ ?_
noncomputable def E_set_has : Ft_set_has := fun x =>
  bif decide ((0 : Int) ≤ x.2.1) then
    some (decide ((intBits .and .u64 (shrI .u64 x.1 x.2.1) 1) = 1), ())
  else none
theorem v_set_has : ∀ x, Le (E_set_has x) (P_set_has x) := by
  have hK := K_le 200 (by decide)
  rintro ⟨a0, a1, ⟨⟩⟩
  rw [show P_set_has (a0, a1, ()) = _ from p_set_has a0 a1]
  show Le (
  bif decide ((0 : Int) ≤ a1) then
    some (decide ((intBits .and .u64 (shrI .u64 a0 a1) 1) = 1), ())
  else none) _
  repeat first
    | with_reducible exact Le.rfl
    | with_reducible refine Le.bind ?_ (fun _ => ?_)
    | with_reducible refine Le.cond ?_ ?_
noncomputable def E_box_cell : Ft_box_cell := fun x =>
  bif !decide (x.1.2.2.1 = 0) then
    bif !decide (x.1.2.1 = 0) then
      bif !decide (x.1.2.2.1 = 0) then
        bif !decide (x.1.2.1 = 0) then
          bif !decide (x.1.2.2.1 = 0) then
            some (((IntKind.wrap .i64 (Int.tdiv (IntKind.wrap .i64 (Int.tdiv x.2.1 x.1.2.2.1)) x.1.2.1)), ((Int.tmod (IntKind.wrap .i64 (Int.tdiv x.2.1 x.1.2.2.1)) x.1.2.1), ((Int.tmod x.2.1 x.1.2.2.1), ()))), ())
          else none
        else none
      else none
    else none
  else none
theorem v_box_cell : ∀ x, Le (E_box_cell x) (P_box_cell x) := by
  have hK := K_le 200 (by decide)
  rintro ⟨a0, a1, ⟨⟩⟩
  rw [show P_box_cell (a0, a1, ()) = _ from p_box_cell a0 a1]
  show Le (
  bif !decide (a0.2.2.1 = 0) then
    bif !decide (a0.2.1 = 0) then
      bif !decide (a0.2.2.1 = 0) then
        bif !decide (a0.2.1 = 0) then
          bif !decide (a0.2.2.1 = 0) then
            some (((IntKind.wrap .i64 (Int.tdiv (IntKind.wrap .i64 (Int.tdiv a1 a0.2.2.1)) a0.2.1)), ((Int.tmod (IntKind.wrap .i64 (Int.tdiv a1 a0.2.2.1)) a0.2.1), ((Int.tmod a1 a0.2.2.1), ()))), ())
          else none
        else none
      else none
    else none
  else none) _
  repeat first
    | with_reducible exact Le.rfl
    | with_reducible refine Le.bind ?_ (fun _ => ?_)
    | with_reducible refine Le.cond ?_ ?_
noncomputable def e_box_list_3  (m : Nat) : (Int) → (Int) → (Int) → (Int) → (List D_A3) → (Int) → (Int) → Option (denL R_box_list) := Nat.rec (motive := fun _ => (Int) → (Int) → (Int) → (Int) → (List D_A3) → (Int) → (Int) → Option (denL R_box_list)) (fun _ _ _ _ _ _ _ => none) (fun _ ih p0 p1 p2 p3 p4 p5 p6 =>
  bif decide (p6 < p5) then
    Option.bind (E_set_has (p3, p6, ())) fun r1 =>
    bif r1.1 then
      Option.bind (E_box_cell ((p0, (p1, (p2, ()))), p6, ())) fun r3 =>
      bif (decide (((List.length p4) + (List.length ([r3.1] : List D_A3))) * 24 ≤ 140737488355328) && decide (((List.length p4) + (List.length ([r3.1] : List D_A3))) ≤ 140737488355328)) then
        ih p0 p1 p2 p3 (p4 ++ ([r3.1] : List D_A3)) p5 (IntKind.wrap .i64 (p6 + 1))
      else none
    else
      ih p0 p1 p2 p3 p4 p5 (IntKind.wrap .i64 (p6 + 1))
  else
    some (p4, ())) m
theorem w_box_list_3    : ∀ (m M : Nat), m ≤ M → ∀ (p0 : Int) (p1 : Int) (p2 : Int) (p3 : Int) (p4 : List D_A3) (p5 : Int) (p6 : Int), Le (e_box_list_3  m p0 p1 p2 p3 p4 p5 p6) (l_box_list_3  M p0 p1 p2 p3 p4 p5 p6) := by
  intro m
  induction m with
  | zero => intro M _ p0 p1 p2 p3 p4 p5 p6 ; exact Le.none
  | succ m ih =>
    intro M0 hM p0 p1 p2 p3 p4 p5 p6
    obtain ⟨M, rfl⟩ : ∃ M, M0 = M + 1 := ⟨M0 - 1, by omega⟩
    have hMM : m ≤ M := by omega
    have hK := K_le 200 (by decide)
    rw [q_box_list_3]
    show Le (
  bif decide (p6 < p5) then
    Option.bind (E_set_has (p3, p6, ())) fun r1 =>
    bif r1.1 then
      Option.bind (E_box_cell ((p0, (p1, (p2, ()))), p6, ())) fun r3 =>
      bif (decide (((List.length p4) + (List.length ([r3.1] : List D_A3))) * 24 ≤ 140737488355328) && decide (((List.length p4) + (List.length ([r3.1] : List D_A3))) ≤ 140737488355328)) then
        (e_box_list_3  m) p0 p1 p2 p3 (p4 ++ ([r3.1] : List D_A3)) p5 (IntKind.wrap .i64 (p6 + 1))
      else none
    else
      (e_box_list_3  m) p0 p1 p2 p3 p4 p5 (IntKind.wrap .i64 (p6 + 1))
  else
    some (p4, ())) _
    repeat first
    | with_reducible exact Le.rfl
    | with_reducible exact ih M hMM _ _ _ _ _ _ _
    | with_reducible exact v_box_cell _
    | with_reducible exact v_set_has _
    | with_reducible refine Le.bind ?_ (fun _ => ?_)
    | with_reducible refine Le.cond ?_ ?_
noncomputable def E_box_list : Ft_box_list := fun x =>
  Option.bind (E_box_size (x.1, ())) fun r0 =>
  e_box_list_3 200 x.1.1 x.1.2.1 x.1.2.2.1 x.2.1 ([] : List D_A3) r0.1 0
theorem v_box_list : ∀ x, Le (E_box_list x) (P_box_list x) := by
  have hK := K_le 200 (by decide)
  rintro ⟨a0, a1, ⟨⟩⟩
  rw [show P_box_list (a0, a1, ()) = _ from p_box_list a0 a1]
  show Le (
  Option.bind (E_box_size (a0, ())) fun r0 =>
  e_box_list_3 200 a0.1 a0.2.1 a0.2.2.1 a1 ([] : List D_A3) r0.1 0) _
  repeat first
    | with_reducible exact Le.rfl
    | with_reducible exact w_box_list_3 200 N hK _ _ _ _ _ _ _
    | with_reducible exact v_box_size _
    | with_reducible refine Le.bind ?_ (fun _ => ?_)
    | with_reducible refine Le.cond ?_ ?_
noncomputable def E_box_heap : Ft_box_heap := fun x =>
  Option.bind (E_box_list (x.1, x.2.1, ())) fun r0 =>
  some ((x.1.1, (x.1.2.1, (x.1.2.2.1, (r0.1, ())))), ())
theorem v_box_heap : ∀ x, Le (E_box_heap x) (P_box_heap x) := by
  have hK := K_le 200 (by decide)
  rintro ⟨a0, a1, ⟨⟩⟩
  rw [show P_box_heap (a0, a1, ()) = _ from p_box_heap a0 a1]
  show Le (
  Option.bind (E_box_list (a0, a1, ())) fun r0 =>
  some ((a0.1, (a0.2.1, (a0.2.2.1, (r0.1, ())))), ())) _
  repeat first
    | with_reducible exact Le.rfl
    | with_reducible exact v_box_list _
    | with_reducible refine Le.bind ?_ (fun _ => ?_)
    | with_reducible refine Le.cond ?_ ?_
noncomputable def e_impl_heapOf_6 (k_3 : (Int) → (Int) → (Int) → (List D_A3) → (Int) → (Int) → (Int) → (Int) → (Int) → (Int) → (List D_A3) → (List D_A3) → (Int) → (Int) → Option (denL R_impl_heapOf)) (m : Nat) : (Int) → (Int) → (Int) → (List D_A3) → (Int) → (Int) → (Int) → (Int) → (Int) → (Int) → (Int) → (Int) → (Int) → (List D_A3) → (List D_A3) → (Int) → (Int) → (Int) → Option (denL R_impl_heapOf) := Nat.rec (motive := fun _ => (Int) → (Int) → (Int) → (List D_A3) → (Int) → (Int) → (Int) → (Int) → (Int) → (Int) → (Int) → (Int) → (Int) → (List D_A3) → (List D_A3) → (Int) → (Int) → (Int) → Option (denL R_impl_heapOf)) (fun _ _ _ _ _ _ _ _ _ _ _ _ _ _ _ _ _ _ => none) (fun _ ih p0 p1 p2 p3 p4 p5 p6 p7 p8 p9 p10 p11 p12 p13 p14 p15 p16 p17 =>
  bif decide (p17 < 3) then
    bif inB p17 3 then
      bif inB p17 3 then
        bif inB p17 3 then
          bif inB p17 3 then
            bif inB p17 3 then
              bif inB p17 3 then
                ih p0 p1 p2 p3 (bif decide (p17 = (0 : Int)) then (bif decide ((bif decide (p17 = (0 : Int)) then p10 else (bif decide (p17 = (1 : Int)) then p11 else p12)) < (bif decide (p17 = (0 : Int)) then p4 else (bif decide (p17 = (1 : Int)) then p5 else p6))) then (bif decide (p17 = (0 : Int)) then p10 else (bif decide (p17 = (1 : Int)) then p11 else p12)) else (bif decide (p17 = (0 : Int)) then p4 else (bif decide (p17 = (1 : Int)) then p5 else p6))) else p4) (bif decide (p17 = (1 : Int)) then (bif decide ((bif decide (p17 = (0 : Int)) then p10 else (bif decide (p17 = (1 : Int)) then p11 else p12)) < (bif decide (p17 = (0 : Int)) then p4 else (bif decide (p17 = (1 : Int)) then p5 else p6))) then (bif decide (p17 = (0 : Int)) then p10 else (bif decide (p17 = (1 : Int)) then p11 else p12)) else (bif decide (p17 = (0 : Int)) then p4 else (bif decide (p17 = (1 : Int)) then p5 else p6))) else p5) (bif decide (p17 = (2 : Int)) then (bif decide ((bif decide (p17 = (0 : Int)) then p10 else (bif decide (p17 = (1 : Int)) then p11 else p12)) < (bif decide (p17 = (0 : Int)) then p4 else (bif decide (p17 = (1 : Int)) then p5 else p6))) then (bif decide (p17 = (0 : Int)) then p10 else (bif decide (p17 = (1 : Int)) then p11 else p12)) else (bif decide (p17 = (0 : Int)) then p4 else (bif decide (p17 = (1 : Int)) then p5 else p6))) else p6) (bif decide (p17 = (0 : Int)) then (bif decide ((bif decide (p17 = (0 : Int)) then p10 else (bif decide (p17 = (1 : Int)) then p11 else p12)) > (bif decide (p17 = (0 : Int)) then p7 else (bif decide (p17 = (1 : Int)) then p8 else p9))) then (bif decide (p17 = (0 : Int)) then p10 else (bif decide (p17 = (1 : Int)) then p11 else p12)) else (bif decide (p17 = (0 : Int)) then p7 else (bif decide (p17 = (1 : Int)) then p8 else p9))) else p7) (bif decide (p17 = (1 : Int)) then (bif decide ((bif decide (p17 = (0 : Int)) then p10 else (bif decide (p17 = (1 : Int)) then p11 else p12)) > (bif decide (p17 = (0 : Int)) then p7 else (bif decide (p17 = (1 : Int)) then p8 else p9))) then (bif decide (p17 = (0 : Int)) then p10 else (bif decide (p17 = (1 : Int)) then p11 else p12)) else (bif decide (p17 = (0 : Int)) then p7 else (bif decide (p17 = (1 : Int)) then p8 else p9))) else p8) (bif decide (p17 = (2 : Int)) then (bif decide ((bif decide (p17 = (0 : Int)) then p10 else (bif decide (p17 = (1 : Int)) then p11 else p12)) > (bif decide (p17 = (0 : Int)) then p7 else (bif decide (p17 = (1 : Int)) then p8 else p9))) then (bif decide (p17 = (0 : Int)) then p10 else (bif decide (p17 = (1 : Int)) then p11 else p12)) else (bif decide (p17 = (0 : Int)) then p7 else (bif decide (p17 = (1 : Int)) then p8 else p9))) else p9) p10 p11 p12 p13 p14 p15 p16 (IntKind.wrap .i64 (p17 + 1))
              else none
            else none
          else none
        else none
      else none
    else none
  else
    k_3 p0 p1 p2 p3 p4 p5 p6 p7 p8 p9 p13 p14 p15 (IntKind.wrap .i64 (p16 + 1))) m
theorem w_impl_heapOf_6 (m0 : Nat) (k_3 : (Int) → (Int) → (Int) → (List D_A3) → (Int) → (Int) → (Int) → (Int) → (Int) → (Int) → (List D_A3) → (List D_A3) → (Int) → (Int) → Option (denL R_impl_heapOf)) (h_3 : ∀ (p0 : Int) (p1 : Int) (p2 : Int) (p3 : List D_A3) (p4 : Int) (p5 : Int) (p6 : Int) (p7 : Int) (p8 : Int) (p9 : Int) (p10 : List D_A3) (p11 : List D_A3) (p12 : Int) (p13 : Int), Le (k_3 p0 p1 p2 p3 p4 p5 p6 p7 p8 p9 p10 p11 p12 p13) (l_impl_heapOf_3 m0 p0 p1 p2 p3 p4 p5 p6 p7 p8 p9 p10 p11 p12 p13)) : ∀ (m M : Nat), m ≤ M → ∀ (p0 : Int) (p1 : Int) (p2 : Int) (p3 : List D_A3) (p4 : Int) (p5 : Int) (p6 : Int) (p7 : Int) (p8 : Int) (p9 : Int) (p10 : Int) (p11 : Int) (p12 : Int) (p13 : List D_A3) (p14 : List D_A3) (p15 : Int) (p16 : Int) (p17 : Int), Le (e_impl_heapOf_6 k_3 m p0 p1 p2 p3 p4 p5 p6 p7 p8 p9 p10 p11 p12 p13 p14 p15 p16 p17) (l_impl_heapOf_6 m0 M p0 p1 p2 p3 p4 p5 p6 p7 p8 p9 p10 p11 p12 p13 p14 p15 p16 p17) := by
  intro m
  induction m with
  | zero => intro M _ p0 p1 p2 p3 p4 p5 p6 p7 p8 p9 p10 p11 p12 p13 p14 p15 p16 p17 ; exact Le.none
  | succ m ih =>
    intro M0 hM p0 p1 p2 p3 p4 p5 p6 p7 p8 p9 p10 p11 p12 p13 p14 p15 p16 p17
    obtain ⟨M, rfl⟩ : ∃ M, M0 = M + 1 := ⟨M0 - 1, by omega⟩
    have hMM : m ≤ M := by omega
    have hK := K_le 200 (by decide)
    rw [q_impl_heapOf_6]
    show Le (
  bif decide (p17 < 3) then
    bif inB p17 3 then
      bif inB p17 3 then
        bif inB p17 3 then
          bif inB p17 3 then
            bif inB p17 3 then
              bif inB p17 3 then
                (e_impl_heapOf_6 k_3 m) p0 p1 p2 p3 (bif decide (p17 = (0 : Int)) then (bif decide ((bif decide (p17 = (0 : Int)) then p10 else (bif decide (p17 = (1 : Int)) then p11 else p12)) < (bif decide (p17 = (0 : Int)) then p4 else (bif decide (p17 = (1 : Int)) then p5 else p6))) then (bif decide (p17 = (0 : Int)) then p10 else (bif decide (p17 = (1 : Int)) then p11 else p12)) else (bif decide (p17 = (0 : Int)) then p4 else (bif decide (p17 = (1 : Int)) then p5 else p6))) else p4) (bif decide (p17 = (1 : Int)) then (bif decide ((bif decide (p17 = (0 : Int)) then p10 else (bif decide (p17 = (1 : Int)) then p11 else p12)) < (bif decide (p17 = (0 : Int)) then p4 else (bif decide (p17 = (1 : Int)) then p5 else p6))) then (bif decide (p17 = (0 : Int)) then p10 else (bif decide (p17 = (1 : Int)) then p11 else p12)) else (bif decide (p17 = (0 : Int)) then p4 else (bif decide (p17 = (1 : Int)) then p5 else p6))) else p5) (bif decide (p17 = (2 : Int)) then (bif decide ((bif decide (p17 = (0 : Int)) then p10 else (bif decide (p17 = (1 : Int)) then p11 else p12)) < (bif decide (p17 = (0 : Int)) then p4 else (bif decide (p17 = (1 : Int)) then p5 else p6))) then (bif decide (p17 = (0 : Int)) then p10 else (bif decide (p17 = (1 : Int)) then p11 else p12)) else (bif decide (p17 = (0 : Int)) then p4 else (bif decide (p17 = (1 : Int)) then p5 else p6))) else p6) (bif decide (p17 = (0 : Int)) then (bif decide ((bif decide (p17 = (0 : Int)) then p10 else (bif decide (p17 = (1 : Int)) then p11 else p12)) > (bif decide (p17 = (0 : Int)) then p7 else (bif decide (p17 = (1 : Int)) then p8 else p9))) then (bif decide (p17 = (0 : Int)) then p10 else (bif decide (p17 = (1 : Int)) then p11 else p12)) else (bif decide (p17 = (0 : Int)) then p7 else (bif decide (p17 = (1 : Int)) then p8 else p9))) else p7) (bif decide (p17 = (1 : Int)) then (bif decide ((bif decide (p17 = (0 : Int)) then p10 else (bif decide (p17 = (1 : Int)) then p11 else p12)) > (bif decide (p17 = (0 : Int)) then p7 else (bif decide (p17 = (1 : Int)) then p8 else p9))) then (bif decide (p17 = (0 : Int)) then p10 else (bif decide (p17 = (1 : Int)) then p11 else p12)) else (bif decide (p17 = (0 : Int)) then p7 else (bif decide (p17 = (1 : Int)) then p8 else p9))) else p8) (bif decide (p17 = (2 : Int)) then (bif decide ((bif decide (p17 = (0 : Int)) then p10 else (bif decide (p17 = (1 : Int)) then p11 else p12)) > (bif decide (p17 = (0 : Int)) then p7 else (bif decide (p17 = (1 : Int)) then p8 else p9))) then (bif decide (p17 = (0 : Int)) then p10 else (bif decide (p17 = (1 : Int)) then p11 else p12)) else (bif decide (p17 = (0 : Int)) then p7 else (bif decide (p17 = (1 : Int)) then p8 else p9))) else p9) p10 p11 p12 p13 p14 p15 p16 (IntKind.wrap .i64 (p17 + 1))
              else none
            else none
          else none
        else none
      else none
    else none
  else
    k_3 p0 p1 p2 p3 p4 p5 p6 p7 p8 p9 p13 p14 p15 (IntKind.wrap .i64 (p16 + 1))) _
    repeat first
    | with_reducible exact Le.rfl
    | with_reducible exact ih M hMM _ _ _ _ _ _ _ _ _ _ _ _ _ _ _ _ _ _
    | with_reducible exact h_3 _ _ _ _ _ _ _ _ _ _ _ _ _ _
    | with_reducible refine Le.bind ?_ (fun _ => ?_)
    | with_reducible refine Le.cond ?_ ?_
noncomputable def e_impl_heapOf_14  (m : Nat) : (Int) → (Int) → (Int) → (List D_A3) → (Int) → (Int) → (Int) → (Int) → (Int) → (Int) → (Int) → (List D_A3) → (Int) → (Int) → Option (denL R_impl_heapOf) := Nat.rec (motive := fun _ => (Int) → (Int) → (Int) → (List D_A3) → (Int) → (Int) → (Int) → (Int) → (Int) → (Int) → (Int) → (List D_A3) → (Int) → (Int) → Option (denL R_impl_heapOf)) (fun _ _ _ _ _ _ _ _ _ _ _ _ _ _ => none) (fun _ ih p0 p1 p2 p3 p4 p5 p6 p7 p8 p9 p10 p11 p12 p13 =>
  bif decide (p13 < p12) then
    bif inB p13 (List.length p11) then
      Option.bind (E_impl_added ((nth T_A3 p11 p13), (p4, (p5, (p6, ()))), ())) fun r2 =>
      Option.bind (E_box_index ((p7, (p8, (p9, ()))), r2.1, ())) fun r3 =>
      bif decide ((0 : Int) ≤ r3.1) then
        ih p0 p1 p2 p3 p4 p5 p6 p7 p8 p9 (intBits .or .u64 p10 (shlI .u64 1 r3.1)) p11 p12 (IntKind.wrap .i64 (p13 + 1))
      else none
    else none
  else
    Option.bind (E_box_heap ((p7, (p8, (p9, ()))), p10, ())) fun r1 =>
    some (r1.1, ())) m
theorem w_impl_heapOf_14    : ∀ (m M : Nat), m ≤ M → ∀ (p0 : Int) (p1 : Int) (p2 : Int) (p3 : List D_A3) (p4 : Int) (p5 : Int) (p6 : Int) (p7 : Int) (p8 : Int) (p9 : Int) (p10 : Int) (p11 : List D_A3) (p12 : Int) (p13 : Int), Le (e_impl_heapOf_14  m p0 p1 p2 p3 p4 p5 p6 p7 p8 p9 p10 p11 p12 p13) (l_impl_heapOf_14  M p0 p1 p2 p3 p4 p5 p6 p7 p8 p9 p10 p11 p12 p13) := by
  intro m
  induction m with
  | zero => intro M _ p0 p1 p2 p3 p4 p5 p6 p7 p8 p9 p10 p11 p12 p13 ; exact Le.none
  | succ m ih =>
    intro M0 hM p0 p1 p2 p3 p4 p5 p6 p7 p8 p9 p10 p11 p12 p13
    obtain ⟨M, rfl⟩ : ∃ M, M0 = M + 1 := ⟨M0 - 1, by omega⟩
    have hMM : m ≤ M := by omega
    have hK := K_le 200 (by decide)
    rw [q_impl_heapOf_14]
    show Le (
  bif decide (p13 < p12) then
    bif inB p13 (List.length p11) then
      Option.bind (E_impl_added ((nth T_A3 p11 p13), (p4, (p5, (p6, ()))), ())) fun r2 =>
      Option.bind (E_box_index ((p7, (p8, (p9, ()))), r2.1, ())) fun r3 =>
      bif decide ((0 : Int) ≤ r3.1) then
        (e_impl_heapOf_14  m) p0 p1 p2 p3 p4 p5 p6 p7 p8 p9 (intBits .or .u64 p10 (shlI .u64 1 r3.1)) p11 p12 (IntKind.wrap .i64 (p13 + 1))
      else none
    else none
  else
    Option.bind (E_box_heap ((p7, (p8, (p9, ()))), p10, ())) fun r1 =>
    some (r1.1, ())) _
    repeat first
    | with_reducible exact Le.rfl
    | with_reducible exact ih M hMM _ _ _ _ _ _ _ _ _ _ _ _ _ _
    | with_reducible exact v_box_heap _
    | with_reducible exact v_box_index _
    | with_reducible exact v_impl_added _
    | with_reducible refine Le.bind ?_ (fun _ => ?_)
    | with_reducible refine Le.cond ?_ ?_
noncomputable def e_impl_heapOf_3  (m : Nat) : (Int) → (Int) → (Int) → (List D_A3) → (Int) → (Int) → (Int) → (Int) → (Int) → (Int) → (List D_A3) → (List D_A3) → (Int) → (Int) → Option (denL R_impl_heapOf) := Nat.rec (motive := fun _ => (Int) → (Int) → (Int) → (List D_A3) → (Int) → (Int) → (Int) → (Int) → (Int) → (Int) → (List D_A3) → (List D_A3) → (Int) → (Int) → Option (denL R_impl_heapOf)) (fun _ _ _ _ _ _ _ _ _ _ _ _ _ _ => none) (fun _ ih p0 p1 p2 p3 p4 p5 p6 p7 p8 p9 p10 p11 p12 p13 =>
  bif decide (p13 < p12) then
    bif inB p13 (List.length p11) then
      e_impl_heapOf_6 ih 200 p0 p1 p2 p3 p4 p5 p6 p7 p8 p9 (((nth T_A3 p11 p13)).1) ((((nth T_A3 p11 p13)).2).1) (((((nth T_A3 p11 p13)).2).2).1) p10 p11 p12 p13 0
    else none
  else
    Option.bind (E_impl_added ((p7, (p8, (p9, ()))), ((IntKind.wrap .i64 (0 - p4)), ((IntKind.wrap .i64 (0 - p5)), ((IntKind.wrap .i64 (0 - p6)), ()))), ())) fun r1 =>
    Option.bind (E_impl_added (r1.1, (1, (1, (1, ()))), ())) fun r2 =>
    e_impl_heapOf_14 200 p0 p1 p2 p3 (IntKind.wrap .i64 (0 - p4)) (IntKind.wrap .i64 (0 - p5)) (IntKind.wrap .i64 (0 - p6)) r2.1.1 r2.1.2.1 r2.1.2.2.1 0 p10 (List.length p10 : Int) 0) m
theorem w_impl_heapOf_3    : ∀ (m M : Nat), m ≤ M → ∀ (p0 : Int) (p1 : Int) (p2 : Int) (p3 : List D_A3) (p4 : Int) (p5 : Int) (p6 : Int) (p7 : Int) (p8 : Int) (p9 : Int) (p10 : List D_A3) (p11 : List D_A3) (p12 : Int) (p13 : Int), Le (e_impl_heapOf_3  m p0 p1 p2 p3 p4 p5 p6 p7 p8 p9 p10 p11 p12 p13) (l_impl_heapOf_3  M p0 p1 p2 p3 p4 p5 p6 p7 p8 p9 p10 p11 p12 p13) := by
  intro m
  induction m with
  | zero => intro M _ p0 p1 p2 p3 p4 p5 p6 p7 p8 p9 p10 p11 p12 p13 ; exact Le.none
  | succ m ih =>
    intro M0 hM p0 p1 p2 p3 p4 p5 p6 p7 p8 p9 p10 p11 p12 p13
    obtain ⟨M, rfl⟩ : ∃ M, M0 = M + 1 := ⟨M0 - 1, by omega⟩
    have hMM : m ≤ M := by omega
    have hK := K_le 200 (by decide)
    rw [q_impl_heapOf_3]
    show Le (
  bif decide (p13 < p12) then
    bif inB p13 (List.length p11) then
      e_impl_heapOf_6 (e_impl_heapOf_3  m) 200 p0 p1 p2 p3 p4 p5 p6 p7 p8 p9 (((nth T_A3 p11 p13)).1) ((((nth T_A3 p11 p13)).2).1) (((((nth T_A3 p11 p13)).2).2).1) p10 p11 p12 p13 0
    else none
  else
    Option.bind (E_impl_added ((p7, (p8, (p9, ()))), ((IntKind.wrap .i64 (0 - p4)), ((IntKind.wrap .i64 (0 - p5)), ((IntKind.wrap .i64 (0 - p6)), ()))), ())) fun r1 =>
    Option.bind (E_impl_added (r1.1, (1, (1, (1, ()))), ())) fun r2 =>
    e_impl_heapOf_14 200 p0 p1 p2 p3 (IntKind.wrap .i64 (0 - p4)) (IntKind.wrap .i64 (0 - p5)) (IntKind.wrap .i64 (0 - p6)) r2.1.1 r2.1.2.1 r2.1.2.2.1 0 p10 (List.length p10 : Int) 0) _
    repeat first
    | with_reducible exact Le.rfl
    | with_reducible exact ih M hMM _ _ _ _ _ _ _ _ _ _ _ _ _ _
    | with_reducible exact w_impl_heapOf_6 _ _ (ih M hMM) 200 N hK _ _ _ _ _ _ _ _ _ _ _ _ _ _ _ _ _ _
    | with_reducible exact w_impl_heapOf_14    200 N hK _ _ _ _ _ _ _ _ _ _ _ _ _ _
    | with_reducible exact v_impl_added _
    | with_reducible refine Le.bind ?_ (fun _ => ?_)
    | with_reducible refine Le.cond ?_ ?_
noncomputable def E_impl_heapOf : Ft_impl_heapOf := fun x =>
  bif inB 0 (List.length x.1) then
    bif inB 0 (List.length x.1) then
      e_impl_heapOf_3 200 0 0 0 ([] : List D_A3) (((nth T_A3 x.1 0)).1) ((((nth T_A3 x.1 0)).2).1) (((((nth T_A3 x.1 0)).2).2).1) (((nth T_A3 x.1 0)).1) ((((nth T_A3 x.1 0)).2).1) (((((nth T_A3 x.1 0)).2).2).1) x.1 x.1 (List.length x.1 : Int) 0
    else none
  else none
theorem v_impl_heapOf : ∀ x, Le (E_impl_heapOf x) (P_impl_heapOf x) := by
  have hK := K_le 200 (by decide)
  rintro ⟨a0, ⟨⟩⟩
  rw [show P_impl_heapOf (a0, ()) = _ from p_impl_heapOf a0]
  show Le (
  bif inB 0 (List.length a0) then
    bif inB 0 (List.length a0) then
      e_impl_heapOf_3 200 0 0 0 ([] : List D_A3) (((nth T_A3 a0 0)).1) ((((nth T_A3 a0 0)).2).1) (((((nth T_A3 a0 0)).2).2).1) (((nth T_A3 a0 0)).1) ((((nth T_A3 a0 0)).2).1) (((((nth T_A3 a0 0)).2).2).1) a0 a0 (List.length a0 : Int) 0
    else none
  else none) _
  repeat first
    | with_reducible exact Le.rfl
    | with_reducible exact w_impl_heapOf_3 200 N hK _ _ _ _ _ _ _ _ _ _ _ _ _ _
    | with_reducible refine Le.bind ?_ (fun _ => ?_)
    | with_reducible refine Le.cond ?_ ?_
noncomputable def E_Heap_box : Ft_Heap_box := fun x =>
  some ((x.1.1, (x.1.2.1, (x.1.2.2.1, ()))), ())
theorem v_Heap_box : ∀ x, Le (E_Heap_box x) (P_Heap_box x) := by
  have hK := K_le 200 (by decide)
  rintro ⟨a0, ⟨⟩⟩
  rw [show P_Heap_box (a0, ()) = _ from p_Heap_box a0]
  show Le (
  some ((a0.1, (a0.2.1, (a0.2.2.1, ()))), ())) _
  repeat first
    | with_reducible exact Le.rfl
    | with_reducible refine Le.bind ?_ (fun _ => ?_)
    | with_reducible refine Le.cond ?_ ?_
noncomputable def e_Heap_moved_3  (m : Nat) : (Int) → (Int) → (Int) → (Int) → (Int) → (Int) → (List D_A3) → ((D_A3 × Unit) → Option (D_A3 × Unit)) → (Int) → (List D_A3) → (Int) → (Int) → Option (denL R_Heap_moved) := Nat.rec (motive := fun _ => (Int) → (Int) → (Int) → (Int) → (Int) → (Int) → (List D_A3) → ((D_A3 × Unit) → Option (D_A3 × Unit)) → (Int) → (List D_A3) → (Int) → (Int) → Option (denL R_Heap_moved)) (fun _ _ _ _ _ _ _ _ _ _ _ _ => none) (fun _ ih p0 p1 p2 p3 p4 p5 p6 p7 p8 p9 p10 p11 =>
  bif decide (p11 < p10) then
    bif inB p11 (List.length p9) then
      Option.bind (p7 ((nth T_A3 p9 p11), ())) fun r2 =>
      Option.bind (E_box_index ((p0, (p1, (p2, ()))), r2.1, ())) fun r3 =>
      bif decide ((0 : Int) ≤ r3.1) then
        ih p0 p1 p2 p3 p4 p5 p6 p7 (intBits .or .u64 p8 (shlI .u64 1 r3.1)) p9 p10 (IntKind.wrap .i64 (p11 + 1))
      else none
    else none
  else
    Option.bind (E_box_heap ((p0, (p1, (p2, ()))), p8, ())) fun r1 =>
    some (r1.1, ())) m
theorem w_Heap_moved_3    : ∀ (m M : Nat), m ≤ M → ∀ (p0 : Int) (p1 : Int) (p2 : Int) (p3 : Int) (p4 : Int) (p5 : Int) (p6 : List D_A3) (p7 p7' : (D_A3 × Unit) → Option (D_A3 × Unit)) (p8 : Int) (p9 : List D_A3) (p10 : Int) (p11 : Int), (∀ y, Le (p7 y) (p7' y)) → Le (e_Heap_moved_3  m p0 p1 p2 p3 p4 p5 p6 p7 p8 p9 p10 p11) (l_Heap_moved_3  M p0 p1 p2 p3 p4 p5 p6 p7' p8 p9 p10 p11) := by
  intro m
  induction m with
  | zero => intro M _ p0 p1 p2 p3 p4 p5 p6 p7 p7' p8 p9 p10 p11 hf_p7; exact Le.none
  | succ m ih =>
    intro M0 hM p0 p1 p2 p3 p4 p5 p6 p7 p7' p8 p9 p10 p11 hf_p7
    obtain ⟨M, rfl⟩ : ∃ M, M0 = M + 1 := ⟨M0 - 1, by omega⟩
    have hMM : m ≤ M := by omega
    have hK := K_le 200 (by decide)
    rw [q_Heap_moved_3]
    show Le (
  bif decide (p11 < p10) then
    bif inB p11 (List.length p9) then
      Option.bind (p7 ((nth T_A3 p9 p11), ())) fun r2 =>
      Option.bind (E_box_index ((p0, (p1, (p2, ()))), r2.1, ())) fun r3 =>
      bif decide ((0 : Int) ≤ r3.1) then
        (e_Heap_moved_3  m) p0 p1 p2 p3 p4 p5 p6 p7 (intBits .or .u64 p8 (shlI .u64 1 r3.1)) p9 p10 (IntKind.wrap .i64 (p11 + 1))
      else none
    else none
  else
    Option.bind (E_box_heap ((p0, (p1, (p2, ()))), p8, ())) fun r1 =>
    some (r1.1, ())) _
    repeat first
    | with_reducible exact Le.rfl
    | with_reducible exact ih M hMM _ _ _ _ _ _ _ _ _ _ _ _ _ hf_p7
    | with_reducible exact v_box_heap _
    | with_reducible exact v_box_index _
    | with_reducible exact hf_p7 _
    | with_reducible refine Le.bind ?_ (fun _ => ?_)
    | with_reducible refine Le.cond ?_ ?_
noncomputable def E_Heap_moved : Ft_Heap_moved := fun x =>
  e_Heap_moved_3 200 x.2.1.1 x.2.1.2.1 x.2.1.2.2.1 0 0 0 ([] : List D_A3) x.2.2.1 0 x.1.2.2.2.1 (List.length x.1.2.2.2.1 : Int) 0
theorem v_Heap_moved : ∀ (a0 : D_Heap) (a1 : D_A3) (a2 a2' : (D_A3 × Unit) → Option (D_A3 × Unit)), (∀ y, Le (a2 y) (a2' y)) → Le (E_Heap_moved (a0, a1, a2, ())) (P_Heap_moved (a0, a1, a2', ())) := by
  have hK := K_le 200 (by decide)
  intro a0 a1 a2 a2' hf_a2
  rw [p_Heap_moved]
  show Le (
  e_Heap_moved_3 200 a1.1 a1.2.1 a1.2.2.1 0 0 0 ([] : List D_A3) a2 0 a0.2.2.2.1 (List.length a0.2.2.2.1 : Int) 0) _
  repeat first
    | with_reducible exact Le.rfl
    | with_reducible exact w_Heap_moved_3 200 N hK _ _ _ _ _ _ _ _ _ _ _ _ _ (by assumption)
    | with_reducible exact hf_a2 _
    | with_reducible refine Le.bind ?_ (fun _ => ?_)
    | with_reducible refine Le.cond ?_ ?_
noncomputable def e_turning_of_1_3  (m : Nat) : (Int) → (Int) → (Int) → (Int) → (Int) → (Int) → (Int) → (Int) → (Int) → (D_l8Turn) → (D_A3) → (Int) → (Int) → (Int) → (Int) → Option (denL R_turning_of_1) := Nat.rec (motive := fun _ => (Int) → (Int) → (Int) → (Int) → (Int) → (Int) → (Int) → (Int) → (Int) → (D_l8Turn) → (D_A3) → (Int) → (Int) → (Int) → (Int) → Option (denL R_turning_of_1)) (fun _ _ _ _ _ _ _ _ _ _ _ _ _ _ _ => none) (fun _ ih p0 p1 p2 p3 p4 p5 p6 p7 p8 p9 p10 p11 p12 p13 p14 =>
  bif decide (p14 < 3) then
    bif inB p14 3 then
      bif inB (bif decide (p14 = (0 : Int)) then p11 else (bif decide (p14 = (1 : Int)) then p12 else p13)) 3 then
        bif inB p14 3 then
          bif inB p14 3 then
            bif decide ((bif decide (p14 = (0 : Int)) then p9.2.1.1 else (bif decide (p14 = (1 : Int)) then p9.2.1.2.1 else p9.2.1.2.2.1)) = 1) then
              bif inB p14 3 then
                bif inB (bif decide (p14 = (0 : Int)) then p11 else (bif decide (p14 = (1 : Int)) then p12 else p13)) 3 then
                  bif inB p14 3 then
                    ih p0 p1 p2 p3 p4 p5 (bif decide (p14 = (0 : Int)) then (IntKind.wrap .i64 ((IntKind.wrap .i64 ((bif decide (p14 = (0 : Int)) then p10.1 else (bif decide (p14 = (1 : Int)) then p10.2.1 else p10.2.2.1)) - 1)) - (bif decide ((bif decide (p14 = (0 : Int)) then p11 else (bif decide (p14 = (1 : Int)) then p12 else p13)) = (0 : Int)) then p0 else (bif decide ((bif decide (p14 = (0 : Int)) then p11 else (bif decide (p14 = (1 : Int)) then p12 else p13)) = (1 : Int)) then p1 else p2)))) else (bif decide (p14 = (0 : Int)) then (bif decide ((bif decide (p14 = (0 : Int)) then p11 else (bif decide (p14 = (1 : Int)) then p12 else p13)) = (0 : Int)) then p0 else (bif decide ((bif decide (p14 = (0 : Int)) then p11 else (bif decide (p14 = (1 : Int)) then p12 else p13)) = (1 : Int)) then p1 else p2)) else p6)) (bif decide (p14 = (1 : Int)) then (IntKind.wrap .i64 ((IntKind.wrap .i64 ((bif decide (p14 = (0 : Int)) then p10.1 else (bif decide (p14 = (1 : Int)) then p10.2.1 else p10.2.2.1)) - 1)) - (bif decide ((bif decide (p14 = (0 : Int)) then p11 else (bif decide (p14 = (1 : Int)) then p12 else p13)) = (0 : Int)) then p0 else (bif decide ((bif decide (p14 = (0 : Int)) then p11 else (bif decide (p14 = (1 : Int)) then p12 else p13)) = (1 : Int)) then p1 else p2)))) else (bif decide (p14 = (1 : Int)) then (bif decide ((bif decide (p14 = (0 : Int)) then p11 else (bif decide (p14 = (1 : Int)) then p12 else p13)) = (0 : Int)) then p0 else (bif decide ((bif decide (p14 = (0 : Int)) then p11 else (bif decide (p14 = (1 : Int)) then p12 else p13)) = (1 : Int)) then p1 else p2)) else p7)) (bif decide (p14 = (2 : Int)) then (IntKind.wrap .i64 ((IntKind.wrap .i64 ((bif decide (p14 = (0 : Int)) then p10.1 else (bif decide (p14 = (1 : Int)) then p10.2.1 else p10.2.2.1)) - 1)) - (bif decide ((bif decide (p14 = (0 : Int)) then p11 else (bif decide (p14 = (1 : Int)) then p12 else p13)) = (0 : Int)) then p0 else (bif decide ((bif decide (p14 = (0 : Int)) then p11 else (bif decide (p14 = (1 : Int)) then p12 else p13)) = (1 : Int)) then p1 else p2)))) else (bif decide (p14 = (2 : Int)) then (bif decide ((bif decide (p14 = (0 : Int)) then p11 else (bif decide (p14 = (1 : Int)) then p12 else p13)) = (0 : Int)) then p0 else (bif decide ((bif decide (p14 = (0 : Int)) then p11 else (bif decide (p14 = (1 : Int)) then p12 else p13)) = (1 : Int)) then p1 else p2)) else p8)) p9 p10 p11 p12 p13 (IntKind.wrap .i64 (p14 + 1))
                  else none
                else none
              else none
            else
              ih p0 p1 p2 p3 p4 p5 (bif decide (p14 = (0 : Int)) then (bif decide ((bif decide (p14 = (0 : Int)) then p11 else (bif decide (p14 = (1 : Int)) then p12 else p13)) = (0 : Int)) then p0 else (bif decide ((bif decide (p14 = (0 : Int)) then p11 else (bif decide (p14 = (1 : Int)) then p12 else p13)) = (1 : Int)) then p1 else p2)) else p6) (bif decide (p14 = (1 : Int)) then (bif decide ((bif decide (p14 = (0 : Int)) then p11 else (bif decide (p14 = (1 : Int)) then p12 else p13)) = (0 : Int)) then p0 else (bif decide ((bif decide (p14 = (0 : Int)) then p11 else (bif decide (p14 = (1 : Int)) then p12 else p13)) = (1 : Int)) then p1 else p2)) else p7) (bif decide (p14 = (2 : Int)) then (bif decide ((bif decide (p14 = (0 : Int)) then p11 else (bif decide (p14 = (1 : Int)) then p12 else p13)) = (0 : Int)) then p0 else (bif decide ((bif decide (p14 = (0 : Int)) then p11 else (bif decide (p14 = (1 : Int)) then p12 else p13)) = (1 : Int)) then p1 else p2)) else p8) p9 p10 p11 p12 p13 (IntKind.wrap .i64 (p14 + 1))
          else none
        else none
      else none
    else none
  else
    some ((p6, (p7, (p8, ()))), ())) m
theorem w_turning_of_1_3    : ∀ (m M : Nat), m ≤ M → ∀ (p0 : Int) (p1 : Int) (p2 : Int) (p3 : Int) (p4 : Int) (p5 : Int) (p6 : Int) (p7 : Int) (p8 : Int) (p9 : D_l8Turn) (p10 : D_A3) (p11 : Int) (p12 : Int) (p13 : Int) (p14 : Int), Le (e_turning_of_1_3  m p0 p1 p2 p3 p4 p5 p6 p7 p8 p9 p10 p11 p12 p13 p14) (l_turning_of_1_3  M p0 p1 p2 p3 p4 p5 p6 p7 p8 p9 p10 p11 p12 p13 p14) := by
  intro m
  induction m with
  | zero => intro M _ p0 p1 p2 p3 p4 p5 p6 p7 p8 p9 p10 p11 p12 p13 p14 ; exact Le.none
  | succ m ih =>
    intro M0 hM p0 p1 p2 p3 p4 p5 p6 p7 p8 p9 p10 p11 p12 p13 p14
    obtain ⟨M, rfl⟩ : ∃ M, M0 = M + 1 := ⟨M0 - 1, by omega⟩
    have hMM : m ≤ M := by omega
    have hK := K_le 200 (by decide)
    rw [q_turning_of_1_3]
    show Le (
  bif decide (p14 < 3) then
    bif inB p14 3 then
      bif inB (bif decide (p14 = (0 : Int)) then p11 else (bif decide (p14 = (1 : Int)) then p12 else p13)) 3 then
        bif inB p14 3 then
          bif inB p14 3 then
            bif decide ((bif decide (p14 = (0 : Int)) then p9.2.1.1 else (bif decide (p14 = (1 : Int)) then p9.2.1.2.1 else p9.2.1.2.2.1)) = 1) then
              bif inB p14 3 then
                bif inB (bif decide (p14 = (0 : Int)) then p11 else (bif decide (p14 = (1 : Int)) then p12 else p13)) 3 then
                  bif inB p14 3 then
                    (e_turning_of_1_3  m) p0 p1 p2 p3 p4 p5 (bif decide (p14 = (0 : Int)) then (IntKind.wrap .i64 ((IntKind.wrap .i64 ((bif decide (p14 = (0 : Int)) then p10.1 else (bif decide (p14 = (1 : Int)) then p10.2.1 else p10.2.2.1)) - 1)) - (bif decide ((bif decide (p14 = (0 : Int)) then p11 else (bif decide (p14 = (1 : Int)) then p12 else p13)) = (0 : Int)) then p0 else (bif decide ((bif decide (p14 = (0 : Int)) then p11 else (bif decide (p14 = (1 : Int)) then p12 else p13)) = (1 : Int)) then p1 else p2)))) else (bif decide (p14 = (0 : Int)) then (bif decide ((bif decide (p14 = (0 : Int)) then p11 else (bif decide (p14 = (1 : Int)) then p12 else p13)) = (0 : Int)) then p0 else (bif decide ((bif decide (p14 = (0 : Int)) then p11 else (bif decide (p14 = (1 : Int)) then p12 else p13)) = (1 : Int)) then p1 else p2)) else p6)) (bif decide (p14 = (1 : Int)) then (IntKind.wrap .i64 ((IntKind.wrap .i64 ((bif decide (p14 = (0 : Int)) then p10.1 else (bif decide (p14 = (1 : Int)) then p10.2.1 else p10.2.2.1)) - 1)) - (bif decide ((bif decide (p14 = (0 : Int)) then p11 else (bif decide (p14 = (1 : Int)) then p12 else p13)) = (0 : Int)) then p0 else (bif decide ((bif decide (p14 = (0 : Int)) then p11 else (bif decide (p14 = (1 : Int)) then p12 else p13)) = (1 : Int)) then p1 else p2)))) else (bif decide (p14 = (1 : Int)) then (bif decide ((bif decide (p14 = (0 : Int)) then p11 else (bif decide (p14 = (1 : Int)) then p12 else p13)) = (0 : Int)) then p0 else (bif decide ((bif decide (p14 = (0 : Int)) then p11 else (bif decide (p14 = (1 : Int)) then p12 else p13)) = (1 : Int)) then p1 else p2)) else p7)) (bif decide (p14 = (2 : Int)) then (IntKind.wrap .i64 ((IntKind.wrap .i64 ((bif decide (p14 = (0 : Int)) then p10.1 else (bif decide (p14 = (1 : Int)) then p10.2.1 else p10.2.2.1)) - 1)) - (bif decide ((bif decide (p14 = (0 : Int)) then p11 else (bif decide (p14 = (1 : Int)) then p12 else p13)) = (0 : Int)) then p0 else (bif decide ((bif decide (p14 = (0 : Int)) then p11 else (bif decide (p14 = (1 : Int)) then p12 else p13)) = (1 : Int)) then p1 else p2)))) else (bif decide (p14 = (2 : Int)) then (bif decide ((bif decide (p14 = (0 : Int)) then p11 else (bif decide (p14 = (1 : Int)) then p12 else p13)) = (0 : Int)) then p0 else (bif decide ((bif decide (p14 = (0 : Int)) then p11 else (bif decide (p14 = (1 : Int)) then p12 else p13)) = (1 : Int)) then p1 else p2)) else p8)) p9 p10 p11 p12 p13 (IntKind.wrap .i64 (p14 + 1))
                  else none
                else none
              else none
            else
              (e_turning_of_1_3  m) p0 p1 p2 p3 p4 p5 (bif decide (p14 = (0 : Int)) then (bif decide ((bif decide (p14 = (0 : Int)) then p11 else (bif decide (p14 = (1 : Int)) then p12 else p13)) = (0 : Int)) then p0 else (bif decide ((bif decide (p14 = (0 : Int)) then p11 else (bif decide (p14 = (1 : Int)) then p12 else p13)) = (1 : Int)) then p1 else p2)) else p6) (bif decide (p14 = (1 : Int)) then (bif decide ((bif decide (p14 = (0 : Int)) then p11 else (bif decide (p14 = (1 : Int)) then p12 else p13)) = (0 : Int)) then p0 else (bif decide ((bif decide (p14 = (0 : Int)) then p11 else (bif decide (p14 = (1 : Int)) then p12 else p13)) = (1 : Int)) then p1 else p2)) else p7) (bif decide (p14 = (2 : Int)) then (bif decide ((bif decide (p14 = (0 : Int)) then p11 else (bif decide (p14 = (1 : Int)) then p12 else p13)) = (0 : Int)) then p0 else (bif decide ((bif decide (p14 = (0 : Int)) then p11 else (bif decide (p14 = (1 : Int)) then p12 else p13)) = (1 : Int)) then p1 else p2)) else p8) p9 p10 p11 p12 p13 (IntKind.wrap .i64 (p14 + 1))
          else none
        else none
      else none
    else none
  else
    some ((p6, (p7, (p8, ()))), ())) _
    repeat first
    | with_reducible exact Le.rfl
    | with_reducible exact ih M hMM _ _ _ _ _ _ _ _ _ _ _ _ _ _ _
    | with_reducible refine Le.bind ?_ (fun _ => ?_)
    | with_reducible refine Le.cond ?_ ?_
noncomputable def E_turning_of_1 : Ft_turning_of_1 := fun x =>
  e_turning_of_1_3 200 x.1.1 x.1.2.1 x.1.2.2.1 0 0 0 0 0 0 x.2.1 x.2.2.1 x.2.1.1.1 x.2.1.1.2.1 x.2.1.1.2.2.1 0
theorem v_turning_of_1 : ∀ x, Le (E_turning_of_1 x) (P_turning_of_1 x) := by
  have hK := K_le 200 (by decide)
  rintro ⟨a0, a1, a2, ⟨⟩⟩
  rw [show P_turning_of_1 (a0, a1, a2, ()) = _ from p_turning_of_1 a0 a1 a2]
  show Le (
  e_turning_of_1_3 200 a0.1 a0.2.1 a0.2.2.1 0 0 0 0 0 0 a1 a2 a1.1.1 a1.1.2.1 a1.1.2.2.1 0) _
  repeat first
    | with_reducible exact Le.rfl
    | with_reducible exact w_turning_of_1_3 200 N hK _ _ _ _ _ _ _ _ _ _ _ _ _ _ _
    | with_reducible refine Le.bind ?_ (fun _ => ?_)
    | with_reducible refine Le.cond ?_ ?_
noncomputable def E_turning_of : Ft_turning_of := fun x =>
  Option.bind (E_Heap_box (x.2.1, ())) fun r0 =>
  bif inB x.1.1.1 3 then
    bif inB x.1.1.2.1 3 then
      bif inB x.1.1.2.2.1 3 then
        Option.bind (E_Heap_moved (x.2.1, ((bif decide (x.1.1.1 = (0 : Int)) then r0.1.1 else (bif decide (x.1.1.1 = (1 : Int)) then r0.1.2.1 else r0.1.2.2.1)), ((bif decide (x.1.1.2.1 = (0 : Int)) then r0.1.1 else (bif decide (x.1.1.2.1 = (1 : Int)) then r0.1.2.1 else r0.1.2.2.1)), ((bif decide (x.1.1.2.2.1 = (0 : Int)) then r0.1.1 else (bif decide (x.1.1.2.2.1 = (1 : Int)) then r0.1.2.1 else r0.1.2.2.1)), ()))), (fun (y : D_A3 × Unit) => E_turning_of_1 (y.1, x.1, ((bif decide (x.1.1.1 = (0 : Int)) then r0.1.1 else (bif decide (x.1.1.1 = (1 : Int)) then r0.1.2.1 else r0.1.2.2.1)), ((bif decide (x.1.1.2.1 = (0 : Int)) then r0.1.1 else (bif decide (x.1.1.2.1 = (1 : Int)) then r0.1.2.1 else r0.1.2.2.1)), ((bif decide (x.1.1.2.2.1 = (0 : Int)) then r0.1.1 else (bif decide (x.1.1.2.2.1 = (1 : Int)) then r0.1.2.1 else r0.1.2.2.1)), ()))), ())), ())) fun r4 =>
        some (r4.1, ())
      else none
    else none
  else none
theorem v_turning_of : ∀ x, Le (E_turning_of x) (P_turning_of x) := by
  have hK := K_le 200 (by decide)
  rintro ⟨a0, a1, ⟨⟩⟩
  rw [show P_turning_of (a0, a1, ()) = _ from p_turning_of a0 a1]
  show Le (
  Option.bind (E_Heap_box (a1, ())) fun r0 =>
  bif inB a0.1.1 3 then
    bif inB a0.1.2.1 3 then
      bif inB a0.1.2.2.1 3 then
        Option.bind (E_Heap_moved (a1, ((bif decide (a0.1.1 = (0 : Int)) then r0.1.1 else (bif decide (a0.1.1 = (1 : Int)) then r0.1.2.1 else r0.1.2.2.1)), ((bif decide (a0.1.2.1 = (0 : Int)) then r0.1.1 else (bif decide (a0.1.2.1 = (1 : Int)) then r0.1.2.1 else r0.1.2.2.1)), ((bif decide (a0.1.2.2.1 = (0 : Int)) then r0.1.1 else (bif decide (a0.1.2.2.1 = (1 : Int)) then r0.1.2.1 else r0.1.2.2.1)), ()))), (fun (y : D_A3 × Unit) => E_turning_of_1 (y.1, a0, ((bif decide (a0.1.1 = (0 : Int)) then r0.1.1 else (bif decide (a0.1.1 = (1 : Int)) then r0.1.2.1 else r0.1.2.2.1)), ((bif decide (a0.1.2.1 = (0 : Int)) then r0.1.1 else (bif decide (a0.1.2.1 = (1 : Int)) then r0.1.2.1 else r0.1.2.2.1)), ((bif decide (a0.1.2.2.1 = (0 : Int)) then r0.1.1 else (bif decide (a0.1.2.2.1 = (1 : Int)) then r0.1.2.1 else r0.1.2.2.1)), ()))), ())), ())) fun r4 =>
        some (r4.1, ())
      else none
    else none
  else none) _
  repeat first
    | with_reducible exact Le.rfl
    | with_reducible exact v_Heap_box _
    | with_reducible refine v_Heap_moved _ _ _ _ (fun _ => ?_)
    | with_reducible exact v_turning_of_1 _
    | with_reducible refine Le.bind ?_ (fun _ => ?_)
    | with_reducible refine Le.cond ?_ ?_
noncomputable def E_impl_orders : Ft_impl_orders := fun _ =>
  some (([(0, (1, (2, ()))), (0, (2, (1, ()))), (1, (0, (2, ()))), (1, (2, (0, ()))), (2, (0, (1, ()))), (2, (1, (0, ())))] : List D_A3), ())
theorem v_impl_orders : ∀ x, Le (E_impl_orders x) (P_impl_orders x) := by
  have hK := K_le 200 (by decide)
  rintro ⟨⟨⟩⟩
  rw [show P_impl_orders () = _ from p_impl_orders ]
  show Le (
  some (([(0, (1, (2, ()))), (0, (2, (1, ()))), (1, (0, (2, ()))), (1, (2, (0, ()))), (2, (0, (1, ()))), (2, (1, (0, ())))] : List D_A3), ())) _
  repeat first
    | with_reducible exact Le.rfl
    | with_reducible refine Le.bind ?_ (fun _ => ?_)
    | with_reducible refine Le.cond ?_ ?_
noncomputable def e_impl_turnings_10 (_k_3 : (List D_l8Turn) → (List D_A3) → (Int) → (Int) → Option (denL R_impl_turnings)) (k_7 : (Int) → (Int) → (Int) → (List D_l8Turn) → (Int) → (List D_A3) → (Int) → (Int) → (Int) → Option (denL R_impl_turnings)) (m : Nat) : (Int) → (Int) → (Int) → (List D_l8Turn) → (Int) → (Int) → (List D_A3) → (Int) → (Int) → (Int) → (Int) → (Int) → Option (denL R_impl_turnings) := Nat.rec (motive := fun _ => (Int) → (Int) → (Int) → (List D_l8Turn) → (Int) → (Int) → (List D_A3) → (Int) → (Int) → (Int) → (Int) → (Int) → Option (denL R_impl_turnings)) (fun _ _ _ _ _ _ _ _ _ _ _ _ => none) (fun _ ih p0 p1 p2 p3 p4 p5 p6 p7 p8 p9 p10 p11 =>
  bif decide (p11 < p10) then
    bif inB p11 3 then
      bif inB p5 3 then
        bif decide ((bif decide (p11 = (0 : Int)) then p0 else (bif decide (p11 = (1 : Int)) then p1 else p2)) > (bif decide (p5 = (0 : Int)) then p0 else (bif decide (p5 = (1 : Int)) then p1 else p2))) then
          ih p0 p1 p2 p3 (IntKind.wrap .i64 (p4 + 1)) p5 p6 p7 p8 p9 p10 (IntKind.wrap .i64 (p11 + 1))
        else
          ih p0 p1 p2 p3 p4 p5 p6 p7 p8 p9 p10 (IntKind.wrap .i64 (p11 + 1))
      else none
    else none
  else
    k_7 p0 p1 p2 p3 p4 p6 p7 p8 (IntKind.wrap .i64 (p9 + 1))) m
theorem w_impl_turnings_10 (m0 m1 : Nat) (k_3 : (List D_l8Turn) → (List D_A3) → (Int) → (Int) → Option (denL R_impl_turnings)) (k_7 : (Int) → (Int) → (Int) → (List D_l8Turn) → (Int) → (List D_A3) → (Int) → (Int) → (Int) → Option (denL R_impl_turnings)) (_h_3 : ∀ (p0 : List D_l8Turn) (p1 : List D_A3) (p2 : Int) (p3 : Int), Le (k_3 p0 p1 p2 p3) (l_impl_turnings_3 m0 p0 p1 p2 p3)) (h_7 : ∀ (p0 : Int) (p1 : Int) (p2 : Int) (p3 : List D_l8Turn) (p4 : Int) (p5 : List D_A3) (p6 : Int) (p7 : Int) (p8 : Int), Le (k_7 p0 p1 p2 p3 p4 p5 p6 p7 p8) (l_impl_turnings_7 m0 m1 p0 p1 p2 p3 p4 p5 p6 p7 p8)) : ∀ (m M : Nat), m ≤ M → ∀ (p0 : Int) (p1 : Int) (p2 : Int) (p3 : List D_l8Turn) (p4 : Int) (p5 : Int) (p6 : List D_A3) (p7 : Int) (p8 : Int) (p9 : Int) (p10 : Int) (p11 : Int), Le (e_impl_turnings_10 k_3 k_7 m p0 p1 p2 p3 p4 p5 p6 p7 p8 p9 p10 p11) (l_impl_turnings_10 m0 m1 M p0 p1 p2 p3 p4 p5 p6 p7 p8 p9 p10 p11) := by
  intro m
  induction m with
  | zero => intro M _ p0 p1 p2 p3 p4 p5 p6 p7 p8 p9 p10 p11 ; exact Le.none
  | succ m ih =>
    intro M0 hM p0 p1 p2 p3 p4 p5 p6 p7 p8 p9 p10 p11
    obtain ⟨M, rfl⟩ : ∃ M, M0 = M + 1 := ⟨M0 - 1, by omega⟩
    have hMM : m ≤ M := by omega
    have hK := K_le 200 (by decide)
    rw [q_impl_turnings_10]
    show Le (
  bif decide (p11 < p10) then
    bif inB p11 3 then
      bif inB p5 3 then
        bif decide ((bif decide (p11 = (0 : Int)) then p0 else (bif decide (p11 = (1 : Int)) then p1 else p2)) > (bif decide (p5 = (0 : Int)) then p0 else (bif decide (p5 = (1 : Int)) then p1 else p2))) then
          (e_impl_turnings_10 k_3 k_7 m) p0 p1 p2 p3 (IntKind.wrap .i64 (p4 + 1)) p5 p6 p7 p8 p9 p10 (IntKind.wrap .i64 (p11 + 1))
        else
          (e_impl_turnings_10 k_3 k_7 m) p0 p1 p2 p3 p4 p5 p6 p7 p8 p9 p10 (IntKind.wrap .i64 (p11 + 1))
      else none
    else none
  else
    k_7 p0 p1 p2 p3 p4 p6 p7 p8 (IntKind.wrap .i64 (p9 + 1))) _
    repeat first
    | with_reducible exact Le.rfl
    | with_reducible exact ih M hMM _ _ _ _ _ _ _ _ _ _ _ _
    | with_reducible exact h_7 _ _ _ _ _ _ _ _ _
    | with_reducible refine Le.bind ?_ (fun _ => ?_)
    | with_reducible refine Le.cond ?_ ?_
noncomputable def e_impl_turnings_17 (k_3 : (List D_l8Turn) → (List D_A3) → (Int) → (Int) → Option (denL R_impl_turnings)) (m : Nat) : (Int) → (Int) → (Int) → (List D_l8Turn) → (Int) → (List D_A3) → (Int) → (Int) → (Int) → Option (denL R_impl_turnings) := Nat.rec (motive := fun _ => (Int) → (Int) → (Int) → (List D_l8Turn) → (Int) → (List D_A3) → (Int) → (Int) → (Int) → Option (denL R_impl_turnings)) (fun _ _ _ _ _ _ _ _ _ => none) (fun _ ih p0 p1 p2 p3 p4 p5 p6 p7 p8 =>
  bif decide (p8 < 8) then
    bif decide ((Int.tmod (IntKind.wrap .i64 ((IntKind.wrap .i64 ((IntKind.wrap .i64 (p4 + (shrI .i64 p8 2))) + (intBits .and .i64 (shrI .i64 p8 1) 1))) + (intBits .and .i64 p8 1))) 2) = 0) then
      bif (decide (((List.length p3) + (List.length ([((p0, (p1, (p2, ()))), (((shrI .i64 p8 2), ((intBits .and .i64 (shrI .i64 p8 1) 1), ((intBits .and .i64 p8 1), ()))), ()))] : List D_l8Turn))) * 48 ≤ 140737488355328) && decide (((List.length p3) + (List.length ([((p0, (p1, (p2, ()))), (((shrI .i64 p8 2), ((intBits .and .i64 (shrI .i64 p8 1) 1), ((intBits .and .i64 p8 1), ()))), ()))] : List D_l8Turn))) ≤ 140737488355328)) then
        ih p0 p1 p2 (p3 ++ ([((p0, (p1, (p2, ()))), (((shrI .i64 p8 2), ((intBits .and .i64 (shrI .i64 p8 1) 1), ((intBits .and .i64 p8 1), ()))), ()))] : List D_l8Turn)) p4 p5 p6 p7 (IntKind.wrap .i64 (p8 + 1))
      else none
    else
      ih p0 p1 p2 p3 p4 p5 p6 p7 (IntKind.wrap .i64 (p8 + 1))
  else
    k_3 p3 p5 p6 (IntKind.wrap .i64 (p7 + 1))) m
theorem w_impl_turnings_17 (m0 : Nat) (k_3 : (List D_l8Turn) → (List D_A3) → (Int) → (Int) → Option (denL R_impl_turnings)) (h_3 : ∀ (p0 : List D_l8Turn) (p1 : List D_A3) (p2 : Int) (p3 : Int), Le (k_3 p0 p1 p2 p3) (l_impl_turnings_3 m0 p0 p1 p2 p3)) : ∀ (m M : Nat), m ≤ M → ∀ (p0 : Int) (p1 : Int) (p2 : Int) (p3 : List D_l8Turn) (p4 : Int) (p5 : List D_A3) (p6 : Int) (p7 : Int) (p8 : Int), Le (e_impl_turnings_17 k_3 m p0 p1 p2 p3 p4 p5 p6 p7 p8) (l_impl_turnings_17 m0 M p0 p1 p2 p3 p4 p5 p6 p7 p8) := by
  intro m
  induction m with
  | zero => intro M _ p0 p1 p2 p3 p4 p5 p6 p7 p8 ; exact Le.none
  | succ m ih =>
    intro M0 hM p0 p1 p2 p3 p4 p5 p6 p7 p8
    obtain ⟨M, rfl⟩ : ∃ M, M0 = M + 1 := ⟨M0 - 1, by omega⟩
    have hMM : m ≤ M := by omega
    have hK := K_le 200 (by decide)
    rw [q_impl_turnings_17]
    show Le (
  bif decide (p8 < 8) then
    bif decide ((Int.tmod (IntKind.wrap .i64 ((IntKind.wrap .i64 ((IntKind.wrap .i64 (p4 + (shrI .i64 p8 2))) + (intBits .and .i64 (shrI .i64 p8 1) 1))) + (intBits .and .i64 p8 1))) 2) = 0) then
      bif (decide (((List.length p3) + (List.length ([((p0, (p1, (p2, ()))), (((shrI .i64 p8 2), ((intBits .and .i64 (shrI .i64 p8 1) 1), ((intBits .and .i64 p8 1), ()))), ()))] : List D_l8Turn))) * 48 ≤ 140737488355328) && decide (((List.length p3) + (List.length ([((p0, (p1, (p2, ()))), (((shrI .i64 p8 2), ((intBits .and .i64 (shrI .i64 p8 1) 1), ((intBits .and .i64 p8 1), ()))), ()))] : List D_l8Turn))) ≤ 140737488355328)) then
        (e_impl_turnings_17 k_3 m) p0 p1 p2 (p3 ++ ([((p0, (p1, (p2, ()))), (((shrI .i64 p8 2), ((intBits .and .i64 (shrI .i64 p8 1) 1), ((intBits .and .i64 p8 1), ()))), ()))] : List D_l8Turn)) p4 p5 p6 p7 (IntKind.wrap .i64 (p8 + 1))
      else none
    else
      (e_impl_turnings_17 k_3 m) p0 p1 p2 p3 p4 p5 p6 p7 (IntKind.wrap .i64 (p8 + 1))
  else
    k_3 p3 p5 p6 (IntKind.wrap .i64 (p7 + 1))) _
    repeat first
    | with_reducible exact Le.rfl
    | with_reducible exact ih M hMM _ _ _ _ _ _ _ _ _
    | with_reducible exact h_3 _ _ _ _
    | with_reducible refine Le.bind ?_ (fun _ => ?_)
    | with_reducible refine Le.cond ?_ ?_
noncomputable def e_impl_turnings_7 (k_3 : (List D_l8Turn) → (List D_A3) → (Int) → (Int) → Option (denL R_impl_turnings)) (m : Nat) : (Int) → (Int) → (Int) → (List D_l8Turn) → (Int) → (List D_A3) → (Int) → (Int) → (Int) → Option (denL R_impl_turnings) := Nat.rec (motive := fun _ => (Int) → (Int) → (Int) → (List D_l8Turn) → (Int) → (List D_A3) → (Int) → (Int) → (Int) → Option (denL R_impl_turnings)) (fun _ _ _ _ _ _ _ _ _ => none) (fun _ ih p0 p1 p2 p3 p4 p5 p6 p7 p8 =>
  bif decide (p8 < 3) then
    e_impl_turnings_10 k_3 ih 200 p0 p1 p2 p3 p4 p8 p5 p6 p7 p8 p8 0
  else
    e_impl_turnings_17 k_3 200 p0 p1 p2 p3 p4 p5 p6 p7 0) m
theorem w_impl_turnings_7 (m0 : Nat) (k_3 : (List D_l8Turn) → (List D_A3) → (Int) → (Int) → Option (denL R_impl_turnings)) (h_3 : ∀ (p0 : List D_l8Turn) (p1 : List D_A3) (p2 : Int) (p3 : Int), Le (k_3 p0 p1 p2 p3) (l_impl_turnings_3 m0 p0 p1 p2 p3)) : ∀ (m M : Nat), m ≤ M → ∀ (p0 : Int) (p1 : Int) (p2 : Int) (p3 : List D_l8Turn) (p4 : Int) (p5 : List D_A3) (p6 : Int) (p7 : Int) (p8 : Int), Le (e_impl_turnings_7 k_3 m p0 p1 p2 p3 p4 p5 p6 p7 p8) (l_impl_turnings_7 m0 M p0 p1 p2 p3 p4 p5 p6 p7 p8) := by
  intro m
  induction m with
  | zero => intro M _ p0 p1 p2 p3 p4 p5 p6 p7 p8 ; exact Le.none
  | succ m ih =>
    intro M0 hM p0 p1 p2 p3 p4 p5 p6 p7 p8
    obtain ⟨M, rfl⟩ : ∃ M, M0 = M + 1 := ⟨M0 - 1, by omega⟩
    have hMM : m ≤ M := by omega
    have hK := K_le 200 (by decide)
    rw [q_impl_turnings_7]
    show Le (
  bif decide (p8 < 3) then
    e_impl_turnings_10 k_3 (e_impl_turnings_7 k_3 m) 200 p0 p1 p2 p3 p4 p8 p5 p6 p7 p8 p8 0
  else
    e_impl_turnings_17 k_3 200 p0 p1 p2 p3 p4 p5 p6 p7 0) _
    repeat first
    | with_reducible exact Le.rfl
    | with_reducible exact ih M hMM _ _ _ _ _ _ _ _ _
    | with_reducible exact h_3 _ _ _ _
    | with_reducible exact w_impl_turnings_10 _ _ _ _ h_3 (ih M hMM) 200 N hK _ _ _ _ _ _ _ _ _ _ _ _
    | with_reducible exact w_impl_turnings_17 _ _ h_3 200 N hK _ _ _ _ _ _ _ _ _
    | with_reducible refine Le.bind ?_ (fun _ => ?_)
    | with_reducible refine Le.cond ?_ ?_
noncomputable def e_impl_turnings_3  (m : Nat) : (List D_l8Turn) → (List D_A3) → (Int) → (Int) → Option (denL R_impl_turnings) := Nat.rec (motive := fun _ => (List D_l8Turn) → (List D_A3) → (Int) → (Int) → Option (denL R_impl_turnings)) (fun _ _ _ _ => none) (fun _ ih p0 p1 p2 p3 =>
  bif decide (p3 < p2) then
    bif inB p3 (List.length p1) then
      e_impl_turnings_7 ih 200 (((nth T_A3 p1 p3)).1) ((((nth T_A3 p1 p3)).2).1) (((((nth T_A3 p1 p3)).2).2).1) p0 0 p1 p2 p3 0
    else none
  else
    some (p0, ())) m
theorem w_impl_turnings_3    : ∀ (m M : Nat), m ≤ M → ∀ (p0 : List D_l8Turn) (p1 : List D_A3) (p2 : Int) (p3 : Int), Le (e_impl_turnings_3  m p0 p1 p2 p3) (l_impl_turnings_3  M p0 p1 p2 p3) := by
  intro m
  induction m with
  | zero => intro M _ p0 p1 p2 p3 ; exact Le.none
  | succ m ih =>
    intro M0 hM p0 p1 p2 p3
    obtain ⟨M, rfl⟩ : ∃ M, M0 = M + 1 := ⟨M0 - 1, by omega⟩
    have hMM : m ≤ M := by omega
    have hK := K_le 200 (by decide)
    rw [q_impl_turnings_3]
    show Le (
  bif decide (p3 < p2) then
    bif inB p3 (List.length p1) then
      e_impl_turnings_7 (e_impl_turnings_3  m) 200 (((nth T_A3 p1 p3)).1) ((((nth T_A3 p1 p3)).2).1) (((((nth T_A3 p1 p3)).2).2).1) p0 0 p1 p2 p3 0
    else none
  else
    some (p0, ())) _
    repeat first
    | with_reducible exact Le.rfl
    | with_reducible exact ih M hMM _ _ _ _
    | with_reducible exact w_impl_turnings_7 _ _ (ih M hMM) 200 N hK _ _ _ _ _ _ _ _ _
    | with_reducible refine Le.bind ?_ (fun _ => ?_)
    | with_reducible refine Le.cond ?_ ?_
noncomputable def E_impl_turnings : Ft_impl_turnings := fun _ =>
  Option.bind (E_impl_orders (())) fun r0 =>
  e_impl_turnings_3 200 ([] : List D_l8Turn) r0.1 (List.length r0.1 : Int) 0
theorem v_impl_turnings : ∀ x, Le (E_impl_turnings x) (P_impl_turnings x) := by
  have hK := K_le 200 (by decide)
  rintro ⟨⟨⟩⟩
  rw [show P_impl_turnings () = _ from p_impl_turnings ]
  show Le (
  Option.bind (E_impl_orders (())) fun r0 =>
  e_impl_turnings_3 200 ([] : List D_l8Turn) r0.1 (List.length r0.1 : Int) 0) _
  repeat first
    | with_reducible exact Le.rfl
    | with_reducible exact w_impl_turnings_3 200 N hK _ _ _ _
    | with_reducible exact v_impl_orders _
    | with_reducible refine Le.bind ?_ (fun _ => ?_)
    | with_reducible refine Le.cond ?_ ?_
noncomputable def E_impl_within : Ft_impl_within := fun x =>
  bif decide (x.1 ≥ x.2.1) then
    some (decide (x.1 ≤ x.2.2.1), ())
  else
    some (false, ())
theorem v_impl_within : ∀ x, Le (E_impl_within x) (P_impl_within x) := by
  have hK := K_le 200 (by decide)
  rintro ⟨a0, a1, a2, ⟨⟩⟩
  rw [show P_impl_within (a0, a1, a2, ()) = _ from p_impl_within a0 a1 a2]
  show Le (
  bif decide (a0 ≥ a1) then
    some (decide (a0 ≤ a2), ())
  else
    some (false, ())) _
  repeat first
    | with_reducible exact Le.rfl
    | with_reducible refine Le.bind ?_ (fun _ => ?_)
    | with_reducible refine Le.cond ?_ ?_
noncomputable def E_box_valid : Ft_box_valid := fun x =>
  Option.bind (E_impl_within (x.1.1, 1, 4, ())) fun r0 =>
  bif r0.1 then
    Option.bind (E_impl_within (x.1.2.1, 1, 4, ())) fun r2 =>
    bif r2.1 then
      Option.bind (E_impl_within (x.1.2.2.1, 1, 4, ())) fun r4 =>
      some (r4.1, ())
    else
      some (false, ())
  else
    some (false, ())
theorem v_box_valid : ∀ x, Le (E_box_valid x) (P_box_valid x) := by
  have hK := K_le 200 (by decide)
  rintro ⟨a0, ⟨⟩⟩
  rw [show P_box_valid (a0, ()) = _ from p_box_valid a0]
  show Le (
  Option.bind (E_impl_within (a0.1, 1, 4, ())) fun r0 =>
  bif r0.1 then
    Option.bind (E_impl_within (a0.2.1, 1, 4, ())) fun r2 =>
    bif r2.1 then
      Option.bind (E_impl_within (a0.2.2.1, 1, 4, ())) fun r4 =>
      some (r4.1, ())
    else
      some (false, ())
  else
    some (false, ())) _
  repeat first
    | with_reducible exact Le.rfl
    | with_reducible exact v_impl_within _
    | with_reducible refine Le.bind ?_ (fun _ => ?_)
    | with_reducible refine Le.cond ?_ ?_
noncomputable def E_box_has : Ft_box_has := fun x =>
  Option.bind (E_impl_within (x.2.1.1, 0, (IntKind.wrap .i64 (x.1.1 - 1)), ())) fun r0 =>
  bif r0.1 then
    Option.bind (E_impl_within (x.2.1.2.1, 0, (IntKind.wrap .i64 (x.1.2.1 - 1)), ())) fun r2 =>
    bif r2.1 then
      Option.bind (E_impl_within (x.2.1.2.2.1, 0, (IntKind.wrap .i64 (x.1.2.2.1 - 1)), ())) fun r4 =>
      some (r4.1, ())
    else
      some (false, ())
  else
    some (false, ())
theorem v_box_has : ∀ x, Le (E_box_has x) (P_box_has x) := by
  have hK := K_le 200 (by decide)
  rintro ⟨a0, a1, ⟨⟩⟩
  rw [show P_box_has (a0, a1, ()) = _ from p_box_has a0 a1]
  show Le (
  Option.bind (E_impl_within (a1.1, 0, (IntKind.wrap .i64 (a0.1 - 1)), ())) fun r0 =>
  bif r0.1 then
    Option.bind (E_impl_within (a1.2.1, 0, (IntKind.wrap .i64 (a0.2.1 - 1)), ())) fun r2 =>
    bif r2.1 then
      Option.bind (E_impl_within (a1.2.2.1, 0, (IntKind.wrap .i64 (a0.2.2.1 - 1)), ())) fun r4 =>
      some (r4.1, ())
    else
      some (false, ())
  else
    some (false, ())) _
  repeat first
    | with_reducible exact Le.rfl
    | with_reducible exact v_impl_within _
    | with_reducible refine Le.bind ?_ (fun _ => ?_)
    | with_reducible refine Le.cond ?_ ?_
noncomputable def E_cmp_isNaN_int : Ft_cmp_isNaN_int := fun x =>
  some (!decide (x.1 = x.1), ())
theorem v_cmp_isNaN_int : ∀ x, Le (E_cmp_isNaN_int x) (P_cmp_isNaN_int x) := by
  have hK := K_le 200 (by decide)
  rintro ⟨a0, ⟨⟩⟩
  rw [show P_cmp_isNaN_int (a0, ()) = _ from p_cmp_isNaN_int a0]
  show Le (
  some (!decide (a0 = a0), ())) _
  repeat first
    | with_reducible exact Le.rfl
    | with_reducible refine Le.bind ?_ (fun _ => ?_)
    | with_reducible refine Le.cond ?_ ?_
noncomputable def E_cmp_Compare_int : Ft_cmp_Compare_int := fun x =>
  Option.bind (E_cmp_isNaN_int (x.1, ())) fun r0 =>
  Option.bind (E_cmp_isNaN_int (x.2.1, ())) fun r1 =>
  bif r0.1 then
    bif r1.1 then
      some (0, ())
    else
      some ((-1), ())
  else
    bif r1.1 then
      some (1, ())
    else
      bif decide (x.1 < x.2.1) then
        some ((-1), ())
      else
        bif decide (x.1 > x.2.1) then
          some (1, ())
        else
          some (0, ())
theorem v_cmp_Compare_int : ∀ x, Le (E_cmp_Compare_int x) (P_cmp_Compare_int x) := by
  have hK := K_le 200 (by decide)
  rintro ⟨a0, a1, ⟨⟩⟩
  rw [show P_cmp_Compare_int (a0, a1, ()) = _ from p_cmp_Compare_int a0 a1]
  show Le (
  Option.bind (E_cmp_isNaN_int (a0, ())) fun r0 =>
  Option.bind (E_cmp_isNaN_int (a1, ())) fun r1 =>
  bif r0.1 then
    bif r1.1 then
      some (0, ())
    else
      some ((-1), ())
  else
    bif r1.1 then
      some (1, ())
    else
      bif decide (a0 < a1) then
        some ((-1), ())
      else
        bif decide (a0 > a1) then
          some (1, ())
        else
          some (0, ())) _
  repeat first
    | with_reducible exact Le.rfl
    | with_reducible exact v_cmp_isNaN_int _
    | with_reducible refine Le.bind ?_ (fun _ => ?_)
    | with_reducible refine Le.cond ?_ ?_
noncomputable def e_slices_Compare_int_int_2  (m : Nat) : (List Int) → (List Int) → (List Int) → (Int) → (Int) → Option (denL R_slices_Compare_int_int) := Nat.rec (motive := fun _ => (List Int) → (List Int) → (List Int) → (Int) → (Int) → Option (denL R_slices_Compare_int_int)) (fun _ _ _ _ _ => none) (fun _ ih p0 p1 p2 p3 p4 =>
  bif decide (p4 < p3) then
    bif inB p4 (List.length p2) then
      bif decide (p4 ≥ (List.length p1 : Int)) then
        some (1, ())
      else
        bif inB p4 (List.length p1) then
          Option.bind (E_cmp_Compare_int ((nth ((.int .i64) : Ty) p2 p4), (nth ((.int .i64) : Ty) p1 p4), ())) fun r4 =>
          bif !decide (r4.1 = 0) then
            some (r4.1, ())
          else
            ih p0 p1 p2 p3 (IntKind.wrap .i64 (p4 + 1))
        else none
    else none
  else
    bif decide ((List.length p0 : Int) < (List.length p1 : Int)) then
      some ((-1), ())
    else
      some (0, ())) m
theorem w_slices_Compare_int_int_2    : ∀ (m M : Nat), m ≤ M → ∀ (p0 : List Int) (p1 : List Int) (p2 : List Int) (p3 : Int) (p4 : Int), Le (e_slices_Compare_int_int_2  m p0 p1 p2 p3 p4) (l_slices_Compare_int_int_2  M p0 p1 p2 p3 p4) := by
  intro m
  induction m with
  | zero => intro M _ p0 p1 p2 p3 p4 ; exact Le.none
  | succ m ih =>
    intro M0 hM p0 p1 p2 p3 p4
    obtain ⟨M, rfl⟩ : ∃ M, M0 = M + 1 := ⟨M0 - 1, by omega⟩
    have hMM : m ≤ M := by omega
    have hK := K_le 200 (by decide)
    rw [q_slices_Compare_int_int_2]
    show Le (
  bif decide (p4 < p3) then
    bif inB p4 (List.length p2) then
      bif decide (p4 ≥ (List.length p1 : Int)) then
        some (1, ())
      else
        bif inB p4 (List.length p1) then
          Option.bind (E_cmp_Compare_int ((nth ((.int .i64) : Ty) p2 p4), (nth ((.int .i64) : Ty) p1 p4), ())) fun r4 =>
          bif !decide (r4.1 = 0) then
            some (r4.1, ())
          else
            (e_slices_Compare_int_int_2  m) p0 p1 p2 p3 (IntKind.wrap .i64 (p4 + 1))
        else none
    else none
  else
    bif decide ((List.length p0 : Int) < (List.length p1 : Int)) then
      some ((-1), ())
    else
      some (0, ())) _
    repeat first
    | with_reducible exact Le.rfl
    | with_reducible exact ih M hMM _ _ _ _ _
    | with_reducible exact v_cmp_Compare_int _
    | with_reducible refine Le.bind ?_ (fun _ => ?_)
    | with_reducible refine Le.cond ?_ ?_
noncomputable def E_slices_Compare_int_int : Ft_slices_Compare_int_int := fun x =>
  e_slices_Compare_int_int_2 200 x.1 x.2.1 x.1 (List.length x.1 : Int) 0
theorem v_slices_Compare_int_int : ∀ x, Le (E_slices_Compare_int_int x) (P_slices_Compare_int_int x) := by
  have hK := K_le 200 (by decide)
  rintro ⟨a0, a1, ⟨⟩⟩
  rw [show P_slices_Compare_int_int (a0, a1, ()) = _ from p_slices_Compare_int_int a0 a1]
  show Le (
  e_slices_Compare_int_int_2 200 a0 a1 a0 (List.length a0 : Int) 0) _
  repeat first
    | with_reducible exact Le.rfl
    | with_reducible exact w_slices_Compare_int_int_2 200 N hK _ _ _ _ _
    | with_reducible refine Le.bind ?_ (fun _ => ?_)
    | with_reducible refine Le.cond ?_ ?_
noncomputable def E_impl_compareCells : Ft_impl_compareCells := fun x =>
  Option.bind (E_slices_Compare_int_int (([x.1.1, x.1.2.1, x.1.2.2.1] : List Int), ([x.2.1.1, x.2.1.2.1, x.2.1.2.2.1] : List Int), ())) fun r0 =>
  some (r0.1, ())
theorem v_impl_compareCells : ∀ x, Le (E_impl_compareCells x) (P_impl_compareCells x) := by
  have hK := K_le 200 (by decide)
  rintro ⟨a0, a1, ⟨⟩⟩
  rw [show P_impl_compareCells (a0, a1, ()) = _ from p_impl_compareCells a0 a1]
  show Le (
  Option.bind (E_slices_Compare_int_int (([a0.1, a0.2.1, a0.2.2.1] : List Int), ([a1.1, a1.2.1, a1.2.2.1] : List Int), ())) fun r0 =>
  some (r0.1, ())) _
  repeat first
    | with_reducible exact Le.rfl
    | with_reducible exact v_slices_Compare_int_int _
    | with_reducible refine Le.bind ?_ (fun _ => ?_)
    | with_reducible refine Le.cond ?_ ?_
noncomputable def e_impl_IsHeap_4  (m : Nat) : (Int) → (Int) → (Int) → (List D_A3) → (List D_A3) → (Int) → (Int) → Option (denL R_impl_IsHeap) := Nat.rec (motive := fun _ => (Int) → (Int) → (Int) → (List D_A3) → (List D_A3) → (Int) → (Int) → Option (denL R_impl_IsHeap)) (fun _ _ _ _ _ _ _ => none) (fun _ ih p0 p1 p2 p3 p4 p5 p6 =>
  bif decide (p6 < p5) then
    bif inB p6 (List.length p4) then
      Option.bind (E_Heap_box ((p0, (p1, (p2, (p3, ())))), ())) fun r2 =>
      Option.bind (E_box_has (r2.1, (nth T_A3 p4 p6), ())) fun r3 =>
      bif !r3.1 then
        some (false, ())
      else
        bif decide (p6 > 0) then
          bif inB (IntKind.wrap .i64 (p6 - 1)) (List.length p3) then
            Option.bind (E_impl_compareCells ((nth T_A3 p3 (IntKind.wrap .i64 (p6 - 1))), (nth T_A3 p4 p6), ())) fun r7 =>
            bif decide (r7.1 ≥ 0) then
              some (false, ())
            else
              ih p0 p1 p2 p3 p4 p5 (IntKind.wrap .i64 (p6 + 1))
          else none
        else
          ih p0 p1 p2 p3 p4 p5 (IntKind.wrap .i64 (p6 + 1))
    else none
  else
    some (true, ())) m
theorem w_impl_IsHeap_4    : ∀ (m M : Nat), m ≤ M → ∀ (p0 : Int) (p1 : Int) (p2 : Int) (p3 : List D_A3) (p4 : List D_A3) (p5 : Int) (p6 : Int), Le (e_impl_IsHeap_4  m p0 p1 p2 p3 p4 p5 p6) (l_impl_IsHeap_4  M p0 p1 p2 p3 p4 p5 p6) := by
  intro m
  induction m with
  | zero => intro M _ p0 p1 p2 p3 p4 p5 p6 ; exact Le.none
  | succ m ih =>
    intro M0 hM p0 p1 p2 p3 p4 p5 p6
    obtain ⟨M, rfl⟩ : ∃ M, M0 = M + 1 := ⟨M0 - 1, by omega⟩
    have hMM : m ≤ M := by omega
    have hK := K_le 200 (by decide)
    rw [q_impl_IsHeap_4]
    show Le (
  bif decide (p6 < p5) then
    bif inB p6 (List.length p4) then
      Option.bind (E_Heap_box ((p0, (p1, (p2, (p3, ())))), ())) fun r2 =>
      Option.bind (E_box_has (r2.1, (nth T_A3 p4 p6), ())) fun r3 =>
      bif !r3.1 then
        some (false, ())
      else
        bif decide (p6 > 0) then
          bif inB (IntKind.wrap .i64 (p6 - 1)) (List.length p3) then
            Option.bind (E_impl_compareCells ((nth T_A3 p3 (IntKind.wrap .i64 (p6 - 1))), (nth T_A3 p4 p6), ())) fun r7 =>
            bif decide (r7.1 ≥ 0) then
              some (false, ())
            else
              (e_impl_IsHeap_4  m) p0 p1 p2 p3 p4 p5 (IntKind.wrap .i64 (p6 + 1))
          else none
        else
          (e_impl_IsHeap_4  m) p0 p1 p2 p3 p4 p5 (IntKind.wrap .i64 (p6 + 1))
    else none
  else
    some (true, ())) _
    repeat first
    | with_reducible exact Le.rfl
    | with_reducible exact ih M hMM _ _ _ _ _ _ _
    | with_reducible exact v_Heap_box _
    | with_reducible exact v_box_has _
    | with_reducible exact v_impl_compareCells _
    | with_reducible refine Le.bind ?_ (fun _ => ?_)
    | with_reducible refine Le.cond ?_ ?_
noncomputable def E_impl_IsHeap : Ft_impl_IsHeap := fun x =>
  Option.bind (E_Heap_box (x.1, ())) fun r0 =>
  Option.bind (E_box_valid (r0.1, ())) fun r1 =>
  bif !r1.1 then
    some (false, ())
  else
    e_impl_IsHeap_4 200 x.1.1 x.1.2.1 x.1.2.2.1 x.1.2.2.2.1 x.1.2.2.2.1 (List.length x.1.2.2.2.1 : Int) 0
theorem v_impl_IsHeap : ∀ x, Le (E_impl_IsHeap x) (P_impl_IsHeap x) := by
  have hK := K_le 200 (by decide)
  rintro ⟨a0, ⟨⟩⟩
  rw [show P_impl_IsHeap (a0, ()) = _ from p_impl_IsHeap a0]
  show Le (
  Option.bind (E_Heap_box (a0, ())) fun r0 =>
  Option.bind (E_box_valid (r0.1, ())) fun r1 =>
  bif !r1.1 then
    some (false, ())
  else
    e_impl_IsHeap_4 200 a0.1 a0.2.1 a0.2.2.1 a0.2.2.2.1 a0.2.2.2.1 (List.length a0.2.2.2.1 : Int) 0) _
  repeat first
    | with_reducible exact Le.rfl
    | with_reducible exact w_impl_IsHeap_4 200 N hK _ _ _ _ _ _ _
    | with_reducible exact v_Heap_box _
    | with_reducible exact v_box_valid _
    | with_reducible refine Le.bind ?_ (fun _ => ?_)
    | with_reducible refine Le.cond ?_ ?_
noncomputable def E_impl_CropHeap_1 : Ft_impl_CropHeap_1 := fun x =>
  Option.bind (E_impl_added (x.1, x.2.1, ())) fun r0 =>
  some (r0.1, ())
theorem v_impl_CropHeap_1 : ∀ x, Le (E_impl_CropHeap_1 x) (P_impl_CropHeap_1 x) := by
  have hK := K_le 200 (by decide)
  rintro ⟨a0, a1, ⟨⟩⟩
  rw [show P_impl_CropHeap_1 (a0, a1, ()) = _ from p_impl_CropHeap_1 a0 a1]
  show Le (
  Option.bind (E_impl_added (a0, a1, ())) fun r0 =>
  some (r0.1, ())) _
  repeat first
    | with_reducible exact Le.rfl
    | with_reducible exact v_impl_added _
    | with_reducible refine Le.bind ?_ (fun _ => ?_)
    | with_reducible refine Le.cond ?_ ?_
noncomputable def e_impl_CropHeap_8 (k_5 : (Int) → (Int) → (Int) → (List D_A3) → (Int) → (Int) → (Int) → (List D_A3) → (Int) → (Int) → (Int) → (Int) → (Int) → (Int) → (List D_A3) → (Int) → (Int) → Option (denL R_impl_CropHeap)) (m : Nat) : (Int) → (Int) → (Int) → (List D_A3) → (Int) → (Int) → (Int) → (List D_A3) → (Int) → (Int) → (Int) → (Int) → (Int) → (Int) → (Int) → (Int) → (Int) → (List D_A3) → (Int) → (Int) → (Int) → Option (denL R_impl_CropHeap) := Nat.rec (motive := fun _ => (Int) → (Int) → (Int) → (List D_A3) → (Int) → (Int) → (Int) → (List D_A3) → (Int) → (Int) → (Int) → (Int) → (Int) → (Int) → (Int) → (Int) → (Int) → (List D_A3) → (Int) → (Int) → (Int) → Option (denL R_impl_CropHeap)) (fun _ _ _ _ _ _ _ _ _ _ _ _ _ _ _ _ _ _ _ _ _ => none) (fun _ ih p0 p1 p2 p3 p4 p5 p6 p7 p8 p9 p10 p11 p12 p13 p14 p15 p16 p17 p18 p19 p20 =>
  bif decide (p20 < 3) then
    bif inB p20 3 then
      bif inB p20 3 then
        bif inB p20 3 then
          bif inB p20 3 then
            bif inB p20 3 then
              bif inB p20 3 then
                ih p0 p1 p2 p3 p4 p5 p6 p7 (bif decide (p20 = (0 : Int)) then (bif decide ((bif decide (p20 = (0 : Int)) then p14 else (bif decide (p20 = (1 : Int)) then p15 else p16)) < (bif decide (p20 = (0 : Int)) then p8 else (bif decide (p20 = (1 : Int)) then p9 else p10))) then (bif decide (p20 = (0 : Int)) then p14 else (bif decide (p20 = (1 : Int)) then p15 else p16)) else (bif decide (p20 = (0 : Int)) then p8 else (bif decide (p20 = (1 : Int)) then p9 else p10))) else p8) (bif decide (p20 = (1 : Int)) then (bif decide ((bif decide (p20 = (0 : Int)) then p14 else (bif decide (p20 = (1 : Int)) then p15 else p16)) < (bif decide (p20 = (0 : Int)) then p8 else (bif decide (p20 = (1 : Int)) then p9 else p10))) then (bif decide (p20 = (0 : Int)) then p14 else (bif decide (p20 = (1 : Int)) then p15 else p16)) else (bif decide (p20 = (0 : Int)) then p8 else (bif decide (p20 = (1 : Int)) then p9 else p10))) else p9) (bif decide (p20 = (2 : Int)) then (bif decide ((bif decide (p20 = (0 : Int)) then p14 else (bif decide (p20 = (1 : Int)) then p15 else p16)) < (bif decide (p20 = (0 : Int)) then p8 else (bif decide (p20 = (1 : Int)) then p9 else p10))) then (bif decide (p20 = (0 : Int)) then p14 else (bif decide (p20 = (1 : Int)) then p15 else p16)) else (bif decide (p20 = (0 : Int)) then p8 else (bif decide (p20 = (1 : Int)) then p9 else p10))) else p10) (bif decide (p20 = (0 : Int)) then (bif decide ((bif decide (p20 = (0 : Int)) then p14 else (bif decide (p20 = (1 : Int)) then p15 else p16)) > (bif decide (p20 = (0 : Int)) then p11 else (bif decide (p20 = (1 : Int)) then p12 else p13))) then (bif decide (p20 = (0 : Int)) then p14 else (bif decide (p20 = (1 : Int)) then p15 else p16)) else (bif decide (p20 = (0 : Int)) then p11 else (bif decide (p20 = (1 : Int)) then p12 else p13))) else p11) (bif decide (p20 = (1 : Int)) then (bif decide ((bif decide (p20 = (0 : Int)) then p14 else (bif decide (p20 = (1 : Int)) then p15 else p16)) > (bif decide (p20 = (0 : Int)) then p11 else (bif decide (p20 = (1 : Int)) then p12 else p13))) then (bif decide (p20 = (0 : Int)) then p14 else (bif decide (p20 = (1 : Int)) then p15 else p16)) else (bif decide (p20 = (0 : Int)) then p11 else (bif decide (p20 = (1 : Int)) then p12 else p13))) else p12) (bif decide (p20 = (2 : Int)) then (bif decide ((bif decide (p20 = (0 : Int)) then p14 else (bif decide (p20 = (1 : Int)) then p15 else p16)) > (bif decide (p20 = (0 : Int)) then p11 else (bif decide (p20 = (1 : Int)) then p12 else p13))) then (bif decide (p20 = (0 : Int)) then p14 else (bif decide (p20 = (1 : Int)) then p15 else p16)) else (bif decide (p20 = (0 : Int)) then p11 else (bif decide (p20 = (1 : Int)) then p12 else p13))) else p13) p14 p15 p16 p17 p18 p19 (IntKind.wrap .i64 (p20 + 1))
              else none
            else none
          else none
        else none
      else none
    else none
  else
    k_5 p0 p1 p2 p3 p4 p5 p6 p7 p8 p9 p10 p11 p12 p13 p17 p18 (IntKind.wrap .i64 (p19 + 1))) m
theorem w_impl_CropHeap_8 (m0 : Nat) (k_5 : (Int) → (Int) → (Int) → (List D_A3) → (Int) → (Int) → (Int) → (List D_A3) → (Int) → (Int) → (Int) → (Int) → (Int) → (Int) → (List D_A3) → (Int) → (Int) → Option (denL R_impl_CropHeap)) (h_5 : ∀ (p0 : Int) (p1 : Int) (p2 : Int) (p3 : List D_A3) (p4 : Int) (p5 : Int) (p6 : Int) (p7 : List D_A3) (p8 : Int) (p9 : Int) (p10 : Int) (p11 : Int) (p12 : Int) (p13 : Int) (p14 : List D_A3) (p15 : Int) (p16 : Int), Le (k_5 p0 p1 p2 p3 p4 p5 p6 p7 p8 p9 p10 p11 p12 p13 p14 p15 p16) (l_impl_CropHeap_5 m0 p0 p1 p2 p3 p4 p5 p6 p7 p8 p9 p10 p11 p12 p13 p14 p15 p16)) : ∀ (m M : Nat), m ≤ M → ∀ (p0 : Int) (p1 : Int) (p2 : Int) (p3 : List D_A3) (p4 : Int) (p5 : Int) (p6 : Int) (p7 : List D_A3) (p8 : Int) (p9 : Int) (p10 : Int) (p11 : Int) (p12 : Int) (p13 : Int) (p14 : Int) (p15 : Int) (p16 : Int) (p17 : List D_A3) (p18 : Int) (p19 : Int) (p20 : Int), Le (e_impl_CropHeap_8 k_5 m p0 p1 p2 p3 p4 p5 p6 p7 p8 p9 p10 p11 p12 p13 p14 p15 p16 p17 p18 p19 p20) (l_impl_CropHeap_8 m0 M p0 p1 p2 p3 p4 p5 p6 p7 p8 p9 p10 p11 p12 p13 p14 p15 p16 p17 p18 p19 p20) := by
  intro m
  induction m with
  | zero => intro M _ p0 p1 p2 p3 p4 p5 p6 p7 p8 p9 p10 p11 p12 p13 p14 p15 p16 p17 p18 p19 p20 ; exact Le.none
  | succ m ih =>
    intro M0 hM p0 p1 p2 p3 p4 p5 p6 p7 p8 p9 p10 p11 p12 p13 p14 p15 p16 p17 p18 p19 p20
    obtain ⟨M, rfl⟩ : ∃ M, M0 = M + 1 := ⟨M0 - 1, by omega⟩
    have hMM : m ≤ M := by omega
    have hK := K_le 200 (by decide)
    rw [q_impl_CropHeap_8]
    show Le (
  bif decide (p20 < 3) then
    bif inB p20 3 then
      bif inB p20 3 then
        bif inB p20 3 then
          bif inB p20 3 then
            bif inB p20 3 then
              bif inB p20 3 then
                (e_impl_CropHeap_8 k_5 m) p0 p1 p2 p3 p4 p5 p6 p7 (bif decide (p20 = (0 : Int)) then (bif decide ((bif decide (p20 = (0 : Int)) then p14 else (bif decide (p20 = (1 : Int)) then p15 else p16)) < (bif decide (p20 = (0 : Int)) then p8 else (bif decide (p20 = (1 : Int)) then p9 else p10))) then (bif decide (p20 = (0 : Int)) then p14 else (bif decide (p20 = (1 : Int)) then p15 else p16)) else (bif decide (p20 = (0 : Int)) then p8 else (bif decide (p20 = (1 : Int)) then p9 else p10))) else p8) (bif decide (p20 = (1 : Int)) then (bif decide ((bif decide (p20 = (0 : Int)) then p14 else (bif decide (p20 = (1 : Int)) then p15 else p16)) < (bif decide (p20 = (0 : Int)) then p8 else (bif decide (p20 = (1 : Int)) then p9 else p10))) then (bif decide (p20 = (0 : Int)) then p14 else (bif decide (p20 = (1 : Int)) then p15 else p16)) else (bif decide (p20 = (0 : Int)) then p8 else (bif decide (p20 = (1 : Int)) then p9 else p10))) else p9) (bif decide (p20 = (2 : Int)) then (bif decide ((bif decide (p20 = (0 : Int)) then p14 else (bif decide (p20 = (1 : Int)) then p15 else p16)) < (bif decide (p20 = (0 : Int)) then p8 else (bif decide (p20 = (1 : Int)) then p9 else p10))) then (bif decide (p20 = (0 : Int)) then p14 else (bif decide (p20 = (1 : Int)) then p15 else p16)) else (bif decide (p20 = (0 : Int)) then p8 else (bif decide (p20 = (1 : Int)) then p9 else p10))) else p10) (bif decide (p20 = (0 : Int)) then (bif decide ((bif decide (p20 = (0 : Int)) then p14 else (bif decide (p20 = (1 : Int)) then p15 else p16)) > (bif decide (p20 = (0 : Int)) then p11 else (bif decide (p20 = (1 : Int)) then p12 else p13))) then (bif decide (p20 = (0 : Int)) then p14 else (bif decide (p20 = (1 : Int)) then p15 else p16)) else (bif decide (p20 = (0 : Int)) then p11 else (bif decide (p20 = (1 : Int)) then p12 else p13))) else p11) (bif decide (p20 = (1 : Int)) then (bif decide ((bif decide (p20 = (0 : Int)) then p14 else (bif decide (p20 = (1 : Int)) then p15 else p16)) > (bif decide (p20 = (0 : Int)) then p11 else (bif decide (p20 = (1 : Int)) then p12 else p13))) then (bif decide (p20 = (0 : Int)) then p14 else (bif decide (p20 = (1 : Int)) then p15 else p16)) else (bif decide (p20 = (0 : Int)) then p11 else (bif decide (p20 = (1 : Int)) then p12 else p13))) else p12) (bif decide (p20 = (2 : Int)) then (bif decide ((bif decide (p20 = (0 : Int)) then p14 else (bif decide (p20 = (1 : Int)) then p15 else p16)) > (bif decide (p20 = (0 : Int)) then p11 else (bif decide (p20 = (1 : Int)) then p12 else p13))) then (bif decide (p20 = (0 : Int)) then p14 else (bif decide (p20 = (1 : Int)) then p15 else p16)) else (bif decide (p20 = (0 : Int)) then p11 else (bif decide (p20 = (1 : Int)) then p12 else p13))) else p13) p14 p15 p16 p17 p18 p19 (IntKind.wrap .i64 (p20 + 1))
              else none
            else none
          else none
        else none
      else none
    else none
  else
    k_5 p0 p1 p2 p3 p4 p5 p6 p7 p8 p9 p10 p11 p12 p13 p17 p18 (IntKind.wrap .i64 (p19 + 1))) _
    repeat first
    | with_reducible exact Le.rfl
    | with_reducible exact ih M hMM _ _ _ _ _ _ _ _ _ _ _ _ _ _ _ _ _ _ _ _ _
    | with_reducible exact h_5 _ _ _ _ _ _ _ _ _ _ _ _ _ _ _ _ _
    | with_reducible refine Le.bind ?_ (fun _ => ?_)
    | with_reducible refine Le.cond ?_ ?_
noncomputable def e_impl_CropHeap_5  (m : Nat) : (Int) → (Int) → (Int) → (List D_A3) → (Int) → (Int) → (Int) → (List D_A3) → (Int) → (Int) → (Int) → (Int) → (Int) → (Int) → (List D_A3) → (Int) → (Int) → Option (denL R_impl_CropHeap) := Nat.rec (motive := fun _ => (Int) → (Int) → (Int) → (List D_A3) → (Int) → (Int) → (Int) → (List D_A3) → (Int) → (Int) → (Int) → (Int) → (Int) → (Int) → (List D_A3) → (Int) → (Int) → Option (denL R_impl_CropHeap)) (fun _ _ _ _ _ _ _ _ _ _ _ _ _ _ _ _ _ => none) (fun _ ih p0 p1 p2 p3 p4 p5 p6 p7 p8 p9 p10 p11 p12 p13 p14 p15 p16 =>
  bif decide (p16 < p15) then
    bif inB p16 (List.length p14) then
      e_impl_CropHeap_8 ih 200 p0 p1 p2 p3 p4 p5 p6 p7 p8 p9 p10 p11 p12 p13 (((nth T_A3 p14 p16)).1) ((((nth T_A3 p14 p16)).2).1) (((((nth T_A3 p14 p16)).2).2).1) p14 p15 p16 0
    else none
  else
    Option.bind (E_impl_added ((p11, (p12, (p13, ()))), ((IntKind.wrap .i64 (0 - p8)), ((IntKind.wrap .i64 (0 - p9)), ((IntKind.wrap .i64 (0 - p10)), ()))), ())) fun r1 =>
    Option.bind (E_impl_added (r1.1, (1, (1, (1, ()))), ())) fun r2 =>
    Option.bind (E_Heap_moved ((p0, (p1, (p2, (p3, ())))), r2.1, (fun (y : D_A3 × Unit) => E_impl_CropHeap_1 (y.1, ((IntKind.wrap .i64 (0 - p8)), ((IntKind.wrap .i64 (0 - p9)), ((IntKind.wrap .i64 (0 - p10)), ()))), ())), ())) fun r3 =>
    some (r3.1, true, ())) m
theorem w_impl_CropHeap_5    : ∀ (m M : Nat), m ≤ M → ∀ (p0 : Int) (p1 : Int) (p2 : Int) (p3 : List D_A3) (p4 : Int) (p5 : Int) (p6 : Int) (p7 : List D_A3) (p8 : Int) (p9 : Int) (p10 : Int) (p11 : Int) (p12 : Int) (p13 : Int) (p14 : List D_A3) (p15 : Int) (p16 : Int), Le (e_impl_CropHeap_5  m p0 p1 p2 p3 p4 p5 p6 p7 p8 p9 p10 p11 p12 p13 p14 p15 p16) (l_impl_CropHeap_5  M p0 p1 p2 p3 p4 p5 p6 p7 p8 p9 p10 p11 p12 p13 p14 p15 p16) := by
  intro m
  induction m with
  | zero => intro M _ p0 p1 p2 p3 p4 p5 p6 p7 p8 p9 p10 p11 p12 p13 p14 p15 p16 ; exact Le.none
  | succ m ih =>
    intro M0 hM p0 p1 p2 p3 p4 p5 p6 p7 p8 p9 p10 p11 p12 p13 p14 p15 p16
    obtain ⟨M, rfl⟩ : ∃ M, M0 = M + 1 := ⟨M0 - 1, by omega⟩
    have hMM : m ≤ M := by omega
    have hK := K_le 200 (by decide)
    rw [q_impl_CropHeap_5]
    show Le (
  bif decide (p16 < p15) then
    bif inB p16 (List.length p14) then
      e_impl_CropHeap_8 (e_impl_CropHeap_5  m) 200 p0 p1 p2 p3 p4 p5 p6 p7 p8 p9 p10 p11 p12 p13 (((nth T_A3 p14 p16)).1) ((((nth T_A3 p14 p16)).2).1) (((((nth T_A3 p14 p16)).2).2).1) p14 p15 p16 0
    else none
  else
    Option.bind (E_impl_added ((p11, (p12, (p13, ()))), ((IntKind.wrap .i64 (0 - p8)), ((IntKind.wrap .i64 (0 - p9)), ((IntKind.wrap .i64 (0 - p10)), ()))), ())) fun r1 =>
    Option.bind (E_impl_added (r1.1, (1, (1, (1, ()))), ())) fun r2 =>
    Option.bind (E_Heap_moved ((p0, (p1, (p2, (p3, ())))), r2.1, (fun (y : D_A3 × Unit) => E_impl_CropHeap_1 (y.1, ((IntKind.wrap .i64 (0 - p8)), ((IntKind.wrap .i64 (0 - p9)), ((IntKind.wrap .i64 (0 - p10)), ()))), ())), ())) fun r3 =>
    some (r3.1, true, ())) _
    repeat first
    | with_reducible exact Le.rfl
    | with_reducible exact ih M hMM _ _ _ _ _ _ _ _ _ _ _ _ _ _ _ _ _
    | with_reducible exact w_impl_CropHeap_8 _ _ (ih M hMM) 200 N hK _ _ _ _ _ _ _ _ _ _ _ _ _ _ _ _ _ _ _ _ _
    | with_reducible refine v_Heap_moved _ _ _ _ (fun _ => ?_)
    | with_reducible exact v_impl_CropHeap_1 _
    | with_reducible exact v_impl_added _
    | with_reducible refine Le.bind ?_ (fun _ => ?_)
    | with_reducible refine Le.cond ?_ ?_
noncomputable def E_impl_CropHeap : Ft_impl_CropHeap := fun x =>
  Option.bind (E_impl_IsHeap (x.1, ())) fun r0 =>
  bif !r0.1 then
    some ((0, (0, (0, (([] : List D_A3), ())))), false, ())
  else
    bif decide ((List.length x.1.2.2.2.1 : Int) = 0) then
      some ((0, (0, (0, (([] : List D_A3), ())))), false, ())
    else
      bif inB 0 (List.length x.1.2.2.2.1) then
        bif inB 0 (List.length x.1.2.2.2.1) then
          e_impl_CropHeap_5 200 x.1.1 x.1.2.1 x.1.2.2.1 x.1.2.2.2.1 0 0 0 ([] : List D_A3) (((nth T_A3 x.1.2.2.2.1 0)).1) ((((nth T_A3 x.1.2.2.2.1 0)).2).1) (((((nth T_A3 x.1.2.2.2.1 0)).2).2).1) (((nth T_A3 x.1.2.2.2.1 0)).1) ((((nth T_A3 x.1.2.2.2.1 0)).2).1) (((((nth T_A3 x.1.2.2.2.1 0)).2).2).1) x.1.2.2.2.1 (List.length x.1.2.2.2.1 : Int) 0
        else none
      else none
theorem v_impl_CropHeap : ∀ x, Le (E_impl_CropHeap x) (P_impl_CropHeap x) := by
  have hK := K_le 200 (by decide)
  rintro ⟨a0, ⟨⟩⟩
  rw [show P_impl_CropHeap (a0, ()) = _ from p_impl_CropHeap a0]
  show Le (
  Option.bind (E_impl_IsHeap (a0, ())) fun r0 =>
  bif !r0.1 then
    some ((0, (0, (0, (([] : List D_A3), ())))), false, ())
  else
    bif decide ((List.length a0.2.2.2.1 : Int) = 0) then
      some ((0, (0, (0, (([] : List D_A3), ())))), false, ())
    else
      bif inB 0 (List.length a0.2.2.2.1) then
        bif inB 0 (List.length a0.2.2.2.1) then
          e_impl_CropHeap_5 200 a0.1 a0.2.1 a0.2.2.1 a0.2.2.2.1 0 0 0 ([] : List D_A3) (((nth T_A3 a0.2.2.2.1 0)).1) ((((nth T_A3 a0.2.2.2.1 0)).2).1) (((((nth T_A3 a0.2.2.2.1 0)).2).2).1) (((nth T_A3 a0.2.2.2.1 0)).1) ((((nth T_A3 a0.2.2.2.1 0)).2).1) (((((nth T_A3 a0.2.2.2.1 0)).2).2).1) a0.2.2.2.1 (List.length a0.2.2.2.1 : Int) 0
        else none
      else none) _
  repeat first
    | with_reducible exact Le.rfl
    | with_reducible exact w_impl_CropHeap_5 200 N hK _ _ _ _ _ _ _ _ _ _ _ _ _ _ _ _ _
    | with_reducible exact v_impl_IsHeap _
    | with_reducible refine Le.bind ?_ (fun _ => ?_)
    | with_reducible refine Le.cond ?_ ?_
noncomputable def e_slices_CompareFunc_3_int_3_int_3_int_3_int_2  (m : Nat) : (List D_A3) → (List D_A3) → ((D_A3 × D_A3 × Unit) → Option (Int × Unit)) → (List D_A3) → (Int) → (Int) → Option (denL R_slices_CompareFunc_3_int_3_int_3_int_3_int) := Nat.rec (motive := fun _ => (List D_A3) → (List D_A3) → ((D_A3 × D_A3 × Unit) → Option (Int × Unit)) → (List D_A3) → (Int) → (Int) → Option (denL R_slices_CompareFunc_3_int_3_int_3_int_3_int)) (fun _ _ _ _ _ _ => none) (fun _ ih p0 p1 p2 p3 p4 p5 =>
  bif decide (p5 < p4) then
    bif inB p5 (List.length p3) then
      bif decide (p5 ≥ (List.length p1 : Int)) then
        some (1, ())
      else
        bif inB p5 (List.length p1) then
          Option.bind (p2 ((nth T_A3 p3 p5), (nth T_A3 p1 p5), ())) fun r4 =>
          bif !decide (r4.1 = 0) then
            some (r4.1, ())
          else
            ih p0 p1 p2 p3 p4 (IntKind.wrap .i64 (p5 + 1))
        else none
    else none
  else
    bif decide ((List.length p0 : Int) < (List.length p1 : Int)) then
      some ((-1), ())
    else
      some (0, ())) m
theorem w_slices_CompareFunc_3_int_3_int_3_int_3_int_2    : ∀ (m M : Nat), m ≤ M → ∀ (p0 : List D_A3) (p1 : List D_A3) (p2 p2' : (D_A3 × D_A3 × Unit) → Option (Int × Unit)) (p3 : List D_A3) (p4 : Int) (p5 : Int), (∀ y, Le (p2 y) (p2' y)) → Le (e_slices_CompareFunc_3_int_3_int_3_int_3_int_2  m p0 p1 p2 p3 p4 p5) (l_slices_CompareFunc_3_int_3_int_3_int_3_int_2  M p0 p1 p2' p3 p4 p5) := by
  intro m
  induction m with
  | zero => intro M _ p0 p1 p2 p2' p3 p4 p5 hf_p2; exact Le.none
  | succ m ih =>
    intro M0 hM p0 p1 p2 p2' p3 p4 p5 hf_p2
    obtain ⟨M, rfl⟩ : ∃ M, M0 = M + 1 := ⟨M0 - 1, by omega⟩
    have hMM : m ≤ M := by omega
    have hK := K_le 200 (by decide)
    rw [q_slices_CompareFunc_3_int_3_int_3_int_3_int_2]
    show Le (
  bif decide (p5 < p4) then
    bif inB p5 (List.length p3) then
      bif decide (p5 ≥ (List.length p1 : Int)) then
        some (1, ())
      else
        bif inB p5 (List.length p1) then
          Option.bind (p2 ((nth T_A3 p3 p5), (nth T_A3 p1 p5), ())) fun r4 =>
          bif !decide (r4.1 = 0) then
            some (r4.1, ())
          else
            (e_slices_CompareFunc_3_int_3_int_3_int_3_int_2  m) p0 p1 p2 p3 p4 (IntKind.wrap .i64 (p5 + 1))
        else none
    else none
  else
    bif decide ((List.length p0 : Int) < (List.length p1 : Int)) then
      some ((-1), ())
    else
      some (0, ())) _
    repeat first
    | with_reducible exact Le.rfl
    | with_reducible exact ih M hMM _ _ _ _ _ _ _ hf_p2
    | with_reducible exact hf_p2 _
    | with_reducible refine Le.bind ?_ (fun _ => ?_)
    | with_reducible refine Le.cond ?_ ?_
noncomputable def E_slices_CompareFunc_3_int_3_int_3_int_3_int : Ft_slices_CompareFunc_3_int_3_int_3_int_3_int := fun x =>
  e_slices_CompareFunc_3_int_3_int_3_int_3_int_2 200 x.1 x.2.1 x.2.2.1 x.1 (List.length x.1 : Int) 0
theorem v_slices_CompareFunc_3_int_3_int_3_int_3_int : ∀ (a0 : List D_A3) (a1 : List D_A3) (a2 a2' : (D_A3 × D_A3 × Unit) → Option (Int × Unit)), (∀ y, Le (a2 y) (a2' y)) → Le (E_slices_CompareFunc_3_int_3_int_3_int_3_int (a0, a1, a2, ())) (P_slices_CompareFunc_3_int_3_int_3_int_3_int (a0, a1, a2', ())) := by
  have hK := K_le 200 (by decide)
  intro a0 a1 a2 a2' hf_a2
  rw [p_slices_CompareFunc_3_int_3_int_3_int_3_int]
  show Le (
  e_slices_CompareFunc_3_int_3_int_3_int_3_int_2 200 a0 a1 a2 a0 (List.length a0 : Int) 0) _
  repeat first
    | with_reducible exact Le.rfl
    | with_reducible exact w_slices_CompareFunc_3_int_3_int_3_int_3_int_2 200 N hK _ _ _ _ _ _ _ (by assumption)
    | with_reducible exact hf_a2 _
    | with_reducible refine Le.bind ?_ (fun _ => ?_)
    | with_reducible refine Le.cond ?_ ?_
noncomputable def E_impl_compareHeaps : Ft_impl_compareHeaps := fun x =>
  Option.bind (E_Heap_box (x.1, ())) fun r0 =>
  Option.bind (E_Heap_box (x.2.1, ())) fun r1 =>
  Option.bind (E_slices_Compare_int_int (([r0.1.1, r0.1.2.1, r0.1.2.2.1] : List Int), ([r1.1.1, r1.1.2.1, r1.1.2.2.1] : List Int), ())) fun r2 =>
  bif !decide (r2.1 = 0) then
    some (r2.1, ())
  else
    Option.bind (E_slices_CompareFunc_3_int_3_int_3_int_3_int (x.1.2.2.2.1, x.2.1.2.2.2.1, (fun (y : D_A3 × D_A3 × Unit) => E_impl_compareCells (y.1, y.2.1, ())), ())) fun r4 =>
    some (r4.1, ())
theorem v_impl_compareHeaps : ∀ x, Le (E_impl_compareHeaps x) (P_impl_compareHeaps x) := by
  have hK := K_le 200 (by decide)
  rintro ⟨a0, a1, ⟨⟩⟩
  rw [show P_impl_compareHeaps (a0, a1, ()) = _ from p_impl_compareHeaps a0 a1]
  show Le (
  Option.bind (E_Heap_box (a0, ())) fun r0 =>
  Option.bind (E_Heap_box (a1, ())) fun r1 =>
  Option.bind (E_slices_Compare_int_int (([r0.1.1, r0.1.2.1, r0.1.2.2.1] : List Int), ([r1.1.1, r1.1.2.1, r1.1.2.2.1] : List Int), ())) fun r2 =>
  bif !decide (r2.1 = 0) then
    some (r2.1, ())
  else
    Option.bind (E_slices_CompareFunc_3_int_3_int_3_int_3_int (a0.2.2.2.1, a1.2.2.2.1, (fun (y : D_A3 × D_A3 × Unit) => E_impl_compareCells (y.1, y.2.1, ())), ())) fun r4 =>
    some (r4.1, ())) _
  repeat first
    | with_reducible exact Le.rfl
    | with_reducible exact v_Heap_box _
    | with_reducible exact v_impl_compareCells _
    | with_reducible refine v_slices_CompareFunc_3_int_3_int_3_int_3_int _ _ _ _ (fun _ => ?_)
    | with_reducible exact v_slices_Compare_int_int _
    | with_reducible refine Le.bind ?_ (fun _ => ?_)
    | with_reducible refine Le.cond ?_ ?_
noncomputable def e_slices_Equal_3_int_3_int_4  (m : Nat) : (List D_A3) → (List D_A3) → (Int) → (Int) → Option (denL R_slices_Equal_3_int_3_int) := Nat.rec (motive := fun _ => (List D_A3) → (List D_A3) → (Int) → (Int) → Option (denL R_slices_Equal_3_int_3_int)) (fun _ _ _ _ => none) (fun _ ih p0 p1 p2 p3 =>
  bif decide (p3 < p2) then
    bif inB p3 (List.length p0) then
      bif inB p3 (List.length p1) then
        bif !(decide (((nth T_A3 p0 p3)).1 = ((nth T_A3 p1 p3)).1) && (decide ((((nth T_A3 p0 p3)).2).1 = (((nth T_A3 p1 p3)).2).1) && (decide (((((nth T_A3 p0 p3)).2).2).1 = ((((nth T_A3 p1 p3)).2).2).1) && true))) then
          some (false, ())
        else
          ih p0 p1 p2 (IntKind.wrap .i64 (p3 + 1))
      else none
    else none
  else
    some (true, ())) m
theorem w_slices_Equal_3_int_3_int_4    : ∀ (m M : Nat), m ≤ M → ∀ (p0 : List D_A3) (p1 : List D_A3) (p2 : Int) (p3 : Int), Le (e_slices_Equal_3_int_3_int_4  m p0 p1 p2 p3) (l_slices_Equal_3_int_3_int_4  M p0 p1 p2 p3) := by
  intro m
  induction m with
  | zero => intro M _ p0 p1 p2 p3 ; exact Le.none
  | succ m ih =>
    intro M0 hM p0 p1 p2 p3
    obtain ⟨M, rfl⟩ : ∃ M, M0 = M + 1 := ⟨M0 - 1, by omega⟩
    have hMM : m ≤ M := by omega
    have hK := K_le 200 (by decide)
    rw [q_slices_Equal_3_int_3_int_4]
    show Le (
  bif decide (p3 < p2) then
    bif inB p3 (List.length p0) then
      bif inB p3 (List.length p1) then
        bif !(decide (((nth T_A3 p0 p3)).1 = ((nth T_A3 p1 p3)).1) && (decide ((((nth T_A3 p0 p3)).2).1 = (((nth T_A3 p1 p3)).2).1) && (decide (((((nth T_A3 p0 p3)).2).2).1 = ((((nth T_A3 p1 p3)).2).2).1) && true))) then
          some (false, ())
        else
          (e_slices_Equal_3_int_3_int_4  m) p0 p1 p2 (IntKind.wrap .i64 (p3 + 1))
      else none
    else none
  else
    some (true, ())) _
    repeat first
    | with_reducible exact Le.rfl
    | with_reducible exact ih M hMM _ _ _ _
    | with_reducible refine Le.bind ?_ (fun _ => ?_)
    | with_reducible refine Le.cond ?_ ?_
noncomputable def E_slices_Equal_3_int_3_int : Ft_slices_Equal_3_int_3_int := fun x =>
  bif !decide ((List.length x.1 : Int) = (List.length x.2.1 : Int)) then
    some (false, ())
  else
    e_slices_Equal_3_int_3_int_4 200 x.1 x.2.1 (List.length x.1 : Int) 0
theorem v_slices_Equal_3_int_3_int : ∀ x, Le (E_slices_Equal_3_int_3_int x) (P_slices_Equal_3_int_3_int x) := by
  have hK := K_le 200 (by decide)
  rintro ⟨a0, a1, ⟨⟩⟩
  rw [show P_slices_Equal_3_int_3_int (a0, a1, ()) = _ from p_slices_Equal_3_int_3_int a0 a1]
  show Le (
  bif !decide ((List.length a0 : Int) = (List.length a1 : Int)) then
    some (false, ())
  else
    e_slices_Equal_3_int_3_int_4 200 a0 a1 (List.length a0 : Int) 0) _
  repeat first
    | with_reducible exact Le.rfl
    | with_reducible exact w_slices_Equal_3_int_3_int_4 200 N hK _ _ _ _
    | with_reducible refine Le.bind ?_ (fun _ => ?_)
    | with_reducible refine Le.cond ?_ ?_
noncomputable def E_Heap_same : Ft_Heap_same := fun x =>
  Option.bind (E_Heap_box (x.1, ())) fun r0 =>
  Option.bind (E_Heap_box (x.2.1, ())) fun r1 =>
  bif (decide (r0.1.1 = r1.1.1) && (decide (r0.1.2.1 = r1.1.2.1) && (decide (r0.1.2.2.1 = r1.1.2.2.1) && true))) then
    Option.bind (E_slices_Equal_3_int_3_int (x.1.2.2.2.1, x.2.1.2.2.2.1, ())) fun r3 =>
    some (r3.1, ())
  else
    some (false, ())
theorem v_Heap_same : ∀ x, Le (E_Heap_same x) (P_Heap_same x) := by
  have hK := K_le 200 (by decide)
  rintro ⟨a0, a1, ⟨⟩⟩
  rw [show P_Heap_same (a0, a1, ()) = _ from p_Heap_same a0 a1]
  show Le (
  Option.bind (E_Heap_box (a0, ())) fun r0 =>
  Option.bind (E_Heap_box (a1, ())) fun r1 =>
  bif (decide (r0.1.1 = r1.1.1) && (decide (r0.1.2.1 = r1.1.2.1) && (decide (r0.1.2.2.1 = r1.1.2.2.1) && true))) then
    Option.bind (E_slices_Equal_3_int_3_int (a0.2.2.2.1, a1.2.2.2.1, ())) fun r3 =>
    some (r3.1, ())
  else
    some (false, ())) _
  repeat first
    | with_reducible exact Le.rfl
    | with_reducible exact v_Heap_box _
    | with_reducible exact v_slices_Equal_3_int_3_int _
    | with_reducible refine Le.bind ?_ (fun _ => ?_)
    | with_reducible refine Le.cond ?_ ?_
noncomputable def e_laws_eqIntA3_2  (m : Nat) : (Int) → (Int) → (Int) → (Int) → (Int) → (Int) → (Int) → Option (denL R_laws_eqIntA3) := Nat.rec (motive := fun _ => (Int) → (Int) → (Int) → (Int) → (Int) → (Int) → (Int) → Option (denL R_laws_eqIntA3)) (fun _ _ _ _ _ _ _ => none) (fun _ ih p0 p1 p2 p3 p4 p5 p6 =>
  bif decide (p6 < 3) then
    bif inB p6 3 then
      bif inB p6 3 then
        bif !decide ((bif decide (p6 = (0 : Int)) then p0 else (bif decide (p6 = (1 : Int)) then p1 else p2)) = (bif decide (p6 = (0 : Int)) then p3 else (bif decide (p6 = (1 : Int)) then p4 else p5))) then
          some (false, ())
        else
          ih p0 p1 p2 p3 p4 p5 (IntKind.wrap .i64 (p6 + 1))
      else none
    else none
  else
    some (true, ())) m
theorem w_laws_eqIntA3_2    : ∀ (m M : Nat), m ≤ M → ∀ (p0 : Int) (p1 : Int) (p2 : Int) (p3 : Int) (p4 : Int) (p5 : Int) (p6 : Int), Le (e_laws_eqIntA3_2  m p0 p1 p2 p3 p4 p5 p6) (l_laws_eqIntA3_2  M p0 p1 p2 p3 p4 p5 p6) := by
  intro m
  induction m with
  | zero => intro M _ p0 p1 p2 p3 p4 p5 p6 ; exact Le.none
  | succ m ih =>
    intro M0 hM p0 p1 p2 p3 p4 p5 p6
    obtain ⟨M, rfl⟩ : ∃ M, M0 = M + 1 := ⟨M0 - 1, by omega⟩
    have hMM : m ≤ M := by omega
    have hK := K_le 200 (by decide)
    rw [q_laws_eqIntA3_2]
    show Le (
  bif decide (p6 < 3) then
    bif inB p6 3 then
      bif inB p6 3 then
        bif !decide ((bif decide (p6 = (0 : Int)) then p0 else (bif decide (p6 = (1 : Int)) then p1 else p2)) = (bif decide (p6 = (0 : Int)) then p3 else (bif decide (p6 = (1 : Int)) then p4 else p5))) then
          some (false, ())
        else
          (e_laws_eqIntA3_2  m) p0 p1 p2 p3 p4 p5 (IntKind.wrap .i64 (p6 + 1))
      else none
    else none
  else
    some (true, ())) _
    repeat first
    | with_reducible exact Le.rfl
    | with_reducible exact ih M hMM _ _ _ _ _ _ _
    | with_reducible refine Le.bind ?_ (fun _ => ?_)
    | with_reducible refine Le.cond ?_ ?_
noncomputable def E_laws_eqIntA3 : Ft_laws_eqIntA3 := fun x =>
  e_laws_eqIntA3_2 200 x.1.1 x.1.2.1 x.1.2.2.1 x.2.1.1 x.2.1.2.1 x.2.1.2.2.1 0
theorem v_laws_eqIntA3 : ∀ x, Le (E_laws_eqIntA3 x) (P_laws_eqIntA3 x) := by
  have hK := K_le 200 (by decide)
  rintro ⟨a0, a1, ⟨⟩⟩
  rw [show P_laws_eqIntA3 (a0, a1, ()) = _ from p_laws_eqIntA3 a0 a1]
  show Le (
  e_laws_eqIntA3_2 200 a0.1 a0.2.1 a0.2.2.1 a1.1 a1.2.1 a1.2.2.1 0) _
  repeat first
    | with_reducible exact Le.rfl
    | with_reducible exact w_laws_eqIntA3_2 200 N hK _ _ _ _ _ _ _
    | with_reducible refine Le.bind ?_ (fun _ => ?_)
    | with_reducible refine Le.cond ?_ ?_
noncomputable def e_laws_eqIntA3S_4  (m : Nat) : (List D_A3) → (List D_A3) → (Int) → Option (denL R_laws_eqIntA3S) := Nat.rec (motive := fun _ => (List D_A3) → (List D_A3) → (Int) → Option (denL R_laws_eqIntA3S)) (fun _ _ _ => none) (fun _ ih p0 p1 p2 =>
  bif decide (p2 < (List.length p0 : Int)) then
    bif inB p2 (List.length p0) then
      bif inB p2 (List.length p1) then
        Option.bind (E_laws_eqIntA3 ((nth T_A3 p0 p2), (nth T_A3 p1 p2), ())) fun r3 =>
        bif !r3.1 then
          some (false, ())
        else
          ih p0 p1 (IntKind.wrap .i64 (p2 + 1))
      else none
    else none
  else
    some (true, ())) m
theorem w_laws_eqIntA3S_4    : ∀ (m M : Nat), m ≤ M → ∀ (p0 : List D_A3) (p1 : List D_A3) (p2 : Int), Le (e_laws_eqIntA3S_4  m p0 p1 p2) (l_laws_eqIntA3S_4  M p0 p1 p2) := by
  intro m
  induction m with
  | zero => intro M _ p0 p1 p2 ; exact Le.none
  | succ m ih =>
    intro M0 hM p0 p1 p2
    obtain ⟨M, rfl⟩ : ∃ M, M0 = M + 1 := ⟨M0 - 1, by omega⟩
    have hMM : m ≤ M := by omega
    have hK := K_le 200 (by decide)
    rw [q_laws_eqIntA3S_4]
    show Le (
  bif decide (p2 < (List.length p0 : Int)) then
    bif inB p2 (List.length p0) then
      bif inB p2 (List.length p1) then
        Option.bind (E_laws_eqIntA3 ((nth T_A3 p0 p2), (nth T_A3 p1 p2), ())) fun r3 =>
        bif !r3.1 then
          some (false, ())
        else
          (e_laws_eqIntA3S_4  m) p0 p1 (IntKind.wrap .i64 (p2 + 1))
      else none
    else none
  else
    some (true, ())) _
    repeat first
    | with_reducible exact Le.rfl
    | with_reducible exact ih M hMM _ _ _
    | with_reducible exact v_laws_eqIntA3 _
    | with_reducible refine Le.bind ?_ (fun _ => ?_)
    | with_reducible refine Le.cond ?_ ?_
noncomputable def E_laws_eqIntA3S : Ft_laws_eqIntA3S := fun x =>
  bif !decide ((List.length x.1 : Int) = (List.length x.2.1 : Int)) then
    some (false, ())
  else
    e_laws_eqIntA3S_4 200 x.1 x.2.1 0
theorem v_laws_eqIntA3S : ∀ x, Le (E_laws_eqIntA3S x) (P_laws_eqIntA3S x) := by
  have hK := K_le 200 (by decide)
  rintro ⟨a0, a1, ⟨⟩⟩
  rw [show P_laws_eqIntA3S (a0, a1, ()) = _ from p_laws_eqIntA3S a0 a1]
  show Le (
  bif !decide ((List.length a0 : Int) = (List.length a1 : Int)) then
    some (false, ())
  else
    e_laws_eqIntA3S_4 200 a0 a1 0) _
  repeat first
    | with_reducible exact Le.rfl
    | with_reducible exact w_laws_eqIntA3S_4 200 N hK _ _ _
    | with_reducible refine Le.bind ?_ (fun _ => ?_)
    | with_reducible refine Le.cond ?_ ?_
noncomputable def E_laws_eqHeap : Ft_laws_eqHeap := fun x =>
  bif !decide (x.1.1 = x.2.1.1) then
    some (false, ())
  else
    bif !decide (x.1.2.1 = x.2.1.2.1) then
      some (false, ())
    else
      bif !decide (x.1.2.2.1 = x.2.1.2.2.1) then
        some (false, ())
      else
        Option.bind (E_laws_eqIntA3S (x.1.2.2.2.1, x.2.1.2.2.2.1, ())) fun r3 =>
        bif !r3.1 then
          some (false, ())
        else
          some (true, ())
theorem v_laws_eqHeap : ∀ x, Le (E_laws_eqHeap x) (P_laws_eqHeap x) := by
  have hK := K_le 200 (by decide)
  rintro ⟨a0, a1, ⟨⟩⟩
  rw [show P_laws_eqHeap (a0, a1, ()) = _ from p_laws_eqHeap a0 a1]
  show Le (
  bif !decide (a0.1 = a1.1) then
    some (false, ())
  else
    bif !decide (a0.2.1 = a1.2.1) then
      some (false, ())
    else
      bif !decide (a0.2.2.1 = a1.2.2.1) then
        some (false, ())
      else
        Option.bind (E_laws_eqIntA3S (a0.2.2.2.1, a1.2.2.2.1, ())) fun r3 =>
        bif !r3.1 then
          some (false, ())
        else
          some (true, ())) _
  repeat first
    | with_reducible exact Le.rfl
    | with_reducible exact v_laws_eqIntA3S _
    | with_reducible refine Le.bind ?_ (fun _ => ?_)
    | with_reducible refine Le.cond ?_ ?_
noncomputable def e_laws_eqHeapS_4  (m : Nat) : (List D_Heap) → (List D_Heap) → (Int) → Option (denL R_laws_eqHeapS) := Nat.rec (motive := fun _ => (List D_Heap) → (List D_Heap) → (Int) → Option (denL R_laws_eqHeapS)) (fun _ _ _ => none) (fun _ ih p0 p1 p2 =>
  bif decide (p2 < (List.length p0 : Int)) then
    bif inB p2 (List.length p0) then
      bif inB p2 (List.length p1) then
        Option.bind (E_laws_eqHeap ((nth T_Heap p0 p2), (nth T_Heap p1 p2), ())) fun r3 =>
        bif !r3.1 then
          some (false, ())
        else
          ih p0 p1 (IntKind.wrap .i64 (p2 + 1))
      else none
    else none
  else
    some (true, ())) m
theorem w_laws_eqHeapS_4    : ∀ (m M : Nat), m ≤ M → ∀ (p0 : List D_Heap) (p1 : List D_Heap) (p2 : Int), Le (e_laws_eqHeapS_4  m p0 p1 p2) (l_laws_eqHeapS_4  M p0 p1 p2) := by
  intro m
  induction m with
  | zero => intro M _ p0 p1 p2 ; exact Le.none
  | succ m ih =>
    intro M0 hM p0 p1 p2
    obtain ⟨M, rfl⟩ : ∃ M, M0 = M + 1 := ⟨M0 - 1, by omega⟩
    have hMM : m ≤ M := by omega
    have hK := K_le 200 (by decide)
    rw [q_laws_eqHeapS_4]
    show Le (
  bif decide (p2 < (List.length p0 : Int)) then
    bif inB p2 (List.length p0) then
      bif inB p2 (List.length p1) then
        Option.bind (E_laws_eqHeap ((nth T_Heap p0 p2), (nth T_Heap p1 p2), ())) fun r3 =>
        bif !r3.1 then
          some (false, ())
        else
          (e_laws_eqHeapS_4  m) p0 p1 (IntKind.wrap .i64 (p2 + 1))
      else none
    else none
  else
    some (true, ())) _
    repeat first
    | with_reducible exact Le.rfl
    | with_reducible exact ih M hMM _ _ _
    | with_reducible exact v_laws_eqHeap _
    | with_reducible refine Le.bind ?_ (fun _ => ?_)
    | with_reducible refine Le.cond ?_ ?_
noncomputable def E_laws_eqHeapS : Ft_laws_eqHeapS := fun x =>
  bif !decide ((List.length x.1 : Int) = (List.length x.2.1 : Int)) then
    some (false, ())
  else
    e_laws_eqHeapS_4 200 x.1 x.2.1 0
theorem v_laws_eqHeapS : ∀ x, Le (E_laws_eqHeapS x) (P_laws_eqHeapS x) := by
  have hK := K_le 200 (by decide)
  rintro ⟨a0, a1, ⟨⟩⟩
  rw [show P_laws_eqHeapS (a0, a1, ()) = _ from p_laws_eqHeapS a0 a1]
  show Le (
  bif !decide ((List.length a0 : Int) = (List.length a1 : Int)) then
    some (false, ())
  else
    e_laws_eqHeapS_4 200 a0 a1 0) _
  repeat first
    | with_reducible exact Le.rfl
    | with_reducible exact w_laws_eqHeapS_4 200 N hK _ _ _
    | with_reducible refine Le.bind ?_ (fun _ => ?_)
    | with_reducible refine Le.cond ?_ ?_
noncomputable def e_laws_markIntA3S_5 (k_2 : (List D_A3) → (Int) → (Int) → Option (denL R_laws_markIntA3S × denM As_laws_markIntA3S)) (m : Nat) : (List D_A3) → (Int) → (Int) → (Int) → Option (denL R_laws_markIntA3S × denM As_laws_markIntA3S) := Nat.rec (motive := fun _ => (List D_A3) → (Int) → (Int) → (Int) → Option (denL R_laws_markIntA3S × denM As_laws_markIntA3S)) (fun _ _ _ _ => none) (fun _ ih p0 p1 p2 p3 =>
  bif decide (p3 < 3) then
    bif inB p2 (List.length p0) then
      bif inB p3 3 then
        ih (List.set p0 (Int.toNat p2) ((bif decide (p3 = (0 : Int)) then p1 else ((nth T_A3 p0 p2)).1), ((bif decide (p3 = (1 : Int)) then p1 else (((nth T_A3 p0 p2)).2).1), ((bif decide (p3 = (2 : Int)) then p1 else ((((nth T_A3 p0 p2)).2).2).1), ())))) (IntKind.wrap .i64 (p1 + 1)) p2 (IntKind.wrap .i64 (p3 + 1))
      else none
    else none
  else
    k_2 p0 p1 (IntKind.wrap .i64 (p2 + 1))) m
theorem w_laws_markIntA3S_5 (m0 : Nat) (k_2 : (List D_A3) → (Int) → (Int) → Option (denL R_laws_markIntA3S × denM As_laws_markIntA3S)) (h_2 : ∀ (p0 : List D_A3) (p1 : Int) (p2 : Int), Le (k_2 p0 p1 p2) (l_laws_markIntA3S_2 m0 p0 p1 p2)) : ∀ (m M : Nat), m ≤ M → ∀ (p0 : List D_A3) (p1 : Int) (p2 : Int) (p3 : Int), Le (e_laws_markIntA3S_5 k_2 m p0 p1 p2 p3) (l_laws_markIntA3S_5 m0 M p0 p1 p2 p3) := by
  intro m
  induction m with
  | zero => intro M _ p0 p1 p2 p3 ; exact Le.none
  | succ m ih =>
    intro M0 hM p0 p1 p2 p3
    obtain ⟨M, rfl⟩ : ∃ M, M0 = M + 1 := ⟨M0 - 1, by omega⟩
    have hMM : m ≤ M := by omega
    have hK := K_le 200 (by decide)
    rw [q_laws_markIntA3S_5]
    show Le (
  bif decide (p3 < 3) then
    bif inB p2 (List.length p0) then
      bif inB p3 3 then
        (e_laws_markIntA3S_5 k_2 m) (List.set p0 (Int.toNat p2) ((bif decide (p3 = (0 : Int)) then p1 else ((nth T_A3 p0 p2)).1), ((bif decide (p3 = (1 : Int)) then p1 else (((nth T_A3 p0 p2)).2).1), ((bif decide (p3 = (2 : Int)) then p1 else ((((nth T_A3 p0 p2)).2).2).1), ())))) (IntKind.wrap .i64 (p1 + 1)) p2 (IntKind.wrap .i64 (p3 + 1))
      else none
    else none
  else
    k_2 p0 p1 (IntKind.wrap .i64 (p2 + 1))) _
    repeat first
    | with_reducible exact Le.rfl
    | with_reducible exact ih M hMM _ _ _ _
    | with_reducible exact h_2 _ _ _
    | with_reducible refine Le.bind ?_ (fun _ => ?_)
    | with_reducible refine Le.cond ?_ ?_
noncomputable def e_laws_markIntA3S_2  (m : Nat) : (List D_A3) → (Int) → (Int) → Option (denL R_laws_markIntA3S × denM As_laws_markIntA3S) := Nat.rec (motive := fun _ => (List D_A3) → (Int) → (Int) → Option (denL R_laws_markIntA3S × denM As_laws_markIntA3S)) (fun _ _ _ => none) (fun _ ih p0 p1 p2 =>
  bif decide (p2 < (List.length p0 : Int)) then
    e_laws_markIntA3S_5 ih 200 p0 p1 p2 0
  else
    some ((p1, ()), (p0, ()))) m
theorem w_laws_markIntA3S_2    : ∀ (m M : Nat), m ≤ M → ∀ (p0 : List D_A3) (p1 : Int) (p2 : Int), Le (e_laws_markIntA3S_2  m p0 p1 p2) (l_laws_markIntA3S_2  M p0 p1 p2) := by
  intro m
  induction m with
  | zero => intro M _ p0 p1 p2 ; exact Le.none
  | succ m ih =>
    intro M0 hM p0 p1 p2
    obtain ⟨M, rfl⟩ : ∃ M, M0 = M + 1 := ⟨M0 - 1, by omega⟩
    have hMM : m ≤ M := by omega
    have hK := K_le 200 (by decide)
    rw [q_laws_markIntA3S_2]
    show Le (
  bif decide (p2 < (List.length p0 : Int)) then
    e_laws_markIntA3S_5 (e_laws_markIntA3S_2  m) 200 p0 p1 p2 0
  else
    some ((p1, ()), (p0, ()))) _
    repeat first
    | with_reducible exact Le.rfl
    | with_reducible exact ih M hMM _ _ _
    | with_reducible exact w_laws_markIntA3S_5 _ _ (ih M hMM) 200 N hK _ _ _ _
    | with_reducible refine Le.bind ?_ (fun _ => ?_)
    | with_reducible refine Le.cond ?_ ?_
noncomputable def E_laws_markIntA3S : Ft_laws_markIntA3S := fun x =>
  e_laws_markIntA3S_2 200 x.1 x.2.1 0
theorem v_laws_markIntA3S : ∀ x, Le (E_laws_markIntA3S x) (P_laws_markIntA3S x) := by
  have hK := K_le 200 (by decide)
  rintro ⟨a0, a1, ⟨⟩⟩
  rw [show P_laws_markIntA3S (a0, a1, ()) = _ from p_laws_markIntA3S a0 a1]
  show Le (
  e_laws_markIntA3S_2 200 a0 a1 0) _
  repeat first
    | with_reducible exact Le.rfl
    | with_reducible exact w_laws_markIntA3S_2 200 N hK _ _ _
    | with_reducible refine Le.bind ?_ (fun _ => ?_)
    | with_reducible refine Le.cond ?_ ?_
noncomputable def e_laws_heldIntA3S_5 (k_2 : (List D_A3) → (Int) → (Int) → Option (denL R_laws_heldIntA3S)) (m : Nat) : (List D_A3) → (Int) → (Int) → (Int) → Option (denL R_laws_heldIntA3S) := Nat.rec (motive := fun _ => (List D_A3) → (Int) → (Int) → (Int) → Option (denL R_laws_heldIntA3S)) (fun _ _ _ _ => none) (fun _ ih p0 p1 p2 p3 =>
  bif decide (p3 < 3) then
    bif inB p2 (List.length p0) then
      bif inB p3 3 then
        bif !decide ((bif decide (p3 = (0 : Int)) then ((nth T_A3 p0 p2)).1 else (bif decide (p3 = (1 : Int)) then (((nth T_A3 p0 p2)).2).1 else ((((nth T_A3 p0 p2)).2).2).1)) = p1) then
          some ((-1), ())
        else
          ih p0 (IntKind.wrap .i64 (p1 + 1)) p2 (IntKind.wrap .i64 (p3 + 1))
      else none
    else none
  else
    k_2 p0 p1 (IntKind.wrap .i64 (p2 + 1))) m
theorem w_laws_heldIntA3S_5 (m0 : Nat) (k_2 : (List D_A3) → (Int) → (Int) → Option (denL R_laws_heldIntA3S)) (h_2 : ∀ (p0 : List D_A3) (p1 : Int) (p2 : Int), Le (k_2 p0 p1 p2) (l_laws_heldIntA3S_2 m0 p0 p1 p2)) : ∀ (m M : Nat), m ≤ M → ∀ (p0 : List D_A3) (p1 : Int) (p2 : Int) (p3 : Int), Le (e_laws_heldIntA3S_5 k_2 m p0 p1 p2 p3) (l_laws_heldIntA3S_5 m0 M p0 p1 p2 p3) := by
  intro m
  induction m with
  | zero => intro M _ p0 p1 p2 p3 ; exact Le.none
  | succ m ih =>
    intro M0 hM p0 p1 p2 p3
    obtain ⟨M, rfl⟩ : ∃ M, M0 = M + 1 := ⟨M0 - 1, by omega⟩
    have hMM : m ≤ M := by omega
    have hK := K_le 200 (by decide)
    rw [q_laws_heldIntA3S_5]
    show Le (
  bif decide (p3 < 3) then
    bif inB p2 (List.length p0) then
      bif inB p3 3 then
        bif !decide ((bif decide (p3 = (0 : Int)) then ((nth T_A3 p0 p2)).1 else (bif decide (p3 = (1 : Int)) then (((nth T_A3 p0 p2)).2).1 else ((((nth T_A3 p0 p2)).2).2).1)) = p1) then
          some ((-1), ())
        else
          (e_laws_heldIntA3S_5 k_2 m) p0 (IntKind.wrap .i64 (p1 + 1)) p2 (IntKind.wrap .i64 (p3 + 1))
      else none
    else none
  else
    k_2 p0 p1 (IntKind.wrap .i64 (p2 + 1))) _
    repeat first
    | with_reducible exact Le.rfl
    | with_reducible exact ih M hMM _ _ _ _
    | with_reducible exact h_2 _ _ _
    | with_reducible refine Le.bind ?_ (fun _ => ?_)
    | with_reducible refine Le.cond ?_ ?_
noncomputable def e_laws_heldIntA3S_2  (m : Nat) : (List D_A3) → (Int) → (Int) → Option (denL R_laws_heldIntA3S) := Nat.rec (motive := fun _ => (List D_A3) → (Int) → (Int) → Option (denL R_laws_heldIntA3S)) (fun _ _ _ => none) (fun _ ih p0 p1 p2 =>
  bif decide (p2 < (List.length p0 : Int)) then
    e_laws_heldIntA3S_5 ih 200 p0 p1 p2 0
  else
    some (p1, ())) m
theorem w_laws_heldIntA3S_2    : ∀ (m M : Nat), m ≤ M → ∀ (p0 : List D_A3) (p1 : Int) (p2 : Int), Le (e_laws_heldIntA3S_2  m p0 p1 p2) (l_laws_heldIntA3S_2  M p0 p1 p2) := by
  intro m
  induction m with
  | zero => intro M _ p0 p1 p2 ; exact Le.none
  | succ m ih =>
    intro M0 hM p0 p1 p2
    obtain ⟨M, rfl⟩ : ∃ M, M0 = M + 1 := ⟨M0 - 1, by omega⟩
    have hMM : m ≤ M := by omega
    have hK := K_le 200 (by decide)
    rw [q_laws_heldIntA3S_2]
    show Le (
  bif decide (p2 < (List.length p0 : Int)) then
    e_laws_heldIntA3S_5 (e_laws_heldIntA3S_2  m) 200 p0 p1 p2 0
  else
    some (p1, ())) _
    repeat first
    | with_reducible exact Le.rfl
    | with_reducible exact ih M hMM _ _ _
    | with_reducible exact w_laws_heldIntA3S_5 _ _ (ih M hMM) 200 N hK _ _ _ _
    | with_reducible refine Le.bind ?_ (fun _ => ?_)
    | with_reducible refine Le.cond ?_ ?_
noncomputable def E_laws_heldIntA3S : Ft_laws_heldIntA3S := fun x =>
  e_laws_heldIntA3S_2 200 x.1 x.2.1 0
theorem v_laws_heldIntA3S : ∀ x, Le (E_laws_heldIntA3S x) (P_laws_heldIntA3S x) := by
  have hK := K_le 200 (by decide)
  rintro ⟨a0, a1, ⟨⟩⟩
  rw [show P_laws_heldIntA3S (a0, a1, ()) = _ from p_laws_heldIntA3S a0 a1]
  show Le (
  e_laws_heldIntA3S_2 200 a0 a1 0) _
  repeat first
    | with_reducible exact Le.rfl
    | with_reducible exact w_laws_heldIntA3S_2 200 N hK _ _ _
    | with_reducible refine Le.bind ?_ (fun _ => ?_)
    | with_reducible refine Le.cond ?_ ?_
noncomputable def e_laws_heldHeapS_2  (m : Nat) : (List D_Heap) → (Int) → (Int) → Option (denL R_laws_heldHeapS) := Nat.rec (motive := fun _ => (List D_Heap) → (Int) → (Int) → Option (denL R_laws_heldHeapS)) (fun _ _ _ => none) (fun _ ih p0 p1 p2 =>
  bif decide (p2 < (List.length p0 : Int)) then
    bif inB p2 (List.length p0) then
      bif !decide (((nth T_Heap p0 p2)).1 = p1) then
        some ((-1), ())
      else
        bif inB p2 (List.length p0) then
          bif !decide ((((nth T_Heap p0 p2)).2).1 = (IntKind.wrap .i64 (p1 + 1))) then
            some ((-1), ())
          else
            bif inB p2 (List.length p0) then
              bif !decide (((((nth T_Heap p0 p2)).2).2).1 = (IntKind.wrap .i64 ((IntKind.wrap .i64 (p1 + 1)) + 1))) then
                some ((-1), ())
              else
                bif inB p2 (List.length p0) then
                  Option.bind (E_laws_heldIntA3S ((((((nth T_Heap p0 p2)).2).2).2).1, (IntKind.wrap .i64 ((IntKind.wrap .i64 ((IntKind.wrap .i64 (p1 + 1)) + 1)) + 1)), ())) fun r8 =>
                  bif decide (r8.1 < 0) then
                    some ((-1), ())
                  else
                    ih p0 r8.1 (IntKind.wrap .i64 (p2 + 1))
                else none
            else none
        else none
    else none
  else
    some (p1, ())) m
theorem w_laws_heldHeapS_2    : ∀ (m M : Nat), m ≤ M → ∀ (p0 : List D_Heap) (p1 : Int) (p2 : Int), Le (e_laws_heldHeapS_2  m p0 p1 p2) (l_laws_heldHeapS_2  M p0 p1 p2) := by
  intro m
  induction m with
  | zero => intro M _ p0 p1 p2 ; exact Le.none
  | succ m ih =>
    intro M0 hM p0 p1 p2
    obtain ⟨M, rfl⟩ : ∃ M, M0 = M + 1 := ⟨M0 - 1, by omega⟩
    have hMM : m ≤ M := by omega
    have hK := K_le 200 (by decide)
    rw [q_laws_heldHeapS_2]
    show Le (
  bif decide (p2 < (List.length p0 : Int)) then
    bif inB p2 (List.length p0) then
      bif !decide (((nth T_Heap p0 p2)).1 = p1) then
        some ((-1), ())
      else
        bif inB p2 (List.length p0) then
          bif !decide ((((nth T_Heap p0 p2)).2).1 = (IntKind.wrap .i64 (p1 + 1))) then
            some ((-1), ())
          else
            bif inB p2 (List.length p0) then
              bif !decide (((((nth T_Heap p0 p2)).2).2).1 = (IntKind.wrap .i64 ((IntKind.wrap .i64 (p1 + 1)) + 1))) then
                some ((-1), ())
              else
                bif inB p2 (List.length p0) then
                  Option.bind (E_laws_heldIntA3S ((((((nth T_Heap p0 p2)).2).2).2).1, (IntKind.wrap .i64 ((IntKind.wrap .i64 ((IntKind.wrap .i64 (p1 + 1)) + 1)) + 1)), ())) fun r8 =>
                  bif decide (r8.1 < 0) then
                    some ((-1), ())
                  else
                    (e_laws_heldHeapS_2  m) p0 r8.1 (IntKind.wrap .i64 (p2 + 1))
                else none
            else none
        else none
    else none
  else
    some (p1, ())) _
    repeat first
    | with_reducible exact Le.rfl
    | with_reducible exact ih M hMM _ _ _
    | with_reducible exact v_laws_heldIntA3S _
    | with_reducible refine Le.bind ?_ (fun _ => ?_)
    | with_reducible refine Le.cond ?_ ?_
noncomputable def E_laws_heldHeapS : Ft_laws_heldHeapS := fun x =>
  e_laws_heldHeapS_2 200 x.1 x.2.1 0
theorem v_laws_heldHeapS : ∀ x, Le (E_laws_heldHeapS x) (P_laws_heldHeapS x) := by
  have hK := K_le 200 (by decide)
  rintro ⟨a0, a1, ⟨⟩⟩
  rw [show P_laws_heldHeapS (a0, a1, ()) = _ from p_laws_heldHeapS a0 a1]
  show Le (
  e_laws_heldHeapS_2 200 a0 a1 0) _
  repeat first
    | with_reducible exact Le.rfl
    | with_reducible exact w_laws_heldHeapS_2 200 N hK _ _ _
    | with_reducible refine Le.bind ?_ (fun _ => ?_)
    | with_reducible refine Le.cond ?_ ?_
end Go.VI
