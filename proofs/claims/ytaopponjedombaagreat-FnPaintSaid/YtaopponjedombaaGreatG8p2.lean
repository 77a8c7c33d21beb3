/- What the functions of the seat compute: part 2. -/
import Derived.Test.YtaopponjedombaaGreatG8p1
namespace Go.VI
open Go.Proofs
set_option maxRecDepth 100000

abbrev As_spec_l2Made : List ATy := [.data true T_Heap, .data false (.sl T_A3)]
abbrev R_spec_l2Made : List (Bool × Ty) := [(true, T_Heap)]
abbrev M_spec_l2Made : List RMode := [.pass 4]
abbrev Ft_spec_l2Made : Type := D_Heap × (List D_A3) × Unit → Option (D_Heap × Unit)
noncomputable def X_spec_l2Made (n : Nat) : Ctx := { types := TT, globals := [], con := [], keep := [], results := [.cell 4 26], ntmps := 13, n := n }
noncomputable def B_spec_l2Made : Code := (Tryz.f98.body).getD .skip
theorem e_spec_l2Made (n : Nat) (a0 : D_Heap) (a1 : List D_A3) : runF (X_spec_l2Made n) B_spec_l2Made As_spec_l2Made R_spec_l2Made M_spec_l2Made (a0, a1, ()) = 
 some ((a0.1, (a0.2.1, (a0.2.2.1, (a1, ())))), ()) := by kernel_rfl
noncomputable def P_spec_l2Made : Ft_spec_l2Made := hid (runF (X_spec_l2Made N) B_spec_l2Made As_spec_l2Made R_spec_l2Made M_spec_l2Made)
theorem h_spec_l2Made : P_spec_l2Made = runF (X_spec_l2Made N) B_spec_l2Made As_spec_l2Made R_spec_l2Made M_spec_l2Made := hid_eq _
noncomputable def C_spec_l2Made : Contract := ⟨As_spec_l2Made, R_spec_l2Made, M_spec_l2Made, P_spec_l2Made⟩
theorem s_spec_l2Made : Sound Tryz.prog GG 98 C_spec_l2Made := by
 unfold C_spec_l2Made; rw [h_spec_l2Made]
 exact sound_of_run (fn := Tryz.f98) hmix hstable (tyOK_of ttOK) (hglob (X_spec_l2Made N)) (conOK_of (X := X_spec_l2Made N) trivial) (mconOK_of (X := X_spec_l2Made N) trivial) (by kernel_rfl) (by kernel_rfl) (by kernel_rfl) (by kernel_rfl) (by kernel_rfl) (of_decide_eq_true (by kernel_rfl))
theorem p_spec_l2Made (a0 : D_Heap) (a1 : List D_A3) : P_spec_l2Made (a0, a1, ()) = 
 some ((a0.1, (a0.2.1, (a0.2.2.1, (a1, ())))), ()) := by
 rewrite [h_spec_l2Made]
 exact e_spec_l2Made N a0 a1

abbrev As_spec_l2Own : List ATy := [.data true T_Heap]
abbrev R_spec_l2Own : List (Bool × Ty) := [(true, T_Heap)]
abbrev M_spec_l2Own : List RMode := [.own 38]
abbrev Ft_spec_l2Own : Type := D_Heap × Unit → Option (D_Heap × Unit)
noncomputable def X_spec_l2Own (n : Nat) (F_spec_l2Made : Ft_spec_l2Made) : Ctx := { types := TT, globals := [], con := [(98, ⟨As_spec_l2Made, R_spec_l2Made, M_spec_l2Made, F_spec_l2Made⟩)], keep := [], results := [.cell 2 26], ntmps := 9, n := n }
noncomputable def B_spec_l2Own : Code := (Tryz.f111.body).getD .skip
theorem e_spec_l2Own (n : Nat) (F_spec_l2Made : Ft_spec_l2Made) (a0 : D_Heap) : runF (X_spec_l2Own n F_spec_l2Made) B_spec_l2Own As_spec_l2Own R_spec_l2Own M_spec_l2Own (a0, ()) = 
 bif (decide (((List.length ([] : List D_A3)) + (List.length a0.2.2.2.1)) * 24 ≤ 140737488355328) && decide (((List.length ([] : List D_A3)) + (List.length a0.2.2.2.1)) ≤ 140737488355328)) then
 Option.bind (F_spec_l2Made (a0, (([] : List D_A3) ++ a0.2.2.2.1), ())) fun r1 =>
 some ((r1.1.1, (r1.1.2.1, (r1.1.2.2.1, ((([] : List D_A3) ++ a0.2.2.2.1), ())))), ())
 else none := by kernel_rfl
noncomputable def P_spec_l2Own : Ft_spec_l2Own := hid (runF (X_spec_l2Own N P_spec_l2Made) B_spec_l2Own As_spec_l2Own R_spec_l2Own M_spec_l2Own)
theorem h_spec_l2Own : P_spec_l2Own = runF (X_spec_l2Own N P_spec_l2Made) B_spec_l2Own As_spec_l2Own R_spec_l2Own M_spec_l2Own := hid_eq _
noncomputable def C_spec_l2Own : Contract := ⟨As_spec_l2Own, R_spec_l2Own, M_spec_l2Own, P_spec_l2Own⟩
theorem s_spec_l2Own : Sound Tryz.prog GG 111 C_spec_l2Own := by
 unfold C_spec_l2Own; rw [h_spec_l2Own]
 exact sound_of_run (fn := Tryz.f111) hmix hstable (tyOK_of ttOK) (hglob (X_spec_l2Own N P_spec_l2Made)) (conOK_of (X := X_spec_l2Own N P_spec_l2Made) ⟨s_spec_l2Made, trivial⟩) (mconOK_of (X := X_spec_l2Own N P_spec_l2Made) trivial) (by kernel_rfl) (by kernel_rfl) (by kernel_rfl) (by kernel_rfl) (by kernel_rfl) (of_decide_eq_true (by kernel_rfl))
theorem p_spec_l2Own (a0 : D_Heap) : P_spec_l2Own (a0, ()) = 
 bif (decide (((List.length ([] : List D_A3)) + (List.length a0.2.2.2.1)) * 24 ≤ 140737488355328) && decide (((List.length ([] : List D_A3)) + (List.length a0.2.2.2.1)) ≤ 140737488355328)) then
 Option.bind (P_spec_l2Made (a0, (([] : List D_A3) ++ a0.2.2.2.1), ())) fun r1 =>
 some ((r1.1.1, (r1.1.2.1, (r1.1.2.2.1, ((([] : List D_A3) ++ a0.2.2.2.1), ())))), ())
 else none := by
 rewrite [h_spec_l2Own]
 exact e_spec_l2Own N P_spec_l2Made a0

abbrev As_spec_l2With : List ATy := [.data true T_Heap, .data true T_A3]
abbrev R_spec_l2With : List (Bool × Ty) := [(true, T_Heap)]
abbrev M_spec_l2With : List RMode := [.own 38]
abbrev Ft_spec_l2With : Type := D_Heap × D_A3 × Unit → Option (D_Heap × Unit)
noncomputable def X_spec_l2With (n : Nat) (F_spec_l2Before : Ft_spec_l2Before) (F_spec_l2Made : Ft_spec_l2Made) (F_spec_l2Own : Ft_spec_l2Own) : Ctx := { types := TT, globals := [], con := [(92, ⟨As_spec_l2Before, R_spec_l2Before, M_spec_l2Before, F_spec_l2Before⟩), (98, ⟨As_spec_l2Made, R_spec_l2Made, M_spec_l2Made, F_spec_l2Made⟩), (111, ⟨As_spec_l2Own, R_spec_l2Own, M_spec_l2Own, F_spec_l2Own⟩)], keep := [(2, ⟨[.box 2, .box 3, .box 4, .tmp 2, .tmp 3, .tmp 4, .tmp 5], []⟩)], results := [.cell 4 26], ntmps := 54, n := n }
noncomputable def B_spec_l2With : Code := (Tryz.f126.body).getD .skip
noncomputable def L_spec_l2With_2 (n : Nat) (F_spec_l2Before : Ft_spec_l2Before) (F_spec_l2Made : Ft_spec_l2Made) (F_spec_l2Own : Ft_spec_l2Own) (m0 : Nat) (p0 p1 p2 : Int) (p3 : List D_A3) (p4 p5 : Int) (p6 p7 : Int) (p8 p9 : Int) (p10 : List D_A3) (p11 : Int) : Option (denL R_spec_l2With) := loopF (X_spec_l2With n F_spec_l2Before F_spec_l2Made F_spec_l2Own) B_spec_l2With R_spec_l2With M_spec_l2With 2 [m0] [(.ver, .num 1), (.box 2, .box 0 false [.int .i64 p0, .int .i64 p1, .int .i64 p2, .imm T_A3 p3 (some 3)]), (.box 3, .box 0 false [.int .i64 p4, .int .i64 p5, .int .i64 p6]), (.box 4, .box 0 false [.int .i64 p7, .int .i64 p8, .int .i64 p9, .own 38 T_A3 0 p10]), (.tmp 2, .val false [.addr 2 0 0]), (.tmp 3, .val false [.addr 3 0 0]), (.tmp 4, .val false [.addr 4 0 0]), (.tmp 5, .val false [.int .i64 p11])]
theorem e_spec_l2With (n : Nat) (F_spec_l2Before : Ft_spec_l2Before) (F_spec_l2Made : Ft_spec_l2Made) (F_spec_l2Own : Ft_spec_l2Own) (a0 : D_Heap) (a1 : D_A3) : runF (X_spec_l2With n F_spec_l2Before F_spec_l2Made F_spec_l2Own) B_spec_l2With As_spec_l2With R_spec_l2With M_spec_l2With (a0, a1, ()) = 
 L_spec_l2With_2 n F_spec_l2Before F_spec_l2Made F_spec_l2Own n a0.1 a0.2.1 a0.2.2.1 a0.2.2.2.1 a1.1 a1.2.1 a1.2.2.1 0 0 0 ([] : List D_A3) 0 := by kernel_rfl
theorem e_spec_l2With_2 (n : Nat) (F_spec_l2Before : Ft_spec_l2Before) (F_spec_l2Made : Ft_spec_l2Made) (F_spec_l2Own : Ft_spec_l2Own) (m0 : Nat) (p0 p1 p2 : Int) (p3 : List D_A3) (p4 p5 : Int) (p6 p7 : Int) (p8 p9 : Int) (p10 : List D_A3) (p11 : Int) : L_spec_l2With_2 n F_spec_l2Before F_spec_l2Made F_spec_l2Own (m0 + 1) p0 p1 p2 p3 p4 p5 p6 p7 p8 p9 p10 p11 = 
 bif decide (p11 < (List.length p3 : Int)) then
 bif inB p11 (List.length p3) then
 Option.bind (F_spec_l2Before ((nth T_A3 p3 p11), (p4, (p5, (p6, ()))), ())) fun r2 =>
 bif r2.1 then
 L_spec_l2With_2 n F_spec_l2Before F_spec_l2Made F_spec_l2Own m0 p0 p1 p2 p3 p4 p5 p6 p7 p8 p9 p10 (IntKind.wrap .i64 (p11 + 1))
 else
 bif decide (p11 < (List.length p3 : Int)) then
 bif inB p11 (List.length p3) then
 bif (decide (((nth T_A3 p3 p11)).1 = p4) && (decide ((((nth T_A3 p3 p11)).2).1 = p5) && (decide (((((nth T_A3 p3 p11)).2).2).1 = p6) && true))) then
 Option.bind (F_spec_l2Own ((p0, (p1, (p2, (p3, ())))), ())) fun r7 =>
 some (r7.1, ())
 else
 bif (decide ((0 : Int) ≤ 0) && decide ((0 : Int) ≤ p11) && decide (p11 ≤ (List.length p3 : Int))) then
 bif (decide (((List.length ([] : List D_A3)) + (List.length (cut p3 0 p11))) * 24 ≤ 140737488355328) && decide (((List.length ([] : List D_A3)) + (List.length (cut p3 0 p11))) ≤ 140737488355328)) then
 bif (decide (((List.length (([] : List D_A3) ++ (cut p3 0 p11))) + (List.length ([(p4, (p5, (p6, ())))] : List D_A3))) * 24 ≤ 140737488355328) && decide (((List.length (([] : List D_A3) ++ (cut p3 0 p11))) + (List.length ([(p4, (p5, (p6, ())))] : List D_A3))) ≤ 140737488355328)) then
 bif (decide ((0 : Int) ≤ p11) && decide (p11 ≤ (List.length p3 : Int)) && decide ((List.length p3 : Int) ≤ (List.length p3 : Int))) then
 bif (decide (((List.length ((([] : List D_A3) ++ (cut p3 0 p11)) ++ ([(p4, (p5, (p6, ())))] : List D_A3))) + (List.length (cut p3 p11 (List.length p3 : Int)))) * 24 ≤ 140737488355328) && decide (((List.length ((([] : List D_A3) ++ (cut p3 0 p11)) ++ ([(p4, (p5, (p6, ())))] : List D_A3))) + (List.length (cut p3 p11 (List.length p3 : Int)))) ≤ 140737488355328)) then
 Option.bind (F_spec_l2Made ((p0, (p1, (p2, (p3, ())))), (((([] : List D_A3) ++ (cut p3 0 p11)) ++ ([(p4, (p5, (p6, ())))] : List D_A3)) ++ (cut p3 p11 (List.length p3 : Int))), ())) fun r12 =>
 some ((r12.1.1, (r12.1.2.1, (r12.1.2.2.1, ((((([] : List D_A3) ++ (cut p3 0 p11)) ++ ([(p4, (p5, (p6, ())))] : List D_A3)) ++ (cut p3 p11 (List.length p3 : Int))), ())))), ())
 else none
 else none
 else none
 else none
 else none
 else none
 else
 bif (decide ((0 : Int) ≤ 0) && decide ((0 : Int) ≤ p11) && decide (p11 ≤ (List.length p3 : Int))) then
 bif (decide (((List.length ([] : List D_A3)) + (List.length (cut p3 0 p11))) * 24 ≤ 140737488355328) && decide (((List.length ([] : List D_A3)) + (List.length (cut p3 0 p11))) ≤ 140737488355328)) then
 bif (decide (((List.length (([] : List D_A3) ++ (cut p3 0 p11))) + (List.length ([(p4, (p5, (p6, ())))] : List D_A3))) * 24 ≤ 140737488355328) && decide (((List.length (([] : List D_A3) ++ (cut p3 0 p11))) + (List.length ([(p4, (p5, (p6, ())))] : List D_A3))) ≤ 140737488355328)) then
 bif (decide ((0 : Int) ≤ p11) && decide (p11 ≤ (List.length p3 : Int)) && decide ((List.length p3 : Int) ≤ (List.length p3 : Int))) then
 bif (decide (((List.length ((([] : List D_A3) ++ (cut p3 0 p11)) ++ ([(p4, (p5, (p6, ())))] : List D_A3))) + (List.length (cut p3 p11 (List.length p3 : Int)))) * 24 ≤ 140737488355328) && decide (((List.length ((([] : List D_A3) ++ (cut p3 0 p11)) ++ ([(p4, (p5, (p6, ())))] : List D_A3))) + (List.length (cut p3 p11 (List.length p3 : Int)))) ≤ 140737488355328)) then
 Option.bind (F_spec_l2Made ((p0, (p1, (p2, (p3, ())))), (((([] : List D_A3) ++ (cut p3 0 p11)) ++ ([(p4, (p5, (p6, ())))] : List D_A3)) ++ (cut p3 p11 (List.length p3 : Int))), ())) fun r10 =>
 some ((r10.1.1, (r10.1.2.1, (r10.1.2.2.1, ((((([] : List D_A3) ++ (cut p3 0 p11)) ++ ([(p4, (p5, (p6, ())))] : List D_A3)) ++ (cut p3 p11 (List.length p3 : Int))), ())))), ())
 else none
 else none
 else none
 else none
 else none
 else none
 else
 bif decide (p11 < (List.length p3 : Int)) then
 bif inB p11 (List.length p3) then
 bif (decide (((nth T_A3 p3 p11)).1 = p4) && (decide ((((nth T_A3 p3 p11)).2).1 = p5) && (decide (((((nth T_A3 p3 p11)).2).2).1 = p6) && true))) then
 Option.bind (F_spec_l2Own ((p0, (p1, (p2, (p3, ())))), ())) fun r4 =>
 some (r4.1, ())
 else
 bif (decide ((0 : Int) ≤ 0) && decide ((0 : Int) ≤ p11) && decide (p11 ≤ (List.length p3 : Int))) then
 bif (decide (((List.length ([] : List D_A3)) + (List.length (cut p3 0 p11))) * 24 ≤ 140737488355328) && decide (((List.length ([] : List D_A3)) + (List.length (cut p3 0 p11))) ≤ 140737488355328)) then
 bif (decide (((List.length (([] : List D_A3) ++ (cut p3 0 p11))) + (List.length ([(p4, (p5, (p6, ())))] : List D_A3))) * 24 ≤ 140737488355328) && decide (((List.length (([] : List D_A3) ++ (cut p3 0 p11))) + (List.length ([(p4, (p5, (p6, ())))] : List D_A3))) ≤ 140737488355328)) then
 bif (decide ((0 : Int) ≤ p11) && decide (p11 ≤ (List.length p3 : Int)) && decide ((List.length p3 : Int) ≤ (List.length p3 : Int))) then
 bif (decide (((List.length ((([] : List D_A3) ++ (cut p3 0 p11)) ++ ([(p4, (p5, (p6, ())))] : List D_A3))) + (List.length (cut p3 p11 (List.length p3 : Int)))) * 24 ≤ 140737488355328) && decide (((List.length ((([] : List D_A3) ++ (cut p3 0 p11)) ++ ([(p4, (p5, (p6, ())))] : List D_A3))) + (List.length (cut p3 p11 (List.length p3 : Int)))) ≤ 140737488355328)) then
 Option.bind (F_spec_l2Made ((p0, (p1, (p2, (p3, ())))), (((([] : List D_A3) ++ (cut p3 0 p11)) ++ ([(p4, (p5, (p6, ())))] : List D_A3)) ++ (cut p3 p11 (List.length p3 : Int))), ())) fun r9 =>
 some ((r9.1.1, (r9.1.2.1, (r9.1.2.2.1, ((((([] : List D_A3) ++ (cut p3 0 p11)) ++ ([(p4, (p5, (p6, ())))] : List D_A3)) ++ (cut p3 p11 (List.length p3 : Int))), ())))), ())
 else none
 else none
 else none
 else none
 else none
 else none
 else
 bif (decide ((0 : Int) ≤ 0) && decide ((0 : Int) ≤ p11) && decide (p11 ≤ (List.length p3 : Int))) then
 bif (decide (((List.length ([] : List D_A3)) + (List.length (cut p3 0 p11))) * 24 ≤ 140737488355328) && decide (((List.length ([] : List D_A3)) + (List.length (cut p3 0 p11))) ≤ 140737488355328)) then
 bif (decide (((List.length (([] : List D_A3) ++ (cut p3 0 p11))) + (List.length ([(p4, (p5, (p6, ())))] : List D_A3))) * 24 ≤ 140737488355328) && decide (((List.length (([] : List D_A3) ++ (cut p3 0 p11))) + (List.length ([(p4, (p5, (p6, ())))] : List D_A3))) ≤ 140737488355328)) then
 bif (decide ((0 : Int) ≤ p11) && decide (p11 ≤ (List.length p3 : Int)) && decide ((List.length p3 : Int) ≤ (List.length p3 : Int))) then
 bif (decide (((List.length ((([] : List D_A3) ++ (cut p3 0 p11)) ++ ([(p4, (p5, (p6, ())))] : List D_A3))) + (List.length (cut p3 p11 (List.length p3 : Int)))) * 24 ≤ 140737488355328) && decide (((List.length ((([] : List D_A3) ++ (cut p3 0 p11)) ++ ([(p4, (p5, (p6, ())))] : List D_A3))) + (List.length (cut p3 p11 (List.length p3 : Int)))) ≤ 140737488355328)) then
 Option.bind (F_spec_l2Made ((p0, (p1, (p2, (p3, ())))), (((([] : List D_A3) ++ (cut p3 0 p11)) ++ ([(p4, (p5, (p6, ())))] : List D_A3)) ++ (cut p3 p11 (List.length p3 : Int))), ())) fun r7 =>
 some ((r7.1.1, (r7.1.2.1, (r7.1.2.2.1, ((((([] : List D_A3) ++ (cut p3 0 p11)) ++ ([(p4, (p5, (p6, ())))] : List D_A3)) ++ (cut p3 p11 (List.length p3 : Int))), ())))), ())
 else none
 else none
 else none
 else none
 else none := by kernel_rfl
noncomputable def P_spec_l2With : Ft_spec_l2With := hid (runF (X_spec_l2With N P_spec_l2Before P_spec_l2Made P_spec_l2Own) B_spec_l2With As_spec_l2With R_spec_l2With M_spec_l2With)
theorem h_spec_l2With : P_spec_l2With = runF (X_spec_l2With N P_spec_l2Before P_spec_l2Made P_spec_l2Own) B_spec_l2With As_spec_l2With R_spec_l2With M_spec_l2With := hid_eq _
noncomputable def C_spec_l2With : Contract := ⟨As_spec_l2With, R_spec_l2With, M_spec_l2With, P_spec_l2With⟩
theorem s_spec_l2With : Sound Tryz.prog GG 126 C_spec_l2With := by
 unfold C_spec_l2With; rw [h_spec_l2With]
 exact sound_of_run (fn := Tryz.f126) hmix hstable (tyOK_of ttOK) (hglob (X_spec_l2With N P_spec_l2Before P_spec_l2Made P_spec_l2Own)) (conOK_of (X := X_spec_l2With N P_spec_l2Before P_spec_l2Made P_spec_l2Own) ⟨s_spec_l2Before, s_spec_l2Made, s_spec_l2Own, trivial⟩) (mconOK_of (X := X_spec_l2With N P_spec_l2Before P_spec_l2Made P_spec_l2Own) trivial) (by kernel_rfl) (by kernel_rfl) (by kernel_rfl) (by kernel_rfl) (by kernel_rfl) (of_decide_eq_true (by kernel_rfl))
noncomputable def l_spec_l2With_2 : Nat → Int → Int → Int → (List D_A3) → Int → Int → Int → Int → Int → Int → (List D_A3) → Int → Option (denL R_spec_l2With) := hid (fun m0 p0 p1 p2 p3 p4 p5 p6 p7 p8 p9 p10 p11 => L_spec_l2With_2 N P_spec_l2Before P_spec_l2Made P_spec_l2Own m0 p0 p1 p2 p3 p4 p5 p6 p7 p8 p9 p10 p11)
theorem h_spec_l2With_2 : l_spec_l2With_2 = fun m0 p0 p1 p2 p3 p4 p5 p6 p7 p8 p9 p10 p11 => L_spec_l2With_2 N P_spec_l2Before P_spec_l2Made P_spec_l2Own m0 p0 p1 p2 p3 p4 p5 p6 p7 p8 p9 p10 p11 := hid_eq _
theorem p_spec_l2With (a0 : D_Heap) (a1 : D_A3) : P_spec_l2With (a0, a1, ()) = 
 l_spec_l2With_2 N a0.1 a0.2.1 a0.2.2.1 a0.2.2.2.1 a1.1 a1.2.1 a1.2.2.1 0 0 0 ([] : List D_A3) 0 := by
 rewrite [h_spec_l2With, h_spec_l2With_2]
 exact e_spec_l2With N P_spec_l2Before P_spec_l2Made P_spec_l2Own a0 a1
theorem q_spec_l2With_2 (m0 : Nat) (p0 p1 p2 : Int) (p3 : List D_A3) (p4 p5 : Int) (p6 p7 : Int) (p8 p9 : Int) (p10 : List D_A3) (p11 : Int) : l_spec_l2With_2 (m0 + 1) p0 p1 p2 p3 p4 p5 p6 p7 p8 p9 p10 p11 = 
 bif decide (p11 < (List.length p3 : Int)) then
 bif inB p11 (List.length p3) then
 Option.bind (P_spec_l2Before ((nth T_A3 p3 p11), (p4, (p5, (p6, ()))), ())) fun r2 =>
 bif r2.1 then
 l_spec_l2With_2 m0 p0 p1 p2 p3 p4 p5 p6 p7 p8 p9 p10 (IntKind.wrap .i64 (p11 + 1))
 else
 bif decide (p11 < (List.length p3 : Int)) then
 bif inB p11 (List.length p3) then
 bif (decide (((nth T_A3 p3 p11)).1 = p4) && (decide ((((nth T_A3 p3 p11)).2).1 = p5) && (decide (((((nth T_A3 p3 p11)).2).2).1 = p6) && true))) then
 Option.bind (P_spec_l2Own ((p0, (p1, (p2, (p3, ())))), ())) fun r7 =>
 some (r7.1, ())
 else
 bif (decide ((0 : Int) ≤ 0) && decide ((0 : Int) ≤ p11) && decide (p11 ≤ (List.length p3 : Int))) then
 bif (decide (((List.length ([] : List D_A3)) + (List.length (cut p3 0 p11))) * 24 ≤ 140737488355328) && decide (((List.length ([] : List D_A3)) + (List.length (cut p3 0 p11))) ≤ 140737488355328)) then
 bif (decide (((List.length (([] : List D_A3) ++ (cut p3 0 p11))) + (List.length ([(p4, (p5, (p6, ())))] : List D_A3))) * 24 ≤ 140737488355328) && decide (((List.length (([] : List D_A3) ++ (cut p3 0 p11))) + (List.length ([(p4, (p5, (p6, ())))] : List D_A3))) ≤ 140737488355328)) then
 bif (decide ((0 : Int) ≤ p11) && decide (p11 ≤ (List.length p3 : Int)) && decide ((List.length p3 : Int) ≤ (List.length p3 : Int))) then
 bif (decide (((List.length ((([] : List D_A3) ++ (cut p3 0 p11)) ++ ([(p4, (p5, (p6, ())))] : List D_A3))) + (List.length (cut p3 p11 (List.length p3 : Int)))) * 24 ≤ 140737488355328) && decide (((List.length ((([] : List D_A3) ++ (cut p3 0 p11)) ++ ([(p4, (p5, (p6, ())))] : List D_A3))) + (List.length (cut p3 p11 (List.length p3 : Int)))) ≤ 140737488355328)) then
 Option.bind (P_spec_l2Made ((p0, (p1, (p2, (p3, ())))), (((([] : List D_A3) ++ (cut p3 0 p11)) ++ ([(p4, (p5, (p6, ())))] : List D_A3)) ++ (cut p3 p11 (List.length p3 : Int))), ())) fun r12 =>
 some ((r12.1.1, (r12.1.2.1, (r12.1.2.2.1, ((((([] : List D_A3) ++ (cut p3 0 p11)) ++ ([(p4, (p5, (p6, ())))] : List D_A3)) ++ (cut p3 p11 (List.length p3 : Int))), ())))), ())
 else none
 else none
 else none
 else none
 else none
 else none
 else
 bif (decide ((0 : Int) ≤ 0) && decide ((0 : Int) ≤ p11) && decide (p11 ≤ (List.length p3 : Int))) then
 bif (decide (((List.length ([] : List D_A3)) + (List.length (cut p3 0 p11))) * 24 ≤ 140737488355328) && decide (((List.length ([] : List D_A3)) + (List.length (cut p3 0 p11))) ≤ 140737488355328)) then
 bif (decide (((List.length (([] : List D_A3) ++ (cut p3 0 p11))) + (List.length ([(p4, (p5, (p6, ())))] : List D_A3))) * 24 ≤ 140737488355328) && decide (((List.length (([] : List D_A3) ++ (cut p3 0 p11))) + (List.length ([(p4, (p5, (p6, ())))] : List D_A3))) ≤ 140737488355328)) then
 bif (decide ((0 : Int) ≤ p11) && decide (p11 ≤ (List.length p3 : Int)) && decide ((List.length p3 : Int) ≤ (List.length p3 : Int))) then
 bif (decide (((List.length ((([] : List D_A3) ++ (cut p3 0 p11)) ++ ([(p4, (p5, (p6, ())))] : List D_A3))) + (List.length (cut p3 p11 (List.length p3 : Int)))) * 24 ≤ 140737488355328) && decide (((List.length ((([] : List D_A3) ++ (cut p3 0 p11)) ++ ([(p4, (p5, (p6, ())))] : List D_A3))) + (List.length (cut p3 p11 (List.length p3 : Int)))) ≤ 140737488355328)) then
 Option.bind (P_spec_l2Made ((p0, (p1, (p2, (p3, ())))), (((([] : List D_A3) ++ (cut p3 0 p11)) ++ ([(p4, (p5, (p6, ())))] : List D_A3)) ++ (cut p3 p11 (List.length p3 : Int))), ())) fun r10 =>
 some ((r10.1.1, (r10.1.2.1, (r10.1.2.2.1, ((((([] : List D_A3) ++ (cut p3 0 p11)) ++ ([(p4, (p5, (p6, ())))] : List D_A3)) ++ (cut p3 p11 (List.length p3 : Int))), ())))), ())
 else none
 else none
 else none
 else none
 else none
 else none
 else
 bif decide (p11 < (List.length p3 : Int)) then
 bif inB p11 (List.length p3) then
 bif (decide (((nth T_A3 p3 p11)).1 = p4) && (decide ((((nth T_A3 p3 p11)).2).1 = p5) && (decide (((((nth T_A3 p3 p11)).2).2).1 = p6) && true))) then
 Option.bind (P_spec_l2Own ((p0, (p1, (p2, (p3, ())))), ())) fun r4 =>
 some (r4.1, ())
 else
 bif (decide ((0 : Int) ≤ 0) && decide ((0 : Int) ≤ p11) && decide (p11 ≤ (List.length p3 : Int))) then
 bif (decide (((List.length ([] : List D_A3)) + (List.length (cut p3 0 p11))) * 24 ≤ 140737488355328) && decide (((List.length ([] : List D_A3)) + (List.length (cut p3 0 p11))) ≤ 140737488355328)) then
 bif (decide (((List.length (([] : List D_A3) ++ (cut p3 0 p11))) + (List.length ([(p4, (p5, (p6, ())))] : List D_A3))) * 24 ≤ 140737488355328) && decide (((List.length (([] : List D_A3) ++ (cut p3 0 p11))) + (List.length ([(p4, (p5, (p6, ())))] : List D_A3))) ≤ 140737488355328)) then
 bif (decide ((0 : Int) ≤ p11) && decide (p11 ≤ (List.length p3 : Int)) && decide ((List.length p3 : Int) ≤ (List.length p3 : Int))) then
 bif (decide (((List.length ((([] : List D_A3) ++ (cut p3 0 p11)) ++ ([(p4, (p5, (p6, ())))] : List D_A3))) + (List.length (cut p3 p11 (List.length p3 : Int)))) * 24 ≤ 140737488355328) && decide (((List.length ((([] : List D_A3) ++ (cut p3 0 p11)) ++ ([(p4, (p5, (p6, ())))] : List D_A3))) + (List.length (cut p3 p11 (List.length p3 : Int)))) ≤ 140737488355328)) then
 Option.bind (P_spec_l2Made ((p0, (p1, (p2, (p3, ())))), (((([] : List D_A3) ++ (cut p3 0 p11)) ++ ([(p4, (p5, (p6, ())))] : List D_A3)) ++ (cut p3 p11 (List.length p3 : Int))), ())) fun r9 =>
 some ((r9.1.1, (r9.1.2.1, (r9.1.2.2.1, ((((([] : List D_A3) ++ (cut p3 0 p11)) ++ ([(p4, (p5, (p6, ())))] : List D_A3)) ++ (cut p3 p11 (List.length p3 : Int))), ())))), ())
 else none
 else none
 else none
 else none
 else none
 else none
 else
 bif (decide ((0 : Int) ≤ 0) && decide ((0 : Int) ≤ p11) && decide (p11 ≤ (List.length p3 : Int))) then
 bif (decide (((List.length ([] : List D_A3)) + (List.length (cut p3 0 p11))) * 24 ≤ 140737488355328) && decide (((List.length ([] : List D_A3)) + (List.length (cut p3 0 p11))) ≤ 140737488355328)) then
 bif (decide (((List.length (([] : List D_A3) ++ (cut p3 0 p11))) + (List.length ([(p4, (p5, (p6, ())))] : List D_A3))) * 24 ≤ 140737488355328) && decide (((List.length (([] : List D_A3) ++ (cut p3 0 p11))) + (List.length ([(p4, (p5, (p6, ())))] : List D_A3))) ≤ 140737488355328)) then
 bif (decide ((0 : Int) ≤ p11) && decide (p11 ≤ (List.length p3 : Int)) && decide ((List.length p3 : Int) ≤ (List.length p3 : Int))) then
 bif (decide (((List.length ((([] : List D_A3) ++ (cut p3 0 p11)) ++ ([(p4, (p5, (p6, ())))] : List D_A3))) + (List.length (cut p3 p11 (List.length p3 : Int)))) * 24 ≤ 140737488355328) && decide (((List.length ((([] : List D_A3) ++ (cut p3 0 p11)) ++ ([(p4, (p5, (p6, ())))] : List D_A3))) + (List.length (cut p3 p11 (List.length p3 : Int)))) ≤ 140737488355328)) then
 Option.bind (P_spec_l2Made ((p0, (p1, (p2, (p3, ())))), (((([] : List D_A3) ++ (cut p3 0 p11)) ++ ([(p4, (p5, (p6, ())))] : List D_A3)) ++ (cut p3 p11 (List.length p3 : Int))), ())) fun r7 =>
 some ((r7.1.1, (r7.1.2.1, (r7.1.2.2.1, ((((([] : List D_A3) ++ (cut p3 0 p11)) ++ ([(p4, (p5, (p6, ())))] : List D_A3)) ++ (cut p3 p11 (List.length p3 : Int))), ())))), ())
 else none
 else none
 else none
 else none
 else none := by
 rewrite [h_spec_l2With_2]
 exact e_spec_l2With_2 N P_spec_l2Before P_spec_l2Made P_spec_l2Own m0 p0 p1 p2 p3 p4 p5 p6 p7 p8 p9 p10 p11

abbrev As_spec_l6Enclosed : List ATy := [.data true T_Heap]
abbrev R_spec_l6Enclosed : List (Bool × Ty) := [(false, (.sl T_A3))]
abbrev M_spec_l6Enclosed : List RMode := [.own 38]
abbrev Ft_spec_l6Enclosed : Type := D_Heap × Unit → Option ((List D_A3) × Unit)
noncomputable def X_spec_l6Enclosed (n : Nat) (F_spec_l2Has : Ft_spec_l2Has) (F_spec_l2In : Ft_spec_l2In) (F_spec_l2Empty : Ft_spec_l2Empty) (F_spec_l6Steps : Ft_spec_l6Steps) (F_spec_l6Beside : Ft_spec_l6Beside) (F_spec_l2All : Ft_spec_l2All) (F_spec_l2With : Ft_spec_l2With) : Ctx := { types := TT, globals := [], con := [(62, ⟨As_spec_l2Has, R_spec_l2Has, M_spec_l2Has, F_spec_l2Has⟩), (91, ⟨As_spec_l2In, R_spec_l2In, M_spec_l2In, F_spec_l2In⟩), (94, ⟨As_spec_l2Empty, R_spec_l2Empty, M_spec_l2Empty, F_spec_l2Empty⟩), (96, ⟨As_spec_l6Steps, R_spec_l6Steps, M_spec_l6Steps, F_spec_l6Steps⟩), (97, ⟨As_spec_l6Beside, R_spec_l6Beside, M_spec_l6Beside, F_spec_l6Beside⟩), (103, ⟨As_spec_l2All, R_spec_l2All, M_spec_l2All, F_spec_l2All⟩), (126, ⟨As_spec_l2With, R_spec_l2With, M_spec_l2With, F_spec_l2With⟩)], keep := [(4, ⟨[.box 1, .box 3, .box 5, .tmp 1, .tmp 3, .tmp 4, .tmp 5, .tmp 6], []⟩), (7, ⟨[.box 1, .box 3, .box 5, .tmp 1, .tmp 3, .tmp 4, .tmp 5, .tmp 6, .tmp 7], []⟩), (10, ⟨[.box 1, .box 3, .box 5, .tmp 1, .tmp 3, .tmp 4, .tmp 5, .tmp 6, .tmp 7, .tmp 8], []⟩), (15, ⟨[.box 1, .box 3, .box 5, .tmp 1, .tmp 3, .tmp 4, .tmp 5, .tmp 9], []⟩), (18, ⟨[.box 1, .box 3, .box 5, .tmp 1, .tmp 3, .tmp 4, .tmp 5, .tmp 9, .tmp 10], []⟩), (26, ⟨[.box 1, .box 3, .tmp 1, .tmp 3, .tmp 12, .tmp 13, .tmp 14], []⟩)], results := [.tmp 2], ntmps := 129, n := n }
noncomputable def B_spec_l6Enclosed : Code := (Tryz.f99.body).getD .skip
noncomputable def L_spec_l6Enclosed_4 (n : Nat) (F_spec_l2Has : Ft_spec_l2Has) (F_spec_l2In : Ft_spec_l2In) (F_spec_l2Empty : Ft_spec_l2Empty) (F_spec_l6Steps : Ft_spec_l6Steps) (F_spec_l6Beside : Ft_spec_l6Beside) (F_spec_l2All : Ft_spec_l2All) (F_spec_l2With : Ft_spec_l2With) (m0 : Nat) (p0 p1 p2 : Int) (p3 : List D_A3) (p4 p5 p6 : Int) (p7 : List D_A3) (p8 p9 : Int) (p10 p11 : Int) (p12 p13 : Int) (p14 p15 : Int) (p16 p17 : Int) (p18 p19 : Int) (p20 p21 : Int) (p22 p23 : Int) (p24 p25 : Int) (p26 : List D_A3) (p27 : Int) : Option (denL R_spec_l6Enclosed) := loopF (X_spec_l6Enclosed n F_spec_l2Has F_spec_l2In F_spec_l2Empty F_spec_l6Steps F_spec_l6Beside F_spec_l2All F_spec_l2With) B_spec_l6Enclosed R_spec_l6Enclosed M_spec_l6Enclosed 4 [m0] [(.ver, .num 1), (.box 1, .box 0 false [.int .i64 p0, .int .i64 p1, .int .i64 p2, .imm T_A3 p3 (some 3)]), (.box 3, .box 0 false [.int .i64 p4, .int .i64 p5, .int .i64 p6, .own 38 T_A3 0 p7]), (.box 5, .box 0 false [.int .i64 p8, .int .i64 p9, .int .i64 p10, .int .i64 p11, .int .i64 p12, .int .i64 p13, .int .i64 p14, .int .i64 p15, .int .i64 p16, .int .i64 p17, .int .i64 p18, .int .i64 p19, .int .i64 p20, .int .i64 p21, .int .i64 p22, .int .i64 p23, .int .i64 p24, .int .i64 p25]), (.tmp 1, .val false [.addr 1 0 0]), (.tmp 3, .val false [.addr 3 0 0]), (.tmp 4, .val false [.own 38 T_A3 0 p26]), (.tmp 5, .val false [.addr 5 0 0]), (.tmp 6, .val false [.int .i64 p27])]
noncomputable def L_spec_l6Enclosed_7 (n : Nat) (F_spec_l2Has : Ft_spec_l2Has) (F_spec_l2In : Ft_spec_l2In) (F_spec_l2Empty : Ft_spec_l2Empty) (F_spec_l6Steps : Ft_spec_l6Steps) (F_spec_l6Beside : Ft_spec_l6Beside) (F_spec_l2All : Ft_spec_l2All) (F_spec_l2With : Ft_spec_l2With) (m0 m1 : Nat) (p0 p1 p2 : Int) (p3 : List D_A3) (p4 p5 p6 : Int) (p7 : List D_A3) (p8 p9 : Int) (p10 p11 : Int) (p12 p13 : Int) (p14 p15 : Int) (p16 p17 : Int) (p18 p19 : Int) (p20 p21 : Int) (p22 p23 : Int) (p24 p25 : Int) (p26 : List D_A3) (p27 p28 : Int) : Option (denL R_spec_l6Enclosed) := loopF (X_spec_l6Enclosed n F_spec_l2Has F_spec_l2In F_spec_l2Empty F_spec_l6Steps F_spec_l6Beside F_spec_l2All F_spec_l2With) B_spec_l6Enclosed R_spec_l6Enclosed M_spec_l6Enclosed 7 [m0, m1] [(.ver, .num 1), (.box 1, .box 0 false [.int .i64 p0, .int .i64 p1, .int .i64 p2, .imm T_A3 p3 (some 3)]), (.box 3, .box 0 false [.int .i64 p4, .int .i64 p5, .int .i64 p6, .own 38 T_A3 0 p7]), (.box 5, .box 0 false [.int .i64 p8, .int .i64 p9, .int .i64 p10, .int .i64 p11, .int .i64 p12, .int .i64 p13, .int .i64 p14, .int .i64 p15, .int .i64 p16, .int .i64 p17, .int .i64 p18, .int .i64 p19, .int .i64 p20, .int .i64 p21, .int .i64 p22, .int .i64 p23, .int .i64 p24, .int .i64 p25]), (.tmp 1, .val false [.addr 1 0 0]), (.tmp 3, .val false [.addr 3 0 0]), (.tmp 4, .val false [.own 38 T_A3 0 p26]), (.tmp 5, .val false [.addr 5 0 0]), (.tmp 6, .val false [.int .i64 p27]), (.tmp 7, .val false [.int .i64 p28])]
noncomputable def L_spec_l6Enclosed_15 (n : Nat) (F_spec_l2Has : Ft_spec_l2Has) (F_spec_l2In : Ft_spec_l2In) (F_spec_l2Empty : Ft_spec_l2Empty) (F_spec_l6Steps : Ft_spec_l6Steps) (F_spec_l6Beside : Ft_spec_l6Beside) (F_spec_l2All : Ft_spec_l2All) (F_spec_l2With : Ft_spec_l2With) (m0 : Nat) (p0 p1 p2 : Int) (p3 : List D_A3) (p4 p5 p6 : Int) (p7 : List D_A3) (p8 p9 : Int) (p10 p11 : Int) (p12 p13 : Int) (p14 p15 : Int) (p16 p17 : Int) (p18 p19 : Int) (p20 p21 : Int) (p22 p23 : Int) (p24 p25 : Int) (p26 : List D_A3) (p27 : Int) : Option (denL R_spec_l6Enclosed) := loopF (X_spec_l6Enclosed n F_spec_l2Has F_spec_l2In F_spec_l2Empty F_spec_l6Steps F_spec_l6Beside F_spec_l2All F_spec_l2With) B_spec_l6Enclosed R_spec_l6Enclosed M_spec_l6Enclosed 15 [m0] [(.ver, .num 1), (.box 1, .box 0 false [.int .i64 p0, .int .i64 p1, .int .i64 p2, .imm T_A3 p3 (some 3)]), (.box 3, .box 0 false [.int .i64 p4, .int .i64 p5, .int .i64 p6, .own 38 T_A3 0 p7]), (.box 5, .box 0 false [.int .i64 p8, .int .i64 p9, .int .i64 p10, .int .i64 p11, .int .i64 p12, .int .i64 p13, .int .i64 p14, .int .i64 p15, .int .i64 p16, .int .i64 p17, .int .i64 p18, .int .i64 p19, .int .i64 p20, .int .i64 p21, .int .i64 p22, .int .i64 p23, .int .i64 p24, .int .i64 p25]), (.tmp 1, .val false [.addr 1 0 0]), (.tmp 3, .val false [.addr 3 0 0]), (.tmp 4, .val false [.own 38 T_A3 0 p26]), (.tmp 5, .val false [.addr 5 0 0]), (.tmp 9, .val false [.int .i64 p27])]
noncomputable def L_spec_l6Enclosed_10 (n : Nat) (F_spec_l2Has : Ft_spec_l2Has) (F_spec_l2In : Ft_spec_l2In) (F_spec_l2Empty : Ft_spec_l2Empty) (F_spec_l6Steps : Ft_spec_l6Steps) (F_spec_l6Beside : Ft_spec_l6Beside) (F_spec_l2All : Ft_spec_l2All) (F_spec_l2With : Ft_spec_l2With) (m0 m1 m2 : Nat) (p0 p1 p2 : Int) (p3 : List D_A3) (p4 p5 p6 : Int) (p7 : List D_A3) (p8 p9 : Int) (p10 p11 : Int) (p12 p13 : Int) (p14 p15 : Int) (p16 p17 : Int) (p18 p19 : Int) (p20 p21 : Int) (p22 p23 : Int) (p24 p25 : Int) (p26 : List D_A3) (p27 p28 p29 : Int) : Option (denL R_spec_l6Enclosed) := loopF (X_spec_l6Enclosed n F_spec_l2Has F_spec_l2In F_spec_l2Empty F_spec_l6Steps F_spec_l6Beside F_spec_l2All F_spec_l2With) B_spec_l6Enclosed R_spec_l6Enclosed M_spec_l6Enclosed 10 [m0, m1, m2] [(.ver, .num 1), (.box 1, .box 0 false [.int .i64 p0, .int .i64 p1, .int .i64 p2, .imm T_A3 p3 (some 3)]), (.box 3, .box 0 false [.int .i64 p4, .int .i64 p5, .int .i64 p6, .own 38 T_A3 0 p7]), (.box 5, .box 0 false [.int .i64 p8, .int .i64 p9, .int .i64 p10, .int .i64 p11, .int .i64 p12, .int .i64 p13, .int .i64 p14, .int .i64 p15, .int .i64 p16, .int .i64 p17, .int .i64 p18, .int .i64 p19, .int .i64 p20, .int .i64 p21, .int .i64 p22, .int .i64 p23, .int .i64 p24, .int .i64 p25]), (.tmp 1, .val false [.addr 1 0 0]), (.tmp 3, .val false [.addr 3 0 0]), (.tmp 4, .val false [.own 38 T_A3 0 p26]), (.tmp 5, .val false [.addr 5 0 0]), (.tmp 6, .val false [.int .i64 p27]), (.tmp 7, .val false [.int .i64 p28]), (.tmp 8, .val false [.int .i64 p29])]
noncomputable def L_spec_l6Enclosed_18 (n : Nat) (F_spec_l2Has : Ft_spec_l2Has) (F_spec_l2In : Ft_spec_l2In) (F_spec_l2Empty : Ft_spec_l2Empty) (F_spec_l6Steps : Ft_spec_l6Steps) (F_spec_l6Beside : Ft_spec_l6Beside) (F_spec_l2All : Ft_spec_l2All) (F_spec_l2With : Ft_spec_l2With) (m0 m1 : Nat) (p0 p1 p2 : Int) (p3 : List D_A3) (p4 p5 p6 : Int) (p7 : List D_A3) (p8 p9 : Int) (p10 p11 : Int) (p12 p13 : Int) (p14 p15 : Int) (p16 p17 : Int) (p18 p19 : Int) (p20 p21 : Int) (p22 p23 : Int) (p24 p25 : Int) (p26 : List D_A3) (p27 p28 : Int) : Option (denL R_spec_l6Enclosed) := loopF (X_spec_l6Enclosed n F_spec_l2Has F_spec_l2In F_spec_l2Empty F_spec_l6Steps F_spec_l6Beside F_spec_l2All F_spec_l2With) B_spec_l6Enclosed R_spec_l6Enclosed M_spec_l6Enclosed 18 [m0, m1] [(.ver, .num 1), (.box 1, .box 0 false [.int .i64 p0, .int .i64 p1, .int .i64 p2, .imm T_A3 p3 (some 3)]), (.box 3, .box 0 false [.int .i64 p4, .int .i64 p5, .int .i64 p6, .own 38 T_A3 0 p7]), (.box 5, .box 0 false [.int .i64 p8, .int .i64 p9, .int .i64 p10, .int .i64 p11, .int .i64 p12, .int .i64 p13, .int .i64 p14, .int .i64 p15, .int .i64 p16, .int .i64 p17, .int .i64 p18, .int .i64 p19, .int .i64 p20, .int .i64 p21, .int .i64 p22, .int .i64 p23, .int .i64 p24, .int .i64 p25]), (.tmp 1, .val false [.addr 1 0 0]), (.tmp 3, .val false [.addr 3 0 0]), (.tmp 4, .val false [.own 38 T_A3 0 p26]), (.tmp 5, .val false [.addr 5 0 0]), (.tmp 9, .val false [.int .i64 p27]), (.tmp 10, .val false [.int .i64 p28])]
noncomputable def L_spec_l6Enclosed_26 (n : Nat) (F_spec_l2Has : Ft_spec_l2Has) (F_spec_l2In : Ft_spec_l2In) (F_spec_l2Empty : Ft_spec_l2Empty) (F_spec_l6Steps : Ft_spec_l6Steps) (F_spec_l6Beside : Ft_spec_l6Beside) (F_spec_l2All : Ft_spec_l2All) (F_spec_l2With : Ft_spec_l2With) (m0 : Nat) (p0 p1 p2 : Int) (p3 : List D_A3) (p4 p5 p6 : Int) (p7 p8 p9 : List D_A3) (p10 : Int) : Option (denL R_spec_l6Enclosed) := loopF (X_spec_l6Enclosed n F_spec_l2Has F_spec_l2In F_spec_l2Empty F_spec_l6Steps F_spec_l6Beside F_spec_l2All F_spec_l2With) B_spec_l6Enclosed R_spec_l6Enclosed M_spec_l6Enclosed 26 [m0] [(.ver, .num 1), (.box 1, .box 0 false [.int .i64 p0, .int .i64 p1, .int .i64 p2, .imm T_A3 p3 (some 3)]), (.box 3, .box 0 false [.int .i64 p4, .int .i64 p5, .int .i64 p6, .own 38 T_A3 0 p7]), (.tmp 1, .val false [.addr 1 0 0]), (.tmp 3, .val false [.addr 3 0 0]), (.tmp 12, .val false [.own 38 T_A3 0 p8]), (.tmp 13, .val false [.own 38 T_A3 0 p9]), (.tmp 14, .val false [.int .i64 p10])]
theorem e_spec_l6Enclosed (n : Nat) (F_spec_l2Has : Ft_spec_l2Has) (F_spec_l2In : Ft_spec_l2In) (F_spec_l2Empty : Ft_spec_l2Empty) (F_spec_l6Steps : Ft_spec_l6Steps) (F_spec_l6Beside : Ft_spec_l6Beside) (F_spec_l2All : Ft_spec_l2All) (F_spec_l2With : Ft_spec_l2With) (a0 : D_Heap) : runF (X_spec_l6Enclosed n F_spec_l2Has F_spec_l2In F_spec_l2Empty F_spec_l6Steps F_spec_l6Beside F_spec_l2All F_spec_l2With) B_spec_l6Enclosed As_spec_l6Enclosed R_spec_l6Enclosed M_spec_l6Enclosed (a0, ()) = 
 Option.bind (F_spec_l2Empty (a0.1, a0.2.1, a0.2.2.1, ())) fun r0 =>
 Option.bind (F_spec_l6Steps (())) fun r1 =>
 L_spec_l6Enclosed_4 n F_spec_l2Has F_spec_l2In F_spec_l2Empty F_spec_l6Steps F_spec_l6Beside F_spec_l2All F_spec_l2With n a0.1 a0.2.1 a0.2.2.1 a0.2.2.2.1 r0.1.1 r0.1.2.1 r0.1.2.2.1 r0.1.2.2.2.1 r1.1.1.1 r1.1.1.2.1 r1.1.1.2.2.1 r1.1.2.1.1 r1.1.2.1.2.1 r1.1.2.1.2.2.1 r1.1.2.2.1.1 r1.1.2.2.1.2.1 r1.1.2.2.1.2.2.1 r1.1.2.2.2.1.1 r1.1.2.2.2.1.2.1 r1.1.2.2.2.1.2.2.1 r1.1.2.2.2.2.1.1 r1.1.2.2.2.2.1.2.1 r1.1.2.2.2.2.1.2.2.1 r1.1.2.2.2.2.2.1.1 r1.1.2.2.2.2.2.1.2.1 r1.1.2.2.2.2.2.1.2.2.1 ([] : List D_A3) (-1) := by kernel_rfl
theorem e_spec_l6Enclosed_4 (n : Nat) (F_spec_l2Has : Ft_spec_l2Has) (F_spec_l2In : Ft_spec_l2In) (F_spec_l2Empty : Ft_spec_l2Empty) (F_spec_l6Steps : Ft_spec_l6Steps) (F_spec_l6Beside : Ft_spec_l6Beside) (F_spec_l2All : Ft_spec_l2All) (F_spec_l2With : Ft_spec_l2With) (m0 : Nat) (p0 p1 p2 : Int) (p3 : List D_A3) (p4 p5 p6 : Int) (p7 : List D_A3) (p8 p9 : Int) (p10 p11 : Int) (p12 p13 : Int) (p14 p15 : Int) (p16 p17 : Int) (p18 p19 : Int) (p20 p21 : Int) (p22 p23 : Int) (p24 p25 : Int) (p26 : List D_A3) (p27 : Int) : L_spec_l6Enclosed_4 n F_spec_l2Has F_spec_l2In F_spec_l2Empty F_spec_l6Steps F_spec_l6Beside F_spec_l2All F_spec_l2With (m0 + 1) p0 p1 p2 p3 p4 p5 p6 p7 p8 p9 p10 p11 p12 p13 p14 p15 p16 p17 p18 p19 p20 p21 p22 p23 p24 p25 p26 p27 = 
 bif decide (p27 ≤ p0) then
 L_spec_l6Enclosed_7 n F_spec_l2Has F_spec_l2In F_spec_l2Empty F_spec_l6Steps F_spec_l6Beside F_spec_l2All F_spec_l2With m0 n p0 p1 p2 p3 p4 p5 p6 p7 p8 p9 p10 p11 p12 p13 p14 p15 p16 p17 p18 p19 p20 p21 p22 p23 p24 p25 p26 p27 (-1)
 else
 L_spec_l6Enclosed_15 n F_spec_l2Has F_spec_l2In F_spec_l2Empty F_spec_l6Steps F_spec_l6Beside F_spec_l2All F_spec_l2With n p0 p1 p2 p3 p4 p5 p6 p7 p8 p9 p10 p11 p12 p13 p14 p15 p16 p17 p18 p19 p20 p21 p22 p23 p24 p25 p26 0 := by kernel_rfl
theorem e_spec_l6Enclosed_7 (n : Nat) (F_spec_l2Has : Ft_spec_l2Has) (F_spec_l2In : Ft_spec_l2In) (F_spec_l2Empty : Ft_spec_l2Empty) (F_spec_l6Steps : Ft_spec_l6Steps) (F_spec_l6Beside : Ft_spec_l6Beside) (F_spec_l2All : Ft_spec_l2All) (F_spec_l2With : Ft_spec_l2With) (m0 m1 : Nat) (p0 p1 p2 : Int) (p3 : List D_A3) (p4 p5 p6 : Int) (p7 : List D_A3) (p8 p9 : Int) (p10 p11 : Int) (p12 p13 : Int) (p14 p15 : Int) (p16 p17 : Int) (p18 p19 : Int) (p20 p21 : Int) (p22 p23 : Int) (p24 p25 : Int) (p26 : List D_A3) (p27 p28 : Int) : L_spec_l6Enclosed_7 n F_spec_l2Has F_spec_l2In F_spec_l2Empty F_spec_l6Steps F_spec_l6Beside F_spec_l2All F_spec_l2With m0 (m1 + 1) p0 p1 p2 p3 p4 p5 p6 p7 p8 p9 p10 p11 p12 p13 p14 p15 p16 p17 p18 p19 p20 p21 p22 p23 p24 p25 p26 p27 p28 = 
 bif decide (p28 ≤ p1) then
 L_spec_l6Enclosed_10 n F_spec_l2Has F_spec_l2In F_spec_l2Empty F_spec_l6Steps F_spec_l6Beside F_spec_l2All F_spec_l2With m0 m1 n p0 p1 p2 p3 p4 p5 p6 p7 p8 p9 p10 p11 p12 p13 p14 p15 p16 p17 p18 p19 p20 p21 p22 p23 p24 p25 p26 p27 p28 (-1)
 else
 L_spec_l6Enclosed_4 n F_spec_l2Has F_spec_l2In F_spec_l2Empty F_spec_l6Steps F_spec_l6Beside F_spec_l2All F_spec_l2With m0 p0 p1 p2 p3 p4 p5 p6 p7 p8 p9 p10 p11 p12 p13 p14 p15 p16 p17 p18 p19 p20 p21 p22 p23 p24 p25 p26 (IntKind.wrap .i64 (p27 + 1)) := by kernel_rfl
theorem e_spec_l6Enclosed_15 (n : Nat) (F_spec_l2Has : Ft_spec_l2Has) (F_spec_l2In : Ft_spec_l2In) (F_spec_l2Empty : Ft_spec_l2Empty) (F_spec_l6Steps : Ft_spec_l6Steps) (F_spec_l6Beside : Ft_spec_l6Beside) (F_spec_l2All : Ft_spec_l2All) (F_spec_l2With : Ft_spec_l2With) (m0 : Nat) (p0 p1 p2 : Int) (p3 : List D_A3) (p4 p5 p6 : Int) (p7 : List D_A3) (p8 p9 : Int) (p10 p11 : Int) (p12 p13 : Int) (p14 p15 : Int) (p16 p17 : Int) (p18 p19 : Int) (p20 p21 : Int) (p22 p23 : Int) (p24 p25 : Int) (p26 : List D_A3) (p27 : Int) : L_spec_l6Enclosed_15 n F_spec_l2Has F_spec_l2In F_spec_l2Empty F_spec_l6Steps F_spec_l6Beside F_spec_l2All F_spec_l2With (m0 + 1) p0 p1 p2 p3 p4 p5 p6 p7 p8 p9 p10 p11 p12 p13 p14 p15 p16 p17 p18 p19 p20 p21 p22 p23 p24 p25 p26 p27 = 
 bif decide (p27 < (List.length p26 : Int)) then
 L_spec_l6Enclosed_18 n F_spec_l2Has F_spec_l2In F_spec_l2Empty F_spec_l6Steps F_spec_l6Beside F_spec_l2All F_spec_l2With m0 n p0 p1 p2 p3 p4 p5 p6 p7 p8 p9 p10 p11 p12 p13 p14 p15 p16 p17 p18 p19 p20 p21 p22 p23 p24 p25 p26 p27 0
 else
 Option.bind (F_spec_l2All ((p0, (p1, (p2, (p3, ())))), ())) fun r1 =>
 L_spec_l6Enclosed_26 n F_spec_l2Has F_spec_l2In F_spec_l2Empty F_spec_l6Steps F_spec_l6Beside F_spec_l2All F_spec_l2With n p0 p1 p2 p3 p4 p5 p6 p7 ([] : List D_A3) r1.1 0 := by kernel_rfl
theorem e_spec_l6Enclosed_10 (n : Nat) (F_spec_l2Has : Ft_spec_l2Has) (F_spec_l2In : Ft_spec_l2In) (F_spec_l2Empty : Ft_spec_l2Empty) (F_spec_l6Steps : Ft_spec_l6Steps) (F_spec_l6Beside : Ft_spec_l6Beside) (F_spec_l2All : Ft_spec_l2All) (F_spec_l2With : Ft_spec_l2With) (m0 m1 m2 : Nat) (p0 p1 p2 : Int) (p3 : List D_A3) (p4 p5 p6 : Int) (p7 : List D_A3) (p8 p9 : Int) (p10 p11 : Int) (p12 p13 : Int) (p14 p15 : Int) (p16 p17 : Int) (p18 p19 : Int) (p20 p21 : Int) (p22 p23 : Int) (p24 p25 : Int) (p26 : List D_A3) (p27 p28 p29 : Int) : L_spec_l6Enclosed_10 n F_spec_l2Has F_spec_l2In F_spec_l2Empty F_spec_l6Steps F_spec_l6Beside F_spec_l2All F_spec_l2With m0 m1 (m2 + 1) p0 p1 p2 p3 p4 p5 p6 p7 p8 p9 p10 p11 p12 p13 p14 p15 p16 p17 p18 p19 p20 p21 p22 p23 p24 p25 p26 p27 p28 p29 = 
 bif decide (p29 ≤ p2) then
 Option.bind (F_spec_l2In ((p0, (p1, (p2, (p3, ())))), (p27, (p28, (p29, ()))), ())) fun r1 =>
 bif !r1.1 then
 bif (decide (((List.length p26) + (List.length ([(p27, (p28, (p29, ())))] : List D_A3))) * 24 ≤ 140737488355328) && decide (((List.length p26) + (List.length ([(p27, (p28, (p29, ())))] : List D_A3))) ≤ 140737488355328)) then
 L_spec_l6Enclosed_10 n F_spec_l2Has F_spec_l2In F_spec_l2Empty F_spec_l6Steps F_spec_l6Beside F_spec_l2All F_spec_l2With m0 m1 m2 p0 p1 p2 p3 p4 p5 p6 p7 p8 p9 p10 p11 p12 p13 p14 p15 p16 p17 p18 p19 p20 p21 p22 p23 p24 p25 (p26 ++ ([(p27, (p28, (p29, ())))] : List D_A3)) p27 p28 (IntKind.wrap .i64 (p29 + 1))
 else none
 else
 L_spec_l6Enclosed_10 n F_spec_l2Has F_spec_l2In F_spec_l2Empty F_spec_l6Steps F_spec_l6Beside F_spec_l2All F_spec_l2With m0 m1 m2 p0 p1 p2 p3 p4 p5 p6 p7 p8 p9 p10 p11 p12 p13 p14 p15 p16 p17 p18 p19 p20 p21 p22 p23 p24 p25 p26 p27 p28 (IntKind.wrap .i64 (p29 + 1))
 else
 L_spec_l6Enclosed_7 n F_spec_l2Has F_spec_l2In F_spec_l2Empty F_spec_l6Steps F_spec_l6Beside F_spec_l2All F_spec_l2With m0 m1 p0 p1 p2 p3 p4 p5 p6 p7 p8 p9 p10 p11 p12 p13 p14 p15 p16 p17 p18 p19 p20 p21 p22 p23 p24 p25 p26 p27 (IntKind.wrap .i64 (p28 + 1)) := by kernel_rfl
theorem e_spec_l6Enclosed_18 (n : Nat) (F_spec_l2Has : Ft_spec_l2Has) (F_spec_l2In : Ft_spec_l2In) (F_spec_l2Empty : Ft_spec_l2Empty) (F_spec_l6Steps : Ft_spec_l6Steps) (F_spec_l6Beside : Ft_spec_l6Beside) (F_spec_l2All : Ft_spec_l2All) (F_spec_l2With : Ft_spec_l2With) (m0 m1 : Nat) (p0 p1 p2 : Int) (p3 : List D_A3) (p4 p5 p6 : Int) (p7 : List D_A3) (p8 p9 : Int) (p10 p11 : Int) (p12 p13 : Int) (p14 p15 : Int) (p16 p17 : Int) (p18 p19 : Int) (p20 p21 : Int) (p22 p23 : Int) (p24 p25 : Int) (p26 : List D_A3) (p27 p28 : Int) : L_spec_l6Enclosed_18 n F_spec_l2Has F_spec_l2In F_spec_l2Empty F_spec_l6Steps F_spec_l6Beside F_spec_l2All F_spec_l2With m0 (m1 + 1) p0 p1 p2 p3 p4 p5 p6 p7 p8 p9 p10 p11 p12 p13 p14 p15 p16 p17 p18 p19 p20 p21 p22 p23 p24 p25 p26 p27 p28 = 
 bif decide (p28 < 6) then
 bif inB p27 (List.length p26) then
 bif inB p28 6 then
 Option.bind (F_spec_l6Beside ((nth T_A3 p26 p27), ((bif decide (p28 = (0 : Int)) then p8 else (bif decide (p28 = (1 : Int)) then p11 else (bif decide (p28 = (2 : Int)) then p14 else (bif decide (p28 = (3 : Int)) then p17 else (bif decide (p28 = (4 : Int)) then p20 else p23))))), ((bif decide (p28 = (0 : Int)) then p9 else (bif decide (p28 = (1 : Int)) then p12 else (bif decide (p28 = (2 : Int)) then p15 else (bif decide (p28 = (3 : Int)) then p18 else (bif decide (p28 = (4 : Int)) then p21 else p24))))), ((bif decide (p28 = (0 : Int)) then p10 else (bif decide (p28 = (1 : Int)) then p13 else (bif decide (p28 = (2 : Int)) then p16 else (bif decide (p28 = (3 : Int)) then p19 else (bif decide (p28 = (4 : Int)) then p22 else p25))))), ()))), ())) fun r3 =>
 Option.bind (F_spec_l2In ((p0, (p1, (p2, (p3, ())))), r3.1, ())) fun r4 =>
 bif r4.1 then
 Option.bind (F_spec_l2Has ((p0, (p1, (p2, (p3, ())))), r3.1, ())) fun r6 =>
 bif !r6.1 then
 Option.bind (F_spec_l2Has ((p4, (p5, (p6, (p7, ())))), r3.1, ())) fun r8 =>
 bif !r8.1 then
 Option.bind (F_spec_l2With ((p4, (p5, (p6, (p7, ())))), r3.1, ())) fun r10 =>
 bif (decide (((List.length p26) + (List.length ([r3.1] : List D_A3))) * 24 ≤ 140737488355328) && decide (((List.length p26) + (List.length ([r3.1] : List D_A3))) ≤ 140737488355328)) then
 L_spec_l6Enclosed_18 n F_spec_l2Has F_spec_l2In F_spec_l2Empty F_spec_l6Steps F_spec_l6Beside F_spec_l2All F_spec_l2With m0 m1 p0 p1 p2 p3 r10.1.1 r10.1.2.1 r10.1.2.2.1 r10.1.2.2.2.1 p8 p9 p10 p11 p12 p13 p14 p15 p16 p17 p18 p19 p20 p21 p22 p23 p24 p25 (p26 ++ ([r3.1] : List D_A3)) p27 (IntKind.wrap .i64 (p28 + 1))
 else none
 else
 L_spec_l6Enclosed_18 n F_spec_l2Has F_spec_l2In F_spec_l2Empty F_spec_l6Steps F_spec_l6Beside F_spec_l2All F_spec_l2With m0 m1 p0 p1 p2 p3 p4 p5 p6 p7 p8 p9 p10 p11 p12 p13 p14 p15 p16 p17 p18 p19 p20 p21 p22 p23 p24 p25 p26 p27 (IntKind.wrap .i64 (p28 + 1))
 else
 L_spec_l6Enclosed_18 n F_spec_l2Has F_spec_l2In F_spec_l2Empty F_spec_l6Steps F_spec_l6Beside F_spec_l2All F_spec_l2With m0 m1 p0 p1 p2 p3 p4 p5 p6 p7 p8 p9 p10 p11 p12 p13 p14 p15 p16 p17 p18 p19 p20 p21 p22 p23 p24 p25 p26 p27 (IntKind.wrap .i64 (p28 + 1))
 else
 L_spec_l6Enclosed_18 n F_spec_l2Has F_spec_l2In F_spec_l2Empty F_spec_l6Steps F_spec_l6Beside F_spec_l2All F_spec_l2With m0 m1 p0 p1 p2 p3 p4 p5 p6 p7 p8 p9 p10 p11 p12 p13 p14 p15 p16 p17 p18 p19 p20 p21 p22 p23 p24 p25 p26 p27 (IntKind.wrap .i64 (p28 + 1))
 else none
 else none
 else
 L_spec_l6Enclosed_15 n F_spec_l2Has F_spec_l2In F_spec_l2Empty F_spec_l6Steps F_spec_l6Beside F_spec_l2All F_spec_l2With m0 p0 p1 p2 p3 p4 p5 p6 p7 p8 p9 p10 p11 p12 p13 p14 p15 p16 p17 p18 p19 p20 p21 p22 p23 p24 p25 p26 (IntKind.wrap .i64 (p27 + 1)) := by kernel_rfl
theorem e_spec_l6Enclosed_26 (n : Nat) (F_spec_l2Has : Ft_spec_l2Has) (F_spec_l2In : Ft_spec_l2In) (F_spec_l2Empty : Ft_spec_l2Empty) (F_spec_l6Steps : Ft_spec_l6Steps) (F_spec_l6Beside : Ft_spec_l6Beside) (F_spec_l2All : Ft_spec_l2All) (F_spec_l2With : Ft_spec_l2With) (m0 : Nat) (p0 p1 p2 : Int) (p3 : List D_A3) (p4 p5 p6 : Int) (p7 p8 p9 : List D_A3) (p10 : Int) : L_spec_l6Enclosed_26 n F_spec_l2Has F_spec_l2In F_spec_l2Empty F_spec_l6Steps F_spec_l6Beside F_spec_l2All F_spec_l2With (m0 + 1) p0 p1 p2 p3 p4 p5 p6 p7 p8 p9 p10 = 
 bif decide (p10 < (List.length p9 : Int)) then
 bif inB p10 (List.length p9) then
 Option.bind (F_spec_l2Has ((p0, (p1, (p2, (p3, ())))), (nth T_A3 p9 p10), ())) fun r2 =>
 bif !r2.1 then
 bif inB p10 (List.length p9) then
 Option.bind (F_spec_l2Has ((p4, (p5, (p6, (p7, ())))), (nth T_A3 p9 p10), ())) fun r5 =>
 bif !r5.1 then
 bif inB p10 (List.length p9) then
 bif (decide (((List.length p8) + (List.length ([(nth T_A3 p9 p10)] : List D_A3))) * 24 ≤ 140737488355328) && decide (((List.length p8) + (List.length ([(nth T_A3 p9 p10)] : List D_A3))) ≤ 140737488355328)) then
 L_spec_l6Enclosed_26 n F_spec_l2Has F_spec_l2In F_spec_l2Empty F_spec_l6Steps F_spec_l6Beside F_spec_l2All F_spec_l2With m0 p0 p1 p2 p3 p4 p5 p6 p7 (p8 ++ ([(nth T_A3 p9 p10)] : List D_A3)) p9 (IntKind.wrap .i64 (p10 + 1))
 else none
 else none
 else
 L_spec_l6Enclosed_26 n F_spec_l2Has F_spec_l2In F_spec_l2Empty F_spec_l6Steps F_spec_l6Beside F_spec_l2All F_spec_l2With m0 p0 p1 p2 p3 p4 p5 p6 p7 p8 p9 (IntKind.wrap .i64 (p10 + 1))
 else none
 else
 L_spec_l6Enclosed_26 n F_spec_l2Has F_spec_l2In F_spec_l2Empty F_spec_l6Steps F_spec_l6Beside F_spec_l2All F_spec_l2With m0 p0 p1 p2 p3 p4 p5 p6 p7 p8 p9 (IntKind.wrap .i64 (p10 + 1))
 else none
 else
 some (p8, ()) := by kernel_rfl
noncomputable def P_spec_l6Enclosed : Ft_spec_l6Enclosed := hid (runF (X_spec_l6Enclosed N P_spec_l2Has P_spec_l2In P_spec_l2Empty P_spec_l6Steps P_spec_l6Beside P_spec_l2All P_spec_l2With) B_spec_l6Enclosed As_spec_l6Enclosed R_spec_l6Enclosed M_spec_l6Enclosed)
theorem h_spec_l6Enclosed : P_spec_l6Enclosed = runF (X_spec_l6Enclosed N P_spec_l2Has P_spec_l2In P_spec_l2Empty P_spec_l6Steps P_spec_l6Beside P_spec_l2All P_spec_l2With) B_spec_l6Enclosed As_spec_l6Enclosed R_spec_l6Enclosed M_spec_l6Enclosed := hid_eq _
noncomputable def C_spec_l6Enclosed : Contract := ⟨As_spec_l6Enclosed, R_spec_l6Enclosed, M_spec_l6Enclosed, P_spec_l6Enclosed⟩
theorem s_spec_l6Enclosed : Sound Tryz.prog GG 99 C_spec_l6Enclosed := by
 unfold C_spec_l6Enclosed; rw [h_spec_l6Enclosed]
 exact sound_of_run (fn := Tryz.f99) hmix hstable (tyOK_of ttOK) (hglob (X_spec_l6Enclosed N P_spec_l2Has P_spec_l2In P_spec_l2Empty P_spec_l6Steps P_spec_l6Beside P_spec_l2All P_spec_l2With)) (conOK_of (X := X_spec_l6Enclosed N P_spec_l2Has P_spec_l2In P_spec_l2Empty P_spec_l6Steps P_spec_l6Beside P_spec_l2All P_spec_l2With) ⟨s_spec_l2Has, s_spec_l2In, s_spec_l2Empty, s_spec_l6Steps, s_spec_l6Beside, s_spec_l2All, s_spec_l2With, trivial⟩) (mconOK_of (X := X_spec_l6Enclosed N P_spec_l2Has P_spec_l2In P_spec_l2Empty P_spec_l6Steps P_spec_l6Beside P_spec_l2All P_spec_l2With) trivial) (by kernel_rfl) (by kernel_rfl) (by kernel_rfl) (by kernel_rfl) (by kernel_rfl) (of_decide_eq_true (by kernel_rfl))
noncomputable def l_spec_l6Enclosed_4 : Nat → Int → Int → Int → (List D_A3) → Int → Int → Int → (List D_A3) → Int → Int → Int → Int → Int → Int → Int → Int → Int → Int → Int → Int → Int → Int → Int → Int → Int → Int → (List D_A3) → Int → Option (denL R_spec_l6Enclosed) := hid (fun m0 p0 p1 p2 p3 p4 p5 p6 p7 p8 p9 p10 p11 p12 p13 p14 p15 p16 p17 p18 p19 p20 p21 p22 p23 p24 p25 p26 p27 => L_spec_l6Enclosed_4 N P_spec_l2Has P_spec_l2In P_spec_l2Empty P_spec_l6Steps P_spec_l6Beside P_spec_l2All P_spec_l2With m0 p0 p1 p2 p3 p4 p5 p6 p7 p8 p9 p10 p11 p12 p13 p14 p15 p16 p17 p18 p19 p20 p21 p22 p23 p24 p25 p26 p27)
theorem h_spec_l6Enclosed_4 : l_spec_l6Enclosed_4 = fun m0 p0 p1 p2 p3 p4 p5 p6 p7 p8 p9 p10 p11 p12 p13 p14 p15 p16 p17 p18 p19 p20 p21 p22 p23 p24 p25 p26 p27 => L_spec_l6Enclosed_4 N P_spec_l2Has P_spec_l2In P_spec_l2Empty P_spec_l6Steps P_spec_l6Beside P_spec_l2All P_spec_l2With m0 p0 p1 p2 p3 p4 p5 p6 p7 p8 p9 p10 p11 p12 p13 p14 p15 p16 p17 p18 p19 p20 p21 p22 p23 p24 p25 p26 p27 := hid_eq _
noncomputable def l_spec_l6Enclosed_7 : Nat → Nat → Int → Int → Int → (List D_A3) → Int → Int → Int → (List D_A3) → Int → Int → Int → Int → Int → Int → Int → Int → Int → Int → Int → Int → Int → Int → Int → Int → Int → Int → (List D_A3) → Int → Int → Option (denL R_spec_l6Enclosed) := hid (fun m0 m1 p0 p1 p2 p3 p4 p5 p6 p7 p8 p9 p10 p11 p12 p13 p14 p15 p16 p17 p18 p19 p20 p21 p22 p23 p24 p25 p26 p27 p28 => L_spec_l6Enclosed_7 N P_spec_l2Has P_spec_l2In P_spec_l2Empty P_spec_l6Steps P_spec_l6Beside P_spec_l2All P_spec_l2With m0 m1 p0 p1 p2 p3 p4 p5 p6 p7 p8 p9 p10 p11 p12 p13 p14 p15 p16 p17 p18 p19 p20 p21 p22 p23 p24 p25 p26 p27 p28)
theorem h_spec_l6Enclosed_7 : l_spec_l6Enclosed_7 = fun m0 m1 p0 p1 p2 p3 p4 p5 p6 p7 p8 p9 p10 p11 p12 p13 p14 p15 p16 p17 p18 p19 p20 p21 p22 p23 p24 p25 p26 p27 p28 => L_spec_l6Enclosed_7 N P_spec_l2Has P_spec_l2In P_spec_l2Empty P_spec_l6Steps P_spec_l6Beside P_spec_l2All P_spec_l2With m0 m1 p0 p1 p2 p3 p4 p5 p6 p7 p8 p9 p10 p11 p12 p13 p14 p15 p16 p17 p18 p19 p20 p21 p22 p23 p24 p25 p26 p27 p28 := hid_eq _
noncomputable def l_spec_l6Enclosed_15 : Nat → Int → Int → Int → (List D_A3) → Int → Int → Int → (List D_A3) → Int → Int → Int → Int → Int → Int → Int → Int → Int → Int → Int → Int → Int → Int → Int → Int → Int → Int → (List D_A3) → Int → Option (denL R_spec_l6Enclosed) := hid (fun m0 p0 p1 p2 p3 p4 p5 p6 p7 p8 p9 p10 p11 p12 p13 p14 p15 p16 p17 p18 p19 p20 p21 p22 p23 p24 p25 p26 p27 => L_spec_l6Enclosed_15 N P_spec_l2Has P_spec_l2In P_spec_l2Empty P_spec_l6Steps P_spec_l6Beside P_spec_l2All P_spec_l2With m0 p0 p1 p2 p3 p4 p5 p6 p7 p8 p9 p10 p11 p12 p13 p14 p15 p16 p17 p18 p19 p20 p21 p22 p23 p24 p25 p26 p27)
theorem h_spec_l6Enclosed_15 : l_spec_l6Enclosed_15 = fun m0 p0 p1 p2 p3 p4 p5 p6 p7 p8 p9 p10 p11 p12 p13 p14 p15 p16 p17 p18 p19 p20 p21 p22 p23 p24 p25 p26 p27 => L_spec_l6Enclosed_15 N P_spec_l2Has P_spec_l2In P_spec_l2Empty P_spec_l6Steps P_spec_l6Beside P_spec_l2All P_spec_l2With m0 p0 p1 p2 p3 p4 p5 p6 p7 p8 p9 p10 p11 p12 p13 p14 p15 p16 p17 p18 p19 p20 p21 p22 p23 p24 p25 p26 p27 := hid_eq _
noncomputable def l_spec_l6Enclosed_10 : Nat → Nat → Nat → Int → Int → Int → (List D_A3) → Int → Int → Int → (List D_A3) → Int → Int → Int → Int → Int → Int → Int → Int → Int → Int → Int → Int → Int → Int → Int → Int → Int → Int → (List D_A3) → Int → Int → Int → Option (denL R_spec_l6Enclosed) := hid (fun m0 m1 m2 p0 p1 p2 p3 p4 p5 p6 p7 p8 p9 p10 p11 p12 p13 p14 p15 p16 p17 p18 p19 p20 p21 p22 p23 p24 p25 p26 p27 p28 p29 => L_spec_l6Enclosed_10 N P_spec_l2Has P_spec_l2In P_spec_l2Empty P_spec_l6Steps P_spec_l6Beside P_spec_l2All P_spec_l2With m0 m1 m2 p0 p1 p2 p3 p4 p5 p6 p7 p8 p9 p10 p11 p12 p13 p14 p15 p16 p17 p18 p19 p20 p21 p22 p23 p24 p25 p26 p27 p28 p29)
theorem h_spec_l6Enclosed_10 : l_spec_l6Enclosed_10 = fun m0 m1 m2 p0 p1 p2 p3 p4 p5 p6 p7 p8 p9 p10 p11 p12 p13 p14 p15 p16 p17 p18 p19 p20 p21 p22 p23 p24 p25 p26 p27 p28 p29 => L_spec_l6Enclosed_10 N P_spec_l2Has P_spec_l2In P_spec_l2Empty P_spec_l6Steps P_spec_l6Beside P_spec_l2All P_spec_l2With m0 m1 m2 p0 p1 p2 p3 p4 p5 p6 p7 p8 p9 p10 p11 p12 p13 p14 p15 p16 p17 p18 p19 p20 p21 p22 p23 p24 p25 p26 p27 p28 p29 := hid_eq _
noncomputable def l_spec_l6Enclosed_18 : Nat → Nat → Int → Int → Int → (List D_A3) → Int → Int → Int → (List D_A3) → Int → Int → Int → Int → Int → Int → Int → Int → Int → Int → Int → Int → Int → Int → Int → Int → Int → Int → (List D_A3) → Int → Int → Option (denL R_spec_l6Enclosed) := hid (fun m0 m1 p0 p1 p2 p3 p4 p5 p6 p7 p8 p9 p10 p11 p12 p13 p14 p15 p16 p17 p18 p19 p20 p21 p22 p23 p24 p25 p26 p27 p28 => L_spec_l6Enclosed_18 N P_spec_l2Has P_spec_l2In P_spec_l2Empty P_spec_l6Steps P_spec_l6Beside P_spec_l2All P_spec_l2With m0 m1 p0 p1 p2 p3 p4 p5 p6 p7 p8 p9 p10 p11 p12 p13 p14 p15 p16 p17 p18 p19 p20 p21 p22 p23 p24 p25 p26 p27 p28)
theorem h_spec_l6Enclosed_18 : l_spec_l6Enclosed_18 = fun m0 m1 p0 p1 p2 p3 p4 p5 p6 p7 p8 p9 p10 p11 p12 p13 p14 p15 p16 p17 p18 p19 p20 p21 p22 p23 p24 p25 p26 p27 p28 => L_spec_l6Enclosed_18 N P_spec_l2Has P_spec_l2In P_spec_l2Empty P_spec_l6Steps P_spec_l6Beside P_spec_l2All P_spec_l2With m0 m1 p0 p1 p2 p3 p4 p5 p6 p7 p8 p9 p10 p11 p12 p13 p14 p15 p16 p17 p18 p19 p20 p21 p22 p23 p24 p25 p26 p27 p28 := hid_eq _
noncomputable def l_spec_l6Enclosed_26 : Nat → Int → Int → Int → (List D_A3) → Int → Int → Int → (List D_A3) → (List D_A3) → (List D_A3) → Int → Option (denL R_spec_l6Enclosed) := hid (fun m0 p0 p1 p2 p3 p4 p5 p6 p7 p8 p9 p10 => L_spec_l6Enclosed_26 N P_spec_l2Has P_spec_l2In P_spec_l2Empty P_spec_l6Steps P_spec_l6Beside P_spec_l2All P_spec_l2With m0 p0 p1 p2 p3 p4 p5 p6 p7 p8 p9 p10)
theorem h_spec_l6Enclosed_26 : l_spec_l6Enclosed_26 = fun m0 p0 p1 p2 p3 p4 p5 p6 p7 p8 p9 p10 => L_spec_l6Enclosed_26 N P_spec_l2Has P_spec_l2In P_spec_l2Empty P_spec_l6Steps P_spec_l6Beside P_spec_l2All P_spec_l2With m0 p0 p1 p2 p3 p4 p5 p6 p7 p8 p9 p10 := hid_eq _
theorem p_spec_l6Enclosed (a0 : D_Heap) : P_spec_l6Enclosed (a0, ()) = 
 Option.bind (P_spec_l2Empty (a0.1, a0.2.1, a0.2.2.1, ())) fun r0 =>
 Option.bind (P_spec_l6Steps (())) fun r1 =>
 l_spec_l6Enclosed_4 N a0.1 a0.2.1 a0.2.2.1 a0.2.2.2.1 r0.1.1 r0.1.2.1 r0.1.2.2.1 r0.1.2.2.2.1 r1.1.1.1 r1.1.1.2.1 r1.1.1.2.2.1 r1.1.2.1.1 r1.1.2.1.2.1 r1.1.2.1.2.2.1 r1.1.2.2.1.1 r1.1.2.2.1.2.1 r1.1.2.2.1.2.2.1 r1.1.2.2.2.1.1 r1.1.2.2.2.1.2.1 r1.1.2.2.2.1.2.2.1 r1.1.2.2.2.2.1.1 r1.1.2.2.2.2.1.2.1 r1.1.2.2.2.2.1.2.2.1 r1.1.2.2.2.2.2.1.1 r1.1.2.2.2.2.2.1.2.1 r1.1.2.2.2.2.2.1.2.2.1 ([] : List D_A3) (-1) := by
 rewrite [h_spec_l6Enclosed, h_spec_l6Enclosed_4]
 exact e_spec_l6Enclosed N P_spec_l2Has P_spec_l2In P_spec_l2Empty P_spec_l6Steps P_spec_l6Beside P_spec_l2All P_spec_l2With a0
theorem q_spec_l6Enclosed_4 (m0 : Nat) (p0 p1 p2 : Int) (p3 : List D_A3) (p4 p5 p6 : Int) (p7 : List D_A3) (p8 p9 : Int) (p10 p11 : Int) (p12 p13 : Int) (p14 p15 : Int) (p16 p17 : Int) (p18 p19 : Int) (p20 p21 : Int) (p22 p23 : Int) (p24 p25 : Int) (p26 : List D_A3) (p27 : Int) : l_spec_l6Enclosed_4 (m0 + 1) p0 p1 p2 p3 p4 p5 p6 p7 p8 p9 p10 p11 p12 p13 p14 p15 p16 p17 p18 p19 p20 p21 p22 p23 p24 p25 p26 p27 = 
 bif decide (p27 ≤ p0) then
 l_spec_l6Enclosed_7 m0 N p0 p1 p2 p3 p4 p5 p6 p7 p8 p9 p10 p11 p12 p13 p14 p15 p16 p17 p18 p19 p20 p21 p22 p23 p24 p25 p26 p27 (-1)
 else
 l_spec_l6Enclosed_15 N p0 p1 p2 p3 p4 p5 p6 p7 p8 p9 p10 p11 p12 p13 p14 p15 p16 p17 p18 p19 p20 p21 p22 p23 p24 p25 p26 0 := by
 rewrite [h_spec_l6Enclosed_4, h_spec_l6Enclosed_7, h_spec_l6Enclosed_15]
 exact e_spec_l6Enclosed_4 N P_spec_l2Has P_spec_l2In P_spec_l2Empty P_spec_l6Steps P_spec_l6Beside P_spec_l2All P_spec_l2With m0 p0 p1 p2 p3 p4 p5 p6 p7 p8 p9 p10 p11 p12 p13 p14 p15 p16 p17 p18 p19 p20 p21 p22 p23 p24 p25 p26 p27
theorem q_spec_l6Enclosed_7 (m0 m1 : Nat) (p0 p1 p2 : Int) (p3 : List D_A3) (p4 p5 p6 : Int) (p7 : List D_A3) (p8 p9 : Int) (p10 p11 : Int) (p12 p13 : Int) (p14 p15 : Int) (p16 p17 : Int) (p18 p19 : Int) (p20 p21 : Int) (p22 p23 : Int) (p24 p25 : Int) (p26 : List D_A3) (p27 p28 : Int) : l_spec_l6Enclosed_7 m0 (m1 + 1) p0 p1 p2 p3 p4 p5 p6 p7 p8 p9 p10 p11 p12 p13 p14 p15 p16 p17 p18 p19 p20 p21 p22 p23 p24 p25 p26 p27 p28 = 
 bif decide (p28 ≤ p1) then
 l_spec_l6Enclosed_10 m0 m1 N p0 p1 p2 p3 p4 p5 p6 p7 p8 p9 p10 p11 p12 p13 p14 p15 p16 p17 p18 p19 p20 p21 p22 p23 p24 p25 p26 p27 p28 (-1)
 else
 l_spec_l6Enclosed_4 m0 p0 p1 p2 p3 p4 p5 p6 p7 p8 p9 p10 p11 p12 p13 p14 p15 p16 p17 p18 p19 p20 p21 p22 p23 p24 p25 p26 (IntKind.wrap .i64 (p27 + 1)) := by
 rewrite [h_spec_l6Enclosed_4, h_spec_l6Enclosed_7, h_spec_l6Enclosed_10]
 exact e_spec_l6Enclosed_7 N P_spec_l2Has P_spec_l2In P_spec_l2Empty P_spec_l6Steps P_spec_l6Beside P_spec_l2All P_spec_l2With m0 m1 p0 p1 p2 p3 p4 p5 p6 p7 p8 p9 p10 p11 p12 p13 p14 p15 p16 p17 p18 p19 p20 p21 p22 p23 p24 p25 p26 p27 p28
theorem q_spec_l6Enclosed_15 (m0 : Nat) (p0 p1 p2 : Int) (p3 : List D_A3) (p4 p5 p6 : Int) (p7 : List D_A3) (p8 p9 : Int) (p10 p11 : Int) (p12 p13 : Int) (p14 p15 : Int) (p16 p17 : Int) (p18 p19 : Int) (p20 p21 : Int) (p22 p23 : Int) (p24 p25 : Int) (p26 : List D_A3) (p27 : Int) : l_spec_l6Enclosed_15 (m0 + 1) p0 p1 p2 p3 p4 p5 p6 p7 p8 p9 p10 p11 p12 p13 p14 p15 p16 p17 p18 p19 p20 p21 p22 p23 p24 p25 p26 p27 = 
 bif decide (p27 < (List.length p26 : Int)) then
 l_spec_l6Enclosed_18 m0 N p0 p1 p2 p3 p4 p5 p6 p7 p8 p9 p10 p11 p12 p13 p14 p15 p16 p17 p18 p19 p20 p21 p22 p23 p24 p25 p26 p27 0
 else
 Option.bind (P_spec_l2All ((p0, (p1, (p2, (p3, ())))), ())) fun r1 =>
 l_spec_l6Enclosed_26 N p0 p1 p2 p3 p4 p5 p6 p7 ([] : List D_A3) r1.1 0 := by
 rewrite [h_spec_l6Enclosed_15, h_spec_l6Enclosed_18, h_spec_l6Enclosed_26]
 exact e_spec_l6Enclosed_15 N P_spec_l2Has P_spec_l2In P_spec_l2Empty P_spec_l6Steps P_spec_l6Beside P_spec_l2All P_spec_l2With m0 p0 p1 p2 p3 p4 p5 p6 p7 p8 p9 p10 p11 p12 p13 p14 p15 p16 p17 p18 p19 p20 p21 p22 p23 p24 p25 p26 p27
theorem q_spec_l6Enclosed_10 (m0 m1 m2 : Nat) (p0 p1 p2 : Int) (p3 : List D_A3) (p4 p5 p6 : Int) (p7 : List D_A3) (p8 p9 : Int) (p10 p11 : Int) (p12 p13 : Int) (p14 p15 : Int) (p16 p17 : Int) (p18 p19 : Int) (p20 p21 : Int) (p22 p23 : Int) (p24 p25 : Int) (p26 : List D_A3) (p27 p28 p29 : Int) : l_spec_l6Enclosed_10 m0 m1 (m2 + 1) p0 p1 p2 p3 p4 p5 p6 p7 p8 p9 p10 p11 p12 p13 p14 p15 p16 p17 p18 p19 p20 p21 p22 p23 p24 p25 p26 p27 p28 p29 = 
 bif decide (p29 ≤ p2) then
 Option.bind (P_spec_l2In ((p0, (p1, (p2, (p3, ())))), (p27, (p28, (p29, ()))), ())) fun r1 =>
 bif !r1.1 then
 bif (decide (((List.length p26) + (List.length ([(p27, (p28, (p29, ())))] : List D_A3))) * 24 ≤ 140737488355328) && decide (((List.length p26) + (List.length ([(p27, (p28, (p29, ())))] : List D_A3))) ≤ 140737488355328)) then
 l_spec_l6Enclosed_10 m0 m1 m2 p0 p1 p2 p3 p4 p5 p6 p7 p8 p9 p10 p11 p12 p13 p14 p15 p16 p17 p18 p19 p20 p21 p22 p23 p24 p25 (p26 ++ ([(p27, (p28, (p29, ())))] : List D_A3)) p27 p28 (IntKind.wrap .i64 (p29 + 1))
 else none
 else
 l_spec_l6Enclosed_10 m0 m1 m2 p0 p1 p2 p3 p4 p5 p6 p7 p8 p9 p10 p11 p12 p13 p14 p15 p16 p17 p18 p19 p20 p21 p22 p23 p24 p25 p26 p27 p28 (IntKind.wrap .i64 (p29 + 1))
 else
 l_spec_l6Enclosed_7 m0 m1 p0 p1 p2 p3 p4 p5 p6 p7 p8 p9 p10 p11 p12 p13 p14 p15 p16 p17 p18 p19 p20 p21 p22 p23 p24 p25 p26 p27 (IntKind.wrap .i64 (p28 + 1)) := by
 rewrite [h_spec_l6Enclosed_7, h_spec_l6Enclosed_10]
 exact e_spec_l6Enclosed_10 N P_spec_l2Has P_spec_l2In P_spec_l2Empty P_spec_l6Steps P_spec_l6Beside P_spec_l2All P_spec_l2With m0 m1 m2 p0 p1 p2 p3 p4 p5 p6 p7 p8 p9 p10 p11 p12 p13 p14 p15 p16 p17 p18 p19 p20 p21 p22 p23 p24 p25 p26 p27 p28 p29
theorem q_spec_l6Enclosed_18 (m0 m1 : Nat) (p0 p1 p2 : Int) (p3 : List D_A3) (p4 p5 p6 : Int) (p7 : List D_A3) (p8 p9 : Int) (p10 p11 : Int) (p12 p13 : Int) (p14 p15 : Int) (p16 p17 : Int) (p18 p19 : Int) (p20 p21 : Int) (p22 p23 : Int) (p24 p25 : Int) (p26 : List D_A3) (p27 p28 : Int) : l_spec_l6Enclosed_18 m0 (m1 + 1) p0 p1 p2 p3 p4 p5 p6 p7 p8 p9 p10 p11 p12 p13 p14 p15 p16 p17 p18 p19 p20 p21 p22 p23 p24 p25 p26 p27 p28 = 
 bif decide (p28 < 6) then
 bif inB p27 (List.length p26) then
 bif inB p28 6 then
 Option.bind (P_spec_l6Beside ((nth T_A3 p26 p27), ((bif decide (p28 = (0 : Int)) then p8 else (bif decide (p28 = (1 : Int)) then p11 else (bif decide (p28 = (2 : Int)) then p14 else (bif decide (p28 = (3 : Int)) then p17 else (bif decide (p28 = (4 : Int)) then p20 else p23))))), ((bif decide (p28 = (0 : Int)) then p9 else (bif decide (p28 = (1 : Int)) then p12 else (bif decide (p28 = (2 : Int)) then p15 else (bif decide (p28 = (3 : Int)) then p18 else (bif decide (p28 = (4 : Int)) then p21 else p24))))), ((bif decide (p28 = (0 : Int)) then p10 else (bif decide (p28 = (1 : Int)) then p13 else (bif decide (p28 = (2 : Int)) then p16 else (bif decide (p28 = (3 : Int)) then p19 else (bif decide (p28 = (4 : Int)) then p22 else p25))))), ()))), ())) fun r3 =>
 Option.bind (P_spec_l2In ((p0, (p1, (p2, (p3, ())))), r3.1, ())) fun r4 =>
 bif r4.1 then
 Option.bind (P_spec_l2Has ((p0, (p1, (p2, (p3, ())))), r3.1, ())) fun r6 =>
 bif !r6.1 then
 Option.bind (P_spec_l2Has ((p4, (p5, (p6, (p7, ())))), r3.1, ())) fun r8 =>
 bif !r8.1 then
 Option.bind (P_spec_l2With ((p4, (p5, (p6, (p7, ())))), r3.1, ())) fun r10 =>
 bif (decide (((List.length p26) + (List.length ([r3.1] : List D_A3))) * 24 ≤ 140737488355328) && decide (((List.length p26) + (List.length ([r3.1] : List D_A3))) ≤ 140737488355328)) then
 l_spec_l6Enclosed_18 m0 m1 p0 p1 p2 p3 r10.1.1 r10.1.2.1 r10.1.2.2.1 r10.1.2.2.2.1 p8 p9 p10 p11 p12 p13 p14 p15 p16 p17 p18 p19 p20 p21 p22 p23 p24 p25 (p26 ++ ([r3.1] : List D_A3)) p27 (IntKind.wrap .i64 (p28 + 1))
 else none
 else
 l_spec_l6Enclosed_18 m0 m1 p0 p1 p2 p3 p4 p5 p6 p7 p8 p9 p10 p11 p12 p13 p14 p15 p16 p17 p18 p19 p20 p21 p22 p23 p24 p25 p26 p27 (IntKind.wrap .i64 (p28 + 1))
 else
 l_spec_l6Enclosed_18 m0 m1 p0 p1 p2 p3 p4 p5 p6 p7 p8 p9 p10 p11 p12 p13 p14 p15 p16 p17 p18 p19 p20 p21 p22 p23 p24 p25 p26 p27 (IntKind.wrap .i64 (p28 + 1))
 else
 l_spec_l6Enclosed_18 m0 m1 p0 p1 p2 p3 p4 p5 p6 p7 p8 p9 p10 p11 p12 p13 p14 p15 p16 p17 p18 p19 p20 p21 p22 p23 p24 p25 p26 p27 (IntKind.wrap .i64 (p28 + 1))
 else none
 else none
 else
 l_spec_l6Enclosed_15 m0 p0 p1 p2 p3 p4 p5 p6 p7 p8 p9 p10 p11 p12 p13 p14 p15 p16 p17 p18 p19 p20 p21 p22 p23 p24 p25 p26 (IntKind.wrap .i64 (p27 + 1)) := by
 rewrite [h_spec_l6Enclosed_15, h_spec_l6Enclosed_18]
 exact e_spec_l6Enclosed_18 N P_spec_l2Has P_spec_l2In P_spec_l2Empty P_spec_l6Steps P_spec_l6Beside P_spec_l2All P_spec_l2With m0 m1 p0 p1 p2 p3 p4 p5 p6 p7 p8 p9 p10 p11 p12 p13 p14 p15 p16 p17 p18 p19 p20 p21 p22 p23 p24 p25 p26 p27 p28
theorem q_spec_l6Enclosed_26 (m0 : Nat) (p0 p1 p2 : Int) (p3 : List D_A3) (p4 p5 p6 : Int) (p7 p8 p9 : List D_A3) (p10 : Int) : l_spec_l6Enclosed_26 (m0 + 1) p0 p1 p2 p3 p4 p5 p6 p7 p8 p9 p10 = 
 bif decide (p10 < (List.length p9 : Int)) then
 bif inB p10 (List.length p9) then
 Option.bind (P_spec_l2Has ((p0, (p1, (p2, (p3, ())))), (nth T_A3 p9 p10), ())) fun r2 =>
 bif !r2.1 then
 bif inB p10 (List.length p9) then
 Option.bind (P_spec_l2Has ((p4, (p5, (p6, (p7, ())))), (nth T_A3 p9 p10), ())) fun r5 =>
 bif !r5.1 then
 bif inB p10 (List.length p9) then
 bif (decide (((List.length p8) + (List.length ([(nth T_A3 p9 p10)] : List D_A3))) * 24 ≤ 140737488355328) && decide (((List.length p8) + (List.length ([(nth T_A3 p9 p10)] : List D_A3))) ≤ 140737488355328)) then
 l_spec_l6Enclosed_26 m0 p0 p1 p2 p3 p4 p5 p6 p7 (p8 ++ ([(nth T_A3 p9 p10)] : List D_A3)) p9 (IntKind.wrap .i64 (p10 + 1))
 else none
 else none
 else
 l_spec_l6Enclosed_26 m0 p0 p1 p2 p3 p4 p5 p6 p7 p8 p9 (IntKind.wrap .i64 (p10 + 1))
 else none
 else
 l_spec_l6Enclosed_26 m0 p0 p1 p2 p3 p4 p5 p6 p7 p8 p9 (IntKind.wrap .i64 (p10 + 1))
 else none
 else
 some (p8, ()) := by
 rewrite [h_spec_l6Enclosed_26]
 exact e_spec_l6Enclosed_26 N P_spec_l2Has P_spec_l2In P_spec_l2Empty P_spec_l6Steps P_spec_l6Beside P_spec_l2All P_spec_l2With m0 p0 p1 p2 p3 p4 p5 p6 p7 p8 p9 p10

abbrev As_spec_l11Hidden : List ATy := [.data true T_Heap, .data false .bool]
abbrev R_spec_l11Hidden : List (Bool × Ty) := [(true, T_Heap)]
abbrev M_spec_l11Hidden : List RMode := [.own 38]
abbrev Ft_spec_l11Hidden : Type := D_Heap × Bool × Unit → Option (D_Heap × Unit)
noncomputable def X_spec_l11Hidden (n : Nat) (F_spec_l2Empty : Ft_spec_l2Empty) (F_spec_l2Made : Ft_spec_l2Made) (F_spec_l6Enclosed : Ft_spec_l6Enclosed) : Ctx := { types := TT, globals := [], con := [(94, ⟨As_spec_l2Empty, R_spec_l2Empty, M_spec_l2Empty, F_spec_l2Empty⟩), (98, ⟨As_spec_l2Made, R_spec_l2Made, M_spec_l2Made, F_spec_l2Made⟩), (99, ⟨As_spec_l6Enclosed, R_spec_l6Enclosed, M_spec_l6Enclosed, F_spec_l6Enclosed⟩)], keep := [], results := [.cell 4 26], ntmps := 17, n := n }
noncomputable def B_spec_l11Hidden : Code := (Tryz.f64.body).getD .skip
theorem e_spec_l11Hidden (n : Nat) (F_spec_l2Empty : Ft_spec_l2Empty) (F_spec_l2Made : Ft_spec_l2Made) (F_spec_l6Enclosed : Ft_spec_l6Enclosed) (a0 : D_Heap) (a1 : Bool) : runF (X_spec_l11Hidden n F_spec_l2Empty F_spec_l2Made F_spec_l6Enclosed) B_spec_l11Hidden As_spec_l11Hidden R_spec_l11Hidden M_spec_l11Hidden (a0, a1, ()) = 
 bif a1 then
 Option.bind (F_spec_l6Enclosed (a0, ())) fun r1 =>
 Option.bind (F_spec_l2Made (a0, r1.1, ())) fun r2 =>
 some ((r2.1.1, (r2.1.2.1, (r2.1.2.2.1, (r1.1, ())))), ())
 else
 Option.bind (F_spec_l2Empty (a0.1, a0.2.1, a0.2.2.1, ())) fun r1 =>
 some (r1.1, ()) := by kernel_rfl
noncomputable def P_spec_l11Hidden : Ft_spec_l11Hidden := hid (runF (X_spec_l11Hidden N P_spec_l2Empty P_spec_l2Made P_spec_l6Enclosed) B_spec_l11Hidden As_spec_l11Hidden R_spec_l11Hidden M_spec_l11Hidden)
theorem h_spec_l11Hidden : P_spec_l11Hidden = runF (X_spec_l11Hidden N P_spec_l2Empty P_spec_l2Made P_spec_l6Enclosed) B_spec_l11Hidden As_spec_l11Hidden R_spec_l11Hidden M_spec_l11Hidden := hid_eq _
noncomputable def C_spec_l11Hidden : Contract := ⟨As_spec_l11Hidden, R_spec_l11Hidden, M_spec_l11Hidden, P_spec_l11Hidden⟩
theorem s_spec_l11Hidden : Sound Tryz.prog GG 64 C_spec_l11Hidden := by
 unfold C_spec_l11Hidden; rw [h_spec_l11Hidden]
 exact sound_of_run (fn := Tryz.f64) hmix hstable (tyOK_of ttOK) (hglob (X_spec_l11Hidden N P_spec_l2Empty P_spec_l2Made P_spec_l6Enclosed)) (conOK_of (X := X_spec_l11Hidden N P_spec_l2Empty P_spec_l2Made P_spec_l6Enclosed) ⟨s_spec_l2Empty, s_spec_l2Made, s_spec_l6Enclosed, trivial⟩) (mconOK_of (X := X_spec_l11Hidden N P_spec_l2Empty P_spec_l2Made P_spec_l6Enclosed) trivial) (by kernel_rfl) (by kernel_rfl) (by kernel_rfl) (by kernel_rfl) (by kernel_rfl) (of_decide_eq_true (by kernel_rfl))
theorem p_spec_l11Hidden (a0 : D_Heap) (a1 : Bool) : P_spec_l11Hidden (a0, a1, ()) = 
 bif a1 then
 Option.bind (P_spec_l6Enclosed (a0, ())) fun r1 =>
 Option.bind (P_spec_l2Made (a0, r1.1, ())) fun r2 =>
 some ((r2.1.1, (r2.1.2.1, (r2.1.2.2.1, (r1.1, ())))), ())
 else
 Option.bind (P_spec_l2Empty (a0.1, a0.2.1, a0.2.2.1, ())) fun r1 =>
 some (r1.1, ()) := by
 rewrite [h_spec_l11Hidden]
 exact e_spec_l11Hidden N P_spec_l2Empty P_spec_l2Made P_spec_l6Enclosed a0 a1

abbrev As_spec_l11Counts : List ATy := [.data true T_Heap, .data false .bool]
abbrev R_spec_l11Counts : List (Bool × Ty) := [(true, T_A7)]
abbrev M_spec_l11Counts : List RMode := []
abbrev Ft_spec_l11Counts : Type := D_Heap × Bool × Unit → Option (D_A7 × Unit)
noncomputable def X_spec_l11Counts (n : Nat) (F_spec_l11Painted : Ft_spec_l11Painted) (F_spec_l11Hidden : Ft_spec_l11Hidden) : Ctx := { types := TT, globals := [], con := [(63, ⟨As_spec_l11Painted, R_spec_l11Painted, M_spec_l11Painted, F_spec_l11Painted⟩), (64, ⟨As_spec_l11Hidden, R_spec_l11Hidden, M_spec_l11Hidden, F_spec_l11Hidden⟩)], keep := [(3, ⟨[.box 2, .box 4, .box 5, .box 6, .tmp 2, .tmp 4, .tmp 5, .tmp 6, .tmp 7], []⟩)], results := [.cell 4 29], ntmps := 32, n := n }
noncomputable def B_spec_l11Counts : Code := (Tryz.f49.body).getD .skip
noncomputable def L_spec_l11Counts_3 (n : Nat) (F_spec_l11Painted : Ft_spec_l11Painted) (F_spec_l11Hidden : Ft_spec_l11Hidden) (m0 : Nat) (p0 p1 p2 : Int) (p3 : List D_A3) (p4 p5 : Int) (p6 p7 : Int) (p8 p9 : Int) (p10 p11 : Int) (p12 p13 : Int) (p14 p15 : Int) (p16 p17 : Int) (p18 p19 p20 : Int) (p21 : List D_A3) (p22 : Int) : Option (denL R_spec_l11Counts) := loopF (X_spec_l11Counts n F_spec_l11Painted F_spec_l11Hidden) B_spec_l11Counts R_spec_l11Counts M_spec_l11Counts 3 [m0] [(.ver, .num 1), (.box 2, .box 0 false [.int .i64 p0, .int .i64 p1, .int .i64 p2, .imm T_A3 p3 (some 3)]), (.box 4, .box 0 false [.int .i64 p4, .int .i64 p5, .int .i64 p6, .int .i64 p7, .int .i64 p8, .int .i64 p9, .int .i64 p10]), (.box 5, .box 0 false [.int .i64 p11, .int .i64 p12, .int .i64 p13, .int .i64 p14, .int .i64 p15, .int .i64 p16, .int .i64 p17]), (.box 6, .box 0 false [.int .i64 p18, .int .i64 p19, .int .i64 p20, .own 38 T_A3 0 p21]), (.tmp 2, .val false [.addr 2 0 0]), (.tmp 4, .val false [.addr 4 0 0]), (.tmp 5, .val false [.addr 5 0 0]), (.tmp 6, .val false [.addr 6 0 0]), (.tmp 7, .val false [.int .i64 p22])]
theorem e_spec_l11Counts (n : Nat) (F_spec_l11Painted : Ft_spec_l11Painted) (F_spec_l11Hidden : Ft_spec_l11Hidden) (a0 : D_Heap) (a1 : Bool) : runF (X_spec_l11Counts n F_spec_l11Painted F_spec_l11Hidden) B_spec_l11Counts As_spec_l11Counts R_spec_l11Counts M_spec_l11Counts (a0, a1, ()) = 
 Option.bind (F_spec_l11Hidden (a0, a1, ())) fun r0 =>
 L_spec_l11Counts_3 n F_spec_l11Painted F_spec_l11Hidden n a0.1 a0.2.1 a0.2.2.1 a0.2.2.2.1 0 0 0 0 0 0 0 0 0 0 0 0 0 0 r0.1.1 r0.1.2.1 r0.1.2.2.1 r0.1.2.2.2.1 0 := by kernel_rfl
theorem e_spec_l11Counts_3 (n : Nat) (F_spec_l11Painted : Ft_spec_l11Painted) (F_spec_l11Hidden : Ft_spec_l11Hidden) (m0 : Nat) (p0 p1 p2 : Int) (p3 : List D_A3) (p4 p5 : Int) (p6 p7 : Int) (p8 p9 : Int) (p10 p11 : Int) (p12 p13 : Int) (p14 p15 : Int) (p16 p17 : Int) (p18 p19 p20 : Int) (p21 : List D_A3) (p22 : Int) : L_spec_l11Counts_3 n F_spec_l11Painted F_spec_l11Hidden (m0 + 1) p0 p1 p2 p3 p4 p5 p6 p7 p8 p9 p10 p11 p12 p13 p14 p15 p16 p17 p18 p19 p20 p21 p22 = 
 bif decide (p22 < (List.length p3 : Int)) then
 bif inB p22 (List.length p3) then
 Option.bind (F_spec_l11Painted ((p0, (p1, (p2, (p3, ())))), (p18, (p19, (p20, (p21, ())))), (nth T_A3 p3 p22), ())) fun r2 =>
 bif inB r2.1 7 then
 bif inB r2.1 7 then
 L_spec_l11Counts_3 n F_spec_l11Painted F_spec_l11Hidden m0 p0 p1 p2 p3 p4 p5 p6 p7 p8 p9 p10 (bif decide (r2.1 = (0 : Int)) then (IntKind.wrap .i64 ((bif decide (r2.1 = (0 : Int)) then p11 else (bif decide (r2.1 = (1 : Int)) then p12 else (bif decide (r2.1 = (2 : Int)) then p13 else (bif decide (r2.1 = (3 : Int)) then p14 else (bif decide (r2.1 = (4 : Int)) then p15 else (bif decide (r2.1 = (5 : Int)) then p16 else p17)))))) + 1)) else p11) (bif decide (r2.1 = (1 : Int)) then (IntKind.wrap .i64 ((bif decide (r2.1 = (0 : Int)) then p11 else (bif decide (r2.1 = (1 : Int)) then p12 else (bif decide (r2.1 = (2 : Int)) then p13 else (bif decide (r2.1 = (3 : Int)) then p14 else (bif decide (r2.1 = (4 : Int)) then p15 else (bif decide (r2.1 = (5 : Int)) then p16 else p17)))))) + 1)) else p12) (bif decide (r2.1 = (2 : Int)) then (IntKind.wrap .i64 ((bif decide (r2.1 = (0 : Int)) then p11 else (bif decide (r2.1 = (1 : Int)) then p12 else (bif decide (r2.1 = (2 : Int)) then p13 else (bif decide (r2.1 = (3 : Int)) then p14 else (bif decide (r2.1 = (4 : Int)) then p15 else (bif decide (r2.1 = (5 : Int)) then p16 else p17)))))) + 1)) else p13) (bif decide (r2.1 = (3 : Int)) then (IntKind.wrap .i64 ((bif decide (r2.1 = (0 : Int)) then p11 else (bif decide (r2.1 = (1 : Int)) then p12 else (bif decide (r2.1 = (2 : Int)) then p13 else (bif decide (r2.1 = (3 : Int)) then p14 else (bif decide (r2.1 = (4 : Int)) then p15 else (bif decide (r2.1 = (5 : Int)) then p16 else p17)))))) + 1)) else p14) (bif decide (r2.1 = (4 : Int)) then (IntKind.wrap .i64 ((bif decide (r2.1 = (0 : Int)) then p11 else (bif decide (r2.1 = (1 : Int)) then p12 else (bif decide (r2.1 = (2 : Int)) then p13 else (bif decide (r2.1 = (3 : Int)) then p14 else (bif decide (r2.1 = (4 : Int)) then p15 else (bif decide (r2.1 = (5 : Int)) then p16 else p17)))))) + 1)) else p15) (bif decide (r2.1 = (5 : Int)) then (IntKind.wrap .i64 ((bif decide (r2.1 = (0 : Int)) then p11 else (bif decide (r2.1 = (1 : Int)) then p12 else (bif decide (r2.1 = (2 : Int)) then p13 else (bif decide (r2.1 = (3 : Int)) then p14 else (bif decide (r2.1 = (4 : Int)) then p15 else (bif decide (r2.1 = (5 : Int)) then p16 else p17)))))) + 1)) else p16) (bif decide (r2.1 = (6 : Int)) then (IntKind.wrap .i64 ((bif decide (r2.1 = (0 : Int)) then p11 else (bif decide (r2.1 = (1 : Int)) then p12 else (bif decide (r2.1 = (2 : Int)) then p13 else (bif decide (r2.1 = (3 : Int)) then p14 else (bif decide (r2.1 = (4 : Int)) then p15 else (bif decide (r2.1 = (5 : Int)) then p16 else p17)))))) + 1)) else p17) p18 p19 p20 p21 (IntKind.wrap .i64 (p22 + 1))
 else none
 else none
 else none
 else
 some ((p11, (p12, (p13, (p14, (p15, (p16, (p17, ()))))))), ()) := by kernel_rfl
noncomputable def P_spec_l11Counts : Ft_spec_l11Counts := hid (runF (X_spec_l11Counts N P_spec_l11Painted P_spec_l11Hidden) B_spec_l11Counts As_spec_l11Counts R_spec_l11Counts M_spec_l11Counts)
theorem h_spec_l11Counts : P_spec_l11Counts = runF (X_spec_l11Counts N P_spec_l11Painted P_spec_l11Hidden) B_spec_l11Counts As_spec_l11Counts R_spec_l11Counts M_spec_l11Counts := hid_eq _
noncomputable def C_spec_l11Counts : Contract := ⟨As_spec_l11Counts, R_spec_l11Counts, M_spec_l11Counts, P_spec_l11Counts⟩
theorem s_spec_l11Counts : Sound Tryz.prog GG 49 C_spec_l11Counts := by
 unfold C_spec_l11Counts; rw [h_spec_l11Counts]
 exact sound_of_run (fn := Tryz.f49) hmix hstable (tyOK_of ttOK) (hglob (X_spec_l11Counts N P_spec_l11Painted P_spec_l11Hidden)) (conOK_of (X := X_spec_l11Counts N P_spec_l11Painted P_spec_l11Hidden) ⟨s_spec_l11Painted, s_spec_l11Hidden, trivial⟩) (mconOK_of (X := X_spec_l11Counts N P_spec_l11Painted P_spec_l11Hidden) trivial) (by kernel_rfl) (by kernel_rfl) (by kernel_rfl) (by kernel_rfl) (by kernel_rfl) (of_decide_eq_true (by kernel_rfl))
noncomputable def l_spec_l11Counts_3 : Nat → Int → Int → Int → (List D_A3) → Int → Int → Int → Int → Int → Int → Int → Int → Int → Int → Int → Int → Int → Int → Int → Int → Int → (List D_A3) → Int → Option (denL R_spec_l11Counts) := hid (fun m0 p0 p1 p2 p3 p4 p5 p6 p7 p8 p9 p10 p11 p12 p13 p14 p15 p16 p17 p18 p19 p20 p21 p22 => L_spec_l11Counts_3 N P_spec_l11Painted P_spec_l11Hidden m0 p0 p1 p2 p3 p4 p5 p6 p7 p8 p9 p10 p11 p12 p13 p14 p15 p16 p17 p18 p19 p20 p21 p22)
theorem h_spec_l11Counts_3 : l_spec_l11Counts_3 = fun m0 p0 p1 p2 p3 p4 p5 p6 p7 p8 p9 p10 p11 p12 p13 p14 p15 p16 p17 p18 p19 p20 p21 p22 => L_spec_l11Counts_3 N P_spec_l11Painted P_spec_l11Hidden m0 p0 p1 p2 p3 p4 p5 p6 p7 p8 p9 p10 p11 p12 p13 p14 p15 p16 p17 p18 p19 p20 p21 p22 := hid_eq _
theorem p_spec_l11Counts (a0 : D_Heap) (a1 : Bool) : P_spec_l11Counts (a0, a1, ()) = 
 Option.bind (P_spec_l11Hidden (a0, a1, ())) fun r0 =>
 l_spec_l11Counts_3 N a0.1 a0.2.1 a0.2.2.1 a0.2.2.2.1 0 0 0 0 0 0 0 0 0 0 0 0 0 0 r0.1.1 r0.1.2.1 r0.1.2.2.1 r0.1.2.2.2.1 0 := by
 rewrite [h_spec_l11Counts, h_spec_l11Counts_3]
 exact e_spec_l11Counts N P_spec_l11Painted P_spec_l11Hidden a0 a1
theorem q_spec_l11Counts_3 (m0 : Nat) (p0 p1 p2 : Int) (p3 : List D_A3) (p4 p5 : Int) (p6 p7 : Int) (p8 p9 : Int) (p10 p11 : Int) (p12 p13 : Int) (p14 p15 : Int) (p16 p17 : Int) (p18 p19 p20 : Int) (p21 : List D_A3) (p22 : Int) : l_spec_l11Counts_3 (m0 + 1) p0 p1 p2 p3 p4 p5 p6 p7 p8 p9 p10 p11 p12 p13 p14 p15 p16 p17 p18 p19 p20 p21 p22 = 
 bif decide (p22 < (List.length p3 : Int)) then
 bif inB p22 (List.length p3) then
 Option.bind (P_spec_l11Painted ((p0, (p1, (p2, (p3, ())))), (p18, (p19, (p20, (p21, ())))), (nth T_A3 p3 p22), ())) fun r2 =>
 bif inB r2.1 7 then
 bif inB r2.1 7 then
 l_spec_l11Counts_3 m0 p0 p1 p2 p3 p4 p5 p6 p7 p8 p9 p10 (bif decide (r2.1 = (0 : Int)) then (IntKind.wrap .i64 ((bif decide (r2.1 = (0 : Int)) then p11 else (bif decide (r2.1 = (1 : Int)) then p12 else (bif decide (r2.1 = (2 : Int)) then p13 else (bif decide (r2.1 = (3 : Int)) then p14 else (bif decide (r2.1 = (4 : Int)) then p15 else (bif decide (r2.1 = (5 : Int)) then p16 else p17)))))) + 1)) else p11) (bif decide (r2.1 = (1 : Int)) then (IntKind.wrap .i64 ((bif decide (r2.1 = (0 : Int)) then p11 else (bif decide (r2.1 = (1 : Int)) then p12 else (bif decide (r2.1 = (2 : Int)) then p13 else (bif decide (r2.1 = (3 : Int)) then p14 else (bif decide (r2.1 = (4 : Int)) then p15 else (bif decide (r2.1 = (5 : Int)) then p16 else p17)))))) + 1)) else p12) (bif decide (r2.1 = (2 : Int)) then (IntKind.wrap .i64 ((bif decide (r2.1 = (0 : Int)) then p11 else (bif decide (r2.1 = (1 : Int)) then p12 else (bif decide (r2.1 = (2 : Int)) then p13 else (bif decide (r2.1 = (3 : Int)) then p14 else (bif decide (r2.1 = (4 : Int)) then p15 else (bif decide (r2.1 = (5 : Int)) then p16 else p17)))))) + 1)) else p13) (bif decide (r2.1 = (3 : Int)) then (IntKind.wrap .i64 ((bif decide (r2.1 = (0 : Int)) then p11 else (bif decide (r2.1 = (1 : Int)) then p12 else (bif decide (r2.1 = (2 : Int)) then p13 else (bif decide (r2.1 = (3 : Int)) then p14 else (bif decide (r2.1 = (4 : Int)) then p15 else (bif decide (r2.1 = (5 : Int)) then p16 else p17)))))) + 1)) else p14) (bif decide (r2.1 = (4 : Int)) then (IntKind.wrap .i64 ((bif decide (r2.1 = (0 : Int)) then p11 else (bif decide (r2.1 = (1 : Int)) then p12 else (bif decide (r2.1 = (2 : Int)) then p13 else (bif decide (r2.1 = (3 : Int)) then p14 else (bif decide (r2.1 = (4 : Int)) then p15 else (bif decide (r2.1 = (5 : Int)) then p16 else p17)))))) + 1)) else p15) (bif decide (r2.1 = (5 : Int)) then (IntKind.wrap .i64 ((bif decide (r2.1 = (0 : Int)) then p11 else (bif decide (r2.1 = (1 : Int)) then p12 else (bif decide (r2.1 = (2 : Int)) then p13 else (bif decide (r2.1 = (3 : Int)) then p14 else (bif decide (r2.1 = (4 : Int)) then p15 else (bif decide (r2.1 = (5 : Int)) then p16 else p17)))))) + 1)) else p16) (bif decide (r2.1 = (6 : Int)) then (IntKind.wrap .i64 ((bif decide (r2.1 = (0 : Int)) then p11 else (bif decide (r2.1 = (1 : Int)) then p12 else (bif decide (r2.1 = (2 : Int)) then p13 else (bif decide (r2.1 = (3 : Int)) then p14 else (bif decide (r2.1 = (4 : Int)) then p15 else (bif decide (r2.1 = (5 : Int)) then p16 else p17)))))) + 1)) else p17) p18 p19 p20 p21 (IntKind.wrap .i64 (p22 + 1))
 else none
 else none
 else none
 else
 some ((p11, (p12, (p13, (p14, (p15, (p16, (p17, ()))))))), ()) := by
 rewrite [h_spec_l11Counts_3]
 exact e_spec_l11Counts_3 N P_spec_l11Painted P_spec_l11Hidden m0 p0 p1 p2 p3 p4 p5 p6 p7 p8 p9 p10 p11 p12 p13 p14 p15 p16 p17 p18 p19 p20 p21 p22

abbrev As_spec_PaintCounts : List ATy := [.data true T_Heap, .data false .bool]
abbrev R_spec_PaintCounts : List (Bool × Ty) := [(true, T_A7), (false, .bool)]
abbrev M_spec_PaintCounts : List RMode := []
abbrev Ft_spec_PaintCounts : Type := D_Heap × Bool × Unit → Option (D_A7 × Bool × Unit)
noncomputable def X_spec_PaintCounts (n : Nat) (F_spec_l2Heap : Ft_spec_l2Heap) (F_spec_l11Counts : Ft_spec_l11Counts) : Ctx := { types := TT, globals := [], con := [(48, ⟨As_spec_l2Heap, R_spec_l2Heap, M_spec_l2Heap, F_spec_l2Heap⟩), (49, ⟨As_spec_l11Counts, R_spec_l11Counts, M_spec_l11Counts, F_spec_l11Counts⟩)], keep := [], results := [.cell 4 29, .tmp 5], ntmps := 13, n := n }
noncomputable def B_spec_PaintCounts : Code := (Tryz.f8.body).getD .skip
theorem e_spec_PaintCounts (n : Nat) (F_spec_l2Heap : Ft_spec_l2Heap) (F_spec_l11Counts : Ft_spec_l11Counts) (a0 : D_Heap) (a1 : Bool) : runF (X_spec_PaintCounts n F_spec_l2Heap F_spec_l11Counts) B_spec_PaintCounts As_spec_PaintCounts R_spec_PaintCounts M_spec_PaintCounts (a0, a1, ()) = 
 Option.bind (F_spec_l2Heap (a0, ())) fun r0 =>
 bif !r0.1 then
 some ((0, (0, (0, (0, (0, (0, (0, ()))))))), false, ())
 else
 Option.bind (F_spec_l11Counts (a0, a1, ())) fun r2 =>
 some (r2.1, true, ()) := by kernel_rfl
noncomputable def P_spec_PaintCounts : Ft_spec_PaintCounts := hid (runF (X_spec_PaintCounts N P_spec_l2Heap P_spec_l11Counts) B_spec_PaintCounts As_spec_PaintCounts R_spec_PaintCounts M_spec_PaintCounts)
theorem h_spec_PaintCounts : P_spec_PaintCounts = runF (X_spec_PaintCounts N P_spec_l2Heap P_spec_l11Counts) B_spec_PaintCounts As_spec_PaintCounts R_spec_PaintCounts M_spec_PaintCounts := hid_eq _
noncomputable def C_spec_PaintCounts : Contract := ⟨As_spec_PaintCounts, R_spec_PaintCounts, M_spec_PaintCounts, P_spec_PaintCounts⟩
theorem s_spec_PaintCounts : Sound Tryz.prog GG 8 C_spec_PaintCounts := by
 unfold C_spec_PaintCounts; rw [h_spec_PaintCounts]
 exact sound_of_run (fn := Tryz.f8) hmix hstable (tyOK_of ttOK) (hglob (X_spec_PaintCounts N P_spec_l2Heap P_spec_l11Counts)) (conOK_of (X := X_spec_PaintCounts N P_spec_l2Heap P_spec_l11Counts) ⟨s_spec_l2Heap, s_spec_l11Counts, trivial⟩) (mconOK_of (X := X_spec_PaintCounts N P_spec_l2Heap P_spec_l11Counts) trivial) (by kernel_rfl) (by kernel_rfl) (by kernel_rfl) (by kernel_rfl) (by kernel_rfl) (of_decide_eq_true (by kernel_rfl))
theorem p_spec_PaintCounts (a0 : D_Heap) (a1 : Bool) : P_spec_PaintCounts (a0, a1, ()) = 
 Option.bind (P_spec_l2Heap (a0, ())) fun r0 =>
 bif !r0.1 then
 some ((0, (0, (0, (0, (0, (0, (0, ()))))))), false, ())
 else
 Option.bind (P_spec_l11Counts (a0, a1, ())) fun r2 =>
 some (r2.1, true, ()) := by
 rewrite [h_spec_PaintCounts]
 exact e_spec_PaintCounts N P_spec_l2Heap P_spec_l11Counts a0 a1

abbrev As_impl_UnpaintedFaces : List ATy := [.data true T_Heap, .data false .bool]
abbrev R_impl_UnpaintedFaces : List (Bool × Ty) := [(false, (.int .i64)), (false, .bool)]
abbrev M_impl_UnpaintedFaces : List RMode := []
abbrev Ft_impl_UnpaintedFaces : Type := D_Heap × Bool × Unit → Option (Int × Bool × Unit)
noncomputable def X_impl_UnpaintedFaces (n : Nat) (F_impl_IsHeap : Ft_impl_IsHeap) (F_Heap_painted : Ft_Heap_painted) : Ctx := { types := TT, globals := [], con := [(9, ⟨As_impl_IsHeap, R_impl_IsHeap, M_impl_IsHeap, F_impl_IsHeap⟩), (47, ⟨As_Heap_painted, R_Heap_painted, M_Heap_painted, F_Heap_painted⟩)], keep := [(5, ⟨[.tmp 6, .tmp 18, .tmp 19, .tmp 20], []⟩)], results := [.tmp 4, .tmp 5], ntmps := 29, n := n }
noncomputable def B_impl_UnpaintedFaces : Code := (Tryz.f10.body).getD .skip
noncomputable def L_impl_UnpaintedFaces_5 (n : Nat) (F_impl_IsHeap : Ft_impl_IsHeap) (F_Heap_painted : Ft_Heap_painted) (m0 : Nat) (p0 : Int) (p1 : List Int) (p2 p3 : Int) : Option (denL R_impl_UnpaintedFaces) := loopF (X_impl_UnpaintedFaces n F_impl_IsHeap F_Heap_painted) B_impl_UnpaintedFaces R_impl_UnpaintedFaces M_impl_UnpaintedFaces 5 [m0] [(.ver, .num 1), (.tmp 6, .val false [.int .i64 p0]), (.tmp 18, .val false [.own 3 (.int .i64) 0 p1]), (.tmp 19, .val false [.int .i64 p2]), (.tmp 20, .val false [.int .i64 p3])]
theorem e_impl_UnpaintedFaces (n : Nat) (F_impl_IsHeap : Ft_impl_IsHeap) (F_Heap_painted : Ft_Heap_painted) (a0 : D_Heap) (a1 : Bool) : runF (X_impl_UnpaintedFaces n F_impl_IsHeap F_Heap_painted) B_impl_UnpaintedFaces As_impl_UnpaintedFaces R_impl_UnpaintedFaces M_impl_UnpaintedFaces (a0, a1, ()) = 
 Option.bind (F_impl_IsHeap (a0, ())) fun r0 =>
 bif !r0.1 then
 some (0, false, ())
 else
 Option.bind (F_Heap_painted (a0, a1, ())) fun r2 =>
 L_impl_UnpaintedFaces_5 n F_impl_IsHeap F_Heap_painted n (IntKind.wrap .i64 (6 * (List.length a0.2.2.2.1 : Int))) r2.1 (List.length r2.1 : Int) 0 := by kernel_rfl
theorem e_impl_UnpaintedFaces_5 (n : Nat) (F_impl_IsHeap : Ft_impl_IsHeap) (F_Heap_painted : Ft_Heap_painted) (m0 : Nat) (p0 : Int) (p1 : List Int) (p2 p3 : Int) : L_impl_UnpaintedFaces_5 n F_impl_IsHeap F_Heap_painted (m0 + 1) p0 p1 p2 p3 = 
 bif decide (p3 < p2) then
 bif inB p3 (List.length p1) then
 L_impl_UnpaintedFaces_5 n F_impl_IsHeap F_Heap_painted m0 (IntKind.wrap .i64 (p0 - (nth ((.int .i64) : Ty) p1 p3))) p1 p2 (IntKind.wrap .i64 (p3 + 1))
 else none
 else
 some (p0, true, ()) := by kernel_rfl
noncomputable def P_impl_UnpaintedFaces : Ft_impl_UnpaintedFaces := hid (runF (X_impl_UnpaintedFaces N P_impl_IsHeap P_Heap_painted) B_impl_UnpaintedFaces As_impl_UnpaintedFaces R_impl_UnpaintedFaces M_impl_UnpaintedFaces)
theorem h_impl_UnpaintedFaces : P_impl_UnpaintedFaces = runF (X_impl_UnpaintedFaces N P_impl_IsHeap P_Heap_painted) B_impl_UnpaintedFaces As_impl_UnpaintedFaces R_impl_UnpaintedFaces M_impl_UnpaintedFaces := hid_eq _
noncomputable def C_impl_UnpaintedFaces : Contract := ⟨As_impl_UnpaintedFaces, R_impl_UnpaintedFaces, M_impl_UnpaintedFaces, P_impl_UnpaintedFaces⟩
theorem s_impl_UnpaintedFaces : Sound Tryz.prog GG 10 C_impl_UnpaintedFaces := by
 unfold C_impl_UnpaintedFaces; rw [h_impl_UnpaintedFaces]
 exact sound_of_run (fn := Tryz.f10) hmix hstable (tyOK_of ttOK) (hglob (X_impl_UnpaintedFaces N P_impl_IsHeap P_Heap_painted)) (conOK_of (X := X_impl_UnpaintedFaces N P_impl_IsHeap P_Heap_painted) ⟨s_impl_IsHeap, s_Heap_painted, trivial⟩) (mconOK_of (X := X_impl_UnpaintedFaces N P_impl_IsHeap P_Heap_painted) trivial) (by kernel_rfl) (by kernel_rfl) (by kernel_rfl) (by kernel_rfl) (by kernel_rfl) (of_decide_eq_true (by kernel_rfl))
noncomputable def l_impl_UnpaintedFaces_5 : Nat → Int → (List Int) → Int → Int → Option (denL R_impl_UnpaintedFaces) := hid (fun m0 p0 p1 p2 p3 => L_impl_UnpaintedFaces_5 N P_impl_IsHeap P_Heap_painted m0 p0 p1 p2 p3)
theorem h_impl_UnpaintedFaces_5 : l_impl_UnpaintedFaces_5 = fun m0 p0 p1 p2 p3 => L_impl_UnpaintedFaces_5 N P_impl_IsHeap P_Heap_painted m0 p0 p1 p2 p3 := hid_eq _
theorem p_impl_UnpaintedFaces (a0 : D_Heap) (a1 : Bool) : P_impl_UnpaintedFaces (a0, a1, ()) = 
 Option.bind (P_impl_IsHeap (a0, ())) fun r0 =>
 bif !r0.1 then
 some (0, false, ())
 else
 Option.bind (P_Heap_painted (a0, a1, ())) fun r2 =>
 l_impl_UnpaintedFaces_5 N (IntKind.wrap .i64 (6 * (List.length a0.2.2.2.1 : Int))) r2.1 (List.length r2.1 : Int) 0 := by
 rewrite [h_impl_UnpaintedFaces, h_impl_UnpaintedFaces_5]
 exact e_impl_UnpaintedFaces N P_impl_IsHeap P_Heap_painted a0 a1
theorem q_impl_UnpaintedFaces_5 (m0 : Nat) (p0 : Int) (p1 : List Int) (p2 p3 : Int) : l_impl_UnpaintedFaces_5 (m0 + 1) p0 p1 p2 p3 = 
 bif decide (p3 < p2) then
 bif inB p3 (List.length p1) then
 l_impl_UnpaintedFaces_5 m0 (IntKind.wrap .i64 (p0 - (nth ((.int .i64) : Ty) p1 p3))) p1 p2 (IntKind.wrap .i64 (p3 + 1))
 else none
 else
 some (p0, true, ()) := by
 rewrite [h_impl_UnpaintedFaces_5]
 exact e_impl_UnpaintedFaces_5 N P_impl_IsHeap P_Heap_painted m0 p0 p1 p2 p3

abbrev As_spec_UnpaintedFaces : List ATy := [.data true T_Heap, .data false .bool]
abbrev R_spec_UnpaintedFaces : List (Bool × Ty) := [(false, (.int .i64)), (false, .bool)]
abbrev M_spec_UnpaintedFaces : List RMode := []
abbrev Ft_spec_UnpaintedFaces : Type := D_Heap × Bool × Unit → Option (Int × Bool × Unit)
noncomputable def X_spec_UnpaintedFaces (n : Nat) (F_spec_l2Heap : Ft_spec_l2Heap) (F_spec_l11Counts : Ft_spec_l11Counts) : Ctx := { types := TT, globals := [], con := [(48, ⟨As_spec_l2Heap, R_spec_l2Heap, M_spec_l2Heap, F_spec_l2Heap⟩), (49, ⟨As_spec_l11Counts, R_spec_l11Counts, M_spec_l11Counts, F_spec_l11Counts⟩)], keep := [(5, ⟨[.box 7, .tmp 6, .tmp 7, .tmp 8], []⟩)], results := [.tmp 4, .tmp 5], ntmps := 28, n := n }
noncomputable def B_spec_UnpaintedFaces : Code := (Tryz.f11.body).getD .skip
noncomputable def L_spec_UnpaintedFaces_5 (n : Nat) (F_spec_l2Heap : Ft_spec_l2Heap) (F_spec_l11Counts : Ft_spec_l11Counts) (m0 : Nat) (p0 p1 : Int) (p2 p3 : Int) (p4 p5 : Int) (p6 p7 p8 : Int) : Option (denL R_spec_UnpaintedFaces) := loopF (X_spec_UnpaintedFaces n F_spec_l2Heap F_spec_l11Counts) B_spec_UnpaintedFaces R_spec_UnpaintedFaces M_spec_UnpaintedFaces 5 [m0] [(.ver, .num 1), (.box 7, .box 0 false [.int .i64 p0, .int .i64 p1, .int .i64 p2, .int .i64 p3, .int .i64 p4, .int .i64 p5, .int .i64 p6]), (.tmp 6, .val false [.int .i64 p7]), (.tmp 7, .val false [.addr 7 0 0]), (.tmp 8, .val false [.int .i64 p8])]
theorem e_spec_UnpaintedFaces (n : Nat) (F_spec_l2Heap : Ft_spec_l2Heap) (F_spec_l11Counts : Ft_spec_l11Counts) (a0 : D_Heap) (a1 : Bool) : runF (X_spec_UnpaintedFaces n F_spec_l2Heap F_spec_l11Counts) B_spec_UnpaintedFaces As_spec_UnpaintedFaces R_spec_UnpaintedFaces M_spec_UnpaintedFaces (a0, a1, ()) = 
 Option.bind (F_spec_l2Heap (a0, ())) fun r0 =>
 bif !r0.1 then
 some (0, false, ())
 else
 Option.bind (F_spec_l11Counts (a0, a1, ())) fun r2 =>
 L_spec_UnpaintedFaces_5 n F_spec_l2Heap F_spec_l11Counts n r2.1.1 r2.1.2.1 r2.1.2.2.1 r2.1.2.2.2.1 r2.1.2.2.2.2.1 r2.1.2.2.2.2.2.1 r2.1.2.2.2.2.2.2.1 0 0 := by kernel_rfl
theorem e_spec_UnpaintedFaces_5 (n : Nat) (F_spec_l2Heap : Ft_spec_l2Heap) (F_spec_l11Counts : Ft_spec_l11Counts) (m0 : Nat) (p0 p1 : Int) (p2 p3 : Int) (p4 p5 : Int) (p6 p7 p8 : Int) : L_spec_UnpaintedFaces_5 n F_spec_l2Heap F_spec_l11Counts (m0 + 1) p0 p1 p2 p3 p4 p5 p6 p7 p8 = 
 bif decide (p8 < 7) then
 bif inB p8 7 then
 L_spec_UnpaintedFaces_5 n F_spec_l2Heap F_spec_l11Counts m0 p0 p1 p2 p3 p4 p5 p6 (IntKind.wrap .i64 (p7 + (IntKind.wrap .i64 ((IntKind.wrap .i64 (6 - p8)) * (bif decide (p8 = (0 : Int)) then p0 else (bif decide (p8 = (1 : Int)) then p1 else (bif decide (p8 = (2 : Int)) then p2 else (bif decide (p8 = (3 : Int)) then p3 else (bif decide (p8 = (4 : Int)) then p4 else (bif decide (p8 = (5 : Int)) then p5 else p6)))))))))) (IntKind.wrap .i64 (p8 + 1))
 else none
 else
 some (p7, true, ()) := by kernel_rfl
noncomputable def P_spec_UnpaintedFaces : Ft_spec_UnpaintedFaces := hid (runF (X_spec_UnpaintedFaces N P_spec_l2Heap P_spec_l11Counts) B_spec_UnpaintedFaces As_spec_UnpaintedFaces R_spec_UnpaintedFaces M_spec_UnpaintedFaces)
theorem h_spec_UnpaintedFaces : P_spec_UnpaintedFaces = runF (X_spec_UnpaintedFaces N P_spec_l2Heap P_spec_l11Counts) B_spec_UnpaintedFaces As_spec_UnpaintedFaces R_spec_UnpaintedFaces M_spec_UnpaintedFaces := hid_eq _
noncomputable def C_spec_UnpaintedFaces : Contract := ⟨As_spec_UnpaintedFaces, R_spec_UnpaintedFaces, M_spec_UnpaintedFaces, P_spec_UnpaintedFaces⟩
theorem s_spec_UnpaintedFaces : Sound Tryz.prog GG 11 C_spec_UnpaintedFaces := by
 unfold C_spec_UnpaintedFaces; rw [h_spec_UnpaintedFaces]
 exact sound_of_run (fn := Tryz.f11) hmix hstable (tyOK_of ttOK) (hglob (X_spec_UnpaintedFaces N P_spec_l2Heap P_spec_l11Counts)) (conOK_of (X := X_spec_UnpaintedFaces N P_spec_l2Heap P_spec_l11Counts) ⟨s_spec_l2Heap, s_spec_l11Counts, trivial⟩) (mconOK_of (X := X_spec_UnpaintedFaces N P_spec_l2Heap P_spec_l11Counts) trivial) (by kernel_rfl) (by kernel_rfl) (by kernel_rfl) (by kernel_rfl) (by kernel_rfl) (of_decide_eq_true (by kernel_rfl))
noncomputable def l_spec_UnpaintedFaces_5 : Nat → Int → Int → Int → Int → Int → Int → Int → Int → Int → Option (denL R_spec_UnpaintedFaces) := hid (fun m0 p0 p1 p2 p3 p4 p5 p6 p7 p8 => L_spec_UnpaintedFaces_5 N P_spec_l2Heap P_spec_l11Counts m0 p0 p1 p2 p3 p4 p5 p6 p7 p8)
theorem h_spec_UnpaintedFaces_5 : l_spec_UnpaintedFaces_5 = fun m0 p0 p1 p2 p3 p4 p5 p6 p7 p8 => L_spec_UnpaintedFaces_5 N P_spec_l2Heap P_spec_l11Counts m0 p0 p1 p2 p3 p4 p5 p6 p7 p8 := hid_eq _
theorem p_spec_UnpaintedFaces (a0 : D_Heap) (a1 : Bool) : P_spec_UnpaintedFaces (a0, a1, ()) = 
 Option.bind (P_spec_l2Heap (a0, ())) fun r0 =>
 bif !r0.1 then
 some (0, false, ())
 else
 Option.bind (P_spec_l11Counts (a0, a1, ())) fun r2 =>
 l_spec_UnpaintedFaces_5 N r2.1.1 r2.1.2.1 r2.1.2.2.1 r2.1.2.2.2.1 r2.1.2.2.2.2.1 r2.1.2.2.2.2.2.1 r2.1.2.2.2.2.2.2.1 0 0 := by
 rewrite [h_spec_UnpaintedFaces, h_spec_UnpaintedFaces_5]
 exact e_spec_UnpaintedFaces N P_spec_l2Heap P_spec_l11Counts a0 a1
theorem q_spec_UnpaintedFaces_5 (m0 : Nat) (p0 p1 : Int) (p2 p3 : Int) (p4 p5 : Int) (p6 p7 p8 : Int) : l_spec_UnpaintedFaces_5 (m0 + 1) p0 p1 p2 p3 p4 p5 p6 p7 p8 = 
 bif decide (p8 < 7) then
 bif inB p8 7 then
 l_spec_UnpaintedFaces_5 m0 p0 p1 p2 p3 p4 p5 p6 (IntKind.wrap .i64 (p7 + (IntKind.wrap .i64 ((IntKind.wrap .i64 (6 - p8)) * (bif decide (p8 = (0 : Int)) then p0 else (bif decide (p8 = (1 : Int)) then p1 else (bif decide (p8 = (2 : Int)) then p2 else (bif decide (p8 = (3 : Int)) then p3 else (bif decide (p8 = (4 : Int)) then p4 else (bif decide (p8 = (5 : Int)) then p5 else p6)))))))))) (IntKind.wrap .i64 (p8 + 1))
 else none
 else
 some (p7, true, ()) := by
 rewrite [h_spec_UnpaintedFaces_5]
 exact e_spec_UnpaintedFaces_5 N P_spec_l2Heap P_spec_l11Counts m0 p0 p1 p2 p3 p4 p5 p6 p7 p8

abbrev As_box_list : List ATy := [.data true T_A3, .data false (.int .u64)]
abbrev R_box_list : List (Bool × Ty) := [(false, (.sl T_A3))]
abbrev M_box_list : List RMode := [.own 38]
abbrev Ft_box_list : Type := D_A3 × Int × Unit → Option ((List D_A3) × Unit)
noncomputable def X_box_list (n : Nat) (F_set_has : Ft_set_has) (F_box_size : Ft_box_size) (F_box_cell : Ft_box_cell) : Ctx := { types := TT, globals := [], con := [(75, ⟨As_set_has, R_set_has, M_set_has, F_set_has⟩), (127, ⟨As_box_size, R_box_size, M_box_size, F_box_size⟩), (128, ⟨As_box_cell, R_box_cell, M_box_cell, F_box_cell⟩)], keep := [(3, ⟨[.box 2, .tmp 1, .tmp 2, .tmp 5, .tmp 9, .tmp 10], []⟩)], results := [.tmp 4], ntmps := 24, n := n }
noncomputable def B_box_list : Code := (Tryz.f104.body).getD .skip
noncomputable def L_box_list_3 (n : Nat) (F_set_has : Ft_set_has) (F_box_size : Ft_box_size) (F_box_cell : Ft_box_cell) (m0 : Nat) (p0 p1 : Int) (p2 p3 : Int) (p4 : List D_A3) (p5 p6 : Int) : Option (denL R_box_list) := loopF (X_box_list n F_set_has F_box_size F_box_cell) B_box_list R_box_list M_box_list 3 [m0] [(.ver, .num 1), (.box 2, .box 0 false [.int .i64 p0, .int .i64 p1, .int .i64 p2]), (.tmp 1, .val false [.int .u64 p3]), (.tmp 2, .val false [.addr 2 0 0]), (.tmp 5, .val false [.own 38 T_A3 0 p4]), (.tmp 9, .val false [.int .i64 p5]), (.tmp 10, .val false [.int .i64 p6])]
theorem e_box_list (n : Nat) (F_set_has : Ft_set_has) (F_box_size : Ft_box_size) (F_box_cell : Ft_box_cell) (a0 : D_A3) (a1 : Int) : runF (X_box_list n F_set_has F_box_size F_box_cell) B_box_list As_box_list R_box_list M_box_list (a0, a1, ()) = 
 Option.bind (F_box_size (a0, ())) fun r0 =>
 L_box_list_3 n F_set_has F_box_size F_box_cell n a0.1 a0.2.1 a0.2.2.1 a1 ([] : List D_A3) r0.1 0 := by kernel_rfl
theorem e_box_list_3 (n : Nat) (F_set_has : Ft_set_has) (F_box_size : Ft_box_size) (F_box_cell : Ft_box_cell) (m0 : Nat) (p0 p1 : Int) (p2 p3 : Int) (p4 : List D_A3) (p5 p6 : Int) : L_box_list_3 n F_set_has F_box_size F_box_cell (m0 + 1) p0 p1 p2 p3 p4 p5 p6 = 
 bif decide (p6 < p5) then
 Option.bind (F_set_has (p3, p6, ())) fun r1 =>
 bif r1.1 then
 Option.bind (F_box_cell ((p0, (p1, (p2, ()))), p6, ())) fun r3 =>
 bif (decide (((List.length p4) + (List.length ([r3.1] : List D_A3))) * 24 ≤ 140737488355328) && decide (((List.length p4) + (List.length ([r3.1] : List D_A3))) ≤ 140737488355328)) then
 L_box_list_3 n F_set_has F_box_size F_box_cell m0 p0 p1 p2 p3 (p4 ++ ([r3.1] : List D_A3)) p5 (IntKind.wrap .i64 (p6 + 1))
 else none
 else
 L_box_list_3 n F_set_has F_box_size F_box_cell m0 p0 p1 p2 p3 p4 p5 (IntKind.wrap .i64 (p6 + 1))
 else
 some (p4, ()) := by kernel_rfl
noncomputable def P_box_list : Ft_box_list := hid (runF (X_box_list N P_set_has P_box_size P_box_cell) B_box_list As_box_list R_box_list M_box_list)
theorem h_box_list : P_box_list = runF (X_box_list N P_set_has P_box_size P_box_cell) B_box_list As_box_list R_box_list M_box_list := hid_eq _
noncomputable def C_box_list : Contract := ⟨As_box_list, R_box_list, M_box_list, P_box_list⟩
theorem s_box_list : Sound Tryz.prog GG 104 C_box_list := by
 unfold C_box_list; rw [h_box_list]
 exact sound_of_run (fn := Tryz.f104) hmix hstable (tyOK_of ttOK) (hglob (X_box_list N P_set_has P_box_size P_box_cell)) (conOK_of (X := X_box_list N P_set_has P_box_size P_box_cell) ⟨s_set_has, s_box_size, s_box_cell, trivial⟩) (mconOK_of (X := X_box_list N P_set_has P_box_size P_box_cell) trivial) (by kernel_rfl) (by kernel_rfl) (by kernel_rfl) (by kernel_rfl) (by kernel_rfl) (of_decide_eq_true (by kernel_rfl))
noncomputable def l_box_list_3 : Nat → Int → Int → Int → Int → (List D_A3) → Int → Int → Option (denL R_box_list) := hid (fun m0 p0 p1 p2 p3 p4 p5 p6 => L_box_list_3 N P_set_has P_box_size P_box_cell m0 p0 p1 p2 p3 p4 p5 p6)
theorem h_box_list_3 : l_box_list_3 = fun m0 p0 p1 p2 p3 p4 p5 p6 => L_box_list_3 N P_set_has P_box_size P_box_cell m0 p0 p1 p2 p3 p4 p5 p6 := hid_eq _
theorem p_box_list (a0 : D_A3) (a1 : Int) : P_box_list (a0, a1, ()) = 
 Option.bind (P_box_size (a0, ())) fun r0 =>
 l_box_list_3 N a0.1 a0.2.1 a0.2.2.1 a1 ([] : List D_A3) r0.1 0 := by
 rewrite [h_box_list, h_box_list_3]
 exact e_box_list N P_set_has P_box_size P_box_cell a0 a1
theorem q_box_list_3 (m0 : Nat) (p0 p1 : Int) (p2 p3 : Int) (p4 : List D_A3) (p5 p6 : Int) : l_box_list_3 (m0 + 1) p0 p1 p2 p3 p4 p5 p6 = 
 bif decide (p6 < p5) then
 Option.bind (P_set_has (p3, p6, ())) fun r1 =>
 bif r1.1 then
 Option.bind (P_box_cell ((p0, (p1, (p2, ()))), p6, ())) fun r3 =>
 bif (decide (((List.length p4) + (List.length ([r3.1] : List D_A3))) * 24 ≤ 140737488355328) && decide (((List.length p4) + (List.length ([r3.1] : List D_A3))) ≤ 140737488355328)) then
 l_box_list_3 m0 p0 p1 p2 p3 (p4 ++ ([r3.1] : List D_A3)) p5 (IntKind.wrap .i64 (p6 + 1))
 else none
 else
 l_box_list_3 m0 p0 p1 p2 p3 p4 p5 (IntKind.wrap .i64 (p6 + 1))
 else
 some (p4, ()) := by
 rewrite [h_box_list_3]
 exact e_box_list_3 N P_set_has P_box_size P_box_cell m0 p0 p1 p2 p3 p4 p5 p6

abbrev As_box_heap : List ATy := [.data true T_A3, .data false (.int .u64)]
abbrev R_box_heap : List (Bool × Ty) := [(true, T_Heap)]
abbrev M_box_heap : List RMode := [.own 38]
abbrev Ft_box_heap : Type := D_A3 × Int × Unit → Option (D_Heap × Unit)
noncomputable def X_box_heap (n : Nat) (F_box_list : Ft_box_list) : Ctx := { types := TT, globals := [], con := [(104, ⟨As_box_list, R_box_list, M_box_list, F_box_list⟩)], keep := [], results := [.cell 4 26], ntmps := 15, n := n }
noncomputable def B_box_heap : Code := (Tryz.f69.body).getD .skip
theorem e_box_heap (n : Nat) (F_box_list : Ft_box_list) (a0 : D_A3) (a1 : Int) : runF (X_box_heap n F_box_list) B_box_heap As_box_heap R_box_heap M_box_heap (a0, a1, ()) = 
 Option.bind (F_box_list (a0, a1, ())) fun r0 =>
 some ((a0.1, (a0.2.1, (a0.2.2.1, (r0.1, ())))), ()) := by kernel_rfl
noncomputable def P_box_heap : Ft_box_heap := hid (runF (X_box_heap N P_box_list) B_box_heap As_box_heap R_box_heap M_box_heap)
theorem h_box_heap : P_box_heap = runF (X_box_heap N P_box_list) B_box_heap As_box_heap R_box_heap M_box_heap := hid_eq _
noncomputable def C_box_heap : Contract := ⟨As_box_heap, R_box_heap, M_box_heap, P_box_heap⟩
theorem s_box_heap : Sound Tryz.prog GG 69 C_box_heap := by
 unfold C_box_heap; rw [h_box_heap]
 exact sound_of_run (fn := Tryz.f69) hmix hstable (tyOK_of ttOK) (hglob (X_box_heap N P_box_list)) (conOK_of (X := X_box_heap N P_box_list) ⟨s_box_list, trivial⟩) (mconOK_of (X := X_box_heap N P_box_list) trivial) (by kernel_rfl) (by kernel_rfl) (by kernel_rfl) (by kernel_rfl) (by kernel_rfl) (of_decide_eq_true (by kernel_rfl))
theorem p_box_heap (a0 : D_A3) (a1 : Int) : P_box_heap (a0, a1, ()) = 
 Option.bind (P_box_list (a0, a1, ())) fun r0 =>
 some ((a0.1, (a0.2.1, (a0.2.2.1, (r0.1, ())))), ()) := by
 rewrite [h_box_heap]
 exact e_box_heap N P_box_list a0 a1

abbrev As_Heap_peeled : List ATy := [.data true T_Heap]
abbrev R_Heap_peeled : List (Bool × Ty) := [(true, T_Heap)]
abbrev M_Heap_peeled : List RMode := [.own 38]
abbrev Ft_Heap_peeled : Type := D_Heap × Unit → Option (D_Heap × Unit)
noncomputable def X_Heap_peeled (n : Nat) (F_Heap_painted : Ft_Heap_painted) (F_Heap_box : Ft_Heap_box) (F_box_heap : Ft_box_heap) (F_box_index : Ft_box_index) : Ctx := { types := TT, globals := [], con := [(47, ⟨As_Heap_painted, R_Heap_painted, M_Heap_painted, F_Heap_painted⟩), (50, ⟨As_Heap_box, R_Heap_box, M_Heap_box, F_Heap_box⟩), (69, ⟨As_box_heap, R_box_heap, M_box_heap, F_box_heap⟩), (76, ⟨As_box_index, R_box_index, M_box_index, F_box_index⟩)], keep := [(3, ⟨[.box 1, .box 2, .tmp 1, .tmp 2, .tmp 3, .tmp 7, .tmp 8, .tmp 9], []⟩)], results := [.cell 2 26], ntmps := 32, n := n }
noncomputable def B_Heap_peeled : Code := (Tryz.f54.body).getD .skip
noncomputable def L_Heap_peeled_3 (n : Nat) (F_Heap_painted : Ft_Heap_painted) (F_Heap_box : Ft_Heap_box) (F_box_heap : Ft_box_heap) (F_box_index : Ft_box_index) (m0 : Nat) (p0 p1 p2 : Int) (p3 : List D_A3) (p4 p5 p6 : Int) (p7 : List D_A3) (p8 : Int) (p9 : List Int) (p10 p11 : Int) : Option (denL R_Heap_peeled) := loopF (X_Heap_peeled n F_Heap_painted F_Heap_box F_box_heap F_box_index) B_Heap_peeled R_Heap_peeled M_Heap_peeled 3 [m0] [(.ver, .num 1), (.box 1, .box 0 false [.int .i64 p0, .int .i64 p1, .int .i64 p2, .imm T_A3 p3 (some 3)]), (.box 2, .box 0 false [.int .i64 p4, .int .i64 p5, .int .i64 p6, .own 38 T_A3 0 p7]), (.tmp 1, .val false [.addr 1 0 0]), (.tmp 2, .val false [.addr 2 0 0]), (.tmp 3, .val false [.int .u64 p8]), (.tmp 7, .val false [.own 3 (.int .i64) 0 p9]), (.tmp 8, .val false [.int .i64 p10]), (.tmp 9, .val false [.int .i64 p11])]
theorem e_Heap_peeled (n : Nat) (F_Heap_painted : Ft_Heap_painted) (F_Heap_box : Ft_Heap_box) (F_box_heap : Ft_box_heap) (F_box_index : Ft_box_index) (a0 : D_Heap) : runF (X_Heap_peeled n F_Heap_painted F_Heap_box F_box_heap F_box_index) B_Heap_peeled As_Heap_peeled R_Heap_peeled M_Heap_peeled (a0, ()) = 
 Option.bind (F_Heap_painted (a0, false, ())) fun r0 =>
 L_Heap_peeled_3 n F_Heap_painted F_Heap_box F_box_heap F_box_index n a0.1 a0.2.1 a0.2.2.1 a0.2.2.2.1 0 0 0 ([] : List D_A3) 0 r0.1 (List.length r0.1 : Int) 0 := by kernel_rfl
theorem e_Heap_peeled_3 (n : Nat) (F_Heap_painted : Ft_Heap_painted) (F_Heap_box : Ft_Heap_box) (F_box_heap : Ft_box_heap) (F_box_index : Ft_box_index) (m0 : Nat) (p0 p1 p2 : Int) (p3 : List D_A3) (p4 p5 p6 : Int) (p7 : List D_A3) (p8 : Int) (p9 : List Int) (p10 p11 : Int) : L_Heap_peeled_3 n F_Heap_painted F_Heap_box F_box_heap F_box_index (m0 + 1) p0 p1 p2 p3 p4 p5 p6 p7 p8 p9 p10 p11 = 
 bif decide (p11 < p10) then
 bif inB p11 (List.length p9) then
 bif decide ((nth ((.int .i64) : Ty) p9 p11) = 0) then
 Option.bind (F_Heap_box ((p0, (p1, (p2, (p3, ())))), ())) fun r3 =>
 bif inB p11 (List.length p3) then
 Option.bind (F_box_index (r3.1, (nth T_A3 p3 p11), ())) fun r5 =>
 bif decide ((0 : Int) ≤ r5.1) then
 L_Heap_peeled_3 n F_Heap_painted F_Heap_box F_box_heap F_box_index m0 p0 p1 p2 p3 p4 p5 p6 p7 (intBits .or .u64 p8 (shlI .u64 1 r5.1)) p9 p10 (IntKind.wrap .i64 (p11 + 1))
 else none
 else none
 else
 L_Heap_peeled_3 n F_Heap_painted F_Heap_box F_box_heap F_box_index m0 p0 p1 p2 p3 p4 p5 p6 p7 p8 p9 p10 (IntKind.wrap .i64 (p11 + 1))
 else none
 else
 Option.bind (F_Heap_box ((p0, (p1, (p2, (p3, ())))), ())) fun r1 =>
 Option.bind (F_box_heap (r1.1, p8, ())) fun r2 =>
 some (r2.1, ()) := by kernel_rfl
noncomputable def P_Heap_peeled : Ft_Heap_peeled := hid (runF (X_Heap_peeled N P_Heap_painted P_Heap_box P_box_heap P_box_index) B_Heap_peeled As_Heap_peeled R_Heap_peeled M_Heap_peeled)
theorem h_Heap_peeled : P_Heap_peeled = runF (X_Heap_peeled N P_Heap_painted P_Heap_box P_box_heap P_box_index) B_Heap_peeled As_Heap_peeled R_Heap_peeled M_Heap_peeled := hid_eq _
noncomputable def C_Heap_peeled : Contract := ⟨As_Heap_peeled, R_Heap_peeled, M_Heap_peeled, P_Heap_peeled⟩
theorem s_Heap_peeled : Sound Tryz.prog GG 54 C_Heap_peeled := by
 unfold C_Heap_peeled; rw [h_Heap_peeled]
 exact sound_of_run (fn := Tryz.f54) hmix hstable (tyOK_of ttOK) (hglob (X_Heap_peeled N P_Heap_painted P_Heap_box P_box_heap P_box_index)) (conOK_of (X := X_Heap_peeled N P_Heap_painted P_Heap_box P_box_heap P_box_index) ⟨s_Heap_painted, s_Heap_box, s_box_heap, s_box_index, trivial⟩) (mconOK_of (X := X_Heap_peeled N P_Heap_painted P_Heap_box P_box_heap P_box_index) trivial) (by kernel_rfl) (by kernel_rfl) (by kernel_rfl) (by kernel_rfl) (by kernel_rfl) (of_decide_eq_true (by kernel_rfl))
noncomputable def l_Heap_peeled_3 : Nat → Int → Int → Int → (List D_A3) → Int → Int → Int → (List D_A3) → Int → (List Int) → Int → Int → Option (denL R_Heap_peeled) := hid (fun m0 p0 p1 p2 p3 p4 p5 p6 p7 p8 p9 p10 p11 => L_Heap_peeled_3 N P_Heap_painted P_Heap_box P_box_heap P_box_index m0 p0 p1 p2 p3 p4 p5 p6 p7 p8 p9 p10 p11)
theorem h_Heap_peeled_3 : l_Heap_peeled_3 = fun m0 p0 p1 p2 p3 p4 p5 p6 p7 p8 p9 p10 p11 => L_Heap_peeled_3 N P_Heap_painted P_Heap_box P_box_heap P_box_index m0 p0 p1 p2 p3 p4 p5 p6 p7 p8 p9 p10 p11 := hid_eq _
theorem p_Heap_peeled (a0 : D_Heap) : P_Heap_peeled (a0, ()) = 
 Option.bind (P_Heap_painted (a0, false, ())) fun r0 =>
 l_Heap_peeled_3 N a0.1 a0.2.1 a0.2.2.1 a0.2.2.2.1 0 0 0 ([] : List D_A3) 0 r0.1 (List.length r0.1 : Int) 0 := by
 rewrite [h_Heap_peeled, h_Heap_peeled_3]
 exact e_Heap_peeled N P_Heap_painted P_Heap_box P_box_heap P_box_index a0
theorem q_Heap_peeled_3 (m0 : Nat) (p0 p1 p2 : Int) (p3 : List D_A3) (p4 p5 p6 : Int) (p7 : List D_A3) (p8 : Int) (p9 : List Int) (p10 p11 : Int) : l_Heap_peeled_3 (m0 + 1) p0 p1 p2 p3 p4 p5 p6 p7 p8 p9 p10 p11 = 
 bif decide (p11 < p10) then
 bif inB p11 (List.length p9) then
 bif decide ((nth ((.int .i64) : Ty) p9 p11) = 0) then
 Option.bind (P_Heap_box ((p0, (p1, (p2, (p3, ())))), ())) fun r3 =>
 bif inB p11 (List.length p3) then
 Option.bind (P_box_index (r3.1, (nth T_A3 p3 p11), ())) fun r5 =>
 bif decide ((0 : Int) ≤ r5.1) then
 l_Heap_peeled_3 m0 p0 p1 p2 p3 p4 p5 p6 p7 (intBits .or .u64 p8 (shlI .u64 1 r5.1)) p9 p10 (IntKind.wrap .i64 (p11 + 1))
 else none
 else none
 else
 l_Heap_peeled_3 m0 p0 p1 p2 p3 p4 p5 p6 p7 p8 p9 p10 (IntKind.wrap .i64 (p11 + 1))
 else none
 else
 Option.bind (P_Heap_box ((p0, (p1, (p2, (p3, ())))), ())) fun r1 =>
 Option.bind (P_box_heap (r1.1, p8, ())) fun r2 =>
 some (r2.1, ()) := by
 rewrite [h_Heap_peeled_3]
 exact e_Heap_peeled_3 N P_Heap_painted P_Heap_box P_box_heap P_box_index m0 p0 p1 p2 p3 p4 p5 p6 p7 p8 p9 p10 p11

abbrev As_impl_PeelHeap : List ATy := [.data true T_Heap]
abbrev R_impl_PeelHeap : List (Bool × Ty) := [(true, T_Heap), (false, .bool)]
abbrev M_impl_PeelHeap : List RMode := [.own 38]
abbrev Ft_impl_PeelHeap : Type := D_Heap × Unit → Option (D_Heap × Bool × Unit)
noncomputable def X_impl_PeelHeap (n : Nat) (F_impl_IsHeap : Ft_impl_IsHeap) (F_Heap_peeled : Ft_Heap_peeled) : Ctx := { types := TT, globals := [], con := [(9, ⟨As_impl_IsHeap, R_impl_IsHeap, M_impl_IsHeap, F_impl_IsHeap⟩), (54, ⟨As_Heap_peeled, R_Heap_peeled, M_Heap_peeled, F_Heap_peeled⟩)], keep := [], results := [.cell 2 26, .tmp 3], ntmps := 10, n := n }
noncomputable def B_impl_PeelHeap : Code := (Tryz.f12.body).getD .skip
theorem e_impl_PeelHeap (n : Nat) (F_impl_IsHeap : Ft_impl_IsHeap) (F_Heap_peeled : Ft_Heap_peeled) (a0 : D_Heap) : runF (X_impl_PeelHeap n F_impl_IsHeap F_Heap_peeled) B_impl_PeelHeap As_impl_PeelHeap R_impl_PeelHeap M_impl_PeelHeap (a0, ()) = 
 Option.bind (F_impl_IsHeap (a0, ())) fun r0 =>
 bif !r0.1 then
 some ((0, (0, (0, (([] : List D_A3), ())))), false, ())
 else
 Option.bind (F_Heap_peeled (a0, ())) fun r2 =>
 some (r2.1, true, ()) := by kernel_rfl
noncomputable def P_impl_PeelHeap : Ft_impl_PeelHeap := hid (runF (X_impl_PeelHeap N P_impl_IsHeap P_Heap_peeled) B_impl_PeelHeap As_impl_PeelHeap R_impl_PeelHeap M_impl_PeelHeap)
theorem h_impl_PeelHeap : P_impl_PeelHeap = runF (X_impl_PeelHeap N P_impl_IsHeap P_Heap_peeled) B_impl_PeelHeap As_impl_PeelHeap R_impl_PeelHeap M_impl_PeelHeap := hid_eq _
noncomputable def C_impl_PeelHeap : Contract := ⟨As_impl_PeelHeap, R_impl_PeelHeap, M_impl_PeelHeap, P_impl_PeelHeap⟩
theorem s_impl_PeelHeap : Sound Tryz.prog GG 12 C_impl_PeelHeap := by
 unfold C_impl_PeelHeap; rw [h_impl_PeelHeap]
 exact sound_of_run (fn := Tryz.f12) hmix hstable (tyOK_of ttOK) (hglob (X_impl_PeelHeap N P_impl_IsHeap P_Heap_peeled)) (conOK_of (X := X_impl_PeelHeap N P_impl_IsHeap P_Heap_peeled) ⟨s_impl_IsHeap, s_Heap_peeled, trivial⟩) (mconOK_of (X := X_impl_PeelHeap N P_impl_IsHeap P_Heap_peeled) trivial) (by kernel_rfl) (by kernel_rfl) (by kernel_rfl) (by kernel_rfl) (by kernel_rfl) (of_decide_eq_true (by kernel_rfl))
theorem p_impl_PeelHeap (a0 : D_Heap) : P_impl_PeelHeap (a0, ()) = 
 Option.bind (P_impl_IsHeap (a0, ())) fun r0 =>
 bif !r0.1 then
 some ((0, (0, (0, (([] : List D_A3), ())))), false, ())
 else
 Option.bind (P_Heap_peeled (a0, ())) fun r2 =>
 some (r2.1, true, ()) := by
 rewrite [h_impl_PeelHeap]
 exact e_impl_PeelHeap N P_impl_IsHeap P_Heap_peeled a0

abbrev As_spec_l11Peel : List ATy := [.data true T_Heap, .data false .bool]
abbrev R_spec_l11Peel : List (Bool × Ty) := [(true, T_Heap)]
abbrev M_spec_l11Peel : List RMode := [.own 38]
abbrev Ft_spec_l11Peel : Type := D_Heap × Bool × Unit → Option (D_Heap × Unit)
noncomputable def X_spec_l11Peel (n : Nat) (F_spec_l11Painted : Ft_spec_l11Painted) (F_spec_l2Empty : Ft_spec_l2Empty) : Ctx := { types := TT, globals := [], con := [(63, ⟨As_spec_l11Painted, R_spec_l11Painted, M_spec_l11Painted, F_spec_l11Painted⟩), (94, ⟨As_spec_l2Empty, R_spec_l2Empty, M_spec_l2Empty, F_spec_l2Empty⟩)], keep := [(3, ⟨[.box 2, .box 4, .box 5, .box 6, .tmp 1, .tmp 2, .tmp 4, .tmp 5, .tmp 6, .tmp 7], []⟩)], results := [.cell 4 26], ntmps := 51, n := n }
noncomputable def B_spec_l11Peel : Code := (Tryz.f55.body).getD .skip
noncomputable def L_spec_l11Peel_3 (n : Nat) (F_spec_l11Painted : Ft_spec_l11Painted) (F_spec_l2Empty : Ft_spec_l2Empty) (m0 : Nat) (p0 p1 p2 : Int) (p3 : List D_A3) (p4 p5 p6 : Int) (p7 : List D_A3) (p8 p9 p10 : Int) (p11 : List D_A3) (p12 p13 p14 : Int) (p15 : List D_A3) (p16 : Bool) (p17 : Int) : Option (denL R_spec_l11Peel) := loopF (X_spec_l11Peel n F_spec_l11Painted F_spec_l2Empty) B_spec_l11Peel R_spec_l11Peel M_spec_l11Peel 3 [m0] [(.ver, .num 1), (.box 2, .box 0 false [.int .i64 p0, .int .i64 p1, .int .i64 p2, .imm T_A3 p3 (some 3)]), (.box 4, .box 0 false [.int .i64 p4, .int .i64 p5, .int .i64 p6, .own 38 T_A3 0 p7]), (.box 5, .box 0 false [.int .i64 p8, .int .i64 p9, .int .i64 p10, .own 38 T_A3 0 p11]), (.box 6, .box 0 false [.int .i64 p12, .int .i64 p13, .int .i64 p14, .own 38 T_A3 0 p15]), (.tmp 1, .val false [.bool p16]), (.tmp 2, .val false [.addr 2 0 0]), (.tmp 4, .val false [.addr 4 0 0]), (.tmp 5, .val false [.addr 5 0 0]), (.tmp 6, .val false [.addr 6 0 0]), (.tmp 7, .val false [.int .i64 p17])]
theorem e_spec_l11Peel (n : Nat) (F_spec_l11Painted : Ft_spec_l11Painted) (F_spec_l2Empty : Ft_spec_l2Empty) (a0 : D_Heap) (a1 : Bool) : runF (X_spec_l11Peel n F_spec_l11Painted F_spec_l2Empty) B_spec_l11Peel As_spec_l11Peel R_spec_l11Peel M_spec_l11Peel (a0, a1, ()) = 
 Option.bind (F_spec_l2Empty (a0.1, a0.2.1, a0.2.2.1, ())) fun r0 =>
 Option.bind (F_spec_l2Empty (a0.1, a0.2.1, a0.2.2.1, ())) fun r1 =>
 L_spec_l11Peel_3 n F_spec_l11Painted F_spec_l2Empty n a0.1 a0.2.1 a0.2.2.1 a0.2.2.2.1 0 0 0 ([] : List D_A3) r0.1.1 r0.1.2.1 r0.1.2.2.1 r0.1.2.2.2.1 r1.1.1 r1.1.2.1 r1.1.2.2.1 r1.1.2.2.2.1 a1 0 := by kernel_rfl
theorem e_spec_l11Peel_3 (n : Nat) (F_spec_l11Painted : Ft_spec_l11Painted) (F_spec_l2Empty : Ft_spec_l2Empty) (m0 : Nat) (p0 p1 p2 : Int) (p3 : List D_A3) (p4 p5 p6 : Int) (p7 : List D_A3) (p8 p9 p10 : Int) (p11 : List D_A3) (p12 p13 p14 : Int) (p15 : List D_A3) (p16 : Bool) (p17 : Int) : L_spec_l11Peel_3 n F_spec_l11Painted F_spec_l2Empty (m0 + 1) p0 p1 p2 p3 p4 p5 p6 p7 p8 p9 p10 p11 p12 p13 p14 p15 p16 p17 = 
 bif decide (p17 < (List.length p3 : Int)) then
 bif inB p17 (List.length p3) then
 Option.bind (F_spec_l11Painted ((p0, (p1, (p2, (p3, ())))), (p12, (p13, (p14, (p15, ())))), (nth T_A3 p3 p17), ())) fun r2 =>
 bif (decide (r2.1 > 0) == p16) then
 bif inB p17 (List.length p3) then
 bif (decide (((List.length p11) + (List.length ([(nth T_A3 p3 p17)] : List D_A3))) * 24 ≤ 140737488355328) && decide (((List.length p11) + (List.length ([(nth T_A3 p3 p17)] : List D_A3))) ≤ 140737488355328)) then
 L_spec_l11Peel_3 n F_spec_l11Painted F_spec_l2Empty m0 p0 p1 p2 p3 p4 p5 p6 p7 p8 p9 p10 (p11 ++ ([(nth T_A3 p3 p17)] : List D_A3)) p12 p13 p14 p15 p16 (IntKind.wrap .i64 (p17 + 1))
 else none
 else none
 else
 L_spec_l11Peel_3 n F_spec_l11Painted F_spec_l2Empty m0 p0 p1 p2 p3 p4 p5 p6 p7 p8 p9 p10 p11 p12 p13 p14 p15 p16 (IntKind.wrap .i64 (p17 + 1))
 else none
 else
 some ((p8, (p9, (p10, (p11, ())))), ()) := by kernel_rfl
noncomputable def P_spec_l11Peel : Ft_spec_l11Peel := hid (runF (X_spec_l11Peel N P_spec_l11Painted P_spec_l2Empty) B_spec_l11Peel As_spec_l11Peel R_spec_l11Peel M_spec_l11Peel)
theorem h_spec_l11Peel : P_spec_l11Peel = runF (X_spec_l11Peel N P_spec_l11Painted P_spec_l2Empty) B_spec_l11Peel As_spec_l11Peel R_spec_l11Peel M_spec_l11Peel := hid_eq _
noncomputable def C_spec_l11Peel : Contract := ⟨As_spec_l11Peel, R_spec_l11Peel, M_spec_l11Peel, P_spec_l11Peel⟩
theorem s_spec_l11Peel : Sound Tryz.prog GG 55 C_spec_l11Peel := by
 unfold C_spec_l11Peel; rw [h_spec_l11Peel]
 exact sound_of_run (fn := Tryz.f55) hmix hstable (tyOK_of ttOK) (hglob (X_spec_l11Peel N P_spec_l11Painted P_spec_l2Empty)) (conOK_of (X := X_spec_l11Peel N P_spec_l11Painted P_spec_l2Empty) ⟨s_spec_l11Painted, s_spec_l2Empty, trivial⟩) (mconOK_of (X := X_spec_l11Peel N P_spec_l11Painted P_spec_l2Empty) trivial) (by kernel_rfl) (by kernel_rfl) (by kernel_rfl) (by kernel_rfl) (by kernel_rfl) (of_decide_eq_true (by kernel_rfl))
noncomputable def l_spec_l11Peel_3 : Nat → Int → Int → Int → (List D_A3) → Int → Int → Int → (List D_A3) → Int → Int → Int → (List D_A3) → Int → Int → Int → (List D_A3) → Bool → Int → Option (denL R_spec_l11Peel) := hid (fun m0 p0 p1 p2 p3 p4 p5 p6 p7 p8 p9 p10 p11 p12 p13 p14 p15 p16 p17 => L_spec_l11Peel_3 N P_spec_l11Painted P_spec_l2Empty m0 p0 p1 p2 p3 p4 p5 p6 p7 p8 p9 p10 p11 p12 p13 p14 p15 p16 p17)
theorem h_spec_l11Peel_3 : l_spec_l11Peel_3 = fun m0 p0 p1 p2 p3 p4 p5 p6 p7 p8 p9 p10 p11 p12 p13 p14 p15 p16 p17 => L_spec_l11Peel_3 N P_spec_l11Painted P_spec_l2Empty m0 p0 p1 p2 p3 p4 p5 p6 p7 p8 p9 p10 p11 p12 p13 p14 p15 p16 p17 := hid_eq _
theorem p_spec_l11Peel (a0 : D_Heap) (a1 : Bool) : P_spec_l11Peel (a0, a1, ()) = 
 Option.bind (P_spec_l2Empty (a0.1, a0.2.1, a0.2.2.1, ())) fun r0 =>
 Option.bind (P_spec_l2Empty (a0.1, a0.2.1, a0.2.2.1, ())) fun r1 =>
 l_spec_l11Peel_3 N a0.1 a0.2.1 a0.2.2.1 a0.2.2.2.1 0 0 0 ([] : List D_A3) r0.1.1 r0.1.2.1 r0.1.2.2.1 r0.1.2.2.2.1 r1.1.1 r1.1.2.1 r1.1.2.2.1 r1.1.2.2.2.1 a1 0 := by
 rewrite [h_spec_l11Peel, h_spec_l11Peel_3]
 exact e_spec_l11Peel N P_spec_l11Painted P_spec_l2Empty a0 a1
theorem q_spec_l11Peel_3 (m0 : Nat) (p0 p1 p2 : Int) (p3 : List D_A3) (p4 p5 p6 : Int) (p7 : List D_A3) (p8 p9 p10 : Int) (p11 : List D_A3) (p12 p13 p14 : Int) (p15 : List D_A3) (p16 : Bool) (p17 : Int) : l_spec_l11Peel_3 (m0 + 1) p0 p1 p2 p3 p4 p5 p6 p7 p8 p9 p10 p11 p12 p13 p14 p15 p16 p17 = 
 bif decide (p17 < (List.length p3 : Int)) then
 bif inB p17 (List.length p3) then
 Option.bind (P_spec_l11Painted ((p0, (p1, (p2, (p3, ())))), (p12, (p13, (p14, (p15, ())))), (nth T_A3 p3 p17), ())) fun r2 =>
 bif (decide (r2.1 > 0) == p16) then
 bif inB p17 (List.length p3) then
 bif (decide (((List.length p11) + (List.length ([(nth T_A3 p3 p17)] : List D_A3))) * 24 ≤ 140737488355328) && decide (((List.length p11) + (List.length ([(nth T_A3 p3 p17)] : List D_A3))) ≤ 140737488355328)) then
 l_spec_l11Peel_3 m0 p0 p1 p2 p3 p4 p5 p6 p7 p8 p9 p10 (p11 ++ ([(nth T_A3 p3 p17)] : List D_A3)) p12 p13 p14 p15 p16 (IntKind.wrap .i64 (p17 + 1))
 else none
 else none
 else
 l_spec_l11Peel_3 m0 p0 p1 p2 p3 p4 p5 p6 p7 p8 p9 p10 p11 p12 p13 p14 p15 p16 (IntKind.wrap .i64 (p17 + 1))
 else none
 else
 some ((p8, (p9, (p10, (p11, ())))), ()) := by
 rewrite [h_spec_l11Peel_3]
 exact e_spec_l11Peel_3 N P_spec_l11Painted P_spec_l2Empty m0 p0 p1 p2 p3 p4 p5 p6 p7 p8 p9 p10 p11 p12 p13 p14 p15 p16 p17

abbrev As_spec_PeelHeap : List ATy := [.data true T_Heap]
abbrev R_spec_PeelHeap : List (Bool × Ty) := [(true, T_Heap), (false, .bool)]
abbrev M_spec_PeelHeap : List RMode := [.own 38]
abbrev Ft_spec_PeelHeap : Type := D_Heap × Unit → Option (D_Heap × Bool × Unit)
noncomputable def X_spec_PeelHeap (n : Nat) (F_spec_l2Heap : Ft_spec_l2Heap) (F_spec_l11Peel : Ft_spec_l11Peel) : Ctx := { types := TT, globals := [], con := [(48, ⟨As_spec_l2Heap, R_spec_l2Heap, M_spec_l2Heap, F_spec_l2Heap⟩), (55, ⟨As_spec_l11Peel, R_spec_l11Peel, M_spec_l11Peel, F_spec_l11Peel⟩)], keep := [], results := [.cell 2 26, .tmp 3], ntmps := 10, n := n }
noncomputable def B_spec_PeelHeap : Code := (Tryz.f13.body).getD .skip
theorem e_spec_PeelHeap (n : Nat) (F_spec_l2Heap : Ft_spec_l2Heap) (F_spec_l11Peel : Ft_spec_l11Peel) (a0 : D_Heap) : runF (X_spec_PeelHeap n F_spec_l2Heap F_spec_l11Peel) B_spec_PeelHeap As_spec_PeelHeap R_spec_PeelHeap M_spec_PeelHeap (a0, ()) = 
 Option.bind (F_spec_l2Heap (a0, ())) fun r0 =>
 bif !r0.1 then
 some ((0, (0, (0, (([] : List D_A3), ())))), false, ())
 else
 Option.bind (F_spec_l11Peel (a0, false, ())) fun r2 =>
 some (r2.1, true, ()) := by kernel_rfl
noncomputable def P_spec_PeelHeap : Ft_spec_PeelHeap := hid (runF (X_spec_PeelHeap N P_spec_l2Heap P_spec_l11Peel) B_spec_PeelHeap As_spec_PeelHeap R_spec_PeelHeap M_spec_PeelHeap)
theorem h_spec_PeelHeap : P_spec_PeelHeap = runF (X_spec_PeelHeap N P_spec_l2Heap P_spec_l11Peel) B_spec_PeelHeap As_spec_PeelHeap R_spec_PeelHeap M_spec_PeelHeap := hid_eq _
noncomputable def C_spec_PeelHeap : Contract := ⟨As_spec_PeelHeap, R_spec_PeelHeap, M_spec_PeelHeap, P_spec_PeelHeap⟩
theorem s_spec_PeelHeap : Sound Tryz.prog GG 13 C_spec_PeelHeap := by
 unfold C_spec_PeelHeap; rw [h_spec_PeelHeap]
 exact sound_of_run (fn := Tryz.f13) hmix hstable (tyOK_of ttOK) (hglob (X_spec_PeelHeap N P_spec_l2Heap P_spec_l11Peel)) (conOK_of (X := X_spec_PeelHeap N P_spec_l2Heap P_spec_l11Peel) ⟨s_spec_l2Heap, s_spec_l11Peel, trivial⟩) (mconOK_of (X := X_spec_PeelHeap N P_spec_l2Heap P_spec_l11Peel) trivial) (by kernel_rfl) (by kernel_rfl) (by kernel_rfl) (by kernel_rfl) (by kernel_rfl) (of_decide_eq_true (by kernel_rfl))
theorem p_spec_PeelHeap (a0 : D_Heap) : P_spec_PeelHeap (a0, ()) = 
 Option.bind (P_spec_l2Heap (a0, ())) fun r0 =>
 bif !r0.1 then
 some ((0, (0, (0, (([] : List D_A3), ())))), false, ())
 else
 Option.bind (P_spec_l11Peel (a0, false, ())) fun r2 =>
 some (r2.1, true, ()) := by
 rewrite [h_spec_PeelHeap]
 exact e_spec_PeelHeap N P_spec_l2Heap P_spec_l11Peel a0

abbrev As_laws_rCells : List ATy := [.data false (.sl T_A3), .data false (.sl T_A3)]
abbrev R_laws_rCells : List (Bool × Ty) := [(false, .bool)]
abbrev M_laws_rCells : List RMode := []
abbrev Ft_laws_rCells : Type := (List D_A3) × (List D_A3) × Unit → Option (Bool × Unit)
noncomputable def X_laws_rCells (n : Nat) : Ctx := { types := TT, globals := [], con := [], keep := [(4, ⟨[.tmp 0, .tmp 1, .tmp 5], []⟩)], results := [.tmp 4], ntmps := 26, n := n }
noncomputable def B_laws_rCells : Code := (Tryz.f56.body).getD .skip
noncomputable def L_laws_rCells_4 (n m0 : Nat) (p0 p1 : List D_A3) (p2 : Int) : Option (denL R_laws_rCells) := loopF (X_laws_rCells n) B_laws_rCells R_laws_rCells M_laws_rCells 4 [m0] [(.ver, .num 1), (.tmp 0, .val false [.imm T_A3 p0 (some 0)]), (.tmp 1, .val false [.imm T_A3 p1 (some 1)]), (.tmp 5, .val false [.int .i64 p2])]
theorem e_laws_rCells (n : Nat) (a0 a1 : List D_A3) : runF (X_laws_rCells n) B_laws_rCells As_laws_rCells R_laws_rCells M_laws_rCells (a0, a1, ()) = 
 bif !decide ((List.length a0 : Int) = (List.length a1 : Int)) then
 some (false, ())
 else
 L_laws_rCells_4 n n a0 a1 0 := by kernel_rfl
theorem e_laws_rCells_4 (n m0 : Nat) (p0 p1 : List D_A3) (p2 : Int) : L_laws_rCells_4 n (m0 + 1) p0 p1 p2 = 
 bif decide (p2 < (List.length p0 : Int)) then
 bif inB p2 (List.length p0) then
 bif inB p2 (List.length p1) then
 bif !(decide (((nth T_A3 p0 p2)).1 = ((nth T_A3 p1 p2)).1) && (decide ((((nth T_A3 p0 p2)).2).1 = (((nth T_A3 p1 p2)).2).1) && (decide (((((nth T_A3 p0 p2)).2).2).1 = ((((nth T_A3 p1 p2)).2).2).1) && true))) then
 some (false, ())
 else
 L_laws_rCells_4 n m0 p0 p1 (IntKind.wrap .i64 (p2 + 1))
 else none
 else none
 else
 some (true, ()) := by kernel_rfl
noncomputable def P_laws_rCells : Ft_laws_rCells := hid (runF (X_laws_rCells N) B_laws_rCells As_laws_rCells R_laws_rCells M_laws_rCells)
theorem h_laws_rCells : P_laws_rCells = runF (X_laws_rCells N) B_laws_rCells As_laws_rCells R_laws_rCells M_laws_rCells := hid_eq _
noncomputable def C_laws_rCells : Contract := ⟨As_laws_rCells, R_laws_rCells, M_laws_rCells, P_laws_rCells⟩
theorem s_laws_rCells : Sound Tryz.prog GG 56 C_laws_rCells := by
 unfold C_laws_rCells; rw [h_laws_rCells]
 exact sound_of_run (fn := Tryz.f56) hmix hstable (tyOK_of ttOK) (hglob (X_laws_rCells N)) (conOK_of (X := X_laws_rCells N) trivial) (mconOK_of (X := X_laws_rCells N) trivial) (by kernel_rfl) (by kernel_rfl) (by kernel_rfl) (by kernel_rfl) (by kernel_rfl) (of_decide_eq_true (by kernel_rfl))
noncomputable def l_laws_rCells_4 : Nat → (List D_A3) → (List D_A3) → Int → Option (denL R_laws_rCells) := hid (fun m0 p0 p1 p2 => L_laws_rCells_4 N m0 p0 p1 p2)
theorem h_laws_rCells_4 : l_laws_rCells_4 = fun m0 p0 p1 p2 => L_laws_rCells_4 N m0 p0 p1 p2 := hid_eq _
theorem p_laws_rCells (a0 a1 : List D_A3) : P_laws_rCells (a0, a1, ()) = 
 bif !decide ((List.length a0 : Int) = (List.length a1 : Int)) then
 some (false, ())
 else
 l_laws_rCells_4 N a0 a1 0 := by
 rewrite [h_laws_rCells, h_laws_rCells_4]
 exact e_laws_rCells N a0 a1
theorem q_laws_rCells_4 (m0 : Nat) (p0 p1 : List D_A3) (p2 : Int) : l_laws_rCells_4 (m0 + 1) p0 p1 p2 = 
 bif decide (p2 < (List.length p0 : Int)) then
 bif inB p2 (List.length p0) then
 bif inB p2 (List.length p1) then
 bif !(decide (((nth T_A3 p0 p2)).1 = ((nth T_A3 p1 p2)).1) && (decide ((((nth T_A3 p0 p2)).2).1 = (((nth T_A3 p1 p2)).2).1) && (decide (((((nth T_A3 p0 p2)).2).2).1 = ((((nth T_A3 p1 p2)).2).2).1) && true))) then
 some (false, ())
 else
 l_laws_rCells_4 m0 p0 p1 (IntKind.wrap .i64 (p2 + 1))
 else none
 else none
 else
 some (true, ()) := by
 rewrite [h_laws_rCells_4]
 exact e_laws_rCells_4 N m0 p0 p1 p2

abbrev As_laws_rHeap : List ATy := [.data true T_Heap, .data true T_Heap]
abbrev R_laws_rHeap : List (Bool × Ty) := [(false, .bool)]
abbrev M_laws_rHeap : List RMode := []
abbrev Ft_laws_rHeap : Type := D_Heap × D_Heap × Unit → Option (Bool × Unit)
noncomputable def X_laws_rHeap (n : Nat) (F_laws_rCells : Ft_laws_rCells) : Ctx := { types := TT, globals := [], con := [(56, ⟨As_laws_rCells, R_laws_rCells, M_laws_rCells, F_laws_rCells⟩)], keep := [], results := [.tmp 4], ntmps := 31, n := n }
noncomputable def B_laws_rHeap : Code := (Tryz.f14.body).getD .skip
theorem e_laws_rHeap (n : Nat) (F_laws_rCells : Ft_laws_rCells) (a0 a1 : D_Heap) : runF (X_laws_rHeap n F_laws_rCells) B_laws_rHeap As_laws_rHeap R_laws_rHeap M_laws_rHeap (a0, a1, ()) = 
 bif decide (a0.1 = a1.1) then
 bif decide (a0.2.1 = a1.2.1) then
 bif decide (a0.2.2.1 = a1.2.2.1) then
 Option.bind (F_laws_rCells (a0.2.2.2.1, a1.2.2.2.1, ())) fun r3 =>
 some (r3.1, ())
 else
 some (false, ())
 else
 some (false, ())
 else
 some (false, ()) := by kernel_rfl
noncomputable def P_laws_rHeap : Ft_laws_rHeap := hid (runF (X_laws_rHeap N P_laws_rCells) B_laws_rHeap As_laws_rHeap R_laws_rHeap M_laws_rHeap)
theorem h_laws_rHeap : P_laws_rHeap = runF (X_laws_rHeap N P_laws_rCells) B_laws_rHeap As_laws_rHeap R_laws_rHeap M_laws_rHeap := hid_eq _
noncomputable def C_laws_rHeap : Contract := ⟨As_laws_rHeap, R_laws_rHeap, M_laws_rHeap, P_laws_rHeap⟩
theorem s_laws_rHeap : Sound Tryz.prog GG 14 C_laws_rHeap := by
 unfold C_laws_rHeap; rw [h_laws_rHeap]
 exact sound_of_run (fn := Tryz.f14) hmix hstable (tyOK_of ttOK) (hglob (X_laws_rHeap N P_laws_rCells)) (conOK_of (X := X_laws_rHeap N P_laws_rCells) ⟨s_laws_rCells, trivial⟩) (mconOK_of (X := X_laws_rHeap N P_laws_rCells) trivial) (by kernel_rfl) (by kernel_rfl) (by kernel_rfl) (by kernel_rfl) (by kernel_rfl) (of_decide_eq_true (by kernel_rfl))
theorem p_laws_rHeap (a0 a1 : D_Heap) : P_laws_rHeap (a0, a1, ()) = 
 bif decide (a0.1 = a1.1) then
 bif decide (a0.2.1 = a1.2.1) then
 bif decide (a0.2.2.1 = a1.2.2.1) then
 Option.bind (P_laws_rCells (a0.2.2.2.1, a1.2.2.2.1, ())) fun r3 =>
 some (r3.1, ())
 else
 some (false, ())
 else
 some (false, ())
 else
 some (false, ()) := by
 rewrite [h_laws_rHeap]
 exact e_laws_rHeap N P_laws_rCells a0 a1

abbrev As_impl_PeelCount : List ATy := [.data true T_Heap]
abbrev R_impl_PeelCount : List (Bool × Ty) := [(false, (.int .i64)), (false, .bool)]
abbrev M_impl_PeelCount : List RMode := []
abbrev Ft_impl_PeelCount : Type := D_Heap × Unit → Option (Int × Bool × Unit)
noncomputable def X_impl_PeelCount (n : Nat) (F_impl_IsHeap : Ft_impl_IsHeap) (F_Heap_peeled : Ft_Heap_peeled) : Ctx := { types := TT, globals := [], con := [(9, ⟨As_impl_IsHeap, R_impl_IsHeap, M_impl_IsHeap, F_impl_IsHeap⟩), (54, ⟨As_Heap_peeled, R_Heap_peeled, M_Heap_peeled, F_Heap_peeled⟩)], keep := [(4, ⟨[.box 1, .tmp 1, .tmp 4], [.box 1]⟩)], results := [.tmp 2, .tmp 3], ntmps := 17, n := n }
noncomputable def B_impl_PeelCount : Code := (Tryz.f15.body).getD .skip
noncomputable def L_impl_PeelCount_4 (n : Nat) (F_impl_IsHeap : Ft_impl_IsHeap) (F_Heap_peeled : Ft_Heap_peeled) (m0 : Nat) (p0 p1 p2 : Int) (p3 : List D_A3) (p4 : Int) : Option (denL R_impl_PeelCount) := loopF (X_impl_PeelCount n F_impl_IsHeap F_Heap_peeled) B_impl_PeelCount R_impl_PeelCount M_impl_PeelCount 4 [m0] [(.ver, .num 1), (.box 1, .box 0 false [.int .i64 p0, .int .i64 p1, .int .i64 p2, .imm T_A3 p3 none]), (.tmp 1, .val false [.addr 1 0 0]), (.tmp 4, .val false [.int .i64 p4])]
theorem e_impl_PeelCount (n : Nat) (F_impl_IsHeap : Ft_impl_IsHeap) (F_Heap_peeled : Ft_Heap_peeled) (a0 : D_Heap) : runF (X_impl_PeelCount n F_impl_IsHeap F_Heap_peeled) B_impl_PeelCount As_impl_PeelCount R_impl_PeelCount M_impl_PeelCount (a0, ()) = 
 Option.bind (F_impl_IsHeap (a0, ())) fun r0 =>
 bif !r0.1 then
 some (0, false, ())
 else
 L_impl_PeelCount_4 n F_impl_IsHeap F_Heap_peeled n a0.1 a0.2.1 a0.2.2.1 a0.2.2.2.1 0 := by kernel_rfl
theorem e_impl_PeelCount_4 (n : Nat) (F_impl_IsHeap : Ft_impl_IsHeap) (F_Heap_peeled : Ft_Heap_peeled) (m0 : Nat) (p0 p1 p2 : Int) (p3 : List D_A3) (p4 : Int) : L_impl_PeelCount_4 n F_impl_IsHeap F_Heap_peeled (m0 + 1) p0 p1 p2 p3 p4 = 
 bif decide ((List.length p3 : Int) > 0) then
 Option.bind (F_Heap_peeled ((p0, (p1, (p2, (p3, ())))), ())) fun r1 =>
 L_impl_PeelCount_4 n F_impl_IsHeap F_Heap_peeled m0 r1.1.1 r1.1.2.1 r1.1.2.2.1 r1.1.2.2.2.1 (IntKind.wrap .i64 (p4 + 1))
 else
 some (p4, true, ()) := by kernel_rfl
noncomputable def P_impl_PeelCount : Ft_impl_PeelCount := hid (runF (X_impl_PeelCount N P_impl_IsHeap P_Heap_peeled) B_impl_PeelCount As_impl_PeelCount R_impl_PeelCount M_impl_PeelCount)
theorem h_impl_PeelCount : P_impl_PeelCount = runF (X_impl_PeelCount N P_impl_IsHeap P_Heap_peeled) B_impl_PeelCount As_impl_PeelCount R_impl_PeelCount M_impl_PeelCount := hid_eq _
noncomputable def C_impl_PeelCount : Contract := ⟨As_impl_PeelCount, R_impl_PeelCount, M_impl_PeelCount, P_impl_PeelCount⟩
theorem s_impl_PeelCount : Sound Tryz.prog GG 15 C_impl_PeelCount := by
 unfold C_impl_PeelCount; rw [h_impl_PeelCount]
 exact sound_of_run (fn := Tryz.f15) hmix hstable (tyOK_of ttOK) (hglob (X_impl_PeelCount N P_impl_IsHeap P_Heap_peeled)) (conOK_of (X := X_impl_PeelCount N P_impl_IsHeap P_Heap_peeled) ⟨s_impl_IsHeap, s_Heap_peeled, trivial⟩) (mconOK_of (X := X_impl_PeelCount N P_impl_IsHeap P_Heap_peeled) trivial) (by kernel_rfl) (by kernel_rfl) (by kernel_rfl) (by kernel_rfl) (by kernel_rfl) (of_decide_eq_true (by kernel_rfl))
noncomputable def l_impl_PeelCount_4 : Nat → Int → Int → Int → (List D_A3) → Int → Option (denL R_impl_PeelCount) := hid (fun m0 p0 p1 p2 p3 p4 => L_impl_PeelCount_4 N P_impl_IsHeap P_Heap_peeled m0 p0 p1 p2 p3 p4)
theorem h_impl_PeelCount_4 : l_impl_PeelCount_4 = fun m0 p0 p1 p2 p3 p4 => L_impl_PeelCount_4 N P_impl_IsHeap P_Heap_peeled m0 p0 p1 p2 p3 p4 := hid_eq _
theorem p_impl_PeelCount (a0 : D_Heap) : P_impl_PeelCount (a0, ()) = 
 Option.bind (P_impl_IsHeap (a0, ())) fun r0 =>
 bif !r0.1 then
 some (0, false, ())
 else
 l_impl_PeelCount_4 N a0.1 a0.2.1 a0.2.2.1 a0.2.2.2.1 0 := by
 rewrite [h_impl_PeelCount, h_impl_PeelCount_4]
 exact e_impl_PeelCount N P_impl_IsHeap P_Heap_peeled a0
theorem q_impl_PeelCount_4 (m0 : Nat) (p0 p1 p2 : Int) (p3 : List D_A3) (p4 : Int) : l_impl_PeelCount_4 (m0 + 1) p0 p1 p2 p3 p4 = 
 bif decide ((List.length p3 : Int) > 0) then
 Option.bind (P_Heap_peeled ((p0, (p1, (p2, (p3, ())))), ())) fun r1 =>
 l_impl_PeelCount_4 m0 r1.1.1 r1.1.2.1 r1.1.2.2.1 r1.1.2.2.2.1 (IntKind.wrap .i64 (p4 + 1))
 else
 some (p4, true, ()) := by
 rewrite [h_impl_PeelCount_4]
 exact e_impl_PeelCount_4 N P_impl_IsHeap P_Heap_peeled m0 p0 p1 p2 p3 p4

abbrev As_spec_PeelCount : List ATy := [.data true T_Heap]
abbrev R_spec_PeelCount : List (Bool × Ty) := [(false, (.int .i64)), (false, .bool)]
abbrev M_spec_PeelCount : List RMode := []
abbrev Ft_spec_PeelCount : Type := D_Heap × Unit → Option (Int × Bool × Unit)
noncomputable def X_spec_PeelCount (n : Nat) (F_spec_l2Heap : Ft_spec_l2Heap) (F_spec_l11Peel : Ft_spec_l11Peel) : Ctx := { types := TT, globals := [], con := [(48, ⟨As_spec_l2Heap, R_spec_l2Heap, M_spec_l2Heap, F_spec_l2Heap⟩), (55, ⟨As_spec_l11Peel, R_spec_l11Peel, M_spec_l11Peel, F_spec_l11Peel⟩)], keep := [(4, ⟨[.box 5, .tmp 4, .tmp 5], [.box 5]⟩)], results := [.tmp 2, .tmp 3], ntmps := 19, n := n }
noncomputable def B_spec_PeelCount : Code := (Tryz.f16.body).getD .skip
noncomputable def L_spec_PeelCount_4 (n : Nat) (F_spec_l2Heap : Ft_spec_l2Heap) (F_spec_l11Peel : Ft_spec_l11Peel) (m0 : Nat) (p0 p1 p2 : Int) (p3 : List D_A3) (p4 : Int) : Option (denL R_spec_PeelCount) := loopF (X_spec_PeelCount n F_spec_l2Heap F_spec_l11Peel) B_spec_PeelCount R_spec_PeelCount M_spec_PeelCount 4 [m0] [(.ver, .num 1), (.box 5, .box 0 false [.int .i64 p0, .int .i64 p1, .int .i64 p2, .imm T_A3 p3 none]), (.tmp 4, .val false [.int .i64 p4]), (.tmp 5, .val false [.addr 5 0 0])]
theorem e_spec_PeelCount (n : Nat) (F_spec_l2Heap : Ft_spec_l2Heap) (F_spec_l11Peel : Ft_spec_l11Peel) (a0 : D_Heap) : runF (X_spec_PeelCount n F_spec_l2Heap F_spec_l11Peel) B_spec_PeelCount As_spec_PeelCount R_spec_PeelCount M_spec_PeelCount (a0, ()) = 
 Option.bind (F_spec_l2Heap (a0, ())) fun r0 =>
 bif !r0.1 then
 some (0, false, ())
 else
 L_spec_PeelCount_4 n F_spec_l2Heap F_spec_l11Peel n a0.1 a0.2.1 a0.2.2.1 a0.2.2.2.1 0 := by kernel_rfl
theorem e_spec_PeelCount_4 (n : Nat) (F_spec_l2Heap : Ft_spec_l2Heap) (F_spec_l11Peel : Ft_spec_l11Peel) (m0 : Nat) (p0 p1 p2 : Int) (p3 : List D_A3) (p4 : Int) : L_spec_PeelCount_4 n F_spec_l2Heap F_spec_l11Peel (m0 + 1) p0 p1 p2 p3 p4 = 
 bif decide ((List.length p3 : Int) > 0) then
 Option.bind (F_spec_l11Peel ((p0, (p1, (p2, (p3, ())))), false, ())) fun r1 =>
 L_spec_PeelCount_4 n F_spec_l2Heap F_spec_l11Peel m0 r1.1.1 r1.1.2.1 r1.1.2.2.1 r1.1.2.2.2.1 (IntKind.wrap .i64 (p4 + 1))
 else
 some (p4, true, ()) := by kernel_rfl
noncomputable def P_spec_PeelCount : Ft_spec_PeelCount := hid (runF (X_spec_PeelCount N P_spec_l2Heap P_spec_l11Peel) B_spec_PeelCount As_spec_PeelCount R_spec_PeelCount M_spec_PeelCount)
theorem h_spec_PeelCount : P_spec_PeelCount = runF (X_spec_PeelCount N P_spec_l2Heap P_spec_l11Peel) B_spec_PeelCount As_spec_PeelCount R_spec_PeelCount M_spec_PeelCount := hid_eq _
noncomputable def C_spec_PeelCount : Contract := ⟨As_spec_PeelCount, R_spec_PeelCount, M_spec_PeelCount, P_spec_PeelCount⟩
theorem s_spec_PeelCount : Sound Tryz.prog GG 16 C_spec_PeelCount := by
 unfold C_spec_PeelCount; rw [h_spec_PeelCount]
 exact sound_of_run (fn := Tryz.f16) hmix hstable (tyOK_of ttOK) (hglob (X_spec_PeelCount N P_spec_l2Heap P_spec_l11Peel)) (conOK_of (X := X_spec_PeelCount N P_spec_l2Heap P_spec_l11Peel) ⟨s_spec_l2Heap, s_spec_l11Peel, trivial⟩) (mconOK_of (X := X_spec_PeelCount N P_spec_l2Heap P_spec_l11Peel) trivial) (by kernel_rfl) (by kernel_rfl) (by kernel_rfl) (by kernel_rfl) (by kernel_rfl) (of_decide_eq_true (by kernel_rfl))
noncomputable def l_spec_PeelCount_4 : Nat → Int → Int → Int → (List D_A3) → Int → Option (denL R_spec_PeelCount) := hid (fun m0 p0 p1 p2 p3 p4 => L_spec_PeelCount_4 N P_spec_l2Heap P_spec_l11Peel m0 p0 p1 p2 p3 p4)
theorem h_spec_PeelCount_4 : l_spec_PeelCount_4 = fun m0 p0 p1 p2 p3 p4 => L_spec_PeelCount_4 N P_spec_l2Heap P_spec_l11Peel m0 p0 p1 p2 p3 p4 := hid_eq _
theorem p_spec_PeelCount (a0 : D_Heap) : P_spec_PeelCount (a0, ()) = 
 Option.bind (P_spec_l2Heap (a0, ())) fun r0 =>
 bif !r0.1 then
 some (0, false, ())
 else
 l_spec_PeelCount_4 N a0.1 a0.2.1 a0.2.2.1 a0.2.2.2.1 0 := by
 rewrite [h_spec_PeelCount, h_spec_PeelCount_4]
 exact e_spec_PeelCount N P_spec_l2Heap P_spec_l11Peel a0
theorem q_spec_PeelCount_4 (m0 : Nat) (p0 p1 p2 : Int) (p3 : List D_A3) (p4 : Int) : l_spec_PeelCount_4 (m0 + 1) p0 p1 p2 p3 p4 = 
 bif decide ((List.length p3 : Int) > 0) then
 Option.bind (P_spec_l11Peel ((p0, (p1, (p2, (p3, ())))), false, ())) fun r1 =>
 l_spec_PeelCount_4 m0 r1.1.1 r1.1.2.1 r1.1.2.2.1 r1.1.2.2.2.1 (IntKind.wrap .i64 (p4 + 1))
 else
 some (p4, true, ()) := by
 rewrite [h_spec_PeelCount_4]
 exact e_spec_PeelCount_4 N P_spec_l2Heap P_spec_l11Peel m0 p0 p1 p2 p3 p4

abbrev As_spec_l1Least : List ATy := [.data false (.int .i64), .data false (.int .i64)]
abbrev R_spec_l1Least : List (Bool × Ty) := [(false, (.int .i64))]
abbrev M_spec_l1Least : List RMode := []
abbrev Ft_spec_l1Least : Type := Int × Int × Unit → Option (Int × Unit)
noncomputable def X_spec_l1Least (n : Nat) : Ctx := { types := TT, globals := [], con := [], keep := [], results := [.tmp 4], ntmps := 10, n := n }
noncomputable def B_spec_l1Least : Code := (Tryz.f122.body).getD .skip
theorem e_spec_l1Least (n : Nat) (a0 a1 : Int) : runF (X_spec_l1Least n) B_spec_l1Least As_spec_l1Least R_spec_l1Least M_spec_l1Least (a0, a1, ()) = 
 bif decide (a0 < a1) then
 some (a0, ())
 else
 some (a1, ()) := by kernel_rfl
noncomputable def P_spec_l1Least : Ft_spec_l1Least := hid (runF (X_spec_l1Least N) B_spec_l1Least As_spec_l1Least R_spec_l1Least M_spec_l1Least)
theorem h_spec_l1Least : P_spec_l1Least = runF (X_spec_l1Least N) B_spec_l1Least As_spec_l1Least R_spec_l1Least M_spec_l1Least := hid_eq _
noncomputable def C_spec_l1Least : Contract := ⟨As_spec_l1Least, R_spec_l1Least, M_spec_l1Least, P_spec_l1Least⟩
theorem s_spec_l1Least : Sound Tryz.prog GG 122 C_spec_l1Least := by
 unfold C_spec_l1Least; rw [h_spec_l1Least]
 exact sound_of_run (fn := Tryz.f122) hmix hstable (tyOK_of ttOK) (hglob (X_spec_l1Least N)) (conOK_of (X := X_spec_l1Least N) trivial) (mconOK_of (X := X_spec_l1Least N) trivial) (by kernel_rfl) (by kernel_rfl) (by kernel_rfl) (by kernel_rfl) (by kernel_rfl) (of_decide_eq_true (by kernel_rfl))
theorem p_spec_l1Least (a0 a1 : Int) : P_spec_l1Least (a0, a1, ()) = 
 bif decide (a0 < a1) then
 some (a0, ())
 else
 some (a1, ()) := by
 rewrite [h_spec_l1Least]
 exact e_spec_l1Least N a0 a1

abbrev As_spec_l1Most : List ATy := [.data false (.int .i64), .data false (.int .i64)]
abbrev R_spec_l1Most : List (Bool × Ty) := [(false, (.int .i64))]
abbrev M_spec_l1Most : List RMode := []
abbrev Ft_spec_l1Most : Type := Int × Int × Unit → Option (Int × Unit)
noncomputable def X_spec_l1Most (n : Nat) : Ctx := { types := TT, globals := [], con := [], keep := [], results := [.tmp 4], ntmps := 10, n := n }
noncomputable def B_spec_l1Most : Code := (Tryz.f125.body).getD .skip
theorem e_spec_l1Most (n : Nat) (a0 a1 : Int) : runF (X_spec_l1Most n) B_spec_l1Most As_spec_l1Most R_spec_l1Most M_spec_l1Most (a0, a1, ()) = 
 bif decide (a0 > a1) then
 some (a0, ())
 else
 some (a1, ()) := by kernel_rfl
noncomputable def P_spec_l1Most : Ft_spec_l1Most := hid (runF (X_spec_l1Most N) B_spec_l1Most As_spec_l1Most R_spec_l1Most M_spec_l1Most)
theorem h_spec_l1Most : P_spec_l1Most = runF (X_spec_l1Most N) B_spec_l1Most As_spec_l1Most R_spec_l1Most M_spec_l1Most := hid_eq _
noncomputable def C_spec_l1Most : Contract := ⟨As_spec_l1Most, R_spec_l1Most, M_spec_l1Most, P_spec_l1Most⟩
theorem s_spec_l1Most : Sound Tryz.prog GG 125 C_spec_l1Most := by
 unfold C_spec_l1Most; rw [h_spec_l1Most]
 exact sound_of_run (fn := Tryz.f125) hmix hstable (tyOK_of ttOK) (hglob (X_spec_l1Most N)) (conOK_of (X := X_spec_l1Most N) trivial) (mconOK_of (X := X_spec_l1Most N) trivial) (by kernel_rfl) (by kernel_rfl) (by kernel_rfl) (by kernel_rfl) (by kernel_rfl) (of_decide_eq_true (by kernel_rfl))
theorem p_spec_l1Most (a0 a1 : Int) : P_spec_l1Most (a0, a1, ()) = 
 bif decide (a0 > a1) then
 some (a0, ())
 else
 some (a1, ()) := by
 rewrite [h_spec_l1Most]
 exact e_spec_l1Most N a0 a1

abbrev As_l1Cur_cell : List ATy := [.lptr T_l1Cur, .data true T_Heap]
abbrev R_l1Cur_cell : List (Bool × Ty) := [(true, T_A3)]
abbrev M_l1Cur_cell : List RMode := []
abbrev Ft_l1Cur_cell : Type := D_l1Cur × D_Heap × Unit → Option ((D_A3 × Unit) × (D_l1Cur × Unit))
noncomputable def X_l1Cur_cell (n : Nat) (F_l1Cur_one : Ft_l1Cur_one) (F_l1Cur_pick : Ft_l1Cur_pick) (F_l1Cur_among : Ft_l1Cur_among) (F_spec_l2Long : Ft_spec_l2Long) (F_spec_l1Least : Ft_spec_l1Least) (F_spec_l1Most : Ft_spec_l1Most) : Ctx := { types := TT, globals := [], con := [(90, ⟨As_spec_l2Long, R_spec_l2Long, M_spec_l2Long, F_spec_l2Long⟩), (122, ⟨As_spec_l1Least, R_spec_l1Least, M_spec_l1Least, F_spec_l1Least⟩), (125, ⟨As_spec_l1Most, R_spec_l1Most, M_spec_l1Most, F_spec_l1Most⟩)], mcon := [(46, ⟨As_l1Cur_one, R_l1Cur_one, M_l1Cur_one, F_l1Cur_one⟩), (85, ⟨As_l1Cur_pick, R_l1Cur_pick, M_l1Cur_pick, F_l1Cur_pick⟩), (88, ⟨As_l1Cur_among, R_l1Cur_among, M_l1Cur_among, F_l1Cur_among⟩)], keep := [(3, ⟨[.box 3, .box 4, .box 5, .box 1000000, .tmp 0, .tmp 3, .tmp 4, .tmp 5, .tmp 6], []⟩)], results := [.cell 4 38], ntmps := 30, n := n }
noncomputable def B_l1Cur_cell : Code := (Tryz.f95.body).getD .skip
noncomputable def L_l1Cur_cell_3 (n : Nat) (F_l1Cur_one : Ft_l1Cur_one) (F_l1Cur_pick : Ft_l1Cur_pick) (F_l1Cur_among : Ft_l1Cur_among) (F_spec_l2Long : Ft_spec_l2Long) (F_spec_l1Least : Ft_spec_l1Least) (F_spec_l1Most : Ft_spec_l1Most) (m0 : Nat) (p0 p1 p2 : Int) (p3 : List D_A3) (p4 p5 : Int) (p6 p7 : Int) (p8 p9 : Int) (p10 : List Int) (p11 p12 p13 : Int) : Option (denL R_l1Cur_cell × denM As_l1Cur_cell) := loopFM (X_l1Cur_cell n F_l1Cur_one F_l1Cur_pick F_l1Cur_among F_spec_l2Long F_spec_l1Least F_spec_l1Most) B_l1Cur_cell As_l1Cur_cell R_l1Cur_cell M_l1Cur_cell 3 [m0] [(.ver, .num 1), (.box 3, .box 0 false [.int .i64 p0, .int .i64 p1, .int .i64 p2, .imm T_A3 p3 (some 4)]), (.box 4, .box 0 false [.int .i64 p4, .int .i64 p5, .int .i64 p6]), (.box 5, .box 0 false [.int .i64 p7, .int .i64 p8, .int .i64 p9]), (.box 1000000, .box 0 false [.imm (.int .u8) p10 (some 5), .int .i64 p11, .int .u64 p12]), (.tmp 0, .val false [.addr 1000000 0 0]), (.tmp 3, .val false [.addr 3 0 0]), (.tmp 4, .val false [.addr 4 0 0]), (.tmp 5, .val false [.addr 5 0 0]), (.tmp 6, .val false [.int .i64 p13])]
theorem e_l1Cur_cell (n : Nat) (F_l1Cur_one : Ft_l1Cur_one) (F_l1Cur_pick : Ft_l1Cur_pick) (F_l1Cur_among : Ft_l1Cur_among) (F_spec_l2Long : Ft_spec_l2Long) (F_spec_l1Least : Ft_spec_l1Least) (F_spec_l1Most : Ft_spec_l1Most) (a0 : D_l1Cur) (a1 : D_Heap) : runFM (X_l1Cur_cell n F_l1Cur_one F_l1Cur_pick F_l1Cur_among F_spec_l2Long F_spec_l1Least F_spec_l1Most) B_l1Cur_cell As_l1Cur_cell R_l1Cur_cell M_l1Cur_cell (a0, a1, ()) = 
 L_l1Cur_cell_3 n F_l1Cur_one F_l1Cur_pick F_l1Cur_among F_spec_l2Long F_spec_l1Least F_spec_l1Most n a1.1 a1.2.1 a1.2.2.1 a1.2.2.2.1 0 0 0 0 0 0 a0.1 a0.2.1 a0.2.2.1 0 := by kernel_rfl
theorem e_l1Cur_cell_3 (n : Nat) (F_l1Cur_one : Ft_l1Cur_one) (F_l1Cur_pick : Ft_l1Cur_pick) (F_l1Cur_among : Ft_l1Cur_among) (F_spec_l2Long : Ft_spec_l2Long) (F_spec_l1Least : Ft_spec_l1Least) (F_spec_l1Most : Ft_spec_l1Most) (m0 : Nat) (p0 p1 p2 : Int) (p3 : List D_A3) (p4 p5 : Int) (p6 p7 : Int) (p8 p9 : Int) (p10 : List Int) (p11 p12 p13 : Int) : L_l1Cur_cell_3 n F_l1Cur_one F_l1Cur_pick F_l1Cur_among F_spec_l2Long F_spec_l1Least F_spec_l1Most (m0 + 1) p0 p1 p2 p3 p4 p5 p6 p7 p8 p9 p10 p11 p12 p13 = 
 bif decide (p13 < 3) then
 Option.bind (F_spec_l2Long ((p0, (p1, (p2, (p3, ())))), p13, ())) fun r1 =>
 Option.bind (F_spec_l1Least (r1.1, 4, ())) fun r2 =>
 Option.bind (F_spec_l1Most (r2.1, 1, ())) fun r3 =>
 Option.bind (F_l1Cur_pick ((p10, (p11, (p12, ()))), r3.1, ())) fun r4 =>
 bif inB p13 3 then
 L_l1Cur_cell_3 n F_l1Cur_one F_l1Cur_pick F_l1Cur_among F_spec_l2Long F_spec_l1Least F_spec_l1Most m0 p0 p1 p2 p3 p4 p5 p6 (bif decide (p13 = (0 : Int)) then r4.1.1 else p7) (bif decide (p13 = (1 : Int)) then r4.1.1 else p8) (bif decide (p13 = (2 : Int)) then r4.1.1 else p9) p10 r4.2.1.2.1 r4.2.1.2.2.1 (IntKind.wrap .i64 (p13 + 1))
 else none
 else
 Option.bind (F_l1Cur_one ((p10, (p11, (p12, ()))), 30, ())) fun r1 =>
 bif r1.1.1 then
 Option.bind (F_l1Cur_pick ((p10, r1.2.1.2), 3, ())) fun r3 =>
 Option.bind (F_l1Cur_among ((p10, r3.2.1.2), ([(-1), 4, 4611686018427387904] : List Int), ())) fun r4 =>
 bif inB r3.1.1 3 then
 some ((((bif decide (r3.1.1 = (0 : Int)) then r4.1.1 else p7), ((bif decide (r3.1.1 = (1 : Int)) then r4.1.1 else p8), ((bif decide (r3.1.1 = (2 : Int)) then r4.1.1 else p9), ()))), ()), ((p10, r4.2.1.2), ()))
 else none
 else
 some (((p7, (p8, (p9, ()))), ()), ((p10, r1.2.1.2), ())) := by kernel_rfl
noncomputable def P_l1Cur_cell : Ft_l1Cur_cell := hid (runFM (X_l1Cur_cell N P_l1Cur_one P_l1Cur_pick P_l1Cur_among P_spec_l2Long P_spec_l1Least P_spec_l1Most) B_l1Cur_cell As_l1Cur_cell R_l1Cur_cell M_l1Cur_cell)
theorem h_l1Cur_cell : P_l1Cur_cell = runFM (X_l1Cur_cell N P_l1Cur_one P_l1Cur_pick P_l1Cur_among P_spec_l2Long P_spec_l1Least P_spec_l1Most) B_l1Cur_cell As_l1Cur_cell R_l1Cur_cell M_l1Cur_cell := hid_eq _
noncomputable def C_l1Cur_cell : MContract := ⟨As_l1Cur_cell, R_l1Cur_cell, M_l1Cur_cell, P_l1Cur_cell⟩
theorem s_l1Cur_cell : SoundM Tryz.prog n0 GG 95 C_l1Cur_cell := by
 unfold C_l1Cur_cell; rw [h_l1Cur_cell]
 exact sound_of_runM (fn := Tryz.f95) hmix hstable (tyOK_of ttOK) (hglob (X_l1Cur_cell N P_l1Cur_one P_l1Cur_pick P_l1Cur_among P_spec_l2Long P_spec_l1Least P_spec_l1Most)) (conOK_of (X := X_l1Cur_cell N P_l1Cur_one P_l1Cur_pick P_l1Cur_among P_spec_l2Long P_spec_l1Least P_spec_l1Most) ⟨s_spec_l2Long, s_spec_l1Least, s_spec_l1Most, trivial⟩) (mconOK_of (X := X_l1Cur_cell N P_l1Cur_one P_l1Cur_pick P_l1Cur_among P_spec_l2Long P_spec_l1Least P_spec_l1Most) ⟨s_l1Cur_one, s_l1Cur_pick, s_l1Cur_among, trivial⟩) (by kernel_rfl) (by kernel_rfl) (by kernel_rfl) (by kernel_rfl) (by kernel_rfl) (of_decide_eq_true (by kernel_rfl)) (by kernel_rfl) (by rfl)
noncomputable def l_l1Cur_cell_3 : Nat → Int → Int → Int → (List D_A3) → Int → Int → Int → Int → Int → Int → (List Int) → Int → Int → Int → Option (denL R_l1Cur_cell × denM As_l1Cur_cell) := hid (fun m0 p0 p1 p2 p3 p4 p5 p6 p7 p8 p9 p10 p11 p12 p13 => L_l1Cur_cell_3 N P_l1Cur_one P_l1Cur_pick P_l1Cur_among P_spec_l2Long P_spec_l1Least P_spec_l1Most m0 p0 p1 p2 p3 p4 p5 p6 p7 p8 p9 p10 p11 p12 p13)
theorem h_l1Cur_cell_3 : l_l1Cur_cell_3 = fun m0 p0 p1 p2 p3 p4 p5 p6 p7 p8 p9 p10 p11 p12 p13 => L_l1Cur_cell_3 N P_l1Cur_one P_l1Cur_pick P_l1Cur_among P_spec_l2Long P_spec_l1Least P_spec_l1Most m0 p0 p1 p2 p3 p4 p5 p6 p7 p8 p9 p10 p11 p12 p13 := hid_eq _
theorem p_l1Cur_cell (a0 : D_l1Cur) (a1 : D_Heap) : P_l1Cur_cell (a0, a1, ()) = 
 l_l1Cur_cell_3 N a1.1 a1.2.1 a1.2.2.1 a1.2.2.2.1 0 0 0 0 0 0 a0.1 a0.2.1 a0.2.2.1 0 := by
 rewrite [h_l1Cur_cell, h_l1Cur_cell_3]
 exact e_l1Cur_cell N P_l1Cur_one P_l1Cur_pick P_l1Cur_among P_spec_l2Long P_spec_l1Least P_spec_l1Most a0 a1
theorem q_l1Cur_cell_3 (m0 : Nat) (p0 p1 p2 : Int) (p3 : List D_A3) (p4 p5 : Int) (p6 p7 : Int) (p8 p9 : Int) (p10 : List Int) (p11 p12 p13 : Int) : l_l1Cur_cell_3 (m0 + 1) p0 p1 p2 p3 p4 p5 p6 p7 p8 p9 p10 p11 p12 p13 = 
 bif decide (p13 < 3) then
 Option.bind (P_spec_l2Long ((p0, (p1, (p2, (p3, ())))), p13, ())) fun r1 =>
 Option.bind (P_spec_l1Least (r1.1, 4, ())) fun r2 =>
 Option.bind (P_spec_l1Most (r2.1, 1, ())) fun r3 =>
 Option.bind (P_l1Cur_pick ((p10, (p11, (p12, ()))), r3.1, ())) fun r4 =>
 bif inB p13 3 then
 l_l1Cur_cell_3 m0 p0 p1 p2 p3 p4 p5 p6 (bif decide (p13 = (0 : Int)) then r4.1.1 else p7) (bif decide (p13 = (1 : Int)) then r4.1.1 else p8) (bif decide (p13 = (2 : Int)) then r4.1.1 else p9) p10 r4.2.1.2.1 r4.2.1.2.2.1 (IntKind.wrap .i64 (p13 + 1))
 else none
 else
 Option.bind (P_l1Cur_one ((p10, (p11, (p12, ()))), 30, ())) fun r1 =>
 bif r1.1.1 then
 Option.bind (P_l1Cur_pick ((p10, r1.2.1.2), 3, ())) fun r3 =>
 Option.bind (P_l1Cur_among ((p10, r3.2.1.2), ([(-1), 4, 4611686018427387904] : List Int), ())) fun r4 =>
 bif inB r3.1.1 3 then
 some ((((bif decide (r3.1.1 = (0 : Int)) then r4.1.1 else p7), ((bif decide (r3.1.1 = (1 : Int)) then r4.1.1 else p8), ((bif decide (r3.1.1 = (2 : Int)) then r4.1.1 else p9), ()))), ()), ((p10, r4.2.1.2), ()))
 else none
 else
 some (((p7, (p8, (p9, ()))), ()), ((p10, r1.2.1.2), ())) := by
 rewrite [h_l1Cur_cell_3]
 exact e_l1Cur_cell_3 N P_l1Cur_one P_l1Cur_pick P_l1Cur_among P_spec_l2Long P_spec_l1Least P_spec_l1Most m0 p0 p1 p2 p3 p4 p5 p6 p7 p8 p9 p10 p11 p12 p13

abbrev As_l1Cur_cube : List ATy := [.lptr T_l1Cur, .data true T_Heap]
abbrev R_l1Cur_cube : List (Bool × Ty) := [(true, T_A3)]
abbrev M_l1Cur_cube : List RMode := []
abbrev Ft_l1Cur_cube : Type := D_l1Cur × D_Heap × Unit → Option ((D_A3 × Unit) × (D_l1Cur × Unit))
noncomputable def X_l1Cur_cube (n : Nat) (F_l1Cur_one : Ft_l1Cur_one) (F_l1Cur_pick : Ft_l1Cur_pick) (F_l1Cur_cell : Ft_l1Cur_cell) : Ctx := { types := TT, globals := [], con := [], mcon := [(46, ⟨As_l1Cur_one, R_l1Cur_one, M_l1Cur_one, F_l1Cur_one⟩), (85, ⟨As_l1Cur_pick, R_l1Cur_pick, M_l1Cur_pick, F_l1Cur_pick⟩), (95, ⟨As_l1Cur_cell, R_l1Cur_cell, M_l1Cur_cell, F_l1Cur_cell⟩)], keep := [], results := [.cell 4 38], ntmps := 26, n := n }
noncomputable def B_l1Cur_cube : Code := (Tryz.f57.body).getD .skip
theorem e_l1Cur_cube (n : Nat) (F_l1Cur_one : Ft_l1Cur_one) (F_l1Cur_pick : Ft_l1Cur_pick) (F_l1Cur_cell : Ft_l1Cur_cell) (a0 : D_l1Cur) (a1 : D_Heap) : runFM (X_l1Cur_cube n F_l1Cur_one F_l1Cur_pick F_l1Cur_cell) B_l1Cur_cube As_l1Cur_cube R_l1Cur_cube M_l1Cur_cube (a0, a1, ()) = 
 bif decide ((List.length a1.2.2.2.1 : Int) > 0) then
 Option.bind (F_l1Cur_one (a0, 8, ())) fun r1 =>
 bif !r1.1.1 then
 Option.bind (F_l1Cur_pick ((a0.1, r1.2.1.2), (List.length a1.2.2.2.1 : Int), ())) fun r3 =>
 bif inB r3.1.1 (List.length a1.2.2.2.1) then
 some (((nth T_A3 a1.2.2.2.1 r3.1.1), ()), ((a0.1, r3.2.1.2), ()))
 else none
 else
 Option.bind (F_l1Cur_cell ((a0.1, r1.2.1.2), a1, ())) fun r3 =>
 some ((r3.1.1, ()), ((a0.1, r3.2.1.2), ()))
 else
 Option.bind (F_l1Cur_cell (a0, a1, ())) fun r1 =>
 some ((r1.1.1, ()), ((a0.1, r1.2.1.2), ())) := by kernel_rfl
noncomputable def P_l1Cur_cube : Ft_l1Cur_cube := hid (runFM (X_l1Cur_cube N P_l1Cur_one P_l1Cur_pick P_l1Cur_cell) B_l1Cur_cube As_l1Cur_cube R_l1Cur_cube M_l1Cur_cube)
theorem h_l1Cur_cube : P_l1Cur_cube = runFM (X_l1Cur_cube N P_l1Cur_one P_l1Cur_pick P_l1Cur_cell) B_l1Cur_cube As_l1Cur_cube R_l1Cur_cube M_l1Cur_cube := hid_eq _
noncomputable def C_l1Cur_cube : MContract := ⟨As_l1Cur_cube, R_l1Cur_cube, M_l1Cur_cube, P_l1Cur_cube⟩
theorem s_l1Cur_cube : SoundM Tryz.prog n0 GG 57 C_l1Cur_cube := by
 unfold C_l1Cur_cube; rw [h_l1Cur_cube]
 exact sound_of_runM (fn := Tryz.f57) hmix hstable (tyOK_of ttOK) (hglob (X_l1Cur_cube N P_l1Cur_one P_l1Cur_pick P_l1Cur_cell)) (conOK_of (X := X_l1Cur_cube N P_l1Cur_one P_l1Cur_pick P_l1Cur_cell) trivial) (mconOK_of (X := X_l1Cur_cube N P_l1Cur_one P_l1Cur_pick P_l1Cur_cell) ⟨s_l1Cur_one, s_l1Cur_pick, s_l1Cur_cell, trivial⟩) (by kernel_rfl) (by kernel_rfl) (by kernel_rfl) (by kernel_rfl) (by kernel_rfl) (of_decide_eq_true (by kernel_rfl)) (by kernel_rfl) (by rfl)
theorem p_l1Cur_cube (a0 : D_l1Cur) (a1 : D_Heap) : P_l1Cur_cube (a0, a1, ()) = 
 bif decide ((List.length a1.2.2.2.1 : Int) > 0) then
 Option.bind (P_l1Cur_one (a0, 8, ())) fun r1 =>
 bif !r1.1.1 then
 Option.bind (P_l1Cur_pick ((a0.1, r1.2.1.2), (List.length a1.2.2.2.1 : Int), ())) fun r3 =>
 bif inB r3.1.1 (List.length a1.2.2.2.1) then
 some (((nth T_A3 a1.2.2.2.1 r3.1.1), ()), ((a0.1, r3.2.1.2), ()))
 else none
 else
 Option.bind (P_l1Cur_cell ((a0.1, r1.2.1.2), a1, ())) fun r3 =>
 some ((r3.1.1, ()), ((a0.1, r3.2.1.2), ()))
 else
 Option.bind (P_l1Cur_cell (a0, a1, ())) fun r1 =>
 some ((r1.1.1, ()), ((a0.1, r1.2.1.2), ())) := by
 rewrite [h_l1Cur_cube]
 exact e_l1Cur_cube N P_l1Cur_one P_l1Cur_pick P_l1Cur_cell a0 a1

abbrev As_spec_DrawPaintedFaces : List ATy := [.data false (.sl (.int .u8))]
abbrev R_spec_DrawPaintedFaces : List (Bool × Ty) := [(true, T_Heap), (true, T_A3), (false, .bool)]
abbrev M_spec_DrawPaintedFaces : List RMode := [.own 38]
abbrev Ft_spec_DrawPaintedFaces : Type := (List Int) × Unit → Option (D_Heap × D_A3 × Bool × Unit)
noncomputable def X_spec_DrawPaintedFaces (n : Nat) (F_l1Cur_hollow : Ft_l1Cur_hollow) (F_l1Cur_one : Ft_l1Cur_one) (F_l1Cur_cube : Ft_l1Cur_cube) : Ctx := { types := TT, globals := [], con := [], mcon := [(45, ⟨As_l1Cur_hollow, R_l1Cur_hollow, M_l1Cur_hollow, F_l1Cur_hollow⟩), (46, ⟨As_l1Cur_one, R_l1Cur_one, M_l1Cur_one, F_l1Cur_one⟩), (57, ⟨As_l1Cur_cube, R_l1Cur_cube, M_l1Cur_cube, F_l1Cur_cube⟩)], keep := [], results := [.cell 2 26, .cell 3 38, .tmp 4], ntmps := 20, n := n }
noncomputable def B_spec_DrawPaintedFaces : Code := (Tryz.f17.body).getD .skip
theorem e_spec_DrawPaintedFaces (n : Nat) (F_l1Cur_hollow : Ft_l1Cur_hollow) (F_l1Cur_one : Ft_l1Cur_one) (F_l1Cur_cube : Ft_l1Cur_cube) (a0 : List Int) : runF (X_spec_DrawPaintedFaces n F_l1Cur_hollow F_l1Cur_one F_l1Cur_cube) B_spec_DrawPaintedFaces As_spec_DrawPaintedFaces R_spec_DrawPaintedFaces M_spec_DrawPaintedFaces (a0, ()) = 
 Option.bind (F_l1Cur_hollow ((a0, (0, (0, ()))), ())) fun r0 =>
 Option.bind (F_l1Cur_cube ((a0, r0.2.1.2), r0.1.1, ())) fun r1 =>
 Option.bind (F_l1Cur_one ((a0, r1.2.1.2), 2, ())) fun r2 =>
 some (r0.1.1, r1.1.1, r2.1.1, ()) := by kernel_rfl
noncomputable def P_spec_DrawPaintedFaces : Ft_spec_DrawPaintedFaces := hid (runF (X_spec_DrawPaintedFaces N P_l1Cur_hollow P_l1Cur_one P_l1Cur_cube) B_spec_DrawPaintedFaces As_spec_DrawPaintedFaces R_spec_DrawPaintedFaces M_spec_DrawPaintedFaces)
theorem h_spec_DrawPaintedFaces : P_spec_DrawPaintedFaces = runF (X_spec_DrawPaintedFaces N P_l1Cur_hollow P_l1Cur_one P_l1Cur_cube) B_spec_DrawPaintedFaces As_spec_DrawPaintedFaces R_spec_DrawPaintedFaces M_spec_DrawPaintedFaces := hid_eq _
noncomputable def C_spec_DrawPaintedFaces : Contract := ⟨As_spec_DrawPaintedFaces, R_spec_DrawPaintedFaces, M_spec_DrawPaintedFaces, P_spec_DrawPaintedFaces⟩
theorem s_spec_DrawPaintedFaces : Sound Tryz.prog GG 17 C_spec_DrawPaintedFaces := by
 unfold C_spec_DrawPaintedFaces; rw [h_spec_DrawPaintedFaces]
 exact sound_of_run (fn := Tryz.f17) hmix hstable (tyOK_of ttOK) (hglob (X_spec_DrawPaintedFaces N P_l1Cur_hollow P_l1Cur_one P_l1Cur_cube)) (conOK_of (X := X_spec_DrawPaintedFaces N P_l1Cur_hollow P_l1Cur_one P_l1Cur_cube) trivial) (mconOK_of (X := X_spec_DrawPaintedFaces N P_l1Cur_hollow P_l1Cur_one P_l1Cur_cube) ⟨s_l1Cur_hollow, s_l1Cur_one, s_l1Cur_cube, trivial⟩) (by kernel_rfl) (by kernel_rfl) (by kernel_rfl) (by kernel_rfl) (by kernel_rfl) (of_decide_eq_true (by kernel_rfl))
theorem p_spec_DrawPaintedFaces (a0 : List Int) : P_spec_DrawPaintedFaces (a0, ()) = 
 Option.bind (P_l1Cur_hollow ((a0, (0, (0, ()))), ())) fun r0 =>
 Option.bind (P_l1Cur_cube ((a0, r0.2.1.2), r0.1.1, ())) fun r1 =>
 Option.bind (P_l1Cur_one ((a0, r1.2.1.2), 2, ())) fun r2 =>
 some (r0.1.1, r1.1.1, r2.1.1, ()) := by
 rewrite [h_spec_DrawPaintedFaces]
 exact e_spec_DrawPaintedFaces N P_l1Cur_hollow P_l1Cur_one P_l1Cur_cube a0

abbrev As_impl_isCell : List ATy := [.data true T_Heap, .data true T_A3]
abbrev R_impl_isCell : List (Bool × Ty) := [(false, .bool)]
abbrev M_impl_isCell : List RMode := []
abbrev Ft_impl_isCell : Type := D_Heap × D_A3 × Unit → Option (Bool × Unit)
noncomputable def X_impl_isCell (n : Nat) (F_impl_IsHeap : Ft_impl_IsHeap) (F_Heap_box : Ft_Heap_box) (F_box_has : Ft_box_has) : Ctx := { types := TT, globals := [], con := [(9, ⟨As_impl_IsHeap, R_impl_IsHeap, M_impl_IsHeap, F_impl_IsHeap⟩), (50, ⟨As_Heap_box, R_Heap_box, M_Heap_box, F_Heap_box⟩), (52, ⟨As_box_has, R_box_has, M_box_has, F_box_has⟩)], keep := [], results := [.tmp 4], ntmps := 13, n := n }
noncomputable def B_impl_isCell : Code := (Tryz.f58.body).getD .skip
theorem e_impl_isCell (n : Nat) (F_impl_IsHeap : Ft_impl_IsHeap) (F_Heap_box : Ft_Heap_box) (F_box_has : Ft_box_has) (a0 : D_Heap) (a1 : D_A3) : runF (X_impl_isCell n F_impl_IsHeap F_Heap_box F_box_has) B_impl_isCell As_impl_isCell R_impl_isCell M_impl_isCell (a0, a1, ()) = 
 Option.bind (F_impl_IsHeap (a0, ())) fun r0 =>
 bif r0.1 then
 Option.bind (F_Heap_box (a0, ())) fun r2 =>
 Option.bind (F_box_has (r2.1, a1, ())) fun r3 =>
 some (r3.1, ())
 else
 some (false, ()) := by kernel_rfl
noncomputable def P_impl_isCell : Ft_impl_isCell := hid (runF (X_impl_isCell N P_impl_IsHeap P_Heap_box P_box_has) B_impl_isCell As_impl_isCell R_impl_isCell M_impl_isCell)
theorem h_impl_isCell : P_impl_isCell = runF (X_impl_isCell N P_impl_IsHeap P_Heap_box P_box_has) B_impl_isCell As_impl_isCell R_impl_isCell M_impl_isCell := hid_eq _
noncomputable def C_impl_isCell : Contract := ⟨As_impl_isCell, R_impl_isCell, M_impl_isCell, P_impl_isCell⟩
theorem s_impl_isCell : Sound Tryz.prog GG 58 C_impl_isCell := by
 unfold C_impl_isCell; rw [h_impl_isCell]
 exact sound_of_run (fn := Tryz.f58) hmix hstable (tyOK_of ttOK) (hglob (X_impl_isCell N P_impl_IsHeap P_Heap_box P_box_has)) (conOK_of (X := X_impl_isCell N P_impl_IsHeap P_Heap_box P_box_has) ⟨s_impl_IsHeap, s_Heap_box, s_box_has, trivial⟩) (mconOK_of (X := X_impl_isCell N P_impl_IsHeap P_Heap_box P_box_has) trivial) (by kernel_rfl) (by kernel_rfl) (by kernel_rfl) (by kernel_rfl) (by kernel_rfl) (of_decide_eq_true (by kernel_rfl))
theorem p_impl_isCell (a0 : D_Heap) (a1 : D_A3) : P_impl_isCell (a0, a1, ()) = 
 Option.bind (P_impl_IsHeap (a0, ())) fun r0 =>
 bif r0.1 then
 Option.bind (P_Heap_box (a0, ())) fun r2 =>
 Option.bind (P_box_has (r2.1, a1, ())) fun r3 =>
 some (r3.1, ())
 else
 some (false, ()) := by
 rewrite [h_impl_isCell]
 exact e_impl_isCell N P_impl_IsHeap P_Heap_box P_box_has a0 a1

abbrev As_slices_Index_3_int_3_int : List ATy := [.data false (.sl T_A3), .data true T_A3]
abbrev R_slices_Index_3_int_3_int : List (Bool × Ty) := [(false, (.int .i64))]
abbrev M_slices_Index_3_int_3_int : List RMode := []
abbrev Ft_slices_Index_3_int_3_int : Type := (List D_A3) × D_A3 × Unit → Option (Int × Unit)
noncomputable def X_slices_Index_3_int_3_int (n : Nat) : Ctx := { types := TT, globals := [], con := [], keep := [(2, ⟨[.box 3, .tmp 0, .tmp 3, .tmp 7, .tmp 8], []⟩)], results := [.tmp 4], ntmps := 19, n := n }
noncomputable def B_slices_Index_3_int_3_int : Code := (Tryz.f60.body).getD .skip
noncomputable def L_slices_Index_3_int_3_int_2 (n m0 : Nat) (p0 p1 p2 : Int) (p3 : List D_A3) (p4 p5 : Int) : Option (denL R_slices_Index_3_int_3_int) := loopF (X_slices_Index_3_int_3_int n) B_slices_Index_3_int_3_int R_slices_Index_3_int_3_int M_slices_Index_3_int_3_int 2 [m0] [(.ver, .num 1), (.box 3, .box 0 false [.int .i64 p0, .int .i64 p1, .int .i64 p2]), (.tmp 0, .val false [.imm T_A3 p3 (some 0)]), (.tmp 3, .val false [.addr 3 0 0]), (.tmp 7, .val false [.int .i64 p4]), (.tmp 8, .val false [.int .i64 p5])]
theorem e_slices_Index_3_int_3_int (n : Nat) (a0 : List D_A3) (a1 : D_A3) : runF (X_slices_Index_3_int_3_int n) B_slices_Index_3_int_3_int As_slices_Index_3_int_3_int R_slices_Index_3_int_3_int M_slices_Index_3_int_3_int (a0, a1, ()) = 
 L_slices_Index_3_int_3_int_2 n n a1.1 a1.2.1 a1.2.2.1 a0 (List.length a0 : Int) 0 := by kernel_rfl
theorem e_slices_Index_3_int_3_int_2 (n m0 : Nat) (p0 p1 p2 : Int) (p3 : List D_A3) (p4 p5 : Int) : L_slices_Index_3_int_3_int_2 n (m0 + 1) p0 p1 p2 p3 p4 p5 = 
 bif decide (p5 < p4) then
 bif inB p5 (List.length p3) then
 bif (decide (p0 = ((nth T_A3 p3 p5)).1) && (decide (p1 = (((nth T_A3 p3 p5)).2).1) && (decide (p2 = ((((nth T_A3 p3 p5)).2).2).1) && true))) then
 some (p5, ())
 else
 L_slices_Index_3_int_3_int_2 n m0 p0 p1 p2 p3 p4 (IntKind.wrap .i64 (p5 + 1))
 else none
 else
 some ((-1), ()) := by kernel_rfl
noncomputable def P_slices_Index_3_int_3_int : Ft_slices_Index_3_int_3_int := hid (runF (X_slices_Index_3_int_3_int N) B_slices_Index_3_int_3_int As_slices_Index_3_int_3_int R_slices_Index_3_int_3_int M_slices_Index_3_int_3_int)
theorem h_slices_Index_3_int_3_int : P_slices_Index_3_int_3_int = runF (X_slices_Index_3_int_3_int N) B_slices_Index_3_int_3_int As_slices_Index_3_int_3_int R_slices_Index_3_int_3_int M_slices_Index_3_int_3_int := hid_eq _
noncomputable def C_slices_Index_3_int_3_int : Contract := ⟨As_slices_Index_3_int_3_int, R_slices_Index_3_int_3_int, M_slices_Index_3_int_3_int, P_slices_Index_3_int_3_int⟩
theorem s_slices_Index_3_int_3_int : Sound Tryz.prog GG 60 C_slices_Index_3_int_3_int := by
 unfold C_slices_Index_3_int_3_int; rw [h_slices_Index_3_int_3_int]
 exact sound_of_run (fn := Tryz.f60) hmix hstable (tyOK_of ttOK) (hglob (X_slices_Index_3_int_3_int N)) (conOK_of (X := X_slices_Index_3_int_3_int N) trivial) (mconOK_of (X := X_slices_Index_3_int_3_int N) trivial) (by kernel_rfl) (by kernel_rfl) (by kernel_rfl) (by kernel_rfl) (by kernel_rfl) (of_decide_eq_true (by kernel_rfl))
noncomputable def l_slices_Index_3_int_3_int_2 : Nat → Int → Int → Int → (List D_A3) → Int → Int → Option (denL R_slices_Index_3_int_3_int) := hid (fun m0 p0 p1 p2 p3 p4 p5 => L_slices_Index_3_int_3_int_2 N m0 p0 p1 p2 p3 p4 p5)
theorem h_slices_Index_3_int_3_int_2 : l_slices_Index_3_int_3_int_2 = fun m0 p0 p1 p2 p3 p4 p5 => L_slices_Index_3_int_3_int_2 N m0 p0 p1 p2 p3 p4 p5 := hid_eq _
theorem p_slices_Index_3_int_3_int (a0 : List D_A3) (a1 : D_A3) : P_slices_Index_3_int_3_int (a0, a1, ()) = 
 l_slices_Index_3_int_3_int_2 N a1.1 a1.2.1 a1.2.2.1 a0 (List.length a0 : Int) 0 := by
 rewrite [h_slices_Index_3_int_3_int, h_slices_Index_3_int_3_int_2]
 exact e_slices_Index_3_int_3_int N a0 a1
theorem q_slices_Index_3_int_3_int_2 (m0 : Nat) (p0 p1 p2 : Int) (p3 : List D_A3) (p4 p5 : Int) : l_slices_Index_3_int_3_int_2 (m0 + 1) p0 p1 p2 p3 p4 p5 = 
 bif decide (p5 < p4) then
 bif inB p5 (List.length p3) then
 bif (decide (p0 = ((nth T_A3 p3 p5)).1) && (decide (p1 = (((nth T_A3 p3 p5)).2).1) && (decide (p2 = ((((nth T_A3 p3 p5)).2).2).1) && true))) then
 some (p5, ())
 else
 l_slices_Index_3_int_3_int_2 m0 p0 p1 p2 p3 p4 (IntKind.wrap .i64 (p5 + 1))
 else none
 else
 some ((-1), ()) := by
 rewrite [h_slices_Index_3_int_3_int_2]
 exact e_slices_Index_3_int_3_int_2 N m0 p0 p1 p2 p3 p4 p5

abbrev As_impl_PaintedFaces : List ATy := [.data true T_Heap, .data true T_A3, .data false .bool]
abbrev R_impl_PaintedFaces : List (Bool × Ty) := [(false, (.int .i64)), (false, .bool)]
abbrev M_impl_PaintedFaces : List RMode := []
abbrev Ft_impl_PaintedFaces : Type := D_Heap × D_A3 × Bool × Unit → Option (Int × Bool × Unit)
noncomputable def X_impl_PaintedFaces (n : Nat) (F_Heap_painted : Ft_Heap_painted) (F_impl_isCell : Ft_impl_isCell) (F_Heap_hasCube : Ft_Heap_hasCube) (F_slices_Index_3_int_3_int : Ft_slices_Index_3_int_3_int) : Ctx := { types := TT, globals := [], con := [(47, ⟨As_Heap_painted, R_Heap_painted, M_Heap_painted, F_Heap_painted⟩), (58, ⟨As_impl_isCell, R_impl_isCell, M_impl_isCell, F_impl_isCell⟩), (59, ⟨As_Heap_hasCube, R_Heap_hasCube, M_Heap_hasCube, F_Heap_hasCube⟩), (60, ⟨As_slices_Index_3_int_3_int, R_slices_Index_3_int_3_int, M_slices_Index_3_int_3_int, F_slices_Index_3_int_3_int⟩)], keep := [], results := [.tmp 6, .tmp 7], ntmps := 27, n := n }
noncomputable def B_impl_PaintedFaces : Code := (Tryz.f18.body).getD .skip
theorem e_impl_PaintedFaces (n : Nat) (F_Heap_painted : Ft_Heap_painted) (F_impl_isCell : Ft_impl_isCell) (F_Heap_hasCube : Ft_Heap_hasCube) (F_slices_Index_3_int_3_int : Ft_slices_Index_3_int_3_int) (a0 : D_Heap) (a1 : D_A3) (a2 : Bool) : runF (X_impl_PaintedFaces n F_Heap_painted F_impl_isCell F_Heap_hasCube F_slices_Index_3_int_3_int) B_impl_PaintedFaces As_impl_PaintedFaces R_impl_PaintedFaces M_impl_PaintedFaces (a0, a1, a2, ()) = 
 Option.bind (F_impl_isCell (a0, a1, ())) fun r0 =>
 bif !r0.1 then
 some (0, false, ())
 else
 Option.bind (F_Heap_hasCube (a0, a1, ())) fun r2 =>
 bif !r2.1 then
 some (0, false, ())
 else
 Option.bind (F_Heap_painted (a0, a2, ())) fun r4 =>
 Option.bind (F_slices_Index_3_int_3_int (a0.2.2.2.1, a1, ())) fun r5 =>
 bif inB r5.1 (List.length r4.1) then
 some ((nth ((.int .i64) : Ty) r4.1 r5.1), true, ())
 else none := by kernel_rfl
noncomputable def P_impl_PaintedFaces : Ft_impl_PaintedFaces := hid (runF (X_impl_PaintedFaces N P_Heap_painted P_impl_isCell P_Heap_hasCube P_slices_Index_3_int_3_int) B_impl_PaintedFaces As_impl_PaintedFaces R_impl_PaintedFaces M_impl_PaintedFaces)
theorem h_impl_PaintedFaces : P_impl_PaintedFaces = runF (X_impl_PaintedFaces N P_Heap_painted P_impl_isCell P_Heap_hasCube P_slices_Index_3_int_3_int) B_impl_PaintedFaces As_impl_PaintedFaces R_impl_PaintedFaces M_impl_PaintedFaces := hid_eq _
noncomputable def C_impl_PaintedFaces : Contract := ⟨As_impl_PaintedFaces, R_impl_PaintedFaces, M_impl_PaintedFaces, P_impl_PaintedFaces⟩
theorem s_impl_PaintedFaces : Sound Tryz.prog GG 18 C_impl_PaintedFaces := by
 unfold C_impl_PaintedFaces; rw [h_impl_PaintedFaces]
 exact sound_of_run (fn := Tryz.f18) hmix hstable (tyOK_of ttOK) (hglob (X_impl_PaintedFaces N P_Heap_painted P_impl_isCell P_Heap_hasCube P_slices_Index_3_int_3_int)) (conOK_of (X := X_impl_PaintedFaces N P_Heap_painted P_impl_isCell P_Heap_hasCube P_slices_Index_3_int_3_int) ⟨s_Heap_painted, s_impl_isCell, s_Heap_hasCube, s_slices_Index_3_int_3_int, trivial⟩) (mconOK_of (X := X_impl_PaintedFaces N P_Heap_painted P_impl_isCell P_Heap_hasCube P_slices_Index_3_int_3_int) trivial) (by kernel_rfl) (by kernel_rfl) (by kernel_rfl) (by kernel_rfl) (by kernel_rfl) (of_decide_eq_true (by kernel_rfl))
theorem p_impl_PaintedFaces (a0 : D_Heap) (a1 : D_A3) (a2 : Bool) : P_impl_PaintedFaces (a0, a1, a2, ()) = 
 Option.bind (P_impl_isCell (a0, a1, ())) fun r0 =>
 bif !r0.1 then
 some (0, false, ())
 else
 Option.bind (P_Heap_hasCube (a0, a1, ())) fun r2 =>
 bif !r2.1 then
 some (0, false, ())
 else
 Option.bind (P_Heap_painted (a0, a2, ())) fun r4 =>
 Option.bind (P_slices_Index_3_int_3_int (a0.2.2.2.1, a1, ())) fun r5 =>
 bif inB r5.1 (List.length r4.1) then
 some ((nth ((.int .i64) : Ty) r4.1 r5.1), true, ())
 else none := by
 rewrite [h_impl_PaintedFaces]
 exact e_impl_PaintedFaces N P_Heap_painted P_impl_isCell P_Heap_hasCube P_slices_Index_3_int_3_int a0 a1 a2

abbrev As_spec_l2Cell : List ATy := [.data true T_Heap, .data true T_A3]
abbrev R_spec_l2Cell : List (Bool × Ty) := [(false, .bool)]
abbrev M_spec_l2Cell : List RMode := []
abbrev Ft_spec_l2Cell : Type := D_Heap × D_A3 × Unit → Option (Bool × Unit)
noncomputable def X_spec_l2Cell (n : Nat) (F_spec_l2Heap : Ft_spec_l2Heap) (F_spec_l2In : Ft_spec_l2In) : Ctx := { types := TT, globals := [], con := [(48, ⟨As_spec_l2Heap, R_spec_l2Heap, M_spec_l2Heap, F_spec_l2Heap⟩), (91, ⟨As_spec_l2In, R_spec_l2In, M_spec_l2In, F_spec_l2In⟩)], keep := [], results := [.tmp 4], ntmps := 12, n := n }
noncomputable def B_spec_l2Cell : Code := (Tryz.f61.body).getD .skip
theorem e_spec_l2Cell (n : Nat) (F_spec_l2Heap : Ft_spec_l2Heap) (F_spec_l2In : Ft_spec_l2In) (a0 : D_Heap) (a1 : D_A3) : runF (X_spec_l2Cell n F_spec_l2Heap F_spec_l2In) B_spec_l2Cell As_spec_l2Cell R_spec_l2Cell M_spec_l2Cell (a0, a1, ()) = 
 Option.bind (F_spec_l2Heap (a0, ())) fun r0 =>
 bif r0.1 then
 Option.bind (F_spec_l2In (a0, a1, ())) fun r2 =>
 some (r2.1, ())
 else
 some (false, ()) := by kernel_rfl
noncomputable def P_spec_l2Cell : Ft_spec_l2Cell := hid (runF (X_spec_l2Cell N P_spec_l2Heap P_spec_l2In) B_spec_l2Cell As_spec_l2Cell R_spec_l2Cell M_spec_l2Cell)
theorem h_spec_l2Cell : P_spec_l2Cell = runF (X_spec_l2Cell N P_spec_l2Heap P_spec_l2In) B_spec_l2Cell As_spec_l2Cell R_spec_l2Cell M_spec_l2Cell := hid_eq _
noncomputable def C_spec_l2Cell : Contract := ⟨As_spec_l2Cell, R_spec_l2Cell, M_spec_l2Cell, P_spec_l2Cell⟩
theorem s_spec_l2Cell : Sound Tryz.prog GG 61 C_spec_l2Cell := by
 unfold C_spec_l2Cell; rw [h_spec_l2Cell]
 exact sound_of_run (fn := Tryz.f61) hmix hstable (tyOK_of ttOK) (hglob (X_spec_l2Cell N P_spec_l2Heap P_spec_l2In)) (conOK_of (X := X_spec_l2Cell N P_spec_l2Heap P_spec_l2In) ⟨s_spec_l2Heap, s_spec_l2In, trivial⟩) (mconOK_of (X := X_spec_l2Cell N P_spec_l2Heap P_spec_l2In) trivial) (by kernel_rfl) (by kernel_rfl) (by kernel_rfl) (by kernel_rfl) (by kernel_rfl) (of_decide_eq_true (by kernel_rfl))
theorem p_spec_l2Cell (a0 : D_Heap) (a1 : D_A3) : P_spec_l2Cell (a0, a1, ()) = 
 Option.bind (P_spec_l2Heap (a0, ())) fun r0 =>
 bif r0.1 then
 Option.bind (P_spec_l2In (a0, a1, ())) fun r2 =>
 some (r2.1, ())
 else
 some (false, ()) := by
 rewrite [h_spec_l2Cell]
 exact e_spec_l2Cell N P_spec_l2Heap P_spec_l2In a0 a1

abbrev As_spec_PaintedFaces : List ATy := [.data true T_Heap, .data true T_A3, .data false .bool]
abbrev R_spec_PaintedFaces : List (Bool × Ty) := [(false, (.int .i64)), (false, .bool)]
abbrev M_spec_PaintedFaces : List RMode := []
abbrev Ft_spec_PaintedFaces : Type := D_Heap × D_A3 × Bool × Unit → Option (Int × Bool × Unit)
noncomputable def X_spec_PaintedFaces (n : Nat) (F_spec_l2Cell : Ft_spec_l2Cell) (F_spec_l2Has : Ft_spec_l2Has) (F_spec_l11Painted : Ft_spec_l11Painted) (F_spec_l11Hidden : Ft_spec_l11Hidden) : Ctx := { types := TT, globals := [], con := [(61, ⟨As_spec_l2Cell, R_spec_l2Cell, M_spec_l2Cell, F_spec_l2Cell⟩), (62, ⟨As_spec_l2Has, R_spec_l2Has, M_spec_l2Has, F_spec_l2Has⟩), (63, ⟨As_spec_l11Painted, R_spec_l11Painted, M_spec_l11Painted, F_spec_l11Painted⟩), (64, ⟨As_spec_l11Hidden, R_spec_l11Hidden, M_spec_l11Hidden, F_spec_l11Hidden⟩)], keep := [], results := [.tmp 6, .tmp 7], ntmps := 24, n := n }
noncomputable def B_spec_PaintedFaces : Code := (Tryz.f19.body).getD .skip
theorem e_spec_PaintedFaces (n : Nat) (F_spec_l2Cell : Ft_spec_l2Cell) (F_spec_l2Has : Ft_spec_l2Has) (F_spec_l11Painted : Ft_spec_l11Painted) (F_spec_l11Hidden : Ft_spec_l11Hidden) (a0 : D_Heap) (a1 : D_A3) (a2 : Bool) : runF (X_spec_PaintedFaces n F_spec_l2Cell F_spec_l2Has F_spec_l11Painted F_spec_l11Hidden) B_spec_PaintedFaces As_spec_PaintedFaces R_spec_PaintedFaces M_spec_PaintedFaces (a0, a1, a2, ()) = 
 Option.bind (F_spec_l2Cell (a0, a1, ())) fun r0 =>
 bif !r0.1 then
 some (0, false, ())
 else
 Option.bind (F_spec_l2Has (a0, a1, ())) fun r2 =>
 bif !r2.1 then
 some (0, false, ())
 else
 Option.bind (F_spec_l11Hidden (a0, a2, ())) fun r4 =>
 Option.bind (F_spec_l11Painted (a0, r4.1, a1, ())) fun r5 =>
 some (r5.1, true, ()) := by kernel_rfl
noncomputable def P_spec_PaintedFaces : Ft_spec_PaintedFaces := hid (runF (X_spec_PaintedFaces N P_spec_l2Cell P_spec_l2Has P_spec_l11Painted P_spec_l11Hidden) B_spec_PaintedFaces As_spec_PaintedFaces R_spec_PaintedFaces M_spec_PaintedFaces)
theorem h_spec_PaintedFaces : P_spec_PaintedFaces = runF (X_spec_PaintedFaces N P_spec_l2Cell P_spec_l2Has P_spec_l11Painted P_spec_l11Hidden) B_spec_PaintedFaces As_spec_PaintedFaces R_spec_PaintedFaces M_spec_PaintedFaces := hid_eq _
noncomputable def C_spec_PaintedFaces : Contract := ⟨As_spec_PaintedFaces, R_spec_PaintedFaces, M_spec_PaintedFaces, P_spec_PaintedFaces⟩
theorem s_spec_PaintedFaces : Sound Tryz.prog GG 19 C_spec_PaintedFaces := by
 unfold C_spec_PaintedFaces; rw [h_spec_PaintedFaces]
 exact sound_of_run (fn := Tryz.f19) hmix hstable (tyOK_of ttOK) (hglob (X_spec_PaintedFaces N P_spec_l2Cell P_spec_l2Has P_spec_l11Painted P_spec_l11Hidden)) (conOK_of (X := X_spec_PaintedFaces N P_spec_l2Cell P_spec_l2Has P_spec_l11Painted P_spec_l11Hidden) ⟨s_spec_l2Cell, s_spec_l2Has, s_spec_l11Painted, s_spec_l11Hidden, trivial⟩) (mconOK_of (X := X_spec_PaintedFaces N P_spec_l2Cell P_spec_l2Has P_spec_l11Painted P_spec_l11Hidden) trivial) (by kernel_rfl) (by kernel_rfl) (by kernel_rfl) (by kernel_rfl) (by kernel_rfl) (of_decide_eq_true (by kernel_rfl))
theorem p_spec_PaintedFaces (a0 : D_Heap) (a1 : D_A3) (a2 : Bool) : P_spec_PaintedFaces (a0, a1, a2, ()) = 
 Option.bind (P_spec_l2Cell (a0, a1, ())) fun r0 =>
 bif !r0.1 then
 some (0, false, ())
 else
 Option.bind (P_spec_l2Has (a0, a1, ())) fun r2 =>
 bif !r2.1 then
 some (0, false, ())
 else
 Option.bind (P_spec_l11Hidden (a0, a2, ())) fun r4 =>
 Option.bind (P_spec_l11Painted (a0, r4.1, a1, ())) fun r5 =>
 some (r5.1, true, ()) := by
 rewrite [h_spec_PaintedFaces]
 exact e_spec_PaintedFaces N P_spec_l2Cell P_spec_l2Has P_spec_l11Painted P_spec_l11Hidden a0 a1 a2

abbrev As_spec_DrawPeelDepth : List ATy := [.data false (.sl (.int .u8))]
abbrev R_spec_DrawPeelDepth : List (Bool × Ty) := [(true, T_Heap), (true, T_A3)]
abbrev M_spec_DrawPeelDepth : List RMode := [.own 38]
abbrev Ft_spec_DrawPeelDepth : Type := (List Int) × Unit → Option (D_Heap × D_A3 × Unit)
noncomputable def X_spec_DrawPeelDepth (n : Nat) (F_l1Cur_hollow : Ft_l1Cur_hollow) (F_l1Cur_cube : Ft_l1Cur_cube) : Ctx := { types := TT, globals := [], con := [], mcon := [(45, ⟨As_l1Cur_hollow, R_l1Cur_hollow, M_l1Cur_hollow, F_l1Cur_hollow⟩), (57, ⟨As_l1Cur_cube, R_l1Cur_cube, M_l1Cur_cube, F_l1Cur_cube⟩)], keep := [], results := [.cell 2 26, .cell 3 38], ntmps := 15, n := n }
noncomputable def B_spec_DrawPeelDepth : Code := (Tryz.f20.body).getD .skip
theorem e_spec_DrawPeelDepth (n : Nat) (F_l1Cur_hollow : Ft_l1Cur_hollow) (F_l1Cur_cube : Ft_l1Cur_cube) (a0 : List Int) : runF (X_spec_DrawPeelDepth n F_l1Cur_hollow F_l1Cur_cube) B_spec_DrawPeelDepth As_spec_DrawPeelDepth R_spec_DrawPeelDepth M_spec_DrawPeelDepth (a0, ()) = 
 Option.bind (F_l1Cur_hollow ((a0, (0, (0, ()))), ())) fun r0 =>
 Option.bind (F_l1Cur_cube ((a0, r0.2.1.2), r0.1.1, ())) fun r1 =>
 some (r0.1.1, r1.1.1, ()) := by kernel_rfl
noncomputable def P_spec_DrawPeelDepth : Ft_spec_DrawPeelDepth := hid (runF (X_spec_DrawPeelDepth N P_l1Cur_hollow P_l1Cur_cube) B_spec_DrawPeelDepth As_spec_DrawPeelDepth R_spec_DrawPeelDepth M_spec_DrawPeelDepth)
theorem h_spec_DrawPeelDepth : P_spec_DrawPeelDepth = runF (X_spec_DrawPeelDepth N P_l1Cur_hollow P_l1Cur_cube) B_spec_DrawPeelDepth As_spec_DrawPeelDepth R_spec_DrawPeelDepth M_spec_DrawPeelDepth := hid_eq _
noncomputable def C_spec_DrawPeelDepth : Contract := ⟨As_spec_DrawPeelDepth, R_spec_DrawPeelDepth, M_spec_DrawPeelDepth, P_spec_DrawPeelDepth⟩
theorem s_spec_DrawPeelDepth : Sound Tryz.prog GG 20 C_spec_DrawPeelDepth := by
 unfold C_spec_DrawPeelDepth; rw [h_spec_DrawPeelDepth]
 exact sound_of_run (fn := Tryz.f20) hmix hstable (tyOK_of ttOK) (hglob (X_spec_DrawPeelDepth N P_l1Cur_hollow P_l1Cur_cube)) (conOK_of (X := X_spec_DrawPeelDepth N P_l1Cur_hollow P_l1Cur_cube) trivial) (mconOK_of (X := X_spec_DrawPeelDepth N P_l1Cur_hollow P_l1Cur_cube) ⟨s_l1Cur_hollow, s_l1Cur_cube, trivial⟩) (by kernel_rfl) (by kernel_rfl) (by kernel_rfl) (by kernel_rfl) (by kernel_rfl) (of_decide_eq_true (by kernel_rfl))
theorem p_spec_DrawPeelDepth (a0 : List Int) : P_spec_DrawPeelDepth (a0, ()) = 
 Option.bind (P_l1Cur_hollow ((a0, (0, (0, ()))), ())) fun r0 =>
 Option.bind (P_l1Cur_cube ((a0, r0.2.1.2), r0.1.1, ())) fun r1 =>
 some (r0.1.1, r1.1.1, ()) := by
 rewrite [h_spec_DrawPeelDepth]
 exact e_spec_DrawPeelDepth N P_l1Cur_hollow P_l1Cur_cube a0

abbrev As_impl_PeelDepth : List ATy := [.data true T_Heap, .data true T_A3]
abbrev R_impl_PeelDepth : List (Bool × Ty) := [(false, (.int .i64)), (false, .bool)]
abbrev M_impl_PeelDepth : List RMode := []
abbrev Ft_impl_PeelDepth : Type := D_Heap × D_A3 × Unit → Option (Int × Bool × Unit)
noncomputable def X_impl_PeelDepth (n : Nat) (F_Heap_peeled : Ft_Heap_peeled) (F_impl_isCell : Ft_impl_isCell) (F_Heap_hasCube : Ft_Heap_hasCube) : Ctx := { types := TT, globals := [], con := [(54, ⟨As_Heap_peeled, R_Heap_peeled, M_Heap_peeled, F_Heap_peeled⟩), (58, ⟨As_impl_isCell, R_impl_isCell, M_impl_isCell, F_impl_isCell⟩), (59, ⟨As_Heap_hasCube, R_Heap_hasCube, M_Heap_hasCube, F_Heap_hasCube⟩)], keep := [(4, ⟨[.box 2, .box 3, .tmp 2, .tmp 3, .tmp 6], [.box 2]⟩)], results := [.tmp 4, .tmp 5], ntmps := 25, n := n }
noncomputable def B_impl_PeelDepth : Code := (Tryz.f21.body).getD .skip
noncomputable def L_impl_PeelDepth_4 (n : Nat) (F_Heap_peeled : Ft_Heap_peeled) (F_impl_isCell : Ft_impl_isCell) (F_Heap_hasCube : Ft_Heap_hasCube) (m0 : Nat) (p0 p1 p2 : Int) (p3 : List D_A3) (p4 p5 : Int) (p6 p7 : Int) : Option (denL R_impl_PeelDepth) := loopF (X_impl_PeelDepth n F_Heap_peeled F_impl_isCell F_Heap_hasCube) B_impl_PeelDepth R_impl_PeelDepth M_impl_PeelDepth 4 [m0] [(.ver, .num 1), (.box 2, .box 0 false [.int .i64 p0, .int .i64 p1, .int .i64 p2, .imm T_A3 p3 none]), (.box 3, .box 0 false [.int .i64 p4, .int .i64 p5, .int .i64 p6]), (.tmp 2, .val false [.addr 2 0 0]), (.tmp 3, .val false [.addr 3 0 0]), (.tmp 6, .val false [.int .i64 p7])]
theorem e_impl_PeelDepth (n : Nat) (F_Heap_peeled : Ft_Heap_peeled) (F_impl_isCell : Ft_impl_isCell) (F_Heap_hasCube : Ft_Heap_hasCube) (a0 : D_Heap) (a1 : D_A3) : runF (X_impl_PeelDepth n F_Heap_peeled F_impl_isCell F_Heap_hasCube) B_impl_PeelDepth As_impl_PeelDepth R_impl_PeelDepth M_impl_PeelDepth (a0, a1, ()) = 
 Option.bind (F_impl_isCell (a0, a1, ())) fun r0 =>
 bif !r0.1 then
 some (0, false, ())
 else
 Option.bind (F_Heap_hasCube (a0, a1, ())) fun r2 =>
 bif !r2.1 then
 some (0, false, ())
 else
 L_impl_PeelDepth_4 n F_Heap_peeled F_impl_isCell F_Heap_hasCube n a0.1 a0.2.1 a0.2.2.1 a0.2.2.2.1 a1.1 a1.2.1 a1.2.2.1 0 := by kernel_rfl
theorem e_impl_PeelDepth_4 (n : Nat) (F_Heap_peeled : Ft_Heap_peeled) (F_impl_isCell : Ft_impl_isCell) (F_Heap_hasCube : Ft_Heap_hasCube) (m0 : Nat) (p0 p1 p2 : Int) (p3 : List D_A3) (p4 p5 : Int) (p6 p7 : Int) : L_impl_PeelDepth_4 n F_Heap_peeled F_impl_isCell F_Heap_hasCube (m0 + 1) p0 p1 p2 p3 p4 p5 p6 p7 = 
 Option.bind (F_Heap_hasCube ((p0, (p1, (p2, (p3, ())))), (p4, (p5, (p6, ()))), ())) fun r0 =>
 bif r0.1 then
 Option.bind (F_Heap_peeled ((p0, (p1, (p2, (p3, ())))), ())) fun r2 =>
 L_impl_PeelDepth_4 n F_Heap_peeled F_impl_isCell F_Heap_hasCube m0 r2.1.1 r2.1.2.1 r2.1.2.2.1 r2.1.2.2.2.1 p4 p5 p6 (IntKind.wrap .i64 (p7 + 1))
 else
 some (p7, true, ()) := by kernel_rfl
noncomputable def P_impl_PeelDepth : Ft_impl_PeelDepth := hid (runF (X_impl_PeelDepth N P_Heap_peeled P_impl_isCell P_Heap_hasCube) B_impl_PeelDepth As_impl_PeelDepth R_impl_PeelDepth M_impl_PeelDepth)
theorem h_impl_PeelDepth : P_impl_PeelDepth = runF (X_impl_PeelDepth N P_Heap_peeled P_impl_isCell P_Heap_hasCube) B_impl_PeelDepth As_impl_PeelDepth R_impl_PeelDepth M_impl_PeelDepth := hid_eq _
noncomputable def C_impl_PeelDepth : Contract := ⟨As_impl_PeelDepth, R_impl_PeelDepth, M_impl_PeelDepth, P_impl_PeelDepth⟩
theorem s_impl_PeelDepth : Sound Tryz.prog GG 21 C_impl_PeelDepth := by
 unfold C_impl_PeelDepth; rw [h_impl_PeelDepth]
 exact sound_of_run (fn := Tryz.f21) hmix hstable (tyOK_of ttOK) (hglob (X_impl_PeelDepth N P_Heap_peeled P_impl_isCell P_Heap_hasCube)) (conOK_of (X := X_impl_PeelDepth N P_Heap_peeled P_impl_isCell P_Heap_hasCube) ⟨s_Heap_peeled, s_impl_isCell, s_Heap_hasCube, trivial⟩) (mconOK_of (X := X_impl_PeelDepth N P_Heap_peeled P_impl_isCell P_Heap_hasCube) trivial) (by kernel_rfl) (by kernel_rfl) (by kernel_rfl) (by kernel_rfl) (by kernel_rfl) (of_decide_eq_true (by kernel_rfl))
noncomputable def l_impl_PeelDepth_4 : Nat → Int → Int → Int → (List D_A3) → Int → Int → Int → Int → Option (denL R_impl_PeelDepth) := hid (fun m0 p0 p1 p2 p3 p4 p5 p6 p7 => L_impl_PeelDepth_4 N P_Heap_peeled P_impl_isCell P_Heap_hasCube m0 p0 p1 p2 p3 p4 p5 p6 p7)
theorem h_impl_PeelDepth_4 : l_impl_PeelDepth_4 = fun m0 p0 p1 p2 p3 p4 p5 p6 p7 => L_impl_PeelDepth_4 N P_Heap_peeled P_impl_isCell P_Heap_hasCube m0 p0 p1 p2 p3 p4 p5 p6 p7 := hid_eq _
theorem p_impl_PeelDepth (a0 : D_Heap) (a1 : D_A3) : P_impl_PeelDepth (a0, a1, ()) = 
 Option.bind (P_impl_isCell (a0, a1, ())) fun r0 =>
 bif !r0.1 then
 some (0, false, ())
 else
 Option.bind (P_Heap_hasCube (a0, a1, ())) fun r2 =>
 bif !r2.1 then
 some (0, false, ())
 else
 l_impl_PeelDepth_4 N a0.1 a0.2.1 a0.2.2.1 a0.2.2.2.1 a1.1 a1.2.1 a1.2.2.1 0 := by
 rewrite [h_impl_PeelDepth, h_impl_PeelDepth_4]
 exact e_impl_PeelDepth N P_Heap_peeled P_impl_isCell P_Heap_hasCube a0 a1
theorem q_impl_PeelDepth_4 (m0 : Nat) (p0 p1 p2 : Int) (p3 : List D_A3) (p4 p5 : Int) (p6 p7 : Int) : l_impl_PeelDepth_4 (m0 + 1) p0 p1 p2 p3 p4 p5 p6 p7 = 
 Option.bind (P_Heap_hasCube ((p0, (p1, (p2, (p3, ())))), (p4, (p5, (p6, ()))), ())) fun r0 =>
 bif r0.1 then
 Option.bind (P_Heap_peeled ((p0, (p1, (p2, (p3, ())))), ())) fun r2 =>
 l_impl_PeelDepth_4 m0 r2.1.1 r2.1.2.1 r2.1.2.2.1 r2.1.2.2.2.1 p4 p5 p6 (IntKind.wrap .i64 (p7 + 1))
 else
 some (p7, true, ()) := by
 rewrite [h_impl_PeelDepth_4]
 exact e_impl_PeelDepth_4 N P_Heap_peeled P_impl_isCell P_Heap_hasCube m0 p0 p1 p2 p3 p4 p5 p6 p7

abbrev As_spec_PeelDepth : List ATy := [.data true T_Heap, .data true T_A3]
abbrev R_spec_PeelDepth : List (Bool × Ty) := [(false, (.int .i64)), (false, .bool)]
abbrev M_spec_PeelDepth : List RMode := []
abbrev Ft_spec_PeelDepth : Type := D_Heap × D_A3 × Unit → Option (Int × Bool × Unit)
noncomputable def X_spec_PeelDepth (n : Nat) (F_spec_l11Peel : Ft_spec_l11Peel) (F_spec_l2Cell : Ft_spec_l2Cell) (F_spec_l2Has : Ft_spec_l2Has) : Ctx := { types := TT, globals := [], con := [(55, ⟨As_spec_l11Peel, R_spec_l11Peel, M_spec_l11Peel, F_spec_l11Peel⟩), (61, ⟨As_spec_l2Cell, R_spec_l2Cell, M_spec_l2Cell, F_spec_l2Cell⟩), (62, ⟨As_spec_l2Has, R_spec_l2Has, M_spec_l2Has, F_spec_l2Has⟩)], keep := [(4, ⟨[.box 3, .box 7, .tmp 3, .tmp 6, .tmp 7], [.box 7]⟩)], results := [.tmp 4, .tmp 5], ntmps := 27, n := n }
noncomputable def B_spec_PeelDepth : Code := (Tryz.f22.body).getD .skip
noncomputable def L_spec_PeelDepth_4 (n : Nat) (F_spec_l11Peel : Ft_spec_l11Peel) (F_spec_l2Cell : Ft_spec_l2Cell) (F_spec_l2Has : Ft_spec_l2Has) (m0 : Nat) (p0 p1 : Int) (p2 p3 : Int) (p4 p5 : Int) (p6 : List D_A3) (p7 : Int) : Option (denL R_spec_PeelDepth) := loopF (X_spec_PeelDepth n F_spec_l11Peel F_spec_l2Cell F_spec_l2Has) B_spec_PeelDepth R_spec_PeelDepth M_spec_PeelDepth 4 [m0] [(.ver, .num 1), (.box 3, .box 0 false [.int .i64 p0, .int .i64 p1, .int .i64 p2]), (.box 7, .box 0 false [.int .i64 p3, .int .i64 p4, .int .i64 p5, .imm T_A3 p6 none]), (.tmp 3, .val false [.addr 3 0 0]), (.tmp 6, .val false [.int .i64 p7]), (.tmp 7, .val false [.addr 7 0 0])]
theorem e_spec_PeelDepth (n : Nat) (F_spec_l11Peel : Ft_spec_l11Peel) (F_spec_l2Cell : Ft_spec_l2Cell) (F_spec_l2Has : Ft_spec_l2Has) (a0 : D_Heap) (a1 : D_A3) : runF (X_spec_PeelDepth n F_spec_l11Peel F_spec_l2Cell F_spec_l2Has) B_spec_PeelDepth As_spec_PeelDepth R_spec_PeelDepth M_spec_PeelDepth (a0, a1, ()) = 
 Option.bind (F_spec_l2Cell (a0, a1, ())) fun r0 =>
 bif !r0.1 then
 some (0, false, ())
 else
 Option.bind (F_spec_l2Has (a0, a1, ())) fun r2 =>
 bif !r2.1 then
 some (0, false, ())
 else
 L_spec_PeelDepth_4 n F_spec_l11Peel F_spec_l2Cell F_spec_l2Has n a1.1 a1.2.1 a1.2.2.1 a0.1 a0.2.1 a0.2.2.1 a0.2.2.2.1 0 := by kernel_rfl
theorem e_spec_PeelDepth_4 (n : Nat) (F_spec_l11Peel : Ft_spec_l11Peel) (F_spec_l2Cell : Ft_spec_l2Cell) (F_spec_l2Has : Ft_spec_l2Has) (m0 : Nat) (p0 p1 : Int) (p2 p3 : Int) (p4 p5 : Int) (p6 : List D_A3) (p7 : Int) : L_spec_PeelDepth_4 n F_spec_l11Peel F_spec_l2Cell F_spec_l2Has (m0 + 1) p0 p1 p2 p3 p4 p5 p6 p7 = 
 Option.bind (F_spec_l2Has ((p3, (p4, (p5, (p6, ())))), (p0, (p1, (p2, ()))), ())) fun r0 =>
 bif r0.1 then
 Option.bind (F_spec_l11Peel ((p3, (p4, (p5, (p6, ())))), false, ())) fun r2 =>
 L_spec_PeelDepth_4 n F_spec_l11Peel F_spec_l2Cell F_spec_l2Has m0 p0 p1 p2 r2.1.1 r2.1.2.1 r2.1.2.2.1 r2.1.2.2.2.1 (IntKind.wrap .i64 (p7 + 1))
 else
 some (p7, true, ()) := by kernel_rfl
noncomputable def P_spec_PeelDepth : Ft_spec_PeelDepth := hid (runF (X_spec_PeelDepth N P_spec_l11Peel P_spec_l2Cell P_spec_l2Has) B_spec_PeelDepth As_spec_PeelDepth R_spec_PeelDepth M_spec_PeelDepth)
theorem h_spec_PeelDepth : P_spec_PeelDepth = runF (X_spec_PeelDepth N P_spec_l11Peel P_spec_l2Cell P_spec_l2Has) B_spec_PeelDepth As_spec_PeelDepth R_spec_PeelDepth M_spec_PeelDepth := hid_eq _
noncomputable def C_spec_PeelDepth : Contract := ⟨As_spec_PeelDepth, R_spec_PeelDepth, M_spec_PeelDepth, P_spec_PeelDepth⟩
theorem s_spec_PeelDepth : Sound Tryz.prog GG 22 C_spec_PeelDepth := by
 unfold C_spec_PeelDepth; rw [h_spec_PeelDepth]
 exact sound_of_run (fn := Tryz.f22) hmix hstable (tyOK_of ttOK) (hglob (X_spec_PeelDepth N P_spec_l11Peel P_spec_l2Cell P_spec_l2Has)) (conOK_of (X := X_spec_PeelDepth N P_spec_l11Peel P_spec_l2Cell P_spec_l2Has) ⟨s_spec_l11Peel, s_spec_l2Cell, s_spec_l2Has, trivial⟩) (mconOK_of (X := X_spec_PeelDepth N P_spec_l11Peel P_spec_l2Cell P_spec_l2Has) trivial) (by kernel_rfl) (by kernel_rfl) (by kernel_rfl) (by kernel_rfl) (by kernel_rfl) (of_decide_eq_true (by kernel_rfl))
noncomputable def l_spec_PeelDepth_4 : Nat → Int → Int → Int → Int → Int → Int → (List D_A3) → Int → Option (denL R_spec_PeelDepth) := hid (fun m0 p0 p1 p2 p3 p4 p5 p6 p7 => L_spec_PeelDepth_4 N P_spec_l11Peel P_spec_l2Cell P_spec_l2Has m0 p0 p1 p2 p3 p4 p5 p6 p7)
theorem h_spec_PeelDepth_4 : l_spec_PeelDepth_4 = fun m0 p0 p1 p2 p3 p4 p5 p6 p7 => L_spec_PeelDepth_4 N P_spec_l11Peel P_spec_l2Cell P_spec_l2Has m0 p0 p1 p2 p3 p4 p5 p6 p7 := hid_eq _
theorem p_spec_PeelDepth (a0 : D_Heap) (a1 : D_A3) : P_spec_PeelDepth (a0, a1, ()) = 
 Option.bind (P_spec_l2Cell (a0, a1, ())) fun r0 =>
 bif !r0.1 then
 some (0, false, ())
 else
 Option.bind (P_spec_l2Has (a0, a1, ())) fun r2 =>
 bif !r2.1 then
 some (0, false, ())
 else
 l_spec_PeelDepth_4 N a1.1 a1.2.1 a1.2.2.1 a0.1 a0.2.1 a0.2.2.1 a0.2.2.2.1 0 := by
 rewrite [h_spec_PeelDepth, h_spec_PeelDepth_4]
 exact e_spec_PeelDepth N P_spec_l11Peel P_spec_l2Cell P_spec_l2Has a0 a1
theorem q_spec_PeelDepth_4 (m0 : Nat) (p0 p1 : Int) (p2 p3 : Int) (p4 p5 : Int) (p6 : List D_A3) (p7 : Int) : l_spec_PeelDepth_4 (m0 + 1) p0 p1 p2 p3 p4 p5 p6 p7 = 
 Option.bind (P_spec_l2Has ((p3, (p4, (p5, (p6, ())))), (p0, (p1, (p2, ()))), ())) fun r0 =>
 bif r0.1 then
 Option.bind (P_spec_l11Peel ((p3, (p4, (p5, (p6, ())))), false, ())) fun r2 =>
 l_spec_PeelDepth_4 m0 p0 p1 p2 r2.1.1 r2.1.2.1 r2.1.2.2.1 r2.1.2.2.2.1 (IntKind.wrap .i64 (p7 + 1))
 else
 some (p7, true, ()) := by
 rewrite [h_spec_PeelDepth_4]
 exact e_spec_PeelDepth_4 N P_spec_l11Peel P_spec_l2Cell P_spec_l2Has m0 p0 p1 p2 p3 p4 p5 p6 p7

abbrev As_spec_DrawEmptyHeap : List ATy := [.data false (.sl (.int .u8))]
abbrev R_spec_DrawEmptyHeap : List (Bool × Ty) := [(false, (.int .i64)), (false, (.int .i64)), (false, (.int .i64))]
abbrev M_spec_DrawEmptyHeap : List RMode := []
abbrev Ft_spec_DrawEmptyHeap : Type := (List Int) × Unit → Option (Int × Int × Int × Unit)
noncomputable def X_spec_DrawEmptyHeap (n : Nat) (F_l1Cur_sides : Ft_l1Cur_sides) : Ctx := { types := TT, globals := [], con := [], mcon := [(100, ⟨As_l1Cur_sides, R_l1Cur_sides, M_l1Cur_sides, F_l1Cur_sides⟩)], keep := [], results := [.tmp 2, .tmp 3, .tmp 4], ntmps := 14, n := n }
noncomputable def B_spec_DrawEmptyHeap : Code := (Tryz.f65.body).getD .skip
theorem e_spec_DrawEmptyHeap (n : Nat) (F_l1Cur_sides : Ft_l1Cur_sides) (a0 : List Int) : runF (X_spec_DrawEmptyHeap n F_l1Cur_sides) B_spec_DrawEmptyHeap As_spec_DrawEmptyHeap R_spec_DrawEmptyHeap M_spec_DrawEmptyHeap (a0, ()) = 
 Option.bind (F_l1Cur_sides ((a0, (0, (0, ()))), ())) fun r0 =>
 some (r0.1.1, r0.1.2.1, r0.1.2.2.1, ()) := by kernel_rfl
noncomputable def P_spec_DrawEmptyHeap : Ft_spec_DrawEmptyHeap := hid (runF (X_spec_DrawEmptyHeap N P_l1Cur_sides) B_spec_DrawEmptyHeap As_spec_DrawEmptyHeap R_spec_DrawEmptyHeap M_spec_DrawEmptyHeap)
theorem h_spec_DrawEmptyHeap : P_spec_DrawEmptyHeap = runF (X_spec_DrawEmptyHeap N P_l1Cur_sides) B_spec_DrawEmptyHeap As_spec_DrawEmptyHeap R_spec_DrawEmptyHeap M_spec_DrawEmptyHeap := hid_eq _
noncomputable def C_spec_DrawEmptyHeap : Contract := ⟨As_spec_DrawEmptyHeap, R_spec_DrawEmptyHeap, M_spec_DrawEmptyHeap, P_spec_DrawEmptyHeap⟩
theorem s_spec_DrawEmptyHeap : Sound Tryz.prog GG 65 C_spec_DrawEmptyHeap := by
 unfold C_spec_DrawEmptyHeap; rw [h_spec_DrawEmptyHeap]
 exact sound_of_run (fn := Tryz.f65) hmix hstable (tyOK_of ttOK) (hglob (X_spec_DrawEmptyHeap N P_l1Cur_sides)) (conOK_of (X := X_spec_DrawEmptyHeap N P_l1Cur_sides) trivial) (mconOK_of (X := X_spec_DrawEmptyHeap N P_l1Cur_sides) ⟨s_l1Cur_sides, trivial⟩) (by kernel_rfl) (by kernel_rfl) (by kernel_rfl) (by kernel_rfl) (by kernel_rfl) (of_decide_eq_true (by kernel_rfl))
theorem p_spec_DrawEmptyHeap (a0 : List Int) : P_spec_DrawEmptyHeap (a0, ()) = 
 Option.bind (P_l1Cur_sides ((a0, (0, (0, ()))), ())) fun r0 =>
 some (r0.1.1, r0.1.2.1, r0.1.2.2.1, ()) := by
 rewrite [h_spec_DrawEmptyHeap]
 exact e_spec_DrawEmptyHeap N P_l1Cur_sides a0

abbrev As_spec_DrawFullCounts : List ATy := [.data false (.sl (.int .u8))]
abbrev R_spec_DrawFullCounts : List (Bool × Ty) := [(false, (.int .i64)), (false, (.int .i64)), (false, (.int .i64))]
abbrev M_spec_DrawFullCounts : List RMode := []
abbrev Ft_spec_DrawFullCounts : Type := (List Int) × Unit → Option (Int × Int × Int × Unit)
noncomputable def X_spec_DrawFullCounts (n : Nat) (F_spec_DrawEmptyHeap : Ft_spec_DrawEmptyHeap) : Ctx := { types := TT, globals := [], con := [(65, ⟨As_spec_DrawEmptyHeap, R_spec_DrawEmptyHeap, M_spec_DrawEmptyHeap, F_spec_DrawEmptyHeap⟩)], keep := [], results := [.tmp 2, .tmp 3, .tmp 4], ntmps := 10, n := n }
noncomputable def B_spec_DrawFullCounts : Code := (Tryz.f23.body).getD .skip
theorem e_spec_DrawFullCounts (n : Nat) (F_spec_DrawEmptyHeap : Ft_spec_DrawEmptyHeap) (a0 : List Int) : runF (X_spec_DrawFullCounts n F_spec_DrawEmptyHeap) B_spec_DrawFullCounts As_spec_DrawFullCounts R_spec_DrawFullCounts M_spec_DrawFullCounts (a0, ()) = 
 Option.bind (F_spec_DrawEmptyHeap (a0, ())) fun r0 =>
 some (r0.1, r0.2.1, r0.2.2.1, ()) := by kernel_rfl
noncomputable def P_spec_DrawFullCounts : Ft_spec_DrawFullCounts := hid (runF (X_spec_DrawFullCounts N P_spec_DrawEmptyHeap) B_spec_DrawFullCounts As_spec_DrawFullCounts R_spec_DrawFullCounts M_spec_DrawFullCounts)
theorem h_spec_DrawFullCounts : P_spec_DrawFullCounts = runF (X_spec_DrawFullCounts N P_spec_DrawEmptyHeap) B_spec_DrawFullCounts As_spec_DrawFullCounts R_spec_DrawFullCounts M_spec_DrawFullCounts := hid_eq _
noncomputable def C_spec_DrawFullCounts : Contract := ⟨As_spec_DrawFullCounts, R_spec_DrawFullCounts, M_spec_DrawFullCounts, P_spec_DrawFullCounts⟩
theorem s_spec_DrawFullCounts : Sound Tryz.prog GG 23 C_spec_DrawFullCounts := by
 unfold C_spec_DrawFullCounts; rw [h_spec_DrawFullCounts]
 exact sound_of_run (fn := Tryz.f23) hmix hstable (tyOK_of ttOK) (hglob (X_spec_DrawFullCounts N P_spec_DrawEmptyHeap)) (conOK_of (X := X_spec_DrawFullCounts N P_spec_DrawEmptyHeap) ⟨s_spec_DrawEmptyHeap, trivial⟩) (mconOK_of (X := X_spec_DrawFullCounts N P_spec_DrawEmptyHeap) trivial) (by kernel_rfl) (by kernel_rfl) (by kernel_rfl) (by kernel_rfl) (by kernel_rfl) (of_decide_eq_true (by kernel_rfl))
theorem p_spec_DrawFullCounts (a0 : List Int) : P_spec_DrawFullCounts (a0, ()) = 
 Option.bind (P_spec_DrawEmptyHeap (a0, ())) fun r0 =>
 some (r0.1, r0.2.1, r0.2.2.1, ()) := by
 rewrite [h_spec_DrawFullCounts]
 exact e_spec_DrawFullCounts N P_spec_DrawEmptyHeap a0

abbrev As_impl_FullHeap : List ATy := [.data false (.int .i64), .data false (.int .i64), .data false (.int .i64)]
abbrev R_impl_FullHeap : List (Bool × Ty) := [(true, T_Heap), (false, .bool)]
abbrev M_impl_FullHeap : List RMode := [.own 38]
abbrev Ft_impl_FullHeap : Type := Int × Int × Int × Unit → Option (D_Heap × Bool × Unit)
noncomputable def X_impl_FullHeap (n : Nat) (F_box_valid : Ft_box_valid) (F_box_heap : Ft_box_heap) (F_box_full : Ft_box_full) : Ctx := { types := TT, globals := [], con := [(51, ⟨As_box_valid, R_box_valid, M_box_valid, F_box_valid⟩), (69, ⟨As_box_heap, R_box_heap, M_box_heap, F_box_heap⟩), (101, ⟨As_box_full, R_box_full, M_box_full, F_box_full⟩)], keep := [], results := [.cell 6 26, .tmp 7], ntmps := 21, n := n }
noncomputable def B_impl_FullHeap : Code := (Tryz.f66.body).getD .skip
theorem e_impl_FullHeap (n : Nat) (F_box_valid : Ft_box_valid) (F_box_heap : Ft_box_heap) (F_box_full : Ft_box_full) (a0 a1 a2 : Int) : runF (X_impl_FullHeap n F_box_valid F_box_heap F_box_full) B_impl_FullHeap As_impl_FullHeap R_impl_FullHeap M_impl_FullHeap (a0, a1, a2, ()) = 
 Option.bind (F_box_valid ((a0, (a1, (a2, ()))), ())) fun r0 =>
 bif !r0.1 then
 some ((0, (0, (0, (([] : List D_A3), ())))), false, ())
 else
 Option.bind (F_box_full ((a0, (a1, (a2, ()))), ())) fun r2 =>
 Option.bind (F_box_heap ((a0, (a1, (a2, ()))), r2.1, ())) fun r3 =>
 some (r3.1, true, ()) := by kernel_rfl
noncomputable def P_impl_FullHeap : Ft_impl_FullHeap := hid (runF (X_impl_FullHeap N P_box_valid P_box_heap P_box_full) B_impl_FullHeap As_impl_FullHeap R_impl_FullHeap M_impl_FullHeap)
theorem h_impl_FullHeap : P_impl_FullHeap = runF (X_impl_FullHeap N P_box_valid P_box_heap P_box_full) B_impl_FullHeap As_impl_FullHeap R_impl_FullHeap M_impl_FullHeap := hid_eq _
noncomputable def C_impl_FullHeap : Contract := ⟨As_impl_FullHeap, R_impl_FullHeap, M_impl_FullHeap, P_impl_FullHeap⟩
theorem s_impl_FullHeap : Sound Tryz.prog GG 66 C_impl_FullHeap := by
 unfold C_impl_FullHeap; rw [h_impl_FullHeap]
 exact sound_of_run (fn := Tryz.f66) hmix hstable (tyOK_of ttOK) (hglob (X_impl_FullHeap N P_box_valid P_box_heap P_box_full)) (conOK_of (X := X_impl_FullHeap N P_box_valid P_box_heap P_box_full) ⟨s_box_valid, s_box_heap, s_box_full, trivial⟩) (mconOK_of (X := X_impl_FullHeap N P_box_valid P_box_heap P_box_full) trivial) (by kernel_rfl) (by kernel_rfl) (by kernel_rfl) (by kernel_rfl) (by kernel_rfl) (of_decide_eq_true (by kernel_rfl))
theorem p_impl_FullHeap (a0 a1 a2 : Int) : P_impl_FullHeap (a0, a1, a2, ()) = 
 Option.bind (P_box_valid ((a0, (a1, (a2, ()))), ())) fun r0 =>
 bif !r0.1 then
 some ((0, (0, (0, (([] : List D_A3), ())))), false, ())
 else
 Option.bind (P_box_full ((a0, (a1, (a2, ()))), ())) fun r2 =>
 Option.bind (P_box_heap ((a0, (a1, (a2, ()))), r2.1, ())) fun r3 =>
 some (r3.1, true, ()) := by
 rewrite [h_impl_FullHeap]
 exact e_impl_FullHeap N P_box_valid P_box_heap P_box_full a0 a1 a2

abbrev As_impl_FullCounts : List ATy := [.data false (.int .i64), .data false (.int .i64), .data false (.int .i64)]
abbrev R_impl_FullCounts : List (Bool × Ty) := [(true, T_A7), (false, .bool)]
abbrev M_impl_FullCounts : List RMode := []
abbrev Ft_impl_FullCounts : Type := Int × Int × Int × Unit → Option (D_A7 × Bool × Unit)
noncomputable def X_impl_FullCounts (n : Nat) (F_impl_PaintCounts : Ft_impl_PaintCounts) (F_impl_FullHeap : Ft_impl_FullHeap) : Ctx := { types := TT, globals := [], con := [(7, ⟨As_impl_PaintCounts, R_impl_PaintCounts, M_impl_PaintCounts, F_impl_PaintCounts⟩), (66, ⟨As_impl_FullHeap, R_impl_FullHeap, M_impl_FullHeap, F_impl_FullHeap⟩)], keep := [], results := [.cell 6 29, .tmp 7], ntmps := 24, n := n }
noncomputable def B_impl_FullCounts : Code := (Tryz.f24.body).getD .skip
theorem e_impl_FullCounts (n : Nat) (F_impl_PaintCounts : Ft_impl_PaintCounts) (F_impl_FullHeap : Ft_impl_FullHeap) (a0 a1 a2 : Int) : runF (X_impl_FullCounts n F_impl_PaintCounts F_impl_FullHeap) B_impl_FullCounts As_impl_FullCounts R_impl_FullCounts M_impl_FullCounts (a0, a1, a2, ()) = 
 Option.bind (F_impl_FullHeap (a0, a1, a2, ())) fun r0 =>
 bif !r0.2.1 then
 some ((0, (0, (0, (0, (0, (0, (0, ()))))))), false, ())
 else
 Option.bind (F_impl_PaintCounts (r0.1, false, ())) fun r2 =>
 some (r2.1, r2.2.1, ()) := by kernel_rfl
noncomputable def P_impl_FullCounts : Ft_impl_FullCounts := hid (runF (X_impl_FullCounts N P_impl_PaintCounts P_impl_FullHeap) B_impl_FullCounts As_impl_FullCounts R_impl_FullCounts M_impl_FullCounts)
theorem h_impl_FullCounts : P_impl_FullCounts = runF (X_impl_FullCounts N P_impl_PaintCounts P_impl_FullHeap) B_impl_FullCounts As_impl_FullCounts R_impl_FullCounts M_impl_FullCounts := hid_eq _
noncomputable def C_impl_FullCounts : Contract := ⟨As_impl_FullCounts, R_impl_FullCounts, M_impl_FullCounts, P_impl_FullCounts⟩
theorem s_impl_FullCounts : Sound Tryz.prog GG 24 C_impl_FullCounts := by
 unfold C_impl_FullCounts; rw [h_impl_FullCounts]
 exact sound_of_run (fn := Tryz.f24) hmix hstable (tyOK_of ttOK) (hglob (X_impl_FullCounts N P_impl_PaintCounts P_impl_FullHeap)) (conOK_of (X := X_impl_FullCounts N P_impl_PaintCounts P_impl_FullHeap) ⟨s_impl_PaintCounts, s_impl_FullHeap, trivial⟩) (mconOK_of (X := X_impl_FullCounts N P_impl_PaintCounts P_impl_FullHeap) trivial) (by kernel_rfl) (by kernel_rfl) (by kernel_rfl) (by kernel_rfl) (by kernel_rfl) (of_decide_eq_true (by kernel_rfl))
theorem p_impl_FullCounts (a0 a1 a2 : Int) : P_impl_FullCounts (a0, a1, a2, ()) = 
 Option.bind (P_impl_FullHeap (a0, a1, a2, ())) fun r0 =>
 bif !r0.2.1 then
 some ((0, (0, (0, (0, (0, (0, (0, ()))))))), false, ())
 else
 Option.bind (P_impl_PaintCounts (r0.1, false, ())) fun r2 =>
 some (r2.1, r2.2.1, ()) := by
 rewrite [h_impl_FullCounts]
 exact e_impl_FullCounts N P_impl_PaintCounts P_impl_FullHeap a0 a1 a2

abbrev As_spec_FullCounts : List ATy := [.data false (.int .i64), .data false (.int .i64), .data false (.int .i64)]
abbrev R_spec_FullCounts : List (Bool × Ty) := [(true, T_A7), (false, .bool)]
abbrev M_spec_FullCounts : List RMode := []
abbrev Ft_spec_FullCounts : Type := Int × Int × Int × Unit → Option (D_A7 × Bool × Unit)
noncomputable def X_spec_FullCounts (n : Nat) (F_spec_l11Counts : Ft_spec_l11Counts) (F_spec_l2Sides : Ft_spec_l2Sides) (F_spec_l2Box : Ft_spec_l2Box) : Ctx := { types := TT, globals := [], con := [(49, ⟨As_spec_l11Counts, R_spec_l11Counts, M_spec_l11Counts, F_spec_l11Counts⟩), (67, ⟨As_spec_l2Sides, R_spec_l2Sides, M_spec_l2Sides, F_spec_l2Sides⟩), (68, ⟨As_spec_l2Box, R_spec_l2Box, M_spec_l2Box, F_spec_l2Box⟩)], keep := [], results := [.cell 6 29, .tmp 7], ntmps := 19, n := n }
noncomputable def B_spec_FullCounts : Code := (Tryz.f25.body).getD .skip
theorem e_spec_FullCounts (n : Nat) (F_spec_l11Counts : Ft_spec_l11Counts) (F_spec_l2Sides : Ft_spec_l2Sides) (F_spec_l2Box : Ft_spec_l2Box) (a0 a1 a2 : Int) : runF (X_spec_FullCounts n F_spec_l11Counts F_spec_l2Sides F_spec_l2Box) B_spec_FullCounts As_spec_FullCounts R_spec_FullCounts M_spec_FullCounts (a0, a1, a2, ()) = 
 Option.bind (F_spec_l2Sides (a0, a1, a2, ())) fun r0 =>
 bif !r0.1 then
 some ((0, (0, (0, (0, (0, (0, (0, ()))))))), false, ())
 else
 Option.bind (F_spec_l2Box (a0, a1, a2, ())) fun r2 =>
 Option.bind (F_spec_l11Counts (r2.1, false, ())) fun r3 =>
 some (r3.1, true, ()) := by kernel_rfl
noncomputable def P_spec_FullCounts : Ft_spec_FullCounts := hid (runF (X_spec_FullCounts N P_spec_l11Counts P_spec_l2Sides P_spec_l2Box) B_spec_FullCounts As_spec_FullCounts R_spec_FullCounts M_spec_FullCounts)
theorem h_spec_FullCounts : P_spec_FullCounts = runF (X_spec_FullCounts N P_spec_l11Counts P_spec_l2Sides P_spec_l2Box) B_spec_FullCounts As_spec_FullCounts R_spec_FullCounts M_spec_FullCounts := hid_eq _
noncomputable def C_spec_FullCounts : Contract := ⟨As_spec_FullCounts, R_spec_FullCounts, M_spec_FullCounts, P_spec_FullCounts⟩
theorem s_spec_FullCounts : Sound Tryz.prog GG 25 C_spec_FullCounts := by
 unfold C_spec_FullCounts; rw [h_spec_FullCounts]
 exact sound_of_run (fn := Tryz.f25) hmix hstable (tyOK_of ttOK) (hglob (X_spec_FullCounts N P_spec_l11Counts P_spec_l2Sides P_spec_l2Box)) (conOK_of (X := X_spec_FullCounts N P_spec_l11Counts P_spec_l2Sides P_spec_l2Box) ⟨s_spec_l11Counts, s_spec_l2Sides, s_spec_l2Box, trivial⟩) (mconOK_of (X := X_spec_FullCounts N P_spec_l11Counts P_spec_l2Sides P_spec_l2Box) trivial) (by kernel_rfl) (by kernel_rfl) (by kernel_rfl) (by kernel_rfl) (by kernel_rfl) (of_decide_eq_true (by kernel_rfl))
theorem p_spec_FullCounts (a0 a1 a2 : Int) : P_spec_FullCounts (a0, a1, a2, ()) = 
 Option.bind (P_spec_l2Sides (a0, a1, a2, ())) fun r0 =>
 bif !r0.1 then
 some ((0, (0, (0, (0, (0, (0, (0, ()))))))), false, ())
 else
 Option.bind (P_spec_l2Box (a0, a1, a2, ())) fun r2 =>
 Option.bind (P_spec_l11Counts (r2.1, false, ())) fun r3 =>
 some (r3.1, true, ()) := by
 rewrite [h_spec_FullCounts]
 exact e_spec_FullCounts N P_spec_l11Counts P_spec_l2Sides P_spec_l2Box a0 a1 a2

abbrev As_impl_ShellHeap : List ATy := [.data false (.int .i64), .data false (.int .i64), .data false (.int .i64)]
abbrev R_impl_ShellHeap : List (Bool × Ty) := [(true, T_Heap), (false, .bool)]
abbrev M_impl_ShellHeap : List RMode := [.own 38]
abbrev Ft_impl_ShellHeap : Type := Int × Int × Int × Unit → Option (D_Heap × Bool × Unit)
noncomputable def X_impl_ShellHeap (n : Nat) (F_Heap_box : Ft_Heap_box) (F_Heap_peeled : Ft_Heap_peeled) (F_impl_FullHeap : Ft_impl_FullHeap) (F_box_heap : Ft_box_heap) (F_Heap_cubes : Ft_Heap_cubes) : Ctx := { types := TT, globals := [], con := [(50, ⟨As_Heap_box, R_Heap_box, M_Heap_box, F_Heap_box⟩), (54, ⟨As_Heap_peeled, R_Heap_peeled, M_Heap_peeled, F_Heap_peeled⟩), (66, ⟨As_impl_FullHeap, R_impl_FullHeap, M_impl_FullHeap, F_impl_FullHeap⟩), (69, ⟨As_box_heap, R_box_heap, M_box_heap, F_box_heap⟩), (70, ⟨As_Heap_cubes, R_Heap_cubes, M_Heap_cubes, F_Heap_cubes⟩)], keep := [], results := [.cell 6 26, .tmp 7], ntmps := 29, n := n }
noncomputable def B_impl_ShellHeap : Code := (Tryz.f26.body).getD .skip
theorem e_impl_ShellHeap (n : Nat) (F_Heap_box : Ft_Heap_box) (F_Heap_peeled : Ft_Heap_peeled) (F_impl_FullHeap : Ft_impl_FullHeap) (F_box_heap : Ft_box_heap) (F_Heap_cubes : Ft_Heap_cubes) (a0 a1 a2 : Int) : runF (X_impl_ShellHeap n F_Heap_box F_Heap_peeled F_impl_FullHeap F_box_heap F_Heap_cubes) B_impl_ShellHeap As_impl_ShellHeap R_impl_ShellHeap M_impl_ShellHeap (a0, a1, a2, ()) = 
 Option.bind (F_impl_FullHeap (a0, a1, a2, ())) fun r0 =>
 bif !r0.2.1 then
 some ((0, (0, (0, (([] : List D_A3), ())))), false, ())
 else
 Option.bind (F_Heap_box (r0.1, ())) fun r2 =>
 Option.bind (F_Heap_cubes (r0.1, ())) fun r3 =>
 Option.bind (F_Heap_peeled (r0.1, ())) fun r4 =>
 Option.bind (F_Heap_cubes (r4.1, ())) fun r5 =>
 Option.bind (F_box_heap (r2.1, (intBits .andNot .u64 r3.1 r5.1), ())) fun r6 =>
 some (r6.1, true, ()) := by kernel_rfl
noncomputable def P_impl_ShellHeap : Ft_impl_ShellHeap := hid (runF (X_impl_ShellHeap N P_Heap_box P_Heap_peeled P_impl_FullHeap P_box_heap P_Heap_cubes) B_impl_ShellHeap As_impl_ShellHeap R_impl_ShellHeap M_impl_ShellHeap)
theorem h_impl_ShellHeap : P_impl_ShellHeap = runF (X_impl_ShellHeap N P_Heap_box P_Heap_peeled P_impl_FullHeap P_box_heap P_Heap_cubes) B_impl_ShellHeap As_impl_ShellHeap R_impl_ShellHeap M_impl_ShellHeap := hid_eq _
noncomputable def C_impl_ShellHeap : Contract := ⟨As_impl_ShellHeap, R_impl_ShellHeap, M_impl_ShellHeap, P_impl_ShellHeap⟩
theorem s_impl_ShellHeap : Sound Tryz.prog GG 26 C_impl_ShellHeap := by
 unfold C_impl_ShellHeap; rw [h_impl_ShellHeap]
 exact sound_of_run (fn := Tryz.f26) hmix hstable (tyOK_of ttOK) (hglob (X_impl_ShellHeap N P_Heap_box P_Heap_peeled P_impl_FullHeap P_box_heap P_Heap_cubes)) (conOK_of (X := X_impl_ShellHeap N P_Heap_box P_Heap_peeled P_impl_FullHeap P_box_heap P_Heap_cubes) ⟨s_Heap_box, s_Heap_peeled, s_impl_FullHeap, s_box_heap, s_Heap_cubes, trivial⟩) (mconOK_of (X := X_impl_ShellHeap N P_Heap_box P_Heap_peeled P_impl_FullHeap P_box_heap P_Heap_cubes) trivial) (by kernel_rfl) (by kernel_rfl) (by kernel_rfl) (by kernel_rfl) (by kernel_rfl) (of_decide_eq_true (by kernel_rfl))
theorem p_impl_ShellHeap (a0 a1 a2 : Int) : P_impl_ShellHeap (a0, a1, a2, ()) = 
 Option.bind (P_impl_FullHeap (a0, a1, a2, ())) fun r0 =>
 bif !r0.2.1 then
 some ((0, (0, (0, (([] : List D_A3), ())))), false, ())
 else
 Option.bind (P_Heap_box (r0.1, ())) fun r2 =>
 Option.bind (P_Heap_cubes (r0.1, ())) fun r3 =>
 Option.bind (P_Heap_peeled (r0.1, ())) fun r4 =>
 Option.bind (P_Heap_cubes (r4.1, ())) fun r5 =>
 Option.bind (P_box_heap (r2.1, (intBits .andNot .u64 r3.1 r5.1), ())) fun r6 =>
 some (r6.1, true, ()) := by
 rewrite [h_impl_ShellHeap]
 exact e_impl_ShellHeap N P_Heap_box P_Heap_peeled P_impl_FullHeap P_box_heap P_Heap_cubes a0 a1 a2

abbrev As_spec_ShellHeap : List ATy := [.data false (.int .i64), .data false (.int .i64), .data false (.int .i64)]
abbrev R_spec_ShellHeap : List (Bool × Ty) := [(true, T_Heap), (false, .bool)]
abbrev M_spec_ShellHeap : List RMode := [.own 38]
abbrev Ft_spec_ShellHeap : Type := Int × Int × Int × Unit → Option (D_Heap × Bool × Unit)
noncomputable def X_spec_ShellHeap (n : Nat) (F_spec_l11Peel : Ft_spec_l11Peel) (F_spec_l2Sides : Ft_spec_l2Sides) (F_spec_l2Box : Ft_spec_l2Box) : Ctx := { types := TT, globals := [], con := [(55, ⟨As_spec_l11Peel, R_spec_l11Peel, M_spec_l11Peel, F_spec_l11Peel⟩), (67, ⟨As_spec_l2Sides, R_spec_l2Sides, M_spec_l2Sides, F_spec_l2Sides⟩), (68, ⟨As_spec_l2Box, R_spec_l2Box, M_spec_l2Box, F_spec_l2Box⟩)], keep := [], results := [.cell 6 26, .tmp 7], ntmps := 19, n := n }
noncomputable def B_spec_ShellHeap : Code := (Tryz.f27.body).getD .skip
theorem e_spec_ShellHeap (n : Nat) (F_spec_l11Peel : Ft_spec_l11Peel) (F_spec_l2Sides : Ft_spec_l2Sides) (F_spec_l2Box : Ft_spec_l2Box) (a0 a1 a2 : Int) : runF (X_spec_ShellHeap n F_spec_l11Peel F_spec_l2Sides F_spec_l2Box) B_spec_ShellHeap As_spec_ShellHeap R_spec_ShellHeap M_spec_ShellHeap (a0, a1, a2, ()) = 
 Option.bind (F_spec_l2Sides (a0, a1, a2, ())) fun r0 =>
 bif !r0.1 then
 some ((0, (0, (0, (([] : List D_A3), ())))), false, ())
 else
 Option.bind (F_spec_l2Box (a0, a1, a2, ())) fun r2 =>
 Option.bind (F_spec_l11Peel (r2.1, true, ())) fun r3 =>
 some (r3.1, true, ()) := by kernel_rfl
noncomputable def P_spec_ShellHeap : Ft_spec_ShellHeap := hid (runF (X_spec_ShellHeap N P_spec_l11Peel P_spec_l2Sides P_spec_l2Box) B_spec_ShellHeap As_spec_ShellHeap R_spec_ShellHeap M_spec_ShellHeap)
theorem h_spec_ShellHeap : P_spec_ShellHeap = runF (X_spec_ShellHeap N P_spec_l11Peel P_spec_l2Sides P_spec_l2Box) B_spec_ShellHeap As_spec_ShellHeap R_spec_ShellHeap M_spec_ShellHeap := hid_eq _
noncomputable def C_spec_ShellHeap : Contract := ⟨As_spec_ShellHeap, R_spec_ShellHeap, M_spec_ShellHeap, P_spec_ShellHeap⟩
theorem s_spec_ShellHeap : Sound Tryz.prog GG 27 C_spec_ShellHeap := by
 unfold C_spec_ShellHeap; rw [h_spec_ShellHeap]
 exact sound_of_run (fn := Tryz.f27) hmix hstable (tyOK_of ttOK) (hglob (X_spec_ShellHeap N P_spec_l11Peel P_spec_l2Sides P_spec_l2Box)) (conOK_of (X := X_spec_ShellHeap N P_spec_l11Peel P_spec_l2Sides P_spec_l2Box) ⟨s_spec_l11Peel, s_spec_l2Sides, s_spec_l2Box, trivial⟩) (mconOK_of (X := X_spec_ShellHeap N P_spec_l11Peel P_spec_l2Sides P_spec_l2Box) trivial) (by kernel_rfl) (by kernel_rfl) (by kernel_rfl) (by kernel_rfl) (by kernel_rfl) (of_decide_eq_true (by kernel_rfl))
theorem p_spec_ShellHeap (a0 a1 a2 : Int) : P_spec_ShellHeap (a0, a1, a2, ()) = 
 Option.bind (P_spec_l2Sides (a0, a1, a2, ())) fun r0 =>
 bif !r0.1 then
 some ((0, (0, (0, (([] : List D_A3), ())))), false, ())
 else
 Option.bind (P_spec_l2Box (a0, a1, a2, ())) fun r2 =>
 Option.bind (P_spec_l11Peel (r2.1, true, ())) fun r3 =>
 some (r3.1, true, ()) := by
 rewrite [h_spec_ShellHeap]
 exact e_spec_ShellHeap N P_spec_l11Peel P_spec_l2Sides P_spec_l2Box a0 a1 a2

abbrev As_Heap_bareFaces : List ATy := [.data true T_Heap]
abbrev R_Heap_bareFaces : List (Bool × Ty) := [(true, T_A6)]
abbrev M_Heap_bareFaces : List RMode := []
abbrev Ft_Heap_bareFaces : Type := D_Heap × Unit → Option (D_A6 × Unit)
noncomputable def X_Heap_bareFaces (n : Nat) (F_impl_beyond : Ft_impl_beyond) (F_Heap_isBare : Ft_Heap_isBare) : Ctx := { types := TT, globals := [], con := [(73, ⟨As_impl_beyond, R_impl_beyond, M_impl_beyond, F_impl_beyond⟩), (74, ⟨As_Heap_isBare, R_Heap_isBare, M_Heap_isBare, F_Heap_isBare⟩)], keep := [(3, ⟨[.box 1, .box 2, .box 3, .tmp 1, .tmp 2, .tmp 3, .tmp 9, .tmp 10, .tmp 11], []⟩), (6, ⟨[.box 1, .box 2, .box 3, .box 5, .tmp 1, .tmp 2, .tmp 3, .tmp 5, .tmp 9, .tmp 10, .tmp 11, .tmp 15], []⟩)], results := [.cell 2 92], ntmps := 31, n := n }
noncomputable def B_Heap_bareFaces : Code := (Tryz.f71.body).getD .skip
noncomputable def L_Heap_bareFaces_3 (n : Nat) (F_impl_beyond : Ft_impl_beyond) (F_Heap_isBare : Ft_Heap_isBare) (m0 : Nat) (p0 p1 p2 : Int) (p3 : List D_A3) (p4 p5 : Int) (p6 p7 : Int) (p8 p9 : Int) (p10 p11 : Int) (p12 p13 : Int) (p14 p15 : Int) (p16 : List D_A3) (p17 p18 : Int) : Option (denL R_Heap_bareFaces) := loopF (X_Heap_bareFaces n F_impl_beyond F_Heap_isBare) B_Heap_bareFaces R_Heap_bareFaces M_Heap_bareFaces 3 [m0] [(.ver, .num 1), (.box 1, .box 0 false [.int .i64 p0, .int .i64 p1, .int .i64 p2, .imm T_A3 p3 (some 3)]), (.box 2, .box 0 false [.int .i64 p4, .int .i64 p5, .int .i64 p6, .int .i64 p7, .int .i64 p8, .int .i64 p9]), (.box 3, .box 0 false [.int .i64 p10, .int .i64 p11, .int .i64 p12, .int .i64 p13, .int .i64 p14, .int .i64 p15]), (.tmp 1, .val false [.addr 1 0 0]), (.tmp 2, .val false [.addr 2 0 0]), (.tmp 3, .val false [.addr 3 0 0]), (.tmp 9, .val false [.imm T_A3 p16 (some 3)]), (.tmp 10, .val false [.int .i64 p17]), (.tmp 11, .val false [.int .i64 p18])]
noncomputable def L_Heap_bareFaces_6 (n : Nat) (F_impl_beyond : Ft_impl_beyond) (F_Heap_isBare : Ft_Heap_isBare) (m0 m1 : Nat) (p0 p1 p2 : Int) (p3 : List D_A3) (p4 p5 : Int) (p6 p7 : Int) (p8 p9 : Int) (p10 p11 : Int) (p12 p13 : Int) (p14 p15 : Int) (p16 p17 p18 : Int) (p19 : List D_A3) (p20 p21 p22 : Int) : Option (denL R_Heap_bareFaces) := loopF (X_Heap_bareFaces n F_impl_beyond F_Heap_isBare) B_Heap_bareFaces R_Heap_bareFaces M_Heap_bareFaces 6 [m0, m1] [(.ver, .num 1), (.box 1, .box 0 false [.int .i64 p0, .int .i64 p1, .int .i64 p2, .imm T_A3 p3 (some 3)]), (.box 2, .box 0 false [.int .i64 p4, .int .i64 p5, .int .i64 p6, .int .i64 p7, .int .i64 p8, .int .i64 p9]), (.box 3, .box 0 false [.int .i64 p10, .int .i64 p11, .int .i64 p12, .int .i64 p13, .int .i64 p14, .int .i64 p15]), (.box 5, .box 0 false [.int .i64 p16, .int .i64 p17, .int .i64 p18]), (.tmp 1, .val false [.addr 1 0 0]), (.tmp 2, .val false [.addr 2 0 0]), (.tmp 3, .val false [.addr 3 0 0]), (.tmp 5, .val false [.addr 5 0 0]), (.tmp 9, .val false [.imm T_A3 p19 (some 3)]), (.tmp 10, .val false [.int .i64 p20]), (.tmp 11, .val false [.int .i64 p21]), (.tmp 15, .val false [.int .i64 p22])]
theorem e_Heap_bareFaces (n : Nat) (F_impl_beyond : Ft_impl_beyond) (F_Heap_isBare : Ft_Heap_isBare) (a0 : D_Heap) : runF (X_Heap_bareFaces n F_impl_beyond F_Heap_isBare) B_Heap_bareFaces As_Heap_bareFaces R_Heap_bareFaces M_Heap_bareFaces (a0, ()) = 
 L_Heap_bareFaces_3 n F_impl_beyond F_Heap_isBare n a0.1 a0.2.1 a0.2.2.1 a0.2.2.2.1 0 0 0 0 0 0 0 0 0 0 0 0 a0.2.2.2.1 (List.length a0.2.2.2.1 : Int) 0 := by kernel_rfl
theorem e_Heap_bareFaces_3 (n : Nat) (F_impl_beyond : Ft_impl_beyond) (F_Heap_isBare : Ft_Heap_isBare) (m0 : Nat) (p0 p1 p2 : Int) (p3 : List D_A3) (p4 p5 : Int) (p6 p7 : Int) (p8 p9 : Int) (p10 p11 : Int) (p12 p13 : Int) (p14 p15 : Int) (p16 : List D_A3) (p17 p18 : Int) : L_Heap_bareFaces_3 n F_impl_beyond F_Heap_isBare (m0 + 1) p0 p1 p2 p3 p4 p5 p6 p7 p8 p9 p10 p11 p12 p13 p14 p15 p16 p17 p18 = 
 bif decide (p18 < p17) then
 bif inB p18 (List.length p16) then
 L_Heap_bareFaces_6 n F_impl_beyond F_Heap_isBare m0 n p0 p1 p2 p3 p4 p5 p6 p7 p8 p9 p10 p11 p12 p13 p14 p15 (((nth T_A3 p16 p18)).1) ((((nth T_A3 p16 p18)).2).1) (((((nth T_A3 p16 p18)).2).2).1) p16 p17 p18 0
 else none
 else
 some ((p10, (p11, (p12, (p13, (p14, (p15, ())))))), ()) := by kernel_rfl
theorem e_Heap_bareFaces_6 (n : Nat) (F_impl_beyond : Ft_impl_beyond) (F_Heap_isBare : Ft_Heap_isBare) (m0 m1 : Nat) (p0 p1 p2 : Int) (p3 : List D_A3) (p4 p5 : Int) (p6 p7 : Int) (p8 p9 : Int) (p10 p11 : Int) (p12 p13 : Int) (p14 p15 : Int) (p16 p17 p18 : Int) (p19 : List D_A3) (p20 p21 p22 : Int) : L_Heap_bareFaces_6 n F_impl_beyond F_Heap_isBare m0 (m1 + 1) p0 p1 p2 p3 p4 p5 p6 p7 p8 p9 p10 p11 p12 p13 p14 p15 p16 p17 p18 p19 p20 p21 p22 = 
 bif decide (p22 < 6) then
 Option.bind (F_impl_beyond ((p16, (p17, (p18, ()))), p22, ())) fun r1 =>
 Option.bind (F_Heap_isBare ((p0, (p1, (p2, (p3, ())))), r1.1, ())) fun r2 =>
 bif r2.1 then
 bif inB p22 6 then
 bif inB p22 6 then
 L_Heap_bareFaces_6 n F_impl_beyond F_Heap_isBare m0 m1 p0 p1 p2 p3 p4 p5 p6 p7 p8 p9 (bif decide (p22 = (0 : Int)) then (IntKind.wrap .i64 ((bif decide (p22 = (0 : Int)) then p10 else (bif decide (p22 = (1 : Int)) then p11 else (bif decide (p22 = (2 : Int)) then p12 else (bif decide (p22 = (3 : Int)) then p13 else (bif decide (p22 = (4 : Int)) then p14 else p15))))) + 1)) else p10) (bif decide (p22 = (1 : Int)) then (IntKind.wrap .i64 ((bif decide (p22 = (0 : Int)) then p10 else (bif decide (p22 = (1 : Int)) then p11 else (bif decide (p22 = (2 : Int)) then p12 else (bif decide (p22 = (3 : Int)) then p13 else (bif decide (p22 = (4 : Int)) then p14 else p15))))) + 1)) else p11) (bif decide (p22 = (2 : Int)) then (IntKind.wrap .i64 ((bif decide (p22 = (0 : Int)) then p10 else (bif decide (p22 = (1 : Int)) then p11 else (bif decide (p22 = (2 : Int)) then p12 else (bif decide (p22 = (3 : Int)) then p13 else (bif decide (p22 = (4 : Int)) then p14 else p15))))) + 1)) else p12) (bif decide (p22 = (3 : Int)) then (IntKind.wrap .i64 ((bif decide (p22 = (0 : Int)) then p10 else (bif decide (p22 = (1 : Int)) then p11 else (bif decide (p22 = (2 : Int)) then p12 else (bif decide (p22 = (3 : Int)) then p13 else (bif decide (p22 = (4 : Int)) then p14 else p15))))) + 1)) else p13) (bif decide (p22 = (4 : Int)) then (IntKind.wrap .i64 ((bif decide (p22 = (0 : Int)) then p10 else (bif decide (p22 = (1 : Int)) then p11 else (bif decide (p22 = (2 : Int)) then p12 else (bif decide (p22 = (3 : Int)) then p13 else (bif decide (p22 = (4 : Int)) then p14 else p15))))) + 1)) else p14) (bif decide (p22 = (5 : Int)) then (IntKind.wrap .i64 ((bif decide (p22 = (0 : Int)) then p10 else (bif decide (p22 = (1 : Int)) then p11 else (bif decide (p22 = (2 : Int)) then p12 else (bif decide (p22 = (3 : Int)) then p13 else (bif decide (p22 = (4 : Int)) then p14 else p15))))) + 1)) else p15) p16 p17 p18 p19 p20 p21 (IntKind.wrap .i64 (p22 + 1))
 else none
 else none
 else
 L_Heap_bareFaces_6 n F_impl_beyond F_Heap_isBare m0 m1 p0 p1 p2 p3 p4 p5 p6 p7 p8 p9 p10 p11 p12 p13 p14 p15 p16 p17 p18 p19 p20 p21 (IntKind.wrap .i64 (p22 + 1))
 else
 L_Heap_bareFaces_3 n F_impl_beyond F_Heap_isBare m0 p0 p1 p2 p3 p4 p5 p6 p7 p8 p9 p10 p11 p12 p13 p14 p15 p19 p20 (IntKind.wrap .i64 (p21 + 1)) := by kernel_rfl
noncomputable def P_Heap_bareFaces : Ft_Heap_bareFaces := hid (runF (X_Heap_bareFaces N P_impl_beyond P_Heap_isBare) B_Heap_bareFaces As_Heap_bareFaces R_Heap_bareFaces M_Heap_bareFaces)
theorem h_Heap_bareFaces : P_Heap_bareFaces = runF (X_Heap_bareFaces N P_impl_beyond P_Heap_isBare) B_Heap_bareFaces As_Heap_bareFaces R_Heap_bareFaces M_Heap_bareFaces := hid_eq _
noncomputable def C_Heap_bareFaces : Contract := ⟨As_Heap_bareFaces, R_Heap_bareFaces, M_Heap_bareFaces, P_Heap_bareFaces⟩
theorem s_Heap_bareFaces : Sound Tryz.prog GG 71 C_Heap_bareFaces := by
 unfold C_Heap_bareFaces; rw [h_Heap_bareFaces]
 exact sound_of_run (fn := Tryz.f71) hmix hstable (tyOK_of ttOK) (hglob (X_Heap_bareFaces N P_impl_beyond P_Heap_isBare)) (conOK_of (X := X_Heap_bareFaces N P_impl_beyond P_Heap_isBare) ⟨s_impl_beyond, s_Heap_isBare, trivial⟩) (mconOK_of (X := X_Heap_bareFaces N P_impl_beyond P_Heap_isBare) trivial) (by kernel_rfl) (by kernel_rfl) (by kernel_rfl) (by kernel_rfl) (by kernel_rfl) (of_decide_eq_true (by kernel_rfl))
noncomputable def l_Heap_bareFaces_3 : Nat → Int → Int → Int → (List D_A3) → Int → Int → Int → Int → Int → Int → Int → Int → Int → Int → Int → Int → (List D_A3) → Int → Int → Option (denL R_Heap_bareFaces) := hid (fun m0 p0 p1 p2 p3 p4 p5 p6 p7 p8 p9 p10 p11 p12 p13 p14 p15 p16 p17 p18 => L_Heap_bareFaces_3 N P_impl_beyond P_Heap_isBare m0 p0 p1 p2 p3 p4 p5 p6 p7 p8 p9 p10 p11 p12 p13 p14 p15 p16 p17 p18)
theorem h_Heap_bareFaces_3 : l_Heap_bareFaces_3 = fun m0 p0 p1 p2 p3 p4 p5 p6 p7 p8 p9 p10 p11 p12 p13 p14 p15 p16 p17 p18 => L_Heap_bareFaces_3 N P_impl_beyond P_Heap_isBare m0 p0 p1 p2 p3 p4 p5 p6 p7 p8 p9 p10 p11 p12 p13 p14 p15 p16 p17 p18 := hid_eq _
noncomputable def l_Heap_bareFaces_6 : Nat → Nat → Int → Int → Int → (List D_A3) → Int → Int → Int → Int → Int → Int → Int → Int → Int → Int → Int → Int → Int → Int → Int → (List D_A3) → Int → Int → Int → Option (denL R_Heap_bareFaces) := hid (fun m0 m1 p0 p1 p2 p3 p4 p5 p6 p7 p8 p9 p10 p11 p12 p13 p14 p15 p16 p17 p18 p19 p20 p21 p22 => L_Heap_bareFaces_6 N P_impl_beyond P_Heap_isBare m0 m1 p0 p1 p2 p3 p4 p5 p6 p7 p8 p9 p10 p11 p12 p13 p14 p15 p16 p17 p18 p19 p20 p21 p22)
theorem h_Heap_bareFaces_6 : l_Heap_bareFaces_6 = fun m0 m1 p0 p1 p2 p3 p4 p5 p6 p7 p8 p9 p10 p11 p12 p13 p14 p15 p16 p17 p18 p19 p20 p21 p22 => L_Heap_bareFaces_6 N P_impl_beyond P_Heap_isBare m0 m1 p0 p1 p2 p3 p4 p5 p6 p7 p8 p9 p10 p11 p12 p13 p14 p15 p16 p17 p18 p19 p20 p21 p22 := hid_eq _
theorem p_Heap_bareFaces (a0 : D_Heap) : P_Heap_bareFaces (a0, ()) = 
 l_Heap_bareFaces_3 N a0.1 a0.2.1 a0.2.2.1 a0.2.2.2.1 0 0 0 0 0 0 0 0 0 0 0 0 a0.2.2.2.1 (List.length a0.2.2.2.1 : Int) 0 := by
 rewrite [h_Heap_bareFaces, h_Heap_bareFaces_3]
 exact e_Heap_bareFaces N P_impl_beyond P_Heap_isBare a0
theorem q_Heap_bareFaces_3 (m0 : Nat) (p0 p1 p2 : Int) (p3 : List D_A3) (p4 p5 : Int) (p6 p7 : Int) (p8 p9 : Int) (p10 p11 : Int) (p12 p13 : Int) (p14 p15 : Int) (p16 : List D_A3) (p17 p18 : Int) : l_Heap_bareFaces_3 (m0 + 1) p0 p1 p2 p3 p4 p5 p6 p7 p8 p9 p10 p11 p12 p13 p14 p15 p16 p17 p18 = 
 bif decide (p18 < p17) then
 bif inB p18 (List.length p16) then
 l_Heap_bareFaces_6 m0 N p0 p1 p2 p3 p4 p5 p6 p7 p8 p9 p10 p11 p12 p13 p14 p15 (((nth T_A3 p16 p18)).1) ((((nth T_A3 p16 p18)).2).1) (((((nth T_A3 p16 p18)).2).2).1) p16 p17 p18 0
 else none
 else
 some ((p10, (p11, (p12, (p13, (p14, (p15, ())))))), ()) := by
 rewrite [h_Heap_bareFaces_3, h_Heap_bareFaces_6]
 exact e_Heap_bareFaces_3 N P_impl_beyond P_Heap_isBare m0 p0 p1 p2 p3 p4 p5 p6 p7 p8 p9 p10 p11 p12 p13 p14 p15 p16 p17 p18
theorem q_Heap_bareFaces_6 (m0 m1 : Nat) (p0 p1 p2 : Int) (p3 : List D_A3) (p4 p5 : Int) (p6 p7 : Int) (p8 p9 : Int) (p10 p11 : Int) (p12 p13 : Int) (p14 p15 : Int) (p16 p17 p18 : Int) (p19 : List D_A3) (p20 p21 p22 : Int) : l_Heap_bareFaces_6 m0 (m1 + 1) p0 p1 p2 p3 p4 p5 p6 p7 p8 p9 p10 p11 p12 p13 p14 p15 p16 p17 p18 p19 p20 p21 p22 = 
 bif decide (p22 < 6) then
 Option.bind (P_impl_beyond ((p16, (p17, (p18, ()))), p22, ())) fun r1 =>
 Option.bind (P_Heap_isBare ((p0, (p1, (p2, (p3, ())))), r1.1, ())) fun r2 =>
 bif r2.1 then
 bif inB p22 6 then
 bif inB p22 6 then
 l_Heap_bareFaces_6 m0 m1 p0 p1 p2 p3 p4 p5 p6 p7 p8 p9 (bif decide (p22 = (0 : Int)) then (IntKind.wrap .i64 ((bif decide (p22 = (0 : Int)) then p10 else (bif decide (p22 = (1 : Int)) then p11 else (bif decide (p22 = (2 : Int)) then p12 else (bif decide (p22 = (3 : Int)) then p13 else (bif decide (p22 = (4 : Int)) then p14 else p15))))) + 1)) else p10) (bif decide (p22 = (1 : Int)) then (IntKind.wrap .i64 ((bif decide (p22 = (0 : Int)) then p10 else (bif decide (p22 = (1 : Int)) then p11 else (bif decide (p22 = (2 : Int)) then p12 else (bif decide (p22 = (3 : Int)) then p13 else (bif decide (p22 = (4 : Int)) then p14 else p15))))) + 1)) else p11) (bif decide (p22 = (2 : Int)) then (IntKind.wrap .i64 ((bif decide (p22 = (0 : Int)) then p10 else (bif decide (p22 = (1 : Int)) then p11 else (bif decide (p22 = (2 : Int)) then p12 else (bif decide (p22 = (3 : Int)) then p13 else (bif decide (p22 = (4 : Int)) then p14 else p15))))) + 1)) else p12) (bif decide (p22 = (3 : Int)) then (IntKind.wrap .i64 ((bif decide (p22 = (0 : Int)) then p10 else (bif decide (p22 = (1 : Int)) then p11 else (bif decide (p22 = (2 : Int)) then p12 else (bif decide (p22 = (3 : Int)) then p13 else (bif decide (p22 = (4 : Int)) then p14 else p15))))) + 1)) else p13) (bif decide (p22 = (4 : Int)) then (IntKind.wrap .i64 ((bif decide (p22 = (0 : Int)) then p10 else (bif decide (p22 = (1 : Int)) then p11 else (bif decide (p22 = (2 : Int)) then p12 else (bif decide (p22 = (3 : Int)) then p13 else (bif decide (p22 = (4 : Int)) then p14 else p15))))) + 1)) else p14) (bif decide (p22 = (5 : Int)) then (IntKind.wrap .i64 ((bif decide (p22 = (0 : Int)) then p10 else (bif decide (p22 = (1 : Int)) then p11 else (bif decide (p22 = (2 : Int)) then p12 else (bif decide (p22 = (3 : Int)) then p13 else (bif decide (p22 = (4 : Int)) then p14 else p15))))) + 1)) else p15) p16 p17 p18 p19 p20 p21 (IntKind.wrap .i64 (p22 + 1))
 else none
 else none
 else
 l_Heap_bareFaces_6 m0 m1 p0 p1 p2 p3 p4 p5 p6 p7 p8 p9 p10 p11 p12 p13 p14 p15 p16 p17 p18 p19 p20 p21 (IntKind.wrap .i64 (p22 + 1))
 else
 l_Heap_bareFaces_3 m0 p0 p1 p2 p3 p4 p5 p6 p7 p8 p9 p10 p11 p12 p13 p14 p15 p19 p20 (IntKind.wrap .i64 (p21 + 1)) := by
 rewrite [h_Heap_bareFaces_3, h_Heap_bareFaces_6]
 exact e_Heap_bareFaces_6 N P_impl_beyond P_Heap_isBare m0 m1 p0 p1 p2 p3 p4 p5 p6 p7 p8 p9 p10 p11 p12 p13 p14 p15 p16 p17 p18 p19 p20 p21 p22

abbrev As_impl_SurfaceOf : List ATy := [.data true T_Heap]
abbrev R_impl_SurfaceOf : List (Bool × Ty) := [(false, (.int .i64)), (false, .bool)]
abbrev M_impl_SurfaceOf : List RMode := []
abbrev Ft_impl_SurfaceOf : Type := D_Heap × Unit → Option (Int × Bool × Unit)
noncomputable def X_impl_SurfaceOf (n : Nat) (F_impl_IsHeap : Ft_impl_IsHeap) (F_Heap_bareFaces : Ft_Heap_bareFaces) : Ctx := { types := TT, globals := [], con := [(9, ⟨As_impl_IsHeap, R_impl_IsHeap, M_impl_IsHeap, F_impl_IsHeap⟩), (71, ⟨As_Heap_bareFaces, R_Heap_bareFaces, M_Heap_bareFaces, F_Heap_bareFaces⟩)], keep := [(5, ⟨[.tmp 4, .tmp 11, .tmp 12], []⟩)], results := [.tmp 2, .tmp 3], ntmps := 20, n := n }
noncomputable def B_impl_SurfaceOf : Code := (Tryz.f28.body).getD .skip
noncomputable def L_impl_SurfaceOf_5 (n : Nat) (F_impl_IsHeap : Ft_impl_IsHeap) (F_Heap_bareFaces : Ft_Heap_bareFaces) (m0 : Nat) (p0 p1 : Int) (p2 p3 : Int) (p4 p5 : Int) (p6 p7 : Int) : Option (denL R_impl_SurfaceOf) := loopF (X_impl_SurfaceOf n F_impl_IsHeap F_Heap_bareFaces) B_impl_SurfaceOf R_impl_SurfaceOf M_impl_SurfaceOf 5 [m0] [(.ver, .num 1), (.tmp 4, .val false [.int .i64 p0]), (.tmp 11, .val true [.int .i64 p1, .int .i64 p2, .int .i64 p3, .int .i64 p4, .int .i64 p5, .int .i64 p6]), (.tmp 12, .val false [.int .i64 p7])]
theorem e_impl_SurfaceOf (n : Nat) (F_impl_IsHeap : Ft_impl_IsHeap) (F_Heap_bareFaces : Ft_Heap_bareFaces) (a0 : D_Heap) : runF (X_impl_SurfaceOf n F_impl_IsHeap F_Heap_bareFaces) B_impl_SurfaceOf As_impl_SurfaceOf R_impl_SurfaceOf M_impl_SurfaceOf (a0, ()) = 
 Option.bind (F_impl_IsHeap (a0, ())) fun r0 =>
 bif !r0.1 then
 some (0, false, ())
 else
 Option.bind (F_Heap_bareFaces (a0, ())) fun r2 =>
 L_impl_SurfaceOf_5 n F_impl_IsHeap F_Heap_bareFaces n 0 r2.1.1 r2.1.2.1 r2.1.2.2.1 r2.1.2.2.2.1 r2.1.2.2.2.2.1 r2.1.2.2.2.2.2.1 0 := by kernel_rfl
theorem e_impl_SurfaceOf_5 (n : Nat) (F_impl_IsHeap : Ft_impl_IsHeap) (F_Heap_bareFaces : Ft_Heap_bareFaces) (m0 : Nat) (p0 p1 : Int) (p2 p3 : Int) (p4 p5 : Int) (p6 p7 : Int) : L_impl_SurfaceOf_5 n F_impl_IsHeap F_Heap_bareFaces (m0 + 1) p0 p1 p2 p3 p4 p5 p6 p7 = 
 bif decide (p7 < 6) then
 bif inB p7 6 then
 L_impl_SurfaceOf_5 n F_impl_IsHeap F_Heap_bareFaces m0 (IntKind.wrap .i64 (p0 + (bif decide (p7 = (0 : Int)) then p1 else (bif decide (p7 = (1 : Int)) then p2 else (bif decide (p7 = (2 : Int)) then p3 else (bif decide (p7 = (3 : Int)) then p4 else (bif decide (p7 = (4 : Int)) then p5 else p6))))))) p1 p2 p3 p4 p5 p6 (IntKind.wrap .i64 (p7 + 1))
 else none
 else
 some (p0, true, ()) := by kernel_rfl
noncomputable def P_impl_SurfaceOf : Ft_impl_SurfaceOf := hid (runF (X_impl_SurfaceOf N P_impl_IsHeap P_Heap_bareFaces) B_impl_SurfaceOf As_impl_SurfaceOf R_impl_SurfaceOf M_impl_SurfaceOf)
theorem h_impl_SurfaceOf : P_impl_SurfaceOf = runF (X_impl_SurfaceOf N P_impl_IsHeap P_Heap_bareFaces) B_impl_SurfaceOf As_impl_SurfaceOf R_impl_SurfaceOf M_impl_SurfaceOf := hid_eq _
noncomputable def C_impl_SurfaceOf : Contract := ⟨As_impl_SurfaceOf, R_impl_SurfaceOf, M_impl_SurfaceOf, P_impl_SurfaceOf⟩
theorem s_impl_SurfaceOf : Sound Tryz.prog GG 28 C_impl_SurfaceOf := by
 unfold C_impl_SurfaceOf; rw [h_impl_SurfaceOf]
 exact sound_of_run (fn := Tryz.f28) hmix hstable (tyOK_of ttOK) (hglob (X_impl_SurfaceOf N P_impl_IsHeap P_Heap_bareFaces)) (conOK_of (X := X_impl_SurfaceOf N P_impl_IsHeap P_Heap_bareFaces) ⟨s_impl_IsHeap, s_Heap_bareFaces, trivial⟩) (mconOK_of (X := X_impl_SurfaceOf N P_impl_IsHeap P_Heap_bareFaces) trivial) (by kernel_rfl) (by kernel_rfl) (by kernel_rfl) (by kernel_rfl) (by kernel_rfl) (of_decide_eq_true (by kernel_rfl))
noncomputable def l_impl_SurfaceOf_5 : Nat → Int → Int → Int → Int → Int → Int → Int → Int → Option (denL R_impl_SurfaceOf) := hid (fun m0 p0 p1 p2 p3 p4 p5 p6 p7 => L_impl_SurfaceOf_5 N P_impl_IsHeap P_Heap_bareFaces m0 p0 p1 p2 p3 p4 p5 p6 p7)
theorem h_impl_SurfaceOf_5 : l_impl_SurfaceOf_5 = fun m0 p0 p1 p2 p3 p4 p5 p6 p7 => L_impl_SurfaceOf_5 N P_impl_IsHeap P_Heap_bareFaces m0 p0 p1 p2 p3 p4 p5 p6 p7 := hid_eq _
theorem p_impl_SurfaceOf (a0 : D_Heap) : P_impl_SurfaceOf (a0, ()) = 
 Option.bind (P_impl_IsHeap (a0, ())) fun r0 =>
 bif !r0.1 then
 some (0, false, ())
 else
 Option.bind (P_Heap_bareFaces (a0, ())) fun r2 =>
 l_impl_SurfaceOf_5 N 0 r2.1.1 r2.1.2.1 r2.1.2.2.1 r2.1.2.2.2.1 r2.1.2.2.2.2.1 r2.1.2.2.2.2.2.1 0 := by
 rewrite [h_impl_SurfaceOf, h_impl_SurfaceOf_5]
 exact e_impl_SurfaceOf N P_impl_IsHeap P_Heap_bareFaces a0
theorem q_impl_SurfaceOf_5 (m0 : Nat) (p0 p1 : Int) (p2 p3 : Int) (p4 p5 : Int) (p6 p7 : Int) : l_impl_SurfaceOf_5 (m0 + 1) p0 p1 p2 p3 p4 p5 p6 p7 = 
 bif decide (p7 < 6) then
 bif inB p7 6 then
 l_impl_SurfaceOf_5 m0 (IntKind.wrap .i64 (p0 + (bif decide (p7 = (0 : Int)) then p1 else (bif decide (p7 = (1 : Int)) then p2 else (bif decide (p7 = (2 : Int)) then p3 else (bif decide (p7 = (3 : Int)) then p4 else (bif decide (p7 = (4 : Int)) then p5 else p6))))))) p1 p2 p3 p4 p5 p6 (IntKind.wrap .i64 (p7 + 1))
 else none
 else
 some (p0, true, ()) := by
 rewrite [h_impl_SurfaceOf_5]
 exact e_impl_SurfaceOf_5 N P_impl_IsHeap P_Heap_bareFaces m0 p0 p1 p2 p3 p4 p5 p6 p7

abbrev As_impl_OutsideFaces : List ATy := [.data true T_Heap]
abbrev R_impl_OutsideFaces : List (Bool × Ty) := [(false, (.int .i64)), (false, .bool)]
abbrev M_impl_OutsideFaces : List RMode := []
abbrev Ft_impl_OutsideFaces : Type := D_Heap × Unit → Option (Int × Bool × Unit)
noncomputable def X_impl_OutsideFaces (n : Nat) (F_impl_IsHeap : Ft_impl_IsHeap) (F_Heap_box : Ft_Heap_box) (F_box_has : Ft_box_has) (F_Heap_enclosed : Ft_Heap_enclosed) (F_impl_beyond : Ft_impl_beyond) (F_Heap_isBare : Ft_Heap_isBare) (F_set_has : Ft_set_has) (F_box_index : Ft_box_index) : Ctx := { types := TT, globals := [], con := [(9, ⟨As_impl_IsHeap, R_impl_IsHeap, M_impl_IsHeap, F_impl_IsHeap⟩), (50, ⟨As_Heap_box, R_Heap_box, M_Heap_box, F_Heap_box⟩), (52, ⟨As_box_has, R_box_has, M_box_has, F_box_has⟩), (72, ⟨As_Heap_enclosed, R_Heap_enclosed, M_Heap_enclosed, F_Heap_enclosed⟩), (73, ⟨As_impl_beyond, R_impl_beyond, M_impl_beyond, F_impl_beyond⟩), (74, ⟨As_Heap_isBare, R_Heap_isBare, M_Heap_isBare, F_Heap_isBare⟩), (75, ⟨As_set_has, R_set_has, M_set_has, F_set_has⟩), (76, ⟨As_box_index, R_box_index, M_box_index, F_box_index⟩)], keep := [(5, ⟨[.box 1, .tmp 1, .tmp 4, .tmp 5, .tmp 16, .tmp 17, .tmp 18], []⟩), (8, ⟨[.box 1, .box 7, .tmp 1, .tmp 4, .tmp 5, .tmp 7, .tmp 16, .tmp 17, .tmp 18, .tmp 22], []⟩)], results := [.tmp 2, .tmp 3], ntmps := 52, n := n }
noncomputable def B_impl_OutsideFaces : Code := (Tryz.f29.body).getD .skip
noncomputable def L_impl_OutsideFaces_5 (n : Nat) (F_impl_IsHeap : Ft_impl_IsHeap) (F_Heap_box : Ft_Heap_box) (F_box_has : Ft_box_has) (F_Heap_enclosed : Ft_Heap_enclosed) (F_impl_beyond : Ft_impl_beyond) (F_Heap_isBare : Ft_Heap_isBare) (F_set_has : Ft_set_has) (F_box_index : Ft_box_index) (m0 : Nat) (p0 p1 p2 : Int) (p3 : List D_A3) (p4 p5 : Int) (p6 : List D_A3) (p7 p8 : Int) : Option (denL R_impl_OutsideFaces) := loopF (X_impl_OutsideFaces n F_impl_IsHeap F_Heap_box F_box_has F_Heap_enclosed F_impl_beyond F_Heap_isBare F_set_has F_box_index) B_impl_OutsideFaces R_impl_OutsideFaces M_impl_OutsideFaces 5 [m0] [(.ver, .num 1), (.box 1, .box 0 false [.int .i64 p0, .int .i64 p1, .int .i64 p2, .imm T_A3 p3 (some 3)]), (.tmp 1, .val false [.addr 1 0 0]), (.tmp 4, .val false [.int .i64 p4]), (.tmp 5, .val false [.int .u64 p5]), (.tmp 16, .val false [.imm T_A3 p6 (some 3)]), (.tmp 17, .val false [.int .i64 p7]), (.tmp 18, .val false [.int .i64 p8])]
noncomputable def L_impl_OutsideFaces_8 (n : Nat) (F_impl_IsHeap : Ft_impl_IsHeap) (F_Heap_box : Ft_Heap_box) (F_box_has : Ft_box_has) (F_Heap_enclosed : Ft_Heap_enclosed) (F_impl_beyond : Ft_impl_beyond) (F_Heap_isBare : Ft_Heap_isBare) (F_set_has : Ft_set_has) (F_box_index : Ft_box_index) (m0 m1 : Nat) (p0 p1 p2 : Int) (p3 : List D_A3) (p4 p5 : Int) (p6 p7 p8 : Int) (p9 : List D_A3) (p10 p11 p12 : Int) : Option (denL R_impl_OutsideFaces) := loopF (X_impl_OutsideFaces n F_impl_IsHeap F_Heap_box F_box_has F_Heap_enclosed F_impl_beyond F_Heap_isBare F_set_has F_box_index) B_impl_OutsideFaces R_impl_OutsideFaces M_impl_OutsideFaces 8 [m0, m1] [(.ver, .num 1), (.box 1, .box 0 false [.int .i64 p0, .int .i64 p1, .int .i64 p2, .imm T_A3 p3 (some 3)]), (.box 7, .box 0 false [.int .i64 p4, .int .i64 p5, .int .i64 p6]), (.tmp 1, .val false [.addr 1 0 0]), (.tmp 4, .val false [.int .i64 p7]), (.tmp 5, .val false [.int .u64 p8]), (.tmp 7, .val false [.addr 7 0 0]), (.tmp 16, .val false [.imm T_A3 p9 (some 3)]), (.tmp 17, .val false [.int .i64 p10]), (.tmp 18, .val false [.int .i64 p11]), (.tmp 22, .val false [.int .i64 p12])]
theorem e_impl_OutsideFaces (n : Nat) (F_impl_IsHeap : Ft_impl_IsHeap) (F_Heap_box : Ft_Heap_box) (F_box_has : Ft_box_has) (F_Heap_enclosed : Ft_Heap_enclosed) (F_impl_beyond : Ft_impl_beyond) (F_Heap_isBare : Ft_Heap_isBare) (F_set_has : Ft_set_has) (F_box_index : Ft_box_index) (a0 : D_Heap) : runF (X_impl_OutsideFaces n F_impl_IsHeap F_Heap_box F_box_has F_Heap_enclosed F_impl_beyond F_Heap_isBare F_set_has F_box_index) B_impl_OutsideFaces As_impl_OutsideFaces R_impl_OutsideFaces M_impl_OutsideFaces (a0, ()) = 
 Option.bind (F_impl_IsHeap (a0, ())) fun r0 =>
 bif !r0.1 then
 some (0, false, ())
 else
 Option.bind (F_Heap_enclosed (a0, ())) fun r2 =>
 L_impl_OutsideFaces_5 n F_impl_IsHeap F_Heap_box F_box_has F_Heap_enclosed F_impl_beyond F_Heap_isBare F_set_has F_box_index n a0.1 a0.2.1 a0.2.2.1 a0.2.2.2.1 0 r2.1 a0.2.2.2.1 (List.length a0.2.2.2.1 : Int) 0 := by kernel_rfl
theorem e_impl_OutsideFaces_5 (n : Nat) (F_impl_IsHeap : Ft_impl_IsHeap) (F_Heap_box : Ft_Heap_box) (F_box_has : Ft_box_has) (F_Heap_enclosed : Ft_Heap_enclosed) (F_impl_beyond : Ft_impl_beyond) (F_Heap_isBare : Ft_Heap_isBare) (F_set_has : Ft_set_has) (F_box_index : Ft_box_index) (m0 : Nat) (p0 p1 p2 : Int) (p3 : List D_A3) (p4 p5 : Int) (p6 : List D_A3) (p7 p8 : Int) : L_impl_OutsideFaces_5 n F_impl_IsHeap F_Heap_box F_box_has F_Heap_enclosed F_impl_beyond F_Heap_isBare F_set_has F_box_index (m0 + 1) p0 p1 p2 p3 p4 p5 p6 p7 p8 = 
 bif decide (p8 < p7) then
 bif inB p8 (List.length p6) then
 L_impl_OutsideFaces_8 n F_impl_IsHeap F_Heap_box F_box_has F_Heap_enclosed F_impl_beyond F_Heap_isBare F_set_has F_box_index m0 n p0 p1 p2 p3 (((nth T_A3 p6 p8)).1) ((((nth T_A3 p6 p8)).2).1) (((((nth T_A3 p6 p8)).2).2).1) p4 p5 p6 p7 p8 0
 else none
 else
 some (p4, true, ()) := by kernel_rfl
theorem e_impl_OutsideFaces_8 (n : Nat) (F_impl_IsHeap : Ft_impl_IsHeap) (F_Heap_box : Ft_Heap_box) (F_box_has : Ft_box_has) (F_Heap_enclosed : Ft_Heap_enclosed) (F_impl_beyond : Ft_impl_beyond) (F_Heap_isBare : Ft_Heap_isBare) (F_set_has : Ft_set_has) (F_box_index : Ft_box_index) (m0 m1 : Nat) (p0 p1 p2 : Int) (p3 : List D_A3) (p4 p5 : Int) (p6 p7 p8 : Int) (p9 : List D_A3) (p10 p11 p12 : Int) : L_impl_OutsideFaces_8 n F_impl_IsHeap F_Heap_box F_box_has F_Heap_enclosed F_impl_beyond F_Heap_isBare F_set_has F_box_index m0 (m1 + 1) p0 p1 p2 p3 p4 p5 p6 p7 p8 p9 p10 p11 p12 = 
 bif decide (p12 < 6) then
 Option.bind (F_impl_beyond ((p4, (p5, (p6, ()))), p12, ())) fun r1 =>
 Option.bind (F_Heap_isBare ((p0, (p1, (p2, (p3, ())))), r1.1, ())) fun r2 =>
 bif r2.1 then
 Option.bind (F_Heap_box ((p0, (p1, (p2, (p3, ())))), ())) fun r4 =>
 Option.bind (F_box_has (r4.1, r1.1, ())) fun r5 =>
 bif !r5.1 then
 L_impl_OutsideFaces_8 n F_impl_IsHeap F_Heap_box F_box_has F_Heap_enclosed F_impl_beyond F_Heap_isBare F_set_has F_box_index m0 m1 p0 p1 p2 p3 p4 p5 p6 (IntKind.wrap .i64 (p7 + 1)) p8 p9 p10 p11 (IntKind.wrap .i64 (p12 + 1))
 else
 Option.bind (F_Heap_box ((p0, (p1, (p2, (p3, ())))), ())) fun r7 =>
 Option.bind (F_box_index (r7.1, r1.1, ())) fun r8 =>
 Option.bind (F_set_has (p8, r8.1, ())) fun r9 =>
 bif !r9.1 then
 L_impl_OutsideFaces_8 n F_impl_IsHeap F_Heap_box F_box_has F_Heap_enclosed F_impl_beyond F_Heap_isBare F_set_has F_box_index m0 m1 p0 p1 p2 p3 p4 p5 p6 (IntKind.wrap .i64 (p7 + 1)) p8 p9 p10 p11 (IntKind.wrap .i64 (p12 + 1))
 else
 L_impl_OutsideFaces_8 n F_impl_IsHeap F_Heap_box F_box_has F_Heap_enclosed F_impl_beyond F_Heap_isBare F_set_has F_box_index m0 m1 p0 p1 p2 p3 p4 p5 p6 p7 p8 p9 p10 p11 (IntKind.wrap .i64 (p12 + 1))
 else
 L_impl_OutsideFaces_8 n F_impl_IsHeap F_Heap_box F_box_has F_Heap_enclosed F_impl_beyond F_Heap_isBare F_set_has F_box_index m0 m1 p0 p1 p2 p3 p4 p5 p6 p7 p8 p9 p10 p11 (IntKind.wrap .i64 (p12 + 1))
 else
 L_impl_OutsideFaces_5 n F_impl_IsHeap F_Heap_box F_box_has F_Heap_enclosed F_impl_beyond F_Heap_isBare F_set_has F_box_index m0 p0 p1 p2 p3 p7 p8 p9 p10 (IntKind.wrap .i64 (p11 + 1)) := by kernel_rfl
noncomputable def P_impl_OutsideFaces : Ft_impl_OutsideFaces := hid (runF (X_impl_OutsideFaces N P_impl_IsHeap P_Heap_box P_box_has P_Heap_enclosed P_impl_beyond P_Heap_isBare P_set_has P_box_index) B_impl_OutsideFaces As_impl_OutsideFaces R_impl_OutsideFaces M_impl_OutsideFaces)
theorem h_impl_OutsideFaces : P_impl_OutsideFaces = runF (X_impl_OutsideFaces N P_impl_IsHeap P_Heap_box P_box_has P_Heap_enclosed P_impl_beyond P_Heap_isBare P_set_has P_box_index) B_impl_OutsideFaces As_impl_OutsideFaces R_impl_OutsideFaces M_impl_OutsideFaces := hid_eq _
noncomputable def C_impl_OutsideFaces : Contract := ⟨As_impl_OutsideFaces, R_impl_OutsideFaces, M_impl_OutsideFaces, P_impl_OutsideFaces⟩
theorem s_impl_OutsideFaces : Sound Tryz.prog GG 29 C_impl_OutsideFaces := by
 unfold C_impl_OutsideFaces; rw [h_impl_OutsideFaces]
 exact sound_of_run (fn := Tryz.f29) hmix hstable (tyOK_of ttOK) (hglob (X_impl_OutsideFaces N P_impl_IsHeap P_Heap_box P_box_has P_Heap_enclosed P_impl_beyond P_Heap_isBare P_set_has P_box_index)) (conOK_of (X := X_impl_OutsideFaces N P_impl_IsHeap P_Heap_box P_box_has P_Heap_enclosed P_impl_beyond P_Heap_isBare P_set_has P_box_index) ⟨s_impl_IsHeap, s_Heap_box, s_box_has, s_Heap_enclosed, s_impl_beyond, s_Heap_isBare, s_set_has, s_box_index, trivial⟩) (mconOK_of (X := X_impl_OutsideFaces N P_impl_IsHeap P_Heap_box P_box_has P_Heap_enclosed P_impl_beyond P_Heap_isBare P_set_has P_box_index) trivial) (by kernel_rfl) (by kernel_rfl) (by kernel_rfl) (by kernel_rfl) (by kernel_rfl) (of_decide_eq_true (by kernel_rfl))
noncomputable def l_impl_OutsideFaces_5 : Nat → Int → Int → Int → (List D_A3) → Int → Int → (List D_A3) → Int → Int → Option (denL R_impl_OutsideFaces) := hid (fun m0 p0 p1 p2 p3 p4 p5 p6 p7 p8 => L_impl_OutsideFaces_5 N P_impl_IsHeap P_Heap_box P_box_has P_Heap_enclosed P_impl_beyond P_Heap_isBare P_set_has P_box_index m0 p0 p1 p2 p3 p4 p5 p6 p7 p8)
theorem h_impl_OutsideFaces_5 : l_impl_OutsideFaces_5 = fun m0 p0 p1 p2 p3 p4 p5 p6 p7 p8 => L_impl_OutsideFaces_5 N P_impl_IsHeap P_Heap_box P_box_has P_Heap_enclosed P_impl_beyond P_Heap_isBare P_set_has P_box_index m0 p0 p1 p2 p3 p4 p5 p6 p7 p8 := hid_eq _
noncomputable def l_impl_OutsideFaces_8 : Nat → Nat → Int → Int → Int → (List D_A3) → Int → Int → Int → Int → Int → (List D_A3) → Int → Int → Int → Option (denL R_impl_OutsideFaces) := hid (fun m0 m1 p0 p1 p2 p3 p4 p5 p6 p7 p8 p9 p10 p11 p12 => L_impl_OutsideFaces_8 N P_impl_IsHeap P_Heap_box P_box_has P_Heap_enclosed P_impl_beyond P_Heap_isBare P_set_has P_box_index m0 m1 p0 p1 p2 p3 p4 p5 p6 p7 p8 p9 p10 p11 p12)
theorem h_impl_OutsideFaces_8 : l_impl_OutsideFaces_8 = fun m0 m1 p0 p1 p2 p3 p4 p5 p6 p7 p8 p9 p10 p11 p12 => L_impl_OutsideFaces_8 N P_impl_IsHeap P_Heap_box P_box_has P_Heap_enclosed P_impl_beyond P_Heap_isBare P_set_has P_box_index m0 m1 p0 p1 p2 p3 p4 p5 p6 p7 p8 p9 p10 p11 p12 := hid_eq _
theorem p_impl_OutsideFaces (a0 : D_Heap) : P_impl_OutsideFaces (a0, ()) = 
 Option.bind (P_impl_IsHeap (a0, ())) fun r0 =>
 bif !r0.1 then
 some (0, false, ())
 else
 Option.bind (P_Heap_enclosed (a0, ())) fun r2 =>
 l_impl_OutsideFaces_5 N a0.1 a0.2.1 a0.2.2.1 a0.2.2.2.1 0 r2.1 a0.2.2.2.1 (List.length a0.2.2.2.1 : Int) 0 := by
 rewrite [h_impl_OutsideFaces, h_impl_OutsideFaces_5]
 exact e_impl_OutsideFaces N P_impl_IsHeap P_Heap_box P_box_has P_Heap_enclosed P_impl_beyond P_Heap_isBare P_set_has P_box_index a0
theorem q_impl_OutsideFaces_5 (m0 : Nat) (p0 p1 p2 : Int) (p3 : List D_A3) (p4 p5 : Int) (p6 : List D_A3) (p7 p8 : Int) : l_impl_OutsideFaces_5 (m0 + 1) p0 p1 p2 p3 p4 p5 p6 p7 p8 = 
 bif decide (p8 < p7) then
 bif inB p8 (List.length p6) then
 l_impl_OutsideFaces_8 m0 N p0 p1 p2 p3 (((nth T_A3 p6 p8)).1) ((((nth T_A3 p6 p8)).2).1) (((((nth T_A3 p6 p8)).2).2).1) p4 p5 p6 p7 p8 0
 else none
 else
 some (p4, true, ()) := by
 rewrite [h_impl_OutsideFaces_5, h_impl_OutsideFaces_8]
 exact e_impl_OutsideFaces_5 N P_impl_IsHeap P_Heap_box P_box_has P_Heap_enclosed P_impl_beyond P_Heap_isBare P_set_has P_box_index m0 p0 p1 p2 p3 p4 p5 p6 p7 p8
theorem q_impl_OutsideFaces_8 (m0 m1 : Nat) (p0 p1 p2 : Int) (p3 : List D_A3) (p4 p5 : Int) (p6 p7 p8 : Int) (p9 : List D_A3) (p10 p11 p12 : Int) : l_impl_OutsideFaces_8 m0 (m1 + 1) p0 p1 p2 p3 p4 p5 p6 p7 p8 p9 p10 p11 p12 = 
 bif decide (p12 < 6) then
 Option.bind (P_impl_beyond ((p4, (p5, (p6, ()))), p12, ())) fun r1 =>
 Option.bind (P_Heap_isBare ((p0, (p1, (p2, (p3, ())))), r1.1, ())) fun r2 =>
 bif r2.1 then
 Option.bind (P_Heap_box ((p0, (p1, (p2, (p3, ())))), ())) fun r4 =>
 Option.bind (P_box_has (r4.1, r1.1, ())) fun r5 =>
 bif !r5.1 then
 l_impl_OutsideFaces_8 m0 m1 p0 p1 p2 p3 p4 p5 p6 (IntKind.wrap .i64 (p7 + 1)) p8 p9 p10 p11 (IntKind.wrap .i64 (p12 + 1))
 else
 Option.bind (P_Heap_box ((p0, (p1, (p2, (p3, ())))), ())) fun r7 =>
 Option.bind (P_box_index (r7.1, r1.1, ())) fun r8 =>
 Option.bind (P_set_has (p8, r8.1, ())) fun r9 =>
 bif !r9.1 then
 l_impl_OutsideFaces_8 m0 m1 p0 p1 p2 p3 p4 p5 p6 (IntKind.wrap .i64 (p7 + 1)) p8 p9 p10 p11 (IntKind.wrap .i64 (p12 + 1))
 else
 l_impl_OutsideFaces_8 m0 m1 p0 p1 p2 p3 p4 p5 p6 p7 p8 p9 p10 p11 (IntKind.wrap .i64 (p12 + 1))
 else
 l_impl_OutsideFaces_8 m0 m1 p0 p1 p2 p3 p4 p5 p6 p7 p8 p9 p10 p11 (IntKind.wrap .i64 (p12 + 1))
 else
 l_impl_OutsideFaces_5 m0 p0 p1 p2 p3 p7 p8 p9 p10 (IntKind.wrap .i64 (p11 + 1)) := by
 rewrite [h_impl_OutsideFaces_5, h_impl_OutsideFaces_8]
 exact e_impl_OutsideFaces_8 N P_impl_IsHeap P_Heap_box P_box_has P_Heap_enclosed P_impl_beyond P_Heap_isBare P_set_has P_box_index m0 m1 p0 p1 p2 p3 p4 p5 p6 p7 p8 p9 p10 p11 p12
end Go.VI
