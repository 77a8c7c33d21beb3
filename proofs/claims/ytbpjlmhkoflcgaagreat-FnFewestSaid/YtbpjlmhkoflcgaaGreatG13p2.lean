/- What the functions of the seat compute: part 2. -/
import Derived.Test.YtbpjlmhkoflcgaaGreatG13p1
namespace Go.VI
open Go.Proofs
set_option maxRecDepth 100000
abbrev As_ak : List ATy := [.data true T_Shadow, .data false (.int .i64)]
abbrev R_ak : List (Bool × Ty) := [(true, T_Shadow), (false, .bool)]
abbrev M_ak : List RMode := [.own 3, .own 3, .own 3]
abbrev Ft_ak : Type := D_Shadow × Int × Unit → Option (D_Shadow × Bool × Unit)
noncomputable def X_ak : Ctx := { types := TT, globals := [], con := [(40, C_ao), (46, C_ae), (47, C_br), (63, C_cg), (64, C_b2), (65, C_a1), (66, C_b6), (41, C_b1), (41, C_b3), (41, C_cm)], keep := [(6, ⟨[.box 2, .box 4, .box 6, .box 7, .tmp 1, .tmp 2, .tmp 4, .tmp 6, .tmp 7, .tmp 42, .tmp 43], []⟩), (10, ⟨[.box 2, .box 4, .box 6, .box 7, .box 9, .tmp 1, .tmp 2, .tmp 4, .tmp 6, .tmp 7, .tmp 9, .tmp 42, .tmp 43, .tmp 49], []⟩)], results := [.cell 4 35, .tmp 5], ntmps := 75, n := N }
noncomputable def B_ak : Code := (Tryz.f21.body).getD .skip
noncomputable def L_ak_6 (m0 : Nat) (p0 p1 p2 : Int) (p3 p4 p5 : List Int) (p6 p7 p8 : Int) (p9 p10 p11 : List Int) (p12 p13 p14 p15 p16 p17 : Int) (p18 p19 p20 : List Int) (p21 p22 p23 : Int) : Option (denL R_ak) := loopF X_ak B_ak R_ak M_ak 6 [m0] [(.ver, .num 1), (.box 2, .box 0 false [.int .i64 p0, .int .i64 p1, .int .i64 p2, .imm (.int .i64) p3 (some 3), .imm (.int .i64) p4 (some 4), .imm (.int .i64) p5 (some 5)]), (.box 4, .box 0 false [.int .i64 p6, .int .i64 p7, .int .i64 p8, .own 3 (.int .i64) 0 p9, .own 3 (.int .i64) 0 p10, .own 3 (.int .i64) 0 p11]), (.box 6, .box 0 false [.int .i64 p12, .int .i64 p13, .int .i64 p14]), (.box 7, .box 0 false [.int .i64 p15, .int .i64 p16, .int .i64 p17, .own 3 (.int .i64) 0 p18, .own 3 (.int .i64) 0 p19, .own 3 (.int .i64) 0 p20]), (.tmp 1, .val false [.int .i64 p21]), (.tmp 2, .val false [.addr 2 0 0]), (.tmp 4, .val false [.addr 4 0 0]), (.tmp 6, .val false [.addr 6 0 0]), (.tmp 7, .val false [.addr 7 0 0]), (.tmp 42, .val false [.int .i64 p22]), (.tmp 43, .val false [.int .i64 p23])]
noncomputable def L_ak_10 (m0 m1 : Nat) (p0 p1 p2 : Int) (p3 p4 p5 : List Int) (p6 p7 p8 : Int) (p9 p10 p11 : List Int) (p12 p13 p14 p15 p16 p17 : Int) (p18 p19 p20 : List Int) (p21 p22 p23 p24 p25 p26 p27 : Int) : Option (denL R_ak) := loopF X_ak B_ak R_ak M_ak 10 [m0, m1] [(.ver, .num 1), (.box 2, .box 0 false [.int .i64 p0, .int .i64 p1, .int .i64 p2, .imm (.int .i64) p3 (some 3), .imm (.int .i64) p4 (some 4), .imm (.int .i64) p5 (some 5)]), (.box 4, .box 0 false [.int .i64 p6, .int .i64 p7, .int .i64 p8, .own 3 (.int .i64) 0 p9, .own 3 (.int .i64) 0 p10, .own 3 (.int .i64) 0 p11]), (.box 6, .box 0 false [.int .i64 p12, .int .i64 p13, .int .i64 p14]), (.box 7, .box 0 false [.int .i64 p15, .int .i64 p16, .int .i64 p17, .own 3 (.int .i64) 0 p18, .own 3 (.int .i64) 0 p19, .own 3 (.int .i64) 0 p20]), (.box 9, .box 0 false [.int .i64 p21, .int .i64 p22, .int .i64 p23]), (.tmp 1, .val false [.int .i64 p24]), (.tmp 2, .val false [.addr 2 0 0]), (.tmp 4, .val false [.addr 4 0 0]), (.tmp 6, .val false [.addr 6 0 0]), (.tmp 7, .val false [.addr 7 0 0]), (.tmp 9, .val false [.addr 9 0 0]), (.tmp 42, .val false [.int .i64 p25]), (.tmp 43, .val false [.int .i64 p26]), (.tmp 49, .val false [.int .i64 p27])]
noncomputable def P_ak : Ft_ak := hid (runF X_ak B_ak As_ak R_ak M_ak)
theorem h_ak : P_ak = runF X_ak B_ak As_ak R_ak M_ak := hid_eq _
noncomputable def C_ak : Contract := ⟨As_ak, R_ak, M_ak, P_ak⟩
theorem s_ak : Sound Tryz.prog GG 21 C_ak := by
  unfold C_ak; rw [h_ak]
  exact mkS Tryz.f21 ⟨s_ao, s_ae, s_br, s_cg, s_b2, s_a1, s_b6, s_b1, s_b3, s_cm, trivial⟩ trivial
noncomputable def l_ak_6 := hid (L_ak_6)
theorem h_ak_6 : l_ak_6 = L_ak_6 := hid_eq _
noncomputable def l_ak_10 := hid (L_ak_10)
theorem h_ak_10 : l_ak_10 = L_ak_10 := hid_eq _
theorem p_ak (a0 : D_Shadow) (a1 : Int) : P_ak (a0, a1, ()) =
  Option.bind (P_ao (a0, ())) fun r0 =>
  bif !r0.1 then
    some ((0, (0, (0, (([] : List Int), (([] : List Int), (([] : List Int), ())))))), false, ())
  else
    Option.bind (P_cg (a1, ())) fun r2 =>
    bif !r2.1 then
      some ((0, (0, (0, (([] : List Int), (([] : List Int), (([] : List Int), ())))))), false, ())
    else
      Option.bind (P_ae (a0, ())) fun r4 =>
      bif (decide ((0 : Int) ≤ (List.length a0.2.2.2.1 : Int)) && decide (((List.length a0.2.2.2.1 : Int) : Int) ≤ (List.length a0.2.2.2.1 : Int)) && decide (((List.length a0.2.2.2.1 : Int) : Int) * (8 : Nat) ≤ 140737488355328) && decide (((List.length a0.2.2.2.1 : Int) : Int) ≤ 140737488355328)) then
        bif (decide ((0 : Int) ≤ (List.length a0.2.2.2.2.1 : Int)) && decide (((List.length a0.2.2.2.2.1 : Int) : Int) ≤ (List.length a0.2.2.2.2.1 : Int)) && decide (((List.length a0.2.2.2.2.1 : Int) : Int) * (8 : Nat) ≤ 140737488355328) && decide (((List.length a0.2.2.2.2.1 : Int) : Int) ≤ 140737488355328)) then
          bif (decide ((0 : Int) ≤ (List.length a0.2.2.2.2.2.1 : Int)) && decide (((List.length a0.2.2.2.2.2.1 : Int) : Int) ≤ (List.length a0.2.2.2.2.2.1 : Int)) && decide (((List.length a0.2.2.2.2.2.1 : Int) : Int) * (8 : Nat) ≤ 140737488355328) && decide (((List.length a0.2.2.2.2.2.1 : Int) : Int) ≤ 140737488355328)) then
            Option.bind (P_br (r4.1, ())) fun r8 =>
            l_ak_6 N a0.1 a0.2.1 a0.2.2.1 a0.2.2.2.1 a0.2.2.2.2.1 a0.2.2.2.2.2.1 0 0 0 ([] : List Int) ([] : List Int) ([] : List Int) r4.1.1 r4.1.2.1 r4.1.2.2.1 a0.1 a0.2.1 a0.2.2.1 (List.replicate (Int.toNat (List.length a0.2.2.2.1 : Int)) (Ty.dflt ((.int .i64) : Ty))) (List.replicate (Int.toNat (List.length a0.2.2.2.2.1 : Int)) (Ty.dflt ((.int .i64) : Ty))) (List.replicate (Int.toNat (List.length a0.2.2.2.2.2.1 : Int)) (Ty.dflt ((.int .i64) : Ty))) a1 r8.1 0
          else none
        else none
      else none := by
  rewrite [h_ak, h_ak_6]
  kernel_rfl
theorem q_ak_6 (m0 : Nat) (p0 p1 p2 : Int) (p3 p4 p5 : List Int) (p6 p7 p8 : Int) (p9 p10 p11 : List Int) (p12 p13 p14 p15 p16 p17 : Int) (p18 p19 p20 : List Int) (p21 p22 p23 : Int) : l_ak_6 (m0 + 1) p0 p1 p2 p3 p4 p5 p6 p7 p8 p9 p10 p11 p12 p13 p14 p15 p16 p17 p18 p19 p20 p21 p22 p23 =
  bif decide (p23 < p22) then
    Option.bind (P_b2 ((p12, (p13, (p14, ()))), p23, ())) fun r1 =>
    l_ak_10 m0 N p0 p1 p2 p3 p4 p5 p6 p7 p8 p9 p10 p11 p12 p13 p14 p15 p16 p17 p18 p19 p20 r1.1.1 r1.1.2.1 r1.1.2.2.1 p21 p22 p23 0
  else
    some ((p15, (p16, (p17, (p18, (p19, (p20, ())))))), true, ()) := by
  rewrite [h_ak_6, h_ak_10]
  kernel_rfl
theorem q_ak_10 (m0 m1 : Nat) (p0 p1 p2 : Int) (p3 p4 p5 : List Int) (p6 p7 p8 : Int) (p9 p10 p11 : List Int) (p12 p13 p14 p15 p16 p17 : Int) (p18 p19 p20 : List Int) (p21 p22 p23 p24 p25 p26 p27 : Int) : l_ak_10 m0 (m1 + 1) p0 p1 p2 p3 p4 p5 p6 p7 p8 p9 p10 p11 p12 p13 p14 p15 p16 p17 p18 p19 p20 p21 p22 p23 p24 p25 p26 p27 =
  bif decide (p27 < 3) then
    bif Option.isSome (P_b1 ((p15, (p16, (p17, (p18, (p19, (p20, ())))))), p27, ())) then
      Option.bind (P_b1 ((p15, (p16, (p17, (p18, (p19, (p20, ())))))), p27, ())) fun _ =>
      Option.bind (P_b6 ((p12, (p13, (p14, ()))), (p21, (p22, (p23, ()))), p24, ())) fun r3 =>
      Option.bind (P_a1 ((p12, (p13, (p14, ()))), r3.1, p27, ())) fun r4 =>
      bif Option.isSome (P_b1 ((p0, (p1, (p2, (p3, (p4, (p5, ())))))), p27, ())) then
        Option.bind (P_b1 ((p0, (p1, (p2, (p3, (p4, (p5, ())))))), p27, ())) fun _ =>
        Option.bind (P_a1 ((p12, (p13, (p14, ()))), (p21, (p22, (p23, ()))), p27, ())) fun r7 =>
        bif inB r7.1 (List.length p5) then
          bif inB r4.1 (List.length p20) then
            l_ak_10 m0 m1 p0 p1 p2 p3 p4 p5 p6 p7 p8 p9 p10 p11 p12 p13 p14 p15 p16 p17 p18 p19 (List.set p20 (Int.toNat r4.1) (nth ((.int .i64) : Ty) p5 r7.1)) p21 p22 p23 p24 p25 p26 (IntKind.wrap .i64 (p27 + 1))
          else none
        else none
      else
        bif Option.isSome (P_b3 ((p0, (p1, (p2, (p3, (p4, (p5, ())))))), p27, ())) then
          Option.bind (P_b3 ((p0, (p1, (p2, (p3, (p4, (p5, ())))))), p27, ())) fun _ =>
          Option.bind (P_a1 ((p12, (p13, (p14, ()))), (p21, (p22, (p23, ()))), p27, ())) fun r8 =>
          bif inB r8.1 (List.length p4) then
            bif inB r4.1 (List.length p20) then
              l_ak_10 m0 m1 p0 p1 p2 p3 p4 p5 p6 p7 p8 p9 p10 p11 p12 p13 p14 p15 p16 p17 p18 p19 (List.set p20 (Int.toNat r4.1) (nth ((.int .i64) : Ty) p4 r8.1)) p21 p22 p23 p24 p25 p26 (IntKind.wrap .i64 (p27 + 1))
            else none
          else none
        else
          Option.bind (P_cm ((p0, (p1, (p2, (p3, (p4, (p5, ())))))), p27, ())) fun _ =>
          Option.bind (P_a1 ((p12, (p13, (p14, ()))), (p21, (p22, (p23, ()))), p27, ())) fun r8 =>
          bif inB r8.1 (List.length p3) then
            bif inB r4.1 (List.length p20) then
              l_ak_10 m0 m1 p0 p1 p2 p3 p4 p5 p6 p7 p8 p9 p10 p11 p12 p13 p14 p15 p16 p17 p18 p19 (List.set p20 (Int.toNat r4.1) (nth ((.int .i64) : Ty) p3 r8.1)) p21 p22 p23 p24 p25 p26 (IntKind.wrap .i64 (p27 + 1))
            else none
          else none
    else
      bif Option.isSome (P_b3 ((p15, (p16, (p17, (p18, (p19, (p20, ())))))), p27, ())) then
        Option.bind (P_b3 ((p15, (p16, (p17, (p18, (p19, (p20, ())))))), p27, ())) fun _ =>
        Option.bind (P_b6 ((p12, (p13, (p14, ()))), (p21, (p22, (p23, ()))), p24, ())) fun r4 =>
        Option.bind (P_a1 ((p12, (p13, (p14, ()))), r4.1, p27, ())) fun r5 =>
        bif Option.isSome (P_b1 ((p0, (p1, (p2, (p3, (p4, (p5, ())))))), p27, ())) then
          Option.bind (P_b1 ((p0, (p1, (p2, (p3, (p4, (p5, ())))))), p27, ())) fun _ =>
          Option.bind (P_a1 ((p12, (p13, (p14, ()))), (p21, (p22, (p23, ()))), p27, ())) fun r8 =>
          bif inB r8.1 (List.length p5) then
            bif inB r5.1 (List.length p19) then
              l_ak_10 m0 m1 p0 p1 p2 p3 p4 p5 p6 p7 p8 p9 p10 p11 p12 p13 p14 p15 p16 p17 p18 (List.set p19 (Int.toNat r5.1) (nth ((.int .i64) : Ty) p5 r8.1)) p20 p21 p22 p23 p24 p25 p26 (IntKind.wrap .i64 (p27 + 1))
            else none
          else none
        else
          bif Option.isSome (P_b3 ((p0, (p1, (p2, (p3, (p4, (p5, ())))))), p27, ())) then
            Option.bind (P_b3 ((p0, (p1, (p2, (p3, (p4, (p5, ())))))), p27, ())) fun _ =>
            Option.bind (P_a1 ((p12, (p13, (p14, ()))), (p21, (p22, (p23, ()))), p27, ())) fun r9 =>
            bif inB r9.1 (List.length p4) then
              bif inB r5.1 (List.length p19) then
                l_ak_10 m0 m1 p0 p1 p2 p3 p4 p5 p6 p7 p8 p9 p10 p11 p12 p13 p14 p15 p16 p17 p18 (List.set p19 (Int.toNat r5.1) (nth ((.int .i64) : Ty) p4 r9.1)) p20 p21 p22 p23 p24 p25 p26 (IntKind.wrap .i64 (p27 + 1))
              else none
            else none
          else
            Option.bind (P_cm ((p0, (p1, (p2, (p3, (p4, (p5, ())))))), p27, ())) fun _ =>
            Option.bind (P_a1 ((p12, (p13, (p14, ()))), (p21, (p22, (p23, ()))), p27, ())) fun r9 =>
            bif inB r9.1 (List.length p3) then
              bif inB r5.1 (List.length p19) then
                l_ak_10 m0 m1 p0 p1 p2 p3 p4 p5 p6 p7 p8 p9 p10 p11 p12 p13 p14 p15 p16 p17 p18 (List.set p19 (Int.toNat r5.1) (nth ((.int .i64) : Ty) p3 r9.1)) p20 p21 p22 p23 p24 p25 p26 (IntKind.wrap .i64 (p27 + 1))
              else none
            else none
      else
        Option.bind (P_cm ((p15, (p16, (p17, (p18, (p19, (p20, ())))))), p27, ())) fun _ =>
        Option.bind (P_b6 ((p12, (p13, (p14, ()))), (p21, (p22, (p23, ()))), p24, ())) fun r4 =>
        Option.bind (P_a1 ((p12, (p13, (p14, ()))), r4.1, p27, ())) fun r5 =>
        bif Option.isSome (P_b1 ((p0, (p1, (p2, (p3, (p4, (p5, ())))))), p27, ())) then
          Option.bind (P_b1 ((p0, (p1, (p2, (p3, (p4, (p5, ())))))), p27, ())) fun _ =>
          Option.bind (P_a1 ((p12, (p13, (p14, ()))), (p21, (p22, (p23, ()))), p27, ())) fun r8 =>
          bif inB r8.1 (List.length p5) then
            bif inB r5.1 (List.length p18) then
              l_ak_10 m0 m1 p0 p1 p2 p3 p4 p5 p6 p7 p8 p9 p10 p11 p12 p13 p14 p15 p16 p17 (List.set p18 (Int.toNat r5.1) (nth ((.int .i64) : Ty) p5 r8.1)) p19 p20 p21 p22 p23 p24 p25 p26 (IntKind.wrap .i64 (p27 + 1))
            else none
          else none
        else
          bif Option.isSome (P_b3 ((p0, (p1, (p2, (p3, (p4, (p5, ())))))), p27, ())) then
            Option.bind (P_b3 ((p0, (p1, (p2, (p3, (p4, (p5, ())))))), p27, ())) fun _ =>
            Option.bind (P_a1 ((p12, (p13, (p14, ()))), (p21, (p22, (p23, ()))), p27, ())) fun r9 =>
            bif inB r9.1 (List.length p4) then
              bif inB r5.1 (List.length p18) then
                l_ak_10 m0 m1 p0 p1 p2 p3 p4 p5 p6 p7 p8 p9 p10 p11 p12 p13 p14 p15 p16 p17 (List.set p18 (Int.toNat r5.1) (nth ((.int .i64) : Ty) p4 r9.1)) p19 p20 p21 p22 p23 p24 p25 p26 (IntKind.wrap .i64 (p27 + 1))
              else none
            else none
          else
            Option.bind (P_cm ((p0, (p1, (p2, (p3, (p4, (p5, ())))))), p27, ())) fun _ =>
            Option.bind (P_a1 ((p12, (p13, (p14, ()))), (p21, (p22, (p23, ()))), p27, ())) fun r9 =>
            bif inB r9.1 (List.length p3) then
              bif inB r5.1 (List.length p18) then
                l_ak_10 m0 m1 p0 p1 p2 p3 p4 p5 p6 p7 p8 p9 p10 p11 p12 p13 p14 p15 p16 p17 (List.set p18 (Int.toNat r5.1) (nth ((.int .i64) : Ty) p3 r9.1)) p19 p20 p21 p22 p23 p24 p25 p26 (IntKind.wrap .i64 (p27 + 1))
              else none
            else none
  else
    l_ak_6 m0 p0 p1 p2 p3 p4 p5 p6 p7 p8 p9 p10 p11 p12 p13 p14 p15 p16 p17 p18 p19 p20 p24 p25 (IntKind.wrap .i64 (p26 + 1)) := by
  rewrite [h_ak_6, h_ak_10]
  kernel_rfl
abbrev As_aj : List ATy := [.data false (.sl (.int .i64)), .data false (.int .i64), .data false (.int .i64), .data false .bool]
abbrev R_aj : List (Bool × Ty) := [(false, (.sl (.int .i64)))]
abbrev M_aj : List RMode := [.own 3]
abbrev Ft_aj : Type := (List Int) × Int × Int × Bool × Unit → Option ((List Int) × Unit)
noncomputable def X_aj : Ctx := { types := TT, globals := [], con := [], keep := [(3, ⟨[.tmp 0, .tmp 1, .tmp 2, .tmp 3, .tmp 9, .tmp 10], []⟩), (6, ⟨[.tmp 0, .tmp 1, .tmp 2, .tmp 3, .tmp 9, .tmp 10, .tmp 11], []⟩)], results := [.tmp 8], ntmps := 48, n := N }
noncomputable def B_aj : Code := (Tryz.f69.body).getD .skip
noncomputable def L_aj_3 (m0 : Nat) (p0 : List Int) (p1 p2 : Int) (p3 : Bool) (p4 : List Int) (p5 : Int) : Option (denL R_aj) := loopF X_aj B_aj R_aj M_aj 3 [m0] [(.ver, .num 1), (.tmp 0, .val false [.imm (.int .i64) p0 (some 0)]), (.tmp 1, .val false [.int .i64 p1]), (.tmp 2, .val false [.int .i64 p2]), (.tmp 3, .val false [.bool p3]), (.tmp 9, .val false [.own 3 (.int .i64) 0 p4]), (.tmp 10, .val false [.int .i64 p5])]
noncomputable def L_aj_6 (m0 m1 : Nat) (p0 : List Int) (p1 p2 : Int) (p3 : Bool) (p4 : List Int) (p5 p6 : Int) : Option (denL R_aj) := loopF X_aj B_aj R_aj M_aj 6 [m0, m1] [(.ver, .num 1), (.tmp 0, .val false [.imm (.int .i64) p0 (some 0)]), (.tmp 1, .val false [.int .i64 p1]), (.tmp 2, .val false [.int .i64 p2]), (.tmp 3, .val false [.bool p3]), (.tmp 9, .val false [.own 3 (.int .i64) 0 p4]), (.tmp 10, .val false [.int .i64 p5]), (.tmp 11, .val false [.int .i64 p6])]
noncomputable def P_aj : Ft_aj := hid (runF X_aj B_aj As_aj R_aj M_aj)
theorem h_aj : P_aj = runF X_aj B_aj As_aj R_aj M_aj := hid_eq _
noncomputable def C_aj : Contract := ⟨As_aj, R_aj, M_aj, P_aj⟩
theorem s_aj : Sound Tryz.prog GG 69 C_aj := by
  unfold C_aj; rw [h_aj]
  exact mkS Tryz.f69 trivial trivial
noncomputable def l_aj_3 := hid (L_aj_3)
theorem h_aj_3 : l_aj_3 = L_aj_3 := hid_eq _
noncomputable def l_aj_6 := hid (L_aj_6)
theorem h_aj_6 : l_aj_6 = L_aj_6 := hid_eq _
theorem p_aj (a0 : List Int) (a1 : Int) (a2 : Int) (a3 : Bool) : P_aj (a0, a1, a2, a3, ()) =
  l_aj_3 N a0 a1 a2 a3 ([] : List Int) 0 := by
  rewrite [h_aj, h_aj_3]
  kernel_rfl
theorem q_aj_3 (m0 : Nat) (p0 : List Int) (p1 p2 : Int) (p3 : Bool) (p4 : List Int) (p5 : Int) : l_aj_3 (m0 + 1) p0 p1 p2 p3 p4 p5 =
  bif decide (p5 < p1) then
    l_aj_6 m0 N p0 p1 p2 p3 p4 p5 0
  else
    some (p4, ()) := by
  rewrite [h_aj_3, h_aj_6]
  kernel_rfl
theorem q_aj_6 (m0 m1 : Nat) (p0 : List Int) (p1 p2 : Int) (p3 : Bool) (p4 : List Int) (p5 p6 : Int) : l_aj_6 m0 (m1 + 1) p0 p1 p2 p3 p4 p5 p6 =
  bif decide (p6 < p2) then
    bif p3 then
      bif inB (IntKind.wrap .i64 ((IntKind.wrap .i64 ((IntKind.wrap .i64 ((IntKind.wrap .i64 (p1 - 1)) - p5)) * p2)) + p6)) (List.length p0) then
        bif (decide (((List.length p4) + (List.length ([(nth ((.int .i64) : Ty) p0 (IntKind.wrap .i64 ((IntKind.wrap .i64 ((IntKind.wrap .i64 ((IntKind.wrap .i64 (p1 - 1)) - p5)) * p2)) + p6)))] : List Int))) * 8 ≤ 140737488355328) && decide (((List.length p4) + (List.length ([(nth ((.int .i64) : Ty) p0 (IntKind.wrap .i64 ((IntKind.wrap .i64 ((IntKind.wrap .i64 ((IntKind.wrap .i64 (p1 - 1)) - p5)) * p2)) + p6)))] : List Int))) ≤ 140737488355328)) then
          l_aj_6 m0 m1 p0 p1 p2 p3 (p4 ++ ([(nth ((.int .i64) : Ty) p0 (IntKind.wrap .i64 ((IntKind.wrap .i64 ((IntKind.wrap .i64 ((IntKind.wrap .i64 (p1 - 1)) - p5)) * p2)) + p6)))] : List Int)) p5 (IntKind.wrap .i64 (p6 + 1))
        else none
      else none
    else
      bif inB (IntKind.wrap .i64 ((IntKind.wrap .i64 (p5 * p2)) + (IntKind.wrap .i64 ((IntKind.wrap .i64 (p2 - 1)) - p6)))) (List.length p0) then
        bif (decide (((List.length p4) + (List.length ([(nth ((.int .i64) : Ty) p0 (IntKind.wrap .i64 ((IntKind.wrap .i64 (p5 * p2)) + (IntKind.wrap .i64 ((IntKind.wrap .i64 (p2 - 1)) - p6)))))] : List Int))) * 8 ≤ 140737488355328) && decide (((List.length p4) + (List.length ([(nth ((.int .i64) : Ty) p0 (IntKind.wrap .i64 ((IntKind.wrap .i64 (p5 * p2)) + (IntKind.wrap .i64 ((IntKind.wrap .i64 (p2 - 1)) - p6)))))] : List Int))) ≤ 140737488355328)) then
          l_aj_6 m0 m1 p0 p1 p2 p3 (p4 ++ ([(nth ((.int .i64) : Ty) p0 (IntKind.wrap .i64 ((IntKind.wrap .i64 (p5 * p2)) + (IntKind.wrap .i64 ((IntKind.wrap .i64 (p2 - 1)) - p6)))))] : List Int)) p5 (IntKind.wrap .i64 (p6 + 1))
        else none
      else none
  else
    l_aj_3 m0 p0 p1 p2 p3 p4 (IntKind.wrap .i64 (p5 + 1)) := by
  rewrite [h_aj_3, h_aj_6]
  kernel_rfl
abbrev As_c3 : List ATy := [.data true T_Shadow, .data false (.int .i64)]
abbrev R_c3 : List (Bool × Ty) := [(true, T_Shadow), (false, .bool)]
abbrev M_c3 : List RMode := [.own 3, .own 3, .own 3]
abbrev Ft_c3 : Type := D_Shadow × Int × Unit → Option (D_Shadow × Bool × Unit)
noncomputable def X_c3 : Ctx := { types := TT, globals := [], con := [(57, C_b9), (67, C_bn), (68, C_b7), (69, C_aj)], keep := [], results := [.cell 4 35, .tmp 5], ntmps := 69, n := N }
noncomputable def B_c3 : Code := (Tryz.f22.body).getD .skip
noncomputable def P_c3 : Ft_c3 := hid (runF X_c3 B_c3 As_c3 R_c3 M_c3)
theorem h_c3 : P_c3 = runF X_c3 B_c3 As_c3 R_c3 M_c3 := hid_eq _
noncomputable def C_c3 : Contract := ⟨As_c3, R_c3, M_c3, P_c3⟩
theorem s_c3 : Sound Tryz.prog GG 22 C_c3 := by
  unfold C_c3; rw [h_c3]
  exact mkS Tryz.f22 ⟨s_b9, s_bn, s_b7, s_aj, trivial⟩ trivial
theorem p_c3 (a0 : D_Shadow) (a1 : Int) : P_c3 (a0, a1, ()) =
  Option.bind (P_b9 (a0, ())) fun r0 =>
  bif !r0.1 then
    some ((0, (0, (0, (([] : List Int), (([] : List Int), (([] : List Int), ())))))), false, ())
  else
    Option.bind (P_bn (a1, 0, 2, ())) fun r2 =>
    bif !r2.1 then
      some ((0, (0, (0, (([] : List Int), (([] : List Int), (([] : List Int), ())))))), false, ())
    else
      Option.bind (P_b7 (a0.2.2.2.1, ())) fun r4 =>
      Option.bind (P_b7 (a0.2.2.2.2.1, ())) fun r5 =>
      Option.bind (P_b7 (a0.2.2.2.2.2.1, ())) fun r6 =>
      bif decide (a1 < 2) then
        Option.bind (P_aj (a0.2.2.2.1, a0.1, a0.2.1, decide (a1 = 0), ())) fun r8 =>
        bif !decide (a1 = 1) then
          Option.bind (P_aj (a0.2.2.2.2.1, a0.1, a0.2.2.1, decide (a1 = 0), ())) fun r10 =>
          bif decide (a1 > 0) then
            Option.bind (P_aj (a0.2.2.2.2.2.1, a0.2.1, a0.2.2.1, decide (a1 = 1), ())) fun r12 =>
            some ((a0.1, (a0.2.1, (a0.2.2.1, (r8.1, (r10.1, (r12.1, ())))))), true, ())
          else
            some ((a0.1, (a0.2.1, (a0.2.2.1, (r8.1, (r10.1, (r6.1, ())))))), true, ())
        else
          bif decide (a1 > 0) then
            Option.bind (P_aj (a0.2.2.2.2.2.1, a0.2.1, a0.2.2.1, decide (a1 = 1), ())) fun r11 =>
            some ((a0.1, (a0.2.1, (a0.2.2.1, (r8.1, (r5.1, (r11.1, ())))))), true, ())
          else
            some ((a0.1, (a0.2.1, (a0.2.2.1, (r8.1, (r5.1, (r6.1, ())))))), true, ())
      else
        bif !decide (a1 = 1) then
          Option.bind (P_aj (a0.2.2.2.2.1, a0.1, a0.2.2.1, decide (a1 = 0), ())) fun r9 =>
          bif decide (a1 > 0) then
            Option.bind (P_aj (a0.2.2.2.2.2.1, a0.2.1, a0.2.2.1, decide (a1 = 1), ())) fun r11 =>
            some ((a0.1, (a0.2.1, (a0.2.2.1, (r4.1, (r9.1, (r11.1, ())))))), true, ())
          else
            some ((a0.1, (a0.2.1, (a0.2.2.1, (r4.1, (r9.1, (r6.1, ())))))), true, ())
        else
          bif decide (a1 > 0) then
            Option.bind (P_aj (a0.2.2.2.2.2.1, a0.2.1, a0.2.2.1, decide (a1 = 1), ())) fun r10 =>
            some ((a0.1, (a0.2.1, (a0.2.2.1, (r4.1, (r5.1, (r10.1, ())))))), true, ())
          else
            some ((a0.1, (a0.2.1, (a0.2.2.1, (r4.1, (r5.1, (r6.1, ())))))), true, ()) := by
  rewrite [h_c3]
  kernel_rfl
abbrev As_bm : List ATy := [.data false (.sl T_A3), .data false (.sl T_A3)]
abbrev R_bm : List (Bool × Ty) := [(false, .bool)]
abbrev M_bm : List RMode := []
abbrev Ft_bm : Type := (List D_A3) × (List D_A3) × Unit → Option (Bool × Unit)
noncomputable def X_bm : Ctx := { types := TT, globals := [], con := [], keep := [(4, ⟨[.tmp 0, .tmp 1, .tmp 5], []⟩)], results := [.tmp 4], ntmps := 26, n := N }
noncomputable def B_bm : Code := (Tryz.f70.body).getD .skip
noncomputable def L_bm_4 (m0 : Nat) (p0 p1 : List D_A3) (p2 : Int) : Option (denL R_bm) := loopF X_bm B_bm R_bm M_bm 4 [m0] [(.ver, .num 1), (.tmp 0, .val false [.imm T_A3 p0 (some 0)]), (.tmp 1, .val false [.imm T_A3 p1 (some 1)]), (.tmp 5, .val false [.int .i64 p2])]
noncomputable def P_bm : Ft_bm := hid (runF X_bm B_bm As_bm R_bm M_bm)
theorem h_bm : P_bm = runF X_bm B_bm As_bm R_bm M_bm := hid_eq _
noncomputable def C_bm : Contract := ⟨As_bm, R_bm, M_bm, P_bm⟩
theorem s_bm : Sound Tryz.prog GG 70 C_bm := by
  unfold C_bm; rw [h_bm]
  exact mkS Tryz.f70 trivial trivial
noncomputable def l_bm_4 := hid (L_bm_4)
theorem h_bm_4 : l_bm_4 = L_bm_4 := hid_eq _
theorem p_bm (a0 : List D_A3) (a1 : List D_A3) : P_bm (a0, a1, ()) =
  bif !decide ((List.length a0 : Int) = (List.length a1 : Int)) then
    some (false, ())
  else
    l_bm_4 N a0 a1 0 := by
  rewrite [h_bm, h_bm_4]
  kernel_rfl
theorem q_bm_4 (m0 : Nat) (p0 p1 : List D_A3) (p2 : Int) : l_bm_4 (m0 + 1) p0 p1 p2 =
  bif decide (p2 < (List.length p0 : Int)) then
    bif inB p2 (List.length p0) then
      bif inB p2 (List.length p1) then
        bif !(decide (((nth T_A3 p0 p2)).1 = ((nth T_A3 p1 p2)).1) && (decide ((((nth T_A3 p0 p2)).2).1 = (((nth T_A3 p1 p2)).2).1) && (decide (((((nth T_A3 p0 p2)).2).2).1 = ((((nth T_A3 p1 p2)).2).2).1) && true))) then
          some (false, ())
        else
          l_bm_4 m0 p0 p1 (IntKind.wrap .i64 (p2 + 1))
      else none
    else none
  else
    some (true, ()) := by
  rewrite [h_bm_4]
  kernel_rfl
abbrev As_c8 : List ATy := [.data true T_Heap, .data true T_Heap]
abbrev R_c8 : List (Bool × Ty) := [(false, .bool)]
abbrev M_c8 : List RMode := []
abbrev Ft_c8 : Type := D_Heap × D_Heap × Unit → Option (Bool × Unit)
noncomputable def X_c8 : Ctx := { types := TT, globals := [], con := [(70, C_bm)], keep := [], results := [.tmp 4], ntmps := 31, n := N }
noncomputable def B_c8 : Code := (Tryz.f23.body).getD .skip
noncomputable def P_c8 : Ft_c8 := hid (runF X_c8 B_c8 As_c8 R_c8 M_c8)
theorem h_c8 : P_c8 = runF X_c8 B_c8 As_c8 R_c8 M_c8 := hid_eq _
noncomputable def C_c8 : Contract := ⟨As_c8, R_c8, M_c8, P_c8⟩
theorem s_c8 : Sound Tryz.prog GG 23 C_c8 := by
  unfold C_c8; rw [h_c8]
  exact mkS Tryz.f23 ⟨s_bm, trivial⟩ trivial
theorem p_c8 (a0 : D_Heap) (a1 : D_Heap) : P_c8 (a0, a1, ()) =
  bif decide (a0.1 = a1.1) then
    bif decide (a0.2.1 = a1.2.1) then
      bif decide (a0.2.2.1 = a1.2.2.1) then
        Option.bind (P_bm (a0.2.2.2.1, a1.2.2.2.1, ())) fun r3 =>
        some (r3.1, ())
      else
        some (false, ())
    else
      some (false, ())
  else
    some (false, ()) := by
  rewrite [h_c8]
  kernel_rfl
abbrev As_bf : List ATy := [.data false (.sl (.int .i64)), .data false (.sl (.int .i64))]
abbrev R_bf : List (Bool × Ty) := [(false, .bool)]
abbrev M_bf : List RMode := []
abbrev Ft_bf : Type := (List Int) × (List Int) × Unit → Option (Bool × Unit)
noncomputable def X_bf : Ctx := { types := TT, globals := [], con := [], keep := [(4, ⟨[.tmp 0, .tmp 1, .tmp 5], []⟩)], results := [.tmp 4], ntmps := 26, n := N }
noncomputable def B_bf : Code := (Tryz.f71.body).getD .skip
noncomputable def L_bf_4 (m0 : Nat) (p0 p1 : List Int) (p2 : Int) : Option (denL R_bf) := loopF X_bf B_bf R_bf M_bf 4 [m0] [(.ver, .num 1), (.tmp 0, .val false [.imm (.int .i64) p0 (some 0)]), (.tmp 1, .val false [.imm (.int .i64) p1 (some 1)]), (.tmp 5, .val false [.int .i64 p2])]
noncomputable def P_bf : Ft_bf := hid (runF X_bf B_bf As_bf R_bf M_bf)
theorem h_bf : P_bf = runF X_bf B_bf As_bf R_bf M_bf := hid_eq _
noncomputable def C_bf : Contract := ⟨As_bf, R_bf, M_bf, P_bf⟩
theorem s_bf : Sound Tryz.prog GG 71 C_bf := by
  unfold C_bf; rw [h_bf]
  exact mkS Tryz.f71 trivial trivial
noncomputable def l_bf_4 := hid (L_bf_4)
theorem h_bf_4 : l_bf_4 = L_bf_4 := hid_eq _
theorem p_bf (a0 : List Int) (a1 : List Int) : P_bf (a0, a1, ()) =
  bif !decide ((List.length a0 : Int) = (List.length a1 : Int)) then
    some (false, ())
  else
    l_bf_4 N a0 a1 0 := by
  rewrite [h_bf, h_bf_4]
  kernel_rfl
theorem q_bf_4 (m0 : Nat) (p0 p1 : List Int) (p2 : Int) : l_bf_4 (m0 + 1) p0 p1 p2 =
  bif decide (p2 < (List.length p0 : Int)) then
    bif inB p2 (List.length p0) then
      bif inB p2 (List.length p1) then
        bif !decide ((nth ((.int .i64) : Ty) p0 p2) = (nth ((.int .i64) : Ty) p1 p2)) then
          some (false, ())
        else
          l_bf_4 m0 p0 p1 (IntKind.wrap .i64 (p2 + 1))
      else none
    else none
  else
    some (true, ()) := by
  rewrite [h_bf_4]
  kernel_rfl
abbrev As_cw : List ATy := [.data true T_Shadow, .data true T_Shadow]
abbrev R_cw : List (Bool × Ty) := [(false, .bool)]
abbrev M_cw : List RMode := []
abbrev Ft_cw : Type := D_Shadow × D_Shadow × Unit → Option (Bool × Unit)
noncomputable def X_cw : Ctx := { types := TT, globals := [], con := [(71, C_bf)], keep := [], results := [.tmp 4], ntmps := 45, n := N }
noncomputable def B_cw : Code := (Tryz.f24.body).getD .skip
noncomputable def P_cw : Ft_cw := hid (runF X_cw B_cw As_cw R_cw M_cw)
theorem h_cw : P_cw = runF X_cw B_cw As_cw R_cw M_cw := hid_eq _
noncomputable def C_cw : Contract := ⟨As_cw, R_cw, M_cw, P_cw⟩
theorem s_cw : Sound Tryz.prog GG 24 C_cw := by
  unfold C_cw; rw [h_cw]
  exact mkS Tryz.f24 ⟨s_bf, trivial⟩ trivial
theorem p_cw (a0 : D_Shadow) (a1 : D_Shadow) : P_cw (a0, a1, ()) =
  bif decide (a0.1 = a1.1) then
    bif decide (a0.2.1 = a1.2.1) then
      bif decide (a0.2.2.1 = a1.2.2.1) then
        Option.bind (P_bf (a0.2.2.2.1, a1.2.2.2.1, ())) fun r3 =>
        bif r3.1 then
          Option.bind (P_bf (a0.2.2.2.2.1, a1.2.2.2.2.1, ())) fun r5 =>
          bif r5.1 then
            Option.bind (P_bf (a0.2.2.2.2.2.1, a1.2.2.2.2.2.1, ())) fun r7 =>
            some (r7.1, ())
          else
            some (false, ())
        else
          some (false, ())
      else
        some (false, ())
    else
      some (false, ())
  else
    some (false, ()) := by
  rewrite [h_cw]
  kernel_rfl
abbrev As_bu : List ATy := [.data true T_Shadow]
abbrev R_bu : List (Bool × Ty) := [(true, T_Heap), (false, .bool)]
abbrev M_bu : List RMode := [.own 55]
abbrev Ft_bu : Type := D_Shadow × Unit → Option (D_Heap × Bool × Unit)
noncomputable def X_bu : Ctx := { types := TT, globals := [], con := [(46, C_ae), (49, C_bs), (52, C_bv), (72, C_b4)], keep := [], results := [.cell 2 26, .tmp 3], ntmps := 13, n := N }
noncomputable def B_bu : Code := (Tryz.f25.body).getD .skip
noncomputable def P_bu : Ft_bu := hid (runF X_bu B_bu As_bu R_bu M_bu)
theorem h_bu : P_bu = runF X_bu B_bu As_bu R_bu M_bu := hid_eq _
noncomputable def C_bu : Contract := ⟨As_bu, R_bu, M_bu, P_bu⟩
theorem s_bu : Sound Tryz.prog GG 25 C_bu := by
  unfold C_bu; rw [h_bu]
  exact mkS Tryz.f25 ⟨s_ae, s_bs, s_bv, s_b4, trivial⟩ trivial
theorem p_bu (a0 : D_Shadow) : P_bu (a0, ()) =
  Option.bind (P_b4 (a0, ())) fun r0 =>
  bif !r0.1 then
    some ((0, (0, (0, (([] : List D_A3), ())))), false, ())
  else
    Option.bind (P_ae (a0, ())) fun r2 =>
    Option.bind (P_bs (a0, ())) fun r3 =>
    Option.bind (P_bv (r2.1, r3.1, ())) fun r4 =>
    some (r4.1, true, ()) := by
  rewrite [h_bu]
  kernel_rfl
abbrev As_as : List ATy := [.data true T_Heap]
abbrev R_as : List (Bool × Ty) := [(true, T_A3)]
abbrev M_as : List RMode := []
abbrev Ft_as : Type := D_Heap × Unit → Option (D_A3 × Unit)
noncomputable def X_as : Ctx := { types := TT, globals := [], con := [], keep := [], results := [.cell 2 56], ntmps := 10, n := N }
noncomputable def B_as : Code := (Tryz.f34.body).getD .skip
noncomputable def P_as : Ft_as := hid (runF X_as B_as As_as R_as M_as)
theorem h_as : P_as = runF X_as B_as As_as R_as M_as := hid_eq _
noncomputable def C_as : Contract := ⟨As_as, R_as, M_as, P_as⟩
theorem s_as : Sound Tryz.prog GG 34 C_as := by
  unfold C_as; rw [h_as]
  exact mkS Tryz.f34 trivial trivial
theorem p_as (a0 : D_Heap) : P_as (a0, ()) =
  some ((a0.1, (a0.2.1, (a0.2.2.1, ()))), ()) := by
  rewrite [h_as]
  kernel_rfl
abbrev As_cd : List ATy := [.data true T_A3, .data true T_A3]
abbrev R_cd : List (Bool × Ty) := [(false, .bool)]
abbrev M_cd : List RMode := []
abbrev Ft_cd : Type := D_A3 × D_A3 × Unit → Option (Bool × Unit)
noncomputable def X_cd : Ctx := { types := TT, globals := [], con := [(81, C_bl)], keep := [], results := [.tmp 4], ntmps := 27, n := N }
noncomputable def B_cd : Code := (Tryz.f87.body).getD .skip
noncomputable def P_cd : Ft_cd := hid (runF X_cd B_cd As_cd R_cd M_cd)
theorem h_cd : P_cd = runF X_cd B_cd As_cd R_cd M_cd := hid_eq _
noncomputable def C_cd : Contract := ⟨As_cd, R_cd, M_cd, P_cd⟩
theorem s_cd : Sound Tryz.prog GG 87 C_cd := by
  unfold C_cd; rw [h_cd]
  exact mkS Tryz.f87 ⟨s_bl, trivial⟩ trivial
theorem p_cd (a0 : D_A3) (a1 : D_A3) : P_cd (a0, a1, ()) =
  Option.bind (P_bl (a1.1, 0, (IntKind.wrap .i64 (a0.1 - 1)), ())) fun r0 =>
  bif r0.1 then
    Option.bind (P_bl (a1.2.1, 0, (IntKind.wrap .i64 (a0.2.1 - 1)), ())) fun r2 =>
    bif r2.1 then
      Option.bind (P_bl (a1.2.2.1, 0, (IntKind.wrap .i64 (a0.2.2.1 - 1)), ())) fun r4 =>
      some (r4.1, ())
    else
      some (false, ())
  else
    some (false, ()) := by
  rewrite [h_cd]
  kernel_rfl
abbrev As_c5 : List ATy := [.data false (.int .i64)]
abbrev R_c5 : List (Bool × Ty) := [(false, .bool)]
abbrev M_c5 : List RMode := []
abbrev Ft_c5 : Type := Int × Unit → Option (Bool × Unit)
noncomputable def X_c5 : Ctx := { types := TT, globals := [], con := [], keep := [], results := [.tmp 2], ntmps := 6, n := N }
noncomputable def B_c5 : Code := (Tryz.f152.body).getD .skip
noncomputable def P_c5 : Ft_c5 := hid (runF X_c5 B_c5 As_c5 R_c5 M_c5)
theorem h_c5 : P_c5 = runF X_c5 B_c5 As_c5 R_c5 M_c5 := hid_eq _
noncomputable def C_c5 : Contract := ⟨As_c5, R_c5, M_c5, P_c5⟩
theorem s_c5 : Sound Tryz.prog GG 152 C_c5 := by
  unfold C_c5; rw [h_c5]
  exact mkS Tryz.f152 trivial trivial
theorem p_c5 (a0 : Int) : P_c5 (a0, ()) =
  some (!decide (a0 = a0), ()) := by
  rewrite [h_c5]
  kernel_rfl
abbrev As_di : List ATy := [.data false (.int .i64), .data false (.int .i64)]
abbrev R_di : List (Bool × Ty) := [(false, (.int .i64))]
abbrev M_di : List RMode := []
abbrev Ft_di : Type := Int × Int × Unit → Option (Int × Unit)
noncomputable def X_di : Ctx := { types := TT, globals := [], con := [(152, C_c5)], keep := [], results := [.tmp 4], ntmps := 20, n := N }
noncomputable def B_di : Code := (Tryz.f143.body).getD .skip
noncomputable def P_di : Ft_di := hid (runF X_di B_di As_di R_di M_di)
theorem h_di : P_di = runF X_di B_di As_di R_di M_di := hid_eq _
noncomputable def C_di : Contract := ⟨As_di, R_di, M_di, P_di⟩
theorem s_di : Sound Tryz.prog GG 143 C_di := by
  unfold C_di; rw [h_di]
  exact mkS Tryz.f143 ⟨s_c5, trivial⟩ trivial
theorem p_di (a0 : Int) (a1 : Int) : P_di (a0, a1, ()) =
  Option.bind (P_c5 (a0, ())) fun r0 =>
  Option.bind (P_c5 (a1, ())) fun r1 =>
  bif r0.1 then
    bif r1.1 then
      some (0, ())
    else
      some ((-1), ())
  else
    bif r1.1 then
      some (1, ())
    else
      bif decide (a0 < a1) then
        some ((-1), ())
      else
        bif decide (a0 > a1) then
          some (1, ())
        else
          some (0, ()) := by
  rewrite [h_di]
  kernel_rfl
abbrev As_bg : List ATy := [.data false (.sl (.int .i64)), .data false (.sl (.int .i64))]
abbrev R_bg : List (Bool × Ty) := [(false, (.int .i64))]
abbrev M_bg : List RMode := []
abbrev Ft_bg : Type := (List Int) × (List Int) × Unit → Option (Int × Unit)
noncomputable def X_bg : Ctx := { types := TT, globals := [], con := [(143, C_di)], keep := [(2, ⟨[.tmp 0, .tmp 1, .tmp 9, .tmp 10, .tmp 11], []⟩)], results := [.tmp 4], ntmps := 36, n := N }
noncomputable def B_bg : Code := (Tryz.f123.body).getD .skip
noncomputable def L_bg_2 (m0 : Nat) (p0 p1 p2 : List Int) (p3 p4 : Int) : Option (denL R_bg) := loopF X_bg B_bg R_bg M_bg 2 [m0] [(.ver, .num 1), (.tmp 0, .val false [.imm (.int .i64) p0 (some 0)]), (.tmp 1, .val false [.imm (.int .i64) p1 (some 1)]), (.tmp 9, .val false [.imm (.int .i64) p2 (some 0)]), (.tmp 10, .val false [.int .i64 p3]), (.tmp 11, .val false [.int .i64 p4])]
noncomputable def P_bg : Ft_bg := hid (runF X_bg B_bg As_bg R_bg M_bg)
theorem h_bg : P_bg = runF X_bg B_bg As_bg R_bg M_bg := hid_eq _
noncomputable def C_bg : Contract := ⟨As_bg, R_bg, M_bg, P_bg⟩
theorem s_bg : Sound Tryz.prog GG 123 C_bg := by
  unfold C_bg; rw [h_bg]
  exact mkS Tryz.f123 ⟨s_di, trivial⟩ trivial
noncomputable def l_bg_2 := hid (L_bg_2)
theorem h_bg_2 : l_bg_2 = L_bg_2 := hid_eq _
theorem p_bg (a0 : List Int) (a1 : List Int) : P_bg (a0, a1, ()) =
  l_bg_2 N a0 a1 a0 (List.length a0 : Int) 0 := by
  rewrite [h_bg, h_bg_2]
  kernel_rfl
theorem q_bg_2 (m0 : Nat) (p0 p1 p2 : List Int) (p3 p4 : Int) : l_bg_2 (m0 + 1) p0 p1 p2 p3 p4 =
  bif decide (p4 < p3) then
    bif inB p4 (List.length p2) then
      bif decide (p4 ≥ (List.length p1 : Int)) then
        some (1, ())
      else
        bif inB p4 (List.length p1) then
          Option.bind (P_di ((nth ((.int .i64) : Ty) p2 p4), (nth ((.int .i64) : Ty) p1 p4), ())) fun r4 =>
          bif !decide (r4.1 = 0) then
            some (r4.1, ())
          else
            l_bg_2 m0 p0 p1 p2 p3 (IntKind.wrap .i64 (p4 + 1))
        else none
    else none
  else
    bif decide ((List.length p0 : Int) < (List.length p1 : Int)) then
      some ((-1), ())
    else
      some (0, ()) := by
  rewrite [h_bg_2]
  kernel_rfl
abbrev As_cx : List ATy := [.data true T_A3, .data true T_A3]
abbrev R_cx : List (Bool × Ty) := [(false, (.int .i64))]
abbrev M_cx : List RMode := []
abbrev Ft_cx : Type := D_A3 × D_A3 × Unit → Option (Int × Unit)
noncomputable def X_cx : Ctx := { types := TT, globals := [], con := [(123, C_bg)], keep := [], results := [.tmp 4], ntmps := 8, n := N }
noncomputable def B_cx : Code := (Tryz.f88.body).getD .skip
noncomputable def P_cx : Ft_cx := hid (runF X_cx B_cx As_cx R_cx M_cx)
theorem h_cx : P_cx = runF X_cx B_cx As_cx R_cx M_cx := hid_eq _
noncomputable def C_cx : Contract := ⟨As_cx, R_cx, M_cx, P_cx⟩
theorem s_cx : Sound Tryz.prog GG 88 C_cx := by
  unfold C_cx; rw [h_cx]
  exact mkS Tryz.f88 ⟨s_bg, trivial⟩ trivial
theorem p_cx (a0 : D_A3) (a1 : D_A3) : P_cx (a0, a1, ()) =
  Option.bind (P_bg (([a0.1, a0.2.1, a0.2.2.1] : List Int), ([a1.1, a1.2.1, a1.2.2.1] : List Int), ())) fun r0 =>
  some (r0.1, ()) := by
  rewrite [h_cx]
  kernel_rfl
abbrev As_aq : List ATy := [.data true T_Heap]
abbrev R_aq : List (Bool × Ty) := [(false, .bool)]
abbrev M_aq : List RMode := []
abbrev Ft_aq : Type := D_Heap × Unit → Option (Bool × Unit)
noncomputable def X_aq : Ctx := { types := TT, globals := [], con := [(34, C_as), (86, C_ca), (87, C_cd), (88, C_cx)], keep := [(4, ⟨[.box 1, .tmp 1, .tmp 10, .tmp 11, .tmp 12], []⟩)], results := [.tmp 2], ntmps := 38, n := N }
noncomputable def B_aq : Code := (Tryz.f39.body).getD .skip
noncomputable def L_aq_4 (m0 : Nat) (p0 p1 p2 : Int) (p3 p4 : List D_A3) (p5 p6 : Int) : Option (denL R_aq) := loopF X_aq B_aq R_aq M_aq 4 [m0] [(.ver, .num 1), (.box 1, .box 0 false [.int .i64 p0, .int .i64 p1, .int .i64 p2, .imm T_A3 p3 (some 3)]), (.tmp 1, .val false [.addr 1 0 0]), (.tmp 10, .val false [.imm T_A3 p4 (some 3)]), (.tmp 11, .val false [.int .i64 p5]), (.tmp 12, .val false [.int .i64 p6])]
noncomputable def P_aq : Ft_aq := hid (runF X_aq B_aq As_aq R_aq M_aq)
theorem h_aq : P_aq = runF X_aq B_aq As_aq R_aq M_aq := hid_eq _
noncomputable def C_aq : Contract := ⟨As_aq, R_aq, M_aq, P_aq⟩
theorem s_aq : Sound Tryz.prog GG 39 C_aq := by
  unfold C_aq; rw [h_aq]
  exact mkS Tryz.f39 ⟨s_as, s_ca, s_cd, s_cx, trivial⟩ trivial
noncomputable def l_aq_4 := hid (L_aq_4)
theorem h_aq_4 : l_aq_4 = L_aq_4 := hid_eq _
theorem p_aq (a0 : D_Heap) : P_aq (a0, ()) =
  Option.bind (P_as (a0, ())) fun r0 =>
  Option.bind (P_ca (r0.1, ())) fun r1 =>
  bif !r1.1 then
    some (false, ())
  else
    l_aq_4 N a0.1 a0.2.1 a0.2.2.1 a0.2.2.2.1 a0.2.2.2.1 (List.length a0.2.2.2.1 : Int) 0 := by
  rewrite [h_aq, h_aq_4]
  kernel_rfl
theorem q_aq_4 (m0 : Nat) (p0 p1 p2 : Int) (p3 p4 : List D_A3) (p5 p6 : Int) : l_aq_4 (m0 + 1) p0 p1 p2 p3 p4 p5 p6 =
  bif decide (p6 < p5) then
    bif inB p6 (List.length p4) then
      Option.bind (P_as ((p0, (p1, (p2, (p3, ())))), ())) fun r2 =>
      Option.bind (P_cd (r2.1, (nth T_A3 p4 p6), ())) fun r3 =>
      bif !r3.1 then
        some (false, ())
      else
        bif decide (p6 > 0) then
          bif inB (IntKind.wrap .i64 (p6 - 1)) (List.length p3) then
            Option.bind (P_cx ((nth T_A3 p3 (IntKind.wrap .i64 (p6 - 1))), (nth T_A3 p4 p6), ())) fun r7 =>
            bif decide (r7.1 ≥ 0) then
              some (false, ())
            else
              l_aq_4 m0 p0 p1 p2 p3 p4 p5 (IntKind.wrap .i64 (p6 + 1))
          else none
        else
          l_aq_4 m0 p0 p1 p2 p3 p4 p5 (IntKind.wrap .i64 (p6 + 1))
    else none
  else
    some (true, ()) := by
  rewrite [h_aq_4]
  kernel_rfl
abbrev As_bx : List ATy := [.data true T_A3, .data true T_A3]
abbrev R_bx : List (Bool × Ty) := [(false, (.int .i64))]
abbrev M_bx : List RMode := []
abbrev Ft_bx : Type := D_A3 × D_A3 × Unit → Option (Int × Unit)
noncomputable def X_bx : Ctx := { types := TT, globals := [], con := [], keep := [], results := [.tmp 4], ntmps := 19, n := N }
noncomputable def B_bx : Code := (Tryz.f79.body).getD .skip
noncomputable def P_bx : Ft_bx := hid (runF X_bx B_bx As_bx R_bx M_bx)
theorem h_bx : P_bx = runF X_bx B_bx As_bx R_bx M_bx := hid_eq _
noncomputable def C_bx : Contract := ⟨As_bx, R_bx, M_bx, P_bx⟩
theorem s_bx : Sound Tryz.prog GG 79 C_bx := by
  unfold C_bx; rw [h_bx]
  exact mkS Tryz.f79 trivial trivial
theorem p_bx (a0 : D_A3) (a1 : D_A3) : P_bx (a0, a1, ()) =
  some ((IntKind.wrap .i64 ((IntKind.wrap .i64 ((IntKind.wrap .i64 ((IntKind.wrap .i64 (a1.1 * a0.2.1)) + a1.2.1)) * a0.2.2.1)) + a1.2.2.1)), ()) := by
  rewrite [h_bx]
  kernel_rfl
abbrev As_bh : List ATy := [.data true T_Heap, .data true T_A3, .clo [(true, T_A3)] [(true, T_A3)]]
abbrev R_bh : List (Bool × Ty) := [(true, T_Heap)]
abbrev M_bh : List RMode := [.own 55]
abbrev Ft_bh : Type := D_Heap × D_A3 × ((D_A3 × Unit) → Option (D_A3 × Unit)) × Unit → Option (D_Heap × Unit)
noncomputable def X_bh : Ctx := { types := TT, globals := [], con := [(52, C_bv), (79, C_bx)], keep := [(3, ⟨[.box 4, .box 6, .tmp 2, .tmp 4, .tmp 6, .tmp 7, .tmp 11, .tmp 12, .tmp 13], []⟩)], results := [.cell 6 26], ntmps := 29, n := N }
noncomputable def B_bh : Code := (Tryz.f73.body).getD .skip
noncomputable def L_bh_3 (m0 : Nat) (p0 p1 p2 p3 p4 p5 : Int) (p6 : List D_A3) (p7 : (D_A3 × Unit) → Option (D_A3 × Unit)) (p8 : Int) (p9 : List D_A3) (p10 p11 : Int) : Option (denL R_bh) := loopF X_bh B_bh R_bh M_bh 3 [m0] [(.ver, .num 1), (.box 4, .box 0 false [.int .i64 p0, .int .i64 p1, .int .i64 p2]), (.box 6, .box 0 false [.int .i64 p3, .int .i64 p4, .int .i64 p5, .own 55 T_A3 0 p6]), (.tmp 2, .val false [.clo [(true, T_A3)] [(true, T_A3)] p7]), (.tmp 4, .val false [.addr 4 0 0]), (.tmp 6, .val false [.addr 6 0 0]), (.tmp 7, .val false [.int .u64 p8]), (.tmp 11, .val false [.imm T_A3 p9 (some 3)]), (.tmp 12, .val false [.int .i64 p10]), (.tmp 13, .val false [.int .i64 p11])]
noncomputable def P_bh : Ft_bh := hid (runF X_bh B_bh As_bh R_bh M_bh)
theorem h_bh : P_bh = runF X_bh B_bh As_bh R_bh M_bh := hid_eq _
noncomputable def C_bh : Contract := ⟨As_bh, R_bh, M_bh, P_bh⟩
theorem s_bh : Sound Tryz.prog GG 73 C_bh := by
  unfold C_bh; rw [h_bh]
  exact mkS Tryz.f73 ⟨s_bv, s_bx, trivial⟩ trivial
noncomputable def l_bh_3 := hid (L_bh_3)
theorem h_bh_3 : l_bh_3 = L_bh_3 := hid_eq _
theorem p_bh (a0 : D_Heap) (a1 : D_A3) (a2 : (D_A3 × Unit) → Option (D_A3 × Unit)) : P_bh (a0, a1, a2, ()) =
  l_bh_3 N a1.1 a1.2.1 a1.2.2.1 0 0 0 ([] : List D_A3) a2 0 a0.2.2.2.1 (List.length a0.2.2.2.1 : Int) 0 := by
  rewrite [h_bh, h_bh_3]
  kernel_rfl
theorem q_bh_3 (m0 : Nat) (p0 p1 p2 p3 p4 p5 : Int) (p6 : List D_A3) (p7 : (D_A3 × Unit) → Option (D_A3 × Unit)) (p8 : Int) (p9 : List D_A3) (p10 p11 : Int) : l_bh_3 (m0 + 1) p0 p1 p2 p3 p4 p5 p6 p7 p8 p9 p10 p11 =
  bif decide (p11 < p10) then
    bif inB p11 (List.length p9) then
      Option.bind (p7 ((nth T_A3 p9 p11), ())) fun r2 =>
      Option.bind (P_bx ((p0, (p1, (p2, ()))), r2.1, ())) fun r3 =>
      bif decide ((0 : Int) ≤ r3.1) then
        l_bh_3 m0 p0 p1 p2 p3 p4 p5 p6 p7 (intBits .or .u64 p8 (shlI .u64 1 r3.1)) p9 p10 (IntKind.wrap .i64 (p11 + 1))
      else none
    else none
  else
    Option.bind (P_bv ((p0, (p1, (p2, ()))), p8, ())) fun r1 =>
    some (r1.1, ()) := by
  rewrite [h_bh_3]
  kernel_rfl
abbrev As_cu : List ATy := [.data true T_A3, .ptr T_Heap, .ptr (.int .i64)]
abbrev R_cu : List (Bool × Ty) := [(true, T_A3)]
abbrev M_cu : List RMode := []
abbrev Ft_cu : Type := D_A3 × D_Heap × Int × Unit → Option (D_A3 × Unit)
noncomputable def X_cu : Ctx := { types := TT, globals := [], con := [(34, C_as), (66, C_b6)], keep := [], results := [.cell 4 55], ntmps := 10, n := N }
noncomputable def B_cu : Code := (Tryz.f74.body).getD .skip
noncomputable def P_cu : Ft_cu := hid (runF X_cu B_cu As_cu R_cu M_cu)
theorem h_cu : P_cu = runF X_cu B_cu As_cu R_cu M_cu := hid_eq _
noncomputable def C_cu : Contract := ⟨As_cu, R_cu, M_cu, P_cu⟩
theorem s_cu : Sound Tryz.prog GG 74 C_cu := by
  unfold C_cu; rw [h_cu]
  exact mkS Tryz.f74 ⟨s_as, s_b6, trivial⟩ trivial
theorem p_cu (a0 : D_A3) (a1 : D_Heap) (a2 : Int) : P_cu (a0, a1, a2, ()) =
  Option.bind (P_as (a1, ())) fun r0 =>
  Option.bind (P_b6 (r0.1, a0, a2, ())) fun r1 =>
  some (r1.1, ()) := by
  rewrite [h_cu]
  kernel_rfl
abbrev As_cz : List ATy := [.data true T_Heap, .data false (.int .i64)]
abbrev R_cz : List (Bool × Ty) := [(true, T_Heap), (false, .bool)]
abbrev M_cz : List RMode := [.own 55]
abbrev Ft_cz : Type := D_Heap × Int × Unit → Option (D_Heap × Bool × Unit)
noncomputable def X_cz : Ctx := { types := TT, globals := [], con := [(34, C_as), (39, C_aq), (63, C_cg), (73, C_bh), (74, C_cu)], keep := [], results := [.cell 4 26, .tmp 5], ntmps := 20, n := N }
noncomputable def B_cz : Code := (Tryz.f26.body).getD .skip
noncomputable def P_cz : Ft_cz := hid (runF X_cz B_cz As_cz R_cz M_cz)
theorem h_cz : P_cz = runF X_cz B_cz As_cz R_cz M_cz := hid_eq _
noncomputable def C_cz : Contract := ⟨As_cz, R_cz, M_cz, P_cz⟩
theorem s_cz : Sound Tryz.prog GG 26 C_cz := by
  unfold C_cz; rw [h_cz]
  exact mkS Tryz.f26 ⟨s_as, s_aq, s_cg, s_bh, s_cu, trivial⟩ trivial
theorem p_cz (a0 : D_Heap) (a1 : Int) : P_cz (a0, a1, ()) =
  Option.bind (P_aq (a0, ())) fun r0 =>
  bif !r0.1 then
    some ((0, (0, (0, (([] : List D_A3), ())))), false, ())
  else
    Option.bind (P_cg (a1, ())) fun r2 =>
    bif !r2.1 then
      some ((0, (0, (0, (([] : List D_A3), ())))), false, ())
    else
      Option.bind (P_as (a0, ())) fun r4 =>
      Option.bind (P_bh (a0, r4.1, (fun (y : D_A3 × Unit) => P_cu (y.1, a0, a1, ())), ())) fun r5 =>
      some (r5.1, true, ()) := by
  rewrite [h_cz]
  kernel_rfl
abbrev As_au : List ATy := [.data true T_Heap]
abbrev R_au : List (Bool × Ty) := [(false, (.int .u64))]
abbrev M_au : List RMode := []
abbrev Ft_au : Type := D_Heap × Unit → Option (Int × Unit)
noncomputable def X_au : Ctx := { types := TT, globals := [], con := [(34, C_as), (79, C_bx)], keep := [(3, ⟨[.box 1, .tmp 1, .tmp 3, .tmp 7, .tmp 8, .tmp 9], []⟩)], results := [.tmp 2], ntmps := 22, n := N }
noncomputable def B_au : Code := (Tryz.f36.body).getD .skip
noncomputable def L_au_3 (m0 : Nat) (p0 p1 p2 : Int) (p3 : List D_A3) (p4 : Int) (p5 : List D_A3) (p6 p7 : Int) : Option (denL R_au) := loopF X_au B_au R_au M_au 3 [m0] [(.ver, .num 1), (.box 1, .box 0 false [.int .i64 p0, .int .i64 p1, .int .i64 p2, .imm T_A3 p3 (some 3)]), (.tmp 1, .val false [.addr 1 0 0]), (.tmp 3, .val false [.int .u64 p4]), (.tmp 7, .val false [.imm T_A3 p5 (some 3)]), (.tmp 8, .val false [.int .i64 p6]), (.tmp 9, .val false [.int .i64 p7])]
noncomputable def P_au : Ft_au := hid (runF X_au B_au As_au R_au M_au)
theorem h_au : P_au = runF X_au B_au As_au R_au M_au := hid_eq _
noncomputable def C_au : Contract := ⟨As_au, R_au, M_au, P_au⟩
theorem s_au : Sound Tryz.prog GG 36 C_au := by
  unfold C_au; rw [h_au]
  exact mkS Tryz.f36 ⟨s_as, s_bx, trivial⟩ trivial
noncomputable def l_au_3 := hid (L_au_3)
theorem h_au_3 : l_au_3 = L_au_3 := hid_eq _
theorem p_au (a0 : D_Heap) : P_au (a0, ()) =
  l_au_3 N a0.1 a0.2.1 a0.2.2.1 a0.2.2.2.1 0 a0.2.2.2.1 (List.length a0.2.2.2.1 : Int) 0 := by
  rewrite [h_au, h_au_3]
  kernel_rfl
theorem q_au_3 (m0 : Nat) (p0 p1 p2 : Int) (p3 : List D_A3) (p4 : Int) (p5 : List D_A3) (p6 p7 : Int) : l_au_3 (m0 + 1) p0 p1 p2 p3 p4 p5 p6 p7 =
  bif decide (p7 < p6) then
    bif inB p7 (List.length p5) then
      Option.bind (P_as ((p0, (p1, (p2, (p3, ())))), ())) fun r2 =>
      Option.bind (P_bx (r2.1, (nth T_A3 p5 p7), ())) fun r3 =>
      bif decide ((0 : Int) ≤ r3.1) then
        l_au_3 m0 p0 p1 p2 p3 (intBits .or .u64 p4 (shlI .u64 1 r3.1)) p5 p6 (IntKind.wrap .i64 (p7 + 1))
      else none
    else none
  else
    some (p4, ()) := by
  rewrite [h_au_3]
  kernel_rfl
abbrev As_bq : List ATy := [.data true T_Shadow, .data true T_Heap]
abbrev R_bq : List (Bool × Ty) := [(false, .bool), (false, .bool)]
abbrev M_bq : List RMode := []
abbrev Ft_bq : Type := D_Shadow × D_Heap × Unit → Option (Bool × Bool × Unit)
noncomputable def X_bq : Ctx := { types := TT, globals := [], con := [(34, C_as), (36, C_au), (39, C_aq), (40, C_ao), (46, C_ae), (75, C_cr)], keep := [], results := [.tmp 4, .tmp 5], ntmps := 25, n := N }
noncomputable def B_bq : Code := (Tryz.f27.body).getD .skip
noncomputable def P_bq : Ft_bq := hid (runF X_bq B_bq As_bq R_bq M_bq)
theorem h_bq : P_bq = runF X_bq B_bq As_bq R_bq M_bq := hid_eq _
noncomputable def C_bq : Contract := ⟨As_bq, R_bq, M_bq, P_bq⟩
theorem s_bq : Sound Tryz.prog GG 27 C_bq := by
  unfold C_bq; rw [h_bq]
  exact mkS Tryz.f27 ⟨s_as, s_au, s_aq, s_ao, s_ae, s_cr, trivial⟩ trivial
theorem p_bq (a0 : D_Shadow) (a1 : D_Heap) : P_bq (a0, a1, ()) =
  Option.bind (P_ao (a0, ())) fun r0 =>
  bif !r0.1 then
    some (false, false, ())
  else
    Option.bind (P_aq (a1, ())) fun r2 =>
    bif !r2.1 then
      some (false, false, ())
    else
      Option.bind (P_ae (a0, ())) fun r4 =>
      Option.bind (P_as (a1, ())) fun r5 =>
      bif (decide (r4.1.1 = r5.1.1) && (decide (r4.1.2.1 = r5.1.2.1) && (decide (r4.1.2.2.1 = r5.1.2.2.1) && true))) then
        Option.bind (P_au (a1, ())) fun r7 =>
        Option.bind (P_cr (a0, r7.1, ())) fun r8 =>
        some (r8.1, true, ())
      else
        some (false, true, ()) := by
  rewrite [h_bq]
  kernel_rfl
abbrev As_cb : List ATy := [.data true T_Shadow]
abbrev R_cb : List (Bool × Ty) := [(false, .bool), (false, .bool)]
abbrev M_cb : List RMode := []
abbrev Ft_cb : Type := D_Shadow × Unit → Option (Bool × Bool × Unit)
noncomputable def X_cb : Ctx := { types := TT, globals := [], con := [(40, C_ao), (53, C_b8)], keep := [], results := [.tmp 2, .tmp 3], ntmps := 9, n := N }
noncomputable def B_cb : Code := (Tryz.f28.body).getD .skip
noncomputable def P_cb : Ft_cb := hid (runF X_cb B_cb As_cb R_cb M_cb)
theorem h_cb : P_cb = runF X_cb B_cb As_cb R_cb M_cb := hid_eq _
noncomputable def C_cb : Contract := ⟨As_cb, R_cb, M_cb, P_cb⟩
theorem s_cb : Sound Tryz.prog GG 28 C_cb := by
  unfold C_cb; rw [h_cb]
  exact mkS Tryz.f28 ⟨s_ao, s_b8, trivial⟩ trivial
theorem p_cb (a0 : D_Shadow) : P_cb (a0, ()) =
  Option.bind (P_ao (a0, ())) fun r0 =>
  bif !r0.1 then
    some (false, false, ())
  else
    Option.bind (P_b8 (a0, ())) fun r2 =>
    some (r2.1, true, ()) := by
  rewrite [h_cb]
  kernel_rfl
abbrev As_by : List ATy := [.data true T_Shadow]
abbrev R_by : List (Bool × Ty) := [(false, (.sl T_A3)), (false, .bool)]
abbrev M_by : List RMode := [.own 55]
abbrev Ft_by : Type := D_Shadow × Unit → Option ((List D_A3) × Bool × Unit)
noncomputable def X_by : Ctx := { types := TT, globals := [], con := [(46, C_ae), (54, C_ar), (72, C_b4), (76, C_an)], keep := [], results := [.tmp 2, .tmp 3], ntmps := 12, n := N }
noncomputable def B_by : Code := (Tryz.f29.body).getD .skip
noncomputable def P_by : Ft_by := hid (runF X_by B_by As_by R_by M_by)
theorem h_by : P_by = runF X_by B_by As_by R_by M_by := hid_eq _
noncomputable def C_by : Contract := ⟨As_by, R_by, M_by, P_by⟩
theorem s_by : Sound Tryz.prog GG 29 C_by := by
  unfold C_by; rw [h_by]
  exact mkS Tryz.f29 ⟨s_ae, s_ar, s_b4, s_an, trivial⟩ trivial
theorem p_by (a0 : D_Shadow) : P_by (a0, ()) =
  Option.bind (P_b4 (a0, ())) fun r0 =>
  bif !r0.1 then
    some (([] : List D_A3), false, ())
  else
    Option.bind (P_ae (a0, ())) fun r2 =>
    Option.bind (P_ar (a0, ())) fun r3 =>
    Option.bind (P_an (r2.1, r3.1, ())) fun r4 =>
    some (r4.1, true, ()) := by
  rewrite [h_by]
  kernel_rfl
abbrev As_bz : List ATy := [.data true T_Shadow]
abbrev R_bz : List (Bool × Ty) := [(false, (.sl T_A3)), (false, .bool)]
abbrev M_bz : List RMode := [.own 55]
abbrev Ft_bz : Type := D_Shadow × Unit → Option ((List D_A3) × Bool × Unit)
noncomputable def X_bz : Ctx := { types := TT, globals := [], con := [(46, C_ae), (49, C_bs), (54, C_ar), (72, C_b4), (76, C_an)], keep := [], results := [.tmp 2, .tmp 3], ntmps := 15, n := N }
noncomputable def B_bz : Code := (Tryz.f30.body).getD .skip
noncomputable def P_bz : Ft_bz := hid (runF X_bz B_bz As_bz R_bz M_bz)
theorem h_bz : P_bz = runF X_bz B_bz As_bz R_bz M_bz := hid_eq _
noncomputable def C_bz : Contract := ⟨As_bz, R_bz, M_bz, P_bz⟩
theorem s_bz : Sound Tryz.prog GG 30 C_bz := by
  unfold C_bz; rw [h_bz]
  exact mkS Tryz.f30 ⟨s_ae, s_bs, s_ar, s_b4, s_an, trivial⟩ trivial
theorem p_bz (a0 : D_Shadow) : P_bz (a0, ()) =
  Option.bind (P_b4 (a0, ())) fun r0 =>
  bif !r0.1 then
    some (([] : List D_A3), false, ())
  else
    Option.bind (P_ae (a0, ())) fun r2 =>
    Option.bind (P_bs (a0, ())) fun r3 =>
    Option.bind (P_ar (a0, ())) fun r4 =>
    Option.bind (P_an (r2.1, (intBits .andNot .u64 r3.1 r4.1), ())) fun r5 =>
    some (r5.1, true, ()) := by
  rewrite [h_bz]
  kernel_rfl
abbrev As_dm : List ATy := [.data true T_Heap, .data true T_A3]
abbrev R_dm : List (Bool × Ty) := [(false, .bool)]
abbrev M_dm : List RMode := []
abbrev Ft_dm : Type := D_Heap × D_A3 × Unit → Option (Bool × Unit)
noncomputable def X_dm : Ctx := { types := TT, globals := [], con := [(34, C_as), (39, C_aq), (87, C_cd)], keep := [], results := [.tmp 4], ntmps := 13, n := N }
noncomputable def B_dm : Code := (Tryz.f77.body).getD .skip
noncomputable def P_dm : Ft_dm := hid (runF X_dm B_dm As_dm R_dm M_dm)
theorem h_dm : P_dm = runF X_dm B_dm As_dm R_dm M_dm := hid_eq _
noncomputable def C_dm : Contract := ⟨As_dm, R_dm, M_dm, P_dm⟩
theorem s_dm : Sound Tryz.prog GG 77 C_dm := by
  unfold C_dm; rw [h_dm]
  exact mkS Tryz.f77 ⟨s_as, s_aq, s_cd, trivial⟩ trivial
theorem p_dm (a0 : D_Heap) (a1 : D_A3) : P_dm (a0, a1, ()) =
  Option.bind (P_aq (a0, ())) fun r0 =>
  bif r0.1 then
    Option.bind (P_as (a0, ())) fun r2 =>
    Option.bind (P_cd (r2.1, a1, ())) fun r3 =>
    some (r3.1, ())
  else
    some (false, ()) := by
  rewrite [h_dm]
  kernel_rfl
abbrev As_c0 : List ATy := [.data true T_Heap, .data true T_A3]
abbrev R_c0 : List (Bool × Ty) := [(false, .bool)]
abbrev M_c0 : List RMode := []
abbrev Ft_c0 : Type := D_Heap × D_A3 × Unit → Option (Bool × Unit)
noncomputable def X_c0 : Ctx := { types := TT, globals := [], con := [(34, C_as), (36, C_au), (79, C_bx), (112, C_cc)], keep := [], results := [.tmp 4], ntmps := 12, n := N }
noncomputable def B_c0 : Code := (Tryz.f78.body).getD .skip
noncomputable def P_c0 : Ft_c0 := hid (runF X_c0 B_c0 As_c0 R_c0 M_c0)
theorem h_c0 : P_c0 = runF X_c0 B_c0 As_c0 R_c0 M_c0 := hid_eq _
noncomputable def C_c0 : Contract := ⟨As_c0, R_c0, M_c0, P_c0⟩
theorem s_c0 : Sound Tryz.prog GG 78 C_c0 := by
  unfold C_c0; rw [h_c0]
  exact mkS Tryz.f78 ⟨s_as, s_au, s_bx, s_cc, trivial⟩ trivial
theorem p_c0 (a0 : D_Heap) (a1 : D_A3) : P_c0 (a0, a1, ()) =
  Option.bind (P_au (a0, ())) fun r0 =>
  Option.bind (P_as (a0, ())) fun r1 =>
  Option.bind (P_bx (r1.1, a1, ())) fun r2 =>
  Option.bind (P_cc (r0.1, r2.1, ())) fun r3 =>
  some (r3.1, ()) := by
  rewrite [h_c0]
  kernel_rfl
abbrev As_c7 : List ATy := [.data true T_Heap, .data true T_A3]
abbrev R_c7 : List (Bool × Ty) := [(true, T_Heap), (false, .bool)]
abbrev M_c7 : List RMode := [.own 55]
abbrev Ft_c7 : Type := D_Heap × D_A3 × Unit → Option (D_Heap × Bool × Unit)
noncomputable def X_c7 : Ctx := { types := TT, globals := [], con := [(34, C_as), (36, C_au), (52, C_bv), (77, C_dm), (78, C_c0), (79, C_bx)], keep := [], results := [.cell 4 26, .tmp 5], ntmps := 28, n := N }
noncomputable def B_c7 : Code := (Tryz.f31.body).getD .skip
noncomputable def P_c7 : Ft_c7 := hid (runF X_c7 B_c7 As_c7 R_c7 M_c7)
theorem h_c7 : P_c7 = runF X_c7 B_c7 As_c7 R_c7 M_c7 := hid_eq _
noncomputable def C_c7 : Contract := ⟨As_c7, R_c7, M_c7, P_c7⟩
theorem s_c7 : Sound Tryz.prog GG 31 C_c7 := by
  unfold C_c7; rw [h_c7]
  exact mkS Tryz.f31 ⟨s_as, s_au, s_bv, s_dm, s_c0, s_bx, trivial⟩ trivial
theorem p_c7 (a0 : D_Heap) (a1 : D_A3) : P_c7 (a0, a1, ()) =
  Option.bind (P_dm (a0, a1, ())) fun r0 =>
  bif !r0.1 then
    some ((0, (0, (0, (([] : List D_A3), ())))), false, ())
  else
    Option.bind (P_c0 (a0, a1, ())) fun r2 =>
    bif !r2.1 then
      some ((0, (0, (0, (([] : List D_A3), ())))), false, ())
    else
      Option.bind (P_as (a0, ())) fun r4 =>
      Option.bind (P_au (a0, ())) fun r5 =>
      Option.bind (P_as (a0, ())) fun r6 =>
      Option.bind (P_bx (r6.1, a1, ())) fun r7 =>
      bif decide ((0 : Int) ≤ r7.1) then
        Option.bind (P_bv (r4.1, (intBits .andNot .u64 r5.1 (shlI .u64 1 r7.1)), ())) fun r9 =>
        some (r9.1, true, ())
      else none := by
  rewrite [h_c7]
  kernel_rfl
abbrev As_am : List ATy := [.data false (.sl (.int .u8))]
abbrev R_am : List (Bool × Ty) := [(false, .bool)]
abbrev M_am : List RMode := []
abbrev Ft_am : Type := (List Int) × Unit → Option (Bool × Unit)
noncomputable def X_am : Ctx := { types := TT, globals := [], con := [(5, C_do), (11, C_al), (12, C_ck), (13, C_de), (14, C_c1), (15, C_a6), (16, C_c4), (17, C_bi), (18, C_ai), (19, C_dl), (20, C_dk), (21, C_ak), (22, C_c3), (23, C_c8), (24, C_cw), (25, C_bu), (26, C_cz), (27, C_bq), (28, C_cb), (29, C_by), (30, C_bz), (31, C_c7)], keep := [(40, ⟨[.box 3, .box 8, .tmp 3, .tmp 8, .tmp 42], []⟩)], results := [.tmp 2], ntmps := 318, n := N }
noncomputable def B_am : Code := (Tryz.f4.body).getD .skip
noncomputable def L_am_40 (m0 : Nat) (p0 p1 p2 : Int) (p3 p4 p5 : List Int) (p6 p7 p8 : Int) (p9 : List D_A3) (p10 : Int) : Option (denL R_am) := loopF X_am B_am R_am M_am 40 [m0] [(.ver, .num 1), (.box 3, .box 0 false [.int .i64 p0, .int .i64 p1, .int .i64 p2, .imm (.int .i64) p3 none, .imm (.int .i64) p4 none, .imm (.int .i64) p5 none]), (.box 8, .box 0 false [.int .i64 p6, .int .i64 p7, .int .i64 p8, .own 55 T_A3 0 p9]), (.tmp 3, .val false [.addr 3 0 0]), (.tmp 8, .val false [.addr 8 0 0]), (.tmp 42, .val false [.int .i64 p10])]
noncomputable def P_am : Ft_am := hid (runF X_am B_am As_am R_am M_am)
theorem h_am : P_am = runF X_am B_am As_am R_am M_am := hid_eq _
noncomputable def C_am : Contract := ⟨As_am, R_am, M_am, P_am⟩
theorem s_am : Sound Tryz.prog GG 4 C_am := by
  unfold C_am; rw [h_am]
  exact mkS Tryz.f4 ⟨s_do, s_al, s_ck, s_de, s_c1, s_a6, s_c4, s_bi, s_ai, s_dl, s_dk, s_ak, s_c3, s_c8, s_cw, s_bu, s_cz, s_bq, s_cb, s_by, s_bz, s_c7, trivial⟩ trivial
noncomputable def l_am_40 := hid (L_am_40)
theorem h_am_40 : l_am_40 = L_am_40 := hid_eq _
theorem p_am (a0 : List Int) : P_am (a0, ()) =
  Option.bind (P_do (a0, ())) fun r0 =>
  bif r0.1 then
    some (true, ())
  else
    Option.bind (P_de (a0, ())) fun r2 =>
    Option.bind (P_ck (r2.1, ())) fun r3 =>
    Option.bind (P_c1 (r2.1, ())) fun r4 =>
    Option.bind (P_a6 (r2.1, ())) fun r5 =>
    Option.bind (P_c4 (r2.1, ())) fun r6 =>
    Option.bind (P_bi (r2.1, ())) fun r7 =>
    Option.bind (P_ai (r2.1, ())) fun r8 =>
    Option.bind (P_dk (a0, 1, ())) fun r9 =>
    Option.bind (P_dl (r9.1, ())) fun r10 =>
    Option.bind (P_ak (r10.1, r10.2.1, ())) fun r11 =>
    Option.bind (P_c3 (r10.1, r10.2.1, ())) fun r12 =>
    bif !decide (r3.1 = r4.1) then
      some (false, ())
    else
      bif !(r3.2.1 == r4.2.1) then
        some (false, ())
      else
        bif !(r5.2.1 == r6.2.1) then
          some (false, ())
        else
          Option.bind (P_c8 (r5.1, r6.1, ())) fun r16 =>
          bif !r16.1 then
            some (false, ())
          else
            bif !decide (r7.1 = r8.1) then
              some (false, ())
            else
              bif !(r7.2.1 == r8.2.1) then
                some (false, ())
              else
                bif !(r11.2.1 == r12.2.1) then
                  some (false, ())
                else
                  Option.bind (P_cw (r11.1, r12.1, ())) fun r21 =>
                  bif !r21.1 then
                    some (false, ())
                  else
                    bif !(r3.2.1 == r5.2.1) then
                      some (false, ())
                    else
                      bif r11.2.1 then
                        Option.bind (P_ak (r11.1, r10.2.1, ())) fun r25 =>
                        bif !r25.2.1 then
                          some (false, ())
                        else
                          Option.bind (P_cw (r25.1, r10.1, ())) fun r27 =>
                          bif !r27.1 then
                            some (false, ())
                          else
                            Option.bind (P_bu (r10.1, ())) fun r29 =>
                            bif r29.2.1 then
                              Option.bind (P_cz (r29.1, r10.2.1, ())) fun r31 =>
                              Option.bind (P_bq (r11.1, r31.1, ())) fun r32 =>
                              bif !r31.2.1 then
                                some (false, ())
                              else
                                bif !r32.2.1 then
                                  some (false, ())
                                else
                                  bif !r32.1 then
                                    some (false, ())
                                  else
                                    Option.bind (P_cb (r2.1, ())) fun r36 =>
                                    bif r7.2.1 then
                                      bif !r36.2.1 then
                                        some (false, ())
                                      else
                                        bif !(decide (r7.1 > 0) == r36.1) then
                                          some (false, ())
                                        else
                                          bif !r3.2.1 then
                                            some (true, ())
                                          else
                                            Option.bind (P_al (r2.1, ())) fun r41 =>
                                            Option.bind (P_by (r2.1, ())) fun r42 =>
                                            Option.bind (P_bz (r2.1, ())) fun r43 =>
                                            Option.bind (P_bq (r2.1, r5.1, ())) fun r44 =>
                                            Option.bind (P_bu (r2.1, ())) fun r45 =>
                                            bif !r41.2.1 then
                                              some (false, ())
                                            else
                                              bif !r42.2.1 then
                                                some (false, ())
                                              else
                                                bif !r43.2.1 then
                                                  some (false, ())
                                                else
                                                  bif !r44.2.1 then
                                                    some (false, ())
                                                  else
                                                    bif !r45.2.1 then
                                                      some (false, ())
                                                    else
                                                      bif !r44.1 then
                                                        some (false, ())
                                                      else
                                                        bif !decide ((List.length r5.1.2.2.2.1 : Int) = r3.1) then
                                                          some (false, ())
                                                        else
                                                          bif decide (r3.1 < r41.1) then
                                                            some (false, ())
                                                          else
                                                            bif decide (r3.1 < (List.length r42.1 : Int)) then
                                                              some (false, ())
                                                            else
                                                              bif decide (r3.1 > (List.length r45.1.2.2.2.1 : Int)) then
                                                                some (false, ())
                                                              else
                                                                bif r7.2.1 then
                                                                  bif decide ((0 : Int) ≤ (List.length r43.1 : Int)) then
                                                                    bif decide (r7.1 > (shlI .i64 1 (List.length r43.1 : Int))) then
                                                                      some (false, ())
                                                                    else
                                                                      l_am_40 N r2.1.1 r2.1.2.1 r2.1.2.2.1 r2.1.2.2.2.1 r2.1.2.2.2.2.1 r2.1.2.2.2.2.2.1 r5.1.1 r5.1.2.1 r5.1.2.2.1 r5.1.2.2.2.1 0
                                                                  else none
                                                                else
                                                                  l_am_40 N r2.1.1 r2.1.2.1 r2.1.2.2.1 r2.1.2.2.2.1 r2.1.2.2.2.2.1 r2.1.2.2.2.2.2.1 r5.1.1 r5.1.2.1 r5.1.2.2.1 r5.1.2.2.2.1 0
                                    else
                                      bif !r3.2.1 then
                                        some (true, ())
                                      else
                                        Option.bind (P_al (r2.1, ())) fun r39 =>
                                        Option.bind (P_by (r2.1, ())) fun r40 =>
                                        Option.bind (P_bz (r2.1, ())) fun r41 =>
                                        Option.bind (P_bq (r2.1, r5.1, ())) fun r42 =>
                                        Option.bind (P_bu (r2.1, ())) fun r43 =>
                                        bif !r39.2.1 then
                                          some (false, ())
                                        else
                                          bif !r40.2.1 then
                                            some (false, ())
                                          else
                                            bif !r41.2.1 then
                                              some (false, ())
                                            else
                                              bif !r42.2.1 then
                                                some (false, ())
                                              else
                                                bif !r43.2.1 then
                                                  some (false, ())
                                                else
                                                  bif !r42.1 then
                                                    some (false, ())
                                                  else
                                                    bif !decide ((List.length r5.1.2.2.2.1 : Int) = r3.1) then
                                                      some (false, ())
                                                    else
                                                      bif decide (r3.1 < r39.1) then
                                                        some (false, ())
                                                      else
                                                        bif decide (r3.1 < (List.length r40.1 : Int)) then
                                                          some (false, ())
                                                        else
                                                          bif decide (r3.1 > (List.length r43.1.2.2.2.1 : Int)) then
                                                            some (false, ())
                                                          else
                                                            bif r7.2.1 then
                                                              bif decide ((0 : Int) ≤ (List.length r41.1 : Int)) then
                                                                bif decide (r7.1 > (shlI .i64 1 (List.length r41.1 : Int))) then
                                                                  some (false, ())
                                                                else
                                                                  l_am_40 N r2.1.1 r2.1.2.1 r2.1.2.2.1 r2.1.2.2.2.1 r2.1.2.2.2.2.1 r2.1.2.2.2.2.2.1 r5.1.1 r5.1.2.1 r5.1.2.2.1 r5.1.2.2.2.1 0
                                                              else none
                                                            else
                                                              l_am_40 N r2.1.1 r2.1.2.1 r2.1.2.2.1 r2.1.2.2.2.1 r2.1.2.2.2.2.1 r2.1.2.2.2.2.2.1 r5.1.1 r5.1.2.1 r5.1.2.2.1 r5.1.2.2.2.1 0
                            else
                              Option.bind (P_cb (r2.1, ())) fun r31 =>
                              bif r7.2.1 then
                                bif !r31.2.1 then
                                  some (false, ())
                                else
                                  bif !(decide (r7.1 > 0) == r31.1) then
                                    some (false, ())
                                  else
                                    bif !r3.2.1 then
                                      some (true, ())
                                    else
                                      Option.bind (P_al (r2.1, ())) fun r36 =>
                                      Option.bind (P_by (r2.1, ())) fun r37 =>
                                      Option.bind (P_bz (r2.1, ())) fun r38 =>
                                      Option.bind (P_bq (r2.1, r5.1, ())) fun r39 =>
                                      Option.bind (P_bu (r2.1, ())) fun r40 =>
                                      bif !r36.2.1 then
                                        some (false, ())
                                      else
                                        bif !r37.2.1 then
                                          some (false, ())
                                        else
                                          bif !r38.2.1 then
                                            some (false, ())
                                          else
                                            bif !r39.2.1 then
                                              some (false, ())
                                            else
                                              bif !r40.2.1 then
                                                some (false, ())
                                              else
                                                bif !r39.1 then
                                                  some (false, ())
                                                else
                                                  bif !decide ((List.length r5.1.2.2.2.1 : Int) = r3.1) then
                                                    some (false, ())
                                                  else
                                                    bif decide (r3.1 < r36.1) then
                                                      some (false, ())
                                                    else
                                                      bif decide (r3.1 < (List.length r37.1 : Int)) then
                                                        some (false, ())
                                                      else
                                                        bif decide (r3.1 > (List.length r40.1.2.2.2.1 : Int)) then
                                                          some (false, ())
                                                        else
                                                          bif r7.2.1 then
                                                            bif decide ((0 : Int) ≤ (List.length r38.1 : Int)) then
                                                              bif decide (r7.1 > (shlI .i64 1 (List.length r38.1 : Int))) then
                                                                some (false, ())
                                                              else
                                                                l_am_40 N r2.1.1 r2.1.2.1 r2.1.2.2.1 r2.1.2.2.2.1 r2.1.2.2.2.2.1 r2.1.2.2.2.2.2.1 r5.1.1 r5.1.2.1 r5.1.2.2.1 r5.1.2.2.2.1 0
                                                            else none
                                                          else
                                                            l_am_40 N r2.1.1 r2.1.2.1 r2.1.2.2.1 r2.1.2.2.2.1 r2.1.2.2.2.2.1 r2.1.2.2.2.2.2.1 r5.1.1 r5.1.2.1 r5.1.2.2.1 r5.1.2.2.2.1 0
                              else
                                bif !r3.2.1 then
                                  some (true, ())
                                else
                                  Option.bind (P_al (r2.1, ())) fun r34 =>
                                  Option.bind (P_by (r2.1, ())) fun r35 =>
                                  Option.bind (P_bz (r2.1, ())) fun r36 =>
                                  Option.bind (P_bq (r2.1, r5.1, ())) fun r37 =>
                                  Option.bind (P_bu (r2.1, ())) fun r38 =>
                                  bif !r34.2.1 then
                                    some (false, ())
                                  else
                                    bif !r35.2.1 then
                                      some (false, ())
                                    else
                                      bif !r36.2.1 then
                                        some (false, ())
                                      else
                                        bif !r37.2.1 then
                                          some (false, ())
                                        else
                                          bif !r38.2.1 then
                                            some (false, ())
                                          else
                                            bif !r37.1 then
                                              some (false, ())
                                            else
                                              bif !decide ((List.length r5.1.2.2.2.1 : Int) = r3.1) then
                                                some (false, ())
                                              else
                                                bif decide (r3.1 < r34.1) then
                                                  some (false, ())
                                                else
                                                  bif decide (r3.1 < (List.length r35.1 : Int)) then
                                                    some (false, ())
                                                  else
                                                    bif decide (r3.1 > (List.length r38.1.2.2.2.1 : Int)) then
                                                      some (false, ())
                                                    else
                                                      bif r7.2.1 then
                                                        bif decide ((0 : Int) ≤ (List.length r36.1 : Int)) then
                                                          bif decide (r7.1 > (shlI .i64 1 (List.length r36.1 : Int))) then
                                                            some (false, ())
                                                          else
                                                            l_am_40 N r2.1.1 r2.1.2.1 r2.1.2.2.1 r2.1.2.2.2.1 r2.1.2.2.2.2.1 r2.1.2.2.2.2.2.1 r5.1.1 r5.1.2.1 r5.1.2.2.1 r5.1.2.2.2.1 0
                                                        else none
                                                      else
                                                        l_am_40 N r2.1.1 r2.1.2.1 r2.1.2.2.1 r2.1.2.2.2.1 r2.1.2.2.2.2.1 r2.1.2.2.2.2.2.1 r5.1.1 r5.1.2.1 r5.1.2.2.1 r5.1.2.2.2.1 0
                      else
                        Option.bind (P_cb (r2.1, ())) fun r25 =>
                        bif r7.2.1 then
                          bif !r25.2.1 then
                            some (false, ())
                          else
                            bif !(decide (r7.1 > 0) == r25.1) then
                              some (false, ())
                            else
                              bif !r3.2.1 then
                                some (true, ())
                              else
                                Option.bind (P_al (r2.1, ())) fun r30 =>
                                Option.bind (P_by (r2.1, ())) fun r31 =>
                                Option.bind (P_bz (r2.1, ())) fun r32 =>
                                Option.bind (P_bq (r2.1, r5.1, ())) fun r33 =>
                                Option.bind (P_bu (r2.1, ())) fun r34 =>
                                bif !r30.2.1 then
                                  some (false, ())
                                else
                                  bif !r31.2.1 then
                                    some (false, ())
                                  else
                                    bif !r32.2.1 then
                                      some (false, ())
                                    else
                                      bif !r33.2.1 then
                                        some (false, ())
                                      else
                                        bif !r34.2.1 then
                                          some (false, ())
                                        else
                                          bif !r33.1 then
                                            some (false, ())
                                          else
                                            bif !decide ((List.length r5.1.2.2.2.1 : Int) = r3.1) then
                                              some (false, ())
                                            else
                                              bif decide (r3.1 < r30.1) then
                                                some (false, ())
                                              else
                                                bif decide (r3.1 < (List.length r31.1 : Int)) then
                                                  some (false, ())
                                                else
                                                  bif decide (r3.1 > (List.length r34.1.2.2.2.1 : Int)) then
                                                    some (false, ())
                                                  else
                                                    bif r7.2.1 then
                                                      bif decide ((0 : Int) ≤ (List.length r32.1 : Int)) then
                                                        bif decide (r7.1 > (shlI .i64 1 (List.length r32.1 : Int))) then
                                                          some (false, ())
                                                        else
                                                          l_am_40 N r2.1.1 r2.1.2.1 r2.1.2.2.1 r2.1.2.2.2.1 r2.1.2.2.2.2.1 r2.1.2.2.2.2.2.1 r5.1.1 r5.1.2.1 r5.1.2.2.1 r5.1.2.2.2.1 0
                                                      else none
                                                    else
                                                      l_am_40 N r2.1.1 r2.1.2.1 r2.1.2.2.1 r2.1.2.2.2.1 r2.1.2.2.2.2.1 r2.1.2.2.2.2.2.1 r5.1.1 r5.1.2.1 r5.1.2.2.1 r5.1.2.2.2.1 0
                        else
                          bif !r3.2.1 then
                            some (true, ())
                          else
                            Option.bind (P_al (r2.1, ())) fun r28 =>
                            Option.bind (P_by (r2.1, ())) fun r29 =>
                            Option.bind (P_bz (r2.1, ())) fun r30 =>
                            Option.bind (P_bq (r2.1, r5.1, ())) fun r31 =>
                            Option.bind (P_bu (r2.1, ())) fun r32 =>
                            bif !r28.2.1 then
                              some (false, ())
                            else
                              bif !r29.2.1 then
                                some (false, ())
                              else
                                bif !r30.2.1 then
                                  some (false, ())
                                else
                                  bif !r31.2.1 then
                                    some (false, ())
                                  else
                                    bif !r32.2.1 then
                                      some (false, ())
                                    else
                                      bif !r31.1 then
                                        some (false, ())
                                      else
                                        bif !decide ((List.length r5.1.2.2.2.1 : Int) = r3.1) then
                                          some (false, ())
                                        else
                                          bif decide (r3.1 < r28.1) then
                                            some (false, ())
                                          else
                                            bif decide (r3.1 < (List.length r29.1 : Int)) then
                                              some (false, ())
                                            else
                                              bif decide (r3.1 > (List.length r32.1.2.2.2.1 : Int)) then
                                                some (false, ())
                                              else
                                                bif r7.2.1 then
                                                  bif decide ((0 : Int) ≤ (List.length r30.1 : Int)) then
                                                    bif decide (r7.1 > (shlI .i64 1 (List.length r30.1 : Int))) then
                                                      some (false, ())
                                                    else
                                                      l_am_40 N r2.1.1 r2.1.2.1 r2.1.2.2.1 r2.1.2.2.2.1 r2.1.2.2.2.2.1 r2.1.2.2.2.2.2.1 r5.1.1 r5.1.2.1 r5.1.2.2.1 r5.1.2.2.2.1 0
                                                  else none
                                                else
                                                  l_am_40 N r2.1.1 r2.1.2.1 r2.1.2.2.1 r2.1.2.2.2.1 r2.1.2.2.2.2.1 r2.1.2.2.2.2.2.1 r5.1.1 r5.1.2.1 r5.1.2.2.1 r5.1.2.2.2.1 0 := by
  rewrite [h_am, h_am_40]
  kernel_rfl
theorem q_am_40 (m0 : Nat) (p0 p1 p2 : Int) (p3 p4 p5 : List Int) (p6 p7 p8 : Int) (p9 : List D_A3) (p10 : Int) : l_am_40 (m0 + 1) p0 p1 p2 p3 p4 p5 p6 p7 p8 p9 p10 =
  bif decide (p10 < (List.length p9 : Int)) then
    bif inB p10 (List.length p9) then
      Option.bind (P_c7 ((p6, (p7, (p8, (p9, ())))), (nth T_A3 p9 p10), ())) fun r2 =>
      Option.bind (P_bq ((p0, (p1, (p2, (p3, (p4, (p5, ())))))), r2.1, ())) fun r3 =>
      bif !r2.2.1 then
        some (false, ())
      else
        bif !r3.2.1 then
          some (false, ())
        else
          bif r3.1 then
            some (false, ())
          else
            l_am_40 m0 p0 p1 p2 p3 p4 p5 p6 p7 p8 p9 (IntKind.wrap .i64 (p10 + 1))
    else none
  else
    some (true, ()) := by
  rewrite [h_am_40]
  kernel_rfl
end Go.VI
