/- What the functions of the seat compute: part 2. -/
import Derived.Test.YteelmankciamoaaG2p1
namespace Go.VI
open Go.Proofs
set_option maxRecDepth 100000

/- 102: loop.example/g01166/spec.l11Painted -/
abbrev As_spec_l11Painted : List ATy := [.data true T_Heap, .data true T_Heap, .data true T_A3]
abbrev R_spec_l11Painted : List (Bool × Ty) := [(false, (.int .i64))]
abbrev M_spec_l11Painted : List RMode := []
abbrev Ft_spec_l11Painted : Type := D_Heap × D_Heap × D_A3 × Unit → Option (Int × Unit)
noncomputable def X_spec_l11Painted (n : Nat) (F_spec_l2Has : Ft_spec_l2Has) (F_spec_l6Beside : Ft_spec_l6Beside) (F_spec_l6Steps : Ft_spec_l6Steps) : Ctx := { types := TT, globals := [], con := [(90, ⟨As_spec_l2Has, R_spec_l2Has, M_spec_l2Has, F_spec_l2Has⟩), (95, ⟨As_spec_l6Beside, R_spec_l6Beside, M_spec_l6Beside, F_spec_l6Beside⟩), (112, ⟨As_spec_l6Steps, R_spec_l6Steps, M_spec_l6Steps, F_spec_l6Steps⟩)], keep := [(3, ⟨[.box 3, .box 4, .box 5, .box 8, .tmp 3, .tmp 4, .tmp 5, .tmp 7, .tmp 8, .tmp 9], []⟩)], results := [.tmp 6], ntmps := 34, n := n }
noncomputable def B_spec_l11Painted : Code := (Try.f102.body).getD .skip
noncomputable def L_spec_l11Painted_3 (n : Nat) (F_spec_l2Has : Ft_spec_l2Has) (F_spec_l6Beside : Ft_spec_l6Beside) (F_spec_l6Steps : Ft_spec_l6Steps) (m0 : Nat) (p0 : Int) (p1 : Int) (p2 : Int) (p3 : List D_A3) (p4 : Int) (p5 : Int) (p6 : Int) (p7 : List D_A3) (p8 : Int) (p9 : Int) (p10 : Int) (p11 : Int) (p12 : Int) (p13 : Int) (p14 : Int) (p15 : Int) (p16 : Int) (p17 : Int) (p18 : Int) (p19 : Int) (p20 : Int) (p21 : Int) (p22 : Int) (p23 : Int) (p24 : Int) (p25 : Int) (p26 : Int) (p27 : Int) (p28 : Int) (p29 : Int) (p30 : Int) : Option (denL R_spec_l11Painted) := loopF (X_spec_l11Painted n F_spec_l2Has F_spec_l6Beside F_spec_l6Steps) B_spec_l11Painted R_spec_l11Painted M_spec_l11Painted 3 [m0] [(.ver, .num 1), (.box 3, .box 0 false [.int .i64 p0, .int .i64 p1, .int .i64 p2, .imm T_A3 p3 (some 3)]), (.box 4, .box 0 false [.int .i64 p4, .int .i64 p5, .int .i64 p6, .imm T_A3 p7 (some 7)]), (.box 5, .box 0 false [.int .i64 p8, .int .i64 p9, .int .i64 p10]), (.box 8, .box 0 false [.int .i64 p11, .int .i64 p12, .int .i64 p13, .int .i64 p14, .int .i64 p15, .int .i64 p16, .int .i64 p17, .int .i64 p18, .int .i64 p19, .int .i64 p20, .int .i64 p21, .int .i64 p22, .int .i64 p23, .int .i64 p24, .int .i64 p25, .int .i64 p26, .int .i64 p27, .int .i64 p28]), (.tmp 3, .val false [.addr 3 0 0]), (.tmp 4, .val false [.addr 4 0 0]), (.tmp 5, .val false [.addr 5 0 0]), (.tmp 7, .val false [.int .i64 p29]), (.tmp 8, .val false [.addr 8 0 0]), (.tmp 9, .val false [.int .i64 p30])]
theorem e_spec_l11Painted (n : Nat) (F_spec_l2Has : Ft_spec_l2Has) (F_spec_l6Beside : Ft_spec_l6Beside) (F_spec_l6Steps : Ft_spec_l6Steps) (a0 : D_Heap) (a1 : D_Heap) (a2 : D_A3) : runF (X_spec_l11Painted n F_spec_l2Has F_spec_l6Beside F_spec_l6Steps) B_spec_l11Painted As_spec_l11Painted R_spec_l11Painted M_spec_l11Painted (a0, a1, a2, ()) = 
  Option.bind (F_spec_l6Steps (())) fun r0 =>
  L_spec_l11Painted_3 n F_spec_l2Has F_spec_l6Beside F_spec_l6Steps n a0.1 a0.2.1 a0.2.2.1 a0.2.2.2.1 a1.1 a1.2.1 a1.2.2.1 a1.2.2.2.1 a2.1 a2.2.1 a2.2.2.1 r0.1.1.1 r0.1.1.2.1 r0.1.1.2.2.1 r0.1.2.1.1 r0.1.2.1.2.1 r0.1.2.1.2.2.1 r0.1.2.2.1.1 r0.1.2.2.1.2.1 r0.1.2.2.1.2.2.1 r0.1.2.2.2.1.1 r0.1.2.2.2.1.2.1 r0.1.2.2.2.1.2.2.1 r0.1.2.2.2.2.1.1 r0.1.2.2.2.2.1.2.1 r0.1.2.2.2.2.1.2.2.1 r0.1.2.2.2.2.2.1.1 r0.1.2.2.2.2.2.1.2.1 r0.1.2.2.2.2.2.1.2.2.1 0 0 := by kernel_rfl
theorem e_spec_l11Painted_3 (n : Nat) (F_spec_l2Has : Ft_spec_l2Has) (F_spec_l6Beside : Ft_spec_l6Beside) (F_spec_l6Steps : Ft_spec_l6Steps) (m0 : Nat) (p0 : Int) (p1 : Int) (p2 : Int) (p3 : List D_A3) (p4 : Int) (p5 : Int) (p6 : Int) (p7 : List D_A3) (p8 : Int) (p9 : Int) (p10 : Int) (p11 : Int) (p12 : Int) (p13 : Int) (p14 : Int) (p15 : Int) (p16 : Int) (p17 : Int) (p18 : Int) (p19 : Int) (p20 : Int) (p21 : Int) (p22 : Int) (p23 : Int) (p24 : Int) (p25 : Int) (p26 : Int) (p27 : Int) (p28 : Int) (p29 : Int) (p30 : Int) : L_spec_l11Painted_3 n F_spec_l2Has F_spec_l6Beside F_spec_l6Steps (m0 + 1) p0 p1 p2 p3 p4 p5 p6 p7 p8 p9 p10 p11 p12 p13 p14 p15 p16 p17 p18 p19 p20 p21 p22 p23 p24 p25 p26 p27 p28 p29 p30 = 
  bif decide (p30 < 6) then
    bif inB p30 6 then
      Option.bind (F_spec_l6Beside ((p8, (p9, (p10, ()))), ((bif decide (p30 = (0 : Int)) then p11 else (bif decide (p30 = (1 : Int)) then p14 else (bif decide (p30 = (2 : Int)) then p17 else (bif decide (p30 = (3 : Int)) then p20 else (bif decide (p30 = (4 : Int)) then p23 else p26))))), ((bif decide (p30 = (0 : Int)) then p12 else (bif decide (p30 = (1 : Int)) then p15 else (bif decide (p30 = (2 : Int)) then p18 else (bif decide (p30 = (3 : Int)) then p21 else (bif decide (p30 = (4 : Int)) then p24 else p27))))), ((bif decide (p30 = (0 : Int)) then p13 else (bif decide (p30 = (1 : Int)) then p16 else (bif decide (p30 = (2 : Int)) then p19 else (bif decide (p30 = (3 : Int)) then p22 else (bif decide (p30 = (4 : Int)) then p25 else p28))))), ()))), ())) fun r2 =>
      Option.bind (F_spec_l2Has ((p0, (p1, (p2, (p3, ())))), r2.1, ())) fun r3 =>
      bif !r3.1 then
        Option.bind (F_spec_l2Has ((p4, (p5, (p6, (p7, ())))), r2.1, ())) fun r5 =>
        bif !r5.1 then
          L_spec_l11Painted_3 n F_spec_l2Has F_spec_l6Beside F_spec_l6Steps m0 p0 p1 p2 p3 p4 p5 p6 p7 p8 p9 p10 p11 p12 p13 p14 p15 p16 p17 p18 p19 p20 p21 p22 p23 p24 p25 p26 p27 p28 (IntKind.wrap .i64 (p29 + 1)) (IntKind.wrap .i64 (p30 + 1))
        else
          L_spec_l11Painted_3 n F_spec_l2Has F_spec_l6Beside F_spec_l6Steps m0 p0 p1 p2 p3 p4 p5 p6 p7 p8 p9 p10 p11 p12 p13 p14 p15 p16 p17 p18 p19 p20 p21 p22 p23 p24 p25 p26 p27 p28 p29 (IntKind.wrap .i64 (p30 + 1))
      else
        L_spec_l11Painted_3 n F_spec_l2Has F_spec_l6Beside F_spec_l6Steps m0 p0 p1 p2 p3 p4 p5 p6 p7 p8 p9 p10 p11 p12 p13 p14 p15 p16 p17 p18 p19 p20 p21 p22 p23 p24 p25 p26 p27 p28 p29 (IntKind.wrap .i64 (p30 + 1))
    else none
  else
    some (p29, ()) := by kernel_rfl
noncomputable def P_spec_l11Painted : Ft_spec_l11Painted := hid (runF (X_spec_l11Painted N P_spec_l2Has P_spec_l6Beside P_spec_l6Steps) B_spec_l11Painted As_spec_l11Painted R_spec_l11Painted M_spec_l11Painted)
theorem h_spec_l11Painted : P_spec_l11Painted = runF (X_spec_l11Painted N P_spec_l2Has P_spec_l6Beside P_spec_l6Steps) B_spec_l11Painted As_spec_l11Painted R_spec_l11Painted M_spec_l11Painted := hid_eq _
noncomputable def C_spec_l11Painted : Contract := ⟨As_spec_l11Painted, R_spec_l11Painted, M_spec_l11Painted, P_spec_l11Painted⟩
theorem s_spec_l11Painted : Sound Try.prog GG 102 C_spec_l11Painted := by
  unfold C_spec_l11Painted; rw [h_spec_l11Painted]
  exact sound_of_run (fn := Try.f102) hmix hstable (tyOK_of ttOK) (hglob (X_spec_l11Painted N P_spec_l2Has P_spec_l6Beside P_spec_l6Steps)) (conOK_of (X := X_spec_l11Painted N P_spec_l2Has P_spec_l6Beside P_spec_l6Steps) ⟨s_spec_l2Has, s_spec_l6Beside, s_spec_l6Steps, trivial⟩) (mconOK_of (X := X_spec_l11Painted N P_spec_l2Has P_spec_l6Beside P_spec_l6Steps) trivial) (by kernel_rfl) (by kernel_rfl) (by kernel_rfl) (by kernel_rfl) (by kernel_rfl) (by decide)
noncomputable def l_spec_l11Painted_3 : Nat → Int → Int → Int → (List D_A3) → Int → Int → Int → (List D_A3) → Int → Int → Int → Int → Int → Int → Int → Int → Int → Int → Int → Int → Int → Int → Int → Int → Int → Int → Int → Int → Int → Int → Int → Option (denL R_spec_l11Painted) := hid (fun m0 p0 p1 p2 p3 p4 p5 p6 p7 p8 p9 p10 p11 p12 p13 p14 p15 p16 p17 p18 p19 p20 p21 p22 p23 p24 p25 p26 p27 p28 p29 p30 => L_spec_l11Painted_3 N P_spec_l2Has P_spec_l6Beside P_spec_l6Steps m0 p0 p1 p2 p3 p4 p5 p6 p7 p8 p9 p10 p11 p12 p13 p14 p15 p16 p17 p18 p19 p20 p21 p22 p23 p24 p25 p26 p27 p28 p29 p30)
theorem h_spec_l11Painted_3 : l_spec_l11Painted_3 = fun m0 p0 p1 p2 p3 p4 p5 p6 p7 p8 p9 p10 p11 p12 p13 p14 p15 p16 p17 p18 p19 p20 p21 p22 p23 p24 p25 p26 p27 p28 p29 p30 => L_spec_l11Painted_3 N P_spec_l2Has P_spec_l6Beside P_spec_l6Steps m0 p0 p1 p2 p3 p4 p5 p6 p7 p8 p9 p10 p11 p12 p13 p14 p15 p16 p17 p18 p19 p20 p21 p22 p23 p24 p25 p26 p27 p28 p29 p30 := hid_eq _
theorem p_spec_l11Painted (a0 : D_Heap) (a1 : D_Heap) (a2 : D_A3) : P_spec_l11Painted (a0, a1, a2, ()) = 
  Option.bind (P_spec_l6Steps (())) fun r0 =>
  l_spec_l11Painted_3 N a0.1 a0.2.1 a0.2.2.1 a0.2.2.2.1 a1.1 a1.2.1 a1.2.2.1 a1.2.2.2.1 a2.1 a2.2.1 a2.2.2.1 r0.1.1.1 r0.1.1.2.1 r0.1.1.2.2.1 r0.1.2.1.1 r0.1.2.1.2.1 r0.1.2.1.2.2.1 r0.1.2.2.1.1 r0.1.2.2.1.2.1 r0.1.2.2.1.2.2.1 r0.1.2.2.2.1.1 r0.1.2.2.2.1.2.1 r0.1.2.2.2.1.2.2.1 r0.1.2.2.2.2.1.1 r0.1.2.2.2.2.1.2.1 r0.1.2.2.2.2.1.2.2.1 r0.1.2.2.2.2.2.1.1 r0.1.2.2.2.2.2.1.2.1 r0.1.2.2.2.2.2.1.2.2.1 0 0 := by
  rewrite [h_spec_l11Painted, h_spec_l11Painted_3]
  exact e_spec_l11Painted N P_spec_l2Has P_spec_l6Beside P_spec_l6Steps a0 a1 a2
theorem q_spec_l11Painted_3 (m0 : Nat) (p0 : Int) (p1 : Int) (p2 : Int) (p3 : List D_A3) (p4 : Int) (p5 : Int) (p6 : Int) (p7 : List D_A3) (p8 : Int) (p9 : Int) (p10 : Int) (p11 : Int) (p12 : Int) (p13 : Int) (p14 : Int) (p15 : Int) (p16 : Int) (p17 : Int) (p18 : Int) (p19 : Int) (p20 : Int) (p21 : Int) (p22 : Int) (p23 : Int) (p24 : Int) (p25 : Int) (p26 : Int) (p27 : Int) (p28 : Int) (p29 : Int) (p30 : Int) : l_spec_l11Painted_3 (m0 + 1) p0 p1 p2 p3 p4 p5 p6 p7 p8 p9 p10 p11 p12 p13 p14 p15 p16 p17 p18 p19 p20 p21 p22 p23 p24 p25 p26 p27 p28 p29 p30 = 
  bif decide (p30 < 6) then
    bif inB p30 6 then
      Option.bind (P_spec_l6Beside ((p8, (p9, (p10, ()))), ((bif decide (p30 = (0 : Int)) then p11 else (bif decide (p30 = (1 : Int)) then p14 else (bif decide (p30 = (2 : Int)) then p17 else (bif decide (p30 = (3 : Int)) then p20 else (bif decide (p30 = (4 : Int)) then p23 else p26))))), ((bif decide (p30 = (0 : Int)) then p12 else (bif decide (p30 = (1 : Int)) then p15 else (bif decide (p30 = (2 : Int)) then p18 else (bif decide (p30 = (3 : Int)) then p21 else (bif decide (p30 = (4 : Int)) then p24 else p27))))), ((bif decide (p30 = (0 : Int)) then p13 else (bif decide (p30 = (1 : Int)) then p16 else (bif decide (p30 = (2 : Int)) then p19 else (bif decide (p30 = (3 : Int)) then p22 else (bif decide (p30 = (4 : Int)) then p25 else p28))))), ()))), ())) fun r2 =>
      Option.bind (P_spec_l2Has ((p0, (p1, (p2, (p3, ())))), r2.1, ())) fun r3 =>
      bif !r3.1 then
        Option.bind (P_spec_l2Has ((p4, (p5, (p6, (p7, ())))), r2.1, ())) fun r5 =>
        bif !r5.1 then
          l_spec_l11Painted_3 m0 p0 p1 p2 p3 p4 p5 p6 p7 p8 p9 p10 p11 p12 p13 p14 p15 p16 p17 p18 p19 p20 p21 p22 p23 p24 p25 p26 p27 p28 (IntKind.wrap .i64 (p29 + 1)) (IntKind.wrap .i64 (p30 + 1))
        else
          l_spec_l11Painted_3 m0 p0 p1 p2 p3 p4 p5 p6 p7 p8 p9 p10 p11 p12 p13 p14 p15 p16 p17 p18 p19 p20 p21 p22 p23 p24 p25 p26 p27 p28 p29 (IntKind.wrap .i64 (p30 + 1))
      else
        l_spec_l11Painted_3 m0 p0 p1 p2 p3 p4 p5 p6 p7 p8 p9 p10 p11 p12 p13 p14 p15 p16 p17 p18 p19 p20 p21 p22 p23 p24 p25 p26 p27 p28 p29 (IntKind.wrap .i64 (p30 + 1))
    else none
  else
    some (p29, ()) := by
  rewrite [h_spec_l11Painted_3]
  exact e_spec_l11Painted_3 N P_spec_l2Has P_spec_l6Beside P_spec_l6Steps m0 p0 p1 p2 p3 p4 p5 p6 p7 p8 p9 p10 p11 p12 p13 p14 p15 p16 p17 p18 p19 p20 p21 p22 p23 p24 p25 p26 p27 p28 p29 p30

/- 75: loop.example/g01166/spec.l11Peel -/
abbrev As_spec_l11Peel : List ATy := [.data true T_Heap, .data false .bool]
abbrev R_spec_l11Peel : List (Bool × Ty) := [(true, T_Heap)]
abbrev M_spec_l11Peel : List RMode := [.own 66]
abbrev Ft_spec_l11Peel : Type := D_Heap × Bool × Unit → Option (D_Heap × Unit)
noncomputable def X_spec_l11Peel (n : Nat) (F_spec_l2Empty : Ft_spec_l2Empty) (F_spec_l11Painted : Ft_spec_l11Painted) : Ctx := { types := TT, globals := [], con := [(100, ⟨As_spec_l2Empty, R_spec_l2Empty, M_spec_l2Empty, F_spec_l2Empty⟩), (102, ⟨As_spec_l11Painted, R_spec_l11Painted, M_spec_l11Painted, F_spec_l11Painted⟩)], keep := [(3, ⟨[.box 2, .box 4, .box 5, .box 6, .tmp 1, .tmp 2, .tmp 4, .tmp 5, .tmp 6, .tmp 7], []⟩)], results := [.cell 4 29], ntmps := 51, n := n }
noncomputable def B_spec_l11Peel : Code := (Try.f75.body).getD .skip
noncomputable def L_spec_l11Peel_3 (n : Nat) (F_spec_l2Empty : Ft_spec_l2Empty) (F_spec_l11Painted : Ft_spec_l11Painted) (m0 : Nat) (p0 : Int) (p1 : Int) (p2 : Int) (p3 : List D_A3) (p4 : Int) (p5 : Int) (p6 : Int) (p7 : List D_A3) (p8 : Int) (p9 : Int) (p10 : Int) (p11 : List D_A3) (p12 : Int) (p13 : Int) (p14 : Int) (p15 : List D_A3) (p16 : Bool) (p17 : Int) : Option (denL R_spec_l11Peel) := loopF (X_spec_l11Peel n F_spec_l2Empty F_spec_l11Painted) B_spec_l11Peel R_spec_l11Peel M_spec_l11Peel 3 [m0] [(.ver, .num 1), (.box 2, .box 0 false [.int .i64 p0, .int .i64 p1, .int .i64 p2, .imm T_A3 p3 (some 3)]), (.box 4, .box 0 false [.int .i64 p4, .int .i64 p5, .int .i64 p6, .own 66 T_A3 0 p7]), (.box 5, .box 0 false [.int .i64 p8, .int .i64 p9, .int .i64 p10, .own 66 T_A3 0 p11]), (.box 6, .box 0 false [.int .i64 p12, .int .i64 p13, .int .i64 p14, .own 66 T_A3 0 p15]), (.tmp 1, .val false [.bool p16]), (.tmp 2, .val false [.addr 2 0 0]), (.tmp 4, .val false [.addr 4 0 0]), (.tmp 5, .val false [.addr 5 0 0]), (.tmp 6, .val false [.addr 6 0 0]), (.tmp 7, .val false [.int .i64 p17])]
theorem e_spec_l11Peel (n : Nat) (F_spec_l2Empty : Ft_spec_l2Empty) (F_spec_l11Painted : Ft_spec_l11Painted) (a0 : D_Heap) (a1 : Bool) : runF (X_spec_l11Peel n F_spec_l2Empty F_spec_l11Painted) B_spec_l11Peel As_spec_l11Peel R_spec_l11Peel M_spec_l11Peel (a0, a1, ()) = 
  Option.bind (F_spec_l2Empty (a0.1, a0.2.1, a0.2.2.1, ())) fun r0 =>
  Option.bind (F_spec_l2Empty (a0.1, a0.2.1, a0.2.2.1, ())) fun r1 =>
  L_spec_l11Peel_3 n F_spec_l2Empty F_spec_l11Painted n a0.1 a0.2.1 a0.2.2.1 a0.2.2.2.1 0 0 0 ([] : List D_A3) r0.1.1 r0.1.2.1 r0.1.2.2.1 r0.1.2.2.2.1 r1.1.1 r1.1.2.1 r1.1.2.2.1 r1.1.2.2.2.1 a1 0 := by kernel_rfl
theorem e_spec_l11Peel_3 (n : Nat) (F_spec_l2Empty : Ft_spec_l2Empty) (F_spec_l11Painted : Ft_spec_l11Painted) (m0 : Nat) (p0 : Int) (p1 : Int) (p2 : Int) (p3 : List D_A3) (p4 : Int) (p5 : Int) (p6 : Int) (p7 : List D_A3) (p8 : Int) (p9 : Int) (p10 : Int) (p11 : List D_A3) (p12 : Int) (p13 : Int) (p14 : Int) (p15 : List D_A3) (p16 : Bool) (p17 : Int) : L_spec_l11Peel_3 n F_spec_l2Empty F_spec_l11Painted (m0 + 1) p0 p1 p2 p3 p4 p5 p6 p7 p8 p9 p10 p11 p12 p13 p14 p15 p16 p17 = 
  bif decide (p17 < (List.length p3 : Int)) then
    bif inB p17 (List.length p3) then
      Option.bind (F_spec_l11Painted ((p0, (p1, (p2, (p3, ())))), (p12, (p13, (p14, (p15, ())))), (nth T_A3 p3 p17), ())) fun r2 =>
      bif (decide (r2.1 > 0) == p16) then
        bif inB p17 (List.length p3) then
          bif (decide (((List.length p11) + (List.length ([(nth T_A3 p3 p17)] : List D_A3))) * 24 ≤ 140737488355328) && decide (((List.length p11) + (List.length ([(nth T_A3 p3 p17)] : List D_A3))) ≤ 140737488355328)) then
            L_spec_l11Peel_3 n F_spec_l2Empty F_spec_l11Painted m0 p0 p1 p2 p3 p4 p5 p6 p7 p8 p9 p10 (p11 ++ ([(nth T_A3 p3 p17)] : List D_A3)) p12 p13 p14 p15 p16 (IntKind.wrap .i64 (p17 + 1))
          else none
        else none
      else
        L_spec_l11Peel_3 n F_spec_l2Empty F_spec_l11Painted m0 p0 p1 p2 p3 p4 p5 p6 p7 p8 p9 p10 p11 p12 p13 p14 p15 p16 (IntKind.wrap .i64 (p17 + 1))
    else none
  else
    some ((p8, (p9, (p10, (p11, ())))), ()) := by kernel_rfl
noncomputable def P_spec_l11Peel : Ft_spec_l11Peel := hid (runF (X_spec_l11Peel N P_spec_l2Empty P_spec_l11Painted) B_spec_l11Peel As_spec_l11Peel R_spec_l11Peel M_spec_l11Peel)
theorem h_spec_l11Peel : P_spec_l11Peel = runF (X_spec_l11Peel N P_spec_l2Empty P_spec_l11Painted) B_spec_l11Peel As_spec_l11Peel R_spec_l11Peel M_spec_l11Peel := hid_eq _
noncomputable def C_spec_l11Peel : Contract := ⟨As_spec_l11Peel, R_spec_l11Peel, M_spec_l11Peel, P_spec_l11Peel⟩
theorem s_spec_l11Peel : Sound Try.prog GG 75 C_spec_l11Peel := by
  unfold C_spec_l11Peel; rw [h_spec_l11Peel]
  exact sound_of_run (fn := Try.f75) hmix hstable (tyOK_of ttOK) (hglob (X_spec_l11Peel N P_spec_l2Empty P_spec_l11Painted)) (conOK_of (X := X_spec_l11Peel N P_spec_l2Empty P_spec_l11Painted) ⟨s_spec_l2Empty, s_spec_l11Painted, trivial⟩) (mconOK_of (X := X_spec_l11Peel N P_spec_l2Empty P_spec_l11Painted) trivial) (by kernel_rfl) (by kernel_rfl) (by kernel_rfl) (by kernel_rfl) (by kernel_rfl) (by decide)
noncomputable def l_spec_l11Peel_3 : Nat → Int → Int → Int → (List D_A3) → Int → Int → Int → (List D_A3) → Int → Int → Int → (List D_A3) → Int → Int → Int → (List D_A3) → Bool → Int → Option (denL R_spec_l11Peel) := hid (fun m0 p0 p1 p2 p3 p4 p5 p6 p7 p8 p9 p10 p11 p12 p13 p14 p15 p16 p17 => L_spec_l11Peel_3 N P_spec_l2Empty P_spec_l11Painted m0 p0 p1 p2 p3 p4 p5 p6 p7 p8 p9 p10 p11 p12 p13 p14 p15 p16 p17)
theorem h_spec_l11Peel_3 : l_spec_l11Peel_3 = fun m0 p0 p1 p2 p3 p4 p5 p6 p7 p8 p9 p10 p11 p12 p13 p14 p15 p16 p17 => L_spec_l11Peel_3 N P_spec_l2Empty P_spec_l11Painted m0 p0 p1 p2 p3 p4 p5 p6 p7 p8 p9 p10 p11 p12 p13 p14 p15 p16 p17 := hid_eq _
theorem p_spec_l11Peel (a0 : D_Heap) (a1 : Bool) : P_spec_l11Peel (a0, a1, ()) = 
  Option.bind (P_spec_l2Empty (a0.1, a0.2.1, a0.2.2.1, ())) fun r0 =>
  Option.bind (P_spec_l2Empty (a0.1, a0.2.1, a0.2.2.1, ())) fun r1 =>
  l_spec_l11Peel_3 N a0.1 a0.2.1 a0.2.2.1 a0.2.2.2.1 0 0 0 ([] : List D_A3) r0.1.1 r0.1.2.1 r0.1.2.2.1 r0.1.2.2.2.1 r1.1.1 r1.1.2.1 r1.1.2.2.1 r1.1.2.2.2.1 a1 0 := by
  rewrite [h_spec_l11Peel, h_spec_l11Peel_3]
  exact e_spec_l11Peel N P_spec_l2Empty P_spec_l11Painted a0 a1
theorem q_spec_l11Peel_3 (m0 : Nat) (p0 : Int) (p1 : Int) (p2 : Int) (p3 : List D_A3) (p4 : Int) (p5 : Int) (p6 : Int) (p7 : List D_A3) (p8 : Int) (p9 : Int) (p10 : Int) (p11 : List D_A3) (p12 : Int) (p13 : Int) (p14 : Int) (p15 : List D_A3) (p16 : Bool) (p17 : Int) : l_spec_l11Peel_3 (m0 + 1) p0 p1 p2 p3 p4 p5 p6 p7 p8 p9 p10 p11 p12 p13 p14 p15 p16 p17 = 
  bif decide (p17 < (List.length p3 : Int)) then
    bif inB p17 (List.length p3) then
      Option.bind (P_spec_l11Painted ((p0, (p1, (p2, (p3, ())))), (p12, (p13, (p14, (p15, ())))), (nth T_A3 p3 p17), ())) fun r2 =>
      bif (decide (r2.1 > 0) == p16) then
        bif inB p17 (List.length p3) then
          bif (decide (((List.length p11) + (List.length ([(nth T_A3 p3 p17)] : List D_A3))) * 24 ≤ 140737488355328) && decide (((List.length p11) + (List.length ([(nth T_A3 p3 p17)] : List D_A3))) ≤ 140737488355328)) then
            l_spec_l11Peel_3 m0 p0 p1 p2 p3 p4 p5 p6 p7 p8 p9 p10 (p11 ++ ([(nth T_A3 p3 p17)] : List D_A3)) p12 p13 p14 p15 p16 (IntKind.wrap .i64 (p17 + 1))
          else none
        else none
      else
        l_spec_l11Peel_3 m0 p0 p1 p2 p3 p4 p5 p6 p7 p8 p9 p10 p11 p12 p13 p14 p15 p16 (IntKind.wrap .i64 (p17 + 1))
    else none
  else
    some ((p8, (p9, (p10, (p11, ())))), ()) := by
  rewrite [h_spec_l11Peel_3]
  exact e_spec_l11Peel_3 N P_spec_l2Empty P_spec_l11Painted m0 p0 p1 p2 p3 p4 p5 p6 p7 p8 p9 p10 p11 p12 p13 p14 p15 p16 p17

/- 103: loop.example/g01166/spec.l2All -/
abbrev As_spec_l2All : List ATy := [.data true T_Heap]
abbrev R_spec_l2All : List (Bool × Ty) := [(false, (.sl T_A3))]
abbrev M_spec_l2All : List RMode := [.own 66]
abbrev Ft_spec_l2All : Type := D_Heap × Unit → Option ((List D_A3) × Unit)
noncomputable def X_spec_l2All (n : Nat) : Ctx := { types := TT, globals := [], con := [], keep := [(3, ⟨[.box 1, .tmp 1, .tmp 3, .tmp 4], []⟩), (6, ⟨[.box 1, .tmp 1, .tmp 3, .tmp 4, .tmp 5], []⟩), (9, ⟨[.box 1, .tmp 1, .tmp 3, .tmp 4, .tmp 5, .tmp 6], []⟩)], results := [.tmp 2], ntmps := 34, n := n }
noncomputable def B_spec_l2All : Code := (Try.f103.body).getD .skip
noncomputable def L_spec_l2All_3 (n : Nat) (m0 : Nat) (p0 : Int) (p1 : Int) (p2 : Int) (p3 : List D_A3) (p4 : List D_A3) (p5 : Int) : Option (denL R_spec_l2All) := loopF (X_spec_l2All n) B_spec_l2All R_spec_l2All M_spec_l2All 3 [m0] [(.ver, .num 1), (.box 1, .box 0 false [.int .i64 p0, .int .i64 p1, .int .i64 p2, .imm T_A3 p3 (some 3)]), (.tmp 1, .val false [.addr 1 0 0]), (.tmp 3, .val false [.own 66 T_A3 0 p4]), (.tmp 4, .val false [.int .i64 p5])]
noncomputable def L_spec_l2All_6 (n : Nat) (m0 m1 : Nat) (p0 : Int) (p1 : Int) (p2 : Int) (p3 : List D_A3) (p4 : List D_A3) (p5 : Int) (p6 : Int) : Option (denL R_spec_l2All) := loopF (X_spec_l2All n) B_spec_l2All R_spec_l2All M_spec_l2All 6 [m0, m1] [(.ver, .num 1), (.box 1, .box 0 false [.int .i64 p0, .int .i64 p1, .int .i64 p2, .imm T_A3 p3 (some 3)]), (.tmp 1, .val false [.addr 1 0 0]), (.tmp 3, .val false [.own 66 T_A3 0 p4]), (.tmp 4, .val false [.int .i64 p5]), (.tmp 5, .val false [.int .i64 p6])]
noncomputable def L_spec_l2All_9 (n : Nat) (m0 m1 m2 : Nat) (p0 : Int) (p1 : Int) (p2 : Int) (p3 : List D_A3) (p4 : List D_A3) (p5 : Int) (p6 : Int) (p7 : Int) : Option (denL R_spec_l2All) := loopF (X_spec_l2All n) B_spec_l2All R_spec_l2All M_spec_l2All 9 [m0, m1, m2] [(.ver, .num 1), (.box 1, .box 0 false [.int .i64 p0, .int .i64 p1, .int .i64 p2, .imm T_A3 p3 (some 3)]), (.tmp 1, .val false [.addr 1 0 0]), (.tmp 3, .val false [.own 66 T_A3 0 p4]), (.tmp 4, .val false [.int .i64 p5]), (.tmp 5, .val false [.int .i64 p6]), (.tmp 6, .val false [.int .i64 p7])]
theorem e_spec_l2All (n : Nat) (a0 : D_Heap) : runF (X_spec_l2All n) B_spec_l2All As_spec_l2All R_spec_l2All M_spec_l2All (a0, ()) = 
  L_spec_l2All_3 n n a0.1 a0.2.1 a0.2.2.1 a0.2.2.2.1 ([] : List D_A3) 0 := by kernel_rfl
theorem e_spec_l2All_3 (n : Nat) (m0 : Nat) (p0 : Int) (p1 : Int) (p2 : Int) (p3 : List D_A3) (p4 : List D_A3) (p5 : Int) : L_spec_l2All_3 n (m0 + 1) p0 p1 p2 p3 p4 p5 = 
  bif decide (p5 < p0) then
    L_spec_l2All_6 n m0 n p0 p1 p2 p3 p4 p5 0
  else
    some (p4, ()) := by kernel_rfl
theorem e_spec_l2All_6 (n : Nat) (m0 m1 : Nat) (p0 : Int) (p1 : Int) (p2 : Int) (p3 : List D_A3) (p4 : List D_A3) (p5 : Int) (p6 : Int) : L_spec_l2All_6 n m0 (m1 + 1) p0 p1 p2 p3 p4 p5 p6 = 
  bif decide (p6 < p1) then
    L_spec_l2All_9 n m0 m1 n p0 p1 p2 p3 p4 p5 p6 0
  else
    L_spec_l2All_3 n m0 p0 p1 p2 p3 p4 (IntKind.wrap .i64 (p5 + 1)) := by kernel_rfl
theorem e_spec_l2All_9 (n : Nat) (m0 m1 m2 : Nat) (p0 : Int) (p1 : Int) (p2 : Int) (p3 : List D_A3) (p4 : List D_A3) (p5 : Int) (p6 : Int) (p7 : Int) : L_spec_l2All_9 n m0 m1 (m2 + 1) p0 p1 p2 p3 p4 p5 p6 p7 = 
  bif decide (p7 < p2) then
    bif (decide (((List.length p4) + (List.length ([(p5, (p6, (p7, ())))] : List D_A3))) * 24 ≤ 140737488355328) && decide (((List.length p4) + (List.length ([(p5, (p6, (p7, ())))] : List D_A3))) ≤ 140737488355328)) then
      L_spec_l2All_9 n m0 m1 m2 p0 p1 p2 p3 (p4 ++ ([(p5, (p6, (p7, ())))] : List D_A3)) p5 p6 (IntKind.wrap .i64 (p7 + 1))
    else none
  else
    L_spec_l2All_6 n m0 m1 p0 p1 p2 p3 p4 p5 (IntKind.wrap .i64 (p6 + 1)) := by kernel_rfl
noncomputable def P_spec_l2All : Ft_spec_l2All := hid (runF (X_spec_l2All N) B_spec_l2All As_spec_l2All R_spec_l2All M_spec_l2All)
theorem h_spec_l2All : P_spec_l2All = runF (X_spec_l2All N) B_spec_l2All As_spec_l2All R_spec_l2All M_spec_l2All := hid_eq _
noncomputable def C_spec_l2All : Contract := ⟨As_spec_l2All, R_spec_l2All, M_spec_l2All, P_spec_l2All⟩
theorem s_spec_l2All : Sound Try.prog GG 103 C_spec_l2All := by
  unfold C_spec_l2All; rw [h_spec_l2All]
  exact sound_of_run (fn := Try.f103) hmix hstable (tyOK_of ttOK) (hglob (X_spec_l2All N)) (conOK_of (X := X_spec_l2All N) trivial) (mconOK_of (X := X_spec_l2All N) trivial) (by kernel_rfl) (by kernel_rfl) (by kernel_rfl) (by kernel_rfl) (by kernel_rfl) (by decide)
noncomputable def l_spec_l2All_3 : Nat → Int → Int → Int → (List D_A3) → (List D_A3) → Int → Option (denL R_spec_l2All) := hid (fun m0 p0 p1 p2 p3 p4 p5 => L_spec_l2All_3 N m0 p0 p1 p2 p3 p4 p5)
theorem h_spec_l2All_3 : l_spec_l2All_3 = fun m0 p0 p1 p2 p3 p4 p5 => L_spec_l2All_3 N m0 p0 p1 p2 p3 p4 p5 := hid_eq _
noncomputable def l_spec_l2All_6 : Nat → Nat → Int → Int → Int → (List D_A3) → (List D_A3) → Int → Int → Option (denL R_spec_l2All) := hid (fun m0 m1 p0 p1 p2 p3 p4 p5 p6 => L_spec_l2All_6 N m0 m1 p0 p1 p2 p3 p4 p5 p6)
theorem h_spec_l2All_6 : l_spec_l2All_6 = fun m0 m1 p0 p1 p2 p3 p4 p5 p6 => L_spec_l2All_6 N m0 m1 p0 p1 p2 p3 p4 p5 p6 := hid_eq _
noncomputable def l_spec_l2All_9 : Nat → Nat → Nat → Int → Int → Int → (List D_A3) → (List D_A3) → Int → Int → Int → Option (denL R_spec_l2All) := hid (fun m0 m1 m2 p0 p1 p2 p3 p4 p5 p6 p7 => L_spec_l2All_9 N m0 m1 m2 p0 p1 p2 p3 p4 p5 p6 p7)
theorem h_spec_l2All_9 : l_spec_l2All_9 = fun m0 m1 m2 p0 p1 p2 p3 p4 p5 p6 p7 => L_spec_l2All_9 N m0 m1 m2 p0 p1 p2 p3 p4 p5 p6 p7 := hid_eq _
theorem p_spec_l2All (a0 : D_Heap) : P_spec_l2All (a0, ()) = 
  l_spec_l2All_3 N a0.1 a0.2.1 a0.2.2.1 a0.2.2.2.1 ([] : List D_A3) 0 := by
  rewrite [h_spec_l2All, h_spec_l2All_3]
  exact e_spec_l2All N a0
theorem q_spec_l2All_3 (m0 : Nat) (p0 : Int) (p1 : Int) (p2 : Int) (p3 : List D_A3) (p4 : List D_A3) (p5 : Int) : l_spec_l2All_3 (m0 + 1) p0 p1 p2 p3 p4 p5 = 
  bif decide (p5 < p0) then
    l_spec_l2All_6 m0 N p0 p1 p2 p3 p4 p5 0
  else
    some (p4, ()) := by
  rewrite [h_spec_l2All_3, h_spec_l2All_6]
  exact e_spec_l2All_3 N m0 p0 p1 p2 p3 p4 p5
theorem q_spec_l2All_6 (m0 m1 : Nat) (p0 : Int) (p1 : Int) (p2 : Int) (p3 : List D_A3) (p4 : List D_A3) (p5 : Int) (p6 : Int) : l_spec_l2All_6 m0 (m1 + 1) p0 p1 p2 p3 p4 p5 p6 = 
  bif decide (p6 < p1) then
    l_spec_l2All_9 m0 m1 N p0 p1 p2 p3 p4 p5 p6 0
  else
    l_spec_l2All_3 m0 p0 p1 p2 p3 p4 (IntKind.wrap .i64 (p5 + 1)) := by
  rewrite [h_spec_l2All_3, h_spec_l2All_6, h_spec_l2All_9]
  exact e_spec_l2All_6 N m0 m1 p0 p1 p2 p3 p4 p5 p6
theorem q_spec_l2All_9 (m0 m1 m2 : Nat) (p0 : Int) (p1 : Int) (p2 : Int) (p3 : List D_A3) (p4 : List D_A3) (p5 : Int) (p6 : Int) (p7 : Int) : l_spec_l2All_9 m0 m1 (m2 + 1) p0 p1 p2 p3 p4 p5 p6 p7 = 
  bif decide (p7 < p2) then
    bif (decide (((List.length p4) + (List.length ([(p5, (p6, (p7, ())))] : List D_A3))) * 24 ≤ 140737488355328) && decide (((List.length p4) + (List.length ([(p5, (p6, (p7, ())))] : List D_A3))) ≤ 140737488355328)) then
      l_spec_l2All_9 m0 m1 m2 p0 p1 p2 p3 (p4 ++ ([(p5, (p6, (p7, ())))] : List D_A3)) p5 p6 (IntKind.wrap .i64 (p7 + 1))
    else none
  else
    l_spec_l2All_6 m0 m1 p0 p1 p2 p3 p4 p5 (IntKind.wrap .i64 (p6 + 1)) := by
  rewrite [h_spec_l2All_6, h_spec_l2All_9]
  exact e_spec_l2All_9 N m0 m1 m2 p0 p1 p2 p3 p4 p5 p6 p7

/- 76: loop.example/g01166/spec.l2Box -/
abbrev As_spec_l2Box : List ATy := [.data false (.int .i64), .data false (.int .i64), .data false (.int .i64)]
abbrev R_spec_l2Box : List (Bool × Ty) := [(true, T_Heap)]
abbrev M_spec_l2Box : List RMode := [.own 66]
abbrev Ft_spec_l2Box : Type := Int × Int × Int × Unit → Option (D_Heap × Unit)
noncomputable def X_spec_l2Box (n : Nat) (F_spec_l2Empty : Ft_spec_l2Empty) (F_spec_l2All : Ft_spec_l2All) : Ctx := { types := TT, globals := [], con := [(100, ⟨As_spec_l2Empty, R_spec_l2Empty, M_spec_l2Empty, F_spec_l2Empty⟩), (103, ⟨As_spec_l2All, R_spec_l2All, M_spec_l2All, F_spec_l2All⟩)], keep := [], results := [.cell 6 29], ntmps := 16, n := n }
noncomputable def B_spec_l2Box : Code := (Try.f76.body).getD .skip
theorem e_spec_l2Box (n : Nat) (F_spec_l2Empty : Ft_spec_l2Empty) (F_spec_l2All : Ft_spec_l2All) (a0 : Int) (a1 : Int) (a2 : Int) : runF (X_spec_l2Box n F_spec_l2Empty F_spec_l2All) B_spec_l2Box As_spec_l2Box R_spec_l2Box M_spec_l2Box (a0, a1, a2, ()) = 
  Option.bind (F_spec_l2Empty (a0, a1, a2, ())) fun r0 =>
  Option.bind (F_spec_l2All (r0.1, ())) fun r1 =>
  some ((r0.1.1, (r0.1.2.1, (r0.1.2.2.1, (r1.1, ())))), ()) := by kernel_rfl
noncomputable def P_spec_l2Box : Ft_spec_l2Box := hid (runF (X_spec_l2Box N P_spec_l2Empty P_spec_l2All) B_spec_l2Box As_spec_l2Box R_spec_l2Box M_spec_l2Box)
theorem h_spec_l2Box : P_spec_l2Box = runF (X_spec_l2Box N P_spec_l2Empty P_spec_l2All) B_spec_l2Box As_spec_l2Box R_spec_l2Box M_spec_l2Box := hid_eq _
noncomputable def C_spec_l2Box : Contract := ⟨As_spec_l2Box, R_spec_l2Box, M_spec_l2Box, P_spec_l2Box⟩
theorem s_spec_l2Box : Sound Try.prog GG 76 C_spec_l2Box := by
  unfold C_spec_l2Box; rw [h_spec_l2Box]
  exact sound_of_run (fn := Try.f76) hmix hstable (tyOK_of ttOK) (hglob (X_spec_l2Box N P_spec_l2Empty P_spec_l2All)) (conOK_of (X := X_spec_l2Box N P_spec_l2Empty P_spec_l2All) ⟨s_spec_l2Empty, s_spec_l2All, trivial⟩) (mconOK_of (X := X_spec_l2Box N P_spec_l2Empty P_spec_l2All) trivial) (by kernel_rfl) (by kernel_rfl) (by kernel_rfl) (by kernel_rfl) (by kernel_rfl) (by decide)
theorem p_spec_l2Box (a0 : Int) (a1 : Int) (a2 : Int) : P_spec_l2Box (a0, a1, a2, ()) = 
  Option.bind (P_spec_l2Empty (a0, a1, a2, ())) fun r0 =>
  Option.bind (P_spec_l2All (r0.1, ())) fun r1 =>
  some ((r0.1.1, (r0.1.2.1, (r0.1.2.2.1, (r1.1, ())))), ()) := by
  rewrite [h_spec_l2Box]
  exact e_spec_l2Box N P_spec_l2Empty P_spec_l2All a0 a1 a2

/- 35: loop.example/g01166/spec.ShellHeap -/
abbrev As_spec_ShellHeap : List ATy := [.data false (.int .i64), .data false (.int .i64), .data false (.int .i64)]
abbrev R_spec_ShellHeap : List (Bool × Ty) := [(true, T_Heap), (false, .bool)]
abbrev M_spec_ShellHeap : List RMode := [.own 66]
abbrev Ft_spec_ShellHeap : Type := Int × Int × Int × Unit → Option (D_Heap × Bool × Unit)
noncomputable def X_spec_ShellHeap (n : Nat) (F_spec_l2Sides : Ft_spec_l2Sides) (F_spec_l11Peel : Ft_spec_l11Peel) (F_spec_l2Box : Ft_spec_l2Box) : Ctx := { types := TT, globals := [], con := [(74, ⟨As_spec_l2Sides, R_spec_l2Sides, M_spec_l2Sides, F_spec_l2Sides⟩), (75, ⟨As_spec_l11Peel, R_spec_l11Peel, M_spec_l11Peel, F_spec_l11Peel⟩), (76, ⟨As_spec_l2Box, R_spec_l2Box, M_spec_l2Box, F_spec_l2Box⟩)], keep := [], results := [.cell 6 29, .tmp 7], ntmps := 19, n := n }
noncomputable def B_spec_ShellHeap : Code := (Try.f35.body).getD .skip
theorem e_spec_ShellHeap (n : Nat) (F_spec_l2Sides : Ft_spec_l2Sides) (F_spec_l11Peel : Ft_spec_l11Peel) (F_spec_l2Box : Ft_spec_l2Box) (a0 : Int) (a1 : Int) (a2 : Int) : runF (X_spec_ShellHeap n F_spec_l2Sides F_spec_l11Peel F_spec_l2Box) B_spec_ShellHeap As_spec_ShellHeap R_spec_ShellHeap M_spec_ShellHeap (a0, a1, a2, ()) = 
  Option.bind (F_spec_l2Sides (a0, a1, a2, ())) fun r0 =>
  bif !r0.1 then
    some ((0, (0, (0, (([] : List D_A3), ())))), false, ())
  else
    Option.bind (F_spec_l2Box (a0, a1, a2, ())) fun r2 =>
    Option.bind (F_spec_l11Peel (r2.1, true, ())) fun r3 =>
    some (r3.1, true, ()) := by kernel_rfl
noncomputable def P_spec_ShellHeap : Ft_spec_ShellHeap := hid (runF (X_spec_ShellHeap N P_spec_l2Sides P_spec_l11Peel P_spec_l2Box) B_spec_ShellHeap As_spec_ShellHeap R_spec_ShellHeap M_spec_ShellHeap)
theorem h_spec_ShellHeap : P_spec_ShellHeap = runF (X_spec_ShellHeap N P_spec_l2Sides P_spec_l11Peel P_spec_l2Box) B_spec_ShellHeap As_spec_ShellHeap R_spec_ShellHeap M_spec_ShellHeap := hid_eq _
noncomputable def C_spec_ShellHeap : Contract := ⟨As_spec_ShellHeap, R_spec_ShellHeap, M_spec_ShellHeap, P_spec_ShellHeap⟩
theorem s_spec_ShellHeap : Sound Try.prog GG 35 C_spec_ShellHeap := by
  unfold C_spec_ShellHeap; rw [h_spec_ShellHeap]
  exact sound_of_run (fn := Try.f35) hmix hstable (tyOK_of ttOK) (hglob (X_spec_ShellHeap N P_spec_l2Sides P_spec_l11Peel P_spec_l2Box)) (conOK_of (X := X_spec_ShellHeap N P_spec_l2Sides P_spec_l11Peel P_spec_l2Box) ⟨s_spec_l2Sides, s_spec_l11Peel, s_spec_l2Box, trivial⟩) (mconOK_of (X := X_spec_ShellHeap N P_spec_l2Sides P_spec_l11Peel P_spec_l2Box) trivial) (by kernel_rfl) (by kernel_rfl) (by kernel_rfl) (by kernel_rfl) (by kernel_rfl) (by decide)
theorem p_spec_ShellHeap (a0 : Int) (a1 : Int) (a2 : Int) : P_spec_ShellHeap (a0, a1, a2, ()) = 
  Option.bind (P_spec_l2Sides (a0, a1, a2, ())) fun r0 =>
  bif !r0.1 then
    some ((0, (0, (0, (([] : List D_A3), ())))), false, ())
  else
    Option.bind (P_spec_l2Box (a0, a1, a2, ())) fun r2 =>
    Option.bind (P_spec_l11Peel (r2.1, true, ())) fun r3 =>
    some (r3.1, true, ()) := by
  rewrite [h_spec_ShellHeap]
  exact e_spec_ShellHeap N P_spec_l2Sides P_spec_l11Peel P_spec_l2Box a0 a1 a2

/- 104: (loop.example/g01166/impl.box).full -/
abbrev As_box_full : List ATy := [.data true T_A3]
abbrev R_box_full : List (Bool × Ty) := [(false, (.int .u64))]
abbrev M_box_full : List RMode := []
abbrev Ft_box_full : Type := D_A3 × Unit → Option (Int × Unit)
noncomputable def X_box_full (n : Nat) (F_box_size : Ft_box_size) : Ctx := { types := TT, globals := [], con := [(110, ⟨As_box_size, R_box_size, M_box_size, F_box_size⟩)], keep := [], results := [.tmp 2], ntmps := 7, n := n }
noncomputable def B_box_full : Code := (Try.f104.body).getD .skip
theorem e_box_full (n : Nat) (F_box_size : Ft_box_size) (a0 : D_A3) : runF (X_box_full n F_box_size) B_box_full As_box_full R_box_full M_box_full (a0, ()) = 
  Option.bind (F_box_size (a0, ())) fun r0 =>
  bif decide ((0 : Int) ≤ r0.1) then
    some ((IntKind.wrap .u64 ((shlI .u64 1 r0.1) - 1)), ())
  else none := by kernel_rfl
noncomputable def P_box_full : Ft_box_full := hid (runF (X_box_full N P_box_size) B_box_full As_box_full R_box_full M_box_full)
theorem h_box_full : P_box_full = runF (X_box_full N P_box_size) B_box_full As_box_full R_box_full M_box_full := hid_eq _
noncomputable def C_box_full : Contract := ⟨As_box_full, R_box_full, M_box_full, P_box_full⟩
theorem s_box_full : Sound Try.prog GG 104 C_box_full := by
  unfold C_box_full; rw [h_box_full]
  exact sound_of_run (fn := Try.f104) hmix hstable (tyOK_of ttOK) (hglob (X_box_full N P_box_size)) (conOK_of (X := X_box_full N P_box_size) ⟨s_box_size, trivial⟩) (mconOK_of (X := X_box_full N P_box_size) trivial) (by kernel_rfl) (by kernel_rfl) (by kernel_rfl) (by kernel_rfl) (by kernel_rfl) (by decide)
theorem p_box_full (a0 : D_A3) : P_box_full (a0, ()) = 
  Option.bind (P_box_size (a0, ())) fun r0 =>
  bif decide ((0 : Int) ≤ r0.1) then
    some ((IntKind.wrap .u64 ((shlI .u64 1 r0.1) - 1)), ())
  else none := by
  rewrite [h_box_full]
  exact e_box_full N P_box_size a0

/- 77: loop.example/g01166/impl.FullHeap -/
abbrev As_impl_FullHeap : List ATy := [.data false (.int .i64), .data false (.int .i64), .data false (.int .i64)]
abbrev R_impl_FullHeap : List (Bool × Ty) := [(true, T_Heap), (false, .bool)]
abbrev M_impl_FullHeap : List RMode := [.own 66]
abbrev Ft_impl_FullHeap : Type := Int × Int × Int × Unit → Option (D_Heap × Bool × Unit)
noncomputable def X_impl_FullHeap (n : Nat) (F_box_heap : Ft_box_heap) (F_box_valid : Ft_box_valid) (F_box_full : Ft_box_full) : Ctx := { types := TT, globals := [], con := [(72, ⟨As_box_heap, R_box_heap, M_box_heap, F_box_heap⟩), (85, ⟨As_box_valid, R_box_valid, M_box_valid, F_box_valid⟩), (104, ⟨As_box_full, R_box_full, M_box_full, F_box_full⟩)], keep := [], results := [.cell 6 29, .tmp 7], ntmps := 21, n := n }
noncomputable def B_impl_FullHeap : Code := (Try.f77.body).getD .skip
theorem e_impl_FullHeap (n : Nat) (F_box_heap : Ft_box_heap) (F_box_valid : Ft_box_valid) (F_box_full : Ft_box_full) (a0 : Int) (a1 : Int) (a2 : Int) : runF (X_impl_FullHeap n F_box_heap F_box_valid F_box_full) B_impl_FullHeap As_impl_FullHeap R_impl_FullHeap M_impl_FullHeap (a0, a1, a2, ()) = 
  Option.bind (F_box_valid ((a0, (a1, (a2, ()))), ())) fun r0 =>
  bif !r0.1 then
    some ((0, (0, (0, (([] : List D_A3), ())))), false, ())
  else
    Option.bind (F_box_full ((a0, (a1, (a2, ()))), ())) fun r2 =>
    Option.bind (F_box_heap ((a0, (a1, (a2, ()))), r2.1, ())) fun r3 =>
    some (r3.1, true, ()) := by kernel_rfl
noncomputable def P_impl_FullHeap : Ft_impl_FullHeap := hid (runF (X_impl_FullHeap N P_box_heap P_box_valid P_box_full) B_impl_FullHeap As_impl_FullHeap R_impl_FullHeap M_impl_FullHeap)
theorem h_impl_FullHeap : P_impl_FullHeap = runF (X_impl_FullHeap N P_box_heap P_box_valid P_box_full) B_impl_FullHeap As_impl_FullHeap R_impl_FullHeap M_impl_FullHeap := hid_eq _
noncomputable def C_impl_FullHeap : Contract := ⟨As_impl_FullHeap, R_impl_FullHeap, M_impl_FullHeap, P_impl_FullHeap⟩
theorem s_impl_FullHeap : Sound Try.prog GG 77 C_impl_FullHeap := by
  unfold C_impl_FullHeap; rw [h_impl_FullHeap]
  exact sound_of_run (fn := Try.f77) hmix hstable (tyOK_of ttOK) (hglob (X_impl_FullHeap N P_box_heap P_box_valid P_box_full)) (conOK_of (X := X_impl_FullHeap N P_box_heap P_box_valid P_box_full) ⟨s_box_heap, s_box_valid, s_box_full, trivial⟩) (mconOK_of (X := X_impl_FullHeap N P_box_heap P_box_valid P_box_full) trivial) (by kernel_rfl) (by kernel_rfl) (by kernel_rfl) (by kernel_rfl) (by kernel_rfl) (by decide)
theorem p_impl_FullHeap (a0 : Int) (a1 : Int) (a2 : Int) : P_impl_FullHeap (a0, a1, a2, ()) = 
  Option.bind (P_box_valid ((a0, (a1, (a2, ()))), ())) fun r0 =>
  bif !r0.1 then
    some ((0, (0, (0, (([] : List D_A3), ())))), false, ())
  else
    Option.bind (P_box_full ((a0, (a1, (a2, ()))), ())) fun r2 =>
    Option.bind (P_box_heap ((a0, (a1, (a2, ()))), r2.1, ())) fun r3 =>
    some (r3.1, true, ()) := by
  rewrite [h_impl_FullHeap]
  exact e_impl_FullHeap N P_box_heap P_box_valid P_box_full a0 a1 a2

/- 114: loop.example/g01166/impl.beyond -/
abbrev As_impl_beyond : List ATy := [.data true T_A3, .data false (.int .i64)]
abbrev R_impl_beyond : List (Bool × Ty) := [(true, T_A3)]
abbrev M_impl_beyond : List RMode := []
abbrev Ft_impl_beyond : Type := D_A3 × Int × Unit → Option (D_A3 × Unit)
noncomputable def X_impl_beyond (n : Nat) : Ctx := { types := TT, globals := [], con := [], keep := [], results := [.cell 4 66], ntmps := 16, n := n }
noncomputable def B_impl_beyond : Code := (Try.f114.body).getD .skip
theorem e_impl_beyond (n : Nat) (a0 : D_A3) (a1 : Int) : runF (X_impl_beyond n) B_impl_beyond As_impl_beyond R_impl_beyond M_impl_beyond (a0, a1, ()) = 
  bif inB (IntKind.wrap .i64 (Int.tdiv a1 2)) 3 then
    bif inB (IntKind.wrap .i64 (Int.tdiv a1 2)) 3 then
      some (((bif decide ((IntKind.wrap .i64 (Int.tdiv a1 2)) = (0 : Int)) then (IntKind.wrap .i64 ((bif decide ((IntKind.wrap .i64 (Int.tdiv a1 2)) = (0 : Int)) then a0.1 else (bif decide ((IntKind.wrap .i64 (Int.tdiv a1 2)) = (1 : Int)) then a0.2.1 else a0.2.2.1)) + (IntKind.wrap .i64 ((IntKind.wrap .i64 (2 * (Int.tmod a1 2))) - 1)))) else a0.1), ((bif decide ((IntKind.wrap .i64 (Int.tdiv a1 2)) = (1 : Int)) then (IntKind.wrap .i64 ((bif decide ((IntKind.wrap .i64 (Int.tdiv a1 2)) = (0 : Int)) then a0.1 else (bif decide ((IntKind.wrap .i64 (Int.tdiv a1 2)) = (1 : Int)) then a0.2.1 else a0.2.2.1)) + (IntKind.wrap .i64 ((IntKind.wrap .i64 (2 * (Int.tmod a1 2))) - 1)))) else a0.2.1), ((bif decide ((IntKind.wrap .i64 (Int.tdiv a1 2)) = (2 : Int)) then (IntKind.wrap .i64 ((bif decide ((IntKind.wrap .i64 (Int.tdiv a1 2)) = (0 : Int)) then a0.1 else (bif decide ((IntKind.wrap .i64 (Int.tdiv a1 2)) = (1 : Int)) then a0.2.1 else a0.2.2.1)) + (IntKind.wrap .i64 ((IntKind.wrap .i64 (2 * (Int.tmod a1 2))) - 1)))) else a0.2.2.1), ()))), ())
    else none
  else none := by kernel_rfl
noncomputable def P_impl_beyond : Ft_impl_beyond := hid (runF (X_impl_beyond N) B_impl_beyond As_impl_beyond R_impl_beyond M_impl_beyond)
theorem h_impl_beyond : P_impl_beyond = runF (X_impl_beyond N) B_impl_beyond As_impl_beyond R_impl_beyond M_impl_beyond := hid_eq _
noncomputable def C_impl_beyond : Contract := ⟨As_impl_beyond, R_impl_beyond, M_impl_beyond, P_impl_beyond⟩
theorem s_impl_beyond : Sound Try.prog GG 114 C_impl_beyond := by
  unfold C_impl_beyond; rw [h_impl_beyond]
  exact sound_of_run (fn := Try.f114) hmix hstable (tyOK_of ttOK) (hglob (X_impl_beyond N)) (conOK_of (X := X_impl_beyond N) trivial) (mconOK_of (X := X_impl_beyond N) trivial) (by kernel_rfl) (by kernel_rfl) (by kernel_rfl) (by kernel_rfl) (by kernel_rfl) (by decide)
theorem p_impl_beyond (a0 : D_A3) (a1 : Int) : P_impl_beyond (a0, a1, ()) = 
  bif inB (IntKind.wrap .i64 (Int.tdiv a1 2)) 3 then
    bif inB (IntKind.wrap .i64 (Int.tdiv a1 2)) 3 then
      some (((bif decide ((IntKind.wrap .i64 (Int.tdiv a1 2)) = (0 : Int)) then (IntKind.wrap .i64 ((bif decide ((IntKind.wrap .i64 (Int.tdiv a1 2)) = (0 : Int)) then a0.1 else (bif decide ((IntKind.wrap .i64 (Int.tdiv a1 2)) = (1 : Int)) then a0.2.1 else a0.2.2.1)) + (IntKind.wrap .i64 ((IntKind.wrap .i64 (2 * (Int.tmod a1 2))) - 1)))) else a0.1), ((bif decide ((IntKind.wrap .i64 (Int.tdiv a1 2)) = (1 : Int)) then (IntKind.wrap .i64 ((bif decide ((IntKind.wrap .i64 (Int.tdiv a1 2)) = (0 : Int)) then a0.1 else (bif decide ((IntKind.wrap .i64 (Int.tdiv a1 2)) = (1 : Int)) then a0.2.1 else a0.2.2.1)) + (IntKind.wrap .i64 ((IntKind.wrap .i64 (2 * (Int.tmod a1 2))) - 1)))) else a0.2.1), ((bif decide ((IntKind.wrap .i64 (Int.tdiv a1 2)) = (2 : Int)) then (IntKind.wrap .i64 ((bif decide ((IntKind.wrap .i64 (Int.tdiv a1 2)) = (0 : Int)) then a0.1 else (bif decide ((IntKind.wrap .i64 (Int.tdiv a1 2)) = (1 : Int)) then a0.2.1 else a0.2.2.1)) + (IntKind.wrap .i64 ((IntKind.wrap .i64 (2 * (Int.tmod a1 2))) - 1)))) else a0.2.2.1), ()))), ())
    else none
  else none := by
  rewrite [h_impl_beyond]
  exact e_impl_beyond N a0 a1

/- 115: (loop.example/g01166/impl.Heap).isBare -/
abbrev As_Heap_isBare : List ATy := [.data true T_Heap, .data true T_A3]
abbrev R_Heap_isBare : List (Bool × Ty) := [(false, .bool)]
abbrev M_Heap_isBare : List RMode := []
abbrev Ft_Heap_isBare : Type := D_Heap × D_A3 × Unit → Option (Bool × Unit)
noncomputable def X_Heap_isBare (n : Nat) (F_Heap_box : Ft_Heap_box) (F_Heap_hasCube : Ft_Heap_hasCube) (F_box_has : Ft_box_has) : Ctx := { types := TT, globals := [], con := [(66, ⟨As_Heap_box, R_Heap_box, M_Heap_box, F_Heap_box⟩), (92, ⟨As_Heap_hasCube, R_Heap_hasCube, M_Heap_hasCube, F_Heap_hasCube⟩), (93, ⟨As_box_has, R_box_has, M_box_has, F_box_has⟩)], keep := [], results := [.tmp 4], ntmps := 16, n := n }
noncomputable def B_Heap_isBare : Code := (Try.f115.body).getD .skip
theorem e_Heap_isBare (n : Nat) (F_Heap_box : Ft_Heap_box) (F_Heap_hasCube : Ft_Heap_hasCube) (F_box_has : Ft_box_has) (a0 : D_Heap) (a1 : D_A3) : runF (X_Heap_isBare n F_Heap_box F_Heap_hasCube F_box_has) B_Heap_isBare As_Heap_isBare R_Heap_isBare M_Heap_isBare (a0, a1, ()) = 
  Option.bind (F_Heap_box (a0, ())) fun r0 =>
  Option.bind (F_box_has (r0.1, a1, ())) fun r1 =>
  bif !r1.1 then
    some (true, ())
  else
    Option.bind (F_Heap_hasCube (a0, a1, ())) fun r3 =>
    some (!r3.1, ()) := by kernel_rfl
noncomputable def P_Heap_isBare : Ft_Heap_isBare := hid (runF (X_Heap_isBare N P_Heap_box P_Heap_hasCube P_box_has) B_Heap_isBare As_Heap_isBare R_Heap_isBare M_Heap_isBare)
theorem h_Heap_isBare : P_Heap_isBare = runF (X_Heap_isBare N P_Heap_box P_Heap_hasCube P_box_has) B_Heap_isBare As_Heap_isBare R_Heap_isBare M_Heap_isBare := hid_eq _
noncomputable def C_Heap_isBare : Contract := ⟨As_Heap_isBare, R_Heap_isBare, M_Heap_isBare, P_Heap_isBare⟩
theorem s_Heap_isBare : Sound Try.prog GG 115 C_Heap_isBare := by
  unfold C_Heap_isBare; rw [h_Heap_isBare]
  exact sound_of_run (fn := Try.f115) hmix hstable (tyOK_of ttOK) (hglob (X_Heap_isBare N P_Heap_box P_Heap_hasCube P_box_has)) (conOK_of (X := X_Heap_isBare N P_Heap_box P_Heap_hasCube P_box_has) ⟨s_Heap_box, s_Heap_hasCube, s_box_has, trivial⟩) (mconOK_of (X := X_Heap_isBare N P_Heap_box P_Heap_hasCube P_box_has) trivial) (by kernel_rfl) (by kernel_rfl) (by kernel_rfl) (by kernel_rfl) (by kernel_rfl) (by decide)
theorem p_Heap_isBare (a0 : D_Heap) (a1 : D_A3) : P_Heap_isBare (a0, a1, ()) = 
  Option.bind (P_Heap_box (a0, ())) fun r0 =>
  Option.bind (P_box_has (r0.1, a1, ())) fun r1 =>
  bif !r1.1 then
    some (true, ())
  else
    Option.bind (P_Heap_hasCube (a0, a1, ())) fun r3 =>
    some (!r3.1, ()) := by
  rewrite [h_Heap_isBare]
  exact e_Heap_isBare N P_Heap_box P_Heap_hasCube P_box_has a0 a1

/- 113: (loop.example/g01166/impl.Heap).enclosed: not run -/
abbrev As_Heap_enclosed : List ATy := [.data true T_Heap]
abbrev R_Heap_enclosed : List (Bool × Ty) := [(false, (.int .u64))]
abbrev M_Heap_enclosed : List RMode := []
abbrev Ft_Heap_enclosed : Type := D_Heap × Unit → Option (Int × Unit)
noncomputable def P_Heap_enclosed : Ft_Heap_enclosed := fun _ => none
noncomputable def C_Heap_enclosed : Contract := ⟨As_Heap_enclosed, R_Heap_enclosed, M_Heap_enclosed, P_Heap_enclosed⟩
theorem s_Heap_enclosed : Sound Try.prog GG 113 C_Heap_enclosed := sound_none
/- 105: (loop.example/g01166/impl.Heap).painted -/
abbrev As_Heap_painted : List ATy := [.data true T_Heap, .data false .bool]
abbrev R_Heap_painted : List (Bool × Ty) := [(false, (.sl (.int .i64)))]
abbrev M_Heap_painted : List RMode := [.own 3]
abbrev Ft_Heap_painted : Type := D_Heap × Bool × Unit → Option ((List Int) × Unit)
noncomputable def X_Heap_painted (n : Nat) (F_Heap_box : Ft_Heap_box) (F_box_index : Ft_box_index) (F_box_has : Ft_box_has) (F_set_has : Ft_set_has) (F_Heap_enclosed : Ft_Heap_enclosed) (F_impl_beyond : Ft_impl_beyond) (F_Heap_isBare : Ft_Heap_isBare) : Ctx := { types := TT, globals := [], con := [(66, ⟨As_Heap_box, R_Heap_box, M_Heap_box, F_Heap_box⟩), (71, ⟨As_box_index, R_box_index, M_box_index, F_box_index⟩), (93, ⟨As_box_has, R_box_has, M_box_has, F_box_has⟩), (108, ⟨As_set_has, R_set_has, M_set_has, F_set_has⟩), (113, ⟨As_Heap_enclosed, R_Heap_enclosed, M_Heap_enclosed, F_Heap_enclosed⟩), (114, ⟨As_impl_beyond, R_impl_beyond, M_impl_beyond, F_impl_beyond⟩), (115, ⟨As_Heap_isBare, R_Heap_isBare, M_Heap_isBare, F_Heap_isBare⟩)], keep := [(5, ⟨[.box 2, .tmp 2, .tmp 5, .tmp 6, .tmp 17, .tmp 18, .tmp 19], []⟩), (9, ⟨[.box 2, .box 8, .tmp 2, .tmp 5, .tmp 6, .tmp 8, .tmp 9, .tmp 17, .tmp 18, .tmp 19, .tmp 23], []⟩)], results := [.tmp 4], ntmps := 57, n := n }
noncomputable def B_Heap_painted : Code := (Try.f105.body).getD .skip
noncomputable def L_Heap_painted_5 (n : Nat) (F_Heap_box : Ft_Heap_box) (F_box_index : Ft_box_index) (F_box_has : Ft_box_has) (F_set_has : Ft_set_has) (F_Heap_enclosed : Ft_Heap_enclosed) (F_impl_beyond : Ft_impl_beyond) (F_Heap_isBare : Ft_Heap_isBare) (m0 : Nat) (p0 : Int) (p1 : Int) (p2 : Int) (p3 : List D_A3) (p4 : List Int) (p5 : Int) (p6 : List D_A3) (p7 : Int) (p8 : Int) : Option (denL R_Heap_painted) := loopF (X_Heap_painted n F_Heap_box F_box_index F_box_has F_set_has F_Heap_enclosed F_impl_beyond F_Heap_isBare) B_Heap_painted R_Heap_painted M_Heap_painted 5 [m0] [(.ver, .num 1), (.box 2, .box 0 false [.int .i64 p0, .int .i64 p1, .int .i64 p2, .imm T_A3 p3 (some 3)]), (.tmp 2, .val false [.addr 2 0 0]), (.tmp 5, .val false [.own 3 (.int .i64) 0 p4]), (.tmp 6, .val false [.int .u64 p5]), (.tmp 17, .val false [.imm T_A3 p6 (some 3)]), (.tmp 18, .val false [.int .i64 p7]), (.tmp 19, .val false [.int .i64 p8])]
noncomputable def L_Heap_painted_9 (n : Nat) (F_Heap_box : Ft_Heap_box) (F_box_index : Ft_box_index) (F_box_has : Ft_box_has) (F_set_has : Ft_set_has) (F_Heap_enclosed : Ft_Heap_enclosed) (F_impl_beyond : Ft_impl_beyond) (F_Heap_isBare : Ft_Heap_isBare) (m0 m1 : Nat) (p0 : Int) (p1 : Int) (p2 : Int) (p3 : List D_A3) (p4 : Int) (p5 : Int) (p6 : Int) (p7 : List Int) (p8 : Int) (p9 : Int) (p10 : List D_A3) (p11 : Int) (p12 : Int) (p13 : Int) : Option (denL R_Heap_painted) := loopF (X_Heap_painted n F_Heap_box F_box_index F_box_has F_set_has F_Heap_enclosed F_impl_beyond F_Heap_isBare) B_Heap_painted R_Heap_painted M_Heap_painted 9 [m0, m1] [(.ver, .num 1), (.box 2, .box 0 false [.int .i64 p0, .int .i64 p1, .int .i64 p2, .imm T_A3 p3 (some 3)]), (.box 8, .box 0 false [.int .i64 p4, .int .i64 p5, .int .i64 p6]), (.tmp 2, .val false [.addr 2 0 0]), (.tmp 5, .val false [.own 3 (.int .i64) 0 p7]), (.tmp 6, .val false [.int .u64 p8]), (.tmp 8, .val false [.addr 8 0 0]), (.tmp 9, .val false [.int .i64 p9]), (.tmp 17, .val false [.imm T_A3 p10 (some 3)]), (.tmp 18, .val false [.int .i64 p11]), (.tmp 19, .val false [.int .i64 p12]), (.tmp 23, .val false [.int .i64 p13])]
theorem e_Heap_painted (n : Nat) (F_Heap_box : Ft_Heap_box) (F_box_index : Ft_box_index) (F_box_has : Ft_box_has) (F_set_has : Ft_set_has) (F_Heap_enclosed : Ft_Heap_enclosed) (F_impl_beyond : Ft_impl_beyond) (F_Heap_isBare : Ft_Heap_isBare) (a0 : D_Heap) (a1 : Bool) : runF (X_Heap_painted n F_Heap_box F_box_index F_box_has F_set_has F_Heap_enclosed F_impl_beyond F_Heap_isBare) B_Heap_painted As_Heap_painted R_Heap_painted M_Heap_painted (a0, a1, ()) = 
  bif a1 then
    Option.bind (F_Heap_enclosed (a0, ())) fun r1 =>
    L_Heap_painted_5 n F_Heap_box F_box_index F_box_has F_set_has F_Heap_enclosed F_impl_beyond F_Heap_isBare n a0.1 a0.2.1 a0.2.2.1 a0.2.2.2.1 ([] : List Int) r1.1 a0.2.2.2.1 (List.length a0.2.2.2.1 : Int) 0
  else
    L_Heap_painted_5 n F_Heap_box F_box_index F_box_has F_set_has F_Heap_enclosed F_impl_beyond F_Heap_isBare n a0.1 a0.2.1 a0.2.2.1 a0.2.2.2.1 ([] : List Int) 0 a0.2.2.2.1 (List.length a0.2.2.2.1 : Int) 0 := by kernel_rfl
theorem e_Heap_painted_5 (n : Nat) (F_Heap_box : Ft_Heap_box) (F_box_index : Ft_box_index) (F_box_has : Ft_box_has) (F_set_has : Ft_set_has) (F_Heap_enclosed : Ft_Heap_enclosed) (F_impl_beyond : Ft_impl_beyond) (F_Heap_isBare : Ft_Heap_isBare) (m0 : Nat) (p0 : Int) (p1 : Int) (p2 : Int) (p3 : List D_A3) (p4 : List Int) (p5 : Int) (p6 : List D_A3) (p7 : Int) (p8 : Int) : L_Heap_painted_5 n F_Heap_box F_box_index F_box_has F_set_has F_Heap_enclosed F_impl_beyond F_Heap_isBare (m0 + 1) p0 p1 p2 p3 p4 p5 p6 p7 p8 = 
  bif decide (p8 < p7) then
    bif inB p8 (List.length p6) then
      L_Heap_painted_9 n F_Heap_box F_box_index F_box_has F_set_has F_Heap_enclosed F_impl_beyond F_Heap_isBare m0 n p0 p1 p2 p3 (((nth T_A3 p6 p8)).1) ((((nth T_A3 p6 p8)).2).1) (((((nth T_A3 p6 p8)).2).2).1) p4 p5 0 p6 p7 p8 0
    else none
  else
    some (p4, ()) := by kernel_rfl
theorem e_Heap_painted_9 (n : Nat) (F_Heap_box : Ft_Heap_box) (F_box_index : Ft_box_index) (F_box_has : Ft_box_has) (F_set_has : Ft_set_has) (F_Heap_enclosed : Ft_Heap_enclosed) (F_impl_beyond : Ft_impl_beyond) (F_Heap_isBare : Ft_Heap_isBare) (m0 m1 : Nat) (p0 : Int) (p1 : Int) (p2 : Int) (p3 : List D_A3) (p4 : Int) (p5 : Int) (p6 : Int) (p7 : List Int) (p8 : Int) (p9 : Int) (p10 : List D_A3) (p11 : Int) (p12 : Int) (p13 : Int) : L_Heap_painted_9 n F_Heap_box F_box_index F_box_has F_set_has F_Heap_enclosed F_impl_beyond F_Heap_isBare m0 (m1 + 1) p0 p1 p2 p3 p4 p5 p6 p7 p8 p9 p10 p11 p12 p13 = 
  bif decide (p13 < 6) then
    Option.bind (F_impl_beyond ((p4, (p5, (p6, ()))), p13, ())) fun r1 =>
    Option.bind (F_Heap_isBare ((p0, (p1, (p2, (p3, ())))), r1.1, ())) fun r2 =>
    bif r2.1 then
      Option.bind (F_Heap_box ((p0, (p1, (p2, (p3, ())))), ())) fun r4 =>
      Option.bind (F_box_has (r4.1, r1.1, ())) fun r5 =>
      bif !r5.1 then
        L_Heap_painted_9 n F_Heap_box F_box_index F_box_has F_set_has F_Heap_enclosed F_impl_beyond F_Heap_isBare m0 m1 p0 p1 p2 p3 p4 p5 p6 p7 p8 (IntKind.wrap .i64 (p9 + 1)) p10 p11 p12 (IntKind.wrap .i64 (p13 + 1))
      else
        Option.bind (F_Heap_box ((p0, (p1, (p2, (p3, ())))), ())) fun r7 =>
        Option.bind (F_box_index (r7.1, r1.1, ())) fun r8 =>
        Option.bind (F_set_has (p8, r8.1, ())) fun r9 =>
        bif !r9.1 then
          L_Heap_painted_9 n F_Heap_box F_box_index F_box_has F_set_has F_Heap_enclosed F_impl_beyond F_Heap_isBare m0 m1 p0 p1 p2 p3 p4 p5 p6 p7 p8 (IntKind.wrap .i64 (p9 + 1)) p10 p11 p12 (IntKind.wrap .i64 (p13 + 1))
        else
          L_Heap_painted_9 n F_Heap_box F_box_index F_box_has F_set_has F_Heap_enclosed F_impl_beyond F_Heap_isBare m0 m1 p0 p1 p2 p3 p4 p5 p6 p7 p8 p9 p10 p11 p12 (IntKind.wrap .i64 (p13 + 1))
    else
      L_Heap_painted_9 n F_Heap_box F_box_index F_box_has F_set_has F_Heap_enclosed F_impl_beyond F_Heap_isBare m0 m1 p0 p1 p2 p3 p4 p5 p6 p7 p8 p9 p10 p11 p12 (IntKind.wrap .i64 (p13 + 1))
  else
    bif (decide (((List.length p7) + (List.length ([p9] : List Int))) * 8 ≤ 140737488355328) && decide (((List.length p7) + (List.length ([p9] : List Int))) ≤ 140737488355328)) then
      L_Heap_painted_5 n F_Heap_box F_box_index F_box_has F_set_has F_Heap_enclosed F_impl_beyond F_Heap_isBare m0 p0 p1 p2 p3 (p7 ++ ([p9] : List Int)) p8 p10 p11 (IntKind.wrap .i64 (p12 + 1))
    else none := by kernel_rfl
noncomputable def P_Heap_painted : Ft_Heap_painted := hid (runF (X_Heap_painted N P_Heap_box P_box_index P_box_has P_set_has P_Heap_enclosed P_impl_beyond P_Heap_isBare) B_Heap_painted As_Heap_painted R_Heap_painted M_Heap_painted)
theorem h_Heap_painted : P_Heap_painted = runF (X_Heap_painted N P_Heap_box P_box_index P_box_has P_set_has P_Heap_enclosed P_impl_beyond P_Heap_isBare) B_Heap_painted As_Heap_painted R_Heap_painted M_Heap_painted := hid_eq _
noncomputable def C_Heap_painted : Contract := ⟨As_Heap_painted, R_Heap_painted, M_Heap_painted, P_Heap_painted⟩
theorem s_Heap_painted : Sound Try.prog GG 105 C_Heap_painted := by
  unfold C_Heap_painted; rw [h_Heap_painted]
  exact sound_of_run (fn := Try.f105) hmix hstable (tyOK_of ttOK) (hglob (X_Heap_painted N P_Heap_box P_box_index P_box_has P_set_has P_Heap_enclosed P_impl_beyond P_Heap_isBare)) (conOK_of (X := X_Heap_painted N P_Heap_box P_box_index P_box_has P_set_has P_Heap_enclosed P_impl_beyond P_Heap_isBare) ⟨s_Heap_box, s_box_index, s_box_has, s_set_has, s_Heap_enclosed, s_impl_beyond, s_Heap_isBare, trivial⟩) (mconOK_of (X := X_Heap_painted N P_Heap_box P_box_index P_box_has P_set_has P_Heap_enclosed P_impl_beyond P_Heap_isBare) trivial) (by kernel_rfl) (by kernel_rfl) (by kernel_rfl) (by kernel_rfl) (by kernel_rfl) (by decide)
noncomputable def l_Heap_painted_5 : Nat → Int → Int → Int → (List D_A3) → (List Int) → Int → (List D_A3) → Int → Int → Option (denL R_Heap_painted) := hid (fun m0 p0 p1 p2 p3 p4 p5 p6 p7 p8 => L_Heap_painted_5 N P_Heap_box P_box_index P_box_has P_set_has P_Heap_enclosed P_impl_beyond P_Heap_isBare m0 p0 p1 p2 p3 p4 p5 p6 p7 p8)
theorem h_Heap_painted_5 : l_Heap_painted_5 = fun m0 p0 p1 p2 p3 p4 p5 p6 p7 p8 => L_Heap_painted_5 N P_Heap_box P_box_index P_box_has P_set_has P_Heap_enclosed P_impl_beyond P_Heap_isBare m0 p0 p1 p2 p3 p4 p5 p6 p7 p8 := hid_eq _
noncomputable def l_Heap_painted_9 : Nat → Nat → Int → Int → Int → (List D_A3) → Int → Int → Int → (List Int) → Int → Int → (List D_A3) → Int → Int → Int → Option (denL R_Heap_painted) := hid (fun m0 m1 p0 p1 p2 p3 p4 p5 p6 p7 p8 p9 p10 p11 p12 p13 => L_Heap_painted_9 N P_Heap_box P_box_index P_box_has P_set_has P_Heap_enclosed P_impl_beyond P_Heap_isBare m0 m1 p0 p1 p2 p3 p4 p5 p6 p7 p8 p9 p10 p11 p12 p13)
theorem h_Heap_painted_9 : l_Heap_painted_9 = fun m0 m1 p0 p1 p2 p3 p4 p5 p6 p7 p8 p9 p10 p11 p12 p13 => L_Heap_painted_9 N P_Heap_box P_box_index P_box_has P_set_has P_Heap_enclosed P_impl_beyond P_Heap_isBare m0 m1 p0 p1 p2 p3 p4 p5 p6 p7 p8 p9 p10 p11 p12 p13 := hid_eq _
theorem p_Heap_painted (a0 : D_Heap) (a1 : Bool) : P_Heap_painted (a0, a1, ()) = 
  bif a1 then
    Option.bind (P_Heap_enclosed (a0, ())) fun r1 =>
    l_Heap_painted_5 N a0.1 a0.2.1 a0.2.2.1 a0.2.2.2.1 ([] : List Int) r1.1 a0.2.2.2.1 (List.length a0.2.2.2.1 : Int) 0
  else
    l_Heap_painted_5 N a0.1 a0.2.1 a0.2.2.1 a0.2.2.2.1 ([] : List Int) 0 a0.2.2.2.1 (List.length a0.2.2.2.1 : Int) 0 := by
  rewrite [h_Heap_painted, h_Heap_painted_5]
  exact e_Heap_painted N P_Heap_box P_box_index P_box_has P_set_has P_Heap_enclosed P_impl_beyond P_Heap_isBare a0 a1
theorem q_Heap_painted_5 (m0 : Nat) (p0 : Int) (p1 : Int) (p2 : Int) (p3 : List D_A3) (p4 : List Int) (p5 : Int) (p6 : List D_A3) (p7 : Int) (p8 : Int) : l_Heap_painted_5 (m0 + 1) p0 p1 p2 p3 p4 p5 p6 p7 p8 = 
  bif decide (p8 < p7) then
    bif inB p8 (List.length p6) then
      l_Heap_painted_9 m0 N p0 p1 p2 p3 (((nth T_A3 p6 p8)).1) ((((nth T_A3 p6 p8)).2).1) (((((nth T_A3 p6 p8)).2).2).1) p4 p5 0 p6 p7 p8 0
    else none
  else
    some (p4, ()) := by
  rewrite [h_Heap_painted_5, h_Heap_painted_9]
  exact e_Heap_painted_5 N P_Heap_box P_box_index P_box_has P_set_has P_Heap_enclosed P_impl_beyond P_Heap_isBare m0 p0 p1 p2 p3 p4 p5 p6 p7 p8
theorem q_Heap_painted_9 (m0 m1 : Nat) (p0 : Int) (p1 : Int) (p2 : Int) (p3 : List D_A3) (p4 : Int) (p5 : Int) (p6 : Int) (p7 : List Int) (p8 : Int) (p9 : Int) (p10 : List D_A3) (p11 : Int) (p12 : Int) (p13 : Int) : l_Heap_painted_9 m0 (m1 + 1) p0 p1 p2 p3 p4 p5 p6 p7 p8 p9 p10 p11 p12 p13 = 
  bif decide (p13 < 6) then
    Option.bind (P_impl_beyond ((p4, (p5, (p6, ()))), p13, ())) fun r1 =>
    Option.bind (P_Heap_isBare ((p0, (p1, (p2, (p3, ())))), r1.1, ())) fun r2 =>
    bif r2.1 then
      Option.bind (P_Heap_box ((p0, (p1, (p2, (p3, ())))), ())) fun r4 =>
      Option.bind (P_box_has (r4.1, r1.1, ())) fun r5 =>
      bif !r5.1 then
        l_Heap_painted_9 m0 m1 p0 p1 p2 p3 p4 p5 p6 p7 p8 (IntKind.wrap .i64 (p9 + 1)) p10 p11 p12 (IntKind.wrap .i64 (p13 + 1))
      else
        Option.bind (P_Heap_box ((p0, (p1, (p2, (p3, ())))), ())) fun r7 =>
        Option.bind (P_box_index (r7.1, r1.1, ())) fun r8 =>
        Option.bind (P_set_has (p8, r8.1, ())) fun r9 =>
        bif !r9.1 then
          l_Heap_painted_9 m0 m1 p0 p1 p2 p3 p4 p5 p6 p7 p8 (IntKind.wrap .i64 (p9 + 1)) p10 p11 p12 (IntKind.wrap .i64 (p13 + 1))
        else
          l_Heap_painted_9 m0 m1 p0 p1 p2 p3 p4 p5 p6 p7 p8 p9 p10 p11 p12 (IntKind.wrap .i64 (p13 + 1))
    else
      l_Heap_painted_9 m0 m1 p0 p1 p2 p3 p4 p5 p6 p7 p8 p9 p10 p11 p12 (IntKind.wrap .i64 (p13 + 1))
  else
    bif (decide (((List.length p7) + (List.length ([p9] : List Int))) * 8 ≤ 140737488355328) && decide (((List.length p7) + (List.length ([p9] : List Int))) ≤ 140737488355328)) then
      l_Heap_painted_5 m0 p0 p1 p2 p3 (p7 ++ ([p9] : List Int)) p8 p10 p11 (IntKind.wrap .i64 (p12 + 1))
    else none := by
  rewrite [h_Heap_painted_5, h_Heap_painted_9]
  exact e_Heap_painted_9 N P_Heap_box P_box_index P_box_has P_set_has P_Heap_enclosed P_impl_beyond P_Heap_isBare m0 m1 p0 p1 p2 p3 p4 p5 p6 p7 p8 p9 p10 p11 p12 p13

/- 79: (loop.example/g01166/impl.Heap).peeled -/
abbrev As_Heap_peeled : List ATy := [.data true T_Heap]
abbrev R_Heap_peeled : List (Bool × Ty) := [(true, T_Heap)]
abbrev M_Heap_peeled : List RMode := [.own 66]
abbrev Ft_Heap_peeled : Type := D_Heap × Unit → Option (D_Heap × Unit)
noncomputable def X_Heap_peeled (n : Nat) (F_Heap_box : Ft_Heap_box) (F_box_index : Ft_box_index) (F_box_heap : Ft_box_heap) (F_Heap_painted : Ft_Heap_painted) : Ctx := { types := TT, globals := [], con := [(66, ⟨As_Heap_box, R_Heap_box, M_Heap_box, F_Heap_box⟩), (71, ⟨As_box_index, R_box_index, M_box_index, F_box_index⟩), (72, ⟨As_box_heap, R_box_heap, M_box_heap, F_box_heap⟩), (105, ⟨As_Heap_painted, R_Heap_painted, M_Heap_painted, F_Heap_painted⟩)], keep := [(3, ⟨[.box 1, .box 2, .tmp 1, .tmp 2, .tmp 3, .tmp 7, .tmp 8, .tmp 9], []⟩)], results := [.cell 2 29], ntmps := 32, n := n }
noncomputable def B_Heap_peeled : Code := (Try.f79.body).getD .skip
noncomputable def L_Heap_peeled_3 (n : Nat) (F_Heap_box : Ft_Heap_box) (F_box_index : Ft_box_index) (F_box_heap : Ft_box_heap) (F_Heap_painted : Ft_Heap_painted) (m0 : Nat) (p0 : Int) (p1 : Int) (p2 : Int) (p3 : List D_A3) (p4 : Int) (p5 : Int) (p6 : Int) (p7 : List D_A3) (p8 : Int) (p9 : List Int) (p10 : Int) (p11 : Int) : Option (denL R_Heap_peeled) := loopF (X_Heap_peeled n F_Heap_box F_box_index F_box_heap F_Heap_painted) B_Heap_peeled R_Heap_peeled M_Heap_peeled 3 [m0] [(.ver, .num 1), (.box 1, .box 0 false [.int .i64 p0, .int .i64 p1, .int .i64 p2, .imm T_A3 p3 (some 3)]), (.box 2, .box 0 false [.int .i64 p4, .int .i64 p5, .int .i64 p6, .own 66 T_A3 0 p7]), (.tmp 1, .val false [.addr 1 0 0]), (.tmp 2, .val false [.addr 2 0 0]), (.tmp 3, .val false [.int .u64 p8]), (.tmp 7, .val false [.own 3 (.int .i64) 0 p9]), (.tmp 8, .val false [.int .i64 p10]), (.tmp 9, .val false [.int .i64 p11])]
theorem e_Heap_peeled (n : Nat) (F_Heap_box : Ft_Heap_box) (F_box_index : Ft_box_index) (F_box_heap : Ft_box_heap) (F_Heap_painted : Ft_Heap_painted) (a0 : D_Heap) : runF (X_Heap_peeled n F_Heap_box F_box_index F_box_heap F_Heap_painted) B_Heap_peeled As_Heap_peeled R_Heap_peeled M_Heap_peeled (a0, ()) = 
  Option.bind (F_Heap_painted (a0, false, ())) fun r0 =>
  L_Heap_peeled_3 n F_Heap_box F_box_index F_box_heap F_Heap_painted n a0.1 a0.2.1 a0.2.2.1 a0.2.2.2.1 0 0 0 ([] : List D_A3) 0 r0.1 (List.length r0.1 : Int) 0 := by kernel_rfl
theorem e_Heap_peeled_3 (n : Nat) (F_Heap_box : Ft_Heap_box) (F_box_index : Ft_box_index) (F_box_heap : Ft_box_heap) (F_Heap_painted : Ft_Heap_painted) (m0 : Nat) (p0 : Int) (p1 : Int) (p2 : Int) (p3 : List D_A3) (p4 : Int) (p5 : Int) (p6 : Int) (p7 : List D_A3) (p8 : Int) (p9 : List Int) (p10 : Int) (p11 : Int) : L_Heap_peeled_3 n F_Heap_box F_box_index F_box_heap F_Heap_painted (m0 + 1) p0 p1 p2 p3 p4 p5 p6 p7 p8 p9 p10 p11 = 
  bif decide (p11 < p10) then
    bif inB p11 (List.length p9) then
      bif decide ((nth ((.int .i64) : Ty) p9 p11) = 0) then
        Option.bind (F_Heap_box ((p0, (p1, (p2, (p3, ())))), ())) fun r3 =>
        bif inB p11 (List.length p3) then
          Option.bind (F_box_index (r3.1, (nth T_A3 p3 p11), ())) fun r5 =>
          bif decide ((0 : Int) ≤ r5.1) then
            L_Heap_peeled_3 n F_Heap_box F_box_index F_box_heap F_Heap_painted m0 p0 p1 p2 p3 p4 p5 p6 p7 (intBits .or .u64 p8 (shlI .u64 1 r5.1)) p9 p10 (IntKind.wrap .i64 (p11 + 1))
          else none
        else none
      else
        L_Heap_peeled_3 n F_Heap_box F_box_index F_box_heap F_Heap_painted m0 p0 p1 p2 p3 p4 p5 p6 p7 p8 p9 p10 (IntKind.wrap .i64 (p11 + 1))
    else none
  else
    Option.bind (F_Heap_box ((p0, (p1, (p2, (p3, ())))), ())) fun r1 =>
    Option.bind (F_box_heap (r1.1, p8, ())) fun r2 =>
    some (r2.1, ()) := by kernel_rfl
noncomputable def P_Heap_peeled : Ft_Heap_peeled := hid (runF (X_Heap_peeled N P_Heap_box P_box_index P_box_heap P_Heap_painted) B_Heap_peeled As_Heap_peeled R_Heap_peeled M_Heap_peeled)
theorem h_Heap_peeled : P_Heap_peeled = runF (X_Heap_peeled N P_Heap_box P_box_index P_box_heap P_Heap_painted) B_Heap_peeled As_Heap_peeled R_Heap_peeled M_Heap_peeled := hid_eq _
noncomputable def C_Heap_peeled : Contract := ⟨As_Heap_peeled, R_Heap_peeled, M_Heap_peeled, P_Heap_peeled⟩
theorem s_Heap_peeled : Sound Try.prog GG 79 C_Heap_peeled := by
  unfold C_Heap_peeled; rw [h_Heap_peeled]
  exact sound_of_run (fn := Try.f79) hmix hstable (tyOK_of ttOK) (hglob (X_Heap_peeled N P_Heap_box P_box_index P_box_heap P_Heap_painted)) (conOK_of (X := X_Heap_peeled N P_Heap_box P_box_index P_box_heap P_Heap_painted) ⟨s_Heap_box, s_box_index, s_box_heap, s_Heap_painted, trivial⟩) (mconOK_of (X := X_Heap_peeled N P_Heap_box P_box_index P_box_heap P_Heap_painted) trivial) (by kernel_rfl) (by kernel_rfl) (by kernel_rfl) (by kernel_rfl) (by kernel_rfl) (by decide)
noncomputable def l_Heap_peeled_3 : Nat → Int → Int → Int → (List D_A3) → Int → Int → Int → (List D_A3) → Int → (List Int) → Int → Int → Option (denL R_Heap_peeled) := hid (fun m0 p0 p1 p2 p3 p4 p5 p6 p7 p8 p9 p10 p11 => L_Heap_peeled_3 N P_Heap_box P_box_index P_box_heap P_Heap_painted m0 p0 p1 p2 p3 p4 p5 p6 p7 p8 p9 p10 p11)
theorem h_Heap_peeled_3 : l_Heap_peeled_3 = fun m0 p0 p1 p2 p3 p4 p5 p6 p7 p8 p9 p10 p11 => L_Heap_peeled_3 N P_Heap_box P_box_index P_box_heap P_Heap_painted m0 p0 p1 p2 p3 p4 p5 p6 p7 p8 p9 p10 p11 := hid_eq _
theorem p_Heap_peeled (a0 : D_Heap) : P_Heap_peeled (a0, ()) = 
  Option.bind (P_Heap_painted (a0, false, ())) fun r0 =>
  l_Heap_peeled_3 N a0.1 a0.2.1 a0.2.2.1 a0.2.2.2.1 0 0 0 ([] : List D_A3) 0 r0.1 (List.length r0.1 : Int) 0 := by
  rewrite [h_Heap_peeled, h_Heap_peeled_3]
  exact e_Heap_peeled N P_Heap_box P_box_index P_box_heap P_Heap_painted a0
theorem q_Heap_peeled_3 (m0 : Nat) (p0 : Int) (p1 : Int) (p2 : Int) (p3 : List D_A3) (p4 : Int) (p5 : Int) (p6 : Int) (p7 : List D_A3) (p8 : Int) (p9 : List Int) (p10 : Int) (p11 : Int) : l_Heap_peeled_3 (m0 + 1) p0 p1 p2 p3 p4 p5 p6 p7 p8 p9 p10 p11 = 
  bif decide (p11 < p10) then
    bif inB p11 (List.length p9) then
      bif decide ((nth ((.int .i64) : Ty) p9 p11) = 0) then
        Option.bind (P_Heap_box ((p0, (p1, (p2, (p3, ())))), ())) fun r3 =>
        bif inB p11 (List.length p3) then
          Option.bind (P_box_index (r3.1, (nth T_A3 p3 p11), ())) fun r5 =>
          bif decide ((0 : Int) ≤ r5.1) then
            l_Heap_peeled_3 m0 p0 p1 p2 p3 p4 p5 p6 p7 (intBits .or .u64 p8 (shlI .u64 1 r5.1)) p9 p10 (IntKind.wrap .i64 (p11 + 1))
          else none
        else none
      else
        l_Heap_peeled_3 m0 p0 p1 p2 p3 p4 p5 p6 p7 p8 p9 p10 (IntKind.wrap .i64 (p11 + 1))
    else none
  else
    Option.bind (P_Heap_box ((p0, (p1, (p2, (p3, ())))), ())) fun r1 =>
    Option.bind (P_box_heap (r1.1, p8, ())) fun r2 =>
    some (r2.1, ()) := by
  rewrite [h_Heap_peeled_3]
  exact e_Heap_peeled_3 N P_Heap_box P_box_index P_box_heap P_Heap_painted m0 p0 p1 p2 p3 p4 p5 p6 p7 p8 p9 p10 p11

/- 36: loop.example/g01166/impl.ShellHeap -/
abbrev As_impl_ShellHeap : List ATy := [.data false (.int .i64), .data false (.int .i64), .data false (.int .i64)]
abbrev R_impl_ShellHeap : List (Bool × Ty) := [(true, T_Heap), (false, .bool)]
abbrev M_impl_ShellHeap : List RMode := [.own 66]
abbrev Ft_impl_ShellHeap : Type := Int × Int × Int × Unit → Option (D_Heap × Bool × Unit)
noncomputable def X_impl_ShellHeap (n : Nat) (F_Heap_box : Ft_Heap_box) (F_box_heap : Ft_box_heap) (F_impl_FullHeap : Ft_impl_FullHeap) (F_Heap_cubes : Ft_Heap_cubes) (F_Heap_peeled : Ft_Heap_peeled) : Ctx := { types := TT, globals := [], con := [(66, ⟨As_Heap_box, R_Heap_box, M_Heap_box, F_Heap_box⟩), (72, ⟨As_box_heap, R_box_heap, M_box_heap, F_box_heap⟩), (77, ⟨As_impl_FullHeap, R_impl_FullHeap, M_impl_FullHeap, F_impl_FullHeap⟩), (78, ⟨As_Heap_cubes, R_Heap_cubes, M_Heap_cubes, F_Heap_cubes⟩), (79, ⟨As_Heap_peeled, R_Heap_peeled, M_Heap_peeled, F_Heap_peeled⟩)], keep := [], results := [.cell 6 29, .tmp 7], ntmps := 29, n := n }
noncomputable def B_impl_ShellHeap : Code := (Try.f36.body).getD .skip
theorem e_impl_ShellHeap (n : Nat) (F_Heap_box : Ft_Heap_box) (F_box_heap : Ft_box_heap) (F_impl_FullHeap : Ft_impl_FullHeap) (F_Heap_cubes : Ft_Heap_cubes) (F_Heap_peeled : Ft_Heap_peeled) (a0 : Int) (a1 : Int) (a2 : Int) : runF (X_impl_ShellHeap n F_Heap_box F_box_heap F_impl_FullHeap F_Heap_cubes F_Heap_peeled) B_impl_ShellHeap As_impl_ShellHeap R_impl_ShellHeap M_impl_ShellHeap (a0, a1, a2, ()) = 
  Option.bind (F_impl_FullHeap (a0, a1, a2, ())) fun r0 =>
  bif !r0.2.1 then
    some ((0, (0, (0, (([] : List D_A3), ())))), false, ())
  else
    Option.bind (F_Heap_box (r0.1, ())) fun r2 =>
    Option.bind (F_Heap_cubes (r0.1, ())) fun r3 =>
    Option.bind (F_Heap_peeled (r0.1, ())) fun r4 =>
    Option.bind (F_Heap_cubes (r4.1, ())) fun r5 =>
    Option.bind (F_box_heap (r2.1, (intBits .andNot .u64 r3.1 r5.1), ())) fun r6 =>
    some (r6.1, true, ()) := by kernel_rfl
noncomputable def P_impl_ShellHeap : Ft_impl_ShellHeap := hid (runF (X_impl_ShellHeap N P_Heap_box P_box_heap P_impl_FullHeap P_Heap_cubes P_Heap_peeled) B_impl_ShellHeap As_impl_ShellHeap R_impl_ShellHeap M_impl_ShellHeap)
theorem h_impl_ShellHeap : P_impl_ShellHeap = runF (X_impl_ShellHeap N P_Heap_box P_box_heap P_impl_FullHeap P_Heap_cubes P_Heap_peeled) B_impl_ShellHeap As_impl_ShellHeap R_impl_ShellHeap M_impl_ShellHeap := hid_eq _
noncomputable def C_impl_ShellHeap : Contract := ⟨As_impl_ShellHeap, R_impl_ShellHeap, M_impl_ShellHeap, P_impl_ShellHeap⟩
theorem s_impl_ShellHeap : Sound Try.prog GG 36 C_impl_ShellHeap := by
  unfold C_impl_ShellHeap; rw [h_impl_ShellHeap]
  exact sound_of_run (fn := Try.f36) hmix hstable (tyOK_of ttOK) (hglob (X_impl_ShellHeap N P_Heap_box P_box_heap P_impl_FullHeap P_Heap_cubes P_Heap_peeled)) (conOK_of (X := X_impl_ShellHeap N P_Heap_box P_box_heap P_impl_FullHeap P_Heap_cubes P_Heap_peeled) ⟨s_Heap_box, s_box_heap, s_impl_FullHeap, s_Heap_cubes, s_Heap_peeled, trivial⟩) (mconOK_of (X := X_impl_ShellHeap N P_Heap_box P_box_heap P_impl_FullHeap P_Heap_cubes P_Heap_peeled) trivial) (by kernel_rfl) (by kernel_rfl) (by kernel_rfl) (by kernel_rfl) (by kernel_rfl) (by decide)
theorem p_impl_ShellHeap (a0 : Int) (a1 : Int) (a2 : Int) : P_impl_ShellHeap (a0, a1, a2, ()) = 
  Option.bind (P_impl_FullHeap (a0, a1, a2, ())) fun r0 =>
  bif !r0.2.1 then
    some ((0, (0, (0, (([] : List D_A3), ())))), false, ())
  else
    Option.bind (P_Heap_box (r0.1, ())) fun r2 =>
    Option.bind (P_Heap_cubes (r0.1, ())) fun r3 =>
    Option.bind (P_Heap_peeled (r0.1, ())) fun r4 =>
    Option.bind (P_Heap_cubes (r4.1, ())) fun r5 =>
    Option.bind (P_box_heap (r2.1, (intBits .andNot .u64 r3.1 r5.1), ())) fun r6 =>
    some (r6.1, true, ()) := by
  rewrite [h_impl_ShellHeap]
  exact e_impl_ShellHeap N P_Heap_box P_box_heap P_impl_FullHeap P_Heap_cubes P_Heap_peeled a0 a1 a2

/- 8: loop.example/g01166/laws.FnExactShellHeap -/
abbrev As_laws_FnExactShellHeap : List ATy := [.data false (.int .i64), .data false (.int .i64), .data false (.int .i64)]
abbrev R_laws_FnExactShellHeap : List (Bool × Ty) := [(false, .bool)]
abbrev M_laws_FnExactShellHeap : List RMode := []
abbrev Ft_laws_FnExactShellHeap : Type := Int × Int × Int × Unit → Option (Bool × Unit)
noncomputable def X_laws_FnExactShellHeap (n : Nat) (F_laws_eqHeap : Ft_laws_eqHeap) (F_laws_markHeap : Ft_laws_markHeap) (F_laws_heldHeap : Ft_laws_heldHeap) (F_spec_ShellHeap : Ft_spec_ShellHeap) (F_impl_ShellHeap : Ft_impl_ShellHeap) : Ctx := { types := TT, globals := [], con := [(24, ⟨As_laws_eqHeap, R_laws_eqHeap, M_laws_eqHeap, F_laws_eqHeap⟩), (34, ⟨As_laws_heldHeap, R_laws_heldHeap, M_laws_heldHeap, F_laws_heldHeap⟩), (35, ⟨As_spec_ShellHeap, R_spec_ShellHeap, M_spec_ShellHeap, F_spec_ShellHeap⟩), (36, ⟨As_impl_ShellHeap, R_impl_ShellHeap, M_impl_ShellHeap, F_impl_ShellHeap⟩)], mcon := [(29, ⟨As_laws_markHeap, R_laws_markHeap, M_laws_markHeap, F_laws_markHeap⟩)], keep := [], results := [.tmp 6], ntmps := 73, n := n }
noncomputable def B_laws_FnExactShellHeap : Code := (Try.f8.body).getD .skip
theorem e_laws_FnExactShellHeap (n : Nat) (F_laws_eqHeap : Ft_laws_eqHeap) (F_laws_markHeap : Ft_laws_markHeap) (F_laws_heldHeap : Ft_laws_heldHeap) (F_spec_ShellHeap : Ft_spec_ShellHeap) (F_impl_ShellHeap : Ft_impl_ShellHeap) (a0 : Int) (a1 : Int) (a2 : Int) : runF (X_laws_FnExactShellHeap n F_laws_eqHeap F_laws_markHeap F_laws_heldHeap F_spec_ShellHeap F_impl_ShellHeap) B_laws_FnExactShellHeap As_laws_FnExactShellHeap R_laws_FnExactShellHeap M_laws_FnExactShellHeap (a0, a1, a2, ()) = 
  Option.bind (F_spec_ShellHeap (a0, a1, a2, ())) fun r0 =>
  Option.bind (F_impl_ShellHeap (a0, a1, a2, ())) fun r1 =>
  Option.bind (F_laws_eqHeap (r1.1, r0.1, ())) fun r2 =>
  bif !r2.1 then
    some (false, ())
  else
    bif !(r1.2.1 == r0.2.1) then
      some (false, ())
    else
      Option.bind (F_laws_markHeap (r1.1, 1, ())) fun r5 =>
      Option.bind (F_laws_heldHeap ((r1.1.1, (r1.1.2.1, (r1.1.2.2.1, r5.2.1.2.2.2))), 1, ())) fun r6 =>
      bif decide (r6.1 < 0) then
        some (false, ())
      else
        bif !decide (r6.1 = r5.1.1) then
          some (false, ())
        else
          Option.bind (F_impl_ShellHeap (a0, a1, a2, ())) fun r9 =>
          Option.bind (F_laws_eqHeap (r9.1, r0.1, ())) fun r10 =>
          bif !r10.1 then
            some (false, ())
          else
            bif !(r9.2.1 == r0.2.1) then
              some (false, ())
            else
              Option.bind (F_laws_heldHeap ((r1.1.1, (r1.1.2.1, (r1.1.2.2.1, r5.2.1.2.2.2))), 1, ())) fun r13 =>
              bif decide (r13.1 < 0) then
                some (false, ())
              else
                bif !decide (r13.1 = r5.1.1) then
                  some (false, ())
                else
                  some (true, ()) := by kernel_rfl
noncomputable def P_laws_FnExactShellHeap : Ft_laws_FnExactShellHeap := hid (runF (X_laws_FnExactShellHeap N P_laws_eqHeap P_laws_markHeap P_laws_heldHeap P_spec_ShellHeap P_impl_ShellHeap) B_laws_FnExactShellHeap As_laws_FnExactShellHeap R_laws_FnExactShellHeap M_laws_FnExactShellHeap)
theorem h_laws_FnExactShellHeap : P_laws_FnExactShellHeap = runF (X_laws_FnExactShellHeap N P_laws_eqHeap P_laws_markHeap P_laws_heldHeap P_spec_ShellHeap P_impl_ShellHeap) B_laws_FnExactShellHeap As_laws_FnExactShellHeap R_laws_FnExactShellHeap M_laws_FnExactShellHeap := hid_eq _
noncomputable def C_laws_FnExactShellHeap : Contract := ⟨As_laws_FnExactShellHeap, R_laws_FnExactShellHeap, M_laws_FnExactShellHeap, P_laws_FnExactShellHeap⟩
theorem s_laws_FnExactShellHeap : Sound Try.prog GG 8 C_laws_FnExactShellHeap := by
  unfold C_laws_FnExactShellHeap; rw [h_laws_FnExactShellHeap]
  exact sound_of_run (fn := Try.f8) hmix hstable (tyOK_of ttOK) (hglob (X_laws_FnExactShellHeap N P_laws_eqHeap P_laws_markHeap P_laws_heldHeap P_spec_ShellHeap P_impl_ShellHeap)) (conOK_of (X := X_laws_FnExactShellHeap N P_laws_eqHeap P_laws_markHeap P_laws_heldHeap P_spec_ShellHeap P_impl_ShellHeap) ⟨s_laws_eqHeap, s_laws_heldHeap, s_spec_ShellHeap, s_impl_ShellHeap, trivial⟩) (mconOK_of (X := X_laws_FnExactShellHeap N P_laws_eqHeap P_laws_markHeap P_laws_heldHeap P_spec_ShellHeap P_impl_ShellHeap) ⟨s_laws_markHeap, trivial⟩) (by kernel_rfl) (by kernel_rfl) (by kernel_rfl) (by kernel_rfl) (by kernel_rfl) (by decide)
theorem p_laws_FnExactShellHeap (a0 : Int) (a1 : Int) (a2 : Int) : P_laws_FnExactShellHeap (a0, a1, a2, ()) = 
  Option.bind (P_spec_ShellHeap (a0, a1, a2, ())) fun r0 =>
  Option.bind (P_impl_ShellHeap (a0, a1, a2, ())) fun r1 =>
  Option.bind (P_laws_eqHeap (r1.1, r0.1, ())) fun r2 =>
  bif !r2.1 then
    some (false, ())
  else
    bif !(r1.2.1 == r0.2.1) then
      some (false, ())
    else
      Option.bind (P_laws_markHeap (r1.1, 1, ())) fun r5 =>
      Option.bind (P_laws_heldHeap ((r1.1.1, (r1.1.2.1, (r1.1.2.2.1, r5.2.1.2.2.2))), 1, ())) fun r6 =>
      bif decide (r6.1 < 0) then
        some (false, ())
      else
        bif !decide (r6.1 = r5.1.1) then
          some (false, ())
        else
          Option.bind (P_impl_ShellHeap (a0, a1, a2, ())) fun r9 =>
          Option.bind (P_laws_eqHeap (r9.1, r0.1, ())) fun r10 =>
          bif !r10.1 then
            some (false, ())
          else
            bif !(r9.2.1 == r0.2.1) then
              some (false, ())
            else
              Option.bind (P_laws_heldHeap ((r1.1.1, (r1.1.2.1, (r1.1.2.2.1, r5.2.1.2.2.2))), 1, ())) fun r13 =>
              bif decide (r13.1 < 0) then
                some (false, ())
              else
                bif !decide (r13.1 = r5.1.1) then
                  some (false, ())
                else
                  some (true, ()) := by
  rewrite [h_laws_FnExactShellHeap]
  exact e_laws_FnExactShellHeap N P_laws_eqHeap P_laws_markHeap P_laws_heldHeap P_spec_ShellHeap P_impl_ShellHeap a0 a1 a2

/- 81: loop.example/g01166/spec.l2With -/
abbrev As_spec_l2With : List ATy := [.data true T_Heap, .data true T_A3]
abbrev R_spec_l2With : List (Bool × Ty) := [(true, T_Heap)]
abbrev M_spec_l2With : List RMode := [.own 66]
abbrev Ft_spec_l2With : Type := D_Heap × D_A3 × Unit → Option (D_Heap × Unit)
noncomputable def X_spec_l2With (n : Nat) (F_spec_l2Before : Ft_spec_l2Before) (F_spec_l2Own : Ft_spec_l2Own) (F_spec_l2Made : Ft_spec_l2Made) : Ctx := { types := TT, globals := [], con := [(98, ⟨As_spec_l2Before, R_spec_l2Before, M_spec_l2Before, F_spec_l2Before⟩), (99, ⟨As_spec_l2Own, R_spec_l2Own, M_spec_l2Own, F_spec_l2Own⟩), (106, ⟨As_spec_l2Made, R_spec_l2Made, M_spec_l2Made, F_spec_l2Made⟩)], keep := [(2, ⟨[.box 2, .box 3, .box 4, .tmp 2, .tmp 3, .tmp 4, .tmp 5], []⟩)], results := [.cell 4 29], ntmps := 54, n := n }
noncomputable def B_spec_l2With : Code := (Try.f81.body).getD .skip
noncomputable def L_spec_l2With_2 (n : Nat) (F_spec_l2Before : Ft_spec_l2Before) (F_spec_l2Own : Ft_spec_l2Own) (F_spec_l2Made : Ft_spec_l2Made) (m0 : Nat) (p0 : Int) (p1 : Int) (p2 : Int) (p3 : List D_A3) (p4 : Int) (p5 : Int) (p6 : Int) (p7 : Int) (p8 : Int) (p9 : Int) (p10 : List D_A3) (p11 : Int) : Option (denL R_spec_l2With) := loopF (X_spec_l2With n F_spec_l2Before F_spec_l2Own F_spec_l2Made) B_spec_l2With R_spec_l2With M_spec_l2With 2 [m0] [(.ver, .num 1), (.box 2, .box 0 false [.int .i64 p0, .int .i64 p1, .int .i64 p2, .imm T_A3 p3 (some 3)]), (.box 3, .box 0 false [.int .i64 p4, .int .i64 p5, .int .i64 p6]), (.box 4, .box 0 false [.int .i64 p7, .int .i64 p8, .int .i64 p9, .own 66 T_A3 0 p10]), (.tmp 2, .val false [.addr 2 0 0]), (.tmp 3, .val false [.addr 3 0 0]), (.tmp 4, .val false [.addr 4 0 0]), (.tmp 5, .val false [.int .i64 p11])]
theorem e_spec_l2With (n : Nat) (F_spec_l2Before : Ft_spec_l2Before) (F_spec_l2Own : Ft_spec_l2Own) (F_spec_l2Made : Ft_spec_l2Made) (a0 : D_Heap) (a1 : D_A3) : runF (X_spec_l2With n F_spec_l2Before F_spec_l2Own F_spec_l2Made) B_spec_l2With As_spec_l2With R_spec_l2With M_spec_l2With (a0, a1, ()) = 
  L_spec_l2With_2 n F_spec_l2Before F_spec_l2Own F_spec_l2Made n a0.1 a0.2.1 a0.2.2.1 a0.2.2.2.1 a1.1 a1.2.1 a1.2.2.1 0 0 0 ([] : List D_A3) 0 := by kernel_rfl
theorem e_spec_l2With_2 (n : Nat) (F_spec_l2Before : Ft_spec_l2Before) (F_spec_l2Own : Ft_spec_l2Own) (F_spec_l2Made : Ft_spec_l2Made) (m0 : Nat) (p0 : Int) (p1 : Int) (p2 : Int) (p3 : List D_A3) (p4 : Int) (p5 : Int) (p6 : Int) (p7 : Int) (p8 : Int) (p9 : Int) (p10 : List D_A3) (p11 : Int) : L_spec_l2With_2 n F_spec_l2Before F_spec_l2Own F_spec_l2Made (m0 + 1) p0 p1 p2 p3 p4 p5 p6 p7 p8 p9 p10 p11 = 
  bif decide (p11 < (List.length p3 : Int)) then
    bif inB p11 (List.length p3) then
      Option.bind (F_spec_l2Before ((nth T_A3 p3 p11), (p4, (p5, (p6, ()))), ())) fun r2 =>
      bif r2.1 then
        L_spec_l2With_2 n F_spec_l2Before F_spec_l2Own F_spec_l2Made m0 p0 p1 p2 p3 p4 p5 p6 p7 p8 p9 p10 (IntKind.wrap .i64 (p11 + 1))
      else
        bif decide (p11 < (List.length p3 : Int)) then
          bif inB p11 (List.length p3) then
            bif (decide (((nth T_A3 p3 p11)).1 = p4) && (decide ((((nth T_A3 p3 p11)).2).1 = p5) && (decide (((((nth T_A3 p3 p11)).2).2).1 = p6) && true))) then
              Option.bind (F_spec_l2Own ((p0, (p1, (p2, (p3, ())))), ())) fun r7 =>
              some (r7.1, ())
            else
              bif (decide ((0 : Int) ≤ 0) && decide ((0 : Int) ≤ p11) && decide (p11 ≤ (List.length p3 : Int))) then
                bif (decide (((List.length ([] : List D_A3)) + (List.length (cut p3 0 p11))) * 24 ≤ 140737488355328) && decide (((List.length ([] : List D_A3)) + (List.length (cut p3 0 p11))) ≤ 140737488355328)) then
                  bif (decide (((List.length (([] : List D_A3) ++ (cut p3 0 p11))) + (List.length ([(p4, (p5, (p6, ())))] : List D_A3))) * 24 ≤ 140737488355328) && decide (((List.length (([] : List D_A3) ++ (cut p3 0 p11))) + (List.length ([(p4, (p5, (p6, ())))] : List D_A3))) ≤ 140737488355328)) then
                    bif (decide ((0 : Int) ≤ p11) && decide (p11 ≤ (List.length p3 : Int)) && decide ((List.length p3 : Int) ≤ (List.length p3 : Int))) then
                      bif (decide (((List.length ((([] : List D_A3) ++ (cut p3 0 p11)) ++ ([(p4, (p5, (p6, ())))] : List D_A3))) + (List.length (cut p3 p11 (List.length p3 : Int)))) * 24 ≤ 140737488355328) && decide (((List.length ((([] : List D_A3) ++ (cut p3 0 p11)) ++ ([(p4, (p5, (p6, ())))] : List D_A3))) + (List.length (cut p3 p11 (List.length p3 : Int)))) ≤ 140737488355328)) then
                        Option.bind (F_spec_l2Made ((p0, (p1, (p2, (p3, ())))), (((([] : List D_A3) ++ (cut p3 0 p11)) ++ ([(p4, (p5, (p6, ())))] : List D_A3)) ++ (cut p3 p11 (List.length p3 : Int))), ())) fun r12 =>
                        some ((r12.1.1, (r12.1.2.1, (r12.1.2.2.1, ((((([] : List D_A3) ++ (cut p3 0 p11)) ++ ([(p4, (p5, (p6, ())))] : List D_A3)) ++ (cut p3 p11 (List.length p3 : Int))), ())))), ())
                      else none
                    else none
                  else none
                else none
              else none
          else none
        else
          bif (decide ((0 : Int) ≤ 0) && decide ((0 : Int) ≤ p11) && decide (p11 ≤ (List.length p3 : Int))) then
            bif (decide (((List.length ([] : List D_A3)) + (List.length (cut p3 0 p11))) * 24 ≤ 140737488355328) && decide (((List.length ([] : List D_A3)) + (List.length (cut p3 0 p11))) ≤ 140737488355328)) then
              bif (decide (((List.length (([] : List D_A3) ++ (cut p3 0 p11))) + (List.length ([(p4, (p5, (p6, ())))] : List D_A3))) * 24 ≤ 140737488355328) && decide (((List.length (([] : List D_A3) ++ (cut p3 0 p11))) + (List.length ([(p4, (p5, (p6, ())))] : List D_A3))) ≤ 140737488355328)) then
                bif (decide ((0 : Int) ≤ p11) && decide (p11 ≤ (List.length p3 : Int)) && decide ((List.length p3 : Int) ≤ (List.length p3 : Int))) then
                  bif (decide (((List.length ((([] : List D_A3) ++ (cut p3 0 p11)) ++ ([(p4, (p5, (p6, ())))] : List D_A3))) + (List.length (cut p3 p11 (List.length p3 : Int)))) * 24 ≤ 140737488355328) && decide (((List.length ((([] : List D_A3) ++ (cut p3 0 p11)) ++ ([(p4, (p5, (p6, ())))] : List D_A3))) + (List.length (cut p3 p11 (List.length p3 : Int)))) ≤ 140737488355328)) then
                    Option.bind (F_spec_l2Made ((p0, (p1, (p2, (p3, ())))), (((([] : List D_A3) ++ (cut p3 0 p11)) ++ ([(p4, (p5, (p6, ())))] : List D_A3)) ++ (cut p3 p11 (List.length p3 : Int))), ())) fun r10 =>
                    some ((r10.1.1, (r10.1.2.1, (r10.1.2.2.1, ((((([] : List D_A3) ++ (cut p3 0 p11)) ++ ([(p4, (p5, (p6, ())))] : List D_A3)) ++ (cut p3 p11 (List.length p3 : Int))), ())))), ())
                  else none
                else none
              else none
            else none
          else none
    else none
  else
    bif decide (p11 < (List.length p3 : Int)) then
      bif inB p11 (List.length p3) then
        bif (decide (((nth T_A3 p3 p11)).1 = p4) && (decide ((((nth T_A3 p3 p11)).2).1 = p5) && (decide (((((nth T_A3 p3 p11)).2).2).1 = p6) && true))) then
          Option.bind (F_spec_l2Own ((p0, (p1, (p2, (p3, ())))), ())) fun r4 =>
          some (r4.1, ())
        else
          bif (decide ((0 : Int) ≤ 0) && decide ((0 : Int) ≤ p11) && decide (p11 ≤ (List.length p3 : Int))) then
            bif (decide (((List.length ([] : List D_A3)) + (List.length (cut p3 0 p11))) * 24 ≤ 140737488355328) && decide (((List.length ([] : List D_A3)) + (List.length (cut p3 0 p11))) ≤ 140737488355328)) then
              bif (decide (((List.length (([] : List D_A3) ++ (cut p3 0 p11))) + (List.length ([(p4, (p5, (p6, ())))] : List D_A3))) * 24 ≤ 140737488355328) && decide (((List.length (([] : List D_A3) ++ (cut p3 0 p11))) + (List.length ([(p4, (p5, (p6, ())))] : List D_A3))) ≤ 140737488355328)) then
                bif (decide ((0 : Int) ≤ p11) && decide (p11 ≤ (List.length p3 : Int)) && decide ((List.length p3 : Int) ≤ (List.length p3 : Int))) then
                  bif (decide (((List.length ((([] : List D_A3) ++ (cut p3 0 p11)) ++ ([(p4, (p5, (p6, ())))] : List D_A3))) + (List.length (cut p3 p11 (List.length p3 : Int)))) * 24 ≤ 140737488355328) && decide (((List.length ((([] : List D_A3) ++ (cut p3 0 p11)) ++ ([(p4, (p5, (p6, ())))] : List D_A3))) + (List.length (cut p3 p11 (List.length p3 : Int)))) ≤ 140737488355328)) then
                    Option.bind (F_spec_l2Made ((p0, (p1, (p2, (p3, ())))), (((([] : List D_A3) ++ (cut p3 0 p11)) ++ ([(p4, (p5, (p6, ())))] : List D_A3)) ++ (cut p3 p11 (List.length p3 : Int))), ())) fun r9 =>
                    some ((r9.1.1, (r9.1.2.1, (r9.1.2.2.1, ((((([] : List D_A3) ++ (cut p3 0 p11)) ++ ([(p4, (p5, (p6, ())))] : List D_A3)) ++ (cut p3 p11 (List.length p3 : Int))), ())))), ())
                  else none
                else none
              else none
            else none
          else none
      else none
    else
      bif (decide ((0 : Int) ≤ 0) && decide ((0 : Int) ≤ p11) && decide (p11 ≤ (List.length p3 : Int))) then
        bif (decide (((List.length ([] : List D_A3)) + (List.length (cut p3 0 p11))) * 24 ≤ 140737488355328) && decide (((List.length ([] : List D_A3)) + (List.length (cut p3 0 p11))) ≤ 140737488355328)) then
          bif (decide (((List.length (([] : List D_A3) ++ (cut p3 0 p11))) + (List.length ([(p4, (p5, (p6, ())))] : List D_A3))) * 24 ≤ 140737488355328) && decide (((List.length (([] : List D_A3) ++ (cut p3 0 p11))) + (List.length ([(p4, (p5, (p6, ())))] : List D_A3))) ≤ 140737488355328)) then
            bif (decide ((0 : Int) ≤ p11) && decide (p11 ≤ (List.length p3 : Int)) && decide ((List.length p3 : Int) ≤ (List.length p3 : Int))) then
              bif (decide (((List.length ((([] : List D_A3) ++ (cut p3 0 p11)) ++ ([(p4, (p5, (p6, ())))] : List D_A3))) + (List.length (cut p3 p11 (List.length p3 : Int)))) * 24 ≤ 140737488355328) && decide (((List.length ((([] : List D_A3) ++ (cut p3 0 p11)) ++ ([(p4, (p5, (p6, ())))] : List D_A3))) + (List.length (cut p3 p11 (List.length p3 : Int)))) ≤ 140737488355328)) then
                Option.bind (F_spec_l2Made ((p0, (p1, (p2, (p3, ())))), (((([] : List D_A3) ++ (cut p3 0 p11)) ++ ([(p4, (p5, (p6, ())))] : List D_A3)) ++ (cut p3 p11 (List.length p3 : Int))), ())) fun r7 =>
                some ((r7.1.1, (r7.1.2.1, (r7.1.2.2.1, ((((([] : List D_A3) ++ (cut p3 0 p11)) ++ ([(p4, (p5, (p6, ())))] : List D_A3)) ++ (cut p3 p11 (List.length p3 : Int))), ())))), ())
              else none
            else none
          else none
        else none
      else none := by kernel_rfl
noncomputable def P_spec_l2With : Ft_spec_l2With := hid (runF (X_spec_l2With N P_spec_l2Before P_spec_l2Own P_spec_l2Made) B_spec_l2With As_spec_l2With R_spec_l2With M_spec_l2With)
theorem h_spec_l2With : P_spec_l2With = runF (X_spec_l2With N P_spec_l2Before P_spec_l2Own P_spec_l2Made) B_spec_l2With As_spec_l2With R_spec_l2With M_spec_l2With := hid_eq _
noncomputable def C_spec_l2With : Contract := ⟨As_spec_l2With, R_spec_l2With, M_spec_l2With, P_spec_l2With⟩
theorem s_spec_l2With : Sound Try.prog GG 81 C_spec_l2With := by
  unfold C_spec_l2With; rw [h_spec_l2With]
  exact sound_of_run (fn := Try.f81) hmix hstable (tyOK_of ttOK) (hglob (X_spec_l2With N P_spec_l2Before P_spec_l2Own P_spec_l2Made)) (conOK_of (X := X_spec_l2With N P_spec_l2Before P_spec_l2Own P_spec_l2Made) ⟨s_spec_l2Before, s_spec_l2Own, s_spec_l2Made, trivial⟩) (mconOK_of (X := X_spec_l2With N P_spec_l2Before P_spec_l2Own P_spec_l2Made) trivial) (by kernel_rfl) (by kernel_rfl) (by kernel_rfl) (by kernel_rfl) (by kernel_rfl) (by decide)
noncomputable def l_spec_l2With_2 : Nat → Int → Int → Int → (List D_A3) → Int → Int → Int → Int → Int → Int → (List D_A3) → Int → Option (denL R_spec_l2With) := hid (fun m0 p0 p1 p2 p3 p4 p5 p6 p7 p8 p9 p10 p11 => L_spec_l2With_2 N P_spec_l2Before P_spec_l2Own P_spec_l2Made m0 p0 p1 p2 p3 p4 p5 p6 p7 p8 p9 p10 p11)
theorem h_spec_l2With_2 : l_spec_l2With_2 = fun m0 p0 p1 p2 p3 p4 p5 p6 p7 p8 p9 p10 p11 => L_spec_l2With_2 N P_spec_l2Before P_spec_l2Own P_spec_l2Made m0 p0 p1 p2 p3 p4 p5 p6 p7 p8 p9 p10 p11 := hid_eq _
theorem p_spec_l2With (a0 : D_Heap) (a1 : D_A3) : P_spec_l2With (a0, a1, ()) = 
  l_spec_l2With_2 N a0.1 a0.2.1 a0.2.2.1 a0.2.2.2.1 a1.1 a1.2.1 a1.2.2.1 0 0 0 ([] : List D_A3) 0 := by
  rewrite [h_spec_l2With, h_spec_l2With_2]
  exact e_spec_l2With N P_spec_l2Before P_spec_l2Own P_spec_l2Made a0 a1
theorem q_spec_l2With_2 (m0 : Nat) (p0 : Int) (p1 : Int) (p2 : Int) (p3 : List D_A3) (p4 : Int) (p5 : Int) (p6 : Int) (p7 : Int) (p8 : Int) (p9 : Int) (p10 : List D_A3) (p11 : Int) : l_spec_l2With_2 (m0 + 1) p0 p1 p2 p3 p4 p5 p6 p7 p8 p9 p10 p11 = 
  bif decide (p11 < (List.length p3 : Int)) then
    bif inB p11 (List.length p3) then
      Option.bind (P_spec_l2Before ((nth T_A3 p3 p11), (p4, (p5, (p6, ()))), ())) fun r2 =>
      bif r2.1 then
        l_spec_l2With_2 m0 p0 p1 p2 p3 p4 p5 p6 p7 p8 p9 p10 (IntKind.wrap .i64 (p11 + 1))
      else
        bif decide (p11 < (List.length p3 : Int)) then
          bif inB p11 (List.length p3) then
            bif (decide (((nth T_A3 p3 p11)).1 = p4) && (decide ((((nth T_A3 p3 p11)).2).1 = p5) && (decide (((((nth T_A3 p3 p11)).2).2).1 = p6) && true))) then
              Option.bind (P_spec_l2Own ((p0, (p1, (p2, (p3, ())))), ())) fun r7 =>
              some (r7.1, ())
            else
              bif (decide ((0 : Int) ≤ 0) && decide ((0 : Int) ≤ p11) && decide (p11 ≤ (List.length p3 : Int))) then
                bif (decide (((List.length ([] : List D_A3)) + (List.length (cut p3 0 p11))) * 24 ≤ 140737488355328) && decide (((List.length ([] : List D_A3)) + (List.length (cut p3 0 p11))) ≤ 140737488355328)) then
                  bif (decide (((List.length (([] : List D_A3) ++ (cut p3 0 p11))) + (List.length ([(p4, (p5, (p6, ())))] : List D_A3))) * 24 ≤ 140737488355328) && decide (((List.length (([] : List D_A3) ++ (cut p3 0 p11))) + (List.length ([(p4, (p5, (p6, ())))] : List D_A3))) ≤ 140737488355328)) then
                    bif (decide ((0 : Int) ≤ p11) && decide (p11 ≤ (List.length p3 : Int)) && decide ((List.length p3 : Int) ≤ (List.length p3 : Int))) then
                      bif (decide (((List.length ((([] : List D_A3) ++ (cut p3 0 p11)) ++ ([(p4, (p5, (p6, ())))] : List D_A3))) + (List.length (cut p3 p11 (List.length p3 : Int)))) * 24 ≤ 140737488355328) && decide (((List.length ((([] : List D_A3) ++ (cut p3 0 p11)) ++ ([(p4, (p5, (p6, ())))] : List D_A3))) + (List.length (cut p3 p11 (List.length p3 : Int)))) ≤ 140737488355328)) then
                        Option.bind (P_spec_l2Made ((p0, (p1, (p2, (p3, ())))), (((([] : List D_A3) ++ (cut p3 0 p11)) ++ ([(p4, (p5, (p6, ())))] : List D_A3)) ++ (cut p3 p11 (List.length p3 : Int))), ())) fun r12 =>
                        some ((r12.1.1, (r12.1.2.1, (r12.1.2.2.1, ((((([] : List D_A3) ++ (cut p3 0 p11)) ++ ([(p4, (p5, (p6, ())))] : List D_A3)) ++ (cut p3 p11 (List.length p3 : Int))), ())))), ())
                      else none
                    else none
                  else none
                else none
              else none
          else none
        else
          bif (decide ((0 : Int) ≤ 0) && decide ((0 : Int) ≤ p11) && decide (p11 ≤ (List.length p3 : Int))) then
            bif (decide (((List.length ([] : List D_A3)) + (List.length (cut p3 0 p11))) * 24 ≤ 140737488355328) && decide (((List.length ([] : List D_A3)) + (List.length (cut p3 0 p11))) ≤ 140737488355328)) then
              bif (decide (((List.length (([] : List D_A3) ++ (cut p3 0 p11))) + (List.length ([(p4, (p5, (p6, ())))] : List D_A3))) * 24 ≤ 140737488355328) && decide (((List.length (([] : List D_A3) ++ (cut p3 0 p11))) + (List.length ([(p4, (p5, (p6, ())))] : List D_A3))) ≤ 140737488355328)) then
                bif (decide ((0 : Int) ≤ p11) && decide (p11 ≤ (List.length p3 : Int)) && decide ((List.length p3 : Int) ≤ (List.length p3 : Int))) then
                  bif (decide (((List.length ((([] : List D_A3) ++ (cut p3 0 p11)) ++ ([(p4, (p5, (p6, ())))] : List D_A3))) + (List.length (cut p3 p11 (List.length p3 : Int)))) * 24 ≤ 140737488355328) && decide (((List.length ((([] : List D_A3) ++ (cut p3 0 p11)) ++ ([(p4, (p5, (p6, ())))] : List D_A3))) + (List.length (cut p3 p11 (List.length p3 : Int)))) ≤ 140737488355328)) then
                    Option.bind (P_spec_l2Made ((p0, (p1, (p2, (p3, ())))), (((([] : List D_A3) ++ (cut p3 0 p11)) ++ ([(p4, (p5, (p6, ())))] : List D_A3)) ++ (cut p3 p11 (List.length p3 : Int))), ())) fun r10 =>
                    some ((r10.1.1, (r10.1.2.1, (r10.1.2.2.1, ((((([] : List D_A3) ++ (cut p3 0 p11)) ++ ([(p4, (p5, (p6, ())))] : List D_A3)) ++ (cut p3 p11 (List.length p3 : Int))), ())))), ())
                  else none
                else none
              else none
            else none
          else none
    else none
  else
    bif decide (p11 < (List.length p3 : Int)) then
      bif inB p11 (List.length p3) then
        bif (decide (((nth T_A3 p3 p11)).1 = p4) && (decide ((((nth T_A3 p3 p11)).2).1 = p5) && (decide (((((nth T_A3 p3 p11)).2).2).1 = p6) && true))) then
          Option.bind (P_spec_l2Own ((p0, (p1, (p2, (p3, ())))), ())) fun r4 =>
          some (r4.1, ())
        else
          bif (decide ((0 : Int) ≤ 0) && decide ((0 : Int) ≤ p11) && decide (p11 ≤ (List.length p3 : Int))) then
            bif (decide (((List.length ([] : List D_A3)) + (List.length (cut p3 0 p11))) * 24 ≤ 140737488355328) && decide (((List.length ([] : List D_A3)) + (List.length (cut p3 0 p11))) ≤ 140737488355328)) then
              bif (decide (((List.length (([] : List D_A3) ++ (cut p3 0 p11))) + (List.length ([(p4, (p5, (p6, ())))] : List D_A3))) * 24 ≤ 140737488355328) && decide (((List.length (([] : List D_A3) ++ (cut p3 0 p11))) + (List.length ([(p4, (p5, (p6, ())))] : List D_A3))) ≤ 140737488355328)) then
                bif (decide ((0 : Int) ≤ p11) && decide (p11 ≤ (List.length p3 : Int)) && decide ((List.length p3 : Int) ≤ (List.length p3 : Int))) then
                  bif (decide (((List.length ((([] : List D_A3) ++ (cut p3 0 p11)) ++ ([(p4, (p5, (p6, ())))] : List D_A3))) + (List.length (cut p3 p11 (List.length p3 : Int)))) * 24 ≤ 140737488355328) && decide (((List.length ((([] : List D_A3) ++ (cut p3 0 p11)) ++ ([(p4, (p5, (p6, ())))] : List D_A3))) + (List.length (cut p3 p11 (List.length p3 : Int)))) ≤ 140737488355328)) then
                    Option.bind (P_spec_l2Made ((p0, (p1, (p2, (p3, ())))), (((([] : List D_A3) ++ (cut p3 0 p11)) ++ ([(p4, (p5, (p6, ())))] : List D_A3)) ++ (cut p3 p11 (List.length p3 : Int))), ())) fun r9 =>
                    some ((r9.1.1, (r9.1.2.1, (r9.1.2.2.1, ((((([] : List D_A3) ++ (cut p3 0 p11)) ++ ([(p4, (p5, (p6, ())))] : List D_A3)) ++ (cut p3 p11 (List.length p3 : Int))), ())))), ())
                  else none
                else none
              else none
            else none
          else none
      else none
    else
      bif (decide ((0 : Int) ≤ 0) && decide ((0 : Int) ≤ p11) && decide (p11 ≤ (List.length p3 : Int))) then
        bif (decide (((List.length ([] : List D_A3)) + (List.length (cut p3 0 p11))) * 24 ≤ 140737488355328) && decide (((List.length ([] : List D_A3)) + (List.length (cut p3 0 p11))) ≤ 140737488355328)) then
          bif (decide (((List.length (([] : List D_A3) ++ (cut p3 0 p11))) + (List.length ([(p4, (p5, (p6, ())))] : List D_A3))) * 24 ≤ 140737488355328) && decide (((List.length (([] : List D_A3) ++ (cut p3 0 p11))) + (List.length ([(p4, (p5, (p6, ())))] : List D_A3))) ≤ 140737488355328)) then
            bif (decide ((0 : Int) ≤ p11) && decide (p11 ≤ (List.length p3 : Int)) && decide ((List.length p3 : Int) ≤ (List.length p3 : Int))) then
              bif (decide (((List.length ((([] : List D_A3) ++ (cut p3 0 p11)) ++ ([(p4, (p5, (p6, ())))] : List D_A3))) + (List.length (cut p3 p11 (List.length p3 : Int)))) * 24 ≤ 140737488355328) && decide (((List.length ((([] : List D_A3) ++ (cut p3 0 p11)) ++ ([(p4, (p5, (p6, ())))] : List D_A3))) + (List.length (cut p3 p11 (List.length p3 : Int)))) ≤ 140737488355328)) then
                Option.bind (P_spec_l2Made ((p0, (p1, (p2, (p3, ())))), (((([] : List D_A3) ++ (cut p3 0 p11)) ++ ([(p4, (p5, (p6, ())))] : List D_A3)) ++ (cut p3 p11 (List.length p3 : Int))), ())) fun r7 =>
                some ((r7.1.1, (r7.1.2.1, (r7.1.2.2.1, ((((([] : List D_A3) ++ (cut p3 0 p11)) ++ ([(p4, (p5, (p6, ())))] : List D_A3)) ++ (cut p3 p11 (List.length p3 : Int))), ())))), ())
              else none
            else none
          else none
        else none
      else none := by
  rewrite [h_spec_l2With_2]
  exact e_spec_l2With_2 N P_spec_l2Before P_spec_l2Own P_spec_l2Made m0 p0 p1 p2 p3 p4 p5 p6 p7 p8 p9 p10 p11

/- 82: loop.example/g01166/spec.l2Kept -/
abbrev As_spec_l2Kept : List ATy := [.data true T_Heap]
abbrev R_spec_l2Kept : List (Bool × Ty) := [(true, T_Heap), (false, .bool)]
abbrev M_spec_l2Kept : List RMode := [.imm]
abbrev Ft_spec_l2Kept : Type := D_Heap × Unit → Option (D_Heap × Bool × Unit)
noncomputable def X_spec_l2Kept (n : Nat) (F_spec_l2Heap : Ft_spec_l2Heap) : Ctx := { types := TT, globals := [], con := [(64, ⟨As_spec_l2Heap, R_spec_l2Heap, M_spec_l2Heap, F_spec_l2Heap⟩)], keep := [], results := [.cell 2 29, .tmp 3], ntmps := 9, n := n }
noncomputable def B_spec_l2Kept : Code := (Try.f82.body).getD .skip
theorem e_spec_l2Kept (n : Nat) (F_spec_l2Heap : Ft_spec_l2Heap) (a0 : D_Heap) : runF (X_spec_l2Kept n F_spec_l2Heap) B_spec_l2Kept As_spec_l2Kept R_spec_l2Kept M_spec_l2Kept (a0, ()) = 
  Option.bind (F_spec_l2Heap (a0, ())) fun r0 =>
  bif !r0.1 then
    some ((0, (0, (0, (([] : List D_A3), ())))), false, ())
  else
    some (a0, true, ()) := by kernel_rfl
noncomputable def P_spec_l2Kept : Ft_spec_l2Kept := hid (runF (X_spec_l2Kept N P_spec_l2Heap) B_spec_l2Kept As_spec_l2Kept R_spec_l2Kept M_spec_l2Kept)
theorem h_spec_l2Kept : P_spec_l2Kept = runF (X_spec_l2Kept N P_spec_l2Heap) B_spec_l2Kept As_spec_l2Kept R_spec_l2Kept M_spec_l2Kept := hid_eq _
noncomputable def C_spec_l2Kept : Contract := ⟨As_spec_l2Kept, R_spec_l2Kept, M_spec_l2Kept, P_spec_l2Kept⟩
theorem s_spec_l2Kept : Sound Try.prog GG 82 C_spec_l2Kept := by
  unfold C_spec_l2Kept; rw [h_spec_l2Kept]
  exact sound_of_run (fn := Try.f82) hmix hstable (tyOK_of ttOK) (hglob (X_spec_l2Kept N P_spec_l2Heap)) (conOK_of (X := X_spec_l2Kept N P_spec_l2Heap) ⟨s_spec_l2Heap, trivial⟩) (mconOK_of (X := X_spec_l2Kept N P_spec_l2Heap) trivial) (by kernel_rfl) (by kernel_rfl) (by kernel_rfl) (by kernel_rfl) (by kernel_rfl) (by decide)
theorem p_spec_l2Kept (a0 : D_Heap) : P_spec_l2Kept (a0, ()) = 
  Option.bind (P_spec_l2Heap (a0, ())) fun r0 =>
  bif !r0.1 then
    some ((0, (0, (0, (([] : List D_A3), ())))), false, ())
  else
    some (a0, true, ()) := by
  rewrite [h_spec_l2Kept]
  exact e_spec_l2Kept N P_spec_l2Heap a0

/- 37: loop.example/g01166/spec.GlueHeaps -/
abbrev As_spec_GlueHeaps : List ATy := [.data true T_Heap, .data true T_Heap, .data false (.int .i64)]
abbrev R_spec_GlueHeaps : List (Bool × Ty) := [(true, T_Heap), (false, .bool)]
abbrev M_spec_GlueHeaps : List RMode := [.imm]
abbrev Ft_spec_GlueHeaps : Type := D_Heap × D_Heap × Int × Unit → Option (D_Heap × Bool × Unit)
noncomputable def X_spec_GlueHeaps (n : Nat) (F_spec_l2Heap : Ft_spec_l2Heap) (F_spec_l2Long : Ft_spec_l2Long) (F_spec_l11Box : Ft_spec_l11Box) (F_spec_l1In : Ft_spec_l1In) (F_spec_l2With : Ft_spec_l2With) (F_spec_l2Kept : Ft_spec_l2Kept) : Ctx := { types := TT, globals := [], con := [(64, ⟨As_spec_l2Heap, R_spec_l2Heap, M_spec_l2Heap, F_spec_l2Heap⟩), (65, ⟨As_spec_l2Long, R_spec_l2Long, M_spec_l2Long, F_spec_l2Long⟩), (70, ⟨As_spec_l11Box, R_spec_l11Box, M_spec_l11Box, F_spec_l11Box⟩), (80, ⟨As_spec_l1In, R_spec_l1In, M_spec_l1In, F_spec_l1In⟩), (81, ⟨As_spec_l2With, R_spec_l2With, M_spec_l2With, F_spec_l2With⟩), (82, ⟨As_spec_l2Kept, R_spec_l2Kept, M_spec_l2Kept, F_spec_l2Kept⟩)], keep := [(4, ⟨[.box 3, .box 4, .box 6, .tmp 2, .tmp 3, .tmp 4, .tmp 6, .tmp 8], []⟩), (11, ⟨[.box 3, .box 4, .box 6, .box 10, .tmp 2, .tmp 3, .tmp 4, .tmp 6, .tmp 9, .tmp 10, .tmp 11], []⟩), (15, ⟨[.box 4, .box 6, .box 10, .tmp 2, .tmp 4, .tmp 6, .tmp 9, .tmp 10, .tmp 12], []⟩)], results := [.cell 6 29, .tmp 7], ntmps := 96, n := n }
noncomputable def B_spec_GlueHeaps : Code := (Try.f37.body).getD .skip
noncomputable def L_spec_GlueHeaps_4 (n : Nat) (F_spec_l2Heap : Ft_spec_l2Heap) (F_spec_l2Long : Ft_spec_l2Long) (F_spec_l11Box : Ft_spec_l11Box) (F_spec_l1In : Ft_spec_l1In) (F_spec_l2With : Ft_spec_l2With) (F_spec_l2Kept : Ft_spec_l2Kept) (m0 : Nat) (p0 : Int) (p1 : Int) (p2 : Int) (p3 : List D_A3) (p4 : Int) (p5 : Int) (p6 : Int) (p7 : List D_A3) (p8 : Int) (p9 : Int) (p10 : Int) (p11 : List D_A3) (p12 : Int) (p13 : Int) : Option (denL R_spec_GlueHeaps) := loopF (X_spec_GlueHeaps n F_spec_l2Heap F_spec_l2Long F_spec_l11Box F_spec_l1In F_spec_l2With F_spec_l2Kept) B_spec_GlueHeaps R_spec_GlueHeaps M_spec_GlueHeaps 4 [m0] [(.ver, .num 1), (.box 3, .box 0 false [.int .i64 p0, .int .i64 p1, .int .i64 p2, .imm T_A3 p3 (some 3)]), (.box 4, .box 0 false [.int .i64 p4, .int .i64 p5, .int .i64 p6, .imm T_A3 p7 (some 7)]), (.box 6, .box 0 false [.int .i64 p8, .int .i64 p9, .int .i64 p10, .own 66 T_A3 0 p11]), (.tmp 2, .val false [.int .i64 p12]), (.tmp 3, .val false [.addr 3 0 0]), (.tmp 4, .val false [.addr 4 0 0]), (.tmp 6, .val false [.addr 6 0 0]), (.tmp 8, .val false [.int .i64 p13])]
noncomputable def L_spec_GlueHeaps_11 (n : Nat) (F_spec_l2Heap : Ft_spec_l2Heap) (F_spec_l2Long : Ft_spec_l2Long) (F_spec_l11Box : Ft_spec_l11Box) (F_spec_l1In : Ft_spec_l1In) (F_spec_l2With : Ft_spec_l2With) (F_spec_l2Kept : Ft_spec_l2Kept) (m0 : Nat) (p0 : Int) (p1 : Int) (p2 : Int) (p3 : List D_A3) (p4 : Int) (p5 : Int) (p6 : Int) (p7 : List D_A3) (p8 : Int) (p9 : Int) (p10 : Int) (p11 : List D_A3) (p12 : Int) (p13 : Int) (p14 : Int) (p15 : List D_A3) (p16 : Int) (p17 : Int) (p18 : Int) : Option (denL R_spec_GlueHeaps) := loopF (X_spec_GlueHeaps n F_spec_l2Heap F_spec_l2Long F_spec_l11Box F_spec_l1In F_spec_l2With F_spec_l2Kept) B_spec_GlueHeaps R_spec_GlueHeaps M_spec_GlueHeaps 11 [m0] [(.ver, .num 1), (.box 3, .box 0 false [.int .i64 p0, .int .i64 p1, .int .i64 p2, .imm T_A3 p3 (some 3)]), (.box 4, .box 0 false [.int .i64 p4, .int .i64 p5, .int .i64 p6, .imm T_A3 p7 (some 7)]), (.box 6, .box 0 false [.int .i64 p8, .int .i64 p9, .int .i64 p10, .own 66 T_A3 0 p11]), (.box 10, .box 0 false [.int .i64 p12, .int .i64 p13, .int .i64 p14, .own 66 T_A3 0 p15]), (.tmp 2, .val false [.int .i64 p16]), (.tmp 3, .val false [.addr 3 0 0]), (.tmp 4, .val false [.addr 4 0 0]), (.tmp 6, .val false [.addr 6 0 0]), (.tmp 9, .val false [.int .i64 p17]), (.tmp 10, .val false [.addr 10 0 0]), (.tmp 11, .val false [.int .i64 p18])]
noncomputable def L_spec_GlueHeaps_15 (n : Nat) (F_spec_l2Heap : Ft_spec_l2Heap) (F_spec_l2Long : Ft_spec_l2Long) (F_spec_l11Box : Ft_spec_l11Box) (F_spec_l1In : Ft_spec_l1In) (F_spec_l2With : Ft_spec_l2With) (F_spec_l2Kept : Ft_spec_l2Kept) (m0 : Nat) (p0 : Int) (p1 : Int) (p2 : Int) (p3 : List D_A3) (p4 : Int) (p5 : Int) (p6 : Int) (p7 : List D_A3) (p8 : Int) (p9 : Int) (p10 : Int) (p11 : List D_A3) (p12 : Int) (p13 : Int) (p14 : Int) : Option (denL R_spec_GlueHeaps) := loopF (X_spec_GlueHeaps n F_spec_l2Heap F_spec_l2Long F_spec_l11Box F_spec_l1In F_spec_l2With F_spec_l2Kept) B_spec_GlueHeaps R_spec_GlueHeaps M_spec_GlueHeaps 15 [m0] [(.ver, .num 1), (.box 4, .box 0 false [.int .i64 p0, .int .i64 p1, .int .i64 p2, .imm T_A3 p3 (some 7)]), (.box 6, .box 0 false [.int .i64 p4, .int .i64 p5, .int .i64 p6, .own 66 T_A3 0 p7]), (.box 10, .box 0 false [.int .i64 p8, .int .i64 p9, .int .i64 p10, .own 66 T_A3 0 p11]), (.tmp 2, .val false [.int .i64 p12]), (.tmp 4, .val false [.addr 4 0 0]), (.tmp 6, .val false [.addr 6 0 0]), (.tmp 9, .val false [.int .i64 p13]), (.tmp 10, .val false [.addr 10 0 0]), (.tmp 12, .val false [.int .i64 p14])]
theorem e_spec_GlueHeaps (n : Nat) (F_spec_l2Heap : Ft_spec_l2Heap) (F_spec_l2Long : Ft_spec_l2Long) (F_spec_l11Box : Ft_spec_l11Box) (F_spec_l1In : Ft_spec_l1In) (F_spec_l2With : Ft_spec_l2With) (F_spec_l2Kept : Ft_spec_l2Kept) (a0 : D_Heap) (a1 : D_Heap) (a2 : Int) : runF (X_spec_GlueHeaps n F_spec_l2Heap F_spec_l2Long F_spec_l11Box F_spec_l1In F_spec_l2With F_spec_l2Kept) B_spec_GlueHeaps As_spec_GlueHeaps R_spec_GlueHeaps M_spec_GlueHeaps (a0, a1, a2, ()) = 
  Option.bind (F_spec_l2Heap (a0, ())) fun r0 =>
  bif !r0.1 then
    some ((0, (0, (0, (([] : List D_A3), ())))), false, ())
  else
    Option.bind (F_spec_l2Heap (a1, ())) fun r2 =>
    bif !r2.1 then
      some ((0, (0, (0, (([] : List D_A3), ())))), false, ())
    else
      Option.bind (F_spec_l1In (a2, 0, 2, ())) fun r4 =>
      bif !r4.1 then
        some ((0, (0, (0, (([] : List D_A3), ())))), false, ())
      else
        L_spec_GlueHeaps_4 n F_spec_l2Heap F_spec_l2Long F_spec_l11Box F_spec_l1In F_spec_l2With F_spec_l2Kept n a0.1 a0.2.1 a0.2.2.1 a0.2.2.2.1 a1.1 a1.2.1 a1.2.2.1 a1.2.2.2.1 0 0 0 ([] : List D_A3) a2 0 := by kernel_rfl
theorem e_spec_GlueHeaps_4 (n : Nat) (F_spec_l2Heap : Ft_spec_l2Heap) (F_spec_l2Long : Ft_spec_l2Long) (F_spec_l11Box : Ft_spec_l11Box) (F_spec_l1In : Ft_spec_l1In) (F_spec_l2With : Ft_spec_l2With) (F_spec_l2Kept : Ft_spec_l2Kept) (m0 : Nat) (p0 : Int) (p1 : Int) (p2 : Int) (p3 : List D_A3) (p4 : Int) (p5 : Int) (p6 : Int) (p7 : List D_A3) (p8 : Int) (p9 : Int) (p10 : Int) (p11 : List D_A3) (p12 : Int) (p13 : Int) : L_spec_GlueHeaps_4 n F_spec_l2Heap F_spec_l2Long F_spec_l11Box F_spec_l1In F_spec_l2With F_spec_l2Kept (m0 + 1) p0 p1 p2 p3 p4 p5 p6 p7 p8 p9 p10 p11 p12 p13 = 
  bif decide (p13 < 3) then
    bif !decide (p13 = p12) then
      Option.bind (F_spec_l2Long ((p0, (p1, (p2, (p3, ())))), p13, ())) fun r2 =>
      Option.bind (F_spec_l2Long ((p4, (p5, (p6, (p7, ())))), p13, ())) fun r3 =>
      bif !decide (r2.1 = r3.1) then
        some ((0, (0, (0, (([] : List D_A3), ())))), false, ())
      else
        L_spec_GlueHeaps_4 n F_spec_l2Heap F_spec_l2Long F_spec_l11Box F_spec_l1In F_spec_l2With F_spec_l2Kept m0 p0 p1 p2 p3 p4 p5 p6 p7 p8 p9 p10 p11 p12 (IntKind.wrap .i64 (p13 + 1))
    else
      L_spec_GlueHeaps_4 n F_spec_l2Heap F_spec_l2Long F_spec_l11Box F_spec_l1In F_spec_l2With F_spec_l2Kept m0 p0 p1 p2 p3 p4 p5 p6 p7 p8 p9 p10 p11 p12 (IntKind.wrap .i64 (p13 + 1))
  else
    Option.bind (F_spec_l2Long ((p0, (p1, (p2, (p3, ())))), p12, ())) fun r1 =>
    Option.bind (F_spec_l2Long ((p4, (p5, (p6, (p7, ())))), p12, ())) fun r2 =>
    Option.bind (F_spec_l11Box ((p0, (p1, (p2, (p3, ())))), p12, (IntKind.wrap .i64 (r1.1 + r2.1)), ())) fun r3 =>
    L_spec_GlueHeaps_11 n F_spec_l2Heap F_spec_l2Long F_spec_l11Box F_spec_l1In F_spec_l2With F_spec_l2Kept n p0 p1 p2 p3 p4 p5 p6 p7 p8 p9 p10 p11 r3.1.1 r3.1.2.1 r3.1.2.2.1 r3.1.2.2.2.1 p12 r1.1 0 := by kernel_rfl
theorem e_spec_GlueHeaps_11 (n : Nat) (F_spec_l2Heap : Ft_spec_l2Heap) (F_spec_l2Long : Ft_spec_l2Long) (F_spec_l11Box : Ft_spec_l11Box) (F_spec_l1In : Ft_spec_l1In) (F_spec_l2With : Ft_spec_l2With) (F_spec_l2Kept : Ft_spec_l2Kept) (m0 : Nat) (p0 : Int) (p1 : Int) (p2 : Int) (p3 : List D_A3) (p4 : Int) (p5 : Int) (p6 : Int) (p7 : List D_A3) (p8 : Int) (p9 : Int) (p10 : Int) (p11 : List D_A3) (p12 : Int) (p13 : Int) (p14 : Int) (p15 : List D_A3) (p16 : Int) (p17 : Int) (p18 : Int) : L_spec_GlueHeaps_11 n F_spec_l2Heap F_spec_l2Long F_spec_l11Box F_spec_l1In F_spec_l2With F_spec_l2Kept (m0 + 1) p0 p1 p2 p3 p4 p5 p6 p7 p8 p9 p10 p11 p12 p13 p14 p15 p16 p17 p18 = 
  bif decide (p18 < (List.length p3 : Int)) then
    bif inB p18 (List.length p3) then
      Option.bind (F_spec_l2With ((p12, (p13, (p14, (p15, ())))), (nth T_A3 p3 p18), ())) fun r2 =>
      L_spec_GlueHeaps_11 n F_spec_l2Heap F_spec_l2Long F_spec_l11Box F_spec_l1In F_spec_l2With F_spec_l2Kept m0 p0 p1 p2 p3 p4 p5 p6 p7 p8 p9 p10 p11 r2.1.1 r2.1.2.1 r2.1.2.2.1 r2.1.2.2.2.1 p16 p17 (IntKind.wrap .i64 (p18 + 1))
    else none
  else
    L_spec_GlueHeaps_15 n F_spec_l2Heap F_spec_l2Long F_spec_l11Box F_spec_l1In F_spec_l2With F_spec_l2Kept n p4 p5 p6 p7 p8 p9 p10 p11 p12 p13 p14 p15 p16 p17 0 := by kernel_rfl
theorem e_spec_GlueHeaps_15 (n : Nat) (F_spec_l2Heap : Ft_spec_l2Heap) (F_spec_l2Long : Ft_spec_l2Long) (F_spec_l11Box : Ft_spec_l11Box) (F_spec_l1In : Ft_spec_l1In) (F_spec_l2With : Ft_spec_l2With) (F_spec_l2Kept : Ft_spec_l2Kept) (m0 : Nat) (p0 : Int) (p1 : Int) (p2 : Int) (p3 : List D_A3) (p4 : Int) (p5 : Int) (p6 : Int) (p7 : List D_A3) (p8 : Int) (p9 : Int) (p10 : Int) (p11 : List D_A3) (p12 : Int) (p13 : Int) (p14 : Int) : L_spec_GlueHeaps_15 n F_spec_l2Heap F_spec_l2Long F_spec_l11Box F_spec_l1In F_spec_l2With F_spec_l2Kept (m0 + 1) p0 p1 p2 p3 p4 p5 p6 p7 p8 p9 p10 p11 p12 p13 p14 = 
  bif decide (p14 < (List.length p3 : Int)) then
    bif inB p14 (List.length p3) then
      bif inB p12 3 then
        bif inB p12 3 then
          Option.bind (F_spec_l2With ((p8, (p9, (p10, (p11, ())))), ((bif decide (p12 = (0 : Int)) then (IntKind.wrap .i64 ((bif decide (p12 = (0 : Int)) then ((nth T_A3 p3 p14)).1 else (bif decide (p12 = (1 : Int)) then (((nth T_A3 p3 p14)).2).1 else ((((nth T_A3 p3 p14)).2).2).1)) + p13)) else ((nth T_A3 p3 p14)).1), ((bif decide (p12 = (1 : Int)) then (IntKind.wrap .i64 ((bif decide (p12 = (0 : Int)) then ((nth T_A3 p3 p14)).1 else (bif decide (p12 = (1 : Int)) then (((nth T_A3 p3 p14)).2).1 else ((((nth T_A3 p3 p14)).2).2).1)) + p13)) else (((nth T_A3 p3 p14)).2).1), ((bif decide (p12 = (2 : Int)) then (IntKind.wrap .i64 ((bif decide (p12 = (0 : Int)) then ((nth T_A3 p3 p14)).1 else (bif decide (p12 = (1 : Int)) then (((nth T_A3 p3 p14)).2).1 else ((((nth T_A3 p3 p14)).2).2).1)) + p13)) else ((((nth T_A3 p3 p14)).2).2).1), ()))), ())) fun r4 =>
          L_spec_GlueHeaps_15 n F_spec_l2Heap F_spec_l2Long F_spec_l11Box F_spec_l1In F_spec_l2With F_spec_l2Kept m0 p0 p1 p2 p3 p4 p5 p6 p7 r4.1.1 r4.1.2.1 r4.1.2.2.1 r4.1.2.2.2.1 p12 p13 (IntKind.wrap .i64 (p14 + 1))
        else none
      else none
    else none
  else
    Option.bind (F_spec_l2Kept ((p8, (p9, (p10, (p11, ())))), ())) fun r1 =>
    some (r1.1, r1.2.1, ()) := by kernel_rfl
noncomputable def P_spec_GlueHeaps : Ft_spec_GlueHeaps := hid (runF (X_spec_GlueHeaps N P_spec_l2Heap P_spec_l2Long P_spec_l11Box P_spec_l1In P_spec_l2With P_spec_l2Kept) B_spec_GlueHeaps As_spec_GlueHeaps R_spec_GlueHeaps M_spec_GlueHeaps)
theorem h_spec_GlueHeaps : P_spec_GlueHeaps = runF (X_spec_GlueHeaps N P_spec_l2Heap P_spec_l2Long P_spec_l11Box P_spec_l1In P_spec_l2With P_spec_l2Kept) B_spec_GlueHeaps As_spec_GlueHeaps R_spec_GlueHeaps M_spec_GlueHeaps := hid_eq _
noncomputable def C_spec_GlueHeaps : Contract := ⟨As_spec_GlueHeaps, R_spec_GlueHeaps, M_spec_GlueHeaps, P_spec_GlueHeaps⟩
theorem s_spec_GlueHeaps : Sound Try.prog GG 37 C_spec_GlueHeaps := by
  unfold C_spec_GlueHeaps; rw [h_spec_GlueHeaps]
  exact sound_of_run (fn := Try.f37) hmix hstable (tyOK_of ttOK) (hglob (X_spec_GlueHeaps N P_spec_l2Heap P_spec_l2Long P_spec_l11Box P_spec_l1In P_spec_l2With P_spec_l2Kept)) (conOK_of (X := X_spec_GlueHeaps N P_spec_l2Heap P_spec_l2Long P_spec_l11Box P_spec_l1In P_spec_l2With P_spec_l2Kept) ⟨s_spec_l2Heap, s_spec_l2Long, s_spec_l11Box, s_spec_l1In, s_spec_l2With, s_spec_l2Kept, trivial⟩) (mconOK_of (X := X_spec_GlueHeaps N P_spec_l2Heap P_spec_l2Long P_spec_l11Box P_spec_l1In P_spec_l2With P_spec_l2Kept) trivial) (by kernel_rfl) (by kernel_rfl) (by kernel_rfl) (by kernel_rfl) (by kernel_rfl) (by decide)
noncomputable def l_spec_GlueHeaps_4 : Nat → Int → Int → Int → (List D_A3) → Int → Int → Int → (List D_A3) → Int → Int → Int → (List D_A3) → Int → Int → Option (denL R_spec_GlueHeaps) := hid (fun m0 p0 p1 p2 p3 p4 p5 p6 p7 p8 p9 p10 p11 p12 p13 => L_spec_GlueHeaps_4 N P_spec_l2Heap P_spec_l2Long P_spec_l11Box P_spec_l1In P_spec_l2With P_spec_l2Kept m0 p0 p1 p2 p3 p4 p5 p6 p7 p8 p9 p10 p11 p12 p13)
theorem h_spec_GlueHeaps_4 : l_spec_GlueHeaps_4 = fun m0 p0 p1 p2 p3 p4 p5 p6 p7 p8 p9 p10 p11 p12 p13 => L_spec_GlueHeaps_4 N P_spec_l2Heap P_spec_l2Long P_spec_l11Box P_spec_l1In P_spec_l2With P_spec_l2Kept m0 p0 p1 p2 p3 p4 p5 p6 p7 p8 p9 p10 p11 p12 p13 := hid_eq _
noncomputable def l_spec_GlueHeaps_11 : Nat → Int → Int → Int → (List D_A3) → Int → Int → Int → (List D_A3) → Int → Int → Int → (List D_A3) → Int → Int → Int → (List D_A3) → Int → Int → Int → Option (denL R_spec_GlueHeaps) := hid (fun m0 p0 p1 p2 p3 p4 p5 p6 p7 p8 p9 p10 p11 p12 p13 p14 p15 p16 p17 p18 => L_spec_GlueHeaps_11 N P_spec_l2Heap P_spec_l2Long P_spec_l11Box P_spec_l1In P_spec_l2With P_spec_l2Kept m0 p0 p1 p2 p3 p4 p5 p6 p7 p8 p9 p10 p11 p12 p13 p14 p15 p16 p17 p18)
theorem h_spec_GlueHeaps_11 : l_spec_GlueHeaps_11 = fun m0 p0 p1 p2 p3 p4 p5 p6 p7 p8 p9 p10 p11 p12 p13 p14 p15 p16 p17 p18 => L_spec_GlueHeaps_11 N P_spec_l2Heap P_spec_l2Long P_spec_l11Box P_spec_l1In P_spec_l2With P_spec_l2Kept m0 p0 p1 p2 p3 p4 p5 p6 p7 p8 p9 p10 p11 p12 p13 p14 p15 p16 p17 p18 := hid_eq _
noncomputable def l_spec_GlueHeaps_15 : Nat → Int → Int → Int → (List D_A3) → Int → Int → Int → (List D_A3) → Int → Int → Int → (List D_A3) → Int → Int → Int → Option (denL R_spec_GlueHeaps) := hid (fun m0 p0 p1 p2 p3 p4 p5 p6 p7 p8 p9 p10 p11 p12 p13 p14 => L_spec_GlueHeaps_15 N P_spec_l2Heap P_spec_l2Long P_spec_l11Box P_spec_l1In P_spec_l2With P_spec_l2Kept m0 p0 p1 p2 p3 p4 p5 p6 p7 p8 p9 p10 p11 p12 p13 p14)
theorem h_spec_GlueHeaps_15 : l_spec_GlueHeaps_15 = fun m0 p0 p1 p2 p3 p4 p5 p6 p7 p8 p9 p10 p11 p12 p13 p14 => L_spec_GlueHeaps_15 N P_spec_l2Heap P_spec_l2Long P_spec_l11Box P_spec_l1In P_spec_l2With P_spec_l2Kept m0 p0 p1 p2 p3 p4 p5 p6 p7 p8 p9 p10 p11 p12 p13 p14 := hid_eq _
theorem p_spec_GlueHeaps (a0 : D_Heap) (a1 : D_Heap) (a2 : Int) : P_spec_GlueHeaps (a0, a1, a2, ()) = 
  Option.bind (P_spec_l2Heap (a0, ())) fun r0 =>
  bif !r0.1 then
    some ((0, (0, (0, (([] : List D_A3), ())))), false, ())
  else
    Option.bind (P_spec_l2Heap (a1, ())) fun r2 =>
    bif !r2.1 then
      some ((0, (0, (0, (([] : List D_A3), ())))), false, ())
    else
      Option.bind (P_spec_l1In (a2, 0, 2, ())) fun r4 =>
      bif !r4.1 then
        some ((0, (0, (0, (([] : List D_A3), ())))), false, ())
      else
        l_spec_GlueHeaps_4 N a0.1 a0.2.1 a0.2.2.1 a0.2.2.2.1 a1.1 a1.2.1 a1.2.2.1 a1.2.2.2.1 0 0 0 ([] : List D_A3) a2 0 := by
  rewrite [h_spec_GlueHeaps, h_spec_GlueHeaps_4]
  exact e_spec_GlueHeaps N P_spec_l2Heap P_spec_l2Long P_spec_l11Box P_spec_l1In P_spec_l2With P_spec_l2Kept a0 a1 a2
theorem q_spec_GlueHeaps_4 (m0 : Nat) (p0 : Int) (p1 : Int) (p2 : Int) (p3 : List D_A3) (p4 : Int) (p5 : Int) (p6 : Int) (p7 : List D_A3) (p8 : Int) (p9 : Int) (p10 : Int) (p11 : List D_A3) (p12 : Int) (p13 : Int) : l_spec_GlueHeaps_4 (m0 + 1) p0 p1 p2 p3 p4 p5 p6 p7 p8 p9 p10 p11 p12 p13 = 
  bif decide (p13 < 3) then
    bif !decide (p13 = p12) then
      Option.bind (P_spec_l2Long ((p0, (p1, (p2, (p3, ())))), p13, ())) fun r2 =>
      Option.bind (P_spec_l2Long ((p4, (p5, (p6, (p7, ())))), p13, ())) fun r3 =>
      bif !decide (r2.1 = r3.1) then
        some ((0, (0, (0, (([] : List D_A3), ())))), false, ())
      else
        l_spec_GlueHeaps_4 m0 p0 p1 p2 p3 p4 p5 p6 p7 p8 p9 p10 p11 p12 (IntKind.wrap .i64 (p13 + 1))
    else
      l_spec_GlueHeaps_4 m0 p0 p1 p2 p3 p4 p5 p6 p7 p8 p9 p10 p11 p12 (IntKind.wrap .i64 (p13 + 1))
  else
    Option.bind (P_spec_l2Long ((p0, (p1, (p2, (p3, ())))), p12, ())) fun r1 =>
    Option.bind (P_spec_l2Long ((p4, (p5, (p6, (p7, ())))), p12, ())) fun r2 =>
    Option.bind (P_spec_l11Box ((p0, (p1, (p2, (p3, ())))), p12, (IntKind.wrap .i64 (r1.1 + r2.1)), ())) fun r3 =>
    l_spec_GlueHeaps_11 N p0 p1 p2 p3 p4 p5 p6 p7 p8 p9 p10 p11 r3.1.1 r3.1.2.1 r3.1.2.2.1 r3.1.2.2.2.1 p12 r1.1 0 := by
  rewrite [h_spec_GlueHeaps_4, h_spec_GlueHeaps_11]
  exact e_spec_GlueHeaps_4 N P_spec_l2Heap P_spec_l2Long P_spec_l11Box P_spec_l1In P_spec_l2With P_spec_l2Kept m0 p0 p1 p2 p3 p4 p5 p6 p7 p8 p9 p10 p11 p12 p13
theorem q_spec_GlueHeaps_11 (m0 : Nat) (p0 : Int) (p1 : Int) (p2 : Int) (p3 : List D_A3) (p4 : Int) (p5 : Int) (p6 : Int) (p7 : List D_A3) (p8 : Int) (p9 : Int) (p10 : Int) (p11 : List D_A3) (p12 : Int) (p13 : Int) (p14 : Int) (p15 : List D_A3) (p16 : Int) (p17 : Int) (p18 : Int) : l_spec_GlueHeaps_11 (m0 + 1) p0 p1 p2 p3 p4 p5 p6 p7 p8 p9 p10 p11 p12 p13 p14 p15 p16 p17 p18 = 
  bif decide (p18 < (List.length p3 : Int)) then
    bif inB p18 (List.length p3) then
      Option.bind (P_spec_l2With ((p12, (p13, (p14, (p15, ())))), (nth T_A3 p3 p18), ())) fun r2 =>
      l_spec_GlueHeaps_11 m0 p0 p1 p2 p3 p4 p5 p6 p7 p8 p9 p10 p11 r2.1.1 r2.1.2.1 r2.1.2.2.1 r2.1.2.2.2.1 p16 p17 (IntKind.wrap .i64 (p18 + 1))
    else none
  else
    l_spec_GlueHeaps_15 N p4 p5 p6 p7 p8 p9 p10 p11 p12 p13 p14 p15 p16 p17 0 := by
  rewrite [h_spec_GlueHeaps_11, h_spec_GlueHeaps_15]
  exact e_spec_GlueHeaps_11 N P_spec_l2Heap P_spec_l2Long P_spec_l11Box P_spec_l1In P_spec_l2With P_spec_l2Kept m0 p0 p1 p2 p3 p4 p5 p6 p7 p8 p9 p10 p11 p12 p13 p14 p15 p16 p17 p18
theorem q_spec_GlueHeaps_15 (m0 : Nat) (p0 : Int) (p1 : Int) (p2 : Int) (p3 : List D_A3) (p4 : Int) (p5 : Int) (p6 : Int) (p7 : List D_A3) (p8 : Int) (p9 : Int) (p10 : Int) (p11 : List D_A3) (p12 : Int) (p13 : Int) (p14 : Int) : l_spec_GlueHeaps_15 (m0 + 1) p0 p1 p2 p3 p4 p5 p6 p7 p8 p9 p10 p11 p12 p13 p14 = 
  bif decide (p14 < (List.length p3 : Int)) then
    bif inB p14 (List.length p3) then
      bif inB p12 3 then
        bif inB p12 3 then
          Option.bind (P_spec_l2With ((p8, (p9, (p10, (p11, ())))), ((bif decide (p12 = (0 : Int)) then (IntKind.wrap .i64 ((bif decide (p12 = (0 : Int)) then ((nth T_A3 p3 p14)).1 else (bif decide (p12 = (1 : Int)) then (((nth T_A3 p3 p14)).2).1 else ((((nth T_A3 p3 p14)).2).2).1)) + p13)) else ((nth T_A3 p3 p14)).1), ((bif decide (p12 = (1 : Int)) then (IntKind.wrap .i64 ((bif decide (p12 = (0 : Int)) then ((nth T_A3 p3 p14)).1 else (bif decide (p12 = (1 : Int)) then (((nth T_A3 p3 p14)).2).1 else ((((nth T_A3 p3 p14)).2).2).1)) + p13)) else (((nth T_A3 p3 p14)).2).1), ((bif decide (p12 = (2 : Int)) then (IntKind.wrap .i64 ((bif decide (p12 = (0 : Int)) then ((nth T_A3 p3 p14)).1 else (bif decide (p12 = (1 : Int)) then (((nth T_A3 p3 p14)).2).1 else ((((nth T_A3 p3 p14)).2).2).1)) + p13)) else ((((nth T_A3 p3 p14)).2).2).1), ()))), ())) fun r4 =>
          l_spec_GlueHeaps_15 m0 p0 p1 p2 p3 p4 p5 p6 p7 r4.1.1 r4.1.2.1 r4.1.2.2.1 r4.1.2.2.2.1 p12 p13 (IntKind.wrap .i64 (p14 + 1))
        else none
      else none
    else none
  else
    Option.bind (P_spec_l2Kept ((p8, (p9, (p10, (p11, ())))), ())) fun r1 =>
    some (r1.1, r1.2.1, ()) := by
  rewrite [h_spec_GlueHeaps_15]
  exact e_spec_GlueHeaps_15 N P_spec_l2Heap P_spec_l2Long P_spec_l11Box P_spec_l1In P_spec_l2With P_spec_l2Kept m0 p0 p1 p2 p3 p4 p5 p6 p7 p8 p9 p10 p11 p12 p13 p14

/- 84: loop.example/g01166/impl.others -/
abbrev As_impl_others : List ATy := [.data false (.int .i64)]
abbrev R_impl_others : List (Bool × Ty) := [(false, (.int .i64)), (false, (.int .i64))]
abbrev M_impl_others : List RMode := []
abbrev Ft_impl_others : Type := Int × Unit → Option (Int × Int × Unit)
noncomputable def X_impl_others (n : Nat) : Ctx := { types := TT, globals := [], con := [], keep := [], results := [.tmp 2, .tmp 3], ntmps := 9, n := n }
noncomputable def B_impl_others : Code := (Try.f84.body).getD .skip
theorem e_impl_others (n : Nat) (a0 : Int) : runF (X_impl_others n) B_impl_others As_impl_others R_impl_others M_impl_others (a0, ()) = 
  bif decide (a0 = 0) then
    some (1, 2, ())
  else
    bif decide (a0 = 1) then
      some (0, 2, ())
    else
      some (0, 1, ()) := by kernel_rfl
noncomputable def P_impl_others : Ft_impl_others := hid (runF (X_impl_others N) B_impl_others As_impl_others R_impl_others M_impl_others)
theorem h_impl_others : P_impl_others = runF (X_impl_others N) B_impl_others As_impl_others R_impl_others M_impl_others := hid_eq _
noncomputable def C_impl_others : Contract := ⟨As_impl_others, R_impl_others, M_impl_others, P_impl_others⟩
theorem s_impl_others : Sound Try.prog GG 84 C_impl_others := by
  unfold C_impl_others; rw [h_impl_others]
  exact sound_of_run (fn := Try.f84) hmix hstable (tyOK_of ttOK) (hglob (X_impl_others N)) (conOK_of (X := X_impl_others N) trivial) (mconOK_of (X := X_impl_others N) trivial) (by kernel_rfl) (by kernel_rfl) (by kernel_rfl) (by kernel_rfl) (by kernel_rfl) (by decide)
theorem p_impl_others (a0 : Int) : P_impl_others (a0, ()) = 
  bif decide (a0 = 0) then
    some (1, 2, ())
  else
    bif decide (a0 = 1) then
      some (0, 2, ())
    else
      some (0, 1, ()) := by
  rewrite [h_impl_others]
  exact e_impl_others N a0

/- 38: loop.example/g01166/impl.GlueHeaps -/
abbrev As_impl_GlueHeaps : List ATy := [.data true T_Heap, .data true T_Heap, .data false (.int .i64)]
abbrev R_impl_GlueHeaps : List (Bool × Ty) := [(true, T_Heap), (false, .bool)]
abbrev M_impl_GlueHeaps : List RMode := [.own 66]
abbrev Ft_impl_GlueHeaps : Type := D_Heap × D_Heap × Int × Unit → Option (D_Heap × Bool × Unit)
noncomputable def X_impl_GlueHeaps (n : Nat) (F_impl_IsHeap : Ft_impl_IsHeap) (F_Heap_box : Ft_Heap_box) (F_box_index : Ft_box_index) (F_box_heap : Ft_box_heap) (F_impl_isDirection : Ft_impl_isDirection) (F_impl_others : Ft_impl_others) (F_box_valid : Ft_box_valid) : Ctx := { types := TT, globals := [], con := [(55, ⟨As_impl_IsHeap, R_impl_IsHeap, M_impl_IsHeap, F_impl_IsHeap⟩), (66, ⟨As_Heap_box, R_Heap_box, M_Heap_box, F_Heap_box⟩), (71, ⟨As_box_index, R_box_index, M_box_index, F_box_index⟩), (72, ⟨As_box_heap, R_box_heap, M_box_heap, F_box_heap⟩), (83, ⟨As_impl_isDirection, R_impl_isDirection, M_impl_isDirection, F_impl_isDirection⟩), (84, ⟨As_impl_others, R_impl_others, M_impl_others, F_impl_others⟩), (85, ⟨As_box_valid, R_box_valid, M_box_valid, F_box_valid⟩)], keep := [(10, ⟨[.box 3, .box 4, .box 6, .box 10, .tmp 2, .tmp 3, .tmp 4, .tmp 6, .tmp 10, .tmp 12, .tmp 71, .tmp 72, .tmp 73], []⟩), (15, ⟨[.box 3, .box 6, .box 10, .tmp 2, .tmp 3, .tmp 6, .tmp 10, .tmp 12, .tmp 85, .tmp 86, .tmp 87], []⟩)], results := [.cell 6 29, .tmp 7], ntmps := 110, n := n }
noncomputable def B_impl_GlueHeaps : Code := (Try.f38.body).getD .skip
noncomputable def L_impl_GlueHeaps_10 (n : Nat) (F_impl_IsHeap : Ft_impl_IsHeap) (F_Heap_box : Ft_Heap_box) (F_box_index : Ft_box_index) (F_box_heap : Ft_box_heap) (F_impl_isDirection : Ft_impl_isDirection) (F_impl_others : Ft_impl_others) (F_box_valid : Ft_box_valid) (m0 : Nat) (p0 : Int) (p1 : Int) (p2 : Int) (p3 : List D_A3) (p4 : Int) (p5 : Int) (p6 : Int) (p7 : List D_A3) (p8 : Int) (p9 : Int) (p10 : Int) (p11 : List D_A3) (p12 : Int) (p13 : Int) (p14 : Int) (p15 : Int) (p16 : Int) (p17 : List D_A3) (p18 : Int) (p19 : Int) : Option (denL R_impl_GlueHeaps) := loopF (X_impl_GlueHeaps n F_impl_IsHeap F_Heap_box F_box_index F_box_heap F_impl_isDirection F_impl_others F_box_valid) B_impl_GlueHeaps R_impl_GlueHeaps M_impl_GlueHeaps 10 [m0] [(.ver, .num 1), (.box 3, .box 0 false [.int .i64 p0, .int .i64 p1, .int .i64 p2, .imm T_A3 p3 (some 3)]), (.box 4, .box 0 false [.int .i64 p4, .int .i64 p5, .int .i64 p6, .imm T_A3 p7 (some 7)]), (.box 6, .box 0 false [.int .i64 p8, .int .i64 p9, .int .i64 p10, .own 66 T_A3 0 p11]), (.box 10, .box 0 false [.int .i64 p12, .int .i64 p13, .int .i64 p14]), (.tmp 2, .val false [.int .i64 p15]), (.tmp 3, .val false [.addr 3 0 0]), (.tmp 4, .val false [.addr 4 0 0]), (.tmp 6, .val false [.addr 6 0 0]), (.tmp 10, .val false [.addr 10 0 0]), (.tmp 12, .val false [.int .u64 p16]), (.tmp 71, .val false [.imm T_A3 p17 (some 3)]), (.tmp 72, .val false [.int .i64 p18]), (.tmp 73, .val false [.int .i64 p19])]
noncomputable def L_impl_GlueHeaps_15 (n : Nat) (F_impl_IsHeap : Ft_impl_IsHeap) (F_Heap_box : Ft_Heap_box) (F_box_index : Ft_box_index) (F_box_heap : Ft_box_heap) (F_impl_isDirection : Ft_impl_isDirection) (F_impl_others : Ft_impl_others) (F_box_valid : Ft_box_valid) (m0 : Nat) (p0 : Int) (p1 : Int) (p2 : Int) (p3 : List D_A3) (p4 : Int) (p5 : Int) (p6 : Int) (p7 : List D_A3) (p8 : Int) (p9 : Int) (p10 : Int) (p11 : Int) (p12 : Int) (p13 : List D_A3) (p14 : Int) (p15 : Int) : Option (denL R_impl_GlueHeaps) := loopF (X_impl_GlueHeaps n F_impl_IsHeap F_Heap_box F_box_index F_box_heap F_impl_isDirection F_impl_others F_box_valid) B_impl_GlueHeaps R_impl_GlueHeaps M_impl_GlueHeaps 15 [m0] [(.ver, .num 1), (.box 3, .box 0 false [.int .i64 p0, .int .i64 p1, .int .i64 p2, .imm T_A3 p3 (some 3)]), (.box 6, .box 0 false [.int .i64 p4, .int .i64 p5, .int .i64 p6, .own 66 T_A3 0 p7]), (.box 10, .box 0 false [.int .i64 p8, .int .i64 p9, .int .i64 p10]), (.tmp 2, .val false [.int .i64 p11]), (.tmp 3, .val false [.addr 3 0 0]), (.tmp 6, .val false [.addr 6 0 0]), (.tmp 10, .val false [.addr 10 0 0]), (.tmp 12, .val false [.int .u64 p12]), (.tmp 85, .val false [.imm T_A3 p13 (some 7)]), (.tmp 86, .val false [.int .i64 p14]), (.tmp 87, .val false [.int .i64 p15])]
theorem e_impl_GlueHeaps (n : Nat) (F_impl_IsHeap : Ft_impl_IsHeap) (F_Heap_box : Ft_Heap_box) (F_box_index : Ft_box_index) (F_box_heap : Ft_box_heap) (F_impl_isDirection : Ft_impl_isDirection) (F_impl_others : Ft_impl_others) (F_box_valid : Ft_box_valid) (a0 : D_Heap) (a1 : D_Heap) (a2 : Int) : runF (X_impl_GlueHeaps n F_impl_IsHeap F_Heap_box F_box_index F_box_heap F_impl_isDirection F_impl_others F_box_valid) B_impl_GlueHeaps As_impl_GlueHeaps R_impl_GlueHeaps M_impl_GlueHeaps (a0, a1, a2, ()) = 
  Option.bind (F_impl_IsHeap (a0, ())) fun r0 =>
  bif !r0.1 then
    some ((0, (0, (0, (([] : List D_A3), ())))), false, ())
  else
    Option.bind (F_impl_IsHeap (a1, ())) fun r2 =>
    bif !r2.1 then
      some ((0, (0, (0, (([] : List D_A3), ())))), false, ())
    else
      Option.bind (F_impl_isDirection (a2, ())) fun r4 =>
      bif !r4.1 then
        some ((0, (0, (0, (([] : List D_A3), ())))), false, ())
      else
        Option.bind (F_impl_others (a2, ())) fun r6 =>
        Option.bind (F_Heap_box (a0, ())) fun r7 =>
        Option.bind (F_Heap_box (a1, ())) fun r8 =>
        bif inB a2 3 then
          bif inB a2 3 then
            bif inB a2 3 then
              bif inB r6.1 3 then
                bif inB r6.1 3 then
                  bif !decide ((bif decide (r6.1 = (0 : Int)) then (bif decide (a2 = (0 : Int)) then (IntKind.wrap .i64 ((bif decide (a2 = (0 : Int)) then r7.1.1 else (bif decide (a2 = (1 : Int)) then r7.1.2.1 else r7.1.2.2.1)) + (bif decide (a2 = (0 : Int)) then r8.1.1 else (bif decide (a2 = (1 : Int)) then r8.1.2.1 else r8.1.2.2.1)))) else r7.1.1) else (bif decide (r6.1 = (1 : Int)) then (bif decide (a2 = (1 : Int)) then (IntKind.wrap .i64 ((bif decide (a2 = (0 : Int)) then r7.1.1 else (bif decide (a2 = (1 : Int)) then r7.1.2.1 else r7.1.2.2.1)) + (bif decide (a2 = (0 : Int)) then r8.1.1 else (bif decide (a2 = (1 : Int)) then r8.1.2.1 else r8.1.2.2.1)))) else r7.1.2.1) else (bif decide (a2 = (2 : Int)) then (IntKind.wrap .i64 ((bif decide (a2 = (0 : Int)) then r7.1.1 else (bif decide (a2 = (1 : Int)) then r7.1.2.1 else r7.1.2.2.1)) + (bif decide (a2 = (0 : Int)) then r8.1.1 else (bif decide (a2 = (1 : Int)) then r8.1.2.1 else r8.1.2.2.1)))) else r7.1.2.2.1))) = (bif decide (r6.1 = (0 : Int)) then r8.1.1 else (bif decide (r6.1 = (1 : Int)) then r8.1.2.1 else r8.1.2.2.1))) then
                    some ((0, (0, (0, (([] : List D_A3), ())))), false, ())
                  else
                    bif inB r6.2.1 3 then
                      bif inB r6.2.1 3 then
                        bif !decide ((bif decide (r6.2.1 = (0 : Int)) then (bif decide (a2 = (0 : Int)) then (IntKind.wrap .i64 ((bif decide (a2 = (0 : Int)) then r7.1.1 else (bif decide (a2 = (1 : Int)) then r7.1.2.1 else r7.1.2.2.1)) + (bif decide (a2 = (0 : Int)) then r8.1.1 else (bif decide (a2 = (1 : Int)) then r8.1.2.1 else r8.1.2.2.1)))) else r7.1.1) else (bif decide (r6.2.1 = (1 : Int)) then (bif decide (a2 = (1 : Int)) then (IntKind.wrap .i64 ((bif decide (a2 = (0 : Int)) then r7.1.1 else (bif decide (a2 = (1 : Int)) then r7.1.2.1 else r7.1.2.2.1)) + (bif decide (a2 = (0 : Int)) then r8.1.1 else (bif decide (a2 = (1 : Int)) then r8.1.2.1 else r8.1.2.2.1)))) else r7.1.2.1) else (bif decide (a2 = (2 : Int)) then (IntKind.wrap .i64 ((bif decide (a2 = (0 : Int)) then r7.1.1 else (bif decide (a2 = (1 : Int)) then r7.1.2.1 else r7.1.2.2.1)) + (bif decide (a2 = (0 : Int)) then r8.1.1 else (bif decide (a2 = (1 : Int)) then r8.1.2.1 else r8.1.2.2.1)))) else r7.1.2.2.1))) = (bif decide (r6.2.1 = (0 : Int)) then r8.1.1 else (bif decide (r6.2.1 = (1 : Int)) then r8.1.2.1 else r8.1.2.2.1))) then
                          some ((0, (0, (0, (([] : List D_A3), ())))), false, ())
                        else
                          Option.bind (F_box_valid (((bif decide (a2 = (0 : Int)) then (IntKind.wrap .i64 ((bif decide (a2 = (0 : Int)) then r7.1.1 else (bif decide (a2 = (1 : Int)) then r7.1.2.1 else r7.1.2.2.1)) + (bif decide (a2 = (0 : Int)) then r8.1.1 else (bif decide (a2 = (1 : Int)) then r8.1.2.1 else r8.1.2.2.1)))) else r7.1.1), ((bif decide (a2 = (1 : Int)) then (IntKind.wrap .i64 ((bif decide (a2 = (0 : Int)) then r7.1.1 else (bif decide (a2 = (1 : Int)) then r7.1.2.1 else r7.1.2.2.1)) + (bif decide (a2 = (0 : Int)) then r8.1.1 else (bif decide (a2 = (1 : Int)) then r8.1.2.1 else r8.1.2.2.1)))) else r7.1.2.1), ((bif decide (a2 = (2 : Int)) then (IntKind.wrap .i64 ((bif decide (a2 = (0 : Int)) then r7.1.1 else (bif decide (a2 = (1 : Int)) then r7.1.2.1 else r7.1.2.2.1)) + (bif decide (a2 = (0 : Int)) then r8.1.1 else (bif decide (a2 = (1 : Int)) then r8.1.2.1 else r8.1.2.2.1)))) else r7.1.2.2.1), ()))), ())) fun r18 =>
                          bif !r18.1 then
                            some ((0, (0, (0, (([] : List D_A3), ())))), false, ())
                          else
                            L_impl_GlueHeaps_10 n F_impl_IsHeap F_Heap_box F_box_index F_box_heap F_impl_isDirection F_impl_others F_box_valid n a0.1 a0.2.1 a0.2.2.1 a0.2.2.2.1 a1.1 a1.2.1 a1.2.2.1 a1.2.2.2.1 0 0 0 ([] : List D_A3) (bif decide (a2 = (0 : Int)) then (IntKind.wrap .i64 ((bif decide (a2 = (0 : Int)) then r7.1.1 else (bif decide (a2 = (1 : Int)) then r7.1.2.1 else r7.1.2.2.1)) + (bif decide (a2 = (0 : Int)) then r8.1.1 else (bif decide (a2 = (1 : Int)) then r8.1.2.1 else r8.1.2.2.1)))) else r7.1.1) (bif decide (a2 = (1 : Int)) then (IntKind.wrap .i64 ((bif decide (a2 = (0 : Int)) then r7.1.1 else (bif decide (a2 = (1 : Int)) then r7.1.2.1 else r7.1.2.2.1)) + (bif decide (a2 = (0 : Int)) then r8.1.1 else (bif decide (a2 = (1 : Int)) then r8.1.2.1 else r8.1.2.2.1)))) else r7.1.2.1) (bif decide (a2 = (2 : Int)) then (IntKind.wrap .i64 ((bif decide (a2 = (0 : Int)) then r7.1.1 else (bif decide (a2 = (1 : Int)) then r7.1.2.1 else r7.1.2.2.1)) + (bif decide (a2 = (0 : Int)) then r8.1.1 else (bif decide (a2 = (1 : Int)) then r8.1.2.1 else r8.1.2.2.1)))) else r7.1.2.2.1) a2 0 a0.2.2.2.1 (List.length a0.2.2.2.1 : Int) 0
                      else none
                    else none
                else none
              else none
            else none
          else none
        else none := by kernel_rfl
theorem e_impl_GlueHeaps_10 (n : Nat) (F_impl_IsHeap : Ft_impl_IsHeap) (F_Heap_box : Ft_Heap_box) (F_box_index : Ft_box_index) (F_box_heap : Ft_box_heap) (F_impl_isDirection : Ft_impl_isDirection) (F_impl_others : Ft_impl_others) (F_box_valid : Ft_box_valid) (m0 : Nat) (p0 : Int) (p1 : Int) (p2 : Int) (p3 : List D_A3) (p4 : Int) (p5 : Int) (p6 : Int) (p7 : List D_A3) (p8 : Int) (p9 : Int) (p10 : Int) (p11 : List D_A3) (p12 : Int) (p13 : Int) (p14 : Int) (p15 : Int) (p16 : Int) (p17 : List D_A3) (p18 : Int) (p19 : Int) : L_impl_GlueHeaps_10 n F_impl_IsHeap F_Heap_box F_box_index F_box_heap F_impl_isDirection F_impl_others F_box_valid (m0 + 1) p0 p1 p2 p3 p4 p5 p6 p7 p8 p9 p10 p11 p12 p13 p14 p15 p16 p17 p18 p19 = 
  bif decide (p19 < p18) then
    bif inB p19 (List.length p17) then
      Option.bind (F_box_index ((p12, (p13, (p14, ()))), (nth T_A3 p17 p19), ())) fun r2 =>
      bif decide ((0 : Int) ≤ r2.1) then
        L_impl_GlueHeaps_10 n F_impl_IsHeap F_Heap_box F_box_index F_box_heap F_impl_isDirection F_impl_others F_box_valid m0 p0 p1 p2 p3 p4 p5 p6 p7 p8 p9 p10 p11 p12 p13 p14 p15 (intBits .or .u64 p16 (shlI .u64 1 r2.1)) p17 p18 (IntKind.wrap .i64 (p19 + 1))
      else none
    else none
  else
    L_impl_GlueHeaps_15 n F_impl_IsHeap F_Heap_box F_box_index F_box_heap F_impl_isDirection F_impl_others F_box_valid n p0 p1 p2 p3 p8 p9 p10 p11 p12 p13 p14 p15 p16 p7 (List.length p7 : Int) 0 := by kernel_rfl
theorem e_impl_GlueHeaps_15 (n : Nat) (F_impl_IsHeap : Ft_impl_IsHeap) (F_Heap_box : Ft_Heap_box) (F_box_index : Ft_box_index) (F_box_heap : Ft_box_heap) (F_impl_isDirection : Ft_impl_isDirection) (F_impl_others : Ft_impl_others) (F_box_valid : Ft_box_valid) (m0 : Nat) (p0 : Int) (p1 : Int) (p2 : Int) (p3 : List D_A3) (p4 : Int) (p5 : Int) (p6 : Int) (p7 : List D_A3) (p8 : Int) (p9 : Int) (p10 : Int) (p11 : Int) (p12 : Int) (p13 : List D_A3) (p14 : Int) (p15 : Int) : L_impl_GlueHeaps_15 n F_impl_IsHeap F_Heap_box F_box_index F_box_heap F_impl_isDirection F_impl_others F_box_valid (m0 + 1) p0 p1 p2 p3 p4 p5 p6 p7 p8 p9 p10 p11 p12 p13 p14 p15 = 
  bif decide (p15 < p14) then
    bif inB p15 (List.length p13) then
      bif inB p11 3 then
        Option.bind (F_Heap_box ((p0, (p1, (p2, (p3, ())))), ())) fun r3 =>
        bif inB p11 3 then
          bif inB p11 3 then
            Option.bind (F_box_index ((p8, (p9, (p10, ()))), ((bif decide (p11 = (0 : Int)) then (IntKind.wrap .i64 ((bif decide (p11 = (0 : Int)) then ((nth T_A3 p13 p15)).1 else (bif decide (p11 = (1 : Int)) then (((nth T_A3 p13 p15)).2).1 else ((((nth T_A3 p13 p15)).2).2).1)) + (bif decide (p11 = (0 : Int)) then r3.1.1 else (bif decide (p11 = (1 : Int)) then r3.1.2.1 else r3.1.2.2.1)))) else ((nth T_A3 p13 p15)).1), ((bif decide (p11 = (1 : Int)) then (IntKind.wrap .i64 ((bif decide (p11 = (0 : Int)) then ((nth T_A3 p13 p15)).1 else (bif decide (p11 = (1 : Int)) then (((nth T_A3 p13 p15)).2).1 else ((((nth T_A3 p13 p15)).2).2).1)) + (bif decide (p11 = (0 : Int)) then r3.1.1 else (bif decide (p11 = (1 : Int)) then r3.1.2.1 else r3.1.2.2.1)))) else (((nth T_A3 p13 p15)).2).1), ((bif decide (p11 = (2 : Int)) then (IntKind.wrap .i64 ((bif decide (p11 = (0 : Int)) then ((nth T_A3 p13 p15)).1 else (bif decide (p11 = (1 : Int)) then (((nth T_A3 p13 p15)).2).1 else ((((nth T_A3 p13 p15)).2).2).1)) + (bif decide (p11 = (0 : Int)) then r3.1.1 else (bif decide (p11 = (1 : Int)) then r3.1.2.1 else r3.1.2.2.1)))) else ((((nth T_A3 p13 p15)).2).2).1), ()))), ())) fun r6 =>
            bif decide ((0 : Int) ≤ r6.1) then
              L_impl_GlueHeaps_15 n F_impl_IsHeap F_Heap_box F_box_index F_box_heap F_impl_isDirection F_impl_others F_box_valid m0 p0 p1 p2 p3 p4 p5 p6 p7 p8 p9 p10 p11 (intBits .or .u64 p12 (shlI .u64 1 r6.1)) p13 p14 (IntKind.wrap .i64 (p15 + 1))
            else none
          else none
        else none
      else none
    else none
  else
    Option.bind (F_box_heap ((p8, (p9, (p10, ()))), p12, ())) fun r1 =>
    some (r1.1, true, ()) := by kernel_rfl
noncomputable def P_impl_GlueHeaps : Ft_impl_GlueHeaps := hid (runF (X_impl_GlueHeaps N P_impl_IsHeap P_Heap_box P_box_index P_box_heap P_impl_isDirection P_impl_others P_box_valid) B_impl_GlueHeaps As_impl_GlueHeaps R_impl_GlueHeaps M_impl_GlueHeaps)
theorem h_impl_GlueHeaps : P_impl_GlueHeaps = runF (X_impl_GlueHeaps N P_impl_IsHeap P_Heap_box P_box_index P_box_heap P_impl_isDirection P_impl_others P_box_valid) B_impl_GlueHeaps As_impl_GlueHeaps R_impl_GlueHeaps M_impl_GlueHeaps := hid_eq _
noncomputable def C_impl_GlueHeaps : Contract := ⟨As_impl_GlueHeaps, R_impl_GlueHeaps, M_impl_GlueHeaps, P_impl_GlueHeaps⟩
theorem s_impl_GlueHeaps : Sound Try.prog GG 38 C_impl_GlueHeaps := by
  unfold C_impl_GlueHeaps; rw [h_impl_GlueHeaps]
  exact sound_of_run (fn := Try.f38) hmix hstable (tyOK_of ttOK) (hglob (X_impl_GlueHeaps N P_impl_IsHeap P_Heap_box P_box_index P_box_heap P_impl_isDirection P_impl_others P_box_valid)) (conOK_of (X := X_impl_GlueHeaps N P_impl_IsHeap P_Heap_box P_box_index P_box_heap P_impl_isDirection P_impl_others P_box_valid) ⟨s_impl_IsHeap, s_Heap_box, s_box_index, s_box_heap, s_impl_isDirection, s_impl_others, s_box_valid, trivial⟩) (mconOK_of (X := X_impl_GlueHeaps N P_impl_IsHeap P_Heap_box P_box_index P_box_heap P_impl_isDirection P_impl_others P_box_valid) trivial) (by kernel_rfl) (by kernel_rfl) (by kernel_rfl) (by kernel_rfl) (by kernel_rfl) (by decide)
noncomputable def l_impl_GlueHeaps_10 : Nat → Int → Int → Int → (List D_A3) → Int → Int → Int → (List D_A3) → Int → Int → Int → (List D_A3) → Int → Int → Int → Int → Int → (List D_A3) → Int → Int → Option (denL R_impl_GlueHeaps) := hid (fun m0 p0 p1 p2 p3 p4 p5 p6 p7 p8 p9 p10 p11 p12 p13 p14 p15 p16 p17 p18 p19 => L_impl_GlueHeaps_10 N P_impl_IsHeap P_Heap_box P_box_index P_box_heap P_impl_isDirection P_impl_others P_box_valid m0 p0 p1 p2 p3 p4 p5 p6 p7 p8 p9 p10 p11 p12 p13 p14 p15 p16 p17 p18 p19)
theorem h_impl_GlueHeaps_10 : l_impl_GlueHeaps_10 = fun m0 p0 p1 p2 p3 p4 p5 p6 p7 p8 p9 p10 p11 p12 p13 p14 p15 p16 p17 p18 p19 => L_impl_GlueHeaps_10 N P_impl_IsHeap P_Heap_box P_box_index P_box_heap P_impl_isDirection P_impl_others P_box_valid m0 p0 p1 p2 p3 p4 p5 p6 p7 p8 p9 p10 p11 p12 p13 p14 p15 p16 p17 p18 p19 := hid_eq _
noncomputable def l_impl_GlueHeaps_15 : Nat → Int → Int → Int → (List D_A3) → Int → Int → Int → (List D_A3) → Int → Int → Int → Int → Int → (List D_A3) → Int → Int → Option (denL R_impl_GlueHeaps) := hid (fun m0 p0 p1 p2 p3 p4 p5 p6 p7 p8 p9 p10 p11 p12 p13 p14 p15 => L_impl_GlueHeaps_15 N P_impl_IsHeap P_Heap_box P_box_index P_box_heap P_impl_isDirection P_impl_others P_box_valid m0 p0 p1 p2 p3 p4 p5 p6 p7 p8 p9 p10 p11 p12 p13 p14 p15)
theorem h_impl_GlueHeaps_15 : l_impl_GlueHeaps_15 = fun m0 p0 p1 p2 p3 p4 p5 p6 p7 p8 p9 p10 p11 p12 p13 p14 p15 => L_impl_GlueHeaps_15 N P_impl_IsHeap P_Heap_box P_box_index P_box_heap P_impl_isDirection P_impl_others P_box_valid m0 p0 p1 p2 p3 p4 p5 p6 p7 p8 p9 p10 p11 p12 p13 p14 p15 := hid_eq _
theorem p_impl_GlueHeaps (a0 : D_Heap) (a1 : D_Heap) (a2 : Int) : P_impl_GlueHeaps (a0, a1, a2, ()) = 
  Option.bind (P_impl_IsHeap (a0, ())) fun r0 =>
  bif !r0.1 then
    some ((0, (0, (0, (([] : List D_A3), ())))), false, ())
  else
    Option.bind (P_impl_IsHeap (a1, ())) fun r2 =>
    bif !r2.1 then
      some ((0, (0, (0, (([] : List D_A3), ())))), false, ())
    else
      Option.bind (P_impl_isDirection (a2, ())) fun r4 =>
      bif !r4.1 then
        some ((0, (0, (0, (([] : List D_A3), ())))), false, ())
      else
        Option.bind (P_impl_others (a2, ())) fun r6 =>
        Option.bind (P_Heap_box (a0, ())) fun r7 =>
        Option.bind (P_Heap_box (a1, ())) fun r8 =>
        bif inB a2 3 then
          bif inB a2 3 then
            bif inB a2 3 then
              bif inB r6.1 3 then
                bif inB r6.1 3 then
                  bif !decide ((bif decide (r6.1 = (0 : Int)) then (bif decide (a2 = (0 : Int)) then (IntKind.wrap .i64 ((bif decide (a2 = (0 : Int)) then r7.1.1 else (bif decide (a2 = (1 : Int)) then r7.1.2.1 else r7.1.2.2.1)) + (bif decide (a2 = (0 : Int)) then r8.1.1 else (bif decide (a2 = (1 : Int)) then r8.1.2.1 else r8.1.2.2.1)))) else r7.1.1) else (bif decide (r6.1 = (1 : Int)) then (bif decide (a2 = (1 : Int)) then (IntKind.wrap .i64 ((bif decide (a2 = (0 : Int)) then r7.1.1 else (bif decide (a2 = (1 : Int)) then r7.1.2.1 else r7.1.2.2.1)) + (bif decide (a2 = (0 : Int)) then r8.1.1 else (bif decide (a2 = (1 : Int)) then r8.1.2.1 else r8.1.2.2.1)))) else r7.1.2.1) else (bif decide (a2 = (2 : Int)) then (IntKind.wrap .i64 ((bif decide (a2 = (0 : Int)) then r7.1.1 else (bif decide (a2 = (1 : Int)) then r7.1.2.1 else r7.1.2.2.1)) + (bif decide (a2 = (0 : Int)) then r8.1.1 else (bif decide (a2 = (1 : Int)) then r8.1.2.1 else r8.1.2.2.1)))) else r7.1.2.2.1))) = (bif decide (r6.1 = (0 : Int)) then r8.1.1 else (bif decide (r6.1 = (1 : Int)) then r8.1.2.1 else r8.1.2.2.1))) then
                    some ((0, (0, (0, (([] : List D_A3), ())))), false, ())
                  else
                    bif inB r6.2.1 3 then
                      bif inB r6.2.1 3 then
                        bif !decide ((bif decide (r6.2.1 = (0 : Int)) then (bif decide (a2 = (0 : Int)) then (IntKind.wrap .i64 ((bif decide (a2 = (0 : Int)) then r7.1.1 else (bif decide (a2 = (1 : Int)) then r7.1.2.1 else r7.1.2.2.1)) + (bif decide (a2 = (0 : Int)) then r8.1.1 else (bif decide (a2 = (1 : Int)) then r8.1.2.1 else r8.1.2.2.1)))) else r7.1.1) else (bif decide (r6.2.1 = (1 : Int)) then (bif decide (a2 = (1 : Int)) then (IntKind.wrap .i64 ((bif decide (a2 = (0 : Int)) then r7.1.1 else (bif decide (a2 = (1 : Int)) then r7.1.2.1 else r7.1.2.2.1)) + (bif decide (a2 = (0 : Int)) then r8.1.1 else (bif decide (a2 = (1 : Int)) then r8.1.2.1 else r8.1.2.2.1)))) else r7.1.2.1) else (bif decide (a2 = (2 : Int)) then (IntKind.wrap .i64 ((bif decide (a2 = (0 : Int)) then r7.1.1 else (bif decide (a2 = (1 : Int)) then r7.1.2.1 else r7.1.2.2.1)) + (bif decide (a2 = (0 : Int)) then r8.1.1 else (bif decide (a2 = (1 : Int)) then r8.1.2.1 else r8.1.2.2.1)))) else r7.1.2.2.1))) = (bif decide (r6.2.1 = (0 : Int)) then r8.1.1 else (bif decide (r6.2.1 = (1 : Int)) then r8.1.2.1 else r8.1.2.2.1))) then
                          some ((0, (0, (0, (([] : List D_A3), ())))), false, ())
                        else
                          Option.bind (P_box_valid (((bif decide (a2 = (0 : Int)) then (IntKind.wrap .i64 ((bif decide (a2 = (0 : Int)) then r7.1.1 else (bif decide (a2 = (1 : Int)) then r7.1.2.1 else r7.1.2.2.1)) + (bif decide (a2 = (0 : Int)) then r8.1.1 else (bif decide (a2 = (1 : Int)) then r8.1.2.1 else r8.1.2.2.1)))) else r7.1.1), ((bif decide (a2 = (1 : Int)) then (IntKind.wrap .i64 ((bif decide (a2 = (0 : Int)) then r7.1.1 else (bif decide (a2 = (1 : Int)) then r7.1.2.1 else r7.1.2.2.1)) + (bif decide (a2 = (0 : Int)) then r8.1.1 else (bif decide (a2 = (1 : Int)) then r8.1.2.1 else r8.1.2.2.1)))) else r7.1.2.1), ((bif decide (a2 = (2 : Int)) then (IntKind.wrap .i64 ((bif decide (a2 = (0 : Int)) then r7.1.1 else (bif decide (a2 = (1 : Int)) then r7.1.2.1 else r7.1.2.2.1)) + (bif decide (a2 = (0 : Int)) then r8.1.1 else (bif decide (a2 = (1 : Int)) then r8.1.2.1 else r8.1.2.2.1)))) else r7.1.2.2.1), ()))), ())) fun r18 =>
                          bif !r18.1 then
                            some ((0, (0, (0, (([] : List D_A3), ())))), false, ())
                          else
                            l_impl_GlueHeaps_10 N a0.1 a0.2.1 a0.2.2.1 a0.2.2.2.1 a1.1 a1.2.1 a1.2.2.1 a1.2.2.2.1 0 0 0 ([] : List D_A3) (bif decide (a2 = (0 : Int)) then (IntKind.wrap .i64 ((bif decide (a2 = (0 : Int)) then r7.1.1 else (bif decide (a2 = (1 : Int)) then r7.1.2.1 else r7.1.2.2.1)) + (bif decide (a2 = (0 : Int)) then r8.1.1 else (bif decide (a2 = (1 : Int)) then r8.1.2.1 else r8.1.2.2.1)))) else r7.1.1) (bif decide (a2 = (1 : Int)) then (IntKind.wrap .i64 ((bif decide (a2 = (0 : Int)) then r7.1.1 else (bif decide (a2 = (1 : Int)) then r7.1.2.1 else r7.1.2.2.1)) + (bif decide (a2 = (0 : Int)) then r8.1.1 else (bif decide (a2 = (1 : Int)) then r8.1.2.1 else r8.1.2.2.1)))) else r7.1.2.1) (bif decide (a2 = (2 : Int)) then (IntKind.wrap .i64 ((bif decide (a2 = (0 : Int)) then r7.1.1 else (bif decide (a2 = (1 : Int)) then r7.1.2.1 else r7.1.2.2.1)) + (bif decide (a2 = (0 : Int)) then r8.1.1 else (bif decide (a2 = (1 : Int)) then r8.1.2.1 else r8.1.2.2.1)))) else r7.1.2.2.1) a2 0 a0.2.2.2.1 (List.length a0.2.2.2.1 : Int) 0
                      else none
                    else none
                else none
              else none
            else none
          else none
        else none := by
  rewrite [h_impl_GlueHeaps, h_impl_GlueHeaps_10]
  exact e_impl_GlueHeaps N P_impl_IsHeap P_Heap_box P_box_index P_box_heap P_impl_isDirection P_impl_others P_box_valid a0 a1 a2
theorem q_impl_GlueHeaps_10 (m0 : Nat) (p0 : Int) (p1 : Int) (p2 : Int) (p3 : List D_A3) (p4 : Int) (p5 : Int) (p6 : Int) (p7 : List D_A3) (p8 : Int) (p9 : Int) (p10 : Int) (p11 : List D_A3) (p12 : Int) (p13 : Int) (p14 : Int) (p15 : Int) (p16 : Int) (p17 : List D_A3) (p18 : Int) (p19 : Int) : l_impl_GlueHeaps_10 (m0 + 1) p0 p1 p2 p3 p4 p5 p6 p7 p8 p9 p10 p11 p12 p13 p14 p15 p16 p17 p18 p19 = 
  bif decide (p19 < p18) then
    bif inB p19 (List.length p17) then
      Option.bind (P_box_index ((p12, (p13, (p14, ()))), (nth T_A3 p17 p19), ())) fun r2 =>
      bif decide ((0 : Int) ≤ r2.1) then
        l_impl_GlueHeaps_10 m0 p0 p1 p2 p3 p4 p5 p6 p7 p8 p9 p10 p11 p12 p13 p14 p15 (intBits .or .u64 p16 (shlI .u64 1 r2.1)) p17 p18 (IntKind.wrap .i64 (p19 + 1))
      else none
    else none
  else
    l_impl_GlueHeaps_15 N p0 p1 p2 p3 p8 p9 p10 p11 p12 p13 p14 p15 p16 p7 (List.length p7 : Int) 0 := by
  rewrite [h_impl_GlueHeaps_10, h_impl_GlueHeaps_15]
  exact e_impl_GlueHeaps_10 N P_impl_IsHeap P_Heap_box P_box_index P_box_heap P_impl_isDirection P_impl_others P_box_valid m0 p0 p1 p2 p3 p4 p5 p6 p7 p8 p9 p10 p11 p12 p13 p14 p15 p16 p17 p18 p19
theorem q_impl_GlueHeaps_15 (m0 : Nat) (p0 : Int) (p1 : Int) (p2 : Int) (p3 : List D_A3) (p4 : Int) (p5 : Int) (p6 : Int) (p7 : List D_A3) (p8 : Int) (p9 : Int) (p10 : Int) (p11 : Int) (p12 : Int) (p13 : List D_A3) (p14 : Int) (p15 : Int) : l_impl_GlueHeaps_15 (m0 + 1) p0 p1 p2 p3 p4 p5 p6 p7 p8 p9 p10 p11 p12 p13 p14 p15 = 
  bif decide (p15 < p14) then
    bif inB p15 (List.length p13) then
      bif inB p11 3 then
        Option.bind (P_Heap_box ((p0, (p1, (p2, (p3, ())))), ())) fun r3 =>
        bif inB p11 3 then
          bif inB p11 3 then
            Option.bind (P_box_index ((p8, (p9, (p10, ()))), ((bif decide (p11 = (0 : Int)) then (IntKind.wrap .i64 ((bif decide (p11 = (0 : Int)) then ((nth T_A3 p13 p15)).1 else (bif decide (p11 = (1 : Int)) then (((nth T_A3 p13 p15)).2).1 else ((((nth T_A3 p13 p15)).2).2).1)) + (bif decide (p11 = (0 : Int)) then r3.1.1 else (bif decide (p11 = (1 : Int)) then r3.1.2.1 else r3.1.2.2.1)))) else ((nth T_A3 p13 p15)).1), ((bif decide (p11 = (1 : Int)) then (IntKind.wrap .i64 ((bif decide (p11 = (0 : Int)) then ((nth T_A3 p13 p15)).1 else (bif decide (p11 = (1 : Int)) then (((nth T_A3 p13 p15)).2).1 else ((((nth T_A3 p13 p15)).2).2).1)) + (bif decide (p11 = (0 : Int)) then r3.1.1 else (bif decide (p11 = (1 : Int)) then r3.1.2.1 else r3.1.2.2.1)))) else (((nth T_A3 p13 p15)).2).1), ((bif decide (p11 = (2 : Int)) then (IntKind.wrap .i64 ((bif decide (p11 = (0 : Int)) then ((nth T_A3 p13 p15)).1 else (bif decide (p11 = (1 : Int)) then (((nth T_A3 p13 p15)).2).1 else ((((nth T_A3 p13 p15)).2).2).1)) + (bif decide (p11 = (0 : Int)) then r3.1.1 else (bif decide (p11 = (1 : Int)) then r3.1.2.1 else r3.1.2.2.1)))) else ((((nth T_A3 p13 p15)).2).2).1), ()))), ())) fun r6 =>
            bif decide ((0 : Int) ≤ r6.1) then
              l_impl_GlueHeaps_15 m0 p0 p1 p2 p3 p4 p5 p6 p7 p8 p9 p10 p11 (intBits .or .u64 p12 (shlI .u64 1 r6.1)) p13 p14 (IntKind.wrap .i64 (p15 + 1))
            else none
          else none
        else none
      else none
    else none
  else
    Option.bind (P_box_heap ((p8, (p9, (p10, ()))), p12, ())) fun r1 =>
    some (r1.1, true, ()) := by
  rewrite [h_impl_GlueHeaps_15]
  exact e_impl_GlueHeaps_15 N P_impl_IsHeap P_Heap_box P_box_index P_box_heap P_impl_isDirection P_impl_others P_box_valid m0 p0 p1 p2 p3 p4 p5 p6 p7 p8 p9 p10 p11 p12 p13 p14 p15

/- 9: loop.example/g01166/laws.FnExactGlueHeaps -/
abbrev As_laws_FnExactGlueHeaps : List ATy := [.data true T_Heap, .data true T_Heap, .data false (.int .i64)]
abbrev R_laws_FnExactGlueHeaps : List (Bool × Ty) := [(false, .bool)]
abbrev M_laws_FnExactGlueHeaps : List RMode := []
abbrev Ft_laws_FnExactGlueHeaps : Type := D_Heap × D_Heap × Int × Unit → Option (Bool × Unit)
noncomputable def X_laws_FnExactGlueHeaps (n : Nat) (F_laws_szHeap : Ft_laws_szHeap) (F_laws_toHeap : Ft_laws_toHeap) (F_laws_eqHeap : Ft_laws_eqHeap) (F_laws_markHeap : Ft_laws_markHeap) (F_laws_heldHeap : Ft_laws_heldHeap) (F_spec_GlueHeaps : Ft_spec_GlueHeaps) (F_impl_GlueHeaps : Ft_impl_GlueHeaps) : Ctx := { types := TT, globals := [], con := [(20, ⟨As_laws_szHeap, R_laws_szHeap, M_laws_szHeap, F_laws_szHeap⟩), (22, ⟨As_laws_toHeap, R_laws_toHeap, M_laws_toHeap, F_laws_toHeap⟩), (24, ⟨As_laws_eqHeap, R_laws_eqHeap, M_laws_eqHeap, F_laws_eqHeap⟩), (34, ⟨As_laws_heldHeap, R_laws_heldHeap, M_laws_heldHeap, F_laws_heldHeap⟩), (37, ⟨As_spec_GlueHeaps, R_spec_GlueHeaps, M_spec_GlueHeaps, F_spec_GlueHeaps⟩), (38, ⟨As_impl_GlueHeaps, R_impl_GlueHeaps, M_impl_GlueHeaps, F_impl_GlueHeaps⟩)], mcon := [(29, ⟨As_laws_markHeap, R_laws_markHeap, M_laws_markHeap, F_laws_markHeap⟩)], keep := [], results := [.tmp 6], ntmps := 124, n := n }
noncomputable def B_laws_FnExactGlueHeaps : Code := (Try.f9.body).getD .skip
theorem e_laws_FnExactGlueHeaps (n : Nat) (F_laws_szHeap : Ft_laws_szHeap) (F_laws_toHeap : Ft_laws_toHeap) (F_laws_eqHeap : Ft_laws_eqHeap) (F_laws_markHeap : Ft_laws_markHeap) (F_laws_heldHeap : Ft_laws_heldHeap) (F_spec_GlueHeaps : Ft_spec_GlueHeaps) (F_impl_GlueHeaps : Ft_impl_GlueHeaps) (a0 : D_Heap) (a1 : D_Heap) (a2 : Int) : runF (X_laws_FnExactGlueHeaps n F_laws_szHeap F_laws_toHeap F_laws_eqHeap F_laws_markHeap F_laws_heldHeap F_spec_GlueHeaps F_impl_GlueHeaps) B_laws_FnExactGlueHeaps As_laws_FnExactGlueHeaps R_laws_FnExactGlueHeaps M_laws_FnExactGlueHeaps (a0, a1, a2, ()) = 
  Option.bind (F_laws_szHeap (a0, 1048576, ())) fun r0 =>
  bif decide (r0.1 < 0) then
    some (true, ())
  else
    Option.bind (F_laws_szHeap (a1, r0.1, ())) fun r2 =>
    bif decide (r2.1 < 0) then
      some (true, ())
    else
      Option.bind (F_laws_toHeap (a0, ())) fun r4 =>
      Option.bind (F_laws_toHeap (a1, ())) fun r5 =>
      Option.bind (F_spec_GlueHeaps (r4.1, r5.1, a2, ())) fun r6 =>
      Option.bind (F_laws_toHeap (a0, ())) fun r7 =>
      Option.bind (F_laws_toHeap (a1, ())) fun r8 =>
      Option.bind (F_impl_GlueHeaps (r7.1, r8.1, a2, ())) fun r9 =>
      Option.bind (F_laws_eqHeap (r9.1, r6.1, ())) fun r10 =>
      bif !r10.1 then
        some (false, ())
      else
        bif !(r9.2.1 == r6.2.1) then
          some (false, ())
        else
          Option.bind (F_laws_toHeap (a0, ())) fun r13 =>
          Option.bind (F_laws_eqHeap (r7.1, r13.1, ())) fun r14 =>
          bif !r14.1 then
            some (false, ())
          else
            Option.bind (F_laws_toHeap (a1, ())) fun r16 =>
            Option.bind (F_laws_eqHeap (r8.1, r16.1, ())) fun r17 =>
            bif !r17.1 then
              some (false, ())
            else
              Option.bind (F_laws_markHeap (r7.1, 1, ())) fun r19 =>
              Option.bind (F_laws_markHeap (r8.1, r19.1.1, ())) fun r20 =>
              bif decide (r20.1.1 < 0) then
                some (false, ())
              else
                Option.bind (F_laws_eqHeap (r9.1, r6.1, ())) fun r22 =>
                bif !r22.1 then
                  some (false, ())
                else
                  bif !(r9.2.1 == r6.2.1) then
                    some (false, ())
                  else
                    Option.bind (F_laws_markHeap (r9.1, 1, ())) fun r25 =>
                    Option.bind (F_laws_heldHeap ((r9.1.1, (r9.1.2.1, (r9.1.2.2.1, r25.2.1.2.2.2))), 1, ())) fun r26 =>
                    bif decide (r26.1 < 0) then
                      some (false, ())
                    else
                      bif !decide (r26.1 = r25.1.1) then
                        some (false, ())
                      else
                        Option.bind (F_laws_toHeap (a0, ())) fun r29 =>
                        Option.bind (F_laws_toHeap (a1, ())) fun r30 =>
                        Option.bind (F_impl_GlueHeaps (r29.1, r30.1, a2, ())) fun r31 =>
                        Option.bind (F_laws_eqHeap (r31.1, r6.1, ())) fun r32 =>
                        bif !r32.1 then
                          some (false, ())
                        else
                          bif !(r31.2.1 == r6.2.1) then
                            some (false, ())
                          else
                            Option.bind (F_laws_heldHeap ((r9.1.1, (r9.1.2.1, (r9.1.2.2.1, r25.2.1.2.2.2))), 1, ())) fun r35 =>
                            bif decide (r35.1 < 0) then
                              some (false, ())
                            else
                              bif !decide (r35.1 = r25.1.1) then
                                some (false, ())
                              else
                                some (true, ()) := by kernel_rfl
noncomputable def P_laws_FnExactGlueHeaps : Ft_laws_FnExactGlueHeaps := hid (runF (X_laws_FnExactGlueHeaps N P_laws_szHeap P_laws_toHeap P_laws_eqHeap P_laws_markHeap P_laws_heldHeap P_spec_GlueHeaps P_impl_GlueHeaps) B_laws_FnExactGlueHeaps As_laws_FnExactGlueHeaps R_laws_FnExactGlueHeaps M_laws_FnExactGlueHeaps)
theorem h_laws_FnExactGlueHeaps : P_laws_FnExactGlueHeaps = runF (X_laws_FnExactGlueHeaps N P_laws_szHeap P_laws_toHeap P_laws_eqHeap P_laws_markHeap P_laws_heldHeap P_spec_GlueHeaps P_impl_GlueHeaps) B_laws_FnExactGlueHeaps As_laws_FnExactGlueHeaps R_laws_FnExactGlueHeaps M_laws_FnExactGlueHeaps := hid_eq _
noncomputable def C_laws_FnExactGlueHeaps : Contract := ⟨As_laws_FnExactGlueHeaps, R_laws_FnExactGlueHeaps, M_laws_FnExactGlueHeaps, P_laws_FnExactGlueHeaps⟩
theorem s_laws_FnExactGlueHeaps : Sound Try.prog GG 9 C_laws_FnExactGlueHeaps := by
  unfold C_laws_FnExactGlueHeaps; rw [h_laws_FnExactGlueHeaps]
  exact sound_of_run (fn := Try.f9) hmix hstable (tyOK_of ttOK) (hglob (X_laws_FnExactGlueHeaps N P_laws_szHeap P_laws_toHeap P_laws_eqHeap P_laws_markHeap P_laws_heldHeap P_spec_GlueHeaps P_impl_GlueHeaps)) (conOK_of (X := X_laws_FnExactGlueHeaps N P_laws_szHeap P_laws_toHeap P_laws_eqHeap P_laws_markHeap P_laws_heldHeap P_spec_GlueHeaps P_impl_GlueHeaps) ⟨s_laws_szHeap, s_laws_toHeap, s_laws_eqHeap, s_laws_heldHeap, s_spec_GlueHeaps, s_impl_GlueHeaps, trivial⟩) (mconOK_of (X := X_laws_FnExactGlueHeaps N P_laws_szHeap P_laws_toHeap P_laws_eqHeap P_laws_markHeap P_laws_heldHeap P_spec_GlueHeaps P_impl_GlueHeaps) ⟨s_laws_markHeap, trivial⟩) (by kernel_rfl) (by kernel_rfl) (by kernel_rfl) (by kernel_rfl) (by kernel_rfl) (by decide)
theorem p_laws_FnExactGlueHeaps (a0 : D_Heap) (a1 : D_Heap) (a2 : Int) : P_laws_FnExactGlueHeaps (a0, a1, a2, ()) = 
  Option.bind (P_laws_szHeap (a0, 1048576, ())) fun r0 =>
  bif decide (r0.1 < 0) then
    some (true, ())
  else
    Option.bind (P_laws_szHeap (a1, r0.1, ())) fun r2 =>
    bif decide (r2.1 < 0) then
      some (true, ())
    else
      Option.bind (P_laws_toHeap (a0, ())) fun r4 =>
      Option.bind (P_laws_toHeap (a1, ())) fun r5 =>
      Option.bind (P_spec_GlueHeaps (r4.1, r5.1, a2, ())) fun r6 =>
      Option.bind (P_laws_toHeap (a0, ())) fun r7 =>
      Option.bind (P_laws_toHeap (a1, ())) fun r8 =>
      Option.bind (P_impl_GlueHeaps (r7.1, r8.1, a2, ())) fun r9 =>
      Option.bind (P_laws_eqHeap (r9.1, r6.1, ())) fun r10 =>
      bif !r10.1 then
        some (false, ())
      else
        bif !(r9.2.1 == r6.2.1) then
          some (false, ())
        else
          Option.bind (P_laws_toHeap (a0, ())) fun r13 =>
          Option.bind (P_laws_eqHeap (r7.1, r13.1, ())) fun r14 =>
          bif !r14.1 then
            some (false, ())
          else
            Option.bind (P_laws_toHeap (a1, ())) fun r16 =>
            Option.bind (P_laws_eqHeap (r8.1, r16.1, ())) fun r17 =>
            bif !r17.1 then
              some (false, ())
            else
              Option.bind (P_laws_markHeap (r7.1, 1, ())) fun r19 =>
              Option.bind (P_laws_markHeap (r8.1, r19.1.1, ())) fun r20 =>
              bif decide (r20.1.1 < 0) then
                some (false, ())
              else
                Option.bind (P_laws_eqHeap (r9.1, r6.1, ())) fun r22 =>
                bif !r22.1 then
                  some (false, ())
                else
                  bif !(r9.2.1 == r6.2.1) then
                    some (false, ())
                  else
                    Option.bind (P_laws_markHeap (r9.1, 1, ())) fun r25 =>
                    Option.bind (P_laws_heldHeap ((r9.1.1, (r9.1.2.1, (r9.1.2.2.1, r25.2.1.2.2.2))), 1, ())) fun r26 =>
                    bif decide (r26.1 < 0) then
                      some (false, ())
                    else
                      bif !decide (r26.1 = r25.1.1) then
                        some (false, ())
                      else
                        Option.bind (P_laws_toHeap (a0, ())) fun r29 =>
                        Option.bind (P_laws_toHeap (a1, ())) fun r30 =>
                        Option.bind (P_impl_GlueHeaps (r29.1, r30.1, a2, ())) fun r31 =>
                        Option.bind (P_laws_eqHeap (r31.1, r6.1, ())) fun r32 =>
                        bif !r32.1 then
                          some (false, ())
                        else
                          bif !(r31.2.1 == r6.2.1) then
                            some (false, ())
                          else
                            Option.bind (P_laws_heldHeap ((r9.1.1, (r9.1.2.1, (r9.1.2.2.1, r25.2.1.2.2.2))), 1, ())) fun r35 =>
                            bif decide (r35.1 < 0) then
                              some (false, ())
                            else
                              bif !decide (r35.1 = r25.1.1) then
                                some (false, ())
                              else
                                some (true, ()) := by
  rewrite [h_laws_FnExactGlueHeaps]
  exact e_laws_FnExactGlueHeaps N P_laws_szHeap P_laws_toHeap P_laws_eqHeap P_laws_markHeap P_laws_heldHeap P_spec_GlueHeaps P_impl_GlueHeaps a0 a1 a2

/- 39: loop.example/g01166/spec.NewConsole -/
abbrev As_spec_NewConsole : List ATy := [.data true T_Bench]
abbrev R_spec_NewConsole : List (Bool × Ty) := [(true, T_Console), (false, .bool)]
abbrev M_spec_NewConsole : List RMode := [.own 66]
abbrev Ft_spec_NewConsole : Type := D_Bench × Unit → Option (D_Console × Bool × Unit)
noncomputable def X_spec_NewConsole (n : Nat) (F_spec_l12Good : Ft_spec_l12Good) (F_spec_l12Own : Ft_spec_l12Own) : Ctx := { types := TT, globals := [], con := [(54, ⟨As_spec_l12Good, R_spec_l12Good, M_spec_l12Good, F_spec_l12Good⟩), (67, ⟨As_spec_l12Own, R_spec_l12Own, M_spec_l12Own, F_spec_l12Own⟩)], keep := [], results := [.cell 2 57, .tmp 3], ntmps := 11, n := n }
noncomputable def B_spec_NewConsole : Code := (Try.f39.body).getD .skip
theorem e_spec_NewConsole (n : Nat) (F_spec_l12Good : Ft_spec_l12Good) (F_spec_l12Own : Ft_spec_l12Own) (a0 : D_Bench) : runF (X_spec_NewConsole n F_spec_l12Good F_spec_l12Own) B_spec_NewConsole As_spec_NewConsole R_spec_NewConsole M_spec_NewConsole (a0, ()) = 
  Option.bind (F_spec_l12Good (a0, ())) fun r0 =>
  bif !r0.1 then
    some ((((0, (0, (0, (([] : List D_A3), ())))), (0, (0, ()))), ((([] : List UInt8), (([] : List UInt8), (0, ()))), ())), false, ())
  else
    Option.bind (F_spec_l12Own (a0, ())) fun r2 =>
    some ((r2.1, ((([] : List UInt8), (([] : List UInt8), (0, ()))), ())), true, ()) := by kernel_rfl
noncomputable def P_spec_NewConsole : Ft_spec_NewConsole := hid (runF (X_spec_NewConsole N P_spec_l12Good P_spec_l12Own) B_spec_NewConsole As_spec_NewConsole R_spec_NewConsole M_spec_NewConsole)
theorem h_spec_NewConsole : P_spec_NewConsole = runF (X_spec_NewConsole N P_spec_l12Good P_spec_l12Own) B_spec_NewConsole As_spec_NewConsole R_spec_NewConsole M_spec_NewConsole := hid_eq _
noncomputable def C_spec_NewConsole : Contract := ⟨As_spec_NewConsole, R_spec_NewConsole, M_spec_NewConsole, P_spec_NewConsole⟩
theorem s_spec_NewConsole : Sound Try.prog GG 39 C_spec_NewConsole := by
  unfold C_spec_NewConsole; rw [h_spec_NewConsole]
  exact sound_of_run (fn := Try.f39) hmix hstable (tyOK_of ttOK) (hglob (X_spec_NewConsole N P_spec_l12Good P_spec_l12Own)) (conOK_of (X := X_spec_NewConsole N P_spec_l12Good P_spec_l12Own) ⟨s_spec_l12Good, s_spec_l12Own, trivial⟩) (mconOK_of (X := X_spec_NewConsole N P_spec_l12Good P_spec_l12Own) trivial) (by kernel_rfl) (by kernel_rfl) (by kernel_rfl) (by kernel_rfl) (by kernel_rfl) (by decide)
theorem p_spec_NewConsole (a0 : D_Bench) : P_spec_NewConsole (a0, ()) = 
  Option.bind (P_spec_l12Good (a0, ())) fun r0 =>
  bif !r0.1 then
    some ((((0, (0, (0, (([] : List D_A3), ())))), (0, (0, ()))), ((([] : List UInt8), (([] : List UInt8), (0, ()))), ())), false, ())
  else
    Option.bind (P_spec_l12Own (a0, ())) fun r2 =>
    some ((r2.1, ((([] : List UInt8), (([] : List UInt8), (0, ()))), ())), true, ()) := by
  rewrite [h_spec_NewConsole]
  exact e_spec_NewConsole N P_spec_l12Good P_spec_l12Own a0

/- 40: loop.example/g01166/impl.NewConsole -/
abbrev As_impl_NewConsole : List ATy := [.data true T_Bench]
abbrev R_impl_NewConsole : List (Bool × Ty) := [(true, T_Console), (false, .bool)]
abbrev M_impl_NewConsole : List RMode := [.own 66]
abbrev Ft_impl_NewConsole : Type := D_Bench × Unit → Option (D_Console × Bool × Unit)
noncomputable def X_impl_NewConsole (n : Nat) (F_impl_IsBench : Ft_impl_IsBench) (F_Bench_own : Ft_Bench_own) : Ctx := { types := TT, globals := [], con := [(18, ⟨As_impl_IsBench, R_impl_IsBench, M_impl_IsBench, F_impl_IsBench⟩), (68, ⟨As_Bench_own, R_Bench_own, M_Bench_own, F_Bench_own⟩)], keep := [], results := [.cell 2 57, .tmp 3], ntmps := 11, n := n }
noncomputable def B_impl_NewConsole : Code := (Try.f40.body).getD .skip
theorem e_impl_NewConsole (n : Nat) (F_impl_IsBench : Ft_impl_IsBench) (F_Bench_own : Ft_Bench_own) (a0 : D_Bench) : runF (X_impl_NewConsole n F_impl_IsBench F_Bench_own) B_impl_NewConsole As_impl_NewConsole R_impl_NewConsole M_impl_NewConsole (a0, ()) = 
  Option.bind (F_impl_IsBench (a0, ())) fun r0 =>
  bif !r0.1 then
    some ((((0, (0, (0, (([] : List D_A3), ())))), (0, (0, ()))), ((([] : List UInt8), (([] : List UInt8), (0, ()))), ())), false, ())
  else
    Option.bind (F_Bench_own (a0, ())) fun r2 =>
    some ((r2.1, ((([] : List UInt8), (([] : List UInt8), (0, ()))), ())), true, ()) := by kernel_rfl
noncomputable def P_impl_NewConsole : Ft_impl_NewConsole := hid (runF (X_impl_NewConsole N P_impl_IsBench P_Bench_own) B_impl_NewConsole As_impl_NewConsole R_impl_NewConsole M_impl_NewConsole)
theorem h_impl_NewConsole : P_impl_NewConsole = runF (X_impl_NewConsole N P_impl_IsBench P_Bench_own) B_impl_NewConsole As_impl_NewConsole R_impl_NewConsole M_impl_NewConsole := hid_eq _
noncomputable def C_impl_NewConsole : Contract := ⟨As_impl_NewConsole, R_impl_NewConsole, M_impl_NewConsole, P_impl_NewConsole⟩
theorem s_impl_NewConsole : Sound Try.prog GG 40 C_impl_NewConsole := by
  unfold C_impl_NewConsole; rw [h_impl_NewConsole]
  exact sound_of_run (fn := Try.f40) hmix hstable (tyOK_of ttOK) (hglob (X_impl_NewConsole N P_impl_IsBench P_Bench_own)) (conOK_of (X := X_impl_NewConsole N P_impl_IsBench P_Bench_own) ⟨s_impl_IsBench, s_Bench_own, trivial⟩) (mconOK_of (X := X_impl_NewConsole N P_impl_IsBench P_Bench_own) trivial) (by kernel_rfl) (by kernel_rfl) (by kernel_rfl) (by kernel_rfl) (by kernel_rfl) (by decide)
theorem p_impl_NewConsole (a0 : D_Bench) : P_impl_NewConsole (a0, ()) = 
  Option.bind (P_impl_IsBench (a0, ())) fun r0 =>
  bif !r0.1 then
    some ((((0, (0, (0, (([] : List D_A3), ())))), (0, (0, ()))), ((([] : List UInt8), (([] : List UInt8), (0, ()))), ())), false, ())
  else
    Option.bind (P_Bench_own (a0, ())) fun r2 =>
    some ((r2.1, ((([] : List UInt8), (([] : List UInt8), (0, ()))), ())), true, ()) := by
  rewrite [h_impl_NewConsole]
  exact e_impl_NewConsole N P_impl_IsBench P_Bench_own a0

/- 86: loop.example/g01166/laws.eqLog -/
abbrev As_laws_eqLog : List ATy := [.data true T_Log, .data true T_Log]
abbrev R_laws_eqLog : List (Bool × Ty) := [(false, .bool)]
abbrev M_laws_eqLog : List RMode := []
abbrev Ft_laws_eqLog : Type := D_Log × D_Log × Unit → Option (Bool × Unit)
noncomputable def X_laws_eqLog (n : Nat) : Ctx := { types := TT, globals := [], con := [], keep := [], results := [.tmp 4], ntmps := 20, n := n }
noncomputable def B_laws_eqLog : Code := (Try.f86.body).getD .skip
theorem e_laws_eqLog (n : Nat) (a0 : D_Log) (a1 : D_Log) : runF (X_laws_eqLog n) B_laws_eqLog As_laws_eqLog R_laws_eqLog M_laws_eqLog (a0, a1, ()) = 
  bif !(a0.1 == a1.1) then
    some (false, ())
  else
    bif !(a0.2.1 == a1.2.1) then
      some (false, ())
    else
      bif !decide (a0.2.2.1 = a1.2.2.1) then
        some (false, ())
      else
        some (true, ()) := by kernel_rfl
noncomputable def P_laws_eqLog : Ft_laws_eqLog := hid (runF (X_laws_eqLog N) B_laws_eqLog As_laws_eqLog R_laws_eqLog M_laws_eqLog)
theorem h_laws_eqLog : P_laws_eqLog = runF (X_laws_eqLog N) B_laws_eqLog As_laws_eqLog R_laws_eqLog M_laws_eqLog := hid_eq _
noncomputable def C_laws_eqLog : Contract := ⟨As_laws_eqLog, R_laws_eqLog, M_laws_eqLog, P_laws_eqLog⟩
theorem s_laws_eqLog : Sound Try.prog GG 86 C_laws_eqLog := by
  unfold C_laws_eqLog; rw [h_laws_eqLog]
  exact sound_of_run (fn := Try.f86) hmix hstable (tyOK_of ttOK) (hglob (X_laws_eqLog N)) (conOK_of (X := X_laws_eqLog N) trivial) (mconOK_of (X := X_laws_eqLog N) trivial) (by kernel_rfl) (by kernel_rfl) (by kernel_rfl) (by kernel_rfl) (by kernel_rfl) (by decide)
theorem p_laws_eqLog (a0 : D_Log) (a1 : D_Log) : P_laws_eqLog (a0, a1, ()) = 
  bif !(a0.1 == a1.1) then
    some (false, ())
  else
    bif !(a0.2.1 == a1.2.1) then
      some (false, ())
    else
      bif !decide (a0.2.2.1 = a1.2.2.1) then
        some (false, ())
      else
        some (true, ()) := by
  rewrite [h_laws_eqLog]
  exact e_laws_eqLog N a0 a1

/- 41: loop.example/g01166/laws.eqConsole -/
abbrev As_laws_eqConsole : List ATy := [.data true T_Console, .data true T_Console]
abbrev R_laws_eqConsole : List (Bool × Ty) := [(false, .bool)]
abbrev M_laws_eqConsole : List RMode := []
abbrev Ft_laws_eqConsole : Type := D_Console × D_Console × Unit → Option (Bool × Unit)
noncomputable def X_laws_eqConsole (n : Nat) (F_laws_eqBench : Ft_laws_eqBench) (F_laws_eqLog : Ft_laws_eqLog) : Ctx := { types := TT, globals := [], con := [(19, ⟨As_laws_eqBench, R_laws_eqBench, M_laws_eqBench, F_laws_eqBench⟩), (86, ⟨As_laws_eqLog, R_laws_eqLog, M_laws_eqLog, F_laws_eqLog⟩)], keep := [], results := [.tmp 4], ntmps := 17, n := n }
noncomputable def B_laws_eqConsole : Code := (Try.f41.body).getD .skip
theorem e_laws_eqConsole (n : Nat) (F_laws_eqBench : Ft_laws_eqBench) (F_laws_eqLog : Ft_laws_eqLog) (a0 : D_Console) (a1 : D_Console) : runF (X_laws_eqConsole n F_laws_eqBench F_laws_eqLog) B_laws_eqConsole As_laws_eqConsole R_laws_eqConsole M_laws_eqConsole (a0, a1, ()) = 
  Option.bind (F_laws_eqBench (a0.1, a1.1, ())) fun r0 =>
  bif !r0.1 then
    some (false, ())
  else
    Option.bind (F_laws_eqLog (a0.2.1, a1.2.1, ())) fun r2 =>
    bif !r2.1 then
      some (false, ())
    else
      some (true, ()) := by kernel_rfl
noncomputable def P_laws_eqConsole : Ft_laws_eqConsole := hid (runF (X_laws_eqConsole N P_laws_eqBench P_laws_eqLog) B_laws_eqConsole As_laws_eqConsole R_laws_eqConsole M_laws_eqConsole)
theorem h_laws_eqConsole : P_laws_eqConsole = runF (X_laws_eqConsole N P_laws_eqBench P_laws_eqLog) B_laws_eqConsole As_laws_eqConsole R_laws_eqConsole M_laws_eqConsole := hid_eq _
noncomputable def C_laws_eqConsole : Contract := ⟨As_laws_eqConsole, R_laws_eqConsole, M_laws_eqConsole, P_laws_eqConsole⟩
theorem s_laws_eqConsole : Sound Try.prog GG 41 C_laws_eqConsole := by
  unfold C_laws_eqConsole; rw [h_laws_eqConsole]
  exact sound_of_run (fn := Try.f41) hmix hstable (tyOK_of ttOK) (hglob (X_laws_eqConsole N P_laws_eqBench P_laws_eqLog)) (conOK_of (X := X_laws_eqConsole N P_laws_eqBench P_laws_eqLog) ⟨s_laws_eqBench, s_laws_eqLog, trivial⟩) (mconOK_of (X := X_laws_eqConsole N P_laws_eqBench P_laws_eqLog) trivial) (by kernel_rfl) (by kernel_rfl) (by kernel_rfl) (by kernel_rfl) (by kernel_rfl) (by decide)
theorem p_laws_eqConsole (a0 : D_Console) (a1 : D_Console) : P_laws_eqConsole (a0, a1, ()) = 
  Option.bind (P_laws_eqBench (a0.1, a1.1, ())) fun r0 =>
  bif !r0.1 then
    some (false, ())
  else
    Option.bind (P_laws_eqLog (a0.2.1, a1.2.1, ())) fun r2 =>
    bif !r2.1 then
      some (false, ())
    else
      some (true, ()) := by
  rewrite [h_laws_eqConsole]
  exact e_laws_eqConsole N P_laws_eqBench P_laws_eqLog a0 a1

/- 42: loop.example/g01166/laws.markConsole -/
abbrev As_laws_markConsole : List ATy := [.lrow true T_Console [66], .data false (.int .i64)]
abbrev R_laws_markConsole : List (Bool × Ty) := [(false, (.int .i64))]
abbrev M_laws_markConsole : List RMode := []
abbrev Ft_laws_markConsole : Type := D_Console × Int × Unit → Option ((Int × Unit) × (D_Console × Unit))
noncomputable def X_laws_markConsole (n : Nat) (F_laws_markBench : Ft_laws_markBench) : Ctx := { types := TT, globals := [], con := [], mcon := [(30, ⟨As_laws_markBench, R_laws_markBench, M_laws_markBench, F_laws_markBench⟩)], keep := [], results := [.tmp 4], ntmps := 10, n := n }
noncomputable def B_laws_markConsole : Code := (Try.f42.body).getD .skip
theorem e_laws_markConsole (n : Nat) (F_laws_markBench : Ft_laws_markBench) (a0 : D_Console) (a1 : Int) : runFM (X_laws_markConsole n F_laws_markBench) B_laws_markConsole As_laws_markConsole R_laws_markConsole M_laws_markConsole (a0, a1, ()) = 
  Option.bind (F_laws_markBench (a0.1, a1, ())) fun r0 =>
  some ((r0.1.1, ()), ((((0, (0, (0, (r0.2.1.1.2.2.2.1, ())))), (0, (0, ()))), ((([] : List UInt8), (([] : List UInt8), (0, ()))), ())), ())) := by kernel_rfl
noncomputable def P_laws_markConsole : Ft_laws_markConsole := hid (runFM (X_laws_markConsole N P_laws_markBench) B_laws_markConsole As_laws_markConsole R_laws_markConsole M_laws_markConsole)
theorem h_laws_markConsole : P_laws_markConsole = runFM (X_laws_markConsole N P_laws_markBench) B_laws_markConsole As_laws_markConsole R_laws_markConsole M_laws_markConsole := hid_eq _
noncomputable def C_laws_markConsole : MContract := ⟨As_laws_markConsole, R_laws_markConsole, M_laws_markConsole, P_laws_markConsole⟩
theorem s_laws_markConsole : SoundM Try.prog n0 GG 42 C_laws_markConsole := by
  unfold C_laws_markConsole; rw [h_laws_markConsole]
  exact sound_of_runM (fn := Try.f42) hmix hstable (tyOK_of ttOK) (hglob (X_laws_markConsole N P_laws_markBench)) (conOK_of (X := X_laws_markConsole N P_laws_markBench) trivial) (mconOK_of (X := X_laws_markConsole N P_laws_markBench) ⟨s_laws_markBench, trivial⟩) (by kernel_rfl) (by kernel_rfl) (by kernel_rfl) (by kernel_rfl) (by kernel_rfl) (by decide) (by kernel_rfl) (by rfl)
theorem p_laws_markConsole (a0 : D_Console) (a1 : Int) : P_laws_markConsole (a0, a1, ()) = 
  Option.bind (P_laws_markBench (a0.1, a1, ())) fun r0 =>
  some ((r0.1.1, ()), ((((0, (0, (0, (r0.2.1.1.2.2.2.1, ())))), (0, (0, ()))), ((([] : List UInt8), (([] : List UInt8), (0, ()))), ())), ())) := by
  rewrite [h_laws_markConsole]
  exact e_laws_markConsole N P_laws_markBench a0 a1

/- 43: loop.example/g01166/laws.heldConsole -/
abbrev As_laws_heldConsole : List ATy := [.data true T_Console, .data false (.int .i64)]
abbrev R_laws_heldConsole : List (Bool × Ty) := [(false, (.int .i64))]
abbrev M_laws_heldConsole : List RMode := []
abbrev Ft_laws_heldConsole : Type := D_Console × Int × Unit → Option (Int × Unit)
noncomputable def X_laws_heldConsole (n : Nat) (F_laws_heldBench : Ft_laws_heldBench) : Ctx := { types := TT, globals := [], con := [(31, ⟨As_laws_heldBench, R_laws_heldBench, M_laws_heldBench, F_laws_heldBench⟩)], keep := [], results := [.tmp 4], ntmps := 12, n := n }
noncomputable def B_laws_heldConsole : Code := (Try.f43.body).getD .skip
theorem e_laws_heldConsole (n : Nat) (F_laws_heldBench : Ft_laws_heldBench) (a0 : D_Console) (a1 : Int) : runF (X_laws_heldConsole n F_laws_heldBench) B_laws_heldConsole As_laws_heldConsole R_laws_heldConsole M_laws_heldConsole (a0, a1, ()) = 
  Option.bind (F_laws_heldBench (a0.1, a1, ())) fun r0 =>
  bif decide (r0.1 < 0) then
    some ((-1), ())
  else
    some (r0.1, ()) := by kernel_rfl
noncomputable def P_laws_heldConsole : Ft_laws_heldConsole := hid (runF (X_laws_heldConsole N P_laws_heldBench) B_laws_heldConsole As_laws_heldConsole R_laws_heldConsole M_laws_heldConsole)
theorem h_laws_heldConsole : P_laws_heldConsole = runF (X_laws_heldConsole N P_laws_heldBench) B_laws_heldConsole As_laws_heldConsole R_laws_heldConsole M_laws_heldConsole := hid_eq _
noncomputable def C_laws_heldConsole : Contract := ⟨As_laws_heldConsole, R_laws_heldConsole, M_laws_heldConsole, P_laws_heldConsole⟩
theorem s_laws_heldConsole : Sound Try.prog GG 43 C_laws_heldConsole := by
  unfold C_laws_heldConsole; rw [h_laws_heldConsole]
  exact sound_of_run (fn := Try.f43) hmix hstable (tyOK_of ttOK) (hglob (X_laws_heldConsole N P_laws_heldBench)) (conOK_of (X := X_laws_heldConsole N P_laws_heldBench) ⟨s_laws_heldBench, trivial⟩) (mconOK_of (X := X_laws_heldConsole N P_laws_heldBench) trivial) (by kernel_rfl) (by kernel_rfl) (by kernel_rfl) (by kernel_rfl) (by kernel_rfl) (by decide)
theorem p_laws_heldConsole (a0 : D_Console) (a1 : Int) : P_laws_heldConsole (a0, a1, ()) = 
  Option.bind (P_laws_heldBench (a0.1, a1, ())) fun r0 =>
  bif decide (r0.1 < 0) then
    some ((-1), ())
  else
    some (r0.1, ()) := by
  rewrite [h_laws_heldConsole]
  exact e_laws_heldConsole N P_laws_heldBench a0 a1

/- 10: loop.example/g01166/laws.FnExactNewConsole -/
abbrev As_laws_FnExactNewConsole : List ATy := [.data true T_Bench]
abbrev R_laws_FnExactNewConsole : List (Bool × Ty) := [(false, .bool)]
abbrev M_laws_FnExactNewConsole : List RMode := []
abbrev Ft_laws_FnExactNewConsole : Type := D_Bench × Unit → Option (Bool × Unit)
noncomputable def X_laws_FnExactNewConsole (n : Nat) (F_laws_szBench : Ft_laws_szBench) (F_laws_toBench : Ft_laws_toBench) (F_laws_eqBench : Ft_laws_eqBench) (F_laws_markBench : Ft_laws_markBench) (F_spec_NewConsole : Ft_spec_NewConsole) (F_impl_NewConsole : Ft_impl_NewConsole) (F_laws_eqConsole : Ft_laws_eqConsole) (F_laws_markConsole : Ft_laws_markConsole) (F_laws_heldConsole : Ft_laws_heldConsole) : Ctx := { types := TT, globals := [], con := [(15, ⟨As_laws_szBench, R_laws_szBench, M_laws_szBench, F_laws_szBench⟩), (17, ⟨As_laws_toBench, R_laws_toBench, M_laws_toBench, F_laws_toBench⟩), (19, ⟨As_laws_eqBench, R_laws_eqBench, M_laws_eqBench, F_laws_eqBench⟩), (39, ⟨As_spec_NewConsole, R_spec_NewConsole, M_spec_NewConsole, F_spec_NewConsole⟩), (40, ⟨As_impl_NewConsole, R_impl_NewConsole, M_impl_NewConsole, F_impl_NewConsole⟩), (41, ⟨As_laws_eqConsole, R_laws_eqConsole, M_laws_eqConsole, F_laws_eqConsole⟩), (43, ⟨As_laws_heldConsole, R_laws_heldConsole, M_laws_heldConsole, F_laws_heldConsole⟩)], mcon := [(30, ⟨As_laws_markBench, R_laws_markBench, M_laws_markBench, F_laws_markBench⟩), (42, ⟨As_laws_markConsole, R_laws_markConsole, M_laws_markConsole, F_laws_markConsole⟩)], keep := [], results := [.tmp 2], ntmps := 96, n := n }
noncomputable def B_laws_FnExactNewConsole : Code := (Try.f10.body).getD .skip
theorem e_laws_FnExactNewConsole (n : Nat) (F_laws_szBench : Ft_laws_szBench) (F_laws_toBench : Ft_laws_toBench) (F_laws_eqBench : Ft_laws_eqBench) (F_laws_markBench : Ft_laws_markBench) (F_spec_NewConsole : Ft_spec_NewConsole) (F_impl_NewConsole : Ft_impl_NewConsole) (F_laws_eqConsole : Ft_laws_eqConsole) (F_laws_markConsole : Ft_laws_markConsole) (F_laws_heldConsole : Ft_laws_heldConsole) (a0 : D_Bench) : runF (X_laws_FnExactNewConsole n F_laws_szBench F_laws_toBench F_laws_eqBench F_laws_markBench F_spec_NewConsole F_impl_NewConsole F_laws_eqConsole F_laws_markConsole F_laws_heldConsole) B_laws_FnExactNewConsole As_laws_FnExactNewConsole R_laws_FnExactNewConsole M_laws_FnExactNewConsole (a0, ()) = 
  Option.bind (F_laws_szBench (a0, 1048576, ())) fun r0 =>
  bif decide (r0.1 < 0) then
    some (true, ())
  else
    Option.bind (F_laws_toBench (a0, ())) fun r2 =>
    Option.bind (F_spec_NewConsole (r2.1, ())) fun r3 =>
    Option.bind (F_laws_toBench (a0, ())) fun r4 =>
    Option.bind (F_impl_NewConsole (r4.1, ())) fun r5 =>
    Option.bind (F_laws_eqConsole (r5.1, r3.1, ())) fun r6 =>
    bif !r6.1 then
      some (false, ())
    else
      bif !(r5.2.1 == r3.2.1) then
        some (false, ())
      else
        Option.bind (F_laws_toBench (a0, ())) fun r9 =>
        Option.bind (F_laws_eqBench (r4.1, r9.1, ())) fun r10 =>
        bif !r10.1 then
          some (false, ())
        else
          Option.bind (F_laws_markBench (r4.1, 1, ())) fun r12 =>
          bif decide (r12.1.1 < 0) then
            some (false, ())
          else
            Option.bind (F_laws_eqConsole (r5.1, r3.1, ())) fun r14 =>
            bif !r14.1 then
              some (false, ())
            else
              bif !(r5.2.1 == r3.2.1) then
                some (false, ())
              else
                Option.bind (F_laws_markConsole (r5.1, 1, ())) fun r17 =>
                Option.bind (F_laws_heldConsole ((((r5.1.1.1.1, (r5.1.1.1.2.1, (r5.1.1.1.2.2.1, r17.2.1.1.1.2.2.2))), r5.1.1.2), r5.1.2), 1, ())) fun r18 =>
                bif decide (r18.1 < 0) then
                  some (false, ())
                else
                  bif !decide (r18.1 = r17.1.1) then
                    some (false, ())
                  else
                    Option.bind (F_laws_toBench (a0, ())) fun r21 =>
                    Option.bind (F_impl_NewConsole (r21.1, ())) fun r22 =>
                    Option.bind (F_laws_eqConsole (r22.1, r3.1, ())) fun r23 =>
                    bif !r23.1 then
                      some (false, ())
                    else
                      bif !(r22.2.1 == r3.2.1) then
                        some (false, ())
                      else
                        Option.bind (F_laws_heldConsole ((((r5.1.1.1.1, (r5.1.1.1.2.1, (r5.1.1.1.2.2.1, r17.2.1.1.1.2.2.2))), r5.1.1.2), r5.1.2), 1, ())) fun r26 =>
                        bif decide (r26.1 < 0) then
                          some (false, ())
                        else
                          bif !decide (r26.1 = r17.1.1) then
                            some (false, ())
                          else
                            some (true, ()) := by kernel_rfl
noncomputable def P_laws_FnExactNewConsole : Ft_laws_FnExactNewConsole := hid (runF (X_laws_FnExactNewConsole N P_laws_szBench P_laws_toBench P_laws_eqBench P_laws_markBench P_spec_NewConsole P_impl_NewConsole P_laws_eqConsole P_laws_markConsole P_laws_heldConsole) B_laws_FnExactNewConsole As_laws_FnExactNewConsole R_laws_FnExactNewConsole M_laws_FnExactNewConsole)
theorem h_laws_FnExactNewConsole : P_laws_FnExactNewConsole = runF (X_laws_FnExactNewConsole N P_laws_szBench P_laws_toBench P_laws_eqBench P_laws_markBench P_spec_NewConsole P_impl_NewConsole P_laws_eqConsole P_laws_markConsole P_laws_heldConsole) B_laws_FnExactNewConsole As_laws_FnExactNewConsole R_laws_FnExactNewConsole M_laws_FnExactNewConsole := hid_eq _
noncomputable def C_laws_FnExactNewConsole : Contract := ⟨As_laws_FnExactNewConsole, R_laws_FnExactNewConsole, M_laws_FnExactNewConsole, P_laws_FnExactNewConsole⟩
theorem s_laws_FnExactNewConsole : Sound Try.prog GG 10 C_laws_FnExactNewConsole := by
  unfold C_laws_FnExactNewConsole; rw [h_laws_FnExactNewConsole]
  exact sound_of_run (fn := Try.f10) hmix hstable (tyOK_of ttOK) (hglob (X_laws_FnExactNewConsole N P_laws_szBench P_laws_toBench P_laws_eqBench P_laws_markBench P_spec_NewConsole P_impl_NewConsole P_laws_eqConsole P_laws_markConsole P_laws_heldConsole)) (conOK_of (X := X_laws_FnExactNewConsole N P_laws_szBench P_laws_toBench P_laws_eqBench P_laws_markBench P_spec_NewConsole P_impl_NewConsole P_laws_eqConsole P_laws_markConsole P_laws_heldConsole) ⟨s_laws_szBench, s_laws_toBench, s_laws_eqBench, s_spec_NewConsole, s_impl_NewConsole, s_laws_eqConsole, s_laws_heldConsole, trivial⟩) (mconOK_of (X := X_laws_FnExactNewConsole N P_laws_szBench P_laws_toBench P_laws_eqBench P_laws_markBench P_spec_NewConsole P_impl_NewConsole P_laws_eqConsole P_laws_markConsole P_laws_heldConsole) ⟨s_laws_markBench, s_laws_markConsole, trivial⟩) (by kernel_rfl) (by kernel_rfl) (by kernel_rfl) (by kernel_rfl) (by kernel_rfl) (by decide)
theorem p_laws_FnExactNewConsole (a0 : D_Bench) : P_laws_FnExactNewConsole (a0, ()) = 
  Option.bind (P_laws_szBench (a0, 1048576, ())) fun r0 =>
  bif decide (r0.1 < 0) then
    some (true, ())
  else
    Option.bind (P_laws_toBench (a0, ())) fun r2 =>
    Option.bind (P_spec_NewConsole (r2.1, ())) fun r3 =>
    Option.bind (P_laws_toBench (a0, ())) fun r4 =>
    Option.bind (P_impl_NewConsole (r4.1, ())) fun r5 =>
    Option.bind (P_laws_eqConsole (r5.1, r3.1, ())) fun r6 =>
    bif !r6.1 then
      some (false, ())
    else
      bif !(r5.2.1 == r3.2.1) then
        some (false, ())
      else
        Option.bind (P_laws_toBench (a0, ())) fun r9 =>
        Option.bind (P_laws_eqBench (r4.1, r9.1, ())) fun r10 =>
        bif !r10.1 then
          some (false, ())
        else
          Option.bind (P_laws_markBench (r4.1, 1, ())) fun r12 =>
          bif decide (r12.1.1 < 0) then
            some (false, ())
          else
            Option.bind (P_laws_eqConsole (r5.1, r3.1, ())) fun r14 =>
            bif !r14.1 then
              some (false, ())
            else
              bif !(r5.2.1 == r3.2.1) then
                some (false, ())
              else
                Option.bind (P_laws_markConsole (r5.1, 1, ())) fun r17 =>
                Option.bind (P_laws_heldConsole ((((r5.1.1.1.1, (r5.1.1.1.2.1, (r5.1.1.1.2.2.1, r17.2.1.1.1.2.2.2))), r5.1.1.2), r5.1.2), 1, ())) fun r18 =>
                bif decide (r18.1 < 0) then
                  some (false, ())
                else
                  bif !decide (r18.1 = r17.1.1) then
                    some (false, ())
                  else
                    Option.bind (P_laws_toBench (a0, ())) fun r21 =>
                    Option.bind (P_impl_NewConsole (r21.1, ())) fun r22 =>
                    Option.bind (P_laws_eqConsole (r22.1, r3.1, ())) fun r23 =>
                    bif !r23.1 then
                      some (false, ())
                    else
                      bif !(r22.2.1 == r3.2.1) then
                        some (false, ())
                      else
                        Option.bind (P_laws_heldConsole ((((r5.1.1.1.1, (r5.1.1.1.2.1, (r5.1.1.1.2.2.1, r17.2.1.1.1.2.2.2))), r5.1.1.2), r5.1.2), 1, ())) fun r26 =>
                        bif decide (r26.1 < 0) then
                          some (false, ())
                        else
                          bif !decide (r26.1 = r17.1.1) then
                            some (false, ())
                          else
                            some (true, ()) := by
  rewrite [h_laws_FnExactNewConsole]
  exact e_laws_FnExactNewConsole N P_laws_szBench P_laws_toBench P_laws_eqBench P_laws_markBench P_spec_NewConsole P_impl_NewConsole P_laws_eqConsole P_laws_markConsole P_laws_heldConsole a0

/- 116: loop.example/g01166/spec.l6Enclosed: not run -/
abbrev As_spec_l6Enclosed : List ATy := [.data true T_Heap]
abbrev R_spec_l6Enclosed : List (Bool × Ty) := [(false, (.sl T_A3))]
abbrev M_spec_l6Enclosed : List RMode := [.own 66]
abbrev Ft_spec_l6Enclosed : Type := D_Heap × Unit → Option ((List D_A3) × Unit)
noncomputable def P_spec_l6Enclosed : Ft_spec_l6Enclosed := fun _ => none
noncomputable def C_spec_l6Enclosed : Contract := ⟨As_spec_l6Enclosed, R_spec_l6Enclosed, M_spec_l6Enclosed, P_spec_l6Enclosed⟩
theorem s_spec_l6Enclosed : Sound Try.prog GG 116 C_spec_l6Enclosed := sound_none
/- 107: loop.example/g01166/spec.l11Hidden -/
abbrev As_spec_l11Hidden : List ATy := [.data true T_Heap, .data false .bool]
abbrev R_spec_l11Hidden : List (Bool × Ty) := [(true, T_Heap)]
abbrev M_spec_l11Hidden : List RMode := [.own 66]
abbrev Ft_spec_l11Hidden : Type := D_Heap × Bool × Unit → Option (D_Heap × Unit)
noncomputable def X_spec_l11Hidden (n : Nat) (F_spec_l2Empty : Ft_spec_l2Empty) (F_spec_l2Made : Ft_spec_l2Made) (F_spec_l6Enclosed : Ft_spec_l6Enclosed) : Ctx := { types := TT, globals := [], con := [(100, ⟨As_spec_l2Empty, R_spec_l2Empty, M_spec_l2Empty, F_spec_l2Empty⟩), (106, ⟨As_spec_l2Made, R_spec_l2Made, M_spec_l2Made, F_spec_l2Made⟩), (116, ⟨As_spec_l6Enclosed, R_spec_l6Enclosed, M_spec_l6Enclosed, F_spec_l6Enclosed⟩)], keep := [], results := [.cell 4 29], ntmps := 17, n := n }
noncomputable def B_spec_l11Hidden : Code := (Try.f107.body).getD .skip
theorem e_spec_l11Hidden (n : Nat) (F_spec_l2Empty : Ft_spec_l2Empty) (F_spec_l2Made : Ft_spec_l2Made) (F_spec_l6Enclosed : Ft_spec_l6Enclosed) (a0 : D_Heap) (a1 : Bool) : runF (X_spec_l11Hidden n F_spec_l2Empty F_spec_l2Made F_spec_l6Enclosed) B_spec_l11Hidden As_spec_l11Hidden R_spec_l11Hidden M_spec_l11Hidden (a0, a1, ()) = 
  bif a1 then
    Option.bind (F_spec_l6Enclosed (a0, ())) fun r1 =>
    Option.bind (F_spec_l2Made (a0, r1.1, ())) fun r2 =>
    some ((r2.1.1, (r2.1.2.1, (r2.1.2.2.1, (r1.1, ())))), ())
  else
    Option.bind (F_spec_l2Empty (a0.1, a0.2.1, a0.2.2.1, ())) fun r1 =>
    some (r1.1, ()) := by kernel_rfl
noncomputable def P_spec_l11Hidden : Ft_spec_l11Hidden := hid (runF (X_spec_l11Hidden N P_spec_l2Empty P_spec_l2Made P_spec_l6Enclosed) B_spec_l11Hidden As_spec_l11Hidden R_spec_l11Hidden M_spec_l11Hidden)
theorem h_spec_l11Hidden : P_spec_l11Hidden = runF (X_spec_l11Hidden N P_spec_l2Empty P_spec_l2Made P_spec_l6Enclosed) B_spec_l11Hidden As_spec_l11Hidden R_spec_l11Hidden M_spec_l11Hidden := hid_eq _
noncomputable def C_spec_l11Hidden : Contract := ⟨As_spec_l11Hidden, R_spec_l11Hidden, M_spec_l11Hidden, P_spec_l11Hidden⟩
theorem s_spec_l11Hidden : Sound Try.prog GG 107 C_spec_l11Hidden := by
  unfold C_spec_l11Hidden; rw [h_spec_l11Hidden]
  exact sound_of_run (fn := Try.f107) hmix hstable (tyOK_of ttOK) (hglob (X_spec_l11Hidden N P_spec_l2Empty P_spec_l2Made P_spec_l6Enclosed)) (conOK_of (X := X_spec_l11Hidden N P_spec_l2Empty P_spec_l2Made P_spec_l6Enclosed) ⟨s_spec_l2Empty, s_spec_l2Made, s_spec_l6Enclosed, trivial⟩) (mconOK_of (X := X_spec_l11Hidden N P_spec_l2Empty P_spec_l2Made P_spec_l6Enclosed) trivial) (by kernel_rfl) (by kernel_rfl) (by kernel_rfl) (by kernel_rfl) (by kernel_rfl) (by decide)
theorem p_spec_l11Hidden (a0 : D_Heap) (a1 : Bool) : P_spec_l11Hidden (a0, a1, ()) = 
  bif a1 then
    Option.bind (P_spec_l6Enclosed (a0, ())) fun r1 =>
    Option.bind (P_spec_l2Made (a0, r1.1, ())) fun r2 =>
    some ((r2.1.1, (r2.1.2.1, (r2.1.2.2.1, (r1.1, ())))), ())
  else
    Option.bind (P_spec_l2Empty (a0.1, a0.2.1, a0.2.2.1, ())) fun r1 =>
    some (r1.1, ()) := by
  rewrite [h_spec_l11Hidden]
  exact e_spec_l11Hidden N P_spec_l2Empty P_spec_l2Made P_spec_l6Enclosed a0 a1

/- 87: loop.example/g01166/spec.l11Counts -/
abbrev As_spec_l11Counts : List ATy := [.data true T_Heap, .data false .bool]
abbrev R_spec_l11Counts : List (Bool × Ty) := [(true, T_A7)]
abbrev M_spec_l11Counts : List RMode := []
abbrev Ft_spec_l11Counts : Type := D_Heap × Bool × Unit → Option (D_A7 × Unit)
noncomputable def X_spec_l11Counts (n : Nat) (F_spec_l11Painted : Ft_spec_l11Painted) (F_spec_l11Hidden : Ft_spec_l11Hidden) : Ctx := { types := TT, globals := [], con := [(102, ⟨As_spec_l11Painted, R_spec_l11Painted, M_spec_l11Painted, F_spec_l11Painted⟩), (107, ⟨As_spec_l11Hidden, R_spec_l11Hidden, M_spec_l11Hidden, F_spec_l11Hidden⟩)], keep := [(3, ⟨[.box 2, .box 4, .box 5, .box 6, .tmp 2, .tmp 4, .tmp 5, .tmp 6, .tmp 7], []⟩)], results := [.cell 4 62], ntmps := 32, n := n }
noncomputable def B_spec_l11Counts : Code := (Try.f87.body).getD .skip
noncomputable def L_spec_l11Counts_3 (n : Nat) (F_spec_l11Painted : Ft_spec_l11Painted) (F_spec_l11Hidden : Ft_spec_l11Hidden) (m0 : Nat) (p0 : Int) (p1 : Int) (p2 : Int) (p3 : List D_A3) (p4 : Int) (p5 : Int) (p6 : Int) (p7 : Int) (p8 : Int) (p9 : Int) (p10 : Int) (p11 : Int) (p12 : Int) (p13 : Int) (p14 : Int) (p15 : Int) (p16 : Int) (p17 : Int) (p18 : Int) (p19 : Int) (p20 : Int) (p21 : List D_A3) (p22 : Int) : Option (denL R_spec_l11Counts) := loopF (X_spec_l11Counts n F_spec_l11Painted F_spec_l11Hidden) B_spec_l11Counts R_spec_l11Counts M_spec_l11Counts 3 [m0] [(.ver, .num 1), (.box 2, .box 0 false [.int .i64 p0, .int .i64 p1, .int .i64 p2, .imm T_A3 p3 (some 3)]), (.box 4, .box 0 false [.int .i64 p4, .int .i64 p5, .int .i64 p6, .int .i64 p7, .int .i64 p8, .int .i64 p9, .int .i64 p10]), (.box 5, .box 0 false [.int .i64 p11, .int .i64 p12, .int .i64 p13, .int .i64 p14, .int .i64 p15, .int .i64 p16, .int .i64 p17]), (.box 6, .box 0 false [.int .i64 p18, .int .i64 p19, .int .i64 p20, .own 66 T_A3 0 p21]), (.tmp 2, .val false [.addr 2 0 0]), (.tmp 4, .val false [.addr 4 0 0]), (.tmp 5, .val false [.addr 5 0 0]), (.tmp 6, .val false [.addr 6 0 0]), (.tmp 7, .val false [.int .i64 p22])]
theorem e_spec_l11Counts (n : Nat) (F_spec_l11Painted : Ft_spec_l11Painted) (F_spec_l11Hidden : Ft_spec_l11Hidden) (a0 : D_Heap) (a1 : Bool) : runF (X_spec_l11Counts n F_spec_l11Painted F_spec_l11Hidden) B_spec_l11Counts As_spec_l11Counts R_spec_l11Counts M_spec_l11Counts (a0, a1, ()) = 
  Option.bind (F_spec_l11Hidden (a0, a1, ())) fun r0 =>
  L_spec_l11Counts_3 n F_spec_l11Painted F_spec_l11Hidden n a0.1 a0.2.1 a0.2.2.1 a0.2.2.2.1 0 0 0 0 0 0 0 0 0 0 0 0 0 0 r0.1.1 r0.1.2.1 r0.1.2.2.1 r0.1.2.2.2.1 0 := by kernel_rfl
theorem e_spec_l11Counts_3 (n : Nat) (F_spec_l11Painted : Ft_spec_l11Painted) (F_spec_l11Hidden : Ft_spec_l11Hidden) (m0 : Nat) (p0 : Int) (p1 : Int) (p2 : Int) (p3 : List D_A3) (p4 : Int) (p5 : Int) (p6 : Int) (p7 : Int) (p8 : Int) (p9 : Int) (p10 : Int) (p11 : Int) (p12 : Int) (p13 : Int) (p14 : Int) (p15 : Int) (p16 : Int) (p17 : Int) (p18 : Int) (p19 : Int) (p20 : Int) (p21 : List D_A3) (p22 : Int) : L_spec_l11Counts_3 n F_spec_l11Painted F_spec_l11Hidden (m0 + 1) p0 p1 p2 p3 p4 p5 p6 p7 p8 p9 p10 p11 p12 p13 p14 p15 p16 p17 p18 p19 p20 p21 p22 = 
  bif decide (p22 < (List.length p3 : Int)) then
    bif inB p22 (List.length p3) then
      Option.bind (F_spec_l11Painted ((p0, (p1, (p2, (p3, ())))), (p18, (p19, (p20, (p21, ())))), (nth T_A3 p3 p22), ())) fun r2 =>
      bif inB r2.1 7 then
        bif inB r2.1 7 then
          L_spec_l11Counts_3 n F_spec_l11Painted F_spec_l11Hidden m0 p0 p1 p2 p3 p4 p5 p6 p7 p8 p9 p10 (bif decide (r2.1 = (0 : Int)) then (IntKind.wrap .i64 ((bif decide (r2.1 = (0 : Int)) then p11 else (bif decide (r2.1 = (1 : Int)) then p12 else (bif decide (r2.1 = (2 : Int)) then p13 else (bif decide (r2.1 = (3 : Int)) then p14 else (bif decide (r2.1 = (4 : Int)) then p15 else (bif decide (r2.1 = (5 : Int)) then p16 else p17)))))) + 1)) else p11) (bif decide (r2.1 = (1 : Int)) then (IntKind.wrap .i64 ((bif decide (r2.1 = (0 : Int)) then p11 else (bif decide (r2.1 = (1 : Int)) then p12 else (bif decide (r2.1 = (2 : Int)) then p13 else (bif decide (r2.1 = (3 : Int)) then p14 else (bif decide (r2.1 = (4 : Int)) then p15 else (bif decide (r2.1 = (5 : Int)) then p16 else p17)))))) + 1)) else p12) (bif decide (r2.1 = (2 : Int)) then (IntKind.wrap .i64 ((bif decide (r2.1 = (0 : Int)) then p11 else (bif decide (r2.1 = (1 : Int)) then p12 else (bif decide (r2.1 = (2 : Int)) then p13 else (bif decide (r2.1 = (3 : Int)) then p14 else (bif decide (r2.1 = (4 : Int)) then p15 else (bif decide (r2.1 = (5 : Int)) then p16 else p17)))))) + 1)) else p13) (bif decide (r2.1 = (3 : Int)) then (IntKind.wrap .i64 ((bif decide (r2.1 = (0 : Int)) then p11 else (bif decide (r2.1 = (1 : Int)) then p12 else (bif decide (r2.1 = (2 : Int)) then p13 else (bif decide (r2.1 = (3 : Int)) then p14 else (bif decide (r2.1 = (4 : Int)) then p15 else (bif decide (r2.1 = (5 : Int)) then p16 else p17)))))) + 1)) else p14) (bif decide (r2.1 = (4 : Int)) then (IntKind.wrap .i64 ((bif decide (r2.1 = (0 : Int)) then p11 else (bif decide (r2.1 = (1 : Int)) then p12 else (bif decide (r2.1 = (2 : Int)) then p13 else (bif decide (r2.1 = (3 : Int)) then p14 else (bif decide (r2.1 = (4 : Int)) then p15 else (bif decide (r2.1 = (5 : Int)) then p16 else p17)))))) + 1)) else p15) (bif decide (r2.1 = (5 : Int)) then (IntKind.wrap .i64 ((bif decide (r2.1 = (0 : Int)) then p11 else (bif decide (r2.1 = (1 : Int)) then p12 else (bif decide (r2.1 = (2 : Int)) then p13 else (bif decide (r2.1 = (3 : Int)) then p14 else (bif decide (r2.1 = (4 : Int)) then p15 else (bif decide (r2.1 = (5 : Int)) then p16 else p17)))))) + 1)) else p16) (bif decide (r2.1 = (6 : Int)) then (IntKind.wrap .i64 ((bif decide (r2.1 = (0 : Int)) then p11 else (bif decide (r2.1 = (1 : Int)) then p12 else (bif decide (r2.1 = (2 : Int)) then p13 else (bif decide (r2.1 = (3 : Int)) then p14 else (bif decide (r2.1 = (4 : Int)) then p15 else (bif decide (r2.1 = (5 : Int)) then p16 else p17)))))) + 1)) else p17) p18 p19 p20 p21 (IntKind.wrap .i64 (p22 + 1))
        else none
      else none
    else none
  else
    some ((p11, (p12, (p13, (p14, (p15, (p16, (p17, ()))))))), ()) := by kernel_rfl
noncomputable def P_spec_l11Counts : Ft_spec_l11Counts := hid (runF (X_spec_l11Counts N P_spec_l11Painted P_spec_l11Hidden) B_spec_l11Counts As_spec_l11Counts R_spec_l11Counts M_spec_l11Counts)
theorem h_spec_l11Counts : P_spec_l11Counts = runF (X_spec_l11Counts N P_spec_l11Painted P_spec_l11Hidden) B_spec_l11Counts As_spec_l11Counts R_spec_l11Counts M_spec_l11Counts := hid_eq _
noncomputable def C_spec_l11Counts : Contract := ⟨As_spec_l11Counts, R_spec_l11Counts, M_spec_l11Counts, P_spec_l11Counts⟩
theorem s_spec_l11Counts : Sound Try.prog GG 87 C_spec_l11Counts := by
  unfold C_spec_l11Counts; rw [h_spec_l11Counts]
  exact sound_of_run (fn := Try.f87) hmix hstable (tyOK_of ttOK) (hglob (X_spec_l11Counts N P_spec_l11Painted P_spec_l11Hidden)) (conOK_of (X := X_spec_l11Counts N P_spec_l11Painted P_spec_l11Hidden) ⟨s_spec_l11Painted, s_spec_l11Hidden, trivial⟩) (mconOK_of (X := X_spec_l11Counts N P_spec_l11Painted P_spec_l11Hidden) trivial) (by kernel_rfl) (by kernel_rfl) (by kernel_rfl) (by kernel_rfl) (by kernel_rfl) (by decide)
noncomputable def l_spec_l11Counts_3 : Nat → Int → Int → Int → (List D_A3) → Int → Int → Int → Int → Int → Int → Int → Int → Int → Int → Int → Int → Int → Int → Int → Int → Int → (List D_A3) → Int → Option (denL R_spec_l11Counts) := hid (fun m0 p0 p1 p2 p3 p4 p5 p6 p7 p8 p9 p10 p11 p12 p13 p14 p15 p16 p17 p18 p19 p20 p21 p22 => L_spec_l11Counts_3 N P_spec_l11Painted P_spec_l11Hidden m0 p0 p1 p2 p3 p4 p5 p6 p7 p8 p9 p10 p11 p12 p13 p14 p15 p16 p17 p18 p19 p20 p21 p22)
theorem h_spec_l11Counts_3 : l_spec_l11Counts_3 = fun m0 p0 p1 p2 p3 p4 p5 p6 p7 p8 p9 p10 p11 p12 p13 p14 p15 p16 p17 p18 p19 p20 p21 p22 => L_spec_l11Counts_3 N P_spec_l11Painted P_spec_l11Hidden m0 p0 p1 p2 p3 p4 p5 p6 p7 p8 p9 p10 p11 p12 p13 p14 p15 p16 p17 p18 p19 p20 p21 p22 := hid_eq _
theorem p_spec_l11Counts (a0 : D_Heap) (a1 : Bool) : P_spec_l11Counts (a0, a1, ()) = 
  Option.bind (P_spec_l11Hidden (a0, a1, ())) fun r0 =>
  l_spec_l11Counts_3 N a0.1 a0.2.1 a0.2.2.1 a0.2.2.2.1 0 0 0 0 0 0 0 0 0 0 0 0 0 0 r0.1.1 r0.1.2.1 r0.1.2.2.1 r0.1.2.2.2.1 0 := by
  rewrite [h_spec_l11Counts, h_spec_l11Counts_3]
  exact e_spec_l11Counts N P_spec_l11Painted P_spec_l11Hidden a0 a1
theorem q_spec_l11Counts_3 (m0 : Nat) (p0 : Int) (p1 : Int) (p2 : Int) (p3 : List D_A3) (p4 : Int) (p5 : Int) (p6 : Int) (p7 : Int) (p8 : Int) (p9 : Int) (p10 : Int) (p11 : Int) (p12 : Int) (p13 : Int) (p14 : Int) (p15 : Int) (p16 : Int) (p17 : Int) (p18 : Int) (p19 : Int) (p20 : Int) (p21 : List D_A3) (p22 : Int) : l_spec_l11Counts_3 (m0 + 1) p0 p1 p2 p3 p4 p5 p6 p7 p8 p9 p10 p11 p12 p13 p14 p15 p16 p17 p18 p19 p20 p21 p22 = 
  bif decide (p22 < (List.length p3 : Int)) then
    bif inB p22 (List.length p3) then
      Option.bind (P_spec_l11Painted ((p0, (p1, (p2, (p3, ())))), (p18, (p19, (p20, (p21, ())))), (nth T_A3 p3 p22), ())) fun r2 =>
      bif inB r2.1 7 then
        bif inB r2.1 7 then
          l_spec_l11Counts_3 m0 p0 p1 p2 p3 p4 p5 p6 p7 p8 p9 p10 (bif decide (r2.1 = (0 : Int)) then (IntKind.wrap .i64 ((bif decide (r2.1 = (0 : Int)) then p11 else (bif decide (r2.1 = (1 : Int)) then p12 else (bif decide (r2.1 = (2 : Int)) then p13 else (bif decide (r2.1 = (3 : Int)) then p14 else (bif decide (r2.1 = (4 : Int)) then p15 else (bif decide (r2.1 = (5 : Int)) then p16 else p17)))))) + 1)) else p11) (bif decide (r2.1 = (1 : Int)) then (IntKind.wrap .i64 ((bif decide (r2.1 = (0 : Int)) then p11 else (bif decide (r2.1 = (1 : Int)) then p12 else (bif decide (r2.1 = (2 : Int)) then p13 else (bif decide (r2.1 = (3 : Int)) then p14 else (bif decide (r2.1 = (4 : Int)) then p15 else (bif decide (r2.1 = (5 : Int)) then p16 else p17)))))) + 1)) else p12) (bif decide (r2.1 = (2 : Int)) then (IntKind.wrap .i64 ((bif decide (r2.1 = (0 : Int)) then p11 else (bif decide (r2.1 = (1 : Int)) then p12 else (bif decide (r2.1 = (2 : Int)) then p13 else (bif decide (r2.1 = (3 : Int)) then p14 else (bif decide (r2.1 = (4 : Int)) then p15 else (bif decide (r2.1 = (5 : Int)) then p16 else p17)))))) + 1)) else p13) (bif decide (r2.1 = (3 : Int)) then (IntKind.wrap .i64 ((bif decide (r2.1 = (0 : Int)) then p11 else (bif decide (r2.1 = (1 : Int)) then p12 else (bif decide (r2.1 = (2 : Int)) then p13 else (bif decide (r2.1 = (3 : Int)) then p14 else (bif decide (r2.1 = (4 : Int)) then p15 else (bif decide (r2.1 = (5 : Int)) then p16 else p17)))))) + 1)) else p14) (bif decide (r2.1 = (4 : Int)) then (IntKind.wrap .i64 ((bif decide (r2.1 = (0 : Int)) then p11 else (bif decide (r2.1 = (1 : Int)) then p12 else (bif decide (r2.1 = (2 : Int)) then p13 else (bif decide (r2.1 = (3 : Int)) then p14 else (bif decide (r2.1 = (4 : Int)) then p15 else (bif decide (r2.1 = (5 : Int)) then p16 else p17)))))) + 1)) else p15) (bif decide (r2.1 = (5 : Int)) then (IntKind.wrap .i64 ((bif decide (r2.1 = (0 : Int)) then p11 else (bif decide (r2.1 = (1 : Int)) then p12 else (bif decide (r2.1 = (2 : Int)) then p13 else (bif decide (r2.1 = (3 : Int)) then p14 else (bif decide (r2.1 = (4 : Int)) then p15 else (bif decide (r2.1 = (5 : Int)) then p16 else p17)))))) + 1)) else p16) (bif decide (r2.1 = (6 : Int)) then (IntKind.wrap .i64 ((bif decide (r2.1 = (0 : Int)) then p11 else (bif decide (r2.1 = (1 : Int)) then p12 else (bif decide (r2.1 = (2 : Int)) then p13 else (bif decide (r2.1 = (3 : Int)) then p14 else (bif decide (r2.1 = (4 : Int)) then p15 else (bif decide (r2.1 = (5 : Int)) then p16 else p17)))))) + 1)) else p17) p18 p19 p20 p21 (IntKind.wrap .i64 (p22 + 1))
        else none
      else none
    else none
  else
    some ((p11, (p12, (p13, (p14, (p15, (p16, (p17, ()))))))), ()) := by
  rewrite [h_spec_l11Counts_3]
  exact e_spec_l11Counts_3 N P_spec_l11Painted P_spec_l11Hidden m0 p0 p1 p2 p3 p4 p5 p6 p7 p8 p9 p10 p11 p12 p13 p14 p15 p16 p17 p18 p19 p20 p21 p22

/- 44: loop.example/g01166/spec.FullCounts -/
abbrev As_spec_FullCounts : List ATy := [.data false (.int .i64), .data false (.int .i64), .data false (.int .i64)]
abbrev R_spec_FullCounts : List (Bool × Ty) := [(true, T_A7), (false, .bool)]
abbrev M_spec_FullCounts : List RMode := []
abbrev Ft_spec_FullCounts : Type := Int × Int × Int × Unit → Option (D_A7 × Bool × Unit)
noncomputable def X_spec_FullCounts (n : Nat) (F_spec_l2Sides : Ft_spec_l2Sides) (F_spec_l2Box : Ft_spec_l2Box) (F_spec_l11Counts : Ft_spec_l11Counts) : Ctx := { types := TT, globals := [], con := [(74, ⟨As_spec_l2Sides, R_spec_l2Sides, M_spec_l2Sides, F_spec_l2Sides⟩), (76, ⟨As_spec_l2Box, R_spec_l2Box, M_spec_l2Box, F_spec_l2Box⟩), (87, ⟨As_spec_l11Counts, R_spec_l11Counts, M_spec_l11Counts, F_spec_l11Counts⟩)], keep := [], results := [.cell 6 62, .tmp 7], ntmps := 19, n := n }
noncomputable def B_spec_FullCounts : Code := (Try.f44.body).getD .skip
theorem e_spec_FullCounts (n : Nat) (F_spec_l2Sides : Ft_spec_l2Sides) (F_spec_l2Box : Ft_spec_l2Box) (F_spec_l11Counts : Ft_spec_l11Counts) (a0 : Int) (a1 : Int) (a2 : Int) : runF (X_spec_FullCounts n F_spec_l2Sides F_spec_l2Box F_spec_l11Counts) B_spec_FullCounts As_spec_FullCounts R_spec_FullCounts M_spec_FullCounts (a0, a1, a2, ()) = 
  Option.bind (F_spec_l2Sides (a0, a1, a2, ())) fun r0 =>
  bif !r0.1 then
    some ((0, (0, (0, (0, (0, (0, (0, ()))))))), false, ())
  else
    Option.bind (F_spec_l2Box (a0, a1, a2, ())) fun r2 =>
    Option.bind (F_spec_l11Counts (r2.1, false, ())) fun r3 =>
    some (r3.1, true, ()) := by kernel_rfl
noncomputable def P_spec_FullCounts : Ft_spec_FullCounts := hid (runF (X_spec_FullCounts N P_spec_l2Sides P_spec_l2Box P_spec_l11Counts) B_spec_FullCounts As_spec_FullCounts R_spec_FullCounts M_spec_FullCounts)
theorem h_spec_FullCounts : P_spec_FullCounts = runF (X_spec_FullCounts N P_spec_l2Sides P_spec_l2Box P_spec_l11Counts) B_spec_FullCounts As_spec_FullCounts R_spec_FullCounts M_spec_FullCounts := hid_eq _
noncomputable def C_spec_FullCounts : Contract := ⟨As_spec_FullCounts, R_spec_FullCounts, M_spec_FullCounts, P_spec_FullCounts⟩
theorem s_spec_FullCounts : Sound Try.prog GG 44 C_spec_FullCounts := by
  unfold C_spec_FullCounts; rw [h_spec_FullCounts]
  exact sound_of_run (fn := Try.f44) hmix hstable (tyOK_of ttOK) (hglob (X_spec_FullCounts N P_spec_l2Sides P_spec_l2Box P_spec_l11Counts)) (conOK_of (X := X_spec_FullCounts N P_spec_l2Sides P_spec_l2Box P_spec_l11Counts) ⟨s_spec_l2Sides, s_spec_l2Box, s_spec_l11Counts, trivial⟩) (mconOK_of (X := X_spec_FullCounts N P_spec_l2Sides P_spec_l2Box P_spec_l11Counts) trivial) (by kernel_rfl) (by kernel_rfl) (by kernel_rfl) (by kernel_rfl) (by kernel_rfl) (by decide)
theorem p_spec_FullCounts (a0 : Int) (a1 : Int) (a2 : Int) : P_spec_FullCounts (a0, a1, a2, ()) = 
  Option.bind (P_spec_l2Sides (a0, a1, a2, ())) fun r0 =>
  bif !r0.1 then
    some ((0, (0, (0, (0, (0, (0, (0, ()))))))), false, ())
  else
    Option.bind (P_spec_l2Box (a0, a1, a2, ())) fun r2 =>
    Option.bind (P_spec_l11Counts (r2.1, false, ())) fun r3 =>
    some (r3.1, true, ()) := by
  rewrite [h_spec_FullCounts]
  exact e_spec_FullCounts N P_spec_l2Sides P_spec_l2Box P_spec_l11Counts a0 a1 a2

/- 88: loop.example/g01166/impl.PaintCounts -/
abbrev As_impl_PaintCounts : List ATy := [.data true T_Heap, .data false .bool]
abbrev R_impl_PaintCounts : List (Bool × Ty) := [(true, T_A7), (false, .bool)]
abbrev M_impl_PaintCounts : List RMode := []
abbrev Ft_impl_PaintCounts : Type := D_Heap × Bool × Unit → Option (D_A7 × Bool × Unit)
noncomputable def X_impl_PaintCounts (n : Nat) (F_impl_IsHeap : Ft_impl_IsHeap) (F_Heap_painted : Ft_Heap_painted) : Ctx := { types := TT, globals := [], con := [(55, ⟨As_impl_IsHeap, R_impl_IsHeap, M_impl_IsHeap, F_impl_IsHeap⟩), (105, ⟨As_Heap_painted, R_Heap_painted, M_Heap_painted, F_Heap_painted⟩)], keep := [(5, ⟨[.box 4, .box 6, .tmp 4, .tmp 6, .tmp 16, .tmp 17, .tmp 18], []⟩)], results := [.cell 4 62, .tmp 5], ntmps := 29, n := n }
noncomputable def B_impl_PaintCounts : Code := (Try.f88.body).getD .skip
noncomputable def L_impl_PaintCounts_5 (n : Nat) (F_impl_IsHeap : Ft_impl_IsHeap) (F_Heap_painted : Ft_Heap_painted) (m0 : Nat) (p0 : Int) (p1 : Int) (p2 : Int) (p3 : Int) (p4 : Int) (p5 : Int) (p6 : Int) (p7 : Int) (p8 : Int) (p9 : Int) (p10 : Int) (p11 : Int) (p12 : Int) (p13 : Int) (p14 : List Int) (p15 : Int) (p16 : Int) : Option (denL R_impl_PaintCounts) := loopF (X_impl_PaintCounts n F_impl_IsHeap F_Heap_painted) B_impl_PaintCounts R_impl_PaintCounts M_impl_PaintCounts 5 [m0] [(.ver, .num 1), (.box 4, .box 0 false [.int .i64 p0, .int .i64 p1, .int .i64 p2, .int .i64 p3, .int .i64 p4, .int .i64 p5, .int .i64 p6]), (.box 6, .box 0 false [.int .i64 p7, .int .i64 p8, .int .i64 p9, .int .i64 p10, .int .i64 p11, .int .i64 p12, .int .i64 p13]), (.tmp 4, .val false [.addr 4 0 0]), (.tmp 6, .val false [.addr 6 0 0]), (.tmp 16, .val false [.own 3 (.int .i64) 0 p14]), (.tmp 17, .val false [.int .i64 p15]), (.tmp 18, .val false [.int .i64 p16])]
theorem e_impl_PaintCounts (n : Nat) (F_impl_IsHeap : Ft_impl_IsHeap) (F_Heap_painted : Ft_Heap_painted) (a0 : D_Heap) (a1 : Bool) : runF (X_impl_PaintCounts n F_impl_IsHeap F_Heap_painted) B_impl_PaintCounts As_impl_PaintCounts R_impl_PaintCounts M_impl_PaintCounts (a0, a1, ()) = 
  Option.bind (F_impl_IsHeap (a0, ())) fun r0 =>
  bif !r0.1 then
    some ((0, (0, (0, (0, (0, (0, (0, ()))))))), false, ())
  else
    Option.bind (F_Heap_painted (a0, a1, ())) fun r2 =>
    L_impl_PaintCounts_5 n F_impl_IsHeap F_Heap_painted n 0 0 0 0 0 0 0 0 0 0 0 0 0 0 r2.1 (List.length r2.1 : Int) 0 := by kernel_rfl
theorem e_impl_PaintCounts_5 (n : Nat) (F_impl_IsHeap : Ft_impl_IsHeap) (F_Heap_painted : Ft_Heap_painted) (m0 : Nat) (p0 : Int) (p1 : Int) (p2 : Int) (p3 : Int) (p4 : Int) (p5 : Int) (p6 : Int) (p7 : Int) (p8 : Int) (p9 : Int) (p10 : Int) (p11 : Int) (p12 : Int) (p13 : Int) (p14 : List Int) (p15 : Int) (p16 : Int) : L_impl_PaintCounts_5 n F_impl_IsHeap F_Heap_painted (m0 + 1) p0 p1 p2 p3 p4 p5 p6 p7 p8 p9 p10 p11 p12 p13 p14 p15 p16 = 
  bif decide (p16 < p15) then
    bif inB p16 (List.length p14) then
      bif inB (nth ((.int .i64) : Ty) p14 p16) 7 then
        bif inB (nth ((.int .i64) : Ty) p14 p16) 7 then
          L_impl_PaintCounts_5 n F_impl_IsHeap F_Heap_painted m0 p0 p1 p2 p3 p4 p5 p6 (bif decide ((nth ((.int .i64) : Ty) p14 p16) = (0 : Int)) then (IntKind.wrap .i64 ((bif decide ((nth ((.int .i64) : Ty) p14 p16) = (0 : Int)) then p7 else (bif decide ((nth ((.int .i64) : Ty) p14 p16) = (1 : Int)) then p8 else (bif decide ((nth ((.int .i64) : Ty) p14 p16) = (2 : Int)) then p9 else (bif decide ((nth ((.int .i64) : Ty) p14 p16) = (3 : Int)) then p10 else (bif decide ((nth ((.int .i64) : Ty) p14 p16) = (4 : Int)) then p11 else (bif decide ((nth ((.int .i64) : Ty) p14 p16) = (5 : Int)) then p12 else p13)))))) + 1)) else p7) (bif decide ((nth ((.int .i64) : Ty) p14 p16) = (1 : Int)) then (IntKind.wrap .i64 ((bif decide ((nth ((.int .i64) : Ty) p14 p16) = (0 : Int)) then p7 else (bif decide ((nth ((.int .i64) : Ty) p14 p16) = (1 : Int)) then p8 else (bif decide ((nth ((.int .i64) : Ty) p14 p16) = (2 : Int)) then p9 else (bif decide ((nth ((.int .i64) : Ty) p14 p16) = (3 : Int)) then p10 else (bif decide ((nth ((.int .i64) : Ty) p14 p16) = (4 : Int)) then p11 else (bif decide ((nth ((.int .i64) : Ty) p14 p16) = (5 : Int)) then p12 else p13)))))) + 1)) else p8) (bif decide ((nth ((.int .i64) : Ty) p14 p16) = (2 : Int)) then (IntKind.wrap .i64 ((bif decide ((nth ((.int .i64) : Ty) p14 p16) = (0 : Int)) then p7 else (bif decide ((nth ((.int .i64) : Ty) p14 p16) = (1 : Int)) then p8 else (bif decide ((nth ((.int .i64) : Ty) p14 p16) = (2 : Int)) then p9 else (bif decide ((nth ((.int .i64) : Ty) p14 p16) = (3 : Int)) then p10 else (bif decide ((nth ((.int .i64) : Ty) p14 p16) = (4 : Int)) then p11 else (bif decide ((nth ((.int .i64) : Ty) p14 p16) = (5 : Int)) then p12 else p13)))))) + 1)) else p9) (bif decide ((nth ((.int .i64) : Ty) p14 p16) = (3 : Int)) then (IntKind.wrap .i64 ((bif decide ((nth ((.int .i64) : Ty) p14 p16) = (0 : Int)) then p7 else (bif decide ((nth ((.int .i64) : Ty) p14 p16) = (1 : Int)) then p8 else (bif decide ((nth ((.int .i64) : Ty) p14 p16) = (2 : Int)) then p9 else (bif decide ((nth ((.int .i64) : Ty) p14 p16) = (3 : Int)) then p10 else (bif decide ((nth ((.int .i64) : Ty) p14 p16) = (4 : Int)) then p11 else (bif decide ((nth ((.int .i64) : Ty) p14 p16) = (5 : Int)) then p12 else p13)))))) + 1)) else p10) (bif decide ((nth ((.int .i64) : Ty) p14 p16) = (4 : Int)) then (IntKind.wrap .i64 ((bif decide ((nth ((.int .i64) : Ty) p14 p16) = (0 : Int)) then p7 else (bif decide ((nth ((.int .i64) : Ty) p14 p16) = (1 : Int)) then p8 else (bif decide ((nth ((.int .i64) : Ty) p14 p16) = (2 : Int)) then p9 else (bif decide ((nth ((.int .i64) : Ty) p14 p16) = (3 : Int)) then p10 else (bif decide ((nth ((.int .i64) : Ty) p14 p16) = (4 : Int)) then p11 else (bif decide ((nth ((.int .i64) : Ty) p14 p16) = (5 : Int)) then p12 else p13)))))) + 1)) else p11) (bif decide ((nth ((.int .i64) : Ty) p14 p16) = (5 : Int)) then (IntKind.wrap .i64 ((bif decide ((nth ((.int .i64) : Ty) p14 p16) = (0 : Int)) then p7 else (bif decide ((nth ((.int .i64) : Ty) p14 p16) = (1 : Int)) then p8 else (bif decide ((nth ((.int .i64) : Ty) p14 p16) = (2 : Int)) then p9 else (bif decide ((nth ((.int .i64) : Ty) p14 p16) = (3 : Int)) then p10 else (bif decide ((nth ((.int .i64) : Ty) p14 p16) = (4 : Int)) then p11 else (bif decide ((nth ((.int .i64) : Ty) p14 p16) = (5 : Int)) then p12 else p13)))))) + 1)) else p12) (bif decide ((nth ((.int .i64) : Ty) p14 p16) = (6 : Int)) then (IntKind.wrap .i64 ((bif decide ((nth ((.int .i64) : Ty) p14 p16) = (0 : Int)) then p7 else (bif decide ((nth ((.int .i64) : Ty) p14 p16) = (1 : Int)) then p8 else (bif decide ((nth ((.int .i64) : Ty) p14 p16) = (2 : Int)) then p9 else (bif decide ((nth ((.int .i64) : Ty) p14 p16) = (3 : Int)) then p10 else (bif decide ((nth ((.int .i64) : Ty) p14 p16) = (4 : Int)) then p11 else (bif decide ((nth ((.int .i64) : Ty) p14 p16) = (5 : Int)) then p12 else p13)))))) + 1)) else p13) p14 p15 (IntKind.wrap .i64 (p16 + 1))
        else none
      else none
    else none
  else
    some ((p7, (p8, (p9, (p10, (p11, (p12, (p13, ()))))))), true, ()) := by kernel_rfl
noncomputable def P_impl_PaintCounts : Ft_impl_PaintCounts := hid (runF (X_impl_PaintCounts N P_impl_IsHeap P_Heap_painted) B_impl_PaintCounts As_impl_PaintCounts R_impl_PaintCounts M_impl_PaintCounts)
theorem h_impl_PaintCounts : P_impl_PaintCounts = runF (X_impl_PaintCounts N P_impl_IsHeap P_Heap_painted) B_impl_PaintCounts As_impl_PaintCounts R_impl_PaintCounts M_impl_PaintCounts := hid_eq _
noncomputable def C_impl_PaintCounts : Contract := ⟨As_impl_PaintCounts, R_impl_PaintCounts, M_impl_PaintCounts, P_impl_PaintCounts⟩
theorem s_impl_PaintCounts : Sound Try.prog GG 88 C_impl_PaintCounts := by
  unfold C_impl_PaintCounts; rw [h_impl_PaintCounts]
  exact sound_of_run (fn := Try.f88) hmix hstable (tyOK_of ttOK) (hglob (X_impl_PaintCounts N P_impl_IsHeap P_Heap_painted)) (conOK_of (X := X_impl_PaintCounts N P_impl_IsHeap P_Heap_painted) ⟨s_impl_IsHeap, s_Heap_painted, trivial⟩) (mconOK_of (X := X_impl_PaintCounts N P_impl_IsHeap P_Heap_painted) trivial) (by kernel_rfl) (by kernel_rfl) (by kernel_rfl) (by kernel_rfl) (by kernel_rfl) (by decide)
noncomputable def l_impl_PaintCounts_5 : Nat → Int → Int → Int → Int → Int → Int → Int → Int → Int → Int → Int → Int → Int → Int → (List Int) → Int → Int → Option (denL R_impl_PaintCounts) := hid (fun m0 p0 p1 p2 p3 p4 p5 p6 p7 p8 p9 p10 p11 p12 p13 p14 p15 p16 => L_impl_PaintCounts_5 N P_impl_IsHeap P_Heap_painted m0 p0 p1 p2 p3 p4 p5 p6 p7 p8 p9 p10 p11 p12 p13 p14 p15 p16)
theorem h_impl_PaintCounts_5 : l_impl_PaintCounts_5 = fun m0 p0 p1 p2 p3 p4 p5 p6 p7 p8 p9 p10 p11 p12 p13 p14 p15 p16 => L_impl_PaintCounts_5 N P_impl_IsHeap P_Heap_painted m0 p0 p1 p2 p3 p4 p5 p6 p7 p8 p9 p10 p11 p12 p13 p14 p15 p16 := hid_eq _
theorem p_impl_PaintCounts (a0 : D_Heap) (a1 : Bool) : P_impl_PaintCounts (a0, a1, ()) = 
  Option.bind (P_impl_IsHeap (a0, ())) fun r0 =>
  bif !r0.1 then
    some ((0, (0, (0, (0, (0, (0, (0, ()))))))), false, ())
  else
    Option.bind (P_Heap_painted (a0, a1, ())) fun r2 =>
    l_impl_PaintCounts_5 N 0 0 0 0 0 0 0 0 0 0 0 0 0 0 r2.1 (List.length r2.1 : Int) 0 := by
  rewrite [h_impl_PaintCounts, h_impl_PaintCounts_5]
  exact e_impl_PaintCounts N P_impl_IsHeap P_Heap_painted a0 a1
theorem q_impl_PaintCounts_5 (m0 : Nat) (p0 : Int) (p1 : Int) (p2 : Int) (p3 : Int) (p4 : Int) (p5 : Int) (p6 : Int) (p7 : Int) (p8 : Int) (p9 : Int) (p10 : Int) (p11 : Int) (p12 : Int) (p13 : Int) (p14 : List Int) (p15 : Int) (p16 : Int) : l_impl_PaintCounts_5 (m0 + 1) p0 p1 p2 p3 p4 p5 p6 p7 p8 p9 p10 p11 p12 p13 p14 p15 p16 = 
  bif decide (p16 < p15) then
    bif inB p16 (List.length p14) then
      bif inB (nth ((.int .i64) : Ty) p14 p16) 7 then
        bif inB (nth ((.int .i64) : Ty) p14 p16) 7 then
          l_impl_PaintCounts_5 m0 p0 p1 p2 p3 p4 p5 p6 (bif decide ((nth ((.int .i64) : Ty) p14 p16) = (0 : Int)) then (IntKind.wrap .i64 ((bif decide ((nth ((.int .i64) : Ty) p14 p16) = (0 : Int)) then p7 else (bif decide ((nth ((.int .i64) : Ty) p14 p16) = (1 : Int)) then p8 else (bif decide ((nth ((.int .i64) : Ty) p14 p16) = (2 : Int)) then p9 else (bif decide ((nth ((.int .i64) : Ty) p14 p16) = (3 : Int)) then p10 else (bif decide ((nth ((.int .i64) : Ty) p14 p16) = (4 : Int)) then p11 else (bif decide ((nth ((.int .i64) : Ty) p14 p16) = (5 : Int)) then p12 else p13)))))) + 1)) else p7) (bif decide ((nth ((.int .i64) : Ty) p14 p16) = (1 : Int)) then (IntKind.wrap .i64 ((bif decide ((nth ((.int .i64) : Ty) p14 p16) = (0 : Int)) then p7 else (bif decide ((nth ((.int .i64) : Ty) p14 p16) = (1 : Int)) then p8 else (bif decide ((nth ((.int .i64) : Ty) p14 p16) = (2 : Int)) then p9 else (bif decide ((nth ((.int .i64) : Ty) p14 p16) = (3 : Int)) then p10 else (bif decide ((nth ((.int .i64) : Ty) p14 p16) = (4 : Int)) then p11 else (bif decide ((nth ((.int .i64) : Ty) p14 p16) = (5 : Int)) then p12 else p13)))))) + 1)) else p8) (bif decide ((nth ((.int .i64) : Ty) p14 p16) = (2 : Int)) then (IntKind.wrap .i64 ((bif decide ((nth ((.int .i64) : Ty) p14 p16) = (0 : Int)) then p7 else (bif decide ((nth ((.int .i64) : Ty) p14 p16) = (1 : Int)) then p8 else (bif decide ((nth ((.int .i64) : Ty) p14 p16) = (2 : Int)) then p9 else (bif decide ((nth ((.int .i64) : Ty) p14 p16) = (3 : Int)) then p10 else (bif decide ((nth ((.int .i64) : Ty) p14 p16) = (4 : Int)) then p11 else (bif decide ((nth ((.int .i64) : Ty) p14 p16) = (5 : Int)) then p12 else p13)))))) + 1)) else p9) (bif decide ((nth ((.int .i64) : Ty) p14 p16) = (3 : Int)) then (IntKind.wrap .i64 ((bif decide ((nth ((.int .i64) : Ty) p14 p16) = (0 : Int)) then p7 else (bif decide ((nth ((.int .i64) : Ty) p14 p16) = (1 : Int)) then p8 else (bif decide ((nth ((.int .i64) : Ty) p14 p16) = (2 : Int)) then p9 else (bif decide ((nth ((.int .i64) : Ty) p14 p16) = (3 : Int)) then p10 else (bif decide ((nth ((.int .i64) : Ty) p14 p16) = (4 : Int)) then p11 else (bif decide ((nth ((.int .i64) : Ty) p14 p16) = (5 : Int)) then p12 else p13)))))) + 1)) else p10) (bif decide ((nth ((.int .i64) : Ty) p14 p16) = (4 : Int)) then (IntKind.wrap .i64 ((bif decide ((nth ((.int .i64) : Ty) p14 p16) = (0 : Int)) then p7 else (bif decide ((nth ((.int .i64) : Ty) p14 p16) = (1 : Int)) then p8 else (bif decide ((nth ((.int .i64) : Ty) p14 p16) = (2 : Int)) then p9 else (bif decide ((nth ((.int .i64) : Ty) p14 p16) = (3 : Int)) then p10 else (bif decide ((nth ((.int .i64) : Ty) p14 p16) = (4 : Int)) then p11 else (bif decide ((nth ((.int .i64) : Ty) p14 p16) = (5 : Int)) then p12 else p13)))))) + 1)) else p11) (bif decide ((nth ((.int .i64) : Ty) p14 p16) = (5 : Int)) then (IntKind.wrap .i64 ((bif decide ((nth ((.int .i64) : Ty) p14 p16) = (0 : Int)) then p7 else (bif decide ((nth ((.int .i64) : Ty) p14 p16) = (1 : Int)) then p8 else (bif decide ((nth ((.int .i64) : Ty) p14 p16) = (2 : Int)) then p9 else (bif decide ((nth ((.int .i64) : Ty) p14 p16) = (3 : Int)) then p10 else (bif decide ((nth ((.int .i64) : Ty) p14 p16) = (4 : Int)) then p11 else (bif decide ((nth ((.int .i64) : Ty) p14 p16) = (5 : Int)) then p12 else p13)))))) + 1)) else p12) (bif decide ((nth ((.int .i64) : Ty) p14 p16) = (6 : Int)) then (IntKind.wrap .i64 ((bif decide ((nth ((.int .i64) : Ty) p14 p16) = (0 : Int)) then p7 else (bif decide ((nth ((.int .i64) : Ty) p14 p16) = (1 : Int)) then p8 else (bif decide ((nth ((.int .i64) : Ty) p14 p16) = (2 : Int)) then p9 else (bif decide ((nth ((.int .i64) : Ty) p14 p16) = (3 : Int)) then p10 else (bif decide ((nth ((.int .i64) : Ty) p14 p16) = (4 : Int)) then p11 else (bif decide ((nth ((.int .i64) : Ty) p14 p16) = (5 : Int)) then p12 else p13)))))) + 1)) else p13) p14 p15 (IntKind.wrap .i64 (p16 + 1))
        else none
      else none
    else none
  else
    some ((p7, (p8, (p9, (p10, (p11, (p12, (p13, ()))))))), true, ()) := by
  rewrite [h_impl_PaintCounts_5]
  exact e_impl_PaintCounts_5 N P_impl_IsHeap P_Heap_painted m0 p0 p1 p2 p3 p4 p5 p6 p7 p8 p9 p10 p11 p12 p13 p14 p15 p16

/- 45: loop.example/g01166/impl.FullCounts -/
abbrev As_impl_FullCounts : List ATy := [.data false (.int .i64), .data false (.int .i64), .data false (.int .i64)]
abbrev R_impl_FullCounts : List (Bool × Ty) := [(true, T_A7), (false, .bool)]
abbrev M_impl_FullCounts : List RMode := []
abbrev Ft_impl_FullCounts : Type := Int × Int × Int × Unit → Option (D_A7 × Bool × Unit)
noncomputable def X_impl_FullCounts (n : Nat) (F_impl_FullHeap : Ft_impl_FullHeap) (F_impl_PaintCounts : Ft_impl_PaintCounts) : Ctx := { types := TT, globals := [], con := [(77, ⟨As_impl_FullHeap, R_impl_FullHeap, M_impl_FullHeap, F_impl_FullHeap⟩), (88, ⟨As_impl_PaintCounts, R_impl_PaintCounts, M_impl_PaintCounts, F_impl_PaintCounts⟩)], keep := [], results := [.cell 6 62, .tmp 7], ntmps := 24, n := n }
noncomputable def B_impl_FullCounts : Code := (Try.f45.body).getD .skip
theorem e_impl_FullCounts (n : Nat) (F_impl_FullHeap : Ft_impl_FullHeap) (F_impl_PaintCounts : Ft_impl_PaintCounts) (a0 : Int) (a1 : Int) (a2 : Int) : runF (X_impl_FullCounts n F_impl_FullHeap F_impl_PaintCounts) B_impl_FullCounts As_impl_FullCounts R_impl_FullCounts M_impl_FullCounts (a0, a1, a2, ()) = 
  Option.bind (F_impl_FullHeap (a0, a1, a2, ())) fun r0 =>
  bif !r0.2.1 then
    some ((0, (0, (0, (0, (0, (0, (0, ()))))))), false, ())
  else
    Option.bind (F_impl_PaintCounts (r0.1, false, ())) fun r2 =>
    some (r2.1, r2.2.1, ()) := by kernel_rfl
noncomputable def P_impl_FullCounts : Ft_impl_FullCounts := hid (runF (X_impl_FullCounts N P_impl_FullHeap P_impl_PaintCounts) B_impl_FullCounts As_impl_FullCounts R_impl_FullCounts M_impl_FullCounts)
theorem h_impl_FullCounts : P_impl_FullCounts = runF (X_impl_FullCounts N P_impl_FullHeap P_impl_PaintCounts) B_impl_FullCounts As_impl_FullCounts R_impl_FullCounts M_impl_FullCounts := hid_eq _
noncomputable def C_impl_FullCounts : Contract := ⟨As_impl_FullCounts, R_impl_FullCounts, M_impl_FullCounts, P_impl_FullCounts⟩
theorem s_impl_FullCounts : Sound Try.prog GG 45 C_impl_FullCounts := by
  unfold C_impl_FullCounts; rw [h_impl_FullCounts]
  exact sound_of_run (fn := Try.f45) hmix hstable (tyOK_of ttOK) (hglob (X_impl_FullCounts N P_impl_FullHeap P_impl_PaintCounts)) (conOK_of (X := X_impl_FullCounts N P_impl_FullHeap P_impl_PaintCounts) ⟨s_impl_FullHeap, s_impl_PaintCounts, trivial⟩) (mconOK_of (X := X_impl_FullCounts N P_impl_FullHeap P_impl_PaintCounts) trivial) (by kernel_rfl) (by kernel_rfl) (by kernel_rfl) (by kernel_rfl) (by kernel_rfl) (by decide)
theorem p_impl_FullCounts (a0 : Int) (a1 : Int) (a2 : Int) : P_impl_FullCounts (a0, a1, a2, ()) = 
  Option.bind (P_impl_FullHeap (a0, a1, a2, ())) fun r0 =>
  bif !r0.2.1 then
    some ((0, (0, (0, (0, (0, (0, (0, ()))))))), false, ())
  else
    Option.bind (P_impl_PaintCounts (r0.1, false, ())) fun r2 =>
    some (r2.1, r2.2.1, ()) := by
  rewrite [h_impl_FullCounts]
  exact e_impl_FullCounts N P_impl_FullHeap P_impl_PaintCounts a0 a1 a2

/- 46: loop.example/g01166/laws.eqIntA7 -/
abbrev As_laws_eqIntA7 : List ATy := [.data true T_A7, .data true T_A7]
abbrev R_laws_eqIntA7 : List (Bool × Ty) := [(false, .bool)]
abbrev M_laws_eqIntA7 : List RMode := []
abbrev Ft_laws_eqIntA7 : Type := D_A7 × D_A7 × Unit → Option (Bool × Unit)
noncomputable def X_laws_eqIntA7 (n : Nat) : Ctx := { types := TT, globals := [], con := [], keep := [(2, ⟨[.box 2, .box 3, .tmp 2, .tmp 3, .tmp 5], []⟩)], results := [.tmp 4], ntmps := 17, n := n }
noncomputable def B_laws_eqIntA7 : Code := (Try.f46.body).getD .skip
noncomputable def L_laws_eqIntA7_2 (n : Nat) (m0 : Nat) (p0 : Int) (p1 : Int) (p2 : Int) (p3 : Int) (p4 : Int) (p5 : Int) (p6 : Int) (p7 : Int) (p8 : Int) (p9 : Int) (p10 : Int) (p11 : Int) (p12 : Int) (p13 : Int) (p14 : Int) : Option (denL R_laws_eqIntA7) := loopF (X_laws_eqIntA7 n) B_laws_eqIntA7 R_laws_eqIntA7 M_laws_eqIntA7 2 [m0] [(.ver, .num 1), (.box 2, .box 0 false [.int .i64 p0, .int .i64 p1, .int .i64 p2, .int .i64 p3, .int .i64 p4, .int .i64 p5, .int .i64 p6]), (.box 3, .box 0 false [.int .i64 p7, .int .i64 p8, .int .i64 p9, .int .i64 p10, .int .i64 p11, .int .i64 p12, .int .i64 p13]), (.tmp 2, .val false [.addr 2 0 0]), (.tmp 3, .val false [.addr 3 0 0]), (.tmp 5, .val false [.int .i64 p14])]
theorem e_laws_eqIntA7 (n : Nat) (a0 : D_A7) (a1 : D_A7) : runF (X_laws_eqIntA7 n) B_laws_eqIntA7 As_laws_eqIntA7 R_laws_eqIntA7 M_laws_eqIntA7 (a0, a1, ()) = 
  L_laws_eqIntA7_2 n n a0.1 a0.2.1 a0.2.2.1 a0.2.2.2.1 a0.2.2.2.2.1 a0.2.2.2.2.2.1 a0.2.2.2.2.2.2.1 a1.1 a1.2.1 a1.2.2.1 a1.2.2.2.1 a1.2.2.2.2.1 a1.2.2.2.2.2.1 a1.2.2.2.2.2.2.1 0 := by kernel_rfl
theorem e_laws_eqIntA7_2 (n : Nat) (m0 : Nat) (p0 : Int) (p1 : Int) (p2 : Int) (p3 : Int) (p4 : Int) (p5 : Int) (p6 : Int) (p7 : Int) (p8 : Int) (p9 : Int) (p10 : Int) (p11 : Int) (p12 : Int) (p13 : Int) (p14 : Int) : L_laws_eqIntA7_2 n (m0 + 1) p0 p1 p2 p3 p4 p5 p6 p7 p8 p9 p10 p11 p12 p13 p14 = 
  bif decide (p14 < 7) then
    bif inB p14 7 then
      bif inB p14 7 then
        bif !decide ((bif decide (p14 = (0 : Int)) then p0 else (bif decide (p14 = (1 : Int)) then p1 else (bif decide (p14 = (2 : Int)) then p2 else (bif decide (p14 = (3 : Int)) then p3 else (bif decide (p14 = (4 : Int)) then p4 else (bif decide (p14 = (5 : Int)) then p5 else p6)))))) = (bif decide (p14 = (0 : Int)) then p7 else (bif decide (p14 = (1 : Int)) then p8 else (bif decide (p14 = (2 : Int)) then p9 else (bif decide (p14 = (3 : Int)) then p10 else (bif decide (p14 = (4 : Int)) then p11 else (bif decide (p14 = (5 : Int)) then p12 else p13))))))) then
          some (false, ())
        else
          L_laws_eqIntA7_2 n m0 p0 p1 p2 p3 p4 p5 p6 p7 p8 p9 p10 p11 p12 p13 (IntKind.wrap .i64 (p14 + 1))
      else none
    else none
  else
    some (true, ()) := by kernel_rfl
noncomputable def P_laws_eqIntA7 : Ft_laws_eqIntA7 := hid (runF (X_laws_eqIntA7 N) B_laws_eqIntA7 As_laws_eqIntA7 R_laws_eqIntA7 M_laws_eqIntA7)
theorem h_laws_eqIntA7 : P_laws_eqIntA7 = runF (X_laws_eqIntA7 N) B_laws_eqIntA7 As_laws_eqIntA7 R_laws_eqIntA7 M_laws_eqIntA7 := hid_eq _
noncomputable def C_laws_eqIntA7 : Contract := ⟨As_laws_eqIntA7, R_laws_eqIntA7, M_laws_eqIntA7, P_laws_eqIntA7⟩
theorem s_laws_eqIntA7 : Sound Try.prog GG 46 C_laws_eqIntA7 := by
  unfold C_laws_eqIntA7; rw [h_laws_eqIntA7]
  exact sound_of_run (fn := Try.f46) hmix hstable (tyOK_of ttOK) (hglob (X_laws_eqIntA7 N)) (conOK_of (X := X_laws_eqIntA7 N) trivial) (mconOK_of (X := X_laws_eqIntA7 N) trivial) (by kernel_rfl) (by kernel_rfl) (by kernel_rfl) (by kernel_rfl) (by kernel_rfl) (by decide)
noncomputable def l_laws_eqIntA7_2 : Nat → Int → Int → Int → Int → Int → Int → Int → Int → Int → Int → Int → Int → Int → Int → Int → Option (denL R_laws_eqIntA7) := hid (fun m0 p0 p1 p2 p3 p4 p5 p6 p7 p8 p9 p10 p11 p12 p13 p14 => L_laws_eqIntA7_2 N m0 p0 p1 p2 p3 p4 p5 p6 p7 p8 p9 p10 p11 p12 p13 p14)
theorem h_laws_eqIntA7_2 : l_laws_eqIntA7_2 = fun m0 p0 p1 p2 p3 p4 p5 p6 p7 p8 p9 p10 p11 p12 p13 p14 => L_laws_eqIntA7_2 N m0 p0 p1 p2 p3 p4 p5 p6 p7 p8 p9 p10 p11 p12 p13 p14 := hid_eq _
theorem p_laws_eqIntA7 (a0 : D_A7) (a1 : D_A7) : P_laws_eqIntA7 (a0, a1, ()) = 
  l_laws_eqIntA7_2 N a0.1 a0.2.1 a0.2.2.1 a0.2.2.2.1 a0.2.2.2.2.1 a0.2.2.2.2.2.1 a0.2.2.2.2.2.2.1 a1.1 a1.2.1 a1.2.2.1 a1.2.2.2.1 a1.2.2.2.2.1 a1.2.2.2.2.2.1 a1.2.2.2.2.2.2.1 0 := by
  rewrite [h_laws_eqIntA7, h_laws_eqIntA7_2]
  exact e_laws_eqIntA7 N a0 a1
theorem q_laws_eqIntA7_2 (m0 : Nat) (p0 : Int) (p1 : Int) (p2 : Int) (p3 : Int) (p4 : Int) (p5 : Int) (p6 : Int) (p7 : Int) (p8 : Int) (p9 : Int) (p10 : Int) (p11 : Int) (p12 : Int) (p13 : Int) (p14 : Int) : l_laws_eqIntA7_2 (m0 + 1) p0 p1 p2 p3 p4 p5 p6 p7 p8 p9 p10 p11 p12 p13 p14 = 
  bif decide (p14 < 7) then
    bif inB p14 7 then
      bif inB p14 7 then
        bif !decide ((bif decide (p14 = (0 : Int)) then p0 else (bif decide (p14 = (1 : Int)) then p1 else (bif decide (p14 = (2 : Int)) then p2 else (bif decide (p14 = (3 : Int)) then p3 else (bif decide (p14 = (4 : Int)) then p4 else (bif decide (p14 = (5 : Int)) then p5 else p6)))))) = (bif decide (p14 = (0 : Int)) then p7 else (bif decide (p14 = (1 : Int)) then p8 else (bif decide (p14 = (2 : Int)) then p9 else (bif decide (p14 = (3 : Int)) then p10 else (bif decide (p14 = (4 : Int)) then p11 else (bif decide (p14 = (5 : Int)) then p12 else p13))))))) then
          some (false, ())
        else
          l_laws_eqIntA7_2 m0 p0 p1 p2 p3 p4 p5 p6 p7 p8 p9 p10 p11 p12 p13 (IntKind.wrap .i64 (p14 + 1))
      else none
    else none
  else
    some (true, ()) := by
  rewrite [h_laws_eqIntA7_2]
  exact e_laws_eqIntA7_2 N m0 p0 p1 p2 p3 p4 p5 p6 p7 p8 p9 p10 p11 p12 p13 p14

/- 11: loop.example/g01166/laws.FnExactFullCounts -/
abbrev As_laws_FnExactFullCounts : List ATy := [.data false (.int .i64), .data false (.int .i64), .data false (.int .i64)]
abbrev R_laws_FnExactFullCounts : List (Bool × Ty) := [(false, .bool)]
abbrev M_laws_FnExactFullCounts : List RMode := []
abbrev Ft_laws_FnExactFullCounts : Type := Int × Int × Int × Unit → Option (Bool × Unit)
noncomputable def X_laws_FnExactFullCounts (n : Nat) (F_spec_FullCounts : Ft_spec_FullCounts) (F_impl_FullCounts : Ft_impl_FullCounts) (F_laws_eqIntA7 : Ft_laws_eqIntA7) : Ctx := { types := TT, globals := [], con := [(44, ⟨As_spec_FullCounts, R_spec_FullCounts, M_spec_FullCounts, F_spec_FullCounts⟩), (45, ⟨As_impl_FullCounts, R_impl_FullCounts, M_impl_FullCounts, F_impl_FullCounts⟩), (46, ⟨As_laws_eqIntA7, R_laws_eqIntA7, M_laws_eqIntA7, F_laws_eqIntA7⟩)], keep := [], results := [.tmp 6], ntmps := 34, n := n }
noncomputable def B_laws_FnExactFullCounts : Code := (Try.f11.body).getD .skip
theorem e_laws_FnExactFullCounts (n : Nat) (F_spec_FullCounts : Ft_spec_FullCounts) (F_impl_FullCounts : Ft_impl_FullCounts) (F_laws_eqIntA7 : Ft_laws_eqIntA7) (a0 : Int) (a1 : Int) (a2 : Int) : runF (X_laws_FnExactFullCounts n F_spec_FullCounts F_impl_FullCounts F_laws_eqIntA7) B_laws_FnExactFullCounts As_laws_FnExactFullCounts R_laws_FnExactFullCounts M_laws_FnExactFullCounts (a0, a1, a2, ()) = 
  Option.bind (F_spec_FullCounts (a0, a1, a2, ())) fun r0 =>
  Option.bind (F_impl_FullCounts (a0, a1, a2, ())) fun r1 =>
  Option.bind (F_laws_eqIntA7 (r1.1, r0.1, ())) fun r2 =>
  bif !r2.1 then
    some (false, ())
  else
    bif !(r1.2.1 == r0.2.1) then
      some (false, ())
    else
      some (true, ()) := by kernel_rfl
noncomputable def P_laws_FnExactFullCounts : Ft_laws_FnExactFullCounts := hid (runF (X_laws_FnExactFullCounts N P_spec_FullCounts P_impl_FullCounts P_laws_eqIntA7) B_laws_FnExactFullCounts As_laws_FnExactFullCounts R_laws_FnExactFullCounts M_laws_FnExactFullCounts)
theorem h_laws_FnExactFullCounts : P_laws_FnExactFullCounts = runF (X_laws_FnExactFullCounts N P_spec_FullCounts P_impl_FullCounts P_laws_eqIntA7) B_laws_FnExactFullCounts As_laws_FnExactFullCounts R_laws_FnExactFullCounts M_laws_FnExactFullCounts := hid_eq _
noncomputable def C_laws_FnExactFullCounts : Contract := ⟨As_laws_FnExactFullCounts, R_laws_FnExactFullCounts, M_laws_FnExactFullCounts, P_laws_FnExactFullCounts⟩
theorem s_laws_FnExactFullCounts : Sound Try.prog GG 11 C_laws_FnExactFullCounts := by
  unfold C_laws_FnExactFullCounts; rw [h_laws_FnExactFullCounts]
  exact sound_of_run (fn := Try.f11) hmix hstable (tyOK_of ttOK) (hglob (X_laws_FnExactFullCounts N P_spec_FullCounts P_impl_FullCounts P_laws_eqIntA7)) (conOK_of (X := X_laws_FnExactFullCounts N P_spec_FullCounts P_impl_FullCounts P_laws_eqIntA7) ⟨s_spec_FullCounts, s_impl_FullCounts, s_laws_eqIntA7, trivial⟩) (mconOK_of (X := X_laws_FnExactFullCounts N P_spec_FullCounts P_impl_FullCounts P_laws_eqIntA7) trivial) (by kernel_rfl) (by kernel_rfl) (by kernel_rfl) (by kernel_rfl) (by kernel_rfl) (by decide)
theorem p_laws_FnExactFullCounts (a0 : Int) (a1 : Int) (a2 : Int) : P_laws_FnExactFullCounts (a0, a1, a2, ()) = 
  Option.bind (P_spec_FullCounts (a0, a1, a2, ())) fun r0 =>
  Option.bind (P_impl_FullCounts (a0, a1, a2, ())) fun r1 =>
  Option.bind (P_laws_eqIntA7 (r1.1, r0.1, ())) fun r2 =>
  bif !r2.1 then
    some (false, ())
  else
    bif !(r1.2.1 == r0.2.1) then
      some (false, ())
    else
      some (true, ()) := by
  rewrite [h_laws_FnExactFullCounts]
  exact e_laws_FnExactFullCounts N P_spec_FullCounts P_impl_FullCounts P_laws_eqIntA7 a0 a1 a2

/- 47: loop.example/g01166/spec.PeelCount -/
abbrev As_spec_PeelCount : List ATy := [.data true T_Heap]
abbrev R_spec_PeelCount : List (Bool × Ty) := [(false, (.int .i64)), (false, .bool)]
abbrev M_spec_PeelCount : List RMode := []
abbrev Ft_spec_PeelCount : Type := D_Heap × Unit → Option (Int × Bool × Unit)
noncomputable def X_spec_PeelCount (n : Nat) (F_spec_l2Heap : Ft_spec_l2Heap) (F_spec_l11Peel : Ft_spec_l11Peel) : Ctx := { types := TT, globals := [], con := [(64, ⟨As_spec_l2Heap, R_spec_l2Heap, M_spec_l2Heap, F_spec_l2Heap⟩), (75, ⟨As_spec_l11Peel, R_spec_l11Peel, M_spec_l11Peel, F_spec_l11Peel⟩)], keep := [(4, ⟨[.box 5, .tmp 4, .tmp 5], [.box 5]⟩)], results := [.tmp 2, .tmp 3], ntmps := 19, n := n }
noncomputable def B_spec_PeelCount : Code := (Try.f47.body).getD .skip
noncomputable def L_spec_PeelCount_4 (n : Nat) (F_spec_l2Heap : Ft_spec_l2Heap) (F_spec_l11Peel : Ft_spec_l11Peel) (m0 : Nat) (p0 : Int) (p1 : Int) (p2 : Int) (p3 : List D_A3) (p4 : Int) : Option (denL R_spec_PeelCount) := loopF (X_spec_PeelCount n F_spec_l2Heap F_spec_l11Peel) B_spec_PeelCount R_spec_PeelCount M_spec_PeelCount 4 [m0] [(.ver, .num 1), (.box 5, .box 0 false [.int .i64 p0, .int .i64 p1, .int .i64 p2, .imm T_A3 p3 none]), (.tmp 4, .val false [.int .i64 p4]), (.tmp 5, .val false [.addr 5 0 0])]
theorem e_spec_PeelCount (n : Nat) (F_spec_l2Heap : Ft_spec_l2Heap) (F_spec_l11Peel : Ft_spec_l11Peel) (a0 : D_Heap) : runF (X_spec_PeelCount n F_spec_l2Heap F_spec_l11Peel) B_spec_PeelCount As_spec_PeelCount R_spec_PeelCount M_spec_PeelCount (a0, ()) = 
  Option.bind (F_spec_l2Heap (a0, ())) fun r0 =>
  bif !r0.1 then
    some (0, false, ())
  else
    L_spec_PeelCount_4 n F_spec_l2Heap F_spec_l11Peel n a0.1 a0.2.1 a0.2.2.1 a0.2.2.2.1 0 := by kernel_rfl
theorem e_spec_PeelCount_4 (n : Nat) (F_spec_l2Heap : Ft_spec_l2Heap) (F_spec_l11Peel : Ft_spec_l11Peel) (m0 : Nat) (p0 : Int) (p1 : Int) (p2 : Int) (p3 : List D_A3) (p4 : Int) : L_spec_PeelCount_4 n F_spec_l2Heap F_spec_l11Peel (m0 + 1) p0 p1 p2 p3 p4 = 
  bif decide ((List.length p3 : Int) > 0) then
    Option.bind (F_spec_l11Peel ((p0, (p1, (p2, (p3, ())))), false, ())) fun r1 =>
    L_spec_PeelCount_4 n F_spec_l2Heap F_spec_l11Peel m0 r1.1.1 r1.1.2.1 r1.1.2.2.1 r1.1.2.2.2.1 (IntKind.wrap .i64 (p4 + 1))
  else
    some (p4, true, ()) := by kernel_rfl
noncomputable def P_spec_PeelCount : Ft_spec_PeelCount := hid (runF (X_spec_PeelCount N P_spec_l2Heap P_spec_l11Peel) B_spec_PeelCount As_spec_PeelCount R_spec_PeelCount M_spec_PeelCount)
theorem h_spec_PeelCount : P_spec_PeelCount = runF (X_spec_PeelCount N P_spec_l2Heap P_spec_l11Peel) B_spec_PeelCount As_spec_PeelCount R_spec_PeelCount M_spec_PeelCount := hid_eq _
noncomputable def C_spec_PeelCount : Contract := ⟨As_spec_PeelCount, R_spec_PeelCount, M_spec_PeelCount, P_spec_PeelCount⟩
theorem s_spec_PeelCount : Sound Try.prog GG 47 C_spec_PeelCount := by
  unfold C_spec_PeelCount; rw [h_spec_PeelCount]
  exact sound_of_run (fn := Try.f47) hmix hstable (tyOK_of ttOK) (hglob (X_spec_PeelCount N P_spec_l2Heap P_spec_l11Peel)) (conOK_of (X := X_spec_PeelCount N P_spec_l2Heap P_spec_l11Peel) ⟨s_spec_l2Heap, s_spec_l11Peel, trivial⟩) (mconOK_of (X := X_spec_PeelCount N P_spec_l2Heap P_spec_l11Peel) trivial) (by kernel_rfl) (by kernel_rfl) (by kernel_rfl) (by kernel_rfl) (by kernel_rfl) (by decide)
noncomputable def l_spec_PeelCount_4 : Nat → Int → Int → Int → (List D_A3) → Int → Option (denL R_spec_PeelCount) := hid (fun m0 p0 p1 p2 p3 p4 => L_spec_PeelCount_4 N P_spec_l2Heap P_spec_l11Peel m0 p0 p1 p2 p3 p4)
theorem h_spec_PeelCount_4 : l_spec_PeelCount_4 = fun m0 p0 p1 p2 p3 p4 => L_spec_PeelCount_4 N P_spec_l2Heap P_spec_l11Peel m0 p0 p1 p2 p3 p4 := hid_eq _
theorem p_spec_PeelCount (a0 : D_Heap) : P_spec_PeelCount (a0, ()) = 
  Option.bind (P_spec_l2Heap (a0, ())) fun r0 =>
  bif !r0.1 then
    some (0, false, ())
  else
    l_spec_PeelCount_4 N a0.1 a0.2.1 a0.2.2.1 a0.2.2.2.1 0 := by
  rewrite [h_spec_PeelCount, h_spec_PeelCount_4]
  exact e_spec_PeelCount N P_spec_l2Heap P_spec_l11Peel a0
theorem q_spec_PeelCount_4 (m0 : Nat) (p0 : Int) (p1 : Int) (p2 : Int) (p3 : List D_A3) (p4 : Int) : l_spec_PeelCount_4 (m0 + 1) p0 p1 p2 p3 p4 = 
  bif decide ((List.length p3 : Int) > 0) then
    Option.bind (P_spec_l11Peel ((p0, (p1, (p2, (p3, ())))), false, ())) fun r1 =>
    l_spec_PeelCount_4 m0 r1.1.1 r1.1.2.1 r1.1.2.2.1 r1.1.2.2.2.1 (IntKind.wrap .i64 (p4 + 1))
  else
    some (p4, true, ()) := by
  rewrite [h_spec_PeelCount_4]
  exact e_spec_PeelCount_4 N P_spec_l2Heap P_spec_l11Peel m0 p0 p1 p2 p3 p4

/- 48: loop.example/g01166/impl.PeelCount -/
abbrev As_impl_PeelCount : List ATy := [.data true T_Heap]
abbrev R_impl_PeelCount : List (Bool × Ty) := [(false, (.int .i64)), (false, .bool)]
abbrev M_impl_PeelCount : List RMode := []
abbrev Ft_impl_PeelCount : Type := D_Heap × Unit → Option (Int × Bool × Unit)
noncomputable def X_impl_PeelCount (n : Nat) (F_impl_IsHeap : Ft_impl_IsHeap) (F_Heap_peeled : Ft_Heap_peeled) : Ctx := { types := TT, globals := [], con := [(55, ⟨As_impl_IsHeap, R_impl_IsHeap, M_impl_IsHeap, F_impl_IsHeap⟩), (79, ⟨As_Heap_peeled, R_Heap_peeled, M_Heap_peeled, F_Heap_peeled⟩)], keep := [(4, ⟨[.box 1, .tmp 1, .tmp 4], [.box 1]⟩)], results := [.tmp 2, .tmp 3], ntmps := 17, n := n }
noncomputable def B_impl_PeelCount : Code := (Try.f48.body).getD .skip
noncomputable def L_impl_PeelCount_4 (n : Nat) (F_impl_IsHeap : Ft_impl_IsHeap) (F_Heap_peeled : Ft_Heap_peeled) (m0 : Nat) (p0 : Int) (p1 : Int) (p2 : Int) (p3 : List D_A3) (p4 : Int) : Option (denL R_impl_PeelCount) := loopF (X_impl_PeelCount n F_impl_IsHeap F_Heap_peeled) B_impl_PeelCount R_impl_PeelCount M_impl_PeelCount 4 [m0] [(.ver, .num 1), (.box 1, .box 0 false [.int .i64 p0, .int .i64 p1, .int .i64 p2, .imm T_A3 p3 none]), (.tmp 1, .val false [.addr 1 0 0]), (.tmp 4, .val false [.int .i64 p4])]
theorem e_impl_PeelCount (n : Nat) (F_impl_IsHeap : Ft_impl_IsHeap) (F_Heap_peeled : Ft_Heap_peeled) (a0 : D_Heap) : runF (X_impl_PeelCount n F_impl_IsHeap F_Heap_peeled) B_impl_PeelCount As_impl_PeelCount R_impl_PeelCount M_impl_PeelCount (a0, ()) = 
  Option.bind (F_impl_IsHeap (a0, ())) fun r0 =>
  bif !r0.1 then
    some (0, false, ())
  else
    L_impl_PeelCount_4 n F_impl_IsHeap F_Heap_peeled n a0.1 a0.2.1 a0.2.2.1 a0.2.2.2.1 0 := by kernel_rfl
theorem e_impl_PeelCount_4 (n : Nat) (F_impl_IsHeap : Ft_impl_IsHeap) (F_Heap_peeled : Ft_Heap_peeled) (m0 : Nat) (p0 : Int) (p1 : Int) (p2 : Int) (p3 : List D_A3) (p4 : Int) : L_impl_PeelCount_4 n F_impl_IsHeap F_Heap_peeled (m0 + 1) p0 p1 p2 p3 p4 = 
  bif decide ((List.length p3 : Int) > 0) then
    Option.bind (F_Heap_peeled ((p0, (p1, (p2, (p3, ())))), ())) fun r1 =>
    L_impl_PeelCount_4 n F_impl_IsHeap F_Heap_peeled m0 r1.1.1 r1.1.2.1 r1.1.2.2.1 r1.1.2.2.2.1 (IntKind.wrap .i64 (p4 + 1))
  else
    some (p4, true, ()) := by kernel_rfl
noncomputable def P_impl_PeelCount : Ft_impl_PeelCount := hid (runF (X_impl_PeelCount N P_impl_IsHeap P_Heap_peeled) B_impl_PeelCount As_impl_PeelCount R_impl_PeelCount M_impl_PeelCount)
theorem h_impl_PeelCount : P_impl_PeelCount = runF (X_impl_PeelCount N P_impl_IsHeap P_Heap_peeled) B_impl_PeelCount As_impl_PeelCount R_impl_PeelCount M_impl_PeelCount := hid_eq _
noncomputable def C_impl_PeelCount : Contract := ⟨As_impl_PeelCount, R_impl_PeelCount, M_impl_PeelCount, P_impl_PeelCount⟩
theorem s_impl_PeelCount : Sound Try.prog GG 48 C_impl_PeelCount := by
  unfold C_impl_PeelCount; rw [h_impl_PeelCount]
  exact sound_of_run (fn := Try.f48) hmix hstable (tyOK_of ttOK) (hglob (X_impl_PeelCount N P_impl_IsHeap P_Heap_peeled)) (conOK_of (X := X_impl_PeelCount N P_impl_IsHeap P_Heap_peeled) ⟨s_impl_IsHeap, s_Heap_peeled, trivial⟩) (mconOK_of (X := X_impl_PeelCount N P_impl_IsHeap P_Heap_peeled) trivial) (by kernel_rfl) (by kernel_rfl) (by kernel_rfl) (by kernel_rfl) (by kernel_rfl) (by decide)
noncomputable def l_impl_PeelCount_4 : Nat → Int → Int → Int → (List D_A3) → Int → Option (denL R_impl_PeelCount) := hid (fun m0 p0 p1 p2 p3 p4 => L_impl_PeelCount_4 N P_impl_IsHeap P_Heap_peeled m0 p0 p1 p2 p3 p4)
theorem h_impl_PeelCount_4 : l_impl_PeelCount_4 = fun m0 p0 p1 p2 p3 p4 => L_impl_PeelCount_4 N P_impl_IsHeap P_Heap_peeled m0 p0 p1 p2 p3 p4 := hid_eq _
theorem p_impl_PeelCount (a0 : D_Heap) : P_impl_PeelCount (a0, ()) = 
  Option.bind (P_impl_IsHeap (a0, ())) fun r0 =>
  bif !r0.1 then
    some (0, false, ())
  else
    l_impl_PeelCount_4 N a0.1 a0.2.1 a0.2.2.1 a0.2.2.2.1 0 := by
  rewrite [h_impl_PeelCount, h_impl_PeelCount_4]
  exact e_impl_PeelCount N P_impl_IsHeap P_Heap_peeled a0
theorem q_impl_PeelCount_4 (m0 : Nat) (p0 : Int) (p1 : Int) (p2 : Int) (p3 : List D_A3) (p4 : Int) : l_impl_PeelCount_4 (m0 + 1) p0 p1 p2 p3 p4 = 
  bif decide ((List.length p3 : Int) > 0) then
    Option.bind (P_Heap_peeled ((p0, (p1, (p2, (p3, ())))), ())) fun r1 =>
    l_impl_PeelCount_4 m0 r1.1.1 r1.1.2.1 r1.1.2.2.1 r1.1.2.2.2.1 (IntKind.wrap .i64 (p4 + 1))
  else
    some (p4, true, ()) := by
  rewrite [h_impl_PeelCount_4]
  exact e_impl_PeelCount_4 N P_impl_IsHeap P_Heap_peeled m0 p0 p1 p2 p3 p4

/- 12: loop.example/g01166/laws.FnExactPeelCount -/
abbrev As_laws_FnExactPeelCount : List ATy := [.data true T_Heap]
abbrev R_laws_FnExactPeelCount : List (Bool × Ty) := [(false, .bool)]
abbrev M_laws_FnExactPeelCount : List RMode := []
abbrev Ft_laws_FnExactPeelCount : Type := D_Heap × Unit → Option (Bool × Unit)
noncomputable def X_laws_FnExactPeelCount (n : Nat) (F_laws_szHeap : Ft_laws_szHeap) (F_laws_toHeap : Ft_laws_toHeap) (F_laws_eqHeap : Ft_laws_eqHeap) (F_spec_PeelCount : Ft_spec_PeelCount) (F_impl_PeelCount : Ft_impl_PeelCount) : Ctx := { types := TT, globals := [], con := [(20, ⟨As_laws_szHeap, R_laws_szHeap, M_laws_szHeap, F_laws_szHeap⟩), (22, ⟨As_laws_toHeap, R_laws_toHeap, M_laws_toHeap, F_laws_toHeap⟩), (24, ⟨As_laws_eqHeap, R_laws_eqHeap, M_laws_eqHeap, F_laws_eqHeap⟩), (47, ⟨As_spec_PeelCount, R_spec_PeelCount, M_spec_PeelCount, F_spec_PeelCount⟩), (48, ⟨As_impl_PeelCount, R_impl_PeelCount, M_impl_PeelCount, F_impl_PeelCount⟩)], keep := [], results := [.tmp 2], ntmps := 40, n := n }
noncomputable def B_laws_FnExactPeelCount : Code := (Try.f12.body).getD .skip
theorem e_laws_FnExactPeelCount (n : Nat) (F_laws_szHeap : Ft_laws_szHeap) (F_laws_toHeap : Ft_laws_toHeap) (F_laws_eqHeap : Ft_laws_eqHeap) (F_spec_PeelCount : Ft_spec_PeelCount) (F_impl_PeelCount : Ft_impl_PeelCount) (a0 : D_Heap) : runF (X_laws_FnExactPeelCount n F_laws_szHeap F_laws_toHeap F_laws_eqHeap F_spec_PeelCount F_impl_PeelCount) B_laws_FnExactPeelCount As_laws_FnExactPeelCount R_laws_FnExactPeelCount M_laws_FnExactPeelCount (a0, ()) = 
  Option.bind (F_laws_szHeap (a0, 1048576, ())) fun r0 =>
  bif decide (r0.1 < 0) then
    some (true, ())
  else
    Option.bind (F_laws_toHeap (a0, ())) fun r2 =>
    Option.bind (F_spec_PeelCount (r2.1, ())) fun r3 =>
    Option.bind (F_laws_toHeap (a0, ())) fun r4 =>
    Option.bind (F_impl_PeelCount (r4.1, ())) fun r5 =>
    bif !decide (r5.1 = r3.1) then
      some (false, ())
    else
      bif !(r5.2.1 == r3.2.1) then
        some (false, ())
      else
        Option.bind (F_laws_toHeap (a0, ())) fun r8 =>
        Option.bind (F_laws_eqHeap (r4.1, r8.1, ())) fun r9 =>
        bif !r9.1 then
          some (false, ())
        else
          some (true, ()) := by kernel_rfl
noncomputable def P_laws_FnExactPeelCount : Ft_laws_FnExactPeelCount := hid (runF (X_laws_FnExactPeelCount N P_laws_szHeap P_laws_toHeap P_laws_eqHeap P_spec_PeelCount P_impl_PeelCount) B_laws_FnExactPeelCount As_laws_FnExactPeelCount R_laws_FnExactPeelCount M_laws_FnExactPeelCount)
theorem h_laws_FnExactPeelCount : P_laws_FnExactPeelCount = runF (X_laws_FnExactPeelCount N P_laws_szHeap P_laws_toHeap P_laws_eqHeap P_spec_PeelCount P_impl_PeelCount) B_laws_FnExactPeelCount As_laws_FnExactPeelCount R_laws_FnExactPeelCount M_laws_FnExactPeelCount := hid_eq _
noncomputable def C_laws_FnExactPeelCount : Contract := ⟨As_laws_FnExactPeelCount, R_laws_FnExactPeelCount, M_laws_FnExactPeelCount, P_laws_FnExactPeelCount⟩
theorem s_laws_FnExactPeelCount : Sound Try.prog GG 12 C_laws_FnExactPeelCount := by
  unfold C_laws_FnExactPeelCount; rw [h_laws_FnExactPeelCount]
  exact sound_of_run (fn := Try.f12) hmix hstable (tyOK_of ttOK) (hglob (X_laws_FnExactPeelCount N P_laws_szHeap P_laws_toHeap P_laws_eqHeap P_spec_PeelCount P_impl_PeelCount)) (conOK_of (X := X_laws_FnExactPeelCount N P_laws_szHeap P_laws_toHeap P_laws_eqHeap P_spec_PeelCount P_impl_PeelCount) ⟨s_laws_szHeap, s_laws_toHeap, s_laws_eqHeap, s_spec_PeelCount, s_impl_PeelCount, trivial⟩) (mconOK_of (X := X_laws_FnExactPeelCount N P_laws_szHeap P_laws_toHeap P_laws_eqHeap P_spec_PeelCount P_impl_PeelCount) trivial) (by kernel_rfl) (by kernel_rfl) (by kernel_rfl) (by kernel_rfl) (by kernel_rfl) (by decide)
theorem p_laws_FnExactPeelCount (a0 : D_Heap) : P_laws_FnExactPeelCount (a0, ()) = 
  Option.bind (P_laws_szHeap (a0, 1048576, ())) fun r0 =>
  bif decide (r0.1 < 0) then
    some (true, ())
  else
    Option.bind (P_laws_toHeap (a0, ())) fun r2 =>
    Option.bind (P_spec_PeelCount (r2.1, ())) fun r3 =>
    Option.bind (P_laws_toHeap (a0, ())) fun r4 =>
    Option.bind (P_impl_PeelCount (r4.1, ())) fun r5 =>
    bif !decide (r5.1 = r3.1) then
      some (false, ())
    else
      bif !(r5.2.1 == r3.2.1) then
        some (false, ())
      else
        Option.bind (P_laws_toHeap (a0, ())) fun r8 =>
        Option.bind (P_laws_eqHeap (r4.1, r8.1, ())) fun r9 =>
        bif !r9.1 then
          some (false, ())
        else
          some (true, ()) := by
  rewrite [h_laws_FnExactPeelCount]
  exact e_laws_FnExactPeelCount N P_laws_szHeap P_laws_toHeap P_laws_eqHeap P_spec_PeelCount P_impl_PeelCount a0

/- 89: loop.example/g01166/spec.l2Cell -/
abbrev As_spec_l2Cell : List ATy := [.data true T_Heap, .data true T_A3]
abbrev R_spec_l2Cell : List (Bool × Ty) := [(false, .bool)]
abbrev M_spec_l2Cell : List RMode := []
abbrev Ft_spec_l2Cell : Type := D_Heap × D_A3 × Unit → Option (Bool × Unit)
noncomputable def X_spec_l2Cell (n : Nat) (F_spec_l2Heap : Ft_spec_l2Heap) (F_spec_l2In : Ft_spec_l2In) : Ctx := { types := TT, globals := [], con := [(64, ⟨As_spec_l2Heap, R_spec_l2Heap, M_spec_l2Heap, F_spec_l2Heap⟩), (97, ⟨As_spec_l2In, R_spec_l2In, M_spec_l2In, F_spec_l2In⟩)], keep := [], results := [.tmp 4], ntmps := 12, n := n }
noncomputable def B_spec_l2Cell : Code := (Try.f89.body).getD .skip
theorem e_spec_l2Cell (n : Nat) (F_spec_l2Heap : Ft_spec_l2Heap) (F_spec_l2In : Ft_spec_l2In) (a0 : D_Heap) (a1 : D_A3) : runF (X_spec_l2Cell n F_spec_l2Heap F_spec_l2In) B_spec_l2Cell As_spec_l2Cell R_spec_l2Cell M_spec_l2Cell (a0, a1, ()) = 
  Option.bind (F_spec_l2Heap (a0, ())) fun r0 =>
  bif r0.1 then
    Option.bind (F_spec_l2In (a0, a1, ())) fun r2 =>
    some (r2.1, ())
  else
    some (false, ()) := by kernel_rfl
noncomputable def P_spec_l2Cell : Ft_spec_l2Cell := hid (runF (X_spec_l2Cell N P_spec_l2Heap P_spec_l2In) B_spec_l2Cell As_spec_l2Cell R_spec_l2Cell M_spec_l2Cell)
theorem h_spec_l2Cell : P_spec_l2Cell = runF (X_spec_l2Cell N P_spec_l2Heap P_spec_l2In) B_spec_l2Cell As_spec_l2Cell R_spec_l2Cell M_spec_l2Cell := hid_eq _
noncomputable def C_spec_l2Cell : Contract := ⟨As_spec_l2Cell, R_spec_l2Cell, M_spec_l2Cell, P_spec_l2Cell⟩
theorem s_spec_l2Cell : Sound Try.prog GG 89 C_spec_l2Cell := by
  unfold C_spec_l2Cell; rw [h_spec_l2Cell]
  exact sound_of_run (fn := Try.f89) hmix hstable (tyOK_of ttOK) (hglob (X_spec_l2Cell N P_spec_l2Heap P_spec_l2In)) (conOK_of (X := X_spec_l2Cell N P_spec_l2Heap P_spec_l2In) ⟨s_spec_l2Heap, s_spec_l2In, trivial⟩) (mconOK_of (X := X_spec_l2Cell N P_spec_l2Heap P_spec_l2In) trivial) (by kernel_rfl) (by kernel_rfl) (by kernel_rfl) (by kernel_rfl) (by kernel_rfl) (by decide)
theorem p_spec_l2Cell (a0 : D_Heap) (a1 : D_A3) : P_spec_l2Cell (a0, a1, ()) = 
  Option.bind (P_spec_l2Heap (a0, ())) fun r0 =>
  bif r0.1 then
    Option.bind (P_spec_l2In (a0, a1, ())) fun r2 =>
    some (r2.1, ())
  else
    some (false, ()) := by
  rewrite [h_spec_l2Cell]
  exact e_spec_l2Cell N P_spec_l2Heap P_spec_l2In a0 a1

/- 49: loop.example/g01166/spec.PeelDepth -/
abbrev As_spec_PeelDepth : List ATy := [.data true T_Heap, .data true T_A3]
abbrev R_spec_PeelDepth : List (Bool × Ty) := [(false, (.int .i64)), (false, .bool)]
abbrev M_spec_PeelDepth : List RMode := []
abbrev Ft_spec_PeelDepth : Type := D_Heap × D_A3 × Unit → Option (Int × Bool × Unit)
noncomputable def X_spec_PeelDepth (n : Nat) (F_spec_l11Peel : Ft_spec_l11Peel) (F_spec_l2Cell : Ft_spec_l2Cell) (F_spec_l2Has : Ft_spec_l2Has) : Ctx := { types := TT, globals := [], con := [(75, ⟨As_spec_l11Peel, R_spec_l11Peel, M_spec_l11Peel, F_spec_l11Peel⟩), (89, ⟨As_spec_l2Cell, R_spec_l2Cell, M_spec_l2Cell, F_spec_l2Cell⟩), (90, ⟨As_spec_l2Has, R_spec_l2Has, M_spec_l2Has, F_spec_l2Has⟩)], keep := [(4, ⟨[.box 3, .box 7, .tmp 3, .tmp 6, .tmp 7], [.box 7]⟩)], results := [.tmp 4, .tmp 5], ntmps := 27, n := n }
noncomputable def B_spec_PeelDepth : Code := (Try.f49.body).getD .skip
noncomputable def L_spec_PeelDepth_4 (n : Nat) (F_spec_l11Peel : Ft_spec_l11Peel) (F_spec_l2Cell : Ft_spec_l2Cell) (F_spec_l2Has : Ft_spec_l2Has) (m0 : Nat) (p0 : Int) (p1 : Int) (p2 : Int) (p3 : Int) (p4 : Int) (p5 : Int) (p6 : List D_A3) (p7 : Int) : Option (denL R_spec_PeelDepth) := loopF (X_spec_PeelDepth n F_spec_l11Peel F_spec_l2Cell F_spec_l2Has) B_spec_PeelDepth R_spec_PeelDepth M_spec_PeelDepth 4 [m0] [(.ver, .num 1), (.box 3, .box 0 false [.int .i64 p0, .int .i64 p1, .int .i64 p2]), (.box 7, .box 0 false [.int .i64 p3, .int .i64 p4, .int .i64 p5, .imm T_A3 p6 none]), (.tmp 3, .val false [.addr 3 0 0]), (.tmp 6, .val false [.int .i64 p7]), (.tmp 7, .val false [.addr 7 0 0])]
theorem e_spec_PeelDepth (n : Nat) (F_spec_l11Peel : Ft_spec_l11Peel) (F_spec_l2Cell : Ft_spec_l2Cell) (F_spec_l2Has : Ft_spec_l2Has) (a0 : D_Heap) (a1 : D_A3) : runF (X_spec_PeelDepth n F_spec_l11Peel F_spec_l2Cell F_spec_l2Has) B_spec_PeelDepth As_spec_PeelDepth R_spec_PeelDepth M_spec_PeelDepth (a0, a1, ()) = 
  Option.bind (F_spec_l2Cell (a0, a1, ())) fun r0 =>
  bif !r0.1 then
    some (0, false, ())
  else
    Option.bind (F_spec_l2Has (a0, a1, ())) fun r2 =>
    bif !r2.1 then
      some (0, false, ())
    else
      L_spec_PeelDepth_4 n F_spec_l11Peel F_spec_l2Cell F_spec_l2Has n a1.1 a1.2.1 a1.2.2.1 a0.1 a0.2.1 a0.2.2.1 a0.2.2.2.1 0 := by kernel_rfl
theorem e_spec_PeelDepth_4 (n : Nat) (F_spec_l11Peel : Ft_spec_l11Peel) (F_spec_l2Cell : Ft_spec_l2Cell) (F_spec_l2Has : Ft_spec_l2Has) (m0 : Nat) (p0 : Int) (p1 : Int) (p2 : Int) (p3 : Int) (p4 : Int) (p5 : Int) (p6 : List D_A3) (p7 : Int) : L_spec_PeelDepth_4 n F_spec_l11Peel F_spec_l2Cell F_spec_l2Has (m0 + 1) p0 p1 p2 p3 p4 p5 p6 p7 = 
  Option.bind (F_spec_l2Has ((p3, (p4, (p5, (p6, ())))), (p0, (p1, (p2, ()))), ())) fun r0 =>
  bif r0.1 then
    Option.bind (F_spec_l11Peel ((p3, (p4, (p5, (p6, ())))), false, ())) fun r2 =>
    L_spec_PeelDepth_4 n F_spec_l11Peel F_spec_l2Cell F_spec_l2Has m0 p0 p1 p2 r2.1.1 r2.1.2.1 r2.1.2.2.1 r2.1.2.2.2.1 (IntKind.wrap .i64 (p7 + 1))
  else
    some (p7, true, ()) := by kernel_rfl
noncomputable def P_spec_PeelDepth : Ft_spec_PeelDepth := hid (runF (X_spec_PeelDepth N P_spec_l11Peel P_spec_l2Cell P_spec_l2Has) B_spec_PeelDepth As_spec_PeelDepth R_spec_PeelDepth M_spec_PeelDepth)
theorem h_spec_PeelDepth : P_spec_PeelDepth = runF (X_spec_PeelDepth N P_spec_l11Peel P_spec_l2Cell P_spec_l2Has) B_spec_PeelDepth As_spec_PeelDepth R_spec_PeelDepth M_spec_PeelDepth := hid_eq _
noncomputable def C_spec_PeelDepth : Contract := ⟨As_spec_PeelDepth, R_spec_PeelDepth, M_spec_PeelDepth, P_spec_PeelDepth⟩
theorem s_spec_PeelDepth : Sound Try.prog GG 49 C_spec_PeelDepth := by
  unfold C_spec_PeelDepth; rw [h_spec_PeelDepth]
  exact sound_of_run (fn := Try.f49) hmix hstable (tyOK_of ttOK) (hglob (X_spec_PeelDepth N P_spec_l11Peel P_spec_l2Cell P_spec_l2Has)) (conOK_of (X := X_spec_PeelDepth N P_spec_l11Peel P_spec_l2Cell P_spec_l2Has) ⟨s_spec_l11Peel, s_spec_l2Cell, s_spec_l2Has, trivial⟩) (mconOK_of (X := X_spec_PeelDepth N P_spec_l11Peel P_spec_l2Cell P_spec_l2Has) trivial) (by kernel_rfl) (by kernel_rfl) (by kernel_rfl) (by kernel_rfl) (by kernel_rfl) (by decide)
noncomputable def l_spec_PeelDepth_4 : Nat → Int → Int → Int → Int → Int → Int → (List D_A3) → Int → Option (denL R_spec_PeelDepth) := hid (fun m0 p0 p1 p2 p3 p4 p5 p6 p7 => L_spec_PeelDepth_4 N P_spec_l11Peel P_spec_l2Cell P_spec_l2Has m0 p0 p1 p2 p3 p4 p5 p6 p7)
theorem h_spec_PeelDepth_4 : l_spec_PeelDepth_4 = fun m0 p0 p1 p2 p3 p4 p5 p6 p7 => L_spec_PeelDepth_4 N P_spec_l11Peel P_spec_l2Cell P_spec_l2Has m0 p0 p1 p2 p3 p4 p5 p6 p7 := hid_eq _
theorem p_spec_PeelDepth (a0 : D_Heap) (a1 : D_A3) : P_spec_PeelDepth (a0, a1, ()) = 
  Option.bind (P_spec_l2Cell (a0, a1, ())) fun r0 =>
  bif !r0.1 then
    some (0, false, ())
  else
    Option.bind (P_spec_l2Has (a0, a1, ())) fun r2 =>
    bif !r2.1 then
      some (0, false, ())
    else
      l_spec_PeelDepth_4 N a1.1 a1.2.1 a1.2.2.1 a0.1 a0.2.1 a0.2.2.1 a0.2.2.2.1 0 := by
  rewrite [h_spec_PeelDepth, h_spec_PeelDepth_4]
  exact e_spec_PeelDepth N P_spec_l11Peel P_spec_l2Cell P_spec_l2Has a0 a1
theorem q_spec_PeelDepth_4 (m0 : Nat) (p0 : Int) (p1 : Int) (p2 : Int) (p3 : Int) (p4 : Int) (p5 : Int) (p6 : List D_A3) (p7 : Int) : l_spec_PeelDepth_4 (m0 + 1) p0 p1 p2 p3 p4 p5 p6 p7 = 
  Option.bind (P_spec_l2Has ((p3, (p4, (p5, (p6, ())))), (p0, (p1, (p2, ()))), ())) fun r0 =>
  bif r0.1 then
    Option.bind (P_spec_l11Peel ((p3, (p4, (p5, (p6, ())))), false, ())) fun r2 =>
    l_spec_PeelDepth_4 m0 p0 p1 p2 r2.1.1 r2.1.2.1 r2.1.2.2.1 r2.1.2.2.2.1 (IntKind.wrap .i64 (p7 + 1))
  else
    some (p7, true, ()) := by
  rewrite [h_spec_PeelDepth_4]
  exact e_spec_PeelDepth_4 N P_spec_l11Peel P_spec_l2Cell P_spec_l2Has m0 p0 p1 p2 p3 p4 p5 p6 p7

/- 91: loop.example/g01166/impl.isCell -/
abbrev As_impl_isCell : List ATy := [.data true T_Heap, .data true T_A3]
abbrev R_impl_isCell : List (Bool × Ty) := [(false, .bool)]
abbrev M_impl_isCell : List RMode := []
abbrev Ft_impl_isCell : Type := D_Heap × D_A3 × Unit → Option (Bool × Unit)
noncomputable def X_impl_isCell (n : Nat) (F_impl_IsHeap : Ft_impl_IsHeap) (F_Heap_box : Ft_Heap_box) (F_box_has : Ft_box_has) : Ctx := { types := TT, globals := [], con := [(55, ⟨As_impl_IsHeap, R_impl_IsHeap, M_impl_IsHeap, F_impl_IsHeap⟩), (66, ⟨As_Heap_box, R_Heap_box, M_Heap_box, F_Heap_box⟩), (93, ⟨As_box_has, R_box_has, M_box_has, F_box_has⟩)], keep := [], results := [.tmp 4], ntmps := 13, n := n }
noncomputable def B_impl_isCell : Code := (Try.f91.body).getD .skip
theorem e_impl_isCell (n : Nat) (F_impl_IsHeap : Ft_impl_IsHeap) (F_Heap_box : Ft_Heap_box) (F_box_has : Ft_box_has) (a0 : D_Heap) (a1 : D_A3) : runF (X_impl_isCell n F_impl_IsHeap F_Heap_box F_box_has) B_impl_isCell As_impl_isCell R_impl_isCell M_impl_isCell (a0, a1, ()) = 
  Option.bind (F_impl_IsHeap (a0, ())) fun r0 =>
  bif r0.1 then
    Option.bind (F_Heap_box (a0, ())) fun r2 =>
    Option.bind (F_box_has (r2.1, a1, ())) fun r3 =>
    some (r3.1, ())
  else
    some (false, ()) := by kernel_rfl
noncomputable def P_impl_isCell : Ft_impl_isCell := hid (runF (X_impl_isCell N P_impl_IsHeap P_Heap_box P_box_has) B_impl_isCell As_impl_isCell R_impl_isCell M_impl_isCell)
theorem h_impl_isCell : P_impl_isCell = runF (X_impl_isCell N P_impl_IsHeap P_Heap_box P_box_has) B_impl_isCell As_impl_isCell R_impl_isCell M_impl_isCell := hid_eq _
noncomputable def C_impl_isCell : Contract := ⟨As_impl_isCell, R_impl_isCell, M_impl_isCell, P_impl_isCell⟩
theorem s_impl_isCell : Sound Try.prog GG 91 C_impl_isCell := by
  unfold C_impl_isCell; rw [h_impl_isCell]
  exact sound_of_run (fn := Try.f91) hmix hstable (tyOK_of ttOK) (hglob (X_impl_isCell N P_impl_IsHeap P_Heap_box P_box_has)) (conOK_of (X := X_impl_isCell N P_impl_IsHeap P_Heap_box P_box_has) ⟨s_impl_IsHeap, s_Heap_box, s_box_has, trivial⟩) (mconOK_of (X := X_impl_isCell N P_impl_IsHeap P_Heap_box P_box_has) trivial) (by kernel_rfl) (by kernel_rfl) (by kernel_rfl) (by kernel_rfl) (by kernel_rfl) (by decide)
theorem p_impl_isCell (a0 : D_Heap) (a1 : D_A3) : P_impl_isCell (a0, a1, ()) = 
  Option.bind (P_impl_IsHeap (a0, ())) fun r0 =>
  bif r0.1 then
    Option.bind (P_Heap_box (a0, ())) fun r2 =>
    Option.bind (P_box_has (r2.1, a1, ())) fun r3 =>
    some (r3.1, ())
  else
    some (false, ()) := by
  rewrite [h_impl_isCell]
  exact e_impl_isCell N P_impl_IsHeap P_Heap_box P_box_has a0 a1

/- 51: loop.example/g01166/impl.PeelDepth -/
abbrev As_impl_PeelDepth : List ATy := [.data true T_Heap, .data true T_A3]
abbrev R_impl_PeelDepth : List (Bool × Ty) := [(false, (.int .i64)), (false, .bool)]
abbrev M_impl_PeelDepth : List RMode := []
abbrev Ft_impl_PeelDepth : Type := D_Heap × D_A3 × Unit → Option (Int × Bool × Unit)
noncomputable def X_impl_PeelDepth (n : Nat) (F_Heap_peeled : Ft_Heap_peeled) (F_impl_isCell : Ft_impl_isCell) (F_Heap_hasCube : Ft_Heap_hasCube) : Ctx := { types := TT, globals := [], con := [(79, ⟨As_Heap_peeled, R_Heap_peeled, M_Heap_peeled, F_Heap_peeled⟩), (91, ⟨As_impl_isCell, R_impl_isCell, M_impl_isCell, F_impl_isCell⟩), (92, ⟨As_Heap_hasCube, R_Heap_hasCube, M_Heap_hasCube, F_Heap_hasCube⟩)], keep := [(4, ⟨[.box 2, .box 3, .tmp 2, .tmp 3, .tmp 6], [.box 2]⟩)], results := [.tmp 4, .tmp 5], ntmps := 25, n := n }
noncomputable def B_impl_PeelDepth : Code := (Try.f51.body).getD .skip
noncomputable def L_impl_PeelDepth_4 (n : Nat) (F_Heap_peeled : Ft_Heap_peeled) (F_impl_isCell : Ft_impl_isCell) (F_Heap_hasCube : Ft_Heap_hasCube) (m0 : Nat) (p0 : Int) (p1 : Int) (p2 : Int) (p3 : List D_A3) (p4 : Int) (p5 : Int) (p6 : Int) (p7 : Int) : Option (denL R_impl_PeelDepth) := loopF (X_impl_PeelDepth n F_Heap_peeled F_impl_isCell F_Heap_hasCube) B_impl_PeelDepth R_impl_PeelDepth M_impl_PeelDepth 4 [m0] [(.ver, .num 1), (.box 2, .box 0 false [.int .i64 p0, .int .i64 p1, .int .i64 p2, .imm T_A3 p3 none]), (.box 3, .box 0 false [.int .i64 p4, .int .i64 p5, .int .i64 p6]), (.tmp 2, .val false [.addr 2 0 0]), (.tmp 3, .val false [.addr 3 0 0]), (.tmp 6, .val false [.int .i64 p7])]
theorem e_impl_PeelDepth (n : Nat) (F_Heap_peeled : Ft_Heap_peeled) (F_impl_isCell : Ft_impl_isCell) (F_Heap_hasCube : Ft_Heap_hasCube) (a0 : D_Heap) (a1 : D_A3) : runF (X_impl_PeelDepth n F_Heap_peeled F_impl_isCell F_Heap_hasCube) B_impl_PeelDepth As_impl_PeelDepth R_impl_PeelDepth M_impl_PeelDepth (a0, a1, ()) = 
  Option.bind (F_impl_isCell (a0, a1, ())) fun r0 =>
  bif !r0.1 then
    some (0, false, ())
  else
    Option.bind (F_Heap_hasCube (a0, a1, ())) fun r2 =>
    bif !r2.1 then
      some (0, false, ())
    else
      L_impl_PeelDepth_4 n F_Heap_peeled F_impl_isCell F_Heap_hasCube n a0.1 a0.2.1 a0.2.2.1 a0.2.2.2.1 a1.1 a1.2.1 a1.2.2.1 0 := by kernel_rfl
theorem e_impl_PeelDepth_4 (n : Nat) (F_Heap_peeled : Ft_Heap_peeled) (F_impl_isCell : Ft_impl_isCell) (F_Heap_hasCube : Ft_Heap_hasCube) (m0 : Nat) (p0 : Int) (p1 : Int) (p2 : Int) (p3 : List D_A3) (p4 : Int) (p5 : Int) (p6 : Int) (p7 : Int) : L_impl_PeelDepth_4 n F_Heap_peeled F_impl_isCell F_Heap_hasCube (m0 + 1) p0 p1 p2 p3 p4 p5 p6 p7 = 
  Option.bind (F_Heap_hasCube ((p0, (p1, (p2, (p3, ())))), (p4, (p5, (p6, ()))), ())) fun r0 =>
  bif r0.1 then
    Option.bind (F_Heap_peeled ((p0, (p1, (p2, (p3, ())))), ())) fun r2 =>
    L_impl_PeelDepth_4 n F_Heap_peeled F_impl_isCell F_Heap_hasCube m0 r2.1.1 r2.1.2.1 r2.1.2.2.1 r2.1.2.2.2.1 p4 p5 p6 (IntKind.wrap .i64 (p7 + 1))
  else
    some (p7, true, ()) := by kernel_rfl
noncomputable def P_impl_PeelDepth : Ft_impl_PeelDepth := hid (runF (X_impl_PeelDepth N P_Heap_peeled P_impl_isCell P_Heap_hasCube) B_impl_PeelDepth As_impl_PeelDepth R_impl_PeelDepth M_impl_PeelDepth)
theorem h_impl_PeelDepth : P_impl_PeelDepth = runF (X_impl_PeelDepth N P_Heap_peeled P_impl_isCell P_Heap_hasCube) B_impl_PeelDepth As_impl_PeelDepth R_impl_PeelDepth M_impl_PeelDepth := hid_eq _
noncomputable def C_impl_PeelDepth : Contract := ⟨As_impl_PeelDepth, R_impl_PeelDepth, M_impl_PeelDepth, P_impl_PeelDepth⟩
theorem s_impl_PeelDepth : Sound Try.prog GG 51 C_impl_PeelDepth := by
  unfold C_impl_PeelDepth; rw [h_impl_PeelDepth]
  exact sound_of_run (fn := Try.f51) hmix hstable (tyOK_of ttOK) (hglob (X_impl_PeelDepth N P_Heap_peeled P_impl_isCell P_Heap_hasCube)) (conOK_of (X := X_impl_PeelDepth N P_Heap_peeled P_impl_isCell P_Heap_hasCube) ⟨s_Heap_peeled, s_impl_isCell, s_Heap_hasCube, trivial⟩) (mconOK_of (X := X_impl_PeelDepth N P_Heap_peeled P_impl_isCell P_Heap_hasCube) trivial) (by kernel_rfl) (by kernel_rfl) (by kernel_rfl) (by kernel_rfl) (by kernel_rfl) (by decide)
noncomputable def l_impl_PeelDepth_4 : Nat → Int → Int → Int → (List D_A3) → Int → Int → Int → Int → Option (denL R_impl_PeelDepth) := hid (fun m0 p0 p1 p2 p3 p4 p5 p6 p7 => L_impl_PeelDepth_4 N P_Heap_peeled P_impl_isCell P_Heap_hasCube m0 p0 p1 p2 p3 p4 p5 p6 p7)
theorem h_impl_PeelDepth_4 : l_impl_PeelDepth_4 = fun m0 p0 p1 p2 p3 p4 p5 p6 p7 => L_impl_PeelDepth_4 N P_Heap_peeled P_impl_isCell P_Heap_hasCube m0 p0 p1 p2 p3 p4 p5 p6 p7 := hid_eq _
theorem p_impl_PeelDepth (a0 : D_Heap) (a1 : D_A3) : P_impl_PeelDepth (a0, a1, ()) = 
  Option.bind (P_impl_isCell (a0, a1, ())) fun r0 =>
  bif !r0.1 then
    some (0, false, ())
  else
    Option.bind (P_Heap_hasCube (a0, a1, ())) fun r2 =>
    bif !r2.1 then
      some (0, false, ())
    else
      l_impl_PeelDepth_4 N a0.1 a0.2.1 a0.2.2.1 a0.2.2.2.1 a1.1 a1.2.1 a1.2.2.1 0 := by
  rewrite [h_impl_PeelDepth, h_impl_PeelDepth_4]
  exact e_impl_PeelDepth N P_Heap_peeled P_impl_isCell P_Heap_hasCube a0 a1
theorem q_impl_PeelDepth_4 (m0 : Nat) (p0 : Int) (p1 : Int) (p2 : Int) (p3 : List D_A3) (p4 : Int) (p5 : Int) (p6 : Int) (p7 : Int) : l_impl_PeelDepth_4 (m0 + 1) p0 p1 p2 p3 p4 p5 p6 p7 = 
  Option.bind (P_Heap_hasCube ((p0, (p1, (p2, (p3, ())))), (p4, (p5, (p6, ()))), ())) fun r0 =>
  bif r0.1 then
    Option.bind (P_Heap_peeled ((p0, (p1, (p2, (p3, ())))), ())) fun r2 =>
    l_impl_PeelDepth_4 m0 r2.1.1 r2.1.2.1 r2.1.2.2.1 r2.1.2.2.2.1 p4 p5 p6 (IntKind.wrap .i64 (p7 + 1))
  else
    some (p7, true, ()) := by
  rewrite [h_impl_PeelDepth_4]
  exact e_impl_PeelDepth_4 N P_Heap_peeled P_impl_isCell P_Heap_hasCube m0 p0 p1 p2 p3 p4 p5 p6 p7

/- 13: loop.example/g01166/laws.FnExactPeelDepth -/
abbrev As_laws_FnExactPeelDepth : List ATy := [.data true T_Heap, .data true T_A3]
abbrev R_laws_FnExactPeelDepth : List (Bool × Ty) := [(false, .bool)]
abbrev M_laws_FnExactPeelDepth : List RMode := []
abbrev Ft_laws_FnExactPeelDepth : Type := D_Heap × D_A3 × Unit → Option (Bool × Unit)
noncomputable def X_laws_FnExactPeelDepth (n : Nat) (F_laws_szHeap : Ft_laws_szHeap) (F_laws_toHeap : Ft_laws_toHeap) (F_laws_eqHeap : Ft_laws_eqHeap) (F_spec_PeelDepth : Ft_spec_PeelDepth) (F_laws_toIntA3 : Ft_laws_toIntA3) (F_impl_PeelDepth : Ft_impl_PeelDepth) : Ctx := { types := TT, globals := [], con := [(20, ⟨As_laws_szHeap, R_laws_szHeap, M_laws_szHeap, F_laws_szHeap⟩), (22, ⟨As_laws_toHeap, R_laws_toHeap, M_laws_toHeap, F_laws_toHeap⟩), (24, ⟨As_laws_eqHeap, R_laws_eqHeap, M_laws_eqHeap, F_laws_eqHeap⟩), (49, ⟨As_spec_PeelDepth, R_spec_PeelDepth, M_spec_PeelDepth, F_spec_PeelDepth⟩), (50, ⟨As_laws_toIntA3, R_laws_toIntA3, M_laws_toIntA3, F_laws_toIntA3⟩), (51, ⟨As_impl_PeelDepth, R_impl_PeelDepth, M_impl_PeelDepth, F_impl_PeelDepth⟩)], keep := [], results := [.tmp 4], ntmps := 46, n := n }
noncomputable def B_laws_FnExactPeelDepth : Code := (Try.f13.body).getD .skip
theorem e_laws_FnExactPeelDepth (n : Nat) (F_laws_szHeap : Ft_laws_szHeap) (F_laws_toHeap : Ft_laws_toHeap) (F_laws_eqHeap : Ft_laws_eqHeap) (F_spec_PeelDepth : Ft_spec_PeelDepth) (F_laws_toIntA3 : Ft_laws_toIntA3) (F_impl_PeelDepth : Ft_impl_PeelDepth) (a0 : D_Heap) (a1 : D_A3) : runF (X_laws_FnExactPeelDepth n F_laws_szHeap F_laws_toHeap F_laws_eqHeap F_spec_PeelDepth F_laws_toIntA3 F_impl_PeelDepth) B_laws_FnExactPeelDepth As_laws_FnExactPeelDepth R_laws_FnExactPeelDepth M_laws_FnExactPeelDepth (a0, a1, ()) = 
  Option.bind (F_laws_szHeap (a0, 1048576, ())) fun r0 =>
  bif decide (r0.1 < 0) then
    some (true, ())
  else
    Option.bind (F_laws_toHeap (a0, ())) fun r2 =>
    Option.bind (F_laws_toIntA3 (a1, ())) fun r3 =>
    Option.bind (F_spec_PeelDepth (r2.1, r3.1, ())) fun r4 =>
    Option.bind (F_laws_toHeap (a0, ())) fun r5 =>
    Option.bind (F_laws_toIntA3 (a1, ())) fun r6 =>
    Option.bind (F_impl_PeelDepth (r5.1, r6.1, ())) fun r7 =>
    bif !decide (r7.1 = r4.1) then
      some (false, ())
    else
      bif !(r7.2.1 == r4.2.1) then
        some (false, ())
      else
        Option.bind (F_laws_toHeap (a0, ())) fun r10 =>
        Option.bind (F_laws_eqHeap (r5.1, r10.1, ())) fun r11 =>
        bif !r11.1 then
          some (false, ())
        else
          some (true, ()) := by kernel_rfl
noncomputable def P_laws_FnExactPeelDepth : Ft_laws_FnExactPeelDepth := hid (runF (X_laws_FnExactPeelDepth N P_laws_szHeap P_laws_toHeap P_laws_eqHeap P_spec_PeelDepth P_laws_toIntA3 P_impl_PeelDepth) B_laws_FnExactPeelDepth As_laws_FnExactPeelDepth R_laws_FnExactPeelDepth M_laws_FnExactPeelDepth)
theorem h_laws_FnExactPeelDepth : P_laws_FnExactPeelDepth = runF (X_laws_FnExactPeelDepth N P_laws_szHeap P_laws_toHeap P_laws_eqHeap P_spec_PeelDepth P_laws_toIntA3 P_impl_PeelDepth) B_laws_FnExactPeelDepth As_laws_FnExactPeelDepth R_laws_FnExactPeelDepth M_laws_FnExactPeelDepth := hid_eq _
noncomputable def C_laws_FnExactPeelDepth : Contract := ⟨As_laws_FnExactPeelDepth, R_laws_FnExactPeelDepth, M_laws_FnExactPeelDepth, P_laws_FnExactPeelDepth⟩
theorem s_laws_FnExactPeelDepth : Sound Try.prog GG 13 C_laws_FnExactPeelDepth := by
  unfold C_laws_FnExactPeelDepth; rw [h_laws_FnExactPeelDepth]
  exact sound_of_run (fn := Try.f13) hmix hstable (tyOK_of ttOK) (hglob (X_laws_FnExactPeelDepth N P_laws_szHeap P_laws_toHeap P_laws_eqHeap P_spec_PeelDepth P_laws_toIntA3 P_impl_PeelDepth)) (conOK_of (X := X_laws_FnExactPeelDepth N P_laws_szHeap P_laws_toHeap P_laws_eqHeap P_spec_PeelDepth P_laws_toIntA3 P_impl_PeelDepth) ⟨s_laws_szHeap, s_laws_toHeap, s_laws_eqHeap, s_spec_PeelDepth, s_laws_toIntA3, s_impl_PeelDepth, trivial⟩) (mconOK_of (X := X_laws_FnExactPeelDepth N P_laws_szHeap P_laws_toHeap P_laws_eqHeap P_spec_PeelDepth P_laws_toIntA3 P_impl_PeelDepth) trivial) (by kernel_rfl) (by kernel_rfl) (by kernel_rfl) (by kernel_rfl) (by kernel_rfl) (by decide)
theorem p_laws_FnExactPeelDepth (a0 : D_Heap) (a1 : D_A3) : P_laws_FnExactPeelDepth (a0, a1, ()) = 
  Option.bind (P_laws_szHeap (a0, 1048576, ())) fun r0 =>
  bif decide (r0.1 < 0) then
    some (true, ())
  else
    Option.bind (P_laws_toHeap (a0, ())) fun r2 =>
    Option.bind (P_laws_toIntA3 (a1, ())) fun r3 =>
    Option.bind (P_spec_PeelDepth (r2.1, r3.1, ())) fun r4 =>
    Option.bind (P_laws_toHeap (a0, ())) fun r5 =>
    Option.bind (P_laws_toIntA3 (a1, ())) fun r6 =>
    Option.bind (P_impl_PeelDepth (r5.1, r6.1, ())) fun r7 =>
    bif !decide (r7.1 = r4.1) then
      some (false, ())
    else
      bif !(r7.2.1 == r4.2.1) then
        some (false, ())
      else
        Option.bind (P_laws_toHeap (a0, ())) fun r10 =>
        Option.bind (P_laws_eqHeap (r5.1, r10.1, ())) fun r11 =>
        bif !r11.1 then
          some (false, ())
        else
          some (true, ()) := by
  rewrite [h_laws_FnExactPeelDepth]
  exact e_laws_FnExactPeelDepth N P_laws_szHeap P_laws_toHeap P_laws_eqHeap P_spec_PeelDepth P_laws_toIntA3 P_impl_PeelDepth a0 a1

/- 52: loop.example/g01166/spec.PeelHeap -/
abbrev As_spec_PeelHeap : List ATy := [.data true T_Heap]
abbrev R_spec_PeelHeap : List (Bool × Ty) := [(true, T_Heap), (false, .bool)]
abbrev M_spec_PeelHeap : List RMode := [.own 66]
abbrev Ft_spec_PeelHeap : Type := D_Heap × Unit → Option (D_Heap × Bool × Unit)
noncomputable def X_spec_PeelHeap (n : Nat) (F_spec_l2Heap : Ft_spec_l2Heap) (F_spec_l11Peel : Ft_spec_l11Peel) : Ctx := { types := TT, globals := [], con := [(64, ⟨As_spec_l2Heap, R_spec_l2Heap, M_spec_l2Heap, F_spec_l2Heap⟩), (75, ⟨As_spec_l11Peel, R_spec_l11Peel, M_spec_l11Peel, F_spec_l11Peel⟩)], keep := [], results := [.cell 2 29, .tmp 3], ntmps := 10, n := n }
noncomputable def B_spec_PeelHeap : Code := (Try.f52.body).getD .skip
theorem e_spec_PeelHeap (n : Nat) (F_spec_l2Heap : Ft_spec_l2Heap) (F_spec_l11Peel : Ft_spec_l11Peel) (a0 : D_Heap) : runF (X_spec_PeelHeap n F_spec_l2Heap F_spec_l11Peel) B_spec_PeelHeap As_spec_PeelHeap R_spec_PeelHeap M_spec_PeelHeap (a0, ()) = 
  Option.bind (F_spec_l2Heap (a0, ())) fun r0 =>
  bif !r0.1 then
    some ((0, (0, (0, (([] : List D_A3), ())))), false, ())
  else
    Option.bind (F_spec_l11Peel (a0, false, ())) fun r2 =>
    some (r2.1, true, ()) := by kernel_rfl
noncomputable def P_spec_PeelHeap : Ft_spec_PeelHeap := hid (runF (X_spec_PeelHeap N P_spec_l2Heap P_spec_l11Peel) B_spec_PeelHeap As_spec_PeelHeap R_spec_PeelHeap M_spec_PeelHeap)
theorem h_spec_PeelHeap : P_spec_PeelHeap = runF (X_spec_PeelHeap N P_spec_l2Heap P_spec_l11Peel) B_spec_PeelHeap As_spec_PeelHeap R_spec_PeelHeap M_spec_PeelHeap := hid_eq _
noncomputable def C_spec_PeelHeap : Contract := ⟨As_spec_PeelHeap, R_spec_PeelHeap, M_spec_PeelHeap, P_spec_PeelHeap⟩
theorem s_spec_PeelHeap : Sound Try.prog GG 52 C_spec_PeelHeap := by
  unfold C_spec_PeelHeap; rw [h_spec_PeelHeap]
  exact sound_of_run (fn := Try.f52) hmix hstable (tyOK_of ttOK) (hglob (X_spec_PeelHeap N P_spec_l2Heap P_spec_l11Peel)) (conOK_of (X := X_spec_PeelHeap N P_spec_l2Heap P_spec_l11Peel) ⟨s_spec_l2Heap, s_spec_l11Peel, trivial⟩) (mconOK_of (X := X_spec_PeelHeap N P_spec_l2Heap P_spec_l11Peel) trivial) (by kernel_rfl) (by kernel_rfl) (by kernel_rfl) (by kernel_rfl) (by kernel_rfl) (by decide)
theorem p_spec_PeelHeap (a0 : D_Heap) : P_spec_PeelHeap (a0, ()) = 
  Option.bind (P_spec_l2Heap (a0, ())) fun r0 =>
  bif !r0.1 then
    some ((0, (0, (0, (([] : List D_A3), ())))), false, ())
  else
    Option.bind (P_spec_l11Peel (a0, false, ())) fun r2 =>
    some (r2.1, true, ()) := by
  rewrite [h_spec_PeelHeap]
  exact e_spec_PeelHeap N P_spec_l2Heap P_spec_l11Peel a0

/- 53: loop.example/g01166/impl.PeelHeap -/
abbrev As_impl_PeelHeap : List ATy := [.data true T_Heap]
abbrev R_impl_PeelHeap : List (Bool × Ty) := [(true, T_Heap), (false, .bool)]
abbrev M_impl_PeelHeap : List RMode := [.own 66]
abbrev Ft_impl_PeelHeap : Type := D_Heap × Unit → Option (D_Heap × Bool × Unit)
noncomputable def X_impl_PeelHeap (n : Nat) (F_impl_IsHeap : Ft_impl_IsHeap) (F_Heap_peeled : Ft_Heap_peeled) : Ctx := { types := TT, globals := [], con := [(55, ⟨As_impl_IsHeap, R_impl_IsHeap, M_impl_IsHeap, F_impl_IsHeap⟩), (79, ⟨As_Heap_peeled, R_Heap_peeled, M_Heap_peeled, F_Heap_peeled⟩)], keep := [], results := [.cell 2 29, .tmp 3], ntmps := 10, n := n }
noncomputable def B_impl_PeelHeap : Code := (Try.f53.body).getD .skip
theorem e_impl_PeelHeap (n : Nat) (F_impl_IsHeap : Ft_impl_IsHeap) (F_Heap_peeled : Ft_Heap_peeled) (a0 : D_Heap) : runF (X_impl_PeelHeap n F_impl_IsHeap F_Heap_peeled) B_impl_PeelHeap As_impl_PeelHeap R_impl_PeelHeap M_impl_PeelHeap (a0, ()) = 
  Option.bind (F_impl_IsHeap (a0, ())) fun r0 =>
  bif !r0.1 then
    some ((0, (0, (0, (([] : List D_A3), ())))), false, ())
  else
    Option.bind (F_Heap_peeled (a0, ())) fun r2 =>
    some (r2.1, true, ()) := by kernel_rfl
noncomputable def P_impl_PeelHeap : Ft_impl_PeelHeap := hid (runF (X_impl_PeelHeap N P_impl_IsHeap P_Heap_peeled) B_impl_PeelHeap As_impl_PeelHeap R_impl_PeelHeap M_impl_PeelHeap)
theorem h_impl_PeelHeap : P_impl_PeelHeap = runF (X_impl_PeelHeap N P_impl_IsHeap P_Heap_peeled) B_impl_PeelHeap As_impl_PeelHeap R_impl_PeelHeap M_impl_PeelHeap := hid_eq _
noncomputable def C_impl_PeelHeap : Contract := ⟨As_impl_PeelHeap, R_impl_PeelHeap, M_impl_PeelHeap, P_impl_PeelHeap⟩
theorem s_impl_PeelHeap : Sound Try.prog GG 53 C_impl_PeelHeap := by
  unfold C_impl_PeelHeap; rw [h_impl_PeelHeap]
  exact sound_of_run (fn := Try.f53) hmix hstable (tyOK_of ttOK) (hglob (X_impl_PeelHeap N P_impl_IsHeap P_Heap_peeled)) (conOK_of (X := X_impl_PeelHeap N P_impl_IsHeap P_Heap_peeled) ⟨s_impl_IsHeap, s_Heap_peeled, trivial⟩) (mconOK_of (X := X_impl_PeelHeap N P_impl_IsHeap P_Heap_peeled) trivial) (by kernel_rfl) (by kernel_rfl) (by kernel_rfl) (by kernel_rfl) (by kernel_rfl) (by decide)
theorem p_impl_PeelHeap (a0 : D_Heap) : P_impl_PeelHeap (a0, ()) = 
  Option.bind (P_impl_IsHeap (a0, ())) fun r0 =>
  bif !r0.1 then
    some ((0, (0, (0, (([] : List D_A3), ())))), false, ())
  else
    Option.bind (P_Heap_peeled (a0, ())) fun r2 =>
    some (r2.1, true, ()) := by
  rewrite [h_impl_PeelHeap]
  exact e_impl_PeelHeap N P_impl_IsHeap P_Heap_peeled a0
end Go.VI
