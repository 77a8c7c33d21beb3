/- What the functions of the seat compute: part 2. -/
import Derived.Test.YtbpjlmhkoflcgaaGreatG12p1
namespace Go.VI
open Go.Proofs
set_option maxRecDepth 100000

/- 35: (loop.example/g01166/impl.box).shadow -/
abbrev As_box_shadow : List ATy := [.data true T_A3, .data false (.int .u64)]
abbrev R_box_shadow : List (Bool × Ty) := [(true, T_Shadow)]
abbrev M_box_shadow : List RMode := [.own 3, .own 3, .own 3]
abbrev Ft_box_shadow : Type := D_A3 × Int × Unit → Option (D_Shadow × Unit)
noncomputable def X_box_shadow (n : Nat) (F_box_view : Ft_box_view) : Ctx := { types := TT, globals := [], con := [(82, ⟨As_box_view, R_box_view, M_box_view, F_box_view⟩)], keep := [(3, ⟨[.box 2, .box 4, .box 5, .tmp 1, .tmp 2, .tmp 4, .tmp 5, .tmp 10], []⟩), (7, ⟨[.box 2, .box 4, .box 5, .tmp 1, .tmp 2, .tmp 4, .tmp 5, .tmp 6, .tmp 10, .tmp 21, .tmp 22, .tmp 23], []⟩)], results := [.cell 4 35], ntmps := 50, n := n }
noncomputable def B_box_shadow : Code := (Tryz.f35.body).getD .skip
noncomputable def L_box_shadow_3 (n : Nat) (F_box_view : Ft_box_view) (m0 : Nat) (p0 : Int) (p1 : Int) (p2 : Int) (p3 : Int) (p4 : Int) (p5 : Int) (p6 : List Int) (p7 : List Int) (p8 : List Int) (p9 : List Int) (p10 : List Int) (p11 : List Int) (p12 : Int) (p13 : Int) : Option (denL R_box_shadow) := loopF (X_box_shadow n F_box_view) B_box_shadow R_box_shadow M_box_shadow 3 [m0] [(.ver, .num 1), (.box 2, .box 0 false [.int .i64 p0, .int .i64 p1, .int .i64 p2]), (.box 4, .box 0 false [.int .i64 p3, .int .i64 p4, .int .i64 p5, .own 3 (.int .i64) 0 p6, .own 3 (.int .i64) 0 p7, .own 3 (.int .i64) 0 p8]), (.box 5, .box 0 false [.own 3 (.int .i64) 0 p9, .own 3 (.int .i64) 0 p10, .own 3 (.int .i64) 0 p11]), (.tmp 1, .val false [.int .u64 p12]), (.tmp 2, .val false [.addr 2 0 0]), (.tmp 4, .val false [.addr 4 0 0]), (.tmp 5, .val false [.addr 5 0 0]), (.tmp 10, .val false [.int .i64 p13])]
noncomputable def L_box_shadow_7 (n : Nat) (F_box_view : Ft_box_view) (m0 m1 : Nat) (p0 : Int) (p1 : Int) (p2 : Int) (p3 : Int) (p4 : Int) (p5 : Int) (p6 : List Int) (p7 : List Int) (p8 : List Int) (p9 : List Int) (p10 : List Int) (p11 : List Int) (p12 : Int) (p13 : Int) (p14 : Int) (p15 : Int) (p16 : Int) : Option (denL R_box_shadow) := loopF (X_box_shadow n F_box_view) B_box_shadow R_box_shadow M_box_shadow 7 [m0, m1] [(.ver, .num 1), (.box 2, .box 0 false [.int .i64 p0, .int .i64 p1, .int .i64 p2]), (.box 4, .box 0 false [.int .i64 p3, .int .i64 p4, .int .i64 p5, .own 3 (.int .i64) 0 p6, .own 3 (.int .i64) 0 p7, .own 3 (.int .i64) 0 p8]), (.box 5, .box 0 false [.own 3 (.int .i64) 0 p9, .own 3 (.int .i64) 0 p10, .own 3 (.int .i64) 0 p11]), (.tmp 1, .val false [.int .u64 p12]), (.tmp 2, .val false [.addr 2 0 0]), (.tmp 4, .val false [.addr 4 0 0]), (.tmp 5, .val false [.addr 5 0 0]), (.tmp 6, .val false [.int .i64 p13]), (.tmp 10, .val false [.int .i64 p14]), (.tmp 21, .val false [.view ⟨.box 5, 0, 0⟩ 0]), (.tmp 22, .val false [.int .i64 p15]), (.tmp 23, .val false [.int .i64 p16])]
noncomputable def L_box_shadow_1007 (n : Nat) (F_box_view : Ft_box_view) (m0 m1 : Nat) (p0 : Int) (p1 : Int) (p2 : Int) (p3 : Int) (p4 : Int) (p5 : Int) (p6 : List Int) (p7 : List Int) (p8 : List Int) (p9 : List Int) (p10 : List Int) (p11 : List Int) (p12 : Int) (p13 : Int) (p14 : Int) (p15 : Int) (p16 : Int) : Option (denL R_box_shadow) := loopF (X_box_shadow n F_box_view) B_box_shadow R_box_shadow M_box_shadow 7 [m0, m1] [(.ver, .num 1), (.box 2, .box 0 false [.int .i64 p0, .int .i64 p1, .int .i64 p2]), (.box 4, .box 0 false [.int .i64 p3, .int .i64 p4, .int .i64 p5, .own 3 (.int .i64) 0 p6, .own 3 (.int .i64) 0 p7, .own 3 (.int .i64) 0 p8]), (.box 5, .box 0 false [.own 3 (.int .i64) 0 p9, .own 3 (.int .i64) 0 p10, .own 3 (.int .i64) 0 p11]), (.tmp 1, .val false [.int .u64 p12]), (.tmp 2, .val false [.addr 2 0 0]), (.tmp 4, .val false [.addr 4 0 0]), (.tmp 5, .val false [.addr 5 0 0]), (.tmp 6, .val false [.int .i64 p13]), (.tmp 10, .val false [.int .i64 p14]), (.tmp 21, .val false [.view ⟨.box 5, 0, 1⟩ 0]), (.tmp 22, .val false [.int .i64 p15]), (.tmp 23, .val false [.int .i64 p16])]
noncomputable def L_box_shadow_2007 (n : Nat) (F_box_view : Ft_box_view) (m0 m1 : Nat) (p0 : Int) (p1 : Int) (p2 : Int) (p3 : Int) (p4 : Int) (p5 : Int) (p6 : List Int) (p7 : List Int) (p8 : List Int) (p9 : List Int) (p10 : List Int) (p11 : List Int) (p12 : Int) (p13 : Int) (p14 : Int) (p15 : Int) (p16 : Int) : Option (denL R_box_shadow) := loopF (X_box_shadow n F_box_view) B_box_shadow R_box_shadow M_box_shadow 7 [m0, m1] [(.ver, .num 1), (.box 2, .box 0 false [.int .i64 p0, .int .i64 p1, .int .i64 p2]), (.box 4, .box 0 false [.int .i64 p3, .int .i64 p4, .int .i64 p5, .own 3 (.int .i64) 0 p6, .own 3 (.int .i64) 0 p7, .own 3 (.int .i64) 0 p8]), (.box 5, .box 0 false [.own 3 (.int .i64) 0 p9, .own 3 (.int .i64) 0 p10, .own 3 (.int .i64) 0 p11]), (.tmp 1, .val false [.int .u64 p12]), (.tmp 2, .val false [.addr 2 0 0]), (.tmp 4, .val false [.addr 4 0 0]), (.tmp 5, .val false [.addr 5 0 0]), (.tmp 6, .val false [.int .i64 p13]), (.tmp 10, .val false [.int .i64 p14]), (.tmp 21, .val false [.view ⟨.box 5, 0, 2⟩ 0]), (.tmp 22, .val false [.int .i64 p15]), (.tmp 23, .val false [.int .i64 p16])]
noncomputable def P_box_shadow : Ft_box_shadow := hid (runF (X_box_shadow N P_box_view) B_box_shadow As_box_shadow R_box_shadow M_box_shadow)
theorem h_box_shadow : P_box_shadow = runF (X_box_shadow N P_box_view) B_box_shadow As_box_shadow R_box_shadow M_box_shadow := hid_eq _
noncomputable def C_box_shadow : Contract := ⟨As_box_shadow, R_box_shadow, M_box_shadow, P_box_shadow⟩
theorem s_box_shadow : Sound Tryz.prog GG 35 C_box_shadow := by
  unfold C_box_shadow; rw [h_box_shadow]
  exact sound_of_run (fn := Tryz.f35) hmix hstable (tyOK_of ttOK) (hglob (X_box_shadow N P_box_view)) (conOK_of (X := X_box_shadow N P_box_view) ⟨s_box_view, trivial⟩) (mconOK_of (X := X_box_shadow N P_box_view) trivial) (by kernel_rfl) (by kernel_rfl) (by kernel_rfl) (by kernel_rfl) (by kernel_rfl) (of_decide_eq_true (by kernel_rfl))
noncomputable def l_box_shadow_3 : Nat → Int → Int → Int → Int → Int → Int → (List Int) → (List Int) → (List Int) → (List Int) → (List Int) → (List Int) → Int → Int → Option (denL R_box_shadow) := hid (fun m0 p0 p1 p2 p3 p4 p5 p6 p7 p8 p9 p10 p11 p12 p13 => L_box_shadow_3 N P_box_view m0 p0 p1 p2 p3 p4 p5 p6 p7 p8 p9 p10 p11 p12 p13)
theorem h_box_shadow_3 : l_box_shadow_3 = fun m0 p0 p1 p2 p3 p4 p5 p6 p7 p8 p9 p10 p11 p12 p13 => L_box_shadow_3 N P_box_view m0 p0 p1 p2 p3 p4 p5 p6 p7 p8 p9 p10 p11 p12 p13 := hid_eq _
noncomputable def l_box_shadow_7 : Nat → Nat → Int → Int → Int → Int → Int → Int → (List Int) → (List Int) → (List Int) → (List Int) → (List Int) → (List Int) → Int → Int → Int → Int → Int → Option (denL R_box_shadow) := hid (fun m0 m1 p0 p1 p2 p3 p4 p5 p6 p7 p8 p9 p10 p11 p12 p13 p14 p15 p16 => L_box_shadow_7 N P_box_view m0 m1 p0 p1 p2 p3 p4 p5 p6 p7 p8 p9 p10 p11 p12 p13 p14 p15 p16)
theorem h_box_shadow_7 : l_box_shadow_7 = fun m0 m1 p0 p1 p2 p3 p4 p5 p6 p7 p8 p9 p10 p11 p12 p13 p14 p15 p16 => L_box_shadow_7 N P_box_view m0 m1 p0 p1 p2 p3 p4 p5 p6 p7 p8 p9 p10 p11 p12 p13 p14 p15 p16 := hid_eq _
noncomputable def l_box_shadow_1007 : Nat → Nat → Int → Int → Int → Int → Int → Int → (List Int) → (List Int) → (List Int) → (List Int) → (List Int) → (List Int) → Int → Int → Int → Int → Int → Option (denL R_box_shadow) := hid (fun m0 m1 p0 p1 p2 p3 p4 p5 p6 p7 p8 p9 p10 p11 p12 p13 p14 p15 p16 => L_box_shadow_1007 N P_box_view m0 m1 p0 p1 p2 p3 p4 p5 p6 p7 p8 p9 p10 p11 p12 p13 p14 p15 p16)
theorem h_box_shadow_1007 : l_box_shadow_1007 = fun m0 m1 p0 p1 p2 p3 p4 p5 p6 p7 p8 p9 p10 p11 p12 p13 p14 p15 p16 => L_box_shadow_1007 N P_box_view m0 m1 p0 p1 p2 p3 p4 p5 p6 p7 p8 p9 p10 p11 p12 p13 p14 p15 p16 := hid_eq _
noncomputable def l_box_shadow_2007 : Nat → Nat → Int → Int → Int → Int → Int → Int → (List Int) → (List Int) → (List Int) → (List Int) → (List Int) → (List Int) → Int → Int → Int → Int → Int → Option (denL R_box_shadow) := hid (fun m0 m1 p0 p1 p2 p3 p4 p5 p6 p7 p8 p9 p10 p11 p12 p13 p14 p15 p16 => L_box_shadow_2007 N P_box_view m0 m1 p0 p1 p2 p3 p4 p5 p6 p7 p8 p9 p10 p11 p12 p13 p14 p15 p16)
theorem h_box_shadow_2007 : l_box_shadow_2007 = fun m0 m1 p0 p1 p2 p3 p4 p5 p6 p7 p8 p9 p10 p11 p12 p13 p14 p15 p16 => L_box_shadow_2007 N P_box_view m0 m1 p0 p1 p2 p3 p4 p5 p6 p7 p8 p9 p10 p11 p12 p13 p14 p15 p16 := hid_eq _
theorem p_box_shadow (a0 : D_A3) (a1 : Int) : P_box_shadow (a0, a1, ()) = 
  l_box_shadow_3 N a0.1 a0.2.1 a0.2.2.1 0 0 0 ([] : List Int) ([] : List Int) ([] : List Int) ([] : List Int) ([] : List Int) ([] : List Int) a1 0 := by
  rewrite [h_box_shadow, h_box_shadow_3]
  kernel_rfl
theorem q_box_shadow_3 (m0 : Nat) (p0 : Int) (p1 : Int) (p2 : Int) (p3 : Int) (p4 : Int) (p5 : Int) (p6 : List Int) (p7 : List Int) (p8 : List Int) (p9 : List Int) (p10 : List Int) (p11 : List Int) (p12 : Int) (p13 : Int) : l_box_shadow_3 (m0 + 1) p0 p1 p2 p3 p4 p5 p6 p7 p8 p9 p10 p11 p12 p13 = 
  bif decide (p13 < 3) then
    Option.bind (P_box_view ((p0, (p1, (p2, ()))), p12, p13, ())) fun r1 =>
    bif inB p13 3 then
      bif decide (p13 = (0 : Int)) then
        bif inB p13 3 then
          bif decide (p13 = (0 : Int)) then
            l_box_shadow_7 m0 N p0 p1 p2 p3 p4 p5 p6 p7 p8 r1.1 p10 p11 p12 p13 p13 (List.length r1.1 : Int) 0
          else
            bif decide (p13 = (1 : Int)) then
              l_box_shadow_1007 m0 N p0 p1 p2 p3 p4 p5 p6 p7 p8 r1.1 p10 p11 p12 p13 p13 (List.length p10 : Int) 0
            else
              l_box_shadow_2007 m0 N p0 p1 p2 p3 p4 p5 p6 p7 p8 r1.1 p10 p11 p12 p13 p13 (List.length p11 : Int) 0
        else none
      else
        bif decide (p13 = (1 : Int)) then
          bif inB p13 3 then
            bif decide (p13 = (0 : Int)) then
              l_box_shadow_7 m0 N p0 p1 p2 p3 p4 p5 p6 p7 p8 p9 r1.1 p11 p12 p13 p13 (List.length p9 : Int) 0
            else
              bif decide (p13 = (1 : Int)) then
                l_box_shadow_1007 m0 N p0 p1 p2 p3 p4 p5 p6 p7 p8 p9 r1.1 p11 p12 p13 p13 (List.length r1.1 : Int) 0
              else
                l_box_shadow_2007 m0 N p0 p1 p2 p3 p4 p5 p6 p7 p8 p9 r1.1 p11 p12 p13 p13 (List.length p11 : Int) 0
          else none
        else
          bif inB p13 3 then
            bif decide (p13 = (0 : Int)) then
              l_box_shadow_7 m0 N p0 p1 p2 p3 p4 p5 p6 p7 p8 p9 p10 r1.1 p12 p13 p13 (List.length p9 : Int) 0
            else
              bif decide (p13 = (1 : Int)) then
                l_box_shadow_1007 m0 N p0 p1 p2 p3 p4 p5 p6 p7 p8 p9 p10 r1.1 p12 p13 p13 (List.length p10 : Int) 0
              else
                l_box_shadow_2007 m0 N p0 p1 p2 p3 p4 p5 p6 p7 p8 p9 p10 r1.1 p12 p13 p13 (List.length r1.1 : Int) 0
          else none
    else none
  else
    some ((p0, (p1, (p2, (p11, (p10, (p9, ())))))), ()) := by
  rewrite [h_box_shadow_3, h_box_shadow_7, h_box_shadow_1007, h_box_shadow_2007]
  kernel_rfl
theorem q_box_shadow_7 (m0 m1 : Nat) (p0 : Int) (p1 : Int) (p2 : Int) (p3 : Int) (p4 : Int) (p5 : Int) (p6 : List Int) (p7 : List Int) (p8 : List Int) (p9 : List Int) (p10 : List Int) (p11 : List Int) (p12 : Int) (p13 : Int) (p14 : Int) (p15 : Int) (p16 : Int) : l_box_shadow_7 m0 (m1 + 1) p0 p1 p2 p3 p4 p5 p6 p7 p8 p9 p10 p11 p12 p13 p14 p15 p16 = 
  bif decide (p16 < p15) then
    bif inB p16 (List.length p9) then
      bif inB p13 3 then
        bif decide (p13 = (0 : Int)) then
          bif inB p16 (List.length p9) then
            l_box_shadow_7 m0 m1 p0 p1 p2 p3 p4 p5 p6 p7 p8 (List.set p9 (Int.toNat p16) (bif decide (1 < (nth ((.int .i64) : Ty) p9 p16)) then 1 else (nth ((.int .i64) : Ty) p9 p16))) p10 p11 p12 p13 p14 p15 (IntKind.wrap .i64 (p16 + 1))
          else none
        else
          bif decide (p13 = (1 : Int)) then
            bif inB p16 (List.length p10) then
              l_box_shadow_7 m0 m1 p0 p1 p2 p3 p4 p5 p6 p7 p8 p9 (List.set p10 (Int.toNat p16) (bif decide (1 < (nth ((.int .i64) : Ty) p9 p16)) then 1 else (nth ((.int .i64) : Ty) p9 p16))) p11 p12 p13 p14 p15 (IntKind.wrap .i64 (p16 + 1))
            else none
          else
            bif inB p16 (List.length p11) then
              l_box_shadow_7 m0 m1 p0 p1 p2 p3 p4 p5 p6 p7 p8 p9 p10 (List.set p11 (Int.toNat p16) (bif decide (1 < (nth ((.int .i64) : Ty) p9 p16)) then 1 else (nth ((.int .i64) : Ty) p9 p16))) p12 p13 p14 p15 (IntKind.wrap .i64 (p16 + 1))
            else none
      else none
    else none
  else
    l_box_shadow_3 m0 p0 p1 p2 p3 p4 p5 p6 p7 p8 p9 p10 p11 p12 (IntKind.wrap .i64 (p14 + 1)) := by
  rewrite [h_box_shadow_3, h_box_shadow_7]
  kernel_rfl
theorem q_box_shadow_1007 (m0 m1 : Nat) (p0 : Int) (p1 : Int) (p2 : Int) (p3 : Int) (p4 : Int) (p5 : Int) (p6 : List Int) (p7 : List Int) (p8 : List Int) (p9 : List Int) (p10 : List Int) (p11 : List Int) (p12 : Int) (p13 : Int) (p14 : Int) (p15 : Int) (p16 : Int) : l_box_shadow_1007 m0 (m1 + 1) p0 p1 p2 p3 p4 p5 p6 p7 p8 p9 p10 p11 p12 p13 p14 p15 p16 = 
  bif decide (p16 < p15) then
    bif inB p16 (List.length p10) then
      bif inB p13 3 then
        bif decide (p13 = (0 : Int)) then
          bif inB p16 (List.length p9) then
            l_box_shadow_1007 m0 m1 p0 p1 p2 p3 p4 p5 p6 p7 p8 (List.set p9 (Int.toNat p16) (bif decide (1 < (nth ((.int .i64) : Ty) p10 p16)) then 1 else (nth ((.int .i64) : Ty) p10 p16))) p10 p11 p12 p13 p14 p15 (IntKind.wrap .i64 (p16 + 1))
          else none
        else
          bif decide (p13 = (1 : Int)) then
            bif inB p16 (List.length p10) then
              l_box_shadow_1007 m0 m1 p0 p1 p2 p3 p4 p5 p6 p7 p8 p9 (List.set p10 (Int.toNat p16) (bif decide (1 < (nth ((.int .i64) : Ty) p10 p16)) then 1 else (nth ((.int .i64) : Ty) p10 p16))) p11 p12 p13 p14 p15 (IntKind.wrap .i64 (p16 + 1))
            else none
          else
            bif inB p16 (List.length p11) then
              l_box_shadow_1007 m0 m1 p0 p1 p2 p3 p4 p5 p6 p7 p8 p9 p10 (List.set p11 (Int.toNat p16) (bif decide (1 < (nth ((.int .i64) : Ty) p10 p16)) then 1 else (nth ((.int .i64) : Ty) p10 p16))) p12 p13 p14 p15 (IntKind.wrap .i64 (p16 + 1))
            else none
      else none
    else none
  else
    l_box_shadow_3 m0 p0 p1 p2 p3 p4 p5 p6 p7 p8 p9 p10 p11 p12 (IntKind.wrap .i64 (p14 + 1)) := by
  rewrite [h_box_shadow_3, h_box_shadow_1007]
  kernel_rfl
theorem q_box_shadow_2007 (m0 m1 : Nat) (p0 : Int) (p1 : Int) (p2 : Int) (p3 : Int) (p4 : Int) (p5 : Int) (p6 : List Int) (p7 : List Int) (p8 : List Int) (p9 : List Int) (p10 : List Int) (p11 : List Int) (p12 : Int) (p13 : Int) (p14 : Int) (p15 : Int) (p16 : Int) : l_box_shadow_2007 m0 (m1 + 1) p0 p1 p2 p3 p4 p5 p6 p7 p8 p9 p10 p11 p12 p13 p14 p15 p16 = 
  bif decide (p16 < p15) then
    bif inB p16 (List.length p11) then
      bif inB p13 3 then
        bif decide (p13 = (0 : Int)) then
          bif inB p16 (List.length p9) then
            l_box_shadow_2007 m0 m1 p0 p1 p2 p3 p4 p5 p6 p7 p8 (List.set p9 (Int.toNat p16) (bif decide (1 < (nth ((.int .i64) : Ty) p11 p16)) then 1 else (nth ((.int .i64) : Ty) p11 p16))) p10 p11 p12 p13 p14 p15 (IntKind.wrap .i64 (p16 + 1))
          else none
        else
          bif decide (p13 = (1 : Int)) then
            bif inB p16 (List.length p10) then
              l_box_shadow_2007 m0 m1 p0 p1 p2 p3 p4 p5 p6 p7 p8 p9 (List.set p10 (Int.toNat p16) (bif decide (1 < (nth ((.int .i64) : Ty) p11 p16)) then 1 else (nth ((.int .i64) : Ty) p11 p16))) p11 p12 p13 p14 p15 (IntKind.wrap .i64 (p16 + 1))
            else none
          else
            bif inB p16 (List.length p11) then
              l_box_shadow_2007 m0 m1 p0 p1 p2 p3 p4 p5 p6 p7 p8 p9 p10 (List.set p11 (Int.toNat p16) (bif decide (1 < (nth ((.int .i64) : Ty) p11 p16)) then 1 else (nth ((.int .i64) : Ty) p11 p16))) p12 p13 p14 p15 (IntKind.wrap .i64 (p16 + 1))
            else none
      else none
    else none
  else
    l_box_shadow_3 m0 p0 p1 p2 p3 p4 p5 p6 p7 p8 p9 p10 p11 p12 (IntKind.wrap .i64 (p14 + 1)) := by
  rewrite [h_box_shadow_3, h_box_shadow_2007]
  kernel_rfl

/- 79: (loop.example/g01166/impl.box).index -/
abbrev As_box_index : List ATy := [.data true T_A3, .data true T_A3]
abbrev R_box_index : List (Bool × Ty) := [(false, (.int .i64))]
abbrev M_box_index : List RMode := []
abbrev Ft_box_index : Type := D_A3 × D_A3 × Unit → Option (Int × Unit)
noncomputable def X_box_index (n : Nat) : Ctx := { types := TT, globals := [], con := [], keep := [], results := [.tmp 4], ntmps := 19, n := n }
noncomputable def B_box_index : Code := (Tryz.f79.body).getD .skip
noncomputable def P_box_index : Ft_box_index := hid (runF (X_box_index N) B_box_index As_box_index R_box_index M_box_index)
theorem h_box_index : P_box_index = runF (X_box_index N) B_box_index As_box_index R_box_index M_box_index := hid_eq _
noncomputable def C_box_index : Contract := ⟨As_box_index, R_box_index, M_box_index, P_box_index⟩
theorem s_box_index : Sound Tryz.prog GG 79 C_box_index := by
  unfold C_box_index; rw [h_box_index]
  exact sound_of_run (fn := Tryz.f79) hmix hstable (tyOK_of ttOK) (hglob (X_box_index N)) (conOK_of (X := X_box_index N) trivial) (mconOK_of (X := X_box_index N) trivial) (by kernel_rfl) (by kernel_rfl) (by kernel_rfl) (by kernel_rfl) (by kernel_rfl) (of_decide_eq_true (by kernel_rfl))
theorem p_box_index (a0 : D_A3) (a1 : D_A3) : P_box_index (a0, a1, ()) = 
  some ((IntKind.wrap .i64 ((IntKind.wrap .i64 ((IntKind.wrap .i64 ((IntKind.wrap .i64 (a1.1 * a0.2.1)) + a1.2.1)) * a0.2.2.1)) + a1.2.2.1)), ()) := by
  rewrite [h_box_index]
  kernel_rfl

/- 36: (loop.example/g01166/impl.Heap).cubes -/
abbrev As_Heap_cubes : List ATy := [.data true T_Heap]
abbrev R_Heap_cubes : List (Bool × Ty) := [(false, (.int .u64))]
abbrev M_Heap_cubes : List RMode := []
abbrev Ft_Heap_cubes : Type := D_Heap × Unit → Option (Int × Unit)
noncomputable def X_Heap_cubes (n : Nat) (F_Heap_box : Ft_Heap_box) (F_box_index : Ft_box_index) : Ctx := { types := TT, globals := [], con := [(34, ⟨As_Heap_box, R_Heap_box, M_Heap_box, F_Heap_box⟩), (79, ⟨As_box_index, R_box_index, M_box_index, F_box_index⟩)], keep := [(3, ⟨[.box 1, .tmp 1, .tmp 3, .tmp 7, .tmp 8, .tmp 9], []⟩)], results := [.tmp 2], ntmps := 22, n := n }
noncomputable def B_Heap_cubes : Code := (Tryz.f36.body).getD .skip
noncomputable def L_Heap_cubes_3 (n : Nat) (F_Heap_box : Ft_Heap_box) (F_box_index : Ft_box_index) (m0 : Nat) (p0 : Int) (p1 : Int) (p2 : Int) (p3 : List D_A3) (p4 : Int) (p5 : List D_A3) (p6 : Int) (p7 : Int) : Option (denL R_Heap_cubes) := loopF (X_Heap_cubes n F_Heap_box F_box_index) B_Heap_cubes R_Heap_cubes M_Heap_cubes 3 [m0] [(.ver, .num 1), (.box 1, .box 0 false [.int .i64 p0, .int .i64 p1, .int .i64 p2, .imm T_A3 p3 (some 3)]), (.tmp 1, .val false [.addr 1 0 0]), (.tmp 3, .val false [.int .u64 p4]), (.tmp 7, .val false [.imm T_A3 p5 (some 3)]), (.tmp 8, .val false [.int .i64 p6]), (.tmp 9, .val false [.int .i64 p7])]
noncomputable def P_Heap_cubes : Ft_Heap_cubes := hid (runF (X_Heap_cubes N P_Heap_box P_box_index) B_Heap_cubes As_Heap_cubes R_Heap_cubes M_Heap_cubes)
theorem h_Heap_cubes : P_Heap_cubes = runF (X_Heap_cubes N P_Heap_box P_box_index) B_Heap_cubes As_Heap_cubes R_Heap_cubes M_Heap_cubes := hid_eq _
noncomputable def C_Heap_cubes : Contract := ⟨As_Heap_cubes, R_Heap_cubes, M_Heap_cubes, P_Heap_cubes⟩
theorem s_Heap_cubes : Sound Tryz.prog GG 36 C_Heap_cubes := by
  unfold C_Heap_cubes; rw [h_Heap_cubes]
  exact sound_of_run (fn := Tryz.f36) hmix hstable (tyOK_of ttOK) (hglob (X_Heap_cubes N P_Heap_box P_box_index)) (conOK_of (X := X_Heap_cubes N P_Heap_box P_box_index) ⟨s_Heap_box, s_box_index, trivial⟩) (mconOK_of (X := X_Heap_cubes N P_Heap_box P_box_index) trivial) (by kernel_rfl) (by kernel_rfl) (by kernel_rfl) (by kernel_rfl) (by kernel_rfl) (of_decide_eq_true (by kernel_rfl))
noncomputable def l_Heap_cubes_3 : Nat → Int → Int → Int → (List D_A3) → Int → (List D_A3) → Int → Int → Option (denL R_Heap_cubes) := hid (fun m0 p0 p1 p2 p3 p4 p5 p6 p7 => L_Heap_cubes_3 N P_Heap_box P_box_index m0 p0 p1 p2 p3 p4 p5 p6 p7)
theorem h_Heap_cubes_3 : l_Heap_cubes_3 = fun m0 p0 p1 p2 p3 p4 p5 p6 p7 => L_Heap_cubes_3 N P_Heap_box P_box_index m0 p0 p1 p2 p3 p4 p5 p6 p7 := hid_eq _
theorem p_Heap_cubes (a0 : D_Heap) : P_Heap_cubes (a0, ()) = 
  l_Heap_cubes_3 N a0.1 a0.2.1 a0.2.2.1 a0.2.2.2.1 0 a0.2.2.2.1 (List.length a0.2.2.2.1 : Int) 0 := by
  rewrite [h_Heap_cubes, h_Heap_cubes_3]
  kernel_rfl
theorem q_Heap_cubes_3 (m0 : Nat) (p0 : Int) (p1 : Int) (p2 : Int) (p3 : List D_A3) (p4 : Int) (p5 : List D_A3) (p6 : Int) (p7 : Int) : l_Heap_cubes_3 (m0 + 1) p0 p1 p2 p3 p4 p5 p6 p7 = 
  bif decide (p7 < p6) then
    bif inB p7 (List.length p5) then
      Option.bind (P_Heap_box ((p0, (p1, (p2, (p3, ())))), ())) fun r2 =>
      Option.bind (P_box_index (r2.1, (nth T_A3 p5 p7), ())) fun r3 =>
      bif decide ((0 : Int) ≤ r3.1) then
        l_Heap_cubes_3 m0 p0 p1 p2 p3 (intBits .or .u64 p4 (shlI .u64 1 r3.1)) p5 p6 (IntKind.wrap .i64 (p7 + 1))
      else none
    else none
  else
    some (p4, ()) := by
  rewrite [h_Heap_cubes_3]
  kernel_rfl

/- 7: loop.example/g01166/impl.ShadowGap -/
abbrev As_impl_ShadowGap : List ATy := [.data true T_Bench]
abbrev R_impl_ShadowGap : List (Bool × Ty) := [(false, (.int .i64)), (false, .bool)]
abbrev M_impl_ShadowGap : List RMode := []
abbrev Ft_impl_ShadowGap : Type := D_Bench × Unit → Option (Int × Bool × Unit)
noncomputable def X_impl_ShadowGap (n : Nat) (F_impl_LineBound : Ft_impl_LineBound) (F_impl_IsBench : Ft_impl_IsBench) (F_Heap_box : Ft_Heap_box) (F_box_shadow : Ft_box_shadow) (F_Heap_cubes : Ft_Heap_cubes) : Ctx := { types := TT, globals := [], con := [(11, ⟨As_impl_LineBound, R_impl_LineBound, M_impl_LineBound, F_impl_LineBound⟩), (33, ⟨As_impl_IsBench, R_impl_IsBench, M_impl_IsBench, F_impl_IsBench⟩), (34, ⟨As_Heap_box, R_Heap_box, M_Heap_box, F_Heap_box⟩), (35, ⟨As_box_shadow, R_box_shadow, M_box_shadow, F_box_shadow⟩), (36, ⟨As_Heap_cubes, R_Heap_cubes, M_Heap_cubes, F_Heap_cubes⟩)], keep := [], results := [.tmp 2, .tmp 3], ntmps := 26, n := n }
noncomputable def B_impl_ShadowGap : Code := (Tryz.f7.body).getD .skip
noncomputable def P_impl_ShadowGap : Ft_impl_ShadowGap := hid (runF (X_impl_ShadowGap N P_impl_LineBound P_impl_IsBench P_Heap_box P_box_shadow P_Heap_cubes) B_impl_ShadowGap As_impl_ShadowGap R_impl_ShadowGap M_impl_ShadowGap)
theorem h_impl_ShadowGap : P_impl_ShadowGap = runF (X_impl_ShadowGap N P_impl_LineBound P_impl_IsBench P_Heap_box P_box_shadow P_Heap_cubes) B_impl_ShadowGap As_impl_ShadowGap R_impl_ShadowGap M_impl_ShadowGap := hid_eq _
noncomputable def C_impl_ShadowGap : Contract := ⟨As_impl_ShadowGap, R_impl_ShadowGap, M_impl_ShadowGap, P_impl_ShadowGap⟩
theorem s_impl_ShadowGap : Sound Tryz.prog GG 7 C_impl_ShadowGap := by
  unfold C_impl_ShadowGap; rw [h_impl_ShadowGap]
  exact sound_of_run (fn := Tryz.f7) hmix hstable (tyOK_of ttOK) (hglob (X_impl_ShadowGap N P_impl_LineBound P_impl_IsBench P_Heap_box P_box_shadow P_Heap_cubes)) (conOK_of (X := X_impl_ShadowGap N P_impl_LineBound P_impl_IsBench P_Heap_box P_box_shadow P_Heap_cubes) ⟨s_impl_LineBound, s_impl_IsBench, s_Heap_box, s_box_shadow, s_Heap_cubes, trivial⟩) (mconOK_of (X := X_impl_ShadowGap N P_impl_LineBound P_impl_IsBench P_Heap_box P_box_shadow P_Heap_cubes) trivial) (by kernel_rfl) (by kernel_rfl) (by kernel_rfl) (by kernel_rfl) (by kernel_rfl) (of_decide_eq_true (by kernel_rfl))
theorem p_impl_ShadowGap (a0 : D_Bench) : P_impl_ShadowGap (a0, ()) = 
  Option.bind (P_impl_IsBench (a0, ())) fun r0 =>
  bif !r0.1 then
    some (0, false, ())
  else
    Option.bind (P_Heap_box (a0.1, ())) fun r2 =>
    Option.bind (P_Heap_cubes (a0.1, ())) fun r3 =>
    Option.bind (P_box_shadow (r2.1, r3.1, ())) fun r4 =>
    Option.bind (P_impl_LineBound (r4.1, ())) fun r5 =>
    some ((IntKind.wrap .i64 ((List.length a0.1.2.2.2.1 : Int) - r5.1)), true, ()) := by
  rewrite [h_impl_ShadowGap]
  kernel_rfl

/- 104: loop.example/g01166/spec.l3Ones -/
abbrev As_spec_l3Ones : List ATy := [.data false (.sl (.int .i64)), .data false (.int .i64)]
abbrev R_spec_l3Ones : List (Bool × Ty) := [(false, .bool)]
abbrev M_spec_l3Ones : List RMode := []
abbrev Ft_spec_l3Ones : Type := (List Int) × Int × Unit → Option (Bool × Unit)
noncomputable def X_spec_l3Ones (n : Nat) (F_spec_l1In : Ft_spec_l1In) : Ctx := { types := TT, globals := [], con := [(67, ⟨As_spec_l1In, R_spec_l1In, M_spec_l1In, F_spec_l1In⟩)], keep := [(2, ⟨[.tmp 0, .tmp 1, .tmp 5], []⟩)], results := [.tmp 4], ntmps := 22, n := n }
noncomputable def B_spec_l3Ones : Code := (Tryz.f104.body).getD .skip
noncomputable def L_spec_l3Ones_2 (n : Nat) (F_spec_l1In : Ft_spec_l1In) (m0 : Nat) (p0 : List Int) (p1 : Int) (p2 : Int) : Option (denL R_spec_l3Ones) := loopF (X_spec_l3Ones n F_spec_l1In) B_spec_l3Ones R_spec_l3Ones M_spec_l3Ones 2 [m0] [(.ver, .num 1), (.tmp 0, .val false [.imm (.int .i64) p0 (some 0)]), (.tmp 1, .val false [.int .i64 p1]), (.tmp 5, .val false [.int .i64 p2])]
noncomputable def P_spec_l3Ones : Ft_spec_l3Ones := hid (runF (X_spec_l3Ones N P_spec_l1In) B_spec_l3Ones As_spec_l3Ones R_spec_l3Ones M_spec_l3Ones)
theorem h_spec_l3Ones : P_spec_l3Ones = runF (X_spec_l3Ones N P_spec_l1In) B_spec_l3Ones As_spec_l3Ones R_spec_l3Ones M_spec_l3Ones := hid_eq _
noncomputable def C_spec_l3Ones : Contract := ⟨As_spec_l3Ones, R_spec_l3Ones, M_spec_l3Ones, P_spec_l3Ones⟩
theorem s_spec_l3Ones : Sound Tryz.prog GG 104 C_spec_l3Ones := by
  unfold C_spec_l3Ones; rw [h_spec_l3Ones]
  exact sound_of_run (fn := Tryz.f104) hmix hstable (tyOK_of ttOK) (hglob (X_spec_l3Ones N P_spec_l1In)) (conOK_of (X := X_spec_l3Ones N P_spec_l1In) ⟨s_spec_l1In, trivial⟩) (mconOK_of (X := X_spec_l3Ones N P_spec_l1In) trivial) (by kernel_rfl) (by kernel_rfl) (by kernel_rfl) (by kernel_rfl) (by kernel_rfl) (of_decide_eq_true (by kernel_rfl))
noncomputable def l_spec_l3Ones_2 : Nat → (List Int) → Int → Int → Option (denL R_spec_l3Ones) := hid (fun m0 p0 p1 p2 => L_spec_l3Ones_2 N P_spec_l1In m0 p0 p1 p2)
theorem h_spec_l3Ones_2 : l_spec_l3Ones_2 = fun m0 p0 p1 p2 => L_spec_l3Ones_2 N P_spec_l1In m0 p0 p1 p2 := hid_eq _
theorem p_spec_l3Ones (a0 : List Int) (a1 : Int) : P_spec_l3Ones (a0, a1, ()) = 
  l_spec_l3Ones_2 N a0 a1 0 := by
  rewrite [h_spec_l3Ones, h_spec_l3Ones_2]
  kernel_rfl
theorem q_spec_l3Ones_2 (m0 : Nat) (p0 : List Int) (p1 : Int) (p2 : Int) : l_spec_l3Ones_2 (m0 + 1) p0 p1 p2 = 
  bif decide (p2 < (List.length p0 : Int)) then
    bif inB p2 (List.length p0) then
      Option.bind (P_spec_l1In ((nth ((.int .i64) : Ty) p0 p2), 0, 1, ())) fun r2 =>
      bif !r2.1 then
        some (false, ())
      else
        l_spec_l3Ones_2 m0 p0 p1 (IntKind.wrap .i64 (p2 + 1))
    else none
  else
    some (decide ((List.length p0 : Int) = p1), ()) := by
  rewrite [h_spec_l3Ones_2]
  kernel_rfl

/- 57: loop.example/g01166/spec.l3Shadow -/
abbrev As_spec_l3Shadow : List ATy := [.data true T_Shadow]
abbrev R_spec_l3Shadow : List (Bool × Ty) := [(false, .bool)]
abbrev M_spec_l3Shadow : List RMode := []
abbrev Ft_spec_l3Shadow : Type := D_Shadow × Unit → Option (Bool × Unit)
noncomputable def X_spec_l3Shadow (n : Nat) (F_spec_l2Sides : Ft_spec_l2Sides) (F_spec_l3Ones : Ft_spec_l3Ones) : Ctx := { types := TT, globals := [], con := [(103, ⟨As_spec_l2Sides, R_spec_l2Sides, M_spec_l2Sides, F_spec_l2Sides⟩), (104, ⟨As_spec_l3Ones, R_spec_l3Ones, M_spec_l3Ones, F_spec_l3Ones⟩)], keep := [], results := [.tmp 2], ntmps := 40, n := n }
noncomputable def B_spec_l3Shadow : Code := (Tryz.f57.body).getD .skip
noncomputable def P_spec_l3Shadow : Ft_spec_l3Shadow := hid (runF (X_spec_l3Shadow N P_spec_l2Sides P_spec_l3Ones) B_spec_l3Shadow As_spec_l3Shadow R_spec_l3Shadow M_spec_l3Shadow)
theorem h_spec_l3Shadow : P_spec_l3Shadow = runF (X_spec_l3Shadow N P_spec_l2Sides P_spec_l3Ones) B_spec_l3Shadow As_spec_l3Shadow R_spec_l3Shadow M_spec_l3Shadow := hid_eq _
noncomputable def C_spec_l3Shadow : Contract := ⟨As_spec_l3Shadow, R_spec_l3Shadow, M_spec_l3Shadow, P_spec_l3Shadow⟩
theorem s_spec_l3Shadow : Sound Tryz.prog GG 57 C_spec_l3Shadow := by
  unfold C_spec_l3Shadow; rw [h_spec_l3Shadow]
  exact sound_of_run (fn := Tryz.f57) hmix hstable (tyOK_of ttOK) (hglob (X_spec_l3Shadow N P_spec_l2Sides P_spec_l3Ones)) (conOK_of (X := X_spec_l3Shadow N P_spec_l2Sides P_spec_l3Ones) ⟨s_spec_l2Sides, s_spec_l3Ones, trivial⟩) (mconOK_of (X := X_spec_l3Shadow N P_spec_l2Sides P_spec_l3Ones) trivial) (by kernel_rfl) (by kernel_rfl) (by kernel_rfl) (by kernel_rfl) (by kernel_rfl) (of_decide_eq_true (by kernel_rfl))
theorem p_spec_l3Shadow (a0 : D_Shadow) : P_spec_l3Shadow (a0, ()) = 
  Option.bind (P_spec_l2Sides (a0.1, a0.2.1, a0.2.2.1, ())) fun r0 =>
  bif r0.1 then
    Option.bind (P_spec_l3Ones (a0.2.2.2.1, (IntKind.wrap .i64 (a0.1 * a0.2.1)), ())) fun r2 =>
    bif r2.1 then
      Option.bind (P_spec_l3Ones (a0.2.2.2.2.1, (IntKind.wrap .i64 (a0.1 * a0.2.2.1)), ())) fun r4 =>
      bif r4.1 then
        Option.bind (P_spec_l3Ones (a0.2.2.2.2.2.1, (IntKind.wrap .i64 (a0.2.1 * a0.2.2.1)), ())) fun r6 =>
        some (r6.1, ())
      else
        some (false, ())
    else
      some (false, ())
  else
    some (false, ()) := by
  rewrite [h_spec_l3Shadow]
  kernel_rfl

/- 119: loop.example/g01166/spec.l3Lit -/
abbrev As_spec_l3Lit : List ATy := [.data false (.sl (.int .i64))]
abbrev R_spec_l3Lit : List (Bool × Ty) := [(false, (.int .i64))]
abbrev M_spec_l3Lit : List RMode := []
abbrev Ft_spec_l3Lit : Type := (List Int) × Unit → Option (Int × Unit)
noncomputable def X_spec_l3Lit (n : Nat) : Ctx := { types := TT, globals := [], con := [], keep := [(3, ⟨[.tmp 0, .tmp 3, .tmp 4], []⟩)], results := [.tmp 2], ntmps := 18, n := n }
noncomputable def B_spec_l3Lit : Code := (Tryz.f119.body).getD .skip
noncomputable def L_spec_l3Lit_3 (n : Nat) (m0 : Nat) (p0 : List Int) (p1 : Int) (p2 : Int) : Option (denL R_spec_l3Lit) := loopF (X_spec_l3Lit n) B_spec_l3Lit R_spec_l3Lit M_spec_l3Lit 3 [m0] [(.ver, .num 1), (.tmp 0, .val false [.imm (.int .i64) p0 (some 0)]), (.tmp 3, .val false [.int .i64 p1]), (.tmp 4, .val false [.int .i64 p2])]
noncomputable def P_spec_l3Lit : Ft_spec_l3Lit := hid (runF (X_spec_l3Lit N) B_spec_l3Lit As_spec_l3Lit R_spec_l3Lit M_spec_l3Lit)
theorem h_spec_l3Lit : P_spec_l3Lit = runF (X_spec_l3Lit N) B_spec_l3Lit As_spec_l3Lit R_spec_l3Lit M_spec_l3Lit := hid_eq _
noncomputable def C_spec_l3Lit : Contract := ⟨As_spec_l3Lit, R_spec_l3Lit, M_spec_l3Lit, P_spec_l3Lit⟩
theorem s_spec_l3Lit : Sound Tryz.prog GG 119 C_spec_l3Lit := by
  unfold C_spec_l3Lit; rw [h_spec_l3Lit]
  exact sound_of_run (fn := Tryz.f119) hmix hstable (tyOK_of ttOK) (hglob (X_spec_l3Lit N)) (conOK_of (X := X_spec_l3Lit N) trivial) (mconOK_of (X := X_spec_l3Lit N) trivial) (by kernel_rfl) (by kernel_rfl) (by kernel_rfl) (by kernel_rfl) (by kernel_rfl) (of_decide_eq_true (by kernel_rfl))
noncomputable def l_spec_l3Lit_3 : Nat → (List Int) → Int → Int → Option (denL R_spec_l3Lit) := hid (fun m0 p0 p1 p2 => L_spec_l3Lit_3 N m0 p0 p1 p2)
theorem h_spec_l3Lit_3 : l_spec_l3Lit_3 = fun m0 p0 p1 p2 => L_spec_l3Lit_3 N m0 p0 p1 p2 := hid_eq _
theorem p_spec_l3Lit (a0 : List Int) : P_spec_l3Lit (a0, ()) = 
  l_spec_l3Lit_3 N a0 0 0 := by
  rewrite [h_spec_l3Lit, h_spec_l3Lit_3]
  kernel_rfl
theorem q_spec_l3Lit_3 (m0 : Nat) (p0 : List Int) (p1 : Int) (p2 : Int) : l_spec_l3Lit_3 (m0 + 1) p0 p1 p2 = 
  bif decide (p2 < (List.length p0 : Int)) then
    bif inB p2 (List.length p0) then
      l_spec_l3Lit_3 m0 p0 (IntKind.wrap .i64 (p1 + (nth ((.int .i64) : Ty) p0 p2))) (IntKind.wrap .i64 (p2 + 1))
    else none
  else
    some (p1, ()) := by
  rewrite [h_spec_l3Lit_3]
  kernel_rfl

/- 84: loop.example/g01166/spec.LineBound -/
abbrev As_spec_LineBound : List ATy := [.data true T_Shadow]
abbrev R_spec_LineBound : List (Bool × Ty) := [(false, (.int .i64)), (false, .bool)]
abbrev M_spec_LineBound : List RMode := []
abbrev Ft_spec_LineBound : Type := D_Shadow × Unit → Option (Int × Bool × Unit)
noncomputable def X_spec_LineBound (n : Nat) (F_spec_l3Shadow : Ft_spec_l3Shadow) (F_spec_l1Most : Ft_spec_l1Most) (F_spec_l3Lit : Ft_spec_l3Lit) : Ctx := { types := TT, globals := [], con := [(57, ⟨As_spec_l3Shadow, R_spec_l3Shadow, M_spec_l3Shadow, F_spec_l3Shadow⟩), (118, ⟨As_spec_l1Most, R_spec_l1Most, M_spec_l1Most, F_spec_l1Most⟩), (119, ⟨As_spec_l3Lit, R_spec_l3Lit, M_spec_l3Lit, F_spec_l3Lit⟩)], keep := [], results := [.tmp 2, .tmp 3], ntmps := 18, n := n }
noncomputable def B_spec_LineBound : Code := (Tryz.f84.body).getD .skip
noncomputable def P_spec_LineBound : Ft_spec_LineBound := hid (runF (X_spec_LineBound N P_spec_l3Shadow P_spec_l1Most P_spec_l3Lit) B_spec_LineBound As_spec_LineBound R_spec_LineBound M_spec_LineBound)
theorem h_spec_LineBound : P_spec_LineBound = runF (X_spec_LineBound N P_spec_l3Shadow P_spec_l1Most P_spec_l3Lit) B_spec_LineBound As_spec_LineBound R_spec_LineBound M_spec_LineBound := hid_eq _
noncomputable def C_spec_LineBound : Contract := ⟨As_spec_LineBound, R_spec_LineBound, M_spec_LineBound, P_spec_LineBound⟩
theorem s_spec_LineBound : Sound Tryz.prog GG 84 C_spec_LineBound := by
  unfold C_spec_LineBound; rw [h_spec_LineBound]
  exact sound_of_run (fn := Tryz.f84) hmix hstable (tyOK_of ttOK) (hglob (X_spec_LineBound N P_spec_l3Shadow P_spec_l1Most P_spec_l3Lit)) (conOK_of (X := X_spec_LineBound N P_spec_l3Shadow P_spec_l1Most P_spec_l3Lit) ⟨s_spec_l3Shadow, s_spec_l1Most, s_spec_l3Lit, trivial⟩) (mconOK_of (X := X_spec_LineBound N P_spec_l3Shadow P_spec_l1Most P_spec_l3Lit) trivial) (by kernel_rfl) (by kernel_rfl) (by kernel_rfl) (by kernel_rfl) (by kernel_rfl) (of_decide_eq_true (by kernel_rfl))
theorem p_spec_LineBound (a0 : D_Shadow) : P_spec_LineBound (a0, ()) = 
  Option.bind (P_spec_l3Shadow (a0, ())) fun r0 =>
  bif !r0.1 then
    some (0, false, ())
  else
    Option.bind (P_spec_l3Lit (a0.2.2.2.1, ())) fun r2 =>
    Option.bind (P_spec_l3Lit (a0.2.2.2.2.1, ())) fun r3 =>
    Option.bind (P_spec_l3Lit (a0.2.2.2.2.2.1, ())) fun r4 =>
    Option.bind (P_spec_l1Most (r3.1, r4.1, ())) fun r5 =>
    Option.bind (P_spec_l1Most (r2.1, r5.1, ())) fun r6 =>
    some (r6.1, true, ()) := by
  rewrite [h_spec_LineBound]
  kernel_rfl

/- 142: loop.example/g01166/spec.l2Ones -/
abbrev As_spec_l2Ones : List ATy := [.data false (.sl (.int .i64))]
abbrev R_spec_l2Ones : List (Bool × Ty) := [(false, (.sl (.int .i64)))]
abbrev M_spec_l2Ones : List RMode := [.own 3]
abbrev Ft_spec_l2Ones : Type := (List Int) × Unit → Option ((List Int) × Unit)
noncomputable def X_spec_l2Ones (n : Nat) (F_spec_l1Least : Ft_spec_l1Least) : Ctx := { types := TT, globals := [], con := [(139, ⟨As_spec_l1Least, R_spec_l1Least, M_spec_l1Least, F_spec_l1Least⟩)], keep := [(3, ⟨[.tmp 0, .tmp 3, .tmp 4], []⟩)], results := [.tmp 2], ntmps := 21, n := n }
noncomputable def B_spec_l2Ones : Code := (Tryz.f142.body).getD .skip
noncomputable def L_spec_l2Ones_3 (n : Nat) (F_spec_l1Least : Ft_spec_l1Least) (m0 : Nat) (p0 : List Int) (p1 : List Int) (p2 : Int) : Option (denL R_spec_l2Ones) := loopF (X_spec_l2Ones n F_spec_l1Least) B_spec_l2Ones R_spec_l2Ones M_spec_l2Ones 3 [m0] [(.ver, .num 1), (.tmp 0, .val false [.imm (.int .i64) p0 (some 0)]), (.tmp 3, .val false [.own 3 (.int .i64) 0 p1]), (.tmp 4, .val false [.int .i64 p2])]
noncomputable def P_spec_l2Ones : Ft_spec_l2Ones := hid (runF (X_spec_l2Ones N P_spec_l1Least) B_spec_l2Ones As_spec_l2Ones R_spec_l2Ones M_spec_l2Ones)
theorem h_spec_l2Ones : P_spec_l2Ones = runF (X_spec_l2Ones N P_spec_l1Least) B_spec_l2Ones As_spec_l2Ones R_spec_l2Ones M_spec_l2Ones := hid_eq _
noncomputable def C_spec_l2Ones : Contract := ⟨As_spec_l2Ones, R_spec_l2Ones, M_spec_l2Ones, P_spec_l2Ones⟩
theorem s_spec_l2Ones : Sound Tryz.prog GG 142 C_spec_l2Ones := by
  unfold C_spec_l2Ones; rw [h_spec_l2Ones]
  exact sound_of_run (fn := Tryz.f142) hmix hstable (tyOK_of ttOK) (hglob (X_spec_l2Ones N P_spec_l1Least)) (conOK_of (X := X_spec_l2Ones N P_spec_l1Least) ⟨s_spec_l1Least, trivial⟩) (mconOK_of (X := X_spec_l2Ones N P_spec_l1Least) trivial) (by kernel_rfl) (by kernel_rfl) (by kernel_rfl) (by kernel_rfl) (by kernel_rfl) (of_decide_eq_true (by kernel_rfl))
noncomputable def l_spec_l2Ones_3 : Nat → (List Int) → (List Int) → Int → Option (denL R_spec_l2Ones) := hid (fun m0 p0 p1 p2 => L_spec_l2Ones_3 N P_spec_l1Least m0 p0 p1 p2)
theorem h_spec_l2Ones_3 : l_spec_l2Ones_3 = fun m0 p0 p1 p2 => L_spec_l2Ones_3 N P_spec_l1Least m0 p0 p1 p2 := hid_eq _
theorem p_spec_l2Ones (a0 : List Int) : P_spec_l2Ones (a0, ()) = 
  l_spec_l2Ones_3 N a0 ([] : List Int) 0 := by
  rewrite [h_spec_l2Ones, h_spec_l2Ones_3]
  kernel_rfl
theorem q_spec_l2Ones_3 (m0 : Nat) (p0 : List Int) (p1 : List Int) (p2 : Int) : l_spec_l2Ones_3 (m0 + 1) p0 p1 p2 = 
  bif decide (p2 < (List.length p0 : Int)) then
    bif inB p2 (List.length p0) then
      Option.bind (P_spec_l1Least ((nth ((.int .i64) : Ty) p0 p2), 1, ())) fun r2 =>
      bif (decide (((List.length p1) + (List.length ([r2.1] : List Int))) * 8 ≤ 140737488355328) && decide (((List.length p1) + (List.length ([r2.1] : List Int))) ≤ 140737488355328)) then
        l_spec_l2Ones_3 m0 p0 (p1 ++ ([r2.1] : List Int)) (IntKind.wrap .i64 (p2 + 1))
      else none
    else none
  else
    some (p1, ()) := by
  rewrite [h_spec_l2Ones_3]
  kernel_rfl

/- 120: loop.example/g01166/spec.l2Top -/
abbrev As_spec_l2Top : List ATy := [.data true T_Heap]
abbrev R_spec_l2Top : List (Bool × Ty) := [(false, (.sl (.int .i64)))]
abbrev M_spec_l2Top : List RMode := [.own 3]
abbrev Ft_spec_l2Top : Type := D_Heap × Unit → Option ((List Int) × Unit)
noncomputable def X_spec_l2Top (n : Nat) (F_spec_l2View : Ft_spec_l2View) (F_spec_l2Ones : Ft_spec_l2Ones) : Ctx := { types := TT, globals := [], con := [(131, ⟨As_spec_l2View, R_spec_l2View, M_spec_l2View, F_spec_l2View⟩), (142, ⟨As_spec_l2Ones, R_spec_l2Ones, M_spec_l2Ones, F_spec_l2Ones⟩)], keep := [], results := [.tmp 2], ntmps := 6, n := n }
noncomputable def B_spec_l2Top : Code := (Tryz.f120.body).getD .skip
noncomputable def P_spec_l2Top : Ft_spec_l2Top := hid (runF (X_spec_l2Top N P_spec_l2View P_spec_l2Ones) B_spec_l2Top As_spec_l2Top R_spec_l2Top M_spec_l2Top)
theorem h_spec_l2Top : P_spec_l2Top = runF (X_spec_l2Top N P_spec_l2View P_spec_l2Ones) B_spec_l2Top As_spec_l2Top R_spec_l2Top M_spec_l2Top := hid_eq _
noncomputable def C_spec_l2Top : Contract := ⟨As_spec_l2Top, R_spec_l2Top, M_spec_l2Top, P_spec_l2Top⟩
theorem s_spec_l2Top : Sound Tryz.prog GG 120 C_spec_l2Top := by
  unfold C_spec_l2Top; rw [h_spec_l2Top]
  exact sound_of_run (fn := Tryz.f120) hmix hstable (tyOK_of ttOK) (hglob (X_spec_l2Top N P_spec_l2View P_spec_l2Ones)) (conOK_of (X := X_spec_l2Top N P_spec_l2View P_spec_l2Ones) ⟨s_spec_l2View, s_spec_l2Ones, trivial⟩) (mconOK_of (X := X_spec_l2Top N P_spec_l2View P_spec_l2Ones) trivial) (by kernel_rfl) (by kernel_rfl) (by kernel_rfl) (by kernel_rfl) (by kernel_rfl) (of_decide_eq_true (by kernel_rfl))
theorem p_spec_l2Top (a0 : D_Heap) : P_spec_l2Top (a0, ()) = 
  Option.bind (P_spec_l2View (a0, 2, ())) fun r0 =>
  Option.bind (P_spec_l2Ones (r0.1, ())) fun r1 =>
  some (r1.1, ()) := by
  rewrite [h_spec_l2Top]
  kernel_rfl

/- 121: loop.example/g01166/spec.l2Front -/
abbrev As_spec_l2Front : List ATy := [.data true T_Heap]
abbrev R_spec_l2Front : List (Bool × Ty) := [(false, (.sl (.int .i64)))]
abbrev M_spec_l2Front : List RMode := [.own 3]
abbrev Ft_spec_l2Front : Type := D_Heap × Unit → Option ((List Int) × Unit)
noncomputable def X_spec_l2Front (n : Nat) (F_spec_l2View : Ft_spec_l2View) (F_spec_l2Ones : Ft_spec_l2Ones) : Ctx := { types := TT, globals := [], con := [(131, ⟨As_spec_l2View, R_spec_l2View, M_spec_l2View, F_spec_l2View⟩), (142, ⟨As_spec_l2Ones, R_spec_l2Ones, M_spec_l2Ones, F_spec_l2Ones⟩)], keep := [], results := [.tmp 2], ntmps := 6, n := n }
noncomputable def B_spec_l2Front : Code := (Tryz.f121.body).getD .skip
noncomputable def P_spec_l2Front : Ft_spec_l2Front := hid (runF (X_spec_l2Front N P_spec_l2View P_spec_l2Ones) B_spec_l2Front As_spec_l2Front R_spec_l2Front M_spec_l2Front)
theorem h_spec_l2Front : P_spec_l2Front = runF (X_spec_l2Front N P_spec_l2View P_spec_l2Ones) B_spec_l2Front As_spec_l2Front R_spec_l2Front M_spec_l2Front := hid_eq _
noncomputable def C_spec_l2Front : Contract := ⟨As_spec_l2Front, R_spec_l2Front, M_spec_l2Front, P_spec_l2Front⟩
theorem s_spec_l2Front : Sound Tryz.prog GG 121 C_spec_l2Front := by
  unfold C_spec_l2Front; rw [h_spec_l2Front]
  exact sound_of_run (fn := Tryz.f121) hmix hstable (tyOK_of ttOK) (hglob (X_spec_l2Front N P_spec_l2View P_spec_l2Ones)) (conOK_of (X := X_spec_l2Front N P_spec_l2View P_spec_l2Ones) ⟨s_spec_l2View, s_spec_l2Ones, trivial⟩) (mconOK_of (X := X_spec_l2Front N P_spec_l2View P_spec_l2Ones) trivial) (by kernel_rfl) (by kernel_rfl) (by kernel_rfl) (by kernel_rfl) (by kernel_rfl) (of_decide_eq_true (by kernel_rfl))
theorem p_spec_l2Front (a0 : D_Heap) : P_spec_l2Front (a0, ()) = 
  Option.bind (P_spec_l2View (a0, 1, ())) fun r0 =>
  Option.bind (P_spec_l2Ones (r0.1, ())) fun r1 =>
  some (r1.1, ()) := by
  rewrite [h_spec_l2Front]
  kernel_rfl

/- 122: loop.example/g01166/spec.l2Side -/
abbrev As_spec_l2Side : List ATy := [.data true T_Heap]
abbrev R_spec_l2Side : List (Bool × Ty) := [(false, (.sl (.int .i64)))]
abbrev M_spec_l2Side : List RMode := [.own 3]
abbrev Ft_spec_l2Side : Type := D_Heap × Unit → Option ((List Int) × Unit)
noncomputable def X_spec_l2Side (n : Nat) (F_spec_l2View : Ft_spec_l2View) (F_spec_l2Ones : Ft_spec_l2Ones) : Ctx := { types := TT, globals := [], con := [(131, ⟨As_spec_l2View, R_spec_l2View, M_spec_l2View, F_spec_l2View⟩), (142, ⟨As_spec_l2Ones, R_spec_l2Ones, M_spec_l2Ones, F_spec_l2Ones⟩)], keep := [], results := [.tmp 2], ntmps := 6, n := n }
noncomputable def B_spec_l2Side : Code := (Tryz.f122.body).getD .skip
noncomputable def P_spec_l2Side : Ft_spec_l2Side := hid (runF (X_spec_l2Side N P_spec_l2View P_spec_l2Ones) B_spec_l2Side As_spec_l2Side R_spec_l2Side M_spec_l2Side)
theorem h_spec_l2Side : P_spec_l2Side = runF (X_spec_l2Side N P_spec_l2View P_spec_l2Ones) B_spec_l2Side As_spec_l2Side R_spec_l2Side M_spec_l2Side := hid_eq _
noncomputable def C_spec_l2Side : Contract := ⟨As_spec_l2Side, R_spec_l2Side, M_spec_l2Side, P_spec_l2Side⟩
theorem s_spec_l2Side : Sound Tryz.prog GG 122 C_spec_l2Side := by
  unfold C_spec_l2Side; rw [h_spec_l2Side]
  exact sound_of_run (fn := Tryz.f122) hmix hstable (tyOK_of ttOK) (hglob (X_spec_l2Side N P_spec_l2View P_spec_l2Ones)) (conOK_of (X := X_spec_l2Side N P_spec_l2View P_spec_l2Ones) ⟨s_spec_l2View, s_spec_l2Ones, trivial⟩) (mconOK_of (X := X_spec_l2Side N P_spec_l2View P_spec_l2Ones) trivial) (by kernel_rfl) (by kernel_rfl) (by kernel_rfl) (by kernel_rfl) (by kernel_rfl) (of_decide_eq_true (by kernel_rfl))
theorem p_spec_l2Side (a0 : D_Heap) : P_spec_l2Side (a0, ()) = 
  Option.bind (P_spec_l2View (a0, 0, ())) fun r0 =>
  Option.bind (P_spec_l2Ones (r0.1, ())) fun r1 =>
  some (r1.1, ()) := by
  rewrite [h_spec_l2Side]
  kernel_rfl

/- 85: loop.example/g01166/spec.l3Of -/
abbrev As_spec_l3Of : List ATy := [.data true T_Heap]
abbrev R_spec_l3Of : List (Bool × Ty) := [(true, T_Shadow)]
abbrev M_spec_l3Of : List RMode := [.own 3, .own 3, .own 3]
abbrev Ft_spec_l3Of : Type := D_Heap × Unit → Option (D_Shadow × Unit)
noncomputable def X_spec_l3Of (n : Nat) (F_spec_l2Top : Ft_spec_l2Top) (F_spec_l2Front : Ft_spec_l2Front) (F_spec_l2Side : Ft_spec_l2Side) : Ctx := { types := TT, globals := [], con := [(120, ⟨As_spec_l2Top, R_spec_l2Top, M_spec_l2Top, F_spec_l2Top⟩), (121, ⟨As_spec_l2Front, R_spec_l2Front, M_spec_l2Front, F_spec_l2Front⟩), (122, ⟨As_spec_l2Side, R_spec_l2Side, M_spec_l2Side, F_spec_l2Side⟩)], keep := [], results := [.cell 2 35], ntmps := 16, n := n }
noncomputable def B_spec_l3Of : Code := (Tryz.f85.body).getD .skip
noncomputable def P_spec_l3Of : Ft_spec_l3Of := hid (runF (X_spec_l3Of N P_spec_l2Top P_spec_l2Front P_spec_l2Side) B_spec_l3Of As_spec_l3Of R_spec_l3Of M_spec_l3Of)
theorem h_spec_l3Of : P_spec_l3Of = runF (X_spec_l3Of N P_spec_l2Top P_spec_l2Front P_spec_l2Side) B_spec_l3Of As_spec_l3Of R_spec_l3Of M_spec_l3Of := hid_eq _
noncomputable def C_spec_l3Of : Contract := ⟨As_spec_l3Of, R_spec_l3Of, M_spec_l3Of, P_spec_l3Of⟩
theorem s_spec_l3Of : Sound Tryz.prog GG 85 C_spec_l3Of := by
  unfold C_spec_l3Of; rw [h_spec_l3Of]
  exact sound_of_run (fn := Tryz.f85) hmix hstable (tyOK_of ttOK) (hglob (X_spec_l3Of N P_spec_l2Top P_spec_l2Front P_spec_l2Side)) (conOK_of (X := X_spec_l3Of N P_spec_l2Top P_spec_l2Front P_spec_l2Side) ⟨s_spec_l2Top, s_spec_l2Front, s_spec_l2Side, trivial⟩) (mconOK_of (X := X_spec_l3Of N P_spec_l2Top P_spec_l2Front P_spec_l2Side) trivial) (by kernel_rfl) (by kernel_rfl) (by kernel_rfl) (by kernel_rfl) (by kernel_rfl) (of_decide_eq_true (by kernel_rfl))
theorem p_spec_l3Of (a0 : D_Heap) : P_spec_l3Of (a0, ()) = 
  Option.bind (P_spec_l2Top (a0, ())) fun r0 =>
  Option.bind (P_spec_l2Front (a0, ())) fun r1 =>
  Option.bind (P_spec_l2Side (a0, ())) fun r2 =>
  some ((a0.1, (a0.2.1, (a0.2.2.1, (r0.1, (r1.1, (r2.1, ())))))), ()) := by
  rewrite [h_spec_l3Of]
  kernel_rfl

/- 38: loop.example/g01166/spec.l12Gap -/
abbrev As_spec_l12Gap : List ATy := [.data true T_Bench]
abbrev R_spec_l12Gap : List (Bool × Ty) := [(false, (.int .i64))]
abbrev M_spec_l12Gap : List RMode := []
abbrev Ft_spec_l12Gap : Type := D_Bench × Unit → Option (Int × Unit)
noncomputable def X_spec_l12Gap (n : Nat) (F_spec_LineBound : Ft_spec_LineBound) (F_spec_l3Of : Ft_spec_l3Of) : Ctx := { types := TT, globals := [], con := [(84, ⟨As_spec_LineBound, R_spec_LineBound, M_spec_LineBound, F_spec_LineBound⟩), (85, ⟨As_spec_l3Of, R_spec_l3Of, M_spec_l3Of, F_spec_l3Of⟩)], keep := [], results := [.tmp 2], ntmps := 18, n := n }
noncomputable def B_spec_l12Gap : Code := (Tryz.f38.body).getD .skip
noncomputable def P_spec_l12Gap : Ft_spec_l12Gap := hid (runF (X_spec_l12Gap N P_spec_LineBound P_spec_l3Of) B_spec_l12Gap As_spec_l12Gap R_spec_l12Gap M_spec_l12Gap)
theorem h_spec_l12Gap : P_spec_l12Gap = runF (X_spec_l12Gap N P_spec_LineBound P_spec_l3Of) B_spec_l12Gap As_spec_l12Gap R_spec_l12Gap M_spec_l12Gap := hid_eq _
noncomputable def C_spec_l12Gap : Contract := ⟨As_spec_l12Gap, R_spec_l12Gap, M_spec_l12Gap, P_spec_l12Gap⟩
theorem s_spec_l12Gap : Sound Tryz.prog GG 38 C_spec_l12Gap := by
  unfold C_spec_l12Gap; rw [h_spec_l12Gap]
  exact sound_of_run (fn := Tryz.f38) hmix hstable (tyOK_of ttOK) (hglob (X_spec_l12Gap N P_spec_LineBound P_spec_l3Of)) (conOK_of (X := X_spec_l12Gap N P_spec_LineBound P_spec_l3Of) ⟨s_spec_LineBound, s_spec_l3Of, trivial⟩) (mconOK_of (X := X_spec_l12Gap N P_spec_LineBound P_spec_l3Of) trivial) (by kernel_rfl) (by kernel_rfl) (by kernel_rfl) (by kernel_rfl) (by kernel_rfl) (of_decide_eq_true (by kernel_rfl))
theorem p_spec_l12Gap (a0 : D_Bench) : P_spec_l12Gap (a0, ()) = 
  Option.bind (P_spec_l3Of (a0.1, ())) fun r0 =>
  Option.bind (P_spec_LineBound (r0.1, ())) fun r1 =>
  some ((IntKind.wrap .i64 ((List.length a0.1.2.2.2.1 : Int) - r1.1)), ()) := by
  rewrite [h_spec_l12Gap]
  kernel_rfl

/- 8: loop.example/g01166/spec.ShadowGap -/
abbrev As_spec_ShadowGap : List ATy := [.data true T_Bench]
abbrev R_spec_ShadowGap : List (Bool × Ty) := [(false, (.int .i64)), (false, .bool)]
abbrev M_spec_ShadowGap : List RMode := []
abbrev Ft_spec_ShadowGap : Type := D_Bench × Unit → Option (Int × Bool × Unit)
noncomputable def X_spec_ShadowGap (n : Nat) (F_spec_l12Good : Ft_spec_l12Good) (F_spec_l12Gap : Ft_spec_l12Gap) : Ctx := { types := TT, globals := [], con := [(37, ⟨As_spec_l12Good, R_spec_l12Good, M_spec_l12Good, F_spec_l12Good⟩), (38, ⟨As_spec_l12Gap, R_spec_l12Gap, M_spec_l12Gap, F_spec_l12Gap⟩)], keep := [], results := [.tmp 2, .tmp 3], ntmps := 9, n := n }
noncomputable def B_spec_ShadowGap : Code := (Tryz.f8.body).getD .skip
noncomputable def P_spec_ShadowGap : Ft_spec_ShadowGap := hid (runF (X_spec_ShadowGap N P_spec_l12Good P_spec_l12Gap) B_spec_ShadowGap As_spec_ShadowGap R_spec_ShadowGap M_spec_ShadowGap)
theorem h_spec_ShadowGap : P_spec_ShadowGap = runF (X_spec_ShadowGap N P_spec_l12Good P_spec_l12Gap) B_spec_ShadowGap As_spec_ShadowGap R_spec_ShadowGap M_spec_ShadowGap := hid_eq _
noncomputable def C_spec_ShadowGap : Contract := ⟨As_spec_ShadowGap, R_spec_ShadowGap, M_spec_ShadowGap, P_spec_ShadowGap⟩
theorem s_spec_ShadowGap : Sound Tryz.prog GG 8 C_spec_ShadowGap := by
  unfold C_spec_ShadowGap; rw [h_spec_ShadowGap]
  exact sound_of_run (fn := Tryz.f8) hmix hstable (tyOK_of ttOK) (hglob (X_spec_ShadowGap N P_spec_l12Good P_spec_l12Gap)) (conOK_of (X := X_spec_ShadowGap N P_spec_l12Good P_spec_l12Gap) ⟨s_spec_l12Good, s_spec_l12Gap, trivial⟩) (mconOK_of (X := X_spec_ShadowGap N P_spec_l12Good P_spec_l12Gap) trivial) (by kernel_rfl) (by kernel_rfl) (by kernel_rfl) (by kernel_rfl) (by kernel_rfl) (of_decide_eq_true (by kernel_rfl))
theorem p_spec_ShadowGap (a0 : D_Bench) : P_spec_ShadowGap (a0, ()) = 
  Option.bind (P_spec_l12Good (a0, ())) fun r0 =>
  bif !r0.1 then
    some (0, false, ())
  else
    Option.bind (P_spec_l12Gap (a0, ())) fun r2 =>
    some (r2.1, true, ()) := by
  rewrite [h_spec_ShadowGap]
  kernel_rfl

/- 9: loop.example/g01166/spec.IsBench -/
abbrev As_spec_IsBench : List ATy := [.data true T_Bench]
abbrev R_spec_IsBench : List (Bool × Ty) := [(false, .bool)]
abbrev M_spec_IsBench : List RMode := []
abbrev Ft_spec_IsBench : Type := D_Bench × Unit → Option (Bool × Unit)
noncomputable def X_spec_IsBench (n : Nat) (F_spec_l12Good : Ft_spec_l12Good) : Ctx := { types := TT, globals := [], con := [(37, ⟨As_spec_l12Good, R_spec_l12Good, M_spec_l12Good, F_spec_l12Good⟩)], keep := [], results := [.tmp 2], ntmps := 5, n := n }
noncomputable def B_spec_IsBench : Code := (Tryz.f9.body).getD .skip
noncomputable def P_spec_IsBench : Ft_spec_IsBench := hid (runF (X_spec_IsBench N P_spec_l12Good) B_spec_IsBench As_spec_IsBench R_spec_IsBench M_spec_IsBench)
theorem h_spec_IsBench : P_spec_IsBench = runF (X_spec_IsBench N P_spec_l12Good) B_spec_IsBench As_spec_IsBench R_spec_IsBench M_spec_IsBench := hid_eq _
noncomputable def C_spec_IsBench : Contract := ⟨As_spec_IsBench, R_spec_IsBench, M_spec_IsBench, P_spec_IsBench⟩
theorem s_spec_IsBench : Sound Tryz.prog GG 9 C_spec_IsBench := by
  unfold C_spec_IsBench; rw [h_spec_IsBench]
  exact sound_of_run (fn := Tryz.f9) hmix hstable (tyOK_of ttOK) (hglob (X_spec_IsBench N P_spec_l12Good)) (conOK_of (X := X_spec_IsBench N P_spec_l12Good) ⟨s_spec_l12Good, trivial⟩) (mconOK_of (X := X_spec_IsBench N P_spec_l12Good) trivial) (by kernel_rfl) (by kernel_rfl) (by kernel_rfl) (by kernel_rfl) (by kernel_rfl) (of_decide_eq_true (by kernel_rfl))
theorem p_spec_IsBench (a0 : D_Bench) : P_spec_IsBench (a0, ()) = 
  Option.bind (P_spec_l12Good (a0, ())) fun r0 =>
  some (r0.1, ()) := by
  rewrite [h_spec_IsBench]
  kernel_rfl

/- 10: loop.example/g01166/impl.ShadowsOf -/
abbrev As_impl_ShadowsOf : List ATy := [.data true T_Heap]
abbrev R_impl_ShadowsOf : List (Bool × Ty) := [(true, T_Shadow), (false, .bool)]
abbrev M_impl_ShadowsOf : List RMode := [.own 3, .own 3, .own 3]
abbrev Ft_impl_ShadowsOf : Type := D_Heap × Unit → Option (D_Shadow × Bool × Unit)
noncomputable def X_impl_ShadowsOf (n : Nat) (F_Heap_box : Ft_Heap_box) (F_box_shadow : Ft_box_shadow) (F_Heap_cubes : Ft_Heap_cubes) (F_impl_IsHeap : Ft_impl_IsHeap) : Ctx := { types := TT, globals := [], con := [(34, ⟨As_Heap_box, R_Heap_box, M_Heap_box, F_Heap_box⟩), (35, ⟨As_box_shadow, R_box_shadow, M_box_shadow, F_box_shadow⟩), (36, ⟨As_Heap_cubes, R_Heap_cubes, M_Heap_cubes, F_Heap_cubes⟩), (39, ⟨As_impl_IsHeap, R_impl_IsHeap, M_impl_IsHeap, F_impl_IsHeap⟩)], keep := [], results := [.cell 2 35, .tmp 3], ntmps := 13, n := n }
noncomputable def B_impl_ShadowsOf : Code := (Tryz.f10.body).getD .skip
noncomputable def P_impl_ShadowsOf : Ft_impl_ShadowsOf := hid (runF (X_impl_ShadowsOf N P_Heap_box P_box_shadow P_Heap_cubes P_impl_IsHeap) B_impl_ShadowsOf As_impl_ShadowsOf R_impl_ShadowsOf M_impl_ShadowsOf)
theorem h_impl_ShadowsOf : P_impl_ShadowsOf = runF (X_impl_ShadowsOf N P_Heap_box P_box_shadow P_Heap_cubes P_impl_IsHeap) B_impl_ShadowsOf As_impl_ShadowsOf R_impl_ShadowsOf M_impl_ShadowsOf := hid_eq _
noncomputable def C_impl_ShadowsOf : Contract := ⟨As_impl_ShadowsOf, R_impl_ShadowsOf, M_impl_ShadowsOf, P_impl_ShadowsOf⟩
theorem s_impl_ShadowsOf : Sound Tryz.prog GG 10 C_impl_ShadowsOf := by
  unfold C_impl_ShadowsOf; rw [h_impl_ShadowsOf]
  exact sound_of_run (fn := Tryz.f10) hmix hstable (tyOK_of ttOK) (hglob (X_impl_ShadowsOf N P_Heap_box P_box_shadow P_Heap_cubes P_impl_IsHeap)) (conOK_of (X := X_impl_ShadowsOf N P_Heap_box P_box_shadow P_Heap_cubes P_impl_IsHeap) ⟨s_Heap_box, s_box_shadow, s_Heap_cubes, s_impl_IsHeap, trivial⟩) (mconOK_of (X := X_impl_ShadowsOf N P_Heap_box P_box_shadow P_Heap_cubes P_impl_IsHeap) trivial) (by kernel_rfl) (by kernel_rfl) (by kernel_rfl) (by kernel_rfl) (by kernel_rfl) (of_decide_eq_true (by kernel_rfl))
theorem p_impl_ShadowsOf (a0 : D_Heap) : P_impl_ShadowsOf (a0, ()) = 
  Option.bind (P_impl_IsHeap (a0, ())) fun r0 =>
  bif !r0.1 then
    some ((0, (0, (0, (([] : List Int), (([] : List Int), (([] : List Int), ())))))), false, ())
  else
    Option.bind (P_Heap_box (a0, ())) fun r2 =>
    Option.bind (P_Heap_cubes (a0, ())) fun r3 =>
    Option.bind (P_box_shadow (r2.1, r3.1, ())) fun r4 =>
    some (r4.1, true, ()) := by
  rewrite [h_impl_ShadowsOf]
  kernel_rfl

/- 98: math/bits.OnesCount64 -/
abbrev As_math_bits_OnesCount64 : List ATy := [.data false (.int .u64)]
abbrev R_math_bits_OnesCount64 : List (Bool × Ty) := [(false, (.int .i64))]
abbrev M_math_bits_OnesCount64 : List RMode := []
abbrev Ft_math_bits_OnesCount64 : Type := Int × Unit → Option (Int × Unit)
noncomputable def X_math_bits_OnesCount64 (n : Nat) : Ctx := { types := TT, globals := [], con := [], keep := [], results := [.tmp 2], ntmps := 35, n := n }
noncomputable def B_math_bits_OnesCount64 : Code := (Tryz.f98.body).getD .skip
noncomputable def P_math_bits_OnesCount64 : Ft_math_bits_OnesCount64 := hid (runF (X_math_bits_OnesCount64 N) B_math_bits_OnesCount64 As_math_bits_OnesCount64 R_math_bits_OnesCount64 M_math_bits_OnesCount64)
theorem h_math_bits_OnesCount64 : P_math_bits_OnesCount64 = runF (X_math_bits_OnesCount64 N) B_math_bits_OnesCount64 As_math_bits_OnesCount64 R_math_bits_OnesCount64 M_math_bits_OnesCount64 := hid_eq _
noncomputable def C_math_bits_OnesCount64 : Contract := ⟨As_math_bits_OnesCount64, R_math_bits_OnesCount64, M_math_bits_OnesCount64, P_math_bits_OnesCount64⟩
theorem s_math_bits_OnesCount64 : Sound Tryz.prog GG 98 C_math_bits_OnesCount64 := by
  unfold C_math_bits_OnesCount64; rw [h_math_bits_OnesCount64]
  exact sound_of_run (fn := Tryz.f98) hmix hstable (tyOK_of ttOK) (hglob (X_math_bits_OnesCount64 N)) (conOK_of (X := X_math_bits_OnesCount64 N) trivial) (mconOK_of (X := X_math_bits_OnesCount64 N) trivial) (by kernel_rfl) (by kernel_rfl) (by kernel_rfl) (by kernel_rfl) (by kernel_rfl) (of_decide_eq_true (by kernel_rfl))
theorem p_math_bits_OnesCount64 (a0 : Int) : P_math_bits_OnesCount64 (a0, ()) = 
  some ((intBits .and .i64 (IntKind.wrap .i64 (IntKind.wrap .u64 ((IntKind.wrap .u64 ((IntKind.wrap .u64 ((intBits .and .u64 (IntKind.wrap .u64 ((shrI .u64 (IntKind.wrap .u64 ((intBits .and .u64 (shrI .u64 (IntKind.wrap .u64 ((intBits .and .u64 (shrI .u64 a0 1) 6148914691236517205) + (intBits .and .u64 a0 6148914691236517205))) 2) 3689348814741910323) + (intBits .and .u64 (IntKind.wrap .u64 ((intBits .and .u64 (shrI .u64 a0 1) 6148914691236517205) + (intBits .and .u64 a0 6148914691236517205))) 3689348814741910323))) 4) + (IntKind.wrap .u64 ((intBits .and .u64 (shrI .u64 (IntKind.wrap .u64 ((intBits .and .u64 (shrI .u64 a0 1) 6148914691236517205) + (intBits .and .u64 a0 6148914691236517205))) 2) 3689348814741910323) + (intBits .and .u64 (IntKind.wrap .u64 ((intBits .and .u64 (shrI .u64 a0 1) 6148914691236517205) + (intBits .and .u64 a0 6148914691236517205))) 3689348814741910323))))) 1085102592571150095) + (shrI .u64 (intBits .and .u64 (IntKind.wrap .u64 ((shrI .u64 (IntKind.wrap .u64 ((intBits .and .u64 (shrI .u64 (IntKind.wrap .u64 ((intBits .and .u64 (shrI .u64 a0 1) 6148914691236517205) + (intBits .and .u64 a0 6148914691236517205))) 2) 3689348814741910323) + (intBits .and .u64 (IntKind.wrap .u64 ((intBits .and .u64 (shrI .u64 a0 1) 6148914691236517205) + (intBits .and .u64 a0 6148914691236517205))) 3689348814741910323))) 4) + (IntKind.wrap .u64 ((intBits .and .u64 (shrI .u64 (IntKind.wrap .u64 ((intBits .and .u64 (shrI .u64 a0 1) 6148914691236517205) + (intBits .and .u64 a0 6148914691236517205))) 2) 3689348814741910323) + (intBits .and .u64 (IntKind.wrap .u64 ((intBits .and .u64 (shrI .u64 a0 1) 6148914691236517205) + (intBits .and .u64 a0 6148914691236517205))) 3689348814741910323))))) 1085102592571150095) 8))) + (shrI .u64 (IntKind.wrap .u64 ((intBits .and .u64 (IntKind.wrap .u64 ((shrI .u64 (IntKind.wrap .u64 ((intBits .and .u64 (shrI .u64 (IntKind.wrap .u64 ((intBits .and .u64 (shrI .u64 a0 1) 6148914691236517205) + (intBits .and .u64 a0 6148914691236517205))) 2) 3689348814741910323) + (intBits .and .u64 (IntKind.wrap .u64 ((intBits .and .u64 (shrI .u64 a0 1) 6148914691236517205) + (intBits .and .u64 a0 6148914691236517205))) 3689348814741910323))) 4) + (IntKind.wrap .u64 ((intBits .and .u64 (shrI .u64 (IntKind.wrap .u64 ((intBits .and .u64 (shrI .u64 a0 1) 6148914691236517205) + (intBits .and .u64 a0 6148914691236517205))) 2) 3689348814741910323) + (intBits .and .u64 (IntKind.wrap .u64 ((intBits .and .u64 (shrI .u64 a0 1) 6148914691236517205) + (intBits .and .u64 a0 6148914691236517205))) 3689348814741910323))))) 1085102592571150095) + (shrI .u64 (intBits .and .u64 (IntKind.wrap .u64 ((shrI .u64 (IntKind.wrap .u64 ((intBits .and .u64 (shrI .u64 (IntKind.wrap .u64 ((intBits .and .u64 (shrI .u64 a0 1) 6148914691236517205) + (intBits .and .u64 a0 6148914691236517205))) 2) 3689348814741910323) + (intBits .and .u64 (IntKind.wrap .u64 ((intBits .and .u64 (shrI .u64 a0 1) 6148914691236517205) + (intBits .and .u64 a0 6148914691236517205))) 3689348814741910323))) 4) + (IntKind.wrap .u64 ((intBits .and .u64 (shrI .u64 (IntKind.wrap .u64 ((intBits .and .u64 (shrI .u64 a0 1) 6148914691236517205) + (intBits .and .u64 a0 6148914691236517205))) 2) 3689348814741910323) + (intBits .and .u64 (IntKind.wrap .u64 ((intBits .and .u64 (shrI .u64 a0 1) 6148914691236517205) + (intBits .and .u64 a0 6148914691236517205))) 3689348814741910323))))) 1085102592571150095) 8))) 16))) + (shrI .u64 (IntKind.wrap .u64 ((IntKind.wrap .u64 ((intBits .and .u64 (IntKind.wrap .u64 ((shrI .u64 (IntKind.wrap .u64 ((intBits .and .u64 (shrI .u64 (IntKind.wrap .u64 ((intBits .and .u64 (shrI .u64 a0 1) 6148914691236517205) + (intBits .and .u64 a0 6148914691236517205))) 2) 3689348814741910323) + (intBits .and .u64 (IntKind.wrap .u64 ((intBits .and .u64 (shrI .u64 a0 1) 6148914691236517205) + (intBits .and .u64 a0 6148914691236517205))) 3689348814741910323))) 4) + (IntKind.wrap .u64 ((intBits .and .u64 (shrI .u64 (IntKind.wrap .u64 ((intBits .and .u64 (shrI .u64 a0 1) 6148914691236517205) + (intBits .and .u64 a0 6148914691236517205))) 2) 3689348814741910323) + (intBits .and .u64 (IntKind.wrap .u64 ((intBits .and .u64 (shrI .u64 a0 1) 6148914691236517205) + (intBits .and .u64 a0 6148914691236517205))) 3689348814741910323))))) 1085102592571150095) + (shrI .u64 (intBits .and .u64 (IntKind.wrap .u64 ((shrI .u64 (IntKind.wrap .u64 ((intBits .and .u64 (shrI .u64 (IntKind.wrap .u64 ((intBits .and .u64 (shrI .u64 a0 1) 6148914691236517205) + (intBits .and .u64 a0 6148914691236517205))) 2) 3689348814741910323) + (intBits .and .u64 (IntKind.wrap .u64 ((intBits .and .u64 (shrI .u64 a0 1) 6148914691236517205) + (intBits .and .u64 a0 6148914691236517205))) 3689348814741910323))) 4) + (IntKind.wrap .u64 ((intBits .and .u64 (shrI .u64 (IntKind.wrap .u64 ((intBits .and .u64 (shrI .u64 a0 1) 6148914691236517205) + (intBits .and .u64 a0 6148914691236517205))) 2) 3689348814741910323) + (intBits .and .u64 (IntKind.wrap .u64 ((intBits .and .u64 (shrI .u64 a0 1) 6148914691236517205) + (intBits .and .u64 a0 6148914691236517205))) 3689348814741910323))))) 1085102592571150095) 8))) + (shrI .u64 (IntKind.wrap .u64 ((intBits .and .u64 (IntKind.wrap .u64 ((shrI .u64 (IntKind.wrap .u64 ((intBits .and .u64 (shrI .u64 (IntKind.wrap .u64 ((intBits .and .u64 (shrI .u64 a0 1) 6148914691236517205) + (intBits .and .u64 a0 6148914691236517205))) 2) 3689348814741910323) + (intBits .and .u64 (IntKind.wrap .u64 ((intBits .and .u64 (shrI .u64 a0 1) 6148914691236517205) + (intBits .and .u64 a0 6148914691236517205))) 3689348814741910323))) 4) + (IntKind.wrap .u64 ((intBits .and .u64 (shrI .u64 (IntKind.wrap .u64 ((intBits .and .u64 (shrI .u64 a0 1) 6148914691236517205) + (intBits .and .u64 a0 6148914691236517205))) 2) 3689348814741910323) + (intBits .and .u64 (IntKind.wrap .u64 ((intBits .and .u64 (shrI .u64 a0 1) 6148914691236517205) + (intBits .and .u64 a0 6148914691236517205))) 3689348814741910323))))) 1085102592571150095) + (shrI .u64 (intBits .and .u64 (IntKind.wrap .u64 ((shrI .u64 (IntKind.wrap .u64 ((intBits .and .u64 (shrI .u64 (IntKind.wrap .u64 ((intBits .and .u64 (shrI .u64 a0 1) 6148914691236517205) + (intBits .and .u64 a0 6148914691236517205))) 2) 3689348814741910323) + (intBits .and .u64 (IntKind.wrap .u64 ((intBits .and .u64 (shrI .u64 a0 1) 6148914691236517205) + (intBits .and .u64 a0 6148914691236517205))) 3689348814741910323))) 4) + (IntKind.wrap .u64 ((intBits .and .u64 (shrI .u64 (IntKind.wrap .u64 ((intBits .and .u64 (shrI .u64 a0 1) 6148914691236517205) + (intBits .and .u64 a0 6148914691236517205))) 2) 3689348814741910323) + (intBits .and .u64 (IntKind.wrap .u64 ((intBits .and .u64 (shrI .u64 a0 1) 6148914691236517205) + (intBits .and .u64 a0 6148914691236517205))) 3689348814741910323))))) 1085102592571150095) 8))) 16))) 32)))) 127), ()) := by
  rewrite [h_math_bits_OnesCount64]
  kernel_rfl

/- 48: (loop.example/g01166/impl.set).count -/
abbrev As_set_count : List ATy := [.data false (.int .u64)]
abbrev R_set_count : List (Bool × Ty) := [(false, (.int .i64))]
abbrev M_set_count : List RMode := []
abbrev Ft_set_count : Type := Int × Unit → Option (Int × Unit)
noncomputable def X_set_count (n : Nat) (F_math_bits_OnesCount64 : Ft_math_bits_OnesCount64) : Ctx := { types := TT, globals := [], con := [(98, ⟨As_math_bits_OnesCount64, R_math_bits_OnesCount64, M_math_bits_OnesCount64, F_math_bits_OnesCount64⟩)], keep := [], results := [.tmp 2], ntmps := 5, n := n }
noncomputable def B_set_count : Code := (Tryz.f48.body).getD .skip
noncomputable def P_set_count : Ft_set_count := hid (runF (X_set_count N P_math_bits_OnesCount64) B_set_count As_set_count R_set_count M_set_count)
theorem h_set_count : P_set_count = runF (X_set_count N P_math_bits_OnesCount64) B_set_count As_set_count R_set_count M_set_count := hid_eq _
noncomputable def C_set_count : Contract := ⟨As_set_count, R_set_count, M_set_count, P_set_count⟩
theorem s_set_count : Sound Tryz.prog GG 48 C_set_count := by
  unfold C_set_count; rw [h_set_count]
  exact sound_of_run (fn := Tryz.f48) hmix hstable (tyOK_of ttOK) (hglob (X_set_count N P_math_bits_OnesCount64)) (conOK_of (X := X_set_count N P_math_bits_OnesCount64) ⟨s_math_bits_OnesCount64, trivial⟩) (mconOK_of (X := X_set_count N P_math_bits_OnesCount64) trivial) (by kernel_rfl) (by kernel_rfl) (by kernel_rfl) (by kernel_rfl) (by kernel_rfl) (of_decide_eq_true (by kernel_rfl))
theorem p_set_count (a0 : Int) : P_set_count (a0, ()) = 
  Option.bind (P_math_bits_OnesCount64 (a0, ())) fun r0 =>
  some (r0.1, ()) := by
  rewrite [h_set_count]
  kernel_rfl

/- 50: loop.example/g01166/impl.canMeet -/
abbrev As_impl_canMeet : List ATy := [.data false (.sl (.int .u64)), .data false (.int .u64), .data false (.int .u64), .data false (.int .i64)]
abbrev R_impl_canMeet : List (Bool × Ty) := [(false, .bool)]
abbrev M_impl_canMeet : List RMode := []
abbrev Ft_impl_canMeet : Type := (List Int) × Int × Int × Int × Unit → Option (Bool × Unit)
noncomputable def X_impl_canMeet (n : Nat) (F_set_count : Ft_set_count) (F_impl_canMeet : Ft_impl_canMeet) : Ctx := { types := TT, globals := [], con := [(48, ⟨As_set_count, R_set_count, M_set_count, F_set_count⟩), (50, ⟨As_impl_canMeet, R_impl_canMeet, M_impl_canMeet, F_impl_canMeet⟩)], keep := [(3, ⟨[.tmp 0, .tmp 1, .tmp 2, .tmp 3, .tmp 9, .tmp 10, .tmp 11, .tmp 12, .tmp 17, .tmp 18, .tmp 19], []⟩), (19, ⟨[.tmp 0, .tmp 1, .tmp 2, .tmp 3, .tmp 9], []⟩)], results := [.tmp 8], ntmps := 77, n := n }
noncomputable def B_impl_canMeet : Code := (Tryz.f50.body).getD .skip
noncomputable def L_impl_canMeet_3 (n : Nat) (F_set_count : Ft_set_count) (F_impl_canMeet : Ft_impl_canMeet) (m0 : Nat) (p0 : List Int) (p1 : Int) (p2 : Int) (p3 : Int) (p4 : Int) (p5 : Bool) (p6 : Int) (p7 : Int) (p8 : List Int) (p9 : Int) (p10 : Int) : Option (denL R_impl_canMeet) := loopF (X_impl_canMeet n F_set_count F_impl_canMeet) B_impl_canMeet R_impl_canMeet M_impl_canMeet 3 [m0] [(.ver, .num 1), (.tmp 0, .val false [.imm (.int .u64) p0 (some 0)]), (.tmp 1, .val false [.int .u64 p1]), (.tmp 2, .val false [.int .u64 p2]), (.tmp 3, .val false [.int .i64 p3]), (.tmp 9, .val false [.int .u64 p4]), (.tmp 10, .val false [.bool p5]), (.tmp 11, .val false [.int .i64 p6]), (.tmp 12, .val false [.int .u64 p7]), (.tmp 17, .val false [.imm (.int .u64) p8 (some 0)]), (.tmp 18, .val false [.int .i64 p9]), (.tmp 19, .val false [.int .i64 p10])]
noncomputable def L_impl_canMeet_19 (n : Nat) (F_set_count : Ft_set_count) (F_impl_canMeet : Ft_impl_canMeet) (m0 : Nat) (p0 : List Int) (p1 : Int) (p2 : Int) (p3 : Int) (p4 : Int) : Option (denL R_impl_canMeet) := loopF (X_impl_canMeet n F_set_count F_impl_canMeet) B_impl_canMeet R_impl_canMeet M_impl_canMeet 19 [m0] [(.ver, .num 1), (.tmp 0, .val false [.imm (.int .u64) p0 (some 0)]), (.tmp 1, .val false [.int .u64 p1]), (.tmp 2, .val false [.int .u64 p2]), (.tmp 3, .val false [.int .i64 p3]), (.tmp 9, .val false [.int .u64 p4])]
noncomputable def Pk_impl_canMeet : Nat → Ft_impl_canMeet
  | 0 => fun _ => none
  | k + 1 => runF (X_impl_canMeet N P_set_count (Pk_impl_canMeet k)) B_impl_canMeet As_impl_canMeet R_impl_canMeet M_impl_canMeet
theorem sk_impl_canMeet : ∀ k, Sound Tryz.prog GG 50 ⟨As_impl_canMeet, R_impl_canMeet, M_impl_canMeet, Pk_impl_canMeet k⟩
  | 0 => sound_none
  | k + 1 => by
    have ih := sk_impl_canMeet k
    exact sound_of_run (fn := Tryz.f50) hmix hstable (tyOK_of ttOK) (hglob (X_impl_canMeet N P_set_count (Pk_impl_canMeet k))) (conOK_of (X := X_impl_canMeet N P_set_count (Pk_impl_canMeet k)) ⟨s_set_count, ih, trivial⟩) (mconOK_of (X := X_impl_canMeet N P_set_count (Pk_impl_canMeet k)) trivial) (by kernel_rfl) (by kernel_rfl) (by kernel_rfl) (by kernel_rfl) (by kernel_rfl) (of_decide_eq_true (by kernel_rfl))
noncomputable def P_impl_canMeet : Ft_impl_canMeet := Pk_impl_canMeet N
noncomputable def C_impl_canMeet : Contract := ⟨As_impl_canMeet, R_impl_canMeet, M_impl_canMeet, P_impl_canMeet⟩
theorem s_impl_canMeet : Sound Tryz.prog GG 50 C_impl_canMeet := sk_impl_canMeet N
noncomputable def l_impl_canMeet_3 : Nat → Nat → (List Int) → Int → Int → Int → Int → Bool → Int → Int → (List Int) → Int → Int → Option (denL R_impl_canMeet) := hid (fun k m0 p0 p1 p2 p3 p4 p5 p6 p7 p8 p9 p10 => L_impl_canMeet_3 N P_set_count (Pk_impl_canMeet k) m0 p0 p1 p2 p3 p4 p5 p6 p7 p8 p9 p10)
theorem h_impl_canMeet_3 : l_impl_canMeet_3 = fun k m0 p0 p1 p2 p3 p4 p5 p6 p7 p8 p9 p10 => L_impl_canMeet_3 N P_set_count (Pk_impl_canMeet k) m0 p0 p1 p2 p3 p4 p5 p6 p7 p8 p9 p10 := hid_eq _
noncomputable def l_impl_canMeet_19 : Nat → Nat → (List Int) → Int → Int → Int → Int → Option (denL R_impl_canMeet) := hid (fun k m0 p0 p1 p2 p3 p4 => L_impl_canMeet_19 N P_set_count (Pk_impl_canMeet k) m0 p0 p1 p2 p3 p4)
theorem h_impl_canMeet_19 : l_impl_canMeet_19 = fun k m0 p0 p1 p2 p3 p4 => L_impl_canMeet_19 N P_set_count (Pk_impl_canMeet k) m0 p0 p1 p2 p3 p4 := hid_eq _
theorem p_impl_canMeet (k : Nat) (a0 : List Int) (a1 : Int) (a2 : Int) (a3 : Int) : Pk_impl_canMeet (k + 1) (a0, a1, a2, a3, ()) = 
  l_impl_canMeet_3 k N a0 a1 a2 a3 0 false 0 0 a0 (List.length a0 : Int) 0 := by
  rewrite [h_impl_canMeet_3]
  kernel_rfl
theorem q_impl_canMeet_3 (k : Nat) (m0 : Nat) (p0 : List Int) (p1 : Int) (p2 : Int) (p3 : Int) (p4 : Int) (p5 : Bool) (p6 : Int) (p7 : Int) (p8 : List Int) (p9 : Int) (p10 : Int) : l_impl_canMeet_3 k (m0 + 1) p0 p1 p2 p3 p4 p5 p6 p7 p8 p9 p10 = 
  bif decide (p10 < p9) then
    bif inB p10 (List.length p8) then
      bif !decide ((intBits .and .u64 (nth ((.int .u64) : Ty) p8 p10) p1) = 0) then
        l_impl_canMeet_3 k m0 p0 p1 p2 p3 p4 p5 p6 p7 p8 p9 (IntKind.wrap .i64 (p10 + 1))
      else
        bif decide ((intBits .andNot .u64 (nth ((.int .u64) : Ty) p8 p10) p2) = 0) then
          some (false, ())
        else
          bif !p5 then
            bif decide ((intBits .and .u64 (intBits .andNot .u64 (nth ((.int .u64) : Ty) p8 p10) p2) p7) = 0) then
              l_impl_canMeet_3 k m0 p0 p1 p2 p3 (intBits .andNot .u64 (nth ((.int .u64) : Ty) p8 p10) p2) true (IntKind.wrap .i64 (p6 + 1)) (intBits .or .u64 p7 (intBits .andNot .u64 (nth ((.int .u64) : Ty) p8 p10) p2)) p8 p9 (IntKind.wrap .i64 (p10 + 1))
            else
              l_impl_canMeet_3 k m0 p0 p1 p2 p3 (intBits .andNot .u64 (nth ((.int .u64) : Ty) p8 p10) p2) true p6 p7 p8 p9 (IntKind.wrap .i64 (p10 + 1))
          else
            Option.bind (P_set_count ((intBits .andNot .u64 (nth ((.int .u64) : Ty) p8 p10) p2), ())) fun r5 =>
            Option.bind (P_set_count (p4, ())) fun r6 =>
            bif decide (r5.1 < r6.1) then
              bif decide ((intBits .and .u64 (intBits .andNot .u64 (nth ((.int .u64) : Ty) p8 p10) p2) p7) = 0) then
                l_impl_canMeet_3 k m0 p0 p1 p2 p3 (intBits .andNot .u64 (nth ((.int .u64) : Ty) p8 p10) p2) true (IntKind.wrap .i64 (p6 + 1)) (intBits .or .u64 p7 (intBits .andNot .u64 (nth ((.int .u64) : Ty) p8 p10) p2)) p8 p9 (IntKind.wrap .i64 (p10 + 1))
              else
                l_impl_canMeet_3 k m0 p0 p1 p2 p3 (intBits .andNot .u64 (nth ((.int .u64) : Ty) p8 p10) p2) true p6 p7 p8 p9 (IntKind.wrap .i64 (p10 + 1))
            else
              bif decide ((intBits .and .u64 (intBits .andNot .u64 (nth ((.int .u64) : Ty) p8 p10) p2) p7) = 0) then
                l_impl_canMeet_3 k m0 p0 p1 p2 p3 p4 p5 (IntKind.wrap .i64 (p6 + 1)) (intBits .or .u64 p7 (intBits .andNot .u64 (nth ((.int .u64) : Ty) p8 p10) p2)) p8 p9 (IntKind.wrap .i64 (p10 + 1))
              else
                l_impl_canMeet_3 k m0 p0 p1 p2 p3 p4 p5 p6 p7 p8 p9 (IntKind.wrap .i64 (p10 + 1))
    else none
  else
    bif !p5 then
      some (true, ())
    else
      bif decide (p6 > p3) then
        some (false, ())
      else
        l_impl_canMeet_19 k N p0 p1 p2 p3 p4 := by
  rewrite [h_impl_canMeet_3, h_impl_canMeet_19]
  kernel_rfl
theorem q_impl_canMeet_19 (k : Nat) (m0 : Nat) (p0 : List Int) (p1 : Int) (p2 : Int) (p3 : Int) (p4 : Int) : l_impl_canMeet_19 k (m0 + 1) p0 p1 p2 p3 p4 = 
  bif !decide (p4 = 0) then
    Option.bind (Pk_impl_canMeet k (p0, (intBits .or .u64 p1 (intBits .and .u64 p4 (IntKind.wrap .u64 (0 - p4)))), p2, (IntKind.wrap .i64 (p3 - 1)), ())) fun r1 =>
    bif r1.1 then
      some (true, ())
    else
      l_impl_canMeet_19 k m0 p0 p1 (intBits .or .u64 p2 (intBits .and .u64 p4 (IntKind.wrap .u64 (0 - p4)))) p3 (intBits .andNot .u64 p4 (intBits .and .u64 p4 (IntKind.wrap .u64 (0 - p4))))
  else
    some (false, ()) := by
  rewrite [h_impl_canMeet_19]
  kernel_rfl

/- 99: (loop.example/g01166/impl.box).those -/
abbrev As_box_those : List ATy := [.data true T_A3, .clo [(true, T_A3)] [(false, .bool)]]
abbrev R_box_those : List (Bool × Ty) := [(false, (.int .u64))]
abbrev M_box_those : List RMode := []
abbrev Ft_box_those : Type := D_A3 × ((D_A3 × Unit) → Option (Bool × Unit)) × Unit → Option (Int × Unit)
noncomputable def X_box_those (n : Nat) (F_box_size : Ft_box_size) (F_box_cell : Ft_box_cell) : Ctx := { types := TT, globals := [], con := [(47, ⟨As_box_size, R_box_size, M_box_size, F_box_size⟩), (64, ⟨As_box_cell, R_box_cell, M_box_cell, F_box_cell⟩)], keep := [(3, ⟨[.box 2, .tmp 1, .tmp 2, .tmp 5, .tmp 8, .tmp 9], []⟩)], results := [.tmp 4], ntmps := 23, n := n }
noncomputable def B_box_those : Code := (Tryz.f99.body).getD .skip
noncomputable def L_box_those_3 (n : Nat) (F_box_size : Ft_box_size) (F_box_cell : Ft_box_cell) (m0 : Nat) (p0 : Int) (p1 : Int) (p2 : Int) (p3 : (D_A3 × Unit) → Option (Bool × Unit)) (p4 : Int) (p5 : Int) (p6 : Int) : Option (denL R_box_those) := loopF (X_box_those n F_box_size F_box_cell) B_box_those R_box_those M_box_those 3 [m0] [(.ver, .num 1), (.box 2, .box 0 false [.int .i64 p0, .int .i64 p1, .int .i64 p2]), (.tmp 1, .val false [.clo [(true, T_A3)] [(false, .bool)] p3]), (.tmp 2, .val false [.addr 2 0 0]), (.tmp 5, .val false [.int .u64 p4]), (.tmp 8, .val false [.int .i64 p5]), (.tmp 9, .val false [.int .i64 p6])]
noncomputable def P_box_those : Ft_box_those := hid (runF (X_box_those N P_box_size P_box_cell) B_box_those As_box_those R_box_those M_box_those)
theorem h_box_those : P_box_those = runF (X_box_those N P_box_size P_box_cell) B_box_those As_box_those R_box_those M_box_those := hid_eq _
noncomputable def C_box_those : Contract := ⟨As_box_those, R_box_those, M_box_those, P_box_those⟩
theorem s_box_those : Sound Tryz.prog GG 99 C_box_those := by
  unfold C_box_those; rw [h_box_those]
  exact sound_of_run (fn := Tryz.f99) hmix hstable (tyOK_of ttOK) (hglob (X_box_those N P_box_size P_box_cell)) (conOK_of (X := X_box_those N P_box_size P_box_cell) ⟨s_box_size, s_box_cell, trivial⟩) (mconOK_of (X := X_box_those N P_box_size P_box_cell) trivial) (by kernel_rfl) (by kernel_rfl) (by kernel_rfl) (by kernel_rfl) (by kernel_rfl) (of_decide_eq_true (by kernel_rfl))
noncomputable def l_box_those_3 : Nat → Int → Int → Int → ((D_A3 × Unit) → Option (Bool × Unit)) → Int → Int → Int → Option (denL R_box_those) := hid (fun m0 p0 p1 p2 p3 p4 p5 p6 => L_box_those_3 N P_box_size P_box_cell m0 p0 p1 p2 p3 p4 p5 p6)
theorem h_box_those_3 : l_box_those_3 = fun m0 p0 p1 p2 p3 p4 p5 p6 => L_box_those_3 N P_box_size P_box_cell m0 p0 p1 p2 p3 p4 p5 p6 := hid_eq _
theorem p_box_those (a0 : D_A3) (a1 : (D_A3 × Unit) → Option (Bool × Unit)) : P_box_those (a0, a1, ()) = 
  Option.bind (P_box_size (a0, ())) fun r0 =>
  l_box_those_3 N a0.1 a0.2.1 a0.2.2.1 a1 0 r0.1 0 := by
  rewrite [h_box_those, h_box_those_3]
  kernel_rfl
theorem q_box_those_3 (m0 : Nat) (p0 : Int) (p1 : Int) (p2 : Int) (p3 : (D_A3 × Unit) → Option (Bool × Unit)) (p4 : Int) (p5 : Int) (p6 : Int) : l_box_those_3 (m0 + 1) p0 p1 p2 p3 p4 p5 p6 = 
  bif decide (p6 < p5) then
    Option.bind (P_box_cell ((p0, (p1, (p2, ()))), p6, ())) fun r1 =>
    Option.bind (p3 (r1.1, ())) fun r2 =>
    bif r2.1 then
      bif decide ((0 : Int) ≤ p6) then
        l_box_those_3 m0 p0 p1 p2 p3 (intBits .or .u64 p4 (shlI .u64 1 p6)) p5 (IntKind.wrap .i64 (p6 + 1))
      else none
    else
      l_box_those_3 m0 p0 p1 p2 p3 p4 p5 (IntKind.wrap .i64 (p6 + 1))
  else
    some (p4, ()) := by
  rewrite [h_box_those_3]
  kernel_rfl

/- 100: (loop.example/g01166/impl.Shadow).allowed$1 -/
abbrev As_Shadow_allowed_1 : List ATy := [.data true T_A3, .ptr T_Shadow]
abbrev R_Shadow_allowed_1 : List (Bool × Ty) := [(false, .bool)]
abbrev M_Shadow_allowed_1 : List RMode := []
abbrev Ft_Shadow_allowed_1 : Type := D_A3 × D_Shadow × Unit → Option (Bool × Unit)
noncomputable def X_Shadow_allowed_1 (n : Nat) (F_Shadow_list : Ft_Shadow_list) (F_Shadow_box : Ft_Shadow_box) (F_box_line : Ft_box_line) : Ctx := { types := TT, globals := [], con := [(41, ⟨As_Shadow_list, R_Shadow_list, M_Shadow_list, F_Shadow_list⟩), (46, ⟨As_Shadow_box, R_Shadow_box, M_Shadow_box, F_Shadow_box⟩), (65, ⟨As_box_line, R_box_line, M_box_line, F_box_line⟩)], keep := [(2, ⟨[.box 2, .tmp 1, .tmp 2, .tmp 5], []⟩)], results := [.tmp 3], ntmps := 20, n := n }
noncomputable def B_Shadow_allowed_1 : Code := (Tryz.f100.body).getD .skip
noncomputable def L_Shadow_allowed_1_2 (n : Nat) (F_Shadow_list : Ft_Shadow_list) (F_Shadow_box : Ft_Shadow_box) (F_box_line : Ft_box_line) (m0 : Nat) (p0 : Int) (p1 : Int) (p2 : Int) (p3 : D_Shadow) (p4 : Int) : Option (denL R_Shadow_allowed_1) := loopF (X_Shadow_allowed_1 n F_Shadow_list F_Shadow_box F_box_line) B_Shadow_allowed_1 R_Shadow_allowed_1 M_Shadow_allowed_1 2 [m0] [(.ver, .num 1), (.box 2, .box 0 false [.int .i64 p0, .int .i64 p1, .int .i64 p2]), (.tmp 1, .val false [.iptr T_Shadow p3 0]), (.tmp 2, .val false [.addr 2 0 0]), (.tmp 5, .val false [.int .i64 p4])]
noncomputable def P_Shadow_allowed_1 : Ft_Shadow_allowed_1 := hid (runF (X_Shadow_allowed_1 N P_Shadow_list P_Shadow_box P_box_line) B_Shadow_allowed_1 As_Shadow_allowed_1 R_Shadow_allowed_1 M_Shadow_allowed_1)
theorem h_Shadow_allowed_1 : P_Shadow_allowed_1 = runF (X_Shadow_allowed_1 N P_Shadow_list P_Shadow_box P_box_line) B_Shadow_allowed_1 As_Shadow_allowed_1 R_Shadow_allowed_1 M_Shadow_allowed_1 := hid_eq _
noncomputable def C_Shadow_allowed_1 : Contract := ⟨As_Shadow_allowed_1, R_Shadow_allowed_1, M_Shadow_allowed_1, P_Shadow_allowed_1⟩
theorem s_Shadow_allowed_1 : Sound Tryz.prog GG 100 C_Shadow_allowed_1 := by
  unfold C_Shadow_allowed_1; rw [h_Shadow_allowed_1]
  exact sound_of_run (fn := Tryz.f100) hmix hstable (tyOK_of ttOK) (hglob (X_Shadow_allowed_1 N P_Shadow_list P_Shadow_box P_box_line)) (conOK_of (X := X_Shadow_allowed_1 N P_Shadow_list P_Shadow_box P_box_line) ⟨s_Shadow_list, s_Shadow_box, s_box_line, trivial⟩) (mconOK_of (X := X_Shadow_allowed_1 N P_Shadow_list P_Shadow_box P_box_line) trivial) (by kernel_rfl) (by kernel_rfl) (by kernel_rfl) (by kernel_rfl) (by kernel_rfl) (of_decide_eq_true (by kernel_rfl))
noncomputable def l_Shadow_allowed_1_2 : Nat → Int → Int → Int → D_Shadow → Int → Option (denL R_Shadow_allowed_1) := hid (fun m0 p0 p1 p2 p3 p4 => L_Shadow_allowed_1_2 N P_Shadow_list P_Shadow_box P_box_line m0 p0 p1 p2 p3 p4)
theorem h_Shadow_allowed_1_2 : l_Shadow_allowed_1_2 = fun m0 p0 p1 p2 p3 p4 => L_Shadow_allowed_1_2 N P_Shadow_list P_Shadow_box P_box_line m0 p0 p1 p2 p3 p4 := hid_eq _
theorem p_Shadow_allowed_1 (a0 : D_A3) (a1 : D_Shadow) : P_Shadow_allowed_1 (a0, a1, ()) = 
  l_Shadow_allowed_1_2 N a0.1 a0.2.1 a0.2.2.1 a1 0 := by
  rewrite [h_Shadow_allowed_1, h_Shadow_allowed_1_2]
  kernel_rfl
theorem q_Shadow_allowed_1_2 (m0 : Nat) (p0 : Int) (p1 : Int) (p2 : Int) (p3 : D_Shadow) (p4 : Int) : l_Shadow_allowed_1_2 (m0 + 1) p0 p1 p2 p3 p4 = 
  bif decide (p4 < 3) then
    Option.bind (P_Shadow_list (p3, p4, ())) fun r1 =>
    Option.bind (P_Shadow_box (p3, ())) fun r2 =>
    Option.bind (P_box_line (r2.1, (p0, (p1, (p2, ()))), p4, ())) fun r3 =>
    bif inB r3.1 (List.length r1.1) then
      bif decide ((nth ((.int .i64) : Ty) r1.1 r3.1) = 0) then
        some (false, ())
      else
        l_Shadow_allowed_1_2 m0 p0 p1 p2 p3 (IntKind.wrap .i64 (p4 + 1))
    else none
  else
    some (true, ()) := by
  rewrite [h_Shadow_allowed_1_2]
  kernel_rfl

/- 49: (loop.example/g01166/impl.Shadow).allowed -/
abbrev As_Shadow_allowed : List ATy := [.data true T_Shadow]
abbrev R_Shadow_allowed : List (Bool × Ty) := [(false, (.int .u64))]
abbrev M_Shadow_allowed : List RMode := []
abbrev Ft_Shadow_allowed : Type := D_Shadow × Unit → Option (Int × Unit)
noncomputable def X_Shadow_allowed (n : Nat) (F_Shadow_box : Ft_Shadow_box) (F_box_those : Ft_box_those) (F_Shadow_allowed_1 : Ft_Shadow_allowed_1) : Ctx := { types := TT, globals := [], con := [(46, ⟨As_Shadow_box, R_Shadow_box, M_Shadow_box, F_Shadow_box⟩), (99, ⟨As_box_those, R_box_those, M_box_those, F_box_those⟩), (100, ⟨As_Shadow_allowed_1, R_Shadow_allowed_1, M_Shadow_allowed_1, F_Shadow_allowed_1⟩)], keep := [], results := [.tmp 2], ntmps := 7, n := n }
noncomputable def B_Shadow_allowed : Code := (Tryz.f49.body).getD .skip
noncomputable def P_Shadow_allowed : Ft_Shadow_allowed := hid (runF (X_Shadow_allowed N P_Shadow_box P_box_those P_Shadow_allowed_1) B_Shadow_allowed As_Shadow_allowed R_Shadow_allowed M_Shadow_allowed)
theorem h_Shadow_allowed : P_Shadow_allowed = runF (X_Shadow_allowed N P_Shadow_box P_box_those P_Shadow_allowed_1) B_Shadow_allowed As_Shadow_allowed R_Shadow_allowed M_Shadow_allowed := hid_eq _
noncomputable def C_Shadow_allowed : Contract := ⟨As_Shadow_allowed, R_Shadow_allowed, M_Shadow_allowed, P_Shadow_allowed⟩
theorem s_Shadow_allowed : Sound Tryz.prog GG 49 C_Shadow_allowed := by
  unfold C_Shadow_allowed; rw [h_Shadow_allowed]
  exact sound_of_run (fn := Tryz.f49) hmix hstable (tyOK_of ttOK) (hglob (X_Shadow_allowed N P_Shadow_box P_box_those P_Shadow_allowed_1)) (conOK_of (X := X_Shadow_allowed N P_Shadow_box P_box_those P_Shadow_allowed_1) ⟨s_Shadow_box, s_box_those, s_Shadow_allowed_1, trivial⟩) (mconOK_of (X := X_Shadow_allowed N P_Shadow_box P_box_those P_Shadow_allowed_1) trivial) (by kernel_rfl) (by kernel_rfl) (by kernel_rfl) (by kernel_rfl) (by kernel_rfl) (of_decide_eq_true (by kernel_rfl))
theorem p_Shadow_allowed (a0 : D_Shadow) : P_Shadow_allowed (a0, ()) = 
  Option.bind (P_Shadow_box (a0, ())) fun r0 =>
  Option.bind (P_box_those (r0.1, (fun (y : D_A3 × Unit) => P_Shadow_allowed_1 (y.1, a0, ())), ())) fun r1 =>
  some (r1.1, ()) := by
  rewrite [h_Shadow_allowed]
  kernel_rfl

/- 101: (loop.example/g01166/impl.Shadow).needs$1 -/
abbrev As_Shadow_needs_1 : List ATy := [.data true T_A3, .ptr T_Shadow, .ptr (.int .i64), .ptr (.int .i64)]
abbrev R_Shadow_needs_1 : List (Bool × Ty) := [(false, .bool)]
abbrev M_Shadow_needs_1 : List RMode := []
abbrev Ft_Shadow_needs_1 : Type := D_A3 × D_Shadow × Int × Int × Unit → Option (Bool × Unit)
noncomputable def X_Shadow_needs_1 (n : Nat) (F_Shadow_box : Ft_Shadow_box) (F_box_line : Ft_box_line) : Ctx := { types := TT, globals := [], con := [(46, ⟨As_Shadow_box, R_Shadow_box, M_Shadow_box, F_Shadow_box⟩), (65, ⟨As_box_line, R_box_line, M_box_line, F_box_line⟩)], keep := [], results := [.tmp 5], ntmps := 13, n := n }
noncomputable def B_Shadow_needs_1 : Code := (Tryz.f101.body).getD .skip
noncomputable def P_Shadow_needs_1 : Ft_Shadow_needs_1 := hid (runF (X_Shadow_needs_1 N P_Shadow_box P_box_line) B_Shadow_needs_1 As_Shadow_needs_1 R_Shadow_needs_1 M_Shadow_needs_1)
theorem h_Shadow_needs_1 : P_Shadow_needs_1 = runF (X_Shadow_needs_1 N P_Shadow_box P_box_line) B_Shadow_needs_1 As_Shadow_needs_1 R_Shadow_needs_1 M_Shadow_needs_1 := hid_eq _
noncomputable def C_Shadow_needs_1 : Contract := ⟨As_Shadow_needs_1, R_Shadow_needs_1, M_Shadow_needs_1, P_Shadow_needs_1⟩
theorem s_Shadow_needs_1 : Sound Tryz.prog GG 101 C_Shadow_needs_1 := by
  unfold C_Shadow_needs_1; rw [h_Shadow_needs_1]
  exact sound_of_run (fn := Tryz.f101) hmix hstable (tyOK_of ttOK) (hglob (X_Shadow_needs_1 N P_Shadow_box P_box_line)) (conOK_of (X := X_Shadow_needs_1 N P_Shadow_box P_box_line) ⟨s_Shadow_box, s_box_line, trivial⟩) (mconOK_of (X := X_Shadow_needs_1 N P_Shadow_box P_box_line) trivial) (by kernel_rfl) (by kernel_rfl) (by kernel_rfl) (by kernel_rfl) (by kernel_rfl) (of_decide_eq_true (by kernel_rfl))
theorem p_Shadow_needs_1 (a0 : D_A3) (a1 : D_Shadow) (a2 : Int) (a3 : Int) : P_Shadow_needs_1 (a0, a1, a2, a3, ()) = 
  Option.bind (P_Shadow_box (a1, ())) fun r0 =>
  Option.bind (P_box_line (r0.1, a0, a2, ())) fun r1 =>
  some (decide (r1.1 = a3), ()) := by
  rewrite [h_Shadow_needs_1]
  kernel_rfl

/- 51: (loop.example/g01166/impl.Shadow).needs -/
abbrev As_Shadow_needs : List ATy := [.data true T_Shadow]
abbrev R_Shadow_needs : List (Bool × Ty) := [(false, (.sl (.int .u64)))]
abbrev M_Shadow_needs : List RMode := [.own 60]
abbrev Ft_Shadow_needs : Type := D_Shadow × Unit → Option ((List Int) × Unit)
noncomputable def X_Shadow_needs (n : Nat) (F_Shadow_list : Ft_Shadow_list) (F_Shadow_box : Ft_Shadow_box) (F_Shadow_allowed : Ft_Shadow_allowed) (F_box_those : Ft_box_those) (F_Shadow_needs_1 : Ft_Shadow_needs_1) : Ctx := { types := TT, globals := [], con := [(41, ⟨As_Shadow_list, R_Shadow_list, M_Shadow_list, F_Shadow_list⟩), (46, ⟨As_Shadow_box, R_Shadow_box, M_Shadow_box, F_Shadow_box⟩), (49, ⟨As_Shadow_allowed, R_Shadow_allowed, M_Shadow_allowed, F_Shadow_allowed⟩), (99, ⟨As_box_those, R_box_those, M_box_those, F_box_those⟩), (101, ⟨As_Shadow_needs_1, R_Shadow_needs_1, M_Shadow_needs_1, F_Shadow_needs_1⟩)], keep := [(3, ⟨[.box 1, .tmp 1, .tmp 3, .tmp 4, .tmp 11], [.box 1]⟩), (6, ⟨[.box 1, .box 5, .tmp 1, .tmp 3, .tmp 4, .tmp 5, .tmp 11, .tmp 16, .tmp 17, .tmp 18], [.box 1, .box 5]⟩)], results := [.tmp 2], ntmps := 37, n := n }
noncomputable def B_Shadow_needs : Code := (Tryz.f51.body).getD .skip
noncomputable def L_Shadow_needs_3 (n : Nat) (F_Shadow_list : Ft_Shadow_list) (F_Shadow_box : Ft_Shadow_box) (F_Shadow_allowed : Ft_Shadow_allowed) (F_box_those : Ft_box_those) (F_Shadow_needs_1 : Ft_Shadow_needs_1) (m0 : Nat) (p0 : Int) (p1 : Int) (p2 : Int) (p3 : List Int) (p4 : List Int) (p5 : List Int) (p6 : List Int) (p7 : Int) (p8 : Int) : Option (denL R_Shadow_needs) := loopF (X_Shadow_needs n F_Shadow_list F_Shadow_box F_Shadow_allowed F_box_those F_Shadow_needs_1) B_Shadow_needs R_Shadow_needs M_Shadow_needs 3 [m0] [(.ver, .num 1), (.box 1, .box 0 false [.int .i64 p0, .int .i64 p1, .int .i64 p2, .imm (.int .i64) p3 none, .imm (.int .i64) p4 none, .imm (.int .i64) p5 none]), (.tmp 1, .val false [.addr 1 0 0]), (.tmp 3, .val false [.own 60 (.int .u64) 0 p6]), (.tmp 4, .val false [.int .u64 p7]), (.tmp 11, .val false [.int .i64 p8])]
noncomputable def L_Shadow_needs_6 (n : Nat) (F_Shadow_list : Ft_Shadow_list) (F_Shadow_box : Ft_Shadow_box) (F_Shadow_allowed : Ft_Shadow_allowed) (F_box_those : Ft_box_those) (F_Shadow_needs_1 : Ft_Shadow_needs_1) (m0 m1 : Nat) (p0 : Int) (p1 : Int) (p2 : Int) (p3 : List Int) (p4 : List Int) (p5 : List Int) (p6 : Int) (p7 : List Int) (p8 : Int) (p9 : Int) (p10 : List Int) (p11 : Int) (p12 : Int) : Option (denL R_Shadow_needs) := loopF (X_Shadow_needs n F_Shadow_list F_Shadow_box F_Shadow_allowed F_box_those F_Shadow_needs_1) B_Shadow_needs R_Shadow_needs M_Shadow_needs 6 [m0, m1] [(.ver, .num 1), (.box 1, .box 0 false [.int .i64 p0, .int .i64 p1, .int .i64 p2, .imm (.int .i64) p3 none, .imm (.int .i64) p4 none, .imm (.int .i64) p5 none]), (.box 5, .box 0 true [.int .i64 p6]), (.tmp 1, .val false [.addr 1 0 0]), (.tmp 3, .val false [.own 60 (.int .u64) 0 p7]), (.tmp 4, .val false [.int .u64 p8]), (.tmp 5, .val false [.addr 5 0 0]), (.tmp 11, .val false [.int .i64 p9]), (.tmp 16, .val false [.imm (.int .i64) p10 none]), (.tmp 17, .val false [.int .i64 p11]), (.tmp 18, .val false [.int .i64 p12])]
noncomputable def L_Shadow_needs_1006 (n : Nat) (F_Shadow_list : Ft_Shadow_list) (F_Shadow_box : Ft_Shadow_box) (F_Shadow_allowed : Ft_Shadow_allowed) (F_box_those : Ft_box_those) (F_Shadow_needs_1 : Ft_Shadow_needs_1) (m0 m1 : Nat) (p0 : Int) (p1 : Int) (p2 : Int) (p3 : List Int) (p4 : List Int) (p5 : List Int) (p6 : Int) (p7 : List Int) (p8 : Int) (p9 : Int) (p10 : List Int) (p11 : Int) (p12 : Int) : Option (denL R_Shadow_needs) := loopF (X_Shadow_needs n F_Shadow_list F_Shadow_box F_Shadow_allowed F_box_those F_Shadow_needs_1) B_Shadow_needs R_Shadow_needs M_Shadow_needs 6 [m0, m1] [(.ver, .num 1), (.box 1, .box 0 true [.int .i64 p0, .int .i64 p1, .int .i64 p2, .imm (.int .i64) p3 none, .imm (.int .i64) p4 none, .imm (.int .i64) p5 none]), (.box 5, .box 0 true [.int .i64 p6]), (.tmp 1, .val false [.addr 1 0 0]), (.tmp 3, .val false [.own 60 (.int .u64) 0 p7]), (.tmp 4, .val false [.int .u64 p8]), (.tmp 5, .val false [.addr 5 0 0]), (.tmp 11, .val false [.int .i64 p9]), (.tmp 16, .val false [.imm (.int .i64) p10 none]), (.tmp 17, .val false [.int .i64 p11]), (.tmp 18, .val false [.int .i64 p12])]
noncomputable def L_Shadow_needs_1003 (n : Nat) (F_Shadow_list : Ft_Shadow_list) (F_Shadow_box : Ft_Shadow_box) (F_Shadow_allowed : Ft_Shadow_allowed) (F_box_those : Ft_box_those) (F_Shadow_needs_1 : Ft_Shadow_needs_1) (m0 : Nat) (p0 : Int) (p1 : Int) (p2 : Int) (p3 : List Int) (p4 : List Int) (p5 : List Int) (p6 : List Int) (p7 : Int) (p8 : Int) : Option (denL R_Shadow_needs) := loopF (X_Shadow_needs n F_Shadow_list F_Shadow_box F_Shadow_allowed F_box_those F_Shadow_needs_1) B_Shadow_needs R_Shadow_needs M_Shadow_needs 3 [m0] [(.ver, .num 1), (.box 1, .box 0 true [.int .i64 p0, .int .i64 p1, .int .i64 p2, .imm (.int .i64) p3 none, .imm (.int .i64) p4 none, .imm (.int .i64) p5 none]), (.tmp 1, .val false [.addr 1 0 0]), (.tmp 3, .val false [.own 60 (.int .u64) 0 p6]), (.tmp 4, .val false [.int .u64 p7]), (.tmp 11, .val false [.int .i64 p8])]
noncomputable def P_Shadow_needs : Ft_Shadow_needs := hid (runF (X_Shadow_needs N P_Shadow_list P_Shadow_box P_Shadow_allowed P_box_those P_Shadow_needs_1) B_Shadow_needs As_Shadow_needs R_Shadow_needs M_Shadow_needs)
theorem h_Shadow_needs : P_Shadow_needs = runF (X_Shadow_needs N P_Shadow_list P_Shadow_box P_Shadow_allowed P_box_those P_Shadow_needs_1) B_Shadow_needs As_Shadow_needs R_Shadow_needs M_Shadow_needs := hid_eq _
noncomputable def C_Shadow_needs : Contract := ⟨As_Shadow_needs, R_Shadow_needs, M_Shadow_needs, P_Shadow_needs⟩
theorem s_Shadow_needs : Sound Tryz.prog GG 51 C_Shadow_needs := by
  unfold C_Shadow_needs; rw [h_Shadow_needs]
  exact sound_of_run (fn := Tryz.f51) hmix hstable (tyOK_of ttOK) (hglob (X_Shadow_needs N P_Shadow_list P_Shadow_box P_Shadow_allowed P_box_those P_Shadow_needs_1)) (conOK_of (X := X_Shadow_needs N P_Shadow_list P_Shadow_box P_Shadow_allowed P_box_those P_Shadow_needs_1) ⟨s_Shadow_list, s_Shadow_box, s_Shadow_allowed, s_box_those, s_Shadow_needs_1, trivial⟩) (mconOK_of (X := X_Shadow_needs N P_Shadow_list P_Shadow_box P_Shadow_allowed P_box_those P_Shadow_needs_1) trivial) (by kernel_rfl) (by kernel_rfl) (by kernel_rfl) (by kernel_rfl) (by kernel_rfl) (of_decide_eq_true (by kernel_rfl))
noncomputable def l_Shadow_needs_3 : Nat → Int → Int → Int → (List Int) → (List Int) → (List Int) → (List Int) → Int → Int → Option (denL R_Shadow_needs) := hid (fun m0 p0 p1 p2 p3 p4 p5 p6 p7 p8 => L_Shadow_needs_3 N P_Shadow_list P_Shadow_box P_Shadow_allowed P_box_those P_Shadow_needs_1 m0 p0 p1 p2 p3 p4 p5 p6 p7 p8)
theorem h_Shadow_needs_3 : l_Shadow_needs_3 = fun m0 p0 p1 p2 p3 p4 p5 p6 p7 p8 => L_Shadow_needs_3 N P_Shadow_list P_Shadow_box P_Shadow_allowed P_box_those P_Shadow_needs_1 m0 p0 p1 p2 p3 p4 p5 p6 p7 p8 := hid_eq _
noncomputable def l_Shadow_needs_6 : Nat → Nat → Int → Int → Int → (List Int) → (List Int) → (List Int) → Int → (List Int) → Int → Int → (List Int) → Int → Int → Option (denL R_Shadow_needs) := hid (fun m0 m1 p0 p1 p2 p3 p4 p5 p6 p7 p8 p9 p10 p11 p12 => L_Shadow_needs_6 N P_Shadow_list P_Shadow_box P_Shadow_allowed P_box_those P_Shadow_needs_1 m0 m1 p0 p1 p2 p3 p4 p5 p6 p7 p8 p9 p10 p11 p12)
theorem h_Shadow_needs_6 : l_Shadow_needs_6 = fun m0 m1 p0 p1 p2 p3 p4 p5 p6 p7 p8 p9 p10 p11 p12 => L_Shadow_needs_6 N P_Shadow_list P_Shadow_box P_Shadow_allowed P_box_those P_Shadow_needs_1 m0 m1 p0 p1 p2 p3 p4 p5 p6 p7 p8 p9 p10 p11 p12 := hid_eq _
noncomputable def l_Shadow_needs_1006 : Nat → Nat → Int → Int → Int → (List Int) → (List Int) → (List Int) → Int → (List Int) → Int → Int → (List Int) → Int → Int → Option (denL R_Shadow_needs) := hid (fun m0 m1 p0 p1 p2 p3 p4 p5 p6 p7 p8 p9 p10 p11 p12 => L_Shadow_needs_1006 N P_Shadow_list P_Shadow_box P_Shadow_allowed P_box_those P_Shadow_needs_1 m0 m1 p0 p1 p2 p3 p4 p5 p6 p7 p8 p9 p10 p11 p12)
theorem h_Shadow_needs_1006 : l_Shadow_needs_1006 = fun m0 m1 p0 p1 p2 p3 p4 p5 p6 p7 p8 p9 p10 p11 p12 => L_Shadow_needs_1006 N P_Shadow_list P_Shadow_box P_Shadow_allowed P_box_those P_Shadow_needs_1 m0 m1 p0 p1 p2 p3 p4 p5 p6 p7 p8 p9 p10 p11 p12 := hid_eq _
noncomputable def l_Shadow_needs_1003 : Nat → Int → Int → Int → (List Int) → (List Int) → (List Int) → (List Int) → Int → Int → Option (denL R_Shadow_needs) := hid (fun m0 p0 p1 p2 p3 p4 p5 p6 p7 p8 => L_Shadow_needs_1003 N P_Shadow_list P_Shadow_box P_Shadow_allowed P_box_those P_Shadow_needs_1 m0 p0 p1 p2 p3 p4 p5 p6 p7 p8)
theorem h_Shadow_needs_1003 : l_Shadow_needs_1003 = fun m0 p0 p1 p2 p3 p4 p5 p6 p7 p8 => L_Shadow_needs_1003 N P_Shadow_list P_Shadow_box P_Shadow_allowed P_box_those P_Shadow_needs_1 m0 p0 p1 p2 p3 p4 p5 p6 p7 p8 := hid_eq _
theorem p_Shadow_needs (a0 : D_Shadow) : P_Shadow_needs (a0, ()) = 
  Option.bind (P_Shadow_allowed (a0, ())) fun r0 =>
  l_Shadow_needs_3 N a0.1 a0.2.1 a0.2.2.1 a0.2.2.2.1 a0.2.2.2.2.1 a0.2.2.2.2.2.1 ([] : List Int) r0.1 0 := by
  rewrite [h_Shadow_needs, h_Shadow_needs_3]
  kernel_rfl
theorem q_Shadow_needs_3 (m0 : Nat) (p0 : Int) (p1 : Int) (p2 : Int) (p3 : List Int) (p4 : List Int) (p5 : List Int) (p6 : List Int) (p7 : Int) (p8 : Int) : l_Shadow_needs_3 (m0 + 1) p0 p1 p2 p3 p4 p5 p6 p7 p8 = 
  bif decide (p8 < 3) then
    Option.bind (P_Shadow_list ((p0, (p1, (p2, (p3, (p4, (p5, ())))))), p8, ())) fun r1 =>
    l_Shadow_needs_6 m0 N p0 p1 p2 p3 p4 p5 p8 p6 p7 p8 r1.1 (List.length r1.1 : Int) 0
  else
    some (p6, ()) := by
  rewrite [h_Shadow_needs_3, h_Shadow_needs_6]
  kernel_rfl
theorem q_Shadow_needs_6 (m0 m1 : Nat) (p0 : Int) (p1 : Int) (p2 : Int) (p3 : List Int) (p4 : List Int) (p5 : List Int) (p6 : Int) (p7 : List Int) (p8 : Int) (p9 : Int) (p10 : List Int) (p11 : Int) (p12 : Int) : l_Shadow_needs_6 m0 (m1 + 1) p0 p1 p2 p3 p4 p5 p6 p7 p8 p9 p10 p11 p12 = 
  bif decide (p12 < p11) then
    bif inB p12 (List.length p10) then
      bif decide ((nth ((.int .i64) : Ty) p10 p12) = 1) then
        Option.bind (P_Shadow_box ((p0, (p1, (p2, (p3, (p4, (p5, ())))))), ())) fun r3 =>
        Option.bind (P_box_those (r3.1, (fun (y : D_A3 × Unit) => P_Shadow_needs_1 (y.1, (p0, (p1, (p2, (p3, (p4, (p5, ())))))), p6, p12, ())), ())) fun r4 =>
        bif (decide (((List.length p7) + (List.length ([(intBits .and .u64 p8 r4.1)] : List Int))) * 8 ≤ 140737488355328) && decide (((List.length p7) + (List.length ([(intBits .and .u64 p8 r4.1)] : List Int))) ≤ 140737488355328)) then
          l_Shadow_needs_1006 m0 m1 p0 p1 p2 p3 p4 p5 p6 (p7 ++ ([(intBits .and .u64 p8 r4.1)] : List Int)) p8 p9 p10 p11 (IntKind.wrap .i64 (p12 + 1))
        else none
      else
        l_Shadow_needs_6 m0 m1 p0 p1 p2 p3 p4 p5 p6 p7 p8 p9 p10 p11 (IntKind.wrap .i64 (p12 + 1))
    else none
  else
    l_Shadow_needs_3 m0 p0 p1 p2 p3 p4 p5 p7 p8 (IntKind.wrap .i64 (p9 + 1)) := by
  rewrite [h_Shadow_needs_3, h_Shadow_needs_6, h_Shadow_needs_1006]
  kernel_rfl
theorem q_Shadow_needs_1006 (m0 m1 : Nat) (p0 : Int) (p1 : Int) (p2 : Int) (p3 : List Int) (p4 : List Int) (p5 : List Int) (p6 : Int) (p7 : List Int) (p8 : Int) (p9 : Int) (p10 : List Int) (p11 : Int) (p12 : Int) : l_Shadow_needs_1006 m0 (m1 + 1) p0 p1 p2 p3 p4 p5 p6 p7 p8 p9 p10 p11 p12 = 
  bif decide (p12 < p11) then
    bif inB p12 (List.length p10) then
      bif decide ((nth ((.int .i64) : Ty) p10 p12) = 1) then
        Option.bind (P_Shadow_box ((p0, (p1, (p2, (p3, (p4, (p5, ())))))), ())) fun r3 =>
        Option.bind (P_box_those (r3.1, (fun (y : D_A3 × Unit) => P_Shadow_needs_1 (y.1, (p0, (p1, (p2, (p3, (p4, (p5, ())))))), p6, p12, ())), ())) fun r4 =>
        bif (decide (((List.length p7) + (List.length ([(intBits .and .u64 p8 r4.1)] : List Int))) * 8 ≤ 140737488355328) && decide (((List.length p7) + (List.length ([(intBits .and .u64 p8 r4.1)] : List Int))) ≤ 140737488355328)) then
          l_Shadow_needs_1006 m0 m1 p0 p1 p2 p3 p4 p5 p6 (p7 ++ ([(intBits .and .u64 p8 r4.1)] : List Int)) p8 p9 p10 p11 (IntKind.wrap .i64 (p12 + 1))
        else none
      else
        l_Shadow_needs_1006 m0 m1 p0 p1 p2 p3 p4 p5 p6 p7 p8 p9 p10 p11 (IntKind.wrap .i64 (p12 + 1))
    else none
  else
    l_Shadow_needs_1003 m0 p0 p1 p2 p3 p4 p5 p7 p8 (IntKind.wrap .i64 (p9 + 1)) := by
  rewrite [h_Shadow_needs_1006, h_Shadow_needs_1003]
  kernel_rfl
theorem q_Shadow_needs_1003 (m0 : Nat) (p0 : Int) (p1 : Int) (p2 : Int) (p3 : List Int) (p4 : List Int) (p5 : List Int) (p6 : List Int) (p7 : Int) (p8 : Int) : l_Shadow_needs_1003 (m0 + 1) p0 p1 p2 p3 p4 p5 p6 p7 p8 = 
  bif decide (p8 < 3) then
    Option.bind (P_Shadow_list ((p0, (p1, (p2, (p3, (p4, (p5, ())))))), p8, ())) fun r1 =>
    l_Shadow_needs_1006 m0 N p0 p1 p2 p3 p4 p5 p8 p6 p7 p8 r1.1 (List.length r1.1 : Int) 0
  else
    some (p6, ()) := by
  rewrite [h_Shadow_needs_1006, h_Shadow_needs_1003]
  kernel_rfl

/- 54: (loop.example/g01166/impl.Shadow).must -/
abbrev As_Shadow_must : List ATy := [.data true T_Shadow]
abbrev R_Shadow_must : List (Bool × Ty) := [(false, (.int .u64))]
abbrev M_Shadow_must : List RMode := []
abbrev Ft_Shadow_must : Type := D_Shadow × Unit → Option (Int × Unit)
noncomputable def X_Shadow_must (n : Nat) (F_set_count : Ft_set_count) (F_Shadow_needs : Ft_Shadow_needs) : Ctx := { types := TT, globals := [], con := [(48, ⟨As_set_count, R_set_count, M_set_count, F_set_count⟩), (51, ⟨As_Shadow_needs, R_Shadow_needs, M_Shadow_needs, F_Shadow_needs⟩)], keep := [(3, ⟨[.tmp 3, .tmp 7, .tmp 8, .tmp 9], []⟩)], results := [.tmp 2], ntmps := 21, n := n }
noncomputable def B_Shadow_must : Code := (Tryz.f54.body).getD .skip
noncomputable def L_Shadow_must_3 (n : Nat) (F_set_count : Ft_set_count) (F_Shadow_needs : Ft_Shadow_needs) (m0 : Nat) (p0 : Int) (p1 : List Int) (p2 : Int) (p3 : Int) : Option (denL R_Shadow_must) := loopF (X_Shadow_must n F_set_count F_Shadow_needs) B_Shadow_must R_Shadow_must M_Shadow_must 3 [m0] [(.ver, .num 1), (.tmp 3, .val false [.int .u64 p0]), (.tmp 7, .val false [.own 60 (.int .u64) 0 p1]), (.tmp 8, .val false [.int .i64 p2]), (.tmp 9, .val false [.int .i64 p3])]
noncomputable def P_Shadow_must : Ft_Shadow_must := hid (runF (X_Shadow_must N P_set_count P_Shadow_needs) B_Shadow_must As_Shadow_must R_Shadow_must M_Shadow_must)
theorem h_Shadow_must : P_Shadow_must = runF (X_Shadow_must N P_set_count P_Shadow_needs) B_Shadow_must As_Shadow_must R_Shadow_must M_Shadow_must := hid_eq _
noncomputable def C_Shadow_must : Contract := ⟨As_Shadow_must, R_Shadow_must, M_Shadow_must, P_Shadow_must⟩
theorem s_Shadow_must : Sound Tryz.prog GG 54 C_Shadow_must := by
  unfold C_Shadow_must; rw [h_Shadow_must]
  exact sound_of_run (fn := Tryz.f54) hmix hstable (tyOK_of ttOK) (hglob (X_Shadow_must N P_set_count P_Shadow_needs)) (conOK_of (X := X_Shadow_must N P_set_count P_Shadow_needs) ⟨s_set_count, s_Shadow_needs, trivial⟩) (mconOK_of (X := X_Shadow_must N P_set_count P_Shadow_needs) trivial) (by kernel_rfl) (by kernel_rfl) (by kernel_rfl) (by kernel_rfl) (by kernel_rfl) (of_decide_eq_true (by kernel_rfl))
noncomputable def l_Shadow_must_3 : Nat → Int → (List Int) → Int → Int → Option (denL R_Shadow_must) := hid (fun m0 p0 p1 p2 p3 => L_Shadow_must_3 N P_set_count P_Shadow_needs m0 p0 p1 p2 p3)
theorem h_Shadow_must_3 : l_Shadow_must_3 = fun m0 p0 p1 p2 p3 => L_Shadow_must_3 N P_set_count P_Shadow_needs m0 p0 p1 p2 p3 := hid_eq _
theorem p_Shadow_must (a0 : D_Shadow) : P_Shadow_must (a0, ()) = 
  Option.bind (P_Shadow_needs (a0, ())) fun r0 =>
  l_Shadow_must_3 N 0 r0.1 (List.length r0.1 : Int) 0 := by
  rewrite [h_Shadow_must, h_Shadow_must_3]
  kernel_rfl
theorem q_Shadow_must_3 (m0 : Nat) (p0 : Int) (p1 : List Int) (p2 : Int) (p3 : Int) : l_Shadow_must_3 (m0 + 1) p0 p1 p2 p3 = 
  bif decide (p3 < p2) then
    bif inB p3 (List.length p1) then
      Option.bind (P_set_count ((nth ((.int .u64) : Ty) p1 p3), ())) fun r2 =>
      bif decide (r2.1 = 1) then
        l_Shadow_must_3 m0 (intBits .or .u64 p0 (nth ((.int .u64) : Ty) p1 p3)) p1 p2 (IntKind.wrap .i64 (p3 + 1))
      else
        l_Shadow_must_3 m0 p0 p1 p2 (IntKind.wrap .i64 (p3 + 1))
    else none
  else
    some (p0, ()) := by
  rewrite [h_Shadow_must_3]
  kernel_rfl

/- 135: slices.Equal[[]int,int] -/
abbrev As_slices_Equal_int_int : List ATy := [.data false (.sl (.int .i64)), .data false (.sl (.int .i64))]
abbrev R_slices_Equal_int_int : List (Bool × Ty) := [(false, .bool)]
abbrev M_slices_Equal_int_int : List RMode := []
abbrev Ft_slices_Equal_int_int : Type := (List Int) × (List Int) × Unit → Option (Bool × Unit)
noncomputable def X_slices_Equal_int_int (n : Nat) : Ctx := { types := TT, globals := [], con := [], keep := [(4, ⟨[.tmp 0, .tmp 1, .tmp 12, .tmp 13], []⟩)], results := [.tmp 4], ntmps := 26, n := n }
noncomputable def B_slices_Equal_int_int : Code := (Tryz.f135.body).getD .skip
noncomputable def L_slices_Equal_int_int_4 (n : Nat) (m0 : Nat) (p0 : List Int) (p1 : List Int) (p2 : Int) (p3 : Int) : Option (denL R_slices_Equal_int_int) := loopF (X_slices_Equal_int_int n) B_slices_Equal_int_int R_slices_Equal_int_int M_slices_Equal_int_int 4 [m0] [(.ver, .num 1), (.tmp 0, .val false [.imm (.int .i64) p0 (some 0)]), (.tmp 1, .val false [.imm (.int .i64) p1 (some 1)]), (.tmp 12, .val false [.int .i64 p2]), (.tmp 13, .val false [.int .i64 p3])]
noncomputable def P_slices_Equal_int_int : Ft_slices_Equal_int_int := hid (runF (X_slices_Equal_int_int N) B_slices_Equal_int_int As_slices_Equal_int_int R_slices_Equal_int_int M_slices_Equal_int_int)
theorem h_slices_Equal_int_int : P_slices_Equal_int_int = runF (X_slices_Equal_int_int N) B_slices_Equal_int_int As_slices_Equal_int_int R_slices_Equal_int_int M_slices_Equal_int_int := hid_eq _
noncomputable def C_slices_Equal_int_int : Contract := ⟨As_slices_Equal_int_int, R_slices_Equal_int_int, M_slices_Equal_int_int, P_slices_Equal_int_int⟩
theorem s_slices_Equal_int_int : Sound Tryz.prog GG 135 C_slices_Equal_int_int := by
  unfold C_slices_Equal_int_int; rw [h_slices_Equal_int_int]
  exact sound_of_run (fn := Tryz.f135) hmix hstable (tyOK_of ttOK) (hglob (X_slices_Equal_int_int N)) (conOK_of (X := X_slices_Equal_int_int N) trivial) (mconOK_of (X := X_slices_Equal_int_int N) trivial) (by kernel_rfl) (by kernel_rfl) (by kernel_rfl) (by kernel_rfl) (by kernel_rfl) (of_decide_eq_true (by kernel_rfl))
noncomputable def l_slices_Equal_int_int_4 : Nat → (List Int) → (List Int) → Int → Int → Option (denL R_slices_Equal_int_int) := hid (fun m0 p0 p1 p2 p3 => L_slices_Equal_int_int_4 N m0 p0 p1 p2 p3)
theorem h_slices_Equal_int_int_4 : l_slices_Equal_int_int_4 = fun m0 p0 p1 p2 p3 => L_slices_Equal_int_int_4 N m0 p0 p1 p2 p3 := hid_eq _
theorem p_slices_Equal_int_int (a0 : List Int) (a1 : List Int) : P_slices_Equal_int_int (a0, a1, ()) = 
  bif !decide ((List.length a0 : Int) = (List.length a1 : Int)) then
    some (false, ())
  else
    l_slices_Equal_int_int_4 N a0 a1 (List.length a0 : Int) 0 := by
  rewrite [h_slices_Equal_int_int, h_slices_Equal_int_int_4]
  kernel_rfl
theorem q_slices_Equal_int_int_4 (m0 : Nat) (p0 : List Int) (p1 : List Int) (p2 : Int) (p3 : Int) : l_slices_Equal_int_int_4 (m0 + 1) p0 p1 p2 p3 = 
  bif decide (p3 < p2) then
    bif inB p3 (List.length p0) then
      bif inB p3 (List.length p1) then
        bif !decide ((nth ((.int .i64) : Ty) p0 p3) = (nth ((.int .i64) : Ty) p1 p3)) then
          some (false, ())
        else
          l_slices_Equal_int_int_4 m0 p0 p1 p2 (IntKind.wrap .i64 (p3 + 1))
      else none
    else none
  else
    some (true, ()) := by
  rewrite [h_slices_Equal_int_int_4]
  kernel_rfl

/- 111: (loop.example/g01166/impl.Shadow).same -/
abbrev As_Shadow_same : List ATy := [.data true T_Shadow, .data true T_Shadow]
abbrev R_Shadow_same : List (Bool × Ty) := [(false, .bool)]
abbrev M_Shadow_same : List RMode := []
abbrev Ft_Shadow_same : Type := D_Shadow × D_Shadow × Unit → Option (Bool × Unit)
noncomputable def X_Shadow_same (n : Nat) (F_Shadow_box : Ft_Shadow_box) (F_slices_Equal_int_int : Ft_slices_Equal_int_int) : Ctx := { types := TT, globals := [], con := [(46, ⟨As_Shadow_box, R_Shadow_box, M_Shadow_box, F_Shadow_box⟩), (135, ⟨As_slices_Equal_int_int, R_slices_Equal_int_int, M_slices_Equal_int_int, F_slices_Equal_int_int⟩)], keep := [], results := [.tmp 4], ntmps := 31, n := n }
noncomputable def B_Shadow_same : Code := (Tryz.f111.body).getD .skip
noncomputable def P_Shadow_same : Ft_Shadow_same := hid (runF (X_Shadow_same N P_Shadow_box P_slices_Equal_int_int) B_Shadow_same As_Shadow_same R_Shadow_same M_Shadow_same)
theorem h_Shadow_same : P_Shadow_same = runF (X_Shadow_same N P_Shadow_box P_slices_Equal_int_int) B_Shadow_same As_Shadow_same R_Shadow_same M_Shadow_same := hid_eq _
noncomputable def C_Shadow_same : Contract := ⟨As_Shadow_same, R_Shadow_same, M_Shadow_same, P_Shadow_same⟩
theorem s_Shadow_same : Sound Tryz.prog GG 111 C_Shadow_same := by
  unfold C_Shadow_same; rw [h_Shadow_same]
  exact sound_of_run (fn := Tryz.f111) hmix hstable (tyOK_of ttOK) (hglob (X_Shadow_same N P_Shadow_box P_slices_Equal_int_int)) (conOK_of (X := X_Shadow_same N P_Shadow_box P_slices_Equal_int_int) ⟨s_Shadow_box, s_slices_Equal_int_int, trivial⟩) (mconOK_of (X := X_Shadow_same N P_Shadow_box P_slices_Equal_int_int) trivial) (by kernel_rfl) (by kernel_rfl) (by kernel_rfl) (by kernel_rfl) (by kernel_rfl) (of_decide_eq_true (by kernel_rfl))
theorem p_Shadow_same (a0 : D_Shadow) (a1 : D_Shadow) : P_Shadow_same (a0, a1, ()) = 
  Option.bind (P_Shadow_box (a0, ())) fun r0 =>
  Option.bind (P_Shadow_box (a1, ())) fun r1 =>
  bif (decide (r0.1.1 = r1.1.1) && (decide (r0.1.2.1 = r1.1.2.1) && (decide (r0.1.2.2.1 = r1.1.2.2.1) && true))) then
    Option.bind (P_slices_Equal_int_int (a0.2.2.2.1, a1.2.2.2.1, ())) fun r3 =>
    bif r3.1 then
      Option.bind (P_slices_Equal_int_int (a0.2.2.2.2.1, a1.2.2.2.2.1, ())) fun r5 =>
      bif r5.1 then
        Option.bind (P_slices_Equal_int_int (a0.2.2.2.2.2.1, a1.2.2.2.2.2.1, ())) fun r7 =>
        some (r7.1, ())
      else
        some (false, ())
    else
      some (false, ())
  else
    some (false, ()) := by
  rewrite [h_Shadow_same]
  kernel_rfl

/- 75: (loop.example/g01166/impl.Shadow).isOf -/
abbrev As_Shadow_isOf : List ATy := [.data true T_Shadow, .data false (.int .u64)]
abbrev R_Shadow_isOf : List (Bool × Ty) := [(false, .bool)]
abbrev M_Shadow_isOf : List RMode := []
abbrev Ft_Shadow_isOf : Type := D_Shadow × Int × Unit → Option (Bool × Unit)
noncomputable def X_Shadow_isOf (n : Nat) (F_box_shadow : Ft_box_shadow) (F_Shadow_box : Ft_Shadow_box) (F_Shadow_same : Ft_Shadow_same) : Ctx := { types := TT, globals := [], con := [(35, ⟨As_box_shadow, R_box_shadow, M_box_shadow, F_box_shadow⟩), (46, ⟨As_Shadow_box, R_Shadow_box, M_Shadow_box, F_Shadow_box⟩), (111, ⟨As_Shadow_same, R_Shadow_same, M_Shadow_same, F_Shadow_same⟩)], keep := [], results := [.tmp 4], ntmps := 11, n := n }
noncomputable def B_Shadow_isOf : Code := (Tryz.f75.body).getD .skip
noncomputable def P_Shadow_isOf : Ft_Shadow_isOf := hid (runF (X_Shadow_isOf N P_box_shadow P_Shadow_box P_Shadow_same) B_Shadow_isOf As_Shadow_isOf R_Shadow_isOf M_Shadow_isOf)
theorem h_Shadow_isOf : P_Shadow_isOf = runF (X_Shadow_isOf N P_box_shadow P_Shadow_box P_Shadow_same) B_Shadow_isOf As_Shadow_isOf R_Shadow_isOf M_Shadow_isOf := hid_eq _
noncomputable def C_Shadow_isOf : Contract := ⟨As_Shadow_isOf, R_Shadow_isOf, M_Shadow_isOf, P_Shadow_isOf⟩
theorem s_Shadow_isOf : Sound Tryz.prog GG 75 C_Shadow_isOf := by
  unfold C_Shadow_isOf; rw [h_Shadow_isOf]
  exact sound_of_run (fn := Tryz.f75) hmix hstable (tyOK_of ttOK) (hglob (X_Shadow_isOf N P_box_shadow P_Shadow_box P_Shadow_same)) (conOK_of (X := X_Shadow_isOf N P_box_shadow P_Shadow_box P_Shadow_same) ⟨s_box_shadow, s_Shadow_box, s_Shadow_same, trivial⟩) (mconOK_of (X := X_Shadow_isOf N P_box_shadow P_Shadow_box P_Shadow_same) trivial) (by kernel_rfl) (by kernel_rfl) (by kernel_rfl) (by kernel_rfl) (by kernel_rfl) (of_decide_eq_true (by kernel_rfl))
theorem p_Shadow_isOf (a0 : D_Shadow) (a1 : Int) : P_Shadow_isOf (a0, a1, ()) = 
  Option.bind (P_Shadow_box (a0, ())) fun r0 =>
  Option.bind (P_box_shadow (r0.1, a1, ())) fun r1 =>
  Option.bind (P_Shadow_same (a0, r1.1, ())) fun r2 =>
  some (r2.1, ()) := by
  rewrite [h_Shadow_isOf]
  kernel_rfl

/- 53: (loop.example/g01166/impl.Shadow).fits -/
abbrev As_Shadow_fits : List ATy := [.data true T_Shadow]
abbrev R_Shadow_fits : List (Bool × Ty) := [(false, .bool)]
abbrev M_Shadow_fits : List RMode := []
abbrev Ft_Shadow_fits : Type := D_Shadow × Unit → Option (Bool × Unit)
noncomputable def X_Shadow_fits (n : Nat) (F_Shadow_allowed : Ft_Shadow_allowed) (F_Shadow_isOf : Ft_Shadow_isOf) : Ctx := { types := TT, globals := [], con := [(49, ⟨As_Shadow_allowed, R_Shadow_allowed, M_Shadow_allowed, F_Shadow_allowed⟩), (75, ⟨As_Shadow_isOf, R_Shadow_isOf, M_Shadow_isOf, F_Shadow_isOf⟩)], keep := [], results := [.tmp 2], ntmps := 7, n := n }
noncomputable def B_Shadow_fits : Code := (Tryz.f53.body).getD .skip
noncomputable def P_Shadow_fits : Ft_Shadow_fits := hid (runF (X_Shadow_fits N P_Shadow_allowed P_Shadow_isOf) B_Shadow_fits As_Shadow_fits R_Shadow_fits M_Shadow_fits)
theorem h_Shadow_fits : P_Shadow_fits = runF (X_Shadow_fits N P_Shadow_allowed P_Shadow_isOf) B_Shadow_fits As_Shadow_fits R_Shadow_fits M_Shadow_fits := hid_eq _
noncomputable def C_Shadow_fits : Contract := ⟨As_Shadow_fits, R_Shadow_fits, M_Shadow_fits, P_Shadow_fits⟩
theorem s_Shadow_fits : Sound Tryz.prog GG 53 C_Shadow_fits := by
  unfold C_Shadow_fits; rw [h_Shadow_fits]
  exact sound_of_run (fn := Tryz.f53) hmix hstable (tyOK_of ttOK) (hglob (X_Shadow_fits N P_Shadow_allowed P_Shadow_isOf)) (conOK_of (X := X_Shadow_fits N P_Shadow_allowed P_Shadow_isOf) ⟨s_Shadow_allowed, s_Shadow_isOf, trivial⟩) (mconOK_of (X := X_Shadow_fits N P_Shadow_allowed P_Shadow_isOf) trivial) (by kernel_rfl) (by kernel_rfl) (by kernel_rfl) (by kernel_rfl) (by kernel_rfl) (of_decide_eq_true (by kernel_rfl))
theorem p_Shadow_fits (a0 : D_Shadow) : P_Shadow_fits (a0, ()) = 
  Option.bind (P_Shadow_allowed (a0, ())) fun r0 =>
  Option.bind (P_Shadow_isOf (a0, r0.1, ())) fun r1 =>
  some (r1.1, ()) := by
  rewrite [h_Shadow_fits]
  kernel_rfl

/- 72: loop.example/g01166/impl.isFitting -/
abbrev As_impl_isFitting : List ATy := [.data true T_Shadow]
abbrev R_impl_isFitting : List (Bool × Ty) := [(false, .bool)]
abbrev M_impl_isFitting : List RMode := []
abbrev Ft_impl_isFitting : Type := D_Shadow × Unit → Option (Bool × Unit)
noncomputable def X_impl_isFitting (n : Nat) (F_impl_IsShadow : Ft_impl_IsShadow) (F_Shadow_fits : Ft_Shadow_fits) : Ctx := { types := TT, globals := [], con := [(40, ⟨As_impl_IsShadow, R_impl_IsShadow, M_impl_IsShadow, F_impl_IsShadow⟩), (53, ⟨As_Shadow_fits, R_Shadow_fits, M_Shadow_fits, F_Shadow_fits⟩)], keep := [], results := [.tmp 2], ntmps := 9, n := n }
noncomputable def B_impl_isFitting : Code := (Tryz.f72.body).getD .skip
noncomputable def P_impl_isFitting : Ft_impl_isFitting := hid (runF (X_impl_isFitting N P_impl_IsShadow P_Shadow_fits) B_impl_isFitting As_impl_isFitting R_impl_isFitting M_impl_isFitting)
theorem h_impl_isFitting : P_impl_isFitting = runF (X_impl_isFitting N P_impl_IsShadow P_Shadow_fits) B_impl_isFitting As_impl_isFitting R_impl_isFitting M_impl_isFitting := hid_eq _
noncomputable def C_impl_isFitting : Contract := ⟨As_impl_isFitting, R_impl_isFitting, M_impl_isFitting, P_impl_isFitting⟩
theorem s_impl_isFitting : Sound Tryz.prog GG 72 C_impl_isFitting := by
  unfold C_impl_isFitting; rw [h_impl_isFitting]
  exact sound_of_run (fn := Tryz.f72) hmix hstable (tyOK_of ttOK) (hglob (X_impl_isFitting N P_impl_IsShadow P_Shadow_fits)) (conOK_of (X := X_impl_isFitting N P_impl_IsShadow P_Shadow_fits) ⟨s_impl_IsShadow, s_Shadow_fits, trivial⟩) (mconOK_of (X := X_impl_isFitting N P_impl_IsShadow P_Shadow_fits) trivial) (by kernel_rfl) (by kernel_rfl) (by kernel_rfl) (by kernel_rfl) (by kernel_rfl) (of_decide_eq_true (by kernel_rfl))
theorem p_impl_isFitting (a0 : D_Shadow) : P_impl_isFitting (a0, ()) = 
  Option.bind (P_impl_IsShadow (a0, ())) fun r0 =>
  bif r0.1 then
    Option.bind (P_Shadow_fits (a0, ())) fun r2 =>
    some (r2.1, ())
  else
    some (false, ()) := by
  rewrite [h_impl_isFitting]
  kernel_rfl

/- 42: (loop.example/g01166/impl.Shadow).fewest -/
abbrev As_Shadow_fewest : List ATy := [.data true T_Shadow]
abbrev R_Shadow_fewest : List (Bool × Ty) := [(false, (.int .i64)), (false, .bool)]
abbrev M_Shadow_fewest : List RMode := []
abbrev Ft_Shadow_fewest : Type := D_Shadow × Unit → Option (Int × Bool × Unit)
noncomputable def X_Shadow_fewest (n : Nat) (F_Shadow_box : Ft_Shadow_box) (F_box_size : Ft_box_size) (F_set_count : Ft_set_count) (F_impl_canMeet : Ft_impl_canMeet) (F_Shadow_needs : Ft_Shadow_needs) (F_Shadow_must : Ft_Shadow_must) (F_impl_isFitting : Ft_impl_isFitting) : Ctx := { types := TT, globals := [], con := [(46, ⟨As_Shadow_box, R_Shadow_box, M_Shadow_box, F_Shadow_box⟩), (47, ⟨As_box_size, R_box_size, M_box_size, F_box_size⟩), (48, ⟨As_set_count, R_set_count, M_set_count, F_set_count⟩), (50, ⟨As_impl_canMeet, R_impl_canMeet, M_impl_canMeet, F_impl_canMeet⟩), (51, ⟨As_Shadow_needs, R_Shadow_needs, M_Shadow_needs, F_Shadow_needs⟩), (54, ⟨As_Shadow_must, R_Shadow_must, M_Shadow_must, F_Shadow_must⟩), (72, ⟨As_impl_isFitting, R_impl_isFitting, M_impl_isFitting, F_impl_isFitting⟩)], keep := [(4, ⟨[.box 1, .tmp 1, .tmp 4], []⟩)], results := [.tmp 2, .tmp 3], ntmps := 31, n := n }
noncomputable def B_Shadow_fewest : Code := (Tryz.f42.body).getD .skip
noncomputable def L_Shadow_fewest_4 (n : Nat) (F_Shadow_box : Ft_Shadow_box) (F_box_size : Ft_box_size) (F_set_count : Ft_set_count) (F_impl_canMeet : Ft_impl_canMeet) (F_Shadow_needs : Ft_Shadow_needs) (F_Shadow_must : Ft_Shadow_must) (F_impl_isFitting : Ft_impl_isFitting) (m0 : Nat) (p0 : Int) (p1 : Int) (p2 : Int) (p3 : List Int) (p4 : List Int) (p5 : List Int) (p6 : Int) : Option (denL R_Shadow_fewest) := loopF (X_Shadow_fewest n F_Shadow_box F_box_size F_set_count F_impl_canMeet F_Shadow_needs F_Shadow_must F_impl_isFitting) B_Shadow_fewest R_Shadow_fewest M_Shadow_fewest 4 [m0] [(.ver, .num 1), (.box 1, .box 0 false [.int .i64 p0, .int .i64 p1, .int .i64 p2, .imm (.int .i64) p3 (some 3), .imm (.int .i64) p4 (some 4), .imm (.int .i64) p5 (some 5)]), (.tmp 1, .val false [.addr 1 0 0]), (.tmp 4, .val false [.int .i64 p6])]
noncomputable def P_Shadow_fewest : Ft_Shadow_fewest := hid (runF (X_Shadow_fewest N P_Shadow_box P_box_size P_set_count P_impl_canMeet P_Shadow_needs P_Shadow_must P_impl_isFitting) B_Shadow_fewest As_Shadow_fewest R_Shadow_fewest M_Shadow_fewest)
theorem h_Shadow_fewest : P_Shadow_fewest = runF (X_Shadow_fewest N P_Shadow_box P_box_size P_set_count P_impl_canMeet P_Shadow_needs P_Shadow_must P_impl_isFitting) B_Shadow_fewest As_Shadow_fewest R_Shadow_fewest M_Shadow_fewest := hid_eq _
noncomputable def C_Shadow_fewest : Contract := ⟨As_Shadow_fewest, R_Shadow_fewest, M_Shadow_fewest, P_Shadow_fewest⟩
theorem s_Shadow_fewest : Sound Tryz.prog GG 42 C_Shadow_fewest := by
  unfold C_Shadow_fewest; rw [h_Shadow_fewest]
  exact sound_of_run (fn := Tryz.f42) hmix hstable (tyOK_of ttOK) (hglob (X_Shadow_fewest N P_Shadow_box P_box_size P_set_count P_impl_canMeet P_Shadow_needs P_Shadow_must P_impl_isFitting)) (conOK_of (X := X_Shadow_fewest N P_Shadow_box P_box_size P_set_count P_impl_canMeet P_Shadow_needs P_Shadow_must P_impl_isFitting) ⟨s_Shadow_box, s_box_size, s_set_count, s_impl_canMeet, s_Shadow_needs, s_Shadow_must, s_impl_isFitting, trivial⟩) (mconOK_of (X := X_Shadow_fewest N P_Shadow_box P_box_size P_set_count P_impl_canMeet P_Shadow_needs P_Shadow_must P_impl_isFitting) trivial) (by kernel_rfl) (by kernel_rfl) (by kernel_rfl) (by kernel_rfl) (by kernel_rfl) (of_decide_eq_true (by kernel_rfl))
noncomputable def l_Shadow_fewest_4 : Nat → Int → Int → Int → (List Int) → (List Int) → (List Int) → Int → Option (denL R_Shadow_fewest) := hid (fun m0 p0 p1 p2 p3 p4 p5 p6 => L_Shadow_fewest_4 N P_Shadow_box P_box_size P_set_count P_impl_canMeet P_Shadow_needs P_Shadow_must P_impl_isFitting m0 p0 p1 p2 p3 p4 p5 p6)
theorem h_Shadow_fewest_4 : l_Shadow_fewest_4 = fun m0 p0 p1 p2 p3 p4 p5 p6 => L_Shadow_fewest_4 N P_Shadow_box P_box_size P_set_count P_impl_canMeet P_Shadow_needs P_Shadow_must P_impl_isFitting m0 p0 p1 p2 p3 p4 p5 p6 := hid_eq _
theorem p_Shadow_fewest (a0 : D_Shadow) : P_Shadow_fewest (a0, ()) = 
  Option.bind (P_impl_isFitting (a0, ())) fun r0 =>
  bif !r0.1 then
    some (0, false, ())
  else
    Option.bind (P_Shadow_box (a0, ())) fun r2 =>
    Option.bind (P_box_size (r2.1, ())) fun r3 =>
    bif decide (r3.1 > 27) then
      some (0, false, ())
    else
      Option.bind (P_Shadow_must (a0, ())) fun r5 =>
      Option.bind (P_set_count (r5.1, ())) fun r6 =>
      l_Shadow_fewest_4 N a0.1 a0.2.1 a0.2.2.1 a0.2.2.2.1 a0.2.2.2.2.1 a0.2.2.2.2.2.1 r6.1 := by
  rewrite [h_Shadow_fewest, h_Shadow_fewest_4]
  kernel_rfl
theorem q_Shadow_fewest_4 (m0 : Nat) (p0 : Int) (p1 : Int) (p2 : Int) (p3 : List Int) (p4 : List Int) (p5 : List Int) (p6 : Int) : l_Shadow_fewest_4 (m0 + 1) p0 p1 p2 p3 p4 p5 p6 = 
  Option.bind (P_Shadow_needs ((p0, (p1, (p2, (p3, (p4, (p5, ())))))), ())) fun r0 =>
  Option.bind (P_Shadow_must ((p0, (p1, (p2, (p3, (p4, (p5, ())))))), ())) fun r1 =>
  Option.bind (P_Shadow_must ((p0, (p1, (p2, (p3, (p4, (p5, ())))))), ())) fun r2 =>
  Option.bind (P_set_count (r2.1, ())) fun r3 =>
  Option.bind (P_impl_canMeet (r0.1, r1.1, 0, (IntKind.wrap .i64 (p6 - r3.1)), ())) fun r4 =>
  bif !r4.1 then
    l_Shadow_fewest_4 m0 p0 p1 p2 p3 p4 p5 (IntKind.wrap .i64 (p6 + 1))
  else
    some (p6, true, ()) := by
  rewrite [h_Shadow_fewest_4]
  kernel_rfl

/- 12: loop.example/g01166/impl.FewestCubes -/
abbrev As_impl_FewestCubes : List ATy := [.data true T_Shadow]
abbrev R_impl_FewestCubes : List (Bool × Ty) := [(false, (.int .i64)), (false, .bool)]
abbrev M_impl_FewestCubes : List RMode := []
abbrev Ft_impl_FewestCubes : Type := D_Shadow × Unit → Option (Int × Bool × Unit)
noncomputable def X_impl_FewestCubes (n : Nat) (F_Shadow_fewest : Ft_Shadow_fewest) : Ctx := { types := TT, globals := [], con := [(42, ⟨As_Shadow_fewest, R_Shadow_fewest, M_Shadow_fewest, F_Shadow_fewest⟩)], keep := [], results := [.tmp 2, .tmp 3], ntmps := 8, n := n }
noncomputable def B_impl_FewestCubes : Code := (Tryz.f12.body).getD .skip
noncomputable def P_impl_FewestCubes : Ft_impl_FewestCubes := hid (runF (X_impl_FewestCubes N P_Shadow_fewest) B_impl_FewestCubes As_impl_FewestCubes R_impl_FewestCubes M_impl_FewestCubes)
theorem h_impl_FewestCubes : P_impl_FewestCubes = runF (X_impl_FewestCubes N P_Shadow_fewest) B_impl_FewestCubes As_impl_FewestCubes R_impl_FewestCubes M_impl_FewestCubes := hid_eq _
noncomputable def C_impl_FewestCubes : Contract := ⟨As_impl_FewestCubes, R_impl_FewestCubes, M_impl_FewestCubes, P_impl_FewestCubes⟩
theorem s_impl_FewestCubes : Sound Tryz.prog GG 12 C_impl_FewestCubes := by
  unfold C_impl_FewestCubes; rw [h_impl_FewestCubes]
  exact sound_of_run (fn := Tryz.f12) hmix hstable (tyOK_of ttOK) (hglob (X_impl_FewestCubes N P_Shadow_fewest)) (conOK_of (X := X_impl_FewestCubes N P_Shadow_fewest) ⟨s_Shadow_fewest, trivial⟩) (mconOK_of (X := X_impl_FewestCubes N P_Shadow_fewest) trivial) (by kernel_rfl) (by kernel_rfl) (by kernel_rfl) (by kernel_rfl) (by kernel_rfl) (of_decide_eq_true (by kernel_rfl))
theorem p_impl_FewestCubes (a0 : D_Shadow) : P_impl_FewestCubes (a0, ()) = 
  Option.bind (P_Shadow_fewest (a0, ())) fun r0 =>
  some (r0.1, r0.2.1, ()) := by
  rewrite [h_impl_FewestCubes]
  kernel_rfl

/- 3: loop.example/g01166/laws.FnGaps -/
abbrev As_laws_FnGaps : List ATy := [.data false (.sl (.int .u8))]
abbrev R_laws_FnGaps : List (Bool × Ty) := [(false, .bool)]
abbrev M_laws_FnGaps : List RMode := []
abbrev Ft_laws_FnGaps : Type := (List Int) × Unit → Option (Bool × Unit)
noncomputable def X_laws_FnGaps (n : Nat) (F_laws_vBig : Ft_laws_vBig) (F_spec_DrawShadowGap : Ft_spec_DrawShadowGap) (F_impl_ShadowGap : Ft_impl_ShadowGap) (F_spec_ShadowGap : Ft_spec_ShadowGap) (F_spec_IsBench : Ft_spec_IsBench) (F_impl_ShadowsOf : Ft_impl_ShadowsOf) (F_impl_LineBound : Ft_impl_LineBound) (F_impl_FewestCubes : Ft_impl_FewestCubes) : Ctx := { types := TT, globals := [], con := [(5, ⟨As_laws_vBig, R_laws_vBig, M_laws_vBig, F_laws_vBig⟩), (6, ⟨As_spec_DrawShadowGap, R_spec_DrawShadowGap, M_spec_DrawShadowGap, F_spec_DrawShadowGap⟩), (7, ⟨As_impl_ShadowGap, R_impl_ShadowGap, M_impl_ShadowGap, F_impl_ShadowGap⟩), (8, ⟨As_spec_ShadowGap, R_spec_ShadowGap, M_spec_ShadowGap, F_spec_ShadowGap⟩), (9, ⟨As_spec_IsBench, R_spec_IsBench, M_spec_IsBench, F_spec_IsBench⟩), (10, ⟨As_impl_ShadowsOf, R_impl_ShadowsOf, M_impl_ShadowsOf, F_impl_ShadowsOf⟩), (11, ⟨As_impl_LineBound, R_impl_LineBound, M_impl_LineBound, F_impl_LineBound⟩), (12, ⟨As_impl_FewestCubes, R_impl_FewestCubes, M_impl_FewestCubes, F_impl_FewestCubes⟩)], keep := [], results := [.tmp 2], ntmps := 87, n := n }
noncomputable def B_laws_FnGaps : Code := (Tryz.f3.body).getD .skip
noncomputable def P_laws_FnGaps : Ft_laws_FnGaps := hid (runF (X_laws_FnGaps N P_laws_vBig P_spec_DrawShadowGap P_impl_ShadowGap P_spec_ShadowGap P_spec_IsBench P_impl_ShadowsOf P_impl_LineBound P_impl_FewestCubes) B_laws_FnGaps As_laws_FnGaps R_laws_FnGaps M_laws_FnGaps)
theorem h_laws_FnGaps : P_laws_FnGaps = runF (X_laws_FnGaps N P_laws_vBig P_spec_DrawShadowGap P_impl_ShadowGap P_spec_ShadowGap P_spec_IsBench P_impl_ShadowsOf P_impl_LineBound P_impl_FewestCubes) B_laws_FnGaps As_laws_FnGaps R_laws_FnGaps M_laws_FnGaps := hid_eq _
noncomputable def C_laws_FnGaps : Contract := ⟨As_laws_FnGaps, R_laws_FnGaps, M_laws_FnGaps, P_laws_FnGaps⟩
theorem s_laws_FnGaps : Sound Tryz.prog GG 3 C_laws_FnGaps := by
  unfold C_laws_FnGaps; rw [h_laws_FnGaps]
  exact sound_of_run (fn := Tryz.f3) hmix hstable (tyOK_of ttOK) (hglob (X_laws_FnGaps N P_laws_vBig P_spec_DrawShadowGap P_impl_ShadowGap P_spec_ShadowGap P_spec_IsBench P_impl_ShadowsOf P_impl_LineBound P_impl_FewestCubes)) (conOK_of (X := X_laws_FnGaps N P_laws_vBig P_spec_DrawShadowGap P_impl_ShadowGap P_spec_ShadowGap P_spec_IsBench P_impl_ShadowsOf P_impl_LineBound P_impl_FewestCubes) ⟨s_laws_vBig, s_spec_DrawShadowGap, s_impl_ShadowGap, s_spec_ShadowGap, s_spec_IsBench, s_impl_ShadowsOf, s_impl_LineBound, s_impl_FewestCubes, trivial⟩) (mconOK_of (X := X_laws_FnGaps N P_laws_vBig P_spec_DrawShadowGap P_impl_ShadowGap P_spec_ShadowGap P_spec_IsBench P_impl_ShadowsOf P_impl_LineBound P_impl_FewestCubes) trivial) (by kernel_rfl) (by kernel_rfl) (by kernel_rfl) (by kernel_rfl) (by kernel_rfl) (of_decide_eq_true (by kernel_rfl))
theorem p_laws_FnGaps (a0 : List Int) : P_laws_FnGaps (a0, ()) = 
  Option.bind (P_laws_vBig (a0, ())) fun r0 =>
  bif r0.1 then
    some (true, ())
  else
    Option.bind (P_spec_DrawShadowGap (a0, ())) fun r2 =>
    Option.bind (P_impl_ShadowGap (r2.1, ())) fun r3 =>
    Option.bind (P_spec_ShadowGap (r2.1, ())) fun r4 =>
    bif !decide (r3.1 = r4.1) then
      some (false, ())
    else
      bif !(r3.2.1 == r4.2.1) then
        some (false, ())
      else
        bif !r3.2.1 then
          Option.bind (P_spec_IsBench (r2.1, ())) fun r8 =>
          some (!r8.1, ())
        else
          Option.bind (P_impl_ShadowsOf (r2.1.1, ())) fun r8 =>
          Option.bind (P_impl_LineBound (r8.1, ())) fun r9 =>
          bif !r8.2.1 then
            some (false, ())
          else
            bif !r9.2.1 then
              some (false, ())
            else
              bif !decide (r3.1 = (IntKind.wrap .i64 ((List.length r2.1.1.2.2.2.1 : Int) - r9.1))) then
                some (false, ())
              else
                bif decide (r3.1 < 0) then
                  some (false, ())
                else
                  Option.bind (P_impl_FewestCubes (r8.1, ())) fun r14 =>
                  bif !r14.2.1 then
                    some (true, ())
                  else
                    some (decide (r14.1 ≤ (List.length r2.1.1.2.2.2.1 : Int)), ()) := by
  rewrite [h_laws_FnGaps]
  kernel_rfl
end Go.VI
