/- What the functions of the seat compute: part 2. -/
import Derived.Test.YtlnfgikipeiaiaaGreatG30p1
import Derived.Test.YtlnfgikipeiaiaaGreatViFunM
import Derived.WalkKit
import Derived.Lib.SliceRun
import Derived.Deep.LoopGhost
import Derived.Deep.RegionLaw
import Derived.Deep.CutRange
import Derived.Laws.Rows
import Derived.Shelf.SlSortCmp.WholeK
import Derived.Shelf.Small.Bits
import Derived.Shelf.Small.Wraps
import Derived.Shelf.Strconv.Itoa0
import Derived.Ground.Names2Prog
import Derived.Shelf.Slices.SearchI
import Derived.Ground.SlgnProg
import Derived.Shelf.SlicesE.Clone
import Derived.Test.YtlnfgikipeiaiaaGreatProg
namespace Go.VI
open Go.Proofs
set_option maxRecDepth 100000
noncomputable section
abbrev As_spec_l8Both : List ATy := [.data true T_Heap, .data false (.sl T_A3)]
abbrev R_spec_l8Both : List (Bool × Ty) := [(true, T_Heap), (false, .bool)]
abbrev M_spec_l8Both : List RMode := [.own 55]
abbrev Ft_spec_l8Both : Type := D_Heap × (List D_A3) × Unit → Option (D_Heap × Bool × Unit)
def X_spec_l8Both : Ctx := { types := TT, globals := [], con := [(30, C_spec_l2Moved), (67, C_spec_l1Most), (68, C_spec_l2Empty), (71, C_spec_l2With), (72, C_spec_l2Has), (73, C_spec_l2Made), (74, C_spec_l2In)], keep := [(3, ⟨[.box 2, .box 4, .box 6, .tmp 1, .tmp 2, .tmp 4, .tmp 6, .tmp 7], []⟩), (8, ⟨[.box 2, .box 4, .box 6, .tmp 1, .tmp 2, .tmp 4, .tmp 6, .tmp 7, .tmp 8], []⟩), (14, ⟨[.box 4, .box 9, .tmp 4, .tmp 9, .tmp 10, .tmp 11], []⟩)], results := [.cell 4 29, .tmp 5], ntmps := 75, n := N }
def B_spec_l8Both : Code := (Tryz.f29.body).getD .skip
def L_spec_l8Both_3 (m0 : Nat) (p0 p1 p2 : Int) (p3 : List D_A3) (p4 p5 p6 : Int) (p7 : List D_A3) (p8 p9 p10 : Int) (p11 : List D_A3) (p12 : Int) : Option (denL R_spec_l8Both) := loopF X_spec_l8Both B_spec_l8Both R_spec_l8Both M_spec_l8Both 3 [m0] [(.ver, .num 1), (.box 2, .box 0 false [.int .i64 p0, .int .i64 p1, .int .i64 p2, .imm T_A3 p3 (some 3)]), (.box 4, .box 0 false [.int .i64 p4, .int .i64 p5, .int .i64 p6, .own 55 T_A3 0 p7]), (.box 6, .box 0 false [.int .i64 p8, .int .i64 p9, .int .i64 p10]), (.tmp 1, .val false [.imm T_A3 p11 (some 4)]), (.tmp 2, .val false [.addr 2 0 0]), (.tmp 4, .val false [.addr 4 0 0]), (.tmp 6, .val false [.addr 6 0 0]), (.tmp 7, .val false [.int .i64 p12])]
def L_spec_l8Both_8 (m0 m1 : Nat) (p0 p1 p2 : Int) (p3 : List D_A3) (p4 p5 p6 : Int) (p7 : List D_A3) (p8 p9 p10 : Int) (p11 : List D_A3) (p12 p13 : Int) : Option (denL R_spec_l8Both) := loopF X_spec_l8Both B_spec_l8Both R_spec_l8Both M_spec_l8Both 8 [m0, m1] [(.ver, .num 1), (.box 2, .box 0 false [.int .i64 p0, .int .i64 p1, .int .i64 p2, .imm T_A3 p3 (some 3)]), (.box 4, .box 0 false [.int .i64 p4, .int .i64 p5, .int .i64 p6, .own 55 T_A3 0 p7]), (.box 6, .box 0 false [.int .i64 p8, .int .i64 p9, .int .i64 p10]), (.tmp 1, .val false [.imm T_A3 p11 (some 4)]), (.tmp 2, .val false [.addr 2 0 0]), (.tmp 4, .val false [.addr 4 0 0]), (.tmp 6, .val false [.addr 6 0 0]), (.tmp 7, .val false [.int .i64 p12]), (.tmp 8, .val false [.int .i64 p13])]
def L_spec_l8Both_14 (m0 : Nat) (p0 p1 p2 : Int) (p3 : List D_A3) (p4 p5 p6 : Int) (p7 p8 : List D_A3) (p9 : Int) : Option (denL R_spec_l8Both) := loopF X_spec_l8Both B_spec_l8Both R_spec_l8Both M_spec_l8Both 14 [m0] [(.ver, .num 1), (.box 4, .box 0 false [.int .i64 p0, .int .i64 p1, .int .i64 p2, .own 55 T_A3 0 p3]), (.box 9, .box 0 false [.int .i64 p4, .int .i64 p5, .int .i64 p6, .own 55 T_A3 0 p7]), (.tmp 4, .val false [.addr 4 0 0]), (.tmp 9, .val false [.addr 9 0 0]), (.tmp 10, .val false [.own 55 T_A3 0 p8]), (.tmp 11, .val false [.int .i64 p9])]
def P_spec_l8Both : Ft_spec_l8Both := hid (runF X_spec_l8Both B_spec_l8Both As_spec_l8Both R_spec_l8Both M_spec_l8Both)
theorem h_spec_l8Both : P_spec_l8Both = runF X_spec_l8Both B_spec_l8Both As_spec_l8Both R_spec_l8Both M_spec_l8Both := hid_eq _
def C_spec_l8Both : Contract := ⟨As_spec_l8Both, R_spec_l8Both, M_spec_l8Both, P_spec_l8Both⟩
theorem s_spec_l8Both : Sound Tryz.prog GG 29 C_spec_l8Both := by
 unfold C_spec_l8Both; rw [h_spec_l8Both]
 exact mkS Tryz.f29 ⟨s_spec_l2Moved, s_spec_l1Most, s_spec_l2Empty, s_spec_l2With, s_spec_l2Has, s_spec_l2Made, s_spec_l2In, trivial⟩ trivial
def l_spec_l8Both_3 := hid (L_spec_l8Both_3)
theorem h_spec_l8Both_3 : l_spec_l8Both_3 = L_spec_l8Both_3 := hid_eq _
def l_spec_l8Both_8 := hid (L_spec_l8Both_8)
theorem h_spec_l8Both_8 : l_spec_l8Both_8 = L_spec_l8Both_8 := hid_eq _
def l_spec_l8Both_14 := hid (L_spec_l8Both_14)
theorem h_spec_l8Both_14 : l_spec_l8Both_14 = L_spec_l8Both_14 := hid_eq _
theorem p_spec_l8Both (a0 : D_Heap) (a1 : List D_A3) : P_spec_l8Both (a0, a1, ()) =
 l_spec_l8Both_3 N a0.1 a0.2.1 a0.2.2.1 a0.2.2.2.1 0 0 0 ([] : List D_A3) 0 0 0 a1 0 := by
 rewrite [h_spec_l8Both, h_spec_l8Both_3]
 kernel_rfl
theorem q_spec_l8Both_3 (m0 : Nat) (p0 p1 p2 : Int) (p3 : List D_A3) (p4 p5 p6 : Int) (p7 : List D_A3) (p8 p9 p10 : Int) (p11 : List D_A3) (p12 : Int) : l_spec_l8Both_3 (m0 + 1) p0 p1 p2 p3 p4 p5 p6 p7 p8 p9 p10 p11 p12 =
 bif decide (p12 < (List.length p11 : Int)) then
 bif inB p12 (List.length p11) then
 Option.bind (P_spec_l2Has ((p0, (p1, (p2, (p3, ())))), (nth T_A3 p11 p12), ())) fun r2 =>
 bif r2.1 then
 some ((0, (0, (0, (([] : List D_A3), ())))), false, ())
 else
 l_spec_l8Both_8 m0 N p0 p1 p2 p3 p4 p5 p6 p7 p8 p9 p10 p11 p12 0
 else none
 else
 Option.bind (P_spec_l2Empty (4, 4, 4, ())) fun r1 =>
 bif (decide (((List.length ([] : List D_A3)) + (List.length p3)) * 24 ≤ 140737488355328) && decide (((List.length ([] : List D_A3)) + (List.length p3)) ≤ 140737488355328)) then
 bif (decide (((List.length (([] : List D_A3) ++ p3)) + (List.length p11)) * 24 ≤ 140737488355328) && decide (((List.length (([] : List D_A3) ++ p3)) + (List.length p11)) ≤ 140737488355328)) then
 Option.bind (P_spec_l2Made ((p0, (p1, (p2, (p3, ())))), ((([] : List D_A3) ++ p3) ++ p11), ())) fun r4 =>
 Option.bind (P_spec_l2Moved ((r4.1.1, (r4.1.2.1, (r4.1.2.2.1, (((([] : List D_A3) ++ p3) ++ p11), ())))), (p8, (p9, (p10, ()))), ())) fun r5 =>
 l_spec_l8Both_14 N p4 p5 p6 p7 r1.1.1 r1.1.2.1 r1.1.2.2.1 r1.1.2.2.2.1 r5.1 0
 else none
 else none := by
 rewrite [h_spec_l8Both_3, h_spec_l8Both_8, h_spec_l8Both_14]
 kernel_rfl
theorem q_spec_l8Both_8 (m0 m1 : Nat) (p0 p1 p2 : Int) (p3 : List D_A3) (p4 p5 p6 : Int) (p7 : List D_A3) (p8 p9 p10 : Int) (p11 : List D_A3) (p12 p13 : Int) : l_spec_l8Both_8 m0 (m1 + 1) p0 p1 p2 p3 p4 p5 p6 p7 p8 p9 p10 p11 p12 p13 =
 bif decide (p13 < 3) then
 bif inB p13 3 then
 bif inB p12 (List.length p11) then
 bif inB p13 3 then
 Option.bind (P_spec_l1Most ((bif decide (p13 = (0 : Int)) then p8 else (bif decide (p13 = (1 : Int)) then p9 else p10)), (IntKind.wrap .i64 (0 - (bif decide (p13 = (0 : Int)) then ((nth T_A3 p11 p12)).1 else (bif decide (p13 = (1 : Int)) then (((nth T_A3 p11 p12)).2).1 else ((((nth T_A3 p11 p12)).2).2).1)))), ())) fun r4 =>
 bif inB p13 3 then
 l_spec_l8Both_8 m0 m1 p0 p1 p2 p3 p4 p5 p6 p7 (bif decide (p13 = (0 : Int)) then r4.1 else p8) (bif decide (p13 = (1 : Int)) then r4.1 else p9) (bif decide (p13 = (2 : Int)) then r4.1 else p10) p11 p12 (IntKind.wrap .i64 (p13 + 1))
 else none
 else none
 else none
 else none
 else
 l_spec_l8Both_3 m0 p0 p1 p2 p3 p4 p5 p6 p7 p8 p9 p10 p11 (IntKind.wrap .i64 (p12 + 1)) := by
 rewrite [h_spec_l8Both_3, h_spec_l8Both_8]
 kernel_rfl
theorem q_spec_l8Both_14 (m0 : Nat) (p0 p1 p2 : Int) (p3 : List D_A3) (p4 p5 p6 : Int) (p7 p8 : List D_A3) (p9 : Int) : l_spec_l8Both_14 (m0 + 1) p0 p1 p2 p3 p4 p5 p6 p7 p8 p9 =
 bif decide (p9 < (List.length p8 : Int)) then
 bif inB p9 (List.length p8) then
 Option.bind (P_spec_l2In ((p4, (p5, (p6, (p7, ())))), (nth T_A3 p8 p9), ())) fun r2 =>
 bif !r2.1 then
 some ((0, (0, (0, (([] : List D_A3), ())))), false, ())
 else
 bif inB p9 (List.length p8) then
 Option.bind (P_spec_l2With ((p4, (p5, (p6, (p7, ())))), (nth T_A3 p8 p9), ())) fun r5 =>
 l_spec_l8Both_14 m0 p0 p1 p2 p3 r5.1.1 r5.1.2.1 r5.1.2.2.1 r5.1.2.2.2.1 p8 (IntKind.wrap .i64 (p9 + 1))
 else none
 else none
 else
 some ((p4, (p5, (p6, (p7, ())))), true, ()) := by
 rewrite [h_spec_l8Both_14]
 kernel_rfl
abbrev As_spec_JoinForms : List ATy := [.data true T_Heap, .data true T_Heap]
abbrev R_spec_JoinForms : List (Bool × Ty) := [(false, (.sl T_Heap)), (false, .bool)]
abbrev M_spec_JoinForms : List RMode := [.imm]
abbrev Ft_spec_JoinForms : Type := D_Heap × D_Heap × Unit → Option ((List D_Heap) × Bool × Unit)
def X_spec_JoinForms : Ctx := { types := TT, globals := [], con := [(25, C_spec_l8Part), (26, C_spec_l2Cropped), (27, C_spec_l8Turns), (28, C_spec_l8Made), (29, C_spec_l8Both), (30, C_spec_l2Moved), (31, C_spec_l2Parts), (32, C_spec_l8Insert), (33, C_spec_l8First)], keep := [(6, ⟨[.box 3, .box 7, .tmp 3, .tmp 6, .tmp 7, .tmp 8, .tmp 9], [.tmp 6]⟩), (10, ⟨[.box 3, .box 7, .box 10, .tmp 3, .tmp 6, .tmp 7, .tmp 8, .tmp 9, .tmp 10, .tmp 11], [.tmp 6]⟩), (13, ⟨[.box 3, .box 7, .box 10, .tmp 3, .tmp 6, .tmp 7, .tmp 8, .tmp 9, .tmp 10, .tmp 11, .tmp 12], [.tmp 6]⟩), (16, ⟨[.box 3, .box 7, .box 10, .tmp 3, .tmp 6, .tmp 7, .tmp 8, .tmp 9, .tmp 10, .tmp 11, .tmp 12, .tmp 13], [.tmp 6]⟩)], results := [.tmp 4, .tmp 5], ntmps := 87, n := N }
def B_spec_JoinForms : Code := (Tryz.f6.body).getD .skip
def L_spec_JoinForms_6 (m0 : Nat) (p0 p1 p2 : Int) (p3 : List D_A3) (p4 p5 p6 : Int) (p7 : List D_A3) (p8 : List D_Heap) (p9 : List D_l8Turn) (p10 : Int) : Option (denL R_spec_JoinForms) := loopF X_spec_JoinForms B_spec_JoinForms R_spec_JoinForms M_spec_JoinForms 6 [m0] [(.ver, .num 1), (.box 3, .box 0 false [.int .i64 p0, .int .i64 p1, .int .i64 p2, .imm T_A3 p3 (some 7)]), (.box 7, .box 0 false [.int .i64 p4, .int .i64 p5, .int .i64 p6, .own 55 T_A3 0 p7]), (.tmp 3, .val false [.addr 3 0 0]), (.tmp 6, .val false [.imm T_Heap p8 none]), (.tmp 7, .val false [.addr 7 0 0]), (.tmp 8, .val false [.own 57 T_l8Turn 0 p9]), (.tmp 9, .val false [.int .i64 p10])]
def L_spec_JoinForms_10 (m0 m1 : Nat) (p0 p1 p2 : Int) (p3 : List D_A3) (p4 p5 p6 : Int) (p7 : List D_A3) (p8 p9 p10 : Int) (p11 : List D_A3) (p12 : List D_Heap) (p13 : List D_l8Turn) (p14 p15 : Int) : Option (denL R_spec_JoinForms) := loopF X_spec_JoinForms B_spec_JoinForms R_spec_JoinForms M_spec_JoinForms 10 [m0, m1] [(.ver, .num 1), (.box 3, .box 0 false [.int .i64 p0, .int .i64 p1, .int .i64 p2, .imm T_A3 p3 (some 7)]), (.box 7, .box 0 false [.int .i64 p4, .int .i64 p5, .int .i64 p6, .own 55 T_A3 0 p7]), (.box 10, .box 0 false [.int .i64 p8, .int .i64 p9, .int .i64 p10, .own 55 T_A3 0 p11]), (.tmp 3, .val false [.addr 3 0 0]), (.tmp 6, .val false [.imm T_Heap p12 none]), (.tmp 7, .val false [.addr 7 0 0]), (.tmp 8, .val false [.own 57 T_l8Turn 0 p13]), (.tmp 9, .val false [.int .i64 p14]), (.tmp 10, .val false [.addr 10 0 0]), (.tmp 11, .val false [.int .i64 p15])]
def L_spec_JoinForms_13 (m0 m1 m2 : Nat) (p0 p1 p2 : Int) (p3 : List D_A3) (p4 p5 p6 : Int) (p7 : List D_A3) (p8 p9 p10 : Int) (p11 : List D_A3) (p12 : List D_Heap) (p13 : List D_l8Turn) (p14 p15 p16 : Int) : Option (denL R_spec_JoinForms) := loopF X_spec_JoinForms B_spec_JoinForms R_spec_JoinForms M_spec_JoinForms 13 [m0, m1, m2] [(.ver, .num 1), (.box 3, .box 0 false [.int .i64 p0, .int .i64 p1, .int .i64 p2, .imm T_A3 p3 (some 7)]), (.box 7, .box 0 false [.int .i64 p4, .int .i64 p5, .int .i64 p6, .own 55 T_A3 0 p7]), (.box 10, .box 0 false [.int .i64 p8, .int .i64 p9, .int .i64 p10, .own 55 T_A3 0 p11]), (.tmp 3, .val false [.addr 3 0 0]), (.tmp 6, .val false [.imm T_Heap p12 none]), (.tmp 7, .val false [.addr 7 0 0]), (.tmp 8, .val false [.own 57 T_l8Turn 0 p13]), (.tmp 9, .val false [.int .i64 p14]), (.tmp 10, .val false [.addr 10 0 0]), (.tmp 11, .val false [.int .i64 p15]), (.tmp 12, .val false [.int .i64 p16])]
def L_spec_JoinForms_16 (m0 m1 m2 m3 : Nat) (p0 p1 p2 : Int) (p3 : List D_A3) (p4 p5 p6 : Int) (p7 : List D_A3) (p8 p9 p10 : Int) (p11 : List D_A3) (p12 : List D_Heap) (p13 : List D_l8Turn) (p14 p15 p16 p17 : Int) : Option (denL R_spec_JoinForms) := loopF X_spec_JoinForms B_spec_JoinForms R_spec_JoinForms M_spec_JoinForms 16 [m0, m1, m2, m3] [(.ver, .num 1), (.box 3, .box 0 false [.int .i64 p0, .int .i64 p1, .int .i64 p2, .imm T_A3 p3 (some 7)]), (.box 7, .box 0 false [.int .i64 p4, .int .i64 p5, .int .i64 p6, .own 55 T_A3 0 p7]), (.box 10, .box 0 false [.int .i64 p8, .int .i64 p9, .int .i64 p10, .own 55 T_A3 0 p11]), (.tmp 3, .val false [.addr 3 0 0]), (.tmp 6, .val false [.imm T_Heap p12 none]), (.tmp 7, .val false [.addr 7 0 0]), (.tmp 8, .val false [.own 57 T_l8Turn 0 p13]), (.tmp 9, .val false [.int .i64 p14]), (.tmp 10, .val false [.addr 10 0 0]), (.tmp 11, .val false [.int .i64 p15]), (.tmp 12, .val false [.int .i64 p16]), (.tmp 13, .val false [.int .i64 p17])]
def P_spec_JoinForms : Ft_spec_JoinForms := hid (runF X_spec_JoinForms B_spec_JoinForms As_spec_JoinForms R_spec_JoinForms M_spec_JoinForms)
theorem h_spec_JoinForms : P_spec_JoinForms = runF X_spec_JoinForms B_spec_JoinForms As_spec_JoinForms R_spec_JoinForms M_spec_JoinForms := hid_eq _
def C_spec_JoinForms : Contract := ⟨As_spec_JoinForms, R_spec_JoinForms, M_spec_JoinForms, P_spec_JoinForms⟩
theorem s_spec_JoinForms : Sound Tryz.prog GG 6 C_spec_JoinForms := by
 unfold C_spec_JoinForms; rw [h_spec_JoinForms]
 exact mkS Tryz.f6 ⟨s_spec_l8Part, s_spec_l2Cropped, s_spec_l8Turns, s_spec_l8Made, s_spec_l8Both, s_spec_l2Moved, s_spec_l2Parts, s_spec_l8Insert, s_spec_l8First, trivial⟩ trivial
def l_spec_JoinForms_6 := hid (L_spec_JoinForms_6)
theorem h_spec_JoinForms_6 : l_spec_JoinForms_6 = L_spec_JoinForms_6 := hid_eq _
def l_spec_JoinForms_10 := hid (L_spec_JoinForms_10)
theorem h_spec_JoinForms_10 : l_spec_JoinForms_10 = L_spec_JoinForms_10 := hid_eq _
def l_spec_JoinForms_13 := hid (L_spec_JoinForms_13)
theorem h_spec_JoinForms_13 : l_spec_JoinForms_13 = L_spec_JoinForms_13 := hid_eq _
def l_spec_JoinForms_16 := hid (L_spec_JoinForms_16)
theorem h_spec_JoinForms_16 : l_spec_JoinForms_16 = L_spec_JoinForms_16 := hid_eq _
theorem p_spec_JoinForms (a0 a1 : D_Heap) : P_spec_JoinForms (a0, a1, ()) =
 Option.bind (P_spec_l8Part (a0, ())) fun r0 =>
 bif !r0.1 then
 some (([] : List D_Heap), false, ())
 else
 Option.bind (P_spec_l8Part (a1, ())) fun r2 =>
 bif !r2.1 then
 some (([] : List D_Heap), false, ())
 else
 bif decide ((IntKind.wrap .i64 ((List.length a0.2.2.2.1 : Int) + (List.length a1.2.2.2.1 : Int))) > 4) then
 some (([] : List D_Heap), false, ())
 else
 Option.bind (P_spec_l2Cropped (a0, ())) fun r5 =>
 Option.bind (P_spec_l8Turns (())) fun r6 =>
 l_spec_JoinForms_6 N a1.1 a1.2.1 a1.2.2.1 a1.2.2.2.1 r5.1.1 r5.1.2.1 r5.1.2.2.1 r5.1.2.2.2.1 ([] : List D_Heap) r6.1 0 := by
 rewrite [h_spec_JoinForms, h_spec_JoinForms_6]
 kernel_rfl
theorem q_spec_JoinForms_6 (m0 : Nat) (p0 p1 p2 : Int) (p3 : List D_A3) (p4 p5 p6 : Int) (p7 : List D_A3) (p8 : List D_Heap) (p9 : List D_l8Turn) (p10 : Int) : l_spec_JoinForms_6 (m0 + 1) p0 p1 p2 p3 p4 p5 p6 p7 p8 p9 p10 =
 bif decide (p10 < (List.length p9 : Int)) then
 bif inB p10 (List.length p9) then
 Option.bind (P_spec_l8Made ((p0, (p1, (p2, (p3, ())))), (nth T_l8Turn p9 p10), ())) fun r2 =>
 Option.bind (P_spec_l2Cropped (r2.1, ())) fun r3 =>
 l_spec_JoinForms_10 m0 N p0 p1 p2 p3 p4 p5 p6 p7 r3.1.1 r3.1.2.1 r3.1.2.2.1 r3.1.2.2.2.1 p8 p9 p10 (-4)
 else none
 else
 some (p8, true, ()) := by
 rewrite [h_spec_JoinForms_6, h_spec_JoinForms_10]
 kernel_rfl
theorem q_spec_JoinForms_10 (m0 m1 : Nat) (p0 p1 p2 : Int) (p3 : List D_A3) (p4 p5 p6 : Int) (p7 : List D_A3) (p8 p9 p10 : Int) (p11 : List D_A3) (p12 : List D_Heap) (p13 : List D_l8Turn) (p14 p15 : Int) : l_spec_JoinForms_10 m0 (m1 + 1) p0 p1 p2 p3 p4 p5 p6 p7 p8 p9 p10 p11 p12 p13 p14 p15 =
 bif decide (p15 ≤ 4) then
 l_spec_JoinForms_13 m0 m1 N p0 p1 p2 p3 p4 p5 p6 p7 p8 p9 p10 p11 p12 p13 p14 p15 (-4)
 else
 l_spec_JoinForms_6 m0 p0 p1 p2 p3 p4 p5 p6 p7 p12 p13 (IntKind.wrap .i64 (p14 + 1)) := by
 rewrite [h_spec_JoinForms_6, h_spec_JoinForms_10, h_spec_JoinForms_13]
 kernel_rfl
theorem q_spec_JoinForms_13 (m0 m1 m2 : Nat) (p0 p1 p2 : Int) (p3 : List D_A3) (p4 p5 p6 : Int) (p7 : List D_A3) (p8 p9 p10 : Int) (p11 : List D_A3) (p12 : List D_Heap) (p13 : List D_l8Turn) (p14 p15 p16 : Int) : l_spec_JoinForms_13 m0 m1 (m2 + 1) p0 p1 p2 p3 p4 p5 p6 p7 p8 p9 p10 p11 p12 p13 p14 p15 p16 =
 bif decide (p16 ≤ 4) then
 l_spec_JoinForms_16 m0 m1 m2 N p0 p1 p2 p3 p4 p5 p6 p7 p8 p9 p10 p11 p12 p13 p14 p15 p16 (-4)
 else
 l_spec_JoinForms_10 m0 m1 p0 p1 p2 p3 p4 p5 p6 p7 p8 p9 p10 p11 p12 p13 p14 (IntKind.wrap .i64 (p15 + 1)) := by
 rewrite [h_spec_JoinForms_10, h_spec_JoinForms_13, h_spec_JoinForms_16]
 kernel_rfl
theorem q_spec_JoinForms_16 (m0 m1 m2 m3 : Nat) (p0 p1 p2 : Int) (p3 : List D_A3) (p4 p5 p6 : Int) (p7 : List D_A3) (p8 p9 p10 : Int) (p11 : List D_A3) (p12 : List D_Heap) (p13 : List D_l8Turn) (p14 p15 p16 p17 : Int) : l_spec_JoinForms_16 m0 m1 m2 (m3 + 1) p0 p1 p2 p3 p4 p5 p6 p7 p8 p9 p10 p11 p12 p13 p14 p15 p16 p17 =
 bif decide (p17 ≤ 4) then
 Option.bind (P_spec_l2Moved ((p8, (p9, (p10, (p11, ())))), (p15, (p16, (p17, ()))), ())) fun r1 =>
 Option.bind (P_spec_l8Both ((p4, (p5, (p6, (p7, ())))), r1.1, ())) fun r2 =>
 bif r2.2.1 then
 Option.bind (P_spec_l2Parts (r2.1, ())) fun r4 =>
 bif decide ((List.length r4.1 : Int) = 1) then
 Option.bind (P_spec_l8First (r2.1, ())) fun r6 =>
 Option.bind (P_spec_l8Insert (p12, r6.1, ())) fun r7 =>
 l_spec_JoinForms_16 m0 m1 m2 m3 p0 p1 p2 p3 p4 p5 p6 p7 p8 p9 p10 p11 r7.1 p13 p14 p15 p16 (IntKind.wrap .i64 (p17 + 1))
 else
 l_spec_JoinForms_16 m0 m1 m2 m3 p0 p1 p2 p3 p4 p5 p6 p7 p8 p9 p10 p11 p12 p13 p14 p15 p16 (IntKind.wrap .i64 (p17 + 1))
 else
 l_spec_JoinForms_16 m0 m1 m2 m3 p0 p1 p2 p3 p4 p5 p6 p7 p8 p9 p10 p11 p12 p13 p14 p15 p16 (IntKind.wrap .i64 (p17 + 1))
 else
 l_spec_JoinForms_13 m0 m1 m2 p0 p1 p2 p3 p4 p5 p6 p7 p8 p9 p10 p11 p12 p13 p14 p15 (IntKind.wrap .i64 (p16 + 1)) := by
 rewrite [h_spec_JoinForms_13, h_spec_JoinForms_16]
 kernel_rfl
abbrev As_laws_toIntA3 : List ATy := [.data true T_A3]
abbrev R_laws_toIntA3 : List (Bool × Ty) := [(true, T_A3)]
abbrev M_laws_toIntA3 : List RMode := []
abbrev Ft_laws_toIntA3 : Type := D_A3 × Unit → Option (D_A3 × Unit)
def X_laws_toIntA3 : Ctx := { types := TT, globals := [], con := [], keep := [(3, ⟨[.box 1, .box 2, .box 3, .tmp 1, .tmp 2, .tmp 3, .tmp 4], []⟩)], results := [.cell 2 55], ntmps := 15, n := N }
def B_laws_toIntA3 : Code := (Tryz.f80.body).getD .skip
def L_laws_toIntA3_3 (m0 : Nat) (p0 p1 p2 p3 p4 p5 p6 p7 p8 p9 : Int) : Option (denL R_laws_toIntA3) := loopF X_laws_toIntA3 B_laws_toIntA3 R_laws_toIntA3 M_laws_toIntA3 3 [m0] [(.ver, .num 1), (.box 1, .box 0 false [.int .i64 p0, .int .i64 p1, .int .i64 p2]), (.box 2, .box 0 false [.int .i64 p3, .int .i64 p4, .int .i64 p5]), (.box 3, .box 0 false [.int .i64 p6, .int .i64 p7, .int .i64 p8]), (.tmp 1, .val false [.addr 1 0 0]), (.tmp 2, .val false [.addr 2 0 0]), (.tmp 3, .val false [.addr 3 0 0]), (.tmp 4, .val false [.int .i64 p9])]
def P_laws_toIntA3 : Ft_laws_toIntA3 := hid (runF X_laws_toIntA3 B_laws_toIntA3 As_laws_toIntA3 R_laws_toIntA3 M_laws_toIntA3)
theorem h_laws_toIntA3 : P_laws_toIntA3 = runF X_laws_toIntA3 B_laws_toIntA3 As_laws_toIntA3 R_laws_toIntA3 M_laws_toIntA3 := hid_eq _
def C_laws_toIntA3 : Contract := ⟨As_laws_toIntA3, R_laws_toIntA3, M_laws_toIntA3, P_laws_toIntA3⟩
theorem s_laws_toIntA3 : Sound Tryz.prog GG 80 C_laws_toIntA3 := by
 unfold C_laws_toIntA3; rw [h_laws_toIntA3]
 exact mkS Tryz.f80 trivial trivial
def l_laws_toIntA3_3 := hid (L_laws_toIntA3_3)
theorem h_laws_toIntA3_3 : l_laws_toIntA3_3 = L_laws_toIntA3_3 := hid_eq _
theorem p_laws_toIntA3 (a0 : D_A3) : P_laws_toIntA3 (a0, ()) =
 l_laws_toIntA3_3 N a0.1 a0.2.1 a0.2.2.1 0 0 0 0 0 0 0 := by
 rewrite [h_laws_toIntA3, h_laws_toIntA3_3]
 kernel_rfl
theorem q_laws_toIntA3_3 (m0 : Nat) (p0 p1 p2 p3 p4 p5 p6 p7 p8 p9 : Int) : l_laws_toIntA3_3 (m0 + 1) p0 p1 p2 p3 p4 p5 p6 p7 p8 p9 =
 bif decide (p9 < 3) then
 bif inB p9 3 then
 bif inB p9 3 then
 l_laws_toIntA3_3 m0 p0 p1 p2 p3 p4 p5 (bif decide (p9 = (0 : Int)) then (bif decide (p9 = (0 : Int)) then p0 else (bif decide (p9 = (1 : Int)) then p1 else p2)) else p6) (bif decide (p9 = (1 : Int)) then (bif decide (p9 = (0 : Int)) then p0 else (bif decide (p9 = (1 : Int)) then p1 else p2)) else p7) (bif decide (p9 = (2 : Int)) then (bif decide (p9 = (0 : Int)) then p0 else (bif decide (p9 = (1 : Int)) then p1 else p2)) else p8) (IntKind.wrap .i64 (p9 + 1))
 else none
 else none
 else
 some ((p6, (p7, (p8, ()))), ()) := by
 rewrite [h_laws_toIntA3_3]
 kernel_rfl
abbrev As_laws_toIntA3S : List ATy := [.data false (.sl T_A3)]
abbrev R_laws_toIntA3S : List (Bool × Ty) := [(false, (.sl T_A3))]
abbrev M_laws_toIntA3S : List RMode := [.own 55]
abbrev Ft_laws_toIntA3S : Type := (List D_A3) × Unit → Option ((List D_A3) × Unit)
def X_laws_toIntA3S : Ctx := { types := TT, globals := [], con := [(80, C_laws_toIntA3)], keep := [(3, ⟨[.tmp 0, .tmp 3, .tmp 4], []⟩)], results := [.tmp 2], ntmps := 23, n := N }
def B_laws_toIntA3S : Code := (Tryz.f34.body).getD .skip
def L_laws_toIntA3S_3 (m0 : Nat) (p0 p1 : List D_A3) (p2 : Int) : Option (denL R_laws_toIntA3S) := loopF X_laws_toIntA3S B_laws_toIntA3S R_laws_toIntA3S M_laws_toIntA3S 3 [m0] [(.ver, .num 1), (.tmp 0, .val false [.imm T_A3 p0 (some 0)]), (.tmp 3, .val false [.own 55 T_A3 0 p1]), (.tmp 4, .val false [.int .i64 p2])]
def P_laws_toIntA3S : Ft_laws_toIntA3S := hid (runF X_laws_toIntA3S B_laws_toIntA3S As_laws_toIntA3S R_laws_toIntA3S M_laws_toIntA3S)
theorem h_laws_toIntA3S : P_laws_toIntA3S = runF X_laws_toIntA3S B_laws_toIntA3S As_laws_toIntA3S R_laws_toIntA3S M_laws_toIntA3S := hid_eq _
def C_laws_toIntA3S : Contract := ⟨As_laws_toIntA3S, R_laws_toIntA3S, M_laws_toIntA3S, P_laws_toIntA3S⟩
theorem s_laws_toIntA3S : Sound Tryz.prog GG 34 C_laws_toIntA3S := by
 unfold C_laws_toIntA3S; rw [h_laws_toIntA3S]
 exact mkS Tryz.f34 ⟨s_laws_toIntA3, trivial⟩ trivial
def l_laws_toIntA3S_3 := hid (L_laws_toIntA3S_3)
theorem h_laws_toIntA3S_3 : l_laws_toIntA3S_3 = L_laws_toIntA3S_3 := hid_eq _
theorem p_laws_toIntA3S (a0 : List D_A3) : P_laws_toIntA3S (a0, ()) =
 bif (decide ((0 : Int) ≤ (List.length a0 : Int)) && decide (((List.length a0 : Int) : Int) ≤ (List.length a0 : Int)) && decide (((List.length a0 : Int) : Int) * (24 : Nat) ≤ 140737488355328) && decide (((List.length a0 : Int) : Int) ≤ 140737488355328)) then
 l_laws_toIntA3S_3 N a0 (List.replicate (Int.toNat (List.length a0 : Int)) (Ty.dflt T_A3)) 0
 else none := by
 rewrite [h_laws_toIntA3S, h_laws_toIntA3S_3]
 kernel_rfl
theorem q_laws_toIntA3S_3 (m0 : Nat) (p0 p1 : List D_A3) (p2 : Int) : l_laws_toIntA3S_3 (m0 + 1) p0 p1 p2 =
 bif decide (p2 < (List.length p0 : Int)) then
 bif inB p2 (List.length p0) then
 Option.bind (P_laws_toIntA3 ((nth T_A3 p0 p2), ())) fun r2 =>
 bif inB p2 (List.length p1) then
 l_laws_toIntA3S_3 m0 p0 (List.set p1 (Int.toNat p2) r2.1) (IntKind.wrap .i64 (p2 + 1))
 else none
 else none
 else
 some (p1, ()) := by
 rewrite [h_laws_toIntA3S_3]
 kernel_rfl
abbrev As_laws_toHeap : List ATy := [.data true T_Heap]
abbrev R_laws_toHeap : List (Bool × Ty) := [(true, T_Heap)]
abbrev M_laws_toHeap : List RMode := [.own 55]
abbrev Ft_laws_toHeap : Type := D_Heap × Unit → Option (D_Heap × Unit)
def X_laws_toHeap : Ctx := { types := TT, globals := [], con := [(34, C_laws_toIntA3S)], keep := [], results := [.cell 2 29], ntmps := 18, n := N }
def B_laws_toHeap : Code := (Tryz.f7.body).getD .skip
def P_laws_toHeap : Ft_laws_toHeap := hid (runF X_laws_toHeap B_laws_toHeap As_laws_toHeap R_laws_toHeap M_laws_toHeap)
theorem h_laws_toHeap : P_laws_toHeap = runF X_laws_toHeap B_laws_toHeap As_laws_toHeap R_laws_toHeap M_laws_toHeap := hid_eq _
def C_laws_toHeap : Contract := ⟨As_laws_toHeap, R_laws_toHeap, M_laws_toHeap, P_laws_toHeap⟩
theorem s_laws_toHeap : Sound Tryz.prog GG 7 C_laws_toHeap := by
 unfold C_laws_toHeap; rw [h_laws_toHeap]
 exact mkS Tryz.f7 ⟨s_laws_toIntA3S, trivial⟩ trivial
theorem p_laws_toHeap (a0 : D_Heap) : P_laws_toHeap (a0, ()) =
 Option.bind (P_laws_toIntA3S (a0.2.2.2.1, ())) fun r0 =>
 some ((a0.1, (a0.2.1, (a0.2.2.1, (r0.1, ())))), ()) := by
 rewrite [h_laws_toHeap]
 kernel_rfl
abbrev As_laws_szIntA3S : List ATy := [.data false (.sl T_A3), .data false (.int .i64)]
abbrev R_laws_szIntA3S : List (Bool × Ty) := [(false, (.int .i64))]
abbrev M_laws_szIntA3S : List RMode := []
abbrev Ft_laws_szIntA3S : Type := (List D_A3) × Int × Unit → Option (Int × Unit)
def X_laws_szIntA3S : Ctx := { types := TT, globals := [], con := [], keep := [], results := [.tmp 4], ntmps := 12, n := N }
def B_laws_szIntA3S : Code := (Tryz.f24.body).getD .skip
def P_laws_szIntA3S : Ft_laws_szIntA3S := hid (runF X_laws_szIntA3S B_laws_szIntA3S As_laws_szIntA3S R_laws_szIntA3S M_laws_szIntA3S)
theorem h_laws_szIntA3S : P_laws_szIntA3S = runF X_laws_szIntA3S B_laws_szIntA3S As_laws_szIntA3S R_laws_szIntA3S M_laws_szIntA3S := hid_eq _
def C_laws_szIntA3S : Contract := ⟨As_laws_szIntA3S, R_laws_szIntA3S, M_laws_szIntA3S, P_laws_szIntA3S⟩
theorem s_laws_szIntA3S : Sound Tryz.prog GG 24 C_laws_szIntA3S := by
 unfold C_laws_szIntA3S; rw [h_laws_szIntA3S]
 exact mkS Tryz.f24 trivial trivial
theorem p_laws_szIntA3S (a0 : List D_A3) (a1 : Int) : P_laws_szIntA3S (a0, a1, ()) =
 bif decide ((IntKind.wrap .i64 (a1 - (List.length a0 : Int))) < 0) then
 some ((-1), ())
 else
 some ((IntKind.wrap .i64 (a1 - (List.length a0 : Int))), ()) := by
 rewrite [h_laws_szIntA3S]
 kernel_rfl
abbrev As_laws_szHeap : List ATy := [.data true T_Heap, .data false (.int .i64)]
abbrev R_laws_szHeap : List (Bool × Ty) := [(false, (.int .i64))]
abbrev M_laws_szHeap : List RMode := []
abbrev Ft_laws_szHeap : Type := D_Heap × Int × Unit → Option (Int × Unit)
def X_laws_szHeap : Ctx := { types := TT, globals := [], con := [(24, C_laws_szIntA3S)], keep := [], results := [.tmp 4], ntmps := 12, n := N }
def B_laws_szHeap : Code := (Tryz.f5.body).getD .skip
def P_laws_szHeap : Ft_laws_szHeap := hid (runF X_laws_szHeap B_laws_szHeap As_laws_szHeap R_laws_szHeap M_laws_szHeap)
theorem h_laws_szHeap : P_laws_szHeap = runF X_laws_szHeap B_laws_szHeap As_laws_szHeap R_laws_szHeap M_laws_szHeap := hid_eq _
def C_laws_szHeap : Contract := ⟨As_laws_szHeap, R_laws_szHeap, M_laws_szHeap, P_laws_szHeap⟩
theorem s_laws_szHeap : Sound Tryz.prog GG 5 C_laws_szHeap := by
 unfold C_laws_szHeap; rw [h_laws_szHeap]
 exact mkS Tryz.f5 ⟨s_laws_szIntA3S, trivial⟩ trivial
theorem p_laws_szHeap (a0 : D_Heap) (a1 : Int) : P_laws_szHeap (a0, a1, ()) =
 Option.bind (P_laws_szIntA3S (a0.2.2.2.1, a1, ())) fun r0 =>
 bif decide (r0.1 < 0) then
 some ((-1), ())
 else
 some (r0.1, ()) := by
 rewrite [h_laws_szHeap]
 kernel_rfl
abbrev As_laws_markHeap : List ATy := [.lrow true T_Heap [55], .data false (.int .i64)]
abbrev R_laws_markHeap : List (Bool × Ty) := [(false, (.int .i64))]
abbrev M_laws_markHeap : List RMode := []
abbrev Ft_laws_markHeap : Type := D_Heap × Int × Unit → Option ((Int × Unit) × (D_Heap × Unit))
def X_laws_markHeap : Ctx := { types := TT, globals := [], con := [], mcon := [(46, C_laws_markIntA3S)], keep := [], results := [.tmp 4], ntmps := 10, n := N }
def B_laws_markHeap : Code := (Tryz.f11.body).getD .skip
def P_laws_markHeap : Ft_laws_markHeap := hid (runFM X_laws_markHeap B_laws_markHeap As_laws_markHeap R_laws_markHeap M_laws_markHeap)
theorem h_laws_markHeap : P_laws_markHeap = runFM X_laws_markHeap B_laws_markHeap As_laws_markHeap R_laws_markHeap M_laws_markHeap := hid_eq _
def C_laws_markHeap : MContract := ⟨As_laws_markHeap, R_laws_markHeap, M_laws_markHeap, P_laws_markHeap⟩
theorem s_laws_markHeap : SoundM Tryz.prog n0 GG 11 C_laws_markHeap := by
 unfold C_laws_markHeap; rw [h_laws_markHeap]
 exact mkSM Tryz.f11 trivial ⟨s_laws_markIntA3S, trivial⟩
theorem p_laws_markHeap (a0 : D_Heap) (a1 : Int) : P_laws_markHeap (a0, a1, ()) =
 Option.bind (P_laws_markIntA3S (a0.2.2.2.1, a1, ())) fun r0 =>
 some ((r0.1.1, ()), ((0, (0, (0, (r0.2.1, ())))), ())) := by
 rewrite [h_laws_markHeap]
 kernel_rfl
end
end Go.VI

namespace Go.VI
open Go.Proofs Go.RowKit
set_option maxRecDepth 100000
theorem alloc_at (w : World) (o : Obj) : (w.alloc o).heap[w.heap.size]? = some o := heap_alloc_new w o
theorem alloc_size (w : World) (o : Obj) : (w.alloc o).heap.size = w.heap.size + 1 := Array.size_push _
theorem belowAlloc (w : World) (o : Obj) : Below w.heap.size w (w.alloc o) := (Below.refl w.heap.size w).alloc (Nat.le_refl _) o
theorem bThen {w w1 w2 : World} (h1 : Below w.heap.size w w1) (h2 : Below w1.heap.size w1 w2) : Below w.heap.size w w2 :=
  ⟨h2.os.trans h1.os, h2.tape.trans h1.tape, h2.output.trans h1.output, Nat.le_trans h1.size h2.size, fun g hg => (h2.block g (Nat.lt_of_lt_of_le hg h1.size)).trans (h1.block g hg), Nat.le_trans h1.drawn h2.drawn⟩
theorem belowA {w W : World} (h : Below w.heap.size w W) (o : Obj) : Below w.heap.size w (W.alloc o) := bThen h (belowAlloc W o)
theorem belowD {w W : World} (h : Below w.heap.size w W) : Below w.heap.size w W.drew := h.drew
theorem blockA {w : World} {b : Nat} {x : Obj} (h : w.heap[b]? = some x) (o : Obj) : (w.alloc o).heap[b]? = some x := by
  rw [Below.heap_alloc _ _ _ (lt_of_block h)]; exact h
theorem belowBlock {w w' : World} {b : Nat} {x : Obj} (h : w.heap[b]? = some x) (hb : Below w.heap.size w w') : w'.heap[b]? = some x := (hb.block b (lt_of_block h)).trans h
theorem box4 {w : World} {b t : Nat} {a0 a1 a2 a3 : Value} (h : w.heap[b]? = some (.cells #[a0, a1, a2, a3] t (0, 0))) :
 (w.cell? ⟨b, 0, none⟩ = some a0 ∧ w.cell? ⟨b, 1, none⟩ = some a1 ∧ w.cell? ⟨b, 2, none⟩ = some a2 ∧ w.cell? ⟨b, 3, none⟩ = some a3) := by
  refine ⟨?_, ?_, ?_, ?_⟩ <;> simp [World.cell?, h]
theorem box4A {w : World} {b t : Nat} {a0 a1 a2 a3 : Value} (h : w.heap[b]? = some (.cells #[a0, a1, a2, a3] t (0, 0))) :
 (∀ o, (w.alloc o).cell? ⟨b, 0, none⟩ = some a0) ∧ (∀ o, (w.alloc o).cell? ⟨b, 1, none⟩ = some a1) ∧ (∀ o, (w.alloc o).cell? ⟨b, 2, none⟩ = some a2) ∧ (∀ o, (w.alloc o).cell? ⟨b, 3, none⟩ = some a3) :=
  ⟨fun o => (box4 (blockA h o)).1, fun o => (box4 (blockA h o)).2.1, fun o => (box4 (blockA h o)).2.2.1, fun o => (box4 (blockA h o)).2.2.2⟩
theorem OwnV.slice1 {Z : Nat → Prop} {w : World} {B : Nat} {e : TypeId} {t : Ty} {v : Value} {l : List t.den} (h : OwnV Z w B e t v l) : ∃ a c, v = .slice a l.length c := by
  obtain ⟨_, xs, ho, _⟩ := h
  rcases ho.2 with ⟨rfl, h0⟩ | ⟨g, c, cur, fz, rfl, _⟩
  · exact ⟨none, 0, by rw [h0]⟩
  · exact ⟨_, _, rfl⟩
theorem ownBH {w w' : World} {B : Nat} {e : TypeId} {t : Ty} {v : Value} {l : List t.den} (h : OwnV (fun _ => False) w B e t v l) (hb : Below w.heap.size w w') : OwnV (fun _ => False) w' B e t v l :=
  h.mono (fun _ hz => hz) (fun _ hz => hz.elim) fun g hg => hb.block g (h.lt g hg).2
theorem heap_src (w : World) (n : Nat) (hn : w.heap.size = n) (a0 a1 a2 a3 : Value) (h0 : a0.oneCell' = true) (h1 : a1.oneCell' = true) (h2 : a2.oneCell' = true) (h3 : a3.oneCell' = true) :
 Go.Src Tryz.prog 4 26 (.slice (some ⟨n, 0, none⟩) 1 1) 1 [a0, a1, a2, a3] (w.alloc (.cells #[a0, a1, a2, a3] 29)) := by
  subst hn
  have hb := box4 (alloc_at w (.cells #[a0, a1, a2, a3] 29))
  refine Go.Src.ofSlice _ Tryz.underlying26 _ 1 1 [a0, a1, a2, a3] rfl (fun j u hu => ?_) (fun u hu => ?_)
  · rw [Addr.add_lit, Nat.zero_add]
    match j, hu with
    | 0, hu => obtain rfl := Option.some.inj hu; exact hb.1
    | 1, hu => obtain rfl := Option.some.inj hu; exact hb.2.1
    | 2, hu => obtain rfl := Option.some.inj hu; exact hb.2.2.1
    | 3, hu => obtain rfl := Option.some.inj hu; exact hb.2.2.2
  · simp only [List.mem_cons, List.not_mem_nil, or_false] at hu
    rcases hu with rfl | rfl | rfl | rfl <;> assumption
theorem info35 : (Tryz.prog.info? 29).map (fun i => (i.zero, i.size, i.bytes)) = some (some (.agg #[.int .i64 0, .int .i64 0, .int .i64 0, .slice none 0 0]), 4, 48) := by kernel_rfl
structure ArgH (Z : Nat → Prop) (w : World) (h : DHeap) (lv : Value) : Prop where
  zone : ∀ g, Z g → g < w.heap.size
  cells : RepI Z w (.sl A3ty) h.2.2.2.1 [lv]
theorem ArgH.at {Z : Nat → Prop} {w W : World} {h : DHeap} {lv : Value} (a : ArgH Z w h lv) (hb : Below w.heap.size w W) : ArgH Z W h lv :=
  ⟨fun g hg => Nat.lt_of_lt_of_le (a.zone g hg) hb.size, RepI.mono (fun _ hz => hz) (fun g hg => hb.block g (a.zone g hg)) _ _ _ a.cells⟩
theorem ArgH.arg {Z : Nat → Prop} {w : World} {h : DHeap} {lv : Value} (a : ArgH Z w h lv) : RepI Z w HeapTy h [.int .i64 h.1, .int .i64 h.2.1, .int .i64 h.2.2.1, lv] := repHeap a.cells
theorem ArgH.own {w : World} {B : Nat} {e : TypeId} {h : DHeap} {u : Value} (o : OwnV (fun _ => False) w B e A3ty u h.2.2.2.1) : ArgH (fun g => u.ownBlock = some g) w h u :=
  ⟨fun g hg => (o.lt g hg).2, o.reads _ (fun _ hz => hz.elim) fun _ hg => hg⟩
theorem repA3 {Z : Nat → Prop} {w : World} (a b c : Int) : RepI Z w A3ty (a, b, c, ()) [.int .i64 a, .int .i64 b, .int .i64 c] :=
  ⟨[.int .i64 a], [.int .i64 b, .int .i64 c], rfl, rfl, [.int .i64 b], [.int .i64 c], rfl, rfl, [.int .i64 c], [], rfl, rfl, rfl⟩
theorem repTurn {Z : Nat → Prop} {w : World} (a b c d e f : Int) : RepI Z w T_l8Turn ((a, b, c, ()), (d, e, f, ()), ()) [.int .i64 a, .int .i64 b, .int .i64 c, .int .i64 d, .int .i64 e, .int .i64 f] :=
  ⟨[.int .i64 a, .int .i64 b, .int .i64 c], [.int .i64 d, .int .i64 e, .int .i64 f], rfl, repA3 a b c, [.int .i64 d, .int .i64 e, .int .i64 f], [], rfl, repA3 d e f, rfl⟩
def turnV (t : D_l8Turn) : Value := .agg #[.int .i64 t.1.1, .int .i64 t.1.2.1, .int .i64 t.1.2.2.1, .int .i64 t.2.1.1, .int .i64 t.2.1.2.1, .int .i64 t.2.1.2.2.1]
theorem c_of {Z : Nat → Prop} {W : World} {h g : DHeap} {lv : Value} {t : D_l8Turn} (a0 : ArgH Z W h lv) (hF : P_turning_of (t, h, ()) = some (g, ())) :
 Calls Tryz.prog 84 #[turnV t, hpV h lv] W fun e' w' => ∃ u, e' = .returned (hpV g u) ∧ Below W.heap.size W w' ∧ OwnV (fun _ => False) w' W.heap.size 55 A3ty u g.2.2.2.1 :=
  heapH_calls (fn := Tryz.f84) s_turning_of Tryz.func84 rfl (by kernel_rfl) trivial a0.zone (xs := (t, h, ())) (vs := [turnV t, hpV h lv])
    ⟨_, _, rfl, (fun h => by cases h), repTurn t.1.1 t.1.2.1 t.1.2.2.1 t.2.1.1 t.2.1.2.1 t.2.1.2.2.1, _, _, rfl, (fun h => by cases h), a0.arg, rfl⟩ hF
theorem c_crop {Z : Nat → Prop} {W : World} {h g : DHeap} {lv : Value} {b : Bool} (a0 : ArgH Z W h lv) (hF : P_impl_CropHeap (h, ()) = some (g, b, ())) :
 Calls Tryz.prog 36 #[hpV h lv] W fun e' w' => ∃ u, e' = .returned (.tuple #[hpV g u, .bool b]) ∧ Below W.heap.size W w' ∧ OwnV (fun _ => False) w' W.heap.size 55 A3ty u g.2.2.2.1 :=
  heapBH_calls (fn := Tryz.f36) s_impl_CropHeap Tryz.func36 rfl (by kernel_rfl) trivial a0.zone (xs := (h, ())) (vs := [hpV h lv]) ⟨_, _, rfl, (fun h => by cases h), a0.arg, rfl⟩ hF
theorem c_turnings {W : World} {L : List D_l8Turn} (hF : P_impl_turnings () = some (L, ())) : Calls Tryz.prog 83 #[] W fun e' w' => ∃ v, e' = .returned v ∧ Below W.heap.size W w' ∧ OwnV (fun _ => False) w' W.heap.size 101 T_l8Turn v L :=
  rowH_calls (fn := Tryz.f83) s_impl_turnings rfl Tryz.func83 rfl (by kernel_rfl) (Z := fun _ => False) trivial (fun _ h => h.elim) (xs := ()) (vs := []) rfl hF
end Go.VI
namespace Go.VI
open Go.Proofs Go.RowKit
set_option maxRecDepth 100000
theorem turn_cells {w : World} {B : Nat} {A : Option Addr} {c : Nat} {L : List D_l8Turn} (h : OwnV (fun _ => False) w B 101 T_l8Turn (.slice A L.length c) L) {i : Nat} {t : D_l8Turn} (hi : L[i]? = some t) : ∃ g, A = some ⟨g, 0, none⟩ ∧
 w.cell? ⟨g, i * 6, none⟩ = some (.int .i64 t.1.1) ∧ w.cell? ⟨g, i * 6 + 1, none⟩ = some (.int .i64 t.1.2.1) ∧ w.cell? ⟨g, i * 6 + 2, none⟩ = some (.int .i64 t.1.2.2.1) ∧
 w.cell? ⟨g, i * 6 + 3, none⟩ = some (.int .i64 t.2.1.1) ∧ w.cell? ⟨g, i * 6 + 4, none⟩ = some (.int .i64 t.2.1.2.1) ∧ w.cell? ⟨g, i * 6 + 5, none⟩ = some (.int .i64 t.2.1.2.2.1) := by
  have hr : RepI (fun _ => True) w (.sl T_l8Turn) L [.slice A L.length c] := h.reads _ (fun _ h => h.elim) fun _ _ => trivial
  obtain ⟨_, xs, ho, _⟩ := h
  rcases ho.2 with ⟨e, h0⟩ | ⟨g, cap, cur, fz, e, _⟩
  · have : L = [] := List.length_eq_zero_iff.1 h0
    subst this
    simp at hi
  · obtain ⟨rfl, _⟩ : A = some ⟨g, 0, none⟩ ∧ c = cap := by simpa using e
    obtain ⟨A', c', e', _, h1⟩ := hr
    obtain ⟨rfl, _⟩ : some (⟨g, 0, none⟩ : Addr) = A' ∧ c = c' := by simpa using e'
    obtain ⟨a, ha, _, ys, hy, hc⟩ := h1 i t hi
    obtain rfl := Option.some.inj ha
    obtain ⟨p1, p2, rfl, ⟨y1, y2, rfl, rfl, y3, y4, rfl, rfl, y5, y6, rfl, rfl, rfl⟩, p3, p4, rfl, ⟨y7, y8, rfl, rfl, y9, y10, rfl, rfl, y11, y12, rfl, rfl, rfl⟩, rfl⟩ := hy
    have e0 := hc 0 _ rfl
    have e1 := hc 1 _ rfl
    have e2 := hc 2 _ rfl
    have e3 := hc 3 _ rfl
    have e4 := hc 4 _ rfl
    have e5 := hc 5 _ rfl
    rw [Addr.add_lit, Nat.zero_add] at e0 e1 e2 e3 e4 e5
    exact ⟨g, rfl, e0, e1, e2, e3, e4, e5⟩
structure LoopH (w wr : World) (hd : DHeap) (lv : Value) (A : Option Addr) (c : Nat) (L : List D_l8Turn) (v : Value) (hs : List HE) : Prop where
  below : Below w.heap.size w wr
  deep : DeepH wr (w.heap.size + 1) 29 55 v hs
  box : wr.heap[w.heap.size]? = some (.cells #[.int .i64 hd.1, .int .i64 hd.2.1, .int .i64 hd.2.2.1, lv] 29)
  turns : OwnV (fun _ => False) wr w.heap.size 101 T_l8Turn (.slice A L.length c) L
theorem LoopH.call {w wr w4 : World} {hd : DHeap} {lv : Value} {A : Option Addr} {c : Nat} {L : List D_l8Turn} {v : Value} {hs : List HE} (h : LoopH w wr hd lv A c L v hs) (hb : Below wr.heap.size wr w4) : LoopH w w4 hd lv A c L v hs :=
  ⟨bThen h.below hb, h.deep.below hb, belowBlock h.box hb, h.turns.mono (fun _ hz => hz) (fun _ hz => hz.elim) fun g hg => hb.block g (h.turns.lt g hg).2⟩
theorem LoopH.push {w wr w3 w6 : World} {hd : DHeap} {lv : Value} {A : Option Addr} {c : Nat} {L : List D_l8Turn} {v v' : Value} {hs : List HE} {a : HE} {o : Obj} (h : LoopH w wr hd lv A c L v hs) (hb : Below wr.heap.size wr w3)
 (hu : OwnV (fun _ => False) w3 wr.heap.size 55 A3ty a.v a.cells) (hv : w6.ownsRow (w.heap.size + 1) 29 4 v' (hs.length + 1) (encs hs ++ a.enc)) (hgr : GrownD (w3.alloc o) w6 v.ownBlock) : LoopH w w6 hd lv A c L v' (hs ++ [a]) := by
  have s0 := lt_of_block h.box
  have s1 := h.below.size
  have s3 := hb.size
  have sa := alloc_size w3 o
  have hB := bThen h.below hb
  have keep : ∀ g, g < w3.heap.size → v.ownBlock ≠ some g → w6.heap[g]? = w3.heap[g]? := fun g hg hn => by
    rw [hgr.block g (by omega) (fun e => hn e.symm), Below.heap_alloc _ _ _ hg]
  have ol := h.deep.outer
  refine ⟨(hB.alloc (by omega) o).grown hgr (by omega) fun j hj => by have := (ol.lt j hj).1; omega, h.deep.push (by decide) hb (by omega) hu hv hgr, ?_, ?_⟩
  · rw [keep _ (by omega) fun e => by have := (ol.lt _ e).1; omega]
    exact belowBlock h.box hb
  · refine h.turns.mono (fun _ hz => hz) (fun _ hz => hz.elim) fun g hg => ?_
    have ht := h.turns.lt g hg
    rw [keep g (by omega) fun e => ?_, hb.block g ht.2]
    obtain ⟨c1, e1⟩ := rowTag ol e
    obtain ⟨c2, f2, e2⟩ := ownTag h.turns hg
    rw [e1] at e2
    simp at e2
set_option maxHeartbeats 2000000 in
theorem pos_calls {Z : Nat → Prop} {W : World} {h : DHeap} {lv : Value} (a0 : ArgH Z W h lv) {L : List D_l8Turn} (hT : P_impl_turnings () = some (L, ())) (hL : L.length ≤ 1000) (gf cf : Nat → DHeap) (bf : Nat → Bool)
 (hof : ∀ i t, L[i]? = some t → P_turning_of (t, h, ()) = some (gf i, ()) ∧ P_impl_CropHeap (gf i, ()) = some (cf i, bf i, ())) :
 Calls Tryz.prog 37 #[hpV h lv] W fun e w' => ∃ v hs, e = .returned v ∧ Below W.heap.size W w' ∧ DeepH w' W.heap.size 29 55 v hs ∧ hs.map HE.heap = (List.range L.length).map cf := by
  have e0 := belowAlloc W (.cells #[.int .i64 h.1, .int .i64 h.2.1, .int .i64 h.2.2.1, lv] 29)
  have hB0 := alloc_at W (.cells #[.int .i64 h.1, .int .i64 h.2.1, .int .i64 h.2.2.1, lv] 29)
  have sA := alloc_size W (.cells #[.int .i64 h.1, .int .i64 h.2.1, .int .i64 h.2.2.1, lv] 29)
  have htc : ∀ V, Calls Tryz.prog 83 #[] V fun e' w' => ∃ v, e' = .returned v ∧ Below V.heap.size V w' ∧ OwnV (fun _ => False) w' V.heap.size 101 T_l8Turn v L := fun V => c_turnings hT
  have hpost : ∀ (w3 : World) (v : Value), Below ((W.alloc (.cells #[.int .i64 h.1, .int .i64 h.2.1, .int .i64 h.2.2.1, lv] 29)).alloc (.cells #[] 29)).heap.size ((W.alloc (.cells #[.int .i64 h.1, .int .i64 h.2.1, .int .i64 h.2.2.1, lv] 29)).alloc (.cells #[] 29)) w3 →
      OwnV (fun _ => False) w3 ((W.alloc (.cells #[.int .i64 h.1, .int .i64 h.2.1, .int .i64 h.2.2.1, lv] 29)).alloc (.cells #[] 29)).heap.size 101 T_l8Turn v L →
      ∃ A c, v = .slice A L.length c ∧ LoopH W w3 h lv A c L (.slice (some ⟨W.heap.size + 1, 0, none⟩) 0 0) [] := fun w3 v hb hv => by
    obtain ⟨A, c, rfl⟩ := hv.slice1
    have sB := alloc_size (W.alloc (.cells #[.int .i64 h.1, .int .i64 h.2.1, .int .i64 h.2.2.1, lv] 29)) (.cells #[] 29)
    refine ⟨A, c, rfl, bThen (belowA e0 _) hb, DeepH.nil ⟨rfl, .inr ⟨W.heap.size + 1, 0, #[], rfl, Nat.le_refl _, ?_, Nat.le_refl _, by decide, rfl, rfl⟩⟩, ?_, OwnV.rebaseH hv fun g hg => by have := (hv.lt g hg).1; omega⟩
    · have := alloc_at (W.alloc (.cells #[.int .i64 h.1, .int .i64 h.2.1, .int .i64 h.2.2.1, lv] 29)) (.cells #[] 29)
      rw [sA] at this
      exact belowBlock this hb
    · exact belowBlock (blockA hB0 _) hb
  unfold hpV at *
  go_enter Tryz.func37, Tryz.ntmps37
  go_wp2_with (go_at_call 83; refine (htc _).mono ?_; rintro e w3 ⟨v, rfl, hb3, hv3⟩; obtain ⟨A, c, rfl, hl0⟩ := hpost w3 v hb3 hv3; clear hv3 hb3)
  go_loopg [3, 11] (L.length + 1) (fun m v3 v11 wr => ∃ (i : Nat) (hs : List HE), i ≤ L.length ∧ m = L.length + 1 - i ∧ v11 = .int .i64 i ∧ LoopH W wr h lv A c L v3 hs ∧ hs.map HE.heap = (List.range i).map cf)
  case atStart => exact ⟨0, [], Nat.zero_le _, rfl, rfl, hl0, rfl⟩
  case round =>
    obtain ⟨i, hs, hi, rfl, rfl, hl, hm⟩ := hrel
    clear hl0 htc hpost
    have hlen : hs.length = i := by have := congrArg List.length hm; simpa using this
    by_cases hin : i < L.length
    · obtain ⟨t, ht⟩ : ∃ t, L[i]? = some t := ⟨L[i], List.getElem?_eq_getElem hin⟩
      obtain ⟨q1, q2⟩ := hof i t ht
      obtain ⟨gl, rfl, c0, c1, c2, c3, c4, c5⟩ := turn_cells hl.turns ht
      obtain ⟨k0, k1, k2, k3⟩ := box4A hl.box
      have hlt : (i : Int) < (L.length : Int) := by omega
      have hcall := fun o => c_of (W := wr.alloc o) (a0.at (belowA hl.below o)) q1
      obtain ⟨i0, hi0, hz0, hz1, hz2⟩ := info_parts info35
      unfold turnV hpV at hcall
      clear ht hof
      go_wp2_with (first
        | (go_at_call 84; refine (hcall _).mono ?_; rintro e w2 ⟨u, rfl, hb2, hu⟩; have hcr := c_crop (ArgH.own hu) q2; unfold hpV at hcr)
        | (go_at_call 36; refine hcr.mono ?_; rintro e w3 ⟨u3, rfl, hb3, hu3⟩; obtain ⟨ua, uc, rfl⟩ := hu3.slice1; have hB3 := fun o => belowA (bThen (bThen (belowAlloc wr _) hb2) hb3) o; have ho3 := fun o o2 => ((hl.call (hB3 o)).deep.outer.alloc o2))
        | (at_builtin; refine wpList_append_own2 _ rfl _ _ 26 26 rfl (W.heap.size + 1) 29 i0 (.agg #[.int .i64 0, .int .i64 0, .int .i64 0, .slice none 0 0]) 4 48 Tryz.underlying26 hi0 hz0 hz1 hz2 rfl _ hs.length (encs hs) rfl (ho3 _ _) (.slice (some ⟨_, 0, none⟩) 1 1) 1 [.int .i64 (cf i).1, .int .i64 (cf i).2.1, .int .i64 (cf i).2.2.1, .slice ua (cf i).2.2.2.1.length uc] rfl (heap_src _ _ (alloc_size _ _) _ _ _ _ rfl rfl rfl rfl) ?_ ?_ ?_ ?_; rotate_left; rotate_left; rotate_left; intro v' w6 hv' hgr' hp'))
      · have hu4 := OwnV.rebaseH (B' := wr.heap.size) (ownBH hu3 (belowAlloc w3 (.cells #[.int .i64 (cf i).1, .int .i64 (cf i).2.1, .int .i64 (cf i).2.2.1, .slice ua (cf i).2.2.2.1.length uc] 29))) fun g hg => by have := (hu3.lt g hg).1; have := hb2.size; rw [alloc_size] at this; omega
        have hp := hl.push (a := ⟨(cf i).1, (cf i).2.1, (cf i).2.2.1, (cf i).2.2.2.1, _⟩) (hB3 _) hu4 hv' hgr'
        go_roundg (L.length + 1 - (i + 1))
        case measure => omega
        case rel => exact ⟨i + 1, hs ++ [⟨(cf i).1, (cf i).2.1, (cf i).2.2.1, (cf i).2.2.2.1, _⟩], by omega, rfl, by go_num, hp, by simp [hm, List.range_succ, HE.heap]⟩
      · unfold maxLen; omega
      · omega
      · have := hl.below.size; have := (hB3 (.cells #[] 0)).size; have := lt_of_block hl.box; rw [alloc_size] at *; rw [alloc_size]; omega
    · obtain rfl : i = L.length := by omega
      have hlt : ¬ ((L.length : Int) < (L.length : Int)) := by omega
      go_wp2
      go_ret
      exact ⟨_, rfl, hl.below, hs, hl.deep.rebase (by omega), hm⟩
end Go.VI
namespace Go.VI
open Go.Proofs Go.RowKit
set_option maxRecDepth 100000
theorem c_cmp {Z : Nat → Prop} {W : World} {g h : DHeap} {gv hv : Value} {n : Int} (hz : ∀ g, Z g → g < W.heap.size) (a : RepI Z W (.sl A3ty) g.2.2.2.1 [gv]) (b : RepI Z W (.sl A3ty) h.2.2.2.1 [hv]) (hF : P_impl_compareHeaps (g, h, ()) = some (n, ())) :
 Calls Tryz.prog 89 #[hpV g gv, hpV h hv] W fun e' w' => e' = .returned (.int .i64 n) ∧ Below W.heap.size W w' :=
  flatH_calls (fn := Tryz.f89) (r := (n, ())) s_impl_compareHeaps rfl Tryz.func89 rfl (by kernel_rfl) trivial hz (xs := (g, h, ())) (vs := [hpV g gv, hpV h hv]) ⟨_, _, rfl, (fun h => by cases h), repHeap a, _, _, rfl, (fun h => by cases h), repHeap b, rfl⟩ hF
def minTo (cf : DHeap → DHeap → Int) (hs : List HE) (a : HE) : HE := hs.foldl (fun m b => if cf b.heap m.heap < 0 then b else m) a
theorem minTo_take (cf : DHeap → DHeap → Int) (hs : List HE) (a0 : HE) (i : Nat) (a : HE) (h : hs[i]? = some a) : minTo cf (hs.take (i + 1)) a0 = if cf a.heap (minTo cf (hs.take i) a0).heap < 0 then a else minTo cf (hs.take i) a0 := by
  have hi : i < hs.length := by
    rcases Nat.lt_or_ge i hs.length with h' | h'
    · exact h'
    · rw [List.getElem?_eq_none h'] at h; cases h
  rw [List.take_succ_eq_append_getElem hi]
  have : hs[i] = a := by rw [List.getElem?_eq_getElem hi] at h; exact Option.some.inj h
  rw [this]
  unfold minTo
  rw [List.foldl_append]
  rfl
theorem heap_cells {w : World} {B : Nat} {v : Value} {hs : List HE} (h : DeepH w B 29 55 v hs) {i : Nat} {a : HE} (ha : hs[i]? = some a) : ∃ g c, v = .slice (some ⟨g, 0, none⟩) hs.length c ∧
 w.cell? ⟨g, i * 4, none⟩ = some (.int .i64 a.x) ∧ w.cell? ⟨g, i * 4 + 1, none⟩ = some (.int .i64 a.y) ∧ w.cell? ⟨g, i * 4 + 2, none⟩ = some (.int .i64 a.z) ∧ w.cell? ⟨g, i * 4 + 3, none⟩ = some a.v := by
  rcases h.outer.2 with ⟨_, h0⟩ | ⟨g, c, cur, rfl, _⟩
  · have : hs = [] := List.length_eq_zero_iff.1 h0
    subst this
    simp at ha
  · have hc := h.outer.cells (g := g) rfl
    have e : ∀ j (hj : j < 4) u, a.enc[j]? = some u → w.cell? ⟨g, i * 4 + j, none⟩ = some u := fun j hj u hu => by
      have := hc (i * 4 + j) u (by rw [encs_at ha j hj]; exact hu)
      rw [Addr.add_lit, Nat.zero_add] at this
      exact this
    exact ⟨g, c, rfl, e 0 (by decide) _ rfl, e 1 (by decide) _ rfl, e 2 (by decide) _ rfl, e 3 (by decide) _ rfl⟩
theorem free4 {w : World} {b t : Nat} {a0 a1 a2 a3 : Value} (h : w.heap[b]? = some (.cells #[a0, a1, a2, a3] t (0, 0))) :
 w.frozen? ⟨b, 0, none⟩ = false ∧ w.frozen? ⟨b, 1, none⟩ = false ∧ w.frozen? ⟨b, 2, none⟩ = false ∧ w.frozen? ⟨b, 3, none⟩ = false := by
  refine ⟨?_, ?_, ?_, ?_⟩ <;> simp [World.frozen?, h]
theorem set1 {w : World} {b t : Nat} {cur : Array Value} {fz : Nat × Nat} (h : w.heap[b]? = some (.cells cur t fz)) (j : Nat) (v : Value) : (w.setCell ⟨b, j, none⟩ v).heap[b]? = some (.cells (cur.setIfInBounds j v) t fz) := by
  have hlt := lt_of_block h
  have h' : w.heap[b] = .cells cur t fz := by simpa [Array.getElem?_eq_getElem hlt] using h
  show (w.heap.modify b _)[b]? = _
  rw [Array.getElem?_eq_getElem (by simpa using hlt), Array.getElem_modify_self, h']
  rfl
theorem set4 {w : World} {b t : Nat} {a0 a1 a2 a3 : Value} (h : w.heap[b]? = some (.cells #[a0, a1, a2, a3] t (0, 0))) (v0 v1 v2 v3 : Value) :
 ((((w.setCell ⟨b, 0, none⟩ v0).setCell ⟨b, 1, none⟩ v1).setCell ⟨b, 2, none⟩ v2).setCell ⟨b, 3, none⟩ v3).heap[b]? = some (.cells #[v0, v1, v2, v3] t (0, 0)) := by
  exact set1 (set1 (set1 (set1 h 0 v0) 1 v1) 2 v2) 3 v3
theorem set4_other {w : World} {b g : Nat} (hg : g ≠ b) (v0 v1 v2 v3 : Value) :
 ((((w.setCell ⟨b, 0, none⟩ v0).setCell ⟨b, 1, none⟩ v1).setCell ⟨b, 2, none⟩ v2).setCell ⟨b, 3, none⟩ v3).heap[g]? = w.heap[g]? := by
  rw [Below.heap_setCell _ _ _ _ hg, Below.heap_setCell _ _ _ _ hg, Below.heap_setCell _ _ _ _ hg, Below.heap_setCell _ _ _ _ hg]
theorem set4_below {w0 w : World} {b : Nat} (h : Below w0.heap.size w0 w) (hb : w0.heap.size ≤ b) (v0 v1 v2 v3 : Value) :
 Below w0.heap.size w0 ((((w.setCell ⟨b, 0, none⟩ v0).setCell ⟨b, 1, none⟩ v1).setCell ⟨b, 2, none⟩ v2).setCell ⟨b, 3, none⟩ v3) :=
  ⟨h.os, h.tape, h.output, by simpa using h.size, fun g hg => by rw [set4_other (by omega)]; exact h.block g hg, h.drawn⟩
structure LoopM (W wr : World) (v : Value) (hs : List HE) (a : HE) : Prop where
  below : Below W.heap.size W wr
  size : W.heap.size + 2 ≤ wr.heap.size
  best : wr.heap[W.heap.size + 1]? = some (.cells #[.int .i64 a.x, .int .i64 a.y, .int .i64 a.z, a.v] 29)
  res : wr.heap[W.heap.size]? = some (.cells #[.int .i64 0, .int .i64 0, .int .i64 0, .slice none 0 0] 29)
theorem LoopM.call {W wr w' : World} {v : Value} {hs : List HE} {a : HE} (h : LoopM W wr v hs a) (hb : Below wr.heap.size wr w') : LoopM W w' v hs a :=
  ⟨bThen h.below hb, Nat.le_trans h.size hb.size, belowBlock h.best hb, belowBlock h.res hb⟩
theorem LoopM.drew {W wr : World} {v : Value} {hs : List HE} {a : HE} (h : LoopM W wr v hs a) : LoopM W wr.drew v hs a := ⟨h.below.drew, h.size, h.best, h.res⟩
set_option maxHeartbeats 2000000 in
theorem min_calls {W : World} {B : Nat} {v : Value} {hs : List HE} {a0 : HE} (h : DeepH W B 29 55 v hs) (h0 : hs[0]? = some a0) (hn : hs.length ≤ 1000) (cf : DHeap → DHeap → Int) (hcf : ∀ a ∈ hs, ∀ b ∈ hs, P_impl_compareHeaps (a.heap, b.heap, ()) = some (cf a.heap b.heap, ())) :
 Calls Tryz.prog 88 #[v, .func (.func 89) #[] #[]] W fun e w' => ∃ a ∈ hs, a = minTo cf (hs.drop 1) a0 ∧ e = .returned (.agg #[.int .i64 a.x, .int .i64 a.y, .int .i64 a.z, a.v]) ∧ Below W.heap.size W w' := by
  have hpos : 0 < hs.length := by
    rcases Nat.eq_zero_or_pos hs.length with h' | h'
    · rw [List.length_eq_zero_iff.1 h'] at h0; simp at h0
    · exact h'
  obtain ⟨g, c, rfl, c0, c1, c2, c3⟩ := heap_cells h h0
  have hg := h.outer.lt g rfl
  have hgc : ∀ i a, hs[i]? = some a → W.cell? ⟨g, i * 4, none⟩ = some (.int .i64 a.x) ∧ W.cell? ⟨g, i * 4 + 1, none⟩ = some (.int .i64 a.y) ∧ W.cell? ⟨g, i * 4 + 2, none⟩ = some (.int .i64 a.z) ∧ W.cell? ⟨g, i * 4 + 3, none⟩ = some a.v := fun i a ha => by
    obtain ⟨g', c', e, r⟩ := heap_cells h ha
    obtain ⟨rfl, _⟩ : g = g' ∧ c = c' := by simpa using e
    exact r
  have hone : ∀ a ∈ hs, a.v.oneCell' = true := fun a ha => by
    obtain ⟨i, hi⟩ := List.mem_iff_getElem?.1 ha
    obtain ⟨x, y, e⟩ := (h.inner i a hi).slice1
    rw [e]; rfl
  rw [Nat.zero_mul] at c0 c1 c2 c3
  rw [Nat.zero_add] at c1 c2 c3
  have hlt1 : ¬ ((hs.length : Int) < 1) := by omega
  obtain ⟨xa, xl, xc, hav⟩ : ∃ xa xl xc, a0.v = .slice xa xl xc := by
    obtain ⟨x, y, e⟩ := (h.inner 0 a0 h0).slice1
    exact ⟨x, _, y, e⟩
  rw [hav] at c3
  have k : ∀ o, (W.alloc o).cell? ⟨g, 0, none⟩ = some (.int .i64 a0.x) ∧ (W.alloc o).cell? ⟨g, 1, none⟩ = some (.int .i64 a0.y) ∧ (W.alloc o).cell? ⟨g, 2, none⟩ = some (.int .i64 a0.z) ∧ (W.alloc o).cell? ⟨g, 3, none⟩ = some (.slice xa xl xc) := fun o => by
    have e : (W.alloc o).heap[g]? = W.heap[g]? := Below.heap_alloc _ _ _ hg.2
    refine ⟨?_, ?_, ?_, ?_⟩ <;> rw [World.cell?_of_block (w := W) e] <;> assumption
  have k0 := fun o => (k o).1
  have k1 := fun o => (k o).2.1
  have k2 := fun o => (k o).2.2.1
  have k3 := fun o => (k o).2.2.2
  clear k
  go_enter Tryz.func88, Tryz.ntmps88
  go_wp2
  have hl0 : LoopM W ((W.alloc (.cells #[.int .i64 0, .int .i64 0, .int .i64 0, .slice none 0 0] 29)).alloc (.cells #[.int .i64 a0.x, .int .i64 a0.y, .int .i64 a0.z, .slice xa xl xc] 29)) (.slice (some ⟨g, 0, none⟩) hs.length c) hs a0 := by
    have sA := alloc_size W (.cells #[.int .i64 0, .int .i64 0, .int .i64 0, .slice none 0 0] 29)
    have q := alloc_at (W.alloc (.cells #[.int .i64 0, .int .i64 0, .int .i64 0, .slice none 0 0] 29)) (.cells #[.int .i64 a0.x, .int .i64 a0.y, .int .i64 a0.z, .slice xa xl xc] 29)
    rw [sA, ← hav] at q
    refine ⟨belowA (belowAlloc W _) _, ?_, ?_, blockA (alloc_at W _) _⟩
    · rw [alloc_size, sA]; exact Nat.le_refl _
    · rw [← hav]; exact q
  have hmem0 : a0 ∈ hs := List.mem_of_getElem? h0
  clear k0 k1 k2 k3 c0 c1 c2 c3
  go_loopg [6] hs.length (fun m v6 wr => ∃ (i : Nat) (a : HE), 1 ≤ i ∧ i ≤ hs.length ∧ m = hs.length + 1 - i ∧ v6 = .int .i64 i ∧ LoopM W wr (.slice (some ⟨g, 0, none⟩) hs.length c) hs a ∧ a ∈ hs ∧ minTo cf ((hs.drop 1).take (i - 1)) a0 = a)
  case atStart => exact ⟨1, a0, Nat.le_refl _, by omega, by omega, rfl, hl0, hmem0, rfl⟩
  case round =>
    obtain ⟨i, a, hi1, hi, rfl, rfl, hl, hma, ha⟩ := hrel
    clear hl0
    by_cases hin : i < hs.length
    · obtain ⟨b, hb⟩ : ∃ b, hs[i]? = some b := ⟨hs[i], List.getElem?_eq_getElem hin⟩
      have hmb : b ∈ hs := List.mem_of_getElem? hb
      have hlt : (i : Int) < (hs.length : Int) := by omega
      obtain ⟨x0, x1, x2, x3⟩ := hgc i b hb
      have hgw : wr.heap[g]? = W.heap[g]? := hl.below.block g hg.2
      rw [← World.cell?_of_block (w := W) (w' := wr) hgw] at x0 x1 x2 x3
      obtain ⟨y0, y1, y2, y3⟩ := box4 hl.best
      have hcall : ∀ V, LoopM W V (.slice (some ⟨g, 0, none⟩) hs.length c) hs a → Calls Tryz.prog 89 #[.agg #[.int .i64 b.x, .int .i64 b.y, .int .i64 b.z, b.v], .agg #[.int .i64 a.x, .int .i64 a.y, .int .i64 a.z, a.v]] V fun e' w' => e' = .returned (.int .i64 (cf b.heap a.heap)) ∧ LoopM W w' (.slice (some ⟨g, 0, none⟩) hs.length c) hs a := fun V hV => by
        obtain ⟨j, hj⟩ := List.mem_iff_getElem?.1 hma
        have dV := h.below hV.below
        refine (c_cmp (Z := ZH (.slice (some ⟨g, 0, none⟩) hs.length c) hs) (fun q hq => (ZH.lt dV q hq).2) ((dV.inner i b hb).reads _ (fun _ hz => hz.elim) fun q hq => .inr ⟨b, hmb, hq⟩) ((dV.inner j a hj).reads _ (fun _ hz => hz.elim) fun q hq => .inr ⟨a, hma, hq⟩) (hcf b hmb a hma)).mono ?_
        rintro e w2 ⟨rfl, hb2⟩
        exact ⟨rfl, hV.call hb2⟩
      obtain ⟨n, hn'⟩ : ∃ n, cf b.heap a.heap = n := ⟨_, rfl⟩
      rw [hn'] at hcall
      go_wp2
      go_cut [27] from 20 to 27 (fun v27 wc => v27 = .bool (decide (n < 0)) ∧ LoopM W wc (.slice (some ⟨g, 0, none⟩) hs.length c) hs a)
      case first =>
        go_region_with (go_at_call 89; refine (hcall _ (by (repeat (first | exact hl | apply LoopM.drew)))).mono ?_; rintro e w2 ⟨rfl, hl2⟩)
        all_goals (go_wp2_with fail; go_meet; exact ⟨rfl, hl2⟩)
      case rest =>
        obtain ⟨rfl, hl2⟩ := hcut
        clear x0 x1 x2 x3 y0 y1 y2 y3 hcall
        obtain ⟨x0, x1, x2, x3⟩ := hgc i b hb
        have hgw2 : wc.heap[g]? = W.heap[g]? := hl2.below.block g hg.2
        rw [← World.cell?_of_block (w := W) (w' := wc) hgw2] at x0 x1 x2 x3
        obtain ⟨y0, y1, y2, y3⟩ := box4 hl2.best
        obtain ⟨ba, bl, bc, hbv⟩ : ∃ ba bl bc, b.v = .slice ba bl bc := by
          obtain ⟨x, y, e⟩ := (h.inner i b hb).slice1
          exact ⟨x, _, y, e⟩
        rw [hbv] at x3
        obtain ⟨f0, f1, f2, f3⟩ := free4 hl2.best
        go_wp2
        · have hlt0 : n < 0 := by omega
          go_roundg (hs.length + 1 - (i + 1))
          case measure => omega
          case rel =>
            refine ⟨i + 1, b, by omega, by omega, rfl, by go_num, ⟨set4_below hl2.below (by omega) _ _ _ _, by simpa using hl2.size, by rw [hbv]; exact set4 hl2.best _ _ _ _, by rw [set4_other (by omega)]; exact hl2.res⟩, hmb, ?_⟩
            rw [show i + 1 - 1 = (i - 1) + 1 by omega, minTo_take cf (hs.drop 1) a0 (i - 1) b (by rw [List.getElem?_drop]; rw [show 1 + (i - 1) = i by omega]; exact hb), ha, hn', if_pos hlt0]
        · have hlt0 : ¬ n < 0 := by omega
          go_roundg (hs.length + 1 - (i + 1))
          case measure => omega
          case rel =>
            refine ⟨i + 1, a, by omega, by omega, rfl, by go_num, hl2, hma, ?_⟩
            rw [show i + 1 - 1 = (i - 1) + 1 by omega, minTo_take cf (hs.drop 1) a0 (i - 1) b (by rw [List.getElem?_drop]; rw [show 1 + (i - 1) = i by omega]; exact hb), ha, hn', if_neg hlt0]
    · obtain rfl : i = hs.length := by omega
      have hlt : ¬ ((hs.length : Int) < (hs.length : Int)) := by omega
      obtain ⟨y0, y1, y2, y3⟩ := box4 hl.best
      obtain ⟨f0, f1, f2, f3⟩ := free4 hl.res
      obtain ⟨z0, z1, z2, z3⟩ := box4 hl.res
      obtain ⟨aa, al, ac, hav'⟩ : ∃ aa al ac, a.v = .slice aa al ac := by
        obtain ⟨j, hj⟩ := List.mem_iff_getElem?.1 hma
        obtain ⟨x, y, e⟩ := (h.inner j a hj).slice1
        exact ⟨x, _, y, e⟩
      rw [hav'] at y3
      have F := set4 hl.res (.int .i64 a.x) (.int .i64 a.y) (.int .i64 a.z) (.slice aa al ac)
      have Fb := set4_below hl.below (Nat.le_refl _) (.int .i64 a.x) (.int .i64 a.y) (.int .i64 a.z) (.slice aa al ac)
      go_wp2
      (try simp only [Exit.inBlock, Exit.then])
      refine bodyPost_ret (results_cell_row (fn := Tryz.f88) rfl _ _ W.heap.size 29 _ (0, 0) _ rfl F Tryz.underlying29 rfl (by kernel_rfl)) rfl ?_
      exact ⟨a, hma, by rw [← ha]; simp [List.take_of_length_le], by rw [hav'], Fb⟩
end Go.VI
namespace Go.VI
open Go.Proofs Go.RowKit
set_option maxRecDepth 100000
def minC (cf : DHeap → DHeap → Int) (l : List DHeap) (a : DHeap) : DHeap := l.foldl (fun m b => if cf b m < 0 then b else m) a
theorem minTo_heap (cf : DHeap → DHeap → Int) : ∀ (hs : List HE) (a : HE), (minTo cf hs a).heap = minC cf (hs.map HE.heap) a.heap
  | [], a => rfl
  | b :: r, a => by
    show (minTo cf r (if cf b.heap a.heap < 0 then b else a)).heap = minC cf (r.map HE.heap) (if cf b.heap a.heap < 0 then b.heap else a.heap)
    rw [minTo_heap cf r]
    split <;> rfl
structure FormOK (h : DHeap) (L : List D_l8Turn) (gf cf : Nat → DHeap) (bf : Nat → Bool) (cmp : DHeap → DHeap → Int) : Prop where
  turns : P_impl_turnings () = some (L, ())
  pos : 0 < L.length
  len : L.length ≤ 1000
  of : ∀ i t, L[i]? = some t → P_turning_of (t, h, ()) = some (gf i, ()) ∧ P_impl_CropHeap (gf i, ()) = some (cf i, bf i, ())
  cmp : ∀ i j, i < L.length → j < L.length → P_impl_compareHeaps (cf i, cf j, ()) = some (cmp (cf i) (cf j), ())
def formOf (n : Nat) (cf : Nat → DHeap) (cmp : DHeap → DHeap → Int) : DHeap := minC cmp (((List.range n).map cf).drop 1) (cf 0)
set_option maxHeartbeats 1000000 in
theorem form_calls {Z : Nat → Prop} {W : World} {h : DHeap} {lv : Value} (a0 : ArgH Z W h lv) {L : List D_l8Turn} {gf cf : Nat → DHeap} {bf : Nat → Bool} {cmp : DHeap → DHeap → Int} (f : FormOK h L gf cf bf cmp) :
 Calls Tryz.prog 43 #[hpV h lv] W fun e w' => ∃ u, e = .returned (hpV (formOf L.length cf cmp) u) ∧ Below W.heap.size W w' ∧ OwnV (fun _ => False) w' W.heap.size 55 A3ty u (formOf L.length cf cmp).2.2.2.1 := by
  have hpos : ∀ V, Below W.heap.size W V → _ := fun V hb => pos_calls (W := V) (a0.at hb) f.turns f.len gf cf bf f.of
  have hmin : ∀ (B : Nat) (V : World) (v : Value) (hs : List HE), DeepH V B 29 55 v hs → hs.map HE.heap = (List.range L.length).map cf →
      Calls Tryz.prog 88 #[v, .func (.func 89) #[] #[]] V fun e w' => ∃ u, e = .returned (hpV (formOf L.length cf cmp) u) ∧ Below V.heap.size V w' ∧ OwnV (fun _ => False) w' B 55 A3ty u (formOf L.length cf cmp).2.2.2.1 ∧ ∃ x y z, u = .slice x y z := fun B V v hs d hm => by
    have hl : hs.length = L.length := by have := congrArg List.length hm; simpa using this
    have p := f.pos
    have h0 : hs[0]? = some hs[0] := List.getElem?_eq_getElem (by omega)
    have hat : ∀ i (hi : i < hs.length), hs[i].heap = cf i := fun i hi => by
      have := congrArg (fun l => l[i]?) hm
      simpa [hi, show i < L.length by omega] using this
    have hcmp : ∀ a ∈ hs, ∀ b ∈ hs, P_impl_compareHeaps (a.heap, b.heap, ()) = some (cmp a.heap b.heap, ()) := fun a ha b hb => by
      obtain ⟨i, hi, rfl⟩ := List.getElem_of_mem ha
      obtain ⟨j, hj, rfl⟩ := List.getElem_of_mem hb
      rw [hat i hi, hat j hj]
      exact f.cmp i j (by omega) (by omega)
    refine (min_calls d h0 (by have := f.len; omega) cmp hcmp).mono ?_
    rintro e w' ⟨a, hma, ha, rfl, hb⟩
    have hah : a.heap = formOf L.length cf cmp := by
      rw [ha, minTo_heap, hat 0 (by omega), formOf, ← hm, List.map_drop]
    obtain ⟨i, hi⟩ := List.mem_iff_getElem?.1 hma
    have ho := ownBH (d.inner i a hi) hb
    obtain ⟨x, y, e⟩ := (d.inner i a hi).slice1
    refine ⟨a.v, ?_, hb, ?_, x, _, y, e⟩
    · rw [← hah]; rfl
    · rw [← hah]; exact ho
  have e0 := belowAlloc W (.cells #[.int .i64 h.1, .int .i64 h.2.1, .int .i64 h.2.2.1, lv] 29)
  have hB0 := alloc_at W (.cells #[.int .i64 h.1, .int .i64 h.2.1, .int .i64 h.2.2.1, lv] 29)
  have sA := alloc_size W (.cells #[.int .i64 h.1, .int .i64 h.2.1, .int .i64 h.2.2.1, lv] 29)
  have hR0 := alloc_at (W.alloc (.cells #[.int .i64 h.1, .int .i64 h.2.1, .int .i64 h.2.2.1, lv] 29)) (.cells #[.int .i64 0, .int .i64 0, .int .i64 0, .slice none 0 0] 29)
  rw [sA] at hR0
  obtain ⟨k0, k1, k2, k3⟩ := box4A hB0
  obtain ⟨F0, hF0⟩ : ∃ F0, formOf L.length cf cmp = F0 := ⟨_, rfl⟩
  rw [hF0] at hmin ⊢
  unfold hpV at *
  go_enter Tryz.func43, Tryz.ntmps43
  go_wp2_with (first
    | (go_at_call 37; refine (hpos _ (belowA e0 _)).mono ?_; rintro e w2 ⟨v, hs, rfl, hb2, hd2, hm2⟩; have hmc := hmin _ _ v hs hd2 hm2; have hR2 := belowBlock hR0 hb2)
    | (go_at_call 88; refine hmc.mono ?_; rintro e w3 ⟨u, rfl, hb3, hu3, ux, uy, uz, rfl⟩; have hR3 := belowBlock hR2 hb3; obtain ⟨f0, f1, f2, f3⟩ := free4 hR3; obtain ⟨z0, z1, z2, z3⟩ := box4 hR3))
  have F := set4 hR3 (.int .i64 F0.1) (.int .i64 F0.2.1) (.int .i64 F0.2.2.1) (.slice ux uy uz)
  have hW3 := bThen (bThen (belowA e0 _) hb2) hb3
  have sB := alloc_size (W.alloc (.cells #[.int .i64 h.1, .int .i64 h.2.1, .int .i64 h.2.2.1, lv] 29)) (.cells #[.int .i64 0, .int .i64 0, .int .i64 0, .slice none 0 0] 29)
  rw [sA] at sB
  (try simp only [Exit.inBlock, Exit.then])
  refine bodyPost_ret (results_cell_row (fn := Tryz.f43) rfl _ _ (W.heap.size + 1) 29 _ (0, 0) _ rfl F Tryz.underlying29 rfl (by kernel_rfl)) rfl ?_
  refine ⟨_, rfl, set4_below hW3 (by omega) _ _ _ _, ?_⟩
  refine OwnV.rebaseH (hu3.mono (fun _ hz => hz) (fun _ hz => hz.elim) fun g hg => set4_other (by have := (hu3.lt g hg).1; omega) _ _ _ _) fun g hg => by have := (hu3.lt g hg).1; omega
end Go.VI
namespace Go.Proofs
open Go.Shelf
def Tryz.sortL_ren : Go.Shelf.Ren := ⟨fun | 6 => 90 | 15 => 118 | 14 => 117 | 28 => 139 | 29 => 140 | 20 => 131 | 21 => 132 | 22 => 133 | 23 => 134 | 24 => 135 | 25 => 136 | 26 => 137 | 27 => 138 | 46 => 143 | 47 => 144 | 48 => 145 | 49 => 146 | 50 => 147 | 57 => 149 | n => n, fun | 22 => 26 | 24 => 29 | 25 => 105 | 3 => 3 | 39 => 91 | 0 => 0 | 53 => 139 | 55 => 72 | 4 => 4 | 46 => 133 | 45 => 132 | 50 => 40 | 5 => 5 | 9 => 9 | 66 => 143 | 70 => 147 | 76 => 151 | 77 => 149 | n => n, fun | n => n⟩
theorem Tryz.sortL : Go.Proofs.SlLaysF0.n6 Tryz.prog Tryz.sortL_ren := {
  mixed := by kernel_rfl
  f6 := ⟨Tryz.f90.name, by decide, Tryz.func90.trans (congrArg some (by kernel_rfl))⟩
  f14 := ⟨Tryz.f117.name, by decide, Tryz.func117.trans (congrArg some (by kernel_rfl))⟩
  f15 := Tryz.func118.trans (congrArg some (by kernel_rfl))
  f20 := ⟨Tryz.f131.name, by decide, Tryz.func131.trans (congrArg some (by kernel_rfl))⟩
  f21 := ⟨Tryz.f132.name, by decide, Tryz.func132.trans (congrArg some (by kernel_rfl))⟩
  f22 := ⟨Tryz.f133.name, by decide, Tryz.func133.trans (congrArg some (by kernel_rfl))⟩
  f23 := ⟨Tryz.f134.name, by decide, Tryz.func134.trans (congrArg some (by kernel_rfl))⟩
  f24 := ⟨Tryz.f135.name, by decide, Tryz.func135.trans (congrArg some (by kernel_rfl))⟩
  f25 := ⟨Tryz.f136.name, by decide, Tryz.func136.trans (congrArg some (by kernel_rfl))⟩
  f26 := ⟨Tryz.f137.name, by decide, Tryz.func137.trans (congrArg some (by kernel_rfl))⟩
  f27 := ⟨Tryz.f138.name, by decide, Tryz.func138.trans (congrArg some (by kernel_rfl))⟩
  f28 := Tryz.func139.trans (congrArg some (by kernel_rfl))
  f29 := Tryz.func140.trans (congrArg some (by kernel_rfl))
  f46 := ⟨Tryz.f143.name, by decide, Tryz.func143.trans (congrArg some (by kernel_rfl))⟩
  f47 := Tryz.func144.trans (congrArg some (by kernel_rfl))
  f48 := Tryz.func145.trans (congrArg some (by kernel_rfl))
  f49 := ⟨Tryz.f146.name, by decide, Tryz.func146.trans (congrArg some (by kernel_rfl))⟩
  f50 := ⟨Tryz.f147.name, by decide, Tryz.func147.trans (congrArg some (by kernel_rfl))⟩
  f57 := ⟨Tryz.f149.name, by decide, Tryz.func149.trans (congrArg some (by kernel_rfl))⟩
  t0 := Tryz.underlying0
  a0 := Tryz.isAgg0
  z0 := Tryz.sizeOf0
  v0 := Tryz.zeroValue0
  t3 := Tryz.underlying3
  a3 := Tryz.isAgg3
  z3 := Tryz.sizeOf3
  v3 := Tryz.zeroValue3
  t4 := Tryz.underlying4
  a4 := Tryz.isAgg4
  z4 := Tryz.sizeOf4
  v4 := Tryz.zeroValue4
  t5 := Tryz.underlying5
  a5 := Tryz.isAgg5
  z5 := Tryz.sizeOf5
  v5 := Tryz.zeroValue5
  t9 := Tryz.underlying9
  a9 := Tryz.isAgg9
  z9 := Tryz.sizeOf9
  v9 := Tryz.zeroValue9
  t22 := Tryz.underlying26
  a22 := Tryz.isAgg26
  z22 := Tryz.sizeOf26
  v22 := Tryz.zeroValue26
  t25 := Tryz.underlying105
  a25 := Tryz.isAgg105
  z25 := Tryz.sizeOf105
  v25 := Tryz.zeroValue105
  t39 := Tryz.underlying91
  a39 := Tryz.isAgg91
  z39 := Tryz.sizeOf91
  v39 := Tryz.zeroValue91
  t45 := Tryz.underlying132
  a45 := Tryz.isAgg132
  z45 := Tryz.sizeOf132
  v45 := Tryz.zeroValue132
  t46 := Tryz.underlying133
  a46 := Tryz.isAgg133
  z46 := Tryz.sizeOf133
  v46 := Tryz.zeroValue133
  t50 := Tryz.underlying40
  a50 := Tryz.isAgg40
  z50 := Tryz.sizeOf40
  v50 := Tryz.zeroValue40
  t53 := Tryz.underlying139
  a53 := Tryz.isAgg139
  z53 := Tryz.sizeOf139
  v53 := Tryz.zeroValue139
  t55 := Tryz.underlying72
  a55 := Tryz.isAgg72
  z55 := Tryz.sizeOf72
  v55 := Tryz.zeroValue72
  t66 := Tryz.underlying143
  a66 := Tryz.isAgg143
  z66 := Tryz.sizeOf143
  v66 := Tryz.zeroValue143
  t70 := Tryz.underlying147
  a70 := Tryz.isAgg147
  z70 := Tryz.sizeOf147
  v70 := Tryz.zeroValue147
  t76 := Tryz.underlying151
  a76 := Tryz.isAgg151
  z76 := Tryz.sizeOf151
  v76 := Tryz.zeroValue151
  t77 := Tryz.underlying149
  a77 := Tryz.isAgg149
  z77 := Tryz.sizeOf149
  v77 := Tryz.zeroValue149 }
end Go.Proofs
namespace Go.VI
open Go.Proofs Go.RowKit
open Go.Sort (flatK HoldsK size_flatK get_flatK)
set_option maxRecDepth 100000
theorem grew_of {W w' : World} (hb : Below W.heap.size W w') : ∃ q os, w' = Go.Sort.grow (W.drewN q) os := by
  refine ⟨w'.drawn - W.drawn, w'.heap.extract W.heap.size w'.heap.size, ?_⟩
  have hh : W.heap ++ w'.heap.extract W.heap.size w'.heap.size = w'.heap := by
    apply Array.ext_getElem?
    intro i
    rw [Array.getElem?_append]
    split
    · rename_i hi
      exact (hb.block i hi).symm
    · rename_i hi
      rw [Array.getElem?_extract]
      have := hb.size
      split
      · congr 1; omega
      · rw [Array.getElem?_eq_none (by omega)]
  have e1 := hb.os
  have e2 := hb.tape
  have e3 := hb.output
  have hd := hb.drawn
  obtain ⟨h, t, d, o, u⟩ := w'
  obtain ⟨h0, t0, d0, o0, u0⟩ := W
  simp only at e1 e2 e3 hh hd
  subst e1 e2 e3
  show _ = (⟨h0 ++ _, t, d0 + (d - d0), o, u⟩ : World)
  rw [hh, show d0 + (d - d0) = d by omega]
theorem perm_places {α : Type} {l' l : List α} (h : l'.Perm l) : ∃ f : Nat → Nat, (∀ i j, i < l'.length → j < l'.length → f i = f j → i = j) ∧ ∀ i a, l'[i]? = some a → l[f i]? = some a := by
  induction h with
  | nil => exact ⟨id, fun i j hi => by simp at hi, fun i a h => by simp at h⟩
  | @cons x a b _ ih =>
    obtain ⟨f, f1, f2⟩ := ih
    refine ⟨fun i => match i with | 0 => 0 | i + 1 => f i + 1, fun i j hi hj e => ?_, fun i y hy => ?_⟩
    · cases i <;> cases j <;> simp at e hi hj ⊢
      exact f1 _ _ hi hj e
    · cases i with
      | zero => simpa using hy
      | succ i => simpa using f2 i y (by simpa using hy)
  | swap x y l =>
    refine ⟨fun i => match i with | 0 => 1 | 1 => 0 | i + 2 => i + 2, fun i j hi hj e => ?_, fun i z hz => ?_⟩
    · match i, j, e with
      | 0, 0, _ => rfl
      | 0, 1, e => simp at e
      | 0, j + 2, e => simp at e
      | 1, 0, e => simp at e
      | 1, 1, _ => rfl
      | 1, j + 2, e => simp at e
      | i + 2, 0, e => simp at e
      | i + 2, 1, e => simp at e
      | i + 2, j + 2, e => simpa using e
    · match i, hz with
      | 0, hz => simpa using hz
      | 1, hz => simpa using hz
      | i + 2, hz => simpa using hz
  | trans h1 h2 ih1 ih2 =>
    obtain ⟨f, f1, f2⟩ := ih1
    obtain ⟨g, g1, g2⟩ := ih2
    have lt : ∀ {β : Type} {l : List β} {i : Nat} {a : β}, l[i]? = some a → i < l.length := fun {β l i a} ha => by
      rcases Nat.lt_or_ge i l.length with h' | h'
      · exact h'
      · rw [List.getElem?_eq_none h'] at ha; cases ha
    refine ⟨fun i => g (f i), fun i j hi hj e => ?_, fun i a ha => g2 _ a (f2 i a ha)⟩
    have hfi := lt (f2 i _ (List.getElem?_eq_getElem hi))
    have hfj := lt (f2 j _ (List.getElem?_eq_getElem hj))
    exact f1 i j hi hj (g1 _ _ hfi hfj e)
def HG (Z : Nat → Prop) (w : World) (Pc : DHeap → Prop) : Type := { a : HE // RepI Z w (.sl A3ty) a.cells [a.v] ∧ Pc a.heap }
def HG.enc {Z : Nat → Prop} {w : World} {Pc : DHeap → Prop} (a : HG Z w Pc) : List Value := a.1.enc
theorem HG.one {Z : Nat → Prop} {w : World} {Pc : DHeap → Prop} (x : HG Z w Pc) : ∀ v ∈ x.enc, v.oneCell' = true := by
  obtain ⟨⟨a, b, c, l, v⟩, ⟨A, n, h, _⟩, _⟩ := x
  obtain rfl : v = .slice A l.length n := by simpa using h
  intro u hu
  simp [HG.enc, HE.enc] at hu
  rcases hu with rfl | rfl | rfl | rfl <;> rfl
theorem flat_encs {Z : Nat → Prop} {w : World} {Pc : DHeap → Prop} [Inhabited (HG Z w Pc)] (d : Array (HG Z w Pc)) : (flatK HG.enc 4 d).toList = encs (d.toList.map (·.1)) := by
  apply List.ext_getElem?
  intro t
  rcases Nat.lt_or_ge t (d.size * 4) with ht | ht
  · have h1 : (flatK HG.enc 4 d).toList[t]? = some (flatK HG.enc 4 d)[t]! := by
      rw [Array.getElem?_toList, Array.getElem?_eq_getElem (by simpa using ht), getElem!_pos _ t (by simpa using ht)]
    rw [h1, get_flatK _ _ _ _ ht]
    have hi : t / 4 < d.size := by omega
    have hm : t % 4 < 4 := Nat.mod_lt _ (by decide)
    rw [getElem!_pos d _ hi]
    have ha : (d.toList.map (·.1))[t / 4]? = some d[t / 4].1 := by simp [hi]
    have := encs_at ha (t % 4) hm
    rw [show t / 4 * 4 + t % 4 = t by omega] at this
    rw [this]
    show _ = (d[t / 4].1.enc)[t % 4]?
    rw [getElem!_pos (HG.enc d[t / 4]) (t % 4) (by show t % 4 < 4; exact hm)]
    exact (List.getElem?_eq_getElem (by show t % 4 < 4; exact hm)).symm
  · rw [List.getElem?_eq_none (by simpa using ht), List.getElem?_eq_none (by rw [encs_len]; simpa using ht)]
theorem sorted_world {w w' : World} {g n : Nat} {cur F : Array Value} {e : TypeId} {os : Array Obj} (hg : w.heap[g]? = some (.cells cur e (0, 0))) (hF : F.size ≤ cur.size) (hw : w' = Go.Sort.grow (Go.Sort.putRow id (Go.Sort.ahead w n) g 0 F) os) :
 FrameL (fun k => k = g) w w' ∧ ∃ cur', w'.heap[g]? = some (.cells cur' e (0, 0)) ∧ cur'.size = cur.size ∧ cur'.toList.take F.size = F.toList := by
  have hlt := lt_of_block hg
  subst hw
  have hb : ∀ k, k < w.heap.size → (Go.Sort.grow (Go.Sort.putRow id (Go.Sort.ahead w n) g 0 F) os).heap[k]? = (w.heap.modify g (Go.Sort.onCells (Go.Sort.putCells id 0 F)))[k]? := fun k hk => by
    show ((w.heap.modify g _) ++ os)[k]? = _
    rw [Array.getElem?_append_left (by simpa using hk)]
  refine ⟨⟨rfl, rfl, rfl, ?_, fun k hk hn => ?_, Nat.le_add_right _ _⟩, Go.Sort.putCells id 0 F cur, ?_, by simp [Go.Sort.putCells], ?_⟩
  · show w.heap.size ≤ ((w.heap.modify g _) ++ os).size
    simp
  · rw [hb k hk, Array.getElem?_modify, if_neg (fun e => hn e.symm)]
  · rw [hb g hlt, Array.getElem?_modify, if_pos rfl, hg]
    rfl
  · apply List.ext_getElem?
    intro i
    rw [List.getElem?_take]
    split
    · rename_i hi
      rw [Array.getElem?_toList, Array.getElem?_toList]
      unfold Go.Sort.putCells
      rw [Array.getElem?_mapIdx, Array.getElem?_eq_getElem (show i < cur.size by omega), Array.getElem?_eq_getElem hi]
      simp [hi]
    · rename_i hi
      rw [List.getElem?_eq_none (by simpa using hi)]
theorem isAgg35 (w : World) : (isAgg 29).run Tryz.prog w = .ok true w := by
  have h : (Tryz.prog.underlying 29).isSome = true := by rw [Tryz.underlying29]; rfl
  simp [isAgg, run_underlying Tryz.underlying29]
theorem sizeOf35 (w : World) : (Go.sizeOf 29).run Tryz.prog w = .ok 4 w := by
  obtain ⟨i0, hi, hz0, hz1, hz2⟩ := info_parts info35
  simp [Go.sizeOf, typeInfo, program, Sem.run, hi, hz1]
set_option maxHeartbeats 1000000 in
theorem sort_calls {W : World} {B : Nat} {v : Value} {hs : List HE} {a0 : HE} (h : DeepH W B 29 55 v hs) (h0 : a0 ∈ hs) (hn : hs.length ≤ 1000000) (Pc : DHeap → Prop) (hP : ∀ a ∈ hs, Pc a.heap) (cmp : DHeap → DHeap → Int)
 (hcmp : ∀ g h, Pc g → Pc h → P_impl_compareHeaps (g, h, ()) = some (cmp g h, ())) (hirr : ∀ g, Pc g → ¬ cmp g g < 0) (htr : ∀ f g h, Pc f → Pc g → Pc h → cmp f g < 0 → cmp g h < 0 → cmp f h < 0) (hntr : ∀ f g h, Pc f → Pc g → Pc h → ¬ cmp f g < 0 → ¬ cmp g h < 0 → ¬ cmp f h < 0) :
 Calls Tryz.prog 90 #[v, .func (.func 89) #[] #[]] W fun e w' => e = .returned (.tuple #[]) ∧ FrameL (fun k => v.ownBlock = some k) W w' ∧ ∃ hs', hs'.Perm hs ∧ (∀ (i j : Nat) (a b : HE), i < j → hs'[i]? = some a → hs'[j]? = some b → ¬ cmp b.heap a.heap < 0) ∧ DeepH w' B 29 55 v hs' := by
  obtain ⟨Z, hZ⟩ : ∃ Z : Nat → Prop, Z = fun g => ∃ a ∈ hs, a.v.ownBlock = some g := ⟨_, rfl⟩
  have hin : ∀ a ∈ hs, RepI Z W (.sl A3ty) a.cells [a.v] := fun a ha => by
    obtain ⟨i, hi⟩ := List.mem_iff_getElem?.1 ha
    exact (h.inner i a hi).reads _ (fun _ hz => hz.elim) fun g hg => by rw [hZ]; exact ⟨a, ha, hg⟩
  have hZlt : ∀ g, Z g → g < W.heap.size ∧ v.ownBlock ≠ some g := fun g hg => by
    rw [hZ] at hg
    obtain ⟨a, ha, hg⟩ := hg
    obtain ⟨i, hi⟩ := List.mem_iff_getElem?.1 ha
    exact ⟨((h.inner i a hi).lt g hg).2, h.outer_ne (by decide) hi hg⟩
  haveI : Inhabited (HG Z W Pc) := ⟨⟨a0, hin a0 h0, hP a0 h0⟩⟩
  have hpos : 0 < hs.length := List.length_pos_of_mem h0
  rcases h.outer.2 with ⟨_, h0'⟩ | ⟨g, cap, cur, rfl, hb, hg, hnc, hcm, hcs, htake⟩
  · omega
  obtain ⟨d, hd⟩ : ∃ d : Array (HG Z W Pc), d.toList.map (·.1) = hs := ⟨(hs.attach.map fun a => (⟨a.1, hin a.1 a.2, hP a.1 a.2⟩ : HG Z W Pc)).toArray, by
    show List.map (fun x => x.val) (hs.attach.map fun a => (⟨a.1, hin a.1 a.2, hP a.1 a.2⟩ : HG Z W Pc)) = hs
    rw [List.map_map]
    exact List.attach_map_subtype_val hs⟩
  have hds : d.size = hs.length := by rw [← hd]; simp
  have hflat : (flatK HG.enc 4 d).toList = encs hs := by rw [flat_encs, hd]
  have hcells := h.outer.cells (g := g) rfl
  have hH : HoldsK HG.enc 4 W g 0 d := by
    intro j hj
    have hj' : j < (flatK HG.enc 4 d).size := hj
    have e1 : (encs hs)[j]? = some (flatK HG.enc 4 d)[j]! := by
      rw [← hflat, Array.getElem?_toList, Array.getElem?_eq_getElem hj', getElem!_pos _ j hj']
    have c1 := hcells j _ e1
    rw [Addr.add_lit] at c1
    refine ⟨c1, ?_⟩
    simp [World.frozen?, hg]
  have hcmpl : CmpLays Tryz.prog 89 #[] HG.enc 4 (fun x y : HG Z W Pc => cmp x.1.heap y.1.heap) g 0 d.size W := by
    intro m os dk hdk x y
    have hF : (flatK HG.enc 4 dk).size ≤ cur.size := by rw [size_flatK, hdk, hds, hcs]; exact Nat.mul_le_mul_right _ hnc
    obtain ⟨f1, _⟩ := sorted_world (w := W) (n := m) (os := os) (F := flatK HG.enc 4 dk) hg hF rfl
    have hrep : ∀ z : HG Z W Pc, RepI Z (Go.Proofs.sortWorldK HG.enc 4 W g 0 m dk os) (.sl A3ty) z.1.cells [z.1.v] := fun z =>
      RepI.mono (fun _ hz => hz) (fun k hk => f1.block k (hZlt k hk).1 fun e => (hZlt k hk).2 (by rw [e]; rfl)) _ _ _ z.2.1
    have hc := c_cmp (W := Go.Proofs.sortWorldK HG.enc 4 W g 0 m dk os) (Z := Z) (fun k hk => Nat.lt_of_lt_of_le (hZlt k hk).1 f1.size) (hrep x) (hrep y) (hcmp x.1.heap y.1.heap x.2.2 y.2.2)
    have ea : (#[Value.agg x.enc.toArray, .agg y.enc.toArray] ++ #[] : Array Value) = #[hpV x.1.heap x.1.v, hpV y.1.heap y.1.v] := Array.append_empty
    have hc2 := Calls.mono hc (R' := fun e w' => e = .returned (.int .i64 (cmp x.1.heap y.1.heap)) ∧ ∃ q os', w' = Go.Sort.grow ((Go.Proofs.sortWorldK HG.enc 4 W g 0 m dk os).drewN q) os') fun e w' h => ⟨h.1, grew_of h.2⟩
    rw [← ea] at hc2
    exact hc2
  have hO : Go.Sort.SWO (ltOf fun x y : HG Z W Pc => cmp x.1.heap y.1.heap) :=
    ⟨fun x => by simpa [ltOf] using hirr _ x.2.2, fun x y z h1 h2 => by
      simp only [ltOf, decide_eq_true_eq] at h1 h2 ⊢
      exact htr _ _ _ x.2.2 y.2.2 z.2.2 h1 h2, fun x y z h1 h2 => by
      simp only [ltOf, decide_eq_false_iff_not] at h1 h2 ⊢
      exact hntr _ _ _ x.2.2 y.2.2 z.2.2 h1 h2⟩
  have eg : ∀ args w, (callFunc 89 args).run Tryz.prog w = .ok (.enter 89 args) w := enters_of Tryz.func89 (by kernel_rfl) rfl
  have hcon := AnyQ.slices_SortFunc Tryz.sortL 4 isAgg35 sizeOf35 HG.enc (fun _ => rfl) HG.one (fun x y : HG Z W Pc => cmp x.1.heap y.1.heap) hO 89 #[] g 0 cap d W eg hcmpl hH (lt_of_block hg) (by omega)
  rw [hds] at hcon
  refine Calls.mono (show Calls Tryz.prog 90 _ _ _ from hcon) ?_
  rintro e w' ⟨rfl, d', n, os, hp, hsd, hw⟩
  have hF : (flatK HG.enc 4 d').size ≤ cur.size := by rw [size_flatK, hp.1, hds, hcs]; exact Nat.mul_le_mul_right _ hnc
  obtain ⟨f1, cur', q1, q2, q3⟩ := sorted_world (w := W) (n := n) (os := os) (F := flatK HG.enc 4 d') hg hF hw
  have hperm : (d'.toList.map (·.1)).Perm hs := by
    have := hp.2.2
    have e1 : d'.extract 0 hs.length = d' := by rw [← hds, ← hp.1]; simp
    have e2 : d.extract 0 hs.length = d := by rw [← hds]; simp
    rw [e1, e2] at this
    rw [← hd]
    exact this.map _
  have hsz' : d'.size = hs.length := by rw [hp.1, hds]
  have hl' : (d'.toList.map (·.1)).length = hs.length := by simp [hsz']
  refine ⟨rfl, ⟨f1.os, f1.tape, f1.output, f1.size, fun k hk hn => f1.block k hk fun e => hn (by rw [e]; rfl), f1.drawn⟩, d'.toList.map (·.1), hperm, fun i j a b hij ha hb' => ?_, h.perm (perm_places hperm) ?_ fun i a k ha hk => ?_⟩
  · have hj : j < hs.length := by
      rcases Nat.lt_or_ge j hs.length with h' | h'
      · exact h'
      · rw [List.getElem?_eq_none (by omega)] at hb'; cases hb'
    have := hsd i j (Nat.zero_le _) hij hj
    rw [getElem!_pos d' i (by omega), getElem!_pos d' j (by omega)] at this
    simp only [ltOf, decide_eq_false_iff_not] at this
    have ea : d'[i].1 = a := by simpa [hsz', show i < hs.length by omega] using ha
    have eb : d'[j].1 = b := by simpa [hsz', hj] using hb'
    rw [← ea, ← eb]
    exact this
  · rw [hl']
    refine ⟨by rw [encs_len, hl'], .inr ⟨g, cap, cur', rfl, hb, q1, hnc, hcm, by rw [q2, hcs], ?_⟩⟩
    rw [size_flatK, hsz'] at q3
    rw [q3, flat_encs]
  · have hmem := List.mem_of_getElem? ha
    have hk2 := hZlt k (by rw [hZ]; exact ⟨a, hmem, hk⟩)
    exact f1.block k hk2.1 fun e => hk2.2 (by rw [e]; rfl)
end Go.VI
namespace Go.VI
open Go.Proofs Go.RowKit
set_option maxRecDepth 100000
def ddF (sm : DHeap → DHeap → Bool) : HE → List HE → List HE
  | _, [] => []
  | p, y :: l => if sm y.heap p.heap then ddF sm y l else y :: ddF sm y l
def dd (sm : DHeap → DHeap → Bool) : List HE → List HE
  | [] => []
  | a :: l => a :: ddF sm a l
theorem ddF_add (sm : DHeap → DHeap → Bool) (b : HE) : ∀ (l : List HE) (p q : HE), (p :: l)[l.length]? = some q → ddF sm p (l ++ [b]) = ddF sm p l ++ (if sm b.heap q.heap then [] else [b])
  | [], p, q, h => by
    obtain rfl : p = q := by simpa using h
    simp only [List.nil_append, ddF]
  | y :: l, p, q, h => by
    have h' : (y :: l)[l.length]? = some q := by simpa using h
    simp only [List.cons_append, ddF]
    split
    · exact ddF_add sm b l y q h'
    · rw [ddF_add sm b l y q h']; rfl
theorem dd_take (sm : DHeap → DHeap → Bool) (hs : List HE) {k : Nat} (hk : 1 ≤ k) {b q : HE} (hb : hs[k]? = some b) (hq : hs[k - 1]? = some q) :
 dd sm (hs.take (k + 1)) = dd sm (hs.take k) ++ (if sm b.heap q.heap then [] else [b]) := by
  cases hs with
  | nil => simp at hb
  | cons a l =>
    obtain ⟨k, rfl⟩ : ∃ j, k = j + 1 := ⟨k - 1, by omega⟩
    have hb' : l[k]? = some b := by simpa using hb
    have hlt : k < l.length := by
      rcases Nat.lt_or_ge k l.length with h' | h'
      · exact h'
      · rw [List.getElem?_eq_none h'] at hb'; cases hb'
    have hg : l[k] = b := by rw [List.getElem?_eq_getElem hlt] at hb'; exact Option.some.inj hb'
    simp only [List.take_succ_cons, dd, List.cons_append]
    rw [List.take_succ_eq_append_getElem hlt, hg, ddF_add sm b (l.take k) a q ?_]
    have e : (l.take k).length = k := by simp; omega
    rw [e]
    have : (a :: l)[k]? = some q := by simpa using hq
    rw [show (a :: l.take k) = (a :: l).take (k + 1) by simp, List.getElem?_take, if_pos (by omega)]
    exact this
theorem dd_one (sm : DHeap → DHeap → Bool) (hs : List HE) (h : 0 < hs.length) : dd sm (hs.take 1) = hs.take 1 := by
  cases hs with
  | nil => simp at h
  | cons a l => rfl
theorem ddF_sub (sm : DHeap → DHeap → Bool) : ∀ (l : List HE) (p : HE), (ddF sm p l).Sublist l
  | [], _ => .slnil
  | y :: l, p => by
    simp only [ddF]
    split
    · exact (ddF_sub sm l y).cons _
    · exact (ddF_sub sm l y).cons_cons _
theorem dd_sub (sm : DHeap → DHeap → Bool) : ∀ hs : List HE, (dd sm hs).Sublist hs
  | [] => .slnil
  | a :: l => (ddF_sub sm l a).cons_cons _
theorem sub_places {α : Type} {l' l : List α} (h : l'.Sublist l) : ∃ f : Nat → Nat, (∀ i j, i < l'.length → j < l'.length → f i = f j → i = j) ∧ ∀ i a, l'[i]? = some a → l[f i]? = some a := by
  induction h with
  | slnil => exact ⟨id, fun i j hi => by simp at hi, fun i a h => by simp at h⟩
  | cons a _ ih =>
    obtain ⟨f, f1, f2⟩ := ih
    exact ⟨fun i => f i + 1, fun i j hi hj e => f1 i j hi hj (by simpa using e), fun i b hb => by simpa using f2 i b hb⟩
  | cons_cons a _ ih =>
    obtain ⟨f, f1, f2⟩ := ih
    refine ⟨fun i => match i with | 0 => 0 | i + 1 => f i + 1, fun i j hi hj e => ?_, fun i y hy => ?_⟩
    · cases i <;> cases j <;> simp at e hi hj ⊢
      exact f1 _ _ hi hj e
    · cases i with
      | zero => simpa using hy
      | succ i => simpa using f2 i y (by simpa using hy)
def put4 (cur : Array Value) (i : Nat) (a b c d : Value) : Array Value := (((cur.setIfInBounds i a).setIfInBounds (i + 1) b).setIfInBounds (i + 2) c).setIfInBounds (i + 3) d
theorem put4_size (cur : Array Value) (i : Nat) (a b c d : Value) : (put4 cur i a b c d).size = cur.size := by simp [put4]
theorem put4_out (cur : Array Value) (i : Nat) (a b c d : Value) (j : Nat) (hj : j < i ∨ i + 4 ≤ j) : (put4 cur i a b c d)[j]? = cur[j]? := by
  unfold put4
  rw [Array.getElem?_setIfInBounds_ne (by omega), Array.getElem?_setIfInBounds_ne (by omega), Array.getElem?_setIfInBounds_ne (by omega), Array.getElem?_setIfInBounds_ne (by omega)]
theorem put4_in (cur : Array Value) (i : Nat) (a b c d : Value) (h : i + 3 < cur.size) (j : Nat) (hj : j < 4) : (put4 cur i a b c d)[i + j]? = [a, b, c, d][j]? := by
  unfold put4
  match j, hj with
  | 0, _ => rw [Array.getElem?_setIfInBounds_ne (by omega), Array.getElem?_setIfInBounds_ne (by omega), Array.getElem?_setIfInBounds_ne (by omega)]; simp [show i < cur.size by omega]
  | 1, _ => rw [Array.getElem?_setIfInBounds_ne (by omega), Array.getElem?_setIfInBounds_ne (by omega)]; simp [show i + 1 < cur.size by omega]
  | 2, _ => rw [Array.getElem?_setIfInBounds_ne (by omega)]; simp [show i + 2 < cur.size by omega]
  | 3, _ => simp [h]
theorem put4_take {cur : Array Value} {k : Nat} {l : List HE} {b : HE} (hl : l.length = k) (h : cur.toList.take (k * 4) = encs l) (hs : k * 4 + 3 < cur.size) :
 (put4 cur (k * 4) (.int .i64 b.x) (.int .i64 b.y) (.int .i64 b.z) b.v).toList.take ((k + 1) * 4) = encs (l ++ [b]) := by
  rw [encs_append]
  have e1 : encs [b] = b.enc := by simp [encs]
  rw [e1]
  apply List.ext_getElem?
  intro j
  rw [List.getElem?_take, Array.getElem?_toList]
  rcases Nat.lt_or_ge j (k * 4) with hj | hj
  · rw [if_pos (by omega), put4_out _ _ _ _ _ _ _ (.inl hj), List.getElem?_append_left (by rw [encs_len]; omega), ← h, List.getElem?_take, if_pos hj, Array.getElem?_toList]
  · rw [List.getElem?_append_right (by rw [encs_len]; omega), encs_len, hl]
    split
    · have := put4_in cur (k * 4) (.int .i64 b.x) (.int .i64 b.y) (.int .i64 b.z) b.v hs (j - k * 4) (by omega)
      rw [show k * 4 + (j - k * 4) = j by omega] at this
      rw [this]; rfl
    · rw [List.getElem?_eq_none (by rw [HE.enc_len]; omega)]
end Go.VI
