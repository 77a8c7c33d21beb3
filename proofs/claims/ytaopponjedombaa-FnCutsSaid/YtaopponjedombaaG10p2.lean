/- What the functions of the seat compute: part 2. -/
import Derived.Test.YtaopponjedombaaG10p1
noncomputable section
namespace Go.VI
open Go.Proofs
set_option maxRecDepth 100000

abbrev As_box_those : List ATy := [.data true T_A3, .clo [(true, T_A3)] [(false, .bool)]]
abbrev R_box_those : List (Bool × Ty) := [(false, (.int .u64))]
abbrev M_box_those : List RMode := []
abbrev Ft_box_those : Type := D_A3 × ((D_A3 × Unit) → Option (Bool × Unit)) × Unit → Option (Int × Unit)
def X_box_those (n : Nat) (F_box_size : Ft_box_size) (F_box_cell : Ft_box_cell) : Ctx := { types := TT, globals := [], con := [(67, ⟨As_box_size, R_box_size, M_box_size, F_box_size⟩), (69, ⟨As_box_cell, R_box_cell, M_box_cell, F_box_cell⟩)], keep := [(3, ⟨[.box 2, .tmp 1, .tmp 2, .tmp 5, .tmp 8, .tmp 9], []⟩)], results := [.tmp 4], ntmps := 23, n := n }
def B_box_those : Code := (Try.f39.body).getD .skip
def L_box_those_3 (n : Nat) (F_box_size : Ft_box_size) (F_box_cell : Ft_box_cell) (m0 : Nat) (p0 p1 p2 : Int) (p3 : (D_A3 × Unit) → Option (Bool × Unit)) (p4 p5 p6 : Int) : Option (denL R_box_those) := loopF (X_box_those n F_box_size F_box_cell) B_box_those R_box_those M_box_those 3 [m0] [(.ver, .num 1), (.box 2, .box 0 false [.int .i64 p0, .int .i64 p1, .int .i64 p2]), (.tmp 1, .val false [.clo [(true, T_A3)] [(false, .bool)] p3]), (.tmp 2, .val false [.addr 2 0 0]), (.tmp 5, .val false [.int .u64 p4]), (.tmp 8, .val false [.int .i64 p5]), (.tmp 9, .val false [.int .i64 p6])]
theorem e_box_those (n : Nat) (F_box_size : Ft_box_size) (F_box_cell : Ft_box_cell) (a0 : D_A3) (a1 : (D_A3 × Unit) → Option (Bool × Unit)) : runF (X_box_those n F_box_size F_box_cell) B_box_those As_box_those R_box_those M_box_those (a0, a1, ()) = 
 Option.bind (F_box_size (a0, ())) fun r0 =>
 L_box_those_3 n F_box_size F_box_cell n a0.1 a0.2.1 a0.2.2.1 a1 0 r0.1 0 := by kernel_rfl
theorem e_box_those_3 (n : Nat) (F_box_size : Ft_box_size) (F_box_cell : Ft_box_cell) (m0 : Nat) (p0 p1 p2 : Int) (p3 : (D_A3 × Unit) → Option (Bool × Unit)) (p4 p5 p6 : Int) : L_box_those_3 n F_box_size F_box_cell (m0 + 1) p0 p1 p2 p3 p4 p5 p6 = 
 bif decide (p6 < p5) then
 Option.bind (F_box_cell ((p0, (p1, (p2, ()))), p6, ())) fun r1 =>
 Option.bind (p3 (r1.1, ())) fun r2 =>
 bif r2.1 then
 bif decide ((0 : Int) ≤ p6) then
 L_box_those_3 n F_box_size F_box_cell m0 p0 p1 p2 p3 (intBits .or .u64 p4 (shlI .u64 1 p6)) p5 (IntKind.wrap .i64 (p6 + 1))
 else none
 else
 L_box_those_3 n F_box_size F_box_cell m0 p0 p1 p2 p3 p4 p5 (IntKind.wrap .i64 (p6 + 1))
 else
 some (p4, ()) := by kernel_rfl
def P_box_those : Ft_box_those := hid (runF (X_box_those N P_box_size P_box_cell) B_box_those As_box_those R_box_those M_box_those)
theorem h_box_those : P_box_those = runF (X_box_those N P_box_size P_box_cell) B_box_those As_box_those R_box_those M_box_those := hid_eq _
def C_box_those : Contract := ⟨As_box_those, R_box_those, M_box_those, P_box_those⟩
theorem s_box_those : Sound Try.prog GG 39 C_box_those := by
 unfold C_box_those; rw [h_box_those]
 exact sound_of_run (fn := Try.f39) hmix hstable (tyOK_of ttOK) (hglob _) (conOK_of ⟨s_box_size, s_box_cell, trivial⟩) (mconOK_of trivial) (by kernel_rfl) (by kernel_rfl) (by kernel_rfl) (by kernel_rfl) (by kernel_rfl) (of_decide_eq_true (by kernel_rfl))
def l_box_those_3 : Nat → Int → Int → Int → ((D_A3 × Unit) → Option (Bool × Unit)) → Int → Int → Int → Option (denL R_box_those) := hid (fun m0 p0 p1 p2 p3 p4 p5 p6 => L_box_those_3 N P_box_size P_box_cell m0 p0 p1 p2 p3 p4 p5 p6)
theorem h_box_those_3 : l_box_those_3 = fun m0 p0 p1 p2 p3 p4 p5 p6 => L_box_those_3 N P_box_size P_box_cell m0 p0 p1 p2 p3 p4 p5 p6 := hid_eq _
theorem p_box_those (a0 : D_A3) (a1 : (D_A3 × Unit) → Option (Bool × Unit)) : P_box_those (a0, a1, ()) = 
 Option.bind (P_box_size (a0, ())) fun r0 =>
 l_box_those_3 N a0.1 a0.2.1 a0.2.2.1 a1 0 r0.1 0 := by
 rewrite [h_box_those, h_box_those_3]
 exact e_box_those N P_box_size P_box_cell a0 a1
theorem q_box_those_3 (m0 : Nat) (p0 p1 p2 : Int) (p3 : (D_A3 × Unit) → Option (Bool × Unit)) (p4 p5 p6 : Int) : l_box_those_3 (m0 + 1) p0 p1 p2 p3 p4 p5 p6 = 
 bif decide (p6 < p5) then
 Option.bind (P_box_cell ((p0, (p1, (p2, ()))), p6, ())) fun r1 =>
 Option.bind (p3 (r1.1, ())) fun r2 =>
 bif r2.1 then
 bif decide ((0 : Int) ≤ p6) then
 l_box_those_3 m0 p0 p1 p2 p3 (intBits .or .u64 p4 (shlI .u64 1 p6)) p5 (IntKind.wrap .i64 (p6 + 1))
 else none
 else
 l_box_those_3 m0 p0 p1 p2 p3 p4 p5 (IntKind.wrap .i64 (p6 + 1))
 else
 some (p4, ()) := by
 rewrite [h_box_those_3]
 exact e_box_those_3 N P_box_size P_box_cell m0 p0 p1 p2 p3 p4 p5 p6

abbrev As_impl_PiecesAfter_1 : List ATy := [.data true T_A3, .ptr T_A2, .ptr T_A3]
abbrev R_impl_PiecesAfter_1 : List (Bool × Ty) := [(false, .bool)]
abbrev M_impl_PiecesAfter_1 : List RMode := []
abbrev Ft_impl_PiecesAfter_1 : Type := D_A3 × D_A2 × D_A3 × Unit → Option (Bool × Unit)
def X_impl_PiecesAfter_1 (n : Nat) : Ctx := { types := TT, globals := [], con := [], keep := [], results := [.tmp 4], ntmps := 20, n := n }
def B_impl_PiecesAfter_1 : Code := (Try.f40.body).getD .skip
theorem e_impl_PiecesAfter_1 (n : Nat) (a0 : D_A3) (a1 : D_A2) (a2 : D_A3) : runF (X_impl_PiecesAfter_1 n) B_impl_PiecesAfter_1 As_impl_PiecesAfter_1 R_impl_PiecesAfter_1 M_impl_PiecesAfter_1 (a0, a1, a2, ()) = 
 bif inB a1.1 3 then
 bif inB a1.1 3 then
 some ((decide ((bif decide (a1.1 = (0 : Int)) then a0.1 else (bif decide (a1.1 = (1 : Int)) then a0.2.1 else a0.2.2.1)) < a1.2.1) == decide ((bif decide (a1.1 = (0 : Int)) then a2.1 else (bif decide (a1.1 = (1 : Int)) then a2.2.1 else a2.2.2.1)) < a1.2.1)), ())
 else none
 else none := by kernel_rfl
def P_impl_PiecesAfter_1 : Ft_impl_PiecesAfter_1 := hid (runF (X_impl_PiecesAfter_1 N) B_impl_PiecesAfter_1 As_impl_PiecesAfter_1 R_impl_PiecesAfter_1 M_impl_PiecesAfter_1)
theorem h_impl_PiecesAfter_1 : P_impl_PiecesAfter_1 = runF (X_impl_PiecesAfter_1 N) B_impl_PiecesAfter_1 As_impl_PiecesAfter_1 R_impl_PiecesAfter_1 M_impl_PiecesAfter_1 := hid_eq _
def C_impl_PiecesAfter_1 : Contract := ⟨As_impl_PiecesAfter_1, R_impl_PiecesAfter_1, M_impl_PiecesAfter_1, P_impl_PiecesAfter_1⟩
theorem s_impl_PiecesAfter_1 : Sound Try.prog GG 40 C_impl_PiecesAfter_1 := by
 unfold C_impl_PiecesAfter_1; rw [h_impl_PiecesAfter_1]
 exact sound_of_run (fn := Try.f40) hmix hstable (tyOK_of ttOK) (hglob _) (conOK_of trivial) (mconOK_of trivial) (by kernel_rfl) (by kernel_rfl) (by kernel_rfl) (by kernel_rfl) (by kernel_rfl) (of_decide_eq_true (by kernel_rfl))
theorem p_impl_PiecesAfter_1 (a0 : D_A3) (a1 : D_A2) (a2 : D_A3) : P_impl_PiecesAfter_1 (a0, a1, a2, ()) = 
 bif inB a1.1 3 then
 bif inB a1.1 3 then
 some ((decide ((bif decide (a1.1 = (0 : Int)) then a0.1 else (bif decide (a1.1 = (1 : Int)) then a0.2.1 else a0.2.2.1)) < a1.2.1) == decide ((bif decide (a1.1 = (0 : Int)) then a2.1 else (bif decide (a1.1 = (1 : Int)) then a2.2.1 else a2.2.2.1)) < a1.2.1)), ())
 else none
 else none := by
 rewrite [h_impl_PiecesAfter_1]
 exact e_impl_PiecesAfter_1 N a0 a1 a2

abbrev As_box_near : List ATy := [.data true T_A3, .data true T_A3]
abbrev R_box_near : List (Bool × Ty) := [(false, (.int .u64))]
abbrev M_box_near : List RMode := []
abbrev Ft_box_near : Type := D_A3 × D_A3 × Unit → Option (Int × Unit)
def X_box_near (n : Nat) (F_box_index : Ft_box_index) (F_box_has : Ft_box_has) : Ctx := { types := TT, globals := [], con := [(28, ⟨As_box_index, R_box_index, M_box_index, F_box_index⟩), (52, ⟨As_box_has, R_box_has, M_box_has, F_box_has⟩)], keep := [(3, ⟨[.box 2, .box 3, .tmp 2, .tmp 3, .tmp 5, .tmp 10], []⟩), (6, ⟨[.box 2, .box 3, .tmp 2, .tmp 3, .tmp 5, .tmp 6, .tmp 10, .tmp 13, .tmp 14], []⟩)], results := [.tmp 4], ntmps := 36, n := n }
def B_box_near : Code := (Try.f70.body).getD .skip
def L_box_near_3 (n : Nat) (F_box_index : Ft_box_index) (F_box_has : Ft_box_has) (m0 : Nat) (p0 p1 : Int) (p2 p3 : Int) (p4 p5 : Int) (p6 p7 : Int) : Option (denL R_box_near) := loopF (X_box_near n F_box_index F_box_has) B_box_near R_box_near M_box_near 3 [m0] [(.ver, .num 1), (.box 2, .box 0 false [.int .i64 p0, .int .i64 p1, .int .i64 p2]), (.box 3, .box 0 false [.int .i64 p3, .int .i64 p4, .int .i64 p5]), (.tmp 2, .val false [.addr 2 0 0]), (.tmp 3, .val false [.addr 3 0 0]), (.tmp 5, .val false [.int .u64 p6]), (.tmp 10, .val false [.int .i64 p7])]
def L_box_near_6 (n : Nat) (F_box_index : Ft_box_index) (F_box_has : Ft_box_has) (m0 m1 : Nat) (p0 p1 : Int) (p2 p3 : Int) (p4 p5 : Int) (p6 p7 : Int) (p8 p9 : Int) (p10 p11 : Int) : Option (denL R_box_near) := loopF (X_box_near n F_box_index F_box_has) B_box_near R_box_near M_box_near 6 [m0, m1] [(.ver, .num 1), (.box 2, .box 0 false [.int .i64 p0, .int .i64 p1, .int .i64 p2]), (.box 3, .box 0 false [.int .i64 p3, .int .i64 p4, .int .i64 p5]), (.tmp 2, .val false [.addr 2 0 0]), (.tmp 3, .val false [.addr 3 0 0]), (.tmp 5, .val false [.int .u64 p6]), (.tmp 6, .val false [.int .i64 p7]), (.tmp 10, .val false [.int .i64 p8]), (.tmp 13, .val true [.int .i64 p9, .int .i64 p10]), (.tmp 14, .val false [.int .i64 p11])]
theorem e_box_near (n : Nat) (F_box_index : Ft_box_index) (F_box_has : Ft_box_has) (a0 a1 : D_A3) : runF (X_box_near n F_box_index F_box_has) B_box_near As_box_near R_box_near M_box_near (a0, a1, ()) = 
 L_box_near_3 n F_box_index F_box_has n a0.1 a0.2.1 a0.2.2.1 a1.1 a1.2.1 a1.2.2.1 0 0 := by kernel_rfl
theorem e_box_near_3 (n : Nat) (F_box_index : Ft_box_index) (F_box_has : Ft_box_has) (m0 : Nat) (p0 p1 : Int) (p2 p3 : Int) (p4 p5 : Int) (p6 p7 : Int) : L_box_near_3 n F_box_index F_box_has (m0 + 1) p0 p1 p2 p3 p4 p5 p6 p7 = 
 bif decide (p7 < 3) then
 L_box_near_6 n F_box_index F_box_has m0 n p0 p1 p2 p3 p4 p5 p6 p7 p7 (-1) 1 0
 else
 some (p6, ()) := by kernel_rfl
theorem e_box_near_6 (n : Nat) (F_box_index : Ft_box_index) (F_box_has : Ft_box_has) (m0 m1 : Nat) (p0 p1 : Int) (p2 p3 : Int) (p4 p5 : Int) (p6 p7 : Int) (p8 p9 : Int) (p10 p11 : Int) : L_box_near_6 n F_box_index F_box_has m0 (m1 + 1) p0 p1 p2 p3 p4 p5 p6 p7 p8 p9 p10 p11 = 
 bif decide (p11 < 2) then
 bif inB p11 2 then
 bif inB p7 3 then
 bif inB p7 3 then
 Option.bind (F_box_has ((p0, (p1, (p2, ()))), ((bif decide (p7 = (0 : Int)) then (IntKind.wrap .i64 ((bif decide (p7 = (0 : Int)) then p3 else (bif decide (p7 = (1 : Int)) then p4 else p5)) + (bif decide (p11 = (0 : Int)) then p9 else p10))) else p3), ((bif decide (p7 = (1 : Int)) then (IntKind.wrap .i64 ((bif decide (p7 = (0 : Int)) then p3 else (bif decide (p7 = (1 : Int)) then p4 else p5)) + (bif decide (p11 = (0 : Int)) then p9 else p10))) else p4), ((bif decide (p7 = (2 : Int)) then (IntKind.wrap .i64 ((bif decide (p7 = (0 : Int)) then p3 else (bif decide (p7 = (1 : Int)) then p4 else p5)) + (bif decide (p11 = (0 : Int)) then p9 else p10))) else p5), ()))), ())) fun r4 =>
 bif r4.1 then
 Option.bind (F_box_index ((p0, (p1, (p2, ()))), ((bif decide (p7 = (0 : Int)) then (IntKind.wrap .i64 ((bif decide (p7 = (0 : Int)) then p3 else (bif decide (p7 = (1 : Int)) then p4 else p5)) + (bif decide (p11 = (0 : Int)) then p9 else p10))) else p3), ((bif decide (p7 = (1 : Int)) then (IntKind.wrap .i64 ((bif decide (p7 = (0 : Int)) then p3 else (bif decide (p7 = (1 : Int)) then p4 else p5)) + (bif decide (p11 = (0 : Int)) then p9 else p10))) else p4), ((bif decide (p7 = (2 : Int)) then (IntKind.wrap .i64 ((bif decide (p7 = (0 : Int)) then p3 else (bif decide (p7 = (1 : Int)) then p4 else p5)) + (bif decide (p11 = (0 : Int)) then p9 else p10))) else p5), ()))), ())) fun r6 =>
 bif decide ((0 : Int) ≤ r6.1) then
 L_box_near_6 n F_box_index F_box_has m0 m1 p0 p1 p2 p3 p4 p5 (intBits .or .u64 p6 (shlI .u64 1 r6.1)) p7 p8 p9 p10 (IntKind.wrap .i64 (p11 + 1))
 else none
 else
 L_box_near_6 n F_box_index F_box_has m0 m1 p0 p1 p2 p3 p4 p5 p6 p7 p8 p9 p10 (IntKind.wrap .i64 (p11 + 1))
 else none
 else none
 else none
 else
 L_box_near_3 n F_box_index F_box_has m0 p0 p1 p2 p3 p4 p5 p6 (IntKind.wrap .i64 (p8 + 1)) := by kernel_rfl
def P_box_near : Ft_box_near := hid (runF (X_box_near N P_box_index P_box_has) B_box_near As_box_near R_box_near M_box_near)
theorem h_box_near : P_box_near = runF (X_box_near N P_box_index P_box_has) B_box_near As_box_near R_box_near M_box_near := hid_eq _
def C_box_near : Contract := ⟨As_box_near, R_box_near, M_box_near, P_box_near⟩
theorem s_box_near : Sound Try.prog GG 70 C_box_near := by
 unfold C_box_near; rw [h_box_near]
 exact sound_of_run (fn := Try.f70) hmix hstable (tyOK_of ttOK) (hglob _) (conOK_of ⟨s_box_index, s_box_has, trivial⟩) (mconOK_of trivial) (by kernel_rfl) (by kernel_rfl) (by kernel_rfl) (by kernel_rfl) (by kernel_rfl) (of_decide_eq_true (by kernel_rfl))
def l_box_near_3 : Nat → Int → Int → Int → Int → Int → Int → Int → Int → Option (denL R_box_near) := hid (fun m0 p0 p1 p2 p3 p4 p5 p6 p7 => L_box_near_3 N P_box_index P_box_has m0 p0 p1 p2 p3 p4 p5 p6 p7)
theorem h_box_near_3 : l_box_near_3 = fun m0 p0 p1 p2 p3 p4 p5 p6 p7 => L_box_near_3 N P_box_index P_box_has m0 p0 p1 p2 p3 p4 p5 p6 p7 := hid_eq _
def l_box_near_6 : Nat → Nat → Int → Int → Int → Int → Int → Int → Int → Int → Int → Int → Int → Int → Option (denL R_box_near) := hid (fun m0 m1 p0 p1 p2 p3 p4 p5 p6 p7 p8 p9 p10 p11 => L_box_near_6 N P_box_index P_box_has m0 m1 p0 p1 p2 p3 p4 p5 p6 p7 p8 p9 p10 p11)
theorem h_box_near_6 : l_box_near_6 = fun m0 m1 p0 p1 p2 p3 p4 p5 p6 p7 p8 p9 p10 p11 => L_box_near_6 N P_box_index P_box_has m0 m1 p0 p1 p2 p3 p4 p5 p6 p7 p8 p9 p10 p11 := hid_eq _
theorem p_box_near (a0 a1 : D_A3) : P_box_near (a0, a1, ()) = 
 l_box_near_3 N a0.1 a0.2.1 a0.2.2.1 a1.1 a1.2.1 a1.2.2.1 0 0 := by
 rewrite [h_box_near, h_box_near_3]
 exact e_box_near N P_box_index P_box_has a0 a1
theorem q_box_near_3 (m0 : Nat) (p0 p1 : Int) (p2 p3 : Int) (p4 p5 : Int) (p6 p7 : Int) : l_box_near_3 (m0 + 1) p0 p1 p2 p3 p4 p5 p6 p7 = 
 bif decide (p7 < 3) then
 l_box_near_6 m0 N p0 p1 p2 p3 p4 p5 p6 p7 p7 (-1) 1 0
 else
 some (p6, ()) := by
 rewrite [h_box_near_3, h_box_near_6]
 exact e_box_near_3 N P_box_index P_box_has m0 p0 p1 p2 p3 p4 p5 p6 p7
theorem q_box_near_6 (m0 m1 : Nat) (p0 p1 : Int) (p2 p3 : Int) (p4 p5 : Int) (p6 p7 : Int) (p8 p9 : Int) (p10 p11 : Int) : l_box_near_6 m0 (m1 + 1) p0 p1 p2 p3 p4 p5 p6 p7 p8 p9 p10 p11 = 
 bif decide (p11 < 2) then
 bif inB p11 2 then
 bif inB p7 3 then
 bif inB p7 3 then
 Option.bind (P_box_has ((p0, (p1, (p2, ()))), ((bif decide (p7 = (0 : Int)) then (IntKind.wrap .i64 ((bif decide (p7 = (0 : Int)) then p3 else (bif decide (p7 = (1 : Int)) then p4 else p5)) + (bif decide (p11 = (0 : Int)) then p9 else p10))) else p3), ((bif decide (p7 = (1 : Int)) then (IntKind.wrap .i64 ((bif decide (p7 = (0 : Int)) then p3 else (bif decide (p7 = (1 : Int)) then p4 else p5)) + (bif decide (p11 = (0 : Int)) then p9 else p10))) else p4), ((bif decide (p7 = (2 : Int)) then (IntKind.wrap .i64 ((bif decide (p7 = (0 : Int)) then p3 else (bif decide (p7 = (1 : Int)) then p4 else p5)) + (bif decide (p11 = (0 : Int)) then p9 else p10))) else p5), ()))), ())) fun r4 =>
 bif r4.1 then
 Option.bind (P_box_index ((p0, (p1, (p2, ()))), ((bif decide (p7 = (0 : Int)) then (IntKind.wrap .i64 ((bif decide (p7 = (0 : Int)) then p3 else (bif decide (p7 = (1 : Int)) then p4 else p5)) + (bif decide (p11 = (0 : Int)) then p9 else p10))) else p3), ((bif decide (p7 = (1 : Int)) then (IntKind.wrap .i64 ((bif decide (p7 = (0 : Int)) then p3 else (bif decide (p7 = (1 : Int)) then p4 else p5)) + (bif decide (p11 = (0 : Int)) then p9 else p10))) else p4), ((bif decide (p7 = (2 : Int)) then (IntKind.wrap .i64 ((bif decide (p7 = (0 : Int)) then p3 else (bif decide (p7 = (1 : Int)) then p4 else p5)) + (bif decide (p11 = (0 : Int)) then p9 else p10))) else p5), ()))), ())) fun r6 =>
 bif decide ((0 : Int) ≤ r6.1) then
 l_box_near_6 m0 m1 p0 p1 p2 p3 p4 p5 (intBits .or .u64 p6 (shlI .u64 1 r6.1)) p7 p8 p9 p10 (IntKind.wrap .i64 (p11 + 1))
 else none
 else
 l_box_near_6 m0 m1 p0 p1 p2 p3 p4 p5 p6 p7 p8 p9 p10 (IntKind.wrap .i64 (p11 + 1))
 else none
 else none
 else none
 else
 l_box_near_3 m0 p0 p1 p2 p3 p4 p5 p6 (IntKind.wrap .i64 (p8 + 1)) := by
 rewrite [h_box_near_3, h_box_near_6]
 exact e_box_near_6 N P_box_index P_box_has m0 m1 p0 p1 p2 p3 p4 p5 p6 p7 p8 p9 p10 p11

abbrev As_box_grown : List ATy := [.data true T_A3, .data false (.int .u64), .data false (.int .u64)]
abbrev R_box_grown : List (Bool × Ty) := [(false, (.int .u64))]
abbrev M_box_grown : List RMode := []
abbrev Ft_box_grown : Type := D_A3 × Int × Int × Unit → Option (Int × Unit)
def X_box_grown (n : Nat) (F_box_size : Ft_box_size) (F_set_has : Ft_set_has) (F_box_cell : Ft_box_cell) (F_box_near : Ft_box_near) : Ctx := { types := TT, globals := [], con := [(67, ⟨As_box_size, R_box_size, M_box_size, F_box_size⟩), (68, ⟨As_set_has, R_set_has, M_set_has, F_set_has⟩), (69, ⟨As_box_cell, R_box_cell, M_box_cell, F_box_cell⟩), (70, ⟨As_box_near, R_box_near, M_box_near, F_box_near⟩)], keep := [(1, ⟨[.box 3, .tmp 1, .tmp 2, .tmp 3], []⟩), (3, ⟨[.box 3, .tmp 1, .tmp 2, .tmp 3, .tmp 7, .tmp 11, .tmp 12], []⟩)], results := [.tmp 6], ntmps := 33, n := n }
def B_box_grown : Code := (Try.f41.body).getD .skip
def L_box_grown_1 (n : Nat) (F_box_size : Ft_box_size) (F_set_has : Ft_set_has) (F_box_cell : Ft_box_cell) (F_box_near : Ft_box_near) (m0 : Nat) (p0 p1 : Int) (p2 p3 p4 : Int) : Option (denL R_box_grown) := loopF (X_box_grown n F_box_size F_set_has F_box_cell F_box_near) B_box_grown R_box_grown M_box_grown 1 [m0] [(.ver, .num 1), (.box 3, .box 0 false [.int .i64 p0, .int .i64 p1, .int .i64 p2]), (.tmp 1, .val false [.int .u64 p3]), (.tmp 2, .val false [.int .u64 p4]), (.tmp 3, .val false [.addr 3 0 0])]
def L_box_grown_3 (n : Nat) (F_box_size : Ft_box_size) (F_set_has : Ft_set_has) (F_box_cell : Ft_box_cell) (F_box_near : Ft_box_near) (m0 m1 : Nat) (p0 p1 : Int) (p2 p3 : Int) (p4 p5 : Int) (p6 p7 : Int) : Option (denL R_box_grown) := loopF (X_box_grown n F_box_size F_set_has F_box_cell F_box_near) B_box_grown R_box_grown M_box_grown 3 [m0, m1] [(.ver, .num 1), (.box 3, .box 0 false [.int .i64 p0, .int .i64 p1, .int .i64 p2]), (.tmp 1, .val false [.int .u64 p3]), (.tmp 2, .val false [.int .u64 p4]), (.tmp 3, .val false [.addr 3 0 0]), (.tmp 7, .val false [.int .u64 p5]), (.tmp 11, .val false [.int .i64 p6]), (.tmp 12, .val false [.int .i64 p7])]
theorem e_box_grown (n : Nat) (F_box_size : Ft_box_size) (F_set_has : Ft_set_has) (F_box_cell : Ft_box_cell) (F_box_near : Ft_box_near) (a0 : D_A3) (a1 a2 : Int) : runF (X_box_grown n F_box_size F_set_has F_box_cell F_box_near) B_box_grown As_box_grown R_box_grown M_box_grown (a0, a1, a2, ()) = 
 L_box_grown_1 n F_box_size F_set_has F_box_cell F_box_near n a0.1 a0.2.1 a0.2.2.1 a1 a2 := by kernel_rfl
theorem e_box_grown_1 (n : Nat) (F_box_size : Ft_box_size) (F_set_has : Ft_set_has) (F_box_cell : Ft_box_cell) (F_box_near : Ft_box_near) (m0 : Nat) (p0 p1 : Int) (p2 p3 p4 : Int) : L_box_grown_1 n F_box_size F_set_has F_box_cell F_box_near (m0 + 1) p0 p1 p2 p3 p4 = 
 Option.bind (F_box_size ((p0, (p1, (p2, ()))), ())) fun r0 =>
 L_box_grown_3 n F_box_size F_set_has F_box_cell F_box_near m0 n p0 p1 p2 p3 p4 p3 r0.1 0 := by kernel_rfl
theorem e_box_grown_3 (n : Nat) (F_box_size : Ft_box_size) (F_set_has : Ft_set_has) (F_box_cell : Ft_box_cell) (F_box_near : Ft_box_near) (m0 m1 : Nat) (p0 p1 : Int) (p2 p3 : Int) (p4 p5 : Int) (p6 p7 : Int) : L_box_grown_3 n F_box_size F_set_has F_box_cell F_box_near m0 (m1 + 1) p0 p1 p2 p3 p4 p5 p6 p7 = 
 bif decide (p7 < p6) then
 Option.bind (F_set_has (p3, p7, ())) fun r1 =>
 bif r1.1 then
 Option.bind (F_box_cell ((p0, (p1, (p2, ()))), p7, ())) fun r3 =>
 Option.bind (F_box_near ((p0, (p1, (p2, ()))), r3.1, ())) fun r4 =>
 L_box_grown_3 n F_box_size F_set_has F_box_cell F_box_near m0 m1 p0 p1 p2 p3 p4 (intBits .or .u64 p5 (intBits .and .u64 r4.1 p4)) p6 (IntKind.wrap .i64 (p7 + 1))
 else
 L_box_grown_3 n F_box_size F_set_has F_box_cell F_box_near m0 m1 p0 p1 p2 p3 p4 p5 p6 (IntKind.wrap .i64 (p7 + 1))
 else
 bif decide (p5 = p3) then
 some (p3, ())
 else
 L_box_grown_1 n F_box_size F_set_has F_box_cell F_box_near m0 p0 p1 p2 p5 p4 := by kernel_rfl
def P_box_grown : Ft_box_grown := hid (runF (X_box_grown N P_box_size P_set_has P_box_cell P_box_near) B_box_grown As_box_grown R_box_grown M_box_grown)
theorem h_box_grown : P_box_grown = runF (X_box_grown N P_box_size P_set_has P_box_cell P_box_near) B_box_grown As_box_grown R_box_grown M_box_grown := hid_eq _
def C_box_grown : Contract := ⟨As_box_grown, R_box_grown, M_box_grown, P_box_grown⟩
theorem s_box_grown : Sound Try.prog GG 41 C_box_grown := by
 unfold C_box_grown; rw [h_box_grown]
 exact sound_of_run (fn := Try.f41) hmix hstable (tyOK_of ttOK) (hglob _) (conOK_of ⟨s_box_size, s_set_has, s_box_cell, s_box_near, trivial⟩) (mconOK_of trivial) (by kernel_rfl) (by kernel_rfl) (by kernel_rfl) (by kernel_rfl) (by kernel_rfl) (of_decide_eq_true (by kernel_rfl))
def l_box_grown_1 : Nat → Int → Int → Int → Int → Int → Option (denL R_box_grown) := hid (fun m0 p0 p1 p2 p3 p4 => L_box_grown_1 N P_box_size P_set_has P_box_cell P_box_near m0 p0 p1 p2 p3 p4)
theorem h_box_grown_1 : l_box_grown_1 = fun m0 p0 p1 p2 p3 p4 => L_box_grown_1 N P_box_size P_set_has P_box_cell P_box_near m0 p0 p1 p2 p3 p4 := hid_eq _
def l_box_grown_3 : Nat → Nat → Int → Int → Int → Int → Int → Int → Int → Int → Option (denL R_box_grown) := hid (fun m0 m1 p0 p1 p2 p3 p4 p5 p6 p7 => L_box_grown_3 N P_box_size P_set_has P_box_cell P_box_near m0 m1 p0 p1 p2 p3 p4 p5 p6 p7)
theorem h_box_grown_3 : l_box_grown_3 = fun m0 m1 p0 p1 p2 p3 p4 p5 p6 p7 => L_box_grown_3 N P_box_size P_set_has P_box_cell P_box_near m0 m1 p0 p1 p2 p3 p4 p5 p6 p7 := hid_eq _
theorem p_box_grown (a0 : D_A3) (a1 a2 : Int) : P_box_grown (a0, a1, a2, ()) = 
 l_box_grown_1 N a0.1 a0.2.1 a0.2.2.1 a1 a2 := by
 rewrite [h_box_grown, h_box_grown_1]
 exact e_box_grown N P_box_size P_set_has P_box_cell P_box_near a0 a1 a2
theorem q_box_grown_1 (m0 : Nat) (p0 p1 : Int) (p2 p3 p4 : Int) : l_box_grown_1 (m0 + 1) p0 p1 p2 p3 p4 = 
 Option.bind (P_box_size ((p0, (p1, (p2, ()))), ())) fun r0 =>
 l_box_grown_3 m0 N p0 p1 p2 p3 p4 p3 r0.1 0 := by
 rewrite [h_box_grown_1, h_box_grown_3]
 exact e_box_grown_1 N P_box_size P_set_has P_box_cell P_box_near m0 p0 p1 p2 p3 p4
theorem q_box_grown_3 (m0 m1 : Nat) (p0 p1 : Int) (p2 p3 : Int) (p4 p5 : Int) (p6 p7 : Int) : l_box_grown_3 m0 (m1 + 1) p0 p1 p2 p3 p4 p5 p6 p7 = 
 bif decide (p7 < p6) then
 Option.bind (P_set_has (p3, p7, ())) fun r1 =>
 bif r1.1 then
 Option.bind (P_box_cell ((p0, (p1, (p2, ()))), p7, ())) fun r3 =>
 Option.bind (P_box_near ((p0, (p1, (p2, ()))), r3.1, ())) fun r4 =>
 l_box_grown_3 m0 m1 p0 p1 p2 p3 p4 (intBits .or .u64 p5 (intBits .and .u64 r4.1 p4)) p6 (IntKind.wrap .i64 (p7 + 1))
 else
 l_box_grown_3 m0 m1 p0 p1 p2 p3 p4 p5 p6 (IntKind.wrap .i64 (p7 + 1))
 else
 bif decide (p5 = p3) then
 some (p3, ())
 else
 l_box_grown_1 m0 p0 p1 p2 p5 p4 := by
 rewrite [h_box_grown_1, h_box_grown_3]
 exact e_box_grown_3 N P_box_size P_set_has P_box_cell P_box_near m0 m1 p0 p1 p2 p3 p4 p5 p6 p7

abbrev As_impl_PiecesAfter : List ATy := [.data true T_Heap, .data false (.sl T_A2)]
abbrev R_impl_PiecesAfter : List (Bool × Ty) := [(false, (.sl (.sl T_A3))), (false, .bool)]
abbrev M_impl_PiecesAfter : List RMode := [.own 24]
abbrev Ft_impl_PiecesAfter : Type := D_Heap × (List D_A2) × Unit → Option ((List (List D_A3)) × Bool × Unit)
def X_impl_PiecesAfter (n : Nat) (F_impl_IsHeap : Ft_impl_IsHeap) (F_Heap_isCut : Ft_Heap_isCut) (F_Heap_box : Ft_Heap_box) (F_Heap_cubes : Ft_Heap_cubes) (F_box_list : Ft_box_list) (F_box_those : Ft_box_those) (F_impl_PiecesAfter_1 : Ft_impl_PiecesAfter_1) (F_box_grown : Ft_box_grown) : Ctx := { types := TT, globals := [], con := [(20, ⟨As_impl_IsHeap, R_impl_IsHeap, M_impl_IsHeap, F_impl_IsHeap⟩), (26, ⟨As_Heap_isCut, R_Heap_isCut, M_Heap_isCut, F_Heap_isCut⟩), (27, ⟨As_Heap_box, R_Heap_box, M_Heap_box, F_Heap_box⟩), (37, ⟨As_Heap_cubes, R_Heap_cubes, M_Heap_cubes, F_Heap_cubes⟩), (38, ⟨As_box_list, R_box_list, M_box_list, F_box_list⟩), (39, ⟨As_box_those, R_box_those, M_box_those, F_box_those⟩), (40, ⟨As_impl_PiecesAfter_1, R_impl_PiecesAfter_1, M_impl_PiecesAfter_1, F_impl_PiecesAfter_1⟩), (41, ⟨As_box_grown, R_box_grown, M_box_grown, F_box_grown⟩)], keep := [(4, ⟨[.box 2, .tmp 1, .tmp 2, .tmp 24, .tmp 25, .tmp 26], []⟩), (10, ⟨[.box 9, .tmp 1, .tmp 8, .tmp 9, .tmp 10], []⟩), (14, ⟨[.box 9, .box 12, .tmp 1, .tmp 8, .tmp 9, .tmp 10, .tmp 11, .tmp 12, .tmp 13, .tmp 55, .tmp 56, .tmp 57], [.box 12]⟩)], results := [.tmp 4, .tmp 5], ntmps := 81, n := n }
def B_impl_PiecesAfter : Code := (Try.f12.body).getD .skip
def L_impl_PiecesAfter_4 (n : Nat) (F_impl_IsHeap : Ft_impl_IsHeap) (F_Heap_isCut : Ft_Heap_isCut) (F_Heap_box : Ft_Heap_box) (F_Heap_cubes : Ft_Heap_cubes) (F_box_list : Ft_box_list) (F_box_those : Ft_box_those) (F_impl_PiecesAfter_1 : Ft_impl_PiecesAfter_1) (F_box_grown : Ft_box_grown) (m0 : Nat) (p0 p1 p2 : Int) (p3 : List D_A3) (p4 p5 : List D_A2) (p6 p7 : Int) : Option (denL R_impl_PiecesAfter) := loopF (X_impl_PiecesAfter n F_impl_IsHeap F_Heap_isCut F_Heap_box F_Heap_cubes F_box_list F_box_those F_impl_PiecesAfter_1 F_box_grown) B_impl_PiecesAfter R_impl_PiecesAfter M_impl_PiecesAfter 4 [m0] [(.ver, .num 1), (.box 2, .box 0 false [.int .i64 p0, .int .i64 p1, .int .i64 p2, .imm T_A3 p3 (some 3)]), (.tmp 1, .val false [.imm T_A2 p4 (some 4)]), (.tmp 2, .val false [.addr 2 0 0]), (.tmp 24, .val false [.imm T_A2 p5 (some 4)]), (.tmp 25, .val false [.int .i64 p6]), (.tmp 26, .val false [.int .i64 p7])]
def L_impl_PiecesAfter_10 (n : Nat) (F_impl_IsHeap : Ft_impl_IsHeap) (F_Heap_isCut : Ft_Heap_isCut) (F_Heap_box : Ft_Heap_box) (F_Heap_cubes : Ft_Heap_cubes) (F_box_list : Ft_box_list) (F_box_those : Ft_box_those) (F_impl_PiecesAfter_1 : Ft_impl_PiecesAfter_1) (F_box_grown : Ft_box_grown) (m0 : Nat) (p0 p1 p2 : Int) (p3 : List D_A2) (p4 : List (List D_A3)) (p5 : Int) : Option (denL R_impl_PiecesAfter) := loopF (X_impl_PiecesAfter n F_impl_IsHeap F_Heap_isCut F_Heap_box F_Heap_cubes F_box_list F_box_those F_impl_PiecesAfter_1 F_box_grown) B_impl_PiecesAfter R_impl_PiecesAfter M_impl_PiecesAfter 10 [m0] [(.ver, .num 1), (.box 9, .box 0 false [.int .i64 p0, .int .i64 p1, .int .i64 p2]), (.tmp 1, .val false [.imm T_A2 p3 (some 4)]), (.tmp 8, .val false [.own 24 (.sl T_A3) 0 p4]), (.tmp 9, .val false [.addr 9 0 0]), (.tmp 10, .val false [.int .u64 p5])]
def L_impl_PiecesAfter_14 (n : Nat) (F_impl_IsHeap : Ft_impl_IsHeap) (F_Heap_isCut : Ft_Heap_isCut) (F_Heap_box : Ft_Heap_box) (F_Heap_cubes : Ft_Heap_cubes) (F_box_list : Ft_box_list) (F_box_those : Ft_box_those) (F_impl_PiecesAfter_1 : Ft_impl_PiecesAfter_1) (F_box_grown : Ft_box_grown) (m0 m1 : Nat) (p0 p1 : Int) (p2 p3 : Int) (p4 p5 : Int) (p6 : List D_A2) (p7 : List (List D_A3)) (p8 p9 p10 : Int) (p11 : List D_A2) (p12 p13 : Int) : Option (denL R_impl_PiecesAfter) := loopF (X_impl_PiecesAfter n F_impl_IsHeap F_Heap_isCut F_Heap_box F_Heap_cubes F_box_list F_box_those F_impl_PiecesAfter_1 F_box_grown) B_impl_PiecesAfter R_impl_PiecesAfter M_impl_PiecesAfter 14 [m0, m1] [(.ver, .num 1), (.box 9, .box 0 false [.int .i64 p0, .int .i64 p1, .int .i64 p2]), (.box 12, .box 0 true [.int .i64 p3, .int .i64 p4, .int .i64 p5]), (.tmp 1, .val false [.imm T_A2 p6 (some 4)]), (.tmp 8, .val false [.own 24 (.sl T_A3) 0 p7]), (.tmp 9, .val false [.addr 9 0 0]), (.tmp 10, .val false [.int .u64 p8]), (.tmp 11, .val false [.int .u64 p9]), (.tmp 12, .val false [.addr 12 0 0]), (.tmp 13, .val false [.int .u64 p10]), (.tmp 55, .val false [.imm T_A2 p11 (some 4)]), (.tmp 56, .val false [.int .i64 p12]), (.tmp 57, .val false [.int .i64 p13])]
theorem e_impl_PiecesAfter (n : Nat) (F_impl_IsHeap : Ft_impl_IsHeap) (F_Heap_isCut : Ft_Heap_isCut) (F_Heap_box : Ft_Heap_box) (F_Heap_cubes : Ft_Heap_cubes) (F_box_list : Ft_box_list) (F_box_those : Ft_box_those) (F_impl_PiecesAfter_1 : Ft_impl_PiecesAfter_1) (F_box_grown : Ft_box_grown) (a0 : D_Heap) (a1 : List D_A2) : runF (X_impl_PiecesAfter n F_impl_IsHeap F_Heap_isCut F_Heap_box F_Heap_cubes F_box_list F_box_those F_impl_PiecesAfter_1 F_box_grown) B_impl_PiecesAfter As_impl_PiecesAfter R_impl_PiecesAfter M_impl_PiecesAfter (a0, a1, ()) = 
 Option.bind (F_impl_IsHeap (a0, ())) fun r0 =>
 bif !r0.1 then
 some (([] : List (List D_A3)), false, ())
 else
 bif decide ((List.length a1 : Int) > 12) then
 some (([] : List (List D_A3)), false, ())
 else
 L_impl_PiecesAfter_4 n F_impl_IsHeap F_Heap_isCut F_Heap_box F_Heap_cubes F_box_list F_box_those F_impl_PiecesAfter_1 F_box_grown n a0.1 a0.2.1 a0.2.2.1 a0.2.2.2.1 a1 a1 (List.length a1 : Int) 0 := by kernel_rfl
theorem e_impl_PiecesAfter_4 (n : Nat) (F_impl_IsHeap : Ft_impl_IsHeap) (F_Heap_isCut : Ft_Heap_isCut) (F_Heap_box : Ft_Heap_box) (F_Heap_cubes : Ft_Heap_cubes) (F_box_list : Ft_box_list) (F_box_those : Ft_box_those) (F_impl_PiecesAfter_1 : Ft_impl_PiecesAfter_1) (F_box_grown : Ft_box_grown) (m0 : Nat) (p0 p1 p2 : Int) (p3 : List D_A3) (p4 p5 : List D_A2) (p6 p7 : Int) : L_impl_PiecesAfter_4 n F_impl_IsHeap F_Heap_isCut F_Heap_box F_Heap_cubes F_box_list F_box_those F_impl_PiecesAfter_1 F_box_grown (m0 + 1) p0 p1 p2 p3 p4 p5 p6 p7 = 
 bif decide (p7 < p6) then
 bif inB p7 (List.length p5) then
 Option.bind (F_Heap_isCut ((p0, (p1, (p2, (p3, ())))), ((nth T_A2 p5 p7)).1, (((nth T_A2 p5 p7)).2).1, ())) fun r2 =>
 bif !r2.1 then
 some (([] : List (List D_A3)), false, ())
 else
 L_impl_PiecesAfter_4 n F_impl_IsHeap F_Heap_isCut F_Heap_box F_Heap_cubes F_box_list F_box_those F_impl_PiecesAfter_1 F_box_grown m0 p0 p1 p2 p3 p4 p5 p6 (IntKind.wrap .i64 (p7 + 1))
 else none
 else
 Option.bind (F_Heap_box ((p0, (p1, (p2, (p3, ())))), ())) fun r1 =>
 Option.bind (F_Heap_cubes ((p0, (p1, (p2, (p3, ())))), ())) fun r2 =>
 L_impl_PiecesAfter_10 n F_impl_IsHeap F_Heap_isCut F_Heap_box F_Heap_cubes F_box_list F_box_those F_impl_PiecesAfter_1 F_box_grown n r1.1.1 r1.1.2.1 r1.1.2.2.1 p4 ([] : List (List D_A3)) r2.1 := by kernel_rfl
theorem e_impl_PiecesAfter_10 (n : Nat) (F_impl_IsHeap : Ft_impl_IsHeap) (F_Heap_isCut : Ft_Heap_isCut) (F_Heap_box : Ft_Heap_box) (F_Heap_cubes : Ft_Heap_cubes) (F_box_list : Ft_box_list) (F_box_those : Ft_box_those) (F_impl_PiecesAfter_1 : Ft_impl_PiecesAfter_1) (F_box_grown : Ft_box_grown) (m0 : Nat) (p0 p1 p2 : Int) (p3 : List D_A2) (p4 : List (List D_A3)) (p5 : Int) : L_impl_PiecesAfter_10 n F_impl_IsHeap F_Heap_isCut F_Heap_box F_Heap_cubes F_box_list F_box_those F_impl_PiecesAfter_1 F_box_grown (m0 + 1) p0 p1 p2 p3 p4 p5 = 
 bif !decide (p5 = 0) then
 Option.bind (F_box_list ((p0, (p1, (p2, ()))), (intBits .and .u64 p5 (IntKind.wrap .u64 (0 - p5))), ())) fun r1 =>
 bif inB 0 (List.length r1.1) then
 L_impl_PiecesAfter_14 n F_impl_IsHeap F_Heap_isCut F_Heap_box F_Heap_cubes F_box_list F_box_those F_impl_PiecesAfter_1 F_box_grown m0 n p0 p1 p2 (((nth T_A3 r1.1 0)).1) ((((nth T_A3 r1.1 0)).2).1) (((((nth T_A3 r1.1 0)).2).2).1) p3 p4 p5 (intBits .and .u64 p5 (IntKind.wrap .u64 (0 - p5))) p5 p3 (List.length p3 : Int) 0
 else none
 else
 some (p4, true, ()) := by kernel_rfl
theorem e_impl_PiecesAfter_14 (n : Nat) (F_impl_IsHeap : Ft_impl_IsHeap) (F_Heap_isCut : Ft_Heap_isCut) (F_Heap_box : Ft_Heap_box) (F_Heap_cubes : Ft_Heap_cubes) (F_box_list : Ft_box_list) (F_box_those : Ft_box_those) (F_impl_PiecesAfter_1 : Ft_impl_PiecesAfter_1) (F_box_grown : Ft_box_grown) (m0 m1 : Nat) (p0 p1 : Int) (p2 p3 : Int) (p4 p5 : Int) (p6 : List D_A2) (p7 : List (List D_A3)) (p8 p9 p10 : Int) (p11 : List D_A2) (p12 p13 : Int) : L_impl_PiecesAfter_14 n F_impl_IsHeap F_Heap_isCut F_Heap_box F_Heap_cubes F_box_list F_box_those F_impl_PiecesAfter_1 F_box_grown m0 (m1 + 1) p0 p1 p2 p3 p4 p5 p6 p7 p8 p9 p10 p11 p12 p13 = 
 bif decide (p13 < p12) then
 bif inB p13 (List.length p11) then
 Option.bind (F_box_those ((p0, (p1, (p2, ()))), (fun (y : D_A3 × Unit) => F_impl_PiecesAfter_1 (y.1, (nth T_A2 p11 p13), (p3, (p4, (p5, ()))), ())), ())) fun r2 =>
 L_impl_PiecesAfter_14 n F_impl_IsHeap F_Heap_isCut F_Heap_box F_Heap_cubes F_box_list F_box_those F_impl_PiecesAfter_1 F_box_grown m0 m1 p0 p1 p2 p3 p4 p5 p6 p7 p8 p9 (intBits .and .u64 p10 r2.1) p11 p12 (IntKind.wrap .i64 (p13 + 1))
 else none
 else
 Option.bind (F_box_grown ((p0, (p1, (p2, ()))), p9, p10, ())) fun r1 =>
 Option.bind (F_box_list ((p0, (p1, (p2, ()))), r1.1, ())) fun r2 =>
 bif (decide (((List.length p7) + (List.length ([r2.1] : List (List D_A3)))) * 24 ≤ 140737488355328) && decide (((List.length p7) + (List.length ([r2.1] : List (List D_A3)))) ≤ 140737488355328)) then
 L_impl_PiecesAfter_10 n F_impl_IsHeap F_Heap_isCut F_Heap_box F_Heap_cubes F_box_list F_box_those F_impl_PiecesAfter_1 F_box_grown m0 p0 p1 p2 p6 (p7 ++ ([r2.1] : List (List D_A3))) (intBits .andNot .u64 p8 r1.1)
 else none := by kernel_rfl
def P_impl_PiecesAfter : Ft_impl_PiecesAfter := hid (runF (X_impl_PiecesAfter N P_impl_IsHeap P_Heap_isCut P_Heap_box P_Heap_cubes P_box_list P_box_those P_impl_PiecesAfter_1 P_box_grown) B_impl_PiecesAfter As_impl_PiecesAfter R_impl_PiecesAfter M_impl_PiecesAfter)
theorem h_impl_PiecesAfter : P_impl_PiecesAfter = runF (X_impl_PiecesAfter N P_impl_IsHeap P_Heap_isCut P_Heap_box P_Heap_cubes P_box_list P_box_those P_impl_PiecesAfter_1 P_box_grown) B_impl_PiecesAfter As_impl_PiecesAfter R_impl_PiecesAfter M_impl_PiecesAfter := hid_eq _
def C_impl_PiecesAfter : Contract := ⟨As_impl_PiecesAfter, R_impl_PiecesAfter, M_impl_PiecesAfter, P_impl_PiecesAfter⟩
theorem s_impl_PiecesAfter : Sound Try.prog GG 12 C_impl_PiecesAfter := by
 unfold C_impl_PiecesAfter; rw [h_impl_PiecesAfter]
 exact sound_of_run (fn := Try.f12) hmix hstable (tyOK_of ttOK) (hglob _) (conOK_of ⟨s_impl_IsHeap, s_Heap_isCut, s_Heap_box, s_Heap_cubes, s_box_list, s_box_those, s_impl_PiecesAfter_1, s_box_grown, trivial⟩) (mconOK_of trivial) (by kernel_rfl) (by kernel_rfl) (by kernel_rfl) (by kernel_rfl) (by kernel_rfl) (of_decide_eq_true (by kernel_rfl))
def l_impl_PiecesAfter_4 : Nat → Int → Int → Int → (List D_A3) → (List D_A2) → (List D_A2) → Int → Int → Option (denL R_impl_PiecesAfter) := hid (fun m0 p0 p1 p2 p3 p4 p5 p6 p7 => L_impl_PiecesAfter_4 N P_impl_IsHeap P_Heap_isCut P_Heap_box P_Heap_cubes P_box_list P_box_those P_impl_PiecesAfter_1 P_box_grown m0 p0 p1 p2 p3 p4 p5 p6 p7)
theorem h_impl_PiecesAfter_4 : l_impl_PiecesAfter_4 = fun m0 p0 p1 p2 p3 p4 p5 p6 p7 => L_impl_PiecesAfter_4 N P_impl_IsHeap P_Heap_isCut P_Heap_box P_Heap_cubes P_box_list P_box_those P_impl_PiecesAfter_1 P_box_grown m0 p0 p1 p2 p3 p4 p5 p6 p7 := hid_eq _
def l_impl_PiecesAfter_10 : Nat → Int → Int → Int → (List D_A2) → (List (List D_A3)) → Int → Option (denL R_impl_PiecesAfter) := hid (fun m0 p0 p1 p2 p3 p4 p5 => L_impl_PiecesAfter_10 N P_impl_IsHeap P_Heap_isCut P_Heap_box P_Heap_cubes P_box_list P_box_those P_impl_PiecesAfter_1 P_box_grown m0 p0 p1 p2 p3 p4 p5)
theorem h_impl_PiecesAfter_10 : l_impl_PiecesAfter_10 = fun m0 p0 p1 p2 p3 p4 p5 => L_impl_PiecesAfter_10 N P_impl_IsHeap P_Heap_isCut P_Heap_box P_Heap_cubes P_box_list P_box_those P_impl_PiecesAfter_1 P_box_grown m0 p0 p1 p2 p3 p4 p5 := hid_eq _
def l_impl_PiecesAfter_14 : Nat → Nat → Int → Int → Int → Int → Int → Int → (List D_A2) → (List (List D_A3)) → Int → Int → Int → (List D_A2) → Int → Int → Option (denL R_impl_PiecesAfter) := hid (fun m0 m1 p0 p1 p2 p3 p4 p5 p6 p7 p8 p9 p10 p11 p12 p13 => L_impl_PiecesAfter_14 N P_impl_IsHeap P_Heap_isCut P_Heap_box P_Heap_cubes P_box_list P_box_those P_impl_PiecesAfter_1 P_box_grown m0 m1 p0 p1 p2 p3 p4 p5 p6 p7 p8 p9 p10 p11 p12 p13)
theorem h_impl_PiecesAfter_14 : l_impl_PiecesAfter_14 = fun m0 m1 p0 p1 p2 p3 p4 p5 p6 p7 p8 p9 p10 p11 p12 p13 => L_impl_PiecesAfter_14 N P_impl_IsHeap P_Heap_isCut P_Heap_box P_Heap_cubes P_box_list P_box_those P_impl_PiecesAfter_1 P_box_grown m0 m1 p0 p1 p2 p3 p4 p5 p6 p7 p8 p9 p10 p11 p12 p13 := hid_eq _
theorem p_impl_PiecesAfter (a0 : D_Heap) (a1 : List D_A2) : P_impl_PiecesAfter (a0, a1, ()) = 
 Option.bind (P_impl_IsHeap (a0, ())) fun r0 =>
 bif !r0.1 then
 some (([] : List (List D_A3)), false, ())
 else
 bif decide ((List.length a1 : Int) > 12) then
 some (([] : List (List D_A3)), false, ())
 else
 l_impl_PiecesAfter_4 N a0.1 a0.2.1 a0.2.2.1 a0.2.2.2.1 a1 a1 (List.length a1 : Int) 0 := by
 rewrite [h_impl_PiecesAfter, h_impl_PiecesAfter_4]
 exact e_impl_PiecesAfter N P_impl_IsHeap P_Heap_isCut P_Heap_box P_Heap_cubes P_box_list P_box_those P_impl_PiecesAfter_1 P_box_grown a0 a1
theorem q_impl_PiecesAfter_4 (m0 : Nat) (p0 p1 p2 : Int) (p3 : List D_A3) (p4 p5 : List D_A2) (p6 p7 : Int) : l_impl_PiecesAfter_4 (m0 + 1) p0 p1 p2 p3 p4 p5 p6 p7 = 
 bif decide (p7 < p6) then
 bif inB p7 (List.length p5) then
 Option.bind (P_Heap_isCut ((p0, (p1, (p2, (p3, ())))), ((nth T_A2 p5 p7)).1, (((nth T_A2 p5 p7)).2).1, ())) fun r2 =>
 bif !r2.1 then
 some (([] : List (List D_A3)), false, ())
 else
 l_impl_PiecesAfter_4 m0 p0 p1 p2 p3 p4 p5 p6 (IntKind.wrap .i64 (p7 + 1))
 else none
 else
 Option.bind (P_Heap_box ((p0, (p1, (p2, (p3, ())))), ())) fun r1 =>
 Option.bind (P_Heap_cubes ((p0, (p1, (p2, (p3, ())))), ())) fun r2 =>
 l_impl_PiecesAfter_10 N r1.1.1 r1.1.2.1 r1.1.2.2.1 p4 ([] : List (List D_A3)) r2.1 := by
 rewrite [h_impl_PiecesAfter_4, h_impl_PiecesAfter_10]
 exact e_impl_PiecesAfter_4 N P_impl_IsHeap P_Heap_isCut P_Heap_box P_Heap_cubes P_box_list P_box_those P_impl_PiecesAfter_1 P_box_grown m0 p0 p1 p2 p3 p4 p5 p6 p7
theorem q_impl_PiecesAfter_10 (m0 : Nat) (p0 p1 p2 : Int) (p3 : List D_A2) (p4 : List (List D_A3)) (p5 : Int) : l_impl_PiecesAfter_10 (m0 + 1) p0 p1 p2 p3 p4 p5 = 
 bif !decide (p5 = 0) then
 Option.bind (P_box_list ((p0, (p1, (p2, ()))), (intBits .and .u64 p5 (IntKind.wrap .u64 (0 - p5))), ())) fun r1 =>
 bif inB 0 (List.length r1.1) then
 l_impl_PiecesAfter_14 m0 N p0 p1 p2 (((nth T_A3 r1.1 0)).1) ((((nth T_A3 r1.1 0)).2).1) (((((nth T_A3 r1.1 0)).2).2).1) p3 p4 p5 (intBits .and .u64 p5 (IntKind.wrap .u64 (0 - p5))) p5 p3 (List.length p3 : Int) 0
 else none
 else
 some (p4, true, ()) := by
 rewrite [h_impl_PiecesAfter_10, h_impl_PiecesAfter_14]
 exact e_impl_PiecesAfter_10 N P_impl_IsHeap P_Heap_isCut P_Heap_box P_Heap_cubes P_box_list P_box_those P_impl_PiecesAfter_1 P_box_grown m0 p0 p1 p2 p3 p4 p5
theorem q_impl_PiecesAfter_14 (m0 m1 : Nat) (p0 p1 : Int) (p2 p3 : Int) (p4 p5 : Int) (p6 : List D_A2) (p7 : List (List D_A3)) (p8 p9 p10 : Int) (p11 : List D_A2) (p12 p13 : Int) : l_impl_PiecesAfter_14 m0 (m1 + 1) p0 p1 p2 p3 p4 p5 p6 p7 p8 p9 p10 p11 p12 p13 = 
 bif decide (p13 < p12) then
 bif inB p13 (List.length p11) then
 Option.bind (P_box_those ((p0, (p1, (p2, ()))), (fun (y : D_A3 × Unit) => P_impl_PiecesAfter_1 (y.1, (nth T_A2 p11 p13), (p3, (p4, (p5, ()))), ())), ())) fun r2 =>
 l_impl_PiecesAfter_14 m0 m1 p0 p1 p2 p3 p4 p5 p6 p7 p8 p9 (intBits .and .u64 p10 r2.1) p11 p12 (IntKind.wrap .i64 (p13 + 1))
 else none
 else
 Option.bind (P_box_grown ((p0, (p1, (p2, ()))), p9, p10, ())) fun r1 =>
 Option.bind (P_box_list ((p0, (p1, (p2, ()))), r1.1, ())) fun r2 =>
 bif (decide (((List.length p7) + (List.length ([r2.1] : List (List D_A3)))) * 24 ≤ 140737488355328) && decide (((List.length p7) + (List.length ([r2.1] : List (List D_A3)))) ≤ 140737488355328)) then
 l_impl_PiecesAfter_10 m0 p0 p1 p2 p6 (p7 ++ ([r2.1] : List (List D_A3))) (intBits .andNot .u64 p8 r1.1)
 else none := by
 rewrite [h_impl_PiecesAfter_10, h_impl_PiecesAfter_14]
 exact e_impl_PiecesAfter_14 N P_impl_IsHeap P_Heap_isCut P_Heap_box P_Heap_cubes P_box_list P_box_those P_impl_PiecesAfter_1 P_box_grown m0 m1 p0 p1 p2 p3 p4 p5 p6 p7 p8 p9 p10 p11 p12 p13

abbrev As_spec_l2Made : List ATy := [.data true T_Heap, .data false (.sl T_A3)]
abbrev R_spec_l2Made : List (Bool × Ty) := [(true, T_Heap)]
abbrev M_spec_l2Made : List RMode := [.pass 4]
abbrev Ft_spec_l2Made : Type := D_Heap × (List D_A3) × Unit → Option (D_Heap × Unit)
def X_spec_l2Made (n : Nat) : Ctx := { types := TT, globals := [], con := [], keep := [], results := [.cell 4 26], ntmps := 13, n := n }
def B_spec_l2Made : Code := (Try.f79.body).getD .skip
theorem e_spec_l2Made (n : Nat) (a0 : D_Heap) (a1 : List D_A3) : runF (X_spec_l2Made n) B_spec_l2Made As_spec_l2Made R_spec_l2Made M_spec_l2Made (a0, a1, ()) = 
 some ((a0.1, (a0.2.1, (a0.2.2.1, (a1, ())))), ()) := by kernel_rfl
def P_spec_l2Made : Ft_spec_l2Made := hid (runF (X_spec_l2Made N) B_spec_l2Made As_spec_l2Made R_spec_l2Made M_spec_l2Made)
theorem h_spec_l2Made : P_spec_l2Made = runF (X_spec_l2Made N) B_spec_l2Made As_spec_l2Made R_spec_l2Made M_spec_l2Made := hid_eq _
def C_spec_l2Made : Contract := ⟨As_spec_l2Made, R_spec_l2Made, M_spec_l2Made, P_spec_l2Made⟩
theorem s_spec_l2Made : Sound Try.prog GG 79 C_spec_l2Made := by
 unfold C_spec_l2Made; rw [h_spec_l2Made]
 exact sound_of_run (fn := Try.f79) hmix hstable (tyOK_of ttOK) (hglob _) (conOK_of trivial) (mconOK_of trivial) (by kernel_rfl) (by kernel_rfl) (by kernel_rfl) (by kernel_rfl) (by kernel_rfl) (of_decide_eq_true (by kernel_rfl))
theorem p_spec_l2Made (a0 : D_Heap) (a1 : List D_A3) : P_spec_l2Made (a0, a1, ()) = 
 some ((a0.1, (a0.2.1, (a0.2.2.1, (a1, ())))), ()) := by
 rewrite [h_spec_l2Made]
 exact e_spec_l2Made N a0 a1

abbrev As_spec_l2Own : List ATy := [.data true T_Heap]
abbrev R_spec_l2Own : List (Bool × Ty) := [(true, T_Heap)]
abbrev M_spec_l2Own : List RMode := [.own 49]
abbrev Ft_spec_l2Own : Type := D_Heap × Unit → Option (D_Heap × Unit)
def X_spec_l2Own (n : Nat) (F_spec_l2Made : Ft_spec_l2Made) : Ctx := { types := TT, globals := [], con := [(79, ⟨As_spec_l2Made, R_spec_l2Made, M_spec_l2Made, F_spec_l2Made⟩)], keep := [], results := [.cell 2 26], ntmps := 9, n := n }
def B_spec_l2Own : Code := (Try.f74.body).getD .skip
theorem e_spec_l2Own (n : Nat) (F_spec_l2Made : Ft_spec_l2Made) (a0 : D_Heap) : runF (X_spec_l2Own n F_spec_l2Made) B_spec_l2Own As_spec_l2Own R_spec_l2Own M_spec_l2Own (a0, ()) = 
 bif (decide (((List.length ([] : List D_A3)) + (List.length a0.2.2.2.1)) * 24 ≤ 140737488355328) && decide (((List.length ([] : List D_A3)) + (List.length a0.2.2.2.1)) ≤ 140737488355328)) then
 Option.bind (F_spec_l2Made (a0, (([] : List D_A3) ++ a0.2.2.2.1), ())) fun r1 =>
 some ((r1.1.1, (r1.1.2.1, (r1.1.2.2.1, ((([] : List D_A3) ++ a0.2.2.2.1), ())))), ())
 else none := by kernel_rfl
def P_spec_l2Own : Ft_spec_l2Own := hid (runF (X_spec_l2Own N P_spec_l2Made) B_spec_l2Own As_spec_l2Own R_spec_l2Own M_spec_l2Own)
theorem h_spec_l2Own : P_spec_l2Own = runF (X_spec_l2Own N P_spec_l2Made) B_spec_l2Own As_spec_l2Own R_spec_l2Own M_spec_l2Own := hid_eq _
def C_spec_l2Own : Contract := ⟨As_spec_l2Own, R_spec_l2Own, M_spec_l2Own, P_spec_l2Own⟩
theorem s_spec_l2Own : Sound Try.prog GG 74 C_spec_l2Own := by
 unfold C_spec_l2Own; rw [h_spec_l2Own]
 exact sound_of_run (fn := Try.f74) hmix hstable (tyOK_of ttOK) (hglob _) (conOK_of ⟨s_spec_l2Made, trivial⟩) (mconOK_of trivial) (by kernel_rfl) (by kernel_rfl) (by kernel_rfl) (by kernel_rfl) (by kernel_rfl) (of_decide_eq_true (by kernel_rfl))
theorem p_spec_l2Own (a0 : D_Heap) : P_spec_l2Own (a0, ()) = 
 bif (decide (((List.length ([] : List D_A3)) + (List.length a0.2.2.2.1)) * 24 ≤ 140737488355328) && decide (((List.length ([] : List D_A3)) + (List.length a0.2.2.2.1)) ≤ 140737488355328)) then
 Option.bind (P_spec_l2Made (a0, (([] : List D_A3) ++ a0.2.2.2.1), ())) fun r1 =>
 some ((r1.1.1, (r1.1.2.1, (r1.1.2.2.1, ((([] : List D_A3) ++ a0.2.2.2.1), ())))), ())
 else none := by
 rewrite [h_spec_l2Own]
 exact e_spec_l2Own N P_spec_l2Made a0

abbrev As_spec_l2With : List ATy := [.data true T_Heap, .data true T_A3]
abbrev R_spec_l2With : List (Bool × Ty) := [(true, T_Heap)]
abbrev M_spec_l2With : List RMode := [.own 49]
abbrev Ft_spec_l2With : Type := D_Heap × D_A3 × Unit → Option (D_Heap × Unit)
def X_spec_l2With (n : Nat) (F_spec_l2Before : Ft_spec_l2Before) (F_spec_l2Own : Ft_spec_l2Own) (F_spec_l2Made : Ft_spec_l2Made) : Ctx := { types := TT, globals := [], con := [(73, ⟨As_spec_l2Before, R_spec_l2Before, M_spec_l2Before, F_spec_l2Before⟩), (74, ⟨As_spec_l2Own, R_spec_l2Own, M_spec_l2Own, F_spec_l2Own⟩), (79, ⟨As_spec_l2Made, R_spec_l2Made, M_spec_l2Made, F_spec_l2Made⟩)], keep := [(2, ⟨[.box 2, .box 3, .box 4, .tmp 2, .tmp 3, .tmp 4, .tmp 5], []⟩)], results := [.cell 4 26], ntmps := 54, n := n }
def B_spec_l2With : Code := (Try.f50.body).getD .skip
def L_spec_l2With_2 (n : Nat) (F_spec_l2Before : Ft_spec_l2Before) (F_spec_l2Own : Ft_spec_l2Own) (F_spec_l2Made : Ft_spec_l2Made) (m0 : Nat) (p0 p1 p2 : Int) (p3 : List D_A3) (p4 p5 : Int) (p6 p7 : Int) (p8 p9 : Int) (p10 : List D_A3) (p11 : Int) : Option (denL R_spec_l2With) := loopF (X_spec_l2With n F_spec_l2Before F_spec_l2Own F_spec_l2Made) B_spec_l2With R_spec_l2With M_spec_l2With 2 [m0] [(.ver, .num 1), (.box 2, .box 0 false [.int .i64 p0, .int .i64 p1, .int .i64 p2, .imm T_A3 p3 (some 3)]), (.box 3, .box 0 false [.int .i64 p4, .int .i64 p5, .int .i64 p6]), (.box 4, .box 0 false [.int .i64 p7, .int .i64 p8, .int .i64 p9, .own 49 T_A3 0 p10]), (.tmp 2, .val false [.addr 2 0 0]), (.tmp 3, .val false [.addr 3 0 0]), (.tmp 4, .val false [.addr 4 0 0]), (.tmp 5, .val false [.int .i64 p11])]
theorem e_spec_l2With (n : Nat) (F_spec_l2Before : Ft_spec_l2Before) (F_spec_l2Own : Ft_spec_l2Own) (F_spec_l2Made : Ft_spec_l2Made) (a0 : D_Heap) (a1 : D_A3) : runF (X_spec_l2With n F_spec_l2Before F_spec_l2Own F_spec_l2Made) B_spec_l2With As_spec_l2With R_spec_l2With M_spec_l2With (a0, a1, ()) = 
 L_spec_l2With_2 n F_spec_l2Before F_spec_l2Own F_spec_l2Made n a0.1 a0.2.1 a0.2.2.1 a0.2.2.2.1 a1.1 a1.2.1 a1.2.2.1 0 0 0 ([] : List D_A3) 0 := by kernel_rfl
theorem e_spec_l2With_2 (n : Nat) (F_spec_l2Before : Ft_spec_l2Before) (F_spec_l2Own : Ft_spec_l2Own) (F_spec_l2Made : Ft_spec_l2Made) (m0 : Nat) (p0 p1 p2 : Int) (p3 : List D_A3) (p4 p5 : Int) (p6 p7 : Int) (p8 p9 : Int) (p10 : List D_A3) (p11 : Int) : L_spec_l2With_2 n F_spec_l2Before F_spec_l2Own F_spec_l2Made (m0 + 1) p0 p1 p2 p3 p4 p5 p6 p7 p8 p9 p10 p11 = 
 bif decide (p11 < (List.length p3 : Int)) then
 bif inB p11 (List.length p3) then
 Option.bind (F_spec_l2Before ((nth T_A3 p3 p11), (p4, (p5, (p6, ()))), ())) fun r2 =>
 bif r2.1 then
 L_spec_l2With_2 n F_spec_l2Before F_spec_l2Own F_spec_l2Made m0 p0 p1 p2 p3 p4 p5 p6 p7 p8 p9 p10 (IntKind.wrap .i64 (p11 + 1))
 else
 bif decide (p11 < (List.length p3 : Int)) then
 bif inB p11 (List.length p3) then
 bif (decide (((nth T_A3 p3 p11)).1 = p4) && (decide ((((nth T_A3 p3 p11)).2).1 = p5) && (decide (((((nth T_A3 p3 p11)).2).2).1 = p6) && true))) then
 Option.bind (F_spec_l2Own ((p0, (p1, (p2, (p3, ())))), ())) fun r7 =>
 some (r7.1, ())
 else
 bif (decide ((0 : Int) ≤ 0) && decide ((0 : Int) ≤ p11) && decide (p11 ≤ (List.length p3 : Int))) then
 bif (decide (((List.length ([] : List D_A3)) + (List.length (cut p3 0 p11))) * 24 ≤ 140737488355328) && decide (((List.length ([] : List D_A3)) + (List.length (cut p3 0 p11))) ≤ 140737488355328)) then
 bif (decide (((List.length (([] : List D_A3) ++ (cut p3 0 p11))) + (List.length ([(p4, (p5, (p6, ())))] : List D_A3))) * 24 ≤ 140737488355328) && decide (((List.length (([] : List D_A3) ++ (cut p3 0 p11))) + (List.length ([(p4, (p5, (p6, ())))] : List D_A3))) ≤ 140737488355328)) then
 bif (decide ((0 : Int) ≤ p11) && decide (p11 ≤ (List.length p3 : Int)) && decide ((List.length p3 : Int) ≤ (List.length p3 : Int))) then
 bif (decide (((List.length ((([] : List D_A3) ++ (cut p3 0 p11)) ++ ([(p4, (p5, (p6, ())))] : List D_A3))) + (List.length (cut p3 p11 (List.length p3 : Int)))) * 24 ≤ 140737488355328) && decide (((List.length ((([] : List D_A3) ++ (cut p3 0 p11)) ++ ([(p4, (p5, (p6, ())))] : List D_A3))) + (List.length (cut p3 p11 (List.length p3 : Int)))) ≤ 140737488355328)) then
 Option.bind (F_spec_l2Made ((p0, (p1, (p2, (p3, ())))), (((([] : List D_A3) ++ (cut p3 0 p11)) ++ ([(p4, (p5, (p6, ())))] : List D_A3)) ++ (cut p3 p11 (List.length p3 : Int))), ())) fun r12 =>
 some ((r12.1.1, (r12.1.2.1, (r12.1.2.2.1, ((((([] : List D_A3) ++ (cut p3 0 p11)) ++ ([(p4, (p5, (p6, ())))] : List D_A3)) ++ (cut p3 p11 (List.length p3 : Int))), ())))), ())
 else none
 else none
 else none
 else none
 else none
 else none
 else
 bif (decide ((0 : Int) ≤ 0) && decide ((0 : Int) ≤ p11) && decide (p11 ≤ (List.length p3 : Int))) then
 bif (decide (((List.length ([] : List D_A3)) + (List.length (cut p3 0 p11))) * 24 ≤ 140737488355328) && decide (((List.length ([] : List D_A3)) + (List.length (cut p3 0 p11))) ≤ 140737488355328)) then
 bif (decide (((List.length (([] : List D_A3) ++ (cut p3 0 p11))) + (List.length ([(p4, (p5, (p6, ())))] : List D_A3))) * 24 ≤ 140737488355328) && decide (((List.length (([] : List D_A3) ++ (cut p3 0 p11))) + (List.length ([(p4, (p5, (p6, ())))] : List D_A3))) ≤ 140737488355328)) then
 bif (decide ((0 : Int) ≤ p11) && decide (p11 ≤ (List.length p3 : Int)) && decide ((List.length p3 : Int) ≤ (List.length p3 : Int))) then
 bif (decide (((List.length ((([] : List D_A3) ++ (cut p3 0 p11)) ++ ([(p4, (p5, (p6, ())))] : List D_A3))) + (List.length (cut p3 p11 (List.length p3 : Int)))) * 24 ≤ 140737488355328) && decide (((List.length ((([] : List D_A3) ++ (cut p3 0 p11)) ++ ([(p4, (p5, (p6, ())))] : List D_A3))) + (List.length (cut p3 p11 (List.length p3 : Int)))) ≤ 140737488355328)) then
 Option.bind (F_spec_l2Made ((p0, (p1, (p2, (p3, ())))), (((([] : List D_A3) ++ (cut p3 0 p11)) ++ ([(p4, (p5, (p6, ())))] : List D_A3)) ++ (cut p3 p11 (List.length p3 : Int))), ())) fun r10 =>
 some ((r10.1.1, (r10.1.2.1, (r10.1.2.2.1, ((((([] : List D_A3) ++ (cut p3 0 p11)) ++ ([(p4, (p5, (p6, ())))] : List D_A3)) ++ (cut p3 p11 (List.length p3 : Int))), ())))), ())
 else none
 else none
 else none
 else none
 else none
 else none
 else
 bif decide (p11 < (List.length p3 : Int)) then
 bif inB p11 (List.length p3) then
 bif (decide (((nth T_A3 p3 p11)).1 = p4) && (decide ((((nth T_A3 p3 p11)).2).1 = p5) && (decide (((((nth T_A3 p3 p11)).2).2).1 = p6) && true))) then
 Option.bind (F_spec_l2Own ((p0, (p1, (p2, (p3, ())))), ())) fun r4 =>
 some (r4.1, ())
 else
 bif (decide ((0 : Int) ≤ 0) && decide ((0 : Int) ≤ p11) && decide (p11 ≤ (List.length p3 : Int))) then
 bif (decide (((List.length ([] : List D_A3)) + (List.length (cut p3 0 p11))) * 24 ≤ 140737488355328) && decide (((List.length ([] : List D_A3)) + (List.length (cut p3 0 p11))) ≤ 140737488355328)) then
 bif (decide (((List.length (([] : List D_A3) ++ (cut p3 0 p11))) + (List.length ([(p4, (p5, (p6, ())))] : List D_A3))) * 24 ≤ 140737488355328) && decide (((List.length (([] : List D_A3) ++ (cut p3 0 p11))) + (List.length ([(p4, (p5, (p6, ())))] : List D_A3))) ≤ 140737488355328)) then
 bif (decide ((0 : Int) ≤ p11) && decide (p11 ≤ (List.length p3 : Int)) && decide ((List.length p3 : Int) ≤ (List.length p3 : Int))) then
 bif (decide (((List.length ((([] : List D_A3) ++ (cut p3 0 p11)) ++ ([(p4, (p5, (p6, ())))] : List D_A3))) + (List.length (cut p3 p11 (List.length p3 : Int)))) * 24 ≤ 140737488355328) && decide (((List.length ((([] : List D_A3) ++ (cut p3 0 p11)) ++ ([(p4, (p5, (p6, ())))] : List D_A3))) + (List.length (cut p3 p11 (List.length p3 : Int)))) ≤ 140737488355328)) then
 Option.bind (F_spec_l2Made ((p0, (p1, (p2, (p3, ())))), (((([] : List D_A3) ++ (cut p3 0 p11)) ++ ([(p4, (p5, (p6, ())))] : List D_A3)) ++ (cut p3 p11 (List.length p3 : Int))), ())) fun r9 =>
 some ((r9.1.1, (r9.1.2.1, (r9.1.2.2.1, ((((([] : List D_A3) ++ (cut p3 0 p11)) ++ ([(p4, (p5, (p6, ())))] : List D_A3)) ++ (cut p3 p11 (List.length p3 : Int))), ())))), ())
 else none
 else none
 else none
 else none
 else none
 else none
 else
 bif (decide ((0 : Int) ≤ 0) && decide ((0 : Int) ≤ p11) && decide (p11 ≤ (List.length p3 : Int))) then
 bif (decide (((List.length ([] : List D_A3)) + (List.length (cut p3 0 p11))) * 24 ≤ 140737488355328) && decide (((List.length ([] : List D_A3)) + (List.length (cut p3 0 p11))) ≤ 140737488355328)) then
 bif (decide (((List.length (([] : List D_A3) ++ (cut p3 0 p11))) + (List.length ([(p4, (p5, (p6, ())))] : List D_A3))) * 24 ≤ 140737488355328) && decide (((List.length (([] : List D_A3) ++ (cut p3 0 p11))) + (List.length ([(p4, (p5, (p6, ())))] : List D_A3))) ≤ 140737488355328)) then
 bif (decide ((0 : Int) ≤ p11) && decide (p11 ≤ (List.length p3 : Int)) && decide ((List.length p3 : Int) ≤ (List.length p3 : Int))) then
 bif (decide (((List.length ((([] : List D_A3) ++ (cut p3 0 p11)) ++ ([(p4, (p5, (p6, ())))] : List D_A3))) + (List.length (cut p3 p11 (List.length p3 : Int)))) * 24 ≤ 140737488355328) && decide (((List.length ((([] : List D_A3) ++ (cut p3 0 p11)) ++ ([(p4, (p5, (p6, ())))] : List D_A3))) + (List.length (cut p3 p11 (List.length p3 : Int)))) ≤ 140737488355328)) then
 Option.bind (F_spec_l2Made ((p0, (p1, (p2, (p3, ())))), (((([] : List D_A3) ++ (cut p3 0 p11)) ++ ([(p4, (p5, (p6, ())))] : List D_A3)) ++ (cut p3 p11 (List.length p3 : Int))), ())) fun r7 =>
 some ((r7.1.1, (r7.1.2.1, (r7.1.2.2.1, ((((([] : List D_A3) ++ (cut p3 0 p11)) ++ ([(p4, (p5, (p6, ())))] : List D_A3)) ++ (cut p3 p11 (List.length p3 : Int))), ())))), ())
 else none
 else none
 else none
 else none
 else none := by kernel_rfl
def P_spec_l2With : Ft_spec_l2With := hid (runF (X_spec_l2With N P_spec_l2Before P_spec_l2Own P_spec_l2Made) B_spec_l2With As_spec_l2With R_spec_l2With M_spec_l2With)
theorem h_spec_l2With : P_spec_l2With = runF (X_spec_l2With N P_spec_l2Before P_spec_l2Own P_spec_l2Made) B_spec_l2With As_spec_l2With R_spec_l2With M_spec_l2With := hid_eq _
def C_spec_l2With : Contract := ⟨As_spec_l2With, R_spec_l2With, M_spec_l2With, P_spec_l2With⟩
theorem s_spec_l2With : Sound Try.prog GG 50 C_spec_l2With := by
 unfold C_spec_l2With; rw [h_spec_l2With]
 exact sound_of_run (fn := Try.f50) hmix hstable (tyOK_of ttOK) (hglob _) (conOK_of ⟨s_spec_l2Before, s_spec_l2Own, s_spec_l2Made, trivial⟩) (mconOK_of trivial) (by kernel_rfl) (by kernel_rfl) (by kernel_rfl) (by kernel_rfl) (by kernel_rfl) (of_decide_eq_true (by kernel_rfl))
def l_spec_l2With_2 : Nat → Int → Int → Int → (List D_A3) → Int → Int → Int → Int → Int → Int → (List D_A3) → Int → Option (denL R_spec_l2With) := hid (fun m0 p0 p1 p2 p3 p4 p5 p6 p7 p8 p9 p10 p11 => L_spec_l2With_2 N P_spec_l2Before P_spec_l2Own P_spec_l2Made m0 p0 p1 p2 p3 p4 p5 p6 p7 p8 p9 p10 p11)
theorem h_spec_l2With_2 : l_spec_l2With_2 = fun m0 p0 p1 p2 p3 p4 p5 p6 p7 p8 p9 p10 p11 => L_spec_l2With_2 N P_spec_l2Before P_spec_l2Own P_spec_l2Made m0 p0 p1 p2 p3 p4 p5 p6 p7 p8 p9 p10 p11 := hid_eq _
theorem p_spec_l2With (a0 : D_Heap) (a1 : D_A3) : P_spec_l2With (a0, a1, ()) = 
 l_spec_l2With_2 N a0.1 a0.2.1 a0.2.2.1 a0.2.2.2.1 a1.1 a1.2.1 a1.2.2.1 0 0 0 ([] : List D_A3) 0 := by
 rewrite [h_spec_l2With, h_spec_l2With_2]
 exact e_spec_l2With N P_spec_l2Before P_spec_l2Own P_spec_l2Made a0 a1
theorem q_spec_l2With_2 (m0 : Nat) (p0 p1 p2 : Int) (p3 : List D_A3) (p4 p5 : Int) (p6 p7 : Int) (p8 p9 : Int) (p10 : List D_A3) (p11 : Int) : l_spec_l2With_2 (m0 + 1) p0 p1 p2 p3 p4 p5 p6 p7 p8 p9 p10 p11 = 
 bif decide (p11 < (List.length p3 : Int)) then
 bif inB p11 (List.length p3) then
 Option.bind (P_spec_l2Before ((nth T_A3 p3 p11), (p4, (p5, (p6, ()))), ())) fun r2 =>
 bif r2.1 then
 l_spec_l2With_2 m0 p0 p1 p2 p3 p4 p5 p6 p7 p8 p9 p10 (IntKind.wrap .i64 (p11 + 1))
 else
 bif decide (p11 < (List.length p3 : Int)) then
 bif inB p11 (List.length p3) then
 bif (decide (((nth T_A3 p3 p11)).1 = p4) && (decide ((((nth T_A3 p3 p11)).2).1 = p5) && (decide (((((nth T_A3 p3 p11)).2).2).1 = p6) && true))) then
 Option.bind (P_spec_l2Own ((p0, (p1, (p2, (p3, ())))), ())) fun r7 =>
 some (r7.1, ())
 else
 bif (decide ((0 : Int) ≤ 0) && decide ((0 : Int) ≤ p11) && decide (p11 ≤ (List.length p3 : Int))) then
 bif (decide (((List.length ([] : List D_A3)) + (List.length (cut p3 0 p11))) * 24 ≤ 140737488355328) && decide (((List.length ([] : List D_A3)) + (List.length (cut p3 0 p11))) ≤ 140737488355328)) then
 bif (decide (((List.length (([] : List D_A3) ++ (cut p3 0 p11))) + (List.length ([(p4, (p5, (p6, ())))] : List D_A3))) * 24 ≤ 140737488355328) && decide (((List.length (([] : List D_A3) ++ (cut p3 0 p11))) + (List.length ([(p4, (p5, (p6, ())))] : List D_A3))) ≤ 140737488355328)) then
 bif (decide ((0 : Int) ≤ p11) && decide (p11 ≤ (List.length p3 : Int)) && decide ((List.length p3 : Int) ≤ (List.length p3 : Int))) then
 bif (decide (((List.length ((([] : List D_A3) ++ (cut p3 0 p11)) ++ ([(p4, (p5, (p6, ())))] : List D_A3))) + (List.length (cut p3 p11 (List.length p3 : Int)))) * 24 ≤ 140737488355328) && decide (((List.length ((([] : List D_A3) ++ (cut p3 0 p11)) ++ ([(p4, (p5, (p6, ())))] : List D_A3))) + (List.length (cut p3 p11 (List.length p3 : Int)))) ≤ 140737488355328)) then
 Option.bind (P_spec_l2Made ((p0, (p1, (p2, (p3, ())))), (((([] : List D_A3) ++ (cut p3 0 p11)) ++ ([(p4, (p5, (p6, ())))] : List D_A3)) ++ (cut p3 p11 (List.length p3 : Int))), ())) fun r12 =>
 some ((r12.1.1, (r12.1.2.1, (r12.1.2.2.1, ((((([] : List D_A3) ++ (cut p3 0 p11)) ++ ([(p4, (p5, (p6, ())))] : List D_A3)) ++ (cut p3 p11 (List.length p3 : Int))), ())))), ())
 else none
 else none
 else none
 else none
 else none
 else none
 else
 bif (decide ((0 : Int) ≤ 0) && decide ((0 : Int) ≤ p11) && decide (p11 ≤ (List.length p3 : Int))) then
 bif (decide (((List.length ([] : List D_A3)) + (List.length (cut p3 0 p11))) * 24 ≤ 140737488355328) && decide (((List.length ([] : List D_A3)) + (List.length (cut p3 0 p11))) ≤ 140737488355328)) then
 bif (decide (((List.length (([] : List D_A3) ++ (cut p3 0 p11))) + (List.length ([(p4, (p5, (p6, ())))] : List D_A3))) * 24 ≤ 140737488355328) && decide (((List.length (([] : List D_A3) ++ (cut p3 0 p11))) + (List.length ([(p4, (p5, (p6, ())))] : List D_A3))) ≤ 140737488355328)) then
 bif (decide ((0 : Int) ≤ p11) && decide (p11 ≤ (List.length p3 : Int)) && decide ((List.length p3 : Int) ≤ (List.length p3 : Int))) then
 bif (decide (((List.length ((([] : List D_A3) ++ (cut p3 0 p11)) ++ ([(p4, (p5, (p6, ())))] : List D_A3))) + (List.length (cut p3 p11 (List.length p3 : Int)))) * 24 ≤ 140737488355328) && decide (((List.length ((([] : List D_A3) ++ (cut p3 0 p11)) ++ ([(p4, (p5, (p6, ())))] : List D_A3))) + (List.length (cut p3 p11 (List.length p3 : Int)))) ≤ 140737488355328)) then
 Option.bind (P_spec_l2Made ((p0, (p1, (p2, (p3, ())))), (((([] : List D_A3) ++ (cut p3 0 p11)) ++ ([(p4, (p5, (p6, ())))] : List D_A3)) ++ (cut p3 p11 (List.length p3 : Int))), ())) fun r10 =>
 some ((r10.1.1, (r10.1.2.1, (r10.1.2.2.1, ((((([] : List D_A3) ++ (cut p3 0 p11)) ++ ([(p4, (p5, (p6, ())))] : List D_A3)) ++ (cut p3 p11 (List.length p3 : Int))), ())))), ())
 else none
 else none
 else none
 else none
 else none
 else none
 else
 bif decide (p11 < (List.length p3 : Int)) then
 bif inB p11 (List.length p3) then
 bif (decide (((nth T_A3 p3 p11)).1 = p4) && (decide ((((nth T_A3 p3 p11)).2).1 = p5) && (decide (((((nth T_A3 p3 p11)).2).2).1 = p6) && true))) then
 Option.bind (P_spec_l2Own ((p0, (p1, (p2, (p3, ())))), ())) fun r4 =>
 some (r4.1, ())
 else
 bif (decide ((0 : Int) ≤ 0) && decide ((0 : Int) ≤ p11) && decide (p11 ≤ (List.length p3 : Int))) then
 bif (decide (((List.length ([] : List D_A3)) + (List.length (cut p3 0 p11))) * 24 ≤ 140737488355328) && decide (((List.length ([] : List D_A3)) + (List.length (cut p3 0 p11))) ≤ 140737488355328)) then
 bif (decide (((List.length (([] : List D_A3) ++ (cut p3 0 p11))) + (List.length ([(p4, (p5, (p6, ())))] : List D_A3))) * 24 ≤ 140737488355328) && decide (((List.length (([] : List D_A3) ++ (cut p3 0 p11))) + (List.length ([(p4, (p5, (p6, ())))] : List D_A3))) ≤ 140737488355328)) then
 bif (decide ((0 : Int) ≤ p11) && decide (p11 ≤ (List.length p3 : Int)) && decide ((List.length p3 : Int) ≤ (List.length p3 : Int))) then
 bif (decide (((List.length ((([] : List D_A3) ++ (cut p3 0 p11)) ++ ([(p4, (p5, (p6, ())))] : List D_A3))) + (List.length (cut p3 p11 (List.length p3 : Int)))) * 24 ≤ 140737488355328) && decide (((List.length ((([] : List D_A3) ++ (cut p3 0 p11)) ++ ([(p4, (p5, (p6, ())))] : List D_A3))) + (List.length (cut p3 p11 (List.length p3 : Int)))) ≤ 140737488355328)) then
 Option.bind (P_spec_l2Made ((p0, (p1, (p2, (p3, ())))), (((([] : List D_A3) ++ (cut p3 0 p11)) ++ ([(p4, (p5, (p6, ())))] : List D_A3)) ++ (cut p3 p11 (List.length p3 : Int))), ())) fun r9 =>
 some ((r9.1.1, (r9.1.2.1, (r9.1.2.2.1, ((((([] : List D_A3) ++ (cut p3 0 p11)) ++ ([(p4, (p5, (p6, ())))] : List D_A3)) ++ (cut p3 p11 (List.length p3 : Int))), ())))), ())
 else none
 else none
 else none
 else none
 else none
 else none
 else
 bif (decide ((0 : Int) ≤ 0) && decide ((0 : Int) ≤ p11) && decide (p11 ≤ (List.length p3 : Int))) then
 bif (decide (((List.length ([] : List D_A3)) + (List.length (cut p3 0 p11))) * 24 ≤ 140737488355328) && decide (((List.length ([] : List D_A3)) + (List.length (cut p3 0 p11))) ≤ 140737488355328)) then
 bif (decide (((List.length (([] : List D_A3) ++ (cut p3 0 p11))) + (List.length ([(p4, (p5, (p6, ())))] : List D_A3))) * 24 ≤ 140737488355328) && decide (((List.length (([] : List D_A3) ++ (cut p3 0 p11))) + (List.length ([(p4, (p5, (p6, ())))] : List D_A3))) ≤ 140737488355328)) then
 bif (decide ((0 : Int) ≤ p11) && decide (p11 ≤ (List.length p3 : Int)) && decide ((List.length p3 : Int) ≤ (List.length p3 : Int))) then
 bif (decide (((List.length ((([] : List D_A3) ++ (cut p3 0 p11)) ++ ([(p4, (p5, (p6, ())))] : List D_A3))) + (List.length (cut p3 p11 (List.length p3 : Int)))) * 24 ≤ 140737488355328) && decide (((List.length ((([] : List D_A3) ++ (cut p3 0 p11)) ++ ([(p4, (p5, (p6, ())))] : List D_A3))) + (List.length (cut p3 p11 (List.length p3 : Int)))) ≤ 140737488355328)) then
 Option.bind (P_spec_l2Made ((p0, (p1, (p2, (p3, ())))), (((([] : List D_A3) ++ (cut p3 0 p11)) ++ ([(p4, (p5, (p6, ())))] : List D_A3)) ++ (cut p3 p11 (List.length p3 : Int))), ())) fun r7 =>
 some ((r7.1.1, (r7.1.2.1, (r7.1.2.2.1, ((((([] : List D_A3) ++ (cut p3 0 p11)) ++ ([(p4, (p5, (p6, ())))] : List D_A3)) ++ (cut p3 p11 (List.length p3 : Int))), ())))), ())
 else none
 else none
 else none
 else none
 else none := by
 rewrite [h_spec_l2With_2]
 exact e_spec_l2With_2 N P_spec_l2Before P_spec_l2Own P_spec_l2Made m0 p0 p1 p2 p3 p4 p5 p6 p7 p8 p9 p10 p11

abbrev As_spec_l2Apart : List ATy := [.data true T_A3, .data true T_A3]
abbrev R_spec_l2Apart : List (Bool × Ty) := [(false, (.int .i64))]
abbrev M_spec_l2Apart : List RMode := []
abbrev Ft_spec_l2Apart : Type := D_A3 × D_A3 × Unit → Option (Int × Unit)
def X_spec_l2Apart (n : Nat) (F_spec_l1Most : Ft_spec_l1Most) : Ctx := { types := TT, globals := [], con := [(60, ⟨As_spec_l1Most, R_spec_l1Most, M_spec_l1Most, F_spec_l1Most⟩)], keep := [(3, ⟨[.box 2, .box 3, .tmp 2, .tmp 3, .tmp 5, .tmp 6], []⟩)], results := [.tmp 4], ntmps := 29, n := n }
def B_spec_l2Apart : Code := (Try.f86.body).getD .skip
def L_spec_l2Apart_3 (n : Nat) (F_spec_l1Most : Ft_spec_l1Most) (m0 : Nat) (p0 p1 : Int) (p2 p3 : Int) (p4 p5 : Int) (p6 p7 : Int) : Option (denL R_spec_l2Apart) := loopF (X_spec_l2Apart n F_spec_l1Most) B_spec_l2Apart R_spec_l2Apart M_spec_l2Apart 3 [m0] [(.ver, .num 1), (.box 2, .box 0 false [.int .i64 p0, .int .i64 p1, .int .i64 p2]), (.box 3, .box 0 false [.int .i64 p3, .int .i64 p4, .int .i64 p5]), (.tmp 2, .val false [.addr 2 0 0]), (.tmp 3, .val false [.addr 3 0 0]), (.tmp 5, .val false [.int .i64 p6]), (.tmp 6, .val false [.int .i64 p7])]
theorem e_spec_l2Apart (n : Nat) (F_spec_l1Most : Ft_spec_l1Most) (a0 a1 : D_A3) : runF (X_spec_l2Apart n F_spec_l1Most) B_spec_l2Apart As_spec_l2Apart R_spec_l2Apart M_spec_l2Apart (a0, a1, ()) = 
 L_spec_l2Apart_3 n F_spec_l1Most n a0.1 a0.2.1 a0.2.2.1 a1.1 a1.2.1 a1.2.2.1 0 0 := by kernel_rfl
theorem e_spec_l2Apart_3 (n : Nat) (F_spec_l1Most : Ft_spec_l1Most) (m0 : Nat) (p0 p1 : Int) (p2 p3 : Int) (p4 p5 : Int) (p6 p7 : Int) : L_spec_l2Apart_3 n F_spec_l1Most (m0 + 1) p0 p1 p2 p3 p4 p5 p6 p7 = 
 bif decide (p7 < 3) then
 bif inB p7 3 then
 bif inB p7 3 then
 bif inB p7 3 then
 bif inB p7 3 then
 Option.bind (F_spec_l1Most ((IntKind.wrap .i64 ((bif decide (p7 = (0 : Int)) then p0 else (bif decide (p7 = (1 : Int)) then p1 else p2)) - (bif decide (p7 = (0 : Int)) then p3 else (bif decide (p7 = (1 : Int)) then p4 else p5)))), (IntKind.wrap .i64 ((bif decide (p7 = (0 : Int)) then p3 else (bif decide (p7 = (1 : Int)) then p4 else p5)) - (bif decide (p7 = (0 : Int)) then p0 else (bif decide (p7 = (1 : Int)) then p1 else p2)))), ())) fun r5 =>
 L_spec_l2Apart_3 n F_spec_l1Most m0 p0 p1 p2 p3 p4 p5 (IntKind.wrap .i64 (p6 + r5.1)) (IntKind.wrap .i64 (p7 + 1))
 else none
 else none
 else none
 else none
 else
 some (p6, ()) := by kernel_rfl
def P_spec_l2Apart : Ft_spec_l2Apart := hid (runF (X_spec_l2Apart N P_spec_l1Most) B_spec_l2Apart As_spec_l2Apart R_spec_l2Apart M_spec_l2Apart)
theorem h_spec_l2Apart : P_spec_l2Apart = runF (X_spec_l2Apart N P_spec_l1Most) B_spec_l2Apart As_spec_l2Apart R_spec_l2Apart M_spec_l2Apart := hid_eq _
def C_spec_l2Apart : Contract := ⟨As_spec_l2Apart, R_spec_l2Apart, M_spec_l2Apart, P_spec_l2Apart⟩
theorem s_spec_l2Apart : Sound Try.prog GG 86 C_spec_l2Apart := by
 unfold C_spec_l2Apart; rw [h_spec_l2Apart]
 exact sound_of_run (fn := Try.f86) hmix hstable (tyOK_of ttOK) (hglob _) (conOK_of ⟨s_spec_l1Most, trivial⟩) (mconOK_of trivial) (by kernel_rfl) (by kernel_rfl) (by kernel_rfl) (by kernel_rfl) (by kernel_rfl) (of_decide_eq_true (by kernel_rfl))
def l_spec_l2Apart_3 : Nat → Int → Int → Int → Int → Int → Int → Int → Int → Option (denL R_spec_l2Apart) := hid (fun m0 p0 p1 p2 p3 p4 p5 p6 p7 => L_spec_l2Apart_3 N P_spec_l1Most m0 p0 p1 p2 p3 p4 p5 p6 p7)
theorem h_spec_l2Apart_3 : l_spec_l2Apart_3 = fun m0 p0 p1 p2 p3 p4 p5 p6 p7 => L_spec_l2Apart_3 N P_spec_l1Most m0 p0 p1 p2 p3 p4 p5 p6 p7 := hid_eq _
theorem p_spec_l2Apart (a0 a1 : D_A3) : P_spec_l2Apart (a0, a1, ()) = 
 l_spec_l2Apart_3 N a0.1 a0.2.1 a0.2.2.1 a1.1 a1.2.1 a1.2.2.1 0 0 := by
 rewrite [h_spec_l2Apart, h_spec_l2Apart_3]
 exact e_spec_l2Apart N P_spec_l1Most a0 a1
theorem q_spec_l2Apart_3 (m0 : Nat) (p0 p1 : Int) (p2 p3 : Int) (p4 p5 : Int) (p6 p7 : Int) : l_spec_l2Apart_3 (m0 + 1) p0 p1 p2 p3 p4 p5 p6 p7 = 
 bif decide (p7 < 3) then
 bif inB p7 3 then
 bif inB p7 3 then
 bif inB p7 3 then
 bif inB p7 3 then
 Option.bind (P_spec_l1Most ((IntKind.wrap .i64 ((bif decide (p7 = (0 : Int)) then p0 else (bif decide (p7 = (1 : Int)) then p1 else p2)) - (bif decide (p7 = (0 : Int)) then p3 else (bif decide (p7 = (1 : Int)) then p4 else p5)))), (IntKind.wrap .i64 ((bif decide (p7 = (0 : Int)) then p3 else (bif decide (p7 = (1 : Int)) then p4 else p5)) - (bif decide (p7 = (0 : Int)) then p0 else (bif decide (p7 = (1 : Int)) then p1 else p2)))), ())) fun r5 =>
 l_spec_l2Apart_3 m0 p0 p1 p2 p3 p4 p5 (IntKind.wrap .i64 (p6 + r5.1)) (IntKind.wrap .i64 (p7 + 1))
 else none
 else none
 else none
 else none
 else
 some (p6, ()) := by
 rewrite [h_spec_l2Apart_3]
 exact e_spec_l2Apart_3 N P_spec_l1Most m0 p0 p1 p2 p3 p4 p5 p6 p7

abbrev As_spec_l2Near : List ATy := [.data true T_Heap, .data true T_A3]
abbrev R_spec_l2Near : List (Bool × Ty) := [(false, (.sl T_A3))]
abbrev M_spec_l2Near : List RMode := [.own 49]
abbrev Ft_spec_l2Near : Type := D_Heap × D_A3 × Unit → Option ((List D_A3) × Unit)
def X_spec_l2Near (n : Nat) (F_spec_l2Apart : Ft_spec_l2Apart) : Ctx := { types := TT, globals := [], con := [(86, ⟨As_spec_l2Apart, R_spec_l2Apart, M_spec_l2Apart, F_spec_l2Apart⟩)], keep := [(3, ⟨[.box 2, .box 3, .tmp 2, .tmp 3, .tmp 5, .tmp 6], []⟩)], results := [.tmp 4], ntmps := 32, n := n }
def B_spec_l2Near : Code := (Try.f75.body).getD .skip
def L_spec_l2Near_3 (n : Nat) (F_spec_l2Apart : Ft_spec_l2Apart) (m0 : Nat) (p0 p1 p2 : Int) (p3 : List D_A3) (p4 p5 p6 : Int) (p7 : List D_A3) (p8 : Int) : Option (denL R_spec_l2Near) := loopF (X_spec_l2Near n F_spec_l2Apart) B_spec_l2Near R_spec_l2Near M_spec_l2Near 3 [m0] [(.ver, .num 1), (.box 2, .box 0 false [.int .i64 p0, .int .i64 p1, .int .i64 p2, .imm T_A3 p3 (some 3)]), (.box 3, .box 0 false [.int .i64 p4, .int .i64 p5, .int .i64 p6]), (.tmp 2, .val false [.addr 2 0 0]), (.tmp 3, .val false [.addr 3 0 0]), (.tmp 5, .val false [.own 49 T_A3 0 p7]), (.tmp 6, .val false [.int .i64 p8])]
theorem e_spec_l2Near (n : Nat) (F_spec_l2Apart : Ft_spec_l2Apart) (a0 : D_Heap) (a1 : D_A3) : runF (X_spec_l2Near n F_spec_l2Apart) B_spec_l2Near As_spec_l2Near R_spec_l2Near M_spec_l2Near (a0, a1, ()) = 
 L_spec_l2Near_3 n F_spec_l2Apart n a0.1 a0.2.1 a0.2.2.1 a0.2.2.2.1 a1.1 a1.2.1 a1.2.2.1 ([] : List D_A3) 0 := by kernel_rfl
theorem e_spec_l2Near_3 (n : Nat) (F_spec_l2Apart : Ft_spec_l2Apart) (m0 : Nat) (p0 p1 p2 : Int) (p3 : List D_A3) (p4 p5 p6 : Int) (p7 : List D_A3) (p8 : Int) : L_spec_l2Near_3 n F_spec_l2Apart (m0 + 1) p0 p1 p2 p3 p4 p5 p6 p7 p8 = 
 bif decide (p8 < (List.length p3 : Int)) then
 bif inB p8 (List.length p3) then
 Option.bind (F_spec_l2Apart ((nth T_A3 p3 p8), (p4, (p5, (p6, ()))), ())) fun r2 =>
 bif decide (r2.1 = 1) then
 bif inB p8 (List.length p3) then
 bif (decide (((List.length p7) + (List.length ([(nth T_A3 p3 p8)] : List D_A3))) * 24 ≤ 140737488355328) && decide (((List.length p7) + (List.length ([(nth T_A3 p3 p8)] : List D_A3))) ≤ 140737488355328)) then
 L_spec_l2Near_3 n F_spec_l2Apart m0 p0 p1 p2 p3 p4 p5 p6 (p7 ++ ([(nth T_A3 p3 p8)] : List D_A3)) (IntKind.wrap .i64 (p8 + 1))
 else none
 else none
 else
 L_spec_l2Near_3 n F_spec_l2Apart m0 p0 p1 p2 p3 p4 p5 p6 p7 (IntKind.wrap .i64 (p8 + 1))
 else none
 else
 some (p7, ()) := by kernel_rfl
def P_spec_l2Near : Ft_spec_l2Near := hid (runF (X_spec_l2Near N P_spec_l2Apart) B_spec_l2Near As_spec_l2Near R_spec_l2Near M_spec_l2Near)
theorem h_spec_l2Near : P_spec_l2Near = runF (X_spec_l2Near N P_spec_l2Apart) B_spec_l2Near As_spec_l2Near R_spec_l2Near M_spec_l2Near := hid_eq _
def C_spec_l2Near : Contract := ⟨As_spec_l2Near, R_spec_l2Near, M_spec_l2Near, P_spec_l2Near⟩
theorem s_spec_l2Near : Sound Try.prog GG 75 C_spec_l2Near := by
 unfold C_spec_l2Near; rw [h_spec_l2Near]
 exact sound_of_run (fn := Try.f75) hmix hstable (tyOK_of ttOK) (hglob _) (conOK_of ⟨s_spec_l2Apart, trivial⟩) (mconOK_of trivial) (by kernel_rfl) (by kernel_rfl) (by kernel_rfl) (by kernel_rfl) (by kernel_rfl) (of_decide_eq_true (by kernel_rfl))
def l_spec_l2Near_3 : Nat → Int → Int → Int → (List D_A3) → Int → Int → Int → (List D_A3) → Int → Option (denL R_spec_l2Near) := hid (fun m0 p0 p1 p2 p3 p4 p5 p6 p7 p8 => L_spec_l2Near_3 N P_spec_l2Apart m0 p0 p1 p2 p3 p4 p5 p6 p7 p8)
theorem h_spec_l2Near_3 : l_spec_l2Near_3 = fun m0 p0 p1 p2 p3 p4 p5 p6 p7 p8 => L_spec_l2Near_3 N P_spec_l2Apart m0 p0 p1 p2 p3 p4 p5 p6 p7 p8 := hid_eq _
theorem p_spec_l2Near (a0 : D_Heap) (a1 : D_A3) : P_spec_l2Near (a0, a1, ()) = 
 l_spec_l2Near_3 N a0.1 a0.2.1 a0.2.2.1 a0.2.2.2.1 a1.1 a1.2.1 a1.2.2.1 ([] : List D_A3) 0 := by
 rewrite [h_spec_l2Near, h_spec_l2Near_3]
 exact e_spec_l2Near N P_spec_l2Apart a0 a1
theorem q_spec_l2Near_3 (m0 : Nat) (p0 p1 p2 : Int) (p3 : List D_A3) (p4 p5 p6 : Int) (p7 : List D_A3) (p8 : Int) : l_spec_l2Near_3 (m0 + 1) p0 p1 p2 p3 p4 p5 p6 p7 p8 = 
 bif decide (p8 < (List.length p3 : Int)) then
 bif inB p8 (List.length p3) then
 Option.bind (P_spec_l2Apart ((nth T_A3 p3 p8), (p4, (p5, (p6, ()))), ())) fun r2 =>
 bif decide (r2.1 = 1) then
 bif inB p8 (List.length p3) then
 bif (decide (((List.length p7) + (List.length ([(nth T_A3 p3 p8)] : List D_A3))) * 24 ≤ 140737488355328) && decide (((List.length p7) + (List.length ([(nth T_A3 p3 p8)] : List D_A3))) ≤ 140737488355328)) then
 l_spec_l2Near_3 m0 p0 p1 p2 p3 p4 p5 p6 (p7 ++ ([(nth T_A3 p3 p8)] : List D_A3)) (IntKind.wrap .i64 (p8 + 1))
 else none
 else none
 else
 l_spec_l2Near_3 m0 p0 p1 p2 p3 p4 p5 p6 p7 (IntKind.wrap .i64 (p8 + 1))
 else none
 else
 some (p7, ()) := by
 rewrite [h_spec_l2Near_3]
 exact e_spec_l2Near_3 N P_spec_l2Apart m0 p0 p1 p2 p3 p4 p5 p6 p7 p8

abbrev As_spec_l11Parted : List ATy := [.data false (.sl T_A2), .data true T_A3, .data true T_A3]
abbrev R_spec_l11Parted : List (Bool × Ty) := [(false, .bool)]
abbrev M_spec_l11Parted : List RMode := []
abbrev Ft_spec_l11Parted : Type := (List D_A2) × D_A3 × D_A3 × Unit → Option (Bool × Unit)
def X_spec_l11Parted (n : Nat) : Ctx := { types := TT, globals := [], con := [], keep := [(2, ⟨[.box 4, .box 5, .tmp 0, .tmp 4, .tmp 5, .tmp 7], []⟩)], results := [.tmp 6], ntmps := 41, n := n }
def B_spec_l11Parted : Code := (Try.f76.body).getD .skip
def L_spec_l11Parted_2 (n m0 : Nat) (p0 p1 : Int) (p2 p3 : Int) (p4 p5 : Int) (p6 : List D_A2) (p7 : Int) : Option (denL R_spec_l11Parted) := loopF (X_spec_l11Parted n) B_spec_l11Parted R_spec_l11Parted M_spec_l11Parted 2 [m0] [(.ver, .num 1), (.box 4, .box 0 false [.int .i64 p0, .int .i64 p1, .int .i64 p2]), (.box 5, .box 0 false [.int .i64 p3, .int .i64 p4, .int .i64 p5]), (.tmp 0, .val false [.imm T_A2 p6 (some 0)]), (.tmp 4, .val false [.addr 4 0 0]), (.tmp 5, .val false [.addr 5 0 0]), (.tmp 7, .val false [.int .i64 p7])]
theorem e_spec_l11Parted (n : Nat) (a0 : List D_A2) (a1 a2 : D_A3) : runF (X_spec_l11Parted n) B_spec_l11Parted As_spec_l11Parted R_spec_l11Parted M_spec_l11Parted (a0, a1, a2, ()) = 
 L_spec_l11Parted_2 n n a1.1 a1.2.1 a1.2.2.1 a2.1 a2.2.1 a2.2.2.1 a0 0 := by kernel_rfl
theorem e_spec_l11Parted_2 (n m0 : Nat) (p0 p1 : Int) (p2 p3 : Int) (p4 p5 : Int) (p6 : List D_A2) (p7 : Int) : L_spec_l11Parted_2 n (m0 + 1) p0 p1 p2 p3 p4 p5 p6 p7 = 
 bif decide (p7 < (List.length p6 : Int)) then
 bif inB p7 (List.length p6) then
 bif inB ((nth T_A2 p6 p7)).1 3 then
 bif inB p7 (List.length p6) then
 bif inB p7 (List.length p6) then
 bif inB ((nth T_A2 p6 p7)).1 3 then
 bif inB p7 (List.length p6) then
 bif !(decide ((bif decide (((nth T_A2 p6 p7)).1 = (0 : Int)) then p0 else (bif decide (((nth T_A2 p6 p7)).1 = (1 : Int)) then p1 else p2)) < (((nth T_A2 p6 p7)).2).1) == decide ((bif decide (((nth T_A2 p6 p7)).1 = (0 : Int)) then p3 else (bif decide (((nth T_A2 p6 p7)).1 = (1 : Int)) then p4 else p5)) < (((nth T_A2 p6 p7)).2).1)) then
 some (true, ())
 else
 L_spec_l11Parted_2 n m0 p0 p1 p2 p3 p4 p5 p6 (IntKind.wrap .i64 (p7 + 1))
 else none
 else none
 else none
 else none
 else none
 else none
 else
 some (false, ()) := by kernel_rfl
def P_spec_l11Parted : Ft_spec_l11Parted := hid (runF (X_spec_l11Parted N) B_spec_l11Parted As_spec_l11Parted R_spec_l11Parted M_spec_l11Parted)
theorem h_spec_l11Parted : P_spec_l11Parted = runF (X_spec_l11Parted N) B_spec_l11Parted As_spec_l11Parted R_spec_l11Parted M_spec_l11Parted := hid_eq _
def C_spec_l11Parted : Contract := ⟨As_spec_l11Parted, R_spec_l11Parted, M_spec_l11Parted, P_spec_l11Parted⟩
theorem s_spec_l11Parted : Sound Try.prog GG 76 C_spec_l11Parted := by
 unfold C_spec_l11Parted; rw [h_spec_l11Parted]
 exact sound_of_run (fn := Try.f76) hmix hstable (tyOK_of ttOK) (hglob _) (conOK_of trivial) (mconOK_of trivial) (by kernel_rfl) (by kernel_rfl) (by kernel_rfl) (by kernel_rfl) (by kernel_rfl) (of_decide_eq_true (by kernel_rfl))
def l_spec_l11Parted_2 : Nat → Int → Int → Int → Int → Int → Int → (List D_A2) → Int → Option (denL R_spec_l11Parted) := hid (fun m0 p0 p1 p2 p3 p4 p5 p6 p7 => L_spec_l11Parted_2 N m0 p0 p1 p2 p3 p4 p5 p6 p7)
theorem h_spec_l11Parted_2 : l_spec_l11Parted_2 = fun m0 p0 p1 p2 p3 p4 p5 p6 p7 => L_spec_l11Parted_2 N m0 p0 p1 p2 p3 p4 p5 p6 p7 := hid_eq _
theorem p_spec_l11Parted (a0 : List D_A2) (a1 a2 : D_A3) : P_spec_l11Parted (a0, a1, a2, ()) = 
 l_spec_l11Parted_2 N a1.1 a1.2.1 a1.2.2.1 a2.1 a2.2.1 a2.2.2.1 a0 0 := by
 rewrite [h_spec_l11Parted, h_spec_l11Parted_2]
 exact e_spec_l11Parted N a0 a1 a2
theorem q_spec_l11Parted_2 (m0 : Nat) (p0 p1 : Int) (p2 p3 : Int) (p4 p5 : Int) (p6 : List D_A2) (p7 : Int) : l_spec_l11Parted_2 (m0 + 1) p0 p1 p2 p3 p4 p5 p6 p7 = 
 bif decide (p7 < (List.length p6 : Int)) then
 bif inB p7 (List.length p6) then
 bif inB ((nth T_A2 p6 p7)).1 3 then
 bif inB p7 (List.length p6) then
 bif inB p7 (List.length p6) then
 bif inB ((nth T_A2 p6 p7)).1 3 then
 bif inB p7 (List.length p6) then
 bif !(decide ((bif decide (((nth T_A2 p6 p7)).1 = (0 : Int)) then p0 else (bif decide (((nth T_A2 p6 p7)).1 = (1 : Int)) then p1 else p2)) < (((nth T_A2 p6 p7)).2).1) == decide ((bif decide (((nth T_A2 p6 p7)).1 = (0 : Int)) then p3 else (bif decide (((nth T_A2 p6 p7)).1 = (1 : Int)) then p4 else p5)) < (((nth T_A2 p6 p7)).2).1)) then
 some (true, ())
 else
 l_spec_l11Parted_2 m0 p0 p1 p2 p3 p4 p5 p6 (IntKind.wrap .i64 (p7 + 1))
 else none
 else none
 else none
 else none
 else none
 else none
 else
 some (false, ()) := by
 rewrite [h_spec_l11Parted_2]
 exact e_spec_l11Parted_2 N m0 p0 p1 p2 p3 p4 p5 p6 p7

abbrev As_spec_l11Pieces : List ATy := [.data true T_Heap, .data false (.sl T_A2)]
abbrev R_spec_l11Pieces : List (Bool × Ty) := [(false, (.sl (.sl T_A3)))]
abbrev M_spec_l11Pieces : List RMode := [.own 24]
abbrev Ft_spec_l11Pieces : Type := D_Heap × (List D_A2) × Unit → Option ((List (List D_A3)) × Unit)
def X_spec_l11Pieces (n : Nat) (F_spec_l2With : Ft_spec_l2With) (F_spec_l2Without : Ft_spec_l2Without) (F_spec_l2Empty : Ft_spec_l2Empty) (F_spec_l2Own : Ft_spec_l2Own) (F_spec_l2Near : Ft_spec_l2Near) (F_spec_l11Parted : Ft_spec_l11Parted) : Ctx := { types := TT, globals := [], con := [(50, ⟨As_spec_l2With, R_spec_l2With, M_spec_l2With, F_spec_l2With⟩), (58, ⟨As_spec_l2Without, R_spec_l2Without, M_spec_l2Without, F_spec_l2Without⟩), (63, ⟨As_spec_l2Empty, R_spec_l2Empty, M_spec_l2Empty, F_spec_l2Empty⟩), (74, ⟨As_spec_l2Own, R_spec_l2Own, M_spec_l2Own, F_spec_l2Own⟩), (75, ⟨As_spec_l2Near, R_spec_l2Near, M_spec_l2Near, F_spec_l2Near⟩), (76, ⟨As_spec_l11Parted, R_spec_l11Parted, M_spec_l11Parted, F_spec_l11Parted⟩)], keep := [(2, ⟨[.box 2, .box 6, .tmp 1, .tmp 2, .tmp 5, .tmp 6], []⟩), (6, ⟨[.box 2, .box 6, .box 7, .tmp 1, .tmp 2, .tmp 5, .tmp 6, .tmp 7, .tmp 8, .tmp 9], []⟩), (11, ⟨[.box 2, .box 6, .box 7, .tmp 1, .tmp 2, .tmp 5, .tmp 6, .tmp 7, .tmp 8, .tmp 9, .tmp 10, .tmp 11], []⟩)], results := [.tmp 4], ntmps := 90, n := n }
def B_spec_l11Pieces : Code := (Try.f43.body).getD .skip
def L_spec_l11Pieces_2 (n : Nat) (F_spec_l2With : Ft_spec_l2With) (F_spec_l2Without : Ft_spec_l2Without) (F_spec_l2Empty : Ft_spec_l2Empty) (F_spec_l2Own : Ft_spec_l2Own) (F_spec_l2Near : Ft_spec_l2Near) (F_spec_l11Parted : Ft_spec_l11Parted) (m0 : Nat) (p0 p1 p2 : Int) (p3 : List D_A3) (p4 p5 p6 : Int) (p7 : List D_A3) (p8 : List D_A2) (p9 : List (List D_A3)) : Option (denL R_spec_l11Pieces) := loopF (X_spec_l11Pieces n F_spec_l2With F_spec_l2Without F_spec_l2Empty F_spec_l2Own F_spec_l2Near F_spec_l11Parted) B_spec_l11Pieces R_spec_l11Pieces M_spec_l11Pieces 2 [m0] [(.ver, .num 1), (.box 2, .box 0 false [.int .i64 p0, .int .i64 p1, .int .i64 p2, .imm T_A3 p3 (some 3)]), (.box 6, .box 0 false [.int .i64 p4, .int .i64 p5, .int .i64 p6, .own 49 T_A3 0 p7]), (.tmp 1, .val false [.imm T_A2 p8 (some 4)]), (.tmp 2, .val false [.addr 2 0 0]), (.tmp 5, .val false [.own 24 (.sl T_A3) 0 p9]), (.tmp 6, .val false [.addr 6 0 0])]
def L_spec_l11Pieces_6 (n : Nat) (F_spec_l2With : Ft_spec_l2With) (F_spec_l2Without : Ft_spec_l2Without) (F_spec_l2Empty : Ft_spec_l2Empty) (F_spec_l2Own : Ft_spec_l2Own) (F_spec_l2Near : Ft_spec_l2Near) (F_spec_l11Parted : Ft_spec_l11Parted) (m0 m1 : Nat) (p0 p1 p2 : Int) (p3 : List D_A3) (p4 p5 p6 : Int) (p7 : List D_A3) (p8 p9 p10 : Int) (p11 : List D_A3) (p12 : List D_A2) (p13 : List (List D_A3)) (p14 : List D_A3) (p15 : Int) : Option (denL R_spec_l11Pieces) := loopF (X_spec_l11Pieces n F_spec_l2With F_spec_l2Without F_spec_l2Empty F_spec_l2Own F_spec_l2Near F_spec_l11Parted) B_spec_l11Pieces R_spec_l11Pieces M_spec_l11Pieces 6 [m0, m1] [(.ver, .num 1), (.box 2, .box 0 false [.int .i64 p0, .int .i64 p1, .int .i64 p2, .imm T_A3 p3 (some 3)]), (.box 6, .box 0 false [.int .i64 p4, .int .i64 p5, .int .i64 p6, .own 49 T_A3 0 p7]), (.box 7, .box 0 false [.int .i64 p8, .int .i64 p9, .int .i64 p10, .own 49 T_A3 0 p11]), (.tmp 1, .val false [.imm T_A2 p12 (some 4)]), (.tmp 2, .val false [.addr 2 0 0]), (.tmp 5, .val false [.own 24 (.sl T_A3) 0 p13]), (.tmp 6, .val false [.addr 6 0 0]), (.tmp 7, .val false [.addr 7 0 0]), (.tmp 8, .val false [.own 49 T_A3 0 p14]), (.tmp 9, .val false [.int .i64 p15])]
def L_spec_l11Pieces_11 (n : Nat) (F_spec_l2With : Ft_spec_l2With) (F_spec_l2Without : Ft_spec_l2Without) (F_spec_l2Empty : Ft_spec_l2Empty) (F_spec_l2Own : Ft_spec_l2Own) (F_spec_l2Near : Ft_spec_l2Near) (F_spec_l11Parted : Ft_spec_l11Parted) (m0 m1 m2 : Nat) (p0 p1 p2 : Int) (p3 : List D_A3) (p4 p5 p6 : Int) (p7 : List D_A3) (p8 p9 p10 : Int) (p11 : List D_A3) (p12 : List D_A2) (p13 : List (List D_A3)) (p14 : List D_A3) (p15 : Int) (p16 : List D_A3) (p17 : Int) : Option (denL R_spec_l11Pieces) := loopF (X_spec_l11Pieces n F_spec_l2With F_spec_l2Without F_spec_l2Empty F_spec_l2Own F_spec_l2Near F_spec_l11Parted) B_spec_l11Pieces R_spec_l11Pieces M_spec_l11Pieces 11 [m0, m1, m2] [(.ver, .num 1), (.box 2, .box 0 false [.int .i64 p0, .int .i64 p1, .int .i64 p2, .imm T_A3 p3 (some 3)]), (.box 6, .box 0 false [.int .i64 p4, .int .i64 p5, .int .i64 p6, .own 49 T_A3 0 p7]), (.box 7, .box 0 false [.int .i64 p8, .int .i64 p9, .int .i64 p10, .own 49 T_A3 0 p11]), (.tmp 1, .val false [.imm T_A2 p12 (some 4)]), (.tmp 2, .val false [.addr 2 0 0]), (.tmp 5, .val false [.own 24 (.sl T_A3) 0 p13]), (.tmp 6, .val false [.addr 6 0 0]), (.tmp 7, .val false [.addr 7 0 0]), (.tmp 8, .val false [.own 49 T_A3 0 p14]), (.tmp 9, .val false [.int .i64 p15]), (.tmp 10, .val false [.own 49 T_A3 0 p16]), (.tmp 11, .val false [.int .i64 p17])]
theorem e_spec_l11Pieces (n : Nat) (F_spec_l2With : Ft_spec_l2With) (F_spec_l2Without : Ft_spec_l2Without) (F_spec_l2Empty : Ft_spec_l2Empty) (F_spec_l2Own : Ft_spec_l2Own) (F_spec_l2Near : Ft_spec_l2Near) (F_spec_l11Parted : Ft_spec_l11Parted) (a0 : D_Heap) (a1 : List D_A2) : runF (X_spec_l11Pieces n F_spec_l2With F_spec_l2Without F_spec_l2Empty F_spec_l2Own F_spec_l2Near F_spec_l11Parted) B_spec_l11Pieces As_spec_l11Pieces R_spec_l11Pieces M_spec_l11Pieces (a0, a1, ()) = 
 Option.bind (F_spec_l2Own (a0, ())) fun r0 =>
 L_spec_l11Pieces_2 n F_spec_l2With F_spec_l2Without F_spec_l2Empty F_spec_l2Own F_spec_l2Near F_spec_l11Parted n a0.1 a0.2.1 a0.2.2.1 a0.2.2.2.1 r0.1.1 r0.1.2.1 r0.1.2.2.1 r0.1.2.2.2.1 a1 ([] : List (List D_A3)) := by kernel_rfl
theorem e_spec_l11Pieces_2 (n : Nat) (F_spec_l2With : Ft_spec_l2With) (F_spec_l2Without : Ft_spec_l2Without) (F_spec_l2Empty : Ft_spec_l2Empty) (F_spec_l2Own : Ft_spec_l2Own) (F_spec_l2Near : Ft_spec_l2Near) (F_spec_l11Parted : Ft_spec_l11Parted) (m0 : Nat) (p0 p1 p2 : Int) (p3 : List D_A3) (p4 p5 p6 : Int) (p7 : List D_A3) (p8 : List D_A2) (p9 : List (List D_A3)) : L_spec_l11Pieces_2 n F_spec_l2With F_spec_l2Without F_spec_l2Empty F_spec_l2Own F_spec_l2Near F_spec_l11Parted (m0 + 1) p0 p1 p2 p3 p4 p5 p6 p7 p8 p9 = 
 bif decide ((List.length p7 : Int) > 0) then
 Option.bind (F_spec_l2Empty (p0, p1, p2, ())) fun r1 =>
 bif inB 0 (List.length p7) then
 bif inB 0 (List.length ([(nth T_A3 p7 0)] : List D_A3)) then
 Option.bind (F_spec_l2Without ((p4, (p5, (p6, (p7, ())))), (nth T_A3 ([(nth T_A3 p7 0)] : List D_A3) 0), ())) fun r4 =>
 L_spec_l11Pieces_6 n F_spec_l2With F_spec_l2Without F_spec_l2Empty F_spec_l2Own F_spec_l2Near F_spec_l11Parted m0 n p0 p1 p2 p3 r4.1.1 r4.1.2.1 r4.1.2.2.1 r4.1.2.2.2.1 r1.1.1 r1.1.2.1 r1.1.2.2.1 r1.1.2.2.2.1 p8 p9 ([(nth T_A3 p7 0)] : List D_A3) 0
 else none
 else none
 else
 some (p9, ()) := by kernel_rfl
theorem e_spec_l11Pieces_6 (n : Nat) (F_spec_l2With : Ft_spec_l2With) (F_spec_l2Without : Ft_spec_l2Without) (F_spec_l2Empty : Ft_spec_l2Empty) (F_spec_l2Own : Ft_spec_l2Own) (F_spec_l2Near : Ft_spec_l2Near) (F_spec_l11Parted : Ft_spec_l11Parted) (m0 m1 : Nat) (p0 p1 p2 : Int) (p3 : List D_A3) (p4 p5 p6 : Int) (p7 : List D_A3) (p8 p9 p10 : Int) (p11 : List D_A3) (p12 : List D_A2) (p13 : List (List D_A3)) (p14 : List D_A3) (p15 : Int) : L_spec_l11Pieces_6 n F_spec_l2With F_spec_l2Without F_spec_l2Empty F_spec_l2Own F_spec_l2Near F_spec_l11Parted m0 (m1 + 1) p0 p1 p2 p3 p4 p5 p6 p7 p8 p9 p10 p11 p12 p13 p14 p15 = 
 bif decide (p15 < (List.length p14 : Int)) then
 bif inB p15 (List.length p14) then
 Option.bind (F_spec_l2With ((p8, (p9, (p10, (p11, ())))), (nth T_A3 p14 p15), ())) fun r2 =>
 bif inB p15 (List.length p14) then
 Option.bind (F_spec_l2Near ((p4, (p5, (p6, (p7, ())))), (nth T_A3 p14 p15), ())) fun r4 =>
 L_spec_l11Pieces_11 n F_spec_l2With F_spec_l2Without F_spec_l2Empty F_spec_l2Own F_spec_l2Near F_spec_l11Parted m0 m1 n p0 p1 p2 p3 p4 p5 p6 p7 r2.1.1 r2.1.2.1 r2.1.2.2.1 r2.1.2.2.2.1 p12 p13 p14 p15 r4.1 0
 else none
 else none
 else
 bif (decide (((List.length p13) + (List.length ([p11] : List (List D_A3)))) * 24 ≤ 140737488355328) && decide (((List.length p13) + (List.length ([p11] : List (List D_A3)))) ≤ 140737488355328)) then
 L_spec_l11Pieces_2 n F_spec_l2With F_spec_l2Without F_spec_l2Empty F_spec_l2Own F_spec_l2Near F_spec_l11Parted m0 p0 p1 p2 p3 p4 p5 p6 p7 p12 (p13 ++ ([p11] : List (List D_A3)))
 else none := by kernel_rfl
theorem e_spec_l11Pieces_11 (n : Nat) (F_spec_l2With : Ft_spec_l2With) (F_spec_l2Without : Ft_spec_l2Without) (F_spec_l2Empty : Ft_spec_l2Empty) (F_spec_l2Own : Ft_spec_l2Own) (F_spec_l2Near : Ft_spec_l2Near) (F_spec_l11Parted : Ft_spec_l11Parted) (m0 m1 m2 : Nat) (p0 p1 p2 : Int) (p3 : List D_A3) (p4 p5 p6 : Int) (p7 : List D_A3) (p8 p9 p10 : Int) (p11 : List D_A3) (p12 : List D_A2) (p13 : List (List D_A3)) (p14 : List D_A3) (p15 : Int) (p16 : List D_A3) (p17 : Int) : L_spec_l11Pieces_11 n F_spec_l2With F_spec_l2Without F_spec_l2Empty F_spec_l2Own F_spec_l2Near F_spec_l11Parted m0 m1 (m2 + 1) p0 p1 p2 p3 p4 p5 p6 p7 p8 p9 p10 p11 p12 p13 p14 p15 p16 p17 = 
 bif decide (p17 < (List.length p16 : Int)) then
 bif inB p15 (List.length p14) then
 bif inB p17 (List.length p16) then
 Option.bind (F_spec_l11Parted (p12, (nth T_A3 p14 p15), (nth T_A3 p16 p17), ())) fun r3 =>
 bif !r3.1 then
 bif inB p17 (List.length p16) then
 bif (decide (((List.length p14) + (List.length ([(nth T_A3 p16 p17)] : List D_A3))) * 24 ≤ 140737488355328) && decide (((List.length p14) + (List.length ([(nth T_A3 p16 p17)] : List D_A3))) ≤ 140737488355328)) then
 bif inB p17 (List.length p16) then
 Option.bind (F_spec_l2Without ((p4, (p5, (p6, (p7, ())))), (nth T_A3 p16 p17), ())) fun r8 =>
 L_spec_l11Pieces_11 n F_spec_l2With F_spec_l2Without F_spec_l2Empty F_spec_l2Own F_spec_l2Near F_spec_l11Parted m0 m1 m2 p0 p1 p2 p3 r8.1.1 r8.1.2.1 r8.1.2.2.1 r8.1.2.2.2.1 p8 p9 p10 p11 p12 p13 (p14 ++ ([(nth T_A3 p16 p17)] : List D_A3)) p15 p16 (IntKind.wrap .i64 (p17 + 1))
 else none
 else none
 else none
 else
 L_spec_l11Pieces_11 n F_spec_l2With F_spec_l2Without F_spec_l2Empty F_spec_l2Own F_spec_l2Near F_spec_l11Parted m0 m1 m2 p0 p1 p2 p3 p4 p5 p6 p7 p8 p9 p10 p11 p12 p13 p14 p15 p16 (IntKind.wrap .i64 (p17 + 1))
 else none
 else none
 else
 L_spec_l11Pieces_6 n F_spec_l2With F_spec_l2Without F_spec_l2Empty F_spec_l2Own F_spec_l2Near F_spec_l11Parted m0 m1 p0 p1 p2 p3 p4 p5 p6 p7 p8 p9 p10 p11 p12 p13 p14 (IntKind.wrap .i64 (p15 + 1)) := by kernel_rfl
def P_spec_l11Pieces : Ft_spec_l11Pieces := hid (runF (X_spec_l11Pieces N P_spec_l2With P_spec_l2Without P_spec_l2Empty P_spec_l2Own P_spec_l2Near P_spec_l11Parted) B_spec_l11Pieces As_spec_l11Pieces R_spec_l11Pieces M_spec_l11Pieces)
theorem h_spec_l11Pieces : P_spec_l11Pieces = runF (X_spec_l11Pieces N P_spec_l2With P_spec_l2Without P_spec_l2Empty P_spec_l2Own P_spec_l2Near P_spec_l11Parted) B_spec_l11Pieces As_spec_l11Pieces R_spec_l11Pieces M_spec_l11Pieces := hid_eq _
def C_spec_l11Pieces : Contract := ⟨As_spec_l11Pieces, R_spec_l11Pieces, M_spec_l11Pieces, P_spec_l11Pieces⟩
theorem s_spec_l11Pieces : Sound Try.prog GG 43 C_spec_l11Pieces := by
 unfold C_spec_l11Pieces; rw [h_spec_l11Pieces]
 exact sound_of_run (fn := Try.f43) hmix hstable (tyOK_of ttOK) (hglob _) (conOK_of ⟨s_spec_l2With, s_spec_l2Without, s_spec_l2Empty, s_spec_l2Own, s_spec_l2Near, s_spec_l11Parted, trivial⟩) (mconOK_of trivial) (by kernel_rfl) (by kernel_rfl) (by kernel_rfl) (by kernel_rfl) (by kernel_rfl) (of_decide_eq_true (by kernel_rfl))
def l_spec_l11Pieces_2 : Nat → Int → Int → Int → (List D_A3) → Int → Int → Int → (List D_A3) → (List D_A2) → (List (List D_A3)) → Option (denL R_spec_l11Pieces) := hid (fun m0 p0 p1 p2 p3 p4 p5 p6 p7 p8 p9 => L_spec_l11Pieces_2 N P_spec_l2With P_spec_l2Without P_spec_l2Empty P_spec_l2Own P_spec_l2Near P_spec_l11Parted m0 p0 p1 p2 p3 p4 p5 p6 p7 p8 p9)
theorem h_spec_l11Pieces_2 : l_spec_l11Pieces_2 = fun m0 p0 p1 p2 p3 p4 p5 p6 p7 p8 p9 => L_spec_l11Pieces_2 N P_spec_l2With P_spec_l2Without P_spec_l2Empty P_spec_l2Own P_spec_l2Near P_spec_l11Parted m0 p0 p1 p2 p3 p4 p5 p6 p7 p8 p9 := hid_eq _
def l_spec_l11Pieces_6 : Nat → Nat → Int → Int → Int → (List D_A3) → Int → Int → Int → (List D_A3) → Int → Int → Int → (List D_A3) → (List D_A2) → (List (List D_A3)) → (List D_A3) → Int → Option (denL R_spec_l11Pieces) := hid (fun m0 m1 p0 p1 p2 p3 p4 p5 p6 p7 p8 p9 p10 p11 p12 p13 p14 p15 => L_spec_l11Pieces_6 N P_spec_l2With P_spec_l2Without P_spec_l2Empty P_spec_l2Own P_spec_l2Near P_spec_l11Parted m0 m1 p0 p1 p2 p3 p4 p5 p6 p7 p8 p9 p10 p11 p12 p13 p14 p15)
theorem h_spec_l11Pieces_6 : l_spec_l11Pieces_6 = fun m0 m1 p0 p1 p2 p3 p4 p5 p6 p7 p8 p9 p10 p11 p12 p13 p14 p15 => L_spec_l11Pieces_6 N P_spec_l2With P_spec_l2Without P_spec_l2Empty P_spec_l2Own P_spec_l2Near P_spec_l11Parted m0 m1 p0 p1 p2 p3 p4 p5 p6 p7 p8 p9 p10 p11 p12 p13 p14 p15 := hid_eq _
def l_spec_l11Pieces_11 : Nat → Nat → Nat → Int → Int → Int → (List D_A3) → Int → Int → Int → (List D_A3) → Int → Int → Int → (List D_A3) → (List D_A2) → (List (List D_A3)) → (List D_A3) → Int → (List D_A3) → Int → Option (denL R_spec_l11Pieces) := hid (fun m0 m1 m2 p0 p1 p2 p3 p4 p5 p6 p7 p8 p9 p10 p11 p12 p13 p14 p15 p16 p17 => L_spec_l11Pieces_11 N P_spec_l2With P_spec_l2Without P_spec_l2Empty P_spec_l2Own P_spec_l2Near P_spec_l11Parted m0 m1 m2 p0 p1 p2 p3 p4 p5 p6 p7 p8 p9 p10 p11 p12 p13 p14 p15 p16 p17)
theorem h_spec_l11Pieces_11 : l_spec_l11Pieces_11 = fun m0 m1 m2 p0 p1 p2 p3 p4 p5 p6 p7 p8 p9 p10 p11 p12 p13 p14 p15 p16 p17 => L_spec_l11Pieces_11 N P_spec_l2With P_spec_l2Without P_spec_l2Empty P_spec_l2Own P_spec_l2Near P_spec_l11Parted m0 m1 m2 p0 p1 p2 p3 p4 p5 p6 p7 p8 p9 p10 p11 p12 p13 p14 p15 p16 p17 := hid_eq _
theorem p_spec_l11Pieces (a0 : D_Heap) (a1 : List D_A2) : P_spec_l11Pieces (a0, a1, ()) = 
 Option.bind (P_spec_l2Own (a0, ())) fun r0 =>
 l_spec_l11Pieces_2 N a0.1 a0.2.1 a0.2.2.1 a0.2.2.2.1 r0.1.1 r0.1.2.1 r0.1.2.2.1 r0.1.2.2.2.1 a1 ([] : List (List D_A3)) := by
 rewrite [h_spec_l11Pieces, h_spec_l11Pieces_2]
 exact e_spec_l11Pieces N P_spec_l2With P_spec_l2Without P_spec_l2Empty P_spec_l2Own P_spec_l2Near P_spec_l11Parted a0 a1
theorem q_spec_l11Pieces_2 (m0 : Nat) (p0 p1 p2 : Int) (p3 : List D_A3) (p4 p5 p6 : Int) (p7 : List D_A3) (p8 : List D_A2) (p9 : List (List D_A3)) : l_spec_l11Pieces_2 (m0 + 1) p0 p1 p2 p3 p4 p5 p6 p7 p8 p9 = 
 bif decide ((List.length p7 : Int) > 0) then
 Option.bind (P_spec_l2Empty (p0, p1, p2, ())) fun r1 =>
 bif inB 0 (List.length p7) then
 bif inB 0 (List.length ([(nth T_A3 p7 0)] : List D_A3)) then
 Option.bind (P_spec_l2Without ((p4, (p5, (p6, (p7, ())))), (nth T_A3 ([(nth T_A3 p7 0)] : List D_A3) 0), ())) fun r4 =>
 l_spec_l11Pieces_6 m0 N p0 p1 p2 p3 r4.1.1 r4.1.2.1 r4.1.2.2.1 r4.1.2.2.2.1 r1.1.1 r1.1.2.1 r1.1.2.2.1 r1.1.2.2.2.1 p8 p9 ([(nth T_A3 p7 0)] : List D_A3) 0
 else none
 else none
 else
 some (p9, ()) := by
 rewrite [h_spec_l11Pieces_2, h_spec_l11Pieces_6]
 exact e_spec_l11Pieces_2 N P_spec_l2With P_spec_l2Without P_spec_l2Empty P_spec_l2Own P_spec_l2Near P_spec_l11Parted m0 p0 p1 p2 p3 p4 p5 p6 p7 p8 p9
theorem q_spec_l11Pieces_6 (m0 m1 : Nat) (p0 p1 p2 : Int) (p3 : List D_A3) (p4 p5 p6 : Int) (p7 : List D_A3) (p8 p9 p10 : Int) (p11 : List D_A3) (p12 : List D_A2) (p13 : List (List D_A3)) (p14 : List D_A3) (p15 : Int) : l_spec_l11Pieces_6 m0 (m1 + 1) p0 p1 p2 p3 p4 p5 p6 p7 p8 p9 p10 p11 p12 p13 p14 p15 = 
 bif decide (p15 < (List.length p14 : Int)) then
 bif inB p15 (List.length p14) then
 Option.bind (P_spec_l2With ((p8, (p9, (p10, (p11, ())))), (nth T_A3 p14 p15), ())) fun r2 =>
 bif inB p15 (List.length p14) then
 Option.bind (P_spec_l2Near ((p4, (p5, (p6, (p7, ())))), (nth T_A3 p14 p15), ())) fun r4 =>
 l_spec_l11Pieces_11 m0 m1 N p0 p1 p2 p3 p4 p5 p6 p7 r2.1.1 r2.1.2.1 r2.1.2.2.1 r2.1.2.2.2.1 p12 p13 p14 p15 r4.1 0
 else none
 else none
 else
 bif (decide (((List.length p13) + (List.length ([p11] : List (List D_A3)))) * 24 ≤ 140737488355328) && decide (((List.length p13) + (List.length ([p11] : List (List D_A3)))) ≤ 140737488355328)) then
 l_spec_l11Pieces_2 m0 p0 p1 p2 p3 p4 p5 p6 p7 p12 (p13 ++ ([p11] : List (List D_A3)))
 else none := by
 rewrite [h_spec_l11Pieces_2, h_spec_l11Pieces_6, h_spec_l11Pieces_11]
 exact e_spec_l11Pieces_6 N P_spec_l2With P_spec_l2Without P_spec_l2Empty P_spec_l2Own P_spec_l2Near P_spec_l11Parted m0 m1 p0 p1 p2 p3 p4 p5 p6 p7 p8 p9 p10 p11 p12 p13 p14 p15
theorem q_spec_l11Pieces_11 (m0 m1 m2 : Nat) (p0 p1 p2 : Int) (p3 : List D_A3) (p4 p5 p6 : Int) (p7 : List D_A3) (p8 p9 p10 : Int) (p11 : List D_A3) (p12 : List D_A2) (p13 : List (List D_A3)) (p14 : List D_A3) (p15 : Int) (p16 : List D_A3) (p17 : Int) : l_spec_l11Pieces_11 m0 m1 (m2 + 1) p0 p1 p2 p3 p4 p5 p6 p7 p8 p9 p10 p11 p12 p13 p14 p15 p16 p17 = 
 bif decide (p17 < (List.length p16 : Int)) then
 bif inB p15 (List.length p14) then
 bif inB p17 (List.length p16) then
 Option.bind (P_spec_l11Parted (p12, (nth T_A3 p14 p15), (nth T_A3 p16 p17), ())) fun r3 =>
 bif !r3.1 then
 bif inB p17 (List.length p16) then
 bif (decide (((List.length p14) + (List.length ([(nth T_A3 p16 p17)] : List D_A3))) * 24 ≤ 140737488355328) && decide (((List.length p14) + (List.length ([(nth T_A3 p16 p17)] : List D_A3))) ≤ 140737488355328)) then
 bif inB p17 (List.length p16) then
 Option.bind (P_spec_l2Without ((p4, (p5, (p6, (p7, ())))), (nth T_A3 p16 p17), ())) fun r8 =>
 l_spec_l11Pieces_11 m0 m1 m2 p0 p1 p2 p3 r8.1.1 r8.1.2.1 r8.1.2.2.1 r8.1.2.2.2.1 p8 p9 p10 p11 p12 p13 (p14 ++ ([(nth T_A3 p16 p17)] : List D_A3)) p15 p16 (IntKind.wrap .i64 (p17 + 1))
 else none
 else none
 else none
 else
 l_spec_l11Pieces_11 m0 m1 m2 p0 p1 p2 p3 p4 p5 p6 p7 p8 p9 p10 p11 p12 p13 p14 p15 p16 (IntKind.wrap .i64 (p17 + 1))
 else none
 else none
 else
 l_spec_l11Pieces_6 m0 m1 p0 p1 p2 p3 p4 p5 p6 p7 p8 p9 p10 p11 p12 p13 p14 (IntKind.wrap .i64 (p15 + 1)) := by
 rewrite [h_spec_l11Pieces_6, h_spec_l11Pieces_11]
 exact e_spec_l11Pieces_11 N P_spec_l2With P_spec_l2Without P_spec_l2Empty P_spec_l2Own P_spec_l2Near P_spec_l11Parted m0 m1 m2 p0 p1 p2 p3 p4 p5 p6 p7 p8 p9 p10 p11 p12 p13 p14 p15 p16 p17

abbrev As_spec_PiecesAfter : List ATy := [.data true T_Heap, .data false (.sl T_A2)]
abbrev R_spec_PiecesAfter : List (Bool × Ty) := [(false, (.sl (.sl T_A3))), (false, .bool)]
abbrev M_spec_PiecesAfter : List RMode := [.own 24]
abbrev Ft_spec_PiecesAfter : Type := D_Heap × (List D_A2) × Unit → Option ((List (List D_A3)) × Bool × Unit)
def X_spec_PiecesAfter (n : Nat) (F_spec_l11Cut : Ft_spec_l11Cut) (F_spec_l2Heap : Ft_spec_l2Heap) (F_spec_l11Pieces : Ft_spec_l11Pieces) : Ctx := { types := TT, globals := [], con := [(30, ⟨As_spec_l11Cut, R_spec_l11Cut, M_spec_l11Cut, F_spec_l11Cut⟩), (42, ⟨As_spec_l2Heap, R_spec_l2Heap, M_spec_l2Heap, F_spec_l2Heap⟩), (43, ⟨As_spec_l11Pieces, R_spec_l11Pieces, M_spec_l11Pieces, F_spec_l11Pieces⟩)], keep := [(4, ⟨[.box 2, .tmp 1, .tmp 2, .tmp 6], []⟩)], results := [.tmp 4, .tmp 5], ntmps := 39, n := n }
def B_spec_PiecesAfter : Code := (Try.f13.body).getD .skip
def L_spec_PiecesAfter_4 (n : Nat) (F_spec_l11Cut : Ft_spec_l11Cut) (F_spec_l2Heap : Ft_spec_l2Heap) (F_spec_l11Pieces : Ft_spec_l11Pieces) (m0 : Nat) (p0 p1 p2 : Int) (p3 : List D_A3) (p4 : List D_A2) (p5 : Int) : Option (denL R_spec_PiecesAfter) := loopF (X_spec_PiecesAfter n F_spec_l11Cut F_spec_l2Heap F_spec_l11Pieces) B_spec_PiecesAfter R_spec_PiecesAfter M_spec_PiecesAfter 4 [m0] [(.ver, .num 1), (.box 2, .box 0 false [.int .i64 p0, .int .i64 p1, .int .i64 p2, .imm T_A3 p3 (some 3)]), (.tmp 1, .val false [.imm T_A2 p4 (some 4)]), (.tmp 2, .val false [.addr 2 0 0]), (.tmp 6, .val false [.int .i64 p5])]
theorem e_spec_PiecesAfter (n : Nat) (F_spec_l11Cut : Ft_spec_l11Cut) (F_spec_l2Heap : Ft_spec_l2Heap) (F_spec_l11Pieces : Ft_spec_l11Pieces) (a0 : D_Heap) (a1 : List D_A2) : runF (X_spec_PiecesAfter n F_spec_l11Cut F_spec_l2Heap F_spec_l11Pieces) B_spec_PiecesAfter As_spec_PiecesAfter R_spec_PiecesAfter M_spec_PiecesAfter (a0, a1, ()) = 
 Option.bind (F_spec_l2Heap (a0, ())) fun r0 =>
 bif !r0.1 then
 some (([] : List (List D_A3)), false, ())
 else
 bif decide ((List.length a1 : Int) > 12) then
 some (([] : List (List D_A3)), false, ())
 else
 L_spec_PiecesAfter_4 n F_spec_l11Cut F_spec_l2Heap F_spec_l11Pieces n a0.1 a0.2.1 a0.2.2.1 a0.2.2.2.1 a1 0 := by kernel_rfl
theorem e_spec_PiecesAfter_4 (n : Nat) (F_spec_l11Cut : Ft_spec_l11Cut) (F_spec_l2Heap : Ft_spec_l2Heap) (F_spec_l11Pieces : Ft_spec_l11Pieces) (m0 : Nat) (p0 p1 p2 : Int) (p3 : List D_A3) (p4 : List D_A2) (p5 : Int) : L_spec_PiecesAfter_4 n F_spec_l11Cut F_spec_l2Heap F_spec_l11Pieces (m0 + 1) p0 p1 p2 p3 p4 p5 = 
 bif decide (p5 < (List.length p4 : Int)) then
 bif inB p5 (List.length p4) then
 bif inB p5 (List.length p4) then
 Option.bind (F_spec_l11Cut ((p0, (p1, (p2, (p3, ())))), ((nth T_A2 p4 p5)).1, (((nth T_A2 p4 p5)).2).1, ())) fun r3 =>
 bif !r3.1 then
 some (([] : List (List D_A3)), false, ())
 else
 L_spec_PiecesAfter_4 n F_spec_l11Cut F_spec_l2Heap F_spec_l11Pieces m0 p0 p1 p2 p3 p4 (IntKind.wrap .i64 (p5 + 1))
 else none
 else none
 else
 Option.bind (F_spec_l11Pieces ((p0, (p1, (p2, (p3, ())))), p4, ())) fun r1 =>
 some (r1.1, true, ()) := by kernel_rfl
def P_spec_PiecesAfter : Ft_spec_PiecesAfter := hid (runF (X_spec_PiecesAfter N P_spec_l11Cut P_spec_l2Heap P_spec_l11Pieces) B_spec_PiecesAfter As_spec_PiecesAfter R_spec_PiecesAfter M_spec_PiecesAfter)
theorem h_spec_PiecesAfter : P_spec_PiecesAfter = runF (X_spec_PiecesAfter N P_spec_l11Cut P_spec_l2Heap P_spec_l11Pieces) B_spec_PiecesAfter As_spec_PiecesAfter R_spec_PiecesAfter M_spec_PiecesAfter := hid_eq _
def C_spec_PiecesAfter : Contract := ⟨As_spec_PiecesAfter, R_spec_PiecesAfter, M_spec_PiecesAfter, P_spec_PiecesAfter⟩
theorem s_spec_PiecesAfter : Sound Try.prog GG 13 C_spec_PiecesAfter := by
 unfold C_spec_PiecesAfter; rw [h_spec_PiecesAfter]
 exact sound_of_run (fn := Try.f13) hmix hstable (tyOK_of ttOK) (hglob _) (conOK_of ⟨s_spec_l11Cut, s_spec_l2Heap, s_spec_l11Pieces, trivial⟩) (mconOK_of trivial) (by kernel_rfl) (by kernel_rfl) (by kernel_rfl) (by kernel_rfl) (by kernel_rfl) (of_decide_eq_true (by kernel_rfl))
def l_spec_PiecesAfter_4 : Nat → Int → Int → Int → (List D_A3) → (List D_A2) → Int → Option (denL R_spec_PiecesAfter) := hid (fun m0 p0 p1 p2 p3 p4 p5 => L_spec_PiecesAfter_4 N P_spec_l11Cut P_spec_l2Heap P_spec_l11Pieces m0 p0 p1 p2 p3 p4 p5)
theorem h_spec_PiecesAfter_4 : l_spec_PiecesAfter_4 = fun m0 p0 p1 p2 p3 p4 p5 => L_spec_PiecesAfter_4 N P_spec_l11Cut P_spec_l2Heap P_spec_l11Pieces m0 p0 p1 p2 p3 p4 p5 := hid_eq _
theorem p_spec_PiecesAfter (a0 : D_Heap) (a1 : List D_A2) : P_spec_PiecesAfter (a0, a1, ()) = 
 Option.bind (P_spec_l2Heap (a0, ())) fun r0 =>
 bif !r0.1 then
 some (([] : List (List D_A3)), false, ())
 else
 bif decide ((List.length a1 : Int) > 12) then
 some (([] : List (List D_A3)), false, ())
 else
 l_spec_PiecesAfter_4 N a0.1 a0.2.1 a0.2.2.1 a0.2.2.2.1 a1 0 := by
 rewrite [h_spec_PiecesAfter, h_spec_PiecesAfter_4]
 exact e_spec_PiecesAfter N P_spec_l11Cut P_spec_l2Heap P_spec_l11Pieces a0 a1
theorem q_spec_PiecesAfter_4 (m0 : Nat) (p0 p1 p2 : Int) (p3 : List D_A3) (p4 : List D_A2) (p5 : Int) : l_spec_PiecesAfter_4 (m0 + 1) p0 p1 p2 p3 p4 p5 = 
 bif decide (p5 < (List.length p4 : Int)) then
 bif inB p5 (List.length p4) then
 bif inB p5 (List.length p4) then
 Option.bind (P_spec_l11Cut ((p0, (p1, (p2, (p3, ())))), ((nth T_A2 p4 p5)).1, (((nth T_A2 p4 p5)).2).1, ())) fun r3 =>
 bif !r3.1 then
 some (([] : List (List D_A3)), false, ())
 else
 l_spec_PiecesAfter_4 m0 p0 p1 p2 p3 p4 (IntKind.wrap .i64 (p5 + 1))
 else none
 else none
 else
 Option.bind (P_spec_l11Pieces ((p0, (p1, (p2, (p3, ())))), p4, ())) fun r1 =>
 some (r1.1, true, ()) := by
 rewrite [h_spec_PiecesAfter_4]
 exact e_spec_PiecesAfter_4 N P_spec_l11Cut P_spec_l2Heap P_spec_l11Pieces m0 p0 p1 p2 p3 p4 p5

abbrev As_laws_rLists : List ATy := [.data false (.sl (.sl T_A3)), .data false (.sl (.sl T_A3))]
abbrev R_laws_rLists : List (Bool × Ty) := [(false, .bool)]
abbrev M_laws_rLists : List RMode := []
abbrev Ft_laws_rLists : Type := (List (List D_A3)) × (List (List D_A3)) × Unit → Option (Bool × Unit)
def X_laws_rLists (n : Nat) (F_laws_rCells : Ft_laws_rCells) : Ctx := { types := TT, globals := [], con := [(33, ⟨As_laws_rCells, R_laws_rCells, M_laws_rCells, F_laws_rCells⟩)], keep := [(4, ⟨[.tmp 0, .tmp 1, .tmp 5], []⟩)], results := [.tmp 4], ntmps := 27, n := n }
def B_laws_rLists : Code := (Try.f14.body).getD .skip
def L_laws_rLists_4 (n : Nat) (F_laws_rCells : Ft_laws_rCells) (m0 : Nat) (p0 : List (List D_A3)) (p1 : List (List D_A3)) (p2 : Int) : Option (denL R_laws_rLists) := loopF (X_laws_rLists n F_laws_rCells) B_laws_rLists R_laws_rLists M_laws_rLists 4 [m0] [(.ver, .num 1), (.tmp 0, .val false [.imm (.sl T_A3) p0 (some 0)]), (.tmp 1, .val false [.imm (.sl T_A3) p1 (some 1)]), (.tmp 5, .val false [.int .i64 p2])]
theorem e_laws_rLists (n : Nat) (F_laws_rCells : Ft_laws_rCells) (a0 : List (List D_A3)) (a1 : List (List D_A3)) : runF (X_laws_rLists n F_laws_rCells) B_laws_rLists As_laws_rLists R_laws_rLists M_laws_rLists (a0, a1, ()) = 
 bif !decide ((List.length a0 : Int) = (List.length a1 : Int)) then
 some (false, ())
 else
 L_laws_rLists_4 n F_laws_rCells n a0 a1 0 := by kernel_rfl
theorem e_laws_rLists_4 (n : Nat) (F_laws_rCells : Ft_laws_rCells) (m0 : Nat) (p0 : List (List D_A3)) (p1 : List (List D_A3)) (p2 : Int) : L_laws_rLists_4 n F_laws_rCells (m0 + 1) p0 p1 p2 = 
 bif decide (p2 < (List.length p0 : Int)) then
 bif inB p2 (List.length p0) then
 bif inB p2 (List.length p1) then
 Option.bind (F_laws_rCells ((nth ((.sl T_A3) : Ty) p0 p2), (nth ((.sl T_A3) : Ty) p1 p2), ())) fun r3 =>
 bif !r3.1 then
 some (false, ())
 else
 L_laws_rLists_4 n F_laws_rCells m0 p0 p1 (IntKind.wrap .i64 (p2 + 1))
 else none
 else none
 else
 some (true, ()) := by kernel_rfl
def P_laws_rLists : Ft_laws_rLists := hid (runF (X_laws_rLists N P_laws_rCells) B_laws_rLists As_laws_rLists R_laws_rLists M_laws_rLists)
theorem h_laws_rLists : P_laws_rLists = runF (X_laws_rLists N P_laws_rCells) B_laws_rLists As_laws_rLists R_laws_rLists M_laws_rLists := hid_eq _
def C_laws_rLists : Contract := ⟨As_laws_rLists, R_laws_rLists, M_laws_rLists, P_laws_rLists⟩
theorem s_laws_rLists : Sound Try.prog GG 14 C_laws_rLists := by
 unfold C_laws_rLists; rw [h_laws_rLists]
 exact sound_of_run (fn := Try.f14) hmix hstable (tyOK_of ttOK) (hglob _) (conOK_of ⟨s_laws_rCells, trivial⟩) (mconOK_of trivial) (by kernel_rfl) (by kernel_rfl) (by kernel_rfl) (by kernel_rfl) (by kernel_rfl) (of_decide_eq_true (by kernel_rfl))
def l_laws_rLists_4 : Nat → (List (List D_A3)) → (List (List D_A3)) → Int → Option (denL R_laws_rLists) := hid (fun m0 p0 p1 p2 => L_laws_rLists_4 N P_laws_rCells m0 p0 p1 p2)
theorem h_laws_rLists_4 : l_laws_rLists_4 = fun m0 p0 p1 p2 => L_laws_rLists_4 N P_laws_rCells m0 p0 p1 p2 := hid_eq _
theorem p_laws_rLists (a0 : List (List D_A3)) (a1 : List (List D_A3)) : P_laws_rLists (a0, a1, ()) = 
 bif !decide ((List.length a0 : Int) = (List.length a1 : Int)) then
 some (false, ())
 else
 l_laws_rLists_4 N a0 a1 0 := by
 rewrite [h_laws_rLists, h_laws_rLists_4]
 exact e_laws_rLists N P_laws_rCells a0 a1
theorem q_laws_rLists_4 (m0 : Nat) (p0 : List (List D_A3)) (p1 : List (List D_A3)) (p2 : Int) : l_laws_rLists_4 (m0 + 1) p0 p1 p2 = 
 bif decide (p2 < (List.length p0 : Int)) then
 bif inB p2 (List.length p0) then
 bif inB p2 (List.length p1) then
 Option.bind (P_laws_rCells ((nth ((.sl T_A3) : Ty) p0 p2), (nth ((.sl T_A3) : Ty) p1 p2), ())) fun r3 =>
 bif !r3.1 then
 some (false, ())
 else
 l_laws_rLists_4 m0 p0 p1 (IntKind.wrap .i64 (p2 + 1))
 else none
 else none
 else
 some (true, ()) := by
 rewrite [h_laws_rLists_4]
 exact e_laws_rLists_4 N P_laws_rCells m0 p0 p1 p2

abbrev As_spec_DrawGlueHeaps : List ATy := [.data false (.sl (.int .u8))]
abbrev R_spec_DrawGlueHeaps : List (Bool × Ty) := [(true, T_Heap), (true, T_Heap), (false, (.int .i64))]
abbrev M_spec_DrawGlueHeaps : List RMode := [.own 49, .own 49]
abbrev Ft_spec_DrawGlueHeaps : Type := (List Int) × Unit → Option (D_Heap × D_Heap × Int × Unit)
def X_spec_DrawGlueHeaps (n : Nat) (F_spec_DrawCutHeap : Ft_spec_DrawCutHeap) (F_spec_CutHeap : Ft_spec_CutHeap) (F_l1Cur_one : Ft_l1Cur_one) (F_l1Cur_heap : Ft_l1Cur_heap) : Ctx := { types := TT, globals := [], con := [(5, ⟨As_spec_DrawCutHeap, R_spec_DrawCutHeap, M_spec_DrawCutHeap, F_spec_DrawCutHeap⟩), (7, ⟨As_spec_CutHeap, R_spec_CutHeap, M_spec_CutHeap, F_spec_CutHeap⟩)], mcon := [(44, ⟨As_l1Cur_one, R_l1Cur_one, M_l1Cur_one, F_l1Cur_one⟩), (45, ⟨As_l1Cur_heap, R_l1Cur_heap, M_l1Cur_heap, F_l1Cur_heap⟩)], keep := [], results := [.cell 2 26, .cell 3 26, .tmp 4], ntmps := 47, n := n }
def B_spec_DrawGlueHeaps : Code := (Try.f15.body).getD .skip
theorem e_spec_DrawGlueHeaps (n : Nat) (F_spec_DrawCutHeap : Ft_spec_DrawCutHeap) (F_spec_CutHeap : Ft_spec_CutHeap) (F_l1Cur_one : Ft_l1Cur_one) (F_l1Cur_heap : Ft_l1Cur_heap) (a0 : List Int) : runF (X_spec_DrawGlueHeaps n F_spec_DrawCutHeap F_spec_CutHeap F_l1Cur_one F_l1Cur_heap) B_spec_DrawGlueHeaps As_spec_DrawGlueHeaps R_spec_DrawGlueHeaps M_spec_DrawGlueHeaps (a0, ()) = 
 Option.bind (F_spec_DrawCutHeap (a0, ())) fun r0 =>
 Option.bind (F_spec_CutHeap (r0.1, r0.2.1, r0.2.2.1, ())) fun r1 =>
 bif r1.2.2.1 then
 Option.bind (F_l1Cur_one ((a0, (0, (0, ()))), 4, ())) fun r3 =>
 bif !r3.1.1 then
 Option.bind (F_l1Cur_one ((a0, r3.2.1.2), 3, ())) fun r5 =>
 bif r5.1.1 then
 some (r1.2.1, r1.1, r0.2.1, ())
 else
 some (r1.1, r1.2.1, r0.2.1, ())
 else
 Option.bind (F_l1Cur_heap ((a0, r3.2.1.2), ())) fun r5 =>
 some (r0.1, r5.1.1, r0.2.1, ())
 else
 Option.bind (F_l1Cur_heap ((a0, (0, (0, ()))), ())) fun r3 =>
 some (r0.1, r3.1.1, r0.2.1, ()) := by kernel_rfl
def P_spec_DrawGlueHeaps : Ft_spec_DrawGlueHeaps := hid (runF (X_spec_DrawGlueHeaps N P_spec_DrawCutHeap P_spec_CutHeap P_l1Cur_one P_l1Cur_heap) B_spec_DrawGlueHeaps As_spec_DrawGlueHeaps R_spec_DrawGlueHeaps M_spec_DrawGlueHeaps)
theorem h_spec_DrawGlueHeaps : P_spec_DrawGlueHeaps = runF (X_spec_DrawGlueHeaps N P_spec_DrawCutHeap P_spec_CutHeap P_l1Cur_one P_l1Cur_heap) B_spec_DrawGlueHeaps As_spec_DrawGlueHeaps R_spec_DrawGlueHeaps M_spec_DrawGlueHeaps := hid_eq _
def C_spec_DrawGlueHeaps : Contract := ⟨As_spec_DrawGlueHeaps, R_spec_DrawGlueHeaps, M_spec_DrawGlueHeaps, P_spec_DrawGlueHeaps⟩
theorem s_spec_DrawGlueHeaps : Sound Try.prog GG 15 C_spec_DrawGlueHeaps := by
 unfold C_spec_DrawGlueHeaps; rw [h_spec_DrawGlueHeaps]
 exact sound_of_run (fn := Try.f15) hmix hstable (tyOK_of ttOK) (hglob _) (conOK_of ⟨s_spec_DrawCutHeap, s_spec_CutHeap, trivial⟩) (mconOK_of ⟨s_l1Cur_one, s_l1Cur_heap, trivial⟩) (by kernel_rfl) (by kernel_rfl) (by kernel_rfl) (by kernel_rfl) (by kernel_rfl) (of_decide_eq_true (by kernel_rfl))
theorem p_spec_DrawGlueHeaps (a0 : List Int) : P_spec_DrawGlueHeaps (a0, ()) = 
 Option.bind (P_spec_DrawCutHeap (a0, ())) fun r0 =>
 Option.bind (P_spec_CutHeap (r0.1, r0.2.1, r0.2.2.1, ())) fun r1 =>
 bif r1.2.2.1 then
 Option.bind (P_l1Cur_one ((a0, (0, (0, ()))), 4, ())) fun r3 =>
 bif !r3.1.1 then
 Option.bind (P_l1Cur_one ((a0, r3.2.1.2), 3, ())) fun r5 =>
 bif r5.1.1 then
 some (r1.2.1, r1.1, r0.2.1, ())
 else
 some (r1.1, r1.2.1, r0.2.1, ())
 else
 Option.bind (P_l1Cur_heap ((a0, r3.2.1.2), ())) fun r5 =>
 some (r0.1, r5.1.1, r0.2.1, ())
 else
 Option.bind (P_l1Cur_heap ((a0, (0, (0, ()))), ())) fun r3 =>
 some (r0.1, r3.1.1, r0.2.1, ()) := by
 rewrite [h_spec_DrawGlueHeaps]
 exact e_spec_DrawGlueHeaps N P_spec_DrawCutHeap P_spec_CutHeap P_l1Cur_one P_l1Cur_heap a0

abbrev As_impl_others : List ATy := [.data false (.int .i64)]
abbrev R_impl_others : List (Bool × Ty) := [(false, (.int .i64)), (false, (.int .i64))]
abbrev M_impl_others : List RMode := []
abbrev Ft_impl_others : Type := Int × Unit → Option (Int × Int × Unit)
def X_impl_others (n : Nat) : Ctx := { types := TT, globals := [], con := [], keep := [], results := [.tmp 2, .tmp 3], ntmps := 9, n := n }
def B_impl_others : Code := (Try.f47.body).getD .skip
theorem e_impl_others (n : Nat) (a0 : Int) : runF (X_impl_others n) B_impl_others As_impl_others R_impl_others M_impl_others (a0, ()) = 
 bif decide (a0 = 0) then
 some (1, 2, ())
 else
 bif decide (a0 = 1) then
 some (0, 2, ())
 else
 some (0, 1, ()) := by kernel_rfl
def P_impl_others : Ft_impl_others := hid (runF (X_impl_others N) B_impl_others As_impl_others R_impl_others M_impl_others)
theorem h_impl_others : P_impl_others = runF (X_impl_others N) B_impl_others As_impl_others R_impl_others M_impl_others := hid_eq _
def C_impl_others : Contract := ⟨As_impl_others, R_impl_others, M_impl_others, P_impl_others⟩
theorem s_impl_others : Sound Try.prog GG 47 C_impl_others := by
 unfold C_impl_others; rw [h_impl_others]
 exact sound_of_run (fn := Try.f47) hmix hstable (tyOK_of ttOK) (hglob _) (conOK_of trivial) (mconOK_of trivial) (by kernel_rfl) (by kernel_rfl) (by kernel_rfl) (by kernel_rfl) (by kernel_rfl) (of_decide_eq_true (by kernel_rfl))
theorem p_impl_others (a0 : Int) : P_impl_others (a0, ()) = 
 bif decide (a0 = 0) then
 some (1, 2, ())
 else
 bif decide (a0 = 1) then
 some (0, 2, ())
 else
 some (0, 1, ()) := by
 rewrite [h_impl_others]
 exact e_impl_others N a0

abbrev As_impl_GlueHeaps : List ATy := [.data true T_Heap, .data true T_Heap, .data false (.int .i64)]
abbrev R_impl_GlueHeaps : List (Bool × Ty) := [(true, T_Heap), (false, .bool)]
abbrev M_impl_GlueHeaps : List RMode := [.own 49]
abbrev Ft_impl_GlueHeaps : Type := D_Heap × D_Heap × Int × Unit → Option (D_Heap × Bool × Unit)
def X_impl_GlueHeaps (n : Nat) (F_impl_IsHeap : Ft_impl_IsHeap) (F_Heap_box : Ft_Heap_box) (F_box_index : Ft_box_index) (F_box_heap : Ft_box_heap) (F_impl_isDirection : Ft_impl_isDirection) (F_impl_others : Ft_impl_others) (F_box_valid : Ft_box_valid) : Ctx := { types := TT, globals := [], con := [(20, ⟨As_impl_IsHeap, R_impl_IsHeap, M_impl_IsHeap, F_impl_IsHeap⟩), (27, ⟨As_Heap_box, R_Heap_box, M_Heap_box, F_Heap_box⟩), (28, ⟨As_box_index, R_box_index, M_box_index, F_box_index⟩), (29, ⟨As_box_heap, R_box_heap, M_box_heap, F_box_heap⟩), (46, ⟨As_impl_isDirection, R_impl_isDirection, M_impl_isDirection, F_impl_isDirection⟩), (47, ⟨As_impl_others, R_impl_others, M_impl_others, F_impl_others⟩), (48, ⟨As_box_valid, R_box_valid, M_box_valid, F_box_valid⟩)], keep := [(10, ⟨[.box 3, .box 4, .box 6, .box 10, .tmp 2, .tmp 3, .tmp 4, .tmp 6, .tmp 10, .tmp 12, .tmp 71, .tmp 72, .tmp 73], []⟩), (15, ⟨[.box 3, .box 6, .box 10, .tmp 2, .tmp 3, .tmp 6, .tmp 10, .tmp 12, .tmp 85, .tmp 86, .tmp 87], []⟩)], results := [.cell 6 26, .tmp 7], ntmps := 110, n := n }
def B_impl_GlueHeaps : Code := (Try.f16.body).getD .skip
def L_impl_GlueHeaps_10 (n : Nat) (F_impl_IsHeap : Ft_impl_IsHeap) (F_Heap_box : Ft_Heap_box) (F_box_index : Ft_box_index) (F_box_heap : Ft_box_heap) (F_impl_isDirection : Ft_impl_isDirection) (F_impl_others : Ft_impl_others) (F_box_valid : Ft_box_valid) (m0 : Nat) (p0 p1 p2 : Int) (p3 : List D_A3) (p4 p5 p6 : Int) (p7 : List D_A3) (p8 p9 p10 : Int) (p11 : List D_A3) (p12 p13 : Int) (p14 p15 p16 : Int) (p17 : List D_A3) (p18 p19 : Int) : Option (denL R_impl_GlueHeaps) := loopF (X_impl_GlueHeaps n F_impl_IsHeap F_Heap_box F_box_index F_box_heap F_impl_isDirection F_impl_others F_box_valid) B_impl_GlueHeaps R_impl_GlueHeaps M_impl_GlueHeaps 10 [m0] [(.ver, .num 1), (.box 3, .box 0 false [.int .i64 p0, .int .i64 p1, .int .i64 p2, .imm T_A3 p3 (some 3)]), (.box 4, .box 0 false [.int .i64 p4, .int .i64 p5, .int .i64 p6, .imm T_A3 p7 (some 7)]), (.box 6, .box 0 false [.int .i64 p8, .int .i64 p9, .int .i64 p10, .own 49 T_A3 0 p11]), (.box 10, .box 0 false [.int .i64 p12, .int .i64 p13, .int .i64 p14]), (.tmp 2, .val false [.int .i64 p15]), (.tmp 3, .val false [.addr 3 0 0]), (.tmp 4, .val false [.addr 4 0 0]), (.tmp 6, .val false [.addr 6 0 0]), (.tmp 10, .val false [.addr 10 0 0]), (.tmp 12, .val false [.int .u64 p16]), (.tmp 71, .val false [.imm T_A3 p17 (some 3)]), (.tmp 72, .val false [.int .i64 p18]), (.tmp 73, .val false [.int .i64 p19])]
def L_impl_GlueHeaps_15 (n : Nat) (F_impl_IsHeap : Ft_impl_IsHeap) (F_Heap_box : Ft_Heap_box) (F_box_index : Ft_box_index) (F_box_heap : Ft_box_heap) (F_impl_isDirection : Ft_impl_isDirection) (F_impl_others : Ft_impl_others) (F_box_valid : Ft_box_valid) (m0 : Nat) (p0 p1 p2 : Int) (p3 : List D_A3) (p4 p5 p6 : Int) (p7 : List D_A3) (p8 p9 : Int) (p10 p11 p12 : Int) (p13 : List D_A3) (p14 p15 : Int) : Option (denL R_impl_GlueHeaps) := loopF (X_impl_GlueHeaps n F_impl_IsHeap F_Heap_box F_box_index F_box_heap F_impl_isDirection F_impl_others F_box_valid) B_impl_GlueHeaps R_impl_GlueHeaps M_impl_GlueHeaps 15 [m0] [(.ver, .num 1), (.box 3, .box 0 false [.int .i64 p0, .int .i64 p1, .int .i64 p2, .imm T_A3 p3 (some 3)]), (.box 6, .box 0 false [.int .i64 p4, .int .i64 p5, .int .i64 p6, .own 49 T_A3 0 p7]), (.box 10, .box 0 false [.int .i64 p8, .int .i64 p9, .int .i64 p10]), (.tmp 2, .val false [.int .i64 p11]), (.tmp 3, .val false [.addr 3 0 0]), (.tmp 6, .val false [.addr 6 0 0]), (.tmp 10, .val false [.addr 10 0 0]), (.tmp 12, .val false [.int .u64 p12]), (.tmp 85, .val false [.imm T_A3 p13 (some 7)]), (.tmp 86, .val false [.int .i64 p14]), (.tmp 87, .val false [.int .i64 p15])]
theorem e_impl_GlueHeaps (n : Nat) (F_impl_IsHeap : Ft_impl_IsHeap) (F_Heap_box : Ft_Heap_box) (F_box_index : Ft_box_index) (F_box_heap : Ft_box_heap) (F_impl_isDirection : Ft_impl_isDirection) (F_impl_others : Ft_impl_others) (F_box_valid : Ft_box_valid) (a0 a1 : D_Heap) (a2 : Int) : runF (X_impl_GlueHeaps n F_impl_IsHeap F_Heap_box F_box_index F_box_heap F_impl_isDirection F_impl_others F_box_valid) B_impl_GlueHeaps As_impl_GlueHeaps R_impl_GlueHeaps M_impl_GlueHeaps (a0, a1, a2, ()) = 
 Option.bind (F_impl_IsHeap (a0, ())) fun r0 =>
 bif !r0.1 then
 some ((0, (0, (0, (([] : List D_A3), ())))), false, ())
 else
 Option.bind (F_impl_IsHeap (a1, ())) fun r2 =>
 bif !r2.1 then
 some ((0, (0, (0, (([] : List D_A3), ())))), false, ())
 else
 Option.bind (F_impl_isDirection (a2, ())) fun r4 =>
 bif !r4.1 then
 some ((0, (0, (0, (([] : List D_A3), ())))), false, ())
 else
 Option.bind (F_impl_others (a2, ())) fun r6 =>
 Option.bind (F_Heap_box (a0, ())) fun r7 =>
 Option.bind (F_Heap_box (a1, ())) fun r8 =>
 bif inB a2 3 then
 bif inB a2 3 then
 bif inB a2 3 then
 bif inB r6.1 3 then
 bif inB r6.1 3 then
 bif !decide ((bif decide (r6.1 = (0 : Int)) then (bif decide (a2 = (0 : Int)) then (IntKind.wrap .i64 ((bif decide (a2 = (0 : Int)) then r7.1.1 else (bif decide (a2 = (1 : Int)) then r7.1.2.1 else r7.1.2.2.1)) + (bif decide (a2 = (0 : Int)) then r8.1.1 else (bif decide (a2 = (1 : Int)) then r8.1.2.1 else r8.1.2.2.1)))) else r7.1.1) else (bif decide (r6.1 = (1 : Int)) then (bif decide (a2 = (1 : Int)) then (IntKind.wrap .i64 ((bif decide (a2 = (0 : Int)) then r7.1.1 else (bif decide (a2 = (1 : Int)) then r7.1.2.1 else r7.1.2.2.1)) + (bif decide (a2 = (0 : Int)) then r8.1.1 else (bif decide (a2 = (1 : Int)) then r8.1.2.1 else r8.1.2.2.1)))) else r7.1.2.1) else (bif decide (a2 = (2 : Int)) then (IntKind.wrap .i64 ((bif decide (a2 = (0 : Int)) then r7.1.1 else (bif decide (a2 = (1 : Int)) then r7.1.2.1 else r7.1.2.2.1)) + (bif decide (a2 = (0 : Int)) then r8.1.1 else (bif decide (a2 = (1 : Int)) then r8.1.2.1 else r8.1.2.2.1)))) else r7.1.2.2.1))) = (bif decide (r6.1 = (0 : Int)) then r8.1.1 else (bif decide (r6.1 = (1 : Int)) then r8.1.2.1 else r8.1.2.2.1))) then
 some ((0, (0, (0, (([] : List D_A3), ())))), false, ())
 else
 bif inB r6.2.1 3 then
 bif inB r6.2.1 3 then
 bif !decide ((bif decide (r6.2.1 = (0 : Int)) then (bif decide (a2 = (0 : Int)) then (IntKind.wrap .i64 ((bif decide (a2 = (0 : Int)) then r7.1.1 else (bif decide (a2 = (1 : Int)) then r7.1.2.1 else r7.1.2.2.1)) + (bif decide (a2 = (0 : Int)) then r8.1.1 else (bif decide (a2 = (1 : Int)) then r8.1.2.1 else r8.1.2.2.1)))) else r7.1.1) else (bif decide (r6.2.1 = (1 : Int)) then (bif decide (a2 = (1 : Int)) then (IntKind.wrap .i64 ((bif decide (a2 = (0 : Int)) then r7.1.1 else (bif decide (a2 = (1 : Int)) then r7.1.2.1 else r7.1.2.2.1)) + (bif decide (a2 = (0 : Int)) then r8.1.1 else (bif decide (a2 = (1 : Int)) then r8.1.2.1 else r8.1.2.2.1)))) else r7.1.2.1) else (bif decide (a2 = (2 : Int)) then (IntKind.wrap .i64 ((bif decide (a2 = (0 : Int)) then r7.1.1 else (bif decide (a2 = (1 : Int)) then r7.1.2.1 else r7.1.2.2.1)) + (bif decide (a2 = (0 : Int)) then r8.1.1 else (bif decide (a2 = (1 : Int)) then r8.1.2.1 else r8.1.2.2.1)))) else r7.1.2.2.1))) = (bif decide (r6.2.1 = (0 : Int)) then r8.1.1 else (bif decide (r6.2.1 = (1 : Int)) then r8.1.2.1 else r8.1.2.2.1))) then
 some ((0, (0, (0, (([] : List D_A3), ())))), false, ())
 else
 Option.bind (F_box_valid (((bif decide (a2 = (0 : Int)) then (IntKind.wrap .i64 ((bif decide (a2 = (0 : Int)) then r7.1.1 else (bif decide (a2 = (1 : Int)) then r7.1.2.1 else r7.1.2.2.1)) + (bif decide (a2 = (0 : Int)) then r8.1.1 else (bif decide (a2 = (1 : Int)) then r8.1.2.1 else r8.1.2.2.1)))) else r7.1.1), ((bif decide (a2 = (1 : Int)) then (IntKind.wrap .i64 ((bif decide (a2 = (0 : Int)) then r7.1.1 else (bif decide (a2 = (1 : Int)) then r7.1.2.1 else r7.1.2.2.1)) + (bif decide (a2 = (0 : Int)) then r8.1.1 else (bif decide (a2 = (1 : Int)) then r8.1.2.1 else r8.1.2.2.1)))) else r7.1.2.1), ((bif decide (a2 = (2 : Int)) then (IntKind.wrap .i64 ((bif decide (a2 = (0 : Int)) then r7.1.1 else (bif decide (a2 = (1 : Int)) then r7.1.2.1 else r7.1.2.2.1)) + (bif decide (a2 = (0 : Int)) then r8.1.1 else (bif decide (a2 = (1 : Int)) then r8.1.2.1 else r8.1.2.2.1)))) else r7.1.2.2.1), ()))), ())) fun r18 =>
 bif !r18.1 then
 some ((0, (0, (0, (([] : List D_A3), ())))), false, ())
 else
 L_impl_GlueHeaps_10 n F_impl_IsHeap F_Heap_box F_box_index F_box_heap F_impl_isDirection F_impl_others F_box_valid n a0.1 a0.2.1 a0.2.2.1 a0.2.2.2.1 a1.1 a1.2.1 a1.2.2.1 a1.2.2.2.1 0 0 0 ([] : List D_A3) (bif decide (a2 = (0 : Int)) then (IntKind.wrap .i64 ((bif decide (a2 = (0 : Int)) then r7.1.1 else (bif decide (a2 = (1 : Int)) then r7.1.2.1 else r7.1.2.2.1)) + (bif decide (a2 = (0 : Int)) then r8.1.1 else (bif decide (a2 = (1 : Int)) then r8.1.2.1 else r8.1.2.2.1)))) else r7.1.1) (bif decide (a2 = (1 : Int)) then (IntKind.wrap .i64 ((bif decide (a2 = (0 : Int)) then r7.1.1 else (bif decide (a2 = (1 : Int)) then r7.1.2.1 else r7.1.2.2.1)) + (bif decide (a2 = (0 : Int)) then r8.1.1 else (bif decide (a2 = (1 : Int)) then r8.1.2.1 else r8.1.2.2.1)))) else r7.1.2.1) (bif decide (a2 = (2 : Int)) then (IntKind.wrap .i64 ((bif decide (a2 = (0 : Int)) then r7.1.1 else (bif decide (a2 = (1 : Int)) then r7.1.2.1 else r7.1.2.2.1)) + (bif decide (a2 = (0 : Int)) then r8.1.1 else (bif decide (a2 = (1 : Int)) then r8.1.2.1 else r8.1.2.2.1)))) else r7.1.2.2.1) a2 0 a0.2.2.2.1 (List.length a0.2.2.2.1 : Int) 0
 else none
 else none
 else none
 else none
 else none
 else none
 else none := by kernel_rfl
theorem e_impl_GlueHeaps_10 (n : Nat) (F_impl_IsHeap : Ft_impl_IsHeap) (F_Heap_box : Ft_Heap_box) (F_box_index : Ft_box_index) (F_box_heap : Ft_box_heap) (F_impl_isDirection : Ft_impl_isDirection) (F_impl_others : Ft_impl_others) (F_box_valid : Ft_box_valid) (m0 : Nat) (p0 p1 p2 : Int) (p3 : List D_A3) (p4 p5 p6 : Int) (p7 : List D_A3) (p8 p9 p10 : Int) (p11 : List D_A3) (p12 p13 : Int) (p14 p15 p16 : Int) (p17 : List D_A3) (p18 p19 : Int) : L_impl_GlueHeaps_10 n F_impl_IsHeap F_Heap_box F_box_index F_box_heap F_impl_isDirection F_impl_others F_box_valid (m0 + 1) p0 p1 p2 p3 p4 p5 p6 p7 p8 p9 p10 p11 p12 p13 p14 p15 p16 p17 p18 p19 = 
 bif decide (p19 < p18) then
 bif inB p19 (List.length p17) then
 Option.bind (F_box_index ((p12, (p13, (p14, ()))), (nth T_A3 p17 p19), ())) fun r2 =>
 bif decide ((0 : Int) ≤ r2.1) then
 L_impl_GlueHeaps_10 n F_impl_IsHeap F_Heap_box F_box_index F_box_heap F_impl_isDirection F_impl_others F_box_valid m0 p0 p1 p2 p3 p4 p5 p6 p7 p8 p9 p10 p11 p12 p13 p14 p15 (intBits .or .u64 p16 (shlI .u64 1 r2.1)) p17 p18 (IntKind.wrap .i64 (p19 + 1))
 else none
 else none
 else
 L_impl_GlueHeaps_15 n F_impl_IsHeap F_Heap_box F_box_index F_box_heap F_impl_isDirection F_impl_others F_box_valid n p0 p1 p2 p3 p8 p9 p10 p11 p12 p13 p14 p15 p16 p7 (List.length p7 : Int) 0 := by kernel_rfl
theorem e_impl_GlueHeaps_15 (n : Nat) (F_impl_IsHeap : Ft_impl_IsHeap) (F_Heap_box : Ft_Heap_box) (F_box_index : Ft_box_index) (F_box_heap : Ft_box_heap) (F_impl_isDirection : Ft_impl_isDirection) (F_impl_others : Ft_impl_others) (F_box_valid : Ft_box_valid) (m0 : Nat) (p0 p1 p2 : Int) (p3 : List D_A3) (p4 p5 p6 : Int) (p7 : List D_A3) (p8 p9 : Int) (p10 p11 p12 : Int) (p13 : List D_A3) (p14 p15 : Int) : L_impl_GlueHeaps_15 n F_impl_IsHeap F_Heap_box F_box_index F_box_heap F_impl_isDirection F_impl_others F_box_valid (m0 + 1) p0 p1 p2 p3 p4 p5 p6 p7 p8 p9 p10 p11 p12 p13 p14 p15 = 
 bif decide (p15 < p14) then
 bif inB p15 (List.length p13) then
 bif inB p11 3 then
 Option.bind (F_Heap_box ((p0, (p1, (p2, (p3, ())))), ())) fun r3 =>
 bif inB p11 3 then
 bif inB p11 3 then
 Option.bind (F_box_index ((p8, (p9, (p10, ()))), ((bif decide (p11 = (0 : Int)) then (IntKind.wrap .i64 ((bif decide (p11 = (0 : Int)) then ((nth T_A3 p13 p15)).1 else (bif decide (p11 = (1 : Int)) then (((nth T_A3 p13 p15)).2).1 else ((((nth T_A3 p13 p15)).2).2).1)) + (bif decide (p11 = (0 : Int)) then r3.1.1 else (bif decide (p11 = (1 : Int)) then r3.1.2.1 else r3.1.2.2.1)))) else ((nth T_A3 p13 p15)).1), ((bif decide (p11 = (1 : Int)) then (IntKind.wrap .i64 ((bif decide (p11 = (0 : Int)) then ((nth T_A3 p13 p15)).1 else (bif decide (p11 = (1 : Int)) then (((nth T_A3 p13 p15)).2).1 else ((((nth T_A3 p13 p15)).2).2).1)) + (bif decide (p11 = (0 : Int)) then r3.1.1 else (bif decide (p11 = (1 : Int)) then r3.1.2.1 else r3.1.2.2.1)))) else (((nth T_A3 p13 p15)).2).1), ((bif decide (p11 = (2 : Int)) then (IntKind.wrap .i64 ((bif decide (p11 = (0 : Int)) then ((nth T_A3 p13 p15)).1 else (bif decide (p11 = (1 : Int)) then (((nth T_A3 p13 p15)).2).1 else ((((nth T_A3 p13 p15)).2).2).1)) + (bif decide (p11 = (0 : Int)) then r3.1.1 else (bif decide (p11 = (1 : Int)) then r3.1.2.1 else r3.1.2.2.1)))) else ((((nth T_A3 p13 p15)).2).2).1), ()))), ())) fun r6 =>
 bif decide ((0 : Int) ≤ r6.1) then
 L_impl_GlueHeaps_15 n F_impl_IsHeap F_Heap_box F_box_index F_box_heap F_impl_isDirection F_impl_others F_box_valid m0 p0 p1 p2 p3 p4 p5 p6 p7 p8 p9 p10 p11 (intBits .or .u64 p12 (shlI .u64 1 r6.1)) p13 p14 (IntKind.wrap .i64 (p15 + 1))
 else none
 else none
 else none
 else none
 else none
 else
 Option.bind (F_box_heap ((p8, (p9, (p10, ()))), p12, ())) fun r1 =>
 some (r1.1, true, ()) := by kernel_rfl
def P_impl_GlueHeaps : Ft_impl_GlueHeaps := hid (runF (X_impl_GlueHeaps N P_impl_IsHeap P_Heap_box P_box_index P_box_heap P_impl_isDirection P_impl_others P_box_valid) B_impl_GlueHeaps As_impl_GlueHeaps R_impl_GlueHeaps M_impl_GlueHeaps)
theorem h_impl_GlueHeaps : P_impl_GlueHeaps = runF (X_impl_GlueHeaps N P_impl_IsHeap P_Heap_box P_box_index P_box_heap P_impl_isDirection P_impl_others P_box_valid) B_impl_GlueHeaps As_impl_GlueHeaps R_impl_GlueHeaps M_impl_GlueHeaps := hid_eq _
def C_impl_GlueHeaps : Contract := ⟨As_impl_GlueHeaps, R_impl_GlueHeaps, M_impl_GlueHeaps, P_impl_GlueHeaps⟩
theorem s_impl_GlueHeaps : Sound Try.prog GG 16 C_impl_GlueHeaps := by
 unfold C_impl_GlueHeaps; rw [h_impl_GlueHeaps]
 exact sound_of_run (fn := Try.f16) hmix hstable (tyOK_of ttOK) (hglob _) (conOK_of ⟨s_impl_IsHeap, s_Heap_box, s_box_index, s_box_heap, s_impl_isDirection, s_impl_others, s_box_valid, trivial⟩) (mconOK_of trivial) (by kernel_rfl) (by kernel_rfl) (by kernel_rfl) (by kernel_rfl) (by kernel_rfl) (of_decide_eq_true (by kernel_rfl))
def l_impl_GlueHeaps_10 : Nat → Int → Int → Int → (List D_A3) → Int → Int → Int → (List D_A3) → Int → Int → Int → (List D_A3) → Int → Int → Int → Int → Int → (List D_A3) → Int → Int → Option (denL R_impl_GlueHeaps) := hid (fun m0 p0 p1 p2 p3 p4 p5 p6 p7 p8 p9 p10 p11 p12 p13 p14 p15 p16 p17 p18 p19 => L_impl_GlueHeaps_10 N P_impl_IsHeap P_Heap_box P_box_index P_box_heap P_impl_isDirection P_impl_others P_box_valid m0 p0 p1 p2 p3 p4 p5 p6 p7 p8 p9 p10 p11 p12 p13 p14 p15 p16 p17 p18 p19)
theorem h_impl_GlueHeaps_10 : l_impl_GlueHeaps_10 = fun m0 p0 p1 p2 p3 p4 p5 p6 p7 p8 p9 p10 p11 p12 p13 p14 p15 p16 p17 p18 p19 => L_impl_GlueHeaps_10 N P_impl_IsHeap P_Heap_box P_box_index P_box_heap P_impl_isDirection P_impl_others P_box_valid m0 p0 p1 p2 p3 p4 p5 p6 p7 p8 p9 p10 p11 p12 p13 p14 p15 p16 p17 p18 p19 := hid_eq _
def l_impl_GlueHeaps_15 : Nat → Int → Int → Int → (List D_A3) → Int → Int → Int → (List D_A3) → Int → Int → Int → Int → Int → (List D_A3) → Int → Int → Option (denL R_impl_GlueHeaps) := hid (fun m0 p0 p1 p2 p3 p4 p5 p6 p7 p8 p9 p10 p11 p12 p13 p14 p15 => L_impl_GlueHeaps_15 N P_impl_IsHeap P_Heap_box P_box_index P_box_heap P_impl_isDirection P_impl_others P_box_valid m0 p0 p1 p2 p3 p4 p5 p6 p7 p8 p9 p10 p11 p12 p13 p14 p15)
theorem h_impl_GlueHeaps_15 : l_impl_GlueHeaps_15 = fun m0 p0 p1 p2 p3 p4 p5 p6 p7 p8 p9 p10 p11 p12 p13 p14 p15 => L_impl_GlueHeaps_15 N P_impl_IsHeap P_Heap_box P_box_index P_box_heap P_impl_isDirection P_impl_others P_box_valid m0 p0 p1 p2 p3 p4 p5 p6 p7 p8 p9 p10 p11 p12 p13 p14 p15 := hid_eq _
theorem p_impl_GlueHeaps (a0 a1 : D_Heap) (a2 : Int) : P_impl_GlueHeaps (a0, a1, a2, ()) = 
 Option.bind (P_impl_IsHeap (a0, ())) fun r0 =>
 bif !r0.1 then
 some ((0, (0, (0, (([] : List D_A3), ())))), false, ())
 else
 Option.bind (P_impl_IsHeap (a1, ())) fun r2 =>
 bif !r2.1 then
 some ((0, (0, (0, (([] : List D_A3), ())))), false, ())
 else
 Option.bind (P_impl_isDirection (a2, ())) fun r4 =>
 bif !r4.1 then
 some ((0, (0, (0, (([] : List D_A3), ())))), false, ())
 else
 Option.bind (P_impl_others (a2, ())) fun r6 =>
 Option.bind (P_Heap_box (a0, ())) fun r7 =>
 Option.bind (P_Heap_box (a1, ())) fun r8 =>
 bif inB a2 3 then
 bif inB a2 3 then
 bif inB a2 3 then
 bif inB r6.1 3 then
 bif inB r6.1 3 then
 bif !decide ((bif decide (r6.1 = (0 : Int)) then (bif decide (a2 = (0 : Int)) then (IntKind.wrap .i64 ((bif decide (a2 = (0 : Int)) then r7.1.1 else (bif decide (a2 = (1 : Int)) then r7.1.2.1 else r7.1.2.2.1)) + (bif decide (a2 = (0 : Int)) then r8.1.1 else (bif decide (a2 = (1 : Int)) then r8.1.2.1 else r8.1.2.2.1)))) else r7.1.1) else (bif decide (r6.1 = (1 : Int)) then (bif decide (a2 = (1 : Int)) then (IntKind.wrap .i64 ((bif decide (a2 = (0 : Int)) then r7.1.1 else (bif decide (a2 = (1 : Int)) then r7.1.2.1 else r7.1.2.2.1)) + (bif decide (a2 = (0 : Int)) then r8.1.1 else (bif decide (a2 = (1 : Int)) then r8.1.2.1 else r8.1.2.2.1)))) else r7.1.2.1) else (bif decide (a2 = (2 : Int)) then (IntKind.wrap .i64 ((bif decide (a2 = (0 : Int)) then r7.1.1 else (bif decide (a2 = (1 : Int)) then r7.1.2.1 else r7.1.2.2.1)) + (bif decide (a2 = (0 : Int)) then r8.1.1 else (bif decide (a2 = (1 : Int)) then r8.1.2.1 else r8.1.2.2.1)))) else r7.1.2.2.1))) = (bif decide (r6.1 = (0 : Int)) then r8.1.1 else (bif decide (r6.1 = (1 : Int)) then r8.1.2.1 else r8.1.2.2.1))) then
 some ((0, (0, (0, (([] : List D_A3), ())))), false, ())
 else
 bif inB r6.2.1 3 then
 bif inB r6.2.1 3 then
 bif !decide ((bif decide (r6.2.1 = (0 : Int)) then (bif decide (a2 = (0 : Int)) then (IntKind.wrap .i64 ((bif decide (a2 = (0 : Int)) then r7.1.1 else (bif decide (a2 = (1 : Int)) then r7.1.2.1 else r7.1.2.2.1)) + (bif decide (a2 = (0 : Int)) then r8.1.1 else (bif decide (a2 = (1 : Int)) then r8.1.2.1 else r8.1.2.2.1)))) else r7.1.1) else (bif decide (r6.2.1 = (1 : Int)) then (bif decide (a2 = (1 : Int)) then (IntKind.wrap .i64 ((bif decide (a2 = (0 : Int)) then r7.1.1 else (bif decide (a2 = (1 : Int)) then r7.1.2.1 else r7.1.2.2.1)) + (bif decide (a2 = (0 : Int)) then r8.1.1 else (bif decide (a2 = (1 : Int)) then r8.1.2.1 else r8.1.2.2.1)))) else r7.1.2.1) else (bif decide (a2 = (2 : Int)) then (IntKind.wrap .i64 ((bif decide (a2 = (0 : Int)) then r7.1.1 else (bif decide (a2 = (1 : Int)) then r7.1.2.1 else r7.1.2.2.1)) + (bif decide (a2 = (0 : Int)) then r8.1.1 else (bif decide (a2 = (1 : Int)) then r8.1.2.1 else r8.1.2.2.1)))) else r7.1.2.2.1))) = (bif decide (r6.2.1 = (0 : Int)) then r8.1.1 else (bif decide (r6.2.1 = (1 : Int)) then r8.1.2.1 else r8.1.2.2.1))) then
 some ((0, (0, (0, (([] : List D_A3), ())))), false, ())
 else
 Option.bind (P_box_valid (((bif decide (a2 = (0 : Int)) then (IntKind.wrap .i64 ((bif decide (a2 = (0 : Int)) then r7.1.1 else (bif decide (a2 = (1 : Int)) then r7.1.2.1 else r7.1.2.2.1)) + (bif decide (a2 = (0 : Int)) then r8.1.1 else (bif decide (a2 = (1 : Int)) then r8.1.2.1 else r8.1.2.2.1)))) else r7.1.1), ((bif decide (a2 = (1 : Int)) then (IntKind.wrap .i64 ((bif decide (a2 = (0 : Int)) then r7.1.1 else (bif decide (a2 = (1 : Int)) then r7.1.2.1 else r7.1.2.2.1)) + (bif decide (a2 = (0 : Int)) then r8.1.1 else (bif decide (a2 = (1 : Int)) then r8.1.2.1 else r8.1.2.2.1)))) else r7.1.2.1), ((bif decide (a2 = (2 : Int)) then (IntKind.wrap .i64 ((bif decide (a2 = (0 : Int)) then r7.1.1 else (bif decide (a2 = (1 : Int)) then r7.1.2.1 else r7.1.2.2.1)) + (bif decide (a2 = (0 : Int)) then r8.1.1 else (bif decide (a2 = (1 : Int)) then r8.1.2.1 else r8.1.2.2.1)))) else r7.1.2.2.1), ()))), ())) fun r18 =>
 bif !r18.1 then
 some ((0, (0, (0, (([] : List D_A3), ())))), false, ())
 else
 l_impl_GlueHeaps_10 N a0.1 a0.2.1 a0.2.2.1 a0.2.2.2.1 a1.1 a1.2.1 a1.2.2.1 a1.2.2.2.1 0 0 0 ([] : List D_A3) (bif decide (a2 = (0 : Int)) then (IntKind.wrap .i64 ((bif decide (a2 = (0 : Int)) then r7.1.1 else (bif decide (a2 = (1 : Int)) then r7.1.2.1 else r7.1.2.2.1)) + (bif decide (a2 = (0 : Int)) then r8.1.1 else (bif decide (a2 = (1 : Int)) then r8.1.2.1 else r8.1.2.2.1)))) else r7.1.1) (bif decide (a2 = (1 : Int)) then (IntKind.wrap .i64 ((bif decide (a2 = (0 : Int)) then r7.1.1 else (bif decide (a2 = (1 : Int)) then r7.1.2.1 else r7.1.2.2.1)) + (bif decide (a2 = (0 : Int)) then r8.1.1 else (bif decide (a2 = (1 : Int)) then r8.1.2.1 else r8.1.2.2.1)))) else r7.1.2.1) (bif decide (a2 = (2 : Int)) then (IntKind.wrap .i64 ((bif decide (a2 = (0 : Int)) then r7.1.1 else (bif decide (a2 = (1 : Int)) then r7.1.2.1 else r7.1.2.2.1)) + (bif decide (a2 = (0 : Int)) then r8.1.1 else (bif decide (a2 = (1 : Int)) then r8.1.2.1 else r8.1.2.2.1)))) else r7.1.2.2.1) a2 0 a0.2.2.2.1 (List.length a0.2.2.2.1 : Int) 0
 else none
 else none
 else none
 else none
 else none
 else none
 else none := by
 rewrite [h_impl_GlueHeaps, h_impl_GlueHeaps_10]
 exact e_impl_GlueHeaps N P_impl_IsHeap P_Heap_box P_box_index P_box_heap P_impl_isDirection P_impl_others P_box_valid a0 a1 a2
theorem q_impl_GlueHeaps_10 (m0 : Nat) (p0 p1 p2 : Int) (p3 : List D_A3) (p4 p5 p6 : Int) (p7 : List D_A3) (p8 p9 p10 : Int) (p11 : List D_A3) (p12 p13 : Int) (p14 p15 p16 : Int) (p17 : List D_A3) (p18 p19 : Int) : l_impl_GlueHeaps_10 (m0 + 1) p0 p1 p2 p3 p4 p5 p6 p7 p8 p9 p10 p11 p12 p13 p14 p15 p16 p17 p18 p19 = 
 bif decide (p19 < p18) then
 bif inB p19 (List.length p17) then
 Option.bind (P_box_index ((p12, (p13, (p14, ()))), (nth T_A3 p17 p19), ())) fun r2 =>
 bif decide ((0 : Int) ≤ r2.1) then
 l_impl_GlueHeaps_10 m0 p0 p1 p2 p3 p4 p5 p6 p7 p8 p9 p10 p11 p12 p13 p14 p15 (intBits .or .u64 p16 (shlI .u64 1 r2.1)) p17 p18 (IntKind.wrap .i64 (p19 + 1))
 else none
 else none
 else
 l_impl_GlueHeaps_15 N p0 p1 p2 p3 p8 p9 p10 p11 p12 p13 p14 p15 p16 p7 (List.length p7 : Int) 0 := by
 rewrite [h_impl_GlueHeaps_10, h_impl_GlueHeaps_15]
 exact e_impl_GlueHeaps_10 N P_impl_IsHeap P_Heap_box P_box_index P_box_heap P_impl_isDirection P_impl_others P_box_valid m0 p0 p1 p2 p3 p4 p5 p6 p7 p8 p9 p10 p11 p12 p13 p14 p15 p16 p17 p18 p19
theorem q_impl_GlueHeaps_15 (m0 : Nat) (p0 p1 p2 : Int) (p3 : List D_A3) (p4 p5 p6 : Int) (p7 : List D_A3) (p8 p9 : Int) (p10 p11 p12 : Int) (p13 : List D_A3) (p14 p15 : Int) : l_impl_GlueHeaps_15 (m0 + 1) p0 p1 p2 p3 p4 p5 p6 p7 p8 p9 p10 p11 p12 p13 p14 p15 = 
 bif decide (p15 < p14) then
 bif inB p15 (List.length p13) then
 bif inB p11 3 then
 Option.bind (P_Heap_box ((p0, (p1, (p2, (p3, ())))), ())) fun r3 =>
 bif inB p11 3 then
 bif inB p11 3 then
 Option.bind (P_box_index ((p8, (p9, (p10, ()))), ((bif decide (p11 = (0 : Int)) then (IntKind.wrap .i64 ((bif decide (p11 = (0 : Int)) then ((nth T_A3 p13 p15)).1 else (bif decide (p11 = (1 : Int)) then (((nth T_A3 p13 p15)).2).1 else ((((nth T_A3 p13 p15)).2).2).1)) + (bif decide (p11 = (0 : Int)) then r3.1.1 else (bif decide (p11 = (1 : Int)) then r3.1.2.1 else r3.1.2.2.1)))) else ((nth T_A3 p13 p15)).1), ((bif decide (p11 = (1 : Int)) then (IntKind.wrap .i64 ((bif decide (p11 = (0 : Int)) then ((nth T_A3 p13 p15)).1 else (bif decide (p11 = (1 : Int)) then (((nth T_A3 p13 p15)).2).1 else ((((nth T_A3 p13 p15)).2).2).1)) + (bif decide (p11 = (0 : Int)) then r3.1.1 else (bif decide (p11 = (1 : Int)) then r3.1.2.1 else r3.1.2.2.1)))) else (((nth T_A3 p13 p15)).2).1), ((bif decide (p11 = (2 : Int)) then (IntKind.wrap .i64 ((bif decide (p11 = (0 : Int)) then ((nth T_A3 p13 p15)).1 else (bif decide (p11 = (1 : Int)) then (((nth T_A3 p13 p15)).2).1 else ((((nth T_A3 p13 p15)).2).2).1)) + (bif decide (p11 = (0 : Int)) then r3.1.1 else (bif decide (p11 = (1 : Int)) then r3.1.2.1 else r3.1.2.2.1)))) else ((((nth T_A3 p13 p15)).2).2).1), ()))), ())) fun r6 =>
 bif decide ((0 : Int) ≤ r6.1) then
 l_impl_GlueHeaps_15 m0 p0 p1 p2 p3 p4 p5 p6 p7 p8 p9 p10 p11 (intBits .or .u64 p12 (shlI .u64 1 r6.1)) p13 p14 (IntKind.wrap .i64 (p15 + 1))
 else none
 else none
 else none
 else none
 else none
 else
 Option.bind (P_box_heap ((p8, (p9, (p10, ()))), p12, ())) fun r1 =>
 some (r1.1, true, ()) := by
 rewrite [h_impl_GlueHeaps_15]
 exact e_impl_GlueHeaps_15 N P_impl_IsHeap P_Heap_box P_box_index P_box_heap P_impl_isDirection P_impl_others P_box_valid m0 p0 p1 p2 p3 p4 p5 p6 p7 p8 p9 p10 p11 p12 p13 p14 p15

abbrev As_spec_l2Kept : List ATy := [.data true T_Heap]
abbrev R_spec_l2Kept : List (Bool × Ty) := [(true, T_Heap), (false, .bool)]
abbrev M_spec_l2Kept : List RMode := [.imm]
abbrev Ft_spec_l2Kept : Type := D_Heap × Unit → Option (D_Heap × Bool × Unit)
def X_spec_l2Kept (n : Nat) (F_spec_l2Heap : Ft_spec_l2Heap) : Ctx := { types := TT, globals := [], con := [(42, ⟨As_spec_l2Heap, R_spec_l2Heap, M_spec_l2Heap, F_spec_l2Heap⟩)], keep := [], results := [.cell 2 26, .tmp 3], ntmps := 9, n := n }
def B_spec_l2Kept : Code := (Try.f51.body).getD .skip
theorem e_spec_l2Kept (n : Nat) (F_spec_l2Heap : Ft_spec_l2Heap) (a0 : D_Heap) : runF (X_spec_l2Kept n F_spec_l2Heap) B_spec_l2Kept As_spec_l2Kept R_spec_l2Kept M_spec_l2Kept (a0, ()) = 
 Option.bind (F_spec_l2Heap (a0, ())) fun r0 =>
 bif !r0.1 then
 some ((0, (0, (0, (([] : List D_A3), ())))), false, ())
 else
 some (a0, true, ()) := by kernel_rfl
def P_spec_l2Kept : Ft_spec_l2Kept := hid (runF (X_spec_l2Kept N P_spec_l2Heap) B_spec_l2Kept As_spec_l2Kept R_spec_l2Kept M_spec_l2Kept)
theorem h_spec_l2Kept : P_spec_l2Kept = runF (X_spec_l2Kept N P_spec_l2Heap) B_spec_l2Kept As_spec_l2Kept R_spec_l2Kept M_spec_l2Kept := hid_eq _
def C_spec_l2Kept : Contract := ⟨As_spec_l2Kept, R_spec_l2Kept, M_spec_l2Kept, P_spec_l2Kept⟩
theorem s_spec_l2Kept : Sound Try.prog GG 51 C_spec_l2Kept := by
 unfold C_spec_l2Kept; rw [h_spec_l2Kept]
 exact sound_of_run (fn := Try.f51) hmix hstable (tyOK_of ttOK) (hglob _) (conOK_of ⟨s_spec_l2Heap, trivial⟩) (mconOK_of trivial) (by kernel_rfl) (by kernel_rfl) (by kernel_rfl) (by kernel_rfl) (by kernel_rfl) (of_decide_eq_true (by kernel_rfl))
theorem p_spec_l2Kept (a0 : D_Heap) : P_spec_l2Kept (a0, ()) = 
 Option.bind (P_spec_l2Heap (a0, ())) fun r0 =>
 bif !r0.1 then
 some ((0, (0, (0, (([] : List D_A3), ())))), false, ())
 else
 some (a0, true, ()) := by
 rewrite [h_spec_l2Kept]
 exact e_spec_l2Kept N P_spec_l2Heap a0

abbrev As_spec_GlueHeaps : List ATy := [.data true T_Heap, .data true T_Heap, .data false (.int .i64)]
abbrev R_spec_GlueHeaps : List (Bool × Ty) := [(true, T_Heap), (false, .bool)]
abbrev M_spec_GlueHeaps : List RMode := [.imm]
abbrev Ft_spec_GlueHeaps : Type := D_Heap × D_Heap × Int × Unit → Option (D_Heap × Bool × Unit)
def X_spec_GlueHeaps (n : Nat) (F_spec_l11Box : Ft_spec_l11Box) (F_spec_l2Long : Ft_spec_l2Long) (F_spec_l2Heap : Ft_spec_l2Heap) (F_spec_l1In : Ft_spec_l1In) (F_spec_l2With : Ft_spec_l2With) (F_spec_l2Kept : Ft_spec_l2Kept) : Ctx := { types := TT, globals := [], con := [(31, ⟨As_spec_l11Box, R_spec_l11Box, M_spec_l11Box, F_spec_l11Box⟩), (32, ⟨As_spec_l2Long, R_spec_l2Long, M_spec_l2Long, F_spec_l2Long⟩), (42, ⟨As_spec_l2Heap, R_spec_l2Heap, M_spec_l2Heap, F_spec_l2Heap⟩), (49, ⟨As_spec_l1In, R_spec_l1In, M_spec_l1In, F_spec_l1In⟩), (50, ⟨As_spec_l2With, R_spec_l2With, M_spec_l2With, F_spec_l2With⟩), (51, ⟨As_spec_l2Kept, R_spec_l2Kept, M_spec_l2Kept, F_spec_l2Kept⟩)], keep := [(4, ⟨[.box 3, .box 4, .box 6, .tmp 2, .tmp 3, .tmp 4, .tmp 6, .tmp 8], []⟩), (11, ⟨[.box 3, .box 4, .box 6, .box 10, .tmp 2, .tmp 3, .tmp 4, .tmp 6, .tmp 9, .tmp 10, .tmp 11], []⟩), (15, ⟨[.box 4, .box 6, .box 10, .tmp 2, .tmp 4, .tmp 6, .tmp 9, .tmp 10, .tmp 12], []⟩)], results := [.cell 6 26, .tmp 7], ntmps := 96, n := n }
def B_spec_GlueHeaps : Code := (Try.f17.body).getD .skip
def L_spec_GlueHeaps_4 (n : Nat) (F_spec_l11Box : Ft_spec_l11Box) (F_spec_l2Long : Ft_spec_l2Long) (F_spec_l2Heap : Ft_spec_l2Heap) (F_spec_l1In : Ft_spec_l1In) (F_spec_l2With : Ft_spec_l2With) (F_spec_l2Kept : Ft_spec_l2Kept) (m0 : Nat) (p0 p1 p2 : Int) (p3 : List D_A3) (p4 p5 p6 : Int) (p7 : List D_A3) (p8 p9 p10 : Int) (p11 : List D_A3) (p12 p13 : Int) : Option (denL R_spec_GlueHeaps) := loopF (X_spec_GlueHeaps n F_spec_l11Box F_spec_l2Long F_spec_l2Heap F_spec_l1In F_spec_l2With F_spec_l2Kept) B_spec_GlueHeaps R_spec_GlueHeaps M_spec_GlueHeaps 4 [m0] [(.ver, .num 1), (.box 3, .box 0 false [.int .i64 p0, .int .i64 p1, .int .i64 p2, .imm T_A3 p3 (some 3)]), (.box 4, .box 0 false [.int .i64 p4, .int .i64 p5, .int .i64 p6, .imm T_A3 p7 (some 7)]), (.box 6, .box 0 false [.int .i64 p8, .int .i64 p9, .int .i64 p10, .own 49 T_A3 0 p11]), (.tmp 2, .val false [.int .i64 p12]), (.tmp 3, .val false [.addr 3 0 0]), (.tmp 4, .val false [.addr 4 0 0]), (.tmp 6, .val false [.addr 6 0 0]), (.tmp 8, .val false [.int .i64 p13])]
def L_spec_GlueHeaps_11 (n : Nat) (F_spec_l11Box : Ft_spec_l11Box) (F_spec_l2Long : Ft_spec_l2Long) (F_spec_l2Heap : Ft_spec_l2Heap) (F_spec_l1In : Ft_spec_l1In) (F_spec_l2With : Ft_spec_l2With) (F_spec_l2Kept : Ft_spec_l2Kept) (m0 : Nat) (p0 p1 p2 : Int) (p3 : List D_A3) (p4 p5 p6 : Int) (p7 : List D_A3) (p8 p9 p10 : Int) (p11 : List D_A3) (p12 p13 p14 : Int) (p15 : List D_A3) (p16 p17 p18 : Int) : Option (denL R_spec_GlueHeaps) := loopF (X_spec_GlueHeaps n F_spec_l11Box F_spec_l2Long F_spec_l2Heap F_spec_l1In F_spec_l2With F_spec_l2Kept) B_spec_GlueHeaps R_spec_GlueHeaps M_spec_GlueHeaps 11 [m0] [(.ver, .num 1), (.box 3, .box 0 false [.int .i64 p0, .int .i64 p1, .int .i64 p2, .imm T_A3 p3 (some 3)]), (.box 4, .box 0 false [.int .i64 p4, .int .i64 p5, .int .i64 p6, .imm T_A3 p7 (some 7)]), (.box 6, .box 0 false [.int .i64 p8, .int .i64 p9, .int .i64 p10, .own 49 T_A3 0 p11]), (.box 10, .box 0 false [.int .i64 p12, .int .i64 p13, .int .i64 p14, .own 49 T_A3 0 p15]), (.tmp 2, .val false [.int .i64 p16]), (.tmp 3, .val false [.addr 3 0 0]), (.tmp 4, .val false [.addr 4 0 0]), (.tmp 6, .val false [.addr 6 0 0]), (.tmp 9, .val false [.int .i64 p17]), (.tmp 10, .val false [.addr 10 0 0]), (.tmp 11, .val false [.int .i64 p18])]
def L_spec_GlueHeaps_15 (n : Nat) (F_spec_l11Box : Ft_spec_l11Box) (F_spec_l2Long : Ft_spec_l2Long) (F_spec_l2Heap : Ft_spec_l2Heap) (F_spec_l1In : Ft_spec_l1In) (F_spec_l2With : Ft_spec_l2With) (F_spec_l2Kept : Ft_spec_l2Kept) (m0 : Nat) (p0 p1 p2 : Int) (p3 : List D_A3) (p4 p5 p6 : Int) (p7 : List D_A3) (p8 p9 p10 : Int) (p11 : List D_A3) (p12 p13 p14 : Int) : Option (denL R_spec_GlueHeaps) := loopF (X_spec_GlueHeaps n F_spec_l11Box F_spec_l2Long F_spec_l2Heap F_spec_l1In F_spec_l2With F_spec_l2Kept) B_spec_GlueHeaps R_spec_GlueHeaps M_spec_GlueHeaps 15 [m0] [(.ver, .num 1), (.box 4, .box 0 false [.int .i64 p0, .int .i64 p1, .int .i64 p2, .imm T_A3 p3 (some 7)]), (.box 6, .box 0 false [.int .i64 p4, .int .i64 p5, .int .i64 p6, .own 49 T_A3 0 p7]), (.box 10, .box 0 false [.int .i64 p8, .int .i64 p9, .int .i64 p10, .own 49 T_A3 0 p11]), (.tmp 2, .val false [.int .i64 p12]), (.tmp 4, .val false [.addr 4 0 0]), (.tmp 6, .val false [.addr 6 0 0]), (.tmp 9, .val false [.int .i64 p13]), (.tmp 10, .val false [.addr 10 0 0]), (.tmp 12, .val false [.int .i64 p14])]
theorem e_spec_GlueHeaps (n : Nat) (F_spec_l11Box : Ft_spec_l11Box) (F_spec_l2Long : Ft_spec_l2Long) (F_spec_l2Heap : Ft_spec_l2Heap) (F_spec_l1In : Ft_spec_l1In) (F_spec_l2With : Ft_spec_l2With) (F_spec_l2Kept : Ft_spec_l2Kept) (a0 a1 : D_Heap) (a2 : Int) : runF (X_spec_GlueHeaps n F_spec_l11Box F_spec_l2Long F_spec_l2Heap F_spec_l1In F_spec_l2With F_spec_l2Kept) B_spec_GlueHeaps As_spec_GlueHeaps R_spec_GlueHeaps M_spec_GlueHeaps (a0, a1, a2, ()) = 
 Option.bind (F_spec_l2Heap (a0, ())) fun r0 =>
 bif !r0.1 then
 some ((0, (0, (0, (([] : List D_A3), ())))), false, ())
 else
 Option.bind (F_spec_l2Heap (a1, ())) fun r2 =>
 bif !r2.1 then
 some ((0, (0, (0, (([] : List D_A3), ())))), false, ())
 else
 Option.bind (F_spec_l1In (a2, 0, 2, ())) fun r4 =>
 bif !r4.1 then
 some ((0, (0, (0, (([] : List D_A3), ())))), false, ())
 else
 L_spec_GlueHeaps_4 n F_spec_l11Box F_spec_l2Long F_spec_l2Heap F_spec_l1In F_spec_l2With F_spec_l2Kept n a0.1 a0.2.1 a0.2.2.1 a0.2.2.2.1 a1.1 a1.2.1 a1.2.2.1 a1.2.2.2.1 0 0 0 ([] : List D_A3) a2 0 := by kernel_rfl
theorem e_spec_GlueHeaps_4 (n : Nat) (F_spec_l11Box : Ft_spec_l11Box) (F_spec_l2Long : Ft_spec_l2Long) (F_spec_l2Heap : Ft_spec_l2Heap) (F_spec_l1In : Ft_spec_l1In) (F_spec_l2With : Ft_spec_l2With) (F_spec_l2Kept : Ft_spec_l2Kept) (m0 : Nat) (p0 p1 p2 : Int) (p3 : List D_A3) (p4 p5 p6 : Int) (p7 : List D_A3) (p8 p9 p10 : Int) (p11 : List D_A3) (p12 p13 : Int) : L_spec_GlueHeaps_4 n F_spec_l11Box F_spec_l2Long F_spec_l2Heap F_spec_l1In F_spec_l2With F_spec_l2Kept (m0 + 1) p0 p1 p2 p3 p4 p5 p6 p7 p8 p9 p10 p11 p12 p13 = 
 bif decide (p13 < 3) then
 bif !decide (p13 = p12) then
 Option.bind (F_spec_l2Long ((p0, (p1, (p2, (p3, ())))), p13, ())) fun r2 =>
 Option.bind (F_spec_l2Long ((p4, (p5, (p6, (p7, ())))), p13, ())) fun r3 =>
 bif !decide (r2.1 = r3.1) then
 some ((0, (0, (0, (([] : List D_A3), ())))), false, ())
 else
 L_spec_GlueHeaps_4 n F_spec_l11Box F_spec_l2Long F_spec_l2Heap F_spec_l1In F_spec_l2With F_spec_l2Kept m0 p0 p1 p2 p3 p4 p5 p6 p7 p8 p9 p10 p11 p12 (IntKind.wrap .i64 (p13 + 1))
 else
 L_spec_GlueHeaps_4 n F_spec_l11Box F_spec_l2Long F_spec_l2Heap F_spec_l1In F_spec_l2With F_spec_l2Kept m0 p0 p1 p2 p3 p4 p5 p6 p7 p8 p9 p10 p11 p12 (IntKind.wrap .i64 (p13 + 1))
 else
 Option.bind (F_spec_l2Long ((p0, (p1, (p2, (p3, ())))), p12, ())) fun r1 =>
 Option.bind (F_spec_l2Long ((p4, (p5, (p6, (p7, ())))), p12, ())) fun r2 =>
 Option.bind (F_spec_l11Box ((p0, (p1, (p2, (p3, ())))), p12, (IntKind.wrap .i64 (r1.1 + r2.1)), ())) fun r3 =>
 L_spec_GlueHeaps_11 n F_spec_l11Box F_spec_l2Long F_spec_l2Heap F_spec_l1In F_spec_l2With F_spec_l2Kept n p0 p1 p2 p3 p4 p5 p6 p7 p8 p9 p10 p11 r3.1.1 r3.1.2.1 r3.1.2.2.1 r3.1.2.2.2.1 p12 r1.1 0 := by kernel_rfl
theorem e_spec_GlueHeaps_11 (n : Nat) (F_spec_l11Box : Ft_spec_l11Box) (F_spec_l2Long : Ft_spec_l2Long) (F_spec_l2Heap : Ft_spec_l2Heap) (F_spec_l1In : Ft_spec_l1In) (F_spec_l2With : Ft_spec_l2With) (F_spec_l2Kept : Ft_spec_l2Kept) (m0 : Nat) (p0 p1 p2 : Int) (p3 : List D_A3) (p4 p5 p6 : Int) (p7 : List D_A3) (p8 p9 p10 : Int) (p11 : List D_A3) (p12 p13 p14 : Int) (p15 : List D_A3) (p16 p17 p18 : Int) : L_spec_GlueHeaps_11 n F_spec_l11Box F_spec_l2Long F_spec_l2Heap F_spec_l1In F_spec_l2With F_spec_l2Kept (m0 + 1) p0 p1 p2 p3 p4 p5 p6 p7 p8 p9 p10 p11 p12 p13 p14 p15 p16 p17 p18 = 
 bif decide (p18 < (List.length p3 : Int)) then
 bif inB p18 (List.length p3) then
 Option.bind (F_spec_l2With ((p12, (p13, (p14, (p15, ())))), (nth T_A3 p3 p18), ())) fun r2 =>
 L_spec_GlueHeaps_11 n F_spec_l11Box F_spec_l2Long F_spec_l2Heap F_spec_l1In F_spec_l2With F_spec_l2Kept m0 p0 p1 p2 p3 p4 p5 p6 p7 p8 p9 p10 p11 r2.1.1 r2.1.2.1 r2.1.2.2.1 r2.1.2.2.2.1 p16 p17 (IntKind.wrap .i64 (p18 + 1))
 else none
 else
 L_spec_GlueHeaps_15 n F_spec_l11Box F_spec_l2Long F_spec_l2Heap F_spec_l1In F_spec_l2With F_spec_l2Kept n p4 p5 p6 p7 p8 p9 p10 p11 p12 p13 p14 p15 p16 p17 0 := by kernel_rfl
theorem e_spec_GlueHeaps_15 (n : Nat) (F_spec_l11Box : Ft_spec_l11Box) (F_spec_l2Long : Ft_spec_l2Long) (F_spec_l2Heap : Ft_spec_l2Heap) (F_spec_l1In : Ft_spec_l1In) (F_spec_l2With : Ft_spec_l2With) (F_spec_l2Kept : Ft_spec_l2Kept) (m0 : Nat) (p0 p1 p2 : Int) (p3 : List D_A3) (p4 p5 p6 : Int) (p7 : List D_A3) (p8 p9 p10 : Int) (p11 : List D_A3) (p12 p13 p14 : Int) : L_spec_GlueHeaps_15 n F_spec_l11Box F_spec_l2Long F_spec_l2Heap F_spec_l1In F_spec_l2With F_spec_l2Kept (m0 + 1) p0 p1 p2 p3 p4 p5 p6 p7 p8 p9 p10 p11 p12 p13 p14 = 
 bif decide (p14 < (List.length p3 : Int)) then
 bif inB p14 (List.length p3) then
 bif inB p12 3 then
 bif inB p12 3 then
 Option.bind (F_spec_l2With ((p8, (p9, (p10, (p11, ())))), ((bif decide (p12 = (0 : Int)) then (IntKind.wrap .i64 ((bif decide (p12 = (0 : Int)) then ((nth T_A3 p3 p14)).1 else (bif decide (p12 = (1 : Int)) then (((nth T_A3 p3 p14)).2).1 else ((((nth T_A3 p3 p14)).2).2).1)) + p13)) else ((nth T_A3 p3 p14)).1), ((bif decide (p12 = (1 : Int)) then (IntKind.wrap .i64 ((bif decide (p12 = (0 : Int)) then ((nth T_A3 p3 p14)).1 else (bif decide (p12 = (1 : Int)) then (((nth T_A3 p3 p14)).2).1 else ((((nth T_A3 p3 p14)).2).2).1)) + p13)) else (((nth T_A3 p3 p14)).2).1), ((bif decide (p12 = (2 : Int)) then (IntKind.wrap .i64 ((bif decide (p12 = (0 : Int)) then ((nth T_A3 p3 p14)).1 else (bif decide (p12 = (1 : Int)) then (((nth T_A3 p3 p14)).2).1 else ((((nth T_A3 p3 p14)).2).2).1)) + p13)) else ((((nth T_A3 p3 p14)).2).2).1), ()))), ())) fun r4 =>
 L_spec_GlueHeaps_15 n F_spec_l11Box F_spec_l2Long F_spec_l2Heap F_spec_l1In F_spec_l2With F_spec_l2Kept m0 p0 p1 p2 p3 p4 p5 p6 p7 r4.1.1 r4.1.2.1 r4.1.2.2.1 r4.1.2.2.2.1 p12 p13 (IntKind.wrap .i64 (p14 + 1))
 else none
 else none
 else none
 else
 Option.bind (F_spec_l2Kept ((p8, (p9, (p10, (p11, ())))), ())) fun r1 =>
 some (r1.1, r1.2.1, ()) := by kernel_rfl
def P_spec_GlueHeaps : Ft_spec_GlueHeaps := hid (runF (X_spec_GlueHeaps N P_spec_l11Box P_spec_l2Long P_spec_l2Heap P_spec_l1In P_spec_l2With P_spec_l2Kept) B_spec_GlueHeaps As_spec_GlueHeaps R_spec_GlueHeaps M_spec_GlueHeaps)
theorem h_spec_GlueHeaps : P_spec_GlueHeaps = runF (X_spec_GlueHeaps N P_spec_l11Box P_spec_l2Long P_spec_l2Heap P_spec_l1In P_spec_l2With P_spec_l2Kept) B_spec_GlueHeaps As_spec_GlueHeaps R_spec_GlueHeaps M_spec_GlueHeaps := hid_eq _
def C_spec_GlueHeaps : Contract := ⟨As_spec_GlueHeaps, R_spec_GlueHeaps, M_spec_GlueHeaps, P_spec_GlueHeaps⟩
theorem s_spec_GlueHeaps : Sound Try.prog GG 17 C_spec_GlueHeaps := by
 unfold C_spec_GlueHeaps; rw [h_spec_GlueHeaps]
 exact sound_of_run (fn := Try.f17) hmix hstable (tyOK_of ttOK) (hglob _) (conOK_of ⟨s_spec_l11Box, s_spec_l2Long, s_spec_l2Heap, s_spec_l1In, s_spec_l2With, s_spec_l2Kept, trivial⟩) (mconOK_of trivial) (by kernel_rfl) (by kernel_rfl) (by kernel_rfl) (by kernel_rfl) (by kernel_rfl) (of_decide_eq_true (by kernel_rfl))
def l_spec_GlueHeaps_4 : Nat → Int → Int → Int → (List D_A3) → Int → Int → Int → (List D_A3) → Int → Int → Int → (List D_A3) → Int → Int → Option (denL R_spec_GlueHeaps) := hid (fun m0 p0 p1 p2 p3 p4 p5 p6 p7 p8 p9 p10 p11 p12 p13 => L_spec_GlueHeaps_4 N P_spec_l11Box P_spec_l2Long P_spec_l2Heap P_spec_l1In P_spec_l2With P_spec_l2Kept m0 p0 p1 p2 p3 p4 p5 p6 p7 p8 p9 p10 p11 p12 p13)
theorem h_spec_GlueHeaps_4 : l_spec_GlueHeaps_4 = fun m0 p0 p1 p2 p3 p4 p5 p6 p7 p8 p9 p10 p11 p12 p13 => L_spec_GlueHeaps_4 N P_spec_l11Box P_spec_l2Long P_spec_l2Heap P_spec_l1In P_spec_l2With P_spec_l2Kept m0 p0 p1 p2 p3 p4 p5 p6 p7 p8 p9 p10 p11 p12 p13 := hid_eq _
def l_spec_GlueHeaps_11 : Nat → Int → Int → Int → (List D_A3) → Int → Int → Int → (List D_A3) → Int → Int → Int → (List D_A3) → Int → Int → Int → (List D_A3) → Int → Int → Int → Option (denL R_spec_GlueHeaps) := hid (fun m0 p0 p1 p2 p3 p4 p5 p6 p7 p8 p9 p10 p11 p12 p13 p14 p15 p16 p17 p18 => L_spec_GlueHeaps_11 N P_spec_l11Box P_spec_l2Long P_spec_l2Heap P_spec_l1In P_spec_l2With P_spec_l2Kept m0 p0 p1 p2 p3 p4 p5 p6 p7 p8 p9 p10 p11 p12 p13 p14 p15 p16 p17 p18)
theorem h_spec_GlueHeaps_11 : l_spec_GlueHeaps_11 = fun m0 p0 p1 p2 p3 p4 p5 p6 p7 p8 p9 p10 p11 p12 p13 p14 p15 p16 p17 p18 => L_spec_GlueHeaps_11 N P_spec_l11Box P_spec_l2Long P_spec_l2Heap P_spec_l1In P_spec_l2With P_spec_l2Kept m0 p0 p1 p2 p3 p4 p5 p6 p7 p8 p9 p10 p11 p12 p13 p14 p15 p16 p17 p18 := hid_eq _
def l_spec_GlueHeaps_15 : Nat → Int → Int → Int → (List D_A3) → Int → Int → Int → (List D_A3) → Int → Int → Int → (List D_A3) → Int → Int → Int → Option (denL R_spec_GlueHeaps) := hid (fun m0 p0 p1 p2 p3 p4 p5 p6 p7 p8 p9 p10 p11 p12 p13 p14 => L_spec_GlueHeaps_15 N P_spec_l11Box P_spec_l2Long P_spec_l2Heap P_spec_l1In P_spec_l2With P_spec_l2Kept m0 p0 p1 p2 p3 p4 p5 p6 p7 p8 p9 p10 p11 p12 p13 p14)
theorem h_spec_GlueHeaps_15 : l_spec_GlueHeaps_15 = fun m0 p0 p1 p2 p3 p4 p5 p6 p7 p8 p9 p10 p11 p12 p13 p14 => L_spec_GlueHeaps_15 N P_spec_l11Box P_spec_l2Long P_spec_l2Heap P_spec_l1In P_spec_l2With P_spec_l2Kept m0 p0 p1 p2 p3 p4 p5 p6 p7 p8 p9 p10 p11 p12 p13 p14 := hid_eq _
theorem p_spec_GlueHeaps (a0 a1 : D_Heap) (a2 : Int) : P_spec_GlueHeaps (a0, a1, a2, ()) = 
 Option.bind (P_spec_l2Heap (a0, ())) fun r0 =>
 bif !r0.1 then
 some ((0, (0, (0, (([] : List D_A3), ())))), false, ())
 else
 Option.bind (P_spec_l2Heap (a1, ())) fun r2 =>
 bif !r2.1 then
 some ((0, (0, (0, (([] : List D_A3), ())))), false, ())
 else
 Option.bind (P_spec_l1In (a2, 0, 2, ())) fun r4 =>
 bif !r4.1 then
 some ((0, (0, (0, (([] : List D_A3), ())))), false, ())
 else
 l_spec_GlueHeaps_4 N a0.1 a0.2.1 a0.2.2.1 a0.2.2.2.1 a1.1 a1.2.1 a1.2.2.1 a1.2.2.2.1 0 0 0 ([] : List D_A3) a2 0 := by
 rewrite [h_spec_GlueHeaps, h_spec_GlueHeaps_4]
 exact e_spec_GlueHeaps N P_spec_l11Box P_spec_l2Long P_spec_l2Heap P_spec_l1In P_spec_l2With P_spec_l2Kept a0 a1 a2
theorem q_spec_GlueHeaps_4 (m0 : Nat) (p0 p1 p2 : Int) (p3 : List D_A3) (p4 p5 p6 : Int) (p7 : List D_A3) (p8 p9 p10 : Int) (p11 : List D_A3) (p12 p13 : Int) : l_spec_GlueHeaps_4 (m0 + 1) p0 p1 p2 p3 p4 p5 p6 p7 p8 p9 p10 p11 p12 p13 = 
 bif decide (p13 < 3) then
 bif !decide (p13 = p12) then
 Option.bind (P_spec_l2Long ((p0, (p1, (p2, (p3, ())))), p13, ())) fun r2 =>
 Option.bind (P_spec_l2Long ((p4, (p5, (p6, (p7, ())))), p13, ())) fun r3 =>
 bif !decide (r2.1 = r3.1) then
 some ((0, (0, (0, (([] : List D_A3), ())))), false, ())
 else
 l_spec_GlueHeaps_4 m0 p0 p1 p2 p3 p4 p5 p6 p7 p8 p9 p10 p11 p12 (IntKind.wrap .i64 (p13 + 1))
 else
 l_spec_GlueHeaps_4 m0 p0 p1 p2 p3 p4 p5 p6 p7 p8 p9 p10 p11 p12 (IntKind.wrap .i64 (p13 + 1))
 else
 Option.bind (P_spec_l2Long ((p0, (p1, (p2, (p3, ())))), p12, ())) fun r1 =>
 Option.bind (P_spec_l2Long ((p4, (p5, (p6, (p7, ())))), p12, ())) fun r2 =>
 Option.bind (P_spec_l11Box ((p0, (p1, (p2, (p3, ())))), p12, (IntKind.wrap .i64 (r1.1 + r2.1)), ())) fun r3 =>
 l_spec_GlueHeaps_11 N p0 p1 p2 p3 p4 p5 p6 p7 p8 p9 p10 p11 r3.1.1 r3.1.2.1 r3.1.2.2.1 r3.1.2.2.2.1 p12 r1.1 0 := by
 rewrite [h_spec_GlueHeaps_4, h_spec_GlueHeaps_11]
 exact e_spec_GlueHeaps_4 N P_spec_l11Box P_spec_l2Long P_spec_l2Heap P_spec_l1In P_spec_l2With P_spec_l2Kept m0 p0 p1 p2 p3 p4 p5 p6 p7 p8 p9 p10 p11 p12 p13
theorem q_spec_GlueHeaps_11 (m0 : Nat) (p0 p1 p2 : Int) (p3 : List D_A3) (p4 p5 p6 : Int) (p7 : List D_A3) (p8 p9 p10 : Int) (p11 : List D_A3) (p12 p13 p14 : Int) (p15 : List D_A3) (p16 p17 p18 : Int) : l_spec_GlueHeaps_11 (m0 + 1) p0 p1 p2 p3 p4 p5 p6 p7 p8 p9 p10 p11 p12 p13 p14 p15 p16 p17 p18 = 
 bif decide (p18 < (List.length p3 : Int)) then
 bif inB p18 (List.length p3) then
 Option.bind (P_spec_l2With ((p12, (p13, (p14, (p15, ())))), (nth T_A3 p3 p18), ())) fun r2 =>
 l_spec_GlueHeaps_11 m0 p0 p1 p2 p3 p4 p5 p6 p7 p8 p9 p10 p11 r2.1.1 r2.1.2.1 r2.1.2.2.1 r2.1.2.2.2.1 p16 p17 (IntKind.wrap .i64 (p18 + 1))
 else none
 else
 l_spec_GlueHeaps_15 N p4 p5 p6 p7 p8 p9 p10 p11 p12 p13 p14 p15 p16 p17 0 := by
 rewrite [h_spec_GlueHeaps_11, h_spec_GlueHeaps_15]
 exact e_spec_GlueHeaps_11 N P_spec_l11Box P_spec_l2Long P_spec_l2Heap P_spec_l1In P_spec_l2With P_spec_l2Kept m0 p0 p1 p2 p3 p4 p5 p6 p7 p8 p9 p10 p11 p12 p13 p14 p15 p16 p17 p18
theorem q_spec_GlueHeaps_15 (m0 : Nat) (p0 p1 p2 : Int) (p3 : List D_A3) (p4 p5 p6 : Int) (p7 : List D_A3) (p8 p9 p10 : Int) (p11 : List D_A3) (p12 p13 p14 : Int) : l_spec_GlueHeaps_15 (m0 + 1) p0 p1 p2 p3 p4 p5 p6 p7 p8 p9 p10 p11 p12 p13 p14 = 
 bif decide (p14 < (List.length p3 : Int)) then
 bif inB p14 (List.length p3) then
 bif inB p12 3 then
 bif inB p12 3 then
 Option.bind (P_spec_l2With ((p8, (p9, (p10, (p11, ())))), ((bif decide (p12 = (0 : Int)) then (IntKind.wrap .i64 ((bif decide (p12 = (0 : Int)) then ((nth T_A3 p3 p14)).1 else (bif decide (p12 = (1 : Int)) then (((nth T_A3 p3 p14)).2).1 else ((((nth T_A3 p3 p14)).2).2).1)) + p13)) else ((nth T_A3 p3 p14)).1), ((bif decide (p12 = (1 : Int)) then (IntKind.wrap .i64 ((bif decide (p12 = (0 : Int)) then ((nth T_A3 p3 p14)).1 else (bif decide (p12 = (1 : Int)) then (((nth T_A3 p3 p14)).2).1 else ((((nth T_A3 p3 p14)).2).2).1)) + p13)) else (((nth T_A3 p3 p14)).2).1), ((bif decide (p12 = (2 : Int)) then (IntKind.wrap .i64 ((bif decide (p12 = (0 : Int)) then ((nth T_A3 p3 p14)).1 else (bif decide (p12 = (1 : Int)) then (((nth T_A3 p3 p14)).2).1 else ((((nth T_A3 p3 p14)).2).2).1)) + p13)) else ((((nth T_A3 p3 p14)).2).2).1), ()))), ())) fun r4 =>
 l_spec_GlueHeaps_15 m0 p0 p1 p2 p3 p4 p5 p6 p7 r4.1.1 r4.1.2.1 r4.1.2.2.1 r4.1.2.2.2.1 p12 p13 (IntKind.wrap .i64 (p14 + 1))
 else none
 else none
 else none
 else
 Option.bind (P_spec_l2Kept ((p8, (p9, (p10, (p11, ())))), ())) fun r1 =>
 some (r1.1, r1.2.1, ()) := by
 rewrite [h_spec_GlueHeaps_15]
 exact e_spec_GlueHeaps_15 N P_spec_l11Box P_spec_l2Long P_spec_l2Heap P_spec_l1In P_spec_l2With P_spec_l2Kept m0 p0 p1 p2 p3 p4 p5 p6 p7 p8 p9 p10 p11 p12 p13 p14

abbrev As_impl_FewestCuts : List ATy := [.data true T_Heap]
abbrev R_impl_FewestCuts : List (Bool × Ty) := [(false, (.int .i64)), (false, .bool)]
abbrev M_impl_FewestCuts : List RMode := []
abbrev Ft_impl_FewestCuts : Type := D_Heap × Unit → Option (Int × Bool × Unit)
def X_impl_FewestCuts (n : Nat) (F_impl_IsHeap : Ft_impl_IsHeap) (F_Heap_box : Ft_Heap_box) (F_Heap_cutFaces : Ft_Heap_cutFaces) : Ctx := { types := TT, globals := [], con := [(20, ⟨As_impl_IsHeap, R_impl_IsHeap, M_impl_IsHeap, F_impl_IsHeap⟩), (27, ⟨As_Heap_box, R_Heap_box, M_Heap_box, F_Heap_box⟩), (34, ⟨As_Heap_cutFaces, R_Heap_cutFaces, M_Heap_cutFaces, F_Heap_cutFaces⟩)], keep := [(5, ⟨[.box 1, .tmp 1, .tmp 4, .tmp 12, .tmp 13], []⟩), (8, ⟨[.box 1, .tmp 1, .tmp 4, .tmp 5, .tmp 6, .tmp 7, .tmp 12, .tmp 13], []⟩)], results := [.tmp 2, .tmp 3], ntmps := 31, n := n }
def B_impl_FewestCuts : Code := (Try.f18.body).getD .skip
def L_impl_FewestCuts_5 (n : Nat) (F_impl_IsHeap : Ft_impl_IsHeap) (F_Heap_box : Ft_Heap_box) (F_Heap_cutFaces : Ft_Heap_cutFaces) (m0 : Nat) (p0 p1 p2 : Int) (p3 : List D_A3) (p4 p5 : Int) (p6 p7 p8 : Int) : Option (denL R_impl_FewestCuts) := loopF (X_impl_FewestCuts n F_impl_IsHeap F_Heap_box F_Heap_cutFaces) B_impl_FewestCuts R_impl_FewestCuts M_impl_FewestCuts 5 [m0] [(.ver, .num 1), (.box 1, .box 0 false [.int .i64 p0, .int .i64 p1, .int .i64 p2, .imm T_A3 p3 (some 3)]), (.tmp 1, .val false [.addr 1 0 0]), (.tmp 4, .val false [.int .i64 p4]), (.tmp 12, .val true [.int .i64 p5, .int .i64 p6, .int .i64 p7]), (.tmp 13, .val false [.int .i64 p8])]
def L_impl_FewestCuts_8 (n : Nat) (F_impl_IsHeap : Ft_impl_IsHeap) (F_Heap_box : Ft_Heap_box) (F_Heap_cutFaces : Ft_Heap_cutFaces) (m0 m1 : Nat) (p0 p1 p2 : Int) (p3 : List D_A3) (p4 p5 : Int) (p6 p7 : Int) (p8 p9 : Int) (p10 p11 : Int) : Option (denL R_impl_FewestCuts) := loopF (X_impl_FewestCuts n F_impl_IsHeap F_Heap_box F_Heap_cutFaces) B_impl_FewestCuts R_impl_FewestCuts M_impl_FewestCuts 8 [m0, m1] [(.ver, .num 1), (.box 1, .box 0 false [.int .i64 p0, .int .i64 p1, .int .i64 p2, .imm T_A3 p3 (some 3)]), (.tmp 1, .val false [.addr 1 0 0]), (.tmp 4, .val false [.int .i64 p4]), (.tmp 5, .val false [.int .i64 p5]), (.tmp 6, .val false [.int .i64 p6]), (.tmp 7, .val false [.int .i64 p7]), (.tmp 12, .val true [.int .i64 p8, .int .i64 p9, .int .i64 p10]), (.tmp 13, .val false [.int .i64 p11])]
theorem e_impl_FewestCuts (n : Nat) (F_impl_IsHeap : Ft_impl_IsHeap) (F_Heap_box : Ft_Heap_box) (F_Heap_cutFaces : Ft_Heap_cutFaces) (a0 : D_Heap) : runF (X_impl_FewestCuts n F_impl_IsHeap F_Heap_box F_Heap_cutFaces) B_impl_FewestCuts As_impl_FewestCuts R_impl_FewestCuts M_impl_FewestCuts (a0, ()) = 
 Option.bind (F_impl_IsHeap (a0, ())) fun r0 =>
 bif !r0.1 then
 some (0, false, ())
 else
 Option.bind (F_Heap_box (a0, ())) fun r2 =>
 L_impl_FewestCuts_5 n F_impl_IsHeap F_Heap_box F_Heap_cutFaces n a0.1 a0.2.1 a0.2.2.1 a0.2.2.2.1 0 r2.1.1 r2.1.2.1 r2.1.2.2.1 0 := by kernel_rfl
theorem e_impl_FewestCuts_5 (n : Nat) (F_impl_IsHeap : Ft_impl_IsHeap) (F_Heap_box : Ft_Heap_box) (F_Heap_cutFaces : Ft_Heap_cutFaces) (m0 : Nat) (p0 p1 p2 : Int) (p3 : List D_A3) (p4 p5 : Int) (p6 p7 p8 : Int) : L_impl_FewestCuts_5 n F_impl_IsHeap F_Heap_box F_Heap_cutFaces (m0 + 1) p0 p1 p2 p3 p4 p5 p6 p7 p8 = 
 bif decide (p8 < 3) then
 bif inB p8 3 then
 L_impl_FewestCuts_8 n F_impl_IsHeap F_Heap_box F_Heap_cutFaces m0 n p0 p1 p2 p3 p4 p8 (bif decide (p8 = (0 : Int)) then p5 else (bif decide (p8 = (1 : Int)) then p6 else p7)) 1 p5 p6 p7 p8
 else none
 else
 some (p4, true, ()) := by kernel_rfl
theorem e_impl_FewestCuts_8 (n : Nat) (F_impl_IsHeap : Ft_impl_IsHeap) (F_Heap_box : Ft_Heap_box) (F_Heap_cutFaces : Ft_Heap_cutFaces) (m0 m1 : Nat) (p0 p1 p2 : Int) (p3 : List D_A3) (p4 p5 : Int) (p6 p7 : Int) (p8 p9 : Int) (p10 p11 : Int) : L_impl_FewestCuts_8 n F_impl_IsHeap F_Heap_box F_Heap_cutFaces m0 (m1 + 1) p0 p1 p2 p3 p4 p5 p6 p7 p8 p9 p10 p11 = 
 bif decide (p7 < p6) then
 Option.bind (F_Heap_cutFaces ((p0, (p1, (p2, (p3, ())))), p5, p7, ())) fun r1 =>
 bif decide (r1.1 > 0) then
 L_impl_FewestCuts_8 n F_impl_IsHeap F_Heap_box F_Heap_cutFaces m0 m1 p0 p1 p2 p3 (IntKind.wrap .i64 (p4 + 1)) p5 p6 (IntKind.wrap .i64 (p7 + 1)) p8 p9 p10 p11
 else
 L_impl_FewestCuts_8 n F_impl_IsHeap F_Heap_box F_Heap_cutFaces m0 m1 p0 p1 p2 p3 p4 p5 p6 (IntKind.wrap .i64 (p7 + 1)) p8 p9 p10 p11
 else
 L_impl_FewestCuts_5 n F_impl_IsHeap F_Heap_box F_Heap_cutFaces m0 p0 p1 p2 p3 p4 p8 p9 p10 (IntKind.wrap .i64 (p11 + 1)) := by kernel_rfl
def P_impl_FewestCuts : Ft_impl_FewestCuts := hid (runF (X_impl_FewestCuts N P_impl_IsHeap P_Heap_box P_Heap_cutFaces) B_impl_FewestCuts As_impl_FewestCuts R_impl_FewestCuts M_impl_FewestCuts)
theorem h_impl_FewestCuts : P_impl_FewestCuts = runF (X_impl_FewestCuts N P_impl_IsHeap P_Heap_box P_Heap_cutFaces) B_impl_FewestCuts As_impl_FewestCuts R_impl_FewestCuts M_impl_FewestCuts := hid_eq _
def C_impl_FewestCuts : Contract := ⟨As_impl_FewestCuts, R_impl_FewestCuts, M_impl_FewestCuts, P_impl_FewestCuts⟩
theorem s_impl_FewestCuts : Sound Try.prog GG 18 C_impl_FewestCuts := by
 unfold C_impl_FewestCuts; rw [h_impl_FewestCuts]
 exact sound_of_run (fn := Try.f18) hmix hstable (tyOK_of ttOK) (hglob _) (conOK_of ⟨s_impl_IsHeap, s_Heap_box, s_Heap_cutFaces, trivial⟩) (mconOK_of trivial) (by kernel_rfl) (by kernel_rfl) (by kernel_rfl) (by kernel_rfl) (by kernel_rfl) (of_decide_eq_true (by kernel_rfl))
def l_impl_FewestCuts_5 : Nat → Int → Int → Int → (List D_A3) → Int → Int → Int → Int → Int → Option (denL R_impl_FewestCuts) := hid (fun m0 p0 p1 p2 p3 p4 p5 p6 p7 p8 => L_impl_FewestCuts_5 N P_impl_IsHeap P_Heap_box P_Heap_cutFaces m0 p0 p1 p2 p3 p4 p5 p6 p7 p8)
theorem h_impl_FewestCuts_5 : l_impl_FewestCuts_5 = fun m0 p0 p1 p2 p3 p4 p5 p6 p7 p8 => L_impl_FewestCuts_5 N P_impl_IsHeap P_Heap_box P_Heap_cutFaces m0 p0 p1 p2 p3 p4 p5 p6 p7 p8 := hid_eq _
def l_impl_FewestCuts_8 : Nat → Nat → Int → Int → Int → (List D_A3) → Int → Int → Int → Int → Int → Int → Int → Int → Option (denL R_impl_FewestCuts) := hid (fun m0 m1 p0 p1 p2 p3 p4 p5 p6 p7 p8 p9 p10 p11 => L_impl_FewestCuts_8 N P_impl_IsHeap P_Heap_box P_Heap_cutFaces m0 m1 p0 p1 p2 p3 p4 p5 p6 p7 p8 p9 p10 p11)
theorem h_impl_FewestCuts_8 : l_impl_FewestCuts_8 = fun m0 m1 p0 p1 p2 p3 p4 p5 p6 p7 p8 p9 p10 p11 => L_impl_FewestCuts_8 N P_impl_IsHeap P_Heap_box P_Heap_cutFaces m0 m1 p0 p1 p2 p3 p4 p5 p6 p7 p8 p9 p10 p11 := hid_eq _
theorem p_impl_FewestCuts (a0 : D_Heap) : P_impl_FewestCuts (a0, ()) = 
 Option.bind (P_impl_IsHeap (a0, ())) fun r0 =>
 bif !r0.1 then
 some (0, false, ())
 else
 Option.bind (P_Heap_box (a0, ())) fun r2 =>
 l_impl_FewestCuts_5 N a0.1 a0.2.1 a0.2.2.1 a0.2.2.2.1 0 r2.1.1 r2.1.2.1 r2.1.2.2.1 0 := by
 rewrite [h_impl_FewestCuts, h_impl_FewestCuts_5]
 exact e_impl_FewestCuts N P_impl_IsHeap P_Heap_box P_Heap_cutFaces a0
theorem q_impl_FewestCuts_5 (m0 : Nat) (p0 p1 p2 : Int) (p3 : List D_A3) (p4 p5 : Int) (p6 p7 p8 : Int) : l_impl_FewestCuts_5 (m0 + 1) p0 p1 p2 p3 p4 p5 p6 p7 p8 = 
 bif decide (p8 < 3) then
 bif inB p8 3 then
 l_impl_FewestCuts_8 m0 N p0 p1 p2 p3 p4 p8 (bif decide (p8 = (0 : Int)) then p5 else (bif decide (p8 = (1 : Int)) then p6 else p7)) 1 p5 p6 p7 p8
 else none
 else
 some (p4, true, ()) := by
 rewrite [h_impl_FewestCuts_5, h_impl_FewestCuts_8]
 exact e_impl_FewestCuts_5 N P_impl_IsHeap P_Heap_box P_Heap_cutFaces m0 p0 p1 p2 p3 p4 p5 p6 p7 p8
theorem q_impl_FewestCuts_8 (m0 m1 : Nat) (p0 p1 p2 : Int) (p3 : List D_A3) (p4 p5 : Int) (p6 p7 : Int) (p8 p9 : Int) (p10 p11 : Int) : l_impl_FewestCuts_8 m0 (m1 + 1) p0 p1 p2 p3 p4 p5 p6 p7 p8 p9 p10 p11 = 
 bif decide (p7 < p6) then
 Option.bind (P_Heap_cutFaces ((p0, (p1, (p2, (p3, ())))), p5, p7, ())) fun r1 =>
 bif decide (r1.1 > 0) then
 l_impl_FewestCuts_8 m0 m1 p0 p1 p2 p3 (IntKind.wrap .i64 (p4 + 1)) p5 p6 (IntKind.wrap .i64 (p7 + 1)) p8 p9 p10 p11
 else
 l_impl_FewestCuts_8 m0 m1 p0 p1 p2 p3 p4 p5 p6 (IntKind.wrap .i64 (p7 + 1)) p8 p9 p10 p11
 else
 l_impl_FewestCuts_5 m0 p0 p1 p2 p3 p4 p8 p9 p10 (IntKind.wrap .i64 (p11 + 1)) := by
 rewrite [h_impl_FewestCuts_5, h_impl_FewestCuts_8]
 exact e_impl_FewestCuts_8 N P_impl_IsHeap P_Heap_box P_Heap_cutFaces m0 m1 p0 p1 p2 p3 p4 p5 p6 p7 p8 p9 p10 p11

abbrev As_spec_FewestCuts : List ATy := [.data true T_Heap]
abbrev R_spec_FewestCuts : List (Bool × Ty) := [(false, (.int .i64)), (false, .bool)]
abbrev M_spec_FewestCuts : List RMode := []
abbrev Ft_spec_FewestCuts : Type := D_Heap × Unit → Option (Int × Bool × Unit)
def X_spec_FewestCuts (n : Nat) (F_spec_l2Long : Ft_spec_l2Long) (F_spec_l11Faces : Ft_spec_l11Faces) (F_spec_l2Heap : Ft_spec_l2Heap) : Ctx := { types := TT, globals := [], con := [(32, ⟨As_spec_l2Long, R_spec_l2Long, M_spec_l2Long, F_spec_l2Long⟩), (35, ⟨As_spec_l11Faces, R_spec_l11Faces, M_spec_l11Faces, F_spec_l11Faces⟩), (42, ⟨As_spec_l2Heap, R_spec_l2Heap, M_spec_l2Heap, F_spec_l2Heap⟩)], keep := [(5, ⟨[.box 1, .tmp 1, .tmp 4, .tmp 5], []⟩), (8, ⟨[.box 1, .tmp 1, .tmp 4, .tmp 5, .tmp 6], []⟩)], results := [.tmp 2, .tmp 3], ntmps := 29, n := n }
def B_spec_FewestCuts : Code := (Try.f19.body).getD .skip
def L_spec_FewestCuts_5 (n : Nat) (F_spec_l2Long : Ft_spec_l2Long) (F_spec_l11Faces : Ft_spec_l11Faces) (F_spec_l2Heap : Ft_spec_l2Heap) (m0 : Nat) (p0 p1 p2 : Int) (p3 : List D_A3) (p4 p5 : Int) : Option (denL R_spec_FewestCuts) := loopF (X_spec_FewestCuts n F_spec_l2Long F_spec_l11Faces F_spec_l2Heap) B_spec_FewestCuts R_spec_FewestCuts M_spec_FewestCuts 5 [m0] [(.ver, .num 1), (.box 1, .box 0 false [.int .i64 p0, .int .i64 p1, .int .i64 p2, .imm T_A3 p3 (some 3)]), (.tmp 1, .val false [.addr 1 0 0]), (.tmp 4, .val false [.int .i64 p4]), (.tmp 5, .val false [.int .i64 p5])]
def L_spec_FewestCuts_8 (n : Nat) (F_spec_l2Long : Ft_spec_l2Long) (F_spec_l11Faces : Ft_spec_l11Faces) (F_spec_l2Heap : Ft_spec_l2Heap) (m0 m1 : Nat) (p0 p1 p2 : Int) (p3 : List D_A3) (p4 p5 p6 : Int) : Option (denL R_spec_FewestCuts) := loopF (X_spec_FewestCuts n F_spec_l2Long F_spec_l11Faces F_spec_l2Heap) B_spec_FewestCuts R_spec_FewestCuts M_spec_FewestCuts 8 [m0, m1] [(.ver, .num 1), (.box 1, .box 0 false [.int .i64 p0, .int .i64 p1, .int .i64 p2, .imm T_A3 p3 (some 3)]), (.tmp 1, .val false [.addr 1 0 0]), (.tmp 4, .val false [.int .i64 p4]), (.tmp 5, .val false [.int .i64 p5]), (.tmp 6, .val false [.int .i64 p6])]
theorem e_spec_FewestCuts (n : Nat) (F_spec_l2Long : Ft_spec_l2Long) (F_spec_l11Faces : Ft_spec_l11Faces) (F_spec_l2Heap : Ft_spec_l2Heap) (a0 : D_Heap) : runF (X_spec_FewestCuts n F_spec_l2Long F_spec_l11Faces F_spec_l2Heap) B_spec_FewestCuts As_spec_FewestCuts R_spec_FewestCuts M_spec_FewestCuts (a0, ()) = 
 Option.bind (F_spec_l2Heap (a0, ())) fun r0 =>
 bif !r0.1 then
 some (0, false, ())
 else
 L_spec_FewestCuts_5 n F_spec_l2Long F_spec_l11Faces F_spec_l2Heap n a0.1 a0.2.1 a0.2.2.1 a0.2.2.2.1 0 0 := by kernel_rfl
theorem e_spec_FewestCuts_5 (n : Nat) (F_spec_l2Long : Ft_spec_l2Long) (F_spec_l11Faces : Ft_spec_l11Faces) (F_spec_l2Heap : Ft_spec_l2Heap) (m0 : Nat) (p0 p1 p2 : Int) (p3 : List D_A3) (p4 p5 : Int) : L_spec_FewestCuts_5 n F_spec_l2Long F_spec_l11Faces F_spec_l2Heap (m0 + 1) p0 p1 p2 p3 p4 p5 = 
 bif decide (p5 < 3) then
 L_spec_FewestCuts_8 n F_spec_l2Long F_spec_l11Faces F_spec_l2Heap m0 n p0 p1 p2 p3 p4 p5 1
 else
 some (p4, true, ()) := by kernel_rfl
theorem e_spec_FewestCuts_8 (n : Nat) (F_spec_l2Long : Ft_spec_l2Long) (F_spec_l11Faces : Ft_spec_l11Faces) (F_spec_l2Heap : Ft_spec_l2Heap) (m0 m1 : Nat) (p0 p1 p2 : Int) (p3 : List D_A3) (p4 p5 p6 : Int) : L_spec_FewestCuts_8 n F_spec_l2Long F_spec_l11Faces F_spec_l2Heap m0 (m1 + 1) p0 p1 p2 p3 p4 p5 p6 = 
 Option.bind (F_spec_l2Long ((p0, (p1, (p2, (p3, ())))), p5, ())) fun r0 =>
 bif decide (p6 < r0.1) then
 Option.bind (F_spec_l11Faces ((p0, (p1, (p2, (p3, ())))), p5, p6, ())) fun r2 =>
 bif decide (r2.1 > 0) then
 L_spec_FewestCuts_8 n F_spec_l2Long F_spec_l11Faces F_spec_l2Heap m0 m1 p0 p1 p2 p3 (IntKind.wrap .i64 (p4 + 1)) p5 (IntKind.wrap .i64 (p6 + 1))
 else
 L_spec_FewestCuts_8 n F_spec_l2Long F_spec_l11Faces F_spec_l2Heap m0 m1 p0 p1 p2 p3 p4 p5 (IntKind.wrap .i64 (p6 + 1))
 else
 L_spec_FewestCuts_5 n F_spec_l2Long F_spec_l11Faces F_spec_l2Heap m0 p0 p1 p2 p3 p4 (IntKind.wrap .i64 (p5 + 1)) := by kernel_rfl
def P_spec_FewestCuts : Ft_spec_FewestCuts := hid (runF (X_spec_FewestCuts N P_spec_l2Long P_spec_l11Faces P_spec_l2Heap) B_spec_FewestCuts As_spec_FewestCuts R_spec_FewestCuts M_spec_FewestCuts)
theorem h_spec_FewestCuts : P_spec_FewestCuts = runF (X_spec_FewestCuts N P_spec_l2Long P_spec_l11Faces P_spec_l2Heap) B_spec_FewestCuts As_spec_FewestCuts R_spec_FewestCuts M_spec_FewestCuts := hid_eq _
def C_spec_FewestCuts : Contract := ⟨As_spec_FewestCuts, R_spec_FewestCuts, M_spec_FewestCuts, P_spec_FewestCuts⟩
theorem s_spec_FewestCuts : Sound Try.prog GG 19 C_spec_FewestCuts := by
 unfold C_spec_FewestCuts; rw [h_spec_FewestCuts]
 exact sound_of_run (fn := Try.f19) hmix hstable (tyOK_of ttOK) (hglob _) (conOK_of ⟨s_spec_l2Long, s_spec_l11Faces, s_spec_l2Heap, trivial⟩) (mconOK_of trivial) (by kernel_rfl) (by kernel_rfl) (by kernel_rfl) (by kernel_rfl) (by kernel_rfl) (of_decide_eq_true (by kernel_rfl))
def l_spec_FewestCuts_5 : Nat → Int → Int → Int → (List D_A3) → Int → Int → Option (denL R_spec_FewestCuts) := hid (fun m0 p0 p1 p2 p3 p4 p5 => L_spec_FewestCuts_5 N P_spec_l2Long P_spec_l11Faces P_spec_l2Heap m0 p0 p1 p2 p3 p4 p5)
theorem h_spec_FewestCuts_5 : l_spec_FewestCuts_5 = fun m0 p0 p1 p2 p3 p4 p5 => L_spec_FewestCuts_5 N P_spec_l2Long P_spec_l11Faces P_spec_l2Heap m0 p0 p1 p2 p3 p4 p5 := hid_eq _
def l_spec_FewestCuts_8 : Nat → Nat → Int → Int → Int → (List D_A3) → Int → Int → Int → Option (denL R_spec_FewestCuts) := hid (fun m0 m1 p0 p1 p2 p3 p4 p5 p6 => L_spec_FewestCuts_8 N P_spec_l2Long P_spec_l11Faces P_spec_l2Heap m0 m1 p0 p1 p2 p3 p4 p5 p6)
theorem h_spec_FewestCuts_8 : l_spec_FewestCuts_8 = fun m0 m1 p0 p1 p2 p3 p4 p5 p6 => L_spec_FewestCuts_8 N P_spec_l2Long P_spec_l11Faces P_spec_l2Heap m0 m1 p0 p1 p2 p3 p4 p5 p6 := hid_eq _
theorem p_spec_FewestCuts (a0 : D_Heap) : P_spec_FewestCuts (a0, ()) = 
 Option.bind (P_spec_l2Heap (a0, ())) fun r0 =>
 bif !r0.1 then
 some (0, false, ())
 else
 l_spec_FewestCuts_5 N a0.1 a0.2.1 a0.2.2.1 a0.2.2.2.1 0 0 := by
 rewrite [h_spec_FewestCuts, h_spec_FewestCuts_5]
 exact e_spec_FewestCuts N P_spec_l2Long P_spec_l11Faces P_spec_l2Heap a0
theorem q_spec_FewestCuts_5 (m0 : Nat) (p0 p1 p2 : Int) (p3 : List D_A3) (p4 p5 : Int) : l_spec_FewestCuts_5 (m0 + 1) p0 p1 p2 p3 p4 p5 = 
 bif decide (p5 < 3) then
 l_spec_FewestCuts_8 m0 N p0 p1 p2 p3 p4 p5 1
 else
 some (p4, true, ()) := by
 rewrite [h_spec_FewestCuts_5, h_spec_FewestCuts_8]
 exact e_spec_FewestCuts_5 N P_spec_l2Long P_spec_l11Faces P_spec_l2Heap m0 p0 p1 p2 p3 p4 p5
theorem q_spec_FewestCuts_8 (m0 m1 : Nat) (p0 p1 p2 : Int) (p3 : List D_A3) (p4 p5 p6 : Int) : l_spec_FewestCuts_8 m0 (m1 + 1) p0 p1 p2 p3 p4 p5 p6 = 
 Option.bind (P_spec_l2Long ((p0, (p1, (p2, (p3, ())))), p5, ())) fun r0 =>
 bif decide (p6 < r0.1) then
 Option.bind (P_spec_l11Faces ((p0, (p1, (p2, (p3, ())))), p5, p6, ())) fun r2 =>
 bif decide (r2.1 > 0) then
 l_spec_FewestCuts_8 m0 m1 p0 p1 p2 p3 (IntKind.wrap .i64 (p4 + 1)) p5 (IntKind.wrap .i64 (p6 + 1))
 else
 l_spec_FewestCuts_8 m0 m1 p0 p1 p2 p3 p4 p5 (IntKind.wrap .i64 (p6 + 1))
 else
 l_spec_FewestCuts_5 m0 p0 p1 p2 p3 p4 (IntKind.wrap .i64 (p5 + 1)) := by
 rewrite [h_spec_FewestCuts_5, h_spec_FewestCuts_8]
 exact e_spec_FewestCuts_8 N P_spec_l2Long P_spec_l11Faces P_spec_l2Heap m0 m1 p0 p1 p2 p3 p4 p5 p6

abbrev As_box_parts : List ATy := [.data true T_A3, .data false (.int .u64)]
abbrev R_box_parts : List (Bool × Ty) := [(false, (.sl (.int .u64)))]
abbrev M_box_parts : List RMode := [.own 61]
abbrev Ft_box_parts : Type := D_A3 × Int × Unit → Option ((List Int) × Unit)
def X_box_parts (n : Nat) (F_box_grown : Ft_box_grown) : Ctx := { types := TT, globals := [], con := [(41, ⟨As_box_grown, R_box_grown, M_box_grown, F_box_grown⟩)], keep := [(2, ⟨[.box 2, .tmp 1, .tmp 2, .tmp 5], []⟩)], results := [.tmp 4], ntmps := 25, n := n }
def B_box_parts : Code := (Try.f54.body).getD .skip
def L_box_parts_2 (n : Nat) (F_box_grown : Ft_box_grown) (m0 : Nat) (p0 p1 : Int) (p2 p3 : Int) (p4 : List Int) : Option (denL R_box_parts) := loopF (X_box_parts n F_box_grown) B_box_parts R_box_parts M_box_parts 2 [m0] [(.ver, .num 1), (.box 2, .box 0 false [.int .i64 p0, .int .i64 p1, .int .i64 p2]), (.tmp 1, .val false [.int .u64 p3]), (.tmp 2, .val false [.addr 2 0 0]), (.tmp 5, .val false [.own 61 (.int .u64) 0 p4])]
theorem e_box_parts (n : Nat) (F_box_grown : Ft_box_grown) (a0 : D_A3) (a1 : Int) : runF (X_box_parts n F_box_grown) B_box_parts As_box_parts R_box_parts M_box_parts (a0, a1, ()) = 
 L_box_parts_2 n F_box_grown n a0.1 a0.2.1 a0.2.2.1 a1 ([] : List Int) := by kernel_rfl
theorem e_box_parts_2 (n : Nat) (F_box_grown : Ft_box_grown) (m0 : Nat) (p0 p1 : Int) (p2 p3 : Int) (p4 : List Int) : L_box_parts_2 n F_box_grown (m0 + 1) p0 p1 p2 p3 p4 = 
 bif !decide (p3 = 0) then
 Option.bind (F_box_grown ((p0, (p1, (p2, ()))), (intBits .and .u64 p3 (IntKind.wrap .u64 (0 - p3))), p3, ())) fun r1 =>
 bif (decide (((List.length p4) + (List.length ([r1.1] : List Int))) * 8 ≤ 140737488355328) && decide (((List.length p4) + (List.length ([r1.1] : List Int))) ≤ 140737488355328)) then
 L_box_parts_2 n F_box_grown m0 p0 p1 p2 (intBits .andNot .u64 p3 r1.1) (p4 ++ ([r1.1] : List Int))
 else none
 else
 some (p4, ()) := by kernel_rfl
def P_box_parts : Ft_box_parts := hid (runF (X_box_parts N P_box_grown) B_box_parts As_box_parts R_box_parts M_box_parts)
theorem h_box_parts : P_box_parts = runF (X_box_parts N P_box_grown) B_box_parts As_box_parts R_box_parts M_box_parts := hid_eq _
def C_box_parts : Contract := ⟨As_box_parts, R_box_parts, M_box_parts, P_box_parts⟩
theorem s_box_parts : Sound Try.prog GG 54 C_box_parts := by
 unfold C_box_parts; rw [h_box_parts]
 exact sound_of_run (fn := Try.f54) hmix hstable (tyOK_of ttOK) (hglob _) (conOK_of ⟨s_box_grown, trivial⟩) (mconOK_of trivial) (by kernel_rfl) (by kernel_rfl) (by kernel_rfl) (by kernel_rfl) (by kernel_rfl) (of_decide_eq_true (by kernel_rfl))
def l_box_parts_2 : Nat → Int → Int → Int → Int → (List Int) → Option (denL R_box_parts) := hid (fun m0 p0 p1 p2 p3 p4 => L_box_parts_2 N P_box_grown m0 p0 p1 p2 p3 p4)
theorem h_box_parts_2 : l_box_parts_2 = fun m0 p0 p1 p2 p3 p4 => L_box_parts_2 N P_box_grown m0 p0 p1 p2 p3 p4 := hid_eq _
theorem p_box_parts (a0 : D_A3) (a1 : Int) : P_box_parts (a0, a1, ()) = 
 l_box_parts_2 N a0.1 a0.2.1 a0.2.2.1 a1 ([] : List Int) := by
 rewrite [h_box_parts, h_box_parts_2]
 exact e_box_parts N P_box_grown a0 a1
theorem q_box_parts_2 (m0 : Nat) (p0 p1 : Int) (p2 p3 : Int) (p4 : List Int) : l_box_parts_2 (m0 + 1) p0 p1 p2 p3 p4 = 
 bif !decide (p3 = 0) then
 Option.bind (P_box_grown ((p0, (p1, (p2, ()))), (intBits .and .u64 p3 (IntKind.wrap .u64 (0 - p3))), p3, ())) fun r1 =>
 bif (decide (((List.length p4) + (List.length ([r1.1] : List Int))) * 8 ≤ 140737488355328) && decide (((List.length p4) + (List.length ([r1.1] : List Int))) ≤ 140737488355328)) then
 l_box_parts_2 m0 p0 p1 p2 (intBits .andNot .u64 p3 r1.1) (p4 ++ ([r1.1] : List Int))
 else none
 else
 some (p4, ()) := by
 rewrite [h_box_parts_2]
 exact e_box_parts_2 N P_box_grown m0 p0 p1 p2 p3 p4

abbrev As_impl_PartsOf : List ATy := [.data true T_Heap]
abbrev R_impl_PartsOf : List (Bool × Ty) := [(false, (.sl (.sl T_A3))), (false, .bool)]
abbrev M_impl_PartsOf : List RMode := [.own 24]
abbrev Ft_impl_PartsOf : Type := D_Heap × Unit → Option ((List (List D_A3)) × Bool × Unit)
def X_impl_PartsOf (n : Nat) (F_impl_IsHeap : Ft_impl_IsHeap) (F_Heap_box : Ft_Heap_box) (F_Heap_cubes : Ft_Heap_cubes) (F_box_list : Ft_box_list) (F_box_parts : Ft_box_parts) : Ctx := { types := TT, globals := [], con := [(20, ⟨As_impl_IsHeap, R_impl_IsHeap, M_impl_IsHeap, F_impl_IsHeap⟩), (27, ⟨As_Heap_box, R_Heap_box, M_Heap_box, F_Heap_box⟩), (37, ⟨As_Heap_cubes, R_Heap_cubes, M_Heap_cubes, F_Heap_cubes⟩), (38, ⟨As_box_list, R_box_list, M_box_list, F_box_list⟩), (54, ⟨As_box_parts, R_box_parts, M_box_parts, F_box_parts⟩)], keep := [(5, ⟨[.box 1, .tmp 1, .tmp 4, .tmp 15, .tmp 16, .tmp 17], []⟩)], results := [.tmp 2, .tmp 3], ntmps := 30, n := n }
def B_impl_PartsOf : Code := (Try.f21.body).getD .skip
def L_impl_PartsOf_5 (n : Nat) (F_impl_IsHeap : Ft_impl_IsHeap) (F_Heap_box : Ft_Heap_box) (F_Heap_cubes : Ft_Heap_cubes) (F_box_list : Ft_box_list) (F_box_parts : Ft_box_parts) (m0 : Nat) (p0 p1 p2 : Int) (p3 : List D_A3) (p4 : List (List D_A3)) (p5 : List Int) (p6 p7 : Int) : Option (denL R_impl_PartsOf) := loopF (X_impl_PartsOf n F_impl_IsHeap F_Heap_box F_Heap_cubes F_box_list F_box_parts) B_impl_PartsOf R_impl_PartsOf M_impl_PartsOf 5 [m0] [(.ver, .num 1), (.box 1, .box 0 false [.int .i64 p0, .int .i64 p1, .int .i64 p2, .imm T_A3 p3 (some 3)]), (.tmp 1, .val false [.addr 1 0 0]), (.tmp 4, .val false [.own 24 (.sl T_A3) 0 p4]), (.tmp 15, .val false [.own 61 (.int .u64) 0 p5]), (.tmp 16, .val false [.int .i64 p6]), (.tmp 17, .val false [.int .i64 p7])]
theorem e_impl_PartsOf (n : Nat) (F_impl_IsHeap : Ft_impl_IsHeap) (F_Heap_box : Ft_Heap_box) (F_Heap_cubes : Ft_Heap_cubes) (F_box_list : Ft_box_list) (F_box_parts : Ft_box_parts) (a0 : D_Heap) : runF (X_impl_PartsOf n F_impl_IsHeap F_Heap_box F_Heap_cubes F_box_list F_box_parts) B_impl_PartsOf As_impl_PartsOf R_impl_PartsOf M_impl_PartsOf (a0, ()) = 
 Option.bind (F_impl_IsHeap (a0, ())) fun r0 =>
 bif !r0.1 then
 some (([] : List (List D_A3)), false, ())
 else
 Option.bind (F_Heap_box (a0, ())) fun r2 =>
 Option.bind (F_Heap_cubes (a0, ())) fun r3 =>
 Option.bind (F_box_parts (r2.1, r3.1, ())) fun r4 =>
 L_impl_PartsOf_5 n F_impl_IsHeap F_Heap_box F_Heap_cubes F_box_list F_box_parts n a0.1 a0.2.1 a0.2.2.1 a0.2.2.2.1 ([] : List (List D_A3)) r4.1 (List.length r4.1 : Int) 0 := by kernel_rfl
theorem e_impl_PartsOf_5 (n : Nat) (F_impl_IsHeap : Ft_impl_IsHeap) (F_Heap_box : Ft_Heap_box) (F_Heap_cubes : Ft_Heap_cubes) (F_box_list : Ft_box_list) (F_box_parts : Ft_box_parts) (m0 : Nat) (p0 p1 p2 : Int) (p3 : List D_A3) (p4 : List (List D_A3)) (p5 : List Int) (p6 p7 : Int) : L_impl_PartsOf_5 n F_impl_IsHeap F_Heap_box F_Heap_cubes F_box_list F_box_parts (m0 + 1) p0 p1 p2 p3 p4 p5 p6 p7 = 
 bif decide (p7 < p6) then
 bif inB p7 (List.length p5) then
 Option.bind (F_Heap_box ((p0, (p1, (p2, (p3, ())))), ())) fun r2 =>
 Option.bind (F_box_list (r2.1, (nth ((.int .u64) : Ty) p5 p7), ())) fun r3 =>
 bif (decide (((List.length p4) + (List.length ([r3.1] : List (List D_A3)))) * 24 ≤ 140737488355328) && decide (((List.length p4) + (List.length ([r3.1] : List (List D_A3)))) ≤ 140737488355328)) then
 L_impl_PartsOf_5 n F_impl_IsHeap F_Heap_box F_Heap_cubes F_box_list F_box_parts m0 p0 p1 p2 p3 (p4 ++ ([r3.1] : List (List D_A3))) p5 p6 (IntKind.wrap .i64 (p7 + 1))
 else none
 else none
 else
 some (p4, true, ()) := by kernel_rfl
def P_impl_PartsOf : Ft_impl_PartsOf := hid (runF (X_impl_PartsOf N P_impl_IsHeap P_Heap_box P_Heap_cubes P_box_list P_box_parts) B_impl_PartsOf As_impl_PartsOf R_impl_PartsOf M_impl_PartsOf)
theorem h_impl_PartsOf : P_impl_PartsOf = runF (X_impl_PartsOf N P_impl_IsHeap P_Heap_box P_Heap_cubes P_box_list P_box_parts) B_impl_PartsOf As_impl_PartsOf R_impl_PartsOf M_impl_PartsOf := hid_eq _
def C_impl_PartsOf : Contract := ⟨As_impl_PartsOf, R_impl_PartsOf, M_impl_PartsOf, P_impl_PartsOf⟩
theorem s_impl_PartsOf : Sound Try.prog GG 21 C_impl_PartsOf := by
 unfold C_impl_PartsOf; rw [h_impl_PartsOf]
 exact sound_of_run (fn := Try.f21) hmix hstable (tyOK_of ttOK) (hglob _) (conOK_of ⟨s_impl_IsHeap, s_Heap_box, s_Heap_cubes, s_box_list, s_box_parts, trivial⟩) (mconOK_of trivial) (by kernel_rfl) (by kernel_rfl) (by kernel_rfl) (by kernel_rfl) (by kernel_rfl) (of_decide_eq_true (by kernel_rfl))
def l_impl_PartsOf_5 : Nat → Int → Int → Int → (List D_A3) → (List (List D_A3)) → (List Int) → Int → Int → Option (denL R_impl_PartsOf) := hid (fun m0 p0 p1 p2 p3 p4 p5 p6 p7 => L_impl_PartsOf_5 N P_impl_IsHeap P_Heap_box P_Heap_cubes P_box_list P_box_parts m0 p0 p1 p2 p3 p4 p5 p6 p7)
theorem h_impl_PartsOf_5 : l_impl_PartsOf_5 = fun m0 p0 p1 p2 p3 p4 p5 p6 p7 => L_impl_PartsOf_5 N P_impl_IsHeap P_Heap_box P_Heap_cubes P_box_list P_box_parts m0 p0 p1 p2 p3 p4 p5 p6 p7 := hid_eq _
theorem p_impl_PartsOf (a0 : D_Heap) : P_impl_PartsOf (a0, ()) = 
 Option.bind (P_impl_IsHeap (a0, ())) fun r0 =>
 bif !r0.1 then
 some (([] : List (List D_A3)), false, ())
 else
 Option.bind (P_Heap_box (a0, ())) fun r2 =>
 Option.bind (P_Heap_cubes (a0, ())) fun r3 =>
 Option.bind (P_box_parts (r2.1, r3.1, ())) fun r4 =>
 l_impl_PartsOf_5 N a0.1 a0.2.1 a0.2.2.1 a0.2.2.2.1 ([] : List (List D_A3)) r4.1 (List.length r4.1 : Int) 0 := by
 rewrite [h_impl_PartsOf, h_impl_PartsOf_5]
 exact e_impl_PartsOf N P_impl_IsHeap P_Heap_box P_Heap_cubes P_box_list P_box_parts a0
theorem q_impl_PartsOf_5 (m0 : Nat) (p0 p1 p2 : Int) (p3 : List D_A3) (p4 : List (List D_A3)) (p5 : List Int) (p6 p7 : Int) : l_impl_PartsOf_5 (m0 + 1) p0 p1 p2 p3 p4 p5 p6 p7 = 
 bif decide (p7 < p6) then
 bif inB p7 (List.length p5) then
 Option.bind (P_Heap_box ((p0, (p1, (p2, (p3, ())))), ())) fun r2 =>
 Option.bind (P_box_list (r2.1, (nth ((.int .u64) : Ty) p5 p7), ())) fun r3 =>
 bif (decide (((List.length p4) + (List.length ([r3.1] : List (List D_A3)))) * 24 ≤ 140737488355328) && decide (((List.length p4) + (List.length ([r3.1] : List (List D_A3)))) ≤ 140737488355328)) then
 l_impl_PartsOf_5 m0 p0 p1 p2 p3 (p4 ++ ([r3.1] : List (List D_A3))) p5 p6 (IntKind.wrap .i64 (p7 + 1))
 else none
 else none
 else
 some (p4, true, ()) := by
 rewrite [h_impl_PartsOf_5]
 exact e_impl_PartsOf_5 N P_impl_IsHeap P_Heap_box P_Heap_cubes P_box_list P_box_parts m0 p0 p1 p2 p3 p4 p5 p6 p7

abbrev As_laws_rAll : List ATy := [.data false (.sl (.sl T_A3))]
abbrev R_laws_rAll : List (Bool × Ty) := [(false, (.int .i64))]
abbrev M_laws_rAll : List RMode := []
abbrev Ft_laws_rAll : Type := (List (List D_A3)) × Unit → Option (Int × Unit)
def X_laws_rAll (n : Nat) : Ctx := { types := TT, globals := [], con := [], keep := [(3, ⟨[.tmp 0, .tmp 3, .tmp 4], []⟩)], results := [.tmp 2], ntmps := 19, n := n }
def B_laws_rAll : Code := (Try.f22.body).getD .skip
def L_laws_rAll_3 (n m0 : Nat) (p0 : List (List D_A3)) (p1 p2 : Int) : Option (denL R_laws_rAll) := loopF (X_laws_rAll n) B_laws_rAll R_laws_rAll M_laws_rAll 3 [m0] [(.ver, .num 1), (.tmp 0, .val false [.imm (.sl T_A3) p0 (some 0)]), (.tmp 3, .val false [.int .i64 p1]), (.tmp 4, .val false [.int .i64 p2])]
theorem e_laws_rAll (n : Nat) (a0 : List (List D_A3)) : runF (X_laws_rAll n) B_laws_rAll As_laws_rAll R_laws_rAll M_laws_rAll (a0, ()) = 
 L_laws_rAll_3 n n a0 0 0 := by kernel_rfl
theorem e_laws_rAll_3 (n m0 : Nat) (p0 : List (List D_A3)) (p1 p2 : Int) : L_laws_rAll_3 n (m0 + 1) p0 p1 p2 = 
 bif decide (p2 < (List.length p0 : Int)) then
 bif inB p2 (List.length p0) then
 L_laws_rAll_3 n m0 p0 (IntKind.wrap .i64 (p1 + (List.length (nth ((.sl T_A3) : Ty) p0 p2) : Int))) (IntKind.wrap .i64 (p2 + 1))
 else none
 else
 some (p1, ()) := by kernel_rfl
def P_laws_rAll : Ft_laws_rAll := hid (runF (X_laws_rAll N) B_laws_rAll As_laws_rAll R_laws_rAll M_laws_rAll)
theorem h_laws_rAll : P_laws_rAll = runF (X_laws_rAll N) B_laws_rAll As_laws_rAll R_laws_rAll M_laws_rAll := hid_eq _
def C_laws_rAll : Contract := ⟨As_laws_rAll, R_laws_rAll, M_laws_rAll, P_laws_rAll⟩
theorem s_laws_rAll : Sound Try.prog GG 22 C_laws_rAll := by
 unfold C_laws_rAll; rw [h_laws_rAll]
 exact sound_of_run (fn := Try.f22) hmix hstable (tyOK_of ttOK) (hglob _) (conOK_of trivial) (mconOK_of trivial) (by kernel_rfl) (by kernel_rfl) (by kernel_rfl) (by kernel_rfl) (by kernel_rfl) (of_decide_eq_true (by kernel_rfl))
def l_laws_rAll_3 : Nat → (List (List D_A3)) → Int → Int → Option (denL R_laws_rAll) := hid (fun m0 p0 p1 p2 => L_laws_rAll_3 N m0 p0 p1 p2)
theorem h_laws_rAll_3 : l_laws_rAll_3 = fun m0 p0 p1 p2 => L_laws_rAll_3 N m0 p0 p1 p2 := hid_eq _
theorem p_laws_rAll (a0 : List (List D_A3)) : P_laws_rAll (a0, ()) = 
 l_laws_rAll_3 N a0 0 0 := by
 rewrite [h_laws_rAll, h_laws_rAll_3]
 exact e_laws_rAll N a0
theorem q_laws_rAll_3 (m0 : Nat) (p0 : List (List D_A3)) (p1 p2 : Int) : l_laws_rAll_3 (m0 + 1) p0 p1 p2 = 
 bif decide (p2 < (List.length p0 : Int)) then
 bif inB p2 (List.length p0) then
 l_laws_rAll_3 m0 p0 (IntKind.wrap .i64 (p1 + (List.length (nth ((.sl T_A3) : Ty) p0 p2) : Int))) (IntKind.wrap .i64 (p2 + 1))
 else none
 else
 some (p1, ()) := by
 rewrite [h_laws_rAll_3]
 exact e_laws_rAll_3 N m0 p0 p1 p2

abbrev As_Heap_isBare : List ATy := [.data true T_Heap, .data true T_A3]
abbrev R_Heap_isBare : List (Bool × Ty) := [(false, .bool)]
abbrev M_Heap_isBare : List RMode := []
abbrev Ft_Heap_isBare : Type := D_Heap × D_A3 × Unit → Option (Bool × Unit)
def X_Heap_isBare (n : Nat) (F_Heap_box : Ft_Heap_box) (F_box_has : Ft_box_has) (F_Heap_hasCube : Ft_Heap_hasCube) : Ctx := { types := TT, globals := [], con := [(27, ⟨As_Heap_box, R_Heap_box, M_Heap_box, F_Heap_box⟩), (52, ⟨As_box_has, R_box_has, M_box_has, F_box_has⟩), (64, ⟨As_Heap_hasCube, R_Heap_hasCube, M_Heap_hasCube, F_Heap_hasCube⟩)], keep := [], results := [.tmp 4], ntmps := 16, n := n }
def B_Heap_isBare : Code := (Try.f81.body).getD .skip
theorem e_Heap_isBare (n : Nat) (F_Heap_box : Ft_Heap_box) (F_box_has : Ft_box_has) (F_Heap_hasCube : Ft_Heap_hasCube) (a0 : D_Heap) (a1 : D_A3) : runF (X_Heap_isBare n F_Heap_box F_box_has F_Heap_hasCube) B_Heap_isBare As_Heap_isBare R_Heap_isBare M_Heap_isBare (a0, a1, ()) = 
 Option.bind (F_Heap_box (a0, ())) fun r0 =>
 Option.bind (F_box_has (r0.1, a1, ())) fun r1 =>
 bif !r1.1 then
 some (true, ())
 else
 Option.bind (F_Heap_hasCube (a0, a1, ())) fun r3 =>
 some (!r3.1, ()) := by kernel_rfl
def P_Heap_isBare : Ft_Heap_isBare := hid (runF (X_Heap_isBare N P_Heap_box P_box_has P_Heap_hasCube) B_Heap_isBare As_Heap_isBare R_Heap_isBare M_Heap_isBare)
theorem h_Heap_isBare : P_Heap_isBare = runF (X_Heap_isBare N P_Heap_box P_box_has P_Heap_hasCube) B_Heap_isBare As_Heap_isBare R_Heap_isBare M_Heap_isBare := hid_eq _
def C_Heap_isBare : Contract := ⟨As_Heap_isBare, R_Heap_isBare, M_Heap_isBare, P_Heap_isBare⟩
theorem s_Heap_isBare : Sound Try.prog GG 81 C_Heap_isBare := by
 unfold C_Heap_isBare; rw [h_Heap_isBare]
 exact sound_of_run (fn := Try.f81) hmix hstable (tyOK_of ttOK) (hglob _) (conOK_of ⟨s_Heap_box, s_box_has, s_Heap_hasCube, trivial⟩) (mconOK_of trivial) (by kernel_rfl) (by kernel_rfl) (by kernel_rfl) (by kernel_rfl) (by kernel_rfl) (of_decide_eq_true (by kernel_rfl))
theorem p_Heap_isBare (a0 : D_Heap) (a1 : D_A3) : P_Heap_isBare (a0, a1, ()) = 
 Option.bind (P_Heap_box (a0, ())) fun r0 =>
 Option.bind (P_box_has (r0.1, a1, ())) fun r1 =>
 bif !r1.1 then
 some (true, ())
 else
 Option.bind (P_Heap_hasCube (a0, a1, ())) fun r3 =>
 some (!r3.1, ()) := by
 rewrite [h_Heap_isBare]
 exact e_Heap_isBare N P_Heap_box P_box_has P_Heap_hasCube a0 a1

abbrev As_impl_beyond : List ATy := [.data true T_A3, .data false (.int .i64)]
abbrev R_impl_beyond : List (Bool × Ty) := [(true, T_A3)]
abbrev M_impl_beyond : List RMode := []
abbrev Ft_impl_beyond : Type := D_A3 × Int × Unit → Option (D_A3 × Unit)
def X_impl_beyond (n : Nat) : Ctx := { types := TT, globals := [], con := [], keep := [], results := [.cell 4 49], ntmps := 16, n := n }
def B_impl_beyond : Code := (Try.f82.body).getD .skip
theorem e_impl_beyond (n : Nat) (a0 : D_A3) (a1 : Int) : runF (X_impl_beyond n) B_impl_beyond As_impl_beyond R_impl_beyond M_impl_beyond (a0, a1, ()) = 
 bif inB (IntKind.wrap .i64 (Int.tdiv a1 2)) 3 then
 bif inB (IntKind.wrap .i64 (Int.tdiv a1 2)) 3 then
 some (((bif decide ((IntKind.wrap .i64 (Int.tdiv a1 2)) = (0 : Int)) then (IntKind.wrap .i64 ((bif decide ((IntKind.wrap .i64 (Int.tdiv a1 2)) = (0 : Int)) then a0.1 else (bif decide ((IntKind.wrap .i64 (Int.tdiv a1 2)) = (1 : Int)) then a0.2.1 else a0.2.2.1)) + (IntKind.wrap .i64 ((IntKind.wrap .i64 (2 * (Int.tmod a1 2))) - 1)))) else a0.1), ((bif decide ((IntKind.wrap .i64 (Int.tdiv a1 2)) = (1 : Int)) then (IntKind.wrap .i64 ((bif decide ((IntKind.wrap .i64 (Int.tdiv a1 2)) = (0 : Int)) then a0.1 else (bif decide ((IntKind.wrap .i64 (Int.tdiv a1 2)) = (1 : Int)) then a0.2.1 else a0.2.2.1)) + (IntKind.wrap .i64 ((IntKind.wrap .i64 (2 * (Int.tmod a1 2))) - 1)))) else a0.2.1), ((bif decide ((IntKind.wrap .i64 (Int.tdiv a1 2)) = (2 : Int)) then (IntKind.wrap .i64 ((bif decide ((IntKind.wrap .i64 (Int.tdiv a1 2)) = (0 : Int)) then a0.1 else (bif decide ((IntKind.wrap .i64 (Int.tdiv a1 2)) = (1 : Int)) then a0.2.1 else a0.2.2.1)) + (IntKind.wrap .i64 ((IntKind.wrap .i64 (2 * (Int.tmod a1 2))) - 1)))) else a0.2.2.1), ()))), ())
 else none
 else none := by kernel_rfl
def P_impl_beyond : Ft_impl_beyond := hid (runF (X_impl_beyond N) B_impl_beyond As_impl_beyond R_impl_beyond M_impl_beyond)
theorem h_impl_beyond : P_impl_beyond = runF (X_impl_beyond N) B_impl_beyond As_impl_beyond R_impl_beyond M_impl_beyond := hid_eq _
def C_impl_beyond : Contract := ⟨As_impl_beyond, R_impl_beyond, M_impl_beyond, P_impl_beyond⟩
theorem s_impl_beyond : Sound Try.prog GG 82 C_impl_beyond := by
 unfold C_impl_beyond; rw [h_impl_beyond]
 exact sound_of_run (fn := Try.f82) hmix hstable (tyOK_of ttOK) (hglob _) (conOK_of trivial) (mconOK_of trivial) (by kernel_rfl) (by kernel_rfl) (by kernel_rfl) (by kernel_rfl) (by kernel_rfl) (of_decide_eq_true (by kernel_rfl))
theorem p_impl_beyond (a0 : D_A3) (a1 : Int) : P_impl_beyond (a0, a1, ()) = 
 bif inB (IntKind.wrap .i64 (Int.tdiv a1 2)) 3 then
 bif inB (IntKind.wrap .i64 (Int.tdiv a1 2)) 3 then
 some (((bif decide ((IntKind.wrap .i64 (Int.tdiv a1 2)) = (0 : Int)) then (IntKind.wrap .i64 ((bif decide ((IntKind.wrap .i64 (Int.tdiv a1 2)) = (0 : Int)) then a0.1 else (bif decide ((IntKind.wrap .i64 (Int.tdiv a1 2)) = (1 : Int)) then a0.2.1 else a0.2.2.1)) + (IntKind.wrap .i64 ((IntKind.wrap .i64 (2 * (Int.tmod a1 2))) - 1)))) else a0.1), ((bif decide ((IntKind.wrap .i64 (Int.tdiv a1 2)) = (1 : Int)) then (IntKind.wrap .i64 ((bif decide ((IntKind.wrap .i64 (Int.tdiv a1 2)) = (0 : Int)) then a0.1 else (bif decide ((IntKind.wrap .i64 (Int.tdiv a1 2)) = (1 : Int)) then a0.2.1 else a0.2.2.1)) + (IntKind.wrap .i64 ((IntKind.wrap .i64 (2 * (Int.tmod a1 2))) - 1)))) else a0.2.1), ((bif decide ((IntKind.wrap .i64 (Int.tdiv a1 2)) = (2 : Int)) then (IntKind.wrap .i64 ((bif decide ((IntKind.wrap .i64 (Int.tdiv a1 2)) = (0 : Int)) then a0.1 else (bif decide ((IntKind.wrap .i64 (Int.tdiv a1 2)) = (1 : Int)) then a0.2.1 else a0.2.2.1)) + (IntKind.wrap .i64 ((IntKind.wrap .i64 (2 * (Int.tmod a1 2))) - 1)))) else a0.2.2.1), ()))), ())
 else none
 else none := by
 rewrite [h_impl_beyond]
 exact e_impl_beyond N a0 a1

abbrev As_Heap_bareFaces : List ATy := [.data true T_Heap]
abbrev R_Heap_bareFaces : List (Bool × Ty) := [(true, T_A6)]
abbrev M_Heap_bareFaces : List RMode := []
abbrev Ft_Heap_bareFaces : Type := D_Heap × Unit → Option (D_A6 × Unit)
def X_Heap_bareFaces (n : Nat) (F_Heap_isBare : Ft_Heap_isBare) (F_impl_beyond : Ft_impl_beyond) : Ctx := { types := TT, globals := [], con := [(81, ⟨As_Heap_isBare, R_Heap_isBare, M_Heap_isBare, F_Heap_isBare⟩), (82, ⟨As_impl_beyond, R_impl_beyond, M_impl_beyond, F_impl_beyond⟩)], keep := [(3, ⟨[.box 1, .box 2, .box 3, .tmp 1, .tmp 2, .tmp 3, .tmp 9, .tmp 10, .tmp 11], []⟩), (6, ⟨[.box 1, .box 2, .box 3, .box 5, .tmp 1, .tmp 2, .tmp 3, .tmp 5, .tmp 9, .tmp 10, .tmp 11, .tmp 15], []⟩)], results := [.cell 2 87], ntmps := 31, n := n }
def B_Heap_bareFaces : Code := (Try.f55.body).getD .skip
def L_Heap_bareFaces_3 (n : Nat) (F_Heap_isBare : Ft_Heap_isBare) (F_impl_beyond : Ft_impl_beyond) (m0 : Nat) (p0 p1 p2 : Int) (p3 : List D_A3) (p4 p5 : Int) (p6 p7 : Int) (p8 p9 : Int) (p10 p11 : Int) (p12 p13 : Int) (p14 p15 : Int) (p16 : List D_A3) (p17 p18 : Int) : Option (denL R_Heap_bareFaces) := loopF (X_Heap_bareFaces n F_Heap_isBare F_impl_beyond) B_Heap_bareFaces R_Heap_bareFaces M_Heap_bareFaces 3 [m0] [(.ver, .num 1), (.box 1, .box 0 false [.int .i64 p0, .int .i64 p1, .int .i64 p2, .imm T_A3 p3 (some 3)]), (.box 2, .box 0 false [.int .i64 p4, .int .i64 p5, .int .i64 p6, .int .i64 p7, .int .i64 p8, .int .i64 p9]), (.box 3, .box 0 false [.int .i64 p10, .int .i64 p11, .int .i64 p12, .int .i64 p13, .int .i64 p14, .int .i64 p15]), (.tmp 1, .val false [.addr 1 0 0]), (.tmp 2, .val false [.addr 2 0 0]), (.tmp 3, .val false [.addr 3 0 0]), (.tmp 9, .val false [.imm T_A3 p16 (some 3)]), (.tmp 10, .val false [.int .i64 p17]), (.tmp 11, .val false [.int .i64 p18])]
def L_Heap_bareFaces_6 (n : Nat) (F_Heap_isBare : Ft_Heap_isBare) (F_impl_beyond : Ft_impl_beyond) (m0 m1 : Nat) (p0 p1 p2 : Int) (p3 : List D_A3) (p4 p5 : Int) (p6 p7 : Int) (p8 p9 : Int) (p10 p11 : Int) (p12 p13 : Int) (p14 p15 : Int) (p16 p17 p18 : Int) (p19 : List D_A3) (p20 p21 p22 : Int) : Option (denL R_Heap_bareFaces) := loopF (X_Heap_bareFaces n F_Heap_isBare F_impl_beyond) B_Heap_bareFaces R_Heap_bareFaces M_Heap_bareFaces 6 [m0, m1] [(.ver, .num 1), (.box 1, .box 0 false [.int .i64 p0, .int .i64 p1, .int .i64 p2, .imm T_A3 p3 (some 3)]), (.box 2, .box 0 false [.int .i64 p4, .int .i64 p5, .int .i64 p6, .int .i64 p7, .int .i64 p8, .int .i64 p9]), (.box 3, .box 0 false [.int .i64 p10, .int .i64 p11, .int .i64 p12, .int .i64 p13, .int .i64 p14, .int .i64 p15]), (.box 5, .box 0 false [.int .i64 p16, .int .i64 p17, .int .i64 p18]), (.tmp 1, .val false [.addr 1 0 0]), (.tmp 2, .val false [.addr 2 0 0]), (.tmp 3, .val false [.addr 3 0 0]), (.tmp 5, .val false [.addr 5 0 0]), (.tmp 9, .val false [.imm T_A3 p19 (some 3)]), (.tmp 10, .val false [.int .i64 p20]), (.tmp 11, .val false [.int .i64 p21]), (.tmp 15, .val false [.int .i64 p22])]
theorem e_Heap_bareFaces (n : Nat) (F_Heap_isBare : Ft_Heap_isBare) (F_impl_beyond : Ft_impl_beyond) (a0 : D_Heap) : runF (X_Heap_bareFaces n F_Heap_isBare F_impl_beyond) B_Heap_bareFaces As_Heap_bareFaces R_Heap_bareFaces M_Heap_bareFaces (a0, ()) = 
 L_Heap_bareFaces_3 n F_Heap_isBare F_impl_beyond n a0.1 a0.2.1 a0.2.2.1 a0.2.2.2.1 0 0 0 0 0 0 0 0 0 0 0 0 a0.2.2.2.1 (List.length a0.2.2.2.1 : Int) 0 := by kernel_rfl
theorem e_Heap_bareFaces_3 (n : Nat) (F_Heap_isBare : Ft_Heap_isBare) (F_impl_beyond : Ft_impl_beyond) (m0 : Nat) (p0 p1 p2 : Int) (p3 : List D_A3) (p4 p5 : Int) (p6 p7 : Int) (p8 p9 : Int) (p10 p11 : Int) (p12 p13 : Int) (p14 p15 : Int) (p16 : List D_A3) (p17 p18 : Int) : L_Heap_bareFaces_3 n F_Heap_isBare F_impl_beyond (m0 + 1) p0 p1 p2 p3 p4 p5 p6 p7 p8 p9 p10 p11 p12 p13 p14 p15 p16 p17 p18 = 
 bif decide (p18 < p17) then
 bif inB p18 (List.length p16) then
 L_Heap_bareFaces_6 n F_Heap_isBare F_impl_beyond m0 n p0 p1 p2 p3 p4 p5 p6 p7 p8 p9 p10 p11 p12 p13 p14 p15 (((nth T_A3 p16 p18)).1) ((((nth T_A3 p16 p18)).2).1) (((((nth T_A3 p16 p18)).2).2).1) p16 p17 p18 0
 else none
 else
 some ((p10, (p11, (p12, (p13, (p14, (p15, ())))))), ()) := by kernel_rfl
theorem e_Heap_bareFaces_6 (n : Nat) (F_Heap_isBare : Ft_Heap_isBare) (F_impl_beyond : Ft_impl_beyond) (m0 m1 : Nat) (p0 p1 p2 : Int) (p3 : List D_A3) (p4 p5 : Int) (p6 p7 : Int) (p8 p9 : Int) (p10 p11 : Int) (p12 p13 : Int) (p14 p15 : Int) (p16 p17 p18 : Int) (p19 : List D_A3) (p20 p21 p22 : Int) : L_Heap_bareFaces_6 n F_Heap_isBare F_impl_beyond m0 (m1 + 1) p0 p1 p2 p3 p4 p5 p6 p7 p8 p9 p10 p11 p12 p13 p14 p15 p16 p17 p18 p19 p20 p21 p22 = 
 bif decide (p22 < 6) then
 Option.bind (F_impl_beyond ((p16, (p17, (p18, ()))), p22, ())) fun r1 =>
 Option.bind (F_Heap_isBare ((p0, (p1, (p2, (p3, ())))), r1.1, ())) fun r2 =>
 bif r2.1 then
 bif inB p22 6 then
 bif inB p22 6 then
 L_Heap_bareFaces_6 n F_Heap_isBare F_impl_beyond m0 m1 p0 p1 p2 p3 p4 p5 p6 p7 p8 p9 (bif decide (p22 = (0 : Int)) then (IntKind.wrap .i64 ((bif decide (p22 = (0 : Int)) then p10 else (bif decide (p22 = (1 : Int)) then p11 else (bif decide (p22 = (2 : Int)) then p12 else (bif decide (p22 = (3 : Int)) then p13 else (bif decide (p22 = (4 : Int)) then p14 else p15))))) + 1)) else p10) (bif decide (p22 = (1 : Int)) then (IntKind.wrap .i64 ((bif decide (p22 = (0 : Int)) then p10 else (bif decide (p22 = (1 : Int)) then p11 else (bif decide (p22 = (2 : Int)) then p12 else (bif decide (p22 = (3 : Int)) then p13 else (bif decide (p22 = (4 : Int)) then p14 else p15))))) + 1)) else p11) (bif decide (p22 = (2 : Int)) then (IntKind.wrap .i64 ((bif decide (p22 = (0 : Int)) then p10 else (bif decide (p22 = (1 : Int)) then p11 else (bif decide (p22 = (2 : Int)) then p12 else (bif decide (p22 = (3 : Int)) then p13 else (bif decide (p22 = (4 : Int)) then p14 else p15))))) + 1)) else p12) (bif decide (p22 = (3 : Int)) then (IntKind.wrap .i64 ((bif decide (p22 = (0 : Int)) then p10 else (bif decide (p22 = (1 : Int)) then p11 else (bif decide (p22 = (2 : Int)) then p12 else (bif decide (p22 = (3 : Int)) then p13 else (bif decide (p22 = (4 : Int)) then p14 else p15))))) + 1)) else p13) (bif decide (p22 = (4 : Int)) then (IntKind.wrap .i64 ((bif decide (p22 = (0 : Int)) then p10 else (bif decide (p22 = (1 : Int)) then p11 else (bif decide (p22 = (2 : Int)) then p12 else (bif decide (p22 = (3 : Int)) then p13 else (bif decide (p22 = (4 : Int)) then p14 else p15))))) + 1)) else p14) (bif decide (p22 = (5 : Int)) then (IntKind.wrap .i64 ((bif decide (p22 = (0 : Int)) then p10 else (bif decide (p22 = (1 : Int)) then p11 else (bif decide (p22 = (2 : Int)) then p12 else (bif decide (p22 = (3 : Int)) then p13 else (bif decide (p22 = (4 : Int)) then p14 else p15))))) + 1)) else p15) p16 p17 p18 p19 p20 p21 (IntKind.wrap .i64 (p22 + 1))
 else none
 else none
 else
 L_Heap_bareFaces_6 n F_Heap_isBare F_impl_beyond m0 m1 p0 p1 p2 p3 p4 p5 p6 p7 p8 p9 p10 p11 p12 p13 p14 p15 p16 p17 p18 p19 p20 p21 (IntKind.wrap .i64 (p22 + 1))
 else
 L_Heap_bareFaces_3 n F_Heap_isBare F_impl_beyond m0 p0 p1 p2 p3 p4 p5 p6 p7 p8 p9 p10 p11 p12 p13 p14 p15 p19 p20 (IntKind.wrap .i64 (p21 + 1)) := by kernel_rfl
def P_Heap_bareFaces : Ft_Heap_bareFaces := hid (runF (X_Heap_bareFaces N P_Heap_isBare P_impl_beyond) B_Heap_bareFaces As_Heap_bareFaces R_Heap_bareFaces M_Heap_bareFaces)
theorem h_Heap_bareFaces : P_Heap_bareFaces = runF (X_Heap_bareFaces N P_Heap_isBare P_impl_beyond) B_Heap_bareFaces As_Heap_bareFaces R_Heap_bareFaces M_Heap_bareFaces := hid_eq _
def C_Heap_bareFaces : Contract := ⟨As_Heap_bareFaces, R_Heap_bareFaces, M_Heap_bareFaces, P_Heap_bareFaces⟩
theorem s_Heap_bareFaces : Sound Try.prog GG 55 C_Heap_bareFaces := by
 unfold C_Heap_bareFaces; rw [h_Heap_bareFaces]
 exact sound_of_run (fn := Try.f55) hmix hstable (tyOK_of ttOK) (hglob _) (conOK_of ⟨s_Heap_isBare, s_impl_beyond, trivial⟩) (mconOK_of trivial) (by kernel_rfl) (by kernel_rfl) (by kernel_rfl) (by kernel_rfl) (by kernel_rfl) (of_decide_eq_true (by kernel_rfl))
def l_Heap_bareFaces_3 : Nat → Int → Int → Int → (List D_A3) → Int → Int → Int → Int → Int → Int → Int → Int → Int → Int → Int → Int → (List D_A3) → Int → Int → Option (denL R_Heap_bareFaces) := hid (fun m0 p0 p1 p2 p3 p4 p5 p6 p7 p8 p9 p10 p11 p12 p13 p14 p15 p16 p17 p18 => L_Heap_bareFaces_3 N P_Heap_isBare P_impl_beyond m0 p0 p1 p2 p3 p4 p5 p6 p7 p8 p9 p10 p11 p12 p13 p14 p15 p16 p17 p18)
theorem h_Heap_bareFaces_3 : l_Heap_bareFaces_3 = fun m0 p0 p1 p2 p3 p4 p5 p6 p7 p8 p9 p10 p11 p12 p13 p14 p15 p16 p17 p18 => L_Heap_bareFaces_3 N P_Heap_isBare P_impl_beyond m0 p0 p1 p2 p3 p4 p5 p6 p7 p8 p9 p10 p11 p12 p13 p14 p15 p16 p17 p18 := hid_eq _
def l_Heap_bareFaces_6 : Nat → Nat → Int → Int → Int → (List D_A3) → Int → Int → Int → Int → Int → Int → Int → Int → Int → Int → Int → Int → Int → Int → Int → (List D_A3) → Int → Int → Int → Option (denL R_Heap_bareFaces) := hid (fun m0 m1 p0 p1 p2 p3 p4 p5 p6 p7 p8 p9 p10 p11 p12 p13 p14 p15 p16 p17 p18 p19 p20 p21 p22 => L_Heap_bareFaces_6 N P_Heap_isBare P_impl_beyond m0 m1 p0 p1 p2 p3 p4 p5 p6 p7 p8 p9 p10 p11 p12 p13 p14 p15 p16 p17 p18 p19 p20 p21 p22)
theorem h_Heap_bareFaces_6 : l_Heap_bareFaces_6 = fun m0 m1 p0 p1 p2 p3 p4 p5 p6 p7 p8 p9 p10 p11 p12 p13 p14 p15 p16 p17 p18 p19 p20 p21 p22 => L_Heap_bareFaces_6 N P_Heap_isBare P_impl_beyond m0 m1 p0 p1 p2 p3 p4 p5 p6 p7 p8 p9 p10 p11 p12 p13 p14 p15 p16 p17 p18 p19 p20 p21 p22 := hid_eq _
theorem p_Heap_bareFaces (a0 : D_Heap) : P_Heap_bareFaces (a0, ()) = 
 l_Heap_bareFaces_3 N a0.1 a0.2.1 a0.2.2.1 a0.2.2.2.1 0 0 0 0 0 0 0 0 0 0 0 0 a0.2.2.2.1 (List.length a0.2.2.2.1 : Int) 0 := by
 rewrite [h_Heap_bareFaces, h_Heap_bareFaces_3]
 exact e_Heap_bareFaces N P_Heap_isBare P_impl_beyond a0
theorem q_Heap_bareFaces_3 (m0 : Nat) (p0 p1 p2 : Int) (p3 : List D_A3) (p4 p5 : Int) (p6 p7 : Int) (p8 p9 : Int) (p10 p11 : Int) (p12 p13 : Int) (p14 p15 : Int) (p16 : List D_A3) (p17 p18 : Int) : l_Heap_bareFaces_3 (m0 + 1) p0 p1 p2 p3 p4 p5 p6 p7 p8 p9 p10 p11 p12 p13 p14 p15 p16 p17 p18 = 
 bif decide (p18 < p17) then
 bif inB p18 (List.length p16) then
 l_Heap_bareFaces_6 m0 N p0 p1 p2 p3 p4 p5 p6 p7 p8 p9 p10 p11 p12 p13 p14 p15 (((nth T_A3 p16 p18)).1) ((((nth T_A3 p16 p18)).2).1) (((((nth T_A3 p16 p18)).2).2).1) p16 p17 p18 0
 else none
 else
 some ((p10, (p11, (p12, (p13, (p14, (p15, ())))))), ()) := by
 rewrite [h_Heap_bareFaces_3, h_Heap_bareFaces_6]
 exact e_Heap_bareFaces_3 N P_Heap_isBare P_impl_beyond m0 p0 p1 p2 p3 p4 p5 p6 p7 p8 p9 p10 p11 p12 p13 p14 p15 p16 p17 p18
theorem q_Heap_bareFaces_6 (m0 m1 : Nat) (p0 p1 p2 : Int) (p3 : List D_A3) (p4 p5 : Int) (p6 p7 : Int) (p8 p9 : Int) (p10 p11 : Int) (p12 p13 : Int) (p14 p15 : Int) (p16 p17 p18 : Int) (p19 : List D_A3) (p20 p21 p22 : Int) : l_Heap_bareFaces_6 m0 (m1 + 1) p0 p1 p2 p3 p4 p5 p6 p7 p8 p9 p10 p11 p12 p13 p14 p15 p16 p17 p18 p19 p20 p21 p22 = 
 bif decide (p22 < 6) then
 Option.bind (P_impl_beyond ((p16, (p17, (p18, ()))), p22, ())) fun r1 =>
 Option.bind (P_Heap_isBare ((p0, (p1, (p2, (p3, ())))), r1.1, ())) fun r2 =>
 bif r2.1 then
 bif inB p22 6 then
 bif inB p22 6 then
 l_Heap_bareFaces_6 m0 m1 p0 p1 p2 p3 p4 p5 p6 p7 p8 p9 (bif decide (p22 = (0 : Int)) then (IntKind.wrap .i64 ((bif decide (p22 = (0 : Int)) then p10 else (bif decide (p22 = (1 : Int)) then p11 else (bif decide (p22 = (2 : Int)) then p12 else (bif decide (p22 = (3 : Int)) then p13 else (bif decide (p22 = (4 : Int)) then p14 else p15))))) + 1)) else p10) (bif decide (p22 = (1 : Int)) then (IntKind.wrap .i64 ((bif decide (p22 = (0 : Int)) then p10 else (bif decide (p22 = (1 : Int)) then p11 else (bif decide (p22 = (2 : Int)) then p12 else (bif decide (p22 = (3 : Int)) then p13 else (bif decide (p22 = (4 : Int)) then p14 else p15))))) + 1)) else p11) (bif decide (p22 = (2 : Int)) then (IntKind.wrap .i64 ((bif decide (p22 = (0 : Int)) then p10 else (bif decide (p22 = (1 : Int)) then p11 else (bif decide (p22 = (2 : Int)) then p12 else (bif decide (p22 = (3 : Int)) then p13 else (bif decide (p22 = (4 : Int)) then p14 else p15))))) + 1)) else p12) (bif decide (p22 = (3 : Int)) then (IntKind.wrap .i64 ((bif decide (p22 = (0 : Int)) then p10 else (bif decide (p22 = (1 : Int)) then p11 else (bif decide (p22 = (2 : Int)) then p12 else (bif decide (p22 = (3 : Int)) then p13 else (bif decide (p22 = (4 : Int)) then p14 else p15))))) + 1)) else p13) (bif decide (p22 = (4 : Int)) then (IntKind.wrap .i64 ((bif decide (p22 = (0 : Int)) then p10 else (bif decide (p22 = (1 : Int)) then p11 else (bif decide (p22 = (2 : Int)) then p12 else (bif decide (p22 = (3 : Int)) then p13 else (bif decide (p22 = (4 : Int)) then p14 else p15))))) + 1)) else p14) (bif decide (p22 = (5 : Int)) then (IntKind.wrap .i64 ((bif decide (p22 = (0 : Int)) then p10 else (bif decide (p22 = (1 : Int)) then p11 else (bif decide (p22 = (2 : Int)) then p12 else (bif decide (p22 = (3 : Int)) then p13 else (bif decide (p22 = (4 : Int)) then p14 else p15))))) + 1)) else p15) p16 p17 p18 p19 p20 p21 (IntKind.wrap .i64 (p22 + 1))
 else none
 else none
 else
 l_Heap_bareFaces_6 m0 m1 p0 p1 p2 p3 p4 p5 p6 p7 p8 p9 p10 p11 p12 p13 p14 p15 p16 p17 p18 p19 p20 p21 (IntKind.wrap .i64 (p22 + 1))
 else
 l_Heap_bareFaces_3 m0 p0 p1 p2 p3 p4 p5 p6 p7 p8 p9 p10 p11 p12 p13 p14 p15 p19 p20 (IntKind.wrap .i64 (p21 + 1)) := by
 rewrite [h_Heap_bareFaces_3, h_Heap_bareFaces_6]
 exact e_Heap_bareFaces_6 N P_Heap_isBare P_impl_beyond m0 m1 p0 p1 p2 p3 p4 p5 p6 p7 p8 p9 p10 p11 p12 p13 p14 p15 p16 p17 p18 p19 p20 p21 p22

abbrev As_impl_SurfaceOf : List ATy := [.data true T_Heap]
abbrev R_impl_SurfaceOf : List (Bool × Ty) := [(false, (.int .i64)), (false, .bool)]
abbrev M_impl_SurfaceOf : List RMode := []
abbrev Ft_impl_SurfaceOf : Type := D_Heap × Unit → Option (Int × Bool × Unit)
def X_impl_SurfaceOf (n : Nat) (F_impl_IsHeap : Ft_impl_IsHeap) (F_Heap_bareFaces : Ft_Heap_bareFaces) : Ctx := { types := TT, globals := [], con := [(20, ⟨As_impl_IsHeap, R_impl_IsHeap, M_impl_IsHeap, F_impl_IsHeap⟩), (55, ⟨As_Heap_bareFaces, R_Heap_bareFaces, M_Heap_bareFaces, F_Heap_bareFaces⟩)], keep := [(5, ⟨[.tmp 4, .tmp 11, .tmp 12], []⟩)], results := [.tmp 2, .tmp 3], ntmps := 20, n := n }
def B_impl_SurfaceOf : Code := (Try.f23.body).getD .skip
def L_impl_SurfaceOf_5 (n : Nat) (F_impl_IsHeap : Ft_impl_IsHeap) (F_Heap_bareFaces : Ft_Heap_bareFaces) (m0 : Nat) (p0 p1 : Int) (p2 p3 : Int) (p4 p5 : Int) (p6 p7 : Int) : Option (denL R_impl_SurfaceOf) := loopF (X_impl_SurfaceOf n F_impl_IsHeap F_Heap_bareFaces) B_impl_SurfaceOf R_impl_SurfaceOf M_impl_SurfaceOf 5 [m0] [(.ver, .num 1), (.tmp 4, .val false [.int .i64 p0]), (.tmp 11, .val true [.int .i64 p1, .int .i64 p2, .int .i64 p3, .int .i64 p4, .int .i64 p5, .int .i64 p6]), (.tmp 12, .val false [.int .i64 p7])]
theorem e_impl_SurfaceOf (n : Nat) (F_impl_IsHeap : Ft_impl_IsHeap) (F_Heap_bareFaces : Ft_Heap_bareFaces) (a0 : D_Heap) : runF (X_impl_SurfaceOf n F_impl_IsHeap F_Heap_bareFaces) B_impl_SurfaceOf As_impl_SurfaceOf R_impl_SurfaceOf M_impl_SurfaceOf (a0, ()) = 
 Option.bind (F_impl_IsHeap (a0, ())) fun r0 =>
 bif !r0.1 then
 some (0, false, ())
 else
 Option.bind (F_Heap_bareFaces (a0, ())) fun r2 =>
 L_impl_SurfaceOf_5 n F_impl_IsHeap F_Heap_bareFaces n 0 r2.1.1 r2.1.2.1 r2.1.2.2.1 r2.1.2.2.2.1 r2.1.2.2.2.2.1 r2.1.2.2.2.2.2.1 0 := by kernel_rfl
theorem e_impl_SurfaceOf_5 (n : Nat) (F_impl_IsHeap : Ft_impl_IsHeap) (F_Heap_bareFaces : Ft_Heap_bareFaces) (m0 : Nat) (p0 p1 : Int) (p2 p3 : Int) (p4 p5 : Int) (p6 p7 : Int) : L_impl_SurfaceOf_5 n F_impl_IsHeap F_Heap_bareFaces (m0 + 1) p0 p1 p2 p3 p4 p5 p6 p7 = 
 bif decide (p7 < 6) then
 bif inB p7 6 then
 L_impl_SurfaceOf_5 n F_impl_IsHeap F_Heap_bareFaces m0 (IntKind.wrap .i64 (p0 + (bif decide (p7 = (0 : Int)) then p1 else (bif decide (p7 = (1 : Int)) then p2 else (bif decide (p7 = (2 : Int)) then p3 else (bif decide (p7 = (3 : Int)) then p4 else (bif decide (p7 = (4 : Int)) then p5 else p6))))))) p1 p2 p3 p4 p5 p6 (IntKind.wrap .i64 (p7 + 1))
 else none
 else
 some (p0, true, ()) := by kernel_rfl
def P_impl_SurfaceOf : Ft_impl_SurfaceOf := hid (runF (X_impl_SurfaceOf N P_impl_IsHeap P_Heap_bareFaces) B_impl_SurfaceOf As_impl_SurfaceOf R_impl_SurfaceOf M_impl_SurfaceOf)
theorem h_impl_SurfaceOf : P_impl_SurfaceOf = runF (X_impl_SurfaceOf N P_impl_IsHeap P_Heap_bareFaces) B_impl_SurfaceOf As_impl_SurfaceOf R_impl_SurfaceOf M_impl_SurfaceOf := hid_eq _
def C_impl_SurfaceOf : Contract := ⟨As_impl_SurfaceOf, R_impl_SurfaceOf, M_impl_SurfaceOf, P_impl_SurfaceOf⟩
theorem s_impl_SurfaceOf : Sound Try.prog GG 23 C_impl_SurfaceOf := by
 unfold C_impl_SurfaceOf; rw [h_impl_SurfaceOf]
 exact sound_of_run (fn := Try.f23) hmix hstable (tyOK_of ttOK) (hglob _) (conOK_of ⟨s_impl_IsHeap, s_Heap_bareFaces, trivial⟩) (mconOK_of trivial) (by kernel_rfl) (by kernel_rfl) (by kernel_rfl) (by kernel_rfl) (by kernel_rfl) (of_decide_eq_true (by kernel_rfl))
def l_impl_SurfaceOf_5 : Nat → Int → Int → Int → Int → Int → Int → Int → Int → Option (denL R_impl_SurfaceOf) := hid (fun m0 p0 p1 p2 p3 p4 p5 p6 p7 => L_impl_SurfaceOf_5 N P_impl_IsHeap P_Heap_bareFaces m0 p0 p1 p2 p3 p4 p5 p6 p7)
theorem h_impl_SurfaceOf_5 : l_impl_SurfaceOf_5 = fun m0 p0 p1 p2 p3 p4 p5 p6 p7 => L_impl_SurfaceOf_5 N P_impl_IsHeap P_Heap_bareFaces m0 p0 p1 p2 p3 p4 p5 p6 p7 := hid_eq _
theorem p_impl_SurfaceOf (a0 : D_Heap) : P_impl_SurfaceOf (a0, ()) = 
 Option.bind (P_impl_IsHeap (a0, ())) fun r0 =>
 bif !r0.1 then
 some (0, false, ())
 else
 Option.bind (P_Heap_bareFaces (a0, ())) fun r2 =>
 l_impl_SurfaceOf_5 N 0 r2.1.1 r2.1.2.1 r2.1.2.2.1 r2.1.2.2.2.1 r2.1.2.2.2.2.1 r2.1.2.2.2.2.2.1 0 := by
 rewrite [h_impl_SurfaceOf, h_impl_SurfaceOf_5]
 exact e_impl_SurfaceOf N P_impl_IsHeap P_Heap_bareFaces a0
theorem q_impl_SurfaceOf_5 (m0 : Nat) (p0 p1 : Int) (p2 p3 : Int) (p4 p5 : Int) (p6 p7 : Int) : l_impl_SurfaceOf_5 (m0 + 1) p0 p1 p2 p3 p4 p5 p6 p7 = 
 bif decide (p7 < 6) then
 bif inB p7 6 then
 l_impl_SurfaceOf_5 m0 (IntKind.wrap .i64 (p0 + (bif decide (p7 = (0 : Int)) then p1 else (bif decide (p7 = (1 : Int)) then p2 else (bif decide (p7 = (2 : Int)) then p3 else (bif decide (p7 = (3 : Int)) then p4 else (bif decide (p7 = (4 : Int)) then p5 else p6))))))) p1 p2 p3 p4 p5 p6 (IntKind.wrap .i64 (p7 + 1))
 else none
 else
 some (p0, true, ()) := by
 rewrite [h_impl_SurfaceOf_5]
 exact e_impl_SurfaceOf_5 N P_impl_IsHeap P_Heap_bareFaces m0 p0 p1 p2 p3 p4 p5 p6 p7
end Go.VI
