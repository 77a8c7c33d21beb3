/- What the functions of the seat compute: part 2. -/
import Derived.Test.YtaopponjedombaaGreatG9p1
namespace Go.VI
open Go.Proofs
set_option maxRecDepth 100000

abbrev As_spec_SinkHeap : List ATy := [.data true T_Heap]
abbrev R_spec_SinkHeap : List (Bool × Ty) := [(true, T_Heap), (false, (.int .i64)), (false, .bool)]
abbrev M_spec_SinkHeap : List RMode := [.own 38]
abbrev Ft_spec_SinkHeap : Type := D_Heap × Unit → Option (D_Heap × Int × Bool × Unit)
noncomputable def X_spec_SinkHeap (n : Nat) (F_spec_l2Heap : Ft_spec_l2Heap) (F_spec_l2Made : Ft_spec_l2Made) (F_spec_l2Own : Ft_spec_l2Own) (F_spec_l2With : Ft_spec_l2With) (F_spec_l7Parted : Ft_spec_l7Parted) : Ctx := { types := TT, globals := [], con := [(48, ⟨As_spec_l2Heap, R_spec_l2Heap, M_spec_l2Heap, F_spec_l2Heap⟩), (98, ⟨As_spec_l2Made, R_spec_l2Made, M_spec_l2Made, F_spec_l2Made⟩), (111, ⟨As_spec_l2Own, R_spec_l2Own, M_spec_l2Own, F_spec_l2Own⟩), (126, ⟨As_spec_l2With, R_spec_l2With, M_spec_l2With, F_spec_l2With⟩), (152, ⟨As_spec_l7Parted, R_spec_l7Parted, M_spec_l7Parted, F_spec_l7Parted⟩)], keep := [(4, ⟨[.box 2, .box 5, .tmp 2, .tmp 5, .tmp 6], []⟩), (9, ⟨[.box 2, .box 5, .tmp 2, .tmp 5, .tmp 6, .tmp 7, .tmp 8], []⟩)], results := [.cell 2 26, .tmp 3, .tmp 4], ntmps := 53, n := n }
noncomputable def B_spec_SinkHeap : Code := (Tryz.f143.body).getD .skip
noncomputable def L_spec_SinkHeap_4 (n : Nat) (F_spec_l2Heap : Ft_spec_l2Heap) (F_spec_l2Made : Ft_spec_l2Made) (F_spec_l2Own : Ft_spec_l2Own) (F_spec_l2With : Ft_spec_l2With) (F_spec_l7Parted : Ft_spec_l7Parted) (m0 : Nat) (p0 p1 p2 : Int) (p3 : List D_A3) (p4 p5 p6 : Int) (p7 : List D_A3) (p8 : Int) : Option (denL R_spec_SinkHeap) := loopF (X_spec_SinkHeap n F_spec_l2Heap F_spec_l2Made F_spec_l2Own F_spec_l2With F_spec_l7Parted) B_spec_SinkHeap R_spec_SinkHeap M_spec_SinkHeap 4 [m0] [(.ver, .num 1), (.box 2, .box 0 false [.int .i64 p0, .int .i64 p1, .int .i64 p2, .own 38 T_A3 0 p3]), (.box 5, .box 0 false [.int .i64 p4, .int .i64 p5, .int .i64 p6, .own 38 T_A3 0 p7]), (.tmp 2, .val false [.addr 2 0 0]), (.tmp 5, .val false [.addr 5 0 0]), (.tmp 6, .val false [.int .i64 p8])]
noncomputable def L_spec_SinkHeap_9 (n : Nat) (F_spec_l2Heap : Ft_spec_l2Heap) (F_spec_l2Made : Ft_spec_l2Made) (F_spec_l2Own : Ft_spec_l2Own) (F_spec_l2With : Ft_spec_l2With) (F_spec_l7Parted : Ft_spec_l7Parted) (m0 m1 : Nat) (p0 p1 p2 : Int) (p3 : List D_A3) (p4 p5 p6 : Int) (p7 : List D_A3) (p8 : Int) (p9 : List D_A3) (p10 : Int) : Option (denL R_spec_SinkHeap) := loopF (X_spec_SinkHeap n F_spec_l2Heap F_spec_l2Made F_spec_l2Own F_spec_l2With F_spec_l7Parted) B_spec_SinkHeap R_spec_SinkHeap M_spec_SinkHeap 9 [m0, m1] [(.ver, .num 1), (.box 2, .box 0 false [.int .i64 p0, .int .i64 p1, .int .i64 p2, .own 38 T_A3 0 p3]), (.box 5, .box 0 false [.int .i64 p4, .int .i64 p5, .int .i64 p6, .own 38 T_A3 0 p7]), (.tmp 2, .val false [.addr 2 0 0]), (.tmp 5, .val false [.addr 5 0 0]), (.tmp 6, .val false [.int .i64 p8]), (.tmp 7, .val false [.own 38 T_A3 0 p9]), (.tmp 8, .val false [.int .i64 p10])]
theorem e_spec_SinkHeap (n : Nat) (F_spec_l2Heap : Ft_spec_l2Heap) (F_spec_l2Made : Ft_spec_l2Made) (F_spec_l2Own : Ft_spec_l2Own) (F_spec_l2With : Ft_spec_l2With) (F_spec_l7Parted : Ft_spec_l7Parted) (a0 : D_Heap) : runF (X_spec_SinkHeap n F_spec_l2Heap F_spec_l2Made F_spec_l2Own F_spec_l2With F_spec_l7Parted) B_spec_SinkHeap As_spec_SinkHeap R_spec_SinkHeap M_spec_SinkHeap (a0, ()) = 
 Option.bind (F_spec_l2Heap (a0, ())) fun r0 =>
 bif !r0.1 then
 some ((0, (0, (0, (([] : List D_A3), ())))), 0, false, ())
 else
 Option.bind (F_spec_l2Own (a0, ())) fun r2 =>
 L_spec_SinkHeap_4 n F_spec_l2Heap F_spec_l2Made F_spec_l2Own F_spec_l2With F_spec_l7Parted n 0 0 0 ([] : List D_A3) r2.1.1 r2.1.2.1 r2.1.2.2.1 r2.1.2.2.2.1 0 := by kernel_rfl
theorem e_spec_SinkHeap_4 (n : Nat) (F_spec_l2Heap : Ft_spec_l2Heap) (F_spec_l2Made : Ft_spec_l2Made) (F_spec_l2Own : Ft_spec_l2Own) (F_spec_l2With : Ft_spec_l2With) (F_spec_l7Parted : Ft_spec_l7Parted) (m0 : Nat) (p0 p1 p2 : Int) (p3 : List D_A3) (p4 p5 p6 : Int) (p7 : List D_A3) (p8 : Int) : L_spec_SinkHeap_4 n F_spec_l2Heap F_spec_l2Made F_spec_l2Own F_spec_l2With F_spec_l7Parted (m0 + 1) p0 p1 p2 p3 p4 p5 p6 p7 p8 = 
 Option.bind (F_spec_l7Parted ((p4, (p5, (p6, (p7, ())))), true, ())) fun r0 =>
 bif decide ((List.length r0.1 : Int) = 0) then
 some ((p4, (p5, (p6, (p7, ())))), p8, true, ())
 else
 Option.bind (F_spec_l7Parted ((p4, (p5, (p6, (p7, ())))), false, ())) fun r2 =>
 Option.bind (F_spec_l2Made ((p4, (p5, (p6, (p7, ())))), r2.1, ())) fun r3 =>
 L_spec_SinkHeap_9 n F_spec_l2Heap F_spec_l2Made F_spec_l2Own F_spec_l2With F_spec_l7Parted m0 n p0 p1 p2 p3 r3.1.1 r3.1.2.1 r3.1.2.2.1 r2.1 p8 r0.1 0 := by kernel_rfl
theorem e_spec_SinkHeap_9 (n : Nat) (F_spec_l2Heap : Ft_spec_l2Heap) (F_spec_l2Made : Ft_spec_l2Made) (F_spec_l2Own : Ft_spec_l2Own) (F_spec_l2With : Ft_spec_l2With) (F_spec_l7Parted : Ft_spec_l7Parted) (m0 m1 : Nat) (p0 p1 p2 : Int) (p3 : List D_A3) (p4 p5 p6 : Int) (p7 : List D_A3) (p8 : Int) (p9 : List D_A3) (p10 : Int) : L_spec_SinkHeap_9 n F_spec_l2Heap F_spec_l2Made F_spec_l2Own F_spec_l2With F_spec_l7Parted m0 (m1 + 1) p0 p1 p2 p3 p4 p5 p6 p7 p8 p9 p10 = 
 bif decide (p10 < (List.length p9 : Int)) then
 bif inB p10 (List.length p9) then
 bif inB p10 (List.length p9) then
 bif inB p10 (List.length p9) then
 Option.bind (F_spec_l2With ((p4, (p5, (p6, (p7, ())))), (((nth T_A3 p9 p10)).1, ((((nth T_A3 p9 p10)).2).1, ((IntKind.wrap .i64 (((((nth T_A3 p9 p10)).2).2).1 - 1)), ()))), ())) fun r4 =>
 L_spec_SinkHeap_9 n F_spec_l2Heap F_spec_l2Made F_spec_l2Own F_spec_l2With F_spec_l7Parted m0 m1 p0 p1 p2 p3 r4.1.1 r4.1.2.1 r4.1.2.2.1 r4.1.2.2.2.1 p8 p9 (IntKind.wrap .i64 (p10 + 1))
 else none
 else none
 else none
 else
 L_spec_SinkHeap_4 n F_spec_l2Heap F_spec_l2Made F_spec_l2Own F_spec_l2With F_spec_l7Parted m0 p0 p1 p2 p3 p4 p5 p6 p7 (IntKind.wrap .i64 (p8 + 1)) := by kernel_rfl
noncomputable def P_spec_SinkHeap : Ft_spec_SinkHeap := hid (runF (X_spec_SinkHeap N P_spec_l2Heap P_spec_l2Made P_spec_l2Own P_spec_l2With P_spec_l7Parted) B_spec_SinkHeap As_spec_SinkHeap R_spec_SinkHeap M_spec_SinkHeap)
theorem h_spec_SinkHeap : P_spec_SinkHeap = runF (X_spec_SinkHeap N P_spec_l2Heap P_spec_l2Made P_spec_l2Own P_spec_l2With P_spec_l7Parted) B_spec_SinkHeap As_spec_SinkHeap R_spec_SinkHeap M_spec_SinkHeap := hid_eq _
noncomputable def C_spec_SinkHeap : Contract := ⟨As_spec_SinkHeap, R_spec_SinkHeap, M_spec_SinkHeap, P_spec_SinkHeap⟩
theorem s_spec_SinkHeap : Sound Tryz.prog GG 143 C_spec_SinkHeap := by
 unfold C_spec_SinkHeap; rw [h_spec_SinkHeap]
 exact sound_of_run (fn := Tryz.f143) hmix hstable (tyOK_of ttOK) (hglob (X_spec_SinkHeap N P_spec_l2Heap P_spec_l2Made P_spec_l2Own P_spec_l2With P_spec_l7Parted)) (conOK_of (X := X_spec_SinkHeap N P_spec_l2Heap P_spec_l2Made P_spec_l2Own P_spec_l2With P_spec_l7Parted) ⟨s_spec_l2Heap, s_spec_l2Made, s_spec_l2Own, s_spec_l2With, s_spec_l7Parted, trivial⟩) (mconOK_of (X := X_spec_SinkHeap N P_spec_l2Heap P_spec_l2Made P_spec_l2Own P_spec_l2With P_spec_l7Parted) trivial) (by kernel_rfl) (by kernel_rfl) (by kernel_rfl) (by kernel_rfl) (by kernel_rfl) (of_decide_eq_true (by kernel_rfl))
noncomputable def l_spec_SinkHeap_4 : Nat → Int → Int → Int → (List D_A3) → Int → Int → Int → (List D_A3) → Int → Option (denL R_spec_SinkHeap) := hid (fun m0 p0 p1 p2 p3 p4 p5 p6 p7 p8 => L_spec_SinkHeap_4 N P_spec_l2Heap P_spec_l2Made P_spec_l2Own P_spec_l2With P_spec_l7Parted m0 p0 p1 p2 p3 p4 p5 p6 p7 p8)
theorem h_spec_SinkHeap_4 : l_spec_SinkHeap_4 = fun m0 p0 p1 p2 p3 p4 p5 p6 p7 p8 => L_spec_SinkHeap_4 N P_spec_l2Heap P_spec_l2Made P_spec_l2Own P_spec_l2With P_spec_l7Parted m0 p0 p1 p2 p3 p4 p5 p6 p7 p8 := hid_eq _
noncomputable def l_spec_SinkHeap_9 : Nat → Nat → Int → Int → Int → (List D_A3) → Int → Int → Int → (List D_A3) → Int → (List D_A3) → Int → Option (denL R_spec_SinkHeap) := hid (fun m0 m1 p0 p1 p2 p3 p4 p5 p6 p7 p8 p9 p10 => L_spec_SinkHeap_9 N P_spec_l2Heap P_spec_l2Made P_spec_l2Own P_spec_l2With P_spec_l7Parted m0 m1 p0 p1 p2 p3 p4 p5 p6 p7 p8 p9 p10)
theorem h_spec_SinkHeap_9 : l_spec_SinkHeap_9 = fun m0 m1 p0 p1 p2 p3 p4 p5 p6 p7 p8 p9 p10 => L_spec_SinkHeap_9 N P_spec_l2Heap P_spec_l2Made P_spec_l2Own P_spec_l2With P_spec_l7Parted m0 m1 p0 p1 p2 p3 p4 p5 p6 p7 p8 p9 p10 := hid_eq _
theorem p_spec_SinkHeap (a0 : D_Heap) : P_spec_SinkHeap (a0, ()) = 
 Option.bind (P_spec_l2Heap (a0, ())) fun r0 =>
 bif !r0.1 then
 some ((0, (0, (0, (([] : List D_A3), ())))), 0, false, ())
 else
 Option.bind (P_spec_l2Own (a0, ())) fun r2 =>
 l_spec_SinkHeap_4 N 0 0 0 ([] : List D_A3) r2.1.1 r2.1.2.1 r2.1.2.2.1 r2.1.2.2.2.1 0 := by
 rewrite [h_spec_SinkHeap, h_spec_SinkHeap_4]
 exact e_spec_SinkHeap N P_spec_l2Heap P_spec_l2Made P_spec_l2Own P_spec_l2With P_spec_l7Parted a0
theorem q_spec_SinkHeap_4 (m0 : Nat) (p0 p1 p2 : Int) (p3 : List D_A3) (p4 p5 p6 : Int) (p7 : List D_A3) (p8 : Int) : l_spec_SinkHeap_4 (m0 + 1) p0 p1 p2 p3 p4 p5 p6 p7 p8 = 
 Option.bind (P_spec_l7Parted ((p4, (p5, (p6, (p7, ())))), true, ())) fun r0 =>
 bif decide ((List.length r0.1 : Int) = 0) then
 some ((p4, (p5, (p6, (p7, ())))), p8, true, ())
 else
 Option.bind (P_spec_l7Parted ((p4, (p5, (p6, (p7, ())))), false, ())) fun r2 =>
 Option.bind (P_spec_l2Made ((p4, (p5, (p6, (p7, ())))), r2.1, ())) fun r3 =>
 l_spec_SinkHeap_9 m0 N p0 p1 p2 p3 r3.1.1 r3.1.2.1 r3.1.2.2.1 r2.1 p8 r0.1 0 := by
 rewrite [h_spec_SinkHeap_4, h_spec_SinkHeap_9]
 exact e_spec_SinkHeap_4 N P_spec_l2Heap P_spec_l2Made P_spec_l2Own P_spec_l2With P_spec_l7Parted m0 p0 p1 p2 p3 p4 p5 p6 p7 p8
theorem q_spec_SinkHeap_9 (m0 m1 : Nat) (p0 p1 p2 : Int) (p3 : List D_A3) (p4 p5 p6 : Int) (p7 : List D_A3) (p8 : Int) (p9 : List D_A3) (p10 : Int) : l_spec_SinkHeap_9 m0 (m1 + 1) p0 p1 p2 p3 p4 p5 p6 p7 p8 p9 p10 = 
 bif decide (p10 < (List.length p9 : Int)) then
 bif inB p10 (List.length p9) then
 bif inB p10 (List.length p9) then
 bif inB p10 (List.length p9) then
 Option.bind (P_spec_l2With ((p4, (p5, (p6, (p7, ())))), (((nth T_A3 p9 p10)).1, ((((nth T_A3 p9 p10)).2).1, ((IntKind.wrap .i64 (((((nth T_A3 p9 p10)).2).2).1 - 1)), ()))), ())) fun r4 =>
 l_spec_SinkHeap_9 m0 m1 p0 p1 p2 p3 r4.1.1 r4.1.2.1 r4.1.2.2.1 r4.1.2.2.2.1 p8 p9 (IntKind.wrap .i64 (p10 + 1))
 else none
 else none
 else none
 else
 l_spec_SinkHeap_4 m0 p0 p1 p2 p3 p4 p5 p6 p7 (IntKind.wrap .i64 (p8 + 1)) := by
 rewrite [h_spec_SinkHeap_4, h_spec_SinkHeap_9]
 exact e_spec_SinkHeap_9 N P_spec_l2Heap P_spec_l2Made P_spec_l2Own P_spec_l2With P_spec_l7Parted m0 m1 p0 p1 p2 p3 p4 p5 p6 p7 p8 p9 p10

abbrev As_spec_l2Mirrored : List ATy := [.data true T_Heap, .data false (.int .i64)]
abbrev R_spec_l2Mirrored : List (Bool × Ty) := [(true, T_Heap)]
abbrev M_spec_l2Mirrored : List RMode := [.own 38]
abbrev Ft_spec_l2Mirrored : Type := D_Heap × Int × Unit → Option (D_Heap × Unit)
noncomputable def X_spec_l2Mirrored (n : Nat) (F_spec_l2Long : Ft_spec_l2Long) (F_spec_l2Empty : Ft_spec_l2Empty) (F_spec_l2With : Ft_spec_l2With) : Ctx := { types := TT, globals := [], con := [(90, ⟨As_spec_l2Long, R_spec_l2Long, M_spec_l2Long, F_spec_l2Long⟩), (94, ⟨As_spec_l2Empty, R_spec_l2Empty, M_spec_l2Empty, F_spec_l2Empty⟩), (126, ⟨As_spec_l2With, R_spec_l2With, M_spec_l2With, F_spec_l2With⟩)], keep := [(3, ⟨[.box 2, .box 4, .box 5, .tmp 1, .tmp 2, .tmp 4, .tmp 5, .tmp 6], []⟩)], results := [.cell 4 26], ntmps := 41, n := n }
noncomputable def B_spec_l2Mirrored : Code := (Tryz.f153.body).getD .skip
noncomputable def L_spec_l2Mirrored_3 (n : Nat) (F_spec_l2Long : Ft_spec_l2Long) (F_spec_l2Empty : Ft_spec_l2Empty) (F_spec_l2With : Ft_spec_l2With) (m0 : Nat) (p0 p1 p2 : Int) (p3 : List D_A3) (p4 p5 p6 : Int) (p7 : List D_A3) (p8 p9 p10 : Int) (p11 : List D_A3) (p12 p13 : Int) : Option (denL R_spec_l2Mirrored) := loopF (X_spec_l2Mirrored n F_spec_l2Long F_spec_l2Empty F_spec_l2With) B_spec_l2Mirrored R_spec_l2Mirrored M_spec_l2Mirrored 3 [m0] [(.ver, .num 1), (.box 2, .box 0 false [.int .i64 p0, .int .i64 p1, .int .i64 p2, .imm T_A3 p3 (some 3)]), (.box 4, .box 0 false [.int .i64 p4, .int .i64 p5, .int .i64 p6, .own 38 T_A3 0 p7]), (.box 5, .box 0 false [.int .i64 p8, .int .i64 p9, .int .i64 p10, .own 38 T_A3 0 p11]), (.tmp 1, .val false [.int .i64 p12]), (.tmp 2, .val false [.addr 2 0 0]), (.tmp 4, .val false [.addr 4 0 0]), (.tmp 5, .val false [.addr 5 0 0]), (.tmp 6, .val false [.int .i64 p13])]
theorem e_spec_l2Mirrored (n : Nat) (F_spec_l2Long : Ft_spec_l2Long) (F_spec_l2Empty : Ft_spec_l2Empty) (F_spec_l2With : Ft_spec_l2With) (a0 : D_Heap) (a1 : Int) : runF (X_spec_l2Mirrored n F_spec_l2Long F_spec_l2Empty F_spec_l2With) B_spec_l2Mirrored As_spec_l2Mirrored R_spec_l2Mirrored M_spec_l2Mirrored (a0, a1, ()) = 
 Option.bind (F_spec_l2Empty (a0.1, a0.2.1, a0.2.2.1, ())) fun r0 =>
 L_spec_l2Mirrored_3 n F_spec_l2Long F_spec_l2Empty F_spec_l2With n a0.1 a0.2.1 a0.2.2.1 a0.2.2.2.1 0 0 0 ([] : List D_A3) r0.1.1 r0.1.2.1 r0.1.2.2.1 r0.1.2.2.2.1 a1 0 := by kernel_rfl
theorem e_spec_l2Mirrored_3 (n : Nat) (F_spec_l2Long : Ft_spec_l2Long) (F_spec_l2Empty : Ft_spec_l2Empty) (F_spec_l2With : Ft_spec_l2With) (m0 : Nat) (p0 p1 p2 : Int) (p3 : List D_A3) (p4 p5 p6 : Int) (p7 : List D_A3) (p8 p9 p10 : Int) (p11 : List D_A3) (p12 p13 : Int) : L_spec_l2Mirrored_3 n F_spec_l2Long F_spec_l2Empty F_spec_l2With (m0 + 1) p0 p1 p2 p3 p4 p5 p6 p7 p8 p9 p10 p11 p12 p13 = 
 bif decide (p13 < (List.length p3 : Int)) then
 bif inB p13 (List.length p3) then
 Option.bind (F_spec_l2Long ((p0, (p1, (p2, (p3, ())))), p12, ())) fun r2 =>
 bif inB p12 3 then
 bif inB p12 3 then
 Option.bind (F_spec_l2With ((p8, (p9, (p10, (p11, ())))), ((bif decide (p12 = (0 : Int)) then (IntKind.wrap .i64 ((IntKind.wrap .i64 (r2.1 - 1)) - (bif decide (p12 = (0 : Int)) then ((nth T_A3 p3 p13)).1 else (bif decide (p12 = (1 : Int)) then (((nth T_A3 p3 p13)).2).1 else ((((nth T_A3 p3 p13)).2).2).1)))) else ((nth T_A3 p3 p13)).1), ((bif decide (p12 = (1 : Int)) then (IntKind.wrap .i64 ((IntKind.wrap .i64 (r2.1 - 1)) - (bif decide (p12 = (0 : Int)) then ((nth T_A3 p3 p13)).1 else (bif decide (p12 = (1 : Int)) then (((nth T_A3 p3 p13)).2).1 else ((((nth T_A3 p3 p13)).2).2).1)))) else (((nth T_A3 p3 p13)).2).1), ((bif decide (p12 = (2 : Int)) then (IntKind.wrap .i64 ((IntKind.wrap .i64 (r2.1 - 1)) - (bif decide (p12 = (0 : Int)) then ((nth T_A3 p3 p13)).1 else (bif decide (p12 = (1 : Int)) then (((nth T_A3 p3 p13)).2).1 else ((((nth T_A3 p3 p13)).2).2).1)))) else ((((nth T_A3 p3 p13)).2).2).1), ()))), ())) fun r5 =>
 L_spec_l2Mirrored_3 n F_spec_l2Long F_spec_l2Empty F_spec_l2With m0 p0 p1 p2 p3 p4 p5 p6 p7 r5.1.1 r5.1.2.1 r5.1.2.2.1 r5.1.2.2.2.1 p12 (IntKind.wrap .i64 (p13 + 1))
 else none
 else none
 else none
 else
 some ((p8, (p9, (p10, (p11, ())))), ()) := by kernel_rfl
noncomputable def P_spec_l2Mirrored : Ft_spec_l2Mirrored := hid (runF (X_spec_l2Mirrored N P_spec_l2Long P_spec_l2Empty P_spec_l2With) B_spec_l2Mirrored As_spec_l2Mirrored R_spec_l2Mirrored M_spec_l2Mirrored)
theorem h_spec_l2Mirrored : P_spec_l2Mirrored = runF (X_spec_l2Mirrored N P_spec_l2Long P_spec_l2Empty P_spec_l2With) B_spec_l2Mirrored As_spec_l2Mirrored R_spec_l2Mirrored M_spec_l2Mirrored := hid_eq _
noncomputable def C_spec_l2Mirrored : Contract := ⟨As_spec_l2Mirrored, R_spec_l2Mirrored, M_spec_l2Mirrored, P_spec_l2Mirrored⟩
theorem s_spec_l2Mirrored : Sound Tryz.prog GG 153 C_spec_l2Mirrored := by
 unfold C_spec_l2Mirrored; rw [h_spec_l2Mirrored]
 exact sound_of_run (fn := Tryz.f153) hmix hstable (tyOK_of ttOK) (hglob (X_spec_l2Mirrored N P_spec_l2Long P_spec_l2Empty P_spec_l2With)) (conOK_of (X := X_spec_l2Mirrored N P_spec_l2Long P_spec_l2Empty P_spec_l2With) ⟨s_spec_l2Long, s_spec_l2Empty, s_spec_l2With, trivial⟩) (mconOK_of (X := X_spec_l2Mirrored N P_spec_l2Long P_spec_l2Empty P_spec_l2With) trivial) (by kernel_rfl) (by kernel_rfl) (by kernel_rfl) (by kernel_rfl) (by kernel_rfl) (of_decide_eq_true (by kernel_rfl))
noncomputable def l_spec_l2Mirrored_3 : Nat → Int → Int → Int → (List D_A3) → Int → Int → Int → (List D_A3) → Int → Int → Int → (List D_A3) → Int → Int → Option (denL R_spec_l2Mirrored) := hid (fun m0 p0 p1 p2 p3 p4 p5 p6 p7 p8 p9 p10 p11 p12 p13 => L_spec_l2Mirrored_3 N P_spec_l2Long P_spec_l2Empty P_spec_l2With m0 p0 p1 p2 p3 p4 p5 p6 p7 p8 p9 p10 p11 p12 p13)
theorem h_spec_l2Mirrored_3 : l_spec_l2Mirrored_3 = fun m0 p0 p1 p2 p3 p4 p5 p6 p7 p8 p9 p10 p11 p12 p13 => L_spec_l2Mirrored_3 N P_spec_l2Long P_spec_l2Empty P_spec_l2With m0 p0 p1 p2 p3 p4 p5 p6 p7 p8 p9 p10 p11 p12 p13 := hid_eq _
theorem p_spec_l2Mirrored (a0 : D_Heap) (a1 : Int) : P_spec_l2Mirrored (a0, a1, ()) = 
 Option.bind (P_spec_l2Empty (a0.1, a0.2.1, a0.2.2.1, ())) fun r0 =>
 l_spec_l2Mirrored_3 N a0.1 a0.2.1 a0.2.2.1 a0.2.2.2.1 0 0 0 ([] : List D_A3) r0.1.1 r0.1.2.1 r0.1.2.2.1 r0.1.2.2.2.1 a1 0 := by
 rewrite [h_spec_l2Mirrored, h_spec_l2Mirrored_3]
 exact e_spec_l2Mirrored N P_spec_l2Long P_spec_l2Empty P_spec_l2With a0 a1
theorem q_spec_l2Mirrored_3 (m0 : Nat) (p0 p1 p2 : Int) (p3 : List D_A3) (p4 p5 p6 : Int) (p7 : List D_A3) (p8 p9 p10 : Int) (p11 : List D_A3) (p12 p13 : Int) : l_spec_l2Mirrored_3 (m0 + 1) p0 p1 p2 p3 p4 p5 p6 p7 p8 p9 p10 p11 p12 p13 = 
 bif decide (p13 < (List.length p3 : Int)) then
 bif inB p13 (List.length p3) then
 Option.bind (P_spec_l2Long ((p0, (p1, (p2, (p3, ())))), p12, ())) fun r2 =>
 bif inB p12 3 then
 bif inB p12 3 then
 Option.bind (P_spec_l2With ((p8, (p9, (p10, (p11, ())))), ((bif decide (p12 = (0 : Int)) then (IntKind.wrap .i64 ((IntKind.wrap .i64 (r2.1 - 1)) - (bif decide (p12 = (0 : Int)) then ((nth T_A3 p3 p13)).1 else (bif decide (p12 = (1 : Int)) then (((nth T_A3 p3 p13)).2).1 else ((((nth T_A3 p3 p13)).2).2).1)))) else ((nth T_A3 p3 p13)).1), ((bif decide (p12 = (1 : Int)) then (IntKind.wrap .i64 ((IntKind.wrap .i64 (r2.1 - 1)) - (bif decide (p12 = (0 : Int)) then ((nth T_A3 p3 p13)).1 else (bif decide (p12 = (1 : Int)) then (((nth T_A3 p3 p13)).2).1 else ((((nth T_A3 p3 p13)).2).2).1)))) else (((nth T_A3 p3 p13)).2).1), ((bif decide (p12 = (2 : Int)) then (IntKind.wrap .i64 ((IntKind.wrap .i64 (r2.1 - 1)) - (bif decide (p12 = (0 : Int)) then ((nth T_A3 p3 p13)).1 else (bif decide (p12 = (1 : Int)) then (((nth T_A3 p3 p13)).2).1 else ((((nth T_A3 p3 p13)).2).2).1)))) else ((((nth T_A3 p3 p13)).2).2).1), ()))), ())) fun r5 =>
 l_spec_l2Mirrored_3 m0 p0 p1 p2 p3 p4 p5 p6 p7 r5.1.1 r5.1.2.1 r5.1.2.2.1 r5.1.2.2.2.1 p12 (IntKind.wrap .i64 (p13 + 1))
 else none
 else none
 else none
 else
 some ((p8, (p9, (p10, (p11, ())))), ()) := by
 rewrite [h_spec_l2Mirrored_3]
 exact e_spec_l2Mirrored_3 N P_spec_l2Long P_spec_l2Empty P_spec_l2With m0 p0 p1 p2 p3 p4 p5 p6 p7 p8 p9 p10 p11 p12 p13

abbrev As_spec_MirrorHeap : List ATy := [.data true T_Heap, .data false (.int .i64)]
abbrev R_spec_MirrorHeap : List (Bool × Ty) := [(true, T_Heap), (false, .bool)]
abbrev M_spec_MirrorHeap : List RMode := [.own 38]
abbrev Ft_spec_MirrorHeap : Type := D_Heap × Int × Unit → Option (D_Heap × Bool × Unit)
noncomputable def X_spec_MirrorHeap (n : Nat) (F_spec_l2Heap : Ft_spec_l2Heap) (F_spec_l1In : Ft_spec_l1In) (F_spec_l2Mirrored : Ft_spec_l2Mirrored) : Ctx := { types := TT, globals := [], con := [(48, ⟨As_spec_l2Heap, R_spec_l2Heap, M_spec_l2Heap, F_spec_l2Heap⟩), (102, ⟨As_spec_l1In, R_spec_l1In, M_spec_l1In, F_spec_l1In⟩), (153, ⟨As_spec_l2Mirrored, R_spec_l2Mirrored, M_spec_l2Mirrored, F_spec_l2Mirrored⟩)], keep := [], results := [.cell 4 26, .tmp 5], ntmps := 18, n := n }
noncomputable def B_spec_MirrorHeap : Code := (Tryz.f144.body).getD .skip
theorem e_spec_MirrorHeap (n : Nat) (F_spec_l2Heap : Ft_spec_l2Heap) (F_spec_l1In : Ft_spec_l1In) (F_spec_l2Mirrored : Ft_spec_l2Mirrored) (a0 : D_Heap) (a1 : Int) : runF (X_spec_MirrorHeap n F_spec_l2Heap F_spec_l1In F_spec_l2Mirrored) B_spec_MirrorHeap As_spec_MirrorHeap R_spec_MirrorHeap M_spec_MirrorHeap (a0, a1, ()) = 
 Option.bind (F_spec_l2Heap (a0, ())) fun r0 =>
 bif !r0.1 then
 some ((0, (0, (0, (([] : List D_A3), ())))), false, ())
 else
 Option.bind (F_spec_l1In (a1, 0, 2, ())) fun r2 =>
 bif !r2.1 then
 some ((0, (0, (0, (([] : List D_A3), ())))), false, ())
 else
 Option.bind (F_spec_l2Mirrored (a0, a1, ())) fun r4 =>
 some (r4.1, true, ()) := by kernel_rfl
noncomputable def P_spec_MirrorHeap : Ft_spec_MirrorHeap := hid (runF (X_spec_MirrorHeap N P_spec_l2Heap P_spec_l1In P_spec_l2Mirrored) B_spec_MirrorHeap As_spec_MirrorHeap R_spec_MirrorHeap M_spec_MirrorHeap)
theorem h_spec_MirrorHeap : P_spec_MirrorHeap = runF (X_spec_MirrorHeap N P_spec_l2Heap P_spec_l1In P_spec_l2Mirrored) B_spec_MirrorHeap As_spec_MirrorHeap R_spec_MirrorHeap M_spec_MirrorHeap := hid_eq _
noncomputable def C_spec_MirrorHeap : Contract := ⟨As_spec_MirrorHeap, R_spec_MirrorHeap, M_spec_MirrorHeap, P_spec_MirrorHeap⟩
theorem s_spec_MirrorHeap : Sound Tryz.prog GG 144 C_spec_MirrorHeap := by
 unfold C_spec_MirrorHeap; rw [h_spec_MirrorHeap]
 exact sound_of_run (fn := Tryz.f144) hmix hstable (tyOK_of ttOK) (hglob (X_spec_MirrorHeap N P_spec_l2Heap P_spec_l1In P_spec_l2Mirrored)) (conOK_of (X := X_spec_MirrorHeap N P_spec_l2Heap P_spec_l1In P_spec_l2Mirrored) ⟨s_spec_l2Heap, s_spec_l1In, s_spec_l2Mirrored, trivial⟩) (mconOK_of (X := X_spec_MirrorHeap N P_spec_l2Heap P_spec_l1In P_spec_l2Mirrored) trivial) (by kernel_rfl) (by kernel_rfl) (by kernel_rfl) (by kernel_rfl) (by kernel_rfl) (of_decide_eq_true (by kernel_rfl))
theorem p_spec_MirrorHeap (a0 : D_Heap) (a1 : Int) : P_spec_MirrorHeap (a0, a1, ()) = 
 Option.bind (P_spec_l2Heap (a0, ())) fun r0 =>
 bif !r0.1 then
 some ((0, (0, (0, (([] : List D_A3), ())))), false, ())
 else
 Option.bind (P_spec_l1In (a1, 0, 2, ())) fun r2 =>
 bif !r2.1 then
 some ((0, (0, (0, (([] : List D_A3), ())))), false, ())
 else
 Option.bind (P_spec_l2Mirrored (a0, a1, ())) fun r4 =>
 some (r4.1, true, ()) := by
 rewrite [h_spec_MirrorHeap]
 exact e_spec_MirrorHeap N P_spec_l2Heap P_spec_l1In P_spec_l2Mirrored a0 a1

abbrev As_spec_l2Swapped : List ATy := [.data true T_Heap, .data false (.int .i64), .data false (.int .i64)]
abbrev R_spec_l2Swapped : List (Bool × Ty) := [(true, T_Heap)]
abbrev M_spec_l2Swapped : List RMode := [.own 38]
abbrev Ft_spec_l2Swapped : Type := D_Heap × Int × Int × Unit → Option (D_Heap × Unit)
noncomputable def X_spec_l2Swapped (n : Nat) (F_spec_l2Empty : Ft_spec_l2Empty) (F_spec_l2With : Ft_spec_l2With) : Ctx := { types := TT, globals := [], con := [(94, ⟨As_spec_l2Empty, R_spec_l2Empty, M_spec_l2Empty, F_spec_l2Empty⟩), (126, ⟨As_spec_l2With, R_spec_l2With, M_spec_l2With, F_spec_l2With⟩)], keep := [(6, ⟨[.box 3, .box 6, .box 9, .tmp 1, .tmp 2, .tmp 3, .tmp 6, .tmp 9, .tmp 10], []⟩)], results := [.cell 6 26], ntmps := 77, n := n }
noncomputable def B_spec_l2Swapped : Code := (Tryz.f154.body).getD .skip
noncomputable def L_spec_l2Swapped_6 (n : Nat) (F_spec_l2Empty : Ft_spec_l2Empty) (F_spec_l2With : Ft_spec_l2With) (m0 : Nat) (p0 p1 p2 : Int) (p3 : List D_A3) (p4 p5 p6 : Int) (p7 : List D_A3) (p8 p9 p10 : Int) (p11 : List D_A3) (p12 p13 p14 : Int) : Option (denL R_spec_l2Swapped) := loopF (X_spec_l2Swapped n F_spec_l2Empty F_spec_l2With) B_spec_l2Swapped R_spec_l2Swapped M_spec_l2Swapped 6 [m0] [(.ver, .num 1), (.box 3, .box 0 false [.int .i64 p0, .int .i64 p1, .int .i64 p2, .imm T_A3 p3 (some 3)]), (.box 6, .box 0 false [.int .i64 p4, .int .i64 p5, .int .i64 p6, .own 38 T_A3 0 p7]), (.box 9, .box 0 false [.int .i64 p8, .int .i64 p9, .int .i64 p10, .own 38 T_A3 0 p11]), (.tmp 1, .val false [.int .i64 p12]), (.tmp 2, .val false [.int .i64 p13]), (.tmp 3, .val false [.addr 3 0 0]), (.tmp 6, .val false [.addr 6 0 0]), (.tmp 9, .val false [.addr 9 0 0]), (.tmp 10, .val false [.int .i64 p14])]
theorem e_spec_l2Swapped (n : Nat) (F_spec_l2Empty : Ft_spec_l2Empty) (F_spec_l2With : Ft_spec_l2With) (a0 : D_Heap) (a1 a2 : Int) : runF (X_spec_l2Swapped n F_spec_l2Empty F_spec_l2With) B_spec_l2Swapped As_spec_l2Swapped R_spec_l2Swapped M_spec_l2Swapped (a0, a1, a2, ()) = 
 bif inB a2 3 then
 bif inB a1 3 then
 bif inB a1 3 then
 bif inB a2 3 then
 Option.bind (F_spec_l2Empty ((bif decide (a2 = (0 : Int)) then (bif decide (a1 = (0 : Int)) then a0.1 else (bif decide (a1 = (1 : Int)) then a0.2.1 else a0.2.2.1)) else (bif decide (a1 = (0 : Int)) then (bif decide (a2 = (0 : Int)) then a0.1 else (bif decide (a2 = (1 : Int)) then a0.2.1 else a0.2.2.1)) else a0.1)), (bif decide (a2 = (1 : Int)) then (bif decide (a1 = (0 : Int)) then a0.1 else (bif decide (a1 = (1 : Int)) then a0.2.1 else a0.2.2.1)) else (bif decide (a1 = (1 : Int)) then (bif decide (a2 = (0 : Int)) then a0.1 else (bif decide (a2 = (1 : Int)) then a0.2.1 else a0.2.2.1)) else a0.2.1)), (bif decide (a2 = (2 : Int)) then (bif decide (a1 = (0 : Int)) then a0.1 else (bif decide (a1 = (1 : Int)) then a0.2.1 else a0.2.2.1)) else (bif decide (a1 = (2 : Int)) then (bif decide (a2 = (0 : Int)) then a0.1 else (bif decide (a2 = (1 : Int)) then a0.2.1 else a0.2.2.1)) else a0.2.2.1)), ())) fun r4 =>
 L_spec_l2Swapped_6 n F_spec_l2Empty F_spec_l2With n a0.1 a0.2.1 a0.2.2.1 a0.2.2.2.1 0 0 0 ([] : List D_A3) r4.1.1 r4.1.2.1 r4.1.2.2.1 r4.1.2.2.2.1 a1 a2 0
 else none
 else none
 else none
 else none := by kernel_rfl
theorem e_spec_l2Swapped_6 (n : Nat) (F_spec_l2Empty : Ft_spec_l2Empty) (F_spec_l2With : Ft_spec_l2With) (m0 : Nat) (p0 p1 p2 : Int) (p3 : List D_A3) (p4 p5 p6 : Int) (p7 : List D_A3) (p8 p9 p10 : Int) (p11 : List D_A3) (p12 p13 p14 : Int) : L_spec_l2Swapped_6 n F_spec_l2Empty F_spec_l2With (m0 + 1) p0 p1 p2 p3 p4 p5 p6 p7 p8 p9 p10 p11 p12 p13 p14 = 
 bif decide (p14 < (List.length p3 : Int)) then
 bif inB p14 (List.length p3) then
 bif inB p14 (List.length p3) then
 bif inB p13 3 then
 bif inB p12 3 then
 bif inB p14 (List.length p3) then
 bif inB p12 3 then
 bif inB p13 3 then
 Option.bind (F_spec_l2With ((p8, (p9, (p10, (p11, ())))), ((bif decide (p13 = (0 : Int)) then (bif decide (p12 = (0 : Int)) then ((nth T_A3 p3 p14)).1 else (bif decide (p12 = (1 : Int)) then (((nth T_A3 p3 p14)).2).1 else ((((nth T_A3 p3 p14)).2).2).1)) else (bif decide (p12 = (0 : Int)) then (bif decide (p13 = (0 : Int)) then ((nth T_A3 p3 p14)).1 else (bif decide (p13 = (1 : Int)) then (((nth T_A3 p3 p14)).2).1 else ((((nth T_A3 p3 p14)).2).2).1)) else ((nth T_A3 p3 p14)).1)), ((bif decide (p13 = (1 : Int)) then (bif decide (p12 = (0 : Int)) then ((nth T_A3 p3 p14)).1 else (bif decide (p12 = (1 : Int)) then (((nth T_A3 p3 p14)).2).1 else ((((nth T_A3 p3 p14)).2).2).1)) else (bif decide (p12 = (1 : Int)) then (bif decide (p13 = (0 : Int)) then ((nth T_A3 p3 p14)).1 else (bif decide (p13 = (1 : Int)) then (((nth T_A3 p3 p14)).2).1 else ((((nth T_A3 p3 p14)).2).2).1)) else (((nth T_A3 p3 p14)).2).1)), ((bif decide (p13 = (2 : Int)) then (bif decide (p12 = (0 : Int)) then ((nth T_A3 p3 p14)).1 else (bif decide (p12 = (1 : Int)) then (((nth T_A3 p3 p14)).2).1 else ((((nth T_A3 p3 p14)).2).2).1)) else (bif decide (p12 = (2 : Int)) then (bif decide (p13 = (0 : Int)) then ((nth T_A3 p3 p14)).1 else (bif decide (p13 = (1 : Int)) then (((nth T_A3 p3 p14)).2).1 else ((((nth T_A3 p3 p14)).2).2).1)) else ((((nth T_A3 p3 p14)).2).2).1)), ()))), ())) fun r8 =>
 L_spec_l2Swapped_6 n F_spec_l2Empty F_spec_l2With m0 p0 p1 p2 p3 p4 p5 p6 p7 r8.1.1 r8.1.2.1 r8.1.2.2.1 r8.1.2.2.2.1 p12 p13 (IntKind.wrap .i64 (p14 + 1))
 else none
 else none
 else none
 else none
 else none
 else none
 else none
 else
 some ((p8, (p9, (p10, (p11, ())))), ()) := by kernel_rfl
noncomputable def P_spec_l2Swapped : Ft_spec_l2Swapped := hid (runF (X_spec_l2Swapped N P_spec_l2Empty P_spec_l2With) B_spec_l2Swapped As_spec_l2Swapped R_spec_l2Swapped M_spec_l2Swapped)
theorem h_spec_l2Swapped : P_spec_l2Swapped = runF (X_spec_l2Swapped N P_spec_l2Empty P_spec_l2With) B_spec_l2Swapped As_spec_l2Swapped R_spec_l2Swapped M_spec_l2Swapped := hid_eq _
noncomputable def C_spec_l2Swapped : Contract := ⟨As_spec_l2Swapped, R_spec_l2Swapped, M_spec_l2Swapped, P_spec_l2Swapped⟩
theorem s_spec_l2Swapped : Sound Tryz.prog GG 154 C_spec_l2Swapped := by
 unfold C_spec_l2Swapped; rw [h_spec_l2Swapped]
 exact sound_of_run (fn := Tryz.f154) hmix hstable (tyOK_of ttOK) (hglob (X_spec_l2Swapped N P_spec_l2Empty P_spec_l2With)) (conOK_of (X := X_spec_l2Swapped N P_spec_l2Empty P_spec_l2With) ⟨s_spec_l2Empty, s_spec_l2With, trivial⟩) (mconOK_of (X := X_spec_l2Swapped N P_spec_l2Empty P_spec_l2With) trivial) (by kernel_rfl) (by kernel_rfl) (by kernel_rfl) (by kernel_rfl) (by kernel_rfl) (of_decide_eq_true (by kernel_rfl))
noncomputable def l_spec_l2Swapped_6 : Nat → Int → Int → Int → (List D_A3) → Int → Int → Int → (List D_A3) → Int → Int → Int → (List D_A3) → Int → Int → Int → Option (denL R_spec_l2Swapped) := hid (fun m0 p0 p1 p2 p3 p4 p5 p6 p7 p8 p9 p10 p11 p12 p13 p14 => L_spec_l2Swapped_6 N P_spec_l2Empty P_spec_l2With m0 p0 p1 p2 p3 p4 p5 p6 p7 p8 p9 p10 p11 p12 p13 p14)
theorem h_spec_l2Swapped_6 : l_spec_l2Swapped_6 = fun m0 p0 p1 p2 p3 p4 p5 p6 p7 p8 p9 p10 p11 p12 p13 p14 => L_spec_l2Swapped_6 N P_spec_l2Empty P_spec_l2With m0 p0 p1 p2 p3 p4 p5 p6 p7 p8 p9 p10 p11 p12 p13 p14 := hid_eq _
theorem p_spec_l2Swapped (a0 : D_Heap) (a1 a2 : Int) : P_spec_l2Swapped (a0, a1, a2, ()) = 
 bif inB a2 3 then
 bif inB a1 3 then
 bif inB a1 3 then
 bif inB a2 3 then
 Option.bind (P_spec_l2Empty ((bif decide (a2 = (0 : Int)) then (bif decide (a1 = (0 : Int)) then a0.1 else (bif decide (a1 = (1 : Int)) then a0.2.1 else a0.2.2.1)) else (bif decide (a1 = (0 : Int)) then (bif decide (a2 = (0 : Int)) then a0.1 else (bif decide (a2 = (1 : Int)) then a0.2.1 else a0.2.2.1)) else a0.1)), (bif decide (a2 = (1 : Int)) then (bif decide (a1 = (0 : Int)) then a0.1 else (bif decide (a1 = (1 : Int)) then a0.2.1 else a0.2.2.1)) else (bif decide (a1 = (1 : Int)) then (bif decide (a2 = (0 : Int)) then a0.1 else (bif decide (a2 = (1 : Int)) then a0.2.1 else a0.2.2.1)) else a0.2.1)), (bif decide (a2 = (2 : Int)) then (bif decide (a1 = (0 : Int)) then a0.1 else (bif decide (a1 = (1 : Int)) then a0.2.1 else a0.2.2.1)) else (bif decide (a1 = (2 : Int)) then (bif decide (a2 = (0 : Int)) then a0.1 else (bif decide (a2 = (1 : Int)) then a0.2.1 else a0.2.2.1)) else a0.2.2.1)), ())) fun r4 =>
 l_spec_l2Swapped_6 N a0.1 a0.2.1 a0.2.2.1 a0.2.2.2.1 0 0 0 ([] : List D_A3) r4.1.1 r4.1.2.1 r4.1.2.2.1 r4.1.2.2.2.1 a1 a2 0
 else none
 else none
 else none
 else none := by
 rewrite [h_spec_l2Swapped, h_spec_l2Swapped_6]
 exact e_spec_l2Swapped N P_spec_l2Empty P_spec_l2With a0 a1 a2
theorem q_spec_l2Swapped_6 (m0 : Nat) (p0 p1 p2 : Int) (p3 : List D_A3) (p4 p5 p6 : Int) (p7 : List D_A3) (p8 p9 p10 : Int) (p11 : List D_A3) (p12 p13 p14 : Int) : l_spec_l2Swapped_6 (m0 + 1) p0 p1 p2 p3 p4 p5 p6 p7 p8 p9 p10 p11 p12 p13 p14 = 
 bif decide (p14 < (List.length p3 : Int)) then
 bif inB p14 (List.length p3) then
 bif inB p14 (List.length p3) then
 bif inB p13 3 then
 bif inB p12 3 then
 bif inB p14 (List.length p3) then
 bif inB p12 3 then
 bif inB p13 3 then
 Option.bind (P_spec_l2With ((p8, (p9, (p10, (p11, ())))), ((bif decide (p13 = (0 : Int)) then (bif decide (p12 = (0 : Int)) then ((nth T_A3 p3 p14)).1 else (bif decide (p12 = (1 : Int)) then (((nth T_A3 p3 p14)).2).1 else ((((nth T_A3 p3 p14)).2).2).1)) else (bif decide (p12 = (0 : Int)) then (bif decide (p13 = (0 : Int)) then ((nth T_A3 p3 p14)).1 else (bif decide (p13 = (1 : Int)) then (((nth T_A3 p3 p14)).2).1 else ((((nth T_A3 p3 p14)).2).2).1)) else ((nth T_A3 p3 p14)).1)), ((bif decide (p13 = (1 : Int)) then (bif decide (p12 = (0 : Int)) then ((nth T_A3 p3 p14)).1 else (bif decide (p12 = (1 : Int)) then (((nth T_A3 p3 p14)).2).1 else ((((nth T_A3 p3 p14)).2).2).1)) else (bif decide (p12 = (1 : Int)) then (bif decide (p13 = (0 : Int)) then ((nth T_A3 p3 p14)).1 else (bif decide (p13 = (1 : Int)) then (((nth T_A3 p3 p14)).2).1 else ((((nth T_A3 p3 p14)).2).2).1)) else (((nth T_A3 p3 p14)).2).1)), ((bif decide (p13 = (2 : Int)) then (bif decide (p12 = (0 : Int)) then ((nth T_A3 p3 p14)).1 else (bif decide (p12 = (1 : Int)) then (((nth T_A3 p3 p14)).2).1 else ((((nth T_A3 p3 p14)).2).2).1)) else (bif decide (p12 = (2 : Int)) then (bif decide (p13 = (0 : Int)) then ((nth T_A3 p3 p14)).1 else (bif decide (p13 = (1 : Int)) then (((nth T_A3 p3 p14)).2).1 else ((((nth T_A3 p3 p14)).2).2).1)) else ((((nth T_A3 p3 p14)).2).2).1)), ()))), ())) fun r8 =>
 l_spec_l2Swapped_6 m0 p0 p1 p2 p3 p4 p5 p6 p7 r8.1.1 r8.1.2.1 r8.1.2.2.1 r8.1.2.2.2.1 p12 p13 (IntKind.wrap .i64 (p14 + 1))
 else none
 else none
 else none
 else none
 else none
 else none
 else none
 else
 some ((p8, (p9, (p10, (p11, ())))), ()) := by
 rewrite [h_spec_l2Swapped_6]
 exact e_spec_l2Swapped_6 N P_spec_l2Empty P_spec_l2With m0 p0 p1 p2 p3 p4 p5 p6 p7 p8 p9 p10 p11 p12 p13 p14

abbrev As_spec_SwapSides : List ATy := [.data true T_Heap, .data false (.int .i64), .data false (.int .i64)]
abbrev R_spec_SwapSides : List (Bool × Ty) := [(true, T_Heap), (false, .bool)]
abbrev M_spec_SwapSides : List RMode := [.own 38]
abbrev Ft_spec_SwapSides : Type := D_Heap × Int × Int × Unit → Option (D_Heap × Bool × Unit)
noncomputable def X_spec_SwapSides (n : Nat) (F_spec_l2Heap : Ft_spec_l2Heap) (F_spec_l1In : Ft_spec_l1In) (F_spec_l2Swapped : Ft_spec_l2Swapped) : Ctx := { types := TT, globals := [], con := [(48, ⟨As_spec_l2Heap, R_spec_l2Heap, M_spec_l2Heap, F_spec_l2Heap⟩), (102, ⟨As_spec_l1In, R_spec_l1In, M_spec_l1In, F_spec_l1In⟩), (154, ⟨As_spec_l2Swapped, R_spec_l2Swapped, M_spec_l2Swapped, F_spec_l2Swapped⟩)], keep := [], results := [.cell 6 26, .tmp 7], ntmps := 26, n := n }
noncomputable def B_spec_SwapSides : Code := (Tryz.f145.body).getD .skip
theorem e_spec_SwapSides (n : Nat) (F_spec_l2Heap : Ft_spec_l2Heap) (F_spec_l1In : Ft_spec_l1In) (F_spec_l2Swapped : Ft_spec_l2Swapped) (a0 : D_Heap) (a1 a2 : Int) : runF (X_spec_SwapSides n F_spec_l2Heap F_spec_l1In F_spec_l2Swapped) B_spec_SwapSides As_spec_SwapSides R_spec_SwapSides M_spec_SwapSides (a0, a1, a2, ()) = 
 Option.bind (F_spec_l2Heap (a0, ())) fun r0 =>
 bif !r0.1 then
 some ((0, (0, (0, (([] : List D_A3), ())))), false, ())
 else
 Option.bind (F_spec_l1In (a1, 0, 2, ())) fun r2 =>
 bif !r2.1 then
 some ((0, (0, (0, (([] : List D_A3), ())))), false, ())
 else
 Option.bind (F_spec_l1In (a2, 0, 2, ())) fun r4 =>
 bif !r4.1 then
 some ((0, (0, (0, (([] : List D_A3), ())))), false, ())
 else
 Option.bind (F_spec_l2Swapped (a0, a1, a2, ())) fun r6 =>
 some (r6.1, true, ()) := by kernel_rfl
noncomputable def P_spec_SwapSides : Ft_spec_SwapSides := hid (runF (X_spec_SwapSides N P_spec_l2Heap P_spec_l1In P_spec_l2Swapped) B_spec_SwapSides As_spec_SwapSides R_spec_SwapSides M_spec_SwapSides)
theorem h_spec_SwapSides : P_spec_SwapSides = runF (X_spec_SwapSides N P_spec_l2Heap P_spec_l1In P_spec_l2Swapped) B_spec_SwapSides As_spec_SwapSides R_spec_SwapSides M_spec_SwapSides := hid_eq _
noncomputable def C_spec_SwapSides : Contract := ⟨As_spec_SwapSides, R_spec_SwapSides, M_spec_SwapSides, P_spec_SwapSides⟩
theorem s_spec_SwapSides : Sound Tryz.prog GG 145 C_spec_SwapSides := by
 unfold C_spec_SwapSides; rw [h_spec_SwapSides]
 exact sound_of_run (fn := Tryz.f145) hmix hstable (tyOK_of ttOK) (hglob (X_spec_SwapSides N P_spec_l2Heap P_spec_l1In P_spec_l2Swapped)) (conOK_of (X := X_spec_SwapSides N P_spec_l2Heap P_spec_l1In P_spec_l2Swapped) ⟨s_spec_l2Heap, s_spec_l1In, s_spec_l2Swapped, trivial⟩) (mconOK_of (X := X_spec_SwapSides N P_spec_l2Heap P_spec_l1In P_spec_l2Swapped) trivial) (by kernel_rfl) (by kernel_rfl) (by kernel_rfl) (by kernel_rfl) (by kernel_rfl) (of_decide_eq_true (by kernel_rfl))
theorem p_spec_SwapSides (a0 : D_Heap) (a1 a2 : Int) : P_spec_SwapSides (a0, a1, a2, ()) = 
 Option.bind (P_spec_l2Heap (a0, ())) fun r0 =>
 bif !r0.1 then
 some ((0, (0, (0, (([] : List D_A3), ())))), false, ())
 else
 Option.bind (P_spec_l1In (a1, 0, 2, ())) fun r2 =>
 bif !r2.1 then
 some ((0, (0, (0, (([] : List D_A3), ())))), false, ())
 else
 Option.bind (P_spec_l1In (a2, 0, 2, ())) fun r4 =>
 bif !r4.1 then
 some ((0, (0, (0, (([] : List D_A3), ())))), false, ())
 else
 Option.bind (P_spec_l2Swapped (a0, a1, a2, ())) fun r6 =>
 some (r6.1, true, ()) := by
 rewrite [h_spec_SwapSides]
 exact e_spec_SwapSides N P_spec_l2Heap P_spec_l1In P_spec_l2Swapped a0 a1 a2

abbrev As_spec_l12Make : List ATy := [.data true T_Heap, .data true T_Act]
abbrev R_spec_l12Make : List (Bool × Ty) := [(true, T_Heap), (false, .bool)]
abbrev M_spec_l12Make : List RMode := [.imm]
abbrev Ft_spec_l12Make : Type := D_Heap × D_Act × Unit → Option (D_Heap × Bool × Unit)
noncomputable def X_spec_l12Make (n : Nat) (F_spec_OtherCells : Ft_spec_OtherCells) (F_spec_PutCube : Ft_spec_PutCube) (F_spec_TakeCube : Ft_spec_TakeCube) (F_spec_DropHeap : Ft_spec_DropHeap) (F_spec_SinkHeap : Ft_spec_SinkHeap) (F_spec_MirrorHeap : Ft_spec_MirrorHeap) (F_spec_SwapSides : Ft_spec_SwapSides) : Ctx := { types := TT, globals := [], con := [(130, ⟨As_spec_OtherCells, R_spec_OtherCells, M_spec_OtherCells, F_spec_OtherCells⟩), (140, ⟨As_spec_PutCube, R_spec_PutCube, M_spec_PutCube, F_spec_PutCube⟩), (141, ⟨As_spec_TakeCube, R_spec_TakeCube, M_spec_TakeCube, F_spec_TakeCube⟩), (142, ⟨As_spec_DropHeap, R_spec_DropHeap, M_spec_DropHeap, F_spec_DropHeap⟩), (143, ⟨As_spec_SinkHeap, R_spec_SinkHeap, M_spec_SinkHeap, F_spec_SinkHeap⟩), (144, ⟨As_spec_MirrorHeap, R_spec_MirrorHeap, M_spec_MirrorHeap, F_spec_MirrorHeap⟩), (145, ⟨As_spec_SwapSides, R_spec_SwapSides, M_spec_SwapSides, F_spec_SwapSides⟩)], keep := [], results := [.cell 4 26, .tmp 5], ntmps := 68, n := n }
noncomputable def B_spec_l12Make : Code := (Tryz.f120.body).getD .skip
theorem e_spec_l12Make (n : Nat) (F_spec_OtherCells : Ft_spec_OtherCells) (F_spec_PutCube : Ft_spec_PutCube) (F_spec_TakeCube : Ft_spec_TakeCube) (F_spec_DropHeap : Ft_spec_DropHeap) (F_spec_SinkHeap : Ft_spec_SinkHeap) (F_spec_MirrorHeap : Ft_spec_MirrorHeap) (F_spec_SwapSides : Ft_spec_SwapSides) (a0 : D_Heap) (a1 : D_Act) : runF (X_spec_l12Make n F_spec_OtherCells F_spec_PutCube F_spec_TakeCube F_spec_DropHeap F_spec_SinkHeap F_spec_MirrorHeap F_spec_SwapSides) B_spec_l12Make As_spec_l12Make R_spec_l12Make M_spec_l12Make (a0, a1, ()) = 
 bif decide (a1.1 = 1) then
 Option.bind (F_spec_PutCube (a0, a1.2.1, ())) fun r1 =>
 some (r1.1, r1.2.1, ())
 else
 bif decide (a1.1 = 2) then
 Option.bind (F_spec_TakeCube (a0, a1.2.1, ())) fun r2 =>
 some (r2.1, r2.2.1, ())
 else
 bif decide (a1.1 = 3) then
 Option.bind (F_spec_DropHeap (a0, ())) fun r3 =>
 some (r3.1, r3.2.1, ())
 else
 bif decide (a1.1 = 4) then
 Option.bind (F_spec_SinkHeap (a0, ())) fun r4 =>
 some (r4.1, r4.2.2.1, ())
 else
 bif decide (a1.1 = 5) then
 Option.bind (F_spec_MirrorHeap (a0, a1.2.2.1, ())) fun r5 =>
 some (r5.1, r5.2.1, ())
 else
 bif decide (a1.1 = 6) then
 Option.bind (F_spec_SwapSides (a0, a1.2.2.1, a1.2.2.2.1, ())) fun r6 =>
 some (r6.1, r6.2.1, ())
 else
 bif decide (a1.1 = 7) then
 Option.bind (F_spec_OtherCells (a0, ())) fun r7 =>
 some (r7.1, r7.2.1, ())
 else
 some (a0, false, ()) := by kernel_rfl
noncomputable def P_spec_l12Make : Ft_spec_l12Make := hid (runF (X_spec_l12Make N P_spec_OtherCells P_spec_PutCube P_spec_TakeCube P_spec_DropHeap P_spec_SinkHeap P_spec_MirrorHeap P_spec_SwapSides) B_spec_l12Make As_spec_l12Make R_spec_l12Make M_spec_l12Make)
theorem h_spec_l12Make : P_spec_l12Make = runF (X_spec_l12Make N P_spec_OtherCells P_spec_PutCube P_spec_TakeCube P_spec_DropHeap P_spec_SinkHeap P_spec_MirrorHeap P_spec_SwapSides) B_spec_l12Make As_spec_l12Make R_spec_l12Make M_spec_l12Make := hid_eq _
noncomputable def C_spec_l12Make : Contract := ⟨As_spec_l12Make, R_spec_l12Make, M_spec_l12Make, P_spec_l12Make⟩
theorem s_spec_l12Make : Sound Tryz.prog GG 120 C_spec_l12Make := by
 unfold C_spec_l12Make; rw [h_spec_l12Make]
 exact sound_of_run (fn := Tryz.f120) hmix hstable (tyOK_of ttOK) (hglob (X_spec_l12Make N P_spec_OtherCells P_spec_PutCube P_spec_TakeCube P_spec_DropHeap P_spec_SinkHeap P_spec_MirrorHeap P_spec_SwapSides)) (conOK_of (X := X_spec_l12Make N P_spec_OtherCells P_spec_PutCube P_spec_TakeCube P_spec_DropHeap P_spec_SinkHeap P_spec_MirrorHeap P_spec_SwapSides) ⟨s_spec_OtherCells, s_spec_PutCube, s_spec_TakeCube, s_spec_DropHeap, s_spec_SinkHeap, s_spec_MirrorHeap, s_spec_SwapSides, trivial⟩) (mconOK_of (X := X_spec_l12Make N P_spec_OtherCells P_spec_PutCube P_spec_TakeCube P_spec_DropHeap P_spec_SinkHeap P_spec_MirrorHeap P_spec_SwapSides) trivial) (by kernel_rfl) (by kernel_rfl) (by kernel_rfl) (by kernel_rfl) (by kernel_rfl) (of_decide_eq_true (by kernel_rfl))
theorem p_spec_l12Make (a0 : D_Heap) (a1 : D_Act) : P_spec_l12Make (a0, a1, ()) = 
 bif decide (a1.1 = 1) then
 Option.bind (P_spec_PutCube (a0, a1.2.1, ())) fun r1 =>
 some (r1.1, r1.2.1, ())
 else
 bif decide (a1.1 = 2) then
 Option.bind (P_spec_TakeCube (a0, a1.2.1, ())) fun r2 =>
 some (r2.1, r2.2.1, ())
 else
 bif decide (a1.1 = 3) then
 Option.bind (P_spec_DropHeap (a0, ())) fun r3 =>
 some (r3.1, r3.2.1, ())
 else
 bif decide (a1.1 = 4) then
 Option.bind (P_spec_SinkHeap (a0, ())) fun r4 =>
 some (r4.1, r4.2.2.1, ())
 else
 bif decide (a1.1 = 5) then
 Option.bind (P_spec_MirrorHeap (a0, a1.2.2.1, ())) fun r5 =>
 some (r5.1, r5.2.1, ())
 else
 bif decide (a1.1 = 6) then
 Option.bind (P_spec_SwapSides (a0, a1.2.2.1, a1.2.2.2.1, ())) fun r6 =>
 some (r6.1, r6.2.1, ())
 else
 bif decide (a1.1 = 7) then
 Option.bind (P_spec_OtherCells (a0, ())) fun r7 =>
 some (r7.1, r7.2.1, ())
 else
 some (a0, false, ()) := by
 rewrite [h_spec_l12Make]
 exact e_spec_l12Make N P_spec_OtherCells P_spec_PutCube P_spec_TakeCube P_spec_DropHeap P_spec_SinkHeap P_spec_MirrorHeap P_spec_SwapSides a0 a1

abbrev As_spec_l12Plain : List ATy := [.data true T_Act]
abbrev R_spec_l12Plain : List (Bool × Ty) := [(false, .bool)]
abbrev M_spec_l12Plain : List RMode := []
abbrev Ft_spec_l12Plain : Type := D_Act × Unit → Option (Bool × Unit)
noncomputable def X_spec_l12Plain (n : Nat) : Ctx := { types := TT, globals := [], con := [], keep := [], results := [.tmp 2], ntmps := 47, n := n }
noncomputable def B_spec_l12Plain : Code := (Tryz.f121.body).getD .skip
theorem e_spec_l12Plain (n : Nat) (a0 : D_Act) : runF (X_spec_l12Plain n) B_spec_l12Plain As_spec_l12Plain R_spec_l12Plain M_spec_l12Plain (a0, ()) = 
 bif decide (a0.1 = 1) then
 bif decide (a0.1 = 1) then
 bif decide (a0.2.2.1 = 0) then
 some (decide (a0.2.2.2.1 = 0), ())
 else
 some (false, ())
 else
 bif decide (a0.1 = 5) then
 bif (decide (a0.2.1.1 = 0) && (decide (a0.2.1.2.1 = 0) && (decide (a0.2.1.2.2.1 = 0) && true))) then
 some (decide (a0.2.2.2.1 = 0), ())
 else
 some (false, ())
 else
 bif decide (a0.1 = 6) then
 some ((decide (a0.2.1.1 = 0) && (decide (a0.2.1.2.1 = 0) && (decide (a0.2.1.2.2.1 = 0) && true))), ())
 else
 bif (decide (a0.2.1.1 = 0) && (decide (a0.2.1.2.1 = 0) && (decide (a0.2.1.2.2.1 = 0) && true))) then
 bif decide (a0.2.2.1 = 0) then
 some (decide (a0.2.2.2.1 = 0), ())
 else
 some (false, ())
 else
 some (false, ())
 else
 bif decide (a0.1 = 2) then
 bif decide (a0.2.2.1 = 0) then
 some (decide (a0.2.2.2.1 = 0), ())
 else
 some (false, ())
 else
 bif decide (a0.1 = 5) then
 bif (decide (a0.2.1.1 = 0) && (decide (a0.2.1.2.1 = 0) && (decide (a0.2.1.2.2.1 = 0) && true))) then
 some (decide (a0.2.2.2.1 = 0), ())
 else
 some (false, ())
 else
 bif decide (a0.1 = 6) then
 some ((decide (a0.2.1.1 = 0) && (decide (a0.2.1.2.1 = 0) && (decide (a0.2.1.2.2.1 = 0) && true))), ())
 else
 bif (decide (a0.2.1.1 = 0) && (decide (a0.2.1.2.1 = 0) && (decide (a0.2.1.2.2.1 = 0) && true))) then
 bif decide (a0.2.2.1 = 0) then
 some (decide (a0.2.2.2.1 = 0), ())
 else
 some (false, ())
 else
 some (false, ()) := by kernel_rfl
noncomputable def P_spec_l12Plain : Ft_spec_l12Plain := hid (runF (X_spec_l12Plain N) B_spec_l12Plain As_spec_l12Plain R_spec_l12Plain M_spec_l12Plain)
theorem h_spec_l12Plain : P_spec_l12Plain = runF (X_spec_l12Plain N) B_spec_l12Plain As_spec_l12Plain R_spec_l12Plain M_spec_l12Plain := hid_eq _
noncomputable def C_spec_l12Plain : Contract := ⟨As_spec_l12Plain, R_spec_l12Plain, M_spec_l12Plain, P_spec_l12Plain⟩
theorem s_spec_l12Plain : Sound Tryz.prog GG 121 C_spec_l12Plain := by
 unfold C_spec_l12Plain; rw [h_spec_l12Plain]
 exact sound_of_run (fn := Tryz.f121) hmix hstable (tyOK_of ttOK) (hglob (X_spec_l12Plain N)) (conOK_of (X := X_spec_l12Plain N) trivial) (mconOK_of (X := X_spec_l12Plain N) trivial) (by kernel_rfl) (by kernel_rfl) (by kernel_rfl) (by kernel_rfl) (by kernel_rfl) (of_decide_eq_true (by kernel_rfl))
theorem p_spec_l12Plain (a0 : D_Act) : P_spec_l12Plain (a0, ()) = 
 bif decide (a0.1 = 1) then
 bif decide (a0.1 = 1) then
 bif decide (a0.2.2.1 = 0) then
 some (decide (a0.2.2.2.1 = 0), ())
 else
 some (false, ())
 else
 bif decide (a0.1 = 5) then
 bif (decide (a0.2.1.1 = 0) && (decide (a0.2.1.2.1 = 0) && (decide (a0.2.1.2.2.1 = 0) && true))) then
 some (decide (a0.2.2.2.1 = 0), ())
 else
 some (false, ())
 else
 bif decide (a0.1 = 6) then
 some ((decide (a0.2.1.1 = 0) && (decide (a0.2.1.2.1 = 0) && (decide (a0.2.1.2.2.1 = 0) && true))), ())
 else
 bif (decide (a0.2.1.1 = 0) && (decide (a0.2.1.2.1 = 0) && (decide (a0.2.1.2.2.1 = 0) && true))) then
 bif decide (a0.2.2.1 = 0) then
 some (decide (a0.2.2.2.1 = 0), ())
 else
 some (false, ())
 else
 some (false, ())
 else
 bif decide (a0.1 = 2) then
 bif decide (a0.2.2.1 = 0) then
 some (decide (a0.2.2.2.1 = 0), ())
 else
 some (false, ())
 else
 bif decide (a0.1 = 5) then
 bif (decide (a0.2.1.1 = 0) && (decide (a0.2.1.2.1 = 0) && (decide (a0.2.1.2.2.1 = 0) && true))) then
 some (decide (a0.2.2.2.1 = 0), ())
 else
 some (false, ())
 else
 bif decide (a0.1 = 6) then
 some ((decide (a0.2.1.1 = 0) && (decide (a0.2.1.2.1 = 0) && (decide (a0.2.1.2.2.1 = 0) && true))), ())
 else
 bif (decide (a0.2.1.1 = 0) && (decide (a0.2.1.2.1 = 0) && (decide (a0.2.1.2.2.1 = 0) && true))) then
 bif decide (a0.2.2.1 = 0) then
 some (decide (a0.2.2.2.1 = 0), ())
 else
 some (false, ())
 else
 some (false, ()) := by
 rewrite [h_spec_l12Plain]
 exact e_spec_l12Plain N a0

abbrev As_spec_l12Do : List ATy := [.data true T_Bench, .data true T_Act]
abbrev R_spec_l12Do : List (Bool × Ty) := [(true, T_Bench), (false, .bool)]
abbrev M_spec_l12Do : List RMode := [.own 38]
abbrev Ft_spec_l12Do : Type := D_Bench × D_Act × Unit → Option (D_Bench × Bool × Unit)
noncomputable def X_spec_l12Do (n : Nat) (F_spec_l12Own : Ft_spec_l12Own) (F_spec_l12Good : Ft_spec_l12Good) (F_spec_l12Make : Ft_spec_l12Make) (F_spec_l12Plain : Ft_spec_l12Plain) (F_spec_l1Least : Ft_spec_l1Least) : Ctx := { types := TT, globals := [], con := [(79, ⟨As_spec_l12Own, R_spec_l12Own, M_spec_l12Own, F_spec_l12Own⟩), (83, ⟨As_spec_l12Good, R_spec_l12Good, M_spec_l12Good, F_spec_l12Good⟩), (120, ⟨As_spec_l12Make, R_spec_l12Make, M_spec_l12Make, F_spec_l12Make⟩), (121, ⟨As_spec_l12Plain, R_spec_l12Plain, M_spec_l12Plain, F_spec_l12Plain⟩), (122, ⟨As_spec_l1Least, R_spec_l1Least, M_spec_l1Least, F_spec_l1Least⟩)], keep := [], results := [.cell 4 51, .tmp 5], ntmps := 41, n := n }
noncomputable def B_spec_l12Do : Code := (Tryz.f84.body).getD .skip
theorem e_spec_l12Do (n : Nat) (F_spec_l12Own : Ft_spec_l12Own) (F_spec_l12Good : Ft_spec_l12Good) (F_spec_l12Make : Ft_spec_l12Make) (F_spec_l12Plain : Ft_spec_l12Plain) (F_spec_l1Least : Ft_spec_l1Least) (a0 : D_Bench) (a1 : D_Act) : runF (X_spec_l12Do n F_spec_l12Own F_spec_l12Good F_spec_l12Make F_spec_l12Plain F_spec_l1Least) B_spec_l12Do As_spec_l12Do R_spec_l12Do M_spec_l12Do (a0, a1, ()) = 
 Option.bind (F_spec_l12Make (a0.1, a1, ())) fun r0 =>
 bif !r0.2.1 then
 some (((0, (0, (0, (([] : List D_A3), ())))), (0, (0, ()))), false, ())
 else
 Option.bind (F_spec_l12Plain (a1, ())) fun r2 =>
 bif !r2.1 then
 some (((0, (0, (0, (([] : List D_A3), ())))), (0, (0, ()))), false, ())
 else
 Option.bind (F_spec_l1Least (a0.2.1, (List.length r0.1.2.2.2.1 : Int), ())) fun r4 =>
 Option.bind (F_spec_l12Good ((r0.1, (r4.1, ((IntKind.wrap .i64 (a0.2.2.1 + 1)), ()))), ())) fun r5 =>
 bif !r5.1 then
 some (((0, (0, (0, (([] : List D_A3), ())))), (0, (0, ()))), false, ())
 else
 Option.bind (F_spec_l12Own ((r0.1, (r4.1, ((IntKind.wrap .i64 (a0.2.2.1 + 1)), ()))), ())) fun r7 =>
 some (r7.1, true, ()) := by kernel_rfl
noncomputable def P_spec_l12Do : Ft_spec_l12Do := hid (runF (X_spec_l12Do N P_spec_l12Own P_spec_l12Good P_spec_l12Make P_spec_l12Plain P_spec_l1Least) B_spec_l12Do As_spec_l12Do R_spec_l12Do M_spec_l12Do)
theorem h_spec_l12Do : P_spec_l12Do = runF (X_spec_l12Do N P_spec_l12Own P_spec_l12Good P_spec_l12Make P_spec_l12Plain P_spec_l1Least) B_spec_l12Do As_spec_l12Do R_spec_l12Do M_spec_l12Do := hid_eq _
noncomputable def C_spec_l12Do : Contract := ⟨As_spec_l12Do, R_spec_l12Do, M_spec_l12Do, P_spec_l12Do⟩
theorem s_spec_l12Do : Sound Tryz.prog GG 84 C_spec_l12Do := by
 unfold C_spec_l12Do; rw [h_spec_l12Do]
 exact sound_of_run (fn := Tryz.f84) hmix hstable (tyOK_of ttOK) (hglob (X_spec_l12Do N P_spec_l12Own P_spec_l12Good P_spec_l12Make P_spec_l12Plain P_spec_l1Least)) (conOK_of (X := X_spec_l12Do N P_spec_l12Own P_spec_l12Good P_spec_l12Make P_spec_l12Plain P_spec_l1Least) ⟨s_spec_l12Own, s_spec_l12Good, s_spec_l12Make, s_spec_l12Plain, s_spec_l1Least, trivial⟩) (mconOK_of (X := X_spec_l12Do N P_spec_l12Own P_spec_l12Good P_spec_l12Make P_spec_l12Plain P_spec_l1Least) trivial) (by kernel_rfl) (by kernel_rfl) (by kernel_rfl) (by kernel_rfl) (by kernel_rfl) (of_decide_eq_true (by kernel_rfl))
theorem p_spec_l12Do (a0 : D_Bench) (a1 : D_Act) : P_spec_l12Do (a0, a1, ()) = 
 Option.bind (P_spec_l12Make (a0.1, a1, ())) fun r0 =>
 bif !r0.2.1 then
 some (((0, (0, (0, (([] : List D_A3), ())))), (0, (0, ()))), false, ())
 else
 Option.bind (P_spec_l12Plain (a1, ())) fun r2 =>
 bif !r2.1 then
 some (((0, (0, (0, (([] : List D_A3), ())))), (0, (0, ()))), false, ())
 else
 Option.bind (P_spec_l1Least (a0.2.1, (List.length r0.1.2.2.2.1 : Int), ())) fun r4 =>
 Option.bind (P_spec_l12Good ((r0.1, (r4.1, ((IntKind.wrap .i64 (a0.2.2.1 + 1)), ()))), ())) fun r5 =>
 bif !r5.1 then
 some (((0, (0, (0, (([] : List D_A3), ())))), (0, (0, ()))), false, ())
 else
 Option.bind (P_spec_l12Own ((r0.1, (r4.1, ((IntKind.wrap .i64 (a0.2.2.1 + 1)), ()))), ())) fun r7 =>
 some (r7.1, true, ()) := by
 rewrite [h_spec_l12Do]
 exact e_spec_l12Do N P_spec_l12Own P_spec_l12Good P_spec_l12Make P_spec_l12Plain P_spec_l1Least a0 a1

abbrev As_l1Cur_bench : List ATy := [.lptr T_l1Cur]
abbrev R_l1Cur_bench : List (Bool × Ty) := [(true, T_Bench)]
abbrev M_l1Cur_bench : List RMode := [.own 38]
abbrev Ft_l1Cur_bench : Type := D_l1Cur × Unit → Option ((D_Bench × Unit) × (D_l1Cur × Unit))
noncomputable def X_l1Cur_bench (n : Nat) (F_spec_NewBench : Ft_spec_NewBench) (F_l1Cur_act12 : Ft_l1Cur_act12) (F_spec_l12Do : Ft_spec_l12Do) (F_l1Cur_pick : Ft_l1Cur_pick) (F_l1Cur_among : Ft_l1Cur_among) (F_l1Cur_someHeap : Ft_l1Cur_someHeap) : Ctx := { types := TT, globals := [], con := [(33, ⟨As_spec_NewBench, R_spec_NewBench, M_spec_NewBench, F_spec_NewBench⟩), (84, ⟨As_spec_l12Do, R_spec_l12Do, M_spec_l12Do, F_spec_l12Do⟩)], mcon := [(81, ⟨As_l1Cur_act12, R_l1Cur_act12, M_l1Cur_act12, F_l1Cur_act12⟩), (85, ⟨As_l1Cur_pick, R_l1Cur_pick, M_l1Cur_pick, F_l1Cur_pick⟩), (88, ⟨As_l1Cur_among, R_l1Cur_among, M_l1Cur_among, F_l1Cur_among⟩), (110, ⟨As_l1Cur_someHeap, R_l1Cur_someHeap, M_l1Cur_someHeap, F_l1Cur_someHeap⟩)], keep := [(4, ⟨[.box 2, .box 6, .box 1000000, .tmp 0, .tmp 2, .tmp 6, .tmp 7, .tmp 8], []⟩)], results := [.cell 2 51], ntmps := 88, n := n }
noncomputable def B_l1Cur_bench : Code := (Tryz.f80.body).getD .skip
noncomputable def L_l1Cur_bench_4 (n : Nat) (F_spec_NewBench : Ft_spec_NewBench) (F_l1Cur_act12 : Ft_l1Cur_act12) (F_spec_l12Do : Ft_spec_l12Do) (F_l1Cur_pick : Ft_l1Cur_pick) (F_l1Cur_among : Ft_l1Cur_among) (F_l1Cur_someHeap : Ft_l1Cur_someHeap) (m0 : Nat) (p0 p1 p2 : Int) (p3 : List D_A3) (p4 p5 : Int) (p6 p7 p8 : Int) (p9 : List D_A3) (p10 p11 : Int) (p12 : List Int) (p13 p14 : Int) (p15 : Bool) (p16 : Int) : Option (denL R_l1Cur_bench × denM As_l1Cur_bench) := loopFM (X_l1Cur_bench n F_spec_NewBench F_l1Cur_act12 F_spec_l12Do F_l1Cur_pick F_l1Cur_among F_l1Cur_someHeap) B_l1Cur_bench As_l1Cur_bench R_l1Cur_bench M_l1Cur_bench 4 [m0] [(.ver, .num 1), (.box 2, .box 0 false [.int .i64 p0, .int .i64 p1, .int .i64 p2, .own 38 T_A3 0 p3, .int .i64 p4, .int .i64 p5]), (.box 6, .box 0 false [.int .i64 p6, .int .i64 p7, .int .i64 p8, .own 38 T_A3 0 p9, .int .i64 p10, .int .i64 p11]), (.box 1000000, .box 0 false [.imm (.int .u8) p12 (some 1), .int .i64 p13, .int .u64 p14]), (.tmp 0, .val false [.addr 1000000 0 0]), (.tmp 2, .val false [.addr 2 0 0]), (.tmp 6, .val false [.addr 6 0 0]), (.tmp 7, .val false [.bool p15]), (.tmp 8, .val false [.int .i64 p16])]
theorem e_l1Cur_bench (n : Nat) (F_spec_NewBench : Ft_spec_NewBench) (F_l1Cur_act12 : Ft_l1Cur_act12) (F_spec_l12Do : Ft_spec_l12Do) (F_l1Cur_pick : Ft_l1Cur_pick) (F_l1Cur_among : Ft_l1Cur_among) (F_l1Cur_someHeap : Ft_l1Cur_someHeap) (a0 : D_l1Cur) : runFM (X_l1Cur_bench n F_spec_NewBench F_l1Cur_act12 F_spec_l12Do F_l1Cur_pick F_l1Cur_among F_l1Cur_someHeap) B_l1Cur_bench As_l1Cur_bench R_l1Cur_bench M_l1Cur_bench (a0, ()) = 
 Option.bind (F_l1Cur_among (a0, ([2, 3, 2, 1] : List Int), ())) fun r0 =>
 Option.bind (F_l1Cur_among ((a0.1, r0.2.1.2), ([2, 2, 3, 1] : List Int), ())) fun r1 =>
 Option.bind (F_l1Cur_among ((a0.1, r1.2.1.2), ([2, 3, 2, 1] : List Int), ())) fun r2 =>
 Option.bind (F_l1Cur_someHeap ((a0.1, r2.2.1.2), r0.1.1, r1.1.1, r2.1.1, ())) fun r3 =>
 Option.bind (F_spec_NewBench (r3.1.1, ())) fun r4 =>
 Option.bind (F_l1Cur_pick ((a0.1, r3.2.1.2), 7, ())) fun r5 =>
 L_l1Cur_bench_4 n F_spec_NewBench F_l1Cur_act12 F_spec_l12Do F_l1Cur_pick F_l1Cur_among F_l1Cur_someHeap n 0 0 0 ([] : List D_A3) 0 0 r4.1.1.1 r4.1.1.2.1 r4.1.1.2.2.1 r4.1.1.2.2.2.1 r4.1.2.1 r4.1.2.2.1 a0.1 r5.2.1.2.1 r5.2.1.2.2.1 r4.2.1 r5.1.1 := by kernel_rfl
theorem e_l1Cur_bench_4 (n : Nat) (F_spec_NewBench : Ft_spec_NewBench) (F_l1Cur_act12 : Ft_l1Cur_act12) (F_spec_l12Do : Ft_spec_l12Do) (F_l1Cur_pick : Ft_l1Cur_pick) (F_l1Cur_among : Ft_l1Cur_among) (F_l1Cur_someHeap : Ft_l1Cur_someHeap) (m0 : Nat) (p0 p1 p2 : Int) (p3 : List D_A3) (p4 p5 : Int) (p6 p7 p8 : Int) (p9 : List D_A3) (p10 p11 : Int) (p12 : List Int) (p13 p14 : Int) (p15 : Bool) (p16 : Int) : L_l1Cur_bench_4 n F_spec_NewBench F_l1Cur_act12 F_spec_l12Do F_l1Cur_pick F_l1Cur_among F_l1Cur_someHeap (m0 + 1) p0 p1 p2 p3 p4 p5 p6 p7 p8 p9 p10 p11 p12 p13 p14 p15 p16 = 
 bif decide (p16 > 0) then
 bif p15 then
 Option.bind (F_l1Cur_act12 ((p12, (p13, (p14, ()))), (p6, (p7, (p8, (p9, ())))), ())) fun r2 =>
 Option.bind (F_spec_l12Do (((p6, (p7, (p8, (p9, ())))), (p10, (p11, ()))), r2.1.1, ())) fun r3 =>
 bif r3.2.1 then
 L_l1Cur_bench_4 n F_spec_NewBench F_l1Cur_act12 F_spec_l12Do F_l1Cur_pick F_l1Cur_among F_l1Cur_someHeap m0 p0 p1 p2 p3 p4 p5 r3.1.1.1 r3.1.1.2.1 r3.1.1.2.2.1 r3.1.1.2.2.2.1 r3.1.2.1 r3.1.2.2.1 p12 r2.2.1.2.1 r2.2.1.2.2.1 p15 (IntKind.wrap .i64 (p16 - 1))
 else
 L_l1Cur_bench_4 n F_spec_NewBench F_l1Cur_act12 F_spec_l12Do F_l1Cur_pick F_l1Cur_among F_l1Cur_someHeap m0 p0 p1 p2 p3 p4 p5 p6 p7 p8 p9 p10 p11 p12 r2.2.1.2.1 r2.2.1.2.2.1 p15 (IntKind.wrap .i64 (p16 - 1))
 else
 Option.bind (F_l1Cur_pick ((p12, (p13, (p14, ()))), 48, ())) fun r2 =>
 bif decide (r2.1.1 = 0) then
 Option.bind (F_l1Cur_among ((p12, r2.2.1.2), ([(-1), 1000, 1001] : List Int), ())) fun r4 =>
 some ((((p6, (p7, (p8, (p9, ())))), (p10, (r4.1.1, ()))), ()), ((p12, r4.2.1.2), ()))
 else
 bif decide (r2.1.1 = 1) then
 Option.bind (F_l1Cur_among ((p12, r2.2.1.2), ([(-1), (IntKind.wrap .i64 ((List.length p9 : Int) + 1)), 0] : List Int), ())) fun r5 =>
 some ((((p6, (p7, (p8, (p9, ())))), (r5.1.1, (p11, ()))), ()), ((p12, r5.2.1.2), ()))
 else
 bif decide (r2.1.1 = 2) then
 bif (decide (((List.length ([] : List D_A3)) + (List.length p9)) * 24 ≤ 140737488355328) && decide (((List.length ([] : List D_A3)) + (List.length p9)) ≤ 140737488355328)) then
 bif (decide (((List.length (([] : List D_A3) ++ p9)) + (List.length ([(0, (0, (0, ())))] : List D_A3))) * 24 ≤ 140737488355328) && decide (((List.length (([] : List D_A3) ++ p9)) + (List.length ([(0, (0, (0, ())))] : List D_A3))) ≤ 140737488355328)) then
 some ((((p6, (p7, (p8, (((([] : List D_A3) ++ p9) ++ ([(0, (0, (0, ())))] : List D_A3)), ())))), (p10, (p11, ()))), ()), ((p12, r2.2.1.2), ()))
 else none
 else none
 else
 bif decide (r2.1.1 = 3) then
 Option.bind (F_l1Cur_among ((p12, r2.2.1.2), ([0, 5, 4] : List Int), ())) fun r7 =>
 some ((((p6, (p7, (r7.1.1, (p9, ())))), (p10, (p11, ()))), ()), ((p12, r7.2.1.2), ()))
 else
 some ((((p6, (p7, (p8, (p9, ())))), (p10, (p11, ()))), ()), ((p12, r2.2.1.2), ()))
 else
 Option.bind (F_l1Cur_pick ((p12, (p13, (p14, ()))), 48, ())) fun r1 =>
 bif decide (r1.1.1 = 0) then
 Option.bind (F_l1Cur_among ((p12, r1.2.1.2), ([(-1), 1000, 1001] : List Int), ())) fun r3 =>
 some ((((p6, (p7, (p8, (p9, ())))), (p10, (r3.1.1, ()))), ()), ((p12, r3.2.1.2), ()))
 else
 bif decide (r1.1.1 = 1) then
 Option.bind (F_l1Cur_among ((p12, r1.2.1.2), ([(-1), (IntKind.wrap .i64 ((List.length p9 : Int) + 1)), 0] : List Int), ())) fun r4 =>
 some ((((p6, (p7, (p8, (p9, ())))), (r4.1.1, (p11, ()))), ()), ((p12, r4.2.1.2), ()))
 else
 bif decide (r1.1.1 = 2) then
 bif (decide (((List.length ([] : List D_A3)) + (List.length p9)) * 24 ≤ 140737488355328) && decide (((List.length ([] : List D_A3)) + (List.length p9)) ≤ 140737488355328)) then
 bif (decide (((List.length (([] : List D_A3) ++ p9)) + (List.length ([(0, (0, (0, ())))] : List D_A3))) * 24 ≤ 140737488355328) && decide (((List.length (([] : List D_A3) ++ p9)) + (List.length ([(0, (0, (0, ())))] : List D_A3))) ≤ 140737488355328)) then
 some ((((p6, (p7, (p8, (((([] : List D_A3) ++ p9) ++ ([(0, (0, (0, ())))] : List D_A3)), ())))), (p10, (p11, ()))), ()), ((p12, r1.2.1.2), ()))
 else none
 else none
 else
 bif decide (r1.1.1 = 3) then
 Option.bind (F_l1Cur_among ((p12, r1.2.1.2), ([0, 5, 4] : List Int), ())) fun r6 =>
 some ((((p6, (p7, (r6.1.1, (p9, ())))), (p10, (p11, ()))), ()), ((p12, r6.2.1.2), ()))
 else
 some ((((p6, (p7, (p8, (p9, ())))), (p10, (p11, ()))), ()), ((p12, r1.2.1.2), ())) := by kernel_rfl
noncomputable def P_l1Cur_bench : Ft_l1Cur_bench := hid (runFM (X_l1Cur_bench N P_spec_NewBench P_l1Cur_act12 P_spec_l12Do P_l1Cur_pick P_l1Cur_among P_l1Cur_someHeap) B_l1Cur_bench As_l1Cur_bench R_l1Cur_bench M_l1Cur_bench)
theorem h_l1Cur_bench : P_l1Cur_bench = runFM (X_l1Cur_bench N P_spec_NewBench P_l1Cur_act12 P_spec_l12Do P_l1Cur_pick P_l1Cur_among P_l1Cur_someHeap) B_l1Cur_bench As_l1Cur_bench R_l1Cur_bench M_l1Cur_bench := hid_eq _
noncomputable def C_l1Cur_bench : MContract := ⟨As_l1Cur_bench, R_l1Cur_bench, M_l1Cur_bench, P_l1Cur_bench⟩
theorem s_l1Cur_bench : SoundM Tryz.prog n0 GG 80 C_l1Cur_bench := by
 unfold C_l1Cur_bench; rw [h_l1Cur_bench]
 exact sound_of_runM (fn := Tryz.f80) hmix hstable (tyOK_of ttOK) (hglob (X_l1Cur_bench N P_spec_NewBench P_l1Cur_act12 P_spec_l12Do P_l1Cur_pick P_l1Cur_among P_l1Cur_someHeap)) (conOK_of (X := X_l1Cur_bench N P_spec_NewBench P_l1Cur_act12 P_spec_l12Do P_l1Cur_pick P_l1Cur_among P_l1Cur_someHeap) ⟨s_spec_NewBench, s_spec_l12Do, trivial⟩) (mconOK_of (X := X_l1Cur_bench N P_spec_NewBench P_l1Cur_act12 P_spec_l12Do P_l1Cur_pick P_l1Cur_among P_l1Cur_someHeap) ⟨s_l1Cur_act12, s_l1Cur_pick, s_l1Cur_among, s_l1Cur_someHeap, trivial⟩) (by kernel_rfl) (by kernel_rfl) (by kernel_rfl) (by kernel_rfl) (by kernel_rfl) (of_decide_eq_true (by kernel_rfl)) (by kernel_rfl) (by rfl)
noncomputable def l_l1Cur_bench_4 : Nat → Int → Int → Int → (List D_A3) → Int → Int → Int → Int → Int → (List D_A3) → Int → Int → (List Int) → Int → Int → Bool → Int → Option (denL R_l1Cur_bench × denM As_l1Cur_bench) := hid (fun m0 p0 p1 p2 p3 p4 p5 p6 p7 p8 p9 p10 p11 p12 p13 p14 p15 p16 => L_l1Cur_bench_4 N P_spec_NewBench P_l1Cur_act12 P_spec_l12Do P_l1Cur_pick P_l1Cur_among P_l1Cur_someHeap m0 p0 p1 p2 p3 p4 p5 p6 p7 p8 p9 p10 p11 p12 p13 p14 p15 p16)
theorem h_l1Cur_bench_4 : l_l1Cur_bench_4 = fun m0 p0 p1 p2 p3 p4 p5 p6 p7 p8 p9 p10 p11 p12 p13 p14 p15 p16 => L_l1Cur_bench_4 N P_spec_NewBench P_l1Cur_act12 P_spec_l12Do P_l1Cur_pick P_l1Cur_among P_l1Cur_someHeap m0 p0 p1 p2 p3 p4 p5 p6 p7 p8 p9 p10 p11 p12 p13 p14 p15 p16 := hid_eq _
theorem p_l1Cur_bench (a0 : D_l1Cur) : P_l1Cur_bench (a0, ()) = 
 Option.bind (P_l1Cur_among (a0, ([2, 3, 2, 1] : List Int), ())) fun r0 =>
 Option.bind (P_l1Cur_among ((a0.1, r0.2.1.2), ([2, 2, 3, 1] : List Int), ())) fun r1 =>
 Option.bind (P_l1Cur_among ((a0.1, r1.2.1.2), ([2, 3, 2, 1] : List Int), ())) fun r2 =>
 Option.bind (P_l1Cur_someHeap ((a0.1, r2.2.1.2), r0.1.1, r1.1.1, r2.1.1, ())) fun r3 =>
 Option.bind (P_spec_NewBench (r3.1.1, ())) fun r4 =>
 Option.bind (P_l1Cur_pick ((a0.1, r3.2.1.2), 7, ())) fun r5 =>
 l_l1Cur_bench_4 N 0 0 0 ([] : List D_A3) 0 0 r4.1.1.1 r4.1.1.2.1 r4.1.1.2.2.1 r4.1.1.2.2.2.1 r4.1.2.1 r4.1.2.2.1 a0.1 r5.2.1.2.1 r5.2.1.2.2.1 r4.2.1 r5.1.1 := by
 rewrite [h_l1Cur_bench, h_l1Cur_bench_4]
 exact e_l1Cur_bench N P_spec_NewBench P_l1Cur_act12 P_spec_l12Do P_l1Cur_pick P_l1Cur_among P_l1Cur_someHeap a0
theorem q_l1Cur_bench_4 (m0 : Nat) (p0 p1 p2 : Int) (p3 : List D_A3) (p4 p5 : Int) (p6 p7 p8 : Int) (p9 : List D_A3) (p10 p11 : Int) (p12 : List Int) (p13 p14 : Int) (p15 : Bool) (p16 : Int) : l_l1Cur_bench_4 (m0 + 1) p0 p1 p2 p3 p4 p5 p6 p7 p8 p9 p10 p11 p12 p13 p14 p15 p16 = 
 bif decide (p16 > 0) then
 bif p15 then
 Option.bind (P_l1Cur_act12 ((p12, (p13, (p14, ()))), (p6, (p7, (p8, (p9, ())))), ())) fun r2 =>
 Option.bind (P_spec_l12Do (((p6, (p7, (p8, (p9, ())))), (p10, (p11, ()))), r2.1.1, ())) fun r3 =>
 bif r3.2.1 then
 l_l1Cur_bench_4 m0 p0 p1 p2 p3 p4 p5 r3.1.1.1 r3.1.1.2.1 r3.1.1.2.2.1 r3.1.1.2.2.2.1 r3.1.2.1 r3.1.2.2.1 p12 r2.2.1.2.1 r2.2.1.2.2.1 p15 (IntKind.wrap .i64 (p16 - 1))
 else
 l_l1Cur_bench_4 m0 p0 p1 p2 p3 p4 p5 p6 p7 p8 p9 p10 p11 p12 r2.2.1.2.1 r2.2.1.2.2.1 p15 (IntKind.wrap .i64 (p16 - 1))
 else
 Option.bind (P_l1Cur_pick ((p12, (p13, (p14, ()))), 48, ())) fun r2 =>
 bif decide (r2.1.1 = 0) then
 Option.bind (P_l1Cur_among ((p12, r2.2.1.2), ([(-1), 1000, 1001] : List Int), ())) fun r4 =>
 some ((((p6, (p7, (p8, (p9, ())))), (p10, (r4.1.1, ()))), ()), ((p12, r4.2.1.2), ()))
 else
 bif decide (r2.1.1 = 1) then
 Option.bind (P_l1Cur_among ((p12, r2.2.1.2), ([(-1), (IntKind.wrap .i64 ((List.length p9 : Int) + 1)), 0] : List Int), ())) fun r5 =>
 some ((((p6, (p7, (p8, (p9, ())))), (r5.1.1, (p11, ()))), ()), ((p12, r5.2.1.2), ()))
 else
 bif decide (r2.1.1 = 2) then
 bif (decide (((List.length ([] : List D_A3)) + (List.length p9)) * 24 ≤ 140737488355328) && decide (((List.length ([] : List D_A3)) + (List.length p9)) ≤ 140737488355328)) then
 bif (decide (((List.length (([] : List D_A3) ++ p9)) + (List.length ([(0, (0, (0, ())))] : List D_A3))) * 24 ≤ 140737488355328) && decide (((List.length (([] : List D_A3) ++ p9)) + (List.length ([(0, (0, (0, ())))] : List D_A3))) ≤ 140737488355328)) then
 some ((((p6, (p7, (p8, (((([] : List D_A3) ++ p9) ++ ([(0, (0, (0, ())))] : List D_A3)), ())))), (p10, (p11, ()))), ()), ((p12, r2.2.1.2), ()))
 else none
 else none
 else
 bif decide (r2.1.1 = 3) then
 Option.bind (P_l1Cur_among ((p12, r2.2.1.2), ([0, 5, 4] : List Int), ())) fun r7 =>
 some ((((p6, (p7, (r7.1.1, (p9, ())))), (p10, (p11, ()))), ()), ((p12, r7.2.1.2), ()))
 else
 some ((((p6, (p7, (p8, (p9, ())))), (p10, (p11, ()))), ()), ((p12, r2.2.1.2), ()))
 else
 Option.bind (P_l1Cur_pick ((p12, (p13, (p14, ()))), 48, ())) fun r1 =>
 bif decide (r1.1.1 = 0) then
 Option.bind (P_l1Cur_among ((p12, r1.2.1.2), ([(-1), 1000, 1001] : List Int), ())) fun r3 =>
 some ((((p6, (p7, (p8, (p9, ())))), (p10, (r3.1.1, ()))), ()), ((p12, r3.2.1.2), ()))
 else
 bif decide (r1.1.1 = 1) then
 Option.bind (P_l1Cur_among ((p12, r1.2.1.2), ([(-1), (IntKind.wrap .i64 ((List.length p9 : Int) + 1)), 0] : List Int), ())) fun r4 =>
 some ((((p6, (p7, (p8, (p9, ())))), (r4.1.1, (p11, ()))), ()), ((p12, r4.2.1.2), ()))
 else
 bif decide (r1.1.1 = 2) then
 bif (decide (((List.length ([] : List D_A3)) + (List.length p9)) * 24 ≤ 140737488355328) && decide (((List.length ([] : List D_A3)) + (List.length p9)) ≤ 140737488355328)) then
 bif (decide (((List.length (([] : List D_A3) ++ p9)) + (List.length ([(0, (0, (0, ())))] : List D_A3))) * 24 ≤ 140737488355328) && decide (((List.length (([] : List D_A3) ++ p9)) + (List.length ([(0, (0, (0, ())))] : List D_A3))) ≤ 140737488355328)) then
 some ((((p6, (p7, (p8, (((([] : List D_A3) ++ p9) ++ ([(0, (0, (0, ())))] : List D_A3)), ())))), (p10, (p11, ()))), ()), ((p12, r1.2.1.2), ()))
 else none
 else none
 else
 bif decide (r1.1.1 = 3) then
 Option.bind (P_l1Cur_among ((p12, r1.2.1.2), ([0, 5, 4] : List Int), ())) fun r6 =>
 some ((((p6, (p7, (r6.1.1, (p9, ())))), (p10, (p11, ()))), ()), ((p12, r6.2.1.2), ()))
 else
 some ((((p6, (p7, (p8, (p9, ())))), (p10, (p11, ()))), ()), ((p12, r1.2.1.2), ())) := by
 rewrite [h_l1Cur_bench_4]
 exact e_l1Cur_bench_4 N P_spec_NewBench P_l1Cur_act12 P_spec_l12Do P_l1Cur_pick P_l1Cur_among P_l1Cur_someHeap m0 p0 p1 p2 p3 p4 p5 p6 p7 p8 p9 p10 p11 p12 p13 p14 p15 p16

abbrev As_spec_DrawDoAct : List ATy := [.data false (.sl (.int .u8))]
abbrev R_spec_DrawDoAct : List (Bool × Ty) := [(true, T_Bench), (true, T_Act)]
abbrev M_spec_DrawDoAct : List RMode := [.own 38]
abbrev Ft_spec_DrawDoAct : Type := (List Int) × Unit → Option (D_Bench × D_Act × Unit)
noncomputable def X_spec_DrawDoAct (n : Nat) (F_l1Cur_bench : Ft_l1Cur_bench) (F_l1Cur_act12 : Ft_l1Cur_act12) : Ctx := { types := TT, globals := [], con := [], mcon := [(80, ⟨As_l1Cur_bench, R_l1Cur_bench, M_l1Cur_bench, F_l1Cur_bench⟩), (81, ⟨As_l1Cur_act12, R_l1Cur_act12, M_l1Cur_act12, F_l1Cur_act12⟩)], keep := [], results := [.cell 2 51, .cell 3 55], ntmps := 16, n := n }
noncomputable def B_spec_DrawDoAct : Code := (Tryz.f34.body).getD .skip
theorem e_spec_DrawDoAct (n : Nat) (F_l1Cur_bench : Ft_l1Cur_bench) (F_l1Cur_act12 : Ft_l1Cur_act12) (a0 : List Int) : runF (X_spec_DrawDoAct n F_l1Cur_bench F_l1Cur_act12) B_spec_DrawDoAct As_spec_DrawDoAct R_spec_DrawDoAct M_spec_DrawDoAct (a0, ()) = 
 Option.bind (F_l1Cur_bench ((a0, (0, (0, ()))), ())) fun r0 =>
 Option.bind (F_l1Cur_act12 ((a0, r0.2.1.2), r0.1.1.1, ())) fun r1 =>
 some (r0.1.1, r1.1.1, ()) := by kernel_rfl
noncomputable def P_spec_DrawDoAct : Ft_spec_DrawDoAct := hid (runF (X_spec_DrawDoAct N P_l1Cur_bench P_l1Cur_act12) B_spec_DrawDoAct As_spec_DrawDoAct R_spec_DrawDoAct M_spec_DrawDoAct)
theorem h_spec_DrawDoAct : P_spec_DrawDoAct = runF (X_spec_DrawDoAct N P_l1Cur_bench P_l1Cur_act12) B_spec_DrawDoAct As_spec_DrawDoAct R_spec_DrawDoAct M_spec_DrawDoAct := hid_eq _
noncomputable def C_spec_DrawDoAct : Contract := ⟨As_spec_DrawDoAct, R_spec_DrawDoAct, M_spec_DrawDoAct, P_spec_DrawDoAct⟩
theorem s_spec_DrawDoAct : Sound Tryz.prog GG 34 C_spec_DrawDoAct := by
 unfold C_spec_DrawDoAct; rw [h_spec_DrawDoAct]
 exact sound_of_run (fn := Tryz.f34) hmix hstable (tyOK_of ttOK) (hglob (X_spec_DrawDoAct N P_l1Cur_bench P_l1Cur_act12)) (conOK_of (X := X_spec_DrawDoAct N P_l1Cur_bench P_l1Cur_act12) trivial) (mconOK_of (X := X_spec_DrawDoAct N P_l1Cur_bench P_l1Cur_act12) ⟨s_l1Cur_bench, s_l1Cur_act12, trivial⟩) (by kernel_rfl) (by kernel_rfl) (by kernel_rfl) (by kernel_rfl) (by kernel_rfl) (of_decide_eq_true (by kernel_rfl))
theorem p_spec_DrawDoAct (a0 : List Int) : P_spec_DrawDoAct (a0, ()) = 
 Option.bind (P_l1Cur_bench ((a0, (0, (0, ()))), ())) fun r0 =>
 Option.bind (P_l1Cur_act12 ((a0, r0.2.1.2), r0.1.1.1, ())) fun r1 =>
 some (r0.1.1, r1.1.1, ()) := by
 rewrite [h_spec_DrawDoAct]
 exact e_spec_DrawDoAct N P_l1Cur_bench P_l1Cur_act12 a0

abbrev As_laws_vCut : List ATy := [.data false (.sl (.int .u8)), .data false (.int .i64)]
abbrev R_laws_vCut : List (Bool × Ty) := [(false, (.sl (.int .u8)))]
abbrev M_laws_vCut : List RMode := [.own 5]
abbrev Ft_laws_vCut : Type := (List Int) × Int × Unit → Option ((List Int) × Unit)
noncomputable def X_laws_vCut (n : Nat) : Ctx := { types := TT, globals := [], con := [], keep := [], results := [.tmp 4], ntmps := 20, n := n }
noncomputable def B_laws_vCut : Code := (Tryz.f35.body).getD .skip
theorem e_laws_vCut (n : Nat) (a0 : List Int) (a1 : Int) : runF (X_laws_vCut n) B_laws_vCut As_laws_vCut R_laws_vCut M_laws_vCut (a0, a1, ()) = 
 bif decide (a1 > (List.length a0 : Int)) then
 bif (decide ((0 : Int) ≤ (List.length a0 : Int)) && decide ((List.length a0 : Int) ≤ (List.length a0 : Int)) && decide ((List.length a0 : Int) ≤ (List.length a0 : Int))) then
 bif (decide (((List.length ([] : List Int)) + (List.length (cut a0 (List.length a0 : Int) (List.length a0 : Int)))) * 1 ≤ 140737488355328) && decide (((List.length ([] : List Int)) + (List.length (cut a0 (List.length a0 : Int) (List.length a0 : Int)))) ≤ 140737488355328)) then
 bif (decide (((List.length (([] : List Int) ++ (cut a0 (List.length a0 : Int) (List.length a0 : Int)))) + (List.length ([(IntKind.wrap .u8 (List.length a0 : Int))] : List Int))) * 1 ≤ 140737488355328) && decide (((List.length (([] : List Int) ++ (cut a0 (List.length a0 : Int) (List.length a0 : Int)))) + (List.length ([(IntKind.wrap .u8 (List.length a0 : Int))] : List Int))) ≤ 140737488355328)) then
 some (((([] : List Int) ++ (cut a0 (List.length a0 : Int) (List.length a0 : Int))) ++ ([(IntKind.wrap .u8 (List.length a0 : Int))] : List Int)), ())
 else none
 else none
 else none
 else
 bif (decide ((0 : Int) ≤ a1) && decide (a1 ≤ (List.length a0 : Int)) && decide ((List.length a0 : Int) ≤ (List.length a0 : Int))) then
 bif (decide (((List.length ([] : List Int)) + (List.length (cut a0 a1 (List.length a0 : Int)))) * 1 ≤ 140737488355328) && decide (((List.length ([] : List Int)) + (List.length (cut a0 a1 (List.length a0 : Int)))) ≤ 140737488355328)) then
 bif (decide (((List.length (([] : List Int) ++ (cut a0 a1 (List.length a0 : Int)))) + (List.length ([(IntKind.wrap .u8 a1)] : List Int))) * 1 ≤ 140737488355328) && decide (((List.length (([] : List Int) ++ (cut a0 a1 (List.length a0 : Int)))) + (List.length ([(IntKind.wrap .u8 a1)] : List Int))) ≤ 140737488355328)) then
 some (((([] : List Int) ++ (cut a0 a1 (List.length a0 : Int))) ++ ([(IntKind.wrap .u8 a1)] : List Int)), ())
 else none
 else none
 else none := by kernel_rfl
noncomputable def P_laws_vCut : Ft_laws_vCut := hid (runF (X_laws_vCut N) B_laws_vCut As_laws_vCut R_laws_vCut M_laws_vCut)
theorem h_laws_vCut : P_laws_vCut = runF (X_laws_vCut N) B_laws_vCut As_laws_vCut R_laws_vCut M_laws_vCut := hid_eq _
noncomputable def C_laws_vCut : Contract := ⟨As_laws_vCut, R_laws_vCut, M_laws_vCut, P_laws_vCut⟩
theorem s_laws_vCut : Sound Tryz.prog GG 35 C_laws_vCut := by
 unfold C_laws_vCut; rw [h_laws_vCut]
 exact sound_of_run (fn := Tryz.f35) hmix hstable (tyOK_of ttOK) (hglob (X_laws_vCut N)) (conOK_of (X := X_laws_vCut N) trivial) (mconOK_of (X := X_laws_vCut N) trivial) (by kernel_rfl) (by kernel_rfl) (by kernel_rfl) (by kernel_rfl) (by kernel_rfl) (of_decide_eq_true (by kernel_rfl))
theorem p_laws_vCut (a0 : List Int) (a1 : Int) : P_laws_vCut (a0, a1, ()) = 
 bif decide (a1 > (List.length a0 : Int)) then
 bif (decide ((0 : Int) ≤ (List.length a0 : Int)) && decide ((List.length a0 : Int) ≤ (List.length a0 : Int)) && decide ((List.length a0 : Int) ≤ (List.length a0 : Int))) then
 bif (decide (((List.length ([] : List Int)) + (List.length (cut a0 (List.length a0 : Int) (List.length a0 : Int)))) * 1 ≤ 140737488355328) && decide (((List.length ([] : List Int)) + (List.length (cut a0 (List.length a0 : Int) (List.length a0 : Int)))) ≤ 140737488355328)) then
 bif (decide (((List.length (([] : List Int) ++ (cut a0 (List.length a0 : Int) (List.length a0 : Int)))) + (List.length ([(IntKind.wrap .u8 (List.length a0 : Int))] : List Int))) * 1 ≤ 140737488355328) && decide (((List.length (([] : List Int) ++ (cut a0 (List.length a0 : Int) (List.length a0 : Int)))) + (List.length ([(IntKind.wrap .u8 (List.length a0 : Int))] : List Int))) ≤ 140737488355328)) then
 some (((([] : List Int) ++ (cut a0 (List.length a0 : Int) (List.length a0 : Int))) ++ ([(IntKind.wrap .u8 (List.length a0 : Int))] : List Int)), ())
 else none
 else none
 else none
 else
 bif (decide ((0 : Int) ≤ a1) && decide (a1 ≤ (List.length a0 : Int)) && decide ((List.length a0 : Int) ≤ (List.length a0 : Int))) then
 bif (decide (((List.length ([] : List Int)) + (List.length (cut a0 a1 (List.length a0 : Int)))) * 1 ≤ 140737488355328) && decide (((List.length ([] : List Int)) + (List.length (cut a0 a1 (List.length a0 : Int)))) ≤ 140737488355328)) then
 bif (decide (((List.length (([] : List Int) ++ (cut a0 a1 (List.length a0 : Int)))) + (List.length ([(IntKind.wrap .u8 a1)] : List Int))) * 1 ≤ 140737488355328) && decide (((List.length (([] : List Int) ++ (cut a0 a1 (List.length a0 : Int)))) + (List.length ([(IntKind.wrap .u8 a1)] : List Int))) ≤ 140737488355328)) then
 some (((([] : List Int) ++ (cut a0 a1 (List.length a0 : Int))) ++ ([(IntKind.wrap .u8 a1)] : List Int)), ())
 else none
 else none
 else none := by
 rewrite [h_laws_vCut]
 exact e_laws_vCut N a0 a1

abbrev As_impl_IsBench : List ATy := [.data true T_Bench]
abbrev R_impl_IsBench : List (Bool × Ty) := [(false, .bool)]
abbrev M_impl_IsBench : List RMode := []
abbrev Ft_impl_IsBench : Type := D_Bench × Unit → Option (Bool × Unit)
noncomputable def X_impl_IsBench (n : Nat) (F_impl_IsHeap : Ft_impl_IsHeap) (F_impl_within : Ft_impl_within) : Ctx := { types := TT, globals := [], con := [(9, ⟨As_impl_IsHeap, R_impl_IsHeap, M_impl_IsHeap, F_impl_IsHeap⟩), (86, ⟨As_impl_within, R_impl_within, M_impl_within, F_impl_within⟩)], keep := [], results := [.tmp 2], ntmps := 20, n := n }
noncomputable def B_impl_IsBench : Code := (Tryz.f42.body).getD .skip
theorem e_impl_IsBench (n : Nat) (F_impl_IsHeap : Ft_impl_IsHeap) (F_impl_within : Ft_impl_within) (a0 : D_Bench) : runF (X_impl_IsBench n F_impl_IsHeap F_impl_within) B_impl_IsBench As_impl_IsBench R_impl_IsBench M_impl_IsBench (a0, ()) = 
 Option.bind (F_impl_IsHeap (a0.1, ())) fun r0 =>
 bif r0.1 then
 Option.bind (F_impl_within (a0.2.1, 0, (List.length a0.1.2.2.2.1 : Int), ())) fun r2 =>
 bif r2.1 then
 Option.bind (F_impl_within (a0.2.2.1, 0, 1000, ())) fun r4 =>
 some (r4.1, ())
 else
 some (false, ())
 else
 some (false, ()) := by kernel_rfl
noncomputable def P_impl_IsBench : Ft_impl_IsBench := hid (runF (X_impl_IsBench N P_impl_IsHeap P_impl_within) B_impl_IsBench As_impl_IsBench R_impl_IsBench M_impl_IsBench)
theorem h_impl_IsBench : P_impl_IsBench = runF (X_impl_IsBench N P_impl_IsHeap P_impl_within) B_impl_IsBench As_impl_IsBench R_impl_IsBench M_impl_IsBench := hid_eq _
noncomputable def C_impl_IsBench : Contract := ⟨As_impl_IsBench, R_impl_IsBench, M_impl_IsBench, P_impl_IsBench⟩
theorem s_impl_IsBench : Sound Tryz.prog GG 42 C_impl_IsBench := by
 unfold C_impl_IsBench; rw [h_impl_IsBench]
 exact sound_of_run (fn := Tryz.f42) hmix hstable (tyOK_of ttOK) (hglob (X_impl_IsBench N P_impl_IsHeap P_impl_within)) (conOK_of (X := X_impl_IsBench N P_impl_IsHeap P_impl_within) ⟨s_impl_IsHeap, s_impl_within, trivial⟩) (mconOK_of (X := X_impl_IsBench N P_impl_IsHeap P_impl_within) trivial) (by kernel_rfl) (by kernel_rfl) (by kernel_rfl) (by kernel_rfl) (by kernel_rfl) (of_decide_eq_true (by kernel_rfl))
theorem p_impl_IsBench (a0 : D_Bench) : P_impl_IsBench (a0, ()) = 
 Option.bind (P_impl_IsHeap (a0.1, ())) fun r0 =>
 bif r0.1 then
 Option.bind (P_impl_within (a0.2.1, 0, (List.length a0.1.2.2.2.1 : Int), ())) fun r2 =>
 bif r2.1 then
 Option.bind (P_impl_within (a0.2.2.1, 0, 1000, ())) fun r4 =>
 some (r4.1, ())
 else
 some (false, ())
 else
 some (false, ()) := by
 rewrite [h_impl_IsBench]
 exact e_impl_IsBench N P_impl_IsHeap P_impl_within a0

abbrev As_impl_isCell : List ATy := [.data true T_Heap, .data true T_A3]
abbrev R_impl_isCell : List (Bool × Ty) := [(false, .bool)]
abbrev M_impl_isCell : List RMode := []
abbrev Ft_impl_isCell : Type := D_Heap × D_A3 × Unit → Option (Bool × Unit)
noncomputable def X_impl_isCell (n : Nat) (F_impl_IsHeap : Ft_impl_IsHeap) (F_Heap_box : Ft_Heap_box) (F_box_has : Ft_box_has) : Ctx := { types := TT, globals := [], con := [(9, ⟨As_impl_IsHeap, R_impl_IsHeap, M_impl_IsHeap, F_impl_IsHeap⟩), (50, ⟨As_Heap_box, R_Heap_box, M_Heap_box, F_Heap_box⟩), (52, ⟨As_box_has, R_box_has, M_box_has, F_box_has⟩)], keep := [], results := [.tmp 4], ntmps := 13, n := n }
noncomputable def B_impl_isCell : Code := (Tryz.f58.body).getD .skip
theorem e_impl_isCell (n : Nat) (F_impl_IsHeap : Ft_impl_IsHeap) (F_Heap_box : Ft_Heap_box) (F_box_has : Ft_box_has) (a0 : D_Heap) (a1 : D_A3) : runF (X_impl_isCell n F_impl_IsHeap F_Heap_box F_box_has) B_impl_isCell As_impl_isCell R_impl_isCell M_impl_isCell (a0, a1, ()) = 
 Option.bind (F_impl_IsHeap (a0, ())) fun r0 =>
 bif r0.1 then
 Option.bind (F_Heap_box (a0, ())) fun r2 =>
 Option.bind (F_box_has (r2.1, a1, ())) fun r3 =>
 some (r3.1, ())
 else
 some (false, ()) := by kernel_rfl
noncomputable def P_impl_isCell : Ft_impl_isCell := hid (runF (X_impl_isCell N P_impl_IsHeap P_Heap_box P_box_has) B_impl_isCell As_impl_isCell R_impl_isCell M_impl_isCell)
theorem h_impl_isCell : P_impl_isCell = runF (X_impl_isCell N P_impl_IsHeap P_Heap_box P_box_has) B_impl_isCell As_impl_isCell R_impl_isCell M_impl_isCell := hid_eq _
noncomputable def C_impl_isCell : Contract := ⟨As_impl_isCell, R_impl_isCell, M_impl_isCell, P_impl_isCell⟩
theorem s_impl_isCell : Sound Tryz.prog GG 58 C_impl_isCell := by
 unfold C_impl_isCell; rw [h_impl_isCell]
 exact sound_of_run (fn := Tryz.f58) hmix hstable (tyOK_of ttOK) (hglob (X_impl_isCell N P_impl_IsHeap P_Heap_box P_box_has)) (conOK_of (X := X_impl_isCell N P_impl_IsHeap P_Heap_box P_box_has) ⟨s_impl_IsHeap, s_Heap_box, s_box_has, trivial⟩) (mconOK_of (X := X_impl_isCell N P_impl_IsHeap P_Heap_box P_box_has) trivial) (by kernel_rfl) (by kernel_rfl) (by kernel_rfl) (by kernel_rfl) (by kernel_rfl) (of_decide_eq_true (by kernel_rfl))
theorem p_impl_isCell (a0 : D_Heap) (a1 : D_A3) : P_impl_isCell (a0, a1, ()) = 
 Option.bind (P_impl_IsHeap (a0, ())) fun r0 =>
 bif r0.1 then
 Option.bind (P_Heap_box (a0, ())) fun r2 =>
 Option.bind (P_box_has (r2.1, a1, ())) fun r3 =>
 some (r3.1, ())
 else
 some (false, ()) := by
 rewrite [h_impl_isCell]
 exact e_impl_isCell N P_impl_IsHeap P_Heap_box P_box_has a0 a1

abbrev As_box_index : List ATy := [.data true T_A3, .data true T_A3]
abbrev R_box_index : List (Bool × Ty) := [(false, (.int .i64))]
abbrev M_box_index : List RMode := []
abbrev Ft_box_index : Type := D_A3 × D_A3 × Unit → Option (Int × Unit)
noncomputable def X_box_index (n : Nat) : Ctx := { types := TT, globals := [], con := [], keep := [], results := [.tmp 4], ntmps := 19, n := n }
noncomputable def B_box_index : Code := (Tryz.f76.body).getD .skip
theorem e_box_index (n : Nat) (a0 a1 : D_A3) : runF (X_box_index n) B_box_index As_box_index R_box_index M_box_index (a0, a1, ()) = 
 some ((IntKind.wrap .i64 ((IntKind.wrap .i64 ((IntKind.wrap .i64 ((IntKind.wrap .i64 (a1.1 * a0.2.1)) + a1.2.1)) * a0.2.2.1)) + a1.2.2.1)), ()) := by kernel_rfl
noncomputable def P_box_index : Ft_box_index := hid (runF (X_box_index N) B_box_index As_box_index R_box_index M_box_index)
theorem h_box_index : P_box_index = runF (X_box_index N) B_box_index As_box_index R_box_index M_box_index := hid_eq _
noncomputable def C_box_index : Contract := ⟨As_box_index, R_box_index, M_box_index, P_box_index⟩
theorem s_box_index : Sound Tryz.prog GG 76 C_box_index := by
 unfold C_box_index; rw [h_box_index]
 exact sound_of_run (fn := Tryz.f76) hmix hstable (tyOK_of ttOK) (hglob (X_box_index N)) (conOK_of (X := X_box_index N) trivial) (mconOK_of (X := X_box_index N) trivial) (by kernel_rfl) (by kernel_rfl) (by kernel_rfl) (by kernel_rfl) (by kernel_rfl) (of_decide_eq_true (by kernel_rfl))
theorem p_box_index (a0 a1 : D_A3) : P_box_index (a0, a1, ()) = 
 some ((IntKind.wrap .i64 ((IntKind.wrap .i64 ((IntKind.wrap .i64 ((IntKind.wrap .i64 (a1.1 * a0.2.1)) + a1.2.1)) * a0.2.2.1)) + a1.2.2.1)), ()) := by
 rewrite [h_box_index]
 exact e_box_index N a0 a1

abbrev As_Heap_cubes : List ATy := [.data true T_Heap]
abbrev R_Heap_cubes : List (Bool × Ty) := [(false, (.int .u64))]
abbrev M_Heap_cubes : List RMode := []
abbrev Ft_Heap_cubes : Type := D_Heap × Unit → Option (Int × Unit)
noncomputable def X_Heap_cubes (n : Nat) (F_Heap_box : Ft_Heap_box) (F_box_index : Ft_box_index) : Ctx := { types := TT, globals := [], con := [(50, ⟨As_Heap_box, R_Heap_box, M_Heap_box, F_Heap_box⟩), (76, ⟨As_box_index, R_box_index, M_box_index, F_box_index⟩)], keep := [(3, ⟨[.box 1, .tmp 1, .tmp 3, .tmp 7, .tmp 8, .tmp 9], []⟩)], results := [.tmp 2], ntmps := 22, n := n }
noncomputable def B_Heap_cubes : Code := (Tryz.f70.body).getD .skip
noncomputable def L_Heap_cubes_3 (n : Nat) (F_Heap_box : Ft_Heap_box) (F_box_index : Ft_box_index) (m0 : Nat) (p0 p1 p2 : Int) (p3 : List D_A3) (p4 : Int) (p5 : List D_A3) (p6 p7 : Int) : Option (denL R_Heap_cubes) := loopF (X_Heap_cubes n F_Heap_box F_box_index) B_Heap_cubes R_Heap_cubes M_Heap_cubes 3 [m0] [(.ver, .num 1), (.box 1, .box 0 false [.int .i64 p0, .int .i64 p1, .int .i64 p2, .imm T_A3 p3 (some 3)]), (.tmp 1, .val false [.addr 1 0 0]), (.tmp 3, .val false [.int .u64 p4]), (.tmp 7, .val false [.imm T_A3 p5 (some 3)]), (.tmp 8, .val false [.int .i64 p6]), (.tmp 9, .val false [.int .i64 p7])]
theorem e_Heap_cubes (n : Nat) (F_Heap_box : Ft_Heap_box) (F_box_index : Ft_box_index) (a0 : D_Heap) : runF (X_Heap_cubes n F_Heap_box F_box_index) B_Heap_cubes As_Heap_cubes R_Heap_cubes M_Heap_cubes (a0, ()) = 
 L_Heap_cubes_3 n F_Heap_box F_box_index n a0.1 a0.2.1 a0.2.2.1 a0.2.2.2.1 0 a0.2.2.2.1 (List.length a0.2.2.2.1 : Int) 0 := by kernel_rfl
theorem e_Heap_cubes_3 (n : Nat) (F_Heap_box : Ft_Heap_box) (F_box_index : Ft_box_index) (m0 : Nat) (p0 p1 p2 : Int) (p3 : List D_A3) (p4 : Int) (p5 : List D_A3) (p6 p7 : Int) : L_Heap_cubes_3 n F_Heap_box F_box_index (m0 + 1) p0 p1 p2 p3 p4 p5 p6 p7 = 
 bif decide (p7 < p6) then
 bif inB p7 (List.length p5) then
 Option.bind (F_Heap_box ((p0, (p1, (p2, (p3, ())))), ())) fun r2 =>
 Option.bind (F_box_index (r2.1, (nth T_A3 p5 p7), ())) fun r3 =>
 bif decide ((0 : Int) ≤ r3.1) then
 L_Heap_cubes_3 n F_Heap_box F_box_index m0 p0 p1 p2 p3 (intBits .or .u64 p4 (shlI .u64 1 r3.1)) p5 p6 (IntKind.wrap .i64 (p7 + 1))
 else none
 else none
 else
 some (p4, ()) := by kernel_rfl
noncomputable def P_Heap_cubes : Ft_Heap_cubes := hid (runF (X_Heap_cubes N P_Heap_box P_box_index) B_Heap_cubes As_Heap_cubes R_Heap_cubes M_Heap_cubes)
theorem h_Heap_cubes : P_Heap_cubes = runF (X_Heap_cubes N P_Heap_box P_box_index) B_Heap_cubes As_Heap_cubes R_Heap_cubes M_Heap_cubes := hid_eq _
noncomputable def C_Heap_cubes : Contract := ⟨As_Heap_cubes, R_Heap_cubes, M_Heap_cubes, P_Heap_cubes⟩
theorem s_Heap_cubes : Sound Tryz.prog GG 70 C_Heap_cubes := by
 unfold C_Heap_cubes; rw [h_Heap_cubes]
 exact sound_of_run (fn := Tryz.f70) hmix hstable (tyOK_of ttOK) (hglob (X_Heap_cubes N P_Heap_box P_box_index)) (conOK_of (X := X_Heap_cubes N P_Heap_box P_box_index) ⟨s_Heap_box, s_box_index, trivial⟩) (mconOK_of (X := X_Heap_cubes N P_Heap_box P_box_index) trivial) (by kernel_rfl) (by kernel_rfl) (by kernel_rfl) (by kernel_rfl) (by kernel_rfl) (of_decide_eq_true (by kernel_rfl))
noncomputable def l_Heap_cubes_3 : Nat → Int → Int → Int → (List D_A3) → Int → (List D_A3) → Int → Int → Option (denL R_Heap_cubes) := hid (fun m0 p0 p1 p2 p3 p4 p5 p6 p7 => L_Heap_cubes_3 N P_Heap_box P_box_index m0 p0 p1 p2 p3 p4 p5 p6 p7)
theorem h_Heap_cubes_3 : l_Heap_cubes_3 = fun m0 p0 p1 p2 p3 p4 p5 p6 p7 => L_Heap_cubes_3 N P_Heap_box P_box_index m0 p0 p1 p2 p3 p4 p5 p6 p7 := hid_eq _
theorem p_Heap_cubes (a0 : D_Heap) : P_Heap_cubes (a0, ()) = 
 l_Heap_cubes_3 N a0.1 a0.2.1 a0.2.2.1 a0.2.2.2.1 0 a0.2.2.2.1 (List.length a0.2.2.2.1 : Int) 0 := by
 rewrite [h_Heap_cubes, h_Heap_cubes_3]
 exact e_Heap_cubes N P_Heap_box P_box_index a0
theorem q_Heap_cubes_3 (m0 : Nat) (p0 p1 p2 : Int) (p3 : List D_A3) (p4 : Int) (p5 : List D_A3) (p6 p7 : Int) : l_Heap_cubes_3 (m0 + 1) p0 p1 p2 p3 p4 p5 p6 p7 = 
 bif decide (p7 < p6) then
 bif inB p7 (List.length p5) then
 Option.bind (P_Heap_box ((p0, (p1, (p2, (p3, ())))), ())) fun r2 =>
 Option.bind (P_box_index (r2.1, (nth T_A3 p5 p7), ())) fun r3 =>
 bif decide ((0 : Int) ≤ r3.1) then
 l_Heap_cubes_3 m0 p0 p1 p2 p3 (intBits .or .u64 p4 (shlI .u64 1 r3.1)) p5 p6 (IntKind.wrap .i64 (p7 + 1))
 else none
 else none
 else
 some (p4, ()) := by
 rewrite [h_Heap_cubes_3]
 exact e_Heap_cubes_3 N P_Heap_box P_box_index m0 p0 p1 p2 p3 p4 p5 p6 p7

abbrev As_set_has : List ATy := [.data false (.int .u64), .data false (.int .i64)]
abbrev R_set_has : List (Bool × Ty) := [(false, .bool)]
abbrev M_set_has : List RMode := []
abbrev Ft_set_has : Type := Int × Int × Unit → Option (Bool × Unit)
noncomputable def X_set_has (n : Nat) : Ctx := { types := TT, globals := [], con := [], keep := [], results := [.tmp 4], ntmps := 10, n := n }
noncomputable def B_set_has : Code := (Tryz.f75.body).getD .skip
theorem e_set_has (n : Nat) (a0 a1 : Int) : runF (X_set_has n) B_set_has As_set_has R_set_has M_set_has (a0, a1, ()) = 
 bif decide ((0 : Int) ≤ a1) then
 some (decide ((intBits .and .u64 (shrI .u64 a0 a1) 1) = 1), ())
 else none := by kernel_rfl
noncomputable def P_set_has : Ft_set_has := hid (runF (X_set_has N) B_set_has As_set_has R_set_has M_set_has)
theorem h_set_has : P_set_has = runF (X_set_has N) B_set_has As_set_has R_set_has M_set_has := hid_eq _
noncomputable def C_set_has : Contract := ⟨As_set_has, R_set_has, M_set_has, P_set_has⟩
theorem s_set_has : Sound Tryz.prog GG 75 C_set_has := by
 unfold C_set_has; rw [h_set_has]
 exact sound_of_run (fn := Tryz.f75) hmix hstable (tyOK_of ttOK) (hglob (X_set_has N)) (conOK_of (X := X_set_has N) trivial) (mconOK_of (X := X_set_has N) trivial) (by kernel_rfl) (by kernel_rfl) (by kernel_rfl) (by kernel_rfl) (by kernel_rfl) (of_decide_eq_true (by kernel_rfl))
theorem p_set_has (a0 a1 : Int) : P_set_has (a0, a1, ()) = 
 bif decide ((0 : Int) ≤ a1) then
 some (decide ((intBits .and .u64 (shrI .u64 a0 a1) 1) = 1), ())
 else none := by
 rewrite [h_set_has]
 exact e_set_has N a0 a1

abbrev As_Heap_hasCube : List ATy := [.data true T_Heap, .data true T_A3]
abbrev R_Heap_hasCube : List (Bool × Ty) := [(false, .bool)]
abbrev M_Heap_hasCube : List RMode := []
abbrev Ft_Heap_hasCube : Type := D_Heap × D_A3 × Unit → Option (Bool × Unit)
noncomputable def X_Heap_hasCube (n : Nat) (F_Heap_box : Ft_Heap_box) (F_Heap_cubes : Ft_Heap_cubes) (F_set_has : Ft_set_has) (F_box_index : Ft_box_index) : Ctx := { types := TT, globals := [], con := [(50, ⟨As_Heap_box, R_Heap_box, M_Heap_box, F_Heap_box⟩), (70, ⟨As_Heap_cubes, R_Heap_cubes, M_Heap_cubes, F_Heap_cubes⟩), (75, ⟨As_set_has, R_set_has, M_set_has, F_set_has⟩), (76, ⟨As_box_index, R_box_index, M_box_index, F_box_index⟩)], keep := [], results := [.tmp 4], ntmps := 12, n := n }
noncomputable def B_Heap_hasCube : Code := (Tryz.f59.body).getD .skip
theorem e_Heap_hasCube (n : Nat) (F_Heap_box : Ft_Heap_box) (F_Heap_cubes : Ft_Heap_cubes) (F_set_has : Ft_set_has) (F_box_index : Ft_box_index) (a0 : D_Heap) (a1 : D_A3) : runF (X_Heap_hasCube n F_Heap_box F_Heap_cubes F_set_has F_box_index) B_Heap_hasCube As_Heap_hasCube R_Heap_hasCube M_Heap_hasCube (a0, a1, ()) = 
 Option.bind (F_Heap_cubes (a0, ())) fun r0 =>
 Option.bind (F_Heap_box (a0, ())) fun r1 =>
 Option.bind (F_box_index (r1.1, a1, ())) fun r2 =>
 Option.bind (F_set_has (r0.1, r2.1, ())) fun r3 =>
 some (r3.1, ()) := by kernel_rfl
noncomputable def P_Heap_hasCube : Ft_Heap_hasCube := hid (runF (X_Heap_hasCube N P_Heap_box P_Heap_cubes P_set_has P_box_index) B_Heap_hasCube As_Heap_hasCube R_Heap_hasCube M_Heap_hasCube)
theorem h_Heap_hasCube : P_Heap_hasCube = runF (X_Heap_hasCube N P_Heap_box P_Heap_cubes P_set_has P_box_index) B_Heap_hasCube As_Heap_hasCube R_Heap_hasCube M_Heap_hasCube := hid_eq _
noncomputable def C_Heap_hasCube : Contract := ⟨As_Heap_hasCube, R_Heap_hasCube, M_Heap_hasCube, P_Heap_hasCube⟩
theorem s_Heap_hasCube : Sound Tryz.prog GG 59 C_Heap_hasCube := by
 unfold C_Heap_hasCube; rw [h_Heap_hasCube]
 exact sound_of_run (fn := Tryz.f59) hmix hstable (tyOK_of ttOK) (hglob (X_Heap_hasCube N P_Heap_box P_Heap_cubes P_set_has P_box_index)) (conOK_of (X := X_Heap_hasCube N P_Heap_box P_Heap_cubes P_set_has P_box_index) ⟨s_Heap_box, s_Heap_cubes, s_set_has, s_box_index, trivial⟩) (mconOK_of (X := X_Heap_hasCube N P_Heap_box P_Heap_cubes P_set_has P_box_index) trivial) (by kernel_rfl) (by kernel_rfl) (by kernel_rfl) (by kernel_rfl) (by kernel_rfl) (of_decide_eq_true (by kernel_rfl))
theorem p_Heap_hasCube (a0 : D_Heap) (a1 : D_A3) : P_Heap_hasCube (a0, a1, ()) = 
 Option.bind (P_Heap_cubes (a0, ())) fun r0 =>
 Option.bind (P_Heap_box (a0, ())) fun r1 =>
 Option.bind (P_box_index (r1.1, a1, ())) fun r2 =>
 Option.bind (P_set_has (r0.1, r2.1, ())) fun r3 =>
 some (r3.1, ()) := by
 rewrite [h_Heap_hasCube]
 exact e_Heap_hasCube N P_Heap_box P_Heap_cubes P_set_has P_box_index a0 a1

abbrev As_box_size : List ATy := [.data true T_A3]
abbrev R_box_size : List (Bool × Ty) := [(false, (.int .i64))]
abbrev M_box_size : List RMode := []
abbrev Ft_box_size : Type := D_A3 × Unit → Option (Int × Unit)
noncomputable def X_box_size (n : Nat) : Ctx := { types := TT, globals := [], con := [], keep := [], results := [.tmp 2], ntmps := 11, n := n }
noncomputable def B_box_size : Code := (Tryz.f127.body).getD .skip
theorem e_box_size (n : Nat) (a0 : D_A3) : runF (X_box_size n) B_box_size As_box_size R_box_size M_box_size (a0, ()) = 
 some ((IntKind.wrap .i64 ((IntKind.wrap .i64 (a0.1 * a0.2.1)) * a0.2.2.1)), ()) := by kernel_rfl
noncomputable def P_box_size : Ft_box_size := hid (runF (X_box_size N) B_box_size As_box_size R_box_size M_box_size)
theorem h_box_size : P_box_size = runF (X_box_size N) B_box_size As_box_size R_box_size M_box_size := hid_eq _
noncomputable def C_box_size : Contract := ⟨As_box_size, R_box_size, M_box_size, P_box_size⟩
theorem s_box_size : Sound Tryz.prog GG 127 C_box_size := by
 unfold C_box_size; rw [h_box_size]
 exact sound_of_run (fn := Tryz.f127) hmix hstable (tyOK_of ttOK) (hglob (X_box_size N)) (conOK_of (X := X_box_size N) trivial) (mconOK_of (X := X_box_size N) trivial) (by kernel_rfl) (by kernel_rfl) (by kernel_rfl) (by kernel_rfl) (by kernel_rfl) (of_decide_eq_true (by kernel_rfl))
theorem p_box_size (a0 : D_A3) : P_box_size (a0, ()) = 
 some ((IntKind.wrap .i64 ((IntKind.wrap .i64 (a0.1 * a0.2.1)) * a0.2.2.1)), ()) := by
 rewrite [h_box_size]
 exact e_box_size N a0

abbrev As_box_cell : List ATy := [.data true T_A3, .data false (.int .i64)]
abbrev R_box_cell : List (Bool × Ty) := [(true, T_A3)]
abbrev M_box_cell : List RMode := []
abbrev Ft_box_cell : Type := D_A3 × Int × Unit → Option (D_A3 × Unit)
noncomputable def X_box_cell (n : Nat) : Ctx := { types := TT, globals := [], con := [], keep := [], results := [.cell 4 38], ntmps := 24, n := n }
noncomputable def B_box_cell : Code := (Tryz.f128.body).getD .skip
theorem e_box_cell (n : Nat) (a0 : D_A3) (a1 : Int) : runF (X_box_cell n) B_box_cell As_box_cell R_box_cell M_box_cell (a0, a1, ()) = 
 bif !decide (a0.2.2.1 = 0) then
 bif !decide (a0.2.1 = 0) then
 bif !decide (a0.2.2.1 = 0) then
 bif !decide (a0.2.1 = 0) then
 bif !decide (a0.2.2.1 = 0) then
 some (((IntKind.wrap .i64 (Int.tdiv (IntKind.wrap .i64 (Int.tdiv a1 a0.2.2.1)) a0.2.1)), ((Int.tmod (IntKind.wrap .i64 (Int.tdiv a1 a0.2.2.1)) a0.2.1), ((Int.tmod a1 a0.2.2.1), ()))), ())
 else none
 else none
 else none
 else none
 else none := by kernel_rfl
noncomputable def P_box_cell : Ft_box_cell := hid (runF (X_box_cell N) B_box_cell As_box_cell R_box_cell M_box_cell)
theorem h_box_cell : P_box_cell = runF (X_box_cell N) B_box_cell As_box_cell R_box_cell M_box_cell := hid_eq _
noncomputable def C_box_cell : Contract := ⟨As_box_cell, R_box_cell, M_box_cell, P_box_cell⟩
theorem s_box_cell : Sound Tryz.prog GG 128 C_box_cell := by
 unfold C_box_cell; rw [h_box_cell]
 exact sound_of_run (fn := Tryz.f128) hmix hstable (tyOK_of ttOK) (hglob (X_box_cell N)) (conOK_of (X := X_box_cell N) trivial) (mconOK_of (X := X_box_cell N) trivial) (by kernel_rfl) (by kernel_rfl) (by kernel_rfl) (by kernel_rfl) (by kernel_rfl) (of_decide_eq_true (by kernel_rfl))
theorem p_box_cell (a0 : D_A3) (a1 : Int) : P_box_cell (a0, a1, ()) = 
 bif !decide (a0.2.2.1 = 0) then
 bif !decide (a0.2.1 = 0) then
 bif !decide (a0.2.2.1 = 0) then
 bif !decide (a0.2.1 = 0) then
 bif !decide (a0.2.2.1 = 0) then
 some (((IntKind.wrap .i64 (Int.tdiv (IntKind.wrap .i64 (Int.tdiv a1 a0.2.2.1)) a0.2.1)), ((Int.tmod (IntKind.wrap .i64 (Int.tdiv a1 a0.2.2.1)) a0.2.1), ((Int.tmod a1 a0.2.2.1), ()))), ())
 else none
 else none
 else none
 else none
 else none := by
 rewrite [h_box_cell]
 exact e_box_cell N a0 a1

abbrev As_box_list : List ATy := [.data true T_A3, .data false (.int .u64)]
abbrev R_box_list : List (Bool × Ty) := [(false, (.sl T_A3))]
abbrev M_box_list : List RMode := [.own 38]
abbrev Ft_box_list : Type := D_A3 × Int × Unit → Option ((List D_A3) × Unit)
noncomputable def X_box_list (n : Nat) (F_set_has : Ft_set_has) (F_box_size : Ft_box_size) (F_box_cell : Ft_box_cell) : Ctx := { types := TT, globals := [], con := [(75, ⟨As_set_has, R_set_has, M_set_has, F_set_has⟩), (127, ⟨As_box_size, R_box_size, M_box_size, F_box_size⟩), (128, ⟨As_box_cell, R_box_cell, M_box_cell, F_box_cell⟩)], keep := [(3, ⟨[.box 2, .tmp 1, .tmp 2, .tmp 5, .tmp 9, .tmp 10], []⟩)], results := [.tmp 4], ntmps := 24, n := n }
noncomputable def B_box_list : Code := (Tryz.f104.body).getD .skip
noncomputable def L_box_list_3 (n : Nat) (F_set_has : Ft_set_has) (F_box_size : Ft_box_size) (F_box_cell : Ft_box_cell) (m0 : Nat) (p0 p1 : Int) (p2 p3 : Int) (p4 : List D_A3) (p5 p6 : Int) : Option (denL R_box_list) := loopF (X_box_list n F_set_has F_box_size F_box_cell) B_box_list R_box_list M_box_list 3 [m0] [(.ver, .num 1), (.box 2, .box 0 false [.int .i64 p0, .int .i64 p1, .int .i64 p2]), (.tmp 1, .val false [.int .u64 p3]), (.tmp 2, .val false [.addr 2 0 0]), (.tmp 5, .val false [.own 38 T_A3 0 p4]), (.tmp 9, .val false [.int .i64 p5]), (.tmp 10, .val false [.int .i64 p6])]
theorem e_box_list (n : Nat) (F_set_has : Ft_set_has) (F_box_size : Ft_box_size) (F_box_cell : Ft_box_cell) (a0 : D_A3) (a1 : Int) : runF (X_box_list n F_set_has F_box_size F_box_cell) B_box_list As_box_list R_box_list M_box_list (a0, a1, ()) = 
 Option.bind (F_box_size (a0, ())) fun r0 =>
 L_box_list_3 n F_set_has F_box_size F_box_cell n a0.1 a0.2.1 a0.2.2.1 a1 ([] : List D_A3) r0.1 0 := by kernel_rfl
theorem e_box_list_3 (n : Nat) (F_set_has : Ft_set_has) (F_box_size : Ft_box_size) (F_box_cell : Ft_box_cell) (m0 : Nat) (p0 p1 : Int) (p2 p3 : Int) (p4 : List D_A3) (p5 p6 : Int) : L_box_list_3 n F_set_has F_box_size F_box_cell (m0 + 1) p0 p1 p2 p3 p4 p5 p6 = 
 bif decide (p6 < p5) then
 Option.bind (F_set_has (p3, p6, ())) fun r1 =>
 bif r1.1 then
 Option.bind (F_box_cell ((p0, (p1, (p2, ()))), p6, ())) fun r3 =>
 bif (decide (((List.length p4) + (List.length ([r3.1] : List D_A3))) * 24 ≤ 140737488355328) && decide (((List.length p4) + (List.length ([r3.1] : List D_A3))) ≤ 140737488355328)) then
 L_box_list_3 n F_set_has F_box_size F_box_cell m0 p0 p1 p2 p3 (p4 ++ ([r3.1] : List D_A3)) p5 (IntKind.wrap .i64 (p6 + 1))
 else none
 else
 L_box_list_3 n F_set_has F_box_size F_box_cell m0 p0 p1 p2 p3 p4 p5 (IntKind.wrap .i64 (p6 + 1))
 else
 some (p4, ()) := by kernel_rfl
noncomputable def P_box_list : Ft_box_list := hid (runF (X_box_list N P_set_has P_box_size P_box_cell) B_box_list As_box_list R_box_list M_box_list)
theorem h_box_list : P_box_list = runF (X_box_list N P_set_has P_box_size P_box_cell) B_box_list As_box_list R_box_list M_box_list := hid_eq _
noncomputable def C_box_list : Contract := ⟨As_box_list, R_box_list, M_box_list, P_box_list⟩
theorem s_box_list : Sound Tryz.prog GG 104 C_box_list := by
 unfold C_box_list; rw [h_box_list]
 exact sound_of_run (fn := Tryz.f104) hmix hstable (tyOK_of ttOK) (hglob (X_box_list N P_set_has P_box_size P_box_cell)) (conOK_of (X := X_box_list N P_set_has P_box_size P_box_cell) ⟨s_set_has, s_box_size, s_box_cell, trivial⟩) (mconOK_of (X := X_box_list N P_set_has P_box_size P_box_cell) trivial) (by kernel_rfl) (by kernel_rfl) (by kernel_rfl) (by kernel_rfl) (by kernel_rfl) (of_decide_eq_true (by kernel_rfl))
noncomputable def l_box_list_3 : Nat → Int → Int → Int → Int → (List D_A3) → Int → Int → Option (denL R_box_list) := hid (fun m0 p0 p1 p2 p3 p4 p5 p6 => L_box_list_3 N P_set_has P_box_size P_box_cell m0 p0 p1 p2 p3 p4 p5 p6)
theorem h_box_list_3 : l_box_list_3 = fun m0 p0 p1 p2 p3 p4 p5 p6 => L_box_list_3 N P_set_has P_box_size P_box_cell m0 p0 p1 p2 p3 p4 p5 p6 := hid_eq _
theorem p_box_list (a0 : D_A3) (a1 : Int) : P_box_list (a0, a1, ()) = 
 Option.bind (P_box_size (a0, ())) fun r0 =>
 l_box_list_3 N a0.1 a0.2.1 a0.2.2.1 a1 ([] : List D_A3) r0.1 0 := by
 rewrite [h_box_list, h_box_list_3]
 exact e_box_list N P_set_has P_box_size P_box_cell a0 a1
theorem q_box_list_3 (m0 : Nat) (p0 p1 : Int) (p2 p3 : Int) (p4 : List D_A3) (p5 p6 : Int) : l_box_list_3 (m0 + 1) p0 p1 p2 p3 p4 p5 p6 = 
 bif decide (p6 < p5) then
 Option.bind (P_set_has (p3, p6, ())) fun r1 =>
 bif r1.1 then
 Option.bind (P_box_cell ((p0, (p1, (p2, ()))), p6, ())) fun r3 =>
 bif (decide (((List.length p4) + (List.length ([r3.1] : List D_A3))) * 24 ≤ 140737488355328) && decide (((List.length p4) + (List.length ([r3.1] : List D_A3))) ≤ 140737488355328)) then
 l_box_list_3 m0 p0 p1 p2 p3 (p4 ++ ([r3.1] : List D_A3)) p5 (IntKind.wrap .i64 (p6 + 1))
 else none
 else
 l_box_list_3 m0 p0 p1 p2 p3 p4 p5 (IntKind.wrap .i64 (p6 + 1))
 else
 some (p4, ()) := by
 rewrite [h_box_list_3]
 exact e_box_list_3 N P_set_has P_box_size P_box_cell m0 p0 p1 p2 p3 p4 p5 p6

abbrev As_box_heap : List ATy := [.data true T_A3, .data false (.int .u64)]
abbrev R_box_heap : List (Bool × Ty) := [(true, T_Heap)]
abbrev M_box_heap : List RMode := [.own 38]
abbrev Ft_box_heap : Type := D_A3 × Int × Unit → Option (D_Heap × Unit)
noncomputable def X_box_heap (n : Nat) (F_box_list : Ft_box_list) : Ctx := { types := TT, globals := [], con := [(104, ⟨As_box_list, R_box_list, M_box_list, F_box_list⟩)], keep := [], results := [.cell 4 26], ntmps := 15, n := n }
noncomputable def B_box_heap : Code := (Tryz.f69.body).getD .skip
theorem e_box_heap (n : Nat) (F_box_list : Ft_box_list) (a0 : D_A3) (a1 : Int) : runF (X_box_heap n F_box_list) B_box_heap As_box_heap R_box_heap M_box_heap (a0, a1, ()) = 
 Option.bind (F_box_list (a0, a1, ())) fun r0 =>
 some ((a0.1, (a0.2.1, (a0.2.2.1, (r0.1, ())))), ()) := by kernel_rfl
noncomputable def P_box_heap : Ft_box_heap := hid (runF (X_box_heap N P_box_list) B_box_heap As_box_heap R_box_heap M_box_heap)
theorem h_box_heap : P_box_heap = runF (X_box_heap N P_box_list) B_box_heap As_box_heap R_box_heap M_box_heap := hid_eq _
noncomputable def C_box_heap : Contract := ⟨As_box_heap, R_box_heap, M_box_heap, P_box_heap⟩
theorem s_box_heap : Sound Tryz.prog GG 69 C_box_heap := by
 unfold C_box_heap; rw [h_box_heap]
 exact sound_of_run (fn := Tryz.f69) hmix hstable (tyOK_of ttOK) (hglob (X_box_heap N P_box_list)) (conOK_of (X := X_box_heap N P_box_list) ⟨s_box_list, trivial⟩) (mconOK_of (X := X_box_heap N P_box_list) trivial) (by kernel_rfl) (by kernel_rfl) (by kernel_rfl) (by kernel_rfl) (by kernel_rfl) (of_decide_eq_true (by kernel_rfl))
theorem p_box_heap (a0 : D_A3) (a1 : Int) : P_box_heap (a0, a1, ()) = 
 Option.bind (P_box_list (a0, a1, ())) fun r0 =>
 some ((a0.1, (a0.2.1, (a0.2.2.1, (r0.1, ())))), ()) := by
 rewrite [h_box_heap]
 exact e_box_heap N P_box_list a0 a1

abbrev As_impl_PutCube : List ATy := [.data true T_Heap, .data true T_A3]
abbrev R_impl_PutCube : List (Bool × Ty) := [(true, T_Heap), (false, .bool)]
abbrev M_impl_PutCube : List RMode := [.own 38]
abbrev Ft_impl_PutCube : Type := D_Heap × D_A3 × Unit → Option (D_Heap × Bool × Unit)
noncomputable def X_impl_PutCube (n : Nat) (F_Heap_box : Ft_Heap_box) (F_impl_isCell : Ft_impl_isCell) (F_Heap_hasCube : Ft_Heap_hasCube) (F_box_heap : Ft_box_heap) (F_Heap_cubes : Ft_Heap_cubes) (F_box_index : Ft_box_index) : Ctx := { types := TT, globals := [], con := [(50, ⟨As_Heap_box, R_Heap_box, M_Heap_box, F_Heap_box⟩), (58, ⟨As_impl_isCell, R_impl_isCell, M_impl_isCell, F_impl_isCell⟩), (59, ⟨As_Heap_hasCube, R_Heap_hasCube, M_Heap_hasCube, F_Heap_hasCube⟩), (69, ⟨As_box_heap, R_box_heap, M_box_heap, F_box_heap⟩), (70, ⟨As_Heap_cubes, R_Heap_cubes, M_Heap_cubes, F_Heap_cubes⟩), (76, ⟨As_box_index, R_box_index, M_box_index, F_box_index⟩)], keep := [], results := [.cell 4 26, .tmp 5], ntmps := 27, n := n }
noncomputable def B_impl_PutCube : Code := (Tryz.f113.body).getD .skip
theorem e_impl_PutCube (n : Nat) (F_Heap_box : Ft_Heap_box) (F_impl_isCell : Ft_impl_isCell) (F_Heap_hasCube : Ft_Heap_hasCube) (F_box_heap : Ft_box_heap) (F_Heap_cubes : Ft_Heap_cubes) (F_box_index : Ft_box_index) (a0 : D_Heap) (a1 : D_A3) : runF (X_impl_PutCube n F_Heap_box F_impl_isCell F_Heap_hasCube F_box_heap F_Heap_cubes F_box_index) B_impl_PutCube As_impl_PutCube R_impl_PutCube M_impl_PutCube (a0, a1, ()) = 
 Option.bind (F_impl_isCell (a0, a1, ())) fun r0 =>
 bif !r0.1 then
 some ((0, (0, (0, (([] : List D_A3), ())))), false, ())
 else
 Option.bind (F_Heap_hasCube (a0, a1, ())) fun r2 =>
 bif r2.1 then
 some ((0, (0, (0, (([] : List D_A3), ())))), false, ())
 else
 Option.bind (F_Heap_box (a0, ())) fun r4 =>
 Option.bind (F_Heap_cubes (a0, ())) fun r5 =>
 Option.bind (F_Heap_box (a0, ())) fun r6 =>
 Option.bind (F_box_index (r6.1, a1, ())) fun r7 =>
 bif decide ((0 : Int) ≤ r7.1) then
 Option.bind (F_box_heap (r4.1, (intBits .or .u64 r5.1 (shlI .u64 1 r7.1)), ())) fun r9 =>
 some (r9.1, true, ())
 else none := by kernel_rfl
noncomputable def P_impl_PutCube : Ft_impl_PutCube := hid (runF (X_impl_PutCube N P_Heap_box P_impl_isCell P_Heap_hasCube P_box_heap P_Heap_cubes P_box_index) B_impl_PutCube As_impl_PutCube R_impl_PutCube M_impl_PutCube)
theorem h_impl_PutCube : P_impl_PutCube = runF (X_impl_PutCube N P_Heap_box P_impl_isCell P_Heap_hasCube P_box_heap P_Heap_cubes P_box_index) B_impl_PutCube As_impl_PutCube R_impl_PutCube M_impl_PutCube := hid_eq _
noncomputable def C_impl_PutCube : Contract := ⟨As_impl_PutCube, R_impl_PutCube, M_impl_PutCube, P_impl_PutCube⟩
theorem s_impl_PutCube : Sound Tryz.prog GG 113 C_impl_PutCube := by
 unfold C_impl_PutCube; rw [h_impl_PutCube]
 exact sound_of_run (fn := Tryz.f113) hmix hstable (tyOK_of ttOK) (hglob (X_impl_PutCube N P_Heap_box P_impl_isCell P_Heap_hasCube P_box_heap P_Heap_cubes P_box_index)) (conOK_of (X := X_impl_PutCube N P_Heap_box P_impl_isCell P_Heap_hasCube P_box_heap P_Heap_cubes P_box_index) ⟨s_Heap_box, s_impl_isCell, s_Heap_hasCube, s_box_heap, s_Heap_cubes, s_box_index, trivial⟩) (mconOK_of (X := X_impl_PutCube N P_Heap_box P_impl_isCell P_Heap_hasCube P_box_heap P_Heap_cubes P_box_index) trivial) (by kernel_rfl) (by kernel_rfl) (by kernel_rfl) (by kernel_rfl) (by kernel_rfl) (of_decide_eq_true (by kernel_rfl))
theorem p_impl_PutCube (a0 : D_Heap) (a1 : D_A3) : P_impl_PutCube (a0, a1, ()) = 
 Option.bind (P_impl_isCell (a0, a1, ())) fun r0 =>
 bif !r0.1 then
 some ((0, (0, (0, (([] : List D_A3), ())))), false, ())
 else
 Option.bind (P_Heap_hasCube (a0, a1, ())) fun r2 =>
 bif r2.1 then
 some ((0, (0, (0, (([] : List D_A3), ())))), false, ())
 else
 Option.bind (P_Heap_box (a0, ())) fun r4 =>
 Option.bind (P_Heap_cubes (a0, ())) fun r5 =>
 Option.bind (P_Heap_box (a0, ())) fun r6 =>
 Option.bind (P_box_index (r6.1, a1, ())) fun r7 =>
 bif decide ((0 : Int) ≤ r7.1) then
 Option.bind (P_box_heap (r4.1, (intBits .or .u64 r5.1 (shlI .u64 1 r7.1)), ())) fun r9 =>
 some (r9.1, true, ())
 else none := by
 rewrite [h_impl_PutCube]
 exact e_impl_PutCube N P_Heap_box P_impl_isCell P_Heap_hasCube P_box_heap P_Heap_cubes P_box_index a0 a1

abbrev As_impl_TakeCube : List ATy := [.data true T_Heap, .data true T_A3]
abbrev R_impl_TakeCube : List (Bool × Ty) := [(true, T_Heap), (false, .bool)]
abbrev M_impl_TakeCube : List RMode := [.own 38]
abbrev Ft_impl_TakeCube : Type := D_Heap × D_A3 × Unit → Option (D_Heap × Bool × Unit)
noncomputable def X_impl_TakeCube (n : Nat) (F_Heap_box : Ft_Heap_box) (F_impl_isCell : Ft_impl_isCell) (F_Heap_hasCube : Ft_Heap_hasCube) (F_box_heap : Ft_box_heap) (F_Heap_cubes : Ft_Heap_cubes) (F_box_index : Ft_box_index) : Ctx := { types := TT, globals := [], con := [(50, ⟨As_Heap_box, R_Heap_box, M_Heap_box, F_Heap_box⟩), (58, ⟨As_impl_isCell, R_impl_isCell, M_impl_isCell, F_impl_isCell⟩), (59, ⟨As_Heap_hasCube, R_Heap_hasCube, M_Heap_hasCube, F_Heap_hasCube⟩), (69, ⟨As_box_heap, R_box_heap, M_box_heap, F_box_heap⟩), (70, ⟨As_Heap_cubes, R_Heap_cubes, M_Heap_cubes, F_Heap_cubes⟩), (76, ⟨As_box_index, R_box_index, M_box_index, F_box_index⟩)], keep := [], results := [.cell 4 26, .tmp 5], ntmps := 28, n := n }
noncomputable def B_impl_TakeCube : Code := (Tryz.f114.body).getD .skip
theorem e_impl_TakeCube (n : Nat) (F_Heap_box : Ft_Heap_box) (F_impl_isCell : Ft_impl_isCell) (F_Heap_hasCube : Ft_Heap_hasCube) (F_box_heap : Ft_box_heap) (F_Heap_cubes : Ft_Heap_cubes) (F_box_index : Ft_box_index) (a0 : D_Heap) (a1 : D_A3) : runF (X_impl_TakeCube n F_Heap_box F_impl_isCell F_Heap_hasCube F_box_heap F_Heap_cubes F_box_index) B_impl_TakeCube As_impl_TakeCube R_impl_TakeCube M_impl_TakeCube (a0, a1, ()) = 
 Option.bind (F_impl_isCell (a0, a1, ())) fun r0 =>
 bif !r0.1 then
 some ((0, (0, (0, (([] : List D_A3), ())))), false, ())
 else
 Option.bind (F_Heap_hasCube (a0, a1, ())) fun r2 =>
 bif !r2.1 then
 some ((0, (0, (0, (([] : List D_A3), ())))), false, ())
 else
 Option.bind (F_Heap_box (a0, ())) fun r4 =>
 Option.bind (F_Heap_cubes (a0, ())) fun r5 =>
 Option.bind (F_Heap_box (a0, ())) fun r6 =>
 Option.bind (F_box_index (r6.1, a1, ())) fun r7 =>
 bif decide ((0 : Int) ≤ r7.1) then
 Option.bind (F_box_heap (r4.1, (intBits .andNot .u64 r5.1 (shlI .u64 1 r7.1)), ())) fun r9 =>
 some (r9.1, true, ())
 else none := by kernel_rfl
noncomputable def P_impl_TakeCube : Ft_impl_TakeCube := hid (runF (X_impl_TakeCube N P_Heap_box P_impl_isCell P_Heap_hasCube P_box_heap P_Heap_cubes P_box_index) B_impl_TakeCube As_impl_TakeCube R_impl_TakeCube M_impl_TakeCube)
theorem h_impl_TakeCube : P_impl_TakeCube = runF (X_impl_TakeCube N P_Heap_box P_impl_isCell P_Heap_hasCube P_box_heap P_Heap_cubes P_box_index) B_impl_TakeCube As_impl_TakeCube R_impl_TakeCube M_impl_TakeCube := hid_eq _
noncomputable def C_impl_TakeCube : Contract := ⟨As_impl_TakeCube, R_impl_TakeCube, M_impl_TakeCube, P_impl_TakeCube⟩
theorem s_impl_TakeCube : Sound Tryz.prog GG 114 C_impl_TakeCube := by
 unfold C_impl_TakeCube; rw [h_impl_TakeCube]
 exact sound_of_run (fn := Tryz.f114) hmix hstable (tyOK_of ttOK) (hglob (X_impl_TakeCube N P_Heap_box P_impl_isCell P_Heap_hasCube P_box_heap P_Heap_cubes P_box_index)) (conOK_of (X := X_impl_TakeCube N P_Heap_box P_impl_isCell P_Heap_hasCube P_box_heap P_Heap_cubes P_box_index) ⟨s_Heap_box, s_impl_isCell, s_Heap_hasCube, s_box_heap, s_Heap_cubes, s_box_index, trivial⟩) (mconOK_of (X := X_impl_TakeCube N P_Heap_box P_impl_isCell P_Heap_hasCube P_box_heap P_Heap_cubes P_box_index) trivial) (by kernel_rfl) (by kernel_rfl) (by kernel_rfl) (by kernel_rfl) (by kernel_rfl) (of_decide_eq_true (by kernel_rfl))
theorem p_impl_TakeCube (a0 : D_Heap) (a1 : D_A3) : P_impl_TakeCube (a0, a1, ()) = 
 Option.bind (P_impl_isCell (a0, a1, ())) fun r0 =>
 bif !r0.1 then
 some ((0, (0, (0, (([] : List D_A3), ())))), false, ())
 else
 Option.bind (P_Heap_hasCube (a0, a1, ())) fun r2 =>
 bif !r2.1 then
 some ((0, (0, (0, (([] : List D_A3), ())))), false, ())
 else
 Option.bind (P_Heap_box (a0, ())) fun r4 =>
 Option.bind (P_Heap_cubes (a0, ())) fun r5 =>
 Option.bind (P_Heap_box (a0, ())) fun r6 =>
 Option.bind (P_box_index (r6.1, a1, ())) fun r7 =>
 bif decide ((0 : Int) ≤ r7.1) then
 Option.bind (P_box_heap (r4.1, (intBits .andNot .u64 r5.1 (shlI .u64 1 r7.1)), ())) fun r9 =>
 some (r9.1, true, ())
 else none := by
 rewrite [h_impl_TakeCube]
 exact e_impl_TakeCube N P_Heap_box P_impl_isCell P_Heap_hasCube P_box_heap P_Heap_cubes P_box_index a0 a1

abbrev As_box_those : List ATy := [.data true T_A3, .clo [(true, T_A3)] [(false, .bool)]]
abbrev R_box_those : List (Bool × Ty) := [(false, (.int .u64))]
abbrev M_box_those : List RMode := []
abbrev Ft_box_those : Type := D_A3 × ((D_A3 × Unit) → Option (Bool × Unit)) × Unit → Option (Int × Unit)
noncomputable def X_box_those (n : Nat) (F_box_size : Ft_box_size) (F_box_cell : Ft_box_cell) : Ctx := { types := TT, globals := [], con := [(127, ⟨As_box_size, R_box_size, M_box_size, F_box_size⟩), (128, ⟨As_box_cell, R_box_cell, M_box_cell, F_box_cell⟩)], keep := [(3, ⟨[.box 2, .tmp 1, .tmp 2, .tmp 5, .tmp 8, .tmp 9], []⟩)], results := [.tmp 4], ntmps := 23, n := n }
noncomputable def B_box_those : Code := (Tryz.f105.body).getD .skip
noncomputable def L_box_those_3 (n : Nat) (F_box_size : Ft_box_size) (F_box_cell : Ft_box_cell) (m0 : Nat) (p0 p1 p2 : Int) (p3 : (D_A3 × Unit) → Option (Bool × Unit)) (p4 p5 p6 : Int) : Option (denL R_box_those) := loopF (X_box_those n F_box_size F_box_cell) B_box_those R_box_those M_box_those 3 [m0] [(.ver, .num 1), (.box 2, .box 0 false [.int .i64 p0, .int .i64 p1, .int .i64 p2]), (.tmp 1, .val false [.clo [(true, T_A3)] [(false, .bool)] p3]), (.tmp 2, .val false [.addr 2 0 0]), (.tmp 5, .val false [.int .u64 p4]), (.tmp 8, .val false [.int .i64 p5]), (.tmp 9, .val false [.int .i64 p6])]
theorem e_box_those (n : Nat) (F_box_size : Ft_box_size) (F_box_cell : Ft_box_cell) (a0 : D_A3) (a1 : (D_A3 × Unit) → Option (Bool × Unit)) : runF (X_box_those n F_box_size F_box_cell) B_box_those As_box_those R_box_those M_box_those (a0, a1, ()) = 
 Option.bind (F_box_size (a0, ())) fun r0 =>
 L_box_those_3 n F_box_size F_box_cell n a0.1 a0.2.1 a0.2.2.1 a1 0 r0.1 0 := by kernel_rfl
theorem e_box_those_3 (n : Nat) (F_box_size : Ft_box_size) (F_box_cell : Ft_box_cell) (m0 : Nat) (p0 p1 p2 : Int) (p3 : (D_A3 × Unit) → Option (Bool × Unit)) (p4 p5 p6 : Int) : L_box_those_3 n F_box_size F_box_cell (m0 + 1) p0 p1 p2 p3 p4 p5 p6 = 
 bif decide (p6 < p5) then
 Option.bind (F_box_cell ((p0, (p1, (p2, ()))), p6, ())) fun r1 =>
 Option.bind (p3 (r1.1, ())) fun r2 =>
 bif r2.1 then
 bif decide ((0 : Int) ≤ p6) then
 L_box_those_3 n F_box_size F_box_cell m0 p0 p1 p2 p3 (intBits .or .u64 p4 (shlI .u64 1 p6)) p5 (IntKind.wrap .i64 (p6 + 1))
 else none
 else
 L_box_those_3 n F_box_size F_box_cell m0 p0 p1 p2 p3 p4 p5 (IntKind.wrap .i64 (p6 + 1))
 else
 some (p4, ()) := by kernel_rfl
noncomputable def P_box_those : Ft_box_those := hid (runF (X_box_those N P_box_size P_box_cell) B_box_those As_box_those R_box_those M_box_those)
theorem h_box_those : P_box_those = runF (X_box_those N P_box_size P_box_cell) B_box_those As_box_those R_box_those M_box_those := hid_eq _
noncomputable def C_box_those : Contract := ⟨As_box_those, R_box_those, M_box_those, P_box_those⟩
theorem s_box_those : Sound Tryz.prog GG 105 C_box_those := by
 unfold C_box_those; rw [h_box_those]
 exact sound_of_run (fn := Tryz.f105) hmix hstable (tyOK_of ttOK) (hglob (X_box_those N P_box_size P_box_cell)) (conOK_of (X := X_box_those N P_box_size P_box_cell) ⟨s_box_size, s_box_cell, trivial⟩) (mconOK_of (X := X_box_those N P_box_size P_box_cell) trivial) (by kernel_rfl) (by kernel_rfl) (by kernel_rfl) (by kernel_rfl) (by kernel_rfl) (of_decide_eq_true (by kernel_rfl))
noncomputable def l_box_those_3 : Nat → Int → Int → Int → ((D_A3 × Unit) → Option (Bool × Unit)) → Int → Int → Int → Option (denL R_box_those) := hid (fun m0 p0 p1 p2 p3 p4 p5 p6 => L_box_those_3 N P_box_size P_box_cell m0 p0 p1 p2 p3 p4 p5 p6)
theorem h_box_those_3 : l_box_those_3 = fun m0 p0 p1 p2 p3 p4 p5 p6 => L_box_those_3 N P_box_size P_box_cell m0 p0 p1 p2 p3 p4 p5 p6 := hid_eq _
theorem p_box_those (a0 : D_A3) (a1 : (D_A3 × Unit) → Option (Bool × Unit)) : P_box_those (a0, a1, ()) = 
 Option.bind (P_box_size (a0, ())) fun r0 =>
 l_box_those_3 N a0.1 a0.2.1 a0.2.2.1 a1 0 r0.1 0 := by
 rewrite [h_box_those, h_box_those_3]
 exact e_box_those N P_box_size P_box_cell a0 a1
theorem q_box_those_3 (m0 : Nat) (p0 p1 p2 : Int) (p3 : (D_A3 × Unit) → Option (Bool × Unit)) (p4 p5 p6 : Int) : l_box_those_3 (m0 + 1) p0 p1 p2 p3 p4 p5 p6 = 
 bif decide (p6 < p5) then
 Option.bind (P_box_cell ((p0, (p1, (p2, ()))), p6, ())) fun r1 =>
 Option.bind (p3 (r1.1, ())) fun r2 =>
 bif r2.1 then
 bif decide ((0 : Int) ≤ p6) then
 l_box_those_3 m0 p0 p1 p2 p3 (intBits .or .u64 p4 (shlI .u64 1 p6)) p5 (IntKind.wrap .i64 (p6 + 1))
 else none
 else
 l_box_those_3 m0 p0 p1 p2 p3 p4 p5 (IntKind.wrap .i64 (p6 + 1))
 else
 some (p4, ()) := by
 rewrite [h_box_those_3]
 exact e_box_those_3 N P_box_size P_box_cell m0 p0 p1 p2 p3 p4 p5 p6

abbrev As_impl_others : List ATy := [.data false (.int .i64)]
abbrev R_impl_others : List (Bool × Ty) := [(false, (.int .i64)), (false, (.int .i64))]
abbrev M_impl_others : List RMode := []
abbrev Ft_impl_others : Type := Int × Unit → Option (Int × Int × Unit)
noncomputable def X_impl_others (n : Nat) : Ctx := { types := TT, globals := [], con := [], keep := [], results := [.tmp 2, .tmp 3], ntmps := 9, n := n }
noncomputable def B_impl_others : Code := (Tryz.f161.body).getD .skip
theorem e_impl_others (n : Nat) (a0 : Int) : runF (X_impl_others n) B_impl_others As_impl_others R_impl_others M_impl_others (a0, ()) = 
 bif decide (a0 = 0) then
 some (1, 2, ())
 else
 bif decide (a0 = 1) then
 some (0, 2, ())
 else
 some (0, 1, ()) := by kernel_rfl
noncomputable def P_impl_others : Ft_impl_others := hid (runF (X_impl_others N) B_impl_others As_impl_others R_impl_others M_impl_others)
theorem h_impl_others : P_impl_others = runF (X_impl_others N) B_impl_others As_impl_others R_impl_others M_impl_others := hid_eq _
noncomputable def C_impl_others : Contract := ⟨As_impl_others, R_impl_others, M_impl_others, P_impl_others⟩
theorem s_impl_others : Sound Tryz.prog GG 161 C_impl_others := by
 unfold C_impl_others; rw [h_impl_others]
 exact sound_of_run (fn := Tryz.f161) hmix hstable (tyOK_of ttOK) (hglob (X_impl_others N)) (conOK_of (X := X_impl_others N) trivial) (mconOK_of (X := X_impl_others N) trivial) (by kernel_rfl) (by kernel_rfl) (by kernel_rfl) (by kernel_rfl) (by kernel_rfl) (of_decide_eq_true (by kernel_rfl))
theorem p_impl_others (a0 : Int) : P_impl_others (a0, ()) = 
 bif decide (a0 = 0) then
 some (1, 2, ())
 else
 bif decide (a0 = 1) then
 some (0, 2, ())
 else
 some (0, 1, ()) := by
 rewrite [h_impl_others]
 exact e_impl_others N a0

abbrev As_box_line : List ATy := [.data true T_A3, .data true T_A3, .data false (.int .i64)]
abbrev R_box_line : List (Bool × Ty) := [(false, (.int .i64))]
abbrev M_box_line : List RMode := []
abbrev Ft_box_line : Type := D_A3 × D_A3 × Int × Unit → Option (Int × Unit)
noncomputable def X_box_line (n : Nat) (F_impl_others : Ft_impl_others) : Ctx := { types := TT, globals := [], con := [(161, ⟨As_impl_others, R_impl_others, M_impl_others, F_impl_others⟩)], keep := [], results := [.tmp 6], ntmps := 25, n := n }
noncomputable def B_box_line : Code := (Tryz.f157.body).getD .skip
theorem e_box_line (n : Nat) (F_impl_others : Ft_impl_others) (a0 a1 : D_A3) (a2 : Int) : runF (X_box_line n F_impl_others) B_box_line As_box_line R_box_line M_box_line (a0, a1, a2, ()) = 
 Option.bind (F_impl_others (a2, ())) fun r0 =>
 bif inB r0.1 3 then
 bif inB r0.2.1 3 then
 bif inB r0.2.1 3 then
 some ((IntKind.wrap .i64 ((IntKind.wrap .i64 ((bif decide (r0.1 = (0 : Int)) then a1.1 else (bif decide (r0.1 = (1 : Int)) then a1.2.1 else a1.2.2.1)) * (bif decide (r0.2.1 = (0 : Int)) then a0.1 else (bif decide (r0.2.1 = (1 : Int)) then a0.2.1 else a0.2.2.1)))) + (bif decide (r0.2.1 = (0 : Int)) then a1.1 else (bif decide (r0.2.1 = (1 : Int)) then a1.2.1 else a1.2.2.1)))), ())
 else none
 else none
 else none := by kernel_rfl
noncomputable def P_box_line : Ft_box_line := hid (runF (X_box_line N P_impl_others) B_box_line As_box_line R_box_line M_box_line)
theorem h_box_line : P_box_line = runF (X_box_line N P_impl_others) B_box_line As_box_line R_box_line M_box_line := hid_eq _
noncomputable def C_box_line : Contract := ⟨As_box_line, R_box_line, M_box_line, P_box_line⟩
theorem s_box_line : Sound Tryz.prog GG 157 C_box_line := by
 unfold C_box_line; rw [h_box_line]
 exact sound_of_run (fn := Tryz.f157) hmix hstable (tyOK_of ttOK) (hglob (X_box_line N P_impl_others)) (conOK_of (X := X_box_line N P_impl_others) ⟨s_impl_others, trivial⟩) (mconOK_of (X := X_box_line N P_impl_others) trivial) (by kernel_rfl) (by kernel_rfl) (by kernel_rfl) (by kernel_rfl) (by kernel_rfl) (of_decide_eq_true (by kernel_rfl))
theorem p_box_line (a0 a1 : D_A3) (a2 : Int) : P_box_line (a0, a1, a2, ()) = 
 Option.bind (P_impl_others (a2, ())) fun r0 =>
 bif inB r0.1 3 then
 bif inB r0.2.1 3 then
 bif inB r0.2.1 3 then
 some ((IntKind.wrap .i64 ((IntKind.wrap .i64 ((bif decide (r0.1 = (0 : Int)) then a1.1 else (bif decide (r0.1 = (1 : Int)) then a1.2.1 else a1.2.2.1)) * (bif decide (r0.2.1 = (0 : Int)) then a0.1 else (bif decide (r0.2.1 = (1 : Int)) then a0.2.1 else a0.2.2.1)))) + (bif decide (r0.2.1 = (0 : Int)) then a1.1 else (bif decide (r0.2.1 = (1 : Int)) then a1.2.1 else a1.2.2.1)))), ())
 else none
 else none
 else none := by
 rewrite [h_box_line]
 exact e_box_line N P_impl_others a0 a1 a2

abbrev As_box_stack_1 : List ATy := [.data true T_A3, .ptr (.sl (.int .i64)), .ptr T_A3]
abbrev R_box_stack_1 : List (Bool × Ty) := [(false, .bool)]
abbrev M_box_stack_1 : List RMode := []
abbrev Ft_box_stack_1 : Type := D_A3 × (List Int) × D_A3 × Unit → Option (Bool × Unit)
noncomputable def X_box_stack_1 (n : Nat) (F_box_line : Ft_box_line) : Ctx := { types := TT, globals := [], con := [(157, ⟨As_box_line, R_box_line, M_box_line, F_box_line⟩)], keep := [], results := [.tmp 4], ntmps := 14, n := n }
noncomputable def B_box_stack_1 : Code := (Tryz.f156.body).getD .skip
theorem e_box_stack_1 (n : Nat) (F_box_line : Ft_box_line) (a0 : D_A3) (a1 : List Int) (a2 : D_A3) : runF (X_box_stack_1 n F_box_line) B_box_stack_1 As_box_stack_1 R_box_stack_1 M_box_stack_1 (a0, a1, a2, ()) = 
 Option.bind (F_box_line (a2, a0, 2, ())) fun r0 =>
 bif inB r0.1 (List.length a1) then
 some (decide (a0.2.2.1 < (nth ((.int .i64) : Ty) a1 r0.1)), ())
 else none := by kernel_rfl
noncomputable def P_box_stack_1 : Ft_box_stack_1 := hid (runF (X_box_stack_1 N P_box_line) B_box_stack_1 As_box_stack_1 R_box_stack_1 M_box_stack_1)
theorem h_box_stack_1 : P_box_stack_1 = runF (X_box_stack_1 N P_box_line) B_box_stack_1 As_box_stack_1 R_box_stack_1 M_box_stack_1 := hid_eq _
noncomputable def C_box_stack_1 : Contract := ⟨As_box_stack_1, R_box_stack_1, M_box_stack_1, P_box_stack_1⟩
theorem s_box_stack_1 : Sound Tryz.prog GG 156 C_box_stack_1 := by
 unfold C_box_stack_1; rw [h_box_stack_1]
 exact sound_of_run (fn := Tryz.f156) hmix hstable (tyOK_of ttOK) (hglob (X_box_stack_1 N P_box_line)) (conOK_of (X := X_box_stack_1 N P_box_line) ⟨s_box_line, trivial⟩) (mconOK_of (X := X_box_stack_1 N P_box_line) trivial) (by kernel_rfl) (by kernel_rfl) (by kernel_rfl) (by kernel_rfl) (by kernel_rfl) (of_decide_eq_true (by kernel_rfl))
theorem p_box_stack_1 (a0 : D_A3) (a1 : List Int) (a2 : D_A3) : P_box_stack_1 (a0, a1, a2, ()) = 
 Option.bind (P_box_line (a2, a0, 2, ())) fun r0 =>
 bif inB r0.1 (List.length a1) then
 some (decide (a0.2.2.1 < (nth ((.int .i64) : Ty) a1 r0.1)), ())
 else none := by
 rewrite [h_box_stack_1]
 exact e_box_stack_1 N P_box_line a0 a1 a2

abbrev As_box_stack : List ATy := [.data true T_A3, .data false (.sl (.int .i64))]
abbrev R_box_stack : List (Bool × Ty) := [(false, (.int .u64))]
abbrev M_box_stack : List RMode := []
abbrev Ft_box_stack : Type := D_A3 × (List Int) × Unit → Option (Int × Unit)
noncomputable def X_box_stack (n : Nat) (F_box_those : Ft_box_those) (F_box_stack_1 : Ft_box_stack_1) : Ctx := { types := TT, globals := [], con := [(105, ⟨As_box_those, R_box_those, M_box_those, F_box_those⟩), (156, ⟨As_box_stack_1, R_box_stack_1, M_box_stack_1, F_box_stack_1⟩)], keep := [], results := [.tmp 4], ntmps := 8, n := n }
noncomputable def B_box_stack : Code := (Tryz.f148.body).getD .skip
theorem e_box_stack (n : Nat) (F_box_those : Ft_box_those) (F_box_stack_1 : Ft_box_stack_1) (a0 : D_A3) (a1 : List Int) : runF (X_box_stack n F_box_those F_box_stack_1) B_box_stack As_box_stack R_box_stack M_box_stack (a0, a1, ()) = 
 Option.bind (F_box_those (a0, (fun (y : D_A3 × Unit) => F_box_stack_1 (y.1, a1, a0, ())), ())) fun r0 =>
 some (r0.1, ()) := by kernel_rfl
noncomputable def P_box_stack : Ft_box_stack := hid (runF (X_box_stack N P_box_those P_box_stack_1) B_box_stack As_box_stack R_box_stack M_box_stack)
theorem h_box_stack : P_box_stack = runF (X_box_stack N P_box_those P_box_stack_1) B_box_stack As_box_stack R_box_stack M_box_stack := hid_eq _
noncomputable def C_box_stack : Contract := ⟨As_box_stack, R_box_stack, M_box_stack, P_box_stack⟩
theorem s_box_stack : Sound Tryz.prog GG 148 C_box_stack := by
 unfold C_box_stack; rw [h_box_stack]
 exact sound_of_run (fn := Tryz.f148) hmix hstable (tyOK_of ttOK) (hglob (X_box_stack N P_box_those P_box_stack_1)) (conOK_of (X := X_box_stack N P_box_those P_box_stack_1) ⟨s_box_those, s_box_stack_1, trivial⟩) (mconOK_of (X := X_box_stack N P_box_those P_box_stack_1) trivial) (by kernel_rfl) (by kernel_rfl) (by kernel_rfl) (by kernel_rfl) (by kernel_rfl) (of_decide_eq_true (by kernel_rfl))
theorem p_box_stack (a0 : D_A3) (a1 : List Int) : P_box_stack (a0, a1, ()) = 
 Option.bind (P_box_those (a0, (fun (y : D_A3 × Unit) => P_box_stack_1 (y.1, a1, a0, ())), ())) fun r0 =>
 some (r0.1, ()) := by
 rewrite [h_box_stack]
 exact e_box_stack N P_box_those P_box_stack_1 a0 a1

abbrev As_box_lines : List ATy := [.data true T_A3, .data false (.int .i64)]
abbrev R_box_lines : List (Bool × Ty) := [(false, (.int .i64))]
abbrev M_box_lines : List RMode := []
abbrev Ft_box_lines : Type := D_A3 × Int × Unit → Option (Int × Unit)
noncomputable def X_box_lines (n : Nat) (F_box_size : Ft_box_size) : Ctx := { types := TT, globals := [], con := [(127, ⟨As_box_size, R_box_size, M_box_size, F_box_size⟩)], keep := [], results := [.tmp 4], ntmps := 11, n := n }
noncomputable def B_box_lines : Code := (Tryz.f158.body).getD .skip
theorem e_box_lines (n : Nat) (F_box_size : Ft_box_size) (a0 : D_A3) (a1 : Int) : runF (X_box_lines n F_box_size) B_box_lines As_box_lines R_box_lines M_box_lines (a0, a1, ()) = 
 Option.bind (F_box_size (a0, ())) fun r0 =>
 bif inB a1 3 then
 bif !decide ((bif decide (a1 = (0 : Int)) then a0.1 else (bif decide (a1 = (1 : Int)) then a0.2.1 else a0.2.2.1)) = 0) then
 some ((IntKind.wrap .i64 (Int.tdiv r0.1 (bif decide (a1 = (0 : Int)) then a0.1 else (bif decide (a1 = (1 : Int)) then a0.2.1 else a0.2.2.1)))), ())
 else none
 else none := by kernel_rfl
noncomputable def P_box_lines : Ft_box_lines := hid (runF (X_box_lines N P_box_size) B_box_lines As_box_lines R_box_lines M_box_lines)
theorem h_box_lines : P_box_lines = runF (X_box_lines N P_box_size) B_box_lines As_box_lines R_box_lines M_box_lines := hid_eq _
noncomputable def C_box_lines : Contract := ⟨As_box_lines, R_box_lines, M_box_lines, P_box_lines⟩
theorem s_box_lines : Sound Tryz.prog GG 158 C_box_lines := by
 unfold C_box_lines; rw [h_box_lines]
 exact sound_of_run (fn := Tryz.f158) hmix hstable (tyOK_of ttOK) (hglob (X_box_lines N P_box_size)) (conOK_of (X := X_box_lines N P_box_size) ⟨s_box_size, trivial⟩) (mconOK_of (X := X_box_lines N P_box_size) trivial) (by kernel_rfl) (by kernel_rfl) (by kernel_rfl) (by kernel_rfl) (by kernel_rfl) (of_decide_eq_true (by kernel_rfl))
theorem p_box_lines (a0 : D_A3) (a1 : Int) : P_box_lines (a0, a1, ()) = 
 Option.bind (P_box_size (a0, ())) fun r0 =>
 bif inB a1 3 then
 bif !decide ((bif decide (a1 = (0 : Int)) then a0.1 else (bif decide (a1 = (1 : Int)) then a0.2.1 else a0.2.2.1)) = 0) then
 some ((IntKind.wrap .i64 (Int.tdiv r0.1 (bif decide (a1 = (0 : Int)) then a0.1 else (bif decide (a1 = (1 : Int)) then a0.2.1 else a0.2.2.1)))), ())
 else none
 else none := by
 rewrite [h_box_lines]
 exact e_box_lines N P_box_size a0 a1

abbrev As_box_view : List ATy := [.data true T_A3, .data false (.int .u64), .data false (.int .i64)]
abbrev R_box_view : List (Bool × Ty) := [(false, (.sl (.int .i64)))]
abbrev M_box_view : List RMode := [.own 3]
abbrev Ft_box_view : Type := D_A3 × Int × Int × Unit → Option ((List Int) × Unit)
noncomputable def X_box_view (n : Nat) (F_box_list : Ft_box_list) (F_box_line : Ft_box_line) (F_box_lines : Ft_box_lines) : Ctx := { types := TT, globals := [], con := [(104, ⟨As_box_list, R_box_list, M_box_list, F_box_list⟩), (157, ⟨As_box_line, R_box_line, M_box_line, F_box_line⟩), (158, ⟨As_box_lines, R_box_lines, M_box_lines, F_box_lines⟩)], keep := [(3, ⟨[.box 3, .tmp 2, .tmp 3, .tmp 7, .tmp 16, .tmp 17, .tmp 18], []⟩)], results := [.tmp 6], ntmps := 33, n := n }
noncomputable def B_box_view : Code := (Tryz.f149.body).getD .skip
noncomputable def L_box_view_3 (n : Nat) (F_box_list : Ft_box_list) (F_box_line : Ft_box_line) (F_box_lines : Ft_box_lines) (m0 : Nat) (p0 p1 : Int) (p2 p3 : Int) (p4 : List Int) (p5 : List D_A3) (p6 p7 : Int) : Option (denL R_box_view) := loopF (X_box_view n F_box_list F_box_line F_box_lines) B_box_view R_box_view M_box_view 3 [m0] [(.ver, .num 1), (.box 3, .box 0 false [.int .i64 p0, .int .i64 p1, .int .i64 p2]), (.tmp 2, .val false [.int .i64 p3]), (.tmp 3, .val false [.addr 3 0 0]), (.tmp 7, .val false [.own 3 (.int .i64) 0 p4]), (.tmp 16, .val false [.own 38 T_A3 0 p5]), (.tmp 17, .val false [.int .i64 p6]), (.tmp 18, .val false [.int .i64 p7])]
theorem e_box_view (n : Nat) (F_box_list : Ft_box_list) (F_box_line : Ft_box_line) (F_box_lines : Ft_box_lines) (a0 : D_A3) (a1 a2 : Int) : runF (X_box_view n F_box_list F_box_line F_box_lines) B_box_view As_box_view R_box_view M_box_view (a0, a1, a2, ()) = 
 Option.bind (F_box_lines (a0, a2, ())) fun r0 =>
 bif (decide ((0 : Int) ≤ r0.1) && decide ((r0.1 : Int) ≤ r0.1) && decide ((r0.1 : Int) * (8 : Nat) ≤ 140737488355328) && decide ((r0.1 : Int) ≤ 140737488355328)) then
 Option.bind (F_box_list (a0, a1, ())) fun r2 =>
 L_box_view_3 n F_box_list F_box_line F_box_lines n a0.1 a0.2.1 a0.2.2.1 a2 (List.replicate (Int.toNat r0.1) (Ty.dflt ((.int .i64) : Ty))) r2.1 (List.length r2.1 : Int) 0
 else none := by kernel_rfl
theorem e_box_view_3 (n : Nat) (F_box_list : Ft_box_list) (F_box_line : Ft_box_line) (F_box_lines : Ft_box_lines) (m0 : Nat) (p0 p1 : Int) (p2 p3 : Int) (p4 : List Int) (p5 : List D_A3) (p6 p7 : Int) : L_box_view_3 n F_box_list F_box_line F_box_lines (m0 + 1) p0 p1 p2 p3 p4 p5 p6 p7 = 
 bif decide (p7 < p6) then
 bif inB p7 (List.length p5) then
 Option.bind (F_box_line ((p0, (p1, (p2, ()))), (nth T_A3 p5 p7), p3, ())) fun r2 =>
 bif inB r2.1 (List.length p4) then
 bif inB r2.1 (List.length p4) then
 L_box_view_3 n F_box_list F_box_line F_box_lines m0 p0 p1 p2 p3 (List.set p4 (Int.toNat r2.1) (IntKind.wrap .i64 ((nth ((.int .i64) : Ty) p4 r2.1) + 1))) p5 p6 (IntKind.wrap .i64 (p7 + 1))
 else none
 else none
 else none
 else
 some (p4, ()) := by kernel_rfl
noncomputable def P_box_view : Ft_box_view := hid (runF (X_box_view N P_box_list P_box_line P_box_lines) B_box_view As_box_view R_box_view M_box_view)
theorem h_box_view : P_box_view = runF (X_box_view N P_box_list P_box_line P_box_lines) B_box_view As_box_view R_box_view M_box_view := hid_eq _
noncomputable def C_box_view : Contract := ⟨As_box_view, R_box_view, M_box_view, P_box_view⟩
theorem s_box_view : Sound Tryz.prog GG 149 C_box_view := by
 unfold C_box_view; rw [h_box_view]
 exact sound_of_run (fn := Tryz.f149) hmix hstable (tyOK_of ttOK) (hglob (X_box_view N P_box_list P_box_line P_box_lines)) (conOK_of (X := X_box_view N P_box_list P_box_line P_box_lines) ⟨s_box_list, s_box_line, s_box_lines, trivial⟩) (mconOK_of (X := X_box_view N P_box_list P_box_line P_box_lines) trivial) (by kernel_rfl) (by kernel_rfl) (by kernel_rfl) (by kernel_rfl) (by kernel_rfl) (of_decide_eq_true (by kernel_rfl))
noncomputable def l_box_view_3 : Nat → Int → Int → Int → Int → (List Int) → (List D_A3) → Int → Int → Option (denL R_box_view) := hid (fun m0 p0 p1 p2 p3 p4 p5 p6 p7 => L_box_view_3 N P_box_list P_box_line P_box_lines m0 p0 p1 p2 p3 p4 p5 p6 p7)
theorem h_box_view_3 : l_box_view_3 = fun m0 p0 p1 p2 p3 p4 p5 p6 p7 => L_box_view_3 N P_box_list P_box_line P_box_lines m0 p0 p1 p2 p3 p4 p5 p6 p7 := hid_eq _
theorem p_box_view (a0 : D_A3) (a1 a2 : Int) : P_box_view (a0, a1, a2, ()) = 
 Option.bind (P_box_lines (a0, a2, ())) fun r0 =>
 bif (decide ((0 : Int) ≤ r0.1) && decide ((r0.1 : Int) ≤ r0.1) && decide ((r0.1 : Int) * (8 : Nat) ≤ 140737488355328) && decide ((r0.1 : Int) ≤ 140737488355328)) then
 Option.bind (P_box_list (a0, a1, ())) fun r2 =>
 l_box_view_3 N a0.1 a0.2.1 a0.2.2.1 a2 (List.replicate (Int.toNat r0.1) (Ty.dflt ((.int .i64) : Ty))) r2.1 (List.length r2.1 : Int) 0
 else none := by
 rewrite [h_box_view, h_box_view_3]
 exact e_box_view N P_box_list P_box_line P_box_lines a0 a1 a2
theorem q_box_view_3 (m0 : Nat) (p0 p1 : Int) (p2 p3 : Int) (p4 : List Int) (p5 : List D_A3) (p6 p7 : Int) : l_box_view_3 (m0 + 1) p0 p1 p2 p3 p4 p5 p6 p7 = 
 bif decide (p7 < p6) then
 bif inB p7 (List.length p5) then
 Option.bind (P_box_line ((p0, (p1, (p2, ()))), (nth T_A3 p5 p7), p3, ())) fun r2 =>
 bif inB r2.1 (List.length p4) then
 bif inB r2.1 (List.length p4) then
 l_box_view_3 m0 p0 p1 p2 p3 (List.set p4 (Int.toNat r2.1) (IntKind.wrap .i64 ((nth ((.int .i64) : Ty) p4 r2.1) + 1))) p5 p6 (IntKind.wrap .i64 (p7 + 1))
 else none
 else none
 else none
 else
 some (p4, ()) := by
 rewrite [h_box_view_3]
 exact e_box_view_3 N P_box_list P_box_line P_box_lines m0 p0 p1 p2 p3 p4 p5 p6 p7

abbrev As_Heap_dropped : List ATy := [.data true T_Heap]
abbrev R_Heap_dropped : List (Bool × Ty) := [(false, (.int .u64))]
abbrev M_Heap_dropped : List RMode := []
abbrev Ft_Heap_dropped : Type := D_Heap × Unit → Option (Int × Unit)
noncomputable def X_Heap_dropped (n : Nat) (F_Heap_box : Ft_Heap_box) (F_Heap_cubes : Ft_Heap_cubes) (F_box_stack : Ft_box_stack) (F_box_view : Ft_box_view) : Ctx := { types := TT, globals := [], con := [(50, ⟨As_Heap_box, R_Heap_box, M_Heap_box, F_Heap_box⟩), (70, ⟨As_Heap_cubes, R_Heap_cubes, M_Heap_cubes, F_Heap_cubes⟩), (148, ⟨As_box_stack, R_box_stack, M_box_stack, F_box_stack⟩), (149, ⟨As_box_view, R_box_view, M_box_view, F_box_view⟩)], keep := [], results := [.tmp 2], ntmps := 11, n := n }
noncomputable def B_Heap_dropped : Code := (Tryz.f133.body).getD .skip
theorem e_Heap_dropped (n : Nat) (F_Heap_box : Ft_Heap_box) (F_Heap_cubes : Ft_Heap_cubes) (F_box_stack : Ft_box_stack) (F_box_view : Ft_box_view) (a0 : D_Heap) : runF (X_Heap_dropped n F_Heap_box F_Heap_cubes F_box_stack F_box_view) B_Heap_dropped As_Heap_dropped R_Heap_dropped M_Heap_dropped (a0, ()) = 
 Option.bind (F_Heap_box (a0, ())) fun r0 =>
 Option.bind (F_Heap_box (a0, ())) fun r1 =>
 Option.bind (F_Heap_cubes (a0, ())) fun r2 =>
 Option.bind (F_box_view (r1.1, r2.1, 2, ())) fun r3 =>
 Option.bind (F_box_stack (r0.1, r3.1, ())) fun r4 =>
 some (r4.1, ()) := by kernel_rfl
noncomputable def P_Heap_dropped : Ft_Heap_dropped := hid (runF (X_Heap_dropped N P_Heap_box P_Heap_cubes P_box_stack P_box_view) B_Heap_dropped As_Heap_dropped R_Heap_dropped M_Heap_dropped)
theorem h_Heap_dropped : P_Heap_dropped = runF (X_Heap_dropped N P_Heap_box P_Heap_cubes P_box_stack P_box_view) B_Heap_dropped As_Heap_dropped R_Heap_dropped M_Heap_dropped := hid_eq _
noncomputable def C_Heap_dropped : Contract := ⟨As_Heap_dropped, R_Heap_dropped, M_Heap_dropped, P_Heap_dropped⟩
theorem s_Heap_dropped : Sound Tryz.prog GG 133 C_Heap_dropped := by
 unfold C_Heap_dropped; rw [h_Heap_dropped]
 exact sound_of_run (fn := Tryz.f133) hmix hstable (tyOK_of ttOK) (hglob (X_Heap_dropped N P_Heap_box P_Heap_cubes P_box_stack P_box_view)) (conOK_of (X := X_Heap_dropped N P_Heap_box P_Heap_cubes P_box_stack P_box_view) ⟨s_Heap_box, s_Heap_cubes, s_box_stack, s_box_view, trivial⟩) (mconOK_of (X := X_Heap_dropped N P_Heap_box P_Heap_cubes P_box_stack P_box_view) trivial) (by kernel_rfl) (by kernel_rfl) (by kernel_rfl) (by kernel_rfl) (by kernel_rfl) (of_decide_eq_true (by kernel_rfl))
theorem p_Heap_dropped (a0 : D_Heap) : P_Heap_dropped (a0, ()) = 
 Option.bind (P_Heap_box (a0, ())) fun r0 =>
 Option.bind (P_Heap_box (a0, ())) fun r1 =>
 Option.bind (P_Heap_cubes (a0, ())) fun r2 =>
 Option.bind (P_box_view (r1.1, r2.1, 2, ())) fun r3 =>
 Option.bind (P_box_stack (r0.1, r3.1, ())) fun r4 =>
 some (r4.1, ()) := by
 rewrite [h_Heap_dropped]
 exact e_Heap_dropped N P_Heap_box P_Heap_cubes P_box_stack P_box_view a0

abbrev As_impl_DropHeap : List ATy := [.data true T_Heap]
abbrev R_impl_DropHeap : List (Bool × Ty) := [(true, T_Heap), (false, .bool)]
abbrev M_impl_DropHeap : List RMode := [.own 38]
abbrev Ft_impl_DropHeap : Type := D_Heap × Unit → Option (D_Heap × Bool × Unit)
noncomputable def X_impl_DropHeap (n : Nat) (F_impl_IsHeap : Ft_impl_IsHeap) (F_Heap_box : Ft_Heap_box) (F_box_heap : Ft_box_heap) (F_Heap_dropped : Ft_Heap_dropped) : Ctx := { types := TT, globals := [], con := [(9, ⟨As_impl_IsHeap, R_impl_IsHeap, M_impl_IsHeap, F_impl_IsHeap⟩), (50, ⟨As_Heap_box, R_Heap_box, M_Heap_box, F_Heap_box⟩), (69, ⟨As_box_heap, R_box_heap, M_box_heap, F_box_heap⟩), (133, ⟨As_Heap_dropped, R_Heap_dropped, M_Heap_dropped, F_Heap_dropped⟩)], keep := [], results := [.cell 2 26, .tmp 3], ntmps := 13, n := n }
noncomputable def B_impl_DropHeap : Code := (Tryz.f115.body).getD .skip
theorem e_impl_DropHeap (n : Nat) (F_impl_IsHeap : Ft_impl_IsHeap) (F_Heap_box : Ft_Heap_box) (F_box_heap : Ft_box_heap) (F_Heap_dropped : Ft_Heap_dropped) (a0 : D_Heap) : runF (X_impl_DropHeap n F_impl_IsHeap F_Heap_box F_box_heap F_Heap_dropped) B_impl_DropHeap As_impl_DropHeap R_impl_DropHeap M_impl_DropHeap (a0, ()) = 
 Option.bind (F_impl_IsHeap (a0, ())) fun r0 =>
 bif !r0.1 then
 some ((0, (0, (0, (([] : List D_A3), ())))), false, ())
 else
 Option.bind (F_Heap_box (a0, ())) fun r2 =>
 Option.bind (F_Heap_dropped (a0, ())) fun r3 =>
 Option.bind (F_box_heap (r2.1, r3.1, ())) fun r4 =>
 some (r4.1, true, ()) := by kernel_rfl
noncomputable def P_impl_DropHeap : Ft_impl_DropHeap := hid (runF (X_impl_DropHeap N P_impl_IsHeap P_Heap_box P_box_heap P_Heap_dropped) B_impl_DropHeap As_impl_DropHeap R_impl_DropHeap M_impl_DropHeap)
theorem h_impl_DropHeap : P_impl_DropHeap = runF (X_impl_DropHeap N P_impl_IsHeap P_Heap_box P_box_heap P_Heap_dropped) B_impl_DropHeap As_impl_DropHeap R_impl_DropHeap M_impl_DropHeap := hid_eq _
noncomputable def C_impl_DropHeap : Contract := ⟨As_impl_DropHeap, R_impl_DropHeap, M_impl_DropHeap, P_impl_DropHeap⟩
theorem s_impl_DropHeap : Sound Tryz.prog GG 115 C_impl_DropHeap := by
 unfold C_impl_DropHeap; rw [h_impl_DropHeap]
 exact sound_of_run (fn := Tryz.f115) hmix hstable (tyOK_of ttOK) (hglob (X_impl_DropHeap N P_impl_IsHeap P_Heap_box P_box_heap P_Heap_dropped)) (conOK_of (X := X_impl_DropHeap N P_impl_IsHeap P_Heap_box P_box_heap P_Heap_dropped) ⟨s_impl_IsHeap, s_Heap_box, s_box_heap, s_Heap_dropped, trivial⟩) (mconOK_of (X := X_impl_DropHeap N P_impl_IsHeap P_Heap_box P_box_heap P_Heap_dropped) trivial) (by kernel_rfl) (by kernel_rfl) (by kernel_rfl) (by kernel_rfl) (by kernel_rfl) (of_decide_eq_true (by kernel_rfl))
theorem p_impl_DropHeap (a0 : D_Heap) : P_impl_DropHeap (a0, ()) = 
 Option.bind (P_impl_IsHeap (a0, ())) fun r0 =>
 bif !r0.1 then
 some ((0, (0, (0, (([] : List D_A3), ())))), false, ())
 else
 Option.bind (P_Heap_box (a0, ())) fun r2 =>
 Option.bind (P_Heap_dropped (a0, ())) fun r3 =>
 Option.bind (P_box_heap (r2.1, r3.1, ())) fun r4 =>
 some (r4.1, true, ()) := by
 rewrite [h_impl_DropHeap]
 exact e_impl_DropHeap N P_impl_IsHeap P_Heap_box P_box_heap P_Heap_dropped a0

abbrev As_box_near : List ATy := [.data true T_A3, .data true T_A3]
abbrev R_box_near : List (Bool × Ty) := [(false, (.int .u64))]
abbrev M_box_near : List RMode := []
abbrev Ft_box_near : Type := D_A3 × D_A3 × Unit → Option (Int × Unit)
noncomputable def X_box_near (n : Nat) (F_box_has : Ft_box_has) (F_box_index : Ft_box_index) : Ctx := { types := TT, globals := [], con := [(52, ⟨As_box_has, R_box_has, M_box_has, F_box_has⟩), (76, ⟨As_box_index, R_box_index, M_box_index, F_box_index⟩)], keep := [(3, ⟨[.box 2, .box 3, .tmp 2, .tmp 3, .tmp 5, .tmp 10], []⟩), (6, ⟨[.box 2, .box 3, .tmp 2, .tmp 3, .tmp 5, .tmp 6, .tmp 10, .tmp 13, .tmp 14], []⟩)], results := [.tmp 4], ntmps := 36, n := n }
noncomputable def B_box_near : Code := (Tryz.f107.body).getD .skip
noncomputable def L_box_near_3 (n : Nat) (F_box_has : Ft_box_has) (F_box_index : Ft_box_index) (m0 : Nat) (p0 p1 : Int) (p2 p3 : Int) (p4 p5 : Int) (p6 p7 : Int) : Option (denL R_box_near) := loopF (X_box_near n F_box_has F_box_index) B_box_near R_box_near M_box_near 3 [m0] [(.ver, .num 1), (.box 2, .box 0 false [.int .i64 p0, .int .i64 p1, .int .i64 p2]), (.box 3, .box 0 false [.int .i64 p3, .int .i64 p4, .int .i64 p5]), (.tmp 2, .val false [.addr 2 0 0]), (.tmp 3, .val false [.addr 3 0 0]), (.tmp 5, .val false [.int .u64 p6]), (.tmp 10, .val false [.int .i64 p7])]
noncomputable def L_box_near_6 (n : Nat) (F_box_has : Ft_box_has) (F_box_index : Ft_box_index) (m0 m1 : Nat) (p0 p1 : Int) (p2 p3 : Int) (p4 p5 : Int) (p6 p7 : Int) (p8 p9 : Int) (p10 p11 : Int) : Option (denL R_box_near) := loopF (X_box_near n F_box_has F_box_index) B_box_near R_box_near M_box_near 6 [m0, m1] [(.ver, .num 1), (.box 2, .box 0 false [.int .i64 p0, .int .i64 p1, .int .i64 p2]), (.box 3, .box 0 false [.int .i64 p3, .int .i64 p4, .int .i64 p5]), (.tmp 2, .val false [.addr 2 0 0]), (.tmp 3, .val false [.addr 3 0 0]), (.tmp 5, .val false [.int .u64 p6]), (.tmp 6, .val false [.int .i64 p7]), (.tmp 10, .val false [.int .i64 p8]), (.tmp 13, .val true [.int .i64 p9, .int .i64 p10]), (.tmp 14, .val false [.int .i64 p11])]
theorem e_box_near (n : Nat) (F_box_has : Ft_box_has) (F_box_index : Ft_box_index) (a0 a1 : D_A3) : runF (X_box_near n F_box_has F_box_index) B_box_near As_box_near R_box_near M_box_near (a0, a1, ()) = 
 L_box_near_3 n F_box_has F_box_index n a0.1 a0.2.1 a0.2.2.1 a1.1 a1.2.1 a1.2.2.1 0 0 := by kernel_rfl
theorem e_box_near_3 (n : Nat) (F_box_has : Ft_box_has) (F_box_index : Ft_box_index) (m0 : Nat) (p0 p1 : Int) (p2 p3 : Int) (p4 p5 : Int) (p6 p7 : Int) : L_box_near_3 n F_box_has F_box_index (m0 + 1) p0 p1 p2 p3 p4 p5 p6 p7 = 
 bif decide (p7 < 3) then
 L_box_near_6 n F_box_has F_box_index m0 n p0 p1 p2 p3 p4 p5 p6 p7 p7 (-1) 1 0
 else
 some (p6, ()) := by kernel_rfl
theorem e_box_near_6 (n : Nat) (F_box_has : Ft_box_has) (F_box_index : Ft_box_index) (m0 m1 : Nat) (p0 p1 : Int) (p2 p3 : Int) (p4 p5 : Int) (p6 p7 : Int) (p8 p9 : Int) (p10 p11 : Int) : L_box_near_6 n F_box_has F_box_index m0 (m1 + 1) p0 p1 p2 p3 p4 p5 p6 p7 p8 p9 p10 p11 = 
 bif decide (p11 < 2) then
 bif inB p11 2 then
 bif inB p7 3 then
 bif inB p7 3 then
 Option.bind (F_box_has ((p0, (p1, (p2, ()))), ((bif decide (p7 = (0 : Int)) then (IntKind.wrap .i64 ((bif decide (p7 = (0 : Int)) then p3 else (bif decide (p7 = (1 : Int)) then p4 else p5)) + (bif decide (p11 = (0 : Int)) then p9 else p10))) else p3), ((bif decide (p7 = (1 : Int)) then (IntKind.wrap .i64 ((bif decide (p7 = (0 : Int)) then p3 else (bif decide (p7 = (1 : Int)) then p4 else p5)) + (bif decide (p11 = (0 : Int)) then p9 else p10))) else p4), ((bif decide (p7 = (2 : Int)) then (IntKind.wrap .i64 ((bif decide (p7 = (0 : Int)) then p3 else (bif decide (p7 = (1 : Int)) then p4 else p5)) + (bif decide (p11 = (0 : Int)) then p9 else p10))) else p5), ()))), ())) fun r4 =>
 bif r4.1 then
 Option.bind (F_box_index ((p0, (p1, (p2, ()))), ((bif decide (p7 = (0 : Int)) then (IntKind.wrap .i64 ((bif decide (p7 = (0 : Int)) then p3 else (bif decide (p7 = (1 : Int)) then p4 else p5)) + (bif decide (p11 = (0 : Int)) then p9 else p10))) else p3), ((bif decide (p7 = (1 : Int)) then (IntKind.wrap .i64 ((bif decide (p7 = (0 : Int)) then p3 else (bif decide (p7 = (1 : Int)) then p4 else p5)) + (bif decide (p11 = (0 : Int)) then p9 else p10))) else p4), ((bif decide (p7 = (2 : Int)) then (IntKind.wrap .i64 ((bif decide (p7 = (0 : Int)) then p3 else (bif decide (p7 = (1 : Int)) then p4 else p5)) + (bif decide (p11 = (0 : Int)) then p9 else p10))) else p5), ()))), ())) fun r6 =>
 bif decide ((0 : Int) ≤ r6.1) then
 L_box_near_6 n F_box_has F_box_index m0 m1 p0 p1 p2 p3 p4 p5 (intBits .or .u64 p6 (shlI .u64 1 r6.1)) p7 p8 p9 p10 (IntKind.wrap .i64 (p11 + 1))
 else none
 else
 L_box_near_6 n F_box_has F_box_index m0 m1 p0 p1 p2 p3 p4 p5 p6 p7 p8 p9 p10 (IntKind.wrap .i64 (p11 + 1))
 else none
 else none
 else none
 else
 L_box_near_3 n F_box_has F_box_index m0 p0 p1 p2 p3 p4 p5 p6 (IntKind.wrap .i64 (p8 + 1)) := by kernel_rfl
noncomputable def P_box_near : Ft_box_near := hid (runF (X_box_near N P_box_has P_box_index) B_box_near As_box_near R_box_near M_box_near)
theorem h_box_near : P_box_near = runF (X_box_near N P_box_has P_box_index) B_box_near As_box_near R_box_near M_box_near := hid_eq _
noncomputable def C_box_near : Contract := ⟨As_box_near, R_box_near, M_box_near, P_box_near⟩
theorem s_box_near : Sound Tryz.prog GG 107 C_box_near := by
 unfold C_box_near; rw [h_box_near]
 exact sound_of_run (fn := Tryz.f107) hmix hstable (tyOK_of ttOK) (hglob (X_box_near N P_box_has P_box_index)) (conOK_of (X := X_box_near N P_box_has P_box_index) ⟨s_box_has, s_box_index, trivial⟩) (mconOK_of (X := X_box_near N P_box_has P_box_index) trivial) (by kernel_rfl) (by kernel_rfl) (by kernel_rfl) (by kernel_rfl) (by kernel_rfl) (of_decide_eq_true (by kernel_rfl))
noncomputable def l_box_near_3 : Nat → Int → Int → Int → Int → Int → Int → Int → Int → Option (denL R_box_near) := hid (fun m0 p0 p1 p2 p3 p4 p5 p6 p7 => L_box_near_3 N P_box_has P_box_index m0 p0 p1 p2 p3 p4 p5 p6 p7)
theorem h_box_near_3 : l_box_near_3 = fun m0 p0 p1 p2 p3 p4 p5 p6 p7 => L_box_near_3 N P_box_has P_box_index m0 p0 p1 p2 p3 p4 p5 p6 p7 := hid_eq _
noncomputable def l_box_near_6 : Nat → Nat → Int → Int → Int → Int → Int → Int → Int → Int → Int → Int → Int → Int → Option (denL R_box_near) := hid (fun m0 m1 p0 p1 p2 p3 p4 p5 p6 p7 p8 p9 p10 p11 => L_box_near_6 N P_box_has P_box_index m0 m1 p0 p1 p2 p3 p4 p5 p6 p7 p8 p9 p10 p11)
theorem h_box_near_6 : l_box_near_6 = fun m0 m1 p0 p1 p2 p3 p4 p5 p6 p7 p8 p9 p10 p11 => L_box_near_6 N P_box_has P_box_index m0 m1 p0 p1 p2 p3 p4 p5 p6 p7 p8 p9 p10 p11 := hid_eq _
theorem p_box_near (a0 a1 : D_A3) : P_box_near (a0, a1, ()) = 
 l_box_near_3 N a0.1 a0.2.1 a0.2.2.1 a1.1 a1.2.1 a1.2.2.1 0 0 := by
 rewrite [h_box_near, h_box_near_3]
 exact e_box_near N P_box_has P_box_index a0 a1
theorem q_box_near_3 (m0 : Nat) (p0 p1 : Int) (p2 p3 : Int) (p4 p5 : Int) (p6 p7 : Int) : l_box_near_3 (m0 + 1) p0 p1 p2 p3 p4 p5 p6 p7 = 
 bif decide (p7 < 3) then
 l_box_near_6 m0 N p0 p1 p2 p3 p4 p5 p6 p7 p7 (-1) 1 0
 else
 some (p6, ()) := by
 rewrite [h_box_near_3, h_box_near_6]
 exact e_box_near_3 N P_box_has P_box_index m0 p0 p1 p2 p3 p4 p5 p6 p7
theorem q_box_near_6 (m0 m1 : Nat) (p0 p1 : Int) (p2 p3 : Int) (p4 p5 : Int) (p6 p7 : Int) (p8 p9 : Int) (p10 p11 : Int) : l_box_near_6 m0 (m1 + 1) p0 p1 p2 p3 p4 p5 p6 p7 p8 p9 p10 p11 = 
 bif decide (p11 < 2) then
 bif inB p11 2 then
 bif inB p7 3 then
 bif inB p7 3 then
 Option.bind (P_box_has ((p0, (p1, (p2, ()))), ((bif decide (p7 = (0 : Int)) then (IntKind.wrap .i64 ((bif decide (p7 = (0 : Int)) then p3 else (bif decide (p7 = (1 : Int)) then p4 else p5)) + (bif decide (p11 = (0 : Int)) then p9 else p10))) else p3), ((bif decide (p7 = (1 : Int)) then (IntKind.wrap .i64 ((bif decide (p7 = (0 : Int)) then p3 else (bif decide (p7 = (1 : Int)) then p4 else p5)) + (bif decide (p11 = (0 : Int)) then p9 else p10))) else p4), ((bif decide (p7 = (2 : Int)) then (IntKind.wrap .i64 ((bif decide (p7 = (0 : Int)) then p3 else (bif decide (p7 = (1 : Int)) then p4 else p5)) + (bif decide (p11 = (0 : Int)) then p9 else p10))) else p5), ()))), ())) fun r4 =>
 bif r4.1 then
 Option.bind (P_box_index ((p0, (p1, (p2, ()))), ((bif decide (p7 = (0 : Int)) then (IntKind.wrap .i64 ((bif decide (p7 = (0 : Int)) then p3 else (bif decide (p7 = (1 : Int)) then p4 else p5)) + (bif decide (p11 = (0 : Int)) then p9 else p10))) else p3), ((bif decide (p7 = (1 : Int)) then (IntKind.wrap .i64 ((bif decide (p7 = (0 : Int)) then p3 else (bif decide (p7 = (1 : Int)) then p4 else p5)) + (bif decide (p11 = (0 : Int)) then p9 else p10))) else p4), ((bif decide (p7 = (2 : Int)) then (IntKind.wrap .i64 ((bif decide (p7 = (0 : Int)) then p3 else (bif decide (p7 = (1 : Int)) then p4 else p5)) + (bif decide (p11 = (0 : Int)) then p9 else p10))) else p5), ()))), ())) fun r6 =>
 bif decide ((0 : Int) ≤ r6.1) then
 l_box_near_6 m0 m1 p0 p1 p2 p3 p4 p5 (intBits .or .u64 p6 (shlI .u64 1 r6.1)) p7 p8 p9 p10 (IntKind.wrap .i64 (p11 + 1))
 else none
 else
 l_box_near_6 m0 m1 p0 p1 p2 p3 p4 p5 p6 p7 p8 p9 p10 (IntKind.wrap .i64 (p11 + 1))
 else none
 else none
 else none
 else
 l_box_near_3 m0 p0 p1 p2 p3 p4 p5 p6 (IntKind.wrap .i64 (p8 + 1)) := by
 rewrite [h_box_near_3, h_box_near_6]
 exact e_box_near_6 N P_box_has P_box_index m0 m1 p0 p1 p2 p3 p4 p5 p6 p7 p8 p9 p10 p11

abbrev As_box_grown : List ATy := [.data true T_A3, .data false (.int .u64), .data false (.int .u64)]
abbrev R_box_grown : List (Bool × Ty) := [(false, (.int .u64))]
abbrev M_box_grown : List RMode := []
abbrev Ft_box_grown : Type := D_A3 × Int × Int × Unit → Option (Int × Unit)
noncomputable def X_box_grown (n : Nat) (F_set_has : Ft_set_has) (F_box_near : Ft_box_near) (F_box_size : Ft_box_size) (F_box_cell : Ft_box_cell) : Ctx := { types := TT, globals := [], con := [(75, ⟨As_set_has, R_set_has, M_set_has, F_set_has⟩), (107, ⟨As_box_near, R_box_near, M_box_near, F_box_near⟩), (127, ⟨As_box_size, R_box_size, M_box_size, F_box_size⟩), (128, ⟨As_box_cell, R_box_cell, M_box_cell, F_box_cell⟩)], keep := [(1, ⟨[.box 3, .tmp 1, .tmp 2, .tmp 3], []⟩), (3, ⟨[.box 3, .tmp 1, .tmp 2, .tmp 3, .tmp 7, .tmp 11, .tmp 12], []⟩)], results := [.tmp 6], ntmps := 33, n := n }
noncomputable def B_box_grown : Code := (Tryz.f109.body).getD .skip
noncomputable def L_box_grown_1 (n : Nat) (F_set_has : Ft_set_has) (F_box_near : Ft_box_near) (F_box_size : Ft_box_size) (F_box_cell : Ft_box_cell) (m0 : Nat) (p0 p1 : Int) (p2 p3 p4 : Int) : Option (denL R_box_grown) := loopF (X_box_grown n F_set_has F_box_near F_box_size F_box_cell) B_box_grown R_box_grown M_box_grown 1 [m0] [(.ver, .num 1), (.box 3, .box 0 false [.int .i64 p0, .int .i64 p1, .int .i64 p2]), (.tmp 1, .val false [.int .u64 p3]), (.tmp 2, .val false [.int .u64 p4]), (.tmp 3, .val false [.addr 3 0 0])]
noncomputable def L_box_grown_3 (n : Nat) (F_set_has : Ft_set_has) (F_box_near : Ft_box_near) (F_box_size : Ft_box_size) (F_box_cell : Ft_box_cell) (m0 m1 : Nat) (p0 p1 : Int) (p2 p3 : Int) (p4 p5 : Int) (p6 p7 : Int) : Option (denL R_box_grown) := loopF (X_box_grown n F_set_has F_box_near F_box_size F_box_cell) B_box_grown R_box_grown M_box_grown 3 [m0, m1] [(.ver, .num 1), (.box 3, .box 0 false [.int .i64 p0, .int .i64 p1, .int .i64 p2]), (.tmp 1, .val false [.int .u64 p3]), (.tmp 2, .val false [.int .u64 p4]), (.tmp 3, .val false [.addr 3 0 0]), (.tmp 7, .val false [.int .u64 p5]), (.tmp 11, .val false [.int .i64 p6]), (.tmp 12, .val false [.int .i64 p7])]
theorem e_box_grown (n : Nat) (F_set_has : Ft_set_has) (F_box_near : Ft_box_near) (F_box_size : Ft_box_size) (F_box_cell : Ft_box_cell) (a0 : D_A3) (a1 a2 : Int) : runF (X_box_grown n F_set_has F_box_near F_box_size F_box_cell) B_box_grown As_box_grown R_box_grown M_box_grown (a0, a1, a2, ()) = 
 L_box_grown_1 n F_set_has F_box_near F_box_size F_box_cell n a0.1 a0.2.1 a0.2.2.1 a1 a2 := by kernel_rfl
theorem e_box_grown_1 (n : Nat) (F_set_has : Ft_set_has) (F_box_near : Ft_box_near) (F_box_size : Ft_box_size) (F_box_cell : Ft_box_cell) (m0 : Nat) (p0 p1 : Int) (p2 p3 p4 : Int) : L_box_grown_1 n F_set_has F_box_near F_box_size F_box_cell (m0 + 1) p0 p1 p2 p3 p4 = 
 Option.bind (F_box_size ((p0, (p1, (p2, ()))), ())) fun r0 =>
 L_box_grown_3 n F_set_has F_box_near F_box_size F_box_cell m0 n p0 p1 p2 p3 p4 p3 r0.1 0 := by kernel_rfl
theorem e_box_grown_3 (n : Nat) (F_set_has : Ft_set_has) (F_box_near : Ft_box_near) (F_box_size : Ft_box_size) (F_box_cell : Ft_box_cell) (m0 m1 : Nat) (p0 p1 : Int) (p2 p3 : Int) (p4 p5 : Int) (p6 p7 : Int) : L_box_grown_3 n F_set_has F_box_near F_box_size F_box_cell m0 (m1 + 1) p0 p1 p2 p3 p4 p5 p6 p7 = 
 bif decide (p7 < p6) then
 Option.bind (F_set_has (p3, p7, ())) fun r1 =>
 bif r1.1 then
 Option.bind (F_box_cell ((p0, (p1, (p2, ()))), p7, ())) fun r3 =>
 Option.bind (F_box_near ((p0, (p1, (p2, ()))), r3.1, ())) fun r4 =>
 L_box_grown_3 n F_set_has F_box_near F_box_size F_box_cell m0 m1 p0 p1 p2 p3 p4 (intBits .or .u64 p5 (intBits .and .u64 r4.1 p4)) p6 (IntKind.wrap .i64 (p7 + 1))
 else
 L_box_grown_3 n F_set_has F_box_near F_box_size F_box_cell m0 m1 p0 p1 p2 p3 p4 p5 p6 (IntKind.wrap .i64 (p7 + 1))
 else
 bif decide (p5 = p3) then
 some (p3, ())
 else
 L_box_grown_1 n F_set_has F_box_near F_box_size F_box_cell m0 p0 p1 p2 p5 p4 := by kernel_rfl
noncomputable def P_box_grown : Ft_box_grown := hid (runF (X_box_grown N P_set_has P_box_near P_box_size P_box_cell) B_box_grown As_box_grown R_box_grown M_box_grown)
theorem h_box_grown : P_box_grown = runF (X_box_grown N P_set_has P_box_near P_box_size P_box_cell) B_box_grown As_box_grown R_box_grown M_box_grown := hid_eq _
noncomputable def C_box_grown : Contract := ⟨As_box_grown, R_box_grown, M_box_grown, P_box_grown⟩
theorem s_box_grown : Sound Tryz.prog GG 109 C_box_grown := by
 unfold C_box_grown; rw [h_box_grown]
 exact sound_of_run (fn := Tryz.f109) hmix hstable (tyOK_of ttOK) (hglob (X_box_grown N P_set_has P_box_near P_box_size P_box_cell)) (conOK_of (X := X_box_grown N P_set_has P_box_near P_box_size P_box_cell) ⟨s_set_has, s_box_near, s_box_size, s_box_cell, trivial⟩) (mconOK_of (X := X_box_grown N P_set_has P_box_near P_box_size P_box_cell) trivial) (by kernel_rfl) (by kernel_rfl) (by kernel_rfl) (by kernel_rfl) (by kernel_rfl) (of_decide_eq_true (by kernel_rfl))
noncomputable def l_box_grown_1 : Nat → Int → Int → Int → Int → Int → Option (denL R_box_grown) := hid (fun m0 p0 p1 p2 p3 p4 => L_box_grown_1 N P_set_has P_box_near P_box_size P_box_cell m0 p0 p1 p2 p3 p4)
theorem h_box_grown_1 : l_box_grown_1 = fun m0 p0 p1 p2 p3 p4 => L_box_grown_1 N P_set_has P_box_near P_box_size P_box_cell m0 p0 p1 p2 p3 p4 := hid_eq _
noncomputable def l_box_grown_3 : Nat → Nat → Int → Int → Int → Int → Int → Int → Int → Int → Option (denL R_box_grown) := hid (fun m0 m1 p0 p1 p2 p3 p4 p5 p6 p7 => L_box_grown_3 N P_set_has P_box_near P_box_size P_box_cell m0 m1 p0 p1 p2 p3 p4 p5 p6 p7)
theorem h_box_grown_3 : l_box_grown_3 = fun m0 m1 p0 p1 p2 p3 p4 p5 p6 p7 => L_box_grown_3 N P_set_has P_box_near P_box_size P_box_cell m0 m1 p0 p1 p2 p3 p4 p5 p6 p7 := hid_eq _
theorem p_box_grown (a0 : D_A3) (a1 a2 : Int) : P_box_grown (a0, a1, a2, ()) = 
 l_box_grown_1 N a0.1 a0.2.1 a0.2.2.1 a1 a2 := by
 rewrite [h_box_grown, h_box_grown_1]
 exact e_box_grown N P_set_has P_box_near P_box_size P_box_cell a0 a1 a2
theorem q_box_grown_1 (m0 : Nat) (p0 p1 : Int) (p2 p3 p4 : Int) : l_box_grown_1 (m0 + 1) p0 p1 p2 p3 p4 = 
 Option.bind (P_box_size ((p0, (p1, (p2, ()))), ())) fun r0 =>
 l_box_grown_3 m0 N p0 p1 p2 p3 p4 p3 r0.1 0 := by
 rewrite [h_box_grown_1, h_box_grown_3]
 exact e_box_grown_1 N P_set_has P_box_near P_box_size P_box_cell m0 p0 p1 p2 p3 p4
theorem q_box_grown_3 (m0 m1 : Nat) (p0 p1 : Int) (p2 p3 : Int) (p4 p5 : Int) (p6 p7 : Int) : l_box_grown_3 m0 (m1 + 1) p0 p1 p2 p3 p4 p5 p6 p7 = 
 bif decide (p7 < p6) then
 Option.bind (P_set_has (p3, p7, ())) fun r1 =>
 bif r1.1 then
 Option.bind (P_box_cell ((p0, (p1, (p2, ()))), p7, ())) fun r3 =>
 Option.bind (P_box_near ((p0, (p1, (p2, ()))), r3.1, ())) fun r4 =>
 l_box_grown_3 m0 m1 p0 p1 p2 p3 p4 (intBits .or .u64 p5 (intBits .and .u64 r4.1 p4)) p6 (IntKind.wrap .i64 (p7 + 1))
 else
 l_box_grown_3 m0 m1 p0 p1 p2 p3 p4 p5 p6 (IntKind.wrap .i64 (p7 + 1))
 else
 bif decide (p5 = p3) then
 some (p3, ())
 else
 l_box_grown_1 m0 p0 p1 p2 p5 p4 := by
 rewrite [h_box_grown_1, h_box_grown_3]
 exact e_box_grown_3 N P_set_has P_box_near P_box_size P_box_cell m0 m1 p0 p1 p2 p3 p4 p5 p6 p7

abbrev As_box_floor_1 : List ATy := [.data true T_A3]
abbrev R_box_floor_1 : List (Bool × Ty) := [(false, .bool)]
abbrev M_box_floor_1 : List RMode := []
abbrev Ft_box_floor_1 : Type := D_A3 × Unit → Option (Bool × Unit)
noncomputable def X_box_floor_1 (n : Nat) : Ctx := { types := TT, globals := [], con := [], keep := [], results := [.tmp 2], ntmps := 6, n := n }
noncomputable def B_box_floor_1 : Code := (Tryz.f159.body).getD .skip
theorem e_box_floor_1 (n : Nat) (a0 : D_A3) : runF (X_box_floor_1 n) B_box_floor_1 As_box_floor_1 R_box_floor_1 M_box_floor_1 (a0, ()) = 
 some (decide (a0.2.2.1 = 0), ()) := by kernel_rfl
noncomputable def P_box_floor_1 : Ft_box_floor_1 := hid (runF (X_box_floor_1 N) B_box_floor_1 As_box_floor_1 R_box_floor_1 M_box_floor_1)
theorem h_box_floor_1 : P_box_floor_1 = runF (X_box_floor_1 N) B_box_floor_1 As_box_floor_1 R_box_floor_1 M_box_floor_1 := hid_eq _
noncomputable def C_box_floor_1 : Contract := ⟨As_box_floor_1, R_box_floor_1, M_box_floor_1, P_box_floor_1⟩
theorem s_box_floor_1 : Sound Tryz.prog GG 159 C_box_floor_1 := by
 unfold C_box_floor_1; rw [h_box_floor_1]
 exact sound_of_run (fn := Tryz.f159) hmix hstable (tyOK_of ttOK) (hglob (X_box_floor_1 N)) (conOK_of (X := X_box_floor_1 N) trivial) (mconOK_of (X := X_box_floor_1 N) trivial) (by kernel_rfl) (by kernel_rfl) (by kernel_rfl) (by kernel_rfl) (by kernel_rfl) (of_decide_eq_true (by kernel_rfl))
theorem p_box_floor_1 (a0 : D_A3) : P_box_floor_1 (a0, ()) = 
 some (decide (a0.2.2.1 = 0), ()) := by
 rewrite [h_box_floor_1]
 exact e_box_floor_1 N a0

abbrev As_box_floor : List ATy := [.data true T_A3]
abbrev R_box_floor : List (Bool × Ty) := [(false, (.int .u64))]
abbrev M_box_floor : List RMode := []
abbrev Ft_box_floor : Type := D_A3 × Unit → Option (Int × Unit)
noncomputable def X_box_floor (n : Nat) (F_box_those : Ft_box_those) (F_box_floor_1 : Ft_box_floor_1) : Ctx := { types := TT, globals := [], con := [(105, ⟨As_box_those, R_box_those, M_box_those, F_box_those⟩), (159, ⟨As_box_floor_1, R_box_floor_1, M_box_floor_1, F_box_floor_1⟩)], keep := [], results := [.tmp 2], ntmps := 5, n := n }
noncomputable def B_box_floor : Code := (Tryz.f150.body).getD .skip
theorem e_box_floor (n : Nat) (F_box_those : Ft_box_those) (F_box_floor_1 : Ft_box_floor_1) (a0 : D_A3) : runF (X_box_floor n F_box_those F_box_floor_1) B_box_floor As_box_floor R_box_floor M_box_floor (a0, ()) = 
 Option.bind (F_box_those (a0, (fun (y : D_A3 × Unit) => F_box_floor_1 (y.1, ())), ())) fun r0 =>
 some (r0.1, ()) := by kernel_rfl
noncomputable def P_box_floor : Ft_box_floor := hid (runF (X_box_floor N P_box_those P_box_floor_1) B_box_floor As_box_floor R_box_floor M_box_floor)
theorem h_box_floor : P_box_floor = runF (X_box_floor N P_box_those P_box_floor_1) B_box_floor As_box_floor R_box_floor M_box_floor := hid_eq _
noncomputable def C_box_floor : Contract := ⟨As_box_floor, R_box_floor, M_box_floor, P_box_floor⟩
theorem s_box_floor : Sound Tryz.prog GG 150 C_box_floor := by
 unfold C_box_floor; rw [h_box_floor]
 exact sound_of_run (fn := Tryz.f150) hmix hstable (tyOK_of ttOK) (hglob (X_box_floor N P_box_those P_box_floor_1)) (conOK_of (X := X_box_floor N P_box_those P_box_floor_1) ⟨s_box_those, s_box_floor_1, trivial⟩) (mconOK_of (X := X_box_floor N P_box_those P_box_floor_1) trivial) (by kernel_rfl) (by kernel_rfl) (by kernel_rfl) (by kernel_rfl) (by kernel_rfl) (of_decide_eq_true (by kernel_rfl))
theorem p_box_floor (a0 : D_A3) : P_box_floor (a0, ()) = 
 Option.bind (P_box_those (a0, (fun (y : D_A3 × Unit) => P_box_floor_1 (y.1, ())), ())) fun r0 =>
 some (r0.1, ()) := by
 rewrite [h_box_floor]
 exact e_box_floor N P_box_those P_box_floor_1 a0

abbrev As_box_standing : List ATy := [.data true T_A3, .data false (.int .u64)]
abbrev R_box_standing : List (Bool × Ty) := [(false, (.int .u64))]
abbrev M_box_standing : List RMode := []
abbrev Ft_box_standing : Type := D_A3 × Int × Unit → Option (Int × Unit)
noncomputable def X_box_standing (n : Nat) (F_box_grown : Ft_box_grown) (F_box_floor : Ft_box_floor) : Ctx := { types := TT, globals := [], con := [(109, ⟨As_box_grown, R_box_grown, M_box_grown, F_box_grown⟩), (150, ⟨As_box_floor, R_box_floor, M_box_floor, F_box_floor⟩)], keep := [], results := [.tmp 4], ntmps := 12, n := n }
noncomputable def B_box_standing : Code := (Tryz.f134.body).getD .skip
theorem e_box_standing (n : Nat) (F_box_grown : Ft_box_grown) (F_box_floor : Ft_box_floor) (a0 : D_A3) (a1 : Int) : runF (X_box_standing n F_box_grown F_box_floor) B_box_standing As_box_standing R_box_standing M_box_standing (a0, a1, ()) = 
 Option.bind (F_box_floor (a0, ())) fun r0 =>
 Option.bind (F_box_grown (a0, (intBits .and .u64 a1 r0.1), a1, ())) fun r1 =>
 some (r1.1, ()) := by kernel_rfl
noncomputable def P_box_standing : Ft_box_standing := hid (runF (X_box_standing N P_box_grown P_box_floor) B_box_standing As_box_standing R_box_standing M_box_standing)
theorem h_box_standing : P_box_standing = runF (X_box_standing N P_box_grown P_box_floor) B_box_standing As_box_standing R_box_standing M_box_standing := hid_eq _
noncomputable def C_box_standing : Contract := ⟨As_box_standing, R_box_standing, M_box_standing, P_box_standing⟩
theorem s_box_standing : Sound Tryz.prog GG 134 C_box_standing := by
 unfold C_box_standing; rw [h_box_standing]
 exact sound_of_run (fn := Tryz.f134) hmix hstable (tyOK_of ttOK) (hglob (X_box_standing N P_box_grown P_box_floor)) (conOK_of (X := X_box_standing N P_box_grown P_box_floor) ⟨s_box_grown, s_box_floor, trivial⟩) (mconOK_of (X := X_box_standing N P_box_grown P_box_floor) trivial) (by kernel_rfl) (by kernel_rfl) (by kernel_rfl) (by kernel_rfl) (by kernel_rfl) (of_decide_eq_true (by kernel_rfl))
theorem p_box_standing (a0 : D_A3) (a1 : Int) : P_box_standing (a0, a1, ()) = 
 Option.bind (P_box_floor (a0, ())) fun r0 =>
 Option.bind (P_box_grown (a0, (intBits .and .u64 a1 r0.1), a1, ())) fun r1 =>
 some (r1.1, ()) := by
 rewrite [h_box_standing]
 exact e_box_standing N P_box_grown P_box_floor a0 a1

abbrev As_impl_SinkHeap : List ATy := [.data true T_Heap]
abbrev R_impl_SinkHeap : List (Bool × Ty) := [(true, T_Heap), (false, (.int .i64)), (false, .bool)]
abbrev M_impl_SinkHeap : List RMode := [.own 38]
abbrev Ft_impl_SinkHeap : Type := D_Heap × Unit → Option (D_Heap × Int × Bool × Unit)
noncomputable def X_impl_SinkHeap (n : Nat) (F_impl_IsHeap : Ft_impl_IsHeap) (F_Heap_box : Ft_Heap_box) (F_box_heap : Ft_box_heap) (F_Heap_cubes : Ft_Heap_cubes) (F_box_index : Ft_box_index) (F_box_list : Ft_box_list) (F_box_standing : Ft_box_standing) : Ctx := { types := TT, globals := [], con := [(9, ⟨As_impl_IsHeap, R_impl_IsHeap, M_impl_IsHeap, F_impl_IsHeap⟩), (50, ⟨As_Heap_box, R_Heap_box, M_Heap_box, F_Heap_box⟩), (69, ⟨As_box_heap, R_box_heap, M_box_heap, F_box_heap⟩), (70, ⟨As_Heap_cubes, R_Heap_cubes, M_Heap_cubes, F_Heap_cubes⟩), (76, ⟨As_box_index, R_box_index, M_box_index, F_box_index⟩), (104, ⟨As_box_list, R_box_list, M_box_list, F_box_list⟩), (134, ⟨As_box_standing, R_box_standing, M_box_standing, F_box_standing⟩)], keep := [(6, ⟨[.box 2, .box 5, .tmp 2, .tmp 5, .tmp 6, .tmp 7], []⟩), (11, ⟨[.box 2, .box 5, .tmp 2, .tmp 5, .tmp 7, .tmp 9, .tmp 37, .tmp 38, .tmp 39], []⟩)], results := [.cell 2 26, .tmp 3, .tmp 4], ntmps := 55, n := n }
noncomputable def B_impl_SinkHeap : Code := (Tryz.f116.body).getD .skip
noncomputable def L_impl_SinkHeap_6 (n : Nat) (F_impl_IsHeap : Ft_impl_IsHeap) (F_Heap_box : Ft_Heap_box) (F_box_heap : Ft_box_heap) (F_Heap_cubes : Ft_Heap_cubes) (F_box_index : Ft_box_index) (F_box_list : Ft_box_list) (F_box_standing : Ft_box_standing) (m0 : Nat) (p0 p1 p2 : Int) (p3 : List D_A3) (p4 p5 : Int) (p6 p7 p8 : Int) : Option (denL R_impl_SinkHeap) := loopF (X_impl_SinkHeap n F_impl_IsHeap F_Heap_box F_box_heap F_Heap_cubes F_box_index F_box_list F_box_standing) B_impl_SinkHeap R_impl_SinkHeap M_impl_SinkHeap 6 [m0] [(.ver, .num 1), (.box 2, .box 0 false [.int .i64 p0, .int .i64 p1, .int .i64 p2, .own 38 T_A3 0 p3]), (.box 5, .box 0 false [.int .i64 p4, .int .i64 p5, .int .i64 p6]), (.tmp 2, .val false [.addr 2 0 0]), (.tmp 5, .val false [.addr 5 0 0]), (.tmp 6, .val false [.int .u64 p7]), (.tmp 7, .val false [.int .i64 p8])]
noncomputable def L_impl_SinkHeap_11 (n : Nat) (F_impl_IsHeap : Ft_impl_IsHeap) (F_Heap_box : Ft_Heap_box) (F_box_heap : Ft_box_heap) (F_Heap_cubes : Ft_Heap_cubes) (F_box_index : Ft_box_index) (F_box_list : Ft_box_list) (F_box_standing : Ft_box_standing) (m0 m1 : Nat) (p0 p1 p2 : Int) (p3 : List D_A3) (p4 p5 : Int) (p6 p7 p8 : Int) (p9 : List D_A3) (p10 p11 : Int) : Option (denL R_impl_SinkHeap) := loopF (X_impl_SinkHeap n F_impl_IsHeap F_Heap_box F_box_heap F_Heap_cubes F_box_index F_box_list F_box_standing) B_impl_SinkHeap R_impl_SinkHeap M_impl_SinkHeap 11 [m0, m1] [(.ver, .num 1), (.box 2, .box 0 false [.int .i64 p0, .int .i64 p1, .int .i64 p2, .own 38 T_A3 0 p3]), (.box 5, .box 0 false [.int .i64 p4, .int .i64 p5, .int .i64 p6]), (.tmp 2, .val false [.addr 2 0 0]), (.tmp 5, .val false [.addr 5 0 0]), (.tmp 7, .val false [.int .i64 p7]), (.tmp 9, .val false [.int .u64 p8]), (.tmp 37, .val false [.own 38 T_A3 0 p9]), (.tmp 38, .val false [.int .i64 p10]), (.tmp 39, .val false [.int .i64 p11])]
theorem e_impl_SinkHeap (n : Nat) (F_impl_IsHeap : Ft_impl_IsHeap) (F_Heap_box : Ft_Heap_box) (F_box_heap : Ft_box_heap) (F_Heap_cubes : Ft_Heap_cubes) (F_box_index : Ft_box_index) (F_box_list : Ft_box_list) (F_box_standing : Ft_box_standing) (a0 : D_Heap) : runF (X_impl_SinkHeap n F_impl_IsHeap F_Heap_box F_box_heap F_Heap_cubes F_box_index F_box_list F_box_standing) B_impl_SinkHeap As_impl_SinkHeap R_impl_SinkHeap M_impl_SinkHeap (a0, ()) = 
 Option.bind (F_impl_IsHeap (a0, ())) fun r0 =>
 bif !r0.1 then
 some ((0, (0, (0, (([] : List D_A3), ())))), 0, false, ())
 else
 Option.bind (F_Heap_box (a0, ())) fun r2 =>
 Option.bind (F_Heap_cubes (a0, ())) fun r3 =>
 L_impl_SinkHeap_6 n F_impl_IsHeap F_Heap_box F_box_heap F_Heap_cubes F_box_index F_box_list F_box_standing n 0 0 0 ([] : List D_A3) r2.1.1 r2.1.2.1 r2.1.2.2.1 r3.1 0 := by kernel_rfl
theorem e_impl_SinkHeap_6 (n : Nat) (F_impl_IsHeap : Ft_impl_IsHeap) (F_Heap_box : Ft_Heap_box) (F_box_heap : Ft_box_heap) (F_Heap_cubes : Ft_Heap_cubes) (F_box_index : Ft_box_index) (F_box_list : Ft_box_list) (F_box_standing : Ft_box_standing) (m0 : Nat) (p0 p1 p2 : Int) (p3 : List D_A3) (p4 p5 : Int) (p6 p7 p8 : Int) : L_impl_SinkHeap_6 n F_impl_IsHeap F_Heap_box F_box_heap F_Heap_cubes F_box_index F_box_list F_box_standing (m0 + 1) p0 p1 p2 p3 p4 p5 p6 p7 p8 = 
 Option.bind (F_box_standing ((p4, (p5, (p6, ()))), p7, ())) fun r0 =>
 bif decide (r0.1 = p7) then
 Option.bind (F_box_heap ((p4, (p5, (p6, ()))), p7, ())) fun r2 =>
 some (r2.1, p8, true, ())
 else
 Option.bind (F_box_list ((p4, (p5, (p6, ()))), (intBits .andNot .u64 p7 r0.1), ())) fun r2 =>
 L_impl_SinkHeap_11 n F_impl_IsHeap F_Heap_box F_box_heap F_Heap_cubes F_box_index F_box_list F_box_standing m0 n p0 p1 p2 p3 p4 p5 p6 p8 r0.1 r2.1 (List.length r2.1 : Int) 0 := by kernel_rfl
theorem e_impl_SinkHeap_11 (n : Nat) (F_impl_IsHeap : Ft_impl_IsHeap) (F_Heap_box : Ft_Heap_box) (F_box_heap : Ft_box_heap) (F_Heap_cubes : Ft_Heap_cubes) (F_box_index : Ft_box_index) (F_box_list : Ft_box_list) (F_box_standing : Ft_box_standing) (m0 m1 : Nat) (p0 p1 p2 : Int) (p3 : List D_A3) (p4 p5 : Int) (p6 p7 p8 : Int) (p9 : List D_A3) (p10 p11 : Int) : L_impl_SinkHeap_11 n F_impl_IsHeap F_Heap_box F_box_heap F_Heap_cubes F_box_index F_box_list F_box_standing m0 (m1 + 1) p0 p1 p2 p3 p4 p5 p6 p7 p8 p9 p10 p11 = 
 bif decide (p11 < p10) then
 bif inB p11 (List.length p9) then
 Option.bind (F_box_index ((p4, (p5, (p6, ()))), (((nth T_A3 p9 p11)).1, ((((nth T_A3 p9 p11)).2).1, ((IntKind.wrap .i64 (((((nth T_A3 p9 p11)).2).2).1 - 1)), ()))), ())) fun r2 =>
 bif decide ((0 : Int) ≤ r2.1) then
 L_impl_SinkHeap_11 n F_impl_IsHeap F_Heap_box F_box_heap F_Heap_cubes F_box_index F_box_list F_box_standing m0 m1 p0 p1 p2 p3 p4 p5 p6 p7 (intBits .or .u64 p8 (shlI .u64 1 r2.1)) p9 p10 (IntKind.wrap .i64 (p11 + 1))
 else none
 else none
 else
 L_impl_SinkHeap_6 n F_impl_IsHeap F_Heap_box F_box_heap F_Heap_cubes F_box_index F_box_list F_box_standing m0 p0 p1 p2 p3 p4 p5 p6 p8 (IntKind.wrap .i64 (p7 + 1)) := by kernel_rfl
noncomputable def P_impl_SinkHeap : Ft_impl_SinkHeap := hid (runF (X_impl_SinkHeap N P_impl_IsHeap P_Heap_box P_box_heap P_Heap_cubes P_box_index P_box_list P_box_standing) B_impl_SinkHeap As_impl_SinkHeap R_impl_SinkHeap M_impl_SinkHeap)
theorem h_impl_SinkHeap : P_impl_SinkHeap = runF (X_impl_SinkHeap N P_impl_IsHeap P_Heap_box P_box_heap P_Heap_cubes P_box_index P_box_list P_box_standing) B_impl_SinkHeap As_impl_SinkHeap R_impl_SinkHeap M_impl_SinkHeap := hid_eq _
noncomputable def C_impl_SinkHeap : Contract := ⟨As_impl_SinkHeap, R_impl_SinkHeap, M_impl_SinkHeap, P_impl_SinkHeap⟩
theorem s_impl_SinkHeap : Sound Tryz.prog GG 116 C_impl_SinkHeap := by
 unfold C_impl_SinkHeap; rw [h_impl_SinkHeap]
 exact sound_of_run (fn := Tryz.f116) hmix hstable (tyOK_of ttOK) (hglob (X_impl_SinkHeap N P_impl_IsHeap P_Heap_box P_box_heap P_Heap_cubes P_box_index P_box_list P_box_standing)) (conOK_of (X := X_impl_SinkHeap N P_impl_IsHeap P_Heap_box P_box_heap P_Heap_cubes P_box_index P_box_list P_box_standing) ⟨s_impl_IsHeap, s_Heap_box, s_box_heap, s_Heap_cubes, s_box_index, s_box_list, s_box_standing, trivial⟩) (mconOK_of (X := X_impl_SinkHeap N P_impl_IsHeap P_Heap_box P_box_heap P_Heap_cubes P_box_index P_box_list P_box_standing) trivial) (by kernel_rfl) (by kernel_rfl) (by kernel_rfl) (by kernel_rfl) (by kernel_rfl) (of_decide_eq_true (by kernel_rfl))
noncomputable def l_impl_SinkHeap_6 : Nat → Int → Int → Int → (List D_A3) → Int → Int → Int → Int → Int → Option (denL R_impl_SinkHeap) := hid (fun m0 p0 p1 p2 p3 p4 p5 p6 p7 p8 => L_impl_SinkHeap_6 N P_impl_IsHeap P_Heap_box P_box_heap P_Heap_cubes P_box_index P_box_list P_box_standing m0 p0 p1 p2 p3 p4 p5 p6 p7 p8)
theorem h_impl_SinkHeap_6 : l_impl_SinkHeap_6 = fun m0 p0 p1 p2 p3 p4 p5 p6 p7 p8 => L_impl_SinkHeap_6 N P_impl_IsHeap P_Heap_box P_box_heap P_Heap_cubes P_box_index P_box_list P_box_standing m0 p0 p1 p2 p3 p4 p5 p6 p7 p8 := hid_eq _
noncomputable def l_impl_SinkHeap_11 : Nat → Nat → Int → Int → Int → (List D_A3) → Int → Int → Int → Int → Int → (List D_A3) → Int → Int → Option (denL R_impl_SinkHeap) := hid (fun m0 m1 p0 p1 p2 p3 p4 p5 p6 p7 p8 p9 p10 p11 => L_impl_SinkHeap_11 N P_impl_IsHeap P_Heap_box P_box_heap P_Heap_cubes P_box_index P_box_list P_box_standing m0 m1 p0 p1 p2 p3 p4 p5 p6 p7 p8 p9 p10 p11)
theorem h_impl_SinkHeap_11 : l_impl_SinkHeap_11 = fun m0 m1 p0 p1 p2 p3 p4 p5 p6 p7 p8 p9 p10 p11 => L_impl_SinkHeap_11 N P_impl_IsHeap P_Heap_box P_box_heap P_Heap_cubes P_box_index P_box_list P_box_standing m0 m1 p0 p1 p2 p3 p4 p5 p6 p7 p8 p9 p10 p11 := hid_eq _
theorem p_impl_SinkHeap (a0 : D_Heap) : P_impl_SinkHeap (a0, ()) = 
 Option.bind (P_impl_IsHeap (a0, ())) fun r0 =>
 bif !r0.1 then
 some ((0, (0, (0, (([] : List D_A3), ())))), 0, false, ())
 else
 Option.bind (P_Heap_box (a0, ())) fun r2 =>
 Option.bind (P_Heap_cubes (a0, ())) fun r3 =>
 l_impl_SinkHeap_6 N 0 0 0 ([] : List D_A3) r2.1.1 r2.1.2.1 r2.1.2.2.1 r3.1 0 := by
 rewrite [h_impl_SinkHeap, h_impl_SinkHeap_6]
 exact e_impl_SinkHeap N P_impl_IsHeap P_Heap_box P_box_heap P_Heap_cubes P_box_index P_box_list P_box_standing a0
theorem q_impl_SinkHeap_6 (m0 : Nat) (p0 p1 p2 : Int) (p3 : List D_A3) (p4 p5 : Int) (p6 p7 p8 : Int) : l_impl_SinkHeap_6 (m0 + 1) p0 p1 p2 p3 p4 p5 p6 p7 p8 = 
 Option.bind (P_box_standing ((p4, (p5, (p6, ()))), p7, ())) fun r0 =>
 bif decide (r0.1 = p7) then
 Option.bind (P_box_heap ((p4, (p5, (p6, ()))), p7, ())) fun r2 =>
 some (r2.1, p8, true, ())
 else
 Option.bind (P_box_list ((p4, (p5, (p6, ()))), (intBits .andNot .u64 p7 r0.1), ())) fun r2 =>
 l_impl_SinkHeap_11 m0 N p0 p1 p2 p3 p4 p5 p6 p8 r0.1 r2.1 (List.length r2.1 : Int) 0 := by
 rewrite [h_impl_SinkHeap_6, h_impl_SinkHeap_11]
 exact e_impl_SinkHeap_6 N P_impl_IsHeap P_Heap_box P_box_heap P_Heap_cubes P_box_index P_box_list P_box_standing m0 p0 p1 p2 p3 p4 p5 p6 p7 p8
theorem q_impl_SinkHeap_11 (m0 m1 : Nat) (p0 p1 p2 : Int) (p3 : List D_A3) (p4 p5 : Int) (p6 p7 p8 : Int) (p9 : List D_A3) (p10 p11 : Int) : l_impl_SinkHeap_11 m0 (m1 + 1) p0 p1 p2 p3 p4 p5 p6 p7 p8 p9 p10 p11 = 
 bif decide (p11 < p10) then
 bif inB p11 (List.length p9) then
 Option.bind (P_box_index ((p4, (p5, (p6, ()))), (((nth T_A3 p9 p11)).1, ((((nth T_A3 p9 p11)).2).1, ((IntKind.wrap .i64 (((((nth T_A3 p9 p11)).2).2).1 - 1)), ()))), ())) fun r2 =>
 bif decide ((0 : Int) ≤ r2.1) then
 l_impl_SinkHeap_11 m0 m1 p0 p1 p2 p3 p4 p5 p6 p7 (intBits .or .u64 p8 (shlI .u64 1 r2.1)) p9 p10 (IntKind.wrap .i64 (p11 + 1))
 else none
 else none
 else
 l_impl_SinkHeap_6 m0 p0 p1 p2 p3 p4 p5 p6 p8 (IntKind.wrap .i64 (p7 + 1)) := by
 rewrite [h_impl_SinkHeap_6, h_impl_SinkHeap_11]
 exact e_impl_SinkHeap_11 N P_impl_IsHeap P_Heap_box P_box_heap P_Heap_cubes P_box_index P_box_list P_box_standing m0 m1 p0 p1 p2 p3 p4 p5 p6 p7 p8 p9 p10 p11

abbrev As_impl_isDirection : List ATy := [.data false (.int .i64)]
abbrev R_impl_isDirection : List (Bool × Ty) := [(false, .bool)]
abbrev M_impl_isDirection : List RMode := []
abbrev Ft_impl_isDirection : Type := Int × Unit → Option (Bool × Unit)
noncomputable def X_impl_isDirection (n : Nat) (F_impl_within : Ft_impl_within) : Ctx := { types := TT, globals := [], con := [(86, ⟨As_impl_within, R_impl_within, M_impl_within, F_impl_within⟩)], keep := [], results := [.tmp 2], ntmps := 5, n := n }
noncomputable def B_impl_isDirection : Code := (Tryz.f135.body).getD .skip
theorem e_impl_isDirection (n : Nat) (F_impl_within : Ft_impl_within) (a0 : Int) : runF (X_impl_isDirection n F_impl_within) B_impl_isDirection As_impl_isDirection R_impl_isDirection M_impl_isDirection (a0, ()) = 
 Option.bind (F_impl_within (a0, 0, 2, ())) fun r0 =>
 some (r0.1, ()) := by kernel_rfl
noncomputable def P_impl_isDirection : Ft_impl_isDirection := hid (runF (X_impl_isDirection N P_impl_within) B_impl_isDirection As_impl_isDirection R_impl_isDirection M_impl_isDirection)
theorem h_impl_isDirection : P_impl_isDirection = runF (X_impl_isDirection N P_impl_within) B_impl_isDirection As_impl_isDirection R_impl_isDirection M_impl_isDirection := hid_eq _
noncomputable def C_impl_isDirection : Contract := ⟨As_impl_isDirection, R_impl_isDirection, M_impl_isDirection, P_impl_isDirection⟩
theorem s_impl_isDirection : Sound Tryz.prog GG 135 C_impl_isDirection := by
 unfold C_impl_isDirection; rw [h_impl_isDirection]
 exact sound_of_run (fn := Tryz.f135) hmix hstable (tyOK_of ttOK) (hglob (X_impl_isDirection N P_impl_within)) (conOK_of (X := X_impl_isDirection N P_impl_within) ⟨s_impl_within, trivial⟩) (mconOK_of (X := X_impl_isDirection N P_impl_within) trivial) (by kernel_rfl) (by kernel_rfl) (by kernel_rfl) (by kernel_rfl) (by kernel_rfl) (of_decide_eq_true (by kernel_rfl))
theorem p_impl_isDirection (a0 : Int) : P_impl_isDirection (a0, ()) = 
 Option.bind (P_impl_within (a0, 0, 2, ())) fun r0 =>
 some (r0.1, ()) := by
 rewrite [h_impl_isDirection]
 exact e_impl_isDirection N P_impl_within a0

abbrev As_Heap_moved : List ATy := [.data true T_Heap, .data true T_A3, .clo [(true, T_A3)] [(true, T_A3)]]
abbrev R_Heap_moved : List (Bool × Ty) := [(true, T_Heap)]
abbrev M_Heap_moved : List RMode := [.own 38]
abbrev Ft_Heap_moved : Type := D_Heap × D_A3 × ((D_A3 × Unit) → Option (D_A3 × Unit)) × Unit → Option (D_Heap × Unit)
noncomputable def X_Heap_moved (n : Nat) (F_box_heap : Ft_box_heap) (F_box_index : Ft_box_index) : Ctx := { types := TT, globals := [], con := [(69, ⟨As_box_heap, R_box_heap, M_box_heap, F_box_heap⟩), (76, ⟨As_box_index, R_box_index, M_box_index, F_box_index⟩)], keep := [(3, ⟨[.box 4, .box 6, .tmp 2, .tmp 4, .tmp 6, .tmp 7, .tmp 11, .tmp 12, .tmp 13], []⟩)], results := [.cell 6 26], ntmps := 29, n := n }
noncomputable def B_Heap_moved : Code := (Tryz.f136.body).getD .skip
noncomputable def L_Heap_moved_3 (n : Nat) (F_box_heap : Ft_box_heap) (F_box_index : Ft_box_index) (m0 : Nat) (p0 p1 : Int) (p2 p3 : Int) (p4 p5 : Int) (p6 : List D_A3) (p7 : (D_A3 × Unit) → Option (D_A3 × Unit)) (p8 : Int) (p9 : List D_A3) (p10 p11 : Int) : Option (denL R_Heap_moved) := loopF (X_Heap_moved n F_box_heap F_box_index) B_Heap_moved R_Heap_moved M_Heap_moved 3 [m0] [(.ver, .num 1), (.box 4, .box 0 false [.int .i64 p0, .int .i64 p1, .int .i64 p2]), (.box 6, .box 0 false [.int .i64 p3, .int .i64 p4, .int .i64 p5, .own 38 T_A3 0 p6]), (.tmp 2, .val false [.clo [(true, T_A3)] [(true, T_A3)] p7]), (.tmp 4, .val false [.addr 4 0 0]), (.tmp 6, .val false [.addr 6 0 0]), (.tmp 7, .val false [.int .u64 p8]), (.tmp 11, .val false [.imm T_A3 p9 (some 3)]), (.tmp 12, .val false [.int .i64 p10]), (.tmp 13, .val false [.int .i64 p11])]
theorem e_Heap_moved (n : Nat) (F_box_heap : Ft_box_heap) (F_box_index : Ft_box_index) (a0 : D_Heap) (a1 : D_A3) (a2 : (D_A3 × Unit) → Option (D_A3 × Unit)) : runF (X_Heap_moved n F_box_heap F_box_index) B_Heap_moved As_Heap_moved R_Heap_moved M_Heap_moved (a0, a1, a2, ()) = 
 L_Heap_moved_3 n F_box_heap F_box_index n a1.1 a1.2.1 a1.2.2.1 0 0 0 ([] : List D_A3) a2 0 a0.2.2.2.1 (List.length a0.2.2.2.1 : Int) 0 := by kernel_rfl
theorem e_Heap_moved_3 (n : Nat) (F_box_heap : Ft_box_heap) (F_box_index : Ft_box_index) (m0 : Nat) (p0 p1 : Int) (p2 p3 : Int) (p4 p5 : Int) (p6 : List D_A3) (p7 : (D_A3 × Unit) → Option (D_A3 × Unit)) (p8 : Int) (p9 : List D_A3) (p10 p11 : Int) : L_Heap_moved_3 n F_box_heap F_box_index (m0 + 1) p0 p1 p2 p3 p4 p5 p6 p7 p8 p9 p10 p11 = 
 bif decide (p11 < p10) then
 bif inB p11 (List.length p9) then
 Option.bind (p7 ((nth T_A3 p9 p11), ())) fun r2 =>
 Option.bind (F_box_index ((p0, (p1, (p2, ()))), r2.1, ())) fun r3 =>
 bif decide ((0 : Int) ≤ r3.1) then
 L_Heap_moved_3 n F_box_heap F_box_index m0 p0 p1 p2 p3 p4 p5 p6 p7 (intBits .or .u64 p8 (shlI .u64 1 r3.1)) p9 p10 (IntKind.wrap .i64 (p11 + 1))
 else none
 else none
 else
 Option.bind (F_box_heap ((p0, (p1, (p2, ()))), p8, ())) fun r1 =>
 some (r1.1, ()) := by kernel_rfl
noncomputable def P_Heap_moved : Ft_Heap_moved := hid (runF (X_Heap_moved N P_box_heap P_box_index) B_Heap_moved As_Heap_moved R_Heap_moved M_Heap_moved)
theorem h_Heap_moved : P_Heap_moved = runF (X_Heap_moved N P_box_heap P_box_index) B_Heap_moved As_Heap_moved R_Heap_moved M_Heap_moved := hid_eq _
noncomputable def C_Heap_moved : Contract := ⟨As_Heap_moved, R_Heap_moved, M_Heap_moved, P_Heap_moved⟩
theorem s_Heap_moved : Sound Tryz.prog GG 136 C_Heap_moved := by
 unfold C_Heap_moved; rw [h_Heap_moved]
 exact sound_of_run (fn := Tryz.f136) hmix hstable (tyOK_of ttOK) (hglob (X_Heap_moved N P_box_heap P_box_index)) (conOK_of (X := X_Heap_moved N P_box_heap P_box_index) ⟨s_box_heap, s_box_index, trivial⟩) (mconOK_of (X := X_Heap_moved N P_box_heap P_box_index) trivial) (by kernel_rfl) (by kernel_rfl) (by kernel_rfl) (by kernel_rfl) (by kernel_rfl) (of_decide_eq_true (by kernel_rfl))
noncomputable def l_Heap_moved_3 : Nat → Int → Int → Int → Int → Int → Int → (List D_A3) → ((D_A3 × Unit) → Option (D_A3 × Unit)) → Int → (List D_A3) → Int → Int → Option (denL R_Heap_moved) := hid (fun m0 p0 p1 p2 p3 p4 p5 p6 p7 p8 p9 p10 p11 => L_Heap_moved_3 N P_box_heap P_box_index m0 p0 p1 p2 p3 p4 p5 p6 p7 p8 p9 p10 p11)
theorem h_Heap_moved_3 : l_Heap_moved_3 = fun m0 p0 p1 p2 p3 p4 p5 p6 p7 p8 p9 p10 p11 => L_Heap_moved_3 N P_box_heap P_box_index m0 p0 p1 p2 p3 p4 p5 p6 p7 p8 p9 p10 p11 := hid_eq _
theorem p_Heap_moved (a0 : D_Heap) (a1 : D_A3) (a2 : (D_A3 × Unit) → Option (D_A3 × Unit)) : P_Heap_moved (a0, a1, a2, ()) = 
 l_Heap_moved_3 N a1.1 a1.2.1 a1.2.2.1 0 0 0 ([] : List D_A3) a2 0 a0.2.2.2.1 (List.length a0.2.2.2.1 : Int) 0 := by
 rewrite [h_Heap_moved, h_Heap_moved_3]
 exact e_Heap_moved N P_box_heap P_box_index a0 a1 a2
theorem q_Heap_moved_3 (m0 : Nat) (p0 p1 : Int) (p2 p3 : Int) (p4 p5 : Int) (p6 : List D_A3) (p7 : (D_A3 × Unit) → Option (D_A3 × Unit)) (p8 : Int) (p9 : List D_A3) (p10 p11 : Int) : l_Heap_moved_3 (m0 + 1) p0 p1 p2 p3 p4 p5 p6 p7 p8 p9 p10 p11 = 
 bif decide (p11 < p10) then
 bif inB p11 (List.length p9) then
 Option.bind (p7 ((nth T_A3 p9 p11), ())) fun r2 =>
 Option.bind (P_box_index ((p0, (p1, (p2, ()))), r2.1, ())) fun r3 =>
 bif decide ((0 : Int) ≤ r3.1) then
 l_Heap_moved_3 m0 p0 p1 p2 p3 p4 p5 p6 p7 (intBits .or .u64 p8 (shlI .u64 1 r3.1)) p9 p10 (IntKind.wrap .i64 (p11 + 1))
 else none
 else none
 else
 Option.bind (P_box_heap ((p0, (p1, (p2, ()))), p8, ())) fun r1 =>
 some (r1.1, ()) := by
 rewrite [h_Heap_moved_3]
 exact e_Heap_moved_3 N P_box_heap P_box_index m0 p0 p1 p2 p3 p4 p5 p6 p7 p8 p9 p10 p11

abbrev As_box_mirror : List ATy := [.data true T_A3, .data true T_A3, .data false (.int .i64)]
abbrev R_box_mirror : List (Bool × Ty) := [(true, T_A3)]
abbrev M_box_mirror : List RMode := []
abbrev Ft_box_mirror : Type := D_A3 × D_A3 × Int × Unit → Option (D_A3 × Unit)
noncomputable def X_box_mirror (n : Nat) : Ctx := { types := TT, globals := [], con := [], keep := [], results := [.cell 6 38], ntmps := 18, n := n }
noncomputable def B_box_mirror : Code := (Tryz.f138.body).getD .skip
theorem e_box_mirror (n : Nat) (a0 a1 : D_A3) (a2 : Int) : runF (X_box_mirror n) B_box_mirror As_box_mirror R_box_mirror M_box_mirror (a0, a1, a2, ()) = 
 bif inB a2 3 then
 bif inB a2 3 then
 bif inB a2 3 then
 some (((bif decide (a2 = (0 : Int)) then (IntKind.wrap .i64 ((IntKind.wrap .i64 ((bif decide (a2 = (0 : Int)) then a0.1 else (bif decide (a2 = (1 : Int)) then a0.2.1 else a0.2.2.1)) - 1)) - (bif decide (a2 = (0 : Int)) then a1.1 else (bif decide (a2 = (1 : Int)) then a1.2.1 else a1.2.2.1)))) else a1.1), ((bif decide (a2 = (1 : Int)) then (IntKind.wrap .i64 ((IntKind.wrap .i64 ((bif decide (a2 = (0 : Int)) then a0.1 else (bif decide (a2 = (1 : Int)) then a0.2.1 else a0.2.2.1)) - 1)) - (bif decide (a2 = (0 : Int)) then a1.1 else (bif decide (a2 = (1 : Int)) then a1.2.1 else a1.2.2.1)))) else a1.2.1), ((bif decide (a2 = (2 : Int)) then (IntKind.wrap .i64 ((IntKind.wrap .i64 ((bif decide (a2 = (0 : Int)) then a0.1 else (bif decide (a2 = (1 : Int)) then a0.2.1 else a0.2.2.1)) - 1)) - (bif decide (a2 = (0 : Int)) then a1.1 else (bif decide (a2 = (1 : Int)) then a1.2.1 else a1.2.2.1)))) else a1.2.2.1), ()))), ())
 else none
 else none
 else none := by kernel_rfl
noncomputable def P_box_mirror : Ft_box_mirror := hid (runF (X_box_mirror N) B_box_mirror As_box_mirror R_box_mirror M_box_mirror)
theorem h_box_mirror : P_box_mirror = runF (X_box_mirror N) B_box_mirror As_box_mirror R_box_mirror M_box_mirror := hid_eq _
noncomputable def C_box_mirror : Contract := ⟨As_box_mirror, R_box_mirror, M_box_mirror, P_box_mirror⟩
theorem s_box_mirror : Sound Tryz.prog GG 138 C_box_mirror := by
 unfold C_box_mirror; rw [h_box_mirror]
 exact sound_of_run (fn := Tryz.f138) hmix hstable (tyOK_of ttOK) (hglob (X_box_mirror N)) (conOK_of (X := X_box_mirror N) trivial) (mconOK_of (X := X_box_mirror N) trivial) (by kernel_rfl) (by kernel_rfl) (by kernel_rfl) (by kernel_rfl) (by kernel_rfl) (of_decide_eq_true (by kernel_rfl))
theorem p_box_mirror (a0 a1 : D_A3) (a2 : Int) : P_box_mirror (a0, a1, a2, ()) = 
 bif inB a2 3 then
 bif inB a2 3 then
 bif inB a2 3 then
 some (((bif decide (a2 = (0 : Int)) then (IntKind.wrap .i64 ((IntKind.wrap .i64 ((bif decide (a2 = (0 : Int)) then a0.1 else (bif decide (a2 = (1 : Int)) then a0.2.1 else a0.2.2.1)) - 1)) - (bif decide (a2 = (0 : Int)) then a1.1 else (bif decide (a2 = (1 : Int)) then a1.2.1 else a1.2.2.1)))) else a1.1), ((bif decide (a2 = (1 : Int)) then (IntKind.wrap .i64 ((IntKind.wrap .i64 ((bif decide (a2 = (0 : Int)) then a0.1 else (bif decide (a2 = (1 : Int)) then a0.2.1 else a0.2.2.1)) - 1)) - (bif decide (a2 = (0 : Int)) then a1.1 else (bif decide (a2 = (1 : Int)) then a1.2.1 else a1.2.2.1)))) else a1.2.1), ((bif decide (a2 = (2 : Int)) then (IntKind.wrap .i64 ((IntKind.wrap .i64 ((bif decide (a2 = (0 : Int)) then a0.1 else (bif decide (a2 = (1 : Int)) then a0.2.1 else a0.2.2.1)) - 1)) - (bif decide (a2 = (0 : Int)) then a1.1 else (bif decide (a2 = (1 : Int)) then a1.2.1 else a1.2.2.1)))) else a1.2.2.1), ()))), ())
 else none
 else none
 else none := by
 rewrite [h_box_mirror]
 exact e_box_mirror N a0 a1 a2

abbrev As_impl_MirrorHeap_1 : List ATy := [.data true T_A3, .ptr T_Heap, .ptr (.int .i64)]
abbrev R_impl_MirrorHeap_1 : List (Bool × Ty) := [(true, T_A3)]
abbrev M_impl_MirrorHeap_1 : List RMode := []
abbrev Ft_impl_MirrorHeap_1 : Type := D_A3 × D_Heap × Int × Unit → Option (D_A3 × Unit)
noncomputable def X_impl_MirrorHeap_1 (n : Nat) (F_Heap_box : Ft_Heap_box) (F_box_mirror : Ft_box_mirror) : Ctx := { types := TT, globals := [], con := [(50, ⟨As_Heap_box, R_Heap_box, M_Heap_box, F_Heap_box⟩), (138, ⟨As_box_mirror, R_box_mirror, M_box_mirror, F_box_mirror⟩)], keep := [], results := [.cell 4 38], ntmps := 10, n := n }
noncomputable def B_impl_MirrorHeap_1 : Code := (Tryz.f137.body).getD .skip
theorem e_impl_MirrorHeap_1 (n : Nat) (F_Heap_box : Ft_Heap_box) (F_box_mirror : Ft_box_mirror) (a0 : D_A3) (a1 : D_Heap) (a2 : Int) : runF (X_impl_MirrorHeap_1 n F_Heap_box F_box_mirror) B_impl_MirrorHeap_1 As_impl_MirrorHeap_1 R_impl_MirrorHeap_1 M_impl_MirrorHeap_1 (a0, a1, a2, ()) = 
 Option.bind (F_Heap_box (a1, ())) fun r0 =>
 Option.bind (F_box_mirror (r0.1, a0, a2, ())) fun r1 =>
 some (r1.1, ()) := by kernel_rfl
noncomputable def P_impl_MirrorHeap_1 : Ft_impl_MirrorHeap_1 := hid (runF (X_impl_MirrorHeap_1 N P_Heap_box P_box_mirror) B_impl_MirrorHeap_1 As_impl_MirrorHeap_1 R_impl_MirrorHeap_1 M_impl_MirrorHeap_1)
theorem h_impl_MirrorHeap_1 : P_impl_MirrorHeap_1 = runF (X_impl_MirrorHeap_1 N P_Heap_box P_box_mirror) B_impl_MirrorHeap_1 As_impl_MirrorHeap_1 R_impl_MirrorHeap_1 M_impl_MirrorHeap_1 := hid_eq _
noncomputable def C_impl_MirrorHeap_1 : Contract := ⟨As_impl_MirrorHeap_1, R_impl_MirrorHeap_1, M_impl_MirrorHeap_1, P_impl_MirrorHeap_1⟩
theorem s_impl_MirrorHeap_1 : Sound Tryz.prog GG 137 C_impl_MirrorHeap_1 := by
 unfold C_impl_MirrorHeap_1; rw [h_impl_MirrorHeap_1]
 exact sound_of_run (fn := Tryz.f137) hmix hstable (tyOK_of ttOK) (hglob (X_impl_MirrorHeap_1 N P_Heap_box P_box_mirror)) (conOK_of (X := X_impl_MirrorHeap_1 N P_Heap_box P_box_mirror) ⟨s_Heap_box, s_box_mirror, trivial⟩) (mconOK_of (X := X_impl_MirrorHeap_1 N P_Heap_box P_box_mirror) trivial) (by kernel_rfl) (by kernel_rfl) (by kernel_rfl) (by kernel_rfl) (by kernel_rfl) (of_decide_eq_true (by kernel_rfl))
theorem p_impl_MirrorHeap_1 (a0 : D_A3) (a1 : D_Heap) (a2 : Int) : P_impl_MirrorHeap_1 (a0, a1, a2, ()) = 
 Option.bind (P_Heap_box (a1, ())) fun r0 =>
 Option.bind (P_box_mirror (r0.1, a0, a2, ())) fun r1 =>
 some (r1.1, ()) := by
 rewrite [h_impl_MirrorHeap_1]
 exact e_impl_MirrorHeap_1 N P_Heap_box P_box_mirror a0 a1 a2

abbrev As_impl_MirrorHeap : List ATy := [.data true T_Heap, .data false (.int .i64)]
abbrev R_impl_MirrorHeap : List (Bool × Ty) := [(true, T_Heap), (false, .bool)]
abbrev M_impl_MirrorHeap : List RMode := [.own 38]
abbrev Ft_impl_MirrorHeap : Type := D_Heap × Int × Unit → Option (D_Heap × Bool × Unit)
noncomputable def X_impl_MirrorHeap (n : Nat) (F_impl_IsHeap : Ft_impl_IsHeap) (F_Heap_box : Ft_Heap_box) (F_impl_isDirection : Ft_impl_isDirection) (F_Heap_moved : Ft_Heap_moved) (F_impl_MirrorHeap_1 : Ft_impl_MirrorHeap_1) : Ctx := { types := TT, globals := [], con := [(9, ⟨As_impl_IsHeap, R_impl_IsHeap, M_impl_IsHeap, F_impl_IsHeap⟩), (50, ⟨As_Heap_box, R_Heap_box, M_Heap_box, F_Heap_box⟩), (135, ⟨As_impl_isDirection, R_impl_isDirection, M_impl_isDirection, F_impl_isDirection⟩), (136, ⟨As_Heap_moved, R_Heap_moved, M_Heap_moved, F_Heap_moved⟩), (137, ⟨As_impl_MirrorHeap_1, R_impl_MirrorHeap_1, M_impl_MirrorHeap_1, F_impl_MirrorHeap_1⟩)], keep := [], results := [.cell 4 26, .tmp 5], ntmps := 20, n := n }
noncomputable def B_impl_MirrorHeap : Code := (Tryz.f117.body).getD .skip
theorem e_impl_MirrorHeap (n : Nat) (F_impl_IsHeap : Ft_impl_IsHeap) (F_Heap_box : Ft_Heap_box) (F_impl_isDirection : Ft_impl_isDirection) (F_Heap_moved : Ft_Heap_moved) (F_impl_MirrorHeap_1 : Ft_impl_MirrorHeap_1) (a0 : D_Heap) (a1 : Int) : runF (X_impl_MirrorHeap n F_impl_IsHeap F_Heap_box F_impl_isDirection F_Heap_moved F_impl_MirrorHeap_1) B_impl_MirrorHeap As_impl_MirrorHeap R_impl_MirrorHeap M_impl_MirrorHeap (a0, a1, ()) = 
 Option.bind (F_impl_IsHeap (a0, ())) fun r0 =>
 bif !r0.1 then
 some ((0, (0, (0, (([] : List D_A3), ())))), false, ())
 else
 Option.bind (F_impl_isDirection (a1, ())) fun r2 =>
 bif !r2.1 then
 some ((0, (0, (0, (([] : List D_A3), ())))), false, ())
 else
 Option.bind (F_Heap_box (a0, ())) fun r4 =>
 Option.bind (F_Heap_moved (a0, r4.1, (fun (y : D_A3 × Unit) => F_impl_MirrorHeap_1 (y.1, a0, a1, ())), ())) fun r5 =>
 some (r5.1, true, ()) := by kernel_rfl
noncomputable def P_impl_MirrorHeap : Ft_impl_MirrorHeap := hid (runF (X_impl_MirrorHeap N P_impl_IsHeap P_Heap_box P_impl_isDirection P_Heap_moved P_impl_MirrorHeap_1) B_impl_MirrorHeap As_impl_MirrorHeap R_impl_MirrorHeap M_impl_MirrorHeap)
theorem h_impl_MirrorHeap : P_impl_MirrorHeap = runF (X_impl_MirrorHeap N P_impl_IsHeap P_Heap_box P_impl_isDirection P_Heap_moved P_impl_MirrorHeap_1) B_impl_MirrorHeap As_impl_MirrorHeap R_impl_MirrorHeap M_impl_MirrorHeap := hid_eq _
noncomputable def C_impl_MirrorHeap : Contract := ⟨As_impl_MirrorHeap, R_impl_MirrorHeap, M_impl_MirrorHeap, P_impl_MirrorHeap⟩
theorem s_impl_MirrorHeap : Sound Tryz.prog GG 117 C_impl_MirrorHeap := by
 unfold C_impl_MirrorHeap; rw [h_impl_MirrorHeap]
 exact sound_of_run (fn := Tryz.f117) hmix hstable (tyOK_of ttOK) (hglob (X_impl_MirrorHeap N P_impl_IsHeap P_Heap_box P_impl_isDirection P_Heap_moved P_impl_MirrorHeap_1)) (conOK_of (X := X_impl_MirrorHeap N P_impl_IsHeap P_Heap_box P_impl_isDirection P_Heap_moved P_impl_MirrorHeap_1) ⟨s_impl_IsHeap, s_Heap_box, s_impl_isDirection, s_Heap_moved, s_impl_MirrorHeap_1, trivial⟩) (mconOK_of (X := X_impl_MirrorHeap N P_impl_IsHeap P_Heap_box P_impl_isDirection P_Heap_moved P_impl_MirrorHeap_1) trivial) (by kernel_rfl) (by kernel_rfl) (by kernel_rfl) (by kernel_rfl) (by kernel_rfl) (of_decide_eq_true (by kernel_rfl))
theorem p_impl_MirrorHeap (a0 : D_Heap) (a1 : Int) : P_impl_MirrorHeap (a0, a1, ()) = 
 Option.bind (P_impl_IsHeap (a0, ())) fun r0 =>
 bif !r0.1 then
 some ((0, (0, (0, (([] : List D_A3), ())))), false, ())
 else
 Option.bind (P_impl_isDirection (a1, ())) fun r2 =>
 bif !r2.1 then
 some ((0, (0, (0, (([] : List D_A3), ())))), false, ())
 else
 Option.bind (P_Heap_box (a0, ())) fun r4 =>
 Option.bind (P_Heap_moved (a0, r4.1, (fun (y : D_A3 × Unit) => P_impl_MirrorHeap_1 (y.1, a0, a1, ())), ())) fun r5 =>
 some (r5.1, true, ()) := by
 rewrite [h_impl_MirrorHeap]
 exact e_impl_MirrorHeap N P_impl_IsHeap P_Heap_box P_impl_isDirection P_Heap_moved P_impl_MirrorHeap_1 a0 a1

abbrev As_impl_SwapSides_1 : List ATy := [.data true T_A3, .ptr (.int .i64), .ptr (.int .i64)]
abbrev R_impl_SwapSides_1 : List (Bool × Ty) := [(true, T_A3)]
abbrev M_impl_SwapSides_1 : List RMode := []
abbrev Ft_impl_SwapSides_1 : Type := D_A3 × Int × Int × Unit → Option (D_A3 × Unit)
noncomputable def X_impl_SwapSides_1 (n : Nat) : Ctx := { types := TT, globals := [], con := [], keep := [], results := [.cell 4 38], ntmps := 16, n := n }
noncomputable def B_impl_SwapSides_1 : Code := (Tryz.f139.body).getD .skip
theorem e_impl_SwapSides_1 (n : Nat) (a0 : D_A3) (a1 a2 : Int) : runF (X_impl_SwapSides_1 n) B_impl_SwapSides_1 As_impl_SwapSides_1 R_impl_SwapSides_1 M_impl_SwapSides_1 (a0, a1, a2, ()) = 
 bif inB a1 3 then
 bif inB a2 3 then
 bif inB a2 3 then
 bif inB a1 3 then
 some (((bif decide (a1 = (0 : Int)) then (bif decide (a2 = (0 : Int)) then a0.1 else (bif decide (a2 = (1 : Int)) then a0.2.1 else a0.2.2.1)) else (bif decide (a2 = (0 : Int)) then (bif decide (a1 = (0 : Int)) then a0.1 else (bif decide (a1 = (1 : Int)) then a0.2.1 else a0.2.2.1)) else a0.1)), ((bif decide (a1 = (1 : Int)) then (bif decide (a2 = (0 : Int)) then a0.1 else (bif decide (a2 = (1 : Int)) then a0.2.1 else a0.2.2.1)) else (bif decide (a2 = (1 : Int)) then (bif decide (a1 = (0 : Int)) then a0.1 else (bif decide (a1 = (1 : Int)) then a0.2.1 else a0.2.2.1)) else a0.2.1)), ((bif decide (a1 = (2 : Int)) then (bif decide (a2 = (0 : Int)) then a0.1 else (bif decide (a2 = (1 : Int)) then a0.2.1 else a0.2.2.1)) else (bif decide (a2 = (2 : Int)) then (bif decide (a1 = (0 : Int)) then a0.1 else (bif decide (a1 = (1 : Int)) then a0.2.1 else a0.2.2.1)) else a0.2.2.1)), ()))), ())
 else none
 else none
 else none
 else none := by kernel_rfl
noncomputable def P_impl_SwapSides_1 : Ft_impl_SwapSides_1 := hid (runF (X_impl_SwapSides_1 N) B_impl_SwapSides_1 As_impl_SwapSides_1 R_impl_SwapSides_1 M_impl_SwapSides_1)
theorem h_impl_SwapSides_1 : P_impl_SwapSides_1 = runF (X_impl_SwapSides_1 N) B_impl_SwapSides_1 As_impl_SwapSides_1 R_impl_SwapSides_1 M_impl_SwapSides_1 := hid_eq _
noncomputable def C_impl_SwapSides_1 : Contract := ⟨As_impl_SwapSides_1, R_impl_SwapSides_1, M_impl_SwapSides_1, P_impl_SwapSides_1⟩
theorem s_impl_SwapSides_1 : Sound Tryz.prog GG 139 C_impl_SwapSides_1 := by
 unfold C_impl_SwapSides_1; rw [h_impl_SwapSides_1]
 exact sound_of_run (fn := Tryz.f139) hmix hstable (tyOK_of ttOK) (hglob (X_impl_SwapSides_1 N)) (conOK_of (X := X_impl_SwapSides_1 N) trivial) (mconOK_of (X := X_impl_SwapSides_1 N) trivial) (by kernel_rfl) (by kernel_rfl) (by kernel_rfl) (by kernel_rfl) (by kernel_rfl) (of_decide_eq_true (by kernel_rfl))
theorem p_impl_SwapSides_1 (a0 : D_A3) (a1 a2 : Int) : P_impl_SwapSides_1 (a0, a1, a2, ()) = 
 bif inB a1 3 then
 bif inB a2 3 then
 bif inB a2 3 then
 bif inB a1 3 then
 some (((bif decide (a1 = (0 : Int)) then (bif decide (a2 = (0 : Int)) then a0.1 else (bif decide (a2 = (1 : Int)) then a0.2.1 else a0.2.2.1)) else (bif decide (a2 = (0 : Int)) then (bif decide (a1 = (0 : Int)) then a0.1 else (bif decide (a1 = (1 : Int)) then a0.2.1 else a0.2.2.1)) else a0.1)), ((bif decide (a1 = (1 : Int)) then (bif decide (a2 = (0 : Int)) then a0.1 else (bif decide (a2 = (1 : Int)) then a0.2.1 else a0.2.2.1)) else (bif decide (a2 = (1 : Int)) then (bif decide (a1 = (0 : Int)) then a0.1 else (bif decide (a1 = (1 : Int)) then a0.2.1 else a0.2.2.1)) else a0.2.1)), ((bif decide (a1 = (2 : Int)) then (bif decide (a2 = (0 : Int)) then a0.1 else (bif decide (a2 = (1 : Int)) then a0.2.1 else a0.2.2.1)) else (bif decide (a2 = (2 : Int)) then (bif decide (a1 = (0 : Int)) then a0.1 else (bif decide (a1 = (1 : Int)) then a0.2.1 else a0.2.2.1)) else a0.2.2.1)), ()))), ())
 else none
 else none
 else none
 else none := by
 rewrite [h_impl_SwapSides_1]
 exact e_impl_SwapSides_1 N a0 a1 a2

abbrev As_impl_SwapSides : List ATy := [.data true T_Heap, .data false (.int .i64), .data false (.int .i64)]
abbrev R_impl_SwapSides : List (Bool × Ty) := [(true, T_Heap), (false, .bool)]
abbrev M_impl_SwapSides : List RMode := [.own 38]
abbrev Ft_impl_SwapSides : Type := D_Heap × Int × Int × Unit → Option (D_Heap × Bool × Unit)
noncomputable def X_impl_SwapSides (n : Nat) (F_impl_IsHeap : Ft_impl_IsHeap) (F_Heap_box : Ft_Heap_box) (F_impl_isDirection : Ft_impl_isDirection) (F_Heap_moved : Ft_Heap_moved) (F_impl_SwapSides_1 : Ft_impl_SwapSides_1) : Ctx := { types := TT, globals := [], con := [(9, ⟨As_impl_IsHeap, R_impl_IsHeap, M_impl_IsHeap, F_impl_IsHeap⟩), (50, ⟨As_Heap_box, R_Heap_box, M_Heap_box, F_Heap_box⟩), (135, ⟨As_impl_isDirection, R_impl_isDirection, M_impl_isDirection, F_impl_isDirection⟩), (136, ⟨As_Heap_moved, R_Heap_moved, M_Heap_moved, F_Heap_moved⟩), (139, ⟨As_impl_SwapSides_1, R_impl_SwapSides_1, M_impl_SwapSides_1, F_impl_SwapSides_1⟩)], keep := [], results := [.cell 6 26, .tmp 7], ntmps := 39, n := n }
noncomputable def B_impl_SwapSides : Code := (Tryz.f118.body).getD .skip
theorem e_impl_SwapSides (n : Nat) (F_impl_IsHeap : Ft_impl_IsHeap) (F_Heap_box : Ft_Heap_box) (F_impl_isDirection : Ft_impl_isDirection) (F_Heap_moved : Ft_Heap_moved) (F_impl_SwapSides_1 : Ft_impl_SwapSides_1) (a0 : D_Heap) (a1 a2 : Int) : runF (X_impl_SwapSides n F_impl_IsHeap F_Heap_box F_impl_isDirection F_Heap_moved F_impl_SwapSides_1) B_impl_SwapSides As_impl_SwapSides R_impl_SwapSides M_impl_SwapSides (a0, a1, a2, ()) = 
 Option.bind (F_impl_IsHeap (a0, ())) fun r0 =>
 bif !r0.1 then
 some ((0, (0, (0, (([] : List D_A3), ())))), false, ())
 else
 Option.bind (F_impl_isDirection (a1, ())) fun r2 =>
 bif !r2.1 then
 some ((0, (0, (0, (([] : List D_A3), ())))), false, ())
 else
 Option.bind (F_impl_isDirection (a2, ())) fun r4 =>
 bif !r4.1 then
 some ((0, (0, (0, (([] : List D_A3), ())))), false, ())
 else
 Option.bind (F_Heap_box (a0, ())) fun r6 =>
 bif inB a2 3 then
 bif inB a1 3 then
 bif inB a1 3 then
 bif inB a2 3 then
 Option.bind (F_Heap_moved (a0, ((bif decide (a2 = (0 : Int)) then (bif decide (a1 = (0 : Int)) then r6.1.1 else (bif decide (a1 = (1 : Int)) then r6.1.2.1 else r6.1.2.2.1)) else (bif decide (a1 = (0 : Int)) then (bif decide (a2 = (0 : Int)) then r6.1.1 else (bif decide (a2 = (1 : Int)) then r6.1.2.1 else r6.1.2.2.1)) else r6.1.1)), ((bif decide (a2 = (1 : Int)) then (bif decide (a1 = (0 : Int)) then r6.1.1 else (bif decide (a1 = (1 : Int)) then r6.1.2.1 else r6.1.2.2.1)) else (bif decide (a1 = (1 : Int)) then (bif decide (a2 = (0 : Int)) then r6.1.1 else (bif decide (a2 = (1 : Int)) then r6.1.2.1 else r6.1.2.2.1)) else r6.1.2.1)), ((bif decide (a2 = (2 : Int)) then (bif decide (a1 = (0 : Int)) then r6.1.1 else (bif decide (a1 = (1 : Int)) then r6.1.2.1 else r6.1.2.2.1)) else (bif decide (a1 = (2 : Int)) then (bif decide (a2 = (0 : Int)) then r6.1.1 else (bif decide (a2 = (1 : Int)) then r6.1.2.1 else r6.1.2.2.1)) else r6.1.2.2.1)), ()))), (fun (y : D_A3 × Unit) => F_impl_SwapSides_1 (y.1, a2, a1, ())), ())) fun r11 =>
 some (r11.1, true, ())
 else none
 else none
 else none
 else none := by kernel_rfl
noncomputable def P_impl_SwapSides : Ft_impl_SwapSides := hid (runF (X_impl_SwapSides N P_impl_IsHeap P_Heap_box P_impl_isDirection P_Heap_moved P_impl_SwapSides_1) B_impl_SwapSides As_impl_SwapSides R_impl_SwapSides M_impl_SwapSides)
theorem h_impl_SwapSides : P_impl_SwapSides = runF (X_impl_SwapSides N P_impl_IsHeap P_Heap_box P_impl_isDirection P_Heap_moved P_impl_SwapSides_1) B_impl_SwapSides As_impl_SwapSides R_impl_SwapSides M_impl_SwapSides := hid_eq _
noncomputable def C_impl_SwapSides : Contract := ⟨As_impl_SwapSides, R_impl_SwapSides, M_impl_SwapSides, P_impl_SwapSides⟩
theorem s_impl_SwapSides : Sound Tryz.prog GG 118 C_impl_SwapSides := by
 unfold C_impl_SwapSides; rw [h_impl_SwapSides]
 exact sound_of_run (fn := Tryz.f118) hmix hstable (tyOK_of ttOK) (hglob (X_impl_SwapSides N P_impl_IsHeap P_Heap_box P_impl_isDirection P_Heap_moved P_impl_SwapSides_1)) (conOK_of (X := X_impl_SwapSides N P_impl_IsHeap P_Heap_box P_impl_isDirection P_Heap_moved P_impl_SwapSides_1) ⟨s_impl_IsHeap, s_Heap_box, s_impl_isDirection, s_Heap_moved, s_impl_SwapSides_1, trivial⟩) (mconOK_of (X := X_impl_SwapSides N P_impl_IsHeap P_Heap_box P_impl_isDirection P_Heap_moved P_impl_SwapSides_1) trivial) (by kernel_rfl) (by kernel_rfl) (by kernel_rfl) (by kernel_rfl) (by kernel_rfl) (of_decide_eq_true (by kernel_rfl))
theorem p_impl_SwapSides (a0 : D_Heap) (a1 a2 : Int) : P_impl_SwapSides (a0, a1, a2, ()) = 
 Option.bind (P_impl_IsHeap (a0, ())) fun r0 =>
 bif !r0.1 then
 some ((0, (0, (0, (([] : List D_A3), ())))), false, ())
 else
 Option.bind (P_impl_isDirection (a1, ())) fun r2 =>
 bif !r2.1 then
 some ((0, (0, (0, (([] : List D_A3), ())))), false, ())
 else
 Option.bind (P_impl_isDirection (a2, ())) fun r4 =>
 bif !r4.1 then
 some ((0, (0, (0, (([] : List D_A3), ())))), false, ())
 else
 Option.bind (P_Heap_box (a0, ())) fun r6 =>
 bif inB a2 3 then
 bif inB a1 3 then
 bif inB a1 3 then
 bif inB a2 3 then
 Option.bind (P_Heap_moved (a0, ((bif decide (a2 = (0 : Int)) then (bif decide (a1 = (0 : Int)) then r6.1.1 else (bif decide (a1 = (1 : Int)) then r6.1.2.1 else r6.1.2.2.1)) else (bif decide (a1 = (0 : Int)) then (bif decide (a2 = (0 : Int)) then r6.1.1 else (bif decide (a2 = (1 : Int)) then r6.1.2.1 else r6.1.2.2.1)) else r6.1.1)), ((bif decide (a2 = (1 : Int)) then (bif decide (a1 = (0 : Int)) then r6.1.1 else (bif decide (a1 = (1 : Int)) then r6.1.2.1 else r6.1.2.2.1)) else (bif decide (a1 = (1 : Int)) then (bif decide (a2 = (0 : Int)) then r6.1.1 else (bif decide (a2 = (1 : Int)) then r6.1.2.1 else r6.1.2.2.1)) else r6.1.2.1)), ((bif decide (a2 = (2 : Int)) then (bif decide (a1 = (0 : Int)) then r6.1.1 else (bif decide (a1 = (1 : Int)) then r6.1.2.1 else r6.1.2.2.1)) else (bif decide (a1 = (2 : Int)) then (bif decide (a2 = (0 : Int)) then r6.1.1 else (bif decide (a2 = (1 : Int)) then r6.1.2.1 else r6.1.2.2.1)) else r6.1.2.2.1)), ()))), (fun (y : D_A3 × Unit) => P_impl_SwapSides_1 (y.1, a2, a1, ())), ())) fun r11 =>
 some (r11.1, true, ())
 else none
 else none
 else none
 else none := by
 rewrite [h_impl_SwapSides]
 exact e_impl_SwapSides N P_impl_IsHeap P_Heap_box P_impl_isDirection P_Heap_moved P_impl_SwapSides_1 a0 a1 a2

abbrev As_box_full : List ATy := [.data true T_A3]
abbrev R_box_full : List (Bool × Ty) := [(false, (.int .u64))]
abbrev M_box_full : List RMode := []
abbrev Ft_box_full : Type := D_A3 × Unit → Option (Int × Unit)
noncomputable def X_box_full (n : Nat) (F_box_size : Ft_box_size) : Ctx := { types := TT, globals := [], con := [(127, ⟨As_box_size, R_box_size, M_box_size, F_box_size⟩)], keep := [], results := [.tmp 2], ntmps := 7, n := n }
noncomputable def B_box_full : Code := (Tryz.f101.body).getD .skip
theorem e_box_full (n : Nat) (F_box_size : Ft_box_size) (a0 : D_A3) : runF (X_box_full n F_box_size) B_box_full As_box_full R_box_full M_box_full (a0, ()) = 
 Option.bind (F_box_size (a0, ())) fun r0 =>
 bif decide ((0 : Int) ≤ r0.1) then
 some ((IntKind.wrap .u64 ((shlI .u64 1 r0.1) - 1)), ())
 else none := by kernel_rfl
noncomputable def P_box_full : Ft_box_full := hid (runF (X_box_full N P_box_size) B_box_full As_box_full R_box_full M_box_full)
theorem h_box_full : P_box_full = runF (X_box_full N P_box_size) B_box_full As_box_full R_box_full M_box_full := hid_eq _
noncomputable def C_box_full : Contract := ⟨As_box_full, R_box_full, M_box_full, P_box_full⟩
theorem s_box_full : Sound Tryz.prog GG 101 C_box_full := by
 unfold C_box_full; rw [h_box_full]
 exact sound_of_run (fn := Tryz.f101) hmix hstable (tyOK_of ttOK) (hglob (X_box_full N P_box_size)) (conOK_of (X := X_box_full N P_box_size) ⟨s_box_size, trivial⟩) (mconOK_of (X := X_box_full N P_box_size) trivial) (by kernel_rfl) (by kernel_rfl) (by kernel_rfl) (by kernel_rfl) (by kernel_rfl) (of_decide_eq_true (by kernel_rfl))
theorem p_box_full (a0 : D_A3) : P_box_full (a0, ()) = 
 Option.bind (P_box_size (a0, ())) fun r0 =>
 bif decide ((0 : Int) ≤ r0.1) then
 some ((IntKind.wrap .u64 ((shlI .u64 1 r0.1) - 1)), ())
 else none := by
 rewrite [h_box_full]
 exact e_box_full N P_box_size a0

abbrev As_impl_OtherCells : List ATy := [.data true T_Heap]
abbrev R_impl_OtherCells : List (Bool × Ty) := [(true, T_Heap), (false, .bool)]
abbrev M_impl_OtherCells : List RMode := [.own 38]
abbrev Ft_impl_OtherCells : Type := D_Heap × Unit → Option (D_Heap × Bool × Unit)
noncomputable def X_impl_OtherCells (n : Nat) (F_impl_IsHeap : Ft_impl_IsHeap) (F_Heap_box : Ft_Heap_box) (F_box_heap : Ft_box_heap) (F_Heap_cubes : Ft_Heap_cubes) (F_box_full : Ft_box_full) : Ctx := { types := TT, globals := [], con := [(9, ⟨As_impl_IsHeap, R_impl_IsHeap, M_impl_IsHeap, F_impl_IsHeap⟩), (50, ⟨As_Heap_box, R_Heap_box, M_Heap_box, F_Heap_box⟩), (69, ⟨As_box_heap, R_box_heap, M_box_heap, F_box_heap⟩), (70, ⟨As_Heap_cubes, R_Heap_cubes, M_Heap_cubes, F_Heap_cubes⟩), (101, ⟨As_box_full, R_box_full, M_box_full, F_box_full⟩)], keep := [], results := [.cell 2 26, .tmp 3], ntmps := 17, n := n }
noncomputable def B_impl_OtherCells : Code := (Tryz.f119.body).getD .skip
theorem e_impl_OtherCells (n : Nat) (F_impl_IsHeap : Ft_impl_IsHeap) (F_Heap_box : Ft_Heap_box) (F_box_heap : Ft_box_heap) (F_Heap_cubes : Ft_Heap_cubes) (F_box_full : Ft_box_full) (a0 : D_Heap) : runF (X_impl_OtherCells n F_impl_IsHeap F_Heap_box F_box_heap F_Heap_cubes F_box_full) B_impl_OtherCells As_impl_OtherCells R_impl_OtherCells M_impl_OtherCells (a0, ()) = 
 Option.bind (F_impl_IsHeap (a0, ())) fun r0 =>
 bif !r0.1 then
 some ((0, (0, (0, (([] : List D_A3), ())))), false, ())
 else
 Option.bind (F_Heap_box (a0, ())) fun r2 =>
 Option.bind (F_Heap_box (a0, ())) fun r3 =>
 Option.bind (F_box_full (r3.1, ())) fun r4 =>
 Option.bind (F_Heap_cubes (a0, ())) fun r5 =>
 Option.bind (F_box_heap (r2.1, (intBits .andNot .u64 r4.1 r5.1), ())) fun r6 =>
 some (r6.1, true, ()) := by kernel_rfl
noncomputable def P_impl_OtherCells : Ft_impl_OtherCells := hid (runF (X_impl_OtherCells N P_impl_IsHeap P_Heap_box P_box_heap P_Heap_cubes P_box_full) B_impl_OtherCells As_impl_OtherCells R_impl_OtherCells M_impl_OtherCells)
theorem h_impl_OtherCells : P_impl_OtherCells = runF (X_impl_OtherCells N P_impl_IsHeap P_Heap_box P_box_heap P_Heap_cubes P_box_full) B_impl_OtherCells As_impl_OtherCells R_impl_OtherCells M_impl_OtherCells := hid_eq _
noncomputable def C_impl_OtherCells : Contract := ⟨As_impl_OtherCells, R_impl_OtherCells, M_impl_OtherCells, P_impl_OtherCells⟩
theorem s_impl_OtherCells : Sound Tryz.prog GG 119 C_impl_OtherCells := by
 unfold C_impl_OtherCells; rw [h_impl_OtherCells]
 exact sound_of_run (fn := Tryz.f119) hmix hstable (tyOK_of ttOK) (hglob (X_impl_OtherCells N P_impl_IsHeap P_Heap_box P_box_heap P_Heap_cubes P_box_full)) (conOK_of (X := X_impl_OtherCells N P_impl_IsHeap P_Heap_box P_box_heap P_Heap_cubes P_box_full) ⟨s_impl_IsHeap, s_Heap_box, s_box_heap, s_Heap_cubes, s_box_full, trivial⟩) (mconOK_of (X := X_impl_OtherCells N P_impl_IsHeap P_Heap_box P_box_heap P_Heap_cubes P_box_full) trivial) (by kernel_rfl) (by kernel_rfl) (by kernel_rfl) (by kernel_rfl) (by kernel_rfl) (of_decide_eq_true (by kernel_rfl))
theorem p_impl_OtherCells (a0 : D_Heap) : P_impl_OtherCells (a0, ()) = 
 Option.bind (P_impl_IsHeap (a0, ())) fun r0 =>
 bif !r0.1 then
 some ((0, (0, (0, (([] : List D_A3), ())))), false, ())
 else
 Option.bind (P_Heap_box (a0, ())) fun r2 =>
 Option.bind (P_Heap_box (a0, ())) fun r3 =>
 Option.bind (P_box_full (r3.1, ())) fun r4 =>
 Option.bind (P_Heap_cubes (a0, ())) fun r5 =>
 Option.bind (P_box_heap (r2.1, (intBits .andNot .u64 r4.1 r5.1), ())) fun r6 =>
 some (r6.1, true, ()) := by
 rewrite [h_impl_OtherCells]
 exact e_impl_OtherCells N P_impl_IsHeap P_Heap_box P_box_heap P_Heap_cubes P_box_full a0

abbrev As_Act_act : List ATy := [.data true T_Act, .data true T_Heap]
abbrev R_Act_act : List (Bool × Ty) := [(true, T_Heap), (false, .bool)]
abbrev M_Act_act : List RMode := [.own 38]
abbrev Ft_Act_act : Type := D_Act × D_Heap × Unit → Option (D_Heap × Bool × Unit)
noncomputable def X_Act_act (n : Nat) (F_impl_PutCube : Ft_impl_PutCube) (F_impl_TakeCube : Ft_impl_TakeCube) (F_impl_DropHeap : Ft_impl_DropHeap) (F_impl_SinkHeap : Ft_impl_SinkHeap) (F_impl_MirrorHeap : Ft_impl_MirrorHeap) (F_impl_SwapSides : Ft_impl_SwapSides) (F_impl_OtherCells : Ft_impl_OtherCells) : Ctx := { types := TT, globals := [], con := [(113, ⟨As_impl_PutCube, R_impl_PutCube, M_impl_PutCube, F_impl_PutCube⟩), (114, ⟨As_impl_TakeCube, R_impl_TakeCube, M_impl_TakeCube, F_impl_TakeCube⟩), (115, ⟨As_impl_DropHeap, R_impl_DropHeap, M_impl_DropHeap, F_impl_DropHeap⟩), (116, ⟨As_impl_SinkHeap, R_impl_SinkHeap, M_impl_SinkHeap, F_impl_SinkHeap⟩), (117, ⟨As_impl_MirrorHeap, R_impl_MirrorHeap, M_impl_MirrorHeap, F_impl_MirrorHeap⟩), (118, ⟨As_impl_SwapSides, R_impl_SwapSides, M_impl_SwapSides, F_impl_SwapSides⟩), (119, ⟨As_impl_OtherCells, R_impl_OtherCells, M_impl_OtherCells, F_impl_OtherCells⟩)], keep := [], results := [.cell 4 26, .tmp 5], ntmps := 148, n := n }
noncomputable def B_Act_act : Code := (Tryz.f82.body).getD .skip
theorem e_Act_act (n : Nat) (F_impl_PutCube : Ft_impl_PutCube) (F_impl_TakeCube : Ft_impl_TakeCube) (F_impl_DropHeap : Ft_impl_DropHeap) (F_impl_SinkHeap : Ft_impl_SinkHeap) (F_impl_MirrorHeap : Ft_impl_MirrorHeap) (F_impl_SwapSides : Ft_impl_SwapSides) (F_impl_OtherCells : Ft_impl_OtherCells) (a0 : D_Act) (a1 : D_Heap) : runF (X_Act_act n F_impl_PutCube F_impl_TakeCube F_impl_DropHeap F_impl_SinkHeap F_impl_MirrorHeap F_impl_SwapSides F_impl_OtherCells) B_Act_act As_Act_act R_Act_act M_Act_act (a0, a1, ()) = 
 bif decide (a0.1 = 1) then
 Option.bind (F_impl_PutCube (a1, a0.2.1, ())) fun r1 =>
 bif r1.2.1 then
 bif decide (a0.2.2.1 = 0) then
 some (r1.1, decide (a0.2.2.2.1 = 0), ())
 else
 some (r1.1, false, ())
 else
 some (r1.1, false, ())
 else
 bif decide (a0.1 = 2) then
 Option.bind (F_impl_TakeCube (a1, a0.2.1, ())) fun r2 =>
 bif r2.2.1 then
 bif decide (a0.2.2.1 = 0) then
 some (r2.1, decide (a0.2.2.2.1 = 0), ())
 else
 some (r2.1, false, ())
 else
 some (r2.1, false, ())
 else
 bif decide (a0.1 = 3) then
 Option.bind (F_impl_DropHeap (a1, ())) fun r3 =>
 bif r3.2.1 then
 bif (decide (a0.2.1.1 = 0) && (decide (a0.2.1.2.1 = 0) && (decide (a0.2.1.2.2.1 = 0) && true))) then
 bif decide (a0.2.2.1 = 0) then
 some (r3.1, decide (a0.2.2.2.1 = 0), ())
 else
 some (r3.1, false, ())
 else
 some (r3.1, false, ())
 else
 some (r3.1, false, ())
 else
 bif decide (a0.1 = 4) then
 Option.bind (F_impl_SinkHeap (a1, ())) fun r4 =>
 bif r4.2.2.1 then
 bif (decide (a0.2.1.1 = 0) && (decide (a0.2.1.2.1 = 0) && (decide (a0.2.1.2.2.1 = 0) && true))) then
 bif decide (a0.2.2.1 = 0) then
 some (r4.1, decide (a0.2.2.2.1 = 0), ())
 else
 some (r4.1, false, ())
 else
 some (r4.1, false, ())
 else
 some (r4.1, false, ())
 else
 bif decide (a0.1 = 5) then
 Option.bind (F_impl_MirrorHeap (a1, a0.2.2.1, ())) fun r5 =>
 bif r5.2.1 then
 bif (decide (a0.2.1.1 = 0) && (decide (a0.2.1.2.1 = 0) && (decide (a0.2.1.2.2.1 = 0) && true))) then
 some (r5.1, decide (a0.2.2.2.1 = 0), ())
 else
 some (r5.1, false, ())
 else
 some (r5.1, false, ())
 else
 bif decide (a0.1 = 6) then
 Option.bind (F_impl_SwapSides (a1, a0.2.2.1, a0.2.2.2.1, ())) fun r6 =>
 bif r6.2.1 then
 some (r6.1, (decide (a0.2.1.1 = 0) && (decide (a0.2.1.2.1 = 0) && (decide (a0.2.1.2.2.1 = 0) && true))), ())
 else
 some (r6.1, false, ())
 else
 bif decide (a0.1 = 7) then
 Option.bind (F_impl_OtherCells (a1, ())) fun r7 =>
 bif r7.2.1 then
 bif (decide (a0.2.1.1 = 0) && (decide (a0.2.1.2.1 = 0) && (decide (a0.2.1.2.2.1 = 0) && true))) then
 bif decide (a0.2.2.1 = 0) then
 some (r7.1, decide (a0.2.2.2.1 = 0), ())
 else
 some (r7.1, false, ())
 else
 some (r7.1, false, ())
 else
 some (r7.1, false, ())
 else
 some ((0, (0, (0, (([] : List D_A3), ())))), false, ()) := by kernel_rfl
noncomputable def P_Act_act : Ft_Act_act := hid (runF (X_Act_act N P_impl_PutCube P_impl_TakeCube P_impl_DropHeap P_impl_SinkHeap P_impl_MirrorHeap P_impl_SwapSides P_impl_OtherCells) B_Act_act As_Act_act R_Act_act M_Act_act)
theorem h_Act_act : P_Act_act = runF (X_Act_act N P_impl_PutCube P_impl_TakeCube P_impl_DropHeap P_impl_SinkHeap P_impl_MirrorHeap P_impl_SwapSides P_impl_OtherCells) B_Act_act As_Act_act R_Act_act M_Act_act := hid_eq _
noncomputable def C_Act_act : Contract := ⟨As_Act_act, R_Act_act, M_Act_act, P_Act_act⟩
theorem s_Act_act : Sound Tryz.prog GG 82 C_Act_act := by
 unfold C_Act_act; rw [h_Act_act]
 exact sound_of_run (fn := Tryz.f82) hmix hstable (tyOK_of ttOK) (hglob (X_Act_act N P_impl_PutCube P_impl_TakeCube P_impl_DropHeap P_impl_SinkHeap P_impl_MirrorHeap P_impl_SwapSides P_impl_OtherCells)) (conOK_of (X := X_Act_act N P_impl_PutCube P_impl_TakeCube P_impl_DropHeap P_impl_SinkHeap P_impl_MirrorHeap P_impl_SwapSides P_impl_OtherCells) ⟨s_impl_PutCube, s_impl_TakeCube, s_impl_DropHeap, s_impl_SinkHeap, s_impl_MirrorHeap, s_impl_SwapSides, s_impl_OtherCells, trivial⟩) (mconOK_of (X := X_Act_act N P_impl_PutCube P_impl_TakeCube P_impl_DropHeap P_impl_SinkHeap P_impl_MirrorHeap P_impl_SwapSides P_impl_OtherCells) trivial) (by kernel_rfl) (by kernel_rfl) (by kernel_rfl) (by kernel_rfl) (by kernel_rfl) (of_decide_eq_true (by kernel_rfl))
theorem p_Act_act (a0 : D_Act) (a1 : D_Heap) : P_Act_act (a0, a1, ()) = 
 bif decide (a0.1 = 1) then
 Option.bind (P_impl_PutCube (a1, a0.2.1, ())) fun r1 =>
 bif r1.2.1 then
 bif decide (a0.2.2.1 = 0) then
 some (r1.1, decide (a0.2.2.2.1 = 0), ())
 else
 some (r1.1, false, ())
 else
 some (r1.1, false, ())
 else
 bif decide (a0.1 = 2) then
 Option.bind (P_impl_TakeCube (a1, a0.2.1, ())) fun r2 =>
 bif r2.2.1 then
 bif decide (a0.2.2.1 = 0) then
 some (r2.1, decide (a0.2.2.2.1 = 0), ())
 else
 some (r2.1, false, ())
 else
 some (r2.1, false, ())
 else
 bif decide (a0.1 = 3) then
 Option.bind (P_impl_DropHeap (a1, ())) fun r3 =>
 bif r3.2.1 then
 bif (decide (a0.2.1.1 = 0) && (decide (a0.2.1.2.1 = 0) && (decide (a0.2.1.2.2.1 = 0) && true))) then
 bif decide (a0.2.2.1 = 0) then
 some (r3.1, decide (a0.2.2.2.1 = 0), ())
 else
 some (r3.1, false, ())
 else
 some (r3.1, false, ())
 else
 some (r3.1, false, ())
 else
 bif decide (a0.1 = 4) then
 Option.bind (P_impl_SinkHeap (a1, ())) fun r4 =>
 bif r4.2.2.1 then
 bif (decide (a0.2.1.1 = 0) && (decide (a0.2.1.2.1 = 0) && (decide (a0.2.1.2.2.1 = 0) && true))) then
 bif decide (a0.2.2.1 = 0) then
 some (r4.1, decide (a0.2.2.2.1 = 0), ())
 else
 some (r4.1, false, ())
 else
 some (r4.1, false, ())
 else
 some (r4.1, false, ())
 else
 bif decide (a0.1 = 5) then
 Option.bind (P_impl_MirrorHeap (a1, a0.2.2.1, ())) fun r5 =>
 bif r5.2.1 then
 bif (decide (a0.2.1.1 = 0) && (decide (a0.2.1.2.1 = 0) && (decide (a0.2.1.2.2.1 = 0) && true))) then
 some (r5.1, decide (a0.2.2.2.1 = 0), ())
 else
 some (r5.1, false, ())
 else
 some (r5.1, false, ())
 else
 bif decide (a0.1 = 6) then
 Option.bind (P_impl_SwapSides (a1, a0.2.2.1, a0.2.2.2.1, ())) fun r6 =>
 bif r6.2.1 then
 some (r6.1, (decide (a0.2.1.1 = 0) && (decide (a0.2.1.2.1 = 0) && (decide (a0.2.1.2.2.1 = 0) && true))), ())
 else
 some (r6.1, false, ())
 else
 bif decide (a0.1 = 7) then
 Option.bind (P_impl_OtherCells (a1, ())) fun r7 =>
 bif r7.2.1 then
 bif (decide (a0.2.1.1 = 0) && (decide (a0.2.1.2.1 = 0) && (decide (a0.2.1.2.2.1 = 0) && true))) then
 bif decide (a0.2.2.1 = 0) then
 some (r7.1, decide (a0.2.2.2.1 = 0), ())
 else
 some (r7.1, false, ())
 else
 some (r7.1, false, ())
 else
 some (r7.1, false, ())
 else
 some ((0, (0, (0, (([] : List D_A3), ())))), false, ()) := by
 rewrite [h_Act_act]
 exact e_Act_act N P_impl_PutCube P_impl_TakeCube P_impl_DropHeap P_impl_SinkHeap P_impl_MirrorHeap P_impl_SwapSides P_impl_OtherCells a0 a1

abbrev As_impl_DoAct : List ATy := [.data true T_Bench, .data true T_Act]
abbrev R_impl_DoAct : List (Bool × Ty) := [(true, T_Bench), (false, .bool)]
abbrev M_impl_DoAct : List RMode := [.own 38]
abbrev Ft_impl_DoAct : Type := D_Bench × D_Act × Unit → Option (D_Bench × Bool × Unit)
noncomputable def X_impl_DoAct (n : Nat) (F_impl_IsBench : Ft_impl_IsBench) (F_Act_act : Ft_Act_act) : Ctx := { types := TT, globals := [], con := [(42, ⟨As_impl_IsBench, R_impl_IsBench, M_impl_IsBench, F_impl_IsBench⟩), (82, ⟨As_Act_act, R_Act_act, M_Act_act, F_Act_act⟩)], keep := [], results := [.cell 4 51, .tmp 5], ntmps := 40, n := n }
noncomputable def B_impl_DoAct : Code := (Tryz.f36.body).getD .skip
theorem e_impl_DoAct (n : Nat) (F_impl_IsBench : Ft_impl_IsBench) (F_Act_act : Ft_Act_act) (a0 : D_Bench) (a1 : D_Act) : runF (X_impl_DoAct n F_impl_IsBench F_Act_act) B_impl_DoAct As_impl_DoAct R_impl_DoAct M_impl_DoAct (a0, a1, ()) = 
 Option.bind (F_impl_IsBench (a0, ())) fun r0 =>
 bif !r0.1 then
 some (((0, (0, (0, (([] : List D_A3), ())))), (0, (0, ()))), false, ())
 else
 Option.bind (F_Act_act (a1, a0.1, ())) fun r2 =>
 bif !r2.2.1 then
 some (((0, (0, (0, (([] : List D_A3), ())))), (0, (0, ()))), false, ())
 else
 Option.bind (F_impl_IsBench ((r2.1, ((bif decide ((List.length r2.1.2.2.2.1 : Int) < a0.2.1) then (List.length r2.1.2.2.2.1 : Int) else a0.2.1), ((IntKind.wrap .i64 (a0.2.2.1 + 1)), ()))), ())) fun r4 =>
 bif !r4.1 then
 some (((0, (0, (0, (([] : List D_A3), ())))), (0, (0, ()))), false, ())
 else
 some ((r2.1, ((bif decide ((List.length r2.1.2.2.2.1 : Int) < a0.2.1) then (List.length r2.1.2.2.2.1 : Int) else a0.2.1), ((IntKind.wrap .i64 (a0.2.2.1 + 1)), ()))), true, ()) := by kernel_rfl
noncomputable def P_impl_DoAct : Ft_impl_DoAct := hid (runF (X_impl_DoAct N P_impl_IsBench P_Act_act) B_impl_DoAct As_impl_DoAct R_impl_DoAct M_impl_DoAct)
theorem h_impl_DoAct : P_impl_DoAct = runF (X_impl_DoAct N P_impl_IsBench P_Act_act) B_impl_DoAct As_impl_DoAct R_impl_DoAct M_impl_DoAct := hid_eq _
noncomputable def C_impl_DoAct : Contract := ⟨As_impl_DoAct, R_impl_DoAct, M_impl_DoAct, P_impl_DoAct⟩
theorem s_impl_DoAct : Sound Tryz.prog GG 36 C_impl_DoAct := by
 unfold C_impl_DoAct; rw [h_impl_DoAct]
 exact sound_of_run (fn := Tryz.f36) hmix hstable (tyOK_of ttOK) (hglob (X_impl_DoAct N P_impl_IsBench P_Act_act)) (conOK_of (X := X_impl_DoAct N P_impl_IsBench P_Act_act) ⟨s_impl_IsBench, s_Act_act, trivial⟩) (mconOK_of (X := X_impl_DoAct N P_impl_IsBench P_Act_act) trivial) (by kernel_rfl) (by kernel_rfl) (by kernel_rfl) (by kernel_rfl) (by kernel_rfl) (of_decide_eq_true (by kernel_rfl))
theorem p_impl_DoAct (a0 : D_Bench) (a1 : D_Act) : P_impl_DoAct (a0, a1, ()) = 
 Option.bind (P_impl_IsBench (a0, ())) fun r0 =>
 bif !r0.1 then
 some (((0, (0, (0, (([] : List D_A3), ())))), (0, (0, ()))), false, ())
 else
 Option.bind (P_Act_act (a1, a0.1, ())) fun r2 =>
 bif !r2.2.1 then
 some (((0, (0, (0, (([] : List D_A3), ())))), (0, (0, ()))), false, ())
 else
 Option.bind (P_impl_IsBench ((r2.1, ((bif decide ((List.length r2.1.2.2.2.1 : Int) < a0.2.1) then (List.length r2.1.2.2.2.1 : Int) else a0.2.1), ((IntKind.wrap .i64 (a0.2.2.1 + 1)), ()))), ())) fun r4 =>
 bif !r4.1 then
 some (((0, (0, (0, (([] : List D_A3), ())))), (0, (0, ()))), false, ())
 else
 some ((r2.1, ((bif decide ((List.length r2.1.2.2.2.1 : Int) < a0.2.1) then (List.length r2.1.2.2.2.1 : Int) else a0.2.1), ((IntKind.wrap .i64 (a0.2.2.1 + 1)), ()))), true, ()) := by
 rewrite [h_impl_DoAct]
 exact e_impl_DoAct N P_impl_IsBench P_Act_act a0 a1

abbrev As_spec_DoAct : List ATy := [.data true T_Bench, .data true T_Act]
abbrev R_spec_DoAct : List (Bool × Ty) := [(true, T_Bench), (false, .bool)]
abbrev M_spec_DoAct : List RMode := [.own 38]
abbrev Ft_spec_DoAct : Type := D_Bench × D_Act × Unit → Option (D_Bench × Bool × Unit)
noncomputable def X_spec_DoAct (n : Nat) (F_spec_l12Good : Ft_spec_l12Good) (F_spec_l12Do : Ft_spec_l12Do) : Ctx := { types := TT, globals := [], con := [(83, ⟨As_spec_l12Good, R_spec_l12Good, M_spec_l12Good, F_spec_l12Good⟩), (84, ⟨As_spec_l12Do, R_spec_l12Do, M_spec_l12Do, F_spec_l12Do⟩)], keep := [], results := [.cell 4 51, .tmp 5], ntmps := 15, n := n }
noncomputable def B_spec_DoAct : Code := (Tryz.f37.body).getD .skip
theorem e_spec_DoAct (n : Nat) (F_spec_l12Good : Ft_spec_l12Good) (F_spec_l12Do : Ft_spec_l12Do) (a0 : D_Bench) (a1 : D_Act) : runF (X_spec_DoAct n F_spec_l12Good F_spec_l12Do) B_spec_DoAct As_spec_DoAct R_spec_DoAct M_spec_DoAct (a0, a1, ()) = 
 Option.bind (F_spec_l12Good (a0, ())) fun r0 =>
 bif !r0.1 then
 some (((0, (0, (0, (([] : List D_A3), ())))), (0, (0, ()))), false, ())
 else
 Option.bind (F_spec_l12Do (a0, a1, ())) fun r2 =>
 some (r2.1, r2.2.1, ()) := by kernel_rfl
noncomputable def P_spec_DoAct : Ft_spec_DoAct := hid (runF (X_spec_DoAct N P_spec_l12Good P_spec_l12Do) B_spec_DoAct As_spec_DoAct R_spec_DoAct M_spec_DoAct)
theorem h_spec_DoAct : P_spec_DoAct = runF (X_spec_DoAct N P_spec_l12Good P_spec_l12Do) B_spec_DoAct As_spec_DoAct R_spec_DoAct M_spec_DoAct := hid_eq _
noncomputable def C_spec_DoAct : Contract := ⟨As_spec_DoAct, R_spec_DoAct, M_spec_DoAct, P_spec_DoAct⟩
theorem s_spec_DoAct : Sound Tryz.prog GG 37 C_spec_DoAct := by
 unfold C_spec_DoAct; rw [h_spec_DoAct]
 exact sound_of_run (fn := Tryz.f37) hmix hstable (tyOK_of ttOK) (hglob (X_spec_DoAct N P_spec_l12Good P_spec_l12Do)) (conOK_of (X := X_spec_DoAct N P_spec_l12Good P_spec_l12Do) ⟨s_spec_l12Good, s_spec_l12Do, trivial⟩) (mconOK_of (X := X_spec_DoAct N P_spec_l12Good P_spec_l12Do) trivial) (by kernel_rfl) (by kernel_rfl) (by kernel_rfl) (by kernel_rfl) (by kernel_rfl) (of_decide_eq_true (by kernel_rfl))
theorem p_spec_DoAct (a0 : D_Bench) (a1 : D_Act) : P_spec_DoAct (a0, a1, ()) = 
 Option.bind (P_spec_l12Good (a0, ())) fun r0 =>
 bif !r0.1 then
 some (((0, (0, (0, (([] : List D_A3), ())))), (0, (0, ()))), false, ())
 else
 Option.bind (P_spec_l12Do (a0, a1, ())) fun r2 =>
 some (r2.1, r2.2.1, ()) := by
 rewrite [h_spec_DoAct]
 exact e_spec_DoAct N P_spec_l12Good P_spec_l12Do a0 a1

abbrev As_spec_DrawDoActs : List ATy := [.data false (.sl (.int .u8))]
abbrev R_spec_DrawDoActs : List (Bool × Ty) := [(true, T_Bench), (false, (.sl T_Act))]
abbrev M_spec_DrawDoActs : List RMode := [.imm, .own 55]
abbrev Ft_spec_DrawDoActs : Type := (List Int) × Unit → Option (D_Bench × (List D_Act) × Unit)
noncomputable def X_spec_DrawDoActs (n : Nat) (F_l1Cur_bench : Ft_l1Cur_bench) (F_l1Cur_act12 : Ft_l1Cur_act12) (F_spec_l12Good : Ft_spec_l12Good) (F_spec_l12Do : Ft_spec_l12Do) (F_l1Cur_pick : Ft_l1Cur_pick) : Ctx := { types := TT, globals := [], con := [(83, ⟨As_spec_l12Good, R_spec_l12Good, M_spec_l12Good, F_spec_l12Good⟩), (84, ⟨As_spec_l12Do, R_spec_l12Do, M_spec_l12Do, F_spec_l12Do⟩)], mcon := [(80, ⟨As_l1Cur_bench, R_l1Cur_bench, M_l1Cur_bench, F_l1Cur_bench⟩), (81, ⟨As_l1Cur_act12, R_l1Cur_act12, M_l1Cur_act12, F_l1Cur_act12⟩), (85, ⟨As_l1Cur_pick, R_l1Cur_pick, M_l1Cur_pick, F_l1Cur_pick⟩)], keep := [(6, ⟨[.box 2, .box 5, .box 7, .box 14, .tmp 2, .tmp 4, .tmp 5, .tmp 6, .tmp 7, .tmp 8], [.box 7]⟩), (2000004, ⟨[], [.box 5]⟩)], results := [.cell 2 51, .tmp 3], ntmps := 47, n := n }
noncomputable def B_spec_DrawDoActs : Code := (Tryz.f38.body).getD .skip
noncomputable def L_spec_DrawDoActs_6 (n : Nat) (F_l1Cur_bench : Ft_l1Cur_bench) (F_l1Cur_act12 : Ft_l1Cur_act12) (F_spec_l12Good : Ft_spec_l12Good) (F_spec_l12Do : Ft_spec_l12Do) (F_l1Cur_pick : Ft_l1Cur_pick) (m0 : Nat) (p0 p1 p2 : Int) (p3 : List D_A3) (p4 p5 : Int) (p6 p7 p8 : Int) (p9 : List D_A3) (p10 p11 : Int) (p12 p13 p14 : Int) (p15 : List D_A3) (p16 p17 : Int) (p18 : List Int) (p19 p20 : Int) (p21 : List D_Act) (p22 : Int) : Option (denL R_spec_DrawDoActs) := loopF (X_spec_DrawDoActs n F_l1Cur_bench F_l1Cur_act12 F_spec_l12Good F_spec_l12Do F_l1Cur_pick) B_spec_DrawDoActs R_spec_DrawDoActs M_spec_DrawDoActs 6 [m0] [(.ver, .num 1), (.box 2, .box 0 false [.int .i64 p0, .int .i64 p1, .int .i64 p2, .own 38 T_A3 0 p3, .int .i64 p4, .int .i64 p5]), (.box 5, .box 0 false [.int .i64 p6, .int .i64 p7, .int .i64 p8, .imm T_A3 p9 none, .int .i64 p10, .int .i64 p11]), (.box 7, .box 0 false [.int .i64 p12, .int .i64 p13, .int .i64 p14, .imm T_A3 p15 none, .int .i64 p16, .int .i64 p17]), (.box 14, .box 0 false [.imm (.int .u8) p18 (some 0), .int .i64 p19, .int .u64 p20]), (.tmp 2, .val false [.addr 2 0 0]), (.tmp 4, .val false [.addr 14 0 0]), (.tmp 5, .val false [.addr 5 0 0]), (.tmp 6, .val false [.own 55 T_Act 0 p21]), (.tmp 7, .val false [.addr 7 0 0]), (.tmp 8, .val false [.int .i64 p22])]
theorem e_spec_DrawDoActs (n : Nat) (F_l1Cur_bench : Ft_l1Cur_bench) (F_l1Cur_act12 : Ft_l1Cur_act12) (F_spec_l12Good : Ft_spec_l12Good) (F_spec_l12Do : Ft_spec_l12Do) (F_l1Cur_pick : Ft_l1Cur_pick) (a0 : List Int) : runF (X_spec_DrawDoActs n F_l1Cur_bench F_l1Cur_act12 F_spec_l12Good F_spec_l12Do F_l1Cur_pick) B_spec_DrawDoActs As_spec_DrawDoActs R_spec_DrawDoActs M_spec_DrawDoActs (a0, ()) = 
 Option.bind (F_l1Cur_bench ((a0, (0, (0, ()))), ())) fun r0 =>
 Option.bind (F_l1Cur_pick ((a0, r0.2.1.2), 6, ())) fun r1 =>
 L_spec_DrawDoActs_6 n F_l1Cur_bench F_l1Cur_act12 F_spec_l12Good F_spec_l12Do F_l1Cur_pick n 0 0 0 ([] : List D_A3) 0 0 r0.1.1.1.1 r0.1.1.1.2.1 r0.1.1.1.2.2.1 r0.1.1.1.2.2.2.1 r0.1.1.2.1 r0.1.1.2.2.1 r0.1.1.1.1 r0.1.1.1.2.1 r0.1.1.1.2.2.1 r0.1.1.1.2.2.2.1 r0.1.1.2.1 r0.1.1.2.2.1 a0 r1.2.1.2.1 r1.2.1.2.2.1 ([] : List D_Act) r1.1.1 := by kernel_rfl
theorem e_spec_DrawDoActs_6 (n : Nat) (F_l1Cur_bench : Ft_l1Cur_bench) (F_l1Cur_act12 : Ft_l1Cur_act12) (F_spec_l12Good : Ft_spec_l12Good) (F_spec_l12Do : Ft_spec_l12Do) (F_l1Cur_pick : Ft_l1Cur_pick) (m0 : Nat) (p0 p1 p2 : Int) (p3 : List D_A3) (p4 p5 : Int) (p6 p7 p8 : Int) (p9 : List D_A3) (p10 p11 : Int) (p12 p13 p14 : Int) (p15 : List D_A3) (p16 p17 : Int) (p18 : List Int) (p19 p20 : Int) (p21 : List D_Act) (p22 : Int) : L_spec_DrawDoActs_6 n F_l1Cur_bench F_l1Cur_act12 F_spec_l12Good F_spec_l12Do F_l1Cur_pick (m0 + 1) p0 p1 p2 p3 p4 p5 p6 p7 p8 p9 p10 p11 p12 p13 p14 p15 p16 p17 p18 p19 p20 p21 p22 = 
 bif decide (p22 > 0) then
 Option.bind (F_spec_l12Good (((p12, (p13, (p14, (p15, ())))), (p16, (p17, ()))), ())) fun r1 =>
 bif r1.1 then
 Option.bind (F_l1Cur_act12 ((p18, (p19, (p20, ()))), (p12, (p13, (p14, (p15, ())))), ())) fun r3 =>
 bif (decide (((List.length p21) + (List.length ([r3.1.1] : List D_Act))) * 48 ≤ 140737488355328) && decide (((List.length p21) + (List.length ([r3.1.1] : List D_Act))) ≤ 140737488355328)) then
 Option.bind (F_spec_l12Do (((p12, (p13, (p14, (p15, ())))), (p16, (p17, ()))), r3.1.1, ())) fun r5 =>
 bif r5.2.1 then
 L_spec_DrawDoActs_6 n F_l1Cur_bench F_l1Cur_act12 F_spec_l12Good F_spec_l12Do F_l1Cur_pick m0 p0 p1 p2 p3 p4 p5 p6 p7 p8 p9 p10 p11 r5.1.1.1 r5.1.1.2.1 r5.1.1.2.2.1 r5.1.1.2.2.2.1 r5.1.2.1 r5.1.2.2.1 p18 r3.2.1.2.1 r3.2.1.2.2.1 (p21 ++ ([r3.1.1] : List D_Act)) (IntKind.wrap .i64 (p22 - 1))
 else
 L_spec_DrawDoActs_6 n F_l1Cur_bench F_l1Cur_act12 F_spec_l12Good F_spec_l12Do F_l1Cur_pick m0 p0 p1 p2 p3 p4 p5 p6 p7 p8 p9 p10 p11 p12 p13 p14 p15 p16 p17 p18 r3.2.1.2.1 r3.2.1.2.2.1 (p21 ++ ([r3.1.1] : List D_Act)) (IntKind.wrap .i64 (p22 - 1))
 else none
 else
 some (((p6, (p7, (p8, (p9, ())))), (p10, (p11, ()))), p21, ())
 else
 some (((p6, (p7, (p8, (p9, ())))), (p10, (p11, ()))), p21, ()) := by kernel_rfl
noncomputable def P_spec_DrawDoActs : Ft_spec_DrawDoActs := hid (runF (X_spec_DrawDoActs N P_l1Cur_bench P_l1Cur_act12 P_spec_l12Good P_spec_l12Do P_l1Cur_pick) B_spec_DrawDoActs As_spec_DrawDoActs R_spec_DrawDoActs M_spec_DrawDoActs)
theorem h_spec_DrawDoActs : P_spec_DrawDoActs = runF (X_spec_DrawDoActs N P_l1Cur_bench P_l1Cur_act12 P_spec_l12Good P_spec_l12Do P_l1Cur_pick) B_spec_DrawDoActs As_spec_DrawDoActs R_spec_DrawDoActs M_spec_DrawDoActs := hid_eq _
noncomputable def C_spec_DrawDoActs : Contract := ⟨As_spec_DrawDoActs, R_spec_DrawDoActs, M_spec_DrawDoActs, P_spec_DrawDoActs⟩
theorem s_spec_DrawDoActs : Sound Tryz.prog GG 38 C_spec_DrawDoActs := by
 unfold C_spec_DrawDoActs; rw [h_spec_DrawDoActs]
 exact sound_of_run (fn := Tryz.f38) hmix hstable (tyOK_of ttOK) (hglob (X_spec_DrawDoActs N P_l1Cur_bench P_l1Cur_act12 P_spec_l12Good P_spec_l12Do P_l1Cur_pick)) (conOK_of (X := X_spec_DrawDoActs N P_l1Cur_bench P_l1Cur_act12 P_spec_l12Good P_spec_l12Do P_l1Cur_pick) ⟨s_spec_l12Good, s_spec_l12Do, trivial⟩) (mconOK_of (X := X_spec_DrawDoActs N P_l1Cur_bench P_l1Cur_act12 P_spec_l12Good P_spec_l12Do P_l1Cur_pick) ⟨s_l1Cur_bench, s_l1Cur_act12, s_l1Cur_pick, trivial⟩) (by kernel_rfl) (by kernel_rfl) (by kernel_rfl) (by kernel_rfl) (by kernel_rfl) (of_decide_eq_true (by kernel_rfl))
noncomputable def l_spec_DrawDoActs_6 : Nat → Int → Int → Int → (List D_A3) → Int → Int → Int → Int → Int → (List D_A3) → Int → Int → Int → Int → Int → (List D_A3) → Int → Int → (List Int) → Int → Int → (List D_Act) → Int → Option (denL R_spec_DrawDoActs) := hid (fun m0 p0 p1 p2 p3 p4 p5 p6 p7 p8 p9 p10 p11 p12 p13 p14 p15 p16 p17 p18 p19 p20 p21 p22 => L_spec_DrawDoActs_6 N P_l1Cur_bench P_l1Cur_act12 P_spec_l12Good P_spec_l12Do P_l1Cur_pick m0 p0 p1 p2 p3 p4 p5 p6 p7 p8 p9 p10 p11 p12 p13 p14 p15 p16 p17 p18 p19 p20 p21 p22)
theorem h_spec_DrawDoActs_6 : l_spec_DrawDoActs_6 = fun m0 p0 p1 p2 p3 p4 p5 p6 p7 p8 p9 p10 p11 p12 p13 p14 p15 p16 p17 p18 p19 p20 p21 p22 => L_spec_DrawDoActs_6 N P_l1Cur_bench P_l1Cur_act12 P_spec_l12Good P_spec_l12Do P_l1Cur_pick m0 p0 p1 p2 p3 p4 p5 p6 p7 p8 p9 p10 p11 p12 p13 p14 p15 p16 p17 p18 p19 p20 p21 p22 := hid_eq _
theorem p_spec_DrawDoActs (a0 : List Int) : P_spec_DrawDoActs (a0, ()) = 
 Option.bind (P_l1Cur_bench ((a0, (0, (0, ()))), ())) fun r0 =>
 Option.bind (P_l1Cur_pick ((a0, r0.2.1.2), 6, ())) fun r1 =>
 l_spec_DrawDoActs_6 N 0 0 0 ([] : List D_A3) 0 0 r0.1.1.1.1 r0.1.1.1.2.1 r0.1.1.1.2.2.1 r0.1.1.1.2.2.2.1 r0.1.1.2.1 r0.1.1.2.2.1 r0.1.1.1.1 r0.1.1.1.2.1 r0.1.1.1.2.2.1 r0.1.1.1.2.2.2.1 r0.1.1.2.1 r0.1.1.2.2.1 a0 r1.2.1.2.1 r1.2.1.2.2.1 ([] : List D_Act) r1.1.1 := by
 rewrite [h_spec_DrawDoActs, h_spec_DrawDoActs_6]
 exact e_spec_DrawDoActs N P_l1Cur_bench P_l1Cur_act12 P_spec_l12Good P_spec_l12Do P_l1Cur_pick a0
theorem q_spec_DrawDoActs_6 (m0 : Nat) (p0 p1 p2 : Int) (p3 : List D_A3) (p4 p5 : Int) (p6 p7 p8 : Int) (p9 : List D_A3) (p10 p11 : Int) (p12 p13 p14 : Int) (p15 : List D_A3) (p16 p17 : Int) (p18 : List Int) (p19 p20 : Int) (p21 : List D_Act) (p22 : Int) : l_spec_DrawDoActs_6 (m0 + 1) p0 p1 p2 p3 p4 p5 p6 p7 p8 p9 p10 p11 p12 p13 p14 p15 p16 p17 p18 p19 p20 p21 p22 = 
 bif decide (p22 > 0) then
 Option.bind (P_spec_l12Good (((p12, (p13, (p14, (p15, ())))), (p16, (p17, ()))), ())) fun r1 =>
 bif r1.1 then
 Option.bind (P_l1Cur_act12 ((p18, (p19, (p20, ()))), (p12, (p13, (p14, (p15, ())))), ())) fun r3 =>
 bif (decide (((List.length p21) + (List.length ([r3.1.1] : List D_Act))) * 48 ≤ 140737488355328) && decide (((List.length p21) + (List.length ([r3.1.1] : List D_Act))) ≤ 140737488355328)) then
 Option.bind (P_spec_l12Do (((p12, (p13, (p14, (p15, ())))), (p16, (p17, ()))), r3.1.1, ())) fun r5 =>
 bif r5.2.1 then
 l_spec_DrawDoActs_6 m0 p0 p1 p2 p3 p4 p5 p6 p7 p8 p9 p10 p11 r5.1.1.1 r5.1.1.2.1 r5.1.1.2.2.1 r5.1.1.2.2.2.1 r5.1.2.1 r5.1.2.2.1 p18 r3.2.1.2.1 r3.2.1.2.2.1 (p21 ++ ([r3.1.1] : List D_Act)) (IntKind.wrap .i64 (p22 - 1))
 else
 l_spec_DrawDoActs_6 m0 p0 p1 p2 p3 p4 p5 p6 p7 p8 p9 p10 p11 p12 p13 p14 p15 p16 p17 p18 r3.2.1.2.1 r3.2.1.2.2.1 (p21 ++ ([r3.1.1] : List D_Act)) (IntKind.wrap .i64 (p22 - 1))
 else none
 else
 some (((p6, (p7, (p8, (p9, ())))), (p10, (p11, ()))), p21, ())
 else
 some (((p6, (p7, (p8, (p9, ())))), (p10, (p11, ()))), p21, ()) := by
 rewrite [h_spec_DrawDoActs_6]
 exact e_spec_DrawDoActs_6 N P_l1Cur_bench P_l1Cur_act12 P_spec_l12Good P_spec_l12Do P_l1Cur_pick m0 p0 p1 p2 p3 p4 p5 p6 p7 p8 p9 p10 p11 p12 p13 p14 p15 p16 p17 p18 p19 p20 p21 p22

abbrev As_impl_DoActs : List ATy := [.data true T_Bench, .data false (.sl T_Act)]
abbrev R_impl_DoActs : List (Bool × Ty) := [(true, T_Bench), (false, (.int .i64)), (false, .bool)]
abbrev M_impl_DoActs : List RMode := [.own 38]
abbrev Ft_impl_DoActs : Type := D_Bench × (List D_Act) × Unit → Option (D_Bench × Int × Bool × Unit)
noncomputable def X_impl_DoActs (n : Nat) (F_impl_DoAct : Ft_impl_DoAct) (F_impl_IsBench : Ft_impl_IsBench) (F_Bench_own : Ft_Bench_own) : Ctx := { types := TT, globals := [], con := [(36, ⟨As_impl_DoAct, R_impl_DoAct, M_impl_DoAct, F_impl_DoAct⟩), (42, ⟨As_impl_IsBench, R_impl_IsBench, M_impl_IsBench, F_impl_IsBench⟩), (78, ⟨As_Bench_own, R_Bench_own, M_Bench_own, F_Bench_own⟩)], keep := [(5, ⟨[.box 2, .box 4, .tmp 1, .tmp 2, .tmp 4, .tmp 17, .tmp 18, .tmp 19], []⟩)], results := [.cell 4 51, .tmp 5, .tmp 6], ntmps := 39, n := n }
noncomputable def B_impl_DoActs : Code := (Tryz.f39.body).getD .skip
noncomputable def L_impl_DoActs_5 (n : Nat) (F_impl_DoAct : Ft_impl_DoAct) (F_impl_IsBench : Ft_impl_IsBench) (F_Bench_own : Ft_Bench_own) (m0 : Nat) (p0 p1 p2 : Int) (p3 : List D_A3) (p4 p5 : Int) (p6 p7 p8 : Int) (p9 : List D_A3) (p10 p11 : Int) (p12 p13 : List D_Act) (p14 p15 : Int) : Option (denL R_impl_DoActs) := loopF (X_impl_DoActs n F_impl_DoAct F_impl_IsBench F_Bench_own) B_impl_DoActs R_impl_DoActs M_impl_DoActs 5 [m0] [(.ver, .num 1), (.box 2, .box 0 false [.int .i64 p0, .int .i64 p1, .int .i64 p2, .own 38 T_A3 0 p3, .int .i64 p4, .int .i64 p5]), (.box 4, .box 0 false [.int .i64 p6, .int .i64 p7, .int .i64 p8, .own 38 T_A3 0 p9, .int .i64 p10, .int .i64 p11]), (.tmp 1, .val false [.imm T_Act p12 (some 6)]), (.tmp 2, .val false [.addr 2 0 0]), (.tmp 4, .val false [.addr 4 0 0]), (.tmp 17, .val false [.imm T_Act p13 (some 6)]), (.tmp 18, .val false [.int .i64 p14]), (.tmp 19, .val false [.int .i64 p15])]
theorem e_impl_DoActs (n : Nat) (F_impl_DoAct : Ft_impl_DoAct) (F_impl_IsBench : Ft_impl_IsBench) (F_Bench_own : Ft_Bench_own) (a0 : D_Bench) (a1 : List D_Act) : runF (X_impl_DoActs n F_impl_DoAct F_impl_IsBench F_Bench_own) B_impl_DoActs As_impl_DoActs R_impl_DoActs M_impl_DoActs (a0, a1, ()) = 
 Option.bind (F_impl_IsBench (a0, ())) fun r0 =>
 bif !r0.1 then
 some (((0, (0, (0, (([] : List D_A3), ())))), (0, (0, ()))), 0, false, ())
 else
 Option.bind (F_Bench_own (a0, ())) fun r2 =>
 L_impl_DoActs_5 n F_impl_DoAct F_impl_IsBench F_Bench_own n r2.1.1.1 r2.1.1.2.1 r2.1.1.2.2.1 r2.1.1.2.2.2.1 r2.1.2.1 r2.1.2.2.1 0 0 0 ([] : List D_A3) 0 0 a1 a1 (List.length a1 : Int) 0 := by kernel_rfl
theorem e_impl_DoActs_5 (n : Nat) (F_impl_DoAct : Ft_impl_DoAct) (F_impl_IsBench : Ft_impl_IsBench) (F_Bench_own : Ft_Bench_own) (m0 : Nat) (p0 p1 p2 : Int) (p3 : List D_A3) (p4 p5 : Int) (p6 p7 p8 : Int) (p9 : List D_A3) (p10 p11 : Int) (p12 p13 : List D_Act) (p14 p15 : Int) : L_impl_DoActs_5 n F_impl_DoAct F_impl_IsBench F_Bench_own (m0 + 1) p0 p1 p2 p3 p4 p5 p6 p7 p8 p9 p10 p11 p12 p13 p14 p15 = 
 bif decide (p15 < p14) then
 bif inB p15 (List.length p13) then
 Option.bind (F_impl_DoAct (((p0, (p1, (p2, (p3, ())))), (p4, (p5, ()))), (nth T_Act p13 p15), ())) fun r2 =>
 bif !r2.2.1 then
 some (((p0, (p1, (p2, (p3, ())))), (p4, (p5, ()))), p15, true, ())
 else
 L_impl_DoActs_5 n F_impl_DoAct F_impl_IsBench F_Bench_own m0 r2.1.1.1 r2.1.1.2.1 r2.1.1.2.2.1 r2.1.1.2.2.2.1 r2.1.2.1 r2.1.2.2.1 p6 p7 p8 p9 p10 p11 p12 p13 p14 (IntKind.wrap .i64 (p15 + 1))
 else none
 else
 some (((p0, (p1, (p2, (p3, ())))), (p4, (p5, ()))), (List.length p12 : Int), true, ()) := by kernel_rfl
noncomputable def P_impl_DoActs : Ft_impl_DoActs := hid (runF (X_impl_DoActs N P_impl_DoAct P_impl_IsBench P_Bench_own) B_impl_DoActs As_impl_DoActs R_impl_DoActs M_impl_DoActs)
theorem h_impl_DoActs : P_impl_DoActs = runF (X_impl_DoActs N P_impl_DoAct P_impl_IsBench P_Bench_own) B_impl_DoActs As_impl_DoActs R_impl_DoActs M_impl_DoActs := hid_eq _
noncomputable def C_impl_DoActs : Contract := ⟨As_impl_DoActs, R_impl_DoActs, M_impl_DoActs, P_impl_DoActs⟩
theorem s_impl_DoActs : Sound Tryz.prog GG 39 C_impl_DoActs := by
 unfold C_impl_DoActs; rw [h_impl_DoActs]
 exact sound_of_run (fn := Tryz.f39) hmix hstable (tyOK_of ttOK) (hglob (X_impl_DoActs N P_impl_DoAct P_impl_IsBench P_Bench_own)) (conOK_of (X := X_impl_DoActs N P_impl_DoAct P_impl_IsBench P_Bench_own) ⟨s_impl_DoAct, s_impl_IsBench, s_Bench_own, trivial⟩) (mconOK_of (X := X_impl_DoActs N P_impl_DoAct P_impl_IsBench P_Bench_own) trivial) (by kernel_rfl) (by kernel_rfl) (by kernel_rfl) (by kernel_rfl) (by kernel_rfl) (of_decide_eq_true (by kernel_rfl))
noncomputable def l_impl_DoActs_5 : Nat → Int → Int → Int → (List D_A3) → Int → Int → Int → Int → Int → (List D_A3) → Int → Int → (List D_Act) → (List D_Act) → Int → Int → Option (denL R_impl_DoActs) := hid (fun m0 p0 p1 p2 p3 p4 p5 p6 p7 p8 p9 p10 p11 p12 p13 p14 p15 => L_impl_DoActs_5 N P_impl_DoAct P_impl_IsBench P_Bench_own m0 p0 p1 p2 p3 p4 p5 p6 p7 p8 p9 p10 p11 p12 p13 p14 p15)
theorem h_impl_DoActs_5 : l_impl_DoActs_5 = fun m0 p0 p1 p2 p3 p4 p5 p6 p7 p8 p9 p10 p11 p12 p13 p14 p15 => L_impl_DoActs_5 N P_impl_DoAct P_impl_IsBench P_Bench_own m0 p0 p1 p2 p3 p4 p5 p6 p7 p8 p9 p10 p11 p12 p13 p14 p15 := hid_eq _
theorem p_impl_DoActs (a0 : D_Bench) (a1 : List D_Act) : P_impl_DoActs (a0, a1, ()) = 
 Option.bind (P_impl_IsBench (a0, ())) fun r0 =>
 bif !r0.1 then
 some (((0, (0, (0, (([] : List D_A3), ())))), (0, (0, ()))), 0, false, ())
 else
 Option.bind (P_Bench_own (a0, ())) fun r2 =>
 l_impl_DoActs_5 N r2.1.1.1 r2.1.1.2.1 r2.1.1.2.2.1 r2.1.1.2.2.2.1 r2.1.2.1 r2.1.2.2.1 0 0 0 ([] : List D_A3) 0 0 a1 a1 (List.length a1 : Int) 0 := by
 rewrite [h_impl_DoActs, h_impl_DoActs_5]
 exact e_impl_DoActs N P_impl_DoAct P_impl_IsBench P_Bench_own a0 a1
theorem q_impl_DoActs_5 (m0 : Nat) (p0 p1 p2 : Int) (p3 : List D_A3) (p4 p5 : Int) (p6 p7 p8 : Int) (p9 : List D_A3) (p10 p11 : Int) (p12 p13 : List D_Act) (p14 p15 : Int) : l_impl_DoActs_5 (m0 + 1) p0 p1 p2 p3 p4 p5 p6 p7 p8 p9 p10 p11 p12 p13 p14 p15 = 
 bif decide (p15 < p14) then
 bif inB p15 (List.length p13) then
 Option.bind (P_impl_DoAct (((p0, (p1, (p2, (p3, ())))), (p4, (p5, ()))), (nth T_Act p13 p15), ())) fun r2 =>
 bif !r2.2.1 then
 some (((p0, (p1, (p2, (p3, ())))), (p4, (p5, ()))), p15, true, ())
 else
 l_impl_DoActs_5 m0 r2.1.1.1 r2.1.1.2.1 r2.1.1.2.2.1 r2.1.1.2.2.2.1 r2.1.2.1 r2.1.2.2.1 p6 p7 p8 p9 p10 p11 p12 p13 p14 (IntKind.wrap .i64 (p15 + 1))
 else none
 else
 some (((p0, (p1, (p2, (p3, ())))), (p4, (p5, ()))), (List.length p12 : Int), true, ()) := by
 rewrite [h_impl_DoActs_5]
 exact e_impl_DoActs_5 N P_impl_DoAct P_impl_IsBench P_Bench_own m0 p0 p1 p2 p3 p4 p5 p6 p7 p8 p9 p10 p11 p12 p13 p14 p15

abbrev As_spec_DoActs : List ATy := [.data true T_Bench, .data false (.sl T_Act)]
abbrev R_spec_DoActs : List (Bool × Ty) := [(true, T_Bench), (false, (.int .i64)), (false, .bool)]
abbrev M_spec_DoActs : List RMode := [.own 38]
abbrev Ft_spec_DoActs : Type := D_Bench × (List D_Act) × Unit → Option (D_Bench × Int × Bool × Unit)
noncomputable def X_spec_DoActs (n : Nat) (F_spec_l12Own : Ft_spec_l12Own) (F_spec_l12Good : Ft_spec_l12Good) (F_spec_l12Do : Ft_spec_l12Do) : Ctx := { types := TT, globals := [], con := [(79, ⟨As_spec_l12Own, R_spec_l12Own, M_spec_l12Own, F_spec_l12Own⟩), (83, ⟨As_spec_l12Good, R_spec_l12Good, M_spec_l12Good, F_spec_l12Good⟩), (84, ⟨As_spec_l12Do, R_spec_l12Do, M_spec_l12Do, F_spec_l12Do⟩)], keep := [(5, ⟨[.box 4, .box 7, .tmp 1, .tmp 4, .tmp 7, .tmp 8], []⟩)], results := [.cell 4 51, .tmp 5, .tmp 6], ntmps := 40, n := n }
noncomputable def B_spec_DoActs : Code := (Tryz.f40.body).getD .skip
noncomputable def L_spec_DoActs_5 (n : Nat) (F_spec_l12Own : Ft_spec_l12Own) (F_spec_l12Good : Ft_spec_l12Good) (F_spec_l12Do : Ft_spec_l12Do) (m0 : Nat) (p0 p1 p2 : Int) (p3 : List D_A3) (p4 p5 : Int) (p6 p7 p8 : Int) (p9 : List D_A3) (p10 p11 : Int) (p12 : List D_Act) (p13 : Int) : Option (denL R_spec_DoActs) := loopF (X_spec_DoActs n F_spec_l12Own F_spec_l12Good F_spec_l12Do) B_spec_DoActs R_spec_DoActs M_spec_DoActs 5 [m0] [(.ver, .num 1), (.box 4, .box 0 false [.int .i64 p0, .int .i64 p1, .int .i64 p2, .own 38 T_A3 0 p3, .int .i64 p4, .int .i64 p5]), (.box 7, .box 0 false [.int .i64 p6, .int .i64 p7, .int .i64 p8, .own 38 T_A3 0 p9, .int .i64 p10, .int .i64 p11]), (.tmp 1, .val false [.imm T_Act p12 (some 6)]), (.tmp 4, .val false [.addr 4 0 0]), (.tmp 7, .val false [.addr 7 0 0]), (.tmp 8, .val false [.int .i64 p13])]
theorem e_spec_DoActs (n : Nat) (F_spec_l12Own : Ft_spec_l12Own) (F_spec_l12Good : Ft_spec_l12Good) (F_spec_l12Do : Ft_spec_l12Do) (a0 : D_Bench) (a1 : List D_Act) : runF (X_spec_DoActs n F_spec_l12Own F_spec_l12Good F_spec_l12Do) B_spec_DoActs As_spec_DoActs R_spec_DoActs M_spec_DoActs (a0, a1, ()) = 
 Option.bind (F_spec_l12Good (a0, ())) fun r0 =>
 bif !r0.1 then
 some (((0, (0, (0, (([] : List D_A3), ())))), (0, (0, ()))), 0, false, ())
 else
 Option.bind (F_spec_l12Own (a0, ())) fun r2 =>
 L_spec_DoActs_5 n F_spec_l12Own F_spec_l12Good F_spec_l12Do n 0 0 0 ([] : List D_A3) 0 0 r2.1.1.1 r2.1.1.2.1 r2.1.1.2.2.1 r2.1.1.2.2.2.1 r2.1.2.1 r2.1.2.2.1 a1 0 := by kernel_rfl
theorem e_spec_DoActs_5 (n : Nat) (F_spec_l12Own : Ft_spec_l12Own) (F_spec_l12Good : Ft_spec_l12Good) (F_spec_l12Do : Ft_spec_l12Do) (m0 : Nat) (p0 p1 p2 : Int) (p3 : List D_A3) (p4 p5 : Int) (p6 p7 p8 : Int) (p9 : List D_A3) (p10 p11 : Int) (p12 : List D_Act) (p13 : Int) : L_spec_DoActs_5 n F_spec_l12Own F_spec_l12Good F_spec_l12Do (m0 + 1) p0 p1 p2 p3 p4 p5 p6 p7 p8 p9 p10 p11 p12 p13 = 
 bif decide (p13 < (List.length p12 : Int)) then
 bif inB p13 (List.length p12) then
 Option.bind (F_spec_l12Do (((p6, (p7, (p8, (p9, ())))), (p10, (p11, ()))), (nth T_Act p12 p13), ())) fun r2 =>
 bif !r2.2.1 then
 some (((p6, (p7, (p8, (p9, ())))), (p10, (p11, ()))), p13, true, ())
 else
 L_spec_DoActs_5 n F_spec_l12Own F_spec_l12Good F_spec_l12Do m0 p0 p1 p2 p3 p4 p5 r2.1.1.1 r2.1.1.2.1 r2.1.1.2.2.1 r2.1.1.2.2.2.1 r2.1.2.1 r2.1.2.2.1 p12 (IntKind.wrap .i64 (p13 + 1))
 else none
 else
 some (((p6, (p7, (p8, (p9, ())))), (p10, (p11, ()))), (List.length p12 : Int), true, ()) := by kernel_rfl
noncomputable def P_spec_DoActs : Ft_spec_DoActs := hid (runF (X_spec_DoActs N P_spec_l12Own P_spec_l12Good P_spec_l12Do) B_spec_DoActs As_spec_DoActs R_spec_DoActs M_spec_DoActs)
theorem h_spec_DoActs : P_spec_DoActs = runF (X_spec_DoActs N P_spec_l12Own P_spec_l12Good P_spec_l12Do) B_spec_DoActs As_spec_DoActs R_spec_DoActs M_spec_DoActs := hid_eq _
noncomputable def C_spec_DoActs : Contract := ⟨As_spec_DoActs, R_spec_DoActs, M_spec_DoActs, P_spec_DoActs⟩
theorem s_spec_DoActs : Sound Tryz.prog GG 40 C_spec_DoActs := by
 unfold C_spec_DoActs; rw [h_spec_DoActs]
 exact sound_of_run (fn := Tryz.f40) hmix hstable (tyOK_of ttOK) (hglob (X_spec_DoActs N P_spec_l12Own P_spec_l12Good P_spec_l12Do)) (conOK_of (X := X_spec_DoActs N P_spec_l12Own P_spec_l12Good P_spec_l12Do) ⟨s_spec_l12Own, s_spec_l12Good, s_spec_l12Do, trivial⟩) (mconOK_of (X := X_spec_DoActs N P_spec_l12Own P_spec_l12Good P_spec_l12Do) trivial) (by kernel_rfl) (by kernel_rfl) (by kernel_rfl) (by kernel_rfl) (by kernel_rfl) (of_decide_eq_true (by kernel_rfl))
noncomputable def l_spec_DoActs_5 : Nat → Int → Int → Int → (List D_A3) → Int → Int → Int → Int → Int → (List D_A3) → Int → Int → (List D_Act) → Int → Option (denL R_spec_DoActs) := hid (fun m0 p0 p1 p2 p3 p4 p5 p6 p7 p8 p9 p10 p11 p12 p13 => L_spec_DoActs_5 N P_spec_l12Own P_spec_l12Good P_spec_l12Do m0 p0 p1 p2 p3 p4 p5 p6 p7 p8 p9 p10 p11 p12 p13)
theorem h_spec_DoActs_5 : l_spec_DoActs_5 = fun m0 p0 p1 p2 p3 p4 p5 p6 p7 p8 p9 p10 p11 p12 p13 => L_spec_DoActs_5 N P_spec_l12Own P_spec_l12Good P_spec_l12Do m0 p0 p1 p2 p3 p4 p5 p6 p7 p8 p9 p10 p11 p12 p13 := hid_eq _
theorem p_spec_DoActs (a0 : D_Bench) (a1 : List D_Act) : P_spec_DoActs (a0, a1, ()) = 
 Option.bind (P_spec_l12Good (a0, ())) fun r0 =>
 bif !r0.1 then
 some (((0, (0, (0, (([] : List D_A3), ())))), (0, (0, ()))), 0, false, ())
 else
 Option.bind (P_spec_l12Own (a0, ())) fun r2 =>
 l_spec_DoActs_5 N 0 0 0 ([] : List D_A3) 0 0 r2.1.1.1 r2.1.1.2.1 r2.1.1.2.2.1 r2.1.1.2.2.2.1 r2.1.2.1 r2.1.2.2.1 a1 0 := by
 rewrite [h_spec_DoActs, h_spec_DoActs_5]
 exact e_spec_DoActs N P_spec_l12Own P_spec_l12Good P_spec_l12Do a0 a1
theorem q_spec_DoActs_5 (m0 : Nat) (p0 p1 p2 : Int) (p3 : List D_A3) (p4 p5 : Int) (p6 p7 p8 : Int) (p9 : List D_A3) (p10 p11 : Int) (p12 : List D_Act) (p13 : Int) : l_spec_DoActs_5 (m0 + 1) p0 p1 p2 p3 p4 p5 p6 p7 p8 p9 p10 p11 p12 p13 = 
 bif decide (p13 < (List.length p12 : Int)) then
 bif inB p13 (List.length p12) then
 Option.bind (P_spec_l12Do (((p6, (p7, (p8, (p9, ())))), (p10, (p11, ()))), (nth T_Act p12 p13), ())) fun r2 =>
 bif !r2.2.1 then
 some (((p6, (p7, (p8, (p9, ())))), (p10, (p11, ()))), p13, true, ())
 else
 l_spec_DoActs_5 m0 p0 p1 p2 p3 p4 p5 r2.1.1.1 r2.1.1.2.1 r2.1.1.2.2.1 r2.1.1.2.2.2.1 r2.1.2.1 r2.1.2.2.1 p12 (IntKind.wrap .i64 (p13 + 1))
 else none
 else
 some (((p6, (p7, (p8, (p9, ())))), (p10, (p11, ()))), (List.length p12 : Int), true, ()) := by
 rewrite [h_spec_DoActs_5]
 exact e_spec_DoActs_5 N P_spec_l12Own P_spec_l12Good P_spec_l12Do m0 p0 p1 p2 p3 p4 p5 p6 p7 p8 p9 p10 p11 p12 p13

abbrev As_laws_vCells : List ATy := [.data false (.sl T_A3), .data false (.sl T_A3)]
abbrev R_laws_vCells : List (Bool × Ty) := [(false, .bool)]
abbrev M_laws_vCells : List RMode := []
abbrev Ft_laws_vCells : Type := (List D_A3) × (List D_A3) × Unit → Option (Bool × Unit)
noncomputable def X_laws_vCells (n : Nat) : Ctx := { types := TT, globals := [], con := [], keep := [(4, ⟨[.tmp 0, .tmp 1, .tmp 5], []⟩)], results := [.tmp 4], ntmps := 26, n := n }
noncomputable def B_laws_vCells : Code := (Tryz.f87.body).getD .skip
noncomputable def L_laws_vCells_4 (n m0 : Nat) (p0 p1 : List D_A3) (p2 : Int) : Option (denL R_laws_vCells) := loopF (X_laws_vCells n) B_laws_vCells R_laws_vCells M_laws_vCells 4 [m0] [(.ver, .num 1), (.tmp 0, .val false [.imm T_A3 p0 (some 0)]), (.tmp 1, .val false [.imm T_A3 p1 (some 1)]), (.tmp 5, .val false [.int .i64 p2])]
theorem e_laws_vCells (n : Nat) (a0 a1 : List D_A3) : runF (X_laws_vCells n) B_laws_vCells As_laws_vCells R_laws_vCells M_laws_vCells (a0, a1, ()) = 
 bif !decide ((List.length a0 : Int) = (List.length a1 : Int)) then
 some (false, ())
 else
 L_laws_vCells_4 n n a0 a1 0 := by kernel_rfl
theorem e_laws_vCells_4 (n m0 : Nat) (p0 p1 : List D_A3) (p2 : Int) : L_laws_vCells_4 n (m0 + 1) p0 p1 p2 = 
 bif decide (p2 < (List.length p0 : Int)) then
 bif inB p2 (List.length p0) then
 bif inB p2 (List.length p1) then
 bif !(decide (((nth T_A3 p0 p2)).1 = ((nth T_A3 p1 p2)).1) && (decide ((((nth T_A3 p0 p2)).2).1 = (((nth T_A3 p1 p2)).2).1) && (decide (((((nth T_A3 p0 p2)).2).2).1 = ((((nth T_A3 p1 p2)).2).2).1) && true))) then
 some (false, ())
 else
 L_laws_vCells_4 n m0 p0 p1 (IntKind.wrap .i64 (p2 + 1))
 else none
 else none
 else
 some (true, ()) := by kernel_rfl
noncomputable def P_laws_vCells : Ft_laws_vCells := hid (runF (X_laws_vCells N) B_laws_vCells As_laws_vCells R_laws_vCells M_laws_vCells)
theorem h_laws_vCells : P_laws_vCells = runF (X_laws_vCells N) B_laws_vCells As_laws_vCells R_laws_vCells M_laws_vCells := hid_eq _
noncomputable def C_laws_vCells : Contract := ⟨As_laws_vCells, R_laws_vCells, M_laws_vCells, P_laws_vCells⟩
theorem s_laws_vCells : Sound Tryz.prog GG 87 C_laws_vCells := by
 unfold C_laws_vCells; rw [h_laws_vCells]
 exact sound_of_run (fn := Tryz.f87) hmix hstable (tyOK_of ttOK) (hglob (X_laws_vCells N)) (conOK_of (X := X_laws_vCells N) trivial) (mconOK_of (X := X_laws_vCells N) trivial) (by kernel_rfl) (by kernel_rfl) (by kernel_rfl) (by kernel_rfl) (by kernel_rfl) (of_decide_eq_true (by kernel_rfl))
noncomputable def l_laws_vCells_4 : Nat → (List D_A3) → (List D_A3) → Int → Option (denL R_laws_vCells) := hid (fun m0 p0 p1 p2 => L_laws_vCells_4 N m0 p0 p1 p2)
theorem h_laws_vCells_4 : l_laws_vCells_4 = fun m0 p0 p1 p2 => L_laws_vCells_4 N m0 p0 p1 p2 := hid_eq _
theorem p_laws_vCells (a0 a1 : List D_A3) : P_laws_vCells (a0, a1, ()) = 
 bif !decide ((List.length a0 : Int) = (List.length a1 : Int)) then
 some (false, ())
 else
 l_laws_vCells_4 N a0 a1 0 := by
 rewrite [h_laws_vCells, h_laws_vCells_4]
 exact e_laws_vCells N a0 a1
theorem q_laws_vCells_4 (m0 : Nat) (p0 p1 : List D_A3) (p2 : Int) : l_laws_vCells_4 (m0 + 1) p0 p1 p2 = 
 bif decide (p2 < (List.length p0 : Int)) then
 bif inB p2 (List.length p0) then
 bif inB p2 (List.length p1) then
 bif !(decide (((nth T_A3 p0 p2)).1 = ((nth T_A3 p1 p2)).1) && (decide ((((nth T_A3 p0 p2)).2).1 = (((nth T_A3 p1 p2)).2).1) && (decide (((((nth T_A3 p0 p2)).2).2).1 = ((((nth T_A3 p1 p2)).2).2).1) && true))) then
 some (false, ())
 else
 l_laws_vCells_4 m0 p0 p1 (IntKind.wrap .i64 (p2 + 1))
 else none
 else none
 else
 some (true, ()) := by
 rewrite [h_laws_vCells_4]
 exact e_laws_vCells_4 N m0 p0 p1 p2

abbrev As_laws_vHeap : List ATy := [.data true T_Heap, .data true T_Heap]
abbrev R_laws_vHeap : List (Bool × Ty) := [(false, .bool)]
abbrev M_laws_vHeap : List RMode := []
abbrev Ft_laws_vHeap : Type := D_Heap × D_Heap × Unit → Option (Bool × Unit)
noncomputable def X_laws_vHeap (n : Nat) (F_laws_vCells : Ft_laws_vCells) : Ctx := { types := TT, globals := [], con := [(87, ⟨As_laws_vCells, R_laws_vCells, M_laws_vCells, F_laws_vCells⟩)], keep := [], results := [.tmp 4], ntmps := 31, n := n }
noncomputable def B_laws_vHeap : Code := (Tryz.f44.body).getD .skip
theorem e_laws_vHeap (n : Nat) (F_laws_vCells : Ft_laws_vCells) (a0 a1 : D_Heap) : runF (X_laws_vHeap n F_laws_vCells) B_laws_vHeap As_laws_vHeap R_laws_vHeap M_laws_vHeap (a0, a1, ()) = 
 bif decide (a0.1 = a1.1) then
 bif decide (a0.2.1 = a1.2.1) then
 bif decide (a0.2.2.1 = a1.2.2.1) then
 Option.bind (F_laws_vCells (a0.2.2.2.1, a1.2.2.2.1, ())) fun r3 =>
 some (r3.1, ())
 else
 some (false, ())
 else
 some (false, ())
 else
 some (false, ()) := by kernel_rfl
noncomputable def P_laws_vHeap : Ft_laws_vHeap := hid (runF (X_laws_vHeap N P_laws_vCells) B_laws_vHeap As_laws_vHeap R_laws_vHeap M_laws_vHeap)
theorem h_laws_vHeap : P_laws_vHeap = runF (X_laws_vHeap N P_laws_vCells) B_laws_vHeap As_laws_vHeap R_laws_vHeap M_laws_vHeap := hid_eq _
noncomputable def C_laws_vHeap : Contract := ⟨As_laws_vHeap, R_laws_vHeap, M_laws_vHeap, P_laws_vHeap⟩
theorem s_laws_vHeap : Sound Tryz.prog GG 44 C_laws_vHeap := by
 unfold C_laws_vHeap; rw [h_laws_vHeap]
 exact sound_of_run (fn := Tryz.f44) hmix hstable (tyOK_of ttOK) (hglob (X_laws_vHeap N P_laws_vCells)) (conOK_of (X := X_laws_vHeap N P_laws_vCells) ⟨s_laws_vCells, trivial⟩) (mconOK_of (X := X_laws_vHeap N P_laws_vCells) trivial) (by kernel_rfl) (by kernel_rfl) (by kernel_rfl) (by kernel_rfl) (by kernel_rfl) (of_decide_eq_true (by kernel_rfl))
theorem p_laws_vHeap (a0 a1 : D_Heap) : P_laws_vHeap (a0, a1, ()) = 
 bif decide (a0.1 = a1.1) then
 bif decide (a0.2.1 = a1.2.1) then
 bif decide (a0.2.2.1 = a1.2.2.1) then
 Option.bind (P_laws_vCells (a0.2.2.2.1, a1.2.2.2.1, ())) fun r3 =>
 some (r3.1, ())
 else
 some (false, ())
 else
 some (false, ())
 else
 some (false, ()) := by
 rewrite [h_laws_vHeap]
 exact e_laws_vHeap N P_laws_vCells a0 a1

abbrev As_laws_vBench : List ATy := [.data true T_Bench, .data true T_Bench]
abbrev R_laws_vBench : List (Bool × Ty) := [(false, .bool)]
abbrev M_laws_vBench : List RMode := []
abbrev Ft_laws_vBench : Type := D_Bench × D_Bench × Unit → Option (Bool × Unit)
noncomputable def X_laws_vBench (n : Nat) (F_laws_vHeap : Ft_laws_vHeap) : Ctx := { types := TT, globals := [], con := [(44, ⟨As_laws_vHeap, R_laws_vHeap, M_laws_vHeap, F_laws_vHeap⟩)], keep := [], results := [.tmp 4], ntmps := 24, n := n }
noncomputable def B_laws_vBench : Code := (Tryz.f41.body).getD .skip
theorem e_laws_vBench (n : Nat) (F_laws_vHeap : Ft_laws_vHeap) (a0 a1 : D_Bench) : runF (X_laws_vBench n F_laws_vHeap) B_laws_vBench As_laws_vBench R_laws_vBench M_laws_vBench (a0, a1, ()) = 
 Option.bind (F_laws_vHeap (a0.1, a1.1, ())) fun r0 =>
 bif r0.1 then
 bif decide (a0.2.1 = a1.2.1) then
 some (decide (a0.2.2.1 = a1.2.2.1), ())
 else
 some (false, ())
 else
 some (false, ()) := by kernel_rfl
noncomputable def P_laws_vBench : Ft_laws_vBench := hid (runF (X_laws_vBench N P_laws_vHeap) B_laws_vBench As_laws_vBench R_laws_vBench M_laws_vBench)
theorem h_laws_vBench : P_laws_vBench = runF (X_laws_vBench N P_laws_vHeap) B_laws_vBench As_laws_vBench R_laws_vBench M_laws_vBench := hid_eq _
noncomputable def C_laws_vBench : Contract := ⟨As_laws_vBench, R_laws_vBench, M_laws_vBench, P_laws_vBench⟩
theorem s_laws_vBench : Sound Tryz.prog GG 41 C_laws_vBench := by
 unfold C_laws_vBench; rw [h_laws_vBench]
 exact sound_of_run (fn := Tryz.f41) hmix hstable (tyOK_of ttOK) (hglob (X_laws_vBench N P_laws_vHeap)) (conOK_of (X := X_laws_vBench N P_laws_vHeap) ⟨s_laws_vHeap, trivial⟩) (mconOK_of (X := X_laws_vBench N P_laws_vHeap) trivial) (by kernel_rfl) (by kernel_rfl) (by kernel_rfl) (by kernel_rfl) (by kernel_rfl) (of_decide_eq_true (by kernel_rfl))
theorem p_laws_vBench (a0 a1 : D_Bench) : P_laws_vBench (a0, a1, ()) = 
 Option.bind (P_laws_vHeap (a0.1, a1.1, ())) fun r0 =>
 bif r0.1 then
 bif decide (a0.2.1 = a1.2.1) then
 some (decide (a0.2.2.1 = a1.2.2.1), ())
 else
 some (false, ())
 else
 some (false, ()) := by
 rewrite [h_laws_vBench]
 exact e_laws_vBench N P_laws_vHeap a0 a1

abbrev As_spec_IsBench : List ATy := [.data true T_Bench]
abbrev R_spec_IsBench : List (Bool × Ty) := [(false, .bool)]
abbrev M_spec_IsBench : List RMode := []
abbrev Ft_spec_IsBench : Type := D_Bench × Unit → Option (Bool × Unit)
noncomputable def X_spec_IsBench (n : Nat) (F_spec_l12Good : Ft_spec_l12Good) : Ctx := { types := TT, globals := [], con := [(83, ⟨As_spec_l12Good, R_spec_l12Good, M_spec_l12Good, F_spec_l12Good⟩)], keep := [], results := [.tmp 2], ntmps := 5, n := n }
noncomputable def B_spec_IsBench : Code := (Tryz.f43.body).getD .skip
theorem e_spec_IsBench (n : Nat) (F_spec_l12Good : Ft_spec_l12Good) (a0 : D_Bench) : runF (X_spec_IsBench n F_spec_l12Good) B_spec_IsBench As_spec_IsBench R_spec_IsBench M_spec_IsBench (a0, ()) = 
 Option.bind (F_spec_l12Good (a0, ())) fun r0 =>
 some (r0.1, ()) := by kernel_rfl
noncomputable def P_spec_IsBench : Ft_spec_IsBench := hid (runF (X_spec_IsBench N P_spec_l12Good) B_spec_IsBench As_spec_IsBench R_spec_IsBench M_spec_IsBench)
theorem h_spec_IsBench : P_spec_IsBench = runF (X_spec_IsBench N P_spec_l12Good) B_spec_IsBench As_spec_IsBench R_spec_IsBench M_spec_IsBench := hid_eq _
noncomputable def C_spec_IsBench : Contract := ⟨As_spec_IsBench, R_spec_IsBench, M_spec_IsBench, P_spec_IsBench⟩
theorem s_spec_IsBench : Sound Tryz.prog GG 43 C_spec_IsBench := by
 unfold C_spec_IsBench; rw [h_spec_IsBench]
 exact sound_of_run (fn := Tryz.f43) hmix hstable (tyOK_of ttOK) (hglob (X_spec_IsBench N P_spec_l12Good)) (conOK_of (X := X_spec_IsBench N P_spec_l12Good) ⟨s_spec_l12Good, trivial⟩) (mconOK_of (X := X_spec_IsBench N P_spec_l12Good) trivial) (by kernel_rfl) (by kernel_rfl) (by kernel_rfl) (by kernel_rfl) (by kernel_rfl) (of_decide_eq_true (by kernel_rfl))
theorem p_spec_IsBench (a0 : D_Bench) : P_spec_IsBench (a0, ()) = 
 Option.bind (P_spec_l12Good (a0, ())) fun r0 =>
 some (r0.1, ()) := by
 rewrite [h_spec_IsBench]
 exact e_spec_IsBench N P_spec_l12Good a0
end Go.VI
