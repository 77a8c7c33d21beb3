/- What the functions of the seat compute, as printed by wip/tools. -/
import Derived.Test.YtlnfgikipeiaiaaGreatViFunM
import Derived.Test.YtlnfgikipeiaiaaGreatProg
namespace Go.VI
open Go.Proofs
set_option maxRecDepth 100000
noncomputable section
def n0 : Nat := 0
def GG : World → Prop := fun _ => True
theorem hstable : Stable n0 GG := stable_true
theorem hmix : Tryz.prog.follows .mixedOrders = true := by kernel_rfl
theorem hglob (X : Ctx) (h : X.globals = [] := by rfl) (A : Fix) (_ : A.P = Tryz.prog) (_ : A.G = GG) : GlobOK A X := globOK_none h A
abbrev T_A2 : Ty := (.pair (.int .i64) (.pair (.int .i64) .unit))
abbrev D_A2 : Type := Int × Int × Unit
abbrev T_A3 : Ty := (.pair (.int .i64) (.pair (.int .i64) (.pair (.int .i64) .unit)))
abbrev D_A3 : Type := Int × Int × Int × Unit
abbrev T_Heap : Ty := (.pair (.int .i64) (.pair (.int .i64) (.pair (.int .i64) (.pair (.sl T_A3) .unit))))
abbrev D_Heap : Type := Int × Int × Int × (List D_A3) × Unit
abbrev T_l8Turn : Ty := (.pair T_A3 (.pair T_A3 .unit))
abbrev D_l8Turn : Type := D_A3 × D_A3 × Unit
abbrev T_l1Cur : Ty := (.pair (.sl (.int .u8)) (.pair (.int .i64) (.pair (.int .u64) .unit)))
def TT : List (TypeId × TI) := [(3, ⟨Tryz.t3.desc, (.int .i64), false, 8, [.int .i64 0], false⟩),
 (5, ⟨Tryz.t5.desc, (.int .u8), false, 1, [.int .u8 0], false⟩),
 (22, ⟨Tryz.t22.desc, (.sl T_A3), false, 24, [.nil 55 T_A3], false⟩),
 (24, ⟨Tryz.t23.desc, T_Heap, true, 48, [.int .i64 0, .int .i64 0, .int .i64 0, .nil 55 T_A3], false⟩),
 (26, ⟨Tryz.t26.desc, (.sl T_Heap), false, 24, [.nil 29 T_Heap], false⟩),
 (29, ⟨Tryz.t23.desc, T_Heap, true, 48, [.int .i64 0, .int .i64 0, .int .i64 0, .nil 55 T_A3], false⟩),
 (36, ⟨Tryz.t36.desc, (.sl (.int .u8)), false, 24, [.nil 5 (.int .u8)], false⟩),
 (44, ⟨Tryz.t44.desc, (.sl (.sl T_A3)), false, 24, [.nil 22 (.sl T_A3)], false⟩),
 (52, ⟨Tryz.t52.desc, (.sl T_l8Turn), false, 24, [.nil 57 T_l8Turn], false⟩),
 (55, ⟨Tryz.t55.desc, T_A3, true, 24, [.int .i64 0, .int .i64 0, .int .i64 0], false⟩),
 (57, ⟨Tryz.t56.desc, T_l8Turn, true, 48, [.int .i64 0, .int .i64 0, .int .i64 0, .int .i64 0, .int .i64 0, .int .i64 0], false⟩),
 (72, ⟨Tryz.t72.desc, (.int .u64), false, 8, [.int .u64 0], false⟩),
 (74, ⟨Tryz.t73.desc, T_l1Cur, true, 40, [.nil 5 (.int .u8), .int .i64 0, .int .u64 0], false⟩),
 (76, ⟨Tryz.t76.desc, (.sl (.int .i64)), false, 24, [.nil 3 (.int .i64)], false⟩),
 (80, ⟨Tryz.t80.desc, (.sl (.int .u64)), false, 24, [.nil 84 (.int .u64)], false⟩),
 (81, ⟨Tryz.t55.desc, T_A3, true, 24, [.int .i64 0, .int .i64 0, .int .i64 0], false⟩),
 (84, ⟨Tryz.t72.desc, (.int .u64), false, 8, [.int .u64 0], false⟩),
 (98, ⟨Tryz.t98.desc, (.sl T_l8Turn), false, 24, [.nil 101 T_l8Turn], false⟩),
 (101, ⟨Tryz.t100.desc, T_l8Turn, true, 48, [.int .i64 0, .int .i64 0, .int .i64 0, .int .i64 0, .int .i64 0, .int .i64 0], false⟩),
 (111, ⟨Tryz.t111.desc, (.pair T_A3 (.pair T_A3 (.pair T_A3 (.pair T_A3 (.pair T_A3 (.pair T_A3 .unit)))))), true, 144, [.int .i64 0, .int .i64 0, .int .i64 0, .int .i64 0, .int .i64 0, .int .i64 0, .int .i64 0, .int .i64 0, .int .i64 0, .int .i64 0, .int .i64 0, .int .i64 0, .int .i64 0, .int .i64 0, .int .i64 0, .int .i64 0, .int .i64 0, .int .i64 0], false⟩),
 (141, ⟨Tryz.t141.desc, T_A2, true, 16, [.int .i64 0, .int .i64 0], false⟩)]
theorem ttOK : allP (fun q => tiB Tryz.prog q.1 q.2) TT :=
 ⟨⟨by kernel_rfl, by kernel_rfl, by kernel_rfl, by kernel_rfl, by kernel_rfl, by kernel_rfl⟩, ⟨by kernel_rfl, by kernel_rfl, by kernel_rfl, by kernel_rfl, by kernel_rfl, by kernel_rfl⟩, ⟨by kernel_rfl, by kernel_rfl, by kernel_rfl, by kernel_rfl, by kernel_rfl, by kernel_rfl⟩, ⟨by kernel_rfl, by kernel_rfl, by kernel_rfl, by kernel_rfl, by kernel_rfl, by kernel_rfl⟩, ⟨by kernel_rfl, by kernel_rfl, by kernel_rfl, by kernel_rfl, by kernel_rfl, by kernel_rfl⟩, ⟨by kernel_rfl, by kernel_rfl, by kernel_rfl, by kernel_rfl, by kernel_rfl, by kernel_rfl⟩, ⟨by kernel_rfl, by kernel_rfl, by kernel_rfl, by kernel_rfl, by kernel_rfl, by kernel_rfl⟩, ⟨by kernel_rfl, by kernel_rfl, by kernel_rfl, by kernel_rfl, by kernel_rfl, by kernel_rfl⟩, ⟨by kernel_rfl, by kernel_rfl, by kernel_rfl, by kernel_rfl, by kernel_rfl, by kernel_rfl⟩, ⟨by kernel_rfl, by kernel_rfl, by kernel_rfl, by kernel_rfl, by kernel_rfl, by kernel_rfl⟩, ⟨by kernel_rfl, by kernel_rfl, by kernel_rfl, by kernel_rfl, by kernel_rfl, by kernel_rfl⟩, ⟨by kernel_rfl, by kernel_rfl, by kernel_rfl, by kernel_rfl, by kernel_rfl, by kernel_rfl⟩, ⟨by kernel_rfl, by kernel_rfl, by kernel_rfl, by kernel_rfl, by kernel_rfl, by kernel_rfl⟩, ⟨by kernel_rfl, by kernel_rfl, by kernel_rfl, by kernel_rfl, by kernel_rfl, by kernel_rfl⟩, ⟨by kernel_rfl, by kernel_rfl, by kernel_rfl, by kernel_rfl, by kernel_rfl, by kernel_rfl⟩, ⟨by kernel_rfl, by kernel_rfl, by kernel_rfl, by kernel_rfl, by kernel_rfl, by kernel_rfl⟩, ⟨by kernel_rfl, by kernel_rfl, by kernel_rfl, by kernel_rfl, by kernel_rfl, by kernel_rfl⟩, ⟨by kernel_rfl, by kernel_rfl, by kernel_rfl, by kernel_rfl, by kernel_rfl, by kernel_rfl⟩, ⟨by kernel_rfl, by kernel_rfl, by kernel_rfl, by kernel_rfl, by kernel_rfl, by kernel_rfl⟩, ⟨by kernel_rfl, by kernel_rfl, by kernel_rfl, by kernel_rfl, by kernel_rfl, by kernel_rfl⟩, ⟨by kernel_rfl, by kernel_rfl, by kernel_rfl, by kernel_rfl, by kernel_rfl, by kernel_rfl⟩, trivial⟩
theorem mkS {f : FuncId} {c : Code} {X : Ctx} {As : List ATy} {R : List (Bool × Ty)} {M : List RMode} (fn : Func) (hc : allP (fun p => Sound Tryz.prog GG p.1 p.2) X.con) (hm : allP (fun p => SoundM Tryz.prog n0 GG p.1 p.2) X.mcon) (hT : X.types = TT := by rfl) (hg : X.globals = [] := by rfl) (hf : Tryz.prog.funcs[f]? = some fn := by kernel_rfl) (hb : fn.body = some c := by kernel_rfl) (hn : (fn.name == "runtime.NumGoroutine") = false := by kernel_rfl) (hr : X.results = fn.results.toList := by kernel_rfl) (ht : X.ntmps = fn.ntmps := by kernel_rfl) (hA : decide (As.length ≤ X.ntmps ∧ X.ntmps ≤ lentBase) = true := by kernel_rfl) : Sound Tryz.prog GG f ⟨As, R, M, runF X c As R M⟩ :=
 sound_of_run hmix hstable (tyOK_of (by rw [hT]; exact ttOK)) (hglob X hg) (conOK_of hc) (mconOK_of hm) hf hb hn hr ht (of_decide_eq_true hA)
theorem mkSM {f : FuncId} {c : Code} {X : Ctx} {As : List ATy} {R : List (Bool × Ty)} {M : List RMode} (fn : Func) (hc : allP (fun p => Sound Tryz.prog GG p.1 p.2) X.con) (hm : allP (fun p => SoundM Tryz.prog n0 GG p.1 p.2) X.mcon) (hT : X.types = TT := by rfl) (hg : X.globals = [] := by rfl) (hf : Tryz.prog.funcs[f]? = some fn := by kernel_rfl) (hb : fn.body = some c := by kernel_rfl) (hn : (fn.name == "runtime.NumGoroutine") = false := by kernel_rfl) (hr : X.results = fn.results.toList := by kernel_rfl) (ht : X.ntmps = fn.ntmps := by kernel_rfl) (hA : decide (As.length ≤ X.ntmps ∧ X.ntmps ≤ lentBase) = true := by kernel_rfl) (hR : R.length = X.results.length := by kernel_rfl) (hms : (M.all fun | .pass _ => false | _ => true) = true := by rfl) : SoundM Tryz.prog n0 GG f ⟨As, R, M, runFM X c As R M⟩ :=
 sound_of_runM hmix hstable (tyOK_of (by rw [hT]; exact ttOK)) (hglob X hg) (conOK_of hc) (mconOK_of hm) hf hb hn hr ht (of_decide_eq_true hA) hR hms
abbrev As_spec_l1In : List ATy := [.data false (.int .i64), .data false (.int .i64), .data false (.int .i64)]
abbrev R_spec_l1In : List (Bool × Ty) := [(false, .bool)]
abbrev M_spec_l1In : List RMode := []
abbrev Ft_spec_l1In : Type := Int × Int × Int × Unit → Option (Bool × Unit)
def X_spec_l1In : Ctx := { types := TT, globals := [], con := [], keep := [], results := [.tmp 6], ntmps := 15, n := N }
def B_spec_l1In : Code := (Tryz.f51.body).getD .skip
def P_spec_l1In : Ft_spec_l1In := hid (runF X_spec_l1In B_spec_l1In As_spec_l1In R_spec_l1In M_spec_l1In)
theorem h_spec_l1In : P_spec_l1In = runF X_spec_l1In B_spec_l1In As_spec_l1In R_spec_l1In M_spec_l1In := hid_eq _
def C_spec_l1In : Contract := ⟨As_spec_l1In, R_spec_l1In, M_spec_l1In, P_spec_l1In⟩
theorem s_spec_l1In : Sound Tryz.prog GG 51 C_spec_l1In := by
 unfold C_spec_l1In; rw [h_spec_l1In]
 exact mkS Tryz.f51 trivial trivial
theorem p_spec_l1In (a0 a1 a2 : Int) : P_spec_l1In (a0, a1, a2, ()) =
 bif decide (a0 ≥ a1) then
 some (decide (a0 ≤ a2), ())
 else
 some (false, ()) := by
 rewrite [h_spec_l1In]
 kernel_rfl
abbrev As_spec_l2Before : List ATy := [.data true T_A3, .data true T_A3]
abbrev R_spec_l2Before : List (Bool × Ty) := [(false, .bool)]
abbrev M_spec_l2Before : List RMode := []
abbrev Ft_spec_l2Before : Type := D_A3 × D_A3 × Unit → Option (Bool × Unit)
def X_spec_l2Before : Ctx := { types := TT, globals := [], con := [], keep := [(2, ⟨[.box 2, .box 3, .tmp 2, .tmp 3, .tmp 5], []⟩)], results := [.tmp 4], ntmps := 24, n := N }
def B_spec_l2Before : Code := (Tryz.f111.body).getD .skip
def L_spec_l2Before_2 (m0 : Nat) (p0 p1 p2 p3 p4 p5 p6 : Int) : Option (denL R_spec_l2Before) := loopF X_spec_l2Before B_spec_l2Before R_spec_l2Before M_spec_l2Before 2 [m0] [(.ver, .num 1), (.box 2, .box 0 false [.int .i64 p0, .int .i64 p1, .int .i64 p2]), (.box 3, .box 0 false [.int .i64 p3, .int .i64 p4, .int .i64 p5]), (.tmp 2, .val false [.addr 2 0 0]), (.tmp 3, .val false [.addr 3 0 0]), (.tmp 5, .val false [.int .i64 p6])]
def P_spec_l2Before : Ft_spec_l2Before := hid (runF X_spec_l2Before B_spec_l2Before As_spec_l2Before R_spec_l2Before M_spec_l2Before)
theorem h_spec_l2Before : P_spec_l2Before = runF X_spec_l2Before B_spec_l2Before As_spec_l2Before R_spec_l2Before M_spec_l2Before := hid_eq _
def C_spec_l2Before : Contract := ⟨As_spec_l2Before, R_spec_l2Before, M_spec_l2Before, P_spec_l2Before⟩
theorem s_spec_l2Before : Sound Tryz.prog GG 111 C_spec_l2Before := by
 unfold C_spec_l2Before; rw [h_spec_l2Before]
 exact mkS Tryz.f111 trivial trivial
def l_spec_l2Before_2 := hid (L_spec_l2Before_2)
theorem h_spec_l2Before_2 : l_spec_l2Before_2 = L_spec_l2Before_2 := hid_eq _
theorem p_spec_l2Before (a0 a1 : D_A3) : P_spec_l2Before (a0, a1, ()) =
 l_spec_l2Before_2 N a0.1 a0.2.1 a0.2.2.1 a1.1 a1.2.1 a1.2.2.1 0 := by
 rewrite [h_spec_l2Before, h_spec_l2Before_2]
 kernel_rfl
theorem q_spec_l2Before_2 (m0 : Nat) (p0 p1 p2 p3 p4 p5 p6 : Int) : l_spec_l2Before_2 (m0 + 1) p0 p1 p2 p3 p4 p5 p6 =
 bif decide (p6 < 3) then
 bif inB p6 3 then
 bif inB p6 3 then
 bif !decide ((bif decide (p6 = (0 : Int)) then p0 else (bif decide (p6 = (1 : Int)) then p1 else p2)) = (bif decide (p6 = (0 : Int)) then p3 else (bif decide (p6 = (1 : Int)) then p4 else p5))) then
 bif inB p6 3 then
 bif inB p6 3 then
 some (decide ((bif decide (p6 = (0 : Int)) then p0 else (bif decide (p6 = (1 : Int)) then p1 else p2)) < (bif decide (p6 = (0 : Int)) then p3 else (bif decide (p6 = (1 : Int)) then p4 else p5))), ())
 else none
 else none
 else
 l_spec_l2Before_2 m0 p0 p1 p2 p3 p4 p5 (IntKind.wrap .i64 (p6 + 1))
 else none
 else none
 else
 some (false, ()) := by
 rewrite [h_spec_l2Before_2]
 kernel_rfl
abbrev As_spec_l8Less : List ATy := [.data true T_Heap, .data true T_Heap]
abbrev R_spec_l8Less : List (Bool × Ty) := [(false, .bool)]
abbrev M_spec_l8Less : List RMode := []
abbrev Ft_spec_l8Less : Type := D_Heap × D_Heap × Unit → Option (Bool × Unit)
def X_spec_l8Less : Ctx := { types := TT, globals := [], con := [(111, C_spec_l2Before)], keep := [(5, ⟨[.box 2, .box 3, .tmp 2, .tmp 3, .tmp 7], []⟩)], results := [.tmp 4], ntmps := 71, n := N }
def B_spec_l8Less : Code := (Tryz.f78.body).getD .skip
def L_spec_l8Less_5 (m0 : Nat) (p0 p1 p2 : Int) (p3 : List D_A3) (p4 p5 p6 : Int) (p7 : List D_A3) (p8 : Int) : Option (denL R_spec_l8Less) := loopF X_spec_l8Less B_spec_l8Less R_spec_l8Less M_spec_l8Less 5 [m0] [(.ver, .num 1), (.box 2, .box 0 false [.int .i64 p0, .int .i64 p1, .int .i64 p2, .imm T_A3 p3 (some 3)]), (.box 3, .box 0 false [.int .i64 p4, .int .i64 p5, .int .i64 p6, .imm T_A3 p7 (some 7)]), (.tmp 2, .val false [.addr 2 0 0]), (.tmp 3, .val false [.addr 3 0 0]), (.tmp 7, .val false [.int .i64 p8])]
def P_spec_l8Less : Ft_spec_l8Less := hid (runF X_spec_l8Less B_spec_l8Less As_spec_l8Less R_spec_l8Less M_spec_l8Less)
theorem h_spec_l8Less : P_spec_l8Less = runF X_spec_l8Less B_spec_l8Less As_spec_l8Less R_spec_l8Less M_spec_l8Less := hid_eq _
def C_spec_l8Less : Contract := ⟨As_spec_l8Less, R_spec_l8Less, M_spec_l8Less, P_spec_l8Less⟩
theorem s_spec_l8Less : Sound Tryz.prog GG 78 C_spec_l8Less := by
 unfold C_spec_l8Less; rw [h_spec_l8Less]
 exact mkS Tryz.f78 ⟨s_spec_l2Before, trivial⟩ trivial
def l_spec_l8Less_5 := hid (L_spec_l8Less_5)
theorem h_spec_l8Less_5 : l_spec_l8Less_5 = L_spec_l8Less_5 := hid_eq _
theorem p_spec_l8Less (a0 a1 : D_Heap) : P_spec_l8Less (a0, a1, ()) =
 bif !(decide (a0.1 = a1.1) && (decide (a0.2.1 = a1.2.1) && (decide (a0.2.2.1 = a1.2.2.1) && true))) then
 Option.bind (P_spec_l2Before ((a0.1, (a0.2.1, (a0.2.2.1, ()))), (a1.1, (a1.2.1, (a1.2.2.1, ()))), ())) fun r1 =>
 some (r1.1, ())
 else
 l_spec_l8Less_5 N a0.1 a0.2.1 a0.2.2.1 a0.2.2.2.1 a1.1 a1.2.1 a1.2.2.1 a1.2.2.2.1 0 := by
 rewrite [h_spec_l8Less, h_spec_l8Less_5]
 kernel_rfl
theorem q_spec_l8Less_5 (m0 : Nat) (p0 p1 p2 : Int) (p3 : List D_A3) (p4 p5 p6 : Int) (p7 : List D_A3) (p8 : Int) : l_spec_l8Less_5 (m0 + 1) p0 p1 p2 p3 p4 p5 p6 p7 p8 =
 bif decide (p8 < (List.length p3 : Int)) then
 bif decide (p8 < (List.length p7 : Int)) then
 bif inB p8 (List.length p3) then
 bif inB p8 (List.length p7) then
 bif !(decide (((nth T_A3 p3 p8)).1 = ((nth T_A3 p7 p8)).1) && (decide ((((nth T_A3 p3 p8)).2).1 = (((nth T_A3 p7 p8)).2).1) && (decide (((((nth T_A3 p3 p8)).2).2).1 = ((((nth T_A3 p7 p8)).2).2).1) && true))) then
 bif inB p8 (List.length p3) then
 bif inB p8 (List.length p7) then
 Option.bind (P_spec_l2Before ((nth T_A3 p3 p8), (nth T_A3 p7 p8), ())) fun r7 =>
 some (r7.1, ())
 else none
 else none
 else
 l_spec_l8Less_5 m0 p0 p1 p2 p3 p4 p5 p6 p7 (IntKind.wrap .i64 (p8 + 1))
 else none
 else none
 else
 some (decide ((List.length p3 : Int) < (List.length p7 : Int)), ())
 else
 some (decide ((List.length p3 : Int) < (List.length p7 : Int)), ()) := by
 rewrite [h_spec_l8Less_5]
 kernel_rfl
abbrev As_spec_l8Same : List ATy := [.data true T_Heap, .data true T_Heap]
abbrev R_spec_l8Same : List (Bool × Ty) := [(false, .bool)]
abbrev M_spec_l8Same : List RMode := []
abbrev Ft_spec_l8Same : Type := D_Heap × D_Heap × Unit → Option (Bool × Unit)
def X_spec_l8Same : Ctx := { types := TT, globals := [], con := [(78, C_spec_l8Less)], keep := [], results := [.tmp 4], ntmps := 15, n := N }
def B_spec_l8Same : Code := (Tryz.f79.body).getD .skip
def P_spec_l8Same : Ft_spec_l8Same := hid (runF X_spec_l8Same B_spec_l8Same As_spec_l8Same R_spec_l8Same M_spec_l8Same)
theorem h_spec_l8Same : P_spec_l8Same = runF X_spec_l8Same B_spec_l8Same As_spec_l8Same R_spec_l8Same M_spec_l8Same := hid_eq _
def C_spec_l8Same : Contract := ⟨As_spec_l8Same, R_spec_l8Same, M_spec_l8Same, P_spec_l8Same⟩
theorem s_spec_l8Same : Sound Tryz.prog GG 79 C_spec_l8Same := by
 unfold C_spec_l8Same; rw [h_spec_l8Same]
 exact mkS Tryz.f79 ⟨s_spec_l8Less, trivial⟩ trivial
theorem p_spec_l8Same (a0 a1 : D_Heap) : P_spec_l8Same (a0, a1, ()) =
 Option.bind (P_spec_l8Less (a0, a1, ())) fun r0 =>
 bif !r0.1 then
 Option.bind (P_spec_l8Less (a1, a0, ())) fun r2 =>
 some (!r2.1, ())
 else
 some (false, ()) := by
 rewrite [h_spec_l8Same]
 kernel_rfl
abbrev As_spec_l8Insert : List ATy := [.data false (.sl T_Heap), .data true T_Heap]
abbrev R_spec_l8Insert : List (Bool × Ty) := [(false, (.sl T_Heap))]
abbrev M_spec_l8Insert : List RMode := [.imm]
abbrev Ft_spec_l8Insert : Type := (List D_Heap) × D_Heap × Unit → Option ((List D_Heap) × Unit)
def X_spec_l8Insert : Ctx := { types := TT, globals := [], con := [(78, C_spec_l8Less), (79, C_spec_l8Same)], keep := [(2, ⟨[.box 3, .tmp 0, .tmp 3, .tmp 5], []⟩)], results := [.tmp 4], ntmps := 45, n := N }
def B_spec_l8Insert : Code := (Tryz.f32.body).getD .skip
def L_spec_l8Insert_2 (m0 : Nat) (p0 p1 p2 : Int) (p3 : List D_A3) (p4 : List D_Heap) (p5 : Int) : Option (denL R_spec_l8Insert) := loopF X_spec_l8Insert B_spec_l8Insert R_spec_l8Insert M_spec_l8Insert 2 [m0] [(.ver, .num 1), (.box 3, .box 0 false [.int .i64 p0, .int .i64 p1, .int .i64 p2, .imm T_A3 p3 (some 4)]), (.tmp 0, .val false [.imm T_Heap p4 (some 0)]), (.tmp 3, .val false [.addr 3 0 0]), (.tmp 5, .val false [.int .i64 p5])]
def P_spec_l8Insert : Ft_spec_l8Insert := hid (runF X_spec_l8Insert B_spec_l8Insert As_spec_l8Insert R_spec_l8Insert M_spec_l8Insert)
theorem h_spec_l8Insert : P_spec_l8Insert = runF X_spec_l8Insert B_spec_l8Insert As_spec_l8Insert R_spec_l8Insert M_spec_l8Insert := hid_eq _
def C_spec_l8Insert : Contract := ⟨As_spec_l8Insert, R_spec_l8Insert, M_spec_l8Insert, P_spec_l8Insert⟩
theorem s_spec_l8Insert : Sound Tryz.prog GG 32 C_spec_l8Insert := by
 unfold C_spec_l8Insert; rw [h_spec_l8Insert]
 exact mkS Tryz.f32 ⟨s_spec_l8Less, s_spec_l8Same, trivial⟩ trivial
def l_spec_l8Insert_2 := hid (L_spec_l8Insert_2)
theorem h_spec_l8Insert_2 : l_spec_l8Insert_2 = L_spec_l8Insert_2 := hid_eq _
theorem p_spec_l8Insert (a0 : List D_Heap) (a1 : D_Heap) : P_spec_l8Insert (a0, a1, ()) =
 l_spec_l8Insert_2 N a1.1 a1.2.1 a1.2.2.1 a1.2.2.2.1 a0 0 := by
 rewrite [h_spec_l8Insert, h_spec_l8Insert_2]
 kernel_rfl
theorem q_spec_l8Insert_2 (m0 : Nat) (p0 p1 p2 : Int) (p3 : List D_A3) (p4 : List D_Heap) (p5 : Int) : l_spec_l8Insert_2 (m0 + 1) p0 p1 p2 p3 p4 p5 =
 bif decide (p5 < (List.length p4 : Int)) then
 bif inB p5 (List.length p4) then
 Option.bind (P_spec_l8Less ((nth T_Heap p4 p5), (p0, (p1, (p2, (p3, ())))), ())) fun r2 =>
 bif r2.1 then
 l_spec_l8Insert_2 m0 p0 p1 p2 p3 p4 (IntKind.wrap .i64 (p5 + 1))
 else
 bif decide (p5 < (List.length p4 : Int)) then
 bif inB p5 (List.length p4) then
 Option.bind (P_spec_l8Same ((nth T_Heap p4 p5), (p0, (p1, (p2, (p3, ())))), ())) fun r6 =>
 bif r6.1 then
 some (p4, ())
 else
 bif (decide ((0 : Int) ≤ 0) && decide ((0 : Int) ≤ p5) && decide (p5 ≤ (List.length p4 : Int))) then
 bif (decide (((List.length ([] : List D_Heap)) + (List.length (cut p4 0 p5))) * 48 ≤ 140737488355328) && decide (((List.length ([] : List D_Heap)) + (List.length (cut p4 0 p5))) ≤ 140737488355328)) then
 bif (decide (((List.length (([] : List D_Heap) ++ (cut p4 0 p5))) + (List.length ([(p0, (p1, (p2, (p3, ()))))] : List D_Heap))) * 48 ≤ 140737488355328) && decide (((List.length (([] : List D_Heap) ++ (cut p4 0 p5))) + (List.length ([(p0, (p1, (p2, (p3, ()))))] : List D_Heap))) ≤ 140737488355328)) then
 bif (decide ((0 : Int) ≤ p5) && decide (p5 ≤ (List.length p4 : Int)) && decide ((List.length p4 : Int) ≤ (List.length p4 : Int))) then
 bif (decide (((List.length ((([] : List D_Heap) ++ (cut p4 0 p5)) ++ ([(p0, (p1, (p2, (p3, ()))))] : List D_Heap))) + (List.length (cut p4 p5 (List.length p4 : Int)))) * 48 ≤ 140737488355328) && decide (((List.length ((([] : List D_Heap) ++ (cut p4 0 p5)) ++ ([(p0, (p1, (p2, (p3, ()))))] : List D_Heap))) + (List.length (cut p4 p5 (List.length p4 : Int)))) ≤ 140737488355328)) then
 some ((((([] : List D_Heap) ++ (cut p4 0 p5)) ++ ([(p0, (p1, (p2, (p3, ()))))] : List D_Heap)) ++ (cut p4 p5 (List.length p4 : Int))), ())
 else none
 else none
 else none
 else none
 else none
 else none
 else
 bif (decide ((0 : Int) ≤ 0) && decide ((0 : Int) ≤ p5) && decide (p5 ≤ (List.length p4 : Int))) then
 bif (decide (((List.length ([] : List D_Heap)) + (List.length (cut p4 0 p5))) * 48 ≤ 140737488355328) && decide (((List.length ([] : List D_Heap)) + (List.length (cut p4 0 p5))) ≤ 140737488355328)) then
 bif (decide (((List.length (([] : List D_Heap) ++ (cut p4 0 p5))) + (List.length ([(p0, (p1, (p2, (p3, ()))))] : List D_Heap))) * 48 ≤ 140737488355328) && decide (((List.length (([] : List D_Heap) ++ (cut p4 0 p5))) + (List.length ([(p0, (p1, (p2, (p3, ()))))] : List D_Heap))) ≤ 140737488355328)) then
 bif (decide ((0 : Int) ≤ p5) && decide (p5 ≤ (List.length p4 : Int)) && decide ((List.length p4 : Int) ≤ (List.length p4 : Int))) then
 bif (decide (((List.length ((([] : List D_Heap) ++ (cut p4 0 p5)) ++ ([(p0, (p1, (p2, (p3, ()))))] : List D_Heap))) + (List.length (cut p4 p5 (List.length p4 : Int)))) * 48 ≤ 140737488355328) && decide (((List.length ((([] : List D_Heap) ++ (cut p4 0 p5)) ++ ([(p0, (p1, (p2, (p3, ()))))] : List D_Heap))) + (List.length (cut p4 p5 (List.length p4 : Int)))) ≤ 140737488355328)) then
 some ((((([] : List D_Heap) ++ (cut p4 0 p5)) ++ ([(p0, (p1, (p2, (p3, ()))))] : List D_Heap)) ++ (cut p4 p5 (List.length p4 : Int))), ())
 else none
 else none
 else none
 else none
 else none
 else none
 else
 bif decide (p5 < (List.length p4 : Int)) then
 bif inB p5 (List.length p4) then
 Option.bind (P_spec_l8Same ((nth T_Heap p4 p5), (p0, (p1, (p2, (p3, ())))), ())) fun r3 =>
 bif r3.1 then
 some (p4, ())
 else
 bif (decide ((0 : Int) ≤ 0) && decide ((0 : Int) ≤ p5) && decide (p5 ≤ (List.length p4 : Int))) then
 bif (decide (((List.length ([] : List D_Heap)) + (List.length (cut p4 0 p5))) * 48 ≤ 140737488355328) && decide (((List.length ([] : List D_Heap)) + (List.length (cut p4 0 p5))) ≤ 140737488355328)) then
 bif (decide (((List.length (([] : List D_Heap) ++ (cut p4 0 p5))) + (List.length ([(p0, (p1, (p2, (p3, ()))))] : List D_Heap))) * 48 ≤ 140737488355328) && decide (((List.length (([] : List D_Heap) ++ (cut p4 0 p5))) + (List.length ([(p0, (p1, (p2, (p3, ()))))] : List D_Heap))) ≤ 140737488355328)) then
 bif (decide ((0 : Int) ≤ p5) && decide (p5 ≤ (List.length p4 : Int)) && decide ((List.length p4 : Int) ≤ (List.length p4 : Int))) then
 bif (decide (((List.length ((([] : List D_Heap) ++ (cut p4 0 p5)) ++ ([(p0, (p1, (p2, (p3, ()))))] : List D_Heap))) + (List.length (cut p4 p5 (List.length p4 : Int)))) * 48 ≤ 140737488355328) && decide (((List.length ((([] : List D_Heap) ++ (cut p4 0 p5)) ++ ([(p0, (p1, (p2, (p3, ()))))] : List D_Heap))) + (List.length (cut p4 p5 (List.length p4 : Int)))) ≤ 140737488355328)) then
 some ((((([] : List D_Heap) ++ (cut p4 0 p5)) ++ ([(p0, (p1, (p2, (p3, ()))))] : List D_Heap)) ++ (cut p4 p5 (List.length p4 : Int))), ())
 else none
 else none
 else none
 else none
 else none
 else none
 else
 bif (decide ((0 : Int) ≤ 0) && decide ((0 : Int) ≤ p5) && decide (p5 ≤ (List.length p4 : Int))) then
 bif (decide (((List.length ([] : List D_Heap)) + (List.length (cut p4 0 p5))) * 48 ≤ 140737488355328) && decide (((List.length ([] : List D_Heap)) + (List.length (cut p4 0 p5))) ≤ 140737488355328)) then
 bif (decide (((List.length (([] : List D_Heap) ++ (cut p4 0 p5))) + (List.length ([(p0, (p1, (p2, (p3, ()))))] : List D_Heap))) * 48 ≤ 140737488355328) && decide (((List.length (([] : List D_Heap) ++ (cut p4 0 p5))) + (List.length ([(p0, (p1, (p2, (p3, ()))))] : List D_Heap))) ≤ 140737488355328)) then
 bif (decide ((0 : Int) ≤ p5) && decide (p5 ≤ (List.length p4 : Int)) && decide ((List.length p4 : Int) ≤ (List.length p4 : Int))) then
 bif (decide (((List.length ((([] : List D_Heap) ++ (cut p4 0 p5)) ++ ([(p0, (p1, (p2, (p3, ()))))] : List D_Heap))) + (List.length (cut p4 p5 (List.length p4 : Int)))) * 48 ≤ 140737488355328) && decide (((List.length ((([] : List D_Heap) ++ (cut p4 0 p5)) ++ ([(p0, (p1, (p2, (p3, ()))))] : List D_Heap))) + (List.length (cut p4 p5 (List.length p4 : Int)))) ≤ 140737488355328)) then
 some ((((([] : List D_Heap) ++ (cut p4 0 p5)) ++ ([(p0, (p1, (p2, (p3, ()))))] : List D_Heap)) ++ (cut p4 p5 (List.length p4 : Int))), ())
 else none
 else none
 else none
 else none
 else none := by
 rewrite [h_spec_l8Insert_2]
 kernel_rfl
abbrev As_spec_l2Moved : List ATy := [.data true T_Heap, .data true T_A3]
abbrev R_spec_l2Moved : List (Bool × Ty) := [(false, (.sl T_A3))]
abbrev M_spec_l2Moved : List RMode := [.own 55]
abbrev Ft_spec_l2Moved : Type := D_Heap × D_A3 × Unit → Option ((List D_A3) × Unit)
def X_spec_l2Moved : Ctx := { types := TT, globals := [], con := [], keep := [(3, ⟨[.box 2, .box 3, .tmp 2, .tmp 3, .tmp 5, .tmp 6], []⟩)], results := [.tmp 4], ntmps := 41, n := N }
def B_spec_l2Moved : Code := (Tryz.f30.body).getD .skip
def L_spec_l2Moved_3 (m0 : Nat) (p0 p1 p2 : Int) (p3 : List D_A3) (p4 p5 p6 : Int) (p7 : List D_A3) (p8 : Int) : Option (denL R_spec_l2Moved) := loopF X_spec_l2Moved B_spec_l2Moved R_spec_l2Moved M_spec_l2Moved 3 [m0] [(.ver, .num 1), (.box 2, .box 0 false [.int .i64 p0, .int .i64 p1, .int .i64 p2, .imm T_A3 p3 (some 3)]), (.box 3, .box 0 false [.int .i64 p4, .int .i64 p5, .int .i64 p6]), (.tmp 2, .val false [.addr 2 0 0]), (.tmp 3, .val false [.addr 3 0 0]), (.tmp 5, .val false [.own 55 T_A3 0 p7]), (.tmp 6, .val false [.int .i64 p8])]
def P_spec_l2Moved : Ft_spec_l2Moved := hid (runF X_spec_l2Moved B_spec_l2Moved As_spec_l2Moved R_spec_l2Moved M_spec_l2Moved)
theorem h_spec_l2Moved : P_spec_l2Moved = runF X_spec_l2Moved B_spec_l2Moved As_spec_l2Moved R_spec_l2Moved M_spec_l2Moved := hid_eq _
def C_spec_l2Moved : Contract := ⟨As_spec_l2Moved, R_spec_l2Moved, M_spec_l2Moved, P_spec_l2Moved⟩
theorem s_spec_l2Moved : Sound Tryz.prog GG 30 C_spec_l2Moved := by
 unfold C_spec_l2Moved; rw [h_spec_l2Moved]
 exact mkS Tryz.f30 trivial trivial
def l_spec_l2Moved_3 := hid (L_spec_l2Moved_3)
theorem h_spec_l2Moved_3 : l_spec_l2Moved_3 = L_spec_l2Moved_3 := hid_eq _
theorem p_spec_l2Moved (a0 : D_Heap) (a1 : D_A3) : P_spec_l2Moved (a0, a1, ()) =
 l_spec_l2Moved_3 N a0.1 a0.2.1 a0.2.2.1 a0.2.2.2.1 a1.1 a1.2.1 a1.2.2.1 ([] : List D_A3) 0 := by
 rewrite [h_spec_l2Moved, h_spec_l2Moved_3]
 kernel_rfl
theorem q_spec_l2Moved_3 (m0 : Nat) (p0 p1 p2 : Int) (p3 : List D_A3) (p4 p5 p6 : Int) (p7 : List D_A3) (p8 : Int) : l_spec_l2Moved_3 (m0 + 1) p0 p1 p2 p3 p4 p5 p6 p7 p8 =
 bif decide (p8 < (List.length p3 : Int)) then
 bif inB p8 (List.length p3) then
 bif (decide (((List.length p7) + (List.length ([((IntKind.wrap .i64 (((nth T_A3 p3 p8)).1 + p4)), ((IntKind.wrap .i64 ((((nth T_A3 p3 p8)).2).1 + p5)), ((IntKind.wrap .i64 (((((nth T_A3 p3 p8)).2).2).1 + p6)), ())))] : List D_A3))) * 24 ≤ 140737488355328) && decide (((List.length p7) + (List.length ([((IntKind.wrap .i64 (((nth T_A3 p3 p8)).1 + p4)), ((IntKind.wrap .i64 ((((nth T_A3 p3 p8)).2).1 + p5)), ((IntKind.wrap .i64 (((((nth T_A3 p3 p8)).2).2).1 + p6)), ())))] : List D_A3))) ≤ 140737488355328)) then
 l_spec_l2Moved_3 m0 p0 p1 p2 p3 p4 p5 p6 (p7 ++ ([((IntKind.wrap .i64 (((nth T_A3 p3 p8)).1 + p4)), ((IntKind.wrap .i64 ((((nth T_A3 p3 p8)).2).1 + p5)), ((IntKind.wrap .i64 (((((nth T_A3 p3 p8)).2).2).1 + p6)), ())))] : List D_A3)) (IntKind.wrap .i64 (p8 + 1))
 else none
 else none
 else
 some (p7, ()) := by
 rewrite [h_spec_l2Moved_3]
 kernel_rfl
abbrev As_spec_l1Least : List ATy := [.data false (.int .i64), .data false (.int .i64)]
abbrev R_spec_l1Least : List (Bool × Ty) := [(false, (.int .i64))]
abbrev M_spec_l1Least : List RMode := []
abbrev Ft_spec_l1Least : Type := Int × Int × Unit → Option (Int × Unit)
def X_spec_l1Least : Ctx := { types := TT, globals := [], con := [], keep := [], results := [.tmp 4], ntmps := 10, n := N }
def B_spec_l1Least : Code := (Tryz.f66.body).getD .skip
def P_spec_l1Least : Ft_spec_l1Least := hid (runF X_spec_l1Least B_spec_l1Least As_spec_l1Least R_spec_l1Least M_spec_l1Least)
theorem h_spec_l1Least : P_spec_l1Least = runF X_spec_l1Least B_spec_l1Least As_spec_l1Least R_spec_l1Least M_spec_l1Least := hid_eq _
def C_spec_l1Least : Contract := ⟨As_spec_l1Least, R_spec_l1Least, M_spec_l1Least, P_spec_l1Least⟩
theorem s_spec_l1Least : Sound Tryz.prog GG 66 C_spec_l1Least := by
 unfold C_spec_l1Least; rw [h_spec_l1Least]
 exact mkS Tryz.f66 trivial trivial
theorem p_spec_l1Least (a0 a1 : Int) : P_spec_l1Least (a0, a1, ()) =
 bif decide (a0 < a1) then
 some (a0, ())
 else
 some (a1, ()) := by
 rewrite [h_spec_l1Least]
 kernel_rfl
abbrev As_spec_l1Most : List ATy := [.data false (.int .i64), .data false (.int .i64)]
abbrev R_spec_l1Most : List (Bool × Ty) := [(false, (.int .i64))]
abbrev M_spec_l1Most : List RMode := []
abbrev Ft_spec_l1Most : Type := Int × Int × Unit → Option (Int × Unit)
def X_spec_l1Most : Ctx := { types := TT, globals := [], con := [], keep := [], results := [.tmp 4], ntmps := 10, n := N }
def B_spec_l1Most : Code := (Tryz.f67.body).getD .skip
def P_spec_l1Most : Ft_spec_l1Most := hid (runF X_spec_l1Most B_spec_l1Most As_spec_l1Most R_spec_l1Most M_spec_l1Most)
theorem h_spec_l1Most : P_spec_l1Most = runF X_spec_l1Most B_spec_l1Most As_spec_l1Most R_spec_l1Most M_spec_l1Most := hid_eq _
def C_spec_l1Most : Contract := ⟨As_spec_l1Most, R_spec_l1Most, M_spec_l1Most, P_spec_l1Most⟩
theorem s_spec_l1Most : Sound Tryz.prog GG 67 C_spec_l1Most := by
 unfold C_spec_l1Most; rw [h_spec_l1Most]
 exact mkS Tryz.f67 trivial trivial
theorem p_spec_l1Most (a0 a1 : Int) : P_spec_l1Most (a0, a1, ()) =
 bif decide (a0 > a1) then
 some (a0, ())
 else
 some (a1, ()) := by
 rewrite [h_spec_l1Most]
 kernel_rfl
abbrev As_spec_l2Empty : List ATy := [.data false (.int .i64), .data false (.int .i64), .data false (.int .i64)]
abbrev R_spec_l2Empty : List (Bool × Ty) := [(true, T_Heap)]
abbrev M_spec_l2Empty : List RMode := [.own 55]
abbrev Ft_spec_l2Empty : Type := Int × Int × Int × Unit → Option (D_Heap × Unit)
def X_spec_l2Empty : Ctx := { types := TT, globals := [], con := [], keep := [], results := [.cell 6 29], ntmps := 12, n := N }
def B_spec_l2Empty : Code := (Tryz.f68.body).getD .skip
def P_spec_l2Empty : Ft_spec_l2Empty := hid (runF X_spec_l2Empty B_spec_l2Empty As_spec_l2Empty R_spec_l2Empty M_spec_l2Empty)
theorem h_spec_l2Empty : P_spec_l2Empty = runF X_spec_l2Empty B_spec_l2Empty As_spec_l2Empty R_spec_l2Empty M_spec_l2Empty := hid_eq _
def C_spec_l2Empty : Contract := ⟨As_spec_l2Empty, R_spec_l2Empty, M_spec_l2Empty, P_spec_l2Empty⟩
theorem s_spec_l2Empty : Sound Tryz.prog GG 68 C_spec_l2Empty := by
 unfold C_spec_l2Empty; rw [h_spec_l2Empty]
 exact mkS Tryz.f68 trivial trivial
theorem p_spec_l2Empty (a0 a1 a2 : Int) : P_spec_l2Empty (a0, a1, a2, ()) =
 some ((a0, (a1, (a2, (([] : List D_A3), ())))), ()) := by
 rewrite [h_spec_l2Empty]
 kernel_rfl
abbrev As_spec_l2Cropped : List ATy := [.data true T_Heap]
abbrev R_spec_l2Cropped : List (Bool × Ty) := [(true, T_Heap)]
abbrev M_spec_l2Cropped : List RMode := [.own 55]
abbrev Ft_spec_l2Cropped : Type := D_Heap × Unit → Option (D_Heap × Unit)
def X_spec_l2Cropped : Ctx := { types := TT, globals := [], con := [(30, C_spec_l2Moved), (66, C_spec_l1Least), (67, C_spec_l1Most), (68, C_spec_l2Empty)], keep := [(3, ⟨[.box 1, .box 2, .box 3, .box 4, .tmp 1, .tmp 2, .tmp 3, .tmp 4, .tmp 5], []⟩), (6, ⟨[.box 1, .box 2, .box 3, .box 4, .tmp 1, .tmp 2, .tmp 3, .tmp 4, .tmp 5, .tmp 6], []⟩)], results := [.cell 2 29], ntmps := 86, n := N }
def B_spec_l2Cropped : Code := (Tryz.f26.body).getD .skip
def L_spec_l2Cropped_3 (m0 : Nat) (p0 p1 p2 : Int) (p3 : List D_A3) (p4 p5 p6 : Int) (p7 : List D_A3) (p8 p9 p10 p11 p12 p13 p14 : Int) : Option (denL R_spec_l2Cropped) := loopF X_spec_l2Cropped B_spec_l2Cropped R_spec_l2Cropped M_spec_l2Cropped 3 [m0] [(.ver, .num 1), (.box 1, .box 0 false [.int .i64 p0, .int .i64 p1, .int .i64 p2, .imm T_A3 p3 (some 3)]), (.box 2, .box 0 false [.int .i64 p4, .int .i64 p5, .int .i64 p6, .own 55 T_A3 0 p7]), (.box 3, .box 0 false [.int .i64 p8, .int .i64 p9, .int .i64 p10]), (.box 4, .box 0 false [.int .i64 p11, .int .i64 p12, .int .i64 p13]), (.tmp 1, .val false [.addr 1 0 0]), (.tmp 2, .val false [.addr 2 0 0]), (.tmp 3, .val false [.addr 3 0 0]), (.tmp 4, .val false [.addr 4 0 0]), (.tmp 5, .val false [.int .i64 p14])]
def L_spec_l2Cropped_6 (m0 m1 : Nat) (p0 p1 p2 : Int) (p3 : List D_A3) (p4 p5 p6 : Int) (p7 : List D_A3) (p8 p9 p10 p11 p12 p13 p14 p15 : Int) : Option (denL R_spec_l2Cropped) := loopF X_spec_l2Cropped B_spec_l2Cropped R_spec_l2Cropped M_spec_l2Cropped 6 [m0, m1] [(.ver, .num 1), (.box 1, .box 0 false [.int .i64 p0, .int .i64 p1, .int .i64 p2, .imm T_A3 p3 (some 3)]), (.box 2, .box 0 false [.int .i64 p4, .int .i64 p5, .int .i64 p6, .own 55 T_A3 0 p7]), (.box 3, .box 0 false [.int .i64 p8, .int .i64 p9, .int .i64 p10]), (.box 4, .box 0 false [.int .i64 p11, .int .i64 p12, .int .i64 p13]), (.tmp 1, .val false [.addr 1 0 0]), (.tmp 2, .val false [.addr 2 0 0]), (.tmp 3, .val false [.addr 3 0 0]), (.tmp 4, .val false [.addr 4 0 0]), (.tmp 5, .val false [.int .i64 p14]), (.tmp 6, .val false [.int .i64 p15])]
def P_spec_l2Cropped : Ft_spec_l2Cropped := hid (runF X_spec_l2Cropped B_spec_l2Cropped As_spec_l2Cropped R_spec_l2Cropped M_spec_l2Cropped)
theorem h_spec_l2Cropped : P_spec_l2Cropped = runF X_spec_l2Cropped B_spec_l2Cropped As_spec_l2Cropped R_spec_l2Cropped M_spec_l2Cropped := hid_eq _
def C_spec_l2Cropped : Contract := ⟨As_spec_l2Cropped, R_spec_l2Cropped, M_spec_l2Cropped, P_spec_l2Cropped⟩
theorem s_spec_l2Cropped : Sound Tryz.prog GG 26 C_spec_l2Cropped := by
 unfold C_spec_l2Cropped; rw [h_spec_l2Cropped]
 exact mkS Tryz.f26 ⟨s_spec_l2Moved, s_spec_l1Least, s_spec_l1Most, s_spec_l2Empty, trivial⟩ trivial
def l_spec_l2Cropped_3 := hid (L_spec_l2Cropped_3)
theorem h_spec_l2Cropped_3 : l_spec_l2Cropped_3 = L_spec_l2Cropped_3 := hid_eq _
def l_spec_l2Cropped_6 := hid (L_spec_l2Cropped_6)
theorem h_spec_l2Cropped_6 : l_spec_l2Cropped_6 = L_spec_l2Cropped_6 := hid_eq _
theorem p_spec_l2Cropped (a0 : D_Heap) : P_spec_l2Cropped (a0, ()) =
 bif inB 0 (List.length a0.2.2.2.1) then
 bif inB 0 (List.length a0.2.2.2.1) then
 l_spec_l2Cropped_3 N a0.1 a0.2.1 a0.2.2.1 a0.2.2.2.1 0 0 0 ([] : List D_A3) (((nth T_A3 a0.2.2.2.1 0)).1) ((((nth T_A3 a0.2.2.2.1 0)).2).1) (((((nth T_A3 a0.2.2.2.1 0)).2).2).1) (((nth T_A3 a0.2.2.2.1 0)).1) ((((nth T_A3 a0.2.2.2.1 0)).2).1) (((((nth T_A3 a0.2.2.2.1 0)).2).2).1) 0
 else none
 else none := by
 rewrite [h_spec_l2Cropped, h_spec_l2Cropped_3]
 kernel_rfl
theorem q_spec_l2Cropped_3 (m0 : Nat) (p0 p1 p2 : Int) (p3 : List D_A3) (p4 p5 p6 : Int) (p7 : List D_A3) (p8 p9 p10 p11 p12 p13 p14 : Int) : l_spec_l2Cropped_3 (m0 + 1) p0 p1 p2 p3 p4 p5 p6 p7 p8 p9 p10 p11 p12 p13 p14 =
 bif decide (p14 < (List.length p3 : Int)) then
 l_spec_l2Cropped_6 m0 N p0 p1 p2 p3 p4 p5 p6 p7 p8 p9 p10 p11 p12 p13 p14 0
 else
 Option.bind (P_spec_l2Empty ((IntKind.wrap .i64 ((IntKind.wrap .i64 (p11 - p8)) + 1)), (IntKind.wrap .i64 ((IntKind.wrap .i64 (p12 - p9)) + 1)), (IntKind.wrap .i64 ((IntKind.wrap .i64 (p13 - p10)) + 1)), ())) fun r1 =>
 Option.bind (P_spec_l2Moved ((p0, (p1, (p2, (p3, ())))), ((IntKind.wrap .i64 (0 - p8)), ((IntKind.wrap .i64 (0 - p9)), ((IntKind.wrap .i64 (0 - p10)), ()))), ())) fun r2 =>
 some ((r1.1.1, (r1.1.2.1, (r1.1.2.2.1, (r2.1, ())))), ()) := by
 rewrite [h_spec_l2Cropped_3, h_spec_l2Cropped_6]
 kernel_rfl
theorem q_spec_l2Cropped_6 (m0 m1 : Nat) (p0 p1 p2 : Int) (p3 : List D_A3) (p4 p5 p6 : Int) (p7 : List D_A3) (p8 p9 p10 p11 p12 p13 p14 p15 : Int) : l_spec_l2Cropped_6 m0 (m1 + 1) p0 p1 p2 p3 p4 p5 p6 p7 p8 p9 p10 p11 p12 p13 p14 p15 =
 bif decide (p15 < 3) then
 bif inB p15 3 then
 bif inB p14 (List.length p3) then
 bif inB p15 3 then
 Option.bind (P_spec_l1Least ((bif decide (p15 = (0 : Int)) then p8 else (bif decide (p15 = (1 : Int)) then p9 else p10)), (bif decide (p15 = (0 : Int)) then ((nth T_A3 p3 p14)).1 else (bif decide (p15 = (1 : Int)) then (((nth T_A3 p3 p14)).2).1 else ((((nth T_A3 p3 p14)).2).2).1)), ())) fun r4 =>
 bif inB p15 3 then
 bif inB p15 3 then
 bif inB p14 (List.length p3) then
 bif inB p15 3 then
 Option.bind (P_spec_l1Most ((bif decide (p15 = (0 : Int)) then p11 else (bif decide (p15 = (1 : Int)) then p12 else p13)), (bif decide (p15 = (0 : Int)) then ((nth T_A3 p3 p14)).1 else (bif decide (p15 = (1 : Int)) then (((nth T_A3 p3 p14)).2).1 else ((((nth T_A3 p3 p14)).2).2).1)), ())) fun r9 =>
 bif inB p15 3 then
 l_spec_l2Cropped_6 m0 m1 p0 p1 p2 p3 p4 p5 p6 p7 (bif decide (p15 = (0 : Int)) then r4.1 else p8) (bif decide (p15 = (1 : Int)) then r4.1 else p9) (bif decide (p15 = (2 : Int)) then r4.1 else p10) (bif decide (p15 = (0 : Int)) then r9.1 else p11) (bif decide (p15 = (1 : Int)) then r9.1 else p12) (bif decide (p15 = (2 : Int)) then r9.1 else p13) p14 (IntKind.wrap .i64 (p15 + 1))
 else none
 else none
 else none
 else none
 else none
 else none
 else none
 else none
 else
 l_spec_l2Cropped_3 m0 p0 p1 p2 p3 p4 p5 p6 p7 p8 p9 p10 p11 p12 p13 (IntKind.wrap .i64 (p14 + 1)) := by
 rewrite [h_spec_l2Cropped_3, h_spec_l2Cropped_6]
 kernel_rfl
abbrev As_spec_l8Odd : List ATy := [.data true T_A3]
abbrev R_spec_l8Odd : List (Bool × Ty) := [(false, (.int .i64))]
abbrev M_spec_l8Odd : List RMode := []
abbrev Ft_spec_l8Odd : Type := D_A3 × Unit → Option (Int × Unit)
def X_spec_l8Odd : Ctx := { types := TT, globals := [], con := [], keep := [(3, ⟨[.box 1, .tmp 1, .tmp 3, .tmp 4], []⟩), (6, ⟨[.box 1, .tmp 1, .tmp 3, .tmp 4, .tmp 5], []⟩)], results := [.tmp 2], ntmps := 26, n := N }
def B_spec_l8Odd : Code := (Tryz.f69.body).getD .skip
def L_spec_l8Odd_3 (m0 : Nat) (p0 p1 p2 p3 p4 : Int) : Option (denL R_spec_l8Odd) := loopF X_spec_l8Odd B_spec_l8Odd R_spec_l8Odd M_spec_l8Odd 3 [m0] [(.ver, .num 1), (.box 1, .box 0 false [.int .i64 p0, .int .i64 p1, .int .i64 p2]), (.tmp 1, .val false [.addr 1 0 0]), (.tmp 3, .val false [.int .i64 p3]), (.tmp 4, .val false [.int .i64 p4])]
def L_spec_l8Odd_6 (m0 m1 : Nat) (p0 p1 p2 p3 p4 p5 : Int) : Option (denL R_spec_l8Odd) := loopF X_spec_l8Odd B_spec_l8Odd R_spec_l8Odd M_spec_l8Odd 6 [m0, m1] [(.ver, .num 1), (.box 1, .box 0 false [.int .i64 p0, .int .i64 p1, .int .i64 p2]), (.tmp 1, .val false [.addr 1 0 0]), (.tmp 3, .val false [.int .i64 p3]), (.tmp 4, .val false [.int .i64 p4]), (.tmp 5, .val false [.int .i64 p5])]
def P_spec_l8Odd : Ft_spec_l8Odd := hid (runF X_spec_l8Odd B_spec_l8Odd As_spec_l8Odd R_spec_l8Odd M_spec_l8Odd)
theorem h_spec_l8Odd : P_spec_l8Odd = runF X_spec_l8Odd B_spec_l8Odd As_spec_l8Odd R_spec_l8Odd M_spec_l8Odd := hid_eq _
def C_spec_l8Odd : Contract := ⟨As_spec_l8Odd, R_spec_l8Odd, M_spec_l8Odd, P_spec_l8Odd⟩
theorem s_spec_l8Odd : Sound Tryz.prog GG 69 C_spec_l8Odd := by
 unfold C_spec_l8Odd; rw [h_spec_l8Odd]
 exact mkS Tryz.f69 trivial trivial
def l_spec_l8Odd_3 := hid (L_spec_l8Odd_3)
theorem h_spec_l8Odd_3 : l_spec_l8Odd_3 = L_spec_l8Odd_3 := hid_eq _
def l_spec_l8Odd_6 := hid (L_spec_l8Odd_6)
theorem h_spec_l8Odd_6 : l_spec_l8Odd_6 = L_spec_l8Odd_6 := hid_eq _
theorem p_spec_l8Odd (a0 : D_A3) : P_spec_l8Odd (a0, ()) =
 l_spec_l8Odd_3 N a0.1 a0.2.1 a0.2.2.1 0 0 := by
 rewrite [h_spec_l8Odd, h_spec_l8Odd_3]
 kernel_rfl
theorem q_spec_l8Odd_3 (m0 : Nat) (p0 p1 p2 p3 p4 : Int) : l_spec_l8Odd_3 (m0 + 1) p0 p1 p2 p3 p4 =
 bif decide (p4 < 3) then
 l_spec_l8Odd_6 m0 N p0 p1 p2 p3 p4 0
 else
 some ((Int.tmod p3 2), ()) := by
 rewrite [h_spec_l8Odd_3, h_spec_l8Odd_6]
 kernel_rfl
theorem q_spec_l8Odd_6 (m0 m1 : Nat) (p0 p1 p2 p3 p4 p5 : Int) : l_spec_l8Odd_6 m0 (m1 + 1) p0 p1 p2 p3 p4 p5 =
 bif decide (p5 < p4) then
 bif inB p5 3 then
 bif inB p4 3 then
 bif decide ((bif decide (p5 = (0 : Int)) then p0 else (bif decide (p5 = (1 : Int)) then p1 else p2)) > (bif decide (p4 = (0 : Int)) then p0 else (bif decide (p4 = (1 : Int)) then p1 else p2))) then
 l_spec_l8Odd_6 m0 m1 p0 p1 p2 (IntKind.wrap .i64 (p3 + 1)) p4 (IntKind.wrap .i64 (p5 + 1))
 else
 l_spec_l8Odd_6 m0 m1 p0 p1 p2 p3 p4 (IntKind.wrap .i64 (p5 + 1))
 else none
 else none
 else
 l_spec_l8Odd_3 m0 p0 p1 p2 p3 (IntKind.wrap .i64 (p4 + 1)) := by
 rewrite [h_spec_l8Odd_3, h_spec_l8Odd_6]
 kernel_rfl
abbrev As_spec_l8Turns : List ATy := []
abbrev R_spec_l8Turns : List (Bool × Ty) := [(false, (.sl T_l8Turn))]
abbrev M_spec_l8Turns : List RMode := [.own 57]
abbrev Ft_spec_l8Turns : Type := Unit → Option ((List D_l8Turn) × Unit)
def X_spec_l8Turns : Ctx := { types := TT, globals := [], con := [(69, C_spec_l8Odd)], keep := [(3, ⟨[.tmp 1, .tmp 2], []⟩), (6, ⟨[.tmp 1, .tmp 2, .tmp 3], []⟩), (9, ⟨[.tmp 1, .tmp 2, .tmp 3, .tmp 4], []⟩)], results := [.tmp 0], ntmps := 62, n := N }
def B_spec_l8Turns : Code := (Tryz.f27.body).getD .skip
def L_spec_l8Turns_3 (m0 : Nat) (p0 : List D_l8Turn) (p1 : Int) : Option (denL R_spec_l8Turns) := loopF X_spec_l8Turns B_spec_l8Turns R_spec_l8Turns M_spec_l8Turns 3 [m0] [(.ver, .num 1), (.tmp 1, .val false [.own 57 T_l8Turn 0 p0]), (.tmp 2, .val false [.int .i64 p1])]
def L_spec_l8Turns_6 (m0 m1 : Nat) (p0 : List D_l8Turn) (p1 p2 : Int) : Option (denL R_spec_l8Turns) := loopF X_spec_l8Turns B_spec_l8Turns R_spec_l8Turns M_spec_l8Turns 6 [m0, m1] [(.ver, .num 1), (.tmp 1, .val false [.own 57 T_l8Turn 0 p0]), (.tmp 2, .val false [.int .i64 p1]), (.tmp 3, .val false [.int .i64 p2])]
def L_spec_l8Turns_9 (m0 m1 m2 : Nat) (p0 : List D_l8Turn) (p1 p2 p3 : Int) : Option (denL R_spec_l8Turns) := loopF X_spec_l8Turns B_spec_l8Turns R_spec_l8Turns M_spec_l8Turns 9 [m0, m1, m2] [(.ver, .num 1), (.tmp 1, .val false [.own 57 T_l8Turn 0 p0]), (.tmp 2, .val false [.int .i64 p1]), (.tmp 3, .val false [.int .i64 p2]), (.tmp 4, .val false [.int .i64 p3])]
def P_spec_l8Turns : Ft_spec_l8Turns := hid (runF X_spec_l8Turns B_spec_l8Turns As_spec_l8Turns R_spec_l8Turns M_spec_l8Turns)
theorem h_spec_l8Turns : P_spec_l8Turns = runF X_spec_l8Turns B_spec_l8Turns As_spec_l8Turns R_spec_l8Turns M_spec_l8Turns := hid_eq _
def C_spec_l8Turns : Contract := ⟨As_spec_l8Turns, R_spec_l8Turns, M_spec_l8Turns, P_spec_l8Turns⟩
theorem s_spec_l8Turns : Sound Tryz.prog GG 27 C_spec_l8Turns := by
 unfold C_spec_l8Turns; rw [h_spec_l8Turns]
 exact mkS Tryz.f27 ⟨s_spec_l8Odd, trivial⟩ trivial
def l_spec_l8Turns_3 := hid (L_spec_l8Turns_3)
theorem h_spec_l8Turns_3 : l_spec_l8Turns_3 = L_spec_l8Turns_3 := hid_eq _
def l_spec_l8Turns_6 := hid (L_spec_l8Turns_6)
theorem h_spec_l8Turns_6 : l_spec_l8Turns_6 = L_spec_l8Turns_6 := hid_eq _
def l_spec_l8Turns_9 := hid (L_spec_l8Turns_9)
theorem h_spec_l8Turns_9 : l_spec_l8Turns_9 = L_spec_l8Turns_9 := hid_eq _
theorem p_spec_l8Turns  : P_spec_l8Turns (()) =
 l_spec_l8Turns_3 N ([] : List D_l8Turn) 0 := by
 rewrite [h_spec_l8Turns, h_spec_l8Turns_3]
 kernel_rfl
theorem q_spec_l8Turns_3 (m0 : Nat) (p0 : List D_l8Turn) (p1 : Int) : l_spec_l8Turns_3 (m0 + 1) p0 p1 =
 bif decide (p1 < 3) then
 l_spec_l8Turns_6 m0 N p0 p1 0
 else
 some (p0, ()) := by
 rewrite [h_spec_l8Turns_3, h_spec_l8Turns_6]
 kernel_rfl
theorem q_spec_l8Turns_6 (m0 m1 : Nat) (p0 : List D_l8Turn) (p1 p2 : Int) : l_spec_l8Turns_6 m0 (m1 + 1) p0 p1 p2 =
 bif decide (p2 < 3) then
 l_spec_l8Turns_9 m0 m1 N p0 p1 p2 0
 else
 l_spec_l8Turns_3 m0 p0 (IntKind.wrap .i64 (p1 + 1)) := by
 rewrite [h_spec_l8Turns_3, h_spec_l8Turns_6, h_spec_l8Turns_9]
 kernel_rfl
theorem q_spec_l8Turns_9 (m0 m1 m2 : Nat) (p0 : List D_l8Turn) (p1 p2 p3 : Int) : l_spec_l8Turns_9 m0 m1 (m2 + 1) p0 p1 p2 p3 =
 bif decide (p3 < 8) then
 bif !decide (p1 = p2) then
 Option.bind (P_spec_l8Odd ((p1, (p2, ((IntKind.wrap .i64 ((IntKind.wrap .i64 (3 - p1)) - p2)), ()))), ())) fun r2 =>
 bif decide (r2.1 = (Int.tmod (IntKind.wrap .i64 ((IntKind.wrap .i64 ((intBits .and .i64 (shrI .i64 p3 2) 1) + (intBits .and .i64 (shrI .i64 p3 1) 1))) + (intBits .and .i64 p3 1))) 2)) then
 bif (decide (((List.length p0) + (List.length ([((p1, (p2, ((IntKind.wrap .i64 ((IntKind.wrap .i64 (3 - p1)) - p2)), ()))), (((intBits .and .i64 (shrI .i64 p3 2) 1), ((intBits .and .i64 (shrI .i64 p3 1) 1), ((intBits .and .i64 p3 1), ()))), ()))] : List D_l8Turn))) * 48 ≤ 140737488355328) && decide (((List.length p0) + (List.length ([((p1, (p2, ((IntKind.wrap .i64 ((IntKind.wrap .i64 (3 - p1)) - p2)), ()))), (((intBits .and .i64 (shrI .i64 p3 2) 1), ((intBits .and .i64 (shrI .i64 p3 1) 1), ((intBits .and .i64 p3 1), ()))), ()))] : List D_l8Turn))) ≤ 140737488355328)) then
 l_spec_l8Turns_9 m0 m1 m2 (p0 ++ ([((p1, (p2, ((IntKind.wrap .i64 ((IntKind.wrap .i64 (3 - p1)) - p2)), ()))), (((intBits .and .i64 (shrI .i64 p3 2) 1), ((intBits .and .i64 (shrI .i64 p3 1) 1), ((intBits .and .i64 p3 1), ()))), ()))] : List D_l8Turn)) p1 p2 (IntKind.wrap .i64 (p3 + 1))
 else none
 else
 l_spec_l8Turns_9 m0 m1 m2 p0 p1 p2 (IntKind.wrap .i64 (p3 + 1))
 else
 l_spec_l8Turns_6 m0 m1 p0 p1 (IntKind.wrap .i64 (p2 + 1))
 else
 l_spec_l8Turns_6 m0 m1 p0 p1 (IntKind.wrap .i64 (p2 + 1)) := by
 rewrite [h_spec_l8Turns_6, h_spec_l8Turns_9]
 kernel_rfl
abbrev As_spec_l2Long : List ATy := [.data true T_Heap, .data false (.int .i64)]
abbrev R_spec_l2Long : List (Bool × Ty) := [(false, (.int .i64))]
abbrev M_spec_l2Long : List RMode := []
abbrev Ft_spec_l2Long : Type := D_Heap × Int × Unit → Option (Int × Unit)
def X_spec_l2Long : Ctx := { types := TT, globals := [], con := [], keep := [], results := [.tmp 4], ntmps := 14, n := N }
def B_spec_l2Long : Code := (Tryz.f70.body).getD .skip
def P_spec_l2Long : Ft_spec_l2Long := hid (runF X_spec_l2Long B_spec_l2Long As_spec_l2Long R_spec_l2Long M_spec_l2Long)
theorem h_spec_l2Long : P_spec_l2Long = runF X_spec_l2Long B_spec_l2Long As_spec_l2Long R_spec_l2Long M_spec_l2Long := hid_eq _
def C_spec_l2Long : Contract := ⟨As_spec_l2Long, R_spec_l2Long, M_spec_l2Long, P_spec_l2Long⟩
theorem s_spec_l2Long : Sound Tryz.prog GG 70 C_spec_l2Long := by
 unfold C_spec_l2Long; rw [h_spec_l2Long]
 exact mkS Tryz.f70 trivial trivial
theorem p_spec_l2Long (a0 : D_Heap) (a1 : Int) : P_spec_l2Long (a0, a1, ()) =
 bif inB a1 3 then
 some ((bif decide (a1 = (0 : Int)) then a0.1 else (bif decide (a1 = (1 : Int)) then a0.2.1 else a0.2.2.1)), ())
 else none := by
 rewrite [h_spec_l2Long]
 kernel_rfl
abbrev As_spec_l2Made : List ATy := [.data true T_Heap, .data false (.sl T_A3)]
abbrev R_spec_l2Made : List (Bool × Ty) := [(true, T_Heap)]
abbrev M_spec_l2Made : List RMode := [.pass 4]
abbrev Ft_spec_l2Made : Type := D_Heap × (List D_A3) × Unit → Option (D_Heap × Unit)
def X_spec_l2Made : Ctx := { types := TT, globals := [], con := [], keep := [], results := [.cell 4 29], ntmps := 13, n := N }
def B_spec_l2Made : Code := (Tryz.f73.body).getD .skip
def P_spec_l2Made : Ft_spec_l2Made := hid (runF X_spec_l2Made B_spec_l2Made As_spec_l2Made R_spec_l2Made M_spec_l2Made)
theorem h_spec_l2Made : P_spec_l2Made = runF X_spec_l2Made B_spec_l2Made As_spec_l2Made R_spec_l2Made M_spec_l2Made := hid_eq _
def C_spec_l2Made : Contract := ⟨As_spec_l2Made, R_spec_l2Made, M_spec_l2Made, P_spec_l2Made⟩
theorem s_spec_l2Made : Sound Tryz.prog GG 73 C_spec_l2Made := by
 unfold C_spec_l2Made; rw [h_spec_l2Made]
 exact mkS Tryz.f73 trivial trivial
theorem p_spec_l2Made (a0 : D_Heap) (a1 : List D_A3) : P_spec_l2Made (a0, a1, ()) =
 some ((a0.1, (a0.2.1, (a0.2.2.1, (a1, ())))), ()) := by
 rewrite [h_spec_l2Made]
 kernel_rfl
abbrev As_spec_l2Own : List ATy := [.data true T_Heap]
abbrev R_spec_l2Own : List (Bool × Ty) := [(true, T_Heap)]
abbrev M_spec_l2Own : List RMode := [.own 55]
abbrev Ft_spec_l2Own : Type := D_Heap × Unit → Option (D_Heap × Unit)
def X_spec_l2Own : Ctx := { types := TT, globals := [], con := [(73, C_spec_l2Made)], keep := [], results := [.cell 2 29], ntmps := 9, n := N }
def B_spec_l2Own : Code := (Tryz.f75.body).getD .skip
def P_spec_l2Own : Ft_spec_l2Own := hid (runF X_spec_l2Own B_spec_l2Own As_spec_l2Own R_spec_l2Own M_spec_l2Own)
theorem h_spec_l2Own : P_spec_l2Own = runF X_spec_l2Own B_spec_l2Own As_spec_l2Own R_spec_l2Own M_spec_l2Own := hid_eq _
def C_spec_l2Own : Contract := ⟨As_spec_l2Own, R_spec_l2Own, M_spec_l2Own, P_spec_l2Own⟩
theorem s_spec_l2Own : Sound Tryz.prog GG 75 C_spec_l2Own := by
 unfold C_spec_l2Own; rw [h_spec_l2Own]
 exact mkS Tryz.f75 ⟨s_spec_l2Made, trivial⟩ trivial
theorem p_spec_l2Own (a0 : D_Heap) : P_spec_l2Own (a0, ()) =
 bif (decide (((List.length ([] : List D_A3)) + (List.length a0.2.2.2.1)) * 24 ≤ 140737488355328) && decide (((List.length ([] : List D_A3)) + (List.length a0.2.2.2.1)) ≤ 140737488355328)) then
 Option.bind (P_spec_l2Made (a0, (([] : List D_A3) ++ a0.2.2.2.1), ())) fun r1 =>
 some ((r1.1.1, (r1.1.2.1, (r1.1.2.2.1, ((([] : List D_A3) ++ a0.2.2.2.1), ())))), ())
 else none := by
 rewrite [h_spec_l2Own]
 kernel_rfl
abbrev As_spec_l2With : List ATy := [.data true T_Heap, .data true T_A3]
abbrev R_spec_l2With : List (Bool × Ty) := [(true, T_Heap)]
abbrev M_spec_l2With : List RMode := [.own 55]
abbrev Ft_spec_l2With : Type := D_Heap × D_A3 × Unit → Option (D_Heap × Unit)
def X_spec_l2With : Ctx := { types := TT, globals := [], con := [(73, C_spec_l2Made), (75, C_spec_l2Own), (111, C_spec_l2Before)], keep := [(2, ⟨[.box 2, .box 3, .box 4, .tmp 2, .tmp 3, .tmp 4, .tmp 5], []⟩)], results := [.cell 4 29], ntmps := 54, n := N }
def B_spec_l2With : Code := (Tryz.f71.body).getD .skip
def L_spec_l2With_2 (m0 : Nat) (p0 p1 p2 : Int) (p3 : List D_A3) (p4 p5 p6 p7 p8 p9 : Int) (p10 : List D_A3) (p11 : Int) : Option (denL R_spec_l2With) := loopF X_spec_l2With B_spec_l2With R_spec_l2With M_spec_l2With 2 [m0] [(.ver, .num 1), (.box 2, .box 0 false [.int .i64 p0, .int .i64 p1, .int .i64 p2, .imm T_A3 p3 (some 3)]), (.box 3, .box 0 false [.int .i64 p4, .int .i64 p5, .int .i64 p6]), (.box 4, .box 0 false [.int .i64 p7, .int .i64 p8, .int .i64 p9, .own 55 T_A3 0 p10]), (.tmp 2, .val false [.addr 2 0 0]), (.tmp 3, .val false [.addr 3 0 0]), (.tmp 4, .val false [.addr 4 0 0]), (.tmp 5, .val false [.int .i64 p11])]
def P_spec_l2With : Ft_spec_l2With := hid (runF X_spec_l2With B_spec_l2With As_spec_l2With R_spec_l2With M_spec_l2With)
theorem h_spec_l2With : P_spec_l2With = runF X_spec_l2With B_spec_l2With As_spec_l2With R_spec_l2With M_spec_l2With := hid_eq _
def C_spec_l2With : Contract := ⟨As_spec_l2With, R_spec_l2With, M_spec_l2With, P_spec_l2With⟩
theorem s_spec_l2With : Sound Tryz.prog GG 71 C_spec_l2With := by
 unfold C_spec_l2With; rw [h_spec_l2With]
 exact mkS Tryz.f71 ⟨s_spec_l2Made, s_spec_l2Own, s_spec_l2Before, trivial⟩ trivial
def l_spec_l2With_2 := hid (L_spec_l2With_2)
theorem h_spec_l2With_2 : l_spec_l2With_2 = L_spec_l2With_2 := hid_eq _
theorem p_spec_l2With (a0 : D_Heap) (a1 : D_A3) : P_spec_l2With (a0, a1, ()) =
 l_spec_l2With_2 N a0.1 a0.2.1 a0.2.2.1 a0.2.2.2.1 a1.1 a1.2.1 a1.2.2.1 0 0 0 ([] : List D_A3) 0 := by
 rewrite [h_spec_l2With, h_spec_l2With_2]
 kernel_rfl
theorem q_spec_l2With_2 (m0 : Nat) (p0 p1 p2 : Int) (p3 : List D_A3) (p4 p5 p6 p7 p8 p9 : Int) (p10 : List D_A3) (p11 : Int) : l_spec_l2With_2 (m0 + 1) p0 p1 p2 p3 p4 p5 p6 p7 p8 p9 p10 p11 =
 bif decide (p11 < (List.length p3 : Int)) then
 bif inB p11 (List.length p3) then
 Option.bind (P_spec_l2Before ((nth T_A3 p3 p11), (p4, (p5, (p6, ()))), ())) fun r2 =>
 bif r2.1 then
 l_spec_l2With_2 m0 p0 p1 p2 p3 p4 p5 p6 p7 p8 p9 p10 (IntKind.wrap .i64 (p11 + 1))
 else
 bif decide (p11 < (List.length p3 : Int)) then
 bif inB p11 (List.length p3) then
 bif (decide (((nth T_A3 p3 p11)).1 = p4) && (decide ((((nth T_A3 p3 p11)).2).1 = p5) && (decide (((((nth T_A3 p3 p11)).2).2).1 = p6) && true))) then
 Option.bind (P_spec_l2Own ((p0, (p1, (p2, (p3, ())))), ())) fun r7 =>
 some (r7.1, ())
 else
 bif (decide ((0 : Int) ≤ 0) && decide ((0 : Int) ≤ p11) && decide (p11 ≤ (List.length p3 : Int))) then
 bif (decide (((List.length ([] : List D_A3)) + (List.length (cut p3 0 p11))) * 24 ≤ 140737488355328) && decide (((List.length ([] : List D_A3)) + (List.length (cut p3 0 p11))) ≤ 140737488355328)) then
 bif (decide (((List.length (([] : List D_A3) ++ (cut p3 0 p11))) + (List.length ([(p4, (p5, (p6, ())))] : List D_A3))) * 24 ≤ 140737488355328) && decide (((List.length (([] : List D_A3) ++ (cut p3 0 p11))) + (List.length ([(p4, (p5, (p6, ())))] : List D_A3))) ≤ 140737488355328)) then
 bif (decide ((0 : Int) ≤ p11) && decide (p11 ≤ (List.length p3 : Int)) && decide ((List.length p3 : Int) ≤ (List.length p3 : Int))) then
 bif (decide (((List.length ((([] : List D_A3) ++ (cut p3 0 p11)) ++ ([(p4, (p5, (p6, ())))] : List D_A3))) + (List.length (cut p3 p11 (List.length p3 : Int)))) * 24 ≤ 140737488355328) && decide (((List.length ((([] : List D_A3) ++ (cut p3 0 p11)) ++ ([(p4, (p5, (p6, ())))] : List D_A3))) + (List.length (cut p3 p11 (List.length p3 : Int)))) ≤ 140737488355328)) then
 Option.bind (P_spec_l2Made ((p0, (p1, (p2, (p3, ())))), (((([] : List D_A3) ++ (cut p3 0 p11)) ++ ([(p4, (p5, (p6, ())))] : List D_A3)) ++ (cut p3 p11 (List.length p3 : Int))), ())) fun r12 =>
 some ((r12.1.1, (r12.1.2.1, (r12.1.2.2.1, ((((([] : List D_A3) ++ (cut p3 0 p11)) ++ ([(p4, (p5, (p6, ())))] : List D_A3)) ++ (cut p3 p11 (List.length p3 : Int))), ())))), ())
 else none
 else none
 else none
 else none
 else none
 else none
 else
 bif (decide ((0 : Int) ≤ 0) && decide ((0 : Int) ≤ p11) && decide (p11 ≤ (List.length p3 : Int))) then
 bif (decide (((List.length ([] : List D_A3)) + (List.length (cut p3 0 p11))) * 24 ≤ 140737488355328) && decide (((List.length ([] : List D_A3)) + (List.length (cut p3 0 p11))) ≤ 140737488355328)) then
 bif (decide (((List.length (([] : List D_A3) ++ (cut p3 0 p11))) + (List.length ([(p4, (p5, (p6, ())))] : List D_A3))) * 24 ≤ 140737488355328) && decide (((List.length (([] : List D_A3) ++ (cut p3 0 p11))) + (List.length ([(p4, (p5, (p6, ())))] : List D_A3))) ≤ 140737488355328)) then
 bif (decide ((0 : Int) ≤ p11) && decide (p11 ≤ (List.length p3 : Int)) && decide ((List.length p3 : Int) ≤ (List.length p3 : Int))) then
 bif (decide (((List.length ((([] : List D_A3) ++ (cut p3 0 p11)) ++ ([(p4, (p5, (p6, ())))] : List D_A3))) + (List.length (cut p3 p11 (List.length p3 : Int)))) * 24 ≤ 140737488355328) && decide (((List.length ((([] : List D_A3) ++ (cut p3 0 p11)) ++ ([(p4, (p5, (p6, ())))] : List D_A3))) + (List.length (cut p3 p11 (List.length p3 : Int)))) ≤ 140737488355328)) then
 Option.bind (P_spec_l2Made ((p0, (p1, (p2, (p3, ())))), (((([] : List D_A3) ++ (cut p3 0 p11)) ++ ([(p4, (p5, (p6, ())))] : List D_A3)) ++ (cut p3 p11 (List.length p3 : Int))), ())) fun r10 =>
 some ((r10.1.1, (r10.1.2.1, (r10.1.2.2.1, ((((([] : List D_A3) ++ (cut p3 0 p11)) ++ ([(p4, (p5, (p6, ())))] : List D_A3)) ++ (cut p3 p11 (List.length p3 : Int))), ())))), ())
 else none
 else none
 else none
 else none
 else none
 else none
 else
 bif decide (p11 < (List.length p3 : Int)) then
 bif inB p11 (List.length p3) then
 bif (decide (((nth T_A3 p3 p11)).1 = p4) && (decide ((((nth T_A3 p3 p11)).2).1 = p5) && (decide (((((nth T_A3 p3 p11)).2).2).1 = p6) && true))) then
 Option.bind (P_spec_l2Own ((p0, (p1, (p2, (p3, ())))), ())) fun r4 =>
 some (r4.1, ())
 else
 bif (decide ((0 : Int) ≤ 0) && decide ((0 : Int) ≤ p11) && decide (p11 ≤ (List.length p3 : Int))) then
 bif (decide (((List.length ([] : List D_A3)) + (List.length (cut p3 0 p11))) * 24 ≤ 140737488355328) && decide (((List.length ([] : List D_A3)) + (List.length (cut p3 0 p11))) ≤ 140737488355328)) then
 bif (decide (((List.length (([] : List D_A3) ++ (cut p3 0 p11))) + (List.length ([(p4, (p5, (p6, ())))] : List D_A3))) * 24 ≤ 140737488355328) && decide (((List.length (([] : List D_A3) ++ (cut p3 0 p11))) + (List.length ([(p4, (p5, (p6, ())))] : List D_A3))) ≤ 140737488355328)) then
 bif (decide ((0 : Int) ≤ p11) && decide (p11 ≤ (List.length p3 : Int)) && decide ((List.length p3 : Int) ≤ (List.length p3 : Int))) then
 bif (decide (((List.length ((([] : List D_A3) ++ (cut p3 0 p11)) ++ ([(p4, (p5, (p6, ())))] : List D_A3))) + (List.length (cut p3 p11 (List.length p3 : Int)))) * 24 ≤ 140737488355328) && decide (((List.length ((([] : List D_A3) ++ (cut p3 0 p11)) ++ ([(p4, (p5, (p6, ())))] : List D_A3))) + (List.length (cut p3 p11 (List.length p3 : Int)))) ≤ 140737488355328)) then
 Option.bind (P_spec_l2Made ((p0, (p1, (p2, (p3, ())))), (((([] : List D_A3) ++ (cut p3 0 p11)) ++ ([(p4, (p5, (p6, ())))] : List D_A3)) ++ (cut p3 p11 (List.length p3 : Int))), ())) fun r9 =>
 some ((r9.1.1, (r9.1.2.1, (r9.1.2.2.1, ((((([] : List D_A3) ++ (cut p3 0 p11)) ++ ([(p4, (p5, (p6, ())))] : List D_A3)) ++ (cut p3 p11 (List.length p3 : Int))), ())))), ())
 else none
 else none
 else none
 else none
 else none
 else none
 else
 bif (decide ((0 : Int) ≤ 0) && decide ((0 : Int) ≤ p11) && decide (p11 ≤ (List.length p3 : Int))) then
 bif (decide (((List.length ([] : List D_A3)) + (List.length (cut p3 0 p11))) * 24 ≤ 140737488355328) && decide (((List.length ([] : List D_A3)) + (List.length (cut p3 0 p11))) ≤ 140737488355328)) then
 bif (decide (((List.length (([] : List D_A3) ++ (cut p3 0 p11))) + (List.length ([(p4, (p5, (p6, ())))] : List D_A3))) * 24 ≤ 140737488355328) && decide (((List.length (([] : List D_A3) ++ (cut p3 0 p11))) + (List.length ([(p4, (p5, (p6, ())))] : List D_A3))) ≤ 140737488355328)) then
 bif (decide ((0 : Int) ≤ p11) && decide (p11 ≤ (List.length p3 : Int)) && decide ((List.length p3 : Int) ≤ (List.length p3 : Int))) then
 bif (decide (((List.length ((([] : List D_A3) ++ (cut p3 0 p11)) ++ ([(p4, (p5, (p6, ())))] : List D_A3))) + (List.length (cut p3 p11 (List.length p3 : Int)))) * 24 ≤ 140737488355328) && decide (((List.length ((([] : List D_A3) ++ (cut p3 0 p11)) ++ ([(p4, (p5, (p6, ())))] : List D_A3))) + (List.length (cut p3 p11 (List.length p3 : Int)))) ≤ 140737488355328)) then
 Option.bind (P_spec_l2Made ((p0, (p1, (p2, (p3, ())))), (((([] : List D_A3) ++ (cut p3 0 p11)) ++ ([(p4, (p5, (p6, ())))] : List D_A3)) ++ (cut p3 p11 (List.length p3 : Int))), ())) fun r7 =>
 some ((r7.1.1, (r7.1.2.1, (r7.1.2.2.1, ((((([] : List D_A3) ++ (cut p3 0 p11)) ++ ([(p4, (p5, (p6, ())))] : List D_A3)) ++ (cut p3 p11 (List.length p3 : Int))), ())))), ())
 else none
 else none
 else none
 else none
 else none := by
 rewrite [h_spec_l2With_2]
 kernel_rfl
abbrev As_spec_l8Made : List ATy := [.data true T_Heap, .data true T_l8Turn]
abbrev R_spec_l8Made : List (Bool × Ty) := [(true, T_Heap)]
abbrev M_spec_l8Made : List RMode := [.own 55]
abbrev Ft_spec_l8Made : Type := D_Heap × D_l8Turn × Unit → Option (D_Heap × Unit)
def X_spec_l8Made : Ctx := { types := TT, globals := [], con := [(68, C_spec_l2Empty), (70, C_spec_l2Long), (71, C_spec_l2With)], keep := [(3, ⟨[.box 2, .box 3, .box 4, .box 5, .tmp 2, .tmp 3, .tmp 4, .tmp 5, .tmp 6], []⟩), (7, ⟨[.box 2, .box 3, .box 4, .box 5, .box 7, .tmp 2, .tmp 3, .tmp 4, .tmp 5, .tmp 6, .tmp 7, .tmp 8], []⟩)], results := [.cell 4 29], ntmps := 71, n := N }
def B_spec_l8Made : Code := (Tryz.f28.body).getD .skip
def L_spec_l8Made_3 (m0 : Nat) (p0 p1 p2 : Int) (p3 : List D_A3) (p4 p5 p6 p7 p8 p9 p10 p11 p12 : Int) (p13 : List D_A3) (p14 p15 p16 : Int) (p17 : List D_A3) (p18 : Int) : Option (denL R_spec_l8Made) := loopF X_spec_l8Made B_spec_l8Made R_spec_l8Made M_spec_l8Made 3 [m0] [(.ver, .num 1), (.box 2, .box 0 false [.int .i64 p0, .int .i64 p1, .int .i64 p2, .imm T_A3 p3 (some 3)]), (.box 3, .box 0 false [.int .i64 p4, .int .i64 p5, .int .i64 p6, .int .i64 p7, .int .i64 p8, .int .i64 p9]), (.box 4, .box 0 false [.int .i64 p10, .int .i64 p11, .int .i64 p12, .own 55 T_A3 0 p13]), (.box 5, .box 0 false [.int .i64 p14, .int .i64 p15, .int .i64 p16, .own 55 T_A3 0 p17]), (.tmp 2, .val false [.addr 2 0 0]), (.tmp 3, .val false [.addr 3 0 0]), (.tmp 4, .val false [.addr 4 0 0]), (.tmp 5, .val false [.addr 5 0 0]), (.tmp 6, .val false [.int .i64 p18])]
def L_spec_l8Made_7 (m0 m1 : Nat) (p0 p1 p2 : Int) (p3 : List D_A3) (p4 p5 p6 p7 p8 p9 p10 p11 p12 : Int) (p13 : List D_A3) (p14 p15 p16 : Int) (p17 : List D_A3) (p18 p19 p20 p21 p22 : Int) : Option (denL R_spec_l8Made) := loopF X_spec_l8Made B_spec_l8Made R_spec_l8Made M_spec_l8Made 7 [m0, m1] [(.ver, .num 1), (.box 2, .box 0 false [.int .i64 p0, .int .i64 p1, .int .i64 p2, .imm T_A3 p3 (some 3)]), (.box 3, .box 0 false [.int .i64 p4, .int .i64 p5, .int .i64 p6, .int .i64 p7, .int .i64 p8, .int .i64 p9]), (.box 4, .box 0 false [.int .i64 p10, .int .i64 p11, .int .i64 p12, .own 55 T_A3 0 p13]), (.box 5, .box 0 false [.int .i64 p14, .int .i64 p15, .int .i64 p16, .own 55 T_A3 0 p17]), (.box 7, .box 0 false [.int .i64 p18, .int .i64 p19, .int .i64 p20]), (.tmp 2, .val false [.addr 2 0 0]), (.tmp 3, .val false [.addr 3 0 0]), (.tmp 4, .val false [.addr 4 0 0]), (.tmp 5, .val false [.addr 5 0 0]), (.tmp 6, .val false [.int .i64 p21]), (.tmp 7, .val false [.addr 7 0 0]), (.tmp 8, .val false [.int .i64 p22])]
def P_spec_l8Made : Ft_spec_l8Made := hid (runF X_spec_l8Made B_spec_l8Made As_spec_l8Made R_spec_l8Made M_spec_l8Made)
theorem h_spec_l8Made : P_spec_l8Made = runF X_spec_l8Made B_spec_l8Made As_spec_l8Made R_spec_l8Made M_spec_l8Made := hid_eq _
def C_spec_l8Made : Contract := ⟨As_spec_l8Made, R_spec_l8Made, M_spec_l8Made, P_spec_l8Made⟩
theorem s_spec_l8Made : Sound Tryz.prog GG 28 C_spec_l8Made := by
 unfold C_spec_l8Made; rw [h_spec_l8Made]
 exact mkS Tryz.f28 ⟨s_spec_l2Empty, s_spec_l2Long, s_spec_l2With, trivial⟩ trivial
def l_spec_l8Made_3 := hid (L_spec_l8Made_3)
theorem h_spec_l8Made_3 : l_spec_l8Made_3 = L_spec_l8Made_3 := hid_eq _
def l_spec_l8Made_7 := hid (L_spec_l8Made_7)
theorem h_spec_l8Made_7 : l_spec_l8Made_7 = L_spec_l8Made_7 := hid_eq _
theorem p_spec_l8Made (a0 : D_Heap) (a1 : D_l8Turn) : P_spec_l8Made (a0, a1, ()) =
 Option.bind (P_spec_l2Long (a0, a1.1.1, ())) fun r0 =>
 Option.bind (P_spec_l2Long (a0, a1.1.2.1, ())) fun r1 =>
 Option.bind (P_spec_l2Long (a0, a1.1.2.2.1, ())) fun r2 =>
 Option.bind (P_spec_l2Empty (r0.1, r1.1, r2.1, ())) fun r3 =>
 l_spec_l8Made_3 N a0.1 a0.2.1 a0.2.2.1 a0.2.2.2.1 a1.1.1 a1.1.2.1 a1.1.2.2.1 a1.2.1.1 a1.2.1.2.1 a1.2.1.2.2.1 0 0 0 ([] : List D_A3) r3.1.1 r3.1.2.1 r3.1.2.2.1 r3.1.2.2.2.1 0 := by
 rewrite [h_spec_l8Made, h_spec_l8Made_3]
 kernel_rfl
theorem q_spec_l8Made_3 (m0 : Nat) (p0 p1 p2 : Int) (p3 : List D_A3) (p4 p5 p6 p7 p8 p9 p10 p11 p12 : Int) (p13 : List D_A3) (p14 p15 p16 : Int) (p17 : List D_A3) (p18 : Int) : l_spec_l8Made_3 (m0 + 1) p0 p1 p2 p3 p4 p5 p6 p7 p8 p9 p10 p11 p12 p13 p14 p15 p16 p17 p18 =
 bif decide (p18 < (List.length p3 : Int)) then
 l_spec_l8Made_7 m0 N p0 p1 p2 p3 p4 p5 p6 p7 p8 p9 p10 p11 p12 p13 p14 p15 p16 p17 0 0 0 p18 0
 else
 some ((p14, (p15, (p16, (p17, ())))), ()) := by
 rewrite [h_spec_l8Made_3, h_spec_l8Made_7]
 kernel_rfl
theorem q_spec_l8Made_7 (m0 m1 : Nat) (p0 p1 p2 : Int) (p3 : List D_A3) (p4 p5 p6 p7 p8 p9 p10 p11 p12 : Int) (p13 : List D_A3) (p14 p15 p16 : Int) (p17 : List D_A3) (p18 p19 p20 p21 p22 : Int) : l_spec_l8Made_7 m0 (m1 + 1) p0 p1 p2 p3 p4 p5 p6 p7 p8 p9 p10 p11 p12 p13 p14 p15 p16 p17 p18 p19 p20 p21 p22 =
 bif decide (p22 < 3) then
 bif inB p22 3 then
 bif inB p21 (List.length p3) then
 bif inB (bif decide (p22 = (0 : Int)) then p4 else (bif decide (p22 = (1 : Int)) then p5 else p6)) 3 then
 bif inB p22 3 then
 bif inB p22 3 then
 bif decide ((bif decide (p22 = (0 : Int)) then p7 else (bif decide (p22 = (1 : Int)) then p8 else p9)) = 1) then
 bif inB p22 3 then
 Option.bind (P_spec_l2Long ((p0, (p1, (p2, (p3, ())))), (bif decide (p22 = (0 : Int)) then p4 else (bif decide (p22 = (1 : Int)) then p5 else p6)), ())) fun r8 =>
 bif inB p22 3 then
 bif inB p22 3 then
 l_spec_l8Made_7 m0 m1 p0 p1 p2 p3 p4 p5 p6 p7 p8 p9 p10 p11 p12 p13 p14 p15 p16 p17 (bif decide (p22 = (0 : Int)) then (IntKind.wrap .i64 ((IntKind.wrap .i64 (r8.1 - 1)) - (bif decide (p22 = (0 : Int)) then (bif decide (p22 = (0 : Int)) then (bif decide ((bif decide (p22 = (0 : Int)) then p4 else (bif decide (p22 = (1 : Int)) then p5 else p6)) = (0 : Int)) then ((nth T_A3 p3 p21)).1 else (bif decide ((bif decide (p22 = (0 : Int)) then p4 else (bif decide (p22 = (1 : Int)) then p5 else p6)) = (1 : Int)) then (((nth T_A3 p3 p21)).2).1 else ((((nth T_A3 p3 p21)).2).2).1)) else p18) else (bif decide (p22 = (1 : Int)) then (bif decide (p22 = (1 : Int)) then (bif decide ((bif decide (p22 = (0 : Int)) then p4 else (bif decide (p22 = (1 : Int)) then p5 else p6)) = (0 : Int)) then ((nth T_A3 p3 p21)).1 else (bif decide ((bif decide (p22 = (0 : Int)) then p4 else (bif decide (p22 = (1 : Int)) then p5 else p6)) = (1 : Int)) then (((nth T_A3 p3 p21)).2).1 else ((((nth T_A3 p3 p21)).2).2).1)) else p19) else (bif decide (p22 = (2 : Int)) then (bif decide ((bif decide (p22 = (0 : Int)) then p4 else (bif decide (p22 = (1 : Int)) then p5 else p6)) = (0 : Int)) then ((nth T_A3 p3 p21)).1 else (bif decide ((bif decide (p22 = (0 : Int)) then p4 else (bif decide (p22 = (1 : Int)) then p5 else p6)) = (1 : Int)) then (((nth T_A3 p3 p21)).2).1 else ((((nth T_A3 p3 p21)).2).2).1)) else p20))))) else (bif decide (p22 = (0 : Int)) then (bif decide ((bif decide (p22 = (0 : Int)) then p4 else (bif decide (p22 = (1 : Int)) then p5 else p6)) = (0 : Int)) then ((nth T_A3 p3 p21)).1 else (bif decide ((bif decide (p22 = (0 : Int)) then p4 else (bif decide (p22 = (1 : Int)) then p5 else p6)) = (1 : Int)) then (((nth T_A3 p3 p21)).2).1 else ((((nth T_A3 p3 p21)).2).2).1)) else p18)) (bif decide (p22 = (1 : Int)) then (IntKind.wrap .i64 ((IntKind.wrap .i64 (r8.1 - 1)) - (bif decide (p22 = (0 : Int)) then (bif decide (p22 = (0 : Int)) then (bif decide ((bif decide (p22 = (0 : Int)) then p4 else (bif decide (p22 = (1 : Int)) then p5 else p6)) = (0 : Int)) then ((nth T_A3 p3 p21)).1 else (bif decide ((bif decide (p22 = (0 : Int)) then p4 else (bif decide (p22 = (1 : Int)) then p5 else p6)) = (1 : Int)) then (((nth T_A3 p3 p21)).2).1 else ((((nth T_A3 p3 p21)).2).2).1)) else p18) else (bif decide (p22 = (1 : Int)) then (bif decide (p22 = (1 : Int)) then (bif decide ((bif decide (p22 = (0 : Int)) then p4 else (bif decide (p22 = (1 : Int)) then p5 else p6)) = (0 : Int)) then ((nth T_A3 p3 p21)).1 else (bif decide ((bif decide (p22 = (0 : Int)) then p4 else (bif decide (p22 = (1 : Int)) then p5 else p6)) = (1 : Int)) then (((nth T_A3 p3 p21)).2).1 else ((((nth T_A3 p3 p21)).2).2).1)) else p19) else (bif decide (p22 = (2 : Int)) then (bif decide ((bif decide (p22 = (0 : Int)) then p4 else (bif decide (p22 = (1 : Int)) then p5 else p6)) = (0 : Int)) then ((nth T_A3 p3 p21)).1 else (bif decide ((bif decide (p22 = (0 : Int)) then p4 else (bif decide (p22 = (1 : Int)) then p5 else p6)) = (1 : Int)) then (((nth T_A3 p3 p21)).2).1 else ((((nth T_A3 p3 p21)).2).2).1)) else p20))))) else (bif decide (p22 = (1 : Int)) then (bif decide ((bif decide (p22 = (0 : Int)) then p4 else (bif decide (p22 = (1 : Int)) then p5 else p6)) = (0 : Int)) then ((nth T_A3 p3 p21)).1 else (bif decide ((bif decide (p22 = (0 : Int)) then p4 else (bif decide (p22 = (1 : Int)) then p5 else p6)) = (1 : Int)) then (((nth T_A3 p3 p21)).2).1 else ((((nth T_A3 p3 p21)).2).2).1)) else p19)) (bif decide (p22 = (2 : Int)) then (IntKind.wrap .i64 ((IntKind.wrap .i64 (r8.1 - 1)) - (bif decide (p22 = (0 : Int)) then (bif decide (p22 = (0 : Int)) then (bif decide ((bif decide (p22 = (0 : Int)) then p4 else (bif decide (p22 = (1 : Int)) then p5 else p6)) = (0 : Int)) then ((nth T_A3 p3 p21)).1 else (bif decide ((bif decide (p22 = (0 : Int)) then p4 else (bif decide (p22 = (1 : Int)) then p5 else p6)) = (1 : Int)) then (((nth T_A3 p3 p21)).2).1 else ((((nth T_A3 p3 p21)).2).2).1)) else p18) else (bif decide (p22 = (1 : Int)) then (bif decide (p22 = (1 : Int)) then (bif decide ((bif decide (p22 = (0 : Int)) then p4 else (bif decide (p22 = (1 : Int)) then p5 else p6)) = (0 : Int)) then ((nth T_A3 p3 p21)).1 else (bif decide ((bif decide (p22 = (0 : Int)) then p4 else (bif decide (p22 = (1 : Int)) then p5 else p6)) = (1 : Int)) then (((nth T_A3 p3 p21)).2).1 else ((((nth T_A3 p3 p21)).2).2).1)) else p19) else (bif decide (p22 = (2 : Int)) then (bif decide ((bif decide (p22 = (0 : Int)) then p4 else (bif decide (p22 = (1 : Int)) then p5 else p6)) = (0 : Int)) then ((nth T_A3 p3 p21)).1 else (bif decide ((bif decide (p22 = (0 : Int)) then p4 else (bif decide (p22 = (1 : Int)) then p5 else p6)) = (1 : Int)) then (((nth T_A3 p3 p21)).2).1 else ((((nth T_A3 p3 p21)).2).2).1)) else p20))))) else (bif decide (p22 = (2 : Int)) then (bif decide ((bif decide (p22 = (0 : Int)) then p4 else (bif decide (p22 = (1 : Int)) then p5 else p6)) = (0 : Int)) then ((nth T_A3 p3 p21)).1 else (bif decide ((bif decide (p22 = (0 : Int)) then p4 else (bif decide (p22 = (1 : Int)) then p5 else p6)) = (1 : Int)) then (((nth T_A3 p3 p21)).2).1 else ((((nth T_A3 p3 p21)).2).2).1)) else p20)) p21 (IntKind.wrap .i64 (p22 + 1))
 else none
 else none
 else none
 else
 l_spec_l8Made_7 m0 m1 p0 p1 p2 p3 p4 p5 p6 p7 p8 p9 p10 p11 p12 p13 p14 p15 p16 p17 (bif decide (p22 = (0 : Int)) then (bif decide ((bif decide (p22 = (0 : Int)) then p4 else (bif decide (p22 = (1 : Int)) then p5 else p6)) = (0 : Int)) then ((nth T_A3 p3 p21)).1 else (bif decide ((bif decide (p22 = (0 : Int)) then p4 else (bif decide (p22 = (1 : Int)) then p5 else p6)) = (1 : Int)) then (((nth T_A3 p3 p21)).2).1 else ((((nth T_A3 p3 p21)).2).2).1)) else p18) (bif decide (p22 = (1 : Int)) then (bif decide ((bif decide (p22 = (0 : Int)) then p4 else (bif decide (p22 = (1 : Int)) then p5 else p6)) = (0 : Int)) then ((nth T_A3 p3 p21)).1 else (bif decide ((bif decide (p22 = (0 : Int)) then p4 else (bif decide (p22 = (1 : Int)) then p5 else p6)) = (1 : Int)) then (((nth T_A3 p3 p21)).2).1 else ((((nth T_A3 p3 p21)).2).2).1)) else p19) (bif decide (p22 = (2 : Int)) then (bif decide ((bif decide (p22 = (0 : Int)) then p4 else (bif decide (p22 = (1 : Int)) then p5 else p6)) = (0 : Int)) then ((nth T_A3 p3 p21)).1 else (bif decide ((bif decide (p22 = (0 : Int)) then p4 else (bif decide (p22 = (1 : Int)) then p5 else p6)) = (1 : Int)) then (((nth T_A3 p3 p21)).2).1 else ((((nth T_A3 p3 p21)).2).2).1)) else p20) p21 (IntKind.wrap .i64 (p22 + 1))
 else none
 else none
 else none
 else none
 else none
 else
 Option.bind (P_spec_l2With ((p14, (p15, (p16, (p17, ())))), (p18, (p19, (p20, ()))), ())) fun r1 =>
 l_spec_l8Made_3 m0 p0 p1 p2 p3 p4 p5 p6 p7 p8 p9 p10 p11 p12 p13 r1.1.1 r1.1.2.1 r1.1.2.2.1 r1.1.2.2.2.1 (IntKind.wrap .i64 (p21 + 1)) := by
 rewrite [h_spec_l8Made_3, h_spec_l8Made_7]
 kernel_rfl
abbrev As_spec_l8First : List ATy := [.data true T_Heap]
abbrev R_spec_l8First : List (Bool × Ty) := [(true, T_Heap)]
abbrev M_spec_l8First : List RMode := [.own 55]
abbrev Ft_spec_l8First : Type := D_Heap × Unit → Option (D_Heap × Unit)
def X_spec_l8First : Ctx := { types := TT, globals := [], con := [(26, C_spec_l2Cropped), (27, C_spec_l8Turns), (28, C_spec_l8Made), (78, C_spec_l8Less)], keep := [(3, ⟨[.box 1, .box 2, .box 3, .tmp 1, .tmp 2, .tmp 3, .tmp 4, .tmp 5], []⟩)], results := [.cell 2 29], ntmps := 28, n := N }
def B_spec_l8First : Code := (Tryz.f33.body).getD .skip
def L_spec_l8First_3 (m0 : Nat) (p0 p1 p2 : Int) (p3 : List D_A3) (p4 p5 p6 : Int) (p7 : List D_A3) (p8 p9 p10 : Int) (p11 : List D_A3) (p12 : List D_l8Turn) (p13 : Int) : Option (denL R_spec_l8First) := loopF X_spec_l8First B_spec_l8First R_spec_l8First M_spec_l8First 3 [m0] [(.ver, .num 1), (.box 1, .box 0 false [.int .i64 p0, .int .i64 p1, .int .i64 p2, .imm T_A3 p3 (some 3)]), (.box 2, .box 0 false [.int .i64 p4, .int .i64 p5, .int .i64 p6, .own 55 T_A3 0 p7]), (.box 3, .box 0 false [.int .i64 p8, .int .i64 p9, .int .i64 p10, .own 55 T_A3 0 p11]), (.tmp 1, .val false [.addr 1 0 0]), (.tmp 2, .val false [.addr 2 0 0]), (.tmp 3, .val false [.addr 3 0 0]), (.tmp 4, .val false [.own 57 T_l8Turn 0 p12]), (.tmp 5, .val false [.int .i64 p13])]
def P_spec_l8First : Ft_spec_l8First := hid (runF X_spec_l8First B_spec_l8First As_spec_l8First R_spec_l8First M_spec_l8First)
theorem h_spec_l8First : P_spec_l8First = runF X_spec_l8First B_spec_l8First As_spec_l8First R_spec_l8First M_spec_l8First := hid_eq _
def C_spec_l8First : Contract := ⟨As_spec_l8First, R_spec_l8First, M_spec_l8First, P_spec_l8First⟩
theorem s_spec_l8First : Sound Tryz.prog GG 33 C_spec_l8First := by
 unfold C_spec_l8First; rw [h_spec_l8First]
 exact mkS Tryz.f33 ⟨s_spec_l2Cropped, s_spec_l8Turns, s_spec_l8Made, s_spec_l8Less, trivial⟩ trivial
def l_spec_l8First_3 := hid (L_spec_l8First_3)
theorem h_spec_l8First_3 : l_spec_l8First_3 = L_spec_l8First_3 := hid_eq _
theorem p_spec_l8First (a0 : D_Heap) : P_spec_l8First (a0, ()) =
 Option.bind (P_spec_l2Cropped (a0, ())) fun r0 =>
 Option.bind (P_spec_l8Turns (())) fun r1 =>
 l_spec_l8First_3 N a0.1 a0.2.1 a0.2.2.1 a0.2.2.2.1 0 0 0 ([] : List D_A3) r0.1.1 r0.1.2.1 r0.1.2.2.1 r0.1.2.2.2.1 r1.1 0 := by
 rewrite [h_spec_l8First, h_spec_l8First_3]
 kernel_rfl
theorem q_spec_l8First_3 (m0 : Nat) (p0 p1 p2 : Int) (p3 : List D_A3) (p4 p5 p6 : Int) (p7 : List D_A3) (p8 p9 p10 : Int) (p11 : List D_A3) (p12 : List D_l8Turn) (p13 : Int) : l_spec_l8First_3 (m0 + 1) p0 p1 p2 p3 p4 p5 p6 p7 p8 p9 p10 p11 p12 p13 =
 bif decide (p13 < (List.length p12 : Int)) then
 bif inB p13 (List.length p12) then
 Option.bind (P_spec_l8Made ((p0, (p1, (p2, (p3, ())))), (nth T_l8Turn p12 p13), ())) fun r2 =>
 Option.bind (P_spec_l2Cropped (r2.1, ())) fun r3 =>
 Option.bind (P_spec_l8Less (r3.1, (p8, (p9, (p10, (p11, ())))), ())) fun r4 =>
 bif r4.1 then
 l_spec_l8First_3 m0 p0 p1 p2 p3 p4 p5 p6 p7 r3.1.1 r3.1.2.1 r3.1.2.2.1 r3.1.2.2.2.1 p12 (IntKind.wrap .i64 (p13 + 1))
 else
 l_spec_l8First_3 m0 p0 p1 p2 p3 p4 p5 p6 p7 p8 p9 p10 p11 p12 (IntKind.wrap .i64 (p13 + 1))
 else none
 else
 some ((p8, (p9, (p10, (p11, ())))), ()) := by
 rewrite [h_spec_l8First_3]
 kernel_rfl
abbrev As_spec_l2Has : List ATy := [.data true T_Heap, .data true T_A3]
abbrev R_spec_l2Has : List (Bool × Ty) := [(false, .bool)]
abbrev M_spec_l2Has : List RMode := []
abbrev Ft_spec_l2Has : Type := D_Heap × D_A3 × Unit → Option (Bool × Unit)
def X_spec_l2Has : Ctx := { types := TT, globals := [], con := [], keep := [(2, ⟨[.box 2, .box 3, .tmp 2, .tmp 3, .tmp 5], []⟩)], results := [.tmp 4], ntmps := 20, n := N }
def B_spec_l2Has : Code := (Tryz.f72.body).getD .skip
def L_spec_l2Has_2 (m0 : Nat) (p0 p1 p2 : Int) (p3 : List D_A3) (p4 p5 p6 p7 : Int) : Option (denL R_spec_l2Has) := loopF X_spec_l2Has B_spec_l2Has R_spec_l2Has M_spec_l2Has 2 [m0] [(.ver, .num 1), (.box 2, .box 0 false [.int .i64 p0, .int .i64 p1, .int .i64 p2, .imm T_A3 p3 (some 3)]), (.box 3, .box 0 false [.int .i64 p4, .int .i64 p5, .int .i64 p6]), (.tmp 2, .val false [.addr 2 0 0]), (.tmp 3, .val false [.addr 3 0 0]), (.tmp 5, .val false [.int .i64 p7])]
def P_spec_l2Has : Ft_spec_l2Has := hid (runF X_spec_l2Has B_spec_l2Has As_spec_l2Has R_spec_l2Has M_spec_l2Has)
theorem h_spec_l2Has : P_spec_l2Has = runF X_spec_l2Has B_spec_l2Has As_spec_l2Has R_spec_l2Has M_spec_l2Has := hid_eq _
def C_spec_l2Has : Contract := ⟨As_spec_l2Has, R_spec_l2Has, M_spec_l2Has, P_spec_l2Has⟩
theorem s_spec_l2Has : Sound Tryz.prog GG 72 C_spec_l2Has := by
 unfold C_spec_l2Has; rw [h_spec_l2Has]
 exact mkS Tryz.f72 trivial trivial
def l_spec_l2Has_2 := hid (L_spec_l2Has_2)
theorem h_spec_l2Has_2 : l_spec_l2Has_2 = L_spec_l2Has_2 := hid_eq _
theorem p_spec_l2Has (a0 : D_Heap) (a1 : D_A3) : P_spec_l2Has (a0, a1, ()) =
 l_spec_l2Has_2 N a0.1 a0.2.1 a0.2.2.1 a0.2.2.2.1 a1.1 a1.2.1 a1.2.2.1 0 := by
 rewrite [h_spec_l2Has, h_spec_l2Has_2]
 kernel_rfl
theorem q_spec_l2Has_2 (m0 : Nat) (p0 p1 p2 : Int) (p3 : List D_A3) (p4 p5 p6 p7 : Int) : l_spec_l2Has_2 (m0 + 1) p0 p1 p2 p3 p4 p5 p6 p7 =
 bif decide (p7 < (List.length p3 : Int)) then
 bif inB p7 (List.length p3) then
 bif (decide (((nth T_A3 p3 p7)).1 = p4) && (decide ((((nth T_A3 p3 p7)).2).1 = p5) && (decide (((((nth T_A3 p3 p7)).2).2).1 = p6) && true))) then
 some (true, ())
 else
 l_spec_l2Has_2 m0 p0 p1 p2 p3 p4 p5 p6 (IntKind.wrap .i64 (p7 + 1))
 else none
 else
 some (false, ()) := by
 rewrite [h_spec_l2Has_2]
 kernel_rfl
abbrev As_spec_l2In : List ATy := [.data true T_Heap, .data true T_A3]
abbrev R_spec_l2In : List (Bool × Ty) := [(false, .bool)]
abbrev M_spec_l2In : List RMode := []
abbrev Ft_spec_l2In : Type := D_Heap × D_A3 × Unit → Option (Bool × Unit)
def X_spec_l2In : Ctx := { types := TT, globals := [], con := [(51, C_spec_l1In)], keep := [], results := [.tmp 4], ntmps := 27, n := N }
def B_spec_l2In : Code := (Tryz.f74.body).getD .skip
def P_spec_l2In : Ft_spec_l2In := hid (runF X_spec_l2In B_spec_l2In As_spec_l2In R_spec_l2In M_spec_l2In)
theorem h_spec_l2In : P_spec_l2In = runF X_spec_l2In B_spec_l2In As_spec_l2In R_spec_l2In M_spec_l2In := hid_eq _
def C_spec_l2In : Contract := ⟨As_spec_l2In, R_spec_l2In, M_spec_l2In, P_spec_l2In⟩
theorem s_spec_l2In : Sound Tryz.prog GG 74 C_spec_l2In := by
 unfold C_spec_l2In; rw [h_spec_l2In]
 exact mkS Tryz.f74 ⟨s_spec_l1In, trivial⟩ trivial
theorem p_spec_l2In (a0 : D_Heap) (a1 : D_A3) : P_spec_l2In (a0, a1, ()) =
 Option.bind (P_spec_l1In (a1.1, 0, (IntKind.wrap .i64 (a0.1 - 1)), ())) fun r0 =>
 bif r0.1 then
 Option.bind (P_spec_l1In (a1.2.1, 0, (IntKind.wrap .i64 (a0.2.1 - 1)), ())) fun r2 =>
 bif r2.1 then
 Option.bind (P_spec_l1In (a1.2.2.1, 0, (IntKind.wrap .i64 (a0.2.2.1 - 1)), ())) fun r4 =>
 some (r4.1, ())
 else
 some (false, ())
 else
 some (false, ()) := by
 rewrite [h_spec_l2In]
 kernel_rfl
abbrev As_laws_eqIntA3 : List ATy := [.data true T_A3, .data true T_A3]
abbrev R_laws_eqIntA3 : List (Bool × Ty) := [(false, .bool)]
abbrev M_laws_eqIntA3 : List RMode := []
abbrev Ft_laws_eqIntA3 : Type := D_A3 × D_A3 × Unit → Option (Bool × Unit)
def X_laws_eqIntA3 : Ctx := { types := TT, globals := [], con := [], keep := [(2, ⟨[.box 2, .box 3, .tmp 2, .tmp 3, .tmp 5], []⟩)], results := [.tmp 4], ntmps := 17, n := N }
def B_laws_eqIntA3 : Code := (Tryz.f93.body).getD .skip
def L_laws_eqIntA3_2 (m0 : Nat) (p0 p1 p2 p3 p4 p5 p6 : Int) : Option (denL R_laws_eqIntA3) := loopF X_laws_eqIntA3 B_laws_eqIntA3 R_laws_eqIntA3 M_laws_eqIntA3 2 [m0] [(.ver, .num 1), (.box 2, .box 0 false [.int .i64 p0, .int .i64 p1, .int .i64 p2]), (.box 3, .box 0 false [.int .i64 p3, .int .i64 p4, .int .i64 p5]), (.tmp 2, .val false [.addr 2 0 0]), (.tmp 3, .val false [.addr 3 0 0]), (.tmp 5, .val false [.int .i64 p6])]
def P_laws_eqIntA3 : Ft_laws_eqIntA3 := hid (runF X_laws_eqIntA3 B_laws_eqIntA3 As_laws_eqIntA3 R_laws_eqIntA3 M_laws_eqIntA3)
theorem h_laws_eqIntA3 : P_laws_eqIntA3 = runF X_laws_eqIntA3 B_laws_eqIntA3 As_laws_eqIntA3 R_laws_eqIntA3 M_laws_eqIntA3 := hid_eq _
def C_laws_eqIntA3 : Contract := ⟨As_laws_eqIntA3, R_laws_eqIntA3, M_laws_eqIntA3, P_laws_eqIntA3⟩
theorem s_laws_eqIntA3 : Sound Tryz.prog GG 93 C_laws_eqIntA3 := by
 unfold C_laws_eqIntA3; rw [h_laws_eqIntA3]
 exact mkS Tryz.f93 trivial trivial
def l_laws_eqIntA3_2 := hid (L_laws_eqIntA3_2)
theorem h_laws_eqIntA3_2 : l_laws_eqIntA3_2 = L_laws_eqIntA3_2 := hid_eq _
theorem p_laws_eqIntA3 (a0 a1 : D_A3) : P_laws_eqIntA3 (a0, a1, ()) =
 l_laws_eqIntA3_2 N a0.1 a0.2.1 a0.2.2.1 a1.1 a1.2.1 a1.2.2.1 0 := by
 rewrite [h_laws_eqIntA3, h_laws_eqIntA3_2]
 kernel_rfl
theorem q_laws_eqIntA3_2 (m0 : Nat) (p0 p1 p2 p3 p4 p5 p6 : Int) : l_laws_eqIntA3_2 (m0 + 1) p0 p1 p2 p3 p4 p5 p6 =
 bif decide (p6 < 3) then
 bif inB p6 3 then
 bif inB p6 3 then
 bif !decide ((bif decide (p6 = (0 : Int)) then p0 else (bif decide (p6 = (1 : Int)) then p1 else p2)) = (bif decide (p6 = (0 : Int)) then p3 else (bif decide (p6 = (1 : Int)) then p4 else p5))) then
 some (false, ())
 else
 l_laws_eqIntA3_2 m0 p0 p1 p2 p3 p4 p5 (IntKind.wrap .i64 (p6 + 1))
 else none
 else none
 else
 some (true, ()) := by
 rewrite [h_laws_eqIntA3_2]
 kernel_rfl
abbrev As_laws_eqIntA3S : List ATy := [.data false (.sl T_A3), .data false (.sl T_A3)]
abbrev R_laws_eqIntA3S : List (Bool × Ty) := [(false, .bool)]
abbrev M_laws_eqIntA3S : List RMode := []
abbrev Ft_laws_eqIntA3S : Type := (List D_A3) × (List D_A3) × Unit → Option (Bool × Unit)
def X_laws_eqIntA3S : Ctx := { types := TT, globals := [], con := [(93, C_laws_eqIntA3)], keep := [(4, ⟨[.tmp 0, .tmp 1, .tmp 5], []⟩)], results := [.tmp 4], ntmps := 27, n := N }
def B_laws_eqIntA3S : Code := (Tryz.f45.body).getD .skip
def L_laws_eqIntA3S_4 (m0 : Nat) (p0 p1 : List D_A3) (p2 : Int) : Option (denL R_laws_eqIntA3S) := loopF X_laws_eqIntA3S B_laws_eqIntA3S R_laws_eqIntA3S M_laws_eqIntA3S 4 [m0] [(.ver, .num 1), (.tmp 0, .val false [.imm T_A3 p0 (some 0)]), (.tmp 1, .val false [.imm T_A3 p1 (some 1)]), (.tmp 5, .val false [.int .i64 p2])]
def P_laws_eqIntA3S : Ft_laws_eqIntA3S := hid (runF X_laws_eqIntA3S B_laws_eqIntA3S As_laws_eqIntA3S R_laws_eqIntA3S M_laws_eqIntA3S)
theorem h_laws_eqIntA3S : P_laws_eqIntA3S = runF X_laws_eqIntA3S B_laws_eqIntA3S As_laws_eqIntA3S R_laws_eqIntA3S M_laws_eqIntA3S := hid_eq _
def C_laws_eqIntA3S : Contract := ⟨As_laws_eqIntA3S, R_laws_eqIntA3S, M_laws_eqIntA3S, P_laws_eqIntA3S⟩
theorem s_laws_eqIntA3S : Sound Tryz.prog GG 45 C_laws_eqIntA3S := by
 unfold C_laws_eqIntA3S; rw [h_laws_eqIntA3S]
 exact mkS Tryz.f45 ⟨s_laws_eqIntA3, trivial⟩ trivial
def l_laws_eqIntA3S_4 := hid (L_laws_eqIntA3S_4)
theorem h_laws_eqIntA3S_4 : l_laws_eqIntA3S_4 = L_laws_eqIntA3S_4 := hid_eq _
theorem p_laws_eqIntA3S (a0 a1 : List D_A3) : P_laws_eqIntA3S (a0, a1, ()) =
 bif !decide ((List.length a0 : Int) = (List.length a1 : Int)) then
 some (false, ())
 else
 l_laws_eqIntA3S_4 N a0 a1 0 := by
 rewrite [h_laws_eqIntA3S, h_laws_eqIntA3S_4]
 kernel_rfl
theorem q_laws_eqIntA3S_4 (m0 : Nat) (p0 p1 : List D_A3) (p2 : Int) : l_laws_eqIntA3S_4 (m0 + 1) p0 p1 p2 =
 bif decide (p2 < (List.length p0 : Int)) then
 bif inB p2 (List.length p0) then
 bif inB p2 (List.length p1) then
 Option.bind (P_laws_eqIntA3 ((nth T_A3 p0 p2), (nth T_A3 p1 p2), ())) fun r3 =>
 bif !r3.1 then
 some (false, ())
 else
 l_laws_eqIntA3S_4 m0 p0 p1 (IntKind.wrap .i64 (p2 + 1))
 else none
 else none
 else
 some (true, ()) := by
 rewrite [h_laws_eqIntA3S_4]
 kernel_rfl
abbrev As_laws_eqHeap : List ATy := [.data true T_Heap, .data true T_Heap]
abbrev R_laws_eqHeap : List (Bool × Ty) := [(false, .bool)]
abbrev M_laws_eqHeap : List RMode := []
abbrev Ft_laws_eqHeap : Type := D_Heap × D_Heap × Unit → Option (Bool × Unit)
def X_laws_eqHeap : Ctx := { types := TT, globals := [], con := [(45, C_laws_eqIntA3S)], keep := [], results := [.tmp 4], ntmps := 26, n := N }
def B_laws_eqHeap : Code := (Tryz.f10.body).getD .skip
def P_laws_eqHeap : Ft_laws_eqHeap := hid (runF X_laws_eqHeap B_laws_eqHeap As_laws_eqHeap R_laws_eqHeap M_laws_eqHeap)
theorem h_laws_eqHeap : P_laws_eqHeap = runF X_laws_eqHeap B_laws_eqHeap As_laws_eqHeap R_laws_eqHeap M_laws_eqHeap := hid_eq _
def C_laws_eqHeap : Contract := ⟨As_laws_eqHeap, R_laws_eqHeap, M_laws_eqHeap, P_laws_eqHeap⟩
theorem s_laws_eqHeap : Sound Tryz.prog GG 10 C_laws_eqHeap := by
 unfold C_laws_eqHeap; rw [h_laws_eqHeap]
 exact mkS Tryz.f10 ⟨s_laws_eqIntA3S, trivial⟩ trivial
theorem p_laws_eqHeap (a0 a1 : D_Heap) : P_laws_eqHeap (a0, a1, ()) =
 bif !decide (a0.1 = a1.1) then
 some (false, ())
 else
 bif !decide (a0.2.1 = a1.2.1) then
 some (false, ())
 else
 bif !decide (a0.2.2.1 = a1.2.2.1) then
 some (false, ())
 else
 Option.bind (P_laws_eqIntA3S (a0.2.2.2.1, a1.2.2.2.1, ())) fun r3 =>
 bif !r3.1 then
 some (false, ())
 else
 some (true, ()) := by
 rewrite [h_laws_eqHeap]
 kernel_rfl
abbrev As_laws_eqHeapS : List ATy := [.data false (.sl T_Heap), .data false (.sl T_Heap)]
abbrev R_laws_eqHeapS : List (Bool × Ty) := [(false, .bool)]
abbrev M_laws_eqHeapS : List RMode := []
abbrev Ft_laws_eqHeapS : Type := (List D_Heap) × (List D_Heap) × Unit → Option (Bool × Unit)
def X_laws_eqHeapS : Ctx := { types := TT, globals := [], con := [(10, C_laws_eqHeap)], keep := [(4, ⟨[.tmp 0, .tmp 1, .tmp 5], []⟩)], results := [.tmp 4], ntmps := 27, n := N }
def B_laws_eqHeapS : Code := (Tryz.f9.body).getD .skip
def L_laws_eqHeapS_4 (m0 : Nat) (p0 p1 : List D_Heap) (p2 : Int) : Option (denL R_laws_eqHeapS) := loopF X_laws_eqHeapS B_laws_eqHeapS R_laws_eqHeapS M_laws_eqHeapS 4 [m0] [(.ver, .num 1), (.tmp 0, .val false [.imm T_Heap p0 (some 0)]), (.tmp 1, .val false [.imm T_Heap p1 (some 1)]), (.tmp 5, .val false [.int .i64 p2])]
def P_laws_eqHeapS : Ft_laws_eqHeapS := hid (runF X_laws_eqHeapS B_laws_eqHeapS As_laws_eqHeapS R_laws_eqHeapS M_laws_eqHeapS)
theorem h_laws_eqHeapS : P_laws_eqHeapS = runF X_laws_eqHeapS B_laws_eqHeapS As_laws_eqHeapS R_laws_eqHeapS M_laws_eqHeapS := hid_eq _
def C_laws_eqHeapS : Contract := ⟨As_laws_eqHeapS, R_laws_eqHeapS, M_laws_eqHeapS, P_laws_eqHeapS⟩
theorem s_laws_eqHeapS : Sound Tryz.prog GG 9 C_laws_eqHeapS := by
 unfold C_laws_eqHeapS; rw [h_laws_eqHeapS]
 exact mkS Tryz.f9 ⟨s_laws_eqHeap, trivial⟩ trivial
def l_laws_eqHeapS_4 := hid (L_laws_eqHeapS_4)
theorem h_laws_eqHeapS_4 : l_laws_eqHeapS_4 = L_laws_eqHeapS_4 := hid_eq _
theorem p_laws_eqHeapS (a0 a1 : List D_Heap) : P_laws_eqHeapS (a0, a1, ()) =
 bif !decide ((List.length a0 : Int) = (List.length a1 : Int)) then
 some (false, ())
 else
 l_laws_eqHeapS_4 N a0 a1 0 := by
 rewrite [h_laws_eqHeapS, h_laws_eqHeapS_4]
 kernel_rfl
theorem q_laws_eqHeapS_4 (m0 : Nat) (p0 p1 : List D_Heap) (p2 : Int) : l_laws_eqHeapS_4 (m0 + 1) p0 p1 p2 =
 bif decide (p2 < (List.length p0 : Int)) then
 bif inB p2 (List.length p0) then
 bif inB p2 (List.length p1) then
 Option.bind (P_laws_eqHeap ((nth T_Heap p0 p2), (nth T_Heap p1 p2), ())) fun r3 =>
 bif !r3.1 then
 some (false, ())
 else
 l_laws_eqHeapS_4 m0 p0 p1 (IntKind.wrap .i64 (p2 + 1))
 else none
 else none
 else
 some (true, ()) := by
 rewrite [h_laws_eqHeapS_4]
 kernel_rfl
abbrev As_laws_heldIntA3S : List ATy := [.data false (.sl T_A3), .data false (.int .i64)]
abbrev R_laws_heldIntA3S : List (Bool × Ty) := [(false, (.int .i64))]
abbrev M_laws_heldIntA3S : List RMode := []
abbrev Ft_laws_heldIntA3S : Type := (List D_A3) × Int × Unit → Option (Int × Unit)
def X_laws_heldIntA3S : Ctx := { types := TT, globals := [], con := [], keep := [(2, ⟨[.tmp 0, .tmp 1, .tmp 5], []⟩), (5, ⟨[.tmp 0, .tmp 1, .tmp 5, .tmp 6], []⟩)], results := [.tmp 4], ntmps := 28, n := N }
def B_laws_heldIntA3S : Code := (Tryz.f47.body).getD .skip
def L_laws_heldIntA3S_2 (m0 : Nat) (p0 : List D_A3) (p1 p2 : Int) : Option (denL R_laws_heldIntA3S) := loopF X_laws_heldIntA3S B_laws_heldIntA3S R_laws_heldIntA3S M_laws_heldIntA3S 2 [m0] [(.ver, .num 1), (.tmp 0, .val false [.imm T_A3 p0 (some 0)]), (.tmp 1, .val false [.int .i64 p1]), (.tmp 5, .val false [.int .i64 p2])]
def L_laws_heldIntA3S_5 (m0 m1 : Nat) (p0 : List D_A3) (p1 p2 p3 : Int) : Option (denL R_laws_heldIntA3S) := loopF X_laws_heldIntA3S B_laws_heldIntA3S R_laws_heldIntA3S M_laws_heldIntA3S 5 [m0, m1] [(.ver, .num 1), (.tmp 0, .val false [.imm T_A3 p0 (some 0)]), (.tmp 1, .val false [.int .i64 p1]), (.tmp 5, .val false [.int .i64 p2]), (.tmp 6, .val false [.int .i64 p3])]
def P_laws_heldIntA3S : Ft_laws_heldIntA3S := hid (runF X_laws_heldIntA3S B_laws_heldIntA3S As_laws_heldIntA3S R_laws_heldIntA3S M_laws_heldIntA3S)
theorem h_laws_heldIntA3S : P_laws_heldIntA3S = runF X_laws_heldIntA3S B_laws_heldIntA3S As_laws_heldIntA3S R_laws_heldIntA3S M_laws_heldIntA3S := hid_eq _
def C_laws_heldIntA3S : Contract := ⟨As_laws_heldIntA3S, R_laws_heldIntA3S, M_laws_heldIntA3S, P_laws_heldIntA3S⟩
theorem s_laws_heldIntA3S : Sound Tryz.prog GG 47 C_laws_heldIntA3S := by
 unfold C_laws_heldIntA3S; rw [h_laws_heldIntA3S]
 exact mkS Tryz.f47 trivial trivial
def l_laws_heldIntA3S_2 := hid (L_laws_heldIntA3S_2)
theorem h_laws_heldIntA3S_2 : l_laws_heldIntA3S_2 = L_laws_heldIntA3S_2 := hid_eq _
def l_laws_heldIntA3S_5 := hid (L_laws_heldIntA3S_5)
theorem h_laws_heldIntA3S_5 : l_laws_heldIntA3S_5 = L_laws_heldIntA3S_5 := hid_eq _
theorem p_laws_heldIntA3S (a0 : List D_A3) (a1 : Int) : P_laws_heldIntA3S (a0, a1, ()) =
 l_laws_heldIntA3S_2 N a0 a1 0 := by
 rewrite [h_laws_heldIntA3S, h_laws_heldIntA3S_2]
 kernel_rfl
theorem q_laws_heldIntA3S_2 (m0 : Nat) (p0 : List D_A3) (p1 p2 : Int) : l_laws_heldIntA3S_2 (m0 + 1) p0 p1 p2 =
 bif decide (p2 < (List.length p0 : Int)) then
 l_laws_heldIntA3S_5 m0 N p0 p1 p2 0
 else
 some (p1, ()) := by
 rewrite [h_laws_heldIntA3S_2, h_laws_heldIntA3S_5]
 kernel_rfl
theorem q_laws_heldIntA3S_5 (m0 m1 : Nat) (p0 : List D_A3) (p1 p2 p3 : Int) : l_laws_heldIntA3S_5 m0 (m1 + 1) p0 p1 p2 p3 =
 bif decide (p3 < 3) then
 bif inB p2 (List.length p0) then
 bif inB p3 3 then
 bif !decide ((bif decide (p3 = (0 : Int)) then ((nth T_A3 p0 p2)).1 else (bif decide (p3 = (1 : Int)) then (((nth T_A3 p0 p2)).2).1 else ((((nth T_A3 p0 p2)).2).2).1)) = p1) then
 some ((-1), ())
 else
 l_laws_heldIntA3S_5 m0 m1 p0 (IntKind.wrap .i64 (p1 + 1)) p2 (IntKind.wrap .i64 (p3 + 1))
 else none
 else none
 else
 l_laws_heldIntA3S_2 m0 p0 p1 (IntKind.wrap .i64 (p2 + 1)) := by
 rewrite [h_laws_heldIntA3S_2, h_laws_heldIntA3S_5]
 kernel_rfl
abbrev As_laws_heldHeapS : List ATy := [.data false (.sl T_Heap), .data false (.int .i64)]
abbrev R_laws_heldHeapS : List (Bool × Ty) := [(false, (.int .i64))]
abbrev M_laws_heldHeapS : List RMode := []
abbrev Ft_laws_heldHeapS : Type := (List D_Heap) × Int × Unit → Option (Int × Unit)
def X_laws_heldHeapS : Ctx := { types := TT, globals := [], con := [(47, C_laws_heldIntA3S)], keep := [(2, ⟨[.tmp 0, .tmp 1, .tmp 5], []⟩)], results := [.tmp 4], ntmps := 49, n := N }
def B_laws_heldHeapS : Code := (Tryz.f13.body).getD .skip
def L_laws_heldHeapS_2 (m0 : Nat) (p0 : List D_Heap) (p1 p2 : Int) : Option (denL R_laws_heldHeapS) := loopF X_laws_heldHeapS B_laws_heldHeapS R_laws_heldHeapS M_laws_heldHeapS 2 [m0] [(.ver, .num 1), (.tmp 0, .val false [.imm T_Heap p0 (some 0)]), (.tmp 1, .val false [.int .i64 p1]), (.tmp 5, .val false [.int .i64 p2])]
def P_laws_heldHeapS : Ft_laws_heldHeapS := hid (runF X_laws_heldHeapS B_laws_heldHeapS As_laws_heldHeapS R_laws_heldHeapS M_laws_heldHeapS)
theorem h_laws_heldHeapS : P_laws_heldHeapS = runF X_laws_heldHeapS B_laws_heldHeapS As_laws_heldHeapS R_laws_heldHeapS M_laws_heldHeapS := hid_eq _
def C_laws_heldHeapS : Contract := ⟨As_laws_heldHeapS, R_laws_heldHeapS, M_laws_heldHeapS, P_laws_heldHeapS⟩
theorem s_laws_heldHeapS : Sound Tryz.prog GG 13 C_laws_heldHeapS := by
 unfold C_laws_heldHeapS; rw [h_laws_heldHeapS]
 exact mkS Tryz.f13 ⟨s_laws_heldIntA3S, trivial⟩ trivial
def l_laws_heldHeapS_2 := hid (L_laws_heldHeapS_2)
theorem h_laws_heldHeapS_2 : l_laws_heldHeapS_2 = L_laws_heldHeapS_2 := hid_eq _
theorem p_laws_heldHeapS (a0 : List D_Heap) (a1 : Int) : P_laws_heldHeapS (a0, a1, ()) =
 l_laws_heldHeapS_2 N a0 a1 0 := by
 rewrite [h_laws_heldHeapS, h_laws_heldHeapS_2]
 kernel_rfl
theorem q_laws_heldHeapS_2 (m0 : Nat) (p0 : List D_Heap) (p1 p2 : Int) : l_laws_heldHeapS_2 (m0 + 1) p0 p1 p2 =
 bif decide (p2 < (List.length p0 : Int)) then
 bif inB p2 (List.length p0) then
 bif !decide (((nth T_Heap p0 p2)).1 = p1) then
 some ((-1), ())
 else
 bif inB p2 (List.length p0) then
 bif !decide ((((nth T_Heap p0 p2)).2).1 = (IntKind.wrap .i64 (p1 + 1))) then
 some ((-1), ())
 else
 bif inB p2 (List.length p0) then
 bif !decide (((((nth T_Heap p0 p2)).2).2).1 = (IntKind.wrap .i64 ((IntKind.wrap .i64 (p1 + 1)) + 1))) then
 some ((-1), ())
 else
 bif inB p2 (List.length p0) then
 Option.bind (P_laws_heldIntA3S ((((((nth T_Heap p0 p2)).2).2).2).1, (IntKind.wrap .i64 ((IntKind.wrap .i64 ((IntKind.wrap .i64 (p1 + 1)) + 1)) + 1)), ())) fun r8 =>
 bif decide (r8.1 < 0) then
 some ((-1), ())
 else
 l_laws_heldHeapS_2 m0 p0 r8.1 (IntKind.wrap .i64 (p2 + 1))
 else none
 else none
 else none
 else none
 else
 some (p1, ()) := by
 rewrite [h_laws_heldHeapS_2]
 kernel_rfl
abbrev As_impl_within : List ATy := [.data false (.int .i64), .data false (.int .i64), .data false (.int .i64)]
abbrev R_impl_within : List (Bool × Ty) := [(false, .bool)]
abbrev M_impl_within : List RMode := []
abbrev Ft_impl_within : Type := Int × Int × Int × Unit → Option (Bool × Unit)
def X_impl_within : Ctx := { types := TT, globals := [], con := [], keep := [], results := [.tmp 6], ntmps := 15, n := N }
def B_impl_within : Code := (Tryz.f49.body).getD .skip
def P_impl_within : Ft_impl_within := hid (runF X_impl_within B_impl_within As_impl_within R_impl_within M_impl_within)
theorem h_impl_within : P_impl_within = runF X_impl_within B_impl_within As_impl_within R_impl_within M_impl_within := hid_eq _
def C_impl_within : Contract := ⟨As_impl_within, R_impl_within, M_impl_within, P_impl_within⟩
theorem s_impl_within : Sound Tryz.prog GG 49 C_impl_within := by
 unfold C_impl_within; rw [h_impl_within]
 exact mkS Tryz.f49 trivial trivial
theorem p_impl_within (a0 a1 a2 : Int) : P_impl_within (a0, a1, a2, ()) =
 bif decide (a0 ≥ a1) then
 some (decide (a0 ≤ a2), ())
 else
 some (false, ()) := by
 rewrite [h_impl_within]
 kernel_rfl
abbrev As_laws_markIntA3S : List ATy := [.lrow false (.sl T_A3) [55], .data false (.int .i64)]
abbrev R_laws_markIntA3S : List (Bool × Ty) := [(false, (.int .i64))]
abbrev M_laws_markIntA3S : List RMode := []
abbrev Ft_laws_markIntA3S : Type := (List D_A3) × Int × Unit → Option ((Int × Unit) × ((List D_A3) × Unit))
def X_laws_markIntA3S : Ctx := { types := TT, globals := [], con := [], keep := [(2, ⟨[.lent 0, .tmp 0, .tmp 1, .tmp 5], []⟩), (5, ⟨[.lent 0, .tmp 0, .tmp 1, .tmp 5, .tmp 6], []⟩)], results := [.tmp 4], ntmps := 26, n := N }
def B_laws_markIntA3S : Code := (Tryz.f46.body).getD .skip
def L_laws_markIntA3S_2 (m0 : Nat) (p0 : List D_A3) (p1 p2 : Int) : Option (denL R_laws_markIntA3S × denM As_laws_markIntA3S) := loopFM X_laws_markIntA3S B_laws_markIntA3S As_laws_markIntA3S R_laws_markIntA3S M_laws_markIntA3S 2 [m0] [(.ver, .num 1), (.lent 0, .val false [.own 55 T_A3 0 p0]), (.tmp 0, .val false [.view ⟨.lent 0, 0, 0⟩ 0]), (.tmp 1, .val false [.int .i64 p1]), (.tmp 5, .val false [.int .i64 p2])]
def L_laws_markIntA3S_5 (m0 m1 : Nat) (p0 : List D_A3) (p1 p2 p3 : Int) : Option (denL R_laws_markIntA3S × denM As_laws_markIntA3S) := loopFM X_laws_markIntA3S B_laws_markIntA3S As_laws_markIntA3S R_laws_markIntA3S M_laws_markIntA3S 5 [m0, m1] [(.ver, .num 1), (.lent 0, .val false [.own 55 T_A3 0 p0]), (.tmp 0, .val false [.view ⟨.lent 0, 0, 0⟩ 0]), (.tmp 1, .val false [.int .i64 p1]), (.tmp 5, .val false [.int .i64 p2]), (.tmp 6, .val false [.int .i64 p3])]
def P_laws_markIntA3S : Ft_laws_markIntA3S := hid (runFM X_laws_markIntA3S B_laws_markIntA3S As_laws_markIntA3S R_laws_markIntA3S M_laws_markIntA3S)
theorem h_laws_markIntA3S : P_laws_markIntA3S = runFM X_laws_markIntA3S B_laws_markIntA3S As_laws_markIntA3S R_laws_markIntA3S M_laws_markIntA3S := hid_eq _
def C_laws_markIntA3S : MContract := ⟨As_laws_markIntA3S, R_laws_markIntA3S, M_laws_markIntA3S, P_laws_markIntA3S⟩
theorem s_laws_markIntA3S : SoundM Tryz.prog n0 GG 46 C_laws_markIntA3S := by
 unfold C_laws_markIntA3S; rw [h_laws_markIntA3S]
 exact mkSM Tryz.f46 trivial trivial
def l_laws_markIntA3S_2 := hid (L_laws_markIntA3S_2)
theorem h_laws_markIntA3S_2 : l_laws_markIntA3S_2 = L_laws_markIntA3S_2 := hid_eq _
def l_laws_markIntA3S_5 := hid (L_laws_markIntA3S_5)
theorem h_laws_markIntA3S_5 : l_laws_markIntA3S_5 = L_laws_markIntA3S_5 := hid_eq _
theorem p_laws_markIntA3S (a0 : List D_A3) (a1 : Int) : P_laws_markIntA3S (a0, a1, ()) =
 l_laws_markIntA3S_2 N a0 a1 0 := by
 rewrite [h_laws_markIntA3S, h_laws_markIntA3S_2]
 kernel_rfl
theorem q_laws_markIntA3S_2 (m0 : Nat) (p0 : List D_A3) (p1 p2 : Int) : l_laws_markIntA3S_2 (m0 + 1) p0 p1 p2 =
 bif decide (p2 < (List.length p0 : Int)) then
 l_laws_markIntA3S_5 m0 N p0 p1 p2 0
 else
 some ((p1, ()), (p0, ())) := by
 rewrite [h_laws_markIntA3S_2, h_laws_markIntA3S_5]
 kernel_rfl
theorem q_laws_markIntA3S_5 (m0 m1 : Nat) (p0 : List D_A3) (p1 p2 p3 : Int) : l_laws_markIntA3S_5 m0 (m1 + 1) p0 p1 p2 p3 =
 bif decide (p3 < 3) then
 bif inB p2 (List.length p0) then
 bif inB p3 3 then
 l_laws_markIntA3S_5 m0 m1 (List.set p0 (Int.toNat p2) ((bif decide (p3 = (0 : Int)) then p1 else ((nth T_A3 p0 p2)).1), ((bif decide (p3 = (1 : Int)) then p1 else (((nth T_A3 p0 p2)).2).1), ((bif decide (p3 = (2 : Int)) then p1 else ((((nth T_A3 p0 p2)).2).2).1), ())))) (IntKind.wrap .i64 (p1 + 1)) p2 (IntKind.wrap .i64 (p3 + 1))
 else none
 else none
 else
 l_laws_markIntA3S_2 m0 p0 p1 (IntKind.wrap .i64 (p2 + 1)) := by
 rewrite [h_laws_markIntA3S_2, h_laws_markIntA3S_5]
 kernel_rfl
abbrev As_Heap_box : List ATy := [.data true T_Heap]
abbrev R_Heap_box : List (Bool × Ty) := [(true, T_A3)]
abbrev M_Heap_box : List RMode := []
abbrev Ft_Heap_box : Type := D_Heap × Unit → Option (D_A3 × Unit)
def X_Heap_box : Ctx := { types := TT, globals := [], con := [], keep := [], results := [.cell 2 81], ntmps := 10, n := N }
def B_Heap_box : Code := (Tryz.f57.body).getD .skip
def P_Heap_box : Ft_Heap_box := hid (runF X_Heap_box B_Heap_box As_Heap_box R_Heap_box M_Heap_box)
theorem h_Heap_box : P_Heap_box = runF X_Heap_box B_Heap_box As_Heap_box R_Heap_box M_Heap_box := hid_eq _
def C_Heap_box : Contract := ⟨As_Heap_box, R_Heap_box, M_Heap_box, P_Heap_box⟩
theorem s_Heap_box : Sound Tryz.prog GG 57 C_Heap_box := by
 unfold C_Heap_box; rw [h_Heap_box]
 exact mkS Tryz.f57 trivial trivial
theorem p_Heap_box (a0 : D_Heap) : P_Heap_box (a0, ()) =
 some ((a0.1, (a0.2.1, (a0.2.2.1, ()))), ()) := by
 rewrite [h_Heap_box]
 kernel_rfl
abbrev As_box_valid : List ATy := [.data true T_A3]
abbrev R_box_valid : List (Bool × Ty) := [(false, .bool)]
abbrev M_box_valid : List RMode := []
abbrev Ft_box_valid : Type := D_A3 × Unit → Option (Bool × Unit)
def X_box_valid : Ctx := { types := TT, globals := [], con := [(49, C_impl_within)], keep := [], results := [.tmp 2], ntmps := 16, n := N }
def B_box_valid : Code := (Tryz.f101.body).getD .skip
def P_box_valid : Ft_box_valid := hid (runF X_box_valid B_box_valid As_box_valid R_box_valid M_box_valid)
theorem h_box_valid : P_box_valid = runF X_box_valid B_box_valid As_box_valid R_box_valid M_box_valid := hid_eq _
def C_box_valid : Contract := ⟨As_box_valid, R_box_valid, M_box_valid, P_box_valid⟩
theorem s_box_valid : Sound Tryz.prog GG 101 C_box_valid := by
 unfold C_box_valid; rw [h_box_valid]
 exact mkS Tryz.f101 ⟨s_impl_within, trivial⟩ trivial
theorem p_box_valid (a0 : D_A3) : P_box_valid (a0, ()) =
 Option.bind (P_impl_within (a0.1, 1, 4, ())) fun r0 =>
 bif r0.1 then
 Option.bind (P_impl_within (a0.2.1, 1, 4, ())) fun r2 =>
 bif r2.1 then
 Option.bind (P_impl_within (a0.2.2.1, 1, 4, ())) fun r4 =>
 some (r4.1, ())
 else
 some (false, ())
 else
 some (false, ()) := by
 rewrite [h_box_valid]
 kernel_rfl
abbrev As_box_has : List ATy := [.data true T_A3, .data true T_A3]
abbrev R_box_has : List (Bool × Ty) := [(false, .bool)]
abbrev M_box_has : List RMode := []
abbrev Ft_box_has : Type := D_A3 × D_A3 × Unit → Option (Bool × Unit)
def X_box_has : Ctx := { types := TT, globals := [], con := [(49, C_impl_within)], keep := [], results := [.tmp 4], ntmps := 27, n := N }
def B_box_has : Code := (Tryz.f102.body).getD .skip
def P_box_has : Ft_box_has := hid (runF X_box_has B_box_has As_box_has R_box_has M_box_has)
theorem h_box_has : P_box_has = runF X_box_has B_box_has As_box_has R_box_has M_box_has := hid_eq _
def C_box_has : Contract := ⟨As_box_has, R_box_has, M_box_has, P_box_has⟩
theorem s_box_has : Sound Tryz.prog GG 102 C_box_has := by
 unfold C_box_has; rw [h_box_has]
 exact mkS Tryz.f102 ⟨s_impl_within, trivial⟩ trivial
theorem p_box_has (a0 a1 : D_A3) : P_box_has (a0, a1, ()) =
 Option.bind (P_impl_within (a1.1, 0, (IntKind.wrap .i64 (a0.1 - 1)), ())) fun r0 =>
 bif r0.1 then
 Option.bind (P_impl_within (a1.2.1, 0, (IntKind.wrap .i64 (a0.2.1 - 1)), ())) fun r2 =>
 bif r2.1 then
 Option.bind (P_impl_within (a1.2.2.1, 0, (IntKind.wrap .i64 (a0.2.2.1 - 1)), ())) fun r4 =>
 some (r4.1, ())
 else
 some (false, ())
 else
 some (false, ()) := by
 rewrite [h_box_has]
 kernel_rfl
abbrev As_cmp_isNaN_int : List ATy := [.data false (.int .i64)]
abbrev R_cmp_isNaN_int : List (Bool × Ty) := [(false, .bool)]
abbrev M_cmp_isNaN_int : List RMode := []
abbrev Ft_cmp_isNaN_int : Type := Int × Unit → Option (Bool × Unit)
def X_cmp_isNaN_int : Ctx := { types := TT, globals := [], con := [], keep := [], results := [.tmp 2], ntmps := 6, n := N }
def B_cmp_isNaN_int : Code := (Tryz.f142.body).getD .skip
def P_cmp_isNaN_int : Ft_cmp_isNaN_int := hid (runF X_cmp_isNaN_int B_cmp_isNaN_int As_cmp_isNaN_int R_cmp_isNaN_int M_cmp_isNaN_int)
theorem h_cmp_isNaN_int : P_cmp_isNaN_int = runF X_cmp_isNaN_int B_cmp_isNaN_int As_cmp_isNaN_int R_cmp_isNaN_int M_cmp_isNaN_int := hid_eq _
def C_cmp_isNaN_int : Contract := ⟨As_cmp_isNaN_int, R_cmp_isNaN_int, M_cmp_isNaN_int, P_cmp_isNaN_int⟩
theorem s_cmp_isNaN_int : Sound Tryz.prog GG 142 C_cmp_isNaN_int := by
 unfold C_cmp_isNaN_int; rw [h_cmp_isNaN_int]
 exact mkS Tryz.f142 trivial trivial
theorem p_cmp_isNaN_int (a0 : Int) : P_cmp_isNaN_int (a0, ()) =
 some (!decide (a0 = a0), ()) := by
 rewrite [h_cmp_isNaN_int]
 kernel_rfl
abbrev As_cmp_Compare_int : List ATy := [.data false (.int .i64), .data false (.int .i64)]
abbrev R_cmp_Compare_int : List (Bool × Ty) := [(false, (.int .i64))]
abbrev M_cmp_Compare_int : List RMode := []
abbrev Ft_cmp_Compare_int : Type := Int × Int × Unit → Option (Int × Unit)
def X_cmp_Compare_int : Ctx := { types := TT, globals := [], con := [(142, C_cmp_isNaN_int)], keep := [], results := [.tmp 4], ntmps := 20, n := N }
def B_cmp_Compare_int : Code := (Tryz.f130.body).getD .skip
def P_cmp_Compare_int : Ft_cmp_Compare_int := hid (runF X_cmp_Compare_int B_cmp_Compare_int As_cmp_Compare_int R_cmp_Compare_int M_cmp_Compare_int)
theorem h_cmp_Compare_int : P_cmp_Compare_int = runF X_cmp_Compare_int B_cmp_Compare_int As_cmp_Compare_int R_cmp_Compare_int M_cmp_Compare_int := hid_eq _
def C_cmp_Compare_int : Contract := ⟨As_cmp_Compare_int, R_cmp_Compare_int, M_cmp_Compare_int, P_cmp_Compare_int⟩
theorem s_cmp_Compare_int : Sound Tryz.prog GG 130 C_cmp_Compare_int := by
 unfold C_cmp_Compare_int; rw [h_cmp_Compare_int]
 exact mkS Tryz.f130 ⟨s_cmp_isNaN_int, trivial⟩ trivial
theorem p_cmp_Compare_int (a0 a1 : Int) : P_cmp_Compare_int (a0, a1, ()) =
 Option.bind (P_cmp_isNaN_int (a0, ())) fun r0 =>
 Option.bind (P_cmp_isNaN_int (a1, ())) fun r1 =>
 bif r0.1 then
 bif r1.1 then
 some (0, ())
 else
 some ((-1), ())
 else
 bif r1.1 then
 some (1, ())
 else
 bif decide (a0 < a1) then
 some ((-1), ())
 else
 bif decide (a0 > a1) then
 some (1, ())
 else
 some (0, ()) := by
 rewrite [h_cmp_Compare_int]
 kernel_rfl
abbrev As_slices_Compare_int_int : List ATy := [.data false (.sl (.int .i64)), .data false (.sl (.int .i64))]
abbrev R_slices_Compare_int_int : List (Bool × Ty) := [(false, (.int .i64))]
abbrev M_slices_Compare_int_int : List RMode := []
abbrev Ft_slices_Compare_int_int : Type := (List Int) × (List Int) × Unit → Option (Int × Unit)
def X_slices_Compare_int_int : Ctx := { types := TT, globals := [], con := [(130, C_cmp_Compare_int)], keep := [(2, ⟨[.tmp 0, .tmp 1, .tmp 9, .tmp 10, .tmp 11], []⟩)], results := [.tmp 4], ntmps := 36, n := N }
def B_slices_Compare_int_int : Code := (Tryz.f115.body).getD .skip
def L_slices_Compare_int_int_2 (m0 : Nat) (p0 p1 p2 : List Int) (p3 p4 : Int) : Option (denL R_slices_Compare_int_int) := loopF X_slices_Compare_int_int B_slices_Compare_int_int R_slices_Compare_int_int M_slices_Compare_int_int 2 [m0] [(.ver, .num 1), (.tmp 0, .val false [.imm (.int .i64) p0 (some 0)]), (.tmp 1, .val false [.imm (.int .i64) p1 (some 1)]), (.tmp 9, .val false [.imm (.int .i64) p2 (some 0)]), (.tmp 10, .val false [.int .i64 p3]), (.tmp 11, .val false [.int .i64 p4])]
def P_slices_Compare_int_int : Ft_slices_Compare_int_int := hid (runF X_slices_Compare_int_int B_slices_Compare_int_int As_slices_Compare_int_int R_slices_Compare_int_int M_slices_Compare_int_int)
theorem h_slices_Compare_int_int : P_slices_Compare_int_int = runF X_slices_Compare_int_int B_slices_Compare_int_int As_slices_Compare_int_int R_slices_Compare_int_int M_slices_Compare_int_int := hid_eq _
def C_slices_Compare_int_int : Contract := ⟨As_slices_Compare_int_int, R_slices_Compare_int_int, M_slices_Compare_int_int, P_slices_Compare_int_int⟩
theorem s_slices_Compare_int_int : Sound Tryz.prog GG 115 C_slices_Compare_int_int := by
 unfold C_slices_Compare_int_int; rw [h_slices_Compare_int_int]
 exact mkS Tryz.f115 ⟨s_cmp_Compare_int, trivial⟩ trivial
def l_slices_Compare_int_int_2 := hid (L_slices_Compare_int_int_2)
theorem h_slices_Compare_int_int_2 : l_slices_Compare_int_int_2 = L_slices_Compare_int_int_2 := hid_eq _
theorem p_slices_Compare_int_int (a0 a1 : List Int) : P_slices_Compare_int_int (a0, a1, ()) =
 l_slices_Compare_int_int_2 N a0 a1 a0 (List.length a0 : Int) 0 := by
 rewrite [h_slices_Compare_int_int, h_slices_Compare_int_int_2]
 kernel_rfl
theorem q_slices_Compare_int_int_2 (m0 : Nat) (p0 p1 p2 : List Int) (p3 p4 : Int) : l_slices_Compare_int_int_2 (m0 + 1) p0 p1 p2 p3 p4 =
 bif decide (p4 < p3) then
 bif inB p4 (List.length p2) then
 bif decide (p4 ≥ (List.length p1 : Int)) then
 some (1, ())
 else
 bif inB p4 (List.length p1) then
 Option.bind (P_cmp_Compare_int ((nth ((.int .i64) : Ty) p2 p4), (nth ((.int .i64) : Ty) p1 p4), ())) fun r4 =>
 bif !decide (r4.1 = 0) then
 some (r4.1, ())
 else
 l_slices_Compare_int_int_2 m0 p0 p1 p2 p3 (IntKind.wrap .i64 (p4 + 1))
 else none
 else none
 else
 bif decide ((List.length p0 : Int) < (List.length p1 : Int)) then
 some ((-1), ())
 else
 some (0, ()) := by
 rewrite [h_slices_Compare_int_int_2]
 kernel_rfl
abbrev As_impl_compareCells : List ATy := [.data true T_A3, .data true T_A3]
abbrev R_impl_compareCells : List (Bool × Ty) := [(false, (.int .i64))]
abbrev M_impl_compareCells : List RMode := []
abbrev Ft_impl_compareCells : Type := D_A3 × D_A3 × Unit → Option (Int × Unit)
def X_impl_compareCells : Ctx := { types := TT, globals := [], con := [(115, C_slices_Compare_int_int)], keep := [], results := [.tmp 4], ntmps := 8, n := N }
def B_impl_compareCells : Code := (Tryz.f103.body).getD .skip
def P_impl_compareCells : Ft_impl_compareCells := hid (runF X_impl_compareCells B_impl_compareCells As_impl_compareCells R_impl_compareCells M_impl_compareCells)
theorem h_impl_compareCells : P_impl_compareCells = runF X_impl_compareCells B_impl_compareCells As_impl_compareCells R_impl_compareCells M_impl_compareCells := hid_eq _
def C_impl_compareCells : Contract := ⟨As_impl_compareCells, R_impl_compareCells, M_impl_compareCells, P_impl_compareCells⟩
theorem s_impl_compareCells : Sound Tryz.prog GG 103 C_impl_compareCells := by
 unfold C_impl_compareCells; rw [h_impl_compareCells]
 exact mkS Tryz.f103 ⟨s_slices_Compare_int_int, trivial⟩ trivial
theorem p_impl_compareCells (a0 a1 : D_A3) : P_impl_compareCells (a0, a1, ()) =
 Option.bind (P_slices_Compare_int_int (([a0.1, a0.2.1, a0.2.2.1] : List Int), ([a1.1, a1.2.1, a1.2.2.1] : List Int), ())) fun r0 =>
 some (r0.1, ()) := by
 rewrite [h_impl_compareCells]
 kernel_rfl
abbrev As_impl_IsHeap : List ATy := [.data true T_Heap]
abbrev R_impl_IsHeap : List (Bool × Ty) := [(false, .bool)]
abbrev M_impl_IsHeap : List RMode := []
abbrev Ft_impl_IsHeap : Type := D_Heap × Unit → Option (Bool × Unit)
def X_impl_IsHeap : Ctx := { types := TT, globals := [], con := [(57, C_Heap_box), (101, C_box_valid), (102, C_box_has), (103, C_impl_compareCells)], keep := [(4, ⟨[.box 1, .tmp 1, .tmp 10, .tmp 11, .tmp 12], []⟩)], results := [.tmp 2], ntmps := 38, n := N }
def B_impl_IsHeap : Code := (Tryz.f56.body).getD .skip
def L_impl_IsHeap_4 (m0 : Nat) (p0 p1 p2 : Int) (p3 p4 : List D_A3) (p5 p6 : Int) : Option (denL R_impl_IsHeap) := loopF X_impl_IsHeap B_impl_IsHeap R_impl_IsHeap M_impl_IsHeap 4 [m0] [(.ver, .num 1), (.box 1, .box 0 false [.int .i64 p0, .int .i64 p1, .int .i64 p2, .imm T_A3 p3 (some 3)]), (.tmp 1, .val false [.addr 1 0 0]), (.tmp 10, .val false [.imm T_A3 p4 (some 3)]), (.tmp 11, .val false [.int .i64 p5]), (.tmp 12, .val false [.int .i64 p6])]
def P_impl_IsHeap : Ft_impl_IsHeap := hid (runF X_impl_IsHeap B_impl_IsHeap As_impl_IsHeap R_impl_IsHeap M_impl_IsHeap)
theorem h_impl_IsHeap : P_impl_IsHeap = runF X_impl_IsHeap B_impl_IsHeap As_impl_IsHeap R_impl_IsHeap M_impl_IsHeap := hid_eq _
def C_impl_IsHeap : Contract := ⟨As_impl_IsHeap, R_impl_IsHeap, M_impl_IsHeap, P_impl_IsHeap⟩
theorem s_impl_IsHeap : Sound Tryz.prog GG 56 C_impl_IsHeap := by
 unfold C_impl_IsHeap; rw [h_impl_IsHeap]
 exact mkS Tryz.f56 ⟨s_Heap_box, s_box_valid, s_box_has, s_impl_compareCells, trivial⟩ trivial
def l_impl_IsHeap_4 := hid (L_impl_IsHeap_4)
theorem h_impl_IsHeap_4 : l_impl_IsHeap_4 = L_impl_IsHeap_4 := hid_eq _
theorem p_impl_IsHeap (a0 : D_Heap) : P_impl_IsHeap (a0, ()) =
 Option.bind (P_Heap_box (a0, ())) fun r0 =>
 Option.bind (P_box_valid (r0.1, ())) fun r1 =>
 bif !r1.1 then
 some (false, ())
 else
 l_impl_IsHeap_4 N a0.1 a0.2.1 a0.2.2.1 a0.2.2.2.1 a0.2.2.2.1 (List.length a0.2.2.2.1 : Int) 0 := by
 rewrite [h_impl_IsHeap, h_impl_IsHeap_4]
 kernel_rfl
theorem q_impl_IsHeap_4 (m0 : Nat) (p0 p1 p2 : Int) (p3 p4 : List D_A3) (p5 p6 : Int) : l_impl_IsHeap_4 (m0 + 1) p0 p1 p2 p3 p4 p5 p6 =
 bif decide (p6 < p5) then
 bif inB p6 (List.length p4) then
 Option.bind (P_Heap_box ((p0, (p1, (p2, (p3, ())))), ())) fun r2 =>
 Option.bind (P_box_has (r2.1, (nth T_A3 p4 p6), ())) fun r3 =>
 bif !r3.1 then
 some (false, ())
 else
 bif decide (p6 > 0) then
 bif inB (IntKind.wrap .i64 (p6 - 1)) (List.length p3) then
 Option.bind (P_impl_compareCells ((nth T_A3 p3 (IntKind.wrap .i64 (p6 - 1))), (nth T_A3 p4 p6), ())) fun r7 =>
 bif decide (r7.1 ≥ 0) then
 some (false, ())
 else
 l_impl_IsHeap_4 m0 p0 p1 p2 p3 p4 p5 (IntKind.wrap .i64 (p6 + 1))
 else none
 else
 l_impl_IsHeap_4 m0 p0 p1 p2 p3 p4 p5 (IntKind.wrap .i64 (p6 + 1))
 else none
 else
 some (true, ()) := by
 rewrite [h_impl_IsHeap_4]
 kernel_rfl
abbrev As_box_index : List ATy := [.data true T_A3, .data true T_A3]
abbrev R_box_index : List (Bool × Ty) := [(false, (.int .i64))]
abbrev M_box_index : List RMode := []
abbrev Ft_box_index : Type := D_A3 × D_A3 × Unit → Option (Int × Unit)
def X_box_index : Ctx := { types := TT, globals := [], con := [], keep := [], results := [.tmp 4], ntmps := 19, n := N }
def B_box_index : Code := (Tryz.f86.body).getD .skip
def P_box_index : Ft_box_index := hid (runF X_box_index B_box_index As_box_index R_box_index M_box_index)
theorem h_box_index : P_box_index = runF X_box_index B_box_index As_box_index R_box_index M_box_index := hid_eq _
def C_box_index : Contract := ⟨As_box_index, R_box_index, M_box_index, P_box_index⟩
theorem s_box_index : Sound Tryz.prog GG 86 C_box_index := by
 unfold C_box_index; rw [h_box_index]
 exact mkS Tryz.f86 trivial trivial
theorem p_box_index (a0 a1 : D_A3) : P_box_index (a0, a1, ()) =
 some ((IntKind.wrap .i64 ((IntKind.wrap .i64 ((IntKind.wrap .i64 ((IntKind.wrap .i64 (a1.1 * a0.2.1)) + a1.2.1)) * a0.2.2.1)) + a1.2.2.1)), ()) := by
 rewrite [h_box_index]
 kernel_rfl
abbrev As_box_size : List ATy := [.data true T_A3]
abbrev R_box_size : List (Bool × Ty) := [(false, (.int .i64))]
abbrev M_box_size : List RMode := []
abbrev Ft_box_size : Type := D_A3 × Unit → Option (Int × Unit)
def X_box_size : Ctx := { types := TT, globals := [], con := [], keep := [], results := [.tmp 2], ntmps := 11, n := N }
def B_box_size : Code := (Tryz.f105.body).getD .skip
def P_box_size : Ft_box_size := hid (runF X_box_size B_box_size As_box_size R_box_size M_box_size)
theorem h_box_size : P_box_size = runF X_box_size B_box_size As_box_size R_box_size M_box_size := hid_eq _
def C_box_size : Contract := ⟨As_box_size, R_box_size, M_box_size, P_box_size⟩
theorem s_box_size : Sound Tryz.prog GG 105 C_box_size := by
 unfold C_box_size; rw [h_box_size]
 exact mkS Tryz.f105 trivial trivial
theorem p_box_size (a0 : D_A3) : P_box_size (a0, ()) =
 some ((IntKind.wrap .i64 ((IntKind.wrap .i64 (a0.1 * a0.2.1)) * a0.2.2.1)), ()) := by
 rewrite [h_box_size]
 kernel_rfl
abbrev As_set_has : List ATy := [.data false (.int .u64), .data false (.int .i64)]
abbrev R_set_has : List (Bool × Ty) := [(false, .bool)]
abbrev M_set_has : List RMode := []
abbrev Ft_set_has : Type := Int × Int × Unit → Option (Bool × Unit)
def X_set_has : Ctx := { types := TT, globals := [], con := [], keep := [], results := [.tmp 4], ntmps := 10, n := N }
def B_set_has : Code := (Tryz.f106.body).getD .skip
def P_set_has : Ft_set_has := hid (runF X_set_has B_set_has As_set_has R_set_has M_set_has)
theorem h_set_has : P_set_has = runF X_set_has B_set_has As_set_has R_set_has M_set_has := hid_eq _
def C_set_has : Contract := ⟨As_set_has, R_set_has, M_set_has, P_set_has⟩
theorem s_set_has : Sound Tryz.prog GG 106 C_set_has := by
 unfold C_set_has; rw [h_set_has]
 exact mkS Tryz.f106 trivial trivial
theorem p_set_has (a0 a1 : Int) : P_set_has (a0, a1, ()) =
 bif decide ((0 : Int) ≤ a1) then
 some (decide ((intBits .and .u64 (shrI .u64 a0 a1) 1) = 1), ())
 else none := by
 rewrite [h_set_has]
 kernel_rfl
abbrev As_box_cell : List ATy := [.data true T_A3, .data false (.int .i64)]
abbrev R_box_cell : List (Bool × Ty) := [(true, T_A3)]
abbrev M_box_cell : List RMode := []
abbrev Ft_box_cell : Type := D_A3 × Int × Unit → Option (D_A3 × Unit)
def X_box_cell : Ctx := { types := TT, globals := [], con := [], keep := [], results := [.cell 4 55], ntmps := 24, n := N }
def B_box_cell : Code := (Tryz.f107.body).getD .skip
def P_box_cell : Ft_box_cell := hid (runF X_box_cell B_box_cell As_box_cell R_box_cell M_box_cell)
theorem h_box_cell : P_box_cell = runF X_box_cell B_box_cell As_box_cell R_box_cell M_box_cell := hid_eq _
def C_box_cell : Contract := ⟨As_box_cell, R_box_cell, M_box_cell, P_box_cell⟩
theorem s_box_cell : Sound Tryz.prog GG 107 C_box_cell := by
 unfold C_box_cell; rw [h_box_cell]
 exact mkS Tryz.f107 trivial trivial
theorem p_box_cell (a0 : D_A3) (a1 : Int) : P_box_cell (a0, a1, ()) =
 bif !decide (a0.2.2.1 = 0) then
 bif !decide (a0.2.1 = 0) then
 bif !decide (a0.2.2.1 = 0) then
 bif !decide (a0.2.1 = 0) then
 bif !decide (a0.2.2.1 = 0) then
 some (((IntKind.wrap .i64 (Int.tdiv (IntKind.wrap .i64 (Int.tdiv a1 a0.2.2.1)) a0.2.1)), ((Int.tmod (IntKind.wrap .i64 (Int.tdiv a1 a0.2.2.1)) a0.2.1), ((Int.tmod a1 a0.2.2.1), ()))), ())
 else none
 else none
 else none
 else none
 else none := by
 rewrite [h_box_cell]
 kernel_rfl
abbrev As_box_list : List ATy := [.data true T_A3, .data false (.int .u64)]
abbrev R_box_list : List (Bool × Ty) := [(false, (.sl T_A3))]
abbrev M_box_list : List RMode := [.own 55]
abbrev Ft_box_list : Type := D_A3 × Int × Unit → Option ((List D_A3) × Unit)
def X_box_list : Ctx := { types := TT, globals := [], con := [(105, C_box_size), (106, C_set_has), (107, C_box_cell)], keep := [(3, ⟨[.box 2, .tmp 1, .tmp 2, .tmp 5, .tmp 9, .tmp 10], []⟩)], results := [.tmp 4], ntmps := 24, n := N }
def B_box_list : Code := (Tryz.f60.body).getD .skip
def L_box_list_3 (m0 : Nat) (p0 p1 p2 p3 : Int) (p4 : List D_A3) (p5 p6 : Int) : Option (denL R_box_list) := loopF X_box_list B_box_list R_box_list M_box_list 3 [m0] [(.ver, .num 1), (.box 2, .box 0 false [.int .i64 p0, .int .i64 p1, .int .i64 p2]), (.tmp 1, .val false [.int .u64 p3]), (.tmp 2, .val false [.addr 2 0 0]), (.tmp 5, .val false [.own 55 T_A3 0 p4]), (.tmp 9, .val false [.int .i64 p5]), (.tmp 10, .val false [.int .i64 p6])]
def P_box_list : Ft_box_list := hid (runF X_box_list B_box_list As_box_list R_box_list M_box_list)
theorem h_box_list : P_box_list = runF X_box_list B_box_list As_box_list R_box_list M_box_list := hid_eq _
def C_box_list : Contract := ⟨As_box_list, R_box_list, M_box_list, P_box_list⟩
theorem s_box_list : Sound Tryz.prog GG 60 C_box_list := by
 unfold C_box_list; rw [h_box_list]
 exact mkS Tryz.f60 ⟨s_box_size, s_set_has, s_box_cell, trivial⟩ trivial
def l_box_list_3 := hid (L_box_list_3)
theorem h_box_list_3 : l_box_list_3 = L_box_list_3 := hid_eq _
theorem p_box_list (a0 : D_A3) (a1 : Int) : P_box_list (a0, a1, ()) =
 Option.bind (P_box_size (a0, ())) fun r0 =>
 l_box_list_3 N a0.1 a0.2.1 a0.2.2.1 a1 ([] : List D_A3) r0.1 0 := by
 rewrite [h_box_list, h_box_list_3]
 kernel_rfl
theorem q_box_list_3 (m0 : Nat) (p0 p1 p2 p3 : Int) (p4 : List D_A3) (p5 p6 : Int) : l_box_list_3 (m0 + 1) p0 p1 p2 p3 p4 p5 p6 =
 bif decide (p6 < p5) then
 Option.bind (P_set_has (p3, p6, ())) fun r1 =>
 bif r1.1 then
 Option.bind (P_box_cell ((p0, (p1, (p2, ()))), p6, ())) fun r3 =>
 bif (decide (((List.length p4) + (List.length ([r3.1] : List D_A3))) * 24 ≤ 140737488355328) && decide (((List.length p4) + (List.length ([r3.1] : List D_A3))) ≤ 140737488355328)) then
 l_box_list_3 m0 p0 p1 p2 p3 (p4 ++ ([r3.1] : List D_A3)) p5 (IntKind.wrap .i64 (p6 + 1))
 else none
 else
 l_box_list_3 m0 p0 p1 p2 p3 p4 p5 (IntKind.wrap .i64 (p6 + 1))
 else
 some (p4, ()) := by
 rewrite [h_box_list_3]
 kernel_rfl
abbrev As_box_heap : List ATy := [.data true T_A3, .data false (.int .u64)]
abbrev R_box_heap : List (Bool × Ty) := [(true, T_Heap)]
abbrev M_box_heap : List RMode := [.own 55]
abbrev Ft_box_heap : Type := D_A3 × Int × Unit → Option (D_Heap × Unit)
def X_box_heap : Ctx := { types := TT, globals := [], con := [(60, C_box_list)], keep := [], results := [.cell 4 29], ntmps := 15, n := N }
def B_box_heap : Code := (Tryz.f87.body).getD .skip
def P_box_heap : Ft_box_heap := hid (runF X_box_heap B_box_heap As_box_heap R_box_heap M_box_heap)
theorem h_box_heap : P_box_heap = runF X_box_heap B_box_heap As_box_heap R_box_heap M_box_heap := hid_eq _
def C_box_heap : Contract := ⟨As_box_heap, R_box_heap, M_box_heap, P_box_heap⟩
theorem s_box_heap : Sound Tryz.prog GG 87 C_box_heap := by
 unfold C_box_heap; rw [h_box_heap]
 exact mkS Tryz.f87 ⟨s_box_list, trivial⟩ trivial
theorem p_box_heap (a0 : D_A3) (a1 : Int) : P_box_heap (a0, a1, ()) =
 Option.bind (P_box_list (a0, a1, ())) fun r0 =>
 some ((a0.1, (a0.2.1, (a0.2.2.1, (r0.1, ())))), ()) := by
 rewrite [h_box_heap]
 kernel_rfl
abbrev As_Heap_moved : List ATy := [.data true T_Heap, .data true T_A3, .clo [(true, T_A3)] [(true, T_A3)]]
abbrev R_Heap_moved : List (Bool × Ty) := [(true, T_Heap)]
abbrev M_Heap_moved : List RMode := [.own 55]
abbrev Ft_Heap_moved : Type := D_Heap × D_A3 × ((D_A3 × Unit) → Option (D_A3 × Unit)) × Unit → Option (D_Heap × Unit)
def X_Heap_moved : Ctx := { types := TT, globals := [], con := [(86, C_box_index), (87, C_box_heap)], keep := [(3, ⟨[.box 4, .box 6, .tmp 2, .tmp 4, .tmp 6, .tmp 7, .tmp 11, .tmp 12, .tmp 13], []⟩)], results := [.cell 6 29], ntmps := 29, n := N }
def B_Heap_moved : Code := (Tryz.f81.body).getD .skip
def L_Heap_moved_3 (m0 : Nat) (p0 p1 p2 p3 p4 p5 : Int) (p6 : List D_A3) (p7 : (D_A3 × Unit) → Option (D_A3 × Unit)) (p8 : Int) (p9 : List D_A3) (p10 p11 : Int) : Option (denL R_Heap_moved) := loopF X_Heap_moved B_Heap_moved R_Heap_moved M_Heap_moved 3 [m0] [(.ver, .num 1), (.box 4, .box 0 false [.int .i64 p0, .int .i64 p1, .int .i64 p2]), (.box 6, .box 0 false [.int .i64 p3, .int .i64 p4, .int .i64 p5, .own 55 T_A3 0 p6]), (.tmp 2, .val false [.clo [(true, T_A3)] [(true, T_A3)] p7]), (.tmp 4, .val false [.addr 4 0 0]), (.tmp 6, .val false [.addr 6 0 0]), (.tmp 7, .val false [.int .u64 p8]), (.tmp 11, .val false [.imm T_A3 p9 (some 3)]), (.tmp 12, .val false [.int .i64 p10]), (.tmp 13, .val false [.int .i64 p11])]
def P_Heap_moved : Ft_Heap_moved := hid (runF X_Heap_moved B_Heap_moved As_Heap_moved R_Heap_moved M_Heap_moved)
theorem h_Heap_moved : P_Heap_moved = runF X_Heap_moved B_Heap_moved As_Heap_moved R_Heap_moved M_Heap_moved := hid_eq _
def C_Heap_moved : Contract := ⟨As_Heap_moved, R_Heap_moved, M_Heap_moved, P_Heap_moved⟩
theorem s_Heap_moved : Sound Tryz.prog GG 81 C_Heap_moved := by
 unfold C_Heap_moved; rw [h_Heap_moved]
 exact mkS Tryz.f81 ⟨s_box_index, s_box_heap, trivial⟩ trivial
def l_Heap_moved_3 := hid (L_Heap_moved_3)
theorem h_Heap_moved_3 : l_Heap_moved_3 = L_Heap_moved_3 := hid_eq _
theorem p_Heap_moved (a0 : D_Heap) (a1 : D_A3) (a2 : (D_A3 × Unit) → Option (D_A3 × Unit)) : P_Heap_moved (a0, a1, a2, ()) =
 l_Heap_moved_3 N a1.1 a1.2.1 a1.2.2.1 0 0 0 ([] : List D_A3) a2 0 a0.2.2.2.1 (List.length a0.2.2.2.1 : Int) 0 := by
 rewrite [h_Heap_moved, h_Heap_moved_3]
 kernel_rfl
theorem q_Heap_moved_3 (m0 : Nat) (p0 p1 p2 p3 p4 p5 : Int) (p6 : List D_A3) (p7 : (D_A3 × Unit) → Option (D_A3 × Unit)) (p8 : Int) (p9 : List D_A3) (p10 p11 : Int) : l_Heap_moved_3 (m0 + 1) p0 p1 p2 p3 p4 p5 p6 p7 p8 p9 p10 p11 =
 bif decide (p11 < p10) then
 bif inB p11 (List.length p9) then
 Option.bind (p7 ((nth T_A3 p9 p11), ())) fun r2 =>
 Option.bind (P_box_index ((p0, (p1, (p2, ()))), r2.1, ())) fun r3 =>
 bif decide ((0 : Int) ≤ r3.1) then
 l_Heap_moved_3 m0 p0 p1 p2 p3 p4 p5 p6 p7 (intBits .or .u64 p8 (shlI .u64 1 r3.1)) p9 p10 (IntKind.wrap .i64 (p11 + 1))
 else none
 else none
 else
 Option.bind (P_box_heap ((p0, (p1, (p2, ()))), p8, ())) fun r1 =>
 some (r1.1, ()) := by
 rewrite [h_Heap_moved_3]
 kernel_rfl
abbrev As_slices_Equal_3_int_3_int : List ATy := [.data false (.sl T_A3), .data false (.sl T_A3)]
abbrev R_slices_Equal_3_int_3_int : List (Bool × Ty) := [(false, .bool)]
abbrev M_slices_Equal_3_int_3_int : List RMode := []
abbrev Ft_slices_Equal_3_int_3_int : Type := (List D_A3) × (List D_A3) × Unit → Option (Bool × Unit)
def X_slices_Equal_3_int_3_int : Ctx := { types := TT, globals := [], con := [], keep := [(4, ⟨[.tmp 0, .tmp 1, .tmp 12, .tmp 13], []⟩)], results := [.tmp 4], ntmps := 26, n := N }
def B_slices_Equal_3_int_3_int : Code := (Tryz.f119.body).getD .skip
def L_slices_Equal_3_int_3_int_4 (m0 : Nat) (p0 p1 : List D_A3) (p2 p3 : Int) : Option (denL R_slices_Equal_3_int_3_int) := loopF X_slices_Equal_3_int_3_int B_slices_Equal_3_int_3_int R_slices_Equal_3_int_3_int M_slices_Equal_3_int_3_int 4 [m0] [(.ver, .num 1), (.tmp 0, .val false [.imm T_A3 p0 (some 0)]), (.tmp 1, .val false [.imm T_A3 p1 (some 1)]), (.tmp 12, .val false [.int .i64 p2]), (.tmp 13, .val false [.int .i64 p3])]
def P_slices_Equal_3_int_3_int : Ft_slices_Equal_3_int_3_int := hid (runF X_slices_Equal_3_int_3_int B_slices_Equal_3_int_3_int As_slices_Equal_3_int_3_int R_slices_Equal_3_int_3_int M_slices_Equal_3_int_3_int)
theorem h_slices_Equal_3_int_3_int : P_slices_Equal_3_int_3_int = runF X_slices_Equal_3_int_3_int B_slices_Equal_3_int_3_int As_slices_Equal_3_int_3_int R_slices_Equal_3_int_3_int M_slices_Equal_3_int_3_int := hid_eq _
def C_slices_Equal_3_int_3_int : Contract := ⟨As_slices_Equal_3_int_3_int, R_slices_Equal_3_int_3_int, M_slices_Equal_3_int_3_int, P_slices_Equal_3_int_3_int⟩
theorem s_slices_Equal_3_int_3_int : Sound Tryz.prog GG 119 C_slices_Equal_3_int_3_int := by
 unfold C_slices_Equal_3_int_3_int; rw [h_slices_Equal_3_int_3_int]
 exact mkS Tryz.f119 trivial trivial
def l_slices_Equal_3_int_3_int_4 := hid (L_slices_Equal_3_int_3_int_4)
theorem h_slices_Equal_3_int_3_int_4 : l_slices_Equal_3_int_3_int_4 = L_slices_Equal_3_int_3_int_4 := hid_eq _
theorem p_slices_Equal_3_int_3_int (a0 a1 : List D_A3) : P_slices_Equal_3_int_3_int (a0, a1, ()) =
 bif !decide ((List.length a0 : Int) = (List.length a1 : Int)) then
 some (false, ())
 else
 l_slices_Equal_3_int_3_int_4 N a0 a1 (List.length a0 : Int) 0 := by
 rewrite [h_slices_Equal_3_int_3_int, h_slices_Equal_3_int_3_int_4]
 kernel_rfl
theorem q_slices_Equal_3_int_3_int_4 (m0 : Nat) (p0 p1 : List D_A3) (p2 p3 : Int) : l_slices_Equal_3_int_3_int_4 (m0 + 1) p0 p1 p2 p3 =
 bif decide (p3 < p2) then
 bif inB p3 (List.length p0) then
 bif inB p3 (List.length p1) then
 bif !(decide (((nth T_A3 p0 p3)).1 = ((nth T_A3 p1 p3)).1) && (decide ((((nth T_A3 p0 p3)).2).1 = (((nth T_A3 p1 p3)).2).1) && (decide (((((nth T_A3 p0 p3)).2).2).1 = ((((nth T_A3 p1 p3)).2).2).1) && true))) then
 some (false, ())
 else
 l_slices_Equal_3_int_3_int_4 m0 p0 p1 p2 (IntKind.wrap .i64 (p3 + 1))
 else none
 else none
 else
 some (true, ()) := by
 rewrite [h_slices_Equal_3_int_3_int_4]
 kernel_rfl
abbrev As_Heap_same : List ATy := [.data true T_Heap, .data true T_Heap]
abbrev R_Heap_same : List (Bool × Ty) := [(false, .bool)]
abbrev M_Heap_same : List RMode := []
abbrev Ft_Heap_same : Type := D_Heap × D_Heap × Unit → Option (Bool × Unit)
def X_Heap_same : Ctx := { types := TT, globals := [], con := [(57, C_Heap_box), (119, C_slices_Equal_3_int_3_int)], keep := [], results := [.tmp 4], ntmps := 17, n := N }
def B_Heap_same : Code := (Tryz.f92.body).getD .skip
def P_Heap_same : Ft_Heap_same := hid (runF X_Heap_same B_Heap_same As_Heap_same R_Heap_same M_Heap_same)
theorem h_Heap_same : P_Heap_same = runF X_Heap_same B_Heap_same As_Heap_same R_Heap_same M_Heap_same := hid_eq _
def C_Heap_same : Contract := ⟨As_Heap_same, R_Heap_same, M_Heap_same, P_Heap_same⟩
theorem s_Heap_same : Sound Tryz.prog GG 92 C_Heap_same := by
 unfold C_Heap_same; rw [h_Heap_same]
 exact mkS Tryz.f92 ⟨s_Heap_box, s_slices_Equal_3_int_3_int, trivial⟩ trivial
theorem p_Heap_same (a0 a1 : D_Heap) : P_Heap_same (a0, a1, ()) =
 Option.bind (P_Heap_box (a0, ())) fun r0 =>
 Option.bind (P_Heap_box (a1, ())) fun r1 =>
 bif (decide (r0.1.1 = r1.1.1) && (decide (r0.1.2.1 = r1.1.2.1) && (decide (r0.1.2.2.1 = r1.1.2.2.1) && true))) then
 Option.bind (P_slices_Equal_3_int_3_int (a0.2.2.2.1, a1.2.2.2.1, ())) fun r3 =>
 some (r3.1, ())
 else
 some (false, ()) := by
 rewrite [h_Heap_same]
 kernel_rfl
abbrev As_impl_added : List ATy := [.data true T_A3, .data true T_A3]
abbrev R_impl_added : List (Bool × Ty) := [(true, T_A3)]
abbrev M_impl_added : List RMode := []
abbrev Ft_impl_added : Type := D_A3 × D_A3 × Unit → Option (D_A3 × Unit)
def X_impl_added : Ctx := { types := TT, globals := [], con := [], keep := [], results := [.cell 4 55], ntmps := 21, n := N }
def B_impl_added : Code := (Tryz.f38.body).getD .skip
def P_impl_added : Ft_impl_added := hid (runF X_impl_added B_impl_added As_impl_added R_impl_added M_impl_added)
theorem h_impl_added : P_impl_added = runF X_impl_added B_impl_added As_impl_added R_impl_added M_impl_added := hid_eq _
def C_impl_added : Contract := ⟨As_impl_added, R_impl_added, M_impl_added, P_impl_added⟩
theorem s_impl_added : Sound Tryz.prog GG 38 C_impl_added := by
 unfold C_impl_added; rw [h_impl_added]
 exact mkS Tryz.f38 trivial trivial
theorem p_impl_added (a0 a1 : D_A3) : P_impl_added (a0, a1, ()) =
 some (((IntKind.wrap .i64 (a0.1 + a1.1)), ((IntKind.wrap .i64 (a0.2.1 + a1.2.1)), ((IntKind.wrap .i64 (a0.2.2.1 + a1.2.2.1)), ()))), ()) := by
 rewrite [h_impl_added]
 kernel_rfl
abbrev As_impl_heapOf : List ATy := [.data false (.sl T_A3)]
abbrev R_impl_heapOf : List (Bool × Ty) := [(true, T_Heap)]
abbrev M_impl_heapOf : List RMode := [.own 55]
abbrev Ft_impl_heapOf : Type := (List D_A3) × Unit → Option (D_Heap × Unit)
def X_impl_heapOf : Ctx := { types := TT, globals := [], con := [(38, C_impl_added), (86, C_box_index), (87, C_box_heap)], keep := [(3, ⟨[.box 2, .box 3, .box 4, .tmp 0, .tmp 2, .tmp 3, .tmp 4, .tmp 19, .tmp 20, .tmp 21], []⟩), (6, ⟨[.box 2, .box 3, .box 4, .box 6, .tmp 0, .tmp 2, .tmp 3, .tmp 4, .tmp 6, .tmp 19, .tmp 20, .tmp 21, .tmp 25], []⟩), (14, ⟨[.box 2, .box 8, .box 9, .tmp 2, .tmp 8, .tmp 9, .tmp 10, .tmp 63, .tmp 64, .tmp 65], []⟩)], results := [.cell 2 29], ntmps := 81, n := N }
def B_impl_heapOf : Code := (Tryz.f42.body).getD .skip
def L_impl_heapOf_3 (m0 : Nat) (p0 p1 p2 : Int) (p3 : List D_A3) (p4 p5 p6 p7 p8 p9 : Int) (p10 p11 : List D_A3) (p12 p13 : Int) : Option (denL R_impl_heapOf) := loopF X_impl_heapOf B_impl_heapOf R_impl_heapOf M_impl_heapOf 3 [m0] [(.ver, .num 1), (.box 2, .box 0 false [.int .i64 p0, .int .i64 p1, .int .i64 p2, .own 55 T_A3 0 p3]), (.box 3, .box 0 false [.int .i64 p4, .int .i64 p5, .int .i64 p6]), (.box 4, .box 0 false [.int .i64 p7, .int .i64 p8, .int .i64 p9]), (.tmp 0, .val false [.imm T_A3 p10 (some 0)]), (.tmp 2, .val false [.addr 2 0 0]), (.tmp 3, .val false [.addr 3 0 0]), (.tmp 4, .val false [.addr 4 0 0]), (.tmp 19, .val false [.imm T_A3 p11 (some 0)]), (.tmp 20, .val false [.int .i64 p12]), (.tmp 21, .val false [.int .i64 p13])]
def L_impl_heapOf_6 (m0 m1 : Nat) (p0 p1 p2 : Int) (p3 : List D_A3) (p4 p5 p6 p7 p8 p9 p10 p11 p12 : Int) (p13 p14 : List D_A3) (p15 p16 p17 : Int) : Option (denL R_impl_heapOf) := loopF X_impl_heapOf B_impl_heapOf R_impl_heapOf M_impl_heapOf 6 [m0, m1] [(.ver, .num 1), (.box 2, .box 0 false [.int .i64 p0, .int .i64 p1, .int .i64 p2, .own 55 T_A3 0 p3]), (.box 3, .box 0 false [.int .i64 p4, .int .i64 p5, .int .i64 p6]), (.box 4, .box 0 false [.int .i64 p7, .int .i64 p8, .int .i64 p9]), (.box 6, .box 0 false [.int .i64 p10, .int .i64 p11, .int .i64 p12]), (.tmp 0, .val false [.imm T_A3 p13 (some 0)]), (.tmp 2, .val false [.addr 2 0 0]), (.tmp 3, .val false [.addr 3 0 0]), (.tmp 4, .val false [.addr 4 0 0]), (.tmp 6, .val false [.addr 6 0 0]), (.tmp 19, .val false [.imm T_A3 p14 (some 0)]), (.tmp 20, .val false [.int .i64 p15]), (.tmp 21, .val false [.int .i64 p16]), (.tmp 25, .val false [.int .i64 p17])]
def L_impl_heapOf_14 (m0 : Nat) (p0 p1 p2 : Int) (p3 : List D_A3) (p4 p5 p6 p7 p8 p9 p10 : Int) (p11 : List D_A3) (p12 p13 : Int) : Option (denL R_impl_heapOf) := loopF X_impl_heapOf B_impl_heapOf R_impl_heapOf M_impl_heapOf 14 [m0] [(.ver, .num 1), (.box 2, .box 0 false [.int .i64 p0, .int .i64 p1, .int .i64 p2, .own 55 T_A3 0 p3]), (.box 8, .box 0 false [.int .i64 p4, .int .i64 p5, .int .i64 p6]), (.box 9, .box 0 false [.int .i64 p7, .int .i64 p8, .int .i64 p9]), (.tmp 2, .val false [.addr 2 0 0]), (.tmp 8, .val false [.addr 8 0 0]), (.tmp 9, .val false [.addr 9 0 0]), (.tmp 10, .val false [.int .u64 p10]), (.tmp 63, .val false [.imm T_A3 p11 (some 0)]), (.tmp 64, .val false [.int .i64 p12]), (.tmp 65, .val false [.int .i64 p13])]
def P_impl_heapOf : Ft_impl_heapOf := hid (runF X_impl_heapOf B_impl_heapOf As_impl_heapOf R_impl_heapOf M_impl_heapOf)
theorem h_impl_heapOf : P_impl_heapOf = runF X_impl_heapOf B_impl_heapOf As_impl_heapOf R_impl_heapOf M_impl_heapOf := hid_eq _
def C_impl_heapOf : Contract := ⟨As_impl_heapOf, R_impl_heapOf, M_impl_heapOf, P_impl_heapOf⟩
theorem s_impl_heapOf : Sound Tryz.prog GG 42 C_impl_heapOf := by
 unfold C_impl_heapOf; rw [h_impl_heapOf]
 exact mkS Tryz.f42 ⟨s_impl_added, s_box_index, s_box_heap, trivial⟩ trivial
def l_impl_heapOf_3 := hid (L_impl_heapOf_3)
theorem h_impl_heapOf_3 : l_impl_heapOf_3 = L_impl_heapOf_3 := hid_eq _
def l_impl_heapOf_6 := hid (L_impl_heapOf_6)
theorem h_impl_heapOf_6 : l_impl_heapOf_6 = L_impl_heapOf_6 := hid_eq _
def l_impl_heapOf_14 := hid (L_impl_heapOf_14)
theorem h_impl_heapOf_14 : l_impl_heapOf_14 = L_impl_heapOf_14 := hid_eq _
theorem p_impl_heapOf (a0 : List D_A3) : P_impl_heapOf (a0, ()) =
 bif inB 0 (List.length a0) then
 bif inB 0 (List.length a0) then
 l_impl_heapOf_3 N 0 0 0 ([] : List D_A3) (((nth T_A3 a0 0)).1) ((((nth T_A3 a0 0)).2).1) (((((nth T_A3 a0 0)).2).2).1) (((nth T_A3 a0 0)).1) ((((nth T_A3 a0 0)).2).1) (((((nth T_A3 a0 0)).2).2).1) a0 a0 (List.length a0 : Int) 0
 else none
 else none := by
 rewrite [h_impl_heapOf, h_impl_heapOf_3]
 kernel_rfl
theorem q_impl_heapOf_3 (m0 : Nat) (p0 p1 p2 : Int) (p3 : List D_A3) (p4 p5 p6 p7 p8 p9 : Int) (p10 p11 : List D_A3) (p12 p13 : Int) : l_impl_heapOf_3 (m0 + 1) p0 p1 p2 p3 p4 p5 p6 p7 p8 p9 p10 p11 p12 p13 =
 bif decide (p13 < p12) then
 bif inB p13 (List.length p11) then
 l_impl_heapOf_6 m0 N p0 p1 p2 p3 p4 p5 p6 p7 p8 p9 (((nth T_A3 p11 p13)).1) ((((nth T_A3 p11 p13)).2).1) (((((nth T_A3 p11 p13)).2).2).1) p10 p11 p12 p13 0
 else none
 else
 Option.bind (P_impl_added ((p7, (p8, (p9, ()))), ((IntKind.wrap .i64 (0 - p4)), ((IntKind.wrap .i64 (0 - p5)), ((IntKind.wrap .i64 (0 - p6)), ()))), ())) fun r1 =>
 Option.bind (P_impl_added (r1.1, (1, (1, (1, ()))), ())) fun r2 =>
 l_impl_heapOf_14 N p0 p1 p2 p3 (IntKind.wrap .i64 (0 - p4)) (IntKind.wrap .i64 (0 - p5)) (IntKind.wrap .i64 (0 - p6)) r2.1.1 r2.1.2.1 r2.1.2.2.1 0 p10 (List.length p10 : Int) 0 := by
 rewrite [h_impl_heapOf_3, h_impl_heapOf_6, h_impl_heapOf_14]
 kernel_rfl
theorem q_impl_heapOf_6 (m0 m1 : Nat) (p0 p1 p2 : Int) (p3 : List D_A3) (p4 p5 p6 p7 p8 p9 p10 p11 p12 : Int) (p13 p14 : List D_A3) (p15 p16 p17 : Int) : l_impl_heapOf_6 m0 (m1 + 1) p0 p1 p2 p3 p4 p5 p6 p7 p8 p9 p10 p11 p12 p13 p14 p15 p16 p17 =
 bif decide (p17 < 3) then
 bif inB p17 3 then
 bif inB p17 3 then
 bif inB p17 3 then
 bif inB p17 3 then
 bif inB p17 3 then
 bif inB p17 3 then
 l_impl_heapOf_6 m0 m1 p0 p1 p2 p3 (bif decide (p17 = (0 : Int)) then (bif decide ((bif decide (p17 = (0 : Int)) then p10 else (bif decide (p17 = (1 : Int)) then p11 else p12)) < (bif decide (p17 = (0 : Int)) then p4 else (bif decide (p17 = (1 : Int)) then p5 else p6))) then (bif decide (p17 = (0 : Int)) then p10 else (bif decide (p17 = (1 : Int)) then p11 else p12)) else (bif decide (p17 = (0 : Int)) then p4 else (bif decide (p17 = (1 : Int)) then p5 else p6))) else p4) (bif decide (p17 = (1 : Int)) then (bif decide ((bif decide (p17 = (0 : Int)) then p10 else (bif decide (p17 = (1 : Int)) then p11 else p12)) < (bif decide (p17 = (0 : Int)) then p4 else (bif decide (p17 = (1 : Int)) then p5 else p6))) then (bif decide (p17 = (0 : Int)) then p10 else (bif decide (p17 = (1 : Int)) then p11 else p12)) else (bif decide (p17 = (0 : Int)) then p4 else (bif decide (p17 = (1 : Int)) then p5 else p6))) else p5) (bif decide (p17 = (2 : Int)) then (bif decide ((bif decide (p17 = (0 : Int)) then p10 else (bif decide (p17 = (1 : Int)) then p11 else p12)) < (bif decide (p17 = (0 : Int)) then p4 else (bif decide (p17 = (1 : Int)) then p5 else p6))) then (bif decide (p17 = (0 : Int)) then p10 else (bif decide (p17 = (1 : Int)) then p11 else p12)) else (bif decide (p17 = (0 : Int)) then p4 else (bif decide (p17 = (1 : Int)) then p5 else p6))) else p6) (bif decide (p17 = (0 : Int)) then (bif decide ((bif decide (p17 = (0 : Int)) then p10 else (bif decide (p17 = (1 : Int)) then p11 else p12)) > (bif decide (p17 = (0 : Int)) then p7 else (bif decide (p17 = (1 : Int)) then p8 else p9))) then (bif decide (p17 = (0 : Int)) then p10 else (bif decide (p17 = (1 : Int)) then p11 else p12)) else (bif decide (p17 = (0 : Int)) then p7 else (bif decide (p17 = (1 : Int)) then p8 else p9))) else p7) (bif decide (p17 = (1 : Int)) then (bif decide ((bif decide (p17 = (0 : Int)) then p10 else (bif decide (p17 = (1 : Int)) then p11 else p12)) > (bif decide (p17 = (0 : Int)) then p7 else (bif decide (p17 = (1 : Int)) then p8 else p9))) then (bif decide (p17 = (0 : Int)) then p10 else (bif decide (p17 = (1 : Int)) then p11 else p12)) else (bif decide (p17 = (0 : Int)) then p7 else (bif decide (p17 = (1 : Int)) then p8 else p9))) else p8) (bif decide (p17 = (2 : Int)) then (bif decide ((bif decide (p17 = (0 : Int)) then p10 else (bif decide (p17 = (1 : Int)) then p11 else p12)) > (bif decide (p17 = (0 : Int)) then p7 else (bif decide (p17 = (1 : Int)) then p8 else p9))) then (bif decide (p17 = (0 : Int)) then p10 else (bif decide (p17 = (1 : Int)) then p11 else p12)) else (bif decide (p17 = (0 : Int)) then p7 else (bif decide (p17 = (1 : Int)) then p8 else p9))) else p9) p10 p11 p12 p13 p14 p15 p16 (IntKind.wrap .i64 (p17 + 1))
 else none
 else none
 else none
 else none
 else none
 else none
 else
 l_impl_heapOf_3 m0 p0 p1 p2 p3 p4 p5 p6 p7 p8 p9 p13 p14 p15 (IntKind.wrap .i64 (p16 + 1)) := by
 rewrite [h_impl_heapOf_3, h_impl_heapOf_6]
 kernel_rfl
theorem q_impl_heapOf_14 (m0 : Nat) (p0 p1 p2 : Int) (p3 : List D_A3) (p4 p5 p6 p7 p8 p9 p10 : Int) (p11 : List D_A3) (p12 p13 : Int) : l_impl_heapOf_14 (m0 + 1) p0 p1 p2 p3 p4 p5 p6 p7 p8 p9 p10 p11 p12 p13 =
 bif decide (p13 < p12) then
 bif inB p13 (List.length p11) then
 Option.bind (P_impl_added ((nth T_A3 p11 p13), (p4, (p5, (p6, ()))), ())) fun r2 =>
 Option.bind (P_box_index ((p7, (p8, (p9, ()))), r2.1, ())) fun r3 =>
 bif decide ((0 : Int) ≤ r3.1) then
 l_impl_heapOf_14 m0 p0 p1 p2 p3 p4 p5 p6 p7 p8 p9 (intBits .or .u64 p10 (shlI .u64 1 r3.1)) p11 p12 (IntKind.wrap .i64 (p13 + 1))
 else none
 else none
 else
 Option.bind (P_box_heap ((p7, (p8, (p9, ()))), p10, ())) fun r1 =>
 some (r1.1, ()) := by
 rewrite [h_impl_heapOf_14]
 kernel_rfl
abbrev As_impl_beyond : List ATy := [.data true T_A3, .data false (.int .i64)]
abbrev R_impl_beyond : List (Bool × Ty) := [(true, T_A3)]
abbrev M_impl_beyond : List RMode := []
abbrev Ft_impl_beyond : Type := D_A3 × Int × Unit → Option (D_A3 × Unit)
def X_impl_beyond : Ctx := { types := TT, globals := [], con := [], keep := [], results := [.cell 4 55], ntmps := 16, n := N }
def B_impl_beyond : Code := (Tryz.f40.body).getD .skip
def P_impl_beyond : Ft_impl_beyond := hid (runF X_impl_beyond B_impl_beyond As_impl_beyond R_impl_beyond M_impl_beyond)
theorem h_impl_beyond : P_impl_beyond = runF X_impl_beyond B_impl_beyond As_impl_beyond R_impl_beyond M_impl_beyond := hid_eq _
def C_impl_beyond : Contract := ⟨As_impl_beyond, R_impl_beyond, M_impl_beyond, P_impl_beyond⟩
theorem s_impl_beyond : Sound Tryz.prog GG 40 C_impl_beyond := by
 unfold C_impl_beyond; rw [h_impl_beyond]
 exact mkS Tryz.f40 trivial trivial
theorem p_impl_beyond (a0 : D_A3) (a1 : Int) : P_impl_beyond (a0, a1, ()) =
 bif inB (IntKind.wrap .i64 (Int.tdiv a1 2)) 3 then
 bif inB (IntKind.wrap .i64 (Int.tdiv a1 2)) 3 then
 some (((bif decide ((IntKind.wrap .i64 (Int.tdiv a1 2)) = (0 : Int)) then (IntKind.wrap .i64 ((bif decide ((IntKind.wrap .i64 (Int.tdiv a1 2)) = (0 : Int)) then a0.1 else (bif decide ((IntKind.wrap .i64 (Int.tdiv a1 2)) = (1 : Int)) then a0.2.1 else a0.2.2.1)) + (IntKind.wrap .i64 ((IntKind.wrap .i64 (2 * (Int.tmod a1 2))) - 1)))) else a0.1), ((bif decide ((IntKind.wrap .i64 (Int.tdiv a1 2)) = (1 : Int)) then (IntKind.wrap .i64 ((bif decide ((IntKind.wrap .i64 (Int.tdiv a1 2)) = (0 : Int)) then a0.1 else (bif decide ((IntKind.wrap .i64 (Int.tdiv a1 2)) = (1 : Int)) then a0.2.1 else a0.2.2.1)) + (IntKind.wrap .i64 ((IntKind.wrap .i64 (2 * (Int.tmod a1 2))) - 1)))) else a0.2.1), ((bif decide ((IntKind.wrap .i64 (Int.tdiv a1 2)) = (2 : Int)) then (IntKind.wrap .i64 ((bif decide ((IntKind.wrap .i64 (Int.tdiv a1 2)) = (0 : Int)) then a0.1 else (bif decide ((IntKind.wrap .i64 (Int.tdiv a1 2)) = (1 : Int)) then a0.2.1 else a0.2.2.1)) + (IntKind.wrap .i64 ((IntKind.wrap .i64 (2 * (Int.tmod a1 2))) - 1)))) else a0.2.2.1), ()))), ())
 else none
 else none := by
 rewrite [h_impl_beyond]
 kernel_rfl
abbrev As_slices_Index_3_int_3_int : List ATy := [.data false (.sl T_A3), .data true T_A3]
abbrev R_slices_Index_3_int_3_int : List (Bool × Ty) := [(false, (.int .i64))]
abbrev M_slices_Index_3_int_3_int : List RMode := []
abbrev Ft_slices_Index_3_int_3_int : Type := (List D_A3) × D_A3 × Unit → Option (Int × Unit)
def X_slices_Index_3_int_3_int : Ctx := { types := TT, globals := [], con := [], keep := [(2, ⟨[.box 3, .tmp 0, .tmp 3, .tmp 7, .tmp 8], []⟩)], results := [.tmp 4], ntmps := 19, n := N }
def B_slices_Index_3_int_3_int : Code := (Tryz.f85.body).getD .skip
def L_slices_Index_3_int_3_int_2 (m0 : Nat) (p0 p1 p2 : Int) (p3 : List D_A3) (p4 p5 : Int) : Option (denL R_slices_Index_3_int_3_int) := loopF X_slices_Index_3_int_3_int B_slices_Index_3_int_3_int R_slices_Index_3_int_3_int M_slices_Index_3_int_3_int 2 [m0] [(.ver, .num 1), (.box 3, .box 0 false [.int .i64 p0, .int .i64 p1, .int .i64 p2]), (.tmp 0, .val false [.imm T_A3 p3 (some 0)]), (.tmp 3, .val false [.addr 3 0 0]), (.tmp 7, .val false [.int .i64 p4]), (.tmp 8, .val false [.int .i64 p5])]
def P_slices_Index_3_int_3_int : Ft_slices_Index_3_int_3_int := hid (runF X_slices_Index_3_int_3_int B_slices_Index_3_int_3_int As_slices_Index_3_int_3_int R_slices_Index_3_int_3_int M_slices_Index_3_int_3_int)
theorem h_slices_Index_3_int_3_int : P_slices_Index_3_int_3_int = runF X_slices_Index_3_int_3_int B_slices_Index_3_int_3_int As_slices_Index_3_int_3_int R_slices_Index_3_int_3_int M_slices_Index_3_int_3_int := hid_eq _
def C_slices_Index_3_int_3_int : Contract := ⟨As_slices_Index_3_int_3_int, R_slices_Index_3_int_3_int, M_slices_Index_3_int_3_int, P_slices_Index_3_int_3_int⟩
theorem s_slices_Index_3_int_3_int : Sound Tryz.prog GG 85 C_slices_Index_3_int_3_int := by
 unfold C_slices_Index_3_int_3_int; rw [h_slices_Index_3_int_3_int]
 exact mkS Tryz.f85 trivial trivial
def l_slices_Index_3_int_3_int_2 := hid (L_slices_Index_3_int_3_int_2)
theorem h_slices_Index_3_int_3_int_2 : l_slices_Index_3_int_3_int_2 = L_slices_Index_3_int_3_int_2 := hid_eq _
theorem p_slices_Index_3_int_3_int (a0 : List D_A3) (a1 : D_A3) : P_slices_Index_3_int_3_int (a0, a1, ()) =
 l_slices_Index_3_int_3_int_2 N a1.1 a1.2.1 a1.2.2.1 a0 (List.length a0 : Int) 0 := by
 rewrite [h_slices_Index_3_int_3_int, h_slices_Index_3_int_3_int_2]
 kernel_rfl
theorem q_slices_Index_3_int_3_int_2 (m0 : Nat) (p0 p1 p2 : Int) (p3 : List D_A3) (p4 p5 : Int) : l_slices_Index_3_int_3_int_2 (m0 + 1) p0 p1 p2 p3 p4 p5 =
 bif decide (p5 < p4) then
 bif inB p5 (List.length p3) then
 bif (decide (p0 = ((nth T_A3 p3 p5)).1) && (decide (p1 = (((nth T_A3 p3 p5)).2).1) && (decide (p2 = ((((nth T_A3 p3 p5)).2).2).1) && true))) then
 some (p5, ())
 else
 l_slices_Index_3_int_3_int_2 m0 p0 p1 p2 p3 p4 (IntKind.wrap .i64 (p5 + 1))
 else none
 else
 some ((-1), ()) := by
 rewrite [h_slices_Index_3_int_3_int_2]
 kernel_rfl
abbrev As_sCont3 : List ATy := [.data false (.sl T_A3), .data true T_A3]
abbrev R_sCont3 : List (Bool × Ty) := [(false, .bool)]
abbrev M_sCont3 : List RMode := []
abbrev Ft_sCont3 : Type := (List D_A3) × D_A3 × Unit → Option (Bool × Unit)
def X_sCont3 : Ctx := { types := TT, globals := [], con := [(85, C_slices_Index_3_int_3_int)], keep := [], results := [.tmp 4], ntmps := 9, n := N }
def B_sCont3 : Code := (Tryz.f39.body).getD .skip
def P_sCont3 : Ft_sCont3 := hid (runF X_sCont3 B_sCont3 As_sCont3 R_sCont3 M_sCont3)
theorem h_sCont3 : P_sCont3 = runF X_sCont3 B_sCont3 As_sCont3 R_sCont3 M_sCont3 := hid_eq _
def C_sCont3 : Contract := ⟨As_sCont3, R_sCont3, M_sCont3, P_sCont3⟩
theorem s_sCont3 : Sound Tryz.prog GG 39 C_sCont3 := by
 unfold C_sCont3; rw [h_sCont3]
 exact mkS Tryz.f39 ⟨s_slices_Index_3_int_3_int, trivial⟩ trivial
theorem p_sCont3 (a0 : List D_A3) (a1 : D_A3) : P_sCont3 (a0, a1, ()) =
 Option.bind (P_slices_Index_3_int_3_int (a0, a1, ())) fun r0 =>
 some (decide (r0.1 ≥ 0), ()) := by
 rewrite [h_sCont3]
 kernel_rfl
abbrev As_sCmp3 : List ATy := [.data false (.sl T_A3), .data false (.sl T_A3), .clo [(true, T_A3), (true, T_A3)] [(false, (.int .i64))]]
abbrev R_sCmp3 : List (Bool × Ty) := [(false, (.int .i64))]
abbrev M_sCmp3 : List RMode := []
abbrev Ft_sCmp3 : Type := (List D_A3) × (List D_A3) × ((D_A3 × D_A3 × Unit) → Option (Int × Unit)) × Unit → Option (Int × Unit)
def X_sCmp3 : Ctx := { types := TT, globals := [], con := [], keep := [(2, ⟨[.tmp 0, .tmp 1, .tmp 2, .tmp 11, .tmp 12, .tmp 13], []⟩)], results := [.tmp 6], ntmps := 39, n := N }
def B_sCmp3 : Code := (Tryz.f116.body).getD .skip
def L_sCmp3_2 (m0 : Nat) (p0 p1 : List D_A3) (p2 : (D_A3 × D_A3 × Unit) → Option (Int × Unit)) (p3 : List D_A3) (p4 p5 : Int) : Option (denL R_sCmp3) := loopF X_sCmp3 B_sCmp3 R_sCmp3 M_sCmp3 2 [m0] [(.ver, .num 1), (.tmp 0, .val false [.imm T_A3 p0 (some 0)]), (.tmp 1, .val false [.imm T_A3 p1 (some 1)]), (.tmp 2, .val false [.clo [(true, T_A3), (true, T_A3)] [(false, (.int .i64))] p2]), (.tmp 11, .val false [.imm T_A3 p3 (some 0)]), (.tmp 12, .val false [.int .i64 p4]), (.tmp 13, .val false [.int .i64 p5])]
def P_sCmp3 : Ft_sCmp3 := hid (runF X_sCmp3 B_sCmp3 As_sCmp3 R_sCmp3 M_sCmp3)
theorem h_sCmp3 : P_sCmp3 = runF X_sCmp3 B_sCmp3 As_sCmp3 R_sCmp3 M_sCmp3 := hid_eq _
def C_sCmp3 : Contract := ⟨As_sCmp3, R_sCmp3, M_sCmp3, P_sCmp3⟩
theorem s_sCmp3 : Sound Tryz.prog GG 116 C_sCmp3 := by
 unfold C_sCmp3; rw [h_sCmp3]
 exact mkS Tryz.f116 trivial trivial
def l_sCmp3_2 := hid (L_sCmp3_2)
theorem h_sCmp3_2 : l_sCmp3_2 = L_sCmp3_2 := hid_eq _
theorem p_sCmp3 (a0 a1 : List D_A3) (a2 : (D_A3 × D_A3 × Unit) → Option (Int × Unit)) : P_sCmp3 (a0, a1, a2, ()) =
 l_sCmp3_2 N a0 a1 a2 a0 (List.length a0 : Int) 0 := by
 rewrite [h_sCmp3, h_sCmp3_2]
 kernel_rfl
theorem q_sCmp3_2 (m0 : Nat) (p0 p1 : List D_A3) (p2 : (D_A3 × D_A3 × Unit) → Option (Int × Unit)) (p3 : List D_A3) (p4 p5 : Int) : l_sCmp3_2 (m0 + 1) p0 p1 p2 p3 p4 p5 =
 bif decide (p5 < p4) then
 bif inB p5 (List.length p3) then
 bif decide (p5 ≥ (List.length p1 : Int)) then
 some (1, ())
 else
 bif inB p5 (List.length p1) then
 Option.bind (p2 ((nth T_A3 p3 p5), (nth T_A3 p1 p5), ())) fun r4 =>
 bif !decide (r4.1 = 0) then
 some (r4.1, ())
 else
 l_sCmp3_2 m0 p0 p1 p2 p3 p4 (IntKind.wrap .i64 (p5 + 1))
 else none
 else none
 else
 bif decide ((List.length p0 : Int) < (List.length p1 : Int)) then
 some ((-1), ())
 else
 some (0, ()) := by
 rewrite [h_sCmp3_2]
 kernel_rfl
abbrev As_impl_compareHeaps : List ATy := [.data true T_Heap, .data true T_Heap]
abbrev R_impl_compareHeaps : List (Bool × Ty) := [(false, (.int .i64))]
abbrev M_impl_compareHeaps : List RMode := []
abbrev Ft_impl_compareHeaps : Type := D_Heap × D_Heap × Unit → Option (Int × Unit)
def X_impl_compareHeaps : Ctx := { types := TT, globals := [], con := [(57, C_Heap_box), (103, C_impl_compareCells), (115, C_slices_Compare_int_int), (116, C_sCmp3)], keep := [], results := [.tmp 4], ntmps := 23, n := N }
def B_impl_compareHeaps : Code := (Tryz.f89.body).getD .skip
def P_impl_compareHeaps : Ft_impl_compareHeaps := hid (runF X_impl_compareHeaps B_impl_compareHeaps As_impl_compareHeaps R_impl_compareHeaps M_impl_compareHeaps)
theorem h_impl_compareHeaps : P_impl_compareHeaps = runF X_impl_compareHeaps B_impl_compareHeaps As_impl_compareHeaps R_impl_compareHeaps M_impl_compareHeaps := hid_eq _
def C_impl_compareHeaps : Contract := ⟨As_impl_compareHeaps, R_impl_compareHeaps, M_impl_compareHeaps, P_impl_compareHeaps⟩
theorem s_impl_compareHeaps : Sound Tryz.prog GG 89 C_impl_compareHeaps := by
 unfold C_impl_compareHeaps; rw [h_impl_compareHeaps]
 exact mkS Tryz.f89 ⟨s_Heap_box, s_impl_compareCells, s_slices_Compare_int_int, s_sCmp3, trivial⟩ trivial
theorem p_impl_compareHeaps (a0 a1 : D_Heap) : P_impl_compareHeaps (a0, a1, ()) =
 Option.bind (P_Heap_box (a0, ())) fun r0 =>
 Option.bind (P_Heap_box (a1, ())) fun r1 =>
 Option.bind (P_slices_Compare_int_int (([r0.1.1, r0.1.2.1, r0.1.2.2.1] : List Int), ([r1.1.1, r1.1.2.1, r1.1.2.2.1] : List Int), ())) fun r2 =>
 bif !decide (r2.1 = 0) then
 some (r2.1, ())
 else
 Option.bind (P_sCmp3 (a0.2.2.2.1, a1.2.2.2.1, (fun (y : D_A3 × D_A3 × Unit) => P_impl_compareCells (y.1, y.2.1, ())), ())) fun r4 =>
 some (r4.1, ()) := by
 rewrite [h_impl_compareHeaps]
 kernel_rfl
abbrev As_impl_orders : List ATy := []
abbrev R_impl_orders : List (Bool × Ty) := [(false, (.sl T_A3))]
abbrev M_impl_orders : List RMode := [.own 55]
abbrev Ft_impl_orders : Type := Unit → Option ((List D_A3) × Unit)
def X_impl_orders : Ctx := { types := TT, globals := [], con := [], keep := [], results := [.tmp 0], ntmps := 8, n := N }
def B_impl_orders : Code := (Tryz.f113.body).getD .skip
def P_impl_orders : Ft_impl_orders := hid (runF X_impl_orders B_impl_orders As_impl_orders R_impl_orders M_impl_orders)
theorem h_impl_orders : P_impl_orders = runF X_impl_orders B_impl_orders As_impl_orders R_impl_orders M_impl_orders := hid_eq _
def C_impl_orders : Contract := ⟨As_impl_orders, R_impl_orders, M_impl_orders, P_impl_orders⟩
theorem s_impl_orders : Sound Tryz.prog GG 113 C_impl_orders := by
 unfold C_impl_orders; rw [h_impl_orders]
 exact mkS Tryz.f113 trivial trivial
theorem p_impl_orders  : P_impl_orders (()) =
 some (([(0, (1, (2, ()))), (0, (2, (1, ()))), (1, (0, (2, ()))), (1, (2, (0, ()))), (2, (0, (1, ()))), (2, (1, (0, ())))] : List D_A3), ()) := by
 rewrite [h_impl_orders]
 kernel_rfl
abbrev As_impl_turnings : List ATy := []
abbrev R_impl_turnings : List (Bool × Ty) := [(false, (.sl T_l8Turn))]
abbrev M_impl_turnings : List RMode := [.own 101]
abbrev Ft_impl_turnings : Type := Unit → Option ((List D_l8Turn) × Unit)
def X_impl_turnings : Ctx := { types := TT, globals := [], con := [(113, C_impl_orders)], keep := [(3, ⟨[.tmp 1, .tmp 10, .tmp 11, .tmp 12], []⟩), (7, ⟨[.box 3, .tmp 1, .tmp 3, .tmp 4, .tmp 10, .tmp 11, .tmp 12, .tmp 16], []⟩), (10, ⟨[.box 3, .tmp 1, .tmp 3, .tmp 4, .tmp 5, .tmp 10, .tmp 11, .tmp 12, .tmp 16, .tmp 19, .tmp 20], []⟩), (17, ⟨[.box 3, .tmp 1, .tmp 3, .tmp 4, .tmp 10, .tmp 11, .tmp 12, .tmp 34], []⟩)], results := [.tmp 0], ntmps := 66, n := N }
def B_impl_turnings : Code := (Tryz.f83.body).getD .skip
def L_impl_turnings_3 (m0 : Nat) (p0 : List D_l8Turn) (p1 : List D_A3) (p2 p3 : Int) : Option (denL R_impl_turnings) := loopF X_impl_turnings B_impl_turnings R_impl_turnings M_impl_turnings 3 [m0] [(.ver, .num 1), (.tmp 1, .val false [.own 101 T_l8Turn 0 p0]), (.tmp 10, .val false [.own 55 T_A3 0 p1]), (.tmp 11, .val false [.int .i64 p2]), (.tmp 12, .val false [.int .i64 p3])]
def L_impl_turnings_7 (m0 m1 : Nat) (p0 p1 p2 : Int) (p3 : List D_l8Turn) (p4 : Int) (p5 : List D_A3) (p6 p7 p8 : Int) : Option (denL R_impl_turnings) := loopF X_impl_turnings B_impl_turnings R_impl_turnings M_impl_turnings 7 [m0, m1] [(.ver, .num 1), (.box 3, .box 0 false [.int .i64 p0, .int .i64 p1, .int .i64 p2]), (.tmp 1, .val false [.own 101 T_l8Turn 0 p3]), (.tmp 3, .val false [.addr 3 0 0]), (.tmp 4, .val false [.int .i64 p4]), (.tmp 10, .val false [.own 55 T_A3 0 p5]), (.tmp 11, .val false [.int .i64 p6]), (.tmp 12, .val false [.int .i64 p7]), (.tmp 16, .val false [.int .i64 p8])]
def L_impl_turnings_10 (m0 m1 m2 : Nat) (p0 p1 p2 : Int) (p3 : List D_l8Turn) (p4 p5 : Int) (p6 : List D_A3) (p7 p8 p9 p10 p11 : Int) : Option (denL R_impl_turnings) := loopF X_impl_turnings B_impl_turnings R_impl_turnings M_impl_turnings 10 [m0, m1, m2] [(.ver, .num 1), (.box 3, .box 0 false [.int .i64 p0, .int .i64 p1, .int .i64 p2]), (.tmp 1, .val false [.own 101 T_l8Turn 0 p3]), (.tmp 3, .val false [.addr 3 0 0]), (.tmp 4, .val false [.int .i64 p4]), (.tmp 5, .val false [.int .i64 p5]), (.tmp 10, .val false [.own 55 T_A3 0 p6]), (.tmp 11, .val false [.int .i64 p7]), (.tmp 12, .val false [.int .i64 p8]), (.tmp 16, .val false [.int .i64 p9]), (.tmp 19, .val false [.int .i64 p10]), (.tmp 20, .val false [.int .i64 p11])]
def L_impl_turnings_17 (m0 m1 : Nat) (p0 p1 p2 : Int) (p3 : List D_l8Turn) (p4 : Int) (p5 : List D_A3) (p6 p7 p8 : Int) : Option (denL R_impl_turnings) := loopF X_impl_turnings B_impl_turnings R_impl_turnings M_impl_turnings 17 [m0, m1] [(.ver, .num 1), (.box 3, .box 0 false [.int .i64 p0, .int .i64 p1, .int .i64 p2]), (.tmp 1, .val false [.own 101 T_l8Turn 0 p3]), (.tmp 3, .val false [.addr 3 0 0]), (.tmp 4, .val false [.int .i64 p4]), (.tmp 10, .val false [.own 55 T_A3 0 p5]), (.tmp 11, .val false [.int .i64 p6]), (.tmp 12, .val false [.int .i64 p7]), (.tmp 34, .val false [.int .i64 p8])]
def P_impl_turnings : Ft_impl_turnings := hid (runF X_impl_turnings B_impl_turnings As_impl_turnings R_impl_turnings M_impl_turnings)
theorem h_impl_turnings : P_impl_turnings = runF X_impl_turnings B_impl_turnings As_impl_turnings R_impl_turnings M_impl_turnings := hid_eq _
def C_impl_turnings : Contract := ⟨As_impl_turnings, R_impl_turnings, M_impl_turnings, P_impl_turnings⟩
theorem s_impl_turnings : Sound Tryz.prog GG 83 C_impl_turnings := by
 unfold C_impl_turnings; rw [h_impl_turnings]
 exact mkS Tryz.f83 ⟨s_impl_orders, trivial⟩ trivial
def l_impl_turnings_3 := hid (L_impl_turnings_3)
theorem h_impl_turnings_3 : l_impl_turnings_3 = L_impl_turnings_3 := hid_eq _
def l_impl_turnings_7 := hid (L_impl_turnings_7)
theorem h_impl_turnings_7 : l_impl_turnings_7 = L_impl_turnings_7 := hid_eq _
def l_impl_turnings_10 := hid (L_impl_turnings_10)
theorem h_impl_turnings_10 : l_impl_turnings_10 = L_impl_turnings_10 := hid_eq _
def l_impl_turnings_17 := hid (L_impl_turnings_17)
theorem h_impl_turnings_17 : l_impl_turnings_17 = L_impl_turnings_17 := hid_eq _
theorem p_impl_turnings  : P_impl_turnings (()) =
 Option.bind (P_impl_orders (())) fun r0 =>
 l_impl_turnings_3 N ([] : List D_l8Turn) r0.1 (List.length r0.1 : Int) 0 := by
 rewrite [h_impl_turnings, h_impl_turnings_3]
 kernel_rfl
theorem q_impl_turnings_3 (m0 : Nat) (p0 : List D_l8Turn) (p1 : List D_A3) (p2 p3 : Int) : l_impl_turnings_3 (m0 + 1) p0 p1 p2 p3 =
 bif decide (p3 < p2) then
 bif inB p3 (List.length p1) then
 l_impl_turnings_7 m0 N (((nth T_A3 p1 p3)).1) ((((nth T_A3 p1 p3)).2).1) (((((nth T_A3 p1 p3)).2).2).1) p0 0 p1 p2 p3 0
 else none
 else
 some (p0, ()) := by
 rewrite [h_impl_turnings_3, h_impl_turnings_7]
 kernel_rfl
theorem q_impl_turnings_7 (m0 m1 : Nat) (p0 p1 p2 : Int) (p3 : List D_l8Turn) (p4 : Int) (p5 : List D_A3) (p6 p7 p8 : Int) : l_impl_turnings_7 m0 (m1 + 1) p0 p1 p2 p3 p4 p5 p6 p7 p8 =
 bif decide (p8 < 3) then
 l_impl_turnings_10 m0 m1 N p0 p1 p2 p3 p4 p8 p5 p6 p7 p8 p8 0
 else
 l_impl_turnings_17 m0 N p0 p1 p2 p3 p4 p5 p6 p7 0 := by
 rewrite [h_impl_turnings_7, h_impl_turnings_10, h_impl_turnings_17]
 kernel_rfl
theorem q_impl_turnings_10 (m0 m1 m2 : Nat) (p0 p1 p2 : Int) (p3 : List D_l8Turn) (p4 p5 : Int) (p6 : List D_A3) (p7 p8 p9 p10 p11 : Int) : l_impl_turnings_10 m0 m1 (m2 + 1) p0 p1 p2 p3 p4 p5 p6 p7 p8 p9 p10 p11 =
 bif decide (p11 < p10) then
 bif inB p11 3 then
 bif inB p5 3 then
 bif decide ((bif decide (p11 = (0 : Int)) then p0 else (bif decide (p11 = (1 : Int)) then p1 else p2)) > (bif decide (p5 = (0 : Int)) then p0 else (bif decide (p5 = (1 : Int)) then p1 else p2))) then
 l_impl_turnings_10 m0 m1 m2 p0 p1 p2 p3 (IntKind.wrap .i64 (p4 + 1)) p5 p6 p7 p8 p9 p10 (IntKind.wrap .i64 (p11 + 1))
 else
 l_impl_turnings_10 m0 m1 m2 p0 p1 p2 p3 p4 p5 p6 p7 p8 p9 p10 (IntKind.wrap .i64 (p11 + 1))
 else none
 else none
 else
 l_impl_turnings_7 m0 m1 p0 p1 p2 p3 p4 p6 p7 p8 (IntKind.wrap .i64 (p9 + 1)) := by
 rewrite [h_impl_turnings_7, h_impl_turnings_10]
 kernel_rfl
theorem q_impl_turnings_17 (m0 m1 : Nat) (p0 p1 p2 : Int) (p3 : List D_l8Turn) (p4 : Int) (p5 : List D_A3) (p6 p7 p8 : Int) : l_impl_turnings_17 m0 (m1 + 1) p0 p1 p2 p3 p4 p5 p6 p7 p8 =
 bif decide (p8 < 8) then
 bif decide ((Int.tmod (IntKind.wrap .i64 ((IntKind.wrap .i64 ((IntKind.wrap .i64 (p4 + (shrI .i64 p8 2))) + (intBits .and .i64 (shrI .i64 p8 1) 1))) + (intBits .and .i64 p8 1))) 2) = 0) then
 bif (decide (((List.length p3) + (List.length ([((p0, (p1, (p2, ()))), (((shrI .i64 p8 2), ((intBits .and .i64 (shrI .i64 p8 1) 1), ((intBits .and .i64 p8 1), ()))), ()))] : List D_l8Turn))) * 48 ≤ 140737488355328) && decide (((List.length p3) + (List.length ([((p0, (p1, (p2, ()))), (((shrI .i64 p8 2), ((intBits .and .i64 (shrI .i64 p8 1) 1), ((intBits .and .i64 p8 1), ()))), ()))] : List D_l8Turn))) ≤ 140737488355328)) then
 l_impl_turnings_17 m0 m1 p0 p1 p2 (p3 ++ ([((p0, (p1, (p2, ()))), (((shrI .i64 p8 2), ((intBits .and .i64 (shrI .i64 p8 1) 1), ((intBits .and .i64 p8 1), ()))), ()))] : List D_l8Turn)) p4 p5 p6 p7 (IntKind.wrap .i64 (p8 + 1))
 else none
 else
 l_impl_turnings_17 m0 m1 p0 p1 p2 p3 p4 p5 p6 p7 (IntKind.wrap .i64 (p8 + 1))
 else
 l_impl_turnings_3 m0 p3 p5 p6 (IntKind.wrap .i64 (p7 + 1)) := by
 rewrite [h_impl_turnings_3, h_impl_turnings_17]
 kernel_rfl
abbrev As_impl_CropHeap_1 : List ATy := [.data true T_A3, .ptr T_A3]
abbrev R_impl_CropHeap_1 : List (Bool × Ty) := [(true, T_A3)]
abbrev M_impl_CropHeap_1 : List RMode := []
abbrev Ft_impl_CropHeap_1 : Type := D_A3 × D_A3 × Unit → Option (D_A3 × Unit)
def X_impl_CropHeap_1 : Ctx := { types := TT, globals := [], con := [(38, C_impl_added)], keep := [], results := [.cell 3 55], ntmps := 7, n := N }
def B_impl_CropHeap_1 : Code := (Tryz.f82.body).getD .skip
def P_impl_CropHeap_1 : Ft_impl_CropHeap_1 := hid (runF X_impl_CropHeap_1 B_impl_CropHeap_1 As_impl_CropHeap_1 R_impl_CropHeap_1 M_impl_CropHeap_1)
theorem h_impl_CropHeap_1 : P_impl_CropHeap_1 = runF X_impl_CropHeap_1 B_impl_CropHeap_1 As_impl_CropHeap_1 R_impl_CropHeap_1 M_impl_CropHeap_1 := hid_eq _
def C_impl_CropHeap_1 : Contract := ⟨As_impl_CropHeap_1, R_impl_CropHeap_1, M_impl_CropHeap_1, P_impl_CropHeap_1⟩
theorem s_impl_CropHeap_1 : Sound Tryz.prog GG 82 C_impl_CropHeap_1 := by
 unfold C_impl_CropHeap_1; rw [h_impl_CropHeap_1]
 exact mkS Tryz.f82 ⟨s_impl_added, trivial⟩ trivial
theorem p_impl_CropHeap_1 (a0 a1 : D_A3) : P_impl_CropHeap_1 (a0, a1, ()) =
 Option.bind (P_impl_added (a0, a1, ())) fun r0 =>
 some (r0.1, ()) := by
 rewrite [h_impl_CropHeap_1]
 kernel_rfl
abbrev As_impl_CropHeap : List ATy := [.data true T_Heap]
abbrev R_impl_CropHeap : List (Bool × Ty) := [(true, T_Heap), (false, .bool)]
abbrev M_impl_CropHeap : List RMode := [.own 55]
abbrev Ft_impl_CropHeap : Type := D_Heap × Unit → Option (D_Heap × Bool × Unit)
def X_impl_CropHeap : Ctx := { types := TT, globals := [], con := [(38, C_impl_added), (56, C_impl_IsHeap), (81, C_Heap_moved), (82, C_impl_CropHeap_1)], keep := [(5, ⟨[.box 1, .box 2, .box 4, .box 5, .tmp 1, .tmp 2, .tmp 4, .tmp 5, .tmp 29, .tmp 30, .tmp 31], []⟩), (8, ⟨[.box 1, .box 2, .box 4, .box 5, .box 7, .tmp 1, .tmp 2, .tmp 4, .tmp 5, .tmp 7, .tmp 29, .tmp 30, .tmp 31, .tmp 35], []⟩)], results := [.cell 2 29, .tmp 3], ntmps := 76, n := N }
def B_impl_CropHeap : Code := (Tryz.f36.body).getD .skip
def L_impl_CropHeap_5 (m0 : Nat) (p0 p1 p2 : Int) (p3 : List D_A3) (p4 p5 p6 : Int) (p7 : List D_A3) (p8 p9 p10 p11 p12 p13 : Int) (p14 : List D_A3) (p15 p16 : Int) : Option (denL R_impl_CropHeap) := loopF X_impl_CropHeap B_impl_CropHeap R_impl_CropHeap M_impl_CropHeap 5 [m0] [(.ver, .num 1), (.box 1, .box 0 false [.int .i64 p0, .int .i64 p1, .int .i64 p2, .imm T_A3 p3 (some 3)]), (.box 2, .box 0 false [.int .i64 p4, .int .i64 p5, .int .i64 p6, .own 55 T_A3 0 p7]), (.box 4, .box 0 false [.int .i64 p8, .int .i64 p9, .int .i64 p10]), (.box 5, .box 0 false [.int .i64 p11, .int .i64 p12, .int .i64 p13]), (.tmp 1, .val false [.addr 1 0 0]), (.tmp 2, .val false [.addr 2 0 0]), (.tmp 4, .val false [.addr 4 0 0]), (.tmp 5, .val false [.addr 5 0 0]), (.tmp 29, .val false [.imm T_A3 p14 (some 3)]), (.tmp 30, .val false [.int .i64 p15]), (.tmp 31, .val false [.int .i64 p16])]
def L_impl_CropHeap_8 (m0 m1 : Nat) (p0 p1 p2 : Int) (p3 : List D_A3) (p4 p5 p6 : Int) (p7 : List D_A3) (p8 p9 p10 p11 p12 p13 p14 p15 p16 : Int) (p17 : List D_A3) (p18 p19 p20 : Int) : Option (denL R_impl_CropHeap) := loopF X_impl_CropHeap B_impl_CropHeap R_impl_CropHeap M_impl_CropHeap 8 [m0, m1] [(.ver, .num 1), (.box 1, .box 0 false [.int .i64 p0, .int .i64 p1, .int .i64 p2, .imm T_A3 p3 (some 3)]), (.box 2, .box 0 false [.int .i64 p4, .int .i64 p5, .int .i64 p6, .own 55 T_A3 0 p7]), (.box 4, .box 0 false [.int .i64 p8, .int .i64 p9, .int .i64 p10]), (.box 5, .box 0 false [.int .i64 p11, .int .i64 p12, .int .i64 p13]), (.box 7, .box 0 false [.int .i64 p14, .int .i64 p15, .int .i64 p16]), (.tmp 1, .val false [.addr 1 0 0]), (.tmp 2, .val false [.addr 2 0 0]), (.tmp 4, .val false [.addr 4 0 0]), (.tmp 5, .val false [.addr 5 0 0]), (.tmp 7, .val false [.addr 7 0 0]), (.tmp 29, .val false [.imm T_A3 p17 (some 3)]), (.tmp 30, .val false [.int .i64 p18]), (.tmp 31, .val false [.int .i64 p19]), (.tmp 35, .val false [.int .i64 p20])]
def P_impl_CropHeap : Ft_impl_CropHeap := hid (runF X_impl_CropHeap B_impl_CropHeap As_impl_CropHeap R_impl_CropHeap M_impl_CropHeap)
theorem h_impl_CropHeap : P_impl_CropHeap = runF X_impl_CropHeap B_impl_CropHeap As_impl_CropHeap R_impl_CropHeap M_impl_CropHeap := hid_eq _
def C_impl_CropHeap : Contract := ⟨As_impl_CropHeap, R_impl_CropHeap, M_impl_CropHeap, P_impl_CropHeap⟩
theorem s_impl_CropHeap : Sound Tryz.prog GG 36 C_impl_CropHeap := by
 unfold C_impl_CropHeap; rw [h_impl_CropHeap]
 exact mkS Tryz.f36 ⟨s_impl_added, s_impl_IsHeap, s_Heap_moved, s_impl_CropHeap_1, trivial⟩ trivial
def l_impl_CropHeap_5 := hid (L_impl_CropHeap_5)
theorem h_impl_CropHeap_5 : l_impl_CropHeap_5 = L_impl_CropHeap_5 := hid_eq _
def l_impl_CropHeap_8 := hid (L_impl_CropHeap_8)
theorem h_impl_CropHeap_8 : l_impl_CropHeap_8 = L_impl_CropHeap_8 := hid_eq _
theorem p_impl_CropHeap (a0 : D_Heap) : P_impl_CropHeap (a0, ()) =
 Option.bind (P_impl_IsHeap (a0, ())) fun r0 =>
 bif !r0.1 then
 some ((0, (0, (0, (([] : List D_A3), ())))), false, ())
 else
 bif decide ((List.length a0.2.2.2.1 : Int) = 0) then
 some ((0, (0, (0, (([] : List D_A3), ())))), false, ())
 else
 bif inB 0 (List.length a0.2.2.2.1) then
 bif inB 0 (List.length a0.2.2.2.1) then
 l_impl_CropHeap_5 N a0.1 a0.2.1 a0.2.2.1 a0.2.2.2.1 0 0 0 ([] : List D_A3) (((nth T_A3 a0.2.2.2.1 0)).1) ((((nth T_A3 a0.2.2.2.1 0)).2).1) (((((nth T_A3 a0.2.2.2.1 0)).2).2).1) (((nth T_A3 a0.2.2.2.1 0)).1) ((((nth T_A3 a0.2.2.2.1 0)).2).1) (((((nth T_A3 a0.2.2.2.1 0)).2).2).1) a0.2.2.2.1 (List.length a0.2.2.2.1 : Int) 0
 else none
 else none := by
 rewrite [h_impl_CropHeap, h_impl_CropHeap_5]
 kernel_rfl
theorem q_impl_CropHeap_5 (m0 : Nat) (p0 p1 p2 : Int) (p3 : List D_A3) (p4 p5 p6 : Int) (p7 : List D_A3) (p8 p9 p10 p11 p12 p13 : Int) (p14 : List D_A3) (p15 p16 : Int) : l_impl_CropHeap_5 (m0 + 1) p0 p1 p2 p3 p4 p5 p6 p7 p8 p9 p10 p11 p12 p13 p14 p15 p16 =
 bif decide (p16 < p15) then
 bif inB p16 (List.length p14) then
 l_impl_CropHeap_8 m0 N p0 p1 p2 p3 p4 p5 p6 p7 p8 p9 p10 p11 p12 p13 (((nth T_A3 p14 p16)).1) ((((nth T_A3 p14 p16)).2).1) (((((nth T_A3 p14 p16)).2).2).1) p14 p15 p16 0
 else none
 else
 Option.bind (P_impl_added ((p11, (p12, (p13, ()))), ((IntKind.wrap .i64 (0 - p8)), ((IntKind.wrap .i64 (0 - p9)), ((IntKind.wrap .i64 (0 - p10)), ()))), ())) fun r1 =>
 Option.bind (P_impl_added (r1.1, (1, (1, (1, ()))), ())) fun r2 =>
 Option.bind (P_Heap_moved ((p0, (p1, (p2, (p3, ())))), r2.1, (fun (y : D_A3 × Unit) => P_impl_CropHeap_1 (y.1, ((IntKind.wrap .i64 (0 - p8)), ((IntKind.wrap .i64 (0 - p9)), ((IntKind.wrap .i64 (0 - p10)), ()))), ())), ())) fun r3 =>
 some (r3.1, true, ()) := by
 rewrite [h_impl_CropHeap_5, h_impl_CropHeap_8]
 kernel_rfl
theorem q_impl_CropHeap_8 (m0 m1 : Nat) (p0 p1 p2 : Int) (p3 : List D_A3) (p4 p5 p6 : Int) (p7 : List D_A3) (p8 p9 p10 p11 p12 p13 p14 p15 p16 : Int) (p17 : List D_A3) (p18 p19 p20 : Int) : l_impl_CropHeap_8 m0 (m1 + 1) p0 p1 p2 p3 p4 p5 p6 p7 p8 p9 p10 p11 p12 p13 p14 p15 p16 p17 p18 p19 p20 =
 bif decide (p20 < 3) then
 bif inB p20 3 then
 bif inB p20 3 then
 bif inB p20 3 then
 bif inB p20 3 then
 bif inB p20 3 then
 bif inB p20 3 then
 l_impl_CropHeap_8 m0 m1 p0 p1 p2 p3 p4 p5 p6 p7 (bif decide (p20 = (0 : Int)) then (bif decide ((bif decide (p20 = (0 : Int)) then p14 else (bif decide (p20 = (1 : Int)) then p15 else p16)) < (bif decide (p20 = (0 : Int)) then p8 else (bif decide (p20 = (1 : Int)) then p9 else p10))) then (bif decide (p20 = (0 : Int)) then p14 else (bif decide (p20 = (1 : Int)) then p15 else p16)) else (bif decide (p20 = (0 : Int)) then p8 else (bif decide (p20 = (1 : Int)) then p9 else p10))) else p8) (bif decide (p20 = (1 : Int)) then (bif decide ((bif decide (p20 = (0 : Int)) then p14 else (bif decide (p20 = (1 : Int)) then p15 else p16)) < (bif decide (p20 = (0 : Int)) then p8 else (bif decide (p20 = (1 : Int)) then p9 else p10))) then (bif decide (p20 = (0 : Int)) then p14 else (bif decide (p20 = (1 : Int)) then p15 else p16)) else (bif decide (p20 = (0 : Int)) then p8 else (bif decide (p20 = (1 : Int)) then p9 else p10))) else p9) (bif decide (p20 = (2 : Int)) then (bif decide ((bif decide (p20 = (0 : Int)) then p14 else (bif decide (p20 = (1 : Int)) then p15 else p16)) < (bif decide (p20 = (0 : Int)) then p8 else (bif decide (p20 = (1 : Int)) then p9 else p10))) then (bif decide (p20 = (0 : Int)) then p14 else (bif decide (p20 = (1 : Int)) then p15 else p16)) else (bif decide (p20 = (0 : Int)) then p8 else (bif decide (p20 = (1 : Int)) then p9 else p10))) else p10) (bif decide (p20 = (0 : Int)) then (bif decide ((bif decide (p20 = (0 : Int)) then p14 else (bif decide (p20 = (1 : Int)) then p15 else p16)) > (bif decide (p20 = (0 : Int)) then p11 else (bif decide (p20 = (1 : Int)) then p12 else p13))) then (bif decide (p20 = (0 : Int)) then p14 else (bif decide (p20 = (1 : Int)) then p15 else p16)) else (bif decide (p20 = (0 : Int)) then p11 else (bif decide (p20 = (1 : Int)) then p12 else p13))) else p11) (bif decide (p20 = (1 : Int)) then (bif decide ((bif decide (p20 = (0 : Int)) then p14 else (bif decide (p20 = (1 : Int)) then p15 else p16)) > (bif decide (p20 = (0 : Int)) then p11 else (bif decide (p20 = (1 : Int)) then p12 else p13))) then (bif decide (p20 = (0 : Int)) then p14 else (bif decide (p20 = (1 : Int)) then p15 else p16)) else (bif decide (p20 = (0 : Int)) then p11 else (bif decide (p20 = (1 : Int)) then p12 else p13))) else p12) (bif decide (p20 = (2 : Int)) then (bif decide ((bif decide (p20 = (0 : Int)) then p14 else (bif decide (p20 = (1 : Int)) then p15 else p16)) > (bif decide (p20 = (0 : Int)) then p11 else (bif decide (p20 = (1 : Int)) then p12 else p13))) then (bif decide (p20 = (0 : Int)) then p14 else (bif decide (p20 = (1 : Int)) then p15 else p16)) else (bif decide (p20 = (0 : Int)) then p11 else (bif decide (p20 = (1 : Int)) then p12 else p13))) else p13) p14 p15 p16 p17 p18 p19 (IntKind.wrap .i64 (p20 + 1))
 else none
 else none
 else none
 else none
 else none
 else none
 else
 l_impl_CropHeap_5 m0 p0 p1 p2 p3 p4 p5 p6 p7 p8 p9 p10 p11 p12 p13 p17 p18 (IntKind.wrap .i64 (p19 + 1)) := by
 rewrite [h_impl_CropHeap_5, h_impl_CropHeap_8]
 kernel_rfl
abbrev As_turning_of_1 : List ATy := [.data true T_A3, .ptr T_l8Turn, .ptr T_A3]
abbrev R_turning_of_1 : List (Bool × Ty) := [(true, T_A3)]
abbrev M_turning_of_1 : List RMode := []
abbrev Ft_turning_of_1 : Type := D_A3 × D_l8Turn × D_A3 × Unit → Option (D_A3 × Unit)
def X_turning_of_1 : Ctx := { types := TT, globals := [], con := [], keep := [(3, ⟨[.box 3, .box 4, .box 5, .tmp 1, .tmp 2, .tmp 3, .tmp 4, .tmp 5, .tmp 10, .tmp 11], []⟩)], results := [.cell 4 55], ntmps := 37, n := N }
def B_turning_of_1 : Code := (Tryz.f114.body).getD .skip
def L_turning_of_1_3 (m0 : Nat) (p0 p1 p2 p3 p4 p5 p6 p7 p8 : Int) (p9 : D_l8Turn) (p10 : D_A3) (p11 p12 p13 p14 : Int) : Option (denL R_turning_of_1) := loopF X_turning_of_1 B_turning_of_1 R_turning_of_1 M_turning_of_1 3 [m0] [(.ver, .num 1), (.box 3, .box 0 false [.int .i64 p0, .int .i64 p1, .int .i64 p2]), (.box 4, .box 0 false [.int .i64 p3, .int .i64 p4, .int .i64 p5]), (.box 5, .box 0 false [.int .i64 p6, .int .i64 p7, .int .i64 p8]), (.tmp 1, .val false [.iptr T_l8Turn p9 0]), (.tmp 2, .val false [.iptr T_A3 p10 0]), (.tmp 3, .val false [.addr 3 0 0]), (.tmp 4, .val false [.addr 4 0 0]), (.tmp 5, .val false [.addr 5 0 0]), (.tmp 10, .val true [.int .i64 p11, .int .i64 p12, .int .i64 p13]), (.tmp 11, .val false [.int .i64 p14])]
def P_turning_of_1 : Ft_turning_of_1 := hid (runF X_turning_of_1 B_turning_of_1 As_turning_of_1 R_turning_of_1 M_turning_of_1)
theorem h_turning_of_1 : P_turning_of_1 = runF X_turning_of_1 B_turning_of_1 As_turning_of_1 R_turning_of_1 M_turning_of_1 := hid_eq _
def C_turning_of_1 : Contract := ⟨As_turning_of_1, R_turning_of_1, M_turning_of_1, P_turning_of_1⟩
theorem s_turning_of_1 : Sound Tryz.prog GG 114 C_turning_of_1 := by
 unfold C_turning_of_1; rw [h_turning_of_1]
 exact mkS Tryz.f114 trivial trivial
def l_turning_of_1_3 := hid (L_turning_of_1_3)
theorem h_turning_of_1_3 : l_turning_of_1_3 = L_turning_of_1_3 := hid_eq _
theorem p_turning_of_1 (a0 : D_A3) (a1 : D_l8Turn) (a2 : D_A3) : P_turning_of_1 (a0, a1, a2, ()) =
 l_turning_of_1_3 N a0.1 a0.2.1 a0.2.2.1 0 0 0 0 0 0 a1 a2 a1.1.1 a1.1.2.1 a1.1.2.2.1 0 := by
 rewrite [h_turning_of_1, h_turning_of_1_3]
 kernel_rfl
theorem q_turning_of_1_3 (m0 : Nat) (p0 p1 p2 p3 p4 p5 p6 p7 p8 : Int) (p9 : D_l8Turn) (p10 : D_A3) (p11 p12 p13 p14 : Int) : l_turning_of_1_3 (m0 + 1) p0 p1 p2 p3 p4 p5 p6 p7 p8 p9 p10 p11 p12 p13 p14 =
 bif decide (p14 < 3) then
 bif inB p14 3 then
 bif inB (bif decide (p14 = (0 : Int)) then p11 else (bif decide (p14 = (1 : Int)) then p12 else p13)) 3 then
 bif inB p14 3 then
 bif inB p14 3 then
 bif decide ((bif decide (p14 = (0 : Int)) then p9.2.1.1 else (bif decide (p14 = (1 : Int)) then p9.2.1.2.1 else p9.2.1.2.2.1)) = 1) then
 bif inB p14 3 then
 bif inB (bif decide (p14 = (0 : Int)) then p11 else (bif decide (p14 = (1 : Int)) then p12 else p13)) 3 then
 bif inB p14 3 then
 l_turning_of_1_3 m0 p0 p1 p2 p3 p4 p5 (bif decide (p14 = (0 : Int)) then (IntKind.wrap .i64 ((IntKind.wrap .i64 ((bif decide (p14 = (0 : Int)) then p10.1 else (bif decide (p14 = (1 : Int)) then p10.2.1 else p10.2.2.1)) - 1)) - (bif decide ((bif decide (p14 = (0 : Int)) then p11 else (bif decide (p14 = (1 : Int)) then p12 else p13)) = (0 : Int)) then p0 else (bif decide ((bif decide (p14 = (0 : Int)) then p11 else (bif decide (p14 = (1 : Int)) then p12 else p13)) = (1 : Int)) then p1 else p2)))) else (bif decide (p14 = (0 : Int)) then (bif decide ((bif decide (p14 = (0 : Int)) then p11 else (bif decide (p14 = (1 : Int)) then p12 else p13)) = (0 : Int)) then p0 else (bif decide ((bif decide (p14 = (0 : Int)) then p11 else (bif decide (p14 = (1 : Int)) then p12 else p13)) = (1 : Int)) then p1 else p2)) else p6)) (bif decide (p14 = (1 : Int)) then (IntKind.wrap .i64 ((IntKind.wrap .i64 ((bif decide (p14 = (0 : Int)) then p10.1 else (bif decide (p14 = (1 : Int)) then p10.2.1 else p10.2.2.1)) - 1)) - (bif decide ((bif decide (p14 = (0 : Int)) then p11 else (bif decide (p14 = (1 : Int)) then p12 else p13)) = (0 : Int)) then p0 else (bif decide ((bif decide (p14 = (0 : Int)) then p11 else (bif decide (p14 = (1 : Int)) then p12 else p13)) = (1 : Int)) then p1 else p2)))) else (bif decide (p14 = (1 : Int)) then (bif decide ((bif decide (p14 = (0 : Int)) then p11 else (bif decide (p14 = (1 : Int)) then p12 else p13)) = (0 : Int)) then p0 else (bif decide ((bif decide (p14 = (0 : Int)) then p11 else (bif decide (p14 = (1 : Int)) then p12 else p13)) = (1 : Int)) then p1 else p2)) else p7)) (bif decide (p14 = (2 : Int)) then (IntKind.wrap .i64 ((IntKind.wrap .i64 ((bif decide (p14 = (0 : Int)) then p10.1 else (bif decide (p14 = (1 : Int)) then p10.2.1 else p10.2.2.1)) - 1)) - (bif decide ((bif decide (p14 = (0 : Int)) then p11 else (bif decide (p14 = (1 : Int)) then p12 else p13)) = (0 : Int)) then p0 else (bif decide ((bif decide (p14 = (0 : Int)) then p11 else (bif decide (p14 = (1 : Int)) then p12 else p13)) = (1 : Int)) then p1 else p2)))) else (bif decide (p14 = (2 : Int)) then (bif decide ((bif decide (p14 = (0 : Int)) then p11 else (bif decide (p14 = (1 : Int)) then p12 else p13)) = (0 : Int)) then p0 else (bif decide ((bif decide (p14 = (0 : Int)) then p11 else (bif decide (p14 = (1 : Int)) then p12 else p13)) = (1 : Int)) then p1 else p2)) else p8)) p9 p10 p11 p12 p13 (IntKind.wrap .i64 (p14 + 1))
 else none
 else none
 else none
 else
 l_turning_of_1_3 m0 p0 p1 p2 p3 p4 p5 (bif decide (p14 = (0 : Int)) then (bif decide ((bif decide (p14 = (0 : Int)) then p11 else (bif decide (p14 = (1 : Int)) then p12 else p13)) = (0 : Int)) then p0 else (bif decide ((bif decide (p14 = (0 : Int)) then p11 else (bif decide (p14 = (1 : Int)) then p12 else p13)) = (1 : Int)) then p1 else p2)) else p6) (bif decide (p14 = (1 : Int)) then (bif decide ((bif decide (p14 = (0 : Int)) then p11 else (bif decide (p14 = (1 : Int)) then p12 else p13)) = (0 : Int)) then p0 else (bif decide ((bif decide (p14 = (0 : Int)) then p11 else (bif decide (p14 = (1 : Int)) then p12 else p13)) = (1 : Int)) then p1 else p2)) else p7) (bif decide (p14 = (2 : Int)) then (bif decide ((bif decide (p14 = (0 : Int)) then p11 else (bif decide (p14 = (1 : Int)) then p12 else p13)) = (0 : Int)) then p0 else (bif decide ((bif decide (p14 = (0 : Int)) then p11 else (bif decide (p14 = (1 : Int)) then p12 else p13)) = (1 : Int)) then p1 else p2)) else p8) p9 p10 p11 p12 p13 (IntKind.wrap .i64 (p14 + 1))
 else none
 else none
 else none
 else none
 else
 some ((p6, (p7, (p8, ()))), ()) := by
 rewrite [h_turning_of_1_3]
 kernel_rfl
abbrev As_turning_of : List ATy := [.data true T_l8Turn, .data true T_Heap]
abbrev R_turning_of : List (Bool × Ty) := [(true, T_Heap)]
abbrev M_turning_of : List RMode := [.own 55]
abbrev Ft_turning_of : Type := D_l8Turn × D_Heap × Unit → Option (D_Heap × Unit)
def X_turning_of : Ctx := { types := TT, globals := [], con := [(57, C_Heap_box), (81, C_Heap_moved), (114, C_turning_of_1)], keep := [], results := [.cell 4 29], ntmps := 29, n := N }
def B_turning_of : Code := (Tryz.f84.body).getD .skip
def P_turning_of : Ft_turning_of := hid (runF X_turning_of B_turning_of As_turning_of R_turning_of M_turning_of)
theorem h_turning_of : P_turning_of = runF X_turning_of B_turning_of As_turning_of R_turning_of M_turning_of := hid_eq _
def C_turning_of : Contract := ⟨As_turning_of, R_turning_of, M_turning_of, P_turning_of⟩
theorem s_turning_of : Sound Tryz.prog GG 84 C_turning_of := by
 unfold C_turning_of; rw [h_turning_of]
 exact mkS Tryz.f84 ⟨s_Heap_box, s_Heap_moved, s_turning_of_1, trivial⟩ trivial
theorem p_turning_of (a0 : D_l8Turn) (a1 : D_Heap) : P_turning_of (a0, a1, ()) =
 Option.bind (P_Heap_box (a1, ())) fun r0 =>
 bif inB a0.1.1 3 then
 bif inB a0.1.2.1 3 then
 bif inB a0.1.2.2.1 3 then
 Option.bind (P_Heap_moved (a1, ((bif decide (a0.1.1 = (0 : Int)) then r0.1.1 else (bif decide (a0.1.1 = (1 : Int)) then r0.1.2.1 else r0.1.2.2.1)), ((bif decide (a0.1.2.1 = (0 : Int)) then r0.1.1 else (bif decide (a0.1.2.1 = (1 : Int)) then r0.1.2.1 else r0.1.2.2.1)), ((bif decide (a0.1.2.2.1 = (0 : Int)) then r0.1.1 else (bif decide (a0.1.2.2.1 = (1 : Int)) then r0.1.2.1 else r0.1.2.2.1)), ()))), (fun (y : D_A3 × Unit) => P_turning_of_1 (y.1, a0, ((bif decide (a0.1.1 = (0 : Int)) then r0.1.1 else (bif decide (a0.1.1 = (1 : Int)) then r0.1.2.1 else r0.1.2.2.1)), ((bif decide (a0.1.2.1 = (0 : Int)) then r0.1.1 else (bif decide (a0.1.2.1 = (1 : Int)) then r0.1.2.1 else r0.1.2.2.1)), ((bif decide (a0.1.2.2.1 = (0 : Int)) then r0.1.1 else (bif decide (a0.1.2.2.1 = (1 : Int)) then r0.1.2.1 else r0.1.2.2.1)), ()))), ())), ())) fun r4 =>
 some (r4.1, ())
 else none
 else none
 else none := by
 rewrite [h_turning_of]
 kernel_rfl
abbrev As_box_near : List ATy := [.data true T_A3, .data true T_A3]
abbrev R_box_near : List (Bool × Ty) := [(false, (.int .u64))]
abbrev M_box_near : List RMode := []
abbrev Ft_box_near : Type := D_A3 × D_A3 × Unit → Option (Int × Unit)
def X_box_near : Ctx := { types := TT, globals := [], con := [(86, C_box_index), (102, C_box_has)], keep := [(3, ⟨[.box 2, .box 3, .tmp 2, .tmp 3, .tmp 5, .tmp 10], []⟩), (6, ⟨[.box 2, .box 3, .tmp 2, .tmp 3, .tmp 5, .tmp 6, .tmp 10, .tmp 13, .tmp 14], []⟩)], results := [.tmp 4], ntmps := 36, n := N }
def B_box_near : Code := (Tryz.f125.body).getD .skip
def L_box_near_3 (m0 : Nat) (p0 p1 p2 p3 p4 p5 p6 p7 : Int) : Option (denL R_box_near) := loopF X_box_near B_box_near R_box_near M_box_near 3 [m0] [(.ver, .num 1), (.box 2, .box 0 false [.int .i64 p0, .int .i64 p1, .int .i64 p2]), (.box 3, .box 0 false [.int .i64 p3, .int .i64 p4, .int .i64 p5]), (.tmp 2, .val false [.addr 2 0 0]), (.tmp 3, .val false [.addr 3 0 0]), (.tmp 5, .val false [.int .u64 p6]), (.tmp 10, .val false [.int .i64 p7])]
def L_box_near_6 (m0 m1 : Nat) (p0 p1 p2 p3 p4 p5 p6 p7 p8 p9 p10 p11 : Int) : Option (denL R_box_near) := loopF X_box_near B_box_near R_box_near M_box_near 6 [m0, m1] [(.ver, .num 1), (.box 2, .box 0 false [.int .i64 p0, .int .i64 p1, .int .i64 p2]), (.box 3, .box 0 false [.int .i64 p3, .int .i64 p4, .int .i64 p5]), (.tmp 2, .val false [.addr 2 0 0]), (.tmp 3, .val false [.addr 3 0 0]), (.tmp 5, .val false [.int .u64 p6]), (.tmp 6, .val false [.int .i64 p7]), (.tmp 10, .val false [.int .i64 p8]), (.tmp 13, .val true [.int .i64 p9, .int .i64 p10]), (.tmp 14, .val false [.int .i64 p11])]
def P_box_near : Ft_box_near := hid (runF X_box_near B_box_near As_box_near R_box_near M_box_near)
theorem h_box_near : P_box_near = runF X_box_near B_box_near As_box_near R_box_near M_box_near := hid_eq _
def C_box_near : Contract := ⟨As_box_near, R_box_near, M_box_near, P_box_near⟩
theorem s_box_near : Sound Tryz.prog GG 125 C_box_near := by
 unfold C_box_near; rw [h_box_near]
 exact mkS Tryz.f125 ⟨s_box_index, s_box_has, trivial⟩ trivial
def l_box_near_3 := hid (L_box_near_3)
theorem h_box_near_3 : l_box_near_3 = L_box_near_3 := hid_eq _
def l_box_near_6 := hid (L_box_near_6)
theorem h_box_near_6 : l_box_near_6 = L_box_near_6 := hid_eq _
theorem p_box_near (a0 a1 : D_A3) : P_box_near (a0, a1, ()) =
 l_box_near_3 N a0.1 a0.2.1 a0.2.2.1 a1.1 a1.2.1 a1.2.2.1 0 0 := by
 rewrite [h_box_near, h_box_near_3]
 kernel_rfl
theorem q_box_near_3 (m0 : Nat) (p0 p1 p2 p3 p4 p5 p6 p7 : Int) : l_box_near_3 (m0 + 1) p0 p1 p2 p3 p4 p5 p6 p7 =
 bif decide (p7 < 3) then
 l_box_near_6 m0 N p0 p1 p2 p3 p4 p5 p6 p7 p7 (-1) 1 0
 else
 some (p6, ()) := by
 rewrite [h_box_near_3, h_box_near_6]
 kernel_rfl
theorem q_box_near_6 (m0 m1 : Nat) (p0 p1 p2 p3 p4 p5 p6 p7 p8 p9 p10 p11 : Int) : l_box_near_6 m0 (m1 + 1) p0 p1 p2 p3 p4 p5 p6 p7 p8 p9 p10 p11 =
 bif decide (p11 < 2) then
 bif inB p11 2 then
 bif inB p7 3 then
 bif inB p7 3 then
 Option.bind (P_box_has ((p0, (p1, (p2, ()))), ((bif decide (p7 = (0 : Int)) then (IntKind.wrap .i64 ((bif decide (p7 = (0 : Int)) then p3 else (bif decide (p7 = (1 : Int)) then p4 else p5)) + (bif decide (p11 = (0 : Int)) then p9 else p10))) else p3), ((bif decide (p7 = (1 : Int)) then (IntKind.wrap .i64 ((bif decide (p7 = (0 : Int)) then p3 else (bif decide (p7 = (1 : Int)) then p4 else p5)) + (bif decide (p11 = (0 : Int)) then p9 else p10))) else p4), ((bif decide (p7 = (2 : Int)) then (IntKind.wrap .i64 ((bif decide (p7 = (0 : Int)) then p3 else (bif decide (p7 = (1 : Int)) then p4 else p5)) + (bif decide (p11 = (0 : Int)) then p9 else p10))) else p5), ()))), ())) fun r4 =>
 bif r4.1 then
 Option.bind (P_box_index ((p0, (p1, (p2, ()))), ((bif decide (p7 = (0 : Int)) then (IntKind.wrap .i64 ((bif decide (p7 = (0 : Int)) then p3 else (bif decide (p7 = (1 : Int)) then p4 else p5)) + (bif decide (p11 = (0 : Int)) then p9 else p10))) else p3), ((bif decide (p7 = (1 : Int)) then (IntKind.wrap .i64 ((bif decide (p7 = (0 : Int)) then p3 else (bif decide (p7 = (1 : Int)) then p4 else p5)) + (bif decide (p11 = (0 : Int)) then p9 else p10))) else p4), ((bif decide (p7 = (2 : Int)) then (IntKind.wrap .i64 ((bif decide (p7 = (0 : Int)) then p3 else (bif decide (p7 = (1 : Int)) then p4 else p5)) + (bif decide (p11 = (0 : Int)) then p9 else p10))) else p5), ()))), ())) fun r6 =>
 bif decide ((0 : Int) ≤ r6.1) then
 l_box_near_6 m0 m1 p0 p1 p2 p3 p4 p5 (intBits .or .u64 p6 (shlI .u64 1 r6.1)) p7 p8 p9 p10 (IntKind.wrap .i64 (p11 + 1))
 else none
 else
 l_box_near_6 m0 m1 p0 p1 p2 p3 p4 p5 p6 p7 p8 p9 p10 (IntKind.wrap .i64 (p11 + 1))
 else none
 else none
 else none
 else
 l_box_near_3 m0 p0 p1 p2 p3 p4 p5 p6 (IntKind.wrap .i64 (p8 + 1)) := by
 rewrite [h_box_near_3, h_box_near_6]
 kernel_rfl
abbrev As_box_grown : List ATy := [.data true T_A3, .data false (.int .u64), .data false (.int .u64)]
abbrev R_box_grown : List (Bool × Ty) := [(false, (.int .u64))]
abbrev M_box_grown : List RMode := []
abbrev Ft_box_grown : Type := D_A3 × Int × Int × Unit → Option (Int × Unit)
def X_box_grown : Ctx := { types := TT, globals := [], con := [(105, C_box_size), (106, C_set_has), (107, C_box_cell), (125, C_box_near)], keep := [(1, ⟨[.box 3, .tmp 1, .tmp 2, .tmp 3], []⟩), (3, ⟨[.box 3, .tmp 1, .tmp 2, .tmp 3, .tmp 7, .tmp 11, .tmp 12], []⟩)], results := [.tmp 6], ntmps := 33, n := N }
def B_box_grown : Code := (Tryz.f104.body).getD .skip
def L_box_grown_1 (m0 : Nat) (p0 p1 p2 p3 p4 : Int) : Option (denL R_box_grown) := loopF X_box_grown B_box_grown R_box_grown M_box_grown 1 [m0] [(.ver, .num 1), (.box 3, .box 0 false [.int .i64 p0, .int .i64 p1, .int .i64 p2]), (.tmp 1, .val false [.int .u64 p3]), (.tmp 2, .val false [.int .u64 p4]), (.tmp 3, .val false [.addr 3 0 0])]
def L_box_grown_3 (m0 m1 : Nat) (p0 p1 p2 p3 p4 p5 p6 p7 : Int) : Option (denL R_box_grown) := loopF X_box_grown B_box_grown R_box_grown M_box_grown 3 [m0, m1] [(.ver, .num 1), (.box 3, .box 0 false [.int .i64 p0, .int .i64 p1, .int .i64 p2]), (.tmp 1, .val false [.int .u64 p3]), (.tmp 2, .val false [.int .u64 p4]), (.tmp 3, .val false [.addr 3 0 0]), (.tmp 7, .val false [.int .u64 p5]), (.tmp 11, .val false [.int .i64 p6]), (.tmp 12, .val false [.int .i64 p7])]
def P_box_grown : Ft_box_grown := hid (runF X_box_grown B_box_grown As_box_grown R_box_grown M_box_grown)
theorem h_box_grown : P_box_grown = runF X_box_grown B_box_grown As_box_grown R_box_grown M_box_grown := hid_eq _
def C_box_grown : Contract := ⟨As_box_grown, R_box_grown, M_box_grown, P_box_grown⟩
theorem s_box_grown : Sound Tryz.prog GG 104 C_box_grown := by
 unfold C_box_grown; rw [h_box_grown]
 exact mkS Tryz.f104 ⟨s_box_size, s_set_has, s_box_cell, s_box_near, trivial⟩ trivial
def l_box_grown_1 := hid (L_box_grown_1)
theorem h_box_grown_1 : l_box_grown_1 = L_box_grown_1 := hid_eq _
def l_box_grown_3 := hid (L_box_grown_3)
theorem h_box_grown_3 : l_box_grown_3 = L_box_grown_3 := hid_eq _
theorem p_box_grown (a0 : D_A3) (a1 a2 : Int) : P_box_grown (a0, a1, a2, ()) =
 l_box_grown_1 N a0.1 a0.2.1 a0.2.2.1 a1 a2 := by
 rewrite [h_box_grown, h_box_grown_1]
 kernel_rfl
theorem q_box_grown_1 (m0 : Nat) (p0 p1 p2 p3 p4 : Int) : l_box_grown_1 (m0 + 1) p0 p1 p2 p3 p4 =
 Option.bind (P_box_size ((p0, (p1, (p2, ()))), ())) fun r0 =>
 l_box_grown_3 m0 N p0 p1 p2 p3 p4 p3 r0.1 0 := by
 rewrite [h_box_grown_1, h_box_grown_3]
 kernel_rfl
theorem q_box_grown_3 (m0 m1 : Nat) (p0 p1 p2 p3 p4 p5 p6 p7 : Int) : l_box_grown_3 m0 (m1 + 1) p0 p1 p2 p3 p4 p5 p6 p7 =
 bif decide (p7 < p6) then
 Option.bind (P_set_has (p3, p7, ())) fun r1 =>
 bif r1.1 then
 Option.bind (P_box_cell ((p0, (p1, (p2, ()))), p7, ())) fun r3 =>
 Option.bind (P_box_near ((p0, (p1, (p2, ()))), r3.1, ())) fun r4 =>
 l_box_grown_3 m0 m1 p0 p1 p2 p3 p4 (intBits .or .u64 p5 (intBits .and .u64 r4.1 p4)) p6 (IntKind.wrap .i64 (p7 + 1))
 else
 l_box_grown_3 m0 m1 p0 p1 p2 p3 p4 p5 p6 (IntKind.wrap .i64 (p7 + 1))
 else
 bif decide (p5 = p3) then
 some (p3, ())
 else
 l_box_grown_1 m0 p0 p1 p2 p5 p4 := by
 rewrite [h_box_grown_1, h_box_grown_3]
 kernel_rfl
abbrev As_box_parts : List ATy := [.data true T_A3, .data false (.int .u64)]
abbrev R_box_parts : List (Bool × Ty) := [(false, (.sl (.int .u64)))]
abbrev M_box_parts : List RMode := [.own 84]
abbrev Ft_box_parts : Type := D_A3 × Int × Unit → Option ((List Int) × Unit)
def X_box_parts : Ctx := { types := TT, globals := [], con := [(104, C_box_grown)], keep := [(2, ⟨[.box 2, .tmp 1, .tmp 2, .tmp 5], []⟩)], results := [.tmp 4], ntmps := 25, n := N }
def B_box_parts : Code := (Tryz.f58.body).getD .skip
def L_box_parts_2 (m0 : Nat) (p0 p1 p2 p3 : Int) (p4 : List Int) : Option (denL R_box_parts) := loopF X_box_parts B_box_parts R_box_parts M_box_parts 2 [m0] [(.ver, .num 1), (.box 2, .box 0 false [.int .i64 p0, .int .i64 p1, .int .i64 p2]), (.tmp 1, .val false [.int .u64 p3]), (.tmp 2, .val false [.addr 2 0 0]), (.tmp 5, .val false [.own 84 (.int .u64) 0 p4])]
def P_box_parts : Ft_box_parts := hid (runF X_box_parts B_box_parts As_box_parts R_box_parts M_box_parts)
theorem h_box_parts : P_box_parts = runF X_box_parts B_box_parts As_box_parts R_box_parts M_box_parts := hid_eq _
def C_box_parts : Contract := ⟨As_box_parts, R_box_parts, M_box_parts, P_box_parts⟩
theorem s_box_parts : Sound Tryz.prog GG 58 C_box_parts := by
 unfold C_box_parts; rw [h_box_parts]
 exact mkS Tryz.f58 ⟨s_box_grown, trivial⟩ trivial
def l_box_parts_2 := hid (L_box_parts_2)
theorem h_box_parts_2 : l_box_parts_2 = L_box_parts_2 := hid_eq _
theorem p_box_parts (a0 : D_A3) (a1 : Int) : P_box_parts (a0, a1, ()) =
 l_box_parts_2 N a0.1 a0.2.1 a0.2.2.1 a1 ([] : List Int) := by
 rewrite [h_box_parts, h_box_parts_2]
 kernel_rfl
theorem q_box_parts_2 (m0 : Nat) (p0 p1 p2 p3 : Int) (p4 : List Int) : l_box_parts_2 (m0 + 1) p0 p1 p2 p3 p4 =
 bif !decide (p3 = 0) then
 Option.bind (P_box_grown ((p0, (p1, (p2, ()))), (intBits .and .u64 p3 (IntKind.wrap .u64 (0 - p3))), p3, ())) fun r1 =>
 bif (decide (((List.length p4) + (List.length ([r1.1] : List Int))) * 8 ≤ 140737488355328) && decide (((List.length p4) + (List.length ([r1.1] : List Int))) ≤ 140737488355328)) then
 l_box_parts_2 m0 p0 p1 p2 (intBits .andNot .u64 p3 r1.1) (p4 ++ ([r1.1] : List Int))
 else none
 else
 some (p4, ()) := by
 rewrite [h_box_parts_2]
 kernel_rfl
abbrev As_Heap_cubes : List ATy := [.data true T_Heap]
abbrev R_Heap_cubes : List (Bool × Ty) := [(false, (.int .u64))]
abbrev M_Heap_cubes : List RMode := []
abbrev Ft_Heap_cubes : Type := D_Heap × Unit → Option (Int × Unit)
def X_Heap_cubes : Ctx := { types := TT, globals := [], con := [(57, C_Heap_box), (86, C_box_index)], keep := [(3, ⟨[.box 1, .tmp 1, .tmp 3, .tmp 7, .tmp 8, .tmp 9], []⟩)], results := [.tmp 2], ntmps := 22, n := N }
def B_Heap_cubes : Code := (Tryz.f59.body).getD .skip
def L_Heap_cubes_3 (m0 : Nat) (p0 p1 p2 : Int) (p3 : List D_A3) (p4 : Int) (p5 : List D_A3) (p6 p7 : Int) : Option (denL R_Heap_cubes) := loopF X_Heap_cubes B_Heap_cubes R_Heap_cubes M_Heap_cubes 3 [m0] [(.ver, .num 1), (.box 1, .box 0 false [.int .i64 p0, .int .i64 p1, .int .i64 p2, .imm T_A3 p3 (some 3)]), (.tmp 1, .val false [.addr 1 0 0]), (.tmp 3, .val false [.int .u64 p4]), (.tmp 7, .val false [.imm T_A3 p5 (some 3)]), (.tmp 8, .val false [.int .i64 p6]), (.tmp 9, .val false [.int .i64 p7])]
def P_Heap_cubes : Ft_Heap_cubes := hid (runF X_Heap_cubes B_Heap_cubes As_Heap_cubes R_Heap_cubes M_Heap_cubes)
theorem h_Heap_cubes : P_Heap_cubes = runF X_Heap_cubes B_Heap_cubes As_Heap_cubes R_Heap_cubes M_Heap_cubes := hid_eq _
def C_Heap_cubes : Contract := ⟨As_Heap_cubes, R_Heap_cubes, M_Heap_cubes, P_Heap_cubes⟩
theorem s_Heap_cubes : Sound Tryz.prog GG 59 C_Heap_cubes := by
 unfold C_Heap_cubes; rw [h_Heap_cubes]
 exact mkS Tryz.f59 ⟨s_Heap_box, s_box_index, trivial⟩ trivial
def l_Heap_cubes_3 := hid (L_Heap_cubes_3)
theorem h_Heap_cubes_3 : l_Heap_cubes_3 = L_Heap_cubes_3 := hid_eq _
theorem p_Heap_cubes (a0 : D_Heap) : P_Heap_cubes (a0, ()) =
 l_Heap_cubes_3 N a0.1 a0.2.1 a0.2.2.1 a0.2.2.2.1 0 a0.2.2.2.1 (List.length a0.2.2.2.1 : Int) 0 := by
 rewrite [h_Heap_cubes, h_Heap_cubes_3]
 kernel_rfl
theorem q_Heap_cubes_3 (m0 : Nat) (p0 p1 p2 : Int) (p3 : List D_A3) (p4 : Int) (p5 : List D_A3) (p6 p7 : Int) : l_Heap_cubes_3 (m0 + 1) p0 p1 p2 p3 p4 p5 p6 p7 =
 bif decide (p7 < p6) then
 bif inB p7 (List.length p5) then
 Option.bind (P_Heap_box ((p0, (p1, (p2, (p3, ())))), ())) fun r2 =>
 Option.bind (P_box_index (r2.1, (nth T_A3 p5 p7), ())) fun r3 =>
 bif decide ((0 : Int) ≤ r3.1) then
 l_Heap_cubes_3 m0 p0 p1 p2 p3 (intBits .or .u64 p4 (shlI .u64 1 r3.1)) p5 p6 (IntKind.wrap .i64 (p7 + 1))
 else none
 else none
 else
 some (p4, ()) := by
 rewrite [h_Heap_cubes_3]
 kernel_rfl
abbrev As_impl_isSingle : List ATy := [.data true T_Heap]
abbrev R_impl_isSingle : List (Bool × Ty) := [(false, .bool)]
abbrev M_impl_isSingle : List RMode := []
abbrev Ft_impl_isSingle : Type := D_Heap × Unit → Option (Bool × Unit)
def X_impl_isSingle : Ctx := { types := TT, globals := [], con := [(56, C_impl_IsHeap), (57, C_Heap_box), (58, C_box_parts), (59, C_Heap_cubes)], keep := [], results := [.tmp 2], ntmps := 14, n := N }
def B_impl_isSingle : Code := (Tryz.f35.body).getD .skip
def P_impl_isSingle : Ft_impl_isSingle := hid (runF X_impl_isSingle B_impl_isSingle As_impl_isSingle R_impl_isSingle M_impl_isSingle)
theorem h_impl_isSingle : P_impl_isSingle = runF X_impl_isSingle B_impl_isSingle As_impl_isSingle R_impl_isSingle M_impl_isSingle := hid_eq _
def C_impl_isSingle : Contract := ⟨As_impl_isSingle, R_impl_isSingle, M_impl_isSingle, P_impl_isSingle⟩
theorem s_impl_isSingle : Sound Tryz.prog GG 35 C_impl_isSingle := by
 unfold C_impl_isSingle; rw [h_impl_isSingle]
 exact mkS Tryz.f35 ⟨s_impl_IsHeap, s_Heap_box, s_box_parts, s_Heap_cubes, trivial⟩ trivial
theorem p_impl_isSingle (a0 : D_Heap) : P_impl_isSingle (a0, ()) =
 Option.bind (P_impl_IsHeap (a0, ())) fun r0 =>
 bif r0.1 then
 Option.bind (P_Heap_box (a0, ())) fun r2 =>
 Option.bind (P_Heap_cubes (a0, ())) fun r3 =>
 Option.bind (P_box_parts (r2.1, r3.1, ())) fun r4 =>
 some (decide ((List.length r4.1 : Int) = 1), ())
 else
 some (false, ()) := by
 rewrite [h_impl_isSingle]
 kernel_rfl
abbrev As_spec_l2Without : List ATy := [.data true T_Heap, .data true T_A3]
abbrev R_spec_l2Without : List (Bool × Ty) := [(true, T_Heap)]
abbrev M_spec_l2Without : List RMode := [.own 55]
abbrev Ft_spec_l2Without : Type := D_Heap × D_A3 × Unit → Option (D_Heap × Unit)
def X_spec_l2Without : Ctx := { types := TT, globals := [], con := [(68, C_spec_l2Empty)], keep := [(3, ⟨[.box 2, .box 3, .box 4, .box 5, .tmp 2, .tmp 3, .tmp 4, .tmp 5, .tmp 6], []⟩)], results := [.cell 4 29], ntmps := 39, n := N }
def B_spec_l2Without : Code := (Tryz.f76.body).getD .skip
def L_spec_l2Without_3 (m0 : Nat) (p0 p1 p2 : Int) (p3 : List D_A3) (p4 p5 p6 p7 p8 p9 : Int) (p10 : List D_A3) (p11 p12 p13 : Int) (p14 : List D_A3) (p15 : Int) : Option (denL R_spec_l2Without) := loopF X_spec_l2Without B_spec_l2Without R_spec_l2Without M_spec_l2Without 3 [m0] [(.ver, .num 1), (.box 2, .box 0 false [.int .i64 p0, .int .i64 p1, .int .i64 p2, .imm T_A3 p3 (some 3)]), (.box 3, .box 0 false [.int .i64 p4, .int .i64 p5, .int .i64 p6]), (.box 4, .box 0 false [.int .i64 p7, .int .i64 p8, .int .i64 p9, .own 55 T_A3 0 p10]), (.box 5, .box 0 false [.int .i64 p11, .int .i64 p12, .int .i64 p13, .own 55 T_A3 0 p14]), (.tmp 2, .val false [.addr 2 0 0]), (.tmp 3, .val false [.addr 3 0 0]), (.tmp 4, .val false [.addr 4 0 0]), (.tmp 5, .val false [.addr 5 0 0]), (.tmp 6, .val false [.int .i64 p15])]
def P_spec_l2Without : Ft_spec_l2Without := hid (runF X_spec_l2Without B_spec_l2Without As_spec_l2Without R_spec_l2Without M_spec_l2Without)
theorem h_spec_l2Without : P_spec_l2Without = runF X_spec_l2Without B_spec_l2Without As_spec_l2Without R_spec_l2Without M_spec_l2Without := hid_eq _
def C_spec_l2Without : Contract := ⟨As_spec_l2Without, R_spec_l2Without, M_spec_l2Without, P_spec_l2Without⟩
theorem s_spec_l2Without : Sound Tryz.prog GG 76 C_spec_l2Without := by
 unfold C_spec_l2Without; rw [h_spec_l2Without]
 exact mkS Tryz.f76 ⟨s_spec_l2Empty, trivial⟩ trivial
def l_spec_l2Without_3 := hid (L_spec_l2Without_3)
theorem h_spec_l2Without_3 : l_spec_l2Without_3 = L_spec_l2Without_3 := hid_eq _
theorem p_spec_l2Without (a0 : D_Heap) (a1 : D_A3) : P_spec_l2Without (a0, a1, ()) =
 Option.bind (P_spec_l2Empty (a0.1, a0.2.1, a0.2.2.1, ())) fun r0 =>
 l_spec_l2Without_3 N a0.1 a0.2.1 a0.2.2.1 a0.2.2.2.1 a1.1 a1.2.1 a1.2.2.1 0 0 0 ([] : List D_A3) r0.1.1 r0.1.2.1 r0.1.2.2.1 r0.1.2.2.2.1 0 := by
 rewrite [h_spec_l2Without, h_spec_l2Without_3]
 kernel_rfl
theorem q_spec_l2Without_3 (m0 : Nat) (p0 p1 p2 : Int) (p3 : List D_A3) (p4 p5 p6 p7 p8 p9 : Int) (p10 : List D_A3) (p11 p12 p13 : Int) (p14 : List D_A3) (p15 : Int) : l_spec_l2Without_3 (m0 + 1) p0 p1 p2 p3 p4 p5 p6 p7 p8 p9 p10 p11 p12 p13 p14 p15 =
 bif decide (p15 < (List.length p3 : Int)) then
 bif inB p15 (List.length p3) then
 bif !(decide (((nth T_A3 p3 p15)).1 = p4) && (decide ((((nth T_A3 p3 p15)).2).1 = p5) && (decide (((((nth T_A3 p3 p15)).2).2).1 = p6) && true))) then
 bif inB p15 (List.length p3) then
 bif (decide (((List.length p14) + (List.length ([(nth T_A3 p3 p15)] : List D_A3))) * 24 ≤ 140737488355328) && decide (((List.length p14) + (List.length ([(nth T_A3 p3 p15)] : List D_A3))) ≤ 140737488355328)) then
 l_spec_l2Without_3 m0 p0 p1 p2 p3 p4 p5 p6 p7 p8 p9 p10 p11 p12 p13 (p14 ++ ([(nth T_A3 p3 p15)] : List D_A3)) (IntKind.wrap .i64 (p15 + 1))
 else none
 else none
 else
 l_spec_l2Without_3 m0 p0 p1 p2 p3 p4 p5 p6 p7 p8 p9 p10 p11 p12 p13 p14 (IntKind.wrap .i64 (p15 + 1))
 else none
 else
 some ((p11, (p12, (p13, (p14, ())))), ()) := by
 rewrite [h_spec_l2Without_3]
 kernel_rfl
abbrev As_spec_l2Apart : List ATy := [.data true T_A3, .data true T_A3]
abbrev R_spec_l2Apart : List (Bool × Ty) := [(false, (.int .i64))]
abbrev M_spec_l2Apart : List RMode := []
abbrev Ft_spec_l2Apart : Type := D_A3 × D_A3 × Unit → Option (Int × Unit)
def X_spec_l2Apart : Ctx := { types := TT, globals := [], con := [(67, C_spec_l1Most)], keep := [(3, ⟨[.box 2, .box 3, .tmp 2, .tmp 3, .tmp 5, .tmp 6], []⟩)], results := [.tmp 4], ntmps := 29, n := N }
def B_spec_l2Apart : Code := (Tryz.f112.body).getD .skip
def L_spec_l2Apart_3 (m0 : Nat) (p0 p1 p2 p3 p4 p5 p6 p7 : Int) : Option (denL R_spec_l2Apart) := loopF X_spec_l2Apart B_spec_l2Apart R_spec_l2Apart M_spec_l2Apart 3 [m0] [(.ver, .num 1), (.box 2, .box 0 false [.int .i64 p0, .int .i64 p1, .int .i64 p2]), (.box 3, .box 0 false [.int .i64 p3, .int .i64 p4, .int .i64 p5]), (.tmp 2, .val false [.addr 2 0 0]), (.tmp 3, .val false [.addr 3 0 0]), (.tmp 5, .val false [.int .i64 p6]), (.tmp 6, .val false [.int .i64 p7])]
def P_spec_l2Apart : Ft_spec_l2Apart := hid (runF X_spec_l2Apart B_spec_l2Apart As_spec_l2Apart R_spec_l2Apart M_spec_l2Apart)
theorem h_spec_l2Apart : P_spec_l2Apart = runF X_spec_l2Apart B_spec_l2Apart As_spec_l2Apart R_spec_l2Apart M_spec_l2Apart := hid_eq _
def C_spec_l2Apart : Contract := ⟨As_spec_l2Apart, R_spec_l2Apart, M_spec_l2Apart, P_spec_l2Apart⟩
theorem s_spec_l2Apart : Sound Tryz.prog GG 112 C_spec_l2Apart := by
 unfold C_spec_l2Apart; rw [h_spec_l2Apart]
 exact mkS Tryz.f112 ⟨s_spec_l1Most, trivial⟩ trivial
def l_spec_l2Apart_3 := hid (L_spec_l2Apart_3)
theorem h_spec_l2Apart_3 : l_spec_l2Apart_3 = L_spec_l2Apart_3 := hid_eq _
theorem p_spec_l2Apart (a0 a1 : D_A3) : P_spec_l2Apart (a0, a1, ()) =
 l_spec_l2Apart_3 N a0.1 a0.2.1 a0.2.2.1 a1.1 a1.2.1 a1.2.2.1 0 0 := by
 rewrite [h_spec_l2Apart, h_spec_l2Apart_3]
 kernel_rfl
theorem q_spec_l2Apart_3 (m0 : Nat) (p0 p1 p2 p3 p4 p5 p6 p7 : Int) : l_spec_l2Apart_3 (m0 + 1) p0 p1 p2 p3 p4 p5 p6 p7 =
 bif decide (p7 < 3) then
 bif inB p7 3 then
 bif inB p7 3 then
 bif inB p7 3 then
 bif inB p7 3 then
 Option.bind (P_spec_l1Most ((IntKind.wrap .i64 ((bif decide (p7 = (0 : Int)) then p0 else (bif decide (p7 = (1 : Int)) then p1 else p2)) - (bif decide (p7 = (0 : Int)) then p3 else (bif decide (p7 = (1 : Int)) then p4 else p5)))), (IntKind.wrap .i64 ((bif decide (p7 = (0 : Int)) then p3 else (bif decide (p7 = (1 : Int)) then p4 else p5)) - (bif decide (p7 = (0 : Int)) then p0 else (bif decide (p7 = (1 : Int)) then p1 else p2)))), ())) fun r5 =>
 l_spec_l2Apart_3 m0 p0 p1 p2 p3 p4 p5 (IntKind.wrap .i64 (p6 + r5.1)) (IntKind.wrap .i64 (p7 + 1))
 else none
 else none
 else none
 else none
 else
 some (p6, ()) := by
 rewrite [h_spec_l2Apart_3]
 kernel_rfl
abbrev As_spec_l2Near : List ATy := [.data true T_Heap, .data true T_A3]
abbrev R_spec_l2Near : List (Bool × Ty) := [(false, (.sl T_A3))]
abbrev M_spec_l2Near : List RMode := [.own 55]
abbrev Ft_spec_l2Near : Type := D_Heap × D_A3 × Unit → Option ((List D_A3) × Unit)
def X_spec_l2Near : Ctx := { types := TT, globals := [], con := [(112, C_spec_l2Apart)], keep := [(3, ⟨[.box 2, .box 3, .tmp 2, .tmp 3, .tmp 5, .tmp 6], []⟩)], results := [.tmp 4], ntmps := 32, n := N }
def B_spec_l2Near : Code := (Tryz.f77.body).getD .skip
def L_spec_l2Near_3 (m0 : Nat) (p0 p1 p2 : Int) (p3 : List D_A3) (p4 p5 p6 : Int) (p7 : List D_A3) (p8 : Int) : Option (denL R_spec_l2Near) := loopF X_spec_l2Near B_spec_l2Near R_spec_l2Near M_spec_l2Near 3 [m0] [(.ver, .num 1), (.box 2, .box 0 false [.int .i64 p0, .int .i64 p1, .int .i64 p2, .imm T_A3 p3 (some 3)]), (.box 3, .box 0 false [.int .i64 p4, .int .i64 p5, .int .i64 p6]), (.tmp 2, .val false [.addr 2 0 0]), (.tmp 3, .val false [.addr 3 0 0]), (.tmp 5, .val false [.own 55 T_A3 0 p7]), (.tmp 6, .val false [.int .i64 p8])]
def P_spec_l2Near : Ft_spec_l2Near := hid (runF X_spec_l2Near B_spec_l2Near As_spec_l2Near R_spec_l2Near M_spec_l2Near)
theorem h_spec_l2Near : P_spec_l2Near = runF X_spec_l2Near B_spec_l2Near As_spec_l2Near R_spec_l2Near M_spec_l2Near := hid_eq _
def C_spec_l2Near : Contract := ⟨As_spec_l2Near, R_spec_l2Near, M_spec_l2Near, P_spec_l2Near⟩
theorem s_spec_l2Near : Sound Tryz.prog GG 77 C_spec_l2Near := by
 unfold C_spec_l2Near; rw [h_spec_l2Near]
 exact mkS Tryz.f77 ⟨s_spec_l2Apart, trivial⟩ trivial
def l_spec_l2Near_3 := hid (L_spec_l2Near_3)
theorem h_spec_l2Near_3 : l_spec_l2Near_3 = L_spec_l2Near_3 := hid_eq _
theorem p_spec_l2Near (a0 : D_Heap) (a1 : D_A3) : P_spec_l2Near (a0, a1, ()) =
 l_spec_l2Near_3 N a0.1 a0.2.1 a0.2.2.1 a0.2.2.2.1 a1.1 a1.2.1 a1.2.2.1 ([] : List D_A3) 0 := by
 rewrite [h_spec_l2Near, h_spec_l2Near_3]
 kernel_rfl
theorem q_spec_l2Near_3 (m0 : Nat) (p0 p1 p2 : Int) (p3 : List D_A3) (p4 p5 p6 : Int) (p7 : List D_A3) (p8 : Int) : l_spec_l2Near_3 (m0 + 1) p0 p1 p2 p3 p4 p5 p6 p7 p8 =
 bif decide (p8 < (List.length p3 : Int)) then
 bif inB p8 (List.length p3) then
 Option.bind (P_spec_l2Apart ((nth T_A3 p3 p8), (p4, (p5, (p6, ()))), ())) fun r2 =>
 bif decide (r2.1 = 1) then
 bif inB p8 (List.length p3) then
 bif (decide (((List.length p7) + (List.length ([(nth T_A3 p3 p8)] : List D_A3))) * 24 ≤ 140737488355328) && decide (((List.length p7) + (List.length ([(nth T_A3 p3 p8)] : List D_A3))) ≤ 140737488355328)) then
 l_spec_l2Near_3 m0 p0 p1 p2 p3 p4 p5 p6 (p7 ++ ([(nth T_A3 p3 p8)] : List D_A3)) (IntKind.wrap .i64 (p8 + 1))
 else none
 else none
 else
 l_spec_l2Near_3 m0 p0 p1 p2 p3 p4 p5 p6 p7 (IntKind.wrap .i64 (p8 + 1))
 else none
 else
 some (p7, ()) := by
 rewrite [h_spec_l2Near_3]
 kernel_rfl
abbrev As_spec_l2Parts : List ATy := [.data true T_Heap]
abbrev R_spec_l2Parts : List (Bool × Ty) := [(false, (.sl (.sl T_A3)))]
abbrev M_spec_l2Parts : List RMode := [.own 22]
abbrev Ft_spec_l2Parts : Type := D_Heap × Unit → Option ((List (List D_A3)) × Unit)
def X_spec_l2Parts : Ctx := { types := TT, globals := [], con := [(68, C_spec_l2Empty), (71, C_spec_l2With), (75, C_spec_l2Own), (76, C_spec_l2Without), (77, C_spec_l2Near)], keep := [(2, ⟨[.box 1, .box 4, .tmp 1, .tmp 3, .tmp 4], []⟩), (6, ⟨[.box 1, .box 4, .box 5, .tmp 1, .tmp 3, .tmp 4, .tmp 5, .tmp 6, .tmp 7], []⟩), (11, ⟨[.box 1, .box 4, .box 5, .tmp 1, .tmp 3, .tmp 4, .tmp 5, .tmp 6, .tmp 7, .tmp 8, .tmp 9], []⟩)], results := [.tmp 2], ntmps := 77, n := N }
def B_spec_l2Parts : Code := (Tryz.f31.body).getD .skip
def L_spec_l2Parts_2 (m0 : Nat) (p0 p1 p2 : Int) (p3 : List D_A3) (p4 p5 p6 : Int) (p7 : List D_A3) (p8 : List (List D_A3)) : Option (denL R_spec_l2Parts) := loopF X_spec_l2Parts B_spec_l2Parts R_spec_l2Parts M_spec_l2Parts 2 [m0] [(.ver, .num 1), (.box 1, .box 0 false [.int .i64 p0, .int .i64 p1, .int .i64 p2, .imm T_A3 p3 (some 3)]), (.box 4, .box 0 false [.int .i64 p4, .int .i64 p5, .int .i64 p6, .own 55 T_A3 0 p7]), (.tmp 1, .val false [.addr 1 0 0]), (.tmp 3, .val false [.own 22 (.sl T_A3) 0 p8]), (.tmp 4, .val false [.addr 4 0 0])]
def L_spec_l2Parts_6 (m0 m1 : Nat) (p0 p1 p2 : Int) (p3 : List D_A3) (p4 p5 p6 : Int) (p7 : List D_A3) (p8 p9 p10 : Int) (p11 : List D_A3) (p12 : List (List D_A3)) (p13 : List D_A3) (p14 : Int) : Option (denL R_spec_l2Parts) := loopF X_spec_l2Parts B_spec_l2Parts R_spec_l2Parts M_spec_l2Parts 6 [m0, m1] [(.ver, .num 1), (.box 1, .box 0 false [.int .i64 p0, .int .i64 p1, .int .i64 p2, .imm T_A3 p3 (some 3)]), (.box 4, .box 0 false [.int .i64 p4, .int .i64 p5, .int .i64 p6, .own 55 T_A3 0 p7]), (.box 5, .box 0 false [.int .i64 p8, .int .i64 p9, .int .i64 p10, .own 55 T_A3 0 p11]), (.tmp 1, .val false [.addr 1 0 0]), (.tmp 3, .val false [.own 22 (.sl T_A3) 0 p12]), (.tmp 4, .val false [.addr 4 0 0]), (.tmp 5, .val false [.addr 5 0 0]), (.tmp 6, .val false [.own 55 T_A3 0 p13]), (.tmp 7, .val false [.int .i64 p14])]
def L_spec_l2Parts_11 (m0 m1 m2 : Nat) (p0 p1 p2 : Int) (p3 : List D_A3) (p4 p5 p6 : Int) (p7 : List D_A3) (p8 p9 p10 : Int) (p11 : List D_A3) (p12 : List (List D_A3)) (p13 : List D_A3) (p14 : Int) (p15 : List D_A3) (p16 : Int) : Option (denL R_spec_l2Parts) := loopF X_spec_l2Parts B_spec_l2Parts R_spec_l2Parts M_spec_l2Parts 11 [m0, m1, m2] [(.ver, .num 1), (.box 1, .box 0 false [.int .i64 p0, .int .i64 p1, .int .i64 p2, .imm T_A3 p3 (some 3)]), (.box 4, .box 0 false [.int .i64 p4, .int .i64 p5, .int .i64 p6, .own 55 T_A3 0 p7]), (.box 5, .box 0 false [.int .i64 p8, .int .i64 p9, .int .i64 p10, .own 55 T_A3 0 p11]), (.tmp 1, .val false [.addr 1 0 0]), (.tmp 3, .val false [.own 22 (.sl T_A3) 0 p12]), (.tmp 4, .val false [.addr 4 0 0]), (.tmp 5, .val false [.addr 5 0 0]), (.tmp 6, .val false [.own 55 T_A3 0 p13]), (.tmp 7, .val false [.int .i64 p14]), (.tmp 8, .val false [.own 55 T_A3 0 p15]), (.tmp 9, .val false [.int .i64 p16])]
def P_spec_l2Parts : Ft_spec_l2Parts := hid (runF X_spec_l2Parts B_spec_l2Parts As_spec_l2Parts R_spec_l2Parts M_spec_l2Parts)
theorem h_spec_l2Parts : P_spec_l2Parts = runF X_spec_l2Parts B_spec_l2Parts As_spec_l2Parts R_spec_l2Parts M_spec_l2Parts := hid_eq _
def C_spec_l2Parts : Contract := ⟨As_spec_l2Parts, R_spec_l2Parts, M_spec_l2Parts, P_spec_l2Parts⟩
theorem s_spec_l2Parts : Sound Tryz.prog GG 31 C_spec_l2Parts := by
 unfold C_spec_l2Parts; rw [h_spec_l2Parts]
 exact mkS Tryz.f31 ⟨s_spec_l2Empty, s_spec_l2With, s_spec_l2Own, s_spec_l2Without, s_spec_l2Near, trivial⟩ trivial
def l_spec_l2Parts_2 := hid (L_spec_l2Parts_2)
theorem h_spec_l2Parts_2 : l_spec_l2Parts_2 = L_spec_l2Parts_2 := hid_eq _
def l_spec_l2Parts_6 := hid (L_spec_l2Parts_6)
theorem h_spec_l2Parts_6 : l_spec_l2Parts_6 = L_spec_l2Parts_6 := hid_eq _
def l_spec_l2Parts_11 := hid (L_spec_l2Parts_11)
theorem h_spec_l2Parts_11 : l_spec_l2Parts_11 = L_spec_l2Parts_11 := hid_eq _
theorem p_spec_l2Parts (a0 : D_Heap) : P_spec_l2Parts (a0, ()) =
 Option.bind (P_spec_l2Own (a0, ())) fun r0 =>
 l_spec_l2Parts_2 N a0.1 a0.2.1 a0.2.2.1 a0.2.2.2.1 r0.1.1 r0.1.2.1 r0.1.2.2.1 r0.1.2.2.2.1 ([] : List (List D_A3)) := by
 rewrite [h_spec_l2Parts, h_spec_l2Parts_2]
 kernel_rfl
theorem q_spec_l2Parts_2 (m0 : Nat) (p0 p1 p2 : Int) (p3 : List D_A3) (p4 p5 p6 : Int) (p7 : List D_A3) (p8 : List (List D_A3)) : l_spec_l2Parts_2 (m0 + 1) p0 p1 p2 p3 p4 p5 p6 p7 p8 =
 bif decide ((List.length p7 : Int) > 0) then
 Option.bind (P_spec_l2Empty (p0, p1, p2, ())) fun r1 =>
 bif inB 0 (List.length p7) then
 bif inB 0 (List.length ([(nth T_A3 p7 0)] : List D_A3)) then
 Option.bind (P_spec_l2Without ((p4, (p5, (p6, (p7, ())))), (nth T_A3 ([(nth T_A3 p7 0)] : List D_A3) 0), ())) fun r4 =>
 l_spec_l2Parts_6 m0 N p0 p1 p2 p3 r4.1.1 r4.1.2.1 r4.1.2.2.1 r4.1.2.2.2.1 r1.1.1 r1.1.2.1 r1.1.2.2.1 r1.1.2.2.2.1 p8 ([(nth T_A3 p7 0)] : List D_A3) 0
 else none
 else none
 else
 some (p8, ()) := by
 rewrite [h_spec_l2Parts_2, h_spec_l2Parts_6]
 kernel_rfl
theorem q_spec_l2Parts_6 (m0 m1 : Nat) (p0 p1 p2 : Int) (p3 : List D_A3) (p4 p5 p6 : Int) (p7 : List D_A3) (p8 p9 p10 : Int) (p11 : List D_A3) (p12 : List (List D_A3)) (p13 : List D_A3) (p14 : Int) : l_spec_l2Parts_6 m0 (m1 + 1) p0 p1 p2 p3 p4 p5 p6 p7 p8 p9 p10 p11 p12 p13 p14 =
 bif decide (p14 < (List.length p13 : Int)) then
 bif inB p14 (List.length p13) then
 Option.bind (P_spec_l2With ((p8, (p9, (p10, (p11, ())))), (nth T_A3 p13 p14), ())) fun r2 =>
 bif inB p14 (List.length p13) then
 Option.bind (P_spec_l2Near ((p4, (p5, (p6, (p7, ())))), (nth T_A3 p13 p14), ())) fun r4 =>
 l_spec_l2Parts_11 m0 m1 N p0 p1 p2 p3 p4 p5 p6 p7 r2.1.1 r2.1.2.1 r2.1.2.2.1 r2.1.2.2.2.1 p12 p13 p14 r4.1 0
 else none
 else none
 else
 bif (decide (((List.length p12) + (List.length ([p11] : List (List D_A3)))) * 24 ≤ 140737488355328) && decide (((List.length p12) + (List.length ([p11] : List (List D_A3)))) ≤ 140737488355328)) then
 l_spec_l2Parts_2 m0 p0 p1 p2 p3 p4 p5 p6 p7 (p12 ++ ([p11] : List (List D_A3)))
 else none := by
 rewrite [h_spec_l2Parts_2, h_spec_l2Parts_6, h_spec_l2Parts_11]
 kernel_rfl
theorem q_spec_l2Parts_11 (m0 m1 m2 : Nat) (p0 p1 p2 : Int) (p3 : List D_A3) (p4 p5 p6 : Int) (p7 : List D_A3) (p8 p9 p10 : Int) (p11 : List D_A3) (p12 : List (List D_A3)) (p13 : List D_A3) (p14 : Int) (p15 : List D_A3) (p16 : Int) : l_spec_l2Parts_11 m0 m1 (m2 + 1) p0 p1 p2 p3 p4 p5 p6 p7 p8 p9 p10 p11 p12 p13 p14 p15 p16 =
 bif decide (p16 < (List.length p15 : Int)) then
 bif inB p16 (List.length p15) then
 bif (decide (((List.length p13) + (List.length ([(nth T_A3 p15 p16)] : List D_A3))) * 24 ≤ 140737488355328) && decide (((List.length p13) + (List.length ([(nth T_A3 p15 p16)] : List D_A3))) ≤ 140737488355328)) then
 bif inB p16 (List.length p15) then
 Option.bind (P_spec_l2Without ((p4, (p5, (p6, (p7, ())))), (nth T_A3 p15 p16), ())) fun r4 =>
 l_spec_l2Parts_11 m0 m1 m2 p0 p1 p2 p3 r4.1.1 r4.1.2.1 r4.1.2.2.1 r4.1.2.2.2.1 p8 p9 p10 p11 p12 (p13 ++ ([(nth T_A3 p15 p16)] : List D_A3)) p14 p15 (IntKind.wrap .i64 (p16 + 1))
 else none
 else none
 else none
 else
 l_spec_l2Parts_6 m0 m1 p0 p1 p2 p3 p4 p5 p6 p7 p8 p9 p10 p11 p12 p13 (IntKind.wrap .i64 (p14 + 1)) := by
 rewrite [h_spec_l2Parts_6, h_spec_l2Parts_11]
 kernel_rfl
abbrev As_spec_l2Sides : List ATy := [.data false (.int .i64), .data false (.int .i64), .data false (.int .i64)]
abbrev R_spec_l2Sides : List (Bool × Ty) := [(false, .bool)]
abbrev M_spec_l2Sides : List RMode := []
abbrev Ft_spec_l2Sides : Type := Int × Int × Int × Unit → Option (Bool × Unit)
def X_spec_l2Sides : Ctx := { types := TT, globals := [], con := [(51, C_spec_l1In)], keep := [], results := [.tmp 6], ntmps := 17, n := N }
def B_spec_l2Sides : Code := (Tryz.f126.body).getD .skip
def P_spec_l2Sides : Ft_spec_l2Sides := hid (runF X_spec_l2Sides B_spec_l2Sides As_spec_l2Sides R_spec_l2Sides M_spec_l2Sides)
theorem h_spec_l2Sides : P_spec_l2Sides = runF X_spec_l2Sides B_spec_l2Sides As_spec_l2Sides R_spec_l2Sides M_spec_l2Sides := hid_eq _
def C_spec_l2Sides : Contract := ⟨As_spec_l2Sides, R_spec_l2Sides, M_spec_l2Sides, P_spec_l2Sides⟩
theorem s_spec_l2Sides : Sound Tryz.prog GG 126 C_spec_l2Sides := by
 unfold C_spec_l2Sides; rw [h_spec_l2Sides]
 exact mkS Tryz.f126 ⟨s_spec_l1In, trivial⟩ trivial
theorem p_spec_l2Sides (a0 a1 a2 : Int) : P_spec_l2Sides (a0, a1, a2, ()) =
 Option.bind (P_spec_l1In (a0, 1, 4, ())) fun r0 =>
 bif r0.1 then
 Option.bind (P_spec_l1In (a1, 1, 4, ())) fun r2 =>
 bif r2.1 then
 Option.bind (P_spec_l1In (a2, 1, 4, ())) fun r4 =>
 some (r4.1, ())
 else
 some (false, ())
 else
 some (false, ()) := by
 rewrite [h_spec_l2Sides]
 kernel_rfl
abbrev As_spec_l2Heap : List ATy := [.data true T_Heap]
abbrev R_spec_l2Heap : List (Bool × Ty) := [(false, .bool)]
abbrev M_spec_l2Heap : List RMode := []
abbrev Ft_spec_l2Heap : Type := D_Heap × Unit → Option (Bool × Unit)
def X_spec_l2Heap : Ctx := { types := TT, globals := [], con := [(74, C_spec_l2In), (111, C_spec_l2Before), (126, C_spec_l2Sides)], keep := [(4, ⟨[.box 1, .tmp 1, .tmp 3], []⟩)], results := [.tmp 2], ntmps := 46, n := N }
def B_spec_l2Heap : Code := (Tryz.f110.body).getD .skip
def L_spec_l2Heap_4 (m0 : Nat) (p0 p1 p2 : Int) (p3 : List D_A3) (p4 : Int) : Option (denL R_spec_l2Heap) := loopF X_spec_l2Heap B_spec_l2Heap R_spec_l2Heap M_spec_l2Heap 4 [m0] [(.ver, .num 1), (.box 1, .box 0 false [.int .i64 p0, .int .i64 p1, .int .i64 p2, .imm T_A3 p3 (some 3)]), (.tmp 1, .val false [.addr 1 0 0]), (.tmp 3, .val false [.int .i64 p4])]
def P_spec_l2Heap : Ft_spec_l2Heap := hid (runF X_spec_l2Heap B_spec_l2Heap As_spec_l2Heap R_spec_l2Heap M_spec_l2Heap)
theorem h_spec_l2Heap : P_spec_l2Heap = runF X_spec_l2Heap B_spec_l2Heap As_spec_l2Heap R_spec_l2Heap M_spec_l2Heap := hid_eq _
def C_spec_l2Heap : Contract := ⟨As_spec_l2Heap, R_spec_l2Heap, M_spec_l2Heap, P_spec_l2Heap⟩
theorem s_spec_l2Heap : Sound Tryz.prog GG 110 C_spec_l2Heap := by
 unfold C_spec_l2Heap; rw [h_spec_l2Heap]
 exact mkS Tryz.f110 ⟨s_spec_l2In, s_spec_l2Before, s_spec_l2Sides, trivial⟩ trivial
def l_spec_l2Heap_4 := hid (L_spec_l2Heap_4)
theorem h_spec_l2Heap_4 : l_spec_l2Heap_4 = L_spec_l2Heap_4 := hid_eq _
theorem p_spec_l2Heap (a0 : D_Heap) : P_spec_l2Heap (a0, ()) =
 Option.bind (P_spec_l2Sides (a0.1, a0.2.1, a0.2.2.1, ())) fun r0 =>
 bif !r0.1 then
 some (false, ())
 else
 l_spec_l2Heap_4 N a0.1 a0.2.1 a0.2.2.1 a0.2.2.2.1 0 := by
 rewrite [h_spec_l2Heap, h_spec_l2Heap_4]
 kernel_rfl
theorem q_spec_l2Heap_4 (m0 : Nat) (p0 p1 p2 : Int) (p3 : List D_A3) (p4 : Int) : l_spec_l2Heap_4 (m0 + 1) p0 p1 p2 p3 p4 =
 bif decide (p4 < (List.length p3 : Int)) then
 bif inB p4 (List.length p3) then
 Option.bind (P_spec_l2In ((p0, (p1, (p2, (p3, ())))), (nth T_A3 p3 p4), ())) fun r2 =>
 bif !r2.1 then
 some (false, ())
 else
 bif decide (p4 > 0) then
 bif inB (IntKind.wrap .i64 (p4 - 1)) (List.length p3) then
 bif inB p4 (List.length p3) then
 Option.bind (P_spec_l2Before ((nth T_A3 p3 (IntKind.wrap .i64 (p4 - 1))), (nth T_A3 p3 p4), ())) fun r7 =>
 bif !r7.1 then
 some (false, ())
 else
 l_spec_l2Heap_4 m0 p0 p1 p2 p3 (IntKind.wrap .i64 (p4 + 1))
 else none
 else none
 else
 l_spec_l2Heap_4 m0 p0 p1 p2 p3 (IntKind.wrap .i64 (p4 + 1))
 else none
 else
 some (true, ()) := by
 rewrite [h_spec_l2Heap_4]
 kernel_rfl
abbrev As_spec_l8Some : List ATy := [.data true T_Heap]
abbrev R_spec_l8Some : List (Bool × Ty) := [(false, .bool)]
abbrev M_spec_l8Some : List RMode := []
abbrev Ft_spec_l8Some : Type := D_Heap × Unit → Option (Bool × Unit)
def X_spec_l8Some : Ctx := { types := TT, globals := [], con := [(110, C_spec_l2Heap)], keep := [], results := [.tmp 2], ntmps := 11, n := N }
def B_spec_l8Some : Code := (Tryz.f65.body).getD .skip
def P_spec_l8Some : Ft_spec_l8Some := hid (runF X_spec_l8Some B_spec_l8Some As_spec_l8Some R_spec_l8Some M_spec_l8Some)
theorem h_spec_l8Some : P_spec_l8Some = runF X_spec_l8Some B_spec_l8Some As_spec_l8Some R_spec_l8Some M_spec_l8Some := hid_eq _
def C_spec_l8Some : Contract := ⟨As_spec_l8Some, R_spec_l8Some, M_spec_l8Some, P_spec_l8Some⟩
theorem s_spec_l8Some : Sound Tryz.prog GG 65 C_spec_l8Some := by
 unfold C_spec_l8Some; rw [h_spec_l8Some]
 exact mkS Tryz.f65 ⟨s_spec_l2Heap, trivial⟩ trivial
theorem p_spec_l8Some (a0 : D_Heap) : P_spec_l8Some (a0, ()) =
 Option.bind (P_spec_l2Heap (a0, ())) fun r0 =>
 bif r0.1 then
 some (decide ((List.length a0.2.2.2.1 : Int) > 0), ())
 else
 some (false, ()) := by
 rewrite [h_spec_l8Some]
 kernel_rfl
abbrev As_spec_l8Part : List ATy := [.data true T_Heap]
abbrev R_spec_l8Part : List (Bool × Ty) := [(false, .bool)]
abbrev M_spec_l8Part : List RMode := []
abbrev Ft_spec_l8Part : Type := D_Heap × Unit → Option (Bool × Unit)
def X_spec_l8Part : Ctx := { types := TT, globals := [], con := [(31, C_spec_l2Parts), (65, C_spec_l8Some)], keep := [], results := [.tmp 2], ntmps := 11, n := N }
def B_spec_l8Part : Code := (Tryz.f25.body).getD .skip
def P_spec_l8Part : Ft_spec_l8Part := hid (runF X_spec_l8Part B_spec_l8Part As_spec_l8Part R_spec_l8Part M_spec_l8Part)
theorem h_spec_l8Part : P_spec_l8Part = runF X_spec_l8Part B_spec_l8Part As_spec_l8Part R_spec_l8Part M_spec_l8Part := hid_eq _
def C_spec_l8Part : Contract := ⟨As_spec_l8Part, R_spec_l8Part, M_spec_l8Part, P_spec_l8Part⟩
theorem s_spec_l8Part : Sound Tryz.prog GG 25 C_spec_l8Part := by
 unfold C_spec_l8Part; rw [h_spec_l8Part]
 exact mkS Tryz.f25 ⟨s_spec_l2Parts, s_spec_l8Some, trivial⟩ trivial
theorem p_spec_l8Part (a0 : D_Heap) : P_spec_l8Part (a0, ()) =
 Option.bind (P_spec_l8Some (a0, ())) fun r0 =>
 bif r0.1 then
 Option.bind (P_spec_l2Parts (a0, ())) fun r2 =>
 some (decide ((List.length r2.1 : Int) = 1), ())
 else
 some (false, ()) := by
 rewrite [h_spec_l8Part]
 kernel_rfl
end
end Go.VI
