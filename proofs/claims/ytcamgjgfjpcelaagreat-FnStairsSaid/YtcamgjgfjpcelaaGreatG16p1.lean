/- What the functions of the seat compute, as printed by wip/tools. -/
import Derived.Test.YtcamgjgfjpcelaaGreatViGen
import Derived.Test.YtcamgjgfjpcelaaGreatVgSound
import Derived.Test.YtcamgjgfjpcelaaGreatProg
namespace Go.VI
open Go.Proofs
set_option maxRecDepth 100000
def n0 : Nat := 0
def GG : World → Prop := fun _ => True
theorem hstable : Stable n0 GG := stable_true
theorem hmix : Tryz.prog.follows .mixedOrders = true := by kernel_rfl
theorem hglob (X : Ctx) (h : X.globals = [] := by rfl) (A : Fix) (_ : A.P = Tryz.prog) (_ : A.G = GG) : GlobOK A X := globOK_none h A
abbrev T_A2 : Ty := (.pair (.int .i64) (.pair (.int .i64) .unit))
abbrev D_A2 : Type := Int × Int × Unit
abbrev T_A3 : Ty := (.pair (.int .i64) (.pair (.int .i64) (.pair (.int .i64) .unit)))
abbrev D_A3 : Type := Int × Int × Int × Unit
abbrev T_Heap : Ty := (.pair (.int .i64) (.pair (.int .i64) (.pair (.int .i64) (.pair (.sl T_A3) .unit))))
abbrev D_Heap : Type := Int × Int × Int × (List D_A3) × Unit
abbrev T_l1Cur : Ty := (.pair (.sl (.int .u8)) (.pair (.int .i64) (.pair (.int .u64) .unit)))
abbrev D_l1Cur : Type := (List Int) × Int × Int × Unit
noncomputable def TT : List (TypeId × TI) := [(3, ⟨Tryz.t3.desc, (.int .i64), false, 8, [.int .i64 0], false⟩),
  (4, ⟨Tryz.t4.desc, .bool, false, 1, [.bool false], false⟩),
  (5, ⟨Tryz.t5.desc, (.int .u8), false, 1, [.int .u8 0], false⟩),
  (22, ⟨Tryz.t22.desc, (.sl (.int .u8)), false, 24, [.nil 5 (.int .u8)], false⟩),
  (24, ⟨Tryz.t24.desc, (.sl T_A3), false, 24, [.nil 45 T_A3], false⟩),
  (26, ⟨Tryz.t25.desc, T_Heap, true, 48, [.int .i64 0, .int .i64 0, .int .i64 0, .nil 45 T_A3], false⟩),
  (30, ⟨Tryz.t30.desc, (.sl (.int .i64)), false, 24, [.nil 3 (.int .i64)], false⟩),
  (45, ⟨Tryz.t45.desc, T_A3, true, 24, [.int .i64 0, .int .i64 0, .int .i64 0], false⟩),
  (80, ⟨Tryz.t80.desc, (.int .u64), false, 8, [.int .u64 0], false⟩),
  (82, ⟨Tryz.t81.desc, T_l1Cur, true, 40, [.nil 5 (.int .u8), .int .i64 0, .int .u64 0], false⟩),
  (87, ⟨Tryz.t45.desc, T_A3, true, 24, [.int .i64 0, .int .i64 0, .int .i64 0], false⟩),
  (90, ⟨Tryz.t80.desc, (.int .u64), false, 8, [.int .u64 0], false⟩),
  (104, ⟨Tryz.t104.desc, (.sl (.sl (.int .i64))), false, 24, [.nil 30 (.sl (.int .i64))], false⟩)]
theorem ttOK : allP (fun q => tiB Tryz.prog q.1 q.2) TT :=
  ⟨⟨by kernel_rfl, by kernel_rfl, by kernel_rfl, by kernel_rfl, by kernel_rfl, by kernel_rfl⟩, ⟨by kernel_rfl, by kernel_rfl, by kernel_rfl, by kernel_rfl, by kernel_rfl, by kernel_rfl⟩, ⟨by kernel_rfl, by kernel_rfl, by kernel_rfl, by kernel_rfl, by kernel_rfl, by kernel_rfl⟩, ⟨by kernel_rfl, by kernel_rfl, by kernel_rfl, by kernel_rfl, by kernel_rfl, by kernel_rfl⟩, ⟨by kernel_rfl, by kernel_rfl, by kernel_rfl, by kernel_rfl, by kernel_rfl, by kernel_rfl⟩, ⟨by kernel_rfl, by kernel_rfl, by kernel_rfl, by kernel_rfl, by kernel_rfl, by kernel_rfl⟩, ⟨by kernel_rfl, by kernel_rfl, by kernel_rfl, by kernel_rfl, by kernel_rfl, by kernel_rfl⟩, ⟨by kernel_rfl, by kernel_rfl, by kernel_rfl, by kernel_rfl, by kernel_rfl, by kernel_rfl⟩, ⟨by kernel_rfl, by kernel_rfl, by kernel_rfl, by kernel_rfl, by kernel_rfl, by kernel_rfl⟩, ⟨by kernel_rfl, by kernel_rfl, by kernel_rfl, by kernel_rfl, by kernel_rfl, by kernel_rfl⟩, ⟨by kernel_rfl, by kernel_rfl, by kernel_rfl, by kernel_rfl, by kernel_rfl, by kernel_rfl⟩, ⟨by kernel_rfl, by kernel_rfl, by kernel_rfl, by kernel_rfl, by kernel_rfl, by kernel_rfl⟩, ⟨by kernel_rfl, by kernel_rfl, by kernel_rfl, by kernel_rfl, by kernel_rfl, by kernel_rfl⟩, trivial⟩
theorem mkS {f : FuncId} {c : Code} {X : Ctx} {As : List ATy} {R : List (Bool × Ty)} {M : List RMode} (fn : Func) (hc : allP (fun p => Sound Tryz.prog GG p.1 p.2) X.con) (hm : allP (fun p => SoundM Tryz.prog n0 GG p.1 p.2) X.mcon) (hT : X.types = TT := by rfl) (hg : X.globals = [] := by rfl) (hf : Tryz.prog.funcs[f]? = some fn := by kernel_rfl) (hb : fn.body = some c := by kernel_rfl) (hn : (fn.name == "runtime.NumGoroutine") = false := by kernel_rfl) (hr : X.results = fn.results.toList := by kernel_rfl) (ht : X.ntmps = fn.ntmps := by kernel_rfl) (hA : decide (As.length ≤ X.ntmps ∧ X.ntmps ≤ lentBase) = true := by kernel_rfl) : Sound Tryz.prog GG f ⟨As, R, M, runF X c As R M⟩ :=
  sound_of_run hmix hstable (tyOK_of (by rw [hT]; exact ttOK)) (hglob X hg) (conOK_of hc) (mconOK_of hm) hf hb hn hr ht (of_decide_eq_true hA)
theorem mkSM {f : FuncId} {c : Code} {X : Ctx} {As : List ATy} {R : List (Bool × Ty)} {M : List RMode} (fn : Func) (hc : allP (fun p => Sound Tryz.prog GG p.1 p.2) X.con) (hm : allP (fun p => SoundM Tryz.prog n0 GG p.1 p.2) X.mcon) (hT : X.types = TT := by rfl) (hg : X.globals = [] := by rfl) (hf : Tryz.prog.funcs[f]? = some fn := by kernel_rfl) (hb : fn.body = some c := by kernel_rfl) (hn : (fn.name == "runtime.NumGoroutine") = false := by kernel_rfl) (hr : X.results = fn.results.toList := by kernel_rfl) (ht : X.ntmps = fn.ntmps := by kernel_rfl) (hA : decide (As.length ≤ X.ntmps ∧ X.ntmps ≤ lentBase) = true := by kernel_rfl) (hR : R.length = X.results.length := by kernel_rfl) (hms : (M.all fun | .pass _ => false | _ => true) = true := by rfl) : SoundM Tryz.prog n0 GG f ⟨As, R, M, runFM X c As R M⟩ :=
  sound_of_runM hmix hstable (tyOK_of (by rw [hT]; exact ttOK)) (hglob X hg) (conOK_of hc) (mconOK_of hm) hf hb hn hr ht (of_decide_eq_true hA) hR hms
abbrev As_box_countStairs : List ATy := [.data true T_A3]
abbrev R_box_countStairs : List (Bool × Ty) := [(false, (.int .i64))]
abbrev M_box_countStairs : List RMode := []
abbrev Ft_box_countStairs : Type := D_A3 × Unit → Option (Int × Unit)
noncomputable def X_box_countStairs : Ctx := { types := TT, globals := [], con := [], keep := [(3, ⟨[.box 1, .tmp 1, .tmp 3, .tmp 4, .tmp 10, .tmp 11], []⟩), (6, ⟨[.box 1, .tmp 1, .tmp 3, .tmp 4, .tmp 5, .tmp 10, .tmp 11, .tmp 15, .tmp 16], []⟩), (10, ⟨[.box 1, .tmp 1, .tmp 3, .tmp 4, .tmp 5, .tmp 7, .tmp 8, .tmp 10, .tmp 11, .tmp 15, .tmp 16], []⟩)], results := [.tmp 2], ntmps := 53, n := N }
noncomputable def B_box_countStairs : Code := (Tryz.f174.body).getD .skip
noncomputable def L_box_countStairs_3 (m0 : Nat) (p0 p1 p2 p3 p4 p5 p6 : Int) : Option (denL R_box_countStairs) := loopF X_box_countStairs B_box_countStairs R_box_countStairs M_box_countStairs 3 [m0] [(.ver, .num 1), (.box 1, .box 0 false [.int .i64 p0, .int .i64 p1, .int .i64 p2]), (.tmp 1, .val false [.addr 1 0 0]), (.tmp 3, .val false [.int .i64 p3]), (.tmp 4, .val false [.int .i64 p4]), (.tmp 10, .val false [.int .i64 p5]), (.tmp 11, .val false [.int .i64 p6])]
noncomputable def L_box_countStairs_6 (m0 m1 : Nat) (p0 p1 p2 p3 p4 p5 p6 p7 p8 p9 : Int) : Option (denL R_box_countStairs) := loopF X_box_countStairs B_box_countStairs R_box_countStairs M_box_countStairs 6 [m0, m1] [(.ver, .num 1), (.box 1, .box 0 false [.int .i64 p0, .int .i64 p1, .int .i64 p2]), (.tmp 1, .val false [.addr 1 0 0]), (.tmp 3, .val false [.int .i64 p3]), (.tmp 4, .val false [.int .i64 p4]), (.tmp 5, .val false [.int .i64 p5]), (.tmp 10, .val false [.int .i64 p6]), (.tmp 11, .val false [.int .i64 p7]), (.tmp 15, .val false [.int .i64 p8]), (.tmp 16, .val false [.int .i64 p9])]
noncomputable def L_box_countStairs_10 (m0 m1 m2 : Nat) (p0 p1 p2 p3 p4 p5 p6 p7 p8 p9 p10 p11 : Int) : Option (denL R_box_countStairs) := loopF X_box_countStairs B_box_countStairs R_box_countStairs M_box_countStairs 10 [m0, m1, m2] [(.ver, .num 1), (.box 1, .box 0 false [.int .i64 p0, .int .i64 p1, .int .i64 p2]), (.tmp 1, .val false [.addr 1 0 0]), (.tmp 3, .val false [.int .i64 p3]), (.tmp 4, .val false [.int .i64 p4]), (.tmp 5, .val false [.int .i64 p5]), (.tmp 7, .val false [.int .i64 p6]), (.tmp 8, .val false [.int .i64 p7]), (.tmp 10, .val false [.int .i64 p8]), (.tmp 11, .val false [.int .i64 p9]), (.tmp 15, .val false [.int .i64 p10]), (.tmp 16, .val false [.int .i64 p11])]
noncomputable def P_box_countStairs : Ft_box_countStairs := hid (runF X_box_countStairs B_box_countStairs As_box_countStairs R_box_countStairs M_box_countStairs)
theorem h_box_countStairs : P_box_countStairs = runF X_box_countStairs B_box_countStairs As_box_countStairs R_box_countStairs M_box_countStairs := hid_eq _
noncomputable def C_box_countStairs : Contract := ⟨As_box_countStairs, R_box_countStairs, M_box_countStairs, P_box_countStairs⟩
theorem s_box_countStairs : Sound Tryz.prog GG 174 C_box_countStairs := by
  unfold C_box_countStairs; rw [h_box_countStairs]
  exact mkS Tryz.f174 trivial trivial
noncomputable def l_box_countStairs_3 := hid (L_box_countStairs_3)
theorem h_box_countStairs_3 : l_box_countStairs_3 = L_box_countStairs_3 := hid_eq _
noncomputable def l_box_countStairs_6 := hid (L_box_countStairs_6)
theorem h_box_countStairs_6 : l_box_countStairs_6 = L_box_countStairs_6 := hid_eq _
noncomputable def l_box_countStairs_10 := hid (L_box_countStairs_10)
theorem h_box_countStairs_10 : l_box_countStairs_10 = L_box_countStairs_10 := hid_eq _
theorem p_box_countStairs (a0 : D_A3) : P_box_countStairs (a0, ()) =
  l_box_countStairs_3 N a0.1 a0.2.1 a0.2.2.1 1 1 a0.1 0 := by
  rewrite [h_box_countStairs, h_box_countStairs_3]
  kernel_rfl
theorem q_box_countStairs_3 (m0 : Nat) (p0 p1 p2 p3 p4 p5 p6 : Int) : l_box_countStairs_3 (m0 + 1) p0 p1 p2 p3 p4 p5 p6 =
  bif decide (p6 < p5) then
    l_box_countStairs_6 m0 N p0 p1 p2 p3 p4 p6 p5 p6 p1 0
  else
    bif !decide (p4 = 0) then
      some ((IntKind.wrap .i64 (Int.tdiv p3 p4)), ())
    else none := by
  rewrite [h_box_countStairs_3, h_box_countStairs_6]
  kernel_rfl
theorem q_box_countStairs_6 (m0 m1 : Nat) (p0 p1 p2 p3 p4 p5 p6 p7 p8 p9 : Int) : l_box_countStairs_6 m0 (m1 + 1) p0 p1 p2 p3 p4 p5 p6 p7 p8 p9 =
  bif decide (p9 < p8) then
    l_box_countStairs_10 m0 m1 N p0 p1 p2 (IntKind.wrap .i64 (p3 * (IntKind.wrap .i64 ((IntKind.wrap .i64 ((IntKind.wrap .i64 (p5 + p9)) + 1)) + p2)))) (IntKind.wrap .i64 (p4 * (IntKind.wrap .i64 ((IntKind.wrap .i64 (p5 + p9)) + 1)))) p5 (IntKind.wrap .i64 (p3 * (IntKind.wrap .i64 ((IntKind.wrap .i64 ((IntKind.wrap .i64 (p5 + p9)) + 1)) + p2)))) (IntKind.wrap .i64 (p4 * (IntKind.wrap .i64 ((IntKind.wrap .i64 (p5 + p9)) + 1)))) p6 p7 p8 p9
  else
    l_box_countStairs_3 m0 p0 p1 p2 p3 p4 p6 (IntKind.wrap .i64 (p7 + 1)) := by
  rewrite [h_box_countStairs_3, h_box_countStairs_6, h_box_countStairs_10]
  kernel_rfl
theorem q_box_countStairs_10 (m0 m1 m2 : Nat) (p0 p1 p2 p3 p4 p5 p6 p7 p8 p9 p10 p11 : Int) : l_box_countStairs_10 m0 m1 (m2 + 1) p0 p1 p2 p3 p4 p5 p6 p7 p8 p9 p10 p11 =
  bif !decide (p7 = 0) then
    bif !decide (p7 = 0) then
      l_box_countStairs_10 m0 m1 m2 p0 p1 p2 p3 p4 p5 p7 (Int.tmod p6 p7) p8 p9 p10 p11
    else none
  else
    bif !decide (p6 = 0) then
      bif !decide (p6 = 0) then
        l_box_countStairs_6 m0 m1 p0 p1 p2 (IntKind.wrap .i64 (Int.tdiv p3 p6)) (IntKind.wrap .i64 (Int.tdiv p4 p6)) p5 p8 p9 p10 (IntKind.wrap .i64 (p11 + 1))
      else none
    else none := by
  rewrite [h_box_countStairs_6, h_box_countStairs_10]
  kernel_rfl
abbrev As_laws_vBig : List ATy := [.data false (.sl (.int .u8))]
abbrev R_laws_vBig : List (Bool × Ty) := [(false, .bool)]
abbrev M_laws_vBig : List RMode := []
abbrev Ft_laws_vBig : Type := (List Int) × Unit → Option (Bool × Unit)
noncomputable def X_laws_vBig : Ctx := { types := TT, globals := [], con := [], keep := [], results := [.tmp 2], ntmps := 6, n := N }
noncomputable def B_laws_vBig : Code := (Tryz.f6.body).getD .skip
noncomputable def P_laws_vBig : Ft_laws_vBig := hid (runF X_laws_vBig B_laws_vBig As_laws_vBig R_laws_vBig M_laws_vBig)
theorem h_laws_vBig : P_laws_vBig = runF X_laws_vBig B_laws_vBig As_laws_vBig R_laws_vBig M_laws_vBig := hid_eq _
noncomputable def C_laws_vBig : Contract := ⟨As_laws_vBig, R_laws_vBig, M_laws_vBig, P_laws_vBig⟩
theorem s_laws_vBig : Sound Tryz.prog GG 6 C_laws_vBig := by
  unfold C_laws_vBig; rw [h_laws_vBig]
  exact mkS Tryz.f6 trivial trivial
theorem p_laws_vBig (a0 : List Int) : P_laws_vBig (a0, ()) =
  some (decide ((List.length a0 : Int) > 65536), ()) := by
  rewrite [h_laws_vBig]
  kernel_rfl
abbrev As_spec_l2Has : List ATy := [.data true T_Heap, .data true T_A3]
abbrev R_spec_l2Has : List (Bool × Ty) := [(false, .bool)]
abbrev M_spec_l2Has : List RMode := []
abbrev Ft_spec_l2Has : Type := D_Heap × D_A3 × Unit → Option (Bool × Unit)
noncomputable def X_spec_l2Has : Ctx := { types := TT, globals := [], con := [], keep := [(2, ⟨[.box 2, .box 3, .tmp 2, .tmp 3, .tmp 5], []⟩)], results := [.tmp 4], ntmps := 20, n := N }
noncomputable def B_spec_l2Has : Code := (Tryz.f84.body).getD .skip
noncomputable def L_spec_l2Has_2 (m0 : Nat) (p0 p1 p2 : Int) (p3 : List D_A3) (p4 p5 p6 p7 : Int) : Option (denL R_spec_l2Has) := loopF X_spec_l2Has B_spec_l2Has R_spec_l2Has M_spec_l2Has 2 [m0] [(.ver, .num 1), (.box 2, .box 0 false [.int .i64 p0, .int .i64 p1, .int .i64 p2, .imm T_A3 p3 (some 3)]), (.box 3, .box 0 false [.int .i64 p4, .int .i64 p5, .int .i64 p6]), (.tmp 2, .val false [.addr 2 0 0]), (.tmp 3, .val false [.addr 3 0 0]), (.tmp 5, .val false [.int .i64 p7])]
noncomputable def P_spec_l2Has : Ft_spec_l2Has := hid (runF X_spec_l2Has B_spec_l2Has As_spec_l2Has R_spec_l2Has M_spec_l2Has)
theorem h_spec_l2Has : P_spec_l2Has = runF X_spec_l2Has B_spec_l2Has As_spec_l2Has R_spec_l2Has M_spec_l2Has := hid_eq _
noncomputable def C_spec_l2Has : Contract := ⟨As_spec_l2Has, R_spec_l2Has, M_spec_l2Has, P_spec_l2Has⟩
theorem s_spec_l2Has : Sound Tryz.prog GG 84 C_spec_l2Has := by
  unfold C_spec_l2Has; rw [h_spec_l2Has]
  exact mkS Tryz.f84 trivial trivial
noncomputable def l_spec_l2Has_2 := hid (L_spec_l2Has_2)
theorem h_spec_l2Has_2 : l_spec_l2Has_2 = L_spec_l2Has_2 := hid_eq _
theorem p_spec_l2Has (a0 : D_Heap) (a1 : D_A3) : P_spec_l2Has (a0, a1, ()) =
  l_spec_l2Has_2 N a0.1 a0.2.1 a0.2.2.1 a0.2.2.2.1 a1.1 a1.2.1 a1.2.2.1 0 := by
  rewrite [h_spec_l2Has, h_spec_l2Has_2]
  kernel_rfl
theorem q_spec_l2Has_2 (m0 : Nat) (p0 p1 p2 : Int) (p3 : List D_A3) (p4 p5 p6 p7 : Int) : l_spec_l2Has_2 (m0 + 1) p0 p1 p2 p3 p4 p5 p6 p7 =
  bif decide (p7 < (List.length p3 : Int)) then
    bif inB p7 (List.length p3) then
      bif (decide (((nth T_A3 p3 p7)).1 = p4) && (decide ((((nth T_A3 p3 p7)).2).1 = p5) && (decide (((((nth T_A3 p3 p7)).2).2).1 = p6) && true))) then
        some (true, ())
      else
        l_spec_l2Has_2 m0 p0 p1 p2 p3 p4 p5 p6 (IntKind.wrap .i64 (p7 + 1))
    else none
  else
    some (false, ()) := by
  rewrite [h_spec_l2Has_2]
  kernel_rfl
abbrev As_spec_l5Stair : List ATy := [.data true T_Heap]
abbrev R_spec_l5Stair : List (Bool × Ty) := [(false, .bool)]
abbrev M_spec_l5Stair : List RMode := []
abbrev Ft_spec_l5Stair : Type := D_Heap × Unit → Option (Bool × Unit)
noncomputable def X_spec_l5Stair : Ctx := { types := TT, globals := [], con := [(84, C_spec_l2Has)], keep := [(2, ⟨[.box 1, .tmp 1, .tmp 3], []⟩), (5, ⟨[.box 1, .tmp 1, .tmp 3, .tmp 4], []⟩)], results := [.tmp 2], ntmps := 37, n := N }
noncomputable def B_spec_l5Stair : Code := (Tryz.f70.body).getD .skip
noncomputable def L_spec_l5Stair_2 (m0 : Nat) (p0 p1 p2 : Int) (p3 : List D_A3) (p4 : Int) : Option (denL R_spec_l5Stair) := loopF X_spec_l5Stair B_spec_l5Stair R_spec_l5Stair M_spec_l5Stair 2 [m0] [(.ver, .num 1), (.box 1, .box 0 false [.int .i64 p0, .int .i64 p1, .int .i64 p2, .imm T_A3 p3 (some 3)]), (.tmp 1, .val false [.addr 1 0 0]), (.tmp 3, .val false [.int .i64 p4])]
noncomputable def L_spec_l5Stair_5 (m0 m1 : Nat) (p0 p1 p2 : Int) (p3 : List D_A3) (p4 p5 : Int) : Option (denL R_spec_l5Stair) := loopF X_spec_l5Stair B_spec_l5Stair R_spec_l5Stair M_spec_l5Stair 5 [m0, m1] [(.ver, .num 1), (.box 1, .box 0 false [.int .i64 p0, .int .i64 p1, .int .i64 p2, .imm T_A3 p3 (some 3)]), (.tmp 1, .val false [.addr 1 0 0]), (.tmp 3, .val false [.int .i64 p4]), (.tmp 4, .val false [.int .i64 p5])]
noncomputable def P_spec_l5Stair : Ft_spec_l5Stair := hid (runF X_spec_l5Stair B_spec_l5Stair As_spec_l5Stair R_spec_l5Stair M_spec_l5Stair)
theorem h_spec_l5Stair : P_spec_l5Stair = runF X_spec_l5Stair B_spec_l5Stair As_spec_l5Stair R_spec_l5Stair M_spec_l5Stair := hid_eq _
noncomputable def C_spec_l5Stair : Contract := ⟨As_spec_l5Stair, R_spec_l5Stair, M_spec_l5Stair, P_spec_l5Stair⟩
theorem s_spec_l5Stair : Sound Tryz.prog GG 70 C_spec_l5Stair := by
  unfold C_spec_l5Stair; rw [h_spec_l5Stair]
  exact mkS Tryz.f70 ⟨s_spec_l2Has, trivial⟩ trivial
noncomputable def l_spec_l5Stair_2 := hid (L_spec_l5Stair_2)
theorem h_spec_l5Stair_2 : l_spec_l5Stair_2 = L_spec_l5Stair_2 := hid_eq _
noncomputable def l_spec_l5Stair_5 := hid (L_spec_l5Stair_5)
theorem h_spec_l5Stair_5 : l_spec_l5Stair_5 = L_spec_l5Stair_5 := hid_eq _
theorem p_spec_l5Stair (a0 : D_Heap) : P_spec_l5Stair (a0, ()) =
  l_spec_l5Stair_2 N a0.1 a0.2.1 a0.2.2.1 a0.2.2.2.1 0 := by
  rewrite [h_spec_l5Stair, h_spec_l5Stair_2]
  kernel_rfl
theorem q_spec_l5Stair_2 (m0 : Nat) (p0 p1 p2 : Int) (p3 : List D_A3) (p4 : Int) : l_spec_l5Stair_2 (m0 + 1) p0 p1 p2 p3 p4 =
  bif decide (p4 < (List.length p3 : Int)) then
    l_spec_l5Stair_5 m0 N p0 p1 p2 p3 p4 0
  else
    some (true, ()) := by
  rewrite [h_spec_l5Stair_2, h_spec_l5Stair_5]
  kernel_rfl
theorem q_spec_l5Stair_5 (m0 m1 : Nat) (p0 p1 p2 : Int) (p3 : List D_A3) (p4 p5 : Int) : l_spec_l5Stair_5 m0 (m1 + 1) p0 p1 p2 p3 p4 p5 =
  bif decide (p5 < 3) then
    bif inB p4 (List.length p3) then
      bif inB p5 3 then
        bif inB p5 3 then
          bif inB p5 3 then
            bif decide ((bif decide (p5 = (0 : Int)) then (bif decide (p5 = (0 : Int)) then (IntKind.wrap .i64 ((bif decide (p5 = (0 : Int)) then ((nth T_A3 p3 p4)).1 else (bif decide (p5 = (1 : Int)) then (((nth T_A3 p3 p4)).2).1 else ((((nth T_A3 p3 p4)).2).2).1)) - 1)) else ((nth T_A3 p3 p4)).1) else (bif decide (p5 = (1 : Int)) then (bif decide (p5 = (1 : Int)) then (IntKind.wrap .i64 ((bif decide (p5 = (0 : Int)) then ((nth T_A3 p3 p4)).1 else (bif decide (p5 = (1 : Int)) then (((nth T_A3 p3 p4)).2).1 else ((((nth T_A3 p3 p4)).2).2).1)) - 1)) else (((nth T_A3 p3 p4)).2).1) else (bif decide (p5 = (2 : Int)) then (IntKind.wrap .i64 ((bif decide (p5 = (0 : Int)) then ((nth T_A3 p3 p4)).1 else (bif decide (p5 = (1 : Int)) then (((nth T_A3 p3 p4)).2).1 else ((((nth T_A3 p3 p4)).2).2).1)) - 1)) else ((((nth T_A3 p3 p4)).2).2).1))) ≥ 0) then
              Option.bind (P_spec_l2Has ((p0, (p1, (p2, (p3, ())))), ((bif decide (p5 = (0 : Int)) then (IntKind.wrap .i64 ((bif decide (p5 = (0 : Int)) then ((nth T_A3 p3 p4)).1 else (bif decide (p5 = (1 : Int)) then (((nth T_A3 p3 p4)).2).1 else ((((nth T_A3 p3 p4)).2).2).1)) - 1)) else ((nth T_A3 p3 p4)).1), ((bif decide (p5 = (1 : Int)) then (IntKind.wrap .i64 ((bif decide (p5 = (0 : Int)) then ((nth T_A3 p3 p4)).1 else (bif decide (p5 = (1 : Int)) then (((nth T_A3 p3 p4)).2).1 else ((((nth T_A3 p3 p4)).2).2).1)) - 1)) else (((nth T_A3 p3 p4)).2).1), ((bif decide (p5 = (2 : Int)) then (IntKind.wrap .i64 ((bif decide (p5 = (0 : Int)) then ((nth T_A3 p3 p4)).1 else (bif decide (p5 = (1 : Int)) then (((nth T_A3 p3 p4)).2).1 else ((((nth T_A3 p3 p4)).2).2).1)) - 1)) else ((((nth T_A3 p3 p4)).2).2).1), ()))), ())) fun r6 =>
              bif !r6.1 then
                some (false, ())
              else
                l_spec_l5Stair_5 m0 m1 p0 p1 p2 p3 p4 (IntKind.wrap .i64 (p5 + 1))
            else
              l_spec_l5Stair_5 m0 m1 p0 p1 p2 p3 p4 (IntKind.wrap .i64 (p5 + 1))
          else none
        else none
      else none
    else none
  else
    l_spec_l5Stair_2 m0 p0 p1 p2 p3 (IntKind.wrap .i64 (p4 + 1)) := by
  rewrite [h_spec_l5Stair_2, h_spec_l5Stair_5]
  kernel_rfl
abbrev As_spec_l1In : List ATy := [.data false (.int .i64), .data false (.int .i64), .data false (.int .i64)]
abbrev R_spec_l1In : List (Bool × Ty) := [(false, .bool)]
abbrev M_spec_l1In : List RMode := []
abbrev Ft_spec_l1In : Type := Int × Int × Int × Unit → Option (Bool × Unit)
noncomputable def X_spec_l1In : Ctx := { types := TT, globals := [], con := [], keep := [], results := [.tmp 6], ntmps := 15, n := N }
noncomputable def B_spec_l1In : Code := (Tryz.f191.body).getD .skip
noncomputable def P_spec_l1In : Ft_spec_l1In := hid (runF X_spec_l1In B_spec_l1In As_spec_l1In R_spec_l1In M_spec_l1In)
theorem h_spec_l1In : P_spec_l1In = runF X_spec_l1In B_spec_l1In As_spec_l1In R_spec_l1In M_spec_l1In := hid_eq _
noncomputable def C_spec_l1In : Contract := ⟨As_spec_l1In, R_spec_l1In, M_spec_l1In, P_spec_l1In⟩
theorem s_spec_l1In : Sound Tryz.prog GG 191 C_spec_l1In := by
  unfold C_spec_l1In; rw [h_spec_l1In]
  exact mkS Tryz.f191 trivial trivial
theorem p_spec_l1In (a0 : Int) (a1 : Int) (a2 : Int) : P_spec_l1In (a0, a1, a2, ()) =
  bif decide (a0 ≥ a1) then
    some (decide (a0 ≤ a2), ())
  else
    some (false, ()) := by
  rewrite [h_spec_l1In]
  kernel_rfl
abbrev As_spec_l2Sides : List ATy := [.data false (.int .i64), .data false (.int .i64), .data false (.int .i64)]
abbrev R_spec_l2Sides : List (Bool × Ty) := [(false, .bool)]
abbrev M_spec_l2Sides : List RMode := []
abbrev Ft_spec_l2Sides : Type := Int × Int × Int × Unit → Option (Bool × Unit)
noncomputable def X_spec_l2Sides : Ctx := { types := TT, globals := [], con := [(191, C_spec_l1In)], keep := [], results := [.tmp 6], ntmps := 17, n := N }
noncomputable def B_spec_l2Sides : Code := (Tryz.f159.body).getD .skip
noncomputable def P_spec_l2Sides : Ft_spec_l2Sides := hid (runF X_spec_l2Sides B_spec_l2Sides As_spec_l2Sides R_spec_l2Sides M_spec_l2Sides)
theorem h_spec_l2Sides : P_spec_l2Sides = runF X_spec_l2Sides B_spec_l2Sides As_spec_l2Sides R_spec_l2Sides M_spec_l2Sides := hid_eq _
noncomputable def C_spec_l2Sides : Contract := ⟨As_spec_l2Sides, R_spec_l2Sides, M_spec_l2Sides, P_spec_l2Sides⟩
theorem s_spec_l2Sides : Sound Tryz.prog GG 159 C_spec_l2Sides := by
  unfold C_spec_l2Sides; rw [h_spec_l2Sides]
  exact mkS Tryz.f159 ⟨s_spec_l1In, trivial⟩ trivial
theorem p_spec_l2Sides (a0 : Int) (a1 : Int) (a2 : Int) : P_spec_l2Sides (a0, a1, a2, ()) =
  Option.bind (P_spec_l1In (a0, 1, 4, ())) fun r0 =>
  bif r0.1 then
    Option.bind (P_spec_l1In (a1, 1, 4, ())) fun r2 =>
    bif r2.1 then
      Option.bind (P_spec_l1In (a2, 1, 4, ())) fun r4 =>
      some (r4.1, ())
    else
      some (false, ())
  else
    some (false, ()) := by
  rewrite [h_spec_l2Sides]
  kernel_rfl
abbrev As_spec_l2In : List ATy := [.data true T_Heap, .data true T_A3]
abbrev R_spec_l2In : List (Bool × Ty) := [(false, .bool)]
abbrev M_spec_l2In : List RMode := []
abbrev Ft_spec_l2In : Type := D_Heap × D_A3 × Unit → Option (Bool × Unit)
noncomputable def X_spec_l2In : Ctx := { types := TT, globals := [], con := [(191, C_spec_l1In)], keep := [], results := [.tmp 4], ntmps := 27, n := N }
noncomputable def B_spec_l2In : Code := (Tryz.f162.body).getD .skip
noncomputable def P_spec_l2In : Ft_spec_l2In := hid (runF X_spec_l2In B_spec_l2In As_spec_l2In R_spec_l2In M_spec_l2In)
theorem h_spec_l2In : P_spec_l2In = runF X_spec_l2In B_spec_l2In As_spec_l2In R_spec_l2In M_spec_l2In := hid_eq _
noncomputable def C_spec_l2In : Contract := ⟨As_spec_l2In, R_spec_l2In, M_spec_l2In, P_spec_l2In⟩
theorem s_spec_l2In : Sound Tryz.prog GG 162 C_spec_l2In := by
  unfold C_spec_l2In; rw [h_spec_l2In]
  exact mkS Tryz.f162 ⟨s_spec_l1In, trivial⟩ trivial
theorem p_spec_l2In (a0 : D_Heap) (a1 : D_A3) : P_spec_l2In (a0, a1, ()) =
  Option.bind (P_spec_l1In (a1.1, 0, (IntKind.wrap .i64 (a0.1 - 1)), ())) fun r0 =>
  bif r0.1 then
    Option.bind (P_spec_l1In (a1.2.1, 0, (IntKind.wrap .i64 (a0.2.1 - 1)), ())) fun r2 =>
    bif r2.1 then
      Option.bind (P_spec_l1In (a1.2.2.1, 0, (IntKind.wrap .i64 (a0.2.2.1 - 1)), ())) fun r4 =>
      some (r4.1, ())
    else
      some (false, ())
  else
    some (false, ()) := by
  rewrite [h_spec_l2In]
  kernel_rfl
abbrev As_spec_l2Before : List ATy := [.data true T_A3, .data true T_A3]
abbrev R_spec_l2Before : List (Bool × Ty) := [(false, .bool)]
abbrev M_spec_l2Before : List RMode := []
abbrev Ft_spec_l2Before : Type := D_A3 × D_A3 × Unit → Option (Bool × Unit)
noncomputable def X_spec_l2Before : Ctx := { types := TT, globals := [], con := [], keep := [(2, ⟨[.box 2, .box 3, .tmp 2, .tmp 3, .tmp 5], []⟩)], results := [.tmp 4], ntmps := 24, n := N }
noncomputable def B_spec_l2Before : Code := (Tryz.f163.body).getD .skip
noncomputable def L_spec_l2Before_2 (m0 : Nat) (p0 p1 p2 p3 p4 p5 p6 : Int) : Option (denL R_spec_l2Before) := loopF X_spec_l2Before B_spec_l2Before R_spec_l2Before M_spec_l2Before 2 [m0] [(.ver, .num 1), (.box 2, .box 0 false [.int .i64 p0, .int .i64 p1, .int .i64 p2]), (.box 3, .box 0 false [.int .i64 p3, .int .i64 p4, .int .i64 p5]), (.tmp 2, .val false [.addr 2 0 0]), (.tmp 3, .val false [.addr 3 0 0]), (.tmp 5, .val false [.int .i64 p6])]
noncomputable def P_spec_l2Before : Ft_spec_l2Before := hid (runF X_spec_l2Before B_spec_l2Before As_spec_l2Before R_spec_l2Before M_spec_l2Before)
theorem h_spec_l2Before : P_spec_l2Before = runF X_spec_l2Before B_spec_l2Before As_spec_l2Before R_spec_l2Before M_spec_l2Before := hid_eq _
noncomputable def C_spec_l2Before : Contract := ⟨As_spec_l2Before, R_spec_l2Before, M_spec_l2Before, P_spec_l2Before⟩
theorem s_spec_l2Before : Sound Tryz.prog GG 163 C_spec_l2Before := by
  unfold C_spec_l2Before; rw [h_spec_l2Before]
  exact mkS Tryz.f163 trivial trivial
noncomputable def l_spec_l2Before_2 := hid (L_spec_l2Before_2)
theorem h_spec_l2Before_2 : l_spec_l2Before_2 = L_spec_l2Before_2 := hid_eq _
theorem p_spec_l2Before (a0 : D_A3) (a1 : D_A3) : P_spec_l2Before (a0, a1, ()) =
  l_spec_l2Before_2 N a0.1 a0.2.1 a0.2.2.1 a1.1 a1.2.1 a1.2.2.1 0 := by
  rewrite [h_spec_l2Before, h_spec_l2Before_2]
  kernel_rfl
theorem q_spec_l2Before_2 (m0 : Nat) (p0 p1 p2 p3 p4 p5 p6 : Int) : l_spec_l2Before_2 (m0 + 1) p0 p1 p2 p3 p4 p5 p6 =
  bif decide (p6 < 3) then
    bif inB p6 3 then
      bif inB p6 3 then
        bif !decide ((bif decide (p6 = (0 : Int)) then p0 else (bif decide (p6 = (1 : Int)) then p1 else p2)) = (bif decide (p6 = (0 : Int)) then p3 else (bif decide (p6 = (1 : Int)) then p4 else p5))) then
          bif inB p6 3 then
            bif inB p6 3 then
              some (decide ((bif decide (p6 = (0 : Int)) then p0 else (bif decide (p6 = (1 : Int)) then p1 else p2)) < (bif decide (p6 = (0 : Int)) then p3 else (bif decide (p6 = (1 : Int)) then p4 else p5))), ())
            else none
          else none
        else
          l_spec_l2Before_2 m0 p0 p1 p2 p3 p4 p5 (IntKind.wrap .i64 (p6 + 1))
      else none
    else none
  else
    some (false, ()) := by
  rewrite [h_spec_l2Before_2]
  kernel_rfl
abbrev As_spec_l2Heap : List ATy := [.data true T_Heap]
abbrev R_spec_l2Heap : List (Bool × Ty) := [(false, .bool)]
abbrev M_spec_l2Heap : List RMode := []
abbrev Ft_spec_l2Heap : Type := D_Heap × Unit → Option (Bool × Unit)
noncomputable def X_spec_l2Heap : Ctx := { types := TT, globals := [], con := [(159, C_spec_l2Sides), (162, C_spec_l2In), (163, C_spec_l2Before)], keep := [(4, ⟨[.box 1, .tmp 1, .tmp 3], []⟩)], results := [.tmp 2], ntmps := 46, n := N }
noncomputable def B_spec_l2Heap : Code := (Tryz.f69.body).getD .skip
noncomputable def L_spec_l2Heap_4 (m0 : Nat) (p0 p1 p2 : Int) (p3 : List D_A3) (p4 : Int) : Option (denL R_spec_l2Heap) := loopF X_spec_l2Heap B_spec_l2Heap R_spec_l2Heap M_spec_l2Heap 4 [m0] [(.ver, .num 1), (.box 1, .box 0 false [.int .i64 p0, .int .i64 p1, .int .i64 p2, .imm T_A3 p3 (some 3)]), (.tmp 1, .val false [.addr 1 0 0]), (.tmp 3, .val false [.int .i64 p4])]
noncomputable def P_spec_l2Heap : Ft_spec_l2Heap := hid (runF X_spec_l2Heap B_spec_l2Heap As_spec_l2Heap R_spec_l2Heap M_spec_l2Heap)
theorem h_spec_l2Heap : P_spec_l2Heap = runF X_spec_l2Heap B_spec_l2Heap As_spec_l2Heap R_spec_l2Heap M_spec_l2Heap := hid_eq _
noncomputable def C_spec_l2Heap : Contract := ⟨As_spec_l2Heap, R_spec_l2Heap, M_spec_l2Heap, P_spec_l2Heap⟩
theorem s_spec_l2Heap : Sound Tryz.prog GG 69 C_spec_l2Heap := by
  unfold C_spec_l2Heap; rw [h_spec_l2Heap]
  exact mkS Tryz.f69 ⟨s_spec_l2Sides, s_spec_l2In, s_spec_l2Before, trivial⟩ trivial
noncomputable def l_spec_l2Heap_4 := hid (L_spec_l2Heap_4)
theorem h_spec_l2Heap_4 : l_spec_l2Heap_4 = L_spec_l2Heap_4 := hid_eq _
theorem p_spec_l2Heap (a0 : D_Heap) : P_spec_l2Heap (a0, ()) =
  Option.bind (P_spec_l2Sides (a0.1, a0.2.1, a0.2.2.1, ())) fun r0 =>
  bif !r0.1 then
    some (false, ())
  else
    l_spec_l2Heap_4 N a0.1 a0.2.1 a0.2.2.1 a0.2.2.2.1 0 := by
  rewrite [h_spec_l2Heap, h_spec_l2Heap_4]
  kernel_rfl
theorem q_spec_l2Heap_4 (m0 : Nat) (p0 p1 p2 : Int) (p3 : List D_A3) (p4 : Int) : l_spec_l2Heap_4 (m0 + 1) p0 p1 p2 p3 p4 =
  bif decide (p4 < (List.length p3 : Int)) then
    bif inB p4 (List.length p3) then
      Option.bind (P_spec_l2In ((p0, (p1, (p2, (p3, ())))), (nth T_A3 p3 p4), ())) fun r2 =>
      bif !r2.1 then
        some (false, ())
      else
        bif decide (p4 > 0) then
          bif inB (IntKind.wrap .i64 (p4 - 1)) (List.length p3) then
            bif inB p4 (List.length p3) then
              Option.bind (P_spec_l2Before ((nth T_A3 p3 (IntKind.wrap .i64 (p4 - 1))), (nth T_A3 p3 p4), ())) fun r7 =>
              bif !r7.1 then
                some (false, ())
              else
                l_spec_l2Heap_4 m0 p0 p1 p2 p3 (IntKind.wrap .i64 (p4 + 1))
            else none
          else none
        else
          l_spec_l2Heap_4 m0 p0 p1 p2 p3 (IntKind.wrap .i64 (p4 + 1))
    else none
  else
    some (true, ()) := by
  rewrite [h_spec_l2Heap_4]
  kernel_rfl
abbrev As_spec_l5Good : List ATy := [.data true T_Heap]
abbrev R_spec_l5Good : List (Bool × Ty) := [(false, .bool)]
abbrev M_spec_l5Good : List RMode := []
abbrev Ft_spec_l5Good : Type := D_Heap × Unit → Option (Bool × Unit)
noncomputable def X_spec_l5Good : Ctx := { types := TT, globals := [], con := [(69, C_spec_l2Heap), (70, C_spec_l5Stair)], keep := [], results := [.tmp 2], ntmps := 9, n := N }
noncomputable def B_spec_l5Good : Code := (Tryz.f72.body).getD .skip
noncomputable def P_spec_l5Good : Ft_spec_l5Good := hid (runF X_spec_l5Good B_spec_l5Good As_spec_l5Good R_spec_l5Good M_spec_l5Good)
theorem h_spec_l5Good : P_spec_l5Good = runF X_spec_l5Good B_spec_l5Good As_spec_l5Good R_spec_l5Good M_spec_l5Good := hid_eq _
noncomputable def C_spec_l5Good : Contract := ⟨As_spec_l5Good, R_spec_l5Good, M_spec_l5Good, P_spec_l5Good⟩
theorem s_spec_l5Good : Sound Tryz.prog GG 72 C_spec_l5Good := by
  unfold C_spec_l5Good; rw [h_spec_l5Good]
  exact mkS Tryz.f72 ⟨s_spec_l2Heap, s_spec_l5Stair, trivial⟩ trivial
theorem p_spec_l5Good (a0 : D_Heap) : P_spec_l5Good (a0, ()) =
  Option.bind (P_spec_l2Heap (a0, ())) fun r0 =>
  bif r0.1 then
    Option.bind (P_spec_l5Stair (a0, ())) fun r2 =>
    some (r2.1, ())
  else
    some (false, ()) := by
  rewrite [h_spec_l5Good]
  kernel_rfl
abbrev As_spec_l2All : List ATy := [.data true T_Heap]
abbrev R_spec_l2All : List (Bool × Ty) := [(false, (.sl T_A3))]
abbrev M_spec_l2All : List RMode := [.own 45]
abbrev Ft_spec_l2All : Type := D_Heap × Unit → Option ((List D_A3) × Unit)
noncomputable def X_spec_l2All : Ctx := { types := TT, globals := [], con := [], keep := [(3, ⟨[.box 1, .tmp 1, .tmp 3, .tmp 4], []⟩), (6, ⟨[.box 1, .tmp 1, .tmp 3, .tmp 4, .tmp 5], []⟩), (9, ⟨[.box 1, .tmp 1, .tmp 3, .tmp 4, .tmp 5, .tmp 6], []⟩)], results := [.tmp 2], ntmps := 34, n := N }
noncomputable def B_spec_l2All : Code := (Tryz.f83.body).getD .skip
noncomputable def L_spec_l2All_3 (m0 : Nat) (p0 p1 p2 : Int) (p3 p4 : List D_A3) (p5 : Int) : Option (denL R_spec_l2All) := loopF X_spec_l2All B_spec_l2All R_spec_l2All M_spec_l2All 3 [m0] [(.ver, .num 1), (.box 1, .box 0 false [.int .i64 p0, .int .i64 p1, .int .i64 p2, .imm T_A3 p3 (some 3)]), (.tmp 1, .val false [.addr 1 0 0]), (.tmp 3, .val false [.own 45 T_A3 0 p4]), (.tmp 4, .val false [.int .i64 p5])]
noncomputable def L_spec_l2All_6 (m0 m1 : Nat) (p0 p1 p2 : Int) (p3 p4 : List D_A3) (p5 p6 : Int) : Option (denL R_spec_l2All) := loopF X_spec_l2All B_spec_l2All R_spec_l2All M_spec_l2All 6 [m0, m1] [(.ver, .num 1), (.box 1, .box 0 false [.int .i64 p0, .int .i64 p1, .int .i64 p2, .imm T_A3 p3 (some 3)]), (.tmp 1, .val false [.addr 1 0 0]), (.tmp 3, .val false [.own 45 T_A3 0 p4]), (.tmp 4, .val false [.int .i64 p5]), (.tmp 5, .val false [.int .i64 p6])]
noncomputable def L_spec_l2All_9 (m0 m1 m2 : Nat) (p0 p1 p2 : Int) (p3 p4 : List D_A3) (p5 p6 p7 : Int) : Option (denL R_spec_l2All) := loopF X_spec_l2All B_spec_l2All R_spec_l2All M_spec_l2All 9 [m0, m1, m2] [(.ver, .num 1), (.box 1, .box 0 false [.int .i64 p0, .int .i64 p1, .int .i64 p2, .imm T_A3 p3 (some 3)]), (.tmp 1, .val false [.addr 1 0 0]), (.tmp 3, .val false [.own 45 T_A3 0 p4]), (.tmp 4, .val false [.int .i64 p5]), (.tmp 5, .val false [.int .i64 p6]), (.tmp 6, .val false [.int .i64 p7])]
noncomputable def P_spec_l2All : Ft_spec_l2All := hid (runF X_spec_l2All B_spec_l2All As_spec_l2All R_spec_l2All M_spec_l2All)
theorem h_spec_l2All : P_spec_l2All = runF X_spec_l2All B_spec_l2All As_spec_l2All R_spec_l2All M_spec_l2All := hid_eq _
noncomputable def C_spec_l2All : Contract := ⟨As_spec_l2All, R_spec_l2All, M_spec_l2All, P_spec_l2All⟩
theorem s_spec_l2All : Sound Tryz.prog GG 83 C_spec_l2All := by
  unfold C_spec_l2All; rw [h_spec_l2All]
  exact mkS Tryz.f83 trivial trivial
noncomputable def l_spec_l2All_3 := hid (L_spec_l2All_3)
theorem h_spec_l2All_3 : l_spec_l2All_3 = L_spec_l2All_3 := hid_eq _
noncomputable def l_spec_l2All_6 := hid (L_spec_l2All_6)
theorem h_spec_l2All_6 : l_spec_l2All_6 = L_spec_l2All_6 := hid_eq _
noncomputable def l_spec_l2All_9 := hid (L_spec_l2All_9)
theorem h_spec_l2All_9 : l_spec_l2All_9 = L_spec_l2All_9 := hid_eq _
theorem p_spec_l2All (a0 : D_Heap) : P_spec_l2All (a0, ()) =
  l_spec_l2All_3 N a0.1 a0.2.1 a0.2.2.1 a0.2.2.2.1 ([] : List D_A3) 0 := by
  rewrite [h_spec_l2All, h_spec_l2All_3]
  kernel_rfl
theorem q_spec_l2All_3 (m0 : Nat) (p0 p1 p2 : Int) (p3 p4 : List D_A3) (p5 : Int) : l_spec_l2All_3 (m0 + 1) p0 p1 p2 p3 p4 p5 =
  bif decide (p5 < p0) then
    l_spec_l2All_6 m0 N p0 p1 p2 p3 p4 p5 0
  else
    some (p4, ()) := by
  rewrite [h_spec_l2All_3, h_spec_l2All_6]
  kernel_rfl
theorem q_spec_l2All_6 (m0 m1 : Nat) (p0 p1 p2 : Int) (p3 p4 : List D_A3) (p5 p6 : Int) : l_spec_l2All_6 m0 (m1 + 1) p0 p1 p2 p3 p4 p5 p6 =
  bif decide (p6 < p1) then
    l_spec_l2All_9 m0 m1 N p0 p1 p2 p3 p4 p5 p6 0
  else
    l_spec_l2All_3 m0 p0 p1 p2 p3 p4 (IntKind.wrap .i64 (p5 + 1)) := by
  rewrite [h_spec_l2All_3, h_spec_l2All_6, h_spec_l2All_9]
  kernel_rfl
theorem q_spec_l2All_9 (m0 m1 m2 : Nat) (p0 p1 p2 : Int) (p3 p4 : List D_A3) (p5 p6 p7 : Int) : l_spec_l2All_9 m0 m1 (m2 + 1) p0 p1 p2 p3 p4 p5 p6 p7 =
  bif decide (p7 < p2) then
    bif (decide (((List.length p4) + (List.length ([(p5, (p6, (p7, ())))] : List D_A3))) * 24 ≤ 140737488355328) && decide (((List.length p4) + (List.length ([(p5, (p6, (p7, ())))] : List D_A3))) ≤ 140737488355328)) then
      l_spec_l2All_9 m0 m1 m2 p0 p1 p2 p3 (p4 ++ ([(p5, (p6, (p7, ())))] : List D_A3)) p5 p6 (IntKind.wrap .i64 (p7 + 1))
    else none
  else
    l_spec_l2All_6 m0 m1 p0 p1 p2 p3 p4 p5 (IntKind.wrap .i64 (p6 + 1)) := by
  rewrite [h_spec_l2All_6, h_spec_l2All_9]
  kernel_rfl
abbrev As_spec_l2Made : List ATy := [.data true T_Heap, .data false (.sl T_A3)]
abbrev R_spec_l2Made : List (Bool × Ty) := [(true, T_Heap)]
abbrev M_spec_l2Made : List RMode := [.pass 4]
abbrev Ft_spec_l2Made : Type := D_Heap × (List D_A3) × Unit → Option (D_Heap × Unit)
noncomputable def X_spec_l2Made : Ctx := { types := TT, globals := [], con := [], keep := [], results := [.cell 4 26], ntmps := 13, n := N }
noncomputable def B_spec_l2Made : Code := (Tryz.f171.body).getD .skip
noncomputable def P_spec_l2Made : Ft_spec_l2Made := hid (runF X_spec_l2Made B_spec_l2Made As_spec_l2Made R_spec_l2Made M_spec_l2Made)
theorem h_spec_l2Made : P_spec_l2Made = runF X_spec_l2Made B_spec_l2Made As_spec_l2Made R_spec_l2Made M_spec_l2Made := hid_eq _
noncomputable def C_spec_l2Made : Contract := ⟨As_spec_l2Made, R_spec_l2Made, M_spec_l2Made, P_spec_l2Made⟩
theorem s_spec_l2Made : Sound Tryz.prog GG 171 C_spec_l2Made := by
  unfold C_spec_l2Made; rw [h_spec_l2Made]
  exact mkS Tryz.f171 trivial trivial
theorem p_spec_l2Made (a0 : D_Heap) (a1 : List D_A3) : P_spec_l2Made (a0, a1, ()) =
  some ((a0.1, (a0.2.1, (a0.2.2.1, (a1, ())))), ()) := by
  rewrite [h_spec_l2Made]
  kernel_rfl
abbrev As_spec_l2Own : List ATy := [.data true T_Heap]
abbrev R_spec_l2Own : List (Bool × Ty) := [(true, T_Heap)]
abbrev M_spec_l2Own : List RMode := [.own 45]
abbrev Ft_spec_l2Own : Type := D_Heap × Unit → Option (D_Heap × Unit)
noncomputable def X_spec_l2Own : Ctx := { types := TT, globals := [], con := [(171, C_spec_l2Made)], keep := [], results := [.cell 2 26], ntmps := 9, n := N }
noncomputable def B_spec_l2Own : Code := (Tryz.f170.body).getD .skip
noncomputable def P_spec_l2Own : Ft_spec_l2Own := hid (runF X_spec_l2Own B_spec_l2Own As_spec_l2Own R_spec_l2Own M_spec_l2Own)
theorem h_spec_l2Own : P_spec_l2Own = runF X_spec_l2Own B_spec_l2Own As_spec_l2Own R_spec_l2Own M_spec_l2Own := hid_eq _
noncomputable def C_spec_l2Own : Contract := ⟨As_spec_l2Own, R_spec_l2Own, M_spec_l2Own, P_spec_l2Own⟩
theorem s_spec_l2Own : Sound Tryz.prog GG 170 C_spec_l2Own := by
  unfold C_spec_l2Own; rw [h_spec_l2Own]
  exact mkS Tryz.f170 ⟨s_spec_l2Made, trivial⟩ trivial
theorem p_spec_l2Own (a0 : D_Heap) : P_spec_l2Own (a0, ()) =
  bif (decide (((List.length ([] : List D_A3)) + (List.length a0.2.2.2.1)) * 24 ≤ 140737488355328) && decide (((List.length ([] : List D_A3)) + (List.length a0.2.2.2.1)) ≤ 140737488355328)) then
    Option.bind (P_spec_l2Made (a0, (([] : List D_A3) ++ a0.2.2.2.1), ())) fun r1 =>
    some ((r1.1.1, (r1.1.2.1, (r1.1.2.2.1, ((([] : List D_A3) ++ a0.2.2.2.1), ())))), ())
  else none := by
  rewrite [h_spec_l2Own]
  kernel_rfl
abbrev As_spec_l2With : List ATy := [.data true T_Heap, .data true T_A3]
abbrev R_spec_l2With : List (Bool × Ty) := [(true, T_Heap)]
abbrev M_spec_l2With : List RMode := [.own 45]
abbrev Ft_spec_l2With : Type := D_Heap × D_A3 × Unit → Option (D_Heap × Unit)
noncomputable def X_spec_l2With : Ctx := { types := TT, globals := [], con := [(163, C_spec_l2Before), (170, C_spec_l2Own), (171, C_spec_l2Made)], keep := [(2, ⟨[.box 2, .box 3, .box 4, .tmp 2, .tmp 3, .tmp 4, .tmp 5], []⟩)], results := [.cell 4 26], ntmps := 54, n := N }
noncomputable def B_spec_l2With : Code := (Tryz.f85.body).getD .skip
noncomputable def L_spec_l2With_2 (m0 : Nat) (p0 p1 p2 : Int) (p3 : List D_A3) (p4 p5 p6 p7 p8 p9 : Int) (p10 : List D_A3) (p11 : Int) : Option (denL R_spec_l2With) := loopF X_spec_l2With B_spec_l2With R_spec_l2With M_spec_l2With 2 [m0] [(.ver, .num 1), (.box 2, .box 0 false [.int .i64 p0, .int .i64 p1, .int .i64 p2, .imm T_A3 p3 (some 3)]), (.box 3, .box 0 false [.int .i64 p4, .int .i64 p5, .int .i64 p6]), (.box 4, .box 0 false [.int .i64 p7, .int .i64 p8, .int .i64 p9, .own 45 T_A3 0 p10]), (.tmp 2, .val false [.addr 2 0 0]), (.tmp 3, .val false [.addr 3 0 0]), (.tmp 4, .val false [.addr 4 0 0]), (.tmp 5, .val false [.int .i64 p11])]
noncomputable def P_spec_l2With : Ft_spec_l2With := hid (runF X_spec_l2With B_spec_l2With As_spec_l2With R_spec_l2With M_spec_l2With)
theorem h_spec_l2With : P_spec_l2With = runF X_spec_l2With B_spec_l2With As_spec_l2With R_spec_l2With M_spec_l2With := hid_eq _
noncomputable def C_spec_l2With : Contract := ⟨As_spec_l2With, R_spec_l2With, M_spec_l2With, P_spec_l2With⟩
theorem s_spec_l2With : Sound Tryz.prog GG 85 C_spec_l2With := by
  unfold C_spec_l2With; rw [h_spec_l2With]
  exact mkS Tryz.f85 ⟨s_spec_l2Before, s_spec_l2Own, s_spec_l2Made, trivial⟩ trivial
noncomputable def l_spec_l2With_2 := hid (L_spec_l2With_2)
theorem h_spec_l2With_2 : l_spec_l2With_2 = L_spec_l2With_2 := hid_eq _
theorem p_spec_l2With (a0 : D_Heap) (a1 : D_A3) : P_spec_l2With (a0, a1, ()) =
  l_spec_l2With_2 N a0.1 a0.2.1 a0.2.2.1 a0.2.2.2.1 a1.1 a1.2.1 a1.2.2.1 0 0 0 ([] : List D_A3) 0 := by
  rewrite [h_spec_l2With, h_spec_l2With_2]
  kernel_rfl
theorem q_spec_l2With_2 (m0 : Nat) (p0 p1 p2 : Int) (p3 : List D_A3) (p4 p5 p6 p7 p8 p9 : Int) (p10 : List D_A3) (p11 : Int) : l_spec_l2With_2 (m0 + 1) p0 p1 p2 p3 p4 p5 p6 p7 p8 p9 p10 p11 =
  bif decide (p11 < (List.length p3 : Int)) then
    bif inB p11 (List.length p3) then
      Option.bind (P_spec_l2Before ((nth T_A3 p3 p11), (p4, (p5, (p6, ()))), ())) fun r2 =>
      bif r2.1 then
        l_spec_l2With_2 m0 p0 p1 p2 p3 p4 p5 p6 p7 p8 p9 p10 (IntKind.wrap .i64 (p11 + 1))
      else
        bif decide (p11 < (List.length p3 : Int)) then
          bif inB p11 (List.length p3) then
            bif (decide (((nth T_A3 p3 p11)).1 = p4) && (decide ((((nth T_A3 p3 p11)).2).1 = p5) && (decide (((((nth T_A3 p3 p11)).2).2).1 = p6) && true))) then
              Option.bind (P_spec_l2Own ((p0, (p1, (p2, (p3, ())))), ())) fun r7 =>
              some (r7.1, ())
            else
              bif (decide ((0 : Int) ≤ 0) && decide ((0 : Int) ≤ p11) && decide (p11 ≤ (List.length p3 : Int))) then
                bif (decide (((List.length ([] : List D_A3)) + (List.length (cut p3 0 p11))) * 24 ≤ 140737488355328) && decide (((List.length ([] : List D_A3)) + (List.length (cut p3 0 p11))) ≤ 140737488355328)) then
                  bif (decide (((List.length (([] : List D_A3) ++ (cut p3 0 p11))) + (List.length ([(p4, (p5, (p6, ())))] : List D_A3))) * 24 ≤ 140737488355328) && decide (((List.length (([] : List D_A3) ++ (cut p3 0 p11))) + (List.length ([(p4, (p5, (p6, ())))] : List D_A3))) ≤ 140737488355328)) then
                    bif (decide ((0 : Int) ≤ p11) && decide (p11 ≤ (List.length p3 : Int)) && decide ((List.length p3 : Int) ≤ (List.length p3 : Int))) then
                      bif (decide (((List.length ((([] : List D_A3) ++ (cut p3 0 p11)) ++ ([(p4, (p5, (p6, ())))] : List D_A3))) + (List.length (cut p3 p11 (List.length p3 : Int)))) * 24 ≤ 140737488355328) && decide (((List.length ((([] : List D_A3) ++ (cut p3 0 p11)) ++ ([(p4, (p5, (p6, ())))] : List D_A3))) + (List.length (cut p3 p11 (List.length p3 : Int)))) ≤ 140737488355328)) then
                        Option.bind (P_spec_l2Made ((p0, (p1, (p2, (p3, ())))), (((([] : List D_A3) ++ (cut p3 0 p11)) ++ ([(p4, (p5, (p6, ())))] : List D_A3)) ++ (cut p3 p11 (List.length p3 : Int))), ())) fun r12 =>
                        some ((r12.1.1, (r12.1.2.1, (r12.1.2.2.1, ((((([] : List D_A3) ++ (cut p3 0 p11)) ++ ([(p4, (p5, (p6, ())))] : List D_A3)) ++ (cut p3 p11 (List.length p3 : Int))), ())))), ())
                      else none
                    else none
                  else none
                else none
              else none
          else none
        else
          bif (decide ((0 : Int) ≤ 0) && decide ((0 : Int) ≤ p11) && decide (p11 ≤ (List.length p3 : Int))) then
            bif (decide (((List.length ([] : List D_A3)) + (List.length (cut p3 0 p11))) * 24 ≤ 140737488355328) && decide (((List.length ([] : List D_A3)) + (List.length (cut p3 0 p11))) ≤ 140737488355328)) then
              bif (decide (((List.length (([] : List D_A3) ++ (cut p3 0 p11))) + (List.length ([(p4, (p5, (p6, ())))] : List D_A3))) * 24 ≤ 140737488355328) && decide (((List.length (([] : List D_A3) ++ (cut p3 0 p11))) + (List.length ([(p4, (p5, (p6, ())))] : List D_A3))) ≤ 140737488355328)) then
                bif (decide ((0 : Int) ≤ p11) && decide (p11 ≤ (List.length p3 : Int)) && decide ((List.length p3 : Int) ≤ (List.length p3 : Int))) then
                  bif (decide (((List.length ((([] : List D_A3) ++ (cut p3 0 p11)) ++ ([(p4, (p5, (p6, ())))] : List D_A3))) + (List.length (cut p3 p11 (List.length p3 : Int)))) * 24 ≤ 140737488355328) && decide (((List.length ((([] : List D_A3) ++ (cut p3 0 p11)) ++ ([(p4, (p5, (p6, ())))] : List D_A3))) + (List.length (cut p3 p11 (List.length p3 : Int)))) ≤ 140737488355328)) then
                    Option.bind (P_spec_l2Made ((p0, (p1, (p2, (p3, ())))), (((([] : List D_A3) ++ (cut p3 0 p11)) ++ ([(p4, (p5, (p6, ())))] : List D_A3)) ++ (cut p3 p11 (List.length p3 : Int))), ())) fun r10 =>
                    some ((r10.1.1, (r10.1.2.1, (r10.1.2.2.1, ((((([] : List D_A3) ++ (cut p3 0 p11)) ++ ([(p4, (p5, (p6, ())))] : List D_A3)) ++ (cut p3 p11 (List.length p3 : Int))), ())))), ())
                  else none
                else none
              else none
            else none
          else none
    else none
  else
    bif decide (p11 < (List.length p3 : Int)) then
      bif inB p11 (List.length p3) then
        bif (decide (((nth T_A3 p3 p11)).1 = p4) && (decide ((((nth T_A3 p3 p11)).2).1 = p5) && (decide (((((nth T_A3 p3 p11)).2).2).1 = p6) && true))) then
          Option.bind (P_spec_l2Own ((p0, (p1, (p2, (p3, ())))), ())) fun r4 =>
          some (r4.1, ())
        else
          bif (decide ((0 : Int) ≤ 0) && decide ((0 : Int) ≤ p11) && decide (p11 ≤ (List.length p3 : Int))) then
            bif (decide (((List.length ([] : List D_A3)) + (List.length (cut p3 0 p11))) * 24 ≤ 140737488355328) && decide (((List.length ([] : List D_A3)) + (List.length (cut p3 0 p11))) ≤ 140737488355328)) then
              bif (decide (((List.length (([] : List D_A3) ++ (cut p3 0 p11))) + (List.length ([(p4, (p5, (p6, ())))] : List D_A3))) * 24 ≤ 140737488355328) && decide (((List.length (([] : List D_A3) ++ (cut p3 0 p11))) + (List.length ([(p4, (p5, (p6, ())))] : List D_A3))) ≤ 140737488355328)) then
                bif (decide ((0 : Int) ≤ p11) && decide (p11 ≤ (List.length p3 : Int)) && decide ((List.length p3 : Int) ≤ (List.length p3 : Int))) then
                  bif (decide (((List.length ((([] : List D_A3) ++ (cut p3 0 p11)) ++ ([(p4, (p5, (p6, ())))] : List D_A3))) + (List.length (cut p3 p11 (List.length p3 : Int)))) * 24 ≤ 140737488355328) && decide (((List.length ((([] : List D_A3) ++ (cut p3 0 p11)) ++ ([(p4, (p5, (p6, ())))] : List D_A3))) + (List.length (cut p3 p11 (List.length p3 : Int)))) ≤ 140737488355328)) then
                    Option.bind (P_spec_l2Made ((p0, (p1, (p2, (p3, ())))), (((([] : List D_A3) ++ (cut p3 0 p11)) ++ ([(p4, (p5, (p6, ())))] : List D_A3)) ++ (cut p3 p11 (List.length p3 : Int))), ())) fun r9 =>
                    some ((r9.1.1, (r9.1.2.1, (r9.1.2.2.1, ((((([] : List D_A3) ++ (cut p3 0 p11)) ++ ([(p4, (p5, (p6, ())))] : List D_A3)) ++ (cut p3 p11 (List.length p3 : Int))), ())))), ())
                  else none
                else none
              else none
            else none
          else none
      else none
    else
      bif (decide ((0 : Int) ≤ 0) && decide ((0 : Int) ≤ p11) && decide (p11 ≤ (List.length p3 : Int))) then
        bif (decide (((List.length ([] : List D_A3)) + (List.length (cut p3 0 p11))) * 24 ≤ 140737488355328) && decide (((List.length ([] : List D_A3)) + (List.length (cut p3 0 p11))) ≤ 140737488355328)) then
          bif (decide (((List.length (([] : List D_A3) ++ (cut p3 0 p11))) + (List.length ([(p4, (p5, (p6, ())))] : List D_A3))) * 24 ≤ 140737488355328) && decide (((List.length (([] : List D_A3) ++ (cut p3 0 p11))) + (List.length ([(p4, (p5, (p6, ())))] : List D_A3))) ≤ 140737488355328)) then
            bif (decide ((0 : Int) ≤ p11) && decide (p11 ≤ (List.length p3 : Int)) && decide ((List.length p3 : Int) ≤ (List.length p3 : Int))) then
              bif (decide (((List.length ((([] : List D_A3) ++ (cut p3 0 p11)) ++ ([(p4, (p5, (p6, ())))] : List D_A3))) + (List.length (cut p3 p11 (List.length p3 : Int)))) * 24 ≤ 140737488355328) && decide (((List.length ((([] : List D_A3) ++ (cut p3 0 p11)) ++ ([(p4, (p5, (p6, ())))] : List D_A3))) + (List.length (cut p3 p11 (List.length p3 : Int)))) ≤ 140737488355328)) then
                Option.bind (P_spec_l2Made ((p0, (p1, (p2, (p3, ())))), (((([] : List D_A3) ++ (cut p3 0 p11)) ++ ([(p4, (p5, (p6, ())))] : List D_A3)) ++ (cut p3 p11 (List.length p3 : Int))), ())) fun r7 =>
                some ((r7.1.1, (r7.1.2.1, (r7.1.2.2.1, ((((([] : List D_A3) ++ (cut p3 0 p11)) ++ ([(p4, (p5, (p6, ())))] : List D_A3)) ++ (cut p3 p11 (List.length p3 : Int))), ())))), ())
              else none
            else none
          else none
        else none
      else none := by
  rewrite [h_spec_l2With_2]
  kernel_rfl
abbrev As_spec_StairHollows : List ATy := [.data true T_Heap]
abbrev R_spec_StairHollows : List (Bool × Ty) := [(false, (.sl T_A3)), (false, .bool)]
abbrev M_spec_StairHollows : List RMode := [.own 45]
abbrev Ft_spec_StairHollows : Type := D_Heap × Unit → Option ((List D_A3) × Bool × Unit)
noncomputable def X_spec_StairHollows : Ctx := { types := TT, globals := [], con := [(70, C_spec_l5Stair), (72, C_spec_l5Good), (83, C_spec_l2All), (84, C_spec_l2Has), (85, C_spec_l2With)], keep := [(6, ⟨[.box 1, .tmp 1, .tmp 4, .tmp 5, .tmp 6], []⟩)], results := [.tmp 2, .tmp 3], ntmps := 44, n := N }
noncomputable def B_spec_StairHollows : Code := (Tryz.f15.body).getD .skip
noncomputable def L_spec_StairHollows_6 (m0 : Nat) (p0 p1 p2 : Int) (p3 p4 p5 : List D_A3) (p6 : Int) : Option (denL R_spec_StairHollows) := loopF X_spec_StairHollows B_spec_StairHollows R_spec_StairHollows M_spec_StairHollows 6 [m0] [(.ver, .num 1), (.box 1, .box 0 false [.int .i64 p0, .int .i64 p1, .int .i64 p2, .imm T_A3 p3 (some 3)]), (.tmp 1, .val false [.addr 1 0 0]), (.tmp 4, .val false [.own 45 T_A3 0 p4]), (.tmp 5, .val false [.own 45 T_A3 0 p5]), (.tmp 6, .val false [.int .i64 p6])]
noncomputable def P_spec_StairHollows : Ft_spec_StairHollows := hid (runF X_spec_StairHollows B_spec_StairHollows As_spec_StairHollows R_spec_StairHollows M_spec_StairHollows)
theorem h_spec_StairHollows : P_spec_StairHollows = runF X_spec_StairHollows B_spec_StairHollows As_spec_StairHollows R_spec_StairHollows M_spec_StairHollows := hid_eq _
noncomputable def C_spec_StairHollows : Contract := ⟨As_spec_StairHollows, R_spec_StairHollows, M_spec_StairHollows, P_spec_StairHollows⟩
theorem s_spec_StairHollows : Sound Tryz.prog GG 15 C_spec_StairHollows := by
  unfold C_spec_StairHollows; rw [h_spec_StairHollows]
  exact mkS Tryz.f15 ⟨s_spec_l5Stair, s_spec_l5Good, s_spec_l2All, s_spec_l2Has, s_spec_l2With, trivial⟩ trivial
noncomputable def l_spec_StairHollows_6 := hid (L_spec_StairHollows_6)
theorem h_spec_StairHollows_6 : l_spec_StairHollows_6 = L_spec_StairHollows_6 := hid_eq _
theorem p_spec_StairHollows (a0 : D_Heap) : P_spec_StairHollows (a0, ()) =
  Option.bind (P_spec_l5Good (a0, ())) fun r0 =>
  bif !r0.1 then
    some (([] : List D_A3), false, ())
  else
    Option.bind (P_spec_l2All (a0, ())) fun r2 =>
    l_spec_StairHollows_6 N a0.1 a0.2.1 a0.2.2.1 a0.2.2.2.1 ([] : List D_A3) r2.1 0 := by
  rewrite [h_spec_StairHollows, h_spec_StairHollows_6]
  kernel_rfl
theorem q_spec_StairHollows_6 (m0 : Nat) (p0 p1 p2 : Int) (p3 p4 p5 : List D_A3) (p6 : Int) : l_spec_StairHollows_6 (m0 + 1) p0 p1 p2 p3 p4 p5 p6 =
  bif decide (p6 < (List.length p5 : Int)) then
    bif inB p6 (List.length p5) then
      Option.bind (P_spec_l2Has ((p0, (p1, (p2, (p3, ())))), (nth T_A3 p5 p6), ())) fun r2 =>
      bif !r2.1 then
        bif inB p6 (List.length p5) then
          Option.bind (P_spec_l2With ((p0, (p1, (p2, (p3, ())))), (nth T_A3 p5 p6), ())) fun r5 =>
          Option.bind (P_spec_l5Stair (r5.1, ())) fun r6 =>
          bif r6.1 then
            bif inB p6 (List.length p5) then
              bif (decide (((List.length p4) + (List.length ([(nth T_A3 p5 p6)] : List D_A3))) * 24 ≤ 140737488355328) && decide (((List.length p4) + (List.length ([(nth T_A3 p5 p6)] : List D_A3))) ≤ 140737488355328)) then
                l_spec_StairHollows_6 m0 p0 p1 p2 p3 (p4 ++ ([(nth T_A3 p5 p6)] : List D_A3)) p5 (IntKind.wrap .i64 (p6 + 1))
              else none
            else none
          else
            l_spec_StairHollows_6 m0 p0 p1 p2 p3 p4 p5 (IntKind.wrap .i64 (p6 + 1))
        else none
      else
        l_spec_StairHollows_6 m0 p0 p1 p2 p3 p4 p5 (IntKind.wrap .i64 (p6 + 1))
    else none
  else
    some (p4, true, ()) := by
  rewrite [h_spec_StairHollows_6]
  kernel_rfl
abbrev As_spec_l2Empty : List ATy := [.data false (.int .i64), .data false (.int .i64), .data false (.int .i64)]
abbrev R_spec_l2Empty : List (Bool × Ty) := [(true, T_Heap)]
abbrev M_spec_l2Empty : List RMode := [.own 45]
abbrev Ft_spec_l2Empty : Type := Int × Int × Int × Unit → Option (D_Heap × Unit)
noncomputable def X_spec_l2Empty : Ctx := { types := TT, globals := [], con := [], keep := [], results := [.cell 6 26], ntmps := 12, n := N }
noncomputable def B_spec_l2Empty : Code := (Tryz.f89.body).getD .skip
noncomputable def P_spec_l2Empty : Ft_spec_l2Empty := hid (runF X_spec_l2Empty B_spec_l2Empty As_spec_l2Empty R_spec_l2Empty M_spec_l2Empty)
theorem h_spec_l2Empty : P_spec_l2Empty = runF X_spec_l2Empty B_spec_l2Empty As_spec_l2Empty R_spec_l2Empty M_spec_l2Empty := hid_eq _
noncomputable def C_spec_l2Empty : Contract := ⟨As_spec_l2Empty, R_spec_l2Empty, M_spec_l2Empty, P_spec_l2Empty⟩
theorem s_spec_l2Empty : Sound Tryz.prog GG 89 C_spec_l2Empty := by
  unfold C_spec_l2Empty; rw [h_spec_l2Empty]
  exact mkS Tryz.f89 trivial trivial
theorem p_spec_l2Empty (a0 : Int) (a1 : Int) (a2 : Int) : P_spec_l2Empty (a0, a1, a2, ()) =
  some ((a0, (a1, (a2, (([] : List D_A3), ())))), ()) := by
  rewrite [h_spec_l2Empty]
  kernel_rfl
abbrev As_l1Cur_next : List ATy := [.lptr T_l1Cur]
abbrev R_l1Cur_next : List (Bool × Ty) := [(false, (.int .i64))]
abbrev M_l1Cur_next : List RMode := []
abbrev Ft_l1Cur_next : Type := D_l1Cur × Unit → Option ((Int × Unit) × (D_l1Cur × Unit))
noncomputable def X_l1Cur_next : Ctx := { types := TT, globals := [], con := [], keep := [], results := [.tmp 2], ntmps := 62, n := N }
noncomputable def B_l1Cur_next : Code := (Tryz.f190.body).getD .skip
noncomputable def P_l1Cur_next : Ft_l1Cur_next := hid (runFM X_l1Cur_next B_l1Cur_next As_l1Cur_next R_l1Cur_next M_l1Cur_next)
theorem h_l1Cur_next : P_l1Cur_next = runFM X_l1Cur_next B_l1Cur_next As_l1Cur_next R_l1Cur_next M_l1Cur_next := hid_eq _
noncomputable def C_l1Cur_next : MContract := ⟨As_l1Cur_next, R_l1Cur_next, M_l1Cur_next, P_l1Cur_next⟩
theorem s_l1Cur_next : SoundM Tryz.prog n0 GG 190 C_l1Cur_next := by
  unfold C_l1Cur_next; rw [h_l1Cur_next]
  exact mkSM Tryz.f190 trivial trivial
theorem p_l1Cur_next (a0 : D_l1Cur) : P_l1Cur_next (a0, ()) =
  bif decide (a0.2.1 < (List.length a0.1 : Int)) then
    bif inB a0.2.1 (List.length a0.1) then
      bif decide ((IntKind.wrap .i64 (a0.2.1 + 1)) ≤ (List.length a0.1 : Int)) then
        some (((IntKind.wrap .i64 (nth ((.int .u8) : Ty) a0.1 a0.2.1)), ()), ((a0.1, ((IntKind.wrap .i64 (a0.2.1 + 1)), ((IntKind.wrap .u64 ((IntKind.wrap .u64 ((IntKind.wrap .u64 (a0.2.2.1 * 6364136223846793005)) + (IntKind.wrap .u64 (IntKind.wrap .i64 (nth ((.int .u8) : Ty) a0.1 a0.2.1))))) + 462197)), ()))), ()))
      else
        some (((IntKind.wrap .i64 (intBits .and .u64 (shrI .u64 (IntKind.wrap .u64 ((IntKind.wrap .u64 ((IntKind.wrap .u64 (a0.2.2.1 * 6364136223846793005)) + (IntKind.wrap .u64 (IntKind.wrap .i64 (nth ((.int .u8) : Ty) a0.1 a0.2.1))))) + 462197)) 40) 255)), ()), ((a0.1, ((IntKind.wrap .i64 (a0.2.1 + 1)), ((IntKind.wrap .u64 ((IntKind.wrap .u64 ((IntKind.wrap .u64 (a0.2.2.1 * 6364136223846793005)) + (IntKind.wrap .u64 (IntKind.wrap .i64 (nth ((.int .u8) : Ty) a0.1 a0.2.1))))) + 462197)), ()))), ()))
    else none
  else
    bif decide ((IntKind.wrap .i64 (a0.2.1 + 1)) ≤ (List.length a0.1 : Int)) then
      some ((0, ()), ((a0.1, ((IntKind.wrap .i64 (a0.2.1 + 1)), ((IntKind.wrap .u64 ((IntKind.wrap .u64 ((IntKind.wrap .u64 (a0.2.2.1 * 6364136223846793005)) + 0)) + 462197)), ()))), ()))
    else
      some (((IntKind.wrap .i64 (intBits .and .u64 (shrI .u64 (IntKind.wrap .u64 ((IntKind.wrap .u64 ((IntKind.wrap .u64 (a0.2.2.1 * 6364136223846793005)) + 0)) + 462197)) 40) 255)), ()), ((a0.1, ((IntKind.wrap .i64 (a0.2.1 + 1)), ((IntKind.wrap .u64 ((IntKind.wrap .u64 ((IntKind.wrap .u64 (a0.2.2.1 * 6364136223846793005)) + 0)) + 462197)), ()))), ())) := by
  rewrite [h_l1Cur_next]
  kernel_rfl
abbrev As_l1Cur_pick : List ATy := [.lptr T_l1Cur, .data false (.int .i64)]
abbrev R_l1Cur_pick : List (Bool × Ty) := [(false, (.int .i64))]
abbrev M_l1Cur_pick : List RMode := []
abbrev Ft_l1Cur_pick : Type := D_l1Cur × Int × Unit → Option ((Int × Unit) × (D_l1Cur × Unit))
noncomputable def X_l1Cur_pick : Ctx := { types := TT, globals := [], con := [], mcon := [(190, C_l1Cur_next)], keep := [], results := [.tmp 4], ntmps := 20, n := N }
noncomputable def B_l1Cur_pick : Code := (Tryz.f123.body).getD .skip
noncomputable def P_l1Cur_pick : Ft_l1Cur_pick := hid (runFM X_l1Cur_pick B_l1Cur_pick As_l1Cur_pick R_l1Cur_pick M_l1Cur_pick)
theorem h_l1Cur_pick : P_l1Cur_pick = runFM X_l1Cur_pick B_l1Cur_pick As_l1Cur_pick R_l1Cur_pick M_l1Cur_pick := hid_eq _
noncomputable def C_l1Cur_pick : MContract := ⟨As_l1Cur_pick, R_l1Cur_pick, M_l1Cur_pick, P_l1Cur_pick⟩
theorem s_l1Cur_pick : SoundM Tryz.prog n0 GG 123 C_l1Cur_pick := by
  unfold C_l1Cur_pick; rw [h_l1Cur_pick]
  exact mkSM Tryz.f123 trivial ⟨s_l1Cur_next, trivial⟩
theorem p_l1Cur_pick (a0 : D_l1Cur) (a1 : Int) : P_l1Cur_pick (a0, a1, ()) =
  bif decide (a1 ≤ 1) then
    some ((0, ()), (a0, ()))
  else
    Option.bind (P_l1Cur_next (a0, ())) fun r1 =>
    bif decide (a1 > 200) then
      Option.bind (P_l1Cur_next ((a0.1, r1.2.1.2), ())) fun r3 =>
      bif !decide (a1 = 0) then
        some (((Int.tmod (IntKind.wrap .i64 ((IntKind.wrap .i64 (r1.1.1 * 256)) + r3.1.1)) a1), ()), ((a0.1, r3.2.1.2), ()))
      else none
    else
      bif !decide (a1 = 0) then
        some (((Int.tmod r1.1.1 a1), ()), ((a0.1, r1.2.1.2), ()))
      else none := by
  rewrite [h_l1Cur_pick]
  kernel_rfl
abbrev As_l1Cur_one : List ATy := [.lptr T_l1Cur, .data false (.int .i64)]
abbrev R_l1Cur_one : List (Bool × Ty) := [(false, .bool)]
abbrev M_l1Cur_one : List RMode := []
abbrev Ft_l1Cur_one : Type := D_l1Cur × Int × Unit → Option ((Bool × Unit) × (D_l1Cur × Unit))
noncomputable def X_l1Cur_one : Ctx := { types := TT, globals := [], con := [], mcon := [(123, C_l1Cur_pick)], keep := [], results := [.tmp 4], ntmps := 9, n := N }
noncomputable def B_l1Cur_one : Code := (Tryz.f120.body).getD .skip
noncomputable def P_l1Cur_one : Ft_l1Cur_one := hid (runFM X_l1Cur_one B_l1Cur_one As_l1Cur_one R_l1Cur_one M_l1Cur_one)
theorem h_l1Cur_one : P_l1Cur_one = runFM X_l1Cur_one B_l1Cur_one As_l1Cur_one R_l1Cur_one M_l1Cur_one := hid_eq _
noncomputable def C_l1Cur_one : MContract := ⟨As_l1Cur_one, R_l1Cur_one, M_l1Cur_one, P_l1Cur_one⟩
theorem s_l1Cur_one : SoundM Tryz.prog n0 GG 120 C_l1Cur_one := by
  unfold C_l1Cur_one; rw [h_l1Cur_one]
  exact mkSM Tryz.f120 trivial ⟨s_l1Cur_pick, trivial⟩
theorem p_l1Cur_one (a0 : D_l1Cur) (a1 : Int) : P_l1Cur_one (a0, a1, ()) =
  Option.bind (P_l1Cur_pick (a0, a1, ())) fun r0 =>
  some ((decide (r0.1.1 = 0), ()), ((a0.1, r0.2.1.2), ())) := by
  rewrite [h_l1Cur_one]
  kernel_rfl
abbrev As_l1Cur_among : List ATy := [.lptr T_l1Cur, .data false (.sl (.int .i64))]
abbrev R_l1Cur_among : List (Bool × Ty) := [(false, (.int .i64))]
abbrev M_l1Cur_among : List RMode := []
abbrev Ft_l1Cur_among : Type := D_l1Cur × (List Int) × Unit → Option ((Int × Unit) × (D_l1Cur × Unit))
noncomputable def X_l1Cur_among : Ctx := { types := TT, globals := [], con := [], mcon := [(123, C_l1Cur_pick)], keep := [], results := [.tmp 4], ntmps := 12, n := N }
noncomputable def B_l1Cur_among : Code := (Tryz.f122.body).getD .skip
noncomputable def P_l1Cur_among : Ft_l1Cur_among := hid (runFM X_l1Cur_among B_l1Cur_among As_l1Cur_among R_l1Cur_among M_l1Cur_among)
theorem h_l1Cur_among : P_l1Cur_among = runFM X_l1Cur_among B_l1Cur_among As_l1Cur_among R_l1Cur_among M_l1Cur_among := hid_eq _
noncomputable def C_l1Cur_among : MContract := ⟨As_l1Cur_among, R_l1Cur_among, M_l1Cur_among, P_l1Cur_among⟩
theorem s_l1Cur_among : SoundM Tryz.prog n0 GG 122 C_l1Cur_among := by
  unfold C_l1Cur_among; rw [h_l1Cur_among]
  exact mkSM Tryz.f122 trivial ⟨s_l1Cur_pick, trivial⟩
theorem p_l1Cur_among (a0 : D_l1Cur) (a1 : List Int) : P_l1Cur_among (a0, a1, ()) =
  Option.bind (P_l1Cur_pick (a0, (List.length a1 : Int), ())) fun r0 =>
  bif inB r0.1.1 (List.length a1) then
    some (((nth ((.int .i64) : Ty) a1 r0.1.1), ()), ((a0.1, r0.2.1.2), ()))
  else none := by
  rewrite [h_l1Cur_among]
  kernel_rfl
abbrev As_l1Cur_sides : List ATy := [.lptr T_l1Cur]
abbrev R_l1Cur_sides : List (Bool × Ty) := [(false, (.int .i64)), (false, (.int .i64)), (false, (.int .i64))]
abbrev M_l1Cur_sides : List RMode := []
abbrev Ft_l1Cur_sides : Type := D_l1Cur × Unit → Option ((Int × Int × Int × Unit) × (D_l1Cur × Unit))
noncomputable def X_l1Cur_sides : Ctx := { types := TT, globals := [], con := [], mcon := [(122, C_l1Cur_among), (123, C_l1Cur_pick)], keep := [], results := [.tmp 2, .tmp 3, .tmp 4], ntmps := 37, n := N }
noncomputable def B_l1Cur_sides : Code := (Tryz.f195.body).getD .skip
noncomputable def P_l1Cur_sides : Ft_l1Cur_sides := hid (runFM X_l1Cur_sides B_l1Cur_sides As_l1Cur_sides R_l1Cur_sides M_l1Cur_sides)
theorem h_l1Cur_sides : P_l1Cur_sides = runFM X_l1Cur_sides B_l1Cur_sides As_l1Cur_sides R_l1Cur_sides M_l1Cur_sides := hid_eq _
noncomputable def C_l1Cur_sides : MContract := ⟨As_l1Cur_sides, R_l1Cur_sides, M_l1Cur_sides, P_l1Cur_sides⟩
theorem s_l1Cur_sides : SoundM Tryz.prog n0 GG 195 C_l1Cur_sides := by
  unfold C_l1Cur_sides; rw [h_l1Cur_sides]
  exact mkSM Tryz.f195 trivial ⟨s_l1Cur_among, s_l1Cur_pick, trivial⟩
theorem p_l1Cur_sides (a0 : D_l1Cur) : P_l1Cur_sides (a0, ()) =
  Option.bind (P_l1Cur_among (a0, ([2, 3, 3, 1, 4] : List Int), ())) fun r0 =>
  Option.bind (P_l1Cur_among ((a0.1, r0.2.1.2), ([2, 3, 2, 1, 4] : List Int), ())) fun r1 =>
  Option.bind (P_l1Cur_among ((a0.1, r1.2.1.2), ([2, 3, 3, 1, 4] : List Int), ())) fun r2 =>
  Option.bind (P_l1Cur_pick ((a0.1, r2.2.1.2), 60, ())) fun r3 =>
  bif decide (r3.1.1 = 0) then
    Option.bind (P_l1Cur_among ((a0.1, r3.2.1.2), ([0, 5, (-1), 4611686018427387904] : List Int), ())) fun r5 =>
    some ((r5.1.1, r1.1.1, r2.1.1, ()), ((a0.1, r5.2.1.2), ()))
  else
    bif decide (r3.1.1 = 1) then
      Option.bind (P_l1Cur_among ((a0.1, r3.2.1.2), ([0, 5, (-1)] : List Int), ())) fun r6 =>
      some ((r0.1.1, r6.1.1, r2.1.1, ()), ((a0.1, r6.2.1.2), ()))
    else
      bif decide (r3.1.1 = 2) then
        Option.bind (P_l1Cur_among ((a0.1, r3.2.1.2), ([0, 5, (-1)] : List Int), ())) fun r7 =>
        some ((r0.1.1, r1.1.1, r7.1.1, ()), ((a0.1, r7.2.1.2), ()))
      else
        some ((r0.1.1, r1.1.1, r2.1.1, ()), ((a0.1, r3.2.1.2), ())) := by
  rewrite [h_l1Cur_sides]
  kernel_rfl
abbrev As_spec_l2Long : List ATy := [.data true T_Heap, .data false (.int .i64)]
abbrev R_spec_l2Long : List (Bool × Ty) := [(false, (.int .i64))]
abbrev M_spec_l2Long : List RMode := []
abbrev Ft_spec_l2Long : Type := D_Heap × Int × Unit → Option (Int × Unit)
noncomputable def X_spec_l2Long : Ctx := { types := TT, globals := [], con := [], keep := [], results := [.tmp 4], ntmps := 14, n := N }
noncomputable def B_spec_l2Long : Code := (Tryz.f127.body).getD .skip
noncomputable def P_spec_l2Long : Ft_spec_l2Long := hid (runF X_spec_l2Long B_spec_l2Long As_spec_l2Long R_spec_l2Long M_spec_l2Long)
theorem h_spec_l2Long : P_spec_l2Long = runF X_spec_l2Long B_spec_l2Long As_spec_l2Long R_spec_l2Long M_spec_l2Long := hid_eq _
noncomputable def C_spec_l2Long : Contract := ⟨As_spec_l2Long, R_spec_l2Long, M_spec_l2Long, P_spec_l2Long⟩
theorem s_spec_l2Long : Sound Tryz.prog GG 127 C_spec_l2Long := by
  unfold C_spec_l2Long; rw [h_spec_l2Long]
  exact mkS Tryz.f127 trivial trivial
theorem p_spec_l2Long (a0 : D_Heap) (a1 : Int) : P_spec_l2Long (a0, a1, ()) =
  bif inB a1 3 then
    some ((bif decide (a1 = (0 : Int)) then a0.1 else (bif decide (a1 = (1 : Int)) then a0.2.1 else a0.2.2.1)), ())
  else none := by
  rewrite [h_spec_l2Long]
  kernel_rfl
abbrev As_spec_l2Others : List ATy := [.data false (.int .i64)]
abbrev R_spec_l2Others : List (Bool × Ty) := [(false, (.int .i64)), (false, (.int .i64))]
abbrev M_spec_l2Others : List RMode := []
abbrev Ft_spec_l2Others : Type := Int × Unit → Option (Int × Int × Unit)
noncomputable def X_spec_l2Others : Ctx := { types := TT, globals := [], con := [], keep := [], results := [.tmp 2, .tmp 3], ntmps := 9, n := N }
noncomputable def B_spec_l2Others : Code := (Tryz.f147.body).getD .skip
noncomputable def P_spec_l2Others : Ft_spec_l2Others := hid (runF X_spec_l2Others B_spec_l2Others As_spec_l2Others R_spec_l2Others M_spec_l2Others)
theorem h_spec_l2Others : P_spec_l2Others = runF X_spec_l2Others B_spec_l2Others As_spec_l2Others R_spec_l2Others M_spec_l2Others := hid_eq _
noncomputable def C_spec_l2Others : Contract := ⟨As_spec_l2Others, R_spec_l2Others, M_spec_l2Others, P_spec_l2Others⟩
theorem s_spec_l2Others : Sound Tryz.prog GG 147 C_spec_l2Others := by
  unfold C_spec_l2Others; rw [h_spec_l2Others]
  exact mkS Tryz.f147 trivial trivial
theorem p_spec_l2Others (a0 : Int) : P_spec_l2Others (a0, ()) =
  bif decide (a0 = 0) then
    some (1, 2, ())
  else
    bif decide (a0 = 1) then
      some (0, 2, ())
    else
      some (0, 1, ()) := by
  rewrite [h_spec_l2Others]
  kernel_rfl
abbrev As_spec_l2View : List ATy := [.data true T_Heap, .data false (.int .i64)]
abbrev R_spec_l2View : List (Bool × Ty) := [(false, (.sl (.int .i64)))]
abbrev M_spec_l2View : List RMode := [.own 3]
abbrev Ft_spec_l2View : Type := D_Heap × Int × Unit → Option ((List Int) × Unit)
noncomputable def X_spec_l2View : Ctx := { types := TT, globals := [], con := [(127, C_spec_l2Long), (147, C_spec_l2Others)], keep := [(4, ⟨[.box 2, .tmp 2, .tmp 5, .tmp 6, .tmp 7, .tmp 8], []⟩)], results := [.tmp 4], ntmps := 54, n := N }
noncomputable def B_spec_l2View : Code := (Tryz.f165.body).getD .skip
noncomputable def L_spec_l2View_4 (m0 : Nat) (p0 p1 p2 : Int) (p3 : List D_A3) (p4 p5 : Int) (p6 : List Int) (p7 : Int) : Option (denL R_spec_l2View) := loopF X_spec_l2View B_spec_l2View R_spec_l2View M_spec_l2View 4 [m0] [(.ver, .num 1), (.box 2, .box 0 false [.int .i64 p0, .int .i64 p1, .int .i64 p2, .imm T_A3 p3 (some 3)]), (.tmp 2, .val false [.addr 2 0 0]), (.tmp 5, .val false [.int .i64 p4]), (.tmp 6, .val false [.int .i64 p5]), (.tmp 7, .val false [.own 3 (.int .i64) 0 p6]), (.tmp 8, .val false [.int .i64 p7])]
noncomputable def P_spec_l2View : Ft_spec_l2View := hid (runF X_spec_l2View B_spec_l2View As_spec_l2View R_spec_l2View M_spec_l2View)
theorem h_spec_l2View : P_spec_l2View = runF X_spec_l2View B_spec_l2View As_spec_l2View R_spec_l2View M_spec_l2View := hid_eq _
noncomputable def C_spec_l2View : Contract := ⟨As_spec_l2View, R_spec_l2View, M_spec_l2View, P_spec_l2View⟩
theorem s_spec_l2View : Sound Tryz.prog GG 165 C_spec_l2View := by
  unfold C_spec_l2View; rw [h_spec_l2View]
  exact mkS Tryz.f165 ⟨s_spec_l2Long, s_spec_l2Others, trivial⟩ trivial
noncomputable def l_spec_l2View_4 := hid (L_spec_l2View_4)
theorem h_spec_l2View_4 : l_spec_l2View_4 = L_spec_l2View_4 := hid_eq _
theorem p_spec_l2View (a0 : D_Heap) (a1 : Int) : P_spec_l2View (a0, a1, ()) =
  Option.bind (P_spec_l2Others (a1, ())) fun r0 =>
  Option.bind (P_spec_l2Long (a0, r0.1, ())) fun r1 =>
  Option.bind (P_spec_l2Long (a0, r0.2.1, ())) fun r2 =>
  bif (decide ((0 : Int) ≤ (IntKind.wrap .i64 (r1.1 * r2.1))) && decide (((IntKind.wrap .i64 (r1.1 * r2.1)) : Int) ≤ (IntKind.wrap .i64 (r1.1 * r2.1))) && decide (((IntKind.wrap .i64 (r1.1 * r2.1)) : Int) * (8 : Nat) ≤ 140737488355328) && decide (((IntKind.wrap .i64 (r1.1 * r2.1)) : Int) ≤ 140737488355328)) then
    l_spec_l2View_4 N a0.1 a0.2.1 a0.2.2.1 a0.2.2.2.1 r0.1 r0.2.1 (List.replicate (Int.toNat (IntKind.wrap .i64 (r1.1 * r2.1))) (Ty.dflt ((.int .i64) : Ty))) 0
  else none := by
  rewrite [h_spec_l2View, h_spec_l2View_4]
  kernel_rfl
theorem q_spec_l2View_4 (m0 : Nat) (p0 p1 p2 : Int) (p3 : List D_A3) (p4 p5 : Int) (p6 : List Int) (p7 : Int) : l_spec_l2View_4 (m0 + 1) p0 p1 p2 p3 p4 p5 p6 p7 =
  bif decide (p7 < (List.length p3 : Int)) then
    bif inB p7 (List.length p3) then
      bif inB p4 3 then
        Option.bind (P_spec_l2Long ((p0, (p1, (p2, (p3, ())))), p5, ())) fun r3 =>
        bif inB p7 (List.length p3) then
          bif inB p5 3 then
            bif inB (IntKind.wrap .i64 ((IntKind.wrap .i64 ((bif decide (p4 = (0 : Int)) then ((nth T_A3 p3 p7)).1 else (bif decide (p4 = (1 : Int)) then (((nth T_A3 p3 p7)).2).1 else ((((nth T_A3 p3 p7)).2).2).1)) * r3.1)) + (bif decide (p5 = (0 : Int)) then ((nth T_A3 p3 p7)).1 else (bif decide (p5 = (1 : Int)) then (((nth T_A3 p3 p7)).2).1 else ((((nth T_A3 p3 p7)).2).2).1)))) (List.length p6) then
              bif inB (IntKind.wrap .i64 ((IntKind.wrap .i64 ((bif decide (p4 = (0 : Int)) then ((nth T_A3 p3 p7)).1 else (bif decide (p4 = (1 : Int)) then (((nth T_A3 p3 p7)).2).1 else ((((nth T_A3 p3 p7)).2).2).1)) * r3.1)) + (bif decide (p5 = (0 : Int)) then ((nth T_A3 p3 p7)).1 else (bif decide (p5 = (1 : Int)) then (((nth T_A3 p3 p7)).2).1 else ((((nth T_A3 p3 p7)).2).2).1)))) (List.length p6) then
                l_spec_l2View_4 m0 p0 p1 p2 p3 p4 p5 (List.set p6 (Int.toNat (IntKind.wrap .i64 ((IntKind.wrap .i64 ((bif decide (p4 = (0 : Int)) then ((nth T_A3 p3 p7)).1 else (bif decide (p4 = (1 : Int)) then (((nth T_A3 p3 p7)).2).1 else ((((nth T_A3 p3 p7)).2).2).1)) * r3.1)) + (bif decide (p5 = (0 : Int)) then ((nth T_A3 p3 p7)).1 else (bif decide (p5 = (1 : Int)) then (((nth T_A3 p3 p7)).2).1 else ((((nth T_A3 p3 p7)).2).2).1))))) (IntKind.wrap .i64 ((nth ((.int .i64) : Ty) p6 (IntKind.wrap .i64 ((IntKind.wrap .i64 ((bif decide (p4 = (0 : Int)) then ((nth T_A3 p3 p7)).1 else (bif decide (p4 = (1 : Int)) then (((nth T_A3 p3 p7)).2).1 else ((((nth T_A3 p3 p7)).2).2).1)) * r3.1)) + (bif decide (p5 = (0 : Int)) then ((nth T_A3 p3 p7)).1 else (bif decide (p5 = (1 : Int)) then (((nth T_A3 p3 p7)).2).1 else ((((nth T_A3 p3 p7)).2).2).1))))) + 1))) (IntKind.wrap .i64 (p7 + 1))
              else none
            else none
          else none
        else none
      else none
    else none
  else
    some (p6, ()) := by
  rewrite [h_spec_l2View_4]
  kernel_rfl
abbrev As_spec_l2Heights : List ATy := [.data true T_Heap]
abbrev R_spec_l2Heights : List (Bool × Ty) := [(false, (.sl (.int .i64)))]
abbrev M_spec_l2Heights : List RMode := [.own 3]
abbrev Ft_spec_l2Heights : Type := D_Heap × Unit → Option ((List Int) × Unit)
noncomputable def X_spec_l2Heights : Ctx := { types := TT, globals := [], con := [(165, C_spec_l2View)], keep := [], results := [.tmp 2], ntmps := 5, n := N }
noncomputable def B_spec_l2Heights : Code := (Tryz.f73.body).getD .skip
noncomputable def P_spec_l2Heights : Ft_spec_l2Heights := hid (runF X_spec_l2Heights B_spec_l2Heights As_spec_l2Heights R_spec_l2Heights M_spec_l2Heights)
theorem h_spec_l2Heights : P_spec_l2Heights = runF X_spec_l2Heights B_spec_l2Heights As_spec_l2Heights R_spec_l2Heights M_spec_l2Heights := hid_eq _
noncomputable def C_spec_l2Heights : Contract := ⟨As_spec_l2Heights, R_spec_l2Heights, M_spec_l2Heights, P_spec_l2Heights⟩
theorem s_spec_l2Heights : Sound Tryz.prog GG 73 C_spec_l2Heights := by
  unfold C_spec_l2Heights; rw [h_spec_l2Heights]
  exact mkS Tryz.f73 ⟨s_spec_l2View, trivial⟩ trivial
theorem p_spec_l2Heights (a0 : D_Heap) : P_spec_l2Heights (a0, ()) =
  Option.bind (P_spec_l2View (a0, 2, ())) fun r0 =>
  some (r0.1, ()) := by
  rewrite [h_spec_l2Heights]
  kernel_rfl
abbrev As_spec_OtherCells : List ATy := [.data true T_Heap]
abbrev R_spec_OtherCells : List (Bool × Ty) := [(true, T_Heap), (false, .bool)]
abbrev M_spec_OtherCells : List RMode := [.own 45]
abbrev Ft_spec_OtherCells : Type := D_Heap × Unit → Option (D_Heap × Bool × Unit)
noncomputable def X_spec_OtherCells : Ctx := { types := TT, globals := [], con := [(69, C_spec_l2Heap), (83, C_spec_l2All), (84, C_spec_l2Has), (89, C_spec_l2Empty)], keep := [(5, ⟨[.box 1, .box 2, .box 4, .tmp 1, .tmp 2, .tmp 4, .tmp 5, .tmp 6], []⟩)], results := [.cell 2 26, .tmp 3], ntmps := 43, n := N }
noncomputable def B_spec_OtherCells : Code := (Tryz.f219.body).getD .skip
noncomputable def L_spec_OtherCells_5 (m0 : Nat) (p0 p1 p2 : Int) (p3 : List D_A3) (p4 p5 p6 : Int) (p7 : List D_A3) (p8 p9 p10 : Int) (p11 p12 : List D_A3) (p13 : Int) : Option (denL R_spec_OtherCells) := loopF X_spec_OtherCells B_spec_OtherCells R_spec_OtherCells M_spec_OtherCells 5 [m0] [(.ver, .num 1), (.box 1, .box 0 false [.int .i64 p0, .int .i64 p1, .int .i64 p2, .imm T_A3 p3 (some 3)]), (.box 2, .box 0 false [.int .i64 p4, .int .i64 p5, .int .i64 p6, .own 45 T_A3 0 p7]), (.box 4, .box 0 false [.int .i64 p8, .int .i64 p9, .int .i64 p10, .own 45 T_A3 0 p11]), (.tmp 1, .val false [.addr 1 0 0]), (.tmp 2, .val false [.addr 2 0 0]), (.tmp 4, .val false [.addr 4 0 0]), (.tmp 5, .val false [.own 45 T_A3 0 p12]), (.tmp 6, .val false [.int .i64 p13])]
noncomputable def P_spec_OtherCells : Ft_spec_OtherCells := hid (runF X_spec_OtherCells B_spec_OtherCells As_spec_OtherCells R_spec_OtherCells M_spec_OtherCells)
theorem h_spec_OtherCells : P_spec_OtherCells = runF X_spec_OtherCells B_spec_OtherCells As_spec_OtherCells R_spec_OtherCells M_spec_OtherCells := hid_eq _
noncomputable def C_spec_OtherCells : Contract := ⟨As_spec_OtherCells, R_spec_OtherCells, M_spec_OtherCells, P_spec_OtherCells⟩
theorem s_spec_OtherCells : Sound Tryz.prog GG 219 C_spec_OtherCells := by
  unfold C_spec_OtherCells; rw [h_spec_OtherCells]
  exact mkS Tryz.f219 ⟨s_spec_l2Heap, s_spec_l2All, s_spec_l2Has, s_spec_l2Empty, trivial⟩ trivial
noncomputable def l_spec_OtherCells_5 := hid (L_spec_OtherCells_5)
theorem h_spec_OtherCells_5 : l_spec_OtherCells_5 = L_spec_OtherCells_5 := hid_eq _
theorem p_spec_OtherCells (a0 : D_Heap) : P_spec_OtherCells (a0, ()) =
  Option.bind (P_spec_l2Heap (a0, ())) fun r0 =>
  bif !r0.1 then
    some ((0, (0, (0, (([] : List D_A3), ())))), false, ())
  else
    Option.bind (P_spec_l2Empty (a0.1, a0.2.1, a0.2.2.1, ())) fun r2 =>
    Option.bind (P_spec_l2All (a0, ())) fun r3 =>
    l_spec_OtherCells_5 N a0.1 a0.2.1 a0.2.2.1 a0.2.2.2.1 0 0 0 ([] : List D_A3) r2.1.1 r2.1.2.1 r2.1.2.2.1 r2.1.2.2.2.1 r3.1 0 := by
  rewrite [h_spec_OtherCells, h_spec_OtherCells_5]
  kernel_rfl
theorem q_spec_OtherCells_5 (m0 : Nat) (p0 p1 p2 : Int) (p3 : List D_A3) (p4 p5 p6 : Int) (p7 : List D_A3) (p8 p9 p10 : Int) (p11 p12 : List D_A3) (p13 : Int) : l_spec_OtherCells_5 (m0 + 1) p0 p1 p2 p3 p4 p5 p6 p7 p8 p9 p10 p11 p12 p13 =
  bif decide (p13 < (List.length p12 : Int)) then
    bif inB p13 (List.length p12) then
      Option.bind (P_spec_l2Has ((p0, (p1, (p2, (p3, ())))), (nth T_A3 p12 p13), ())) fun r2 =>
      bif !r2.1 then
        bif inB p13 (List.length p12) then
          bif (decide (((List.length p11) + (List.length ([(nth T_A3 p12 p13)] : List D_A3))) * 24 ≤ 140737488355328) && decide (((List.length p11) + (List.length ([(nth T_A3 p12 p13)] : List D_A3))) ≤ 140737488355328)) then
            l_spec_OtherCells_5 m0 p0 p1 p2 p3 p4 p5 p6 p7 p8 p9 p10 (p11 ++ ([(nth T_A3 p12 p13)] : List D_A3)) p12 (IntKind.wrap .i64 (p13 + 1))
          else none
        else none
      else
        l_spec_OtherCells_5 m0 p0 p1 p2 p3 p4 p5 p6 p7 p8 p9 p10 p11 p12 (IntKind.wrap .i64 (p13 + 1))
    else none
  else
    some ((p8, (p9, (p10, (p11, ())))), true, ()) := by
  rewrite [h_spec_OtherCells_5]
  kernel_rfl
abbrev As_spec_l2Stack : List ATy := [.data false (.int .i64), .data false (.int .i64), .data false (.int .i64), .data false (.sl (.int .i64))]
abbrev R_spec_l2Stack : List (Bool × Ty) := [(true, T_Heap)]
abbrev M_spec_l2Stack : List RMode := [.own 45]
abbrev Ft_spec_l2Stack : Type := Int × Int × Int × (List Int) × Unit → Option (D_Heap × Unit)
noncomputable def X_spec_l2Stack : Ctx := { types := TT, globals := [], con := [(83, C_spec_l2All), (89, C_spec_l2Empty)], keep := [(4, ⟨[.box 8, .box 9, .tmp 1, .tmp 3, .tmp 8, .tmp 9, .tmp 10, .tmp 11], []⟩)], results := [.cell 8 26], ntmps := 56, n := N }
noncomputable def B_spec_l2Stack : Code := (Tryz.f220.body).getD .skip
noncomputable def L_spec_l2Stack_4 (m0 : Nat) (p0 p1 p2 : Int) (p3 : List D_A3) (p4 p5 p6 : Int) (p7 : List D_A3) (p8 : Int) (p9 : List Int) (p10 : List D_A3) (p11 : Int) : Option (denL R_spec_l2Stack) := loopF X_spec_l2Stack B_spec_l2Stack R_spec_l2Stack M_spec_l2Stack 4 [m0] [(.ver, .num 1), (.box 8, .box 0 false [.int .i64 p0, .int .i64 p1, .int .i64 p2, .own 45 T_A3 0 p3]), (.box 9, .box 0 false [.int .i64 p4, .int .i64 p5, .int .i64 p6, .own 45 T_A3 0 p7]), (.tmp 1, .val false [.int .i64 p8]), (.tmp 3, .val false [.imm (.int .i64) p9 (some 3)]), (.tmp 8, .val false [.addr 8 0 0]), (.tmp 9, .val false [.addr 9 0 0]), (.tmp 10, .val false [.own 45 T_A3 0 p10]), (.tmp 11, .val false [.int .i64 p11])]
noncomputable def P_spec_l2Stack : Ft_spec_l2Stack := hid (runF X_spec_l2Stack B_spec_l2Stack As_spec_l2Stack R_spec_l2Stack M_spec_l2Stack)
theorem h_spec_l2Stack : P_spec_l2Stack = runF X_spec_l2Stack B_spec_l2Stack As_spec_l2Stack R_spec_l2Stack M_spec_l2Stack := hid_eq _
noncomputable def C_spec_l2Stack : Contract := ⟨As_spec_l2Stack, R_spec_l2Stack, M_spec_l2Stack, P_spec_l2Stack⟩
theorem s_spec_l2Stack : Sound Tryz.prog GG 220 C_spec_l2Stack := by
  unfold C_spec_l2Stack; rw [h_spec_l2Stack]
  exact mkS Tryz.f220 ⟨s_spec_l2All, s_spec_l2Empty, trivial⟩ trivial
noncomputable def l_spec_l2Stack_4 := hid (L_spec_l2Stack_4)
theorem h_spec_l2Stack_4 : l_spec_l2Stack_4 = L_spec_l2Stack_4 := hid_eq _
theorem p_spec_l2Stack (a0 : Int) (a1 : Int) (a2 : Int) (a3 : List Int) : P_spec_l2Stack (a0, a1, a2, a3, ()) =
  Option.bind (P_spec_l2Empty (a0, a1, a2, ())) fun r0 =>
  Option.bind (P_spec_l2All (r0.1, ())) fun r1 =>
  l_spec_l2Stack_4 N 0 0 0 ([] : List D_A3) r0.1.1 r0.1.2.1 r0.1.2.2.1 r0.1.2.2.2.1 a1 a3 r1.1 0 := by
  rewrite [h_spec_l2Stack, h_spec_l2Stack_4]
  kernel_rfl
theorem q_spec_l2Stack_4 (m0 : Nat) (p0 p1 p2 : Int) (p3 : List D_A3) (p4 p5 p6 : Int) (p7 : List D_A3) (p8 : Int) (p9 : List Int) (p10 : List D_A3) (p11 : Int) : l_spec_l2Stack_4 (m0 + 1) p0 p1 p2 p3 p4 p5 p6 p7 p8 p9 p10 p11 =
  bif decide (p11 < (List.length p10 : Int)) then
    bif inB p11 (List.length p10) then
      bif inB p11 (List.length p10) then
        bif inB p11 (List.length p10) then
          bif inB (IntKind.wrap .i64 ((IntKind.wrap .i64 (((nth T_A3 p10 p11)).1 * p8)) + (((nth T_A3 p10 p11)).2).1)) (List.length p9) then
            bif decide (((((nth T_A3 p10 p11)).2).2).1 < (nth ((.int .i64) : Ty) p9 (IntKind.wrap .i64 ((IntKind.wrap .i64 (((nth T_A3 p10 p11)).1 * p8)) + (((nth T_A3 p10 p11)).2).1)))) then
              bif inB p11 (List.length p10) then
                bif (decide (((List.length p7) + (List.length ([(nth T_A3 p10 p11)] : List D_A3))) * 24 ≤ 140737488355328) && decide (((List.length p7) + (List.length ([(nth T_A3 p10 p11)] : List D_A3))) ≤ 140737488355328)) then
                  l_spec_l2Stack_4 m0 p0 p1 p2 p3 p4 p5 p6 (p7 ++ ([(nth T_A3 p10 p11)] : List D_A3)) p8 p9 p10 (IntKind.wrap .i64 (p11 + 1))
                else none
              else none
            else
              l_spec_l2Stack_4 m0 p0 p1 p2 p3 p4 p5 p6 p7 p8 p9 p10 (IntKind.wrap .i64 (p11 + 1))
          else none
        else none
      else none
    else none
  else
    some ((p4, (p5, (p6, (p7, ())))), ()) := by
  rewrite [h_spec_l2Stack_4]
  kernel_rfl
abbrev As_l1Cur_someHeap : List ATy := [.lptr T_l1Cur, .data false (.int .i64), .data false (.int .i64), .data false (.int .i64)]
abbrev R_l1Cur_someHeap : List (Bool × Ty) := [(true, T_Heap)]
abbrev M_l1Cur_someHeap : List RMode := [.own 45]
abbrev Ft_l1Cur_someHeap : Type := D_l1Cur × Int × Int × Int × Unit → Option ((D_Heap × Unit) × (D_l1Cur × Unit))
noncomputable def X_l1Cur_someHeap : Ctx := { types := TT, globals := [], con := [(73, C_spec_l2Heights), (83, C_spec_l2All), (89, C_spec_l2Empty), (159, C_spec_l2Sides), (219, C_spec_OtherCells), (220, C_spec_l2Stack)], mcon := [(120, C_l1Cur_one), (122, C_l1Cur_among), (123, C_l1Cur_pick)], keep := [(6, ⟨[.box 8, .box 9, .box 1000000, .tmp 0, .tmp 1, .tmp 2, .tmp 3, .tmp 8, .tmp 9, .tmp 10, .tmp 11, .tmp 12], []⟩)], results := [.cell 8 26], ntmps := 64, n := N }
noncomputable def B_l1Cur_someHeap : Code := (Tryz.f196.body).getD .skip
noncomputable def L_l1Cur_someHeap_6 (m0 : Nat) (p0 p1 p2 : Int) (p3 : List D_A3) (p4 p5 p6 : Int) (p7 : List D_A3) (p8 : List Int) (p9 p10 p11 p12 p13 p14 : Int) (p15 : List D_A3) (p16 : Int) : Option (denL R_l1Cur_someHeap × denM As_l1Cur_someHeap) := loopFM X_l1Cur_someHeap B_l1Cur_someHeap As_l1Cur_someHeap R_l1Cur_someHeap M_l1Cur_someHeap 6 [m0] [(.ver, .num 1), (.box 8, .box 0 false [.int .i64 p0, .int .i64 p1, .int .i64 p2, .own 45 T_A3 0 p3]), (.box 9, .box 0 false [.int .i64 p4, .int .i64 p5, .int .i64 p6, .own 45 T_A3 0 p7]), (.box 1000000, .box 0 false [.imm (.int .u8) p8 (some 4), .int .i64 p9, .int .u64 p10]), (.tmp 0, .val false [.addr 1000000 0 0]), (.tmp 1, .val false [.int .i64 p11]), (.tmp 2, .val false [.int .i64 p12]), (.tmp 3, .val false [.int .i64 p13]), (.tmp 8, .val false [.addr 8 0 0]), (.tmp 9, .val false [.addr 9 0 0]), (.tmp 10, .val false [.int .i64 p14]), (.tmp 11, .val false [.own 45 T_A3 0 p15]), (.tmp 12, .val false [.int .i64 p16])]
noncomputable def P_l1Cur_someHeap : Ft_l1Cur_someHeap := hid (runFM X_l1Cur_someHeap B_l1Cur_someHeap As_l1Cur_someHeap R_l1Cur_someHeap M_l1Cur_someHeap)
theorem h_l1Cur_someHeap : P_l1Cur_someHeap = runFM X_l1Cur_someHeap B_l1Cur_someHeap As_l1Cur_someHeap R_l1Cur_someHeap M_l1Cur_someHeap := hid_eq _
noncomputable def C_l1Cur_someHeap : MContract := ⟨As_l1Cur_someHeap, R_l1Cur_someHeap, M_l1Cur_someHeap, P_l1Cur_someHeap⟩
theorem s_l1Cur_someHeap : SoundM Tryz.prog n0 GG 196 C_l1Cur_someHeap := by
  unfold C_l1Cur_someHeap; rw [h_l1Cur_someHeap]
  exact mkSM Tryz.f196 ⟨s_spec_l2Heights, s_spec_l2All, s_spec_l2Empty, s_spec_l2Sides, s_spec_OtherCells, s_spec_l2Stack, trivial⟩ ⟨s_l1Cur_one, s_l1Cur_among, s_l1Cur_pick, trivial⟩
noncomputable def l_l1Cur_someHeap_6 := hid (L_l1Cur_someHeap_6)
theorem h_l1Cur_someHeap_6 : l_l1Cur_someHeap_6 = L_l1Cur_someHeap_6 := hid_eq _
theorem p_l1Cur_someHeap (a0 : D_l1Cur) (a1 : Int) (a2 : Int) (a3 : Int) : P_l1Cur_someHeap (a0, a1, a2, a3, ()) =
  Option.bind (P_spec_l2Empty (a1, a2, a3, ())) fun r0 =>
  Option.bind (P_l1Cur_among (a0, ([2, 3, 2, 4] : List Int), ())) fun r1 =>
  Option.bind (P_spec_l2Sides (a1, a2, a3, ())) fun r2 =>
  bif !r2.1 then
    some ((r0.1, ()), ((a0.1, r1.2.1.2), ()))
  else
    Option.bind (P_spec_l2All (r0.1, ())) fun r4 =>
    l_l1Cur_someHeap_6 N 0 0 0 ([] : List D_A3) r0.1.1 r0.1.2.1 r0.1.2.2.1 r0.1.2.2.2.1 a0.1 r1.2.1.2.1 r1.2.1.2.2.1 a1 a2 a3 r1.1.1 r4.1 0 := by
  rewrite [h_l1Cur_someHeap, h_l1Cur_someHeap_6]
  kernel_rfl
theorem q_l1Cur_someHeap_6 (m0 : Nat) (p0 p1 p2 : Int) (p3 : List D_A3) (p4 p5 p6 : Int) (p7 : List D_A3) (p8 : List Int) (p9 p10 p11 p12 p13 p14 : Int) (p15 : List D_A3) (p16 : Int) : l_l1Cur_someHeap_6 (m0 + 1) p0 p1 p2 p3 p4 p5 p6 p7 p8 p9 p10 p11 p12 p13 p14 p15 p16 =
  bif decide (p16 < (List.length p15 : Int)) then
    Option.bind (P_l1Cur_one ((p8, (p9, (p10, ()))), p14, ())) fun r1 =>
    bif r1.1.1 then
      bif inB p16 (List.length p15) then
        bif (decide (((List.length p7) + (List.length ([(nth T_A3 p15 p16)] : List D_A3))) * 24 ≤ 140737488355328) && decide (((List.length p7) + (List.length ([(nth T_A3 p15 p16)] : List D_A3))) ≤ 140737488355328)) then
          l_l1Cur_someHeap_6 m0 p0 p1 p2 p3 p4 p5 p6 (p7 ++ ([(nth T_A3 p15 p16)] : List D_A3)) p8 r1.2.1.2.1 r1.2.1.2.2.1 p11 p12 p13 p14 p15 (IntKind.wrap .i64 (p16 + 1))
        else none
      else none
    else
      l_l1Cur_someHeap_6 m0 p0 p1 p2 p3 p4 p5 p6 p7 p8 r1.2.1.2.1 r1.2.1.2.2.1 p11 p12 p13 p14 p15 (IntKind.wrap .i64 (p16 + 1))
  else
    Option.bind (P_l1Cur_pick ((p8, (p9, (p10, ()))), 12, ())) fun r1 =>
    bif decide (r1.1.1 = 0) then
      Option.bind (P_spec_OtherCells ((p4, (p5, (p6, (p7, ())))), ())) fun r3 =>
      some ((r3.1, ()), ((p8, r1.2.1.2), ()))
    else
      bif decide (r1.1.1 = 1) then
        Option.bind (P_spec_l2Heights ((p4, (p5, (p6, (p7, ())))), ())) fun r4 =>
        Option.bind (P_spec_l2Stack (p11, p12, p13, r4.1, ())) fun r5 =>
        some ((r5.1, ()), ((p8, r1.2.1.2), ()))
      else
        some (((p4, (p5, (p6, (p7, ())))), ()), ((p8, r1.2.1.2), ())) := by
  rewrite [h_l1Cur_someHeap_6]
  kernel_rfl
abbrev As_l1Cur_heap : List ATy := [.lptr T_l1Cur]
abbrev R_l1Cur_heap : List (Bool × Ty) := [(true, T_Heap)]
abbrev M_l1Cur_heap : List RMode := [.own 45]
abbrev Ft_l1Cur_heap : Type := D_l1Cur × Unit → Option ((D_Heap × Unit) × (D_l1Cur × Unit))
noncomputable def X_l1Cur_heap : Ctx := { types := TT, globals := [], con := [], mcon := [(123, C_l1Cur_pick), (195, C_l1Cur_sides), (196, C_l1Cur_someHeap)], keep := [], results := [.cell 2 26], ntmps := 56, n := N }
noncomputable def B_l1Cur_heap : Code := (Tryz.f131.body).getD .skip
noncomputable def P_l1Cur_heap : Ft_l1Cur_heap := hid (runFM X_l1Cur_heap B_l1Cur_heap As_l1Cur_heap R_l1Cur_heap M_l1Cur_heap)
theorem h_l1Cur_heap : P_l1Cur_heap = runFM X_l1Cur_heap B_l1Cur_heap As_l1Cur_heap R_l1Cur_heap M_l1Cur_heap := hid_eq _
noncomputable def C_l1Cur_heap : MContract := ⟨As_l1Cur_heap, R_l1Cur_heap, M_l1Cur_heap, P_l1Cur_heap⟩
theorem s_l1Cur_heap : SoundM Tryz.prog n0 GG 131 C_l1Cur_heap := by
  unfold C_l1Cur_heap; rw [h_l1Cur_heap]
  exact mkSM Tryz.f131 trivial ⟨s_l1Cur_pick, s_l1Cur_sides, s_l1Cur_someHeap, trivial⟩
theorem p_l1Cur_heap (a0 : D_l1Cur) : P_l1Cur_heap (a0, ()) =
  Option.bind (P_l1Cur_sides (a0, ())) fun r0 =>
  Option.bind (P_l1Cur_someHeap ((a0.1, r0.2.1.2), r0.1.1, r0.1.2.1, r0.1.2.2.1, ())) fun r1 =>
  Option.bind (P_l1Cur_pick ((a0.1, r1.2.1.2), 60, ())) fun r2 =>
  bif decide (r2.1.1 = 0) then
    bif (decide (((List.length r1.1.1.2.2.2.1) + (List.length ([(r0.1.1, (0, (0, ())))] : List D_A3))) * 24 ≤ 140737488355328) && decide (((List.length r1.1.1.2.2.2.1) + (List.length ([(r0.1.1, (0, (0, ())))] : List D_A3))) ≤ 140737488355328)) then
      some (((r1.1.1.1, (r1.1.1.2.1, (r1.1.1.2.2.1, ((r1.1.1.2.2.2.1 ++ ([(r0.1.1, (0, (0, ())))] : List D_A3)), ())))), ()), ((a0.1, r2.2.1.2), ()))
    else none
  else
    bif decide (r2.1.1 = 1) then
      bif (decide (((List.length r1.1.1.2.2.2.1) + (List.length ([((-1), (0, (0, ())))] : List D_A3))) * 24 ≤ 140737488355328) && decide (((List.length r1.1.1.2.2.2.1) + (List.length ([((-1), (0, (0, ())))] : List D_A3))) ≤ 140737488355328)) then
        some (((r1.1.1.1, (r1.1.1.2.1, (r1.1.1.2.2.1, ((r1.1.1.2.2.2.1 ++ ([((-1), (0, (0, ())))] : List D_A3)), ())))), ()), ((a0.1, r2.2.1.2), ()))
      else none
    else
      bif decide (r2.1.1 = 2) then
        bif decide ((List.length r1.1.1.2.2.2.1 : Int) > 0) then
          bif inB 0 (List.length r1.1.1.2.2.2.1) then
            bif (decide (((List.length r1.1.1.2.2.2.1) + (List.length ([(nth T_A3 r1.1.1.2.2.2.1 0)] : List D_A3))) * 24 ≤ 140737488355328) && decide (((List.length r1.1.1.2.2.2.1) + (List.length ([(nth T_A3 r1.1.1.2.2.2.1 0)] : List D_A3))) ≤ 140737488355328)) then
              some (((r1.1.1.1, (r1.1.1.2.1, (r1.1.1.2.2.1, ((r1.1.1.2.2.2.1 ++ ([(nth T_A3 r1.1.1.2.2.2.1 0)] : List D_A3)), ())))), ()), ((a0.1, r2.2.1.2), ()))
            else none
          else none
        else
          some ((r1.1.1, ()), ((a0.1, r2.2.1.2), ()))
      else
        bif decide (r2.1.1 = 3) then
          some (((0, (0, (0, (([] : List D_A3), ())))), ()), ((a0.1, r2.2.1.2), ()))
        else
          some ((r1.1.1, ()), ((a0.1, r2.2.1.2), ())) := by
  rewrite [h_l1Cur_heap]
  kernel_rfl
abbrev As_spec_LeastStair : List ATy := [.data true T_Heap]
abbrev R_spec_LeastStair : List (Bool × Ty) := [(true, T_Heap), (false, .bool)]
abbrev M_spec_LeastStair : List RMode := [.own 45]
abbrev Ft_spec_LeastStair : Type := D_Heap × Unit → Option (D_Heap × Bool × Unit)
noncomputable def X_spec_LeastStair : Ctx := { types := TT, globals := [], con := [(69, C_spec_l2Heap), (85, C_spec_l2With), (170, C_spec_l2Own)], keep := [(4, ⟨[.box 2, .box 4, .tmp 2, .tmp 4], []⟩), (6, ⟨[.box 2, .box 4, .box 5, .tmp 2, .tmp 4, .tmp 5, .tmp 6], []⟩), (9, ⟨[.box 2, .box 4, .box 5, .tmp 2, .tmp 4, .tmp 5, .tmp 6, .tmp 7], []⟩)], results := [.cell 2 26, .tmp 3], ntmps := 54, n := N }
noncomputable def B_spec_LeastStair : Code := (Tryz.f158.body).getD .skip
noncomputable def L_spec_LeastStair_4 (m0 : Nat) (p0 p1 p2 : Int) (p3 : List D_A3) (p4 p5 p6 : Int) (p7 : List D_A3) : Option (denL R_spec_LeastStair) := loopF X_spec_LeastStair B_spec_LeastStair R_spec_LeastStair M_spec_LeastStair 4 [m0] [(.ver, .num 1), (.box 2, .box 0 false [.int .i64 p0, .int .i64 p1, .int .i64 p2, .own 45 T_A3 0 p3]), (.box 4, .box 0 false [.int .i64 p4, .int .i64 p5, .int .i64 p6, .own 45 T_A3 0 p7]), (.tmp 2, .val false [.addr 2 0 0]), (.tmp 4, .val false [.addr 4 0 0])]
noncomputable def L_spec_LeastStair_6 (m0 m1 : Nat) (p0 p1 p2 : Int) (p3 : List D_A3) (p4 p5 p6 : Int) (p7 : List D_A3) (p8 p9 p10 : Int) (p11 : List D_A3) (p12 : Int) : Option (denL R_spec_LeastStair) := loopF X_spec_LeastStair B_spec_LeastStair R_spec_LeastStair M_spec_LeastStair 6 [m0, m1] [(.ver, .num 1), (.box 2, .box 0 false [.int .i64 p0, .int .i64 p1, .int .i64 p2, .own 45 T_A3 0 p3]), (.box 4, .box 0 false [.int .i64 p4, .int .i64 p5, .int .i64 p6, .own 45 T_A3 0 p7]), (.box 5, .box 0 false [.int .i64 p8, .int .i64 p9, .int .i64 p10, .own 45 T_A3 0 p11]), (.tmp 2, .val false [.addr 2 0 0]), (.tmp 4, .val false [.addr 4 0 0]), (.tmp 5, .val false [.addr 5 0 0]), (.tmp 6, .val false [.int .i64 p12])]
noncomputable def L_spec_LeastStair_9 (m0 m1 m2 : Nat) (p0 p1 p2 : Int) (p3 : List D_A3) (p4 p5 p6 : Int) (p7 : List D_A3) (p8 p9 p10 : Int) (p11 : List D_A3) (p12 p13 : Int) : Option (denL R_spec_LeastStair) := loopF X_spec_LeastStair B_spec_LeastStair R_spec_LeastStair M_spec_LeastStair 9 [m0, m1, m2] [(.ver, .num 1), (.box 2, .box 0 false [.int .i64 p0, .int .i64 p1, .int .i64 p2, .own 45 T_A3 0 p3]), (.box 4, .box 0 false [.int .i64 p4, .int .i64 p5, .int .i64 p6, .own 45 T_A3 0 p7]), (.box 5, .box 0 false [.int .i64 p8, .int .i64 p9, .int .i64 p10, .own 45 T_A3 0 p11]), (.tmp 2, .val false [.addr 2 0 0]), (.tmp 4, .val false [.addr 4 0 0]), (.tmp 5, .val false [.addr 5 0 0]), (.tmp 6, .val false [.int .i64 p12]), (.tmp 7, .val false [.int .i64 p13])]
noncomputable def P_spec_LeastStair : Ft_spec_LeastStair := hid (runF X_spec_LeastStair B_spec_LeastStair As_spec_LeastStair R_spec_LeastStair M_spec_LeastStair)
theorem h_spec_LeastStair : P_spec_LeastStair = runF X_spec_LeastStair B_spec_LeastStair As_spec_LeastStair R_spec_LeastStair M_spec_LeastStair := hid_eq _
noncomputable def C_spec_LeastStair : Contract := ⟨As_spec_LeastStair, R_spec_LeastStair, M_spec_LeastStair, P_spec_LeastStair⟩
theorem s_spec_LeastStair : Sound Tryz.prog GG 158 C_spec_LeastStair := by
  unfold C_spec_LeastStair; rw [h_spec_LeastStair]
  exact mkS Tryz.f158 ⟨s_spec_l2Heap, s_spec_l2With, s_spec_l2Own, trivial⟩ trivial
noncomputable def l_spec_LeastStair_4 := hid (L_spec_LeastStair_4)
theorem h_spec_LeastStair_4 : l_spec_LeastStair_4 = L_spec_LeastStair_4 := hid_eq _
noncomputable def l_spec_LeastStair_6 := hid (L_spec_LeastStair_6)
theorem h_spec_LeastStair_6 : l_spec_LeastStair_6 = L_spec_LeastStair_6 := hid_eq _
noncomputable def l_spec_LeastStair_9 := hid (L_spec_LeastStair_9)
theorem h_spec_LeastStair_9 : l_spec_LeastStair_9 = L_spec_LeastStair_9 := hid_eq _
theorem p_spec_LeastStair (a0 : D_Heap) : P_spec_LeastStair (a0, ()) =
  Option.bind (P_spec_l2Heap (a0, ())) fun r0 =>
  bif !r0.1 then
    some ((0, (0, (0, (([] : List D_A3), ())))), false, ())
  else
    Option.bind (P_spec_l2Own (a0, ())) fun r2 =>
    l_spec_LeastStair_4 N 0 0 0 ([] : List D_A3) r2.1.1 r2.1.2.1 r2.1.2.2.1 r2.1.2.2.2.1 := by
  rewrite [h_spec_LeastStair, h_spec_LeastStair_4]
  kernel_rfl
theorem q_spec_LeastStair_4 (m0 : Nat) (p0 p1 p2 : Int) (p3 : List D_A3) (p4 p5 p6 : Int) (p7 : List D_A3) : l_spec_LeastStair_4 (m0 + 1) p0 p1 p2 p3 p4 p5 p6 p7 =
  Option.bind (P_spec_l2Own ((p4, (p5, (p6, (p7, ())))), ())) fun r0 =>
  l_spec_LeastStair_6 m0 N p0 p1 p2 p3 p4 p5 p6 p7 r0.1.1 r0.1.2.1 r0.1.2.2.1 r0.1.2.2.2.1 0 := by
  rewrite [h_spec_LeastStair_4, h_spec_LeastStair_6]
  kernel_rfl
theorem q_spec_LeastStair_6 (m0 m1 : Nat) (p0 p1 p2 : Int) (p3 : List D_A3) (p4 p5 p6 : Int) (p7 : List D_A3) (p8 p9 p10 : Int) (p11 : List D_A3) (p12 : Int) : l_spec_LeastStair_6 m0 (m1 + 1) p0 p1 p2 p3 p4 p5 p6 p7 p8 p9 p10 p11 p12 =
  bif decide (p12 < (List.length p7 : Int)) then
    l_spec_LeastStair_9 m0 m1 N p0 p1 p2 p3 p4 p5 p6 p7 p8 p9 p10 p11 p12 0
  else
    bif decide ((List.length p11 : Int) = (List.length p7 : Int)) then
      some ((p4, (p5, (p6, (p7, ())))), true, ())
    else
      l_spec_LeastStair_4 m0 p0 p1 p2 p3 p8 p9 p10 p11 := by
  rewrite [h_spec_LeastStair_4, h_spec_LeastStair_6, h_spec_LeastStair_9]
  kernel_rfl
theorem q_spec_LeastStair_9 (m0 m1 m2 : Nat) (p0 p1 p2 : Int) (p3 : List D_A3) (p4 p5 p6 : Int) (p7 : List D_A3) (p8 p9 p10 : Int) (p11 : List D_A3) (p12 p13 : Int) : l_spec_LeastStair_9 m0 m1 (m2 + 1) p0 p1 p2 p3 p4 p5 p6 p7 p8 p9 p10 p11 p12 p13 =
  bif decide (p13 < 3) then
    bif inB p12 (List.length p7) then
      bif inB p13 3 then
        bif inB p13 3 then
          bif inB p13 3 then
            bif decide ((bif decide (p13 = (0 : Int)) then (bif decide (p13 = (0 : Int)) then (IntKind.wrap .i64 ((bif decide (p13 = (0 : Int)) then ((nth T_A3 p7 p12)).1 else (bif decide (p13 = (1 : Int)) then (((nth T_A3 p7 p12)).2).1 else ((((nth T_A3 p7 p12)).2).2).1)) - 1)) else ((nth T_A3 p7 p12)).1) else (bif decide (p13 = (1 : Int)) then (bif decide (p13 = (1 : Int)) then (IntKind.wrap .i64 ((bif decide (p13 = (0 : Int)) then ((nth T_A3 p7 p12)).1 else (bif decide (p13 = (1 : Int)) then (((nth T_A3 p7 p12)).2).1 else ((((nth T_A3 p7 p12)).2).2).1)) - 1)) else (((nth T_A3 p7 p12)).2).1) else (bif decide (p13 = (2 : Int)) then (IntKind.wrap .i64 ((bif decide (p13 = (0 : Int)) then ((nth T_A3 p7 p12)).1 else (bif decide (p13 = (1 : Int)) then (((nth T_A3 p7 p12)).2).1 else ((((nth T_A3 p7 p12)).2).2).1)) - 1)) else ((((nth T_A3 p7 p12)).2).2).1))) ≥ 0) then
              Option.bind (P_spec_l2With ((p8, (p9, (p10, (p11, ())))), ((bif decide (p13 = (0 : Int)) then (IntKind.wrap .i64 ((bif decide (p13 = (0 : Int)) then ((nth T_A3 p7 p12)).1 else (bif decide (p13 = (1 : Int)) then (((nth T_A3 p7 p12)).2).1 else ((((nth T_A3 p7 p12)).2).2).1)) - 1)) else ((nth T_A3 p7 p12)).1), ((bif decide (p13 = (1 : Int)) then (IntKind.wrap .i64 ((bif decide (p13 = (0 : Int)) then ((nth T_A3 p7 p12)).1 else (bif decide (p13 = (1 : Int)) then (((nth T_A3 p7 p12)).2).1 else ((((nth T_A3 p7 p12)).2).2).1)) - 1)) else (((nth T_A3 p7 p12)).2).1), ((bif decide (p13 = (2 : Int)) then (IntKind.wrap .i64 ((bif decide (p13 = (0 : Int)) then ((nth T_A3 p7 p12)).1 else (bif decide (p13 = (1 : Int)) then (((nth T_A3 p7 p12)).2).1 else ((((nth T_A3 p7 p12)).2).2).1)) - 1)) else ((((nth T_A3 p7 p12)).2).2).1), ()))), ())) fun r6 =>
              l_spec_LeastStair_9 m0 m1 m2 p0 p1 p2 p3 p4 p5 p6 p7 r6.1.1 r6.1.2.1 r6.1.2.2.1 r6.1.2.2.2.1 p12 (IntKind.wrap .i64 (p13 + 1))
            else
              l_spec_LeastStair_9 m0 m1 m2 p0 p1 p2 p3 p4 p5 p6 p7 p8 p9 p10 p11 p12 (IntKind.wrap .i64 (p13 + 1))
          else none
        else none
      else none
    else none
  else
    l_spec_LeastStair_6 m0 m1 p0 p1 p2 p3 p4 p5 p6 p7 p8 p9 p10 p11 (IntKind.wrap .i64 (p12 + 1)) := by
  rewrite [h_spec_LeastStair_6, h_spec_LeastStair_9]
  kernel_rfl
abbrev As_l1Cur_stair5 : List ATy := [.lptr T_l1Cur]
abbrev R_l1Cur_stair5 : List (Bool × Ty) := [(true, T_Heap)]
abbrev M_l1Cur_stair5 : List RMode := [.own 45]
abbrev Ft_l1Cur_stair5 : Type := D_l1Cur × Unit → Option ((D_Heap × Unit) × (D_l1Cur × Unit))
noncomputable def X_l1Cur_stair5 : Ctx := { types := TT, globals := [], con := [(15, C_spec_StairHollows), (85, C_spec_l2With), (89, C_spec_l2Empty), (158, C_spec_LeastStair), (159, C_spec_l2Sides)], mcon := [(120, C_l1Cur_one), (123, C_l1Cur_pick), (131, C_l1Cur_heap)], keep := [(10, ⟨[.box 2, .box 4, .box 1000000, .tmp 0, .tmp 2, .tmp 4, .tmp 5], []⟩)], results := [.cell 2 26], ntmps := 61, n := N }
noncomputable def B_l1Cur_stair5 : Code := (Tryz.f66.body).getD .skip
noncomputable def L_l1Cur_stair5_10 (m0 : Nat) (p0 p1 p2 : Int) (p3 : List D_A3) (p4 p5 p6 : Int) (p7 : List D_A3) (p8 : List Int) (p9 p10 p11 : Int) : Option (denL R_l1Cur_stair5 × denM As_l1Cur_stair5) := loopFM X_l1Cur_stair5 B_l1Cur_stair5 As_l1Cur_stair5 R_l1Cur_stair5 M_l1Cur_stair5 10 [m0] [(.ver, .num 1), (.box 2, .box 0 false [.int .i64 p0, .int .i64 p1, .int .i64 p2, .own 45 T_A3 0 p3]), (.box 4, .box 0 false [.int .i64 p4, .int .i64 p5, .int .i64 p6, .own 45 T_A3 0 p7]), (.box 1000000, .box 0 false [.imm (.int .u8) p8 (some 1), .int .i64 p9, .int .u64 p10]), (.tmp 0, .val false [.addr 1000000 0 0]), (.tmp 2, .val false [.addr 2 0 0]), (.tmp 4, .val false [.addr 4 0 0]), (.tmp 5, .val false [.int .i64 p11])]
noncomputable def P_l1Cur_stair5 : Ft_l1Cur_stair5 := hid (runFM X_l1Cur_stair5 B_l1Cur_stair5 As_l1Cur_stair5 R_l1Cur_stair5 M_l1Cur_stair5)
theorem h_l1Cur_stair5 : P_l1Cur_stair5 = runFM X_l1Cur_stair5 B_l1Cur_stair5 As_l1Cur_stair5 R_l1Cur_stair5 M_l1Cur_stair5 := hid_eq _
noncomputable def C_l1Cur_stair5 : MContract := ⟨As_l1Cur_stair5, R_l1Cur_stair5, M_l1Cur_stair5, P_l1Cur_stair5⟩
theorem s_l1Cur_stair5 : SoundM Tryz.prog n0 GG 66 C_l1Cur_stair5 := by
  unfold C_l1Cur_stair5; rw [h_l1Cur_stair5]
  exact mkSM Tryz.f66 ⟨s_spec_StairHollows, s_spec_l2With, s_spec_l2Empty, s_spec_LeastStair, s_spec_l2Sides, trivial⟩ ⟨s_l1Cur_one, s_l1Cur_pick, s_l1Cur_heap, trivial⟩
noncomputable def l_l1Cur_stair5_10 := hid (L_l1Cur_stair5_10)
theorem h_l1Cur_stair5_10 : l_l1Cur_stair5_10 = L_l1Cur_stair5_10 := hid_eq _
theorem p_l1Cur_stair5 (a0 : D_l1Cur) : P_l1Cur_stair5 (a0, ()) =
  Option.bind (P_l1Cur_heap (a0, ())) fun r0 =>
  Option.bind (P_l1Cur_one ((a0.1, r0.2.1.2), 12, ())) fun r1 =>
  bif r1.1.1 then
    some ((r0.1.1, ()), ((a0.1, r1.2.1.2), ()))
  else
    Option.bind (P_l1Cur_one ((a0.1, r1.2.1.2), 2, ())) fun r3 =>
    bif r3.1.1 then
      Option.bind (P_spec_LeastStair (r0.1.1, ())) fun r5 =>
      some ((r5.1, ()), ((a0.1, r3.2.1.2), ()))
    else
      Option.bind (P_spec_l2Sides (r0.1.1.1, r0.1.1.2.1, r0.1.1.2.2.1, ())) fun r5 =>
      bif r5.1 then
        Option.bind (P_spec_l2Empty (r0.1.1.1, r0.1.1.2.1, r0.1.1.2.2.1, ())) fun r7 =>
        Option.bind (P_l1Cur_pick ((a0.1, r3.2.1.2), 10, ())) fun r8 =>
        l_l1Cur_stair5_10 N 0 0 0 ([] : List D_A3) r7.1.1 r7.1.2.1 r7.1.2.2.1 r7.1.2.2.2.1 a0.1 r8.2.1.2.1 r8.2.1.2.2.1 r8.1.1
      else
        some ((r0.1.1, ()), ((a0.1, r3.2.1.2), ())) := by
  rewrite [h_l1Cur_stair5, h_l1Cur_stair5_10]
  kernel_rfl
theorem q_l1Cur_stair5_10 (m0 : Nat) (p0 p1 p2 : Int) (p3 : List D_A3) (p4 p5 p6 : Int) (p7 : List D_A3) (p8 : List Int) (p9 p10 p11 : Int) : l_l1Cur_stair5_10 (m0 + 1) p0 p1 p2 p3 p4 p5 p6 p7 p8 p9 p10 p11 =
  bif decide (p11 > 0) then
    Option.bind (P_spec_StairHollows ((p4, (p5, (p6, (p7, ())))), ())) fun r1 =>
    bif decide ((List.length r1.1 : Int) = 0) then
      some (((p4, (p5, (p6, (p7, ())))), ()), ((p8, (p9, (p10, ()))), ()))
    else
      Option.bind (P_l1Cur_pick ((p8, (p9, (p10, ()))), (List.length r1.1 : Int), ())) fun r3 =>
      bif inB r3.1.1 (List.length r1.1) then
        Option.bind (P_spec_l2With ((p4, (p5, (p6, (p7, ())))), (nth T_A3 r1.1 r3.1.1), ())) fun r5 =>
        l_l1Cur_stair5_10 m0 p0 p1 p2 p3 r5.1.1 r5.1.2.1 r5.1.2.2.1 r5.1.2.2.2.1 p8 r3.2.1.2.1 r3.2.1.2.2.1 (IntKind.wrap .i64 (p11 - 1))
      else none
  else
    some (((p4, (p5, (p6, (p7, ())))), ()), ((p8, (p9, (p10, ()))), ())) := by
  rewrite [h_l1Cur_stair5_10]
  kernel_rfl
abbrev As_spec_DrawIsStair : List ATy := [.data false (.sl (.int .u8))]
abbrev R_spec_DrawIsStair : List (Bool × Ty) := [(true, T_Heap)]
abbrev M_spec_DrawIsStair : List RMode := [.own 45]
abbrev Ft_spec_DrawIsStair : Type := (List Int) × Unit → Option (D_Heap × Unit)
noncomputable def X_spec_DrawIsStair : Ctx := { types := TT, globals := [], con := [], mcon := [(66, C_l1Cur_stair5)], keep := [], results := [.cell 2 26], ntmps := 9, n := N }
noncomputable def B_spec_DrawIsStair : Code := (Tryz.f7.body).getD .skip
noncomputable def P_spec_DrawIsStair : Ft_spec_DrawIsStair := hid (runF X_spec_DrawIsStair B_spec_DrawIsStair As_spec_DrawIsStair R_spec_DrawIsStair M_spec_DrawIsStair)
theorem h_spec_DrawIsStair : P_spec_DrawIsStair = runF X_spec_DrawIsStair B_spec_DrawIsStair As_spec_DrawIsStair R_spec_DrawIsStair M_spec_DrawIsStair := hid_eq _
noncomputable def C_spec_DrawIsStair : Contract := ⟨As_spec_DrawIsStair, R_spec_DrawIsStair, M_spec_DrawIsStair, P_spec_DrawIsStair⟩
theorem s_spec_DrawIsStair : Sound Tryz.prog GG 7 C_spec_DrawIsStair := by
  unfold C_spec_DrawIsStair; rw [h_spec_DrawIsStair]
  exact mkS Tryz.f7 trivial ⟨s_l1Cur_stair5, trivial⟩
theorem p_spec_DrawIsStair (a0 : List Int) : P_spec_DrawIsStair (a0, ()) =
  Option.bind (P_l1Cur_stair5 ((a0, (0, (0, ()))), ())) fun r0 =>
  some (r0.1.1, ()) := by
  rewrite [h_spec_DrawIsStair]
  kernel_rfl
abbrev As_Heap_box : List ATy := [.data true T_Heap]
abbrev R_Heap_box : List (Bool × Ty) := [(true, T_A3)]
abbrev M_Heap_box : List RMode := []
abbrev Ft_Heap_box : Type := D_Heap × Unit → Option (D_A3 × Unit)
noncomputable def X_Heap_box : Ctx := { types := TT, globals := [], con := [], keep := [], results := [.cell 2 87], ntmps := 10, n := N }
noncomputable def B_Heap_box : Code := (Tryz.f74.body).getD .skip
noncomputable def P_Heap_box : Ft_Heap_box := hid (runF X_Heap_box B_Heap_box As_Heap_box R_Heap_box M_Heap_box)
theorem h_Heap_box : P_Heap_box = runF X_Heap_box B_Heap_box As_Heap_box R_Heap_box M_Heap_box := hid_eq _
noncomputable def C_Heap_box : Contract := ⟨As_Heap_box, R_Heap_box, M_Heap_box, P_Heap_box⟩
theorem s_Heap_box : Sound Tryz.prog GG 74 C_Heap_box := by
  unfold C_Heap_box; rw [h_Heap_box]
  exact mkS Tryz.f74 trivial trivial
theorem p_Heap_box (a0 : D_Heap) : P_Heap_box (a0, ()) =
  some ((a0.1, (a0.2.1, (a0.2.2.1, ()))), ()) := by
  rewrite [h_Heap_box]
  kernel_rfl
abbrev As_impl_within : List ATy := [.data false (.int .i64), .data false (.int .i64), .data false (.int .i64)]
abbrev R_impl_within : List (Bool × Ty) := [(false, .bool)]
abbrev M_impl_within : List RMode := []
abbrev Ft_impl_within : Type := Int × Int × Int × Unit → Option (Bool × Unit)
noncomputable def X_impl_within : Ctx := { types := TT, globals := [], con := [], keep := [], results := [.tmp 6], ntmps := 15, n := N }
noncomputable def B_impl_within : Code := (Tryz.f99.body).getD .skip
noncomputable def P_impl_within : Ft_impl_within := hid (runF X_impl_within B_impl_within As_impl_within R_impl_within M_impl_within)
theorem h_impl_within : P_impl_within = runF X_impl_within B_impl_within As_impl_within R_impl_within M_impl_within := hid_eq _
noncomputable def C_impl_within : Contract := ⟨As_impl_within, R_impl_within, M_impl_within, P_impl_within⟩
theorem s_impl_within : Sound Tryz.prog GG 99 C_impl_within := by
  unfold C_impl_within; rw [h_impl_within]
  exact mkS Tryz.f99 trivial trivial
theorem p_impl_within (a0 : Int) (a1 : Int) (a2 : Int) : P_impl_within (a0, a1, a2, ()) =
  bif decide (a0 ≥ a1) then
    some (decide (a0 ≤ a2), ())
  else
    some (false, ()) := by
  rewrite [h_impl_within]
  kernel_rfl
abbrev As_box_valid : List ATy := [.data true T_A3]
abbrev R_box_valid : List (Bool × Ty) := [(false, .bool)]
abbrev M_box_valid : List RMode := []
abbrev Ft_box_valid : Type := D_A3 × Unit → Option (Bool × Unit)
noncomputable def X_box_valid : Ctx := { types := TT, globals := [], con := [(99, C_impl_within)], keep := [], results := [.tmp 2], ntmps := 16, n := N }
noncomputable def B_box_valid : Code := (Tryz.f101.body).getD .skip
noncomputable def P_box_valid : Ft_box_valid := hid (runF X_box_valid B_box_valid As_box_valid R_box_valid M_box_valid)
theorem h_box_valid : P_box_valid = runF X_box_valid B_box_valid As_box_valid R_box_valid M_box_valid := hid_eq _
noncomputable def C_box_valid : Contract := ⟨As_box_valid, R_box_valid, M_box_valid, P_box_valid⟩
theorem s_box_valid : Sound Tryz.prog GG 101 C_box_valid := by
  unfold C_box_valid; rw [h_box_valid]
  exact mkS Tryz.f101 ⟨s_impl_within, trivial⟩ trivial
theorem p_box_valid (a0 : D_A3) : P_box_valid (a0, ()) =
  Option.bind (P_impl_within (a0.1, 1, 4, ())) fun r0 =>
  bif r0.1 then
    Option.bind (P_impl_within (a0.2.1, 1, 4, ())) fun r2 =>
    bif r2.1 then
      Option.bind (P_impl_within (a0.2.2.1, 1, 4, ())) fun r4 =>
      some (r4.1, ())
    else
      some (false, ())
  else
    some (false, ()) := by
  rewrite [h_box_valid]
  kernel_rfl
abbrev As_box_has : List ATy := [.data true T_A3, .data true T_A3]
abbrev R_box_has : List (Bool × Ty) := [(false, .bool)]
abbrev M_box_has : List RMode := []
abbrev Ft_box_has : Type := D_A3 × D_A3 × Unit → Option (Bool × Unit)
noncomputable def X_box_has : Ctx := { types := TT, globals := [], con := [(99, C_impl_within)], keep := [], results := [.tmp 4], ntmps := 27, n := N }
noncomputable def B_box_has : Code := (Tryz.f160.body).getD .skip
noncomputable def P_box_has : Ft_box_has := hid (runF X_box_has B_box_has As_box_has R_box_has M_box_has)
theorem h_box_has : P_box_has = runF X_box_has B_box_has As_box_has R_box_has M_box_has := hid_eq _
noncomputable def C_box_has : Contract := ⟨As_box_has, R_box_has, M_box_has, P_box_has⟩
theorem s_box_has : Sound Tryz.prog GG 160 C_box_has := by
  unfold C_box_has; rw [h_box_has]
  exact mkS Tryz.f160 ⟨s_impl_within, trivial⟩ trivial
theorem p_box_has (a0 : D_A3) (a1 : D_A3) : P_box_has (a0, a1, ()) =
  Option.bind (P_impl_within (a1.1, 0, (IntKind.wrap .i64 (a0.1 - 1)), ())) fun r0 =>
  bif r0.1 then
    Option.bind (P_impl_within (a1.2.1, 0, (IntKind.wrap .i64 (a0.2.1 - 1)), ())) fun r2 =>
    bif r2.1 then
      Option.bind (P_impl_within (a1.2.2.1, 0, (IntKind.wrap .i64 (a0.2.2.1 - 1)), ())) fun r4 =>
      some (r4.1, ())
    else
      some (false, ())
  else
    some (false, ()) := by
  rewrite [h_box_has]
  kernel_rfl
abbrev As_cmp_isNaN_int : List ATy := [.data false (.int .i64)]
abbrev R_cmp_isNaN_int : List (Bool × Ty) := [(false, .bool)]
abbrev M_cmp_isNaN_int : List RMode := []
abbrev Ft_cmp_isNaN_int : Type := Int × Unit → Option (Bool × Unit)
noncomputable def X_cmp_isNaN_int : Ctx := { types := TT, globals := [], con := [], keep := [], results := [.tmp 2], ntmps := 6, n := N }
noncomputable def B_cmp_isNaN_int : Code := (Tryz.f225.body).getD .skip
noncomputable def P_cmp_isNaN_int : Ft_cmp_isNaN_int := hid (runF X_cmp_isNaN_int B_cmp_isNaN_int As_cmp_isNaN_int R_cmp_isNaN_int M_cmp_isNaN_int)
theorem h_cmp_isNaN_int : P_cmp_isNaN_int = runF X_cmp_isNaN_int B_cmp_isNaN_int As_cmp_isNaN_int R_cmp_isNaN_int M_cmp_isNaN_int := hid_eq _
noncomputable def C_cmp_isNaN_int : Contract := ⟨As_cmp_isNaN_int, R_cmp_isNaN_int, M_cmp_isNaN_int, P_cmp_isNaN_int⟩
theorem s_cmp_isNaN_int : Sound Tryz.prog GG 225 C_cmp_isNaN_int := by
  unfold C_cmp_isNaN_int; rw [h_cmp_isNaN_int]
  exact mkS Tryz.f225 trivial trivial
theorem p_cmp_isNaN_int (a0 : Int) : P_cmp_isNaN_int (a0, ()) =
  some (!decide (a0 = a0), ()) := by
  rewrite [h_cmp_isNaN_int]
  kernel_rfl
abbrev As_cmp_Compare_int : List ATy := [.data false (.int .i64), .data false (.int .i64)]
abbrev R_cmp_Compare_int : List (Bool × Ty) := [(false, (.int .i64))]
abbrev M_cmp_Compare_int : List RMode := []
abbrev Ft_cmp_Compare_int : Type := Int × Int × Unit → Option (Int × Unit)
noncomputable def X_cmp_Compare_int : Ctx := { types := TT, globals := [], con := [(225, C_cmp_isNaN_int)], keep := [], results := [.tmp 4], ntmps := 20, n := N }
noncomputable def B_cmp_Compare_int : Code := (Tryz.f223.body).getD .skip
noncomputable def P_cmp_Compare_int : Ft_cmp_Compare_int := hid (runF X_cmp_Compare_int B_cmp_Compare_int As_cmp_Compare_int R_cmp_Compare_int M_cmp_Compare_int)
theorem h_cmp_Compare_int : P_cmp_Compare_int = runF X_cmp_Compare_int B_cmp_Compare_int As_cmp_Compare_int R_cmp_Compare_int M_cmp_Compare_int := hid_eq _
noncomputable def C_cmp_Compare_int : Contract := ⟨As_cmp_Compare_int, R_cmp_Compare_int, M_cmp_Compare_int, P_cmp_Compare_int⟩
theorem s_cmp_Compare_int : Sound Tryz.prog GG 223 C_cmp_Compare_int := by
  unfold C_cmp_Compare_int; rw [h_cmp_Compare_int]
  exact mkS Tryz.f223 ⟨s_cmp_isNaN_int, trivial⟩ trivial
theorem p_cmp_Compare_int (a0 : Int) (a1 : Int) : P_cmp_Compare_int (a0, a1, ()) =
  Option.bind (P_cmp_isNaN_int (a0, ())) fun r0 =>
  Option.bind (P_cmp_isNaN_int (a1, ())) fun r1 =>
  bif r0.1 then
    bif r1.1 then
      some (0, ())
    else
      some ((-1), ())
  else
    bif r1.1 then
      some (1, ())
    else
      bif decide (a0 < a1) then
        some ((-1), ())
      else
        bif decide (a0 > a1) then
          some (1, ())
        else
          some (0, ()) := by
  rewrite [h_cmp_Compare_int]
  kernel_rfl
abbrev As_slices_Compare_int_int : List ATy := [.data false (.sl (.int .i64)), .data false (.sl (.int .i64))]
abbrev R_slices_Compare_int_int : List (Bool × Ty) := [(false, (.int .i64))]
abbrev M_slices_Compare_int_int : List RMode := []
abbrev Ft_slices_Compare_int_int : Type := (List Int) × (List Int) × Unit → Option (Int × Unit)
noncomputable def X_slices_Compare_int_int : Ctx := { types := TT, globals := [], con := [(223, C_cmp_Compare_int)], keep := [(2, ⟨[.tmp 0, .tmp 1, .tmp 9, .tmp 10, .tmp 11], []⟩)], results := [.tmp 4], ntmps := 36, n := N }
noncomputable def B_slices_Compare_int_int : Code := (Tryz.f212.body).getD .skip
noncomputable def L_slices_Compare_int_int_2 (m0 : Nat) (p0 p1 p2 : List Int) (p3 p4 : Int) : Option (denL R_slices_Compare_int_int) := loopF X_slices_Compare_int_int B_slices_Compare_int_int R_slices_Compare_int_int M_slices_Compare_int_int 2 [m0] [(.ver, .num 1), (.tmp 0, .val false [.imm (.int .i64) p0 (some 0)]), (.tmp 1, .val false [.imm (.int .i64) p1 (some 1)]), (.tmp 9, .val false [.imm (.int .i64) p2 (some 0)]), (.tmp 10, .val false [.int .i64 p3]), (.tmp 11, .val false [.int .i64 p4])]
noncomputable def P_slices_Compare_int_int : Ft_slices_Compare_int_int := hid (runF X_slices_Compare_int_int B_slices_Compare_int_int As_slices_Compare_int_int R_slices_Compare_int_int M_slices_Compare_int_int)
theorem h_slices_Compare_int_int : P_slices_Compare_int_int = runF X_slices_Compare_int_int B_slices_Compare_int_int As_slices_Compare_int_int R_slices_Compare_int_int M_slices_Compare_int_int := hid_eq _
noncomputable def C_slices_Compare_int_int : Contract := ⟨As_slices_Compare_int_int, R_slices_Compare_int_int, M_slices_Compare_int_int, P_slices_Compare_int_int⟩
theorem s_slices_Compare_int_int : Sound Tryz.prog GG 212 C_slices_Compare_int_int := by
  unfold C_slices_Compare_int_int; rw [h_slices_Compare_int_int]
  exact mkS Tryz.f212 ⟨s_cmp_Compare_int, trivial⟩ trivial
noncomputable def l_slices_Compare_int_int_2 := hid (L_slices_Compare_int_int_2)
theorem h_slices_Compare_int_int_2 : l_slices_Compare_int_int_2 = L_slices_Compare_int_int_2 := hid_eq _
theorem p_slices_Compare_int_int (a0 : List Int) (a1 : List Int) : P_slices_Compare_int_int (a0, a1, ()) =
  l_slices_Compare_int_int_2 N a0 a1 a0 (List.length a0 : Int) 0 := by
  rewrite [h_slices_Compare_int_int, h_slices_Compare_int_int_2]
  kernel_rfl
theorem q_slices_Compare_int_int_2 (m0 : Nat) (p0 p1 p2 : List Int) (p3 p4 : Int) : l_slices_Compare_int_int_2 (m0 + 1) p0 p1 p2 p3 p4 =
  bif decide (p4 < p3) then
    bif inB p4 (List.length p2) then
      bif decide (p4 ≥ (List.length p1 : Int)) then
        some (1, ())
      else
        bif inB p4 (List.length p1) then
          Option.bind (P_cmp_Compare_int ((nth ((.int .i64) : Ty) p2 p4), (nth ((.int .i64) : Ty) p1 p4), ())) fun r4 =>
          bif !decide (r4.1 = 0) then
            some (r4.1, ())
          else
            l_slices_Compare_int_int_2 m0 p0 p1 p2 p3 (IntKind.wrap .i64 (p4 + 1))
        else none
    else none
  else
    bif decide ((List.length p0 : Int) < (List.length p1 : Int)) then
      some ((-1), ())
    else
      some (0, ()) := by
  rewrite [h_slices_Compare_int_int_2]
  kernel_rfl
abbrev As_impl_compareCells : List ATy := [.data true T_A3, .data true T_A3]
abbrev R_impl_compareCells : List (Bool × Ty) := [(false, (.int .i64))]
abbrev M_impl_compareCells : List RMode := []
abbrev Ft_impl_compareCells : Type := D_A3 × D_A3 × Unit → Option (Int × Unit)
noncomputable def X_impl_compareCells : Ctx := { types := TT, globals := [], con := [(212, C_slices_Compare_int_int)], keep := [], results := [.tmp 4], ntmps := 8, n := N }
noncomputable def B_impl_compareCells : Code := (Tryz.f161.body).getD .skip
noncomputable def P_impl_compareCells : Ft_impl_compareCells := hid (runF X_impl_compareCells B_impl_compareCells As_impl_compareCells R_impl_compareCells M_impl_compareCells)
theorem h_impl_compareCells : P_impl_compareCells = runF X_impl_compareCells B_impl_compareCells As_impl_compareCells R_impl_compareCells M_impl_compareCells := hid_eq _
noncomputable def C_impl_compareCells : Contract := ⟨As_impl_compareCells, R_impl_compareCells, M_impl_compareCells, P_impl_compareCells⟩
theorem s_impl_compareCells : Sound Tryz.prog GG 161 C_impl_compareCells := by
  unfold C_impl_compareCells; rw [h_impl_compareCells]
  exact mkS Tryz.f161 ⟨s_slices_Compare_int_int, trivial⟩ trivial
theorem p_impl_compareCells (a0 : D_A3) (a1 : D_A3) : P_impl_compareCells (a0, a1, ()) =
  Option.bind (P_slices_Compare_int_int (([a0.1, a0.2.1, a0.2.2.1] : List Int), ([a1.1, a1.2.1, a1.2.2.1] : List Int), ())) fun r0 =>
  some (r0.1, ()) := by
  rewrite [h_impl_compareCells]
  kernel_rfl
abbrev As_impl_IsHeap : List ATy := [.data true T_Heap]
abbrev R_impl_IsHeap : List (Bool × Ty) := [(false, .bool)]
abbrev M_impl_IsHeap : List RMode := []
abbrev Ft_impl_IsHeap : Type := D_Heap × Unit → Option (Bool × Unit)
noncomputable def X_impl_IsHeap : Ctx := { types := TT, globals := [], con := [(74, C_Heap_box), (101, C_box_valid), (160, C_box_has), (161, C_impl_compareCells)], keep := [(4, ⟨[.box 1, .tmp 1, .tmp 10, .tmp 11, .tmp 12], []⟩)], results := [.tmp 2], ntmps := 38, n := N }
noncomputable def B_impl_IsHeap : Code := (Tryz.f67.body).getD .skip
noncomputable def L_impl_IsHeap_4 (m0 : Nat) (p0 p1 p2 : Int) (p3 p4 : List D_A3) (p5 p6 : Int) : Option (denL R_impl_IsHeap) := loopF X_impl_IsHeap B_impl_IsHeap R_impl_IsHeap M_impl_IsHeap 4 [m0] [(.ver, .num 1), (.box 1, .box 0 false [.int .i64 p0, .int .i64 p1, .int .i64 p2, .imm T_A3 p3 (some 3)]), (.tmp 1, .val false [.addr 1 0 0]), (.tmp 10, .val false [.imm T_A3 p4 (some 3)]), (.tmp 11, .val false [.int .i64 p5]), (.tmp 12, .val false [.int .i64 p6])]
noncomputable def P_impl_IsHeap : Ft_impl_IsHeap := hid (runF X_impl_IsHeap B_impl_IsHeap As_impl_IsHeap R_impl_IsHeap M_impl_IsHeap)
theorem h_impl_IsHeap : P_impl_IsHeap = runF X_impl_IsHeap B_impl_IsHeap As_impl_IsHeap R_impl_IsHeap M_impl_IsHeap := hid_eq _
noncomputable def C_impl_IsHeap : Contract := ⟨As_impl_IsHeap, R_impl_IsHeap, M_impl_IsHeap, P_impl_IsHeap⟩
theorem s_impl_IsHeap : Sound Tryz.prog GG 67 C_impl_IsHeap := by
  unfold C_impl_IsHeap; rw [h_impl_IsHeap]
  exact mkS Tryz.f67 ⟨s_Heap_box, s_box_valid, s_box_has, s_impl_compareCells, trivial⟩ trivial
noncomputable def l_impl_IsHeap_4 := hid (L_impl_IsHeap_4)
theorem h_impl_IsHeap_4 : l_impl_IsHeap_4 = L_impl_IsHeap_4 := hid_eq _
theorem p_impl_IsHeap (a0 : D_Heap) : P_impl_IsHeap (a0, ()) =
  Option.bind (P_Heap_box (a0, ())) fun r0 =>
  Option.bind (P_box_valid (r0.1, ())) fun r1 =>
  bif !r1.1 then
    some (false, ())
  else
    l_impl_IsHeap_4 N a0.1 a0.2.1 a0.2.2.1 a0.2.2.2.1 a0.2.2.2.1 (List.length a0.2.2.2.1 : Int) 0 := by
  rewrite [h_impl_IsHeap, h_impl_IsHeap_4]
  kernel_rfl
theorem q_impl_IsHeap_4 (m0 : Nat) (p0 p1 p2 : Int) (p3 p4 : List D_A3) (p5 p6 : Int) : l_impl_IsHeap_4 (m0 + 1) p0 p1 p2 p3 p4 p5 p6 =
  bif decide (p6 < p5) then
    bif inB p6 (List.length p4) then
      Option.bind (P_Heap_box ((p0, (p1, (p2, (p3, ())))), ())) fun r2 =>
      Option.bind (P_box_has (r2.1, (nth T_A3 p4 p6), ())) fun r3 =>
      bif !r3.1 then
        some (false, ())
      else
        bif decide (p6 > 0) then
          bif inB (IntKind.wrap .i64 (p6 - 1)) (List.length p3) then
            Option.bind (P_impl_compareCells ((nth T_A3 p3 (IntKind.wrap .i64 (p6 - 1))), (nth T_A3 p4 p6), ())) fun r7 =>
            bif decide (r7.1 ≥ 0) then
              some (false, ())
            else
              l_impl_IsHeap_4 m0 p0 p1 p2 p3 p4 p5 (IntKind.wrap .i64 (p6 + 1))
          else none
        else
          l_impl_IsHeap_4 m0 p0 p1 p2 p3 p4 p5 (IntKind.wrap .i64 (p6 + 1))
    else none
  else
    some (true, ()) := by
  rewrite [h_impl_IsHeap_4]
  kernel_rfl
abbrev As_box_index : List ATy := [.data true T_A3, .data true T_A3]
abbrev R_box_index : List (Bool × Ty) := [(false, (.int .i64))]
abbrev M_box_index : List RMode := []
abbrev Ft_box_index : Type := D_A3 × D_A3 × Unit → Option (Int × Unit)
noncomputable def X_box_index : Ctx := { types := TT, globals := [], con := [], keep := [], results := [.tmp 4], ntmps := 19, n := N }
noncomputable def B_box_index : Code := (Tryz.f81.body).getD .skip
noncomputable def P_box_index : Ft_box_index := hid (runF X_box_index B_box_index As_box_index R_box_index M_box_index)
theorem h_box_index : P_box_index = runF X_box_index B_box_index As_box_index R_box_index M_box_index := hid_eq _
noncomputable def C_box_index : Contract := ⟨As_box_index, R_box_index, M_box_index, P_box_index⟩
theorem s_box_index : Sound Tryz.prog GG 81 C_box_index := by
  unfold C_box_index; rw [h_box_index]
  exact mkS Tryz.f81 trivial trivial
theorem p_box_index (a0 : D_A3) (a1 : D_A3) : P_box_index (a0, a1, ()) =
  some ((IntKind.wrap .i64 ((IntKind.wrap .i64 ((IntKind.wrap .i64 ((IntKind.wrap .i64 (a1.1 * a0.2.1)) + a1.2.1)) * a0.2.2.1)) + a1.2.2.1)), ()) := by
  rewrite [h_box_index]
  kernel_rfl
abbrev As_Heap_cubes : List ATy := [.data true T_Heap]
abbrev R_Heap_cubes : List (Bool × Ty) := [(false, (.int .u64))]
abbrev M_Heap_cubes : List RMode := []
abbrev Ft_Heap_cubes : Type := D_Heap × Unit → Option (Int × Unit)
noncomputable def X_Heap_cubes : Ctx := { types := TT, globals := [], con := [(74, C_Heap_box), (81, C_box_index)], keep := [(3, ⟨[.box 1, .tmp 1, .tmp 3, .tmp 7, .tmp 8, .tmp 9], []⟩)], results := [.tmp 2], ntmps := 22, n := N }
noncomputable def B_Heap_cubes : Code := (Tryz.f77.body).getD .skip
noncomputable def L_Heap_cubes_3 (m0 : Nat) (p0 p1 p2 : Int) (p3 : List D_A3) (p4 : Int) (p5 : List D_A3) (p6 p7 : Int) : Option (denL R_Heap_cubes) := loopF X_Heap_cubes B_Heap_cubes R_Heap_cubes M_Heap_cubes 3 [m0] [(.ver, .num 1), (.box 1, .box 0 false [.int .i64 p0, .int .i64 p1, .int .i64 p2, .imm T_A3 p3 (some 3)]), (.tmp 1, .val false [.addr 1 0 0]), (.tmp 3, .val false [.int .u64 p4]), (.tmp 7, .val false [.imm T_A3 p5 (some 3)]), (.tmp 8, .val false [.int .i64 p6]), (.tmp 9, .val false [.int .i64 p7])]
noncomputable def P_Heap_cubes : Ft_Heap_cubes := hid (runF X_Heap_cubes B_Heap_cubes As_Heap_cubes R_Heap_cubes M_Heap_cubes)
theorem h_Heap_cubes : P_Heap_cubes = runF X_Heap_cubes B_Heap_cubes As_Heap_cubes R_Heap_cubes M_Heap_cubes := hid_eq _
noncomputable def C_Heap_cubes : Contract := ⟨As_Heap_cubes, R_Heap_cubes, M_Heap_cubes, P_Heap_cubes⟩
theorem s_Heap_cubes : Sound Tryz.prog GG 77 C_Heap_cubes := by
  unfold C_Heap_cubes; rw [h_Heap_cubes]
  exact mkS Tryz.f77 ⟨s_Heap_box, s_box_index, trivial⟩ trivial
noncomputable def l_Heap_cubes_3 := hid (L_Heap_cubes_3)
theorem h_Heap_cubes_3 : l_Heap_cubes_3 = L_Heap_cubes_3 := hid_eq _
theorem p_Heap_cubes (a0 : D_Heap) : P_Heap_cubes (a0, ()) =
  l_Heap_cubes_3 N a0.1 a0.2.1 a0.2.2.1 a0.2.2.2.1 0 a0.2.2.2.1 (List.length a0.2.2.2.1 : Int) 0 := by
  rewrite [h_Heap_cubes, h_Heap_cubes_3]
  kernel_rfl
theorem q_Heap_cubes_3 (m0 : Nat) (p0 p1 p2 : Int) (p3 : List D_A3) (p4 : Int) (p5 : List D_A3) (p6 p7 : Int) : l_Heap_cubes_3 (m0 + 1) p0 p1 p2 p3 p4 p5 p6 p7 =
  bif decide (p7 < p6) then
    bif inB p7 (List.length p5) then
      Option.bind (P_Heap_box ((p0, (p1, (p2, (p3, ())))), ())) fun r2 =>
      Option.bind (P_box_index (r2.1, (nth T_A3 p5 p7), ())) fun r3 =>
      bif decide ((0 : Int) ≤ r3.1) then
        l_Heap_cubes_3 m0 p0 p1 p2 p3 (intBits .or .u64 p4 (shlI .u64 1 r3.1)) p5 p6 (IntKind.wrap .i64 (p7 + 1))
      else none
    else none
  else
    some (p4, ()) := by
  rewrite [h_Heap_cubes_3]
  kernel_rfl
abbrev As_set_has : List ATy := [.data false (.int .u64), .data false (.int .i64)]
abbrev R_set_has : List (Bool × Ty) := [(false, .bool)]
abbrev M_set_has : List RMode := []
abbrev Ft_set_has : Type := Int × Int × Unit → Option (Bool × Unit)
noncomputable def X_set_has : Ctx := { types := TT, globals := [], con := [], keep := [], results := [.tmp 4], ntmps := 10, n := N }
noncomputable def B_set_has : Code := (Tryz.f88.body).getD .skip
noncomputable def P_set_has : Ft_set_has := hid (runF X_set_has B_set_has As_set_has R_set_has M_set_has)
theorem h_set_has : P_set_has = runF X_set_has B_set_has As_set_has R_set_has M_set_has := hid_eq _
noncomputable def C_set_has : Contract := ⟨As_set_has, R_set_has, M_set_has, P_set_has⟩
theorem s_set_has : Sound Tryz.prog GG 88 C_set_has := by
  unfold C_set_has; rw [h_set_has]
  exact mkS Tryz.f88 trivial trivial
theorem p_set_has (a0 : Int) (a1 : Int) : P_set_has (a0, a1, ()) =
  bif decide ((0 : Int) ≤ a1) then
    some (decide ((intBits .and .u64 (shrI .u64 a0 a1) 1) = 1), ())
  else none := by
  rewrite [h_set_has]
  kernel_rfl
abbrev As_box_cell : List ATy := [.data true T_A3, .data false (.int .i64)]
abbrev R_box_cell : List (Bool × Ty) := [(true, T_A3)]
abbrev M_box_cell : List RMode := []
abbrev Ft_box_cell : Type := D_A3 × Int × Unit → Option (D_A3 × Unit)
noncomputable def X_box_cell : Ctx := { types := TT, globals := [], con := [], keep := [], results := [.cell 4 45], ntmps := 24, n := N }
noncomputable def B_box_cell : Code := (Tryz.f126.body).getD .skip
noncomputable def P_box_cell : Ft_box_cell := hid (runF X_box_cell B_box_cell As_box_cell R_box_cell M_box_cell)
theorem h_box_cell : P_box_cell = runF X_box_cell B_box_cell As_box_cell R_box_cell M_box_cell := hid_eq _
noncomputable def C_box_cell : Contract := ⟨As_box_cell, R_box_cell, M_box_cell, P_box_cell⟩
theorem s_box_cell : Sound Tryz.prog GG 126 C_box_cell := by
  unfold C_box_cell; rw [h_box_cell]
  exact mkS Tryz.f126 trivial trivial
theorem p_box_cell (a0 : D_A3) (a1 : Int) : P_box_cell (a0, a1, ()) =
  bif !decide (a0.2.2.1 = 0) then
    bif !decide (a0.2.1 = 0) then
      bif !decide (a0.2.2.1 = 0) then
        bif !decide (a0.2.1 = 0) then
          bif !decide (a0.2.2.1 = 0) then
            some (((IntKind.wrap .i64 (Int.tdiv (IntKind.wrap .i64 (Int.tdiv a1 a0.2.2.1)) a0.2.1)), ((Int.tmod (IntKind.wrap .i64 (Int.tdiv a1 a0.2.2.1)) a0.2.1), ((Int.tmod a1 a0.2.2.1), ()))), ())
          else none
        else none
      else none
    else none
  else none := by
  rewrite [h_box_cell]
  kernel_rfl
abbrev As_box_size : List ATy := [.data true T_A3]
abbrev R_box_size : List (Bool × Ty) := [(false, (.int .i64))]
abbrev M_box_size : List RMode := []
abbrev Ft_box_size : Type := D_A3 × Unit → Option (Int × Unit)
noncomputable def X_box_size : Ctx := { types := TT, globals := [], con := [], keep := [], results := [.tmp 2], ntmps := 11, n := N }
noncomputable def B_box_size : Code := (Tryz.f166.body).getD .skip
noncomputable def P_box_size : Ft_box_size := hid (runF X_box_size B_box_size As_box_size R_box_size M_box_size)
theorem h_box_size : P_box_size = runF X_box_size B_box_size As_box_size R_box_size M_box_size := hid_eq _
noncomputable def C_box_size : Contract := ⟨As_box_size, R_box_size, M_box_size, P_box_size⟩
theorem s_box_size : Sound Tryz.prog GG 166 C_box_size := by
  unfold C_box_size; rw [h_box_size]
  exact mkS Tryz.f166 trivial trivial
theorem p_box_size (a0 : D_A3) : P_box_size (a0, ()) =
  some ((IntKind.wrap .i64 ((IntKind.wrap .i64 (a0.1 * a0.2.1)) * a0.2.2.1)), ()) := by
  rewrite [h_box_size]
  kernel_rfl
abbrev As_box_list : List ATy := [.data true T_A3, .data false (.int .u64)]
abbrev R_box_list : List (Bool × Ty) := [(false, (.sl T_A3))]
abbrev M_box_list : List RMode := [.own 45]
abbrev Ft_box_list : Type := D_A3 × Int × Unit → Option ((List D_A3) × Unit)
noncomputable def X_box_list : Ctx := { types := TT, globals := [], con := [(88, C_set_has), (126, C_box_cell), (166, C_box_size)], keep := [(3, ⟨[.box 2, .tmp 1, .tmp 2, .tmp 5, .tmp 9, .tmp 10], []⟩)], results := [.tmp 4], ntmps := 24, n := N }
noncomputable def B_box_list : Code := (Tryz.f75.body).getD .skip
noncomputable def L_box_list_3 (m0 : Nat) (p0 p1 p2 p3 : Int) (p4 : List D_A3) (p5 p6 : Int) : Option (denL R_box_list) := loopF X_box_list B_box_list R_box_list M_box_list 3 [m0] [(.ver, .num 1), (.box 2, .box 0 false [.int .i64 p0, .int .i64 p1, .int .i64 p2]), (.tmp 1, .val false [.int .u64 p3]), (.tmp 2, .val false [.addr 2 0 0]), (.tmp 5, .val false [.own 45 T_A3 0 p4]), (.tmp 9, .val false [.int .i64 p5]), (.tmp 10, .val false [.int .i64 p6])]
noncomputable def P_box_list : Ft_box_list := hid (runF X_box_list B_box_list As_box_list R_box_list M_box_list)
theorem h_box_list : P_box_list = runF X_box_list B_box_list As_box_list R_box_list M_box_list := hid_eq _
noncomputable def C_box_list : Contract := ⟨As_box_list, R_box_list, M_box_list, P_box_list⟩
theorem s_box_list : Sound Tryz.prog GG 75 C_box_list := by
  unfold C_box_list; rw [h_box_list]
  exact mkS Tryz.f75 ⟨s_set_has, s_box_cell, s_box_size, trivial⟩ trivial
noncomputable def l_box_list_3 := hid (L_box_list_3)
theorem h_box_list_3 : l_box_list_3 = L_box_list_3 := hid_eq _
theorem p_box_list (a0 : D_A3) (a1 : Int) : P_box_list (a0, a1, ()) =
  Option.bind (P_box_size (a0, ())) fun r0 =>
  l_box_list_3 N a0.1 a0.2.1 a0.2.2.1 a1 ([] : List D_A3) r0.1 0 := by
  rewrite [h_box_list, h_box_list_3]
  kernel_rfl
theorem q_box_list_3 (m0 : Nat) (p0 p1 p2 p3 : Int) (p4 : List D_A3) (p5 p6 : Int) : l_box_list_3 (m0 + 1) p0 p1 p2 p3 p4 p5 p6 =
  bif decide (p6 < p5) then
    Option.bind (P_set_has (p3, p6, ())) fun r1 =>
    bif r1.1 then
      Option.bind (P_box_cell ((p0, (p1, (p2, ()))), p6, ())) fun r3 =>
      bif (decide (((List.length p4) + (List.length ([r3.1] : List D_A3))) * 24 ≤ 140737488355328) && decide (((List.length p4) + (List.length ([r3.1] : List D_A3))) ≤ 140737488355328)) then
        l_box_list_3 m0 p0 p1 p2 p3 (p4 ++ ([r3.1] : List D_A3)) p5 (IntKind.wrap .i64 (p6 + 1))
      else none
    else
      l_box_list_3 m0 p0 p1 p2 p3 p4 p5 (IntKind.wrap .i64 (p6 + 1))
  else
    some (p4, ()) := by
  rewrite [h_box_list_3]
  kernel_rfl
abbrev As_box_those : List ATy := [.data true T_A3, .clo [(true, T_A3)] [(false, .bool)]]
abbrev R_box_those : List (Bool × Ty) := [(false, (.int .u64))]
abbrev M_box_those : List RMode := []
abbrev Ft_box_those : Type := D_A3 × ((D_A3 × Unit) → Option (Bool × Unit)) × Unit → Option (Int × Unit)
noncomputable def X_box_those : Ctx := { types := TT, globals := [], con := [(126, C_box_cell), (166, C_box_size)], keep := [(3, ⟨[.box 2, .tmp 1, .tmp 2, .tmp 5, .tmp 8, .tmp 9], []⟩)], results := [.tmp 4], ntmps := 23, n := N }
noncomputable def B_box_those : Code := (Tryz.f79.body).getD .skip
noncomputable def L_box_those_3 (m0 : Nat) (p0 p1 p2 : Int) (p3 : (D_A3 × Unit) → Option (Bool × Unit)) (p4 p5 p6 : Int) : Option (denL R_box_those) := loopF X_box_those B_box_those R_box_those M_box_those 3 [m0] [(.ver, .num 1), (.box 2, .box 0 false [.int .i64 p0, .int .i64 p1, .int .i64 p2]), (.tmp 1, .val false [.clo [(true, T_A3)] [(false, .bool)] p3]), (.tmp 2, .val false [.addr 2 0 0]), (.tmp 5, .val false [.int .u64 p4]), (.tmp 8, .val false [.int .i64 p5]), (.tmp 9, .val false [.int .i64 p6])]
noncomputable def P_box_those : Ft_box_those := hid (runF X_box_those B_box_those As_box_those R_box_those M_box_those)
theorem h_box_those : P_box_those = runF X_box_those B_box_those As_box_those R_box_those M_box_those := hid_eq _
noncomputable def C_box_those : Contract := ⟨As_box_those, R_box_those, M_box_those, P_box_those⟩
theorem s_box_those : Sound Tryz.prog GG 79 C_box_those := by
  unfold C_box_those; rw [h_box_those]
  exact mkS Tryz.f79 ⟨s_box_cell, s_box_size, trivial⟩ trivial
noncomputable def l_box_those_3 := hid (L_box_those_3)
theorem h_box_those_3 : l_box_those_3 = L_box_those_3 := hid_eq _
theorem p_box_those (a0 : D_A3) (a1 : (D_A3 × Unit) → Option (Bool × Unit)) : P_box_those (a0, a1, ()) =
  Option.bind (P_box_size (a0, ())) fun r0 =>
  l_box_those_3 N a0.1 a0.2.1 a0.2.2.1 a1 0 r0.1 0 := by
  rewrite [h_box_those, h_box_those_3]
  kernel_rfl
theorem q_box_those_3 (m0 : Nat) (p0 p1 p2 : Int) (p3 : (D_A3 × Unit) → Option (Bool × Unit)) (p4 p5 p6 : Int) : l_box_those_3 (m0 + 1) p0 p1 p2 p3 p4 p5 p6 =
  bif decide (p6 < p5) then
    Option.bind (P_box_cell ((p0, (p1, (p2, ()))), p6, ())) fun r1 =>
    Option.bind (p3 (r1.1, ())) fun r2 =>
    bif r2.1 then
      bif decide ((0 : Int) ≤ p6) then
        l_box_those_3 m0 p0 p1 p2 p3 (intBits .or .u64 p4 (shlI .u64 1 p6)) p5 (IntKind.wrap .i64 (p6 + 1))
      else none
    else
      l_box_those_3 m0 p0 p1 p2 p3 p4 p5 (IntKind.wrap .i64 (p6 + 1))
  else
    some (p4, ()) := by
  rewrite [h_box_those_3]
  kernel_rfl
abbrev As_box_below_1 : List ATy := [.data true T_A3, .ptr T_A3]
abbrev R_box_below_1 : List (Bool × Ty) := [(false, .bool)]
abbrev M_box_below_1 : List RMode := []
abbrev Ft_box_below_1 : Type := D_A3 × D_A3 × Unit → Option (Bool × Unit)
noncomputable def X_box_below_1 : Ctx := { types := TT, globals := [], con := [], keep := [], results := [.tmp 3], ntmps := 23, n := N }
noncomputable def B_box_below_1 : Code := (Tryz.f213.body).getD .skip
noncomputable def P_box_below_1 : Ft_box_below_1 := hid (runF X_box_below_1 B_box_below_1 As_box_below_1 R_box_below_1 M_box_below_1)
theorem h_box_below_1 : P_box_below_1 = runF X_box_below_1 B_box_below_1 As_box_below_1 R_box_below_1 M_box_below_1 := hid_eq _
noncomputable def C_box_below_1 : Contract := ⟨As_box_below_1, R_box_below_1, M_box_below_1, P_box_below_1⟩
theorem s_box_below_1 : Sound Tryz.prog GG 213 C_box_below_1 := by
  unfold C_box_below_1; rw [h_box_below_1]
  exact mkS Tryz.f213 trivial trivial
theorem p_box_below_1 (a0 : D_A3) (a1 : D_A3) : P_box_below_1 (a0, a1, ()) =
  bif decide (a0.1 ≤ a1.1) then
    bif decide (a0.2.1 ≤ a1.2.1) then
      some (decide (a0.2.2.1 ≤ a1.2.2.1), ())
    else
      some (false, ())
  else
    some (false, ()) := by
  rewrite [h_box_below_1]
  kernel_rfl
abbrev As_box_below : List ATy := [.data true T_A3, .data true T_A3]
abbrev R_box_below : List (Bool × Ty) := [(false, (.int .u64))]
abbrev M_box_below : List RMode := []
abbrev Ft_box_below : Type := D_A3 × D_A3 × Unit → Option (Int × Unit)
noncomputable def X_box_below : Ctx := { types := TT, globals := [], con := [(79, C_box_those), (213, C_box_below_1)], keep := [], results := [.tmp 4], ntmps := 8, n := N }
noncomputable def B_box_below : Code := (Tryz.f169.body).getD .skip
noncomputable def P_box_below : Ft_box_below := hid (runF X_box_below B_box_below As_box_below R_box_below M_box_below)
theorem h_box_below : P_box_below = runF X_box_below B_box_below As_box_below R_box_below M_box_below := hid_eq _
noncomputable def C_box_below : Contract := ⟨As_box_below, R_box_below, M_box_below, P_box_below⟩
theorem s_box_below : Sound Tryz.prog GG 169 C_box_below := by
  unfold C_box_below; rw [h_box_below]
  exact mkS Tryz.f169 ⟨s_box_those, s_box_below_1, trivial⟩ trivial
theorem p_box_below (a0 : D_A3) (a1 : D_A3) : P_box_below (a0, a1, ()) =
  Option.bind (P_box_those (a0, (fun (y : D_A3 × Unit) => P_box_below_1 (y.1, a1, ())), ())) fun r0 =>
  some (r0.1, ()) := by
  rewrite [h_box_below]
  kernel_rfl
abbrev As_box_isStair : List ATy := [.data true T_A3, .data false (.int .u64)]
abbrev R_box_isStair : List (Bool × Ty) := [(false, .bool)]
abbrev M_box_isStair : List RMode := []
abbrev Ft_box_isStair : Type := D_A3 × Int × Unit → Option (Bool × Unit)
noncomputable def X_box_isStair : Ctx := { types := TT, globals := [], con := [(75, C_box_list), (169, C_box_below)], keep := [(2, ⟨[.box 2, .tmp 1, .tmp 2, .tmp 9, .tmp 10, .tmp 11], []⟩)], results := [.tmp 4], ntmps := 22, n := N }
noncomputable def B_box_isStair : Code := (Tryz.f82.body).getD .skip
noncomputable def L_box_isStair_2 (m0 : Nat) (p0 p1 p2 p3 : Int) (p4 : List D_A3) (p5 p6 : Int) : Option (denL R_box_isStair) := loopF X_box_isStair B_box_isStair R_box_isStair M_box_isStair 2 [m0] [(.ver, .num 1), (.box 2, .box 0 false [.int .i64 p0, .int .i64 p1, .int .i64 p2]), (.tmp 1, .val false [.int .u64 p3]), (.tmp 2, .val false [.addr 2 0 0]), (.tmp 9, .val false [.own 45 T_A3 0 p4]), (.tmp 10, .val false [.int .i64 p5]), (.tmp 11, .val false [.int .i64 p6])]
noncomputable def P_box_isStair : Ft_box_isStair := hid (runF X_box_isStair B_box_isStair As_box_isStair R_box_isStair M_box_isStair)
theorem h_box_isStair : P_box_isStair = runF X_box_isStair B_box_isStair As_box_isStair R_box_isStair M_box_isStair := hid_eq _
noncomputable def C_box_isStair : Contract := ⟨As_box_isStair, R_box_isStair, M_box_isStair, P_box_isStair⟩
theorem s_box_isStair : Sound Tryz.prog GG 82 C_box_isStair := by
  unfold C_box_isStair; rw [h_box_isStair]
  exact mkS Tryz.f82 ⟨s_box_list, s_box_below, trivial⟩ trivial
noncomputable def l_box_isStair_2 := hid (L_box_isStair_2)
theorem h_box_isStair_2 : l_box_isStair_2 = L_box_isStair_2 := hid_eq _
theorem p_box_isStair (a0 : D_A3) (a1 : Int) : P_box_isStair (a0, a1, ()) =
  Option.bind (P_box_list (a0, a1, ())) fun r0 =>
  l_box_isStair_2 N a0.1 a0.2.1 a0.2.2.1 a1 r0.1 (List.length r0.1 : Int) 0 := by
  rewrite [h_box_isStair, h_box_isStair_2]
  kernel_rfl
theorem q_box_isStair_2 (m0 : Nat) (p0 p1 p2 p3 : Int) (p4 : List D_A3) (p5 p6 : Int) : l_box_isStair_2 (m0 + 1) p0 p1 p2 p3 p4 p5 p6 =
  bif decide (p6 < p5) then
    bif inB p6 (List.length p4) then
      Option.bind (P_box_below ((p0, (p1, (p2, ()))), (nth T_A3 p4 p6), ())) fun r2 =>
      bif !decide ((intBits .andNot .u64 r2.1 p3) = 0) then
        some (false, ())
      else
        l_box_isStair_2 m0 p0 p1 p2 p3 p4 p5 (IntKind.wrap .i64 (p6 + 1))
    else none
  else
    some (true, ()) := by
  rewrite [h_box_isStair_2]
  kernel_rfl
abbrev As_impl_isStair : List ATy := [.data true T_Heap]
abbrev R_impl_isStair : List (Bool × Ty) := [(false, .bool)]
abbrev M_impl_isStair : List RMode := []
abbrev Ft_impl_isStair : Type := D_Heap × Unit → Option (Bool × Unit)
noncomputable def X_impl_isStair : Ctx := { types := TT, globals := [], con := [(67, C_impl_IsHeap), (74, C_Heap_box), (77, C_Heap_cubes), (82, C_box_isStair)], keep := [], results := [.tmp 2], ntmps := 12, n := N }
noncomputable def B_impl_isStair : Code := (Tryz.f68.body).getD .skip
noncomputable def P_impl_isStair : Ft_impl_isStair := hid (runF X_impl_isStair B_impl_isStair As_impl_isStair R_impl_isStair M_impl_isStair)
theorem h_impl_isStair : P_impl_isStair = runF X_impl_isStair B_impl_isStair As_impl_isStair R_impl_isStair M_impl_isStair := hid_eq _
noncomputable def C_impl_isStair : Contract := ⟨As_impl_isStair, R_impl_isStair, M_impl_isStair, P_impl_isStair⟩
theorem s_impl_isStair : Sound Tryz.prog GG 68 C_impl_isStair := by
  unfold C_impl_isStair; rw [h_impl_isStair]
  exact mkS Tryz.f68 ⟨s_impl_IsHeap, s_Heap_box, s_Heap_cubes, s_box_isStair, trivial⟩ trivial
theorem p_impl_isStair (a0 : D_Heap) : P_impl_isStair (a0, ()) =
  Option.bind (P_impl_IsHeap (a0, ())) fun r0 =>
  bif r0.1 then
    Option.bind (P_Heap_box (a0, ())) fun r2 =>
    Option.bind (P_Heap_cubes (a0, ())) fun r3 =>
    Option.bind (P_box_isStair (r2.1, r3.1, ())) fun r4 =>
    some (r4.1, ())
  else
    some (false, ()) := by
  rewrite [h_impl_isStair]
  kernel_rfl
abbrev As_impl_IsStair : List ATy := [.data true T_Heap]
abbrev R_impl_IsStair : List (Bool × Ty) := [(false, .bool), (false, .bool)]
abbrev M_impl_IsStair : List RMode := []
abbrev Ft_impl_IsStair : Type := D_Heap × Unit → Option (Bool × Bool × Unit)
noncomputable def X_impl_IsStair : Ctx := { types := TT, globals := [], con := [(67, C_impl_IsHeap), (68, C_impl_isStair)], keep := [], results := [.tmp 2, .tmp 3], ntmps := 9, n := N }
noncomputable def B_impl_IsStair : Code := (Tryz.f8.body).getD .skip
noncomputable def P_impl_IsStair : Ft_impl_IsStair := hid (runF X_impl_IsStair B_impl_IsStair As_impl_IsStair R_impl_IsStair M_impl_IsStair)
theorem h_impl_IsStair : P_impl_IsStair = runF X_impl_IsStair B_impl_IsStair As_impl_IsStair R_impl_IsStair M_impl_IsStair := hid_eq _
noncomputable def C_impl_IsStair : Contract := ⟨As_impl_IsStair, R_impl_IsStair, M_impl_IsStair, P_impl_IsStair⟩
theorem s_impl_IsStair : Sound Tryz.prog GG 8 C_impl_IsStair := by
  unfold C_impl_IsStair; rw [h_impl_IsStair]
  exact mkS Tryz.f8 ⟨s_impl_IsHeap, s_impl_isStair, trivial⟩ trivial
theorem p_impl_IsStair (a0 : D_Heap) : P_impl_IsStair (a0, ()) =
  Option.bind (P_impl_IsHeap (a0, ())) fun r0 =>
  bif !r0.1 then
    some (false, false, ())
  else
    Option.bind (P_impl_isStair (a0, ())) fun r2 =>
    some (r2.1, true, ()) := by
  rewrite [h_impl_IsStair]
  kernel_rfl
abbrev As_spec_IsStair : List ATy := [.data true T_Heap]
abbrev R_spec_IsStair : List (Bool × Ty) := [(false, .bool), (false, .bool)]
abbrev M_spec_IsStair : List RMode := []
abbrev Ft_spec_IsStair : Type := D_Heap × Unit → Option (Bool × Bool × Unit)
noncomputable def X_spec_IsStair : Ctx := { types := TT, globals := [], con := [(69, C_spec_l2Heap), (70, C_spec_l5Stair)], keep := [], results := [.tmp 2, .tmp 3], ntmps := 9, n := N }
noncomputable def B_spec_IsStair : Code := (Tryz.f9.body).getD .skip
noncomputable def P_spec_IsStair : Ft_spec_IsStair := hid (runF X_spec_IsStair B_spec_IsStair As_spec_IsStair R_spec_IsStair M_spec_IsStair)
theorem h_spec_IsStair : P_spec_IsStair = runF X_spec_IsStair B_spec_IsStair As_spec_IsStair R_spec_IsStair M_spec_IsStair := hid_eq _
noncomputable def C_spec_IsStair : Contract := ⟨As_spec_IsStair, R_spec_IsStair, M_spec_IsStair, P_spec_IsStair⟩
theorem s_spec_IsStair : Sound Tryz.prog GG 9 C_spec_IsStair := by
  unfold C_spec_IsStair; rw [h_spec_IsStair]
  exact mkS Tryz.f9 ⟨s_spec_l2Heap, s_spec_l5Stair, trivial⟩ trivial
theorem p_spec_IsStair (a0 : D_Heap) : P_spec_IsStair (a0, ()) =
  Option.bind (P_spec_l2Heap (a0, ())) fun r0 =>
  bif !r0.1 then
    some (false, false, ())
  else
    Option.bind (P_spec_l5Stair (a0, ())) fun r2 =>
    some (r2.1, true, ()) := by
  rewrite [h_spec_IsStair]
  kernel_rfl
abbrev As_impl_others : List ATy := [.data false (.int .i64)]
abbrev R_impl_others : List (Bool × Ty) := [(false, (.int .i64)), (false, (.int .i64))]
abbrev M_impl_others : List RMode := []
abbrev Ft_impl_others : Type := Int × Unit → Option (Int × Int × Unit)
noncomputable def X_impl_others : Ctx := { types := TT, globals := [], con := [], keep := [], results := [.tmp 2, .tmp 3], ntmps := 9, n := N }
noncomputable def B_impl_others : Code := (Tryz.f144.body).getD .skip
noncomputable def P_impl_others : Ft_impl_others := hid (runF X_impl_others B_impl_others As_impl_others R_impl_others M_impl_others)
theorem h_impl_others : P_impl_others = runF X_impl_others B_impl_others As_impl_others R_impl_others M_impl_others := hid_eq _
noncomputable def C_impl_others : Contract := ⟨As_impl_others, R_impl_others, M_impl_others, P_impl_others⟩
theorem s_impl_others : Sound Tryz.prog GG 144 C_impl_others := by
  unfold C_impl_others; rw [h_impl_others]
  exact mkS Tryz.f144 trivial trivial
theorem p_impl_others (a0 : Int) : P_impl_others (a0, ()) =
  bif decide (a0 = 0) then
    some (1, 2, ())
  else
    bif decide (a0 = 1) then
      some (0, 2, ())
    else
      some (0, 1, ()) := by
  rewrite [h_impl_others]
  kernel_rfl
abbrev As_box_line : List ATy := [.data true T_A3, .data true T_A3, .data false (.int .i64)]
abbrev R_box_line : List (Bool × Ty) := [(false, (.int .i64))]
abbrev M_box_line : List RMode := []
abbrev Ft_box_line : Type := D_A3 × D_A3 × Int × Unit → Option (Int × Unit)
noncomputable def X_box_line : Ctx := { types := TT, globals := [], con := [(144, C_impl_others)], keep := [], results := [.tmp 6], ntmps := 25, n := N }
noncomputable def B_box_line : Code := (Tryz.f164.body).getD .skip
noncomputable def P_box_line : Ft_box_line := hid (runF X_box_line B_box_line As_box_line R_box_line M_box_line)
theorem h_box_line : P_box_line = runF X_box_line B_box_line As_box_line R_box_line M_box_line := hid_eq _
noncomputable def C_box_line : Contract := ⟨As_box_line, R_box_line, M_box_line, P_box_line⟩
theorem s_box_line : Sound Tryz.prog GG 164 C_box_line := by
  unfold C_box_line; rw [h_box_line]
  exact mkS Tryz.f164 ⟨s_impl_others, trivial⟩ trivial
theorem p_box_line (a0 : D_A3) (a1 : D_A3) (a2 : Int) : P_box_line (a0, a1, a2, ()) =
  Option.bind (P_impl_others (a2, ())) fun r0 =>
  bif inB r0.1 3 then
    bif inB r0.2.1 3 then
      bif inB r0.2.1 3 then
        some ((IntKind.wrap .i64 ((IntKind.wrap .i64 ((bif decide (r0.1 = (0 : Int)) then a1.1 else (bif decide (r0.1 = (1 : Int)) then a1.2.1 else a1.2.2.1)) * (bif decide (r0.2.1 = (0 : Int)) then a0.1 else (bif decide (r0.2.1 = (1 : Int)) then a0.2.1 else a0.2.2.1)))) + (bif decide (r0.2.1 = (0 : Int)) then a1.1 else (bif decide (r0.2.1 = (1 : Int)) then a1.2.1 else a1.2.2.1)))), ())
      else none
    else none
  else none := by
  rewrite [h_box_line]
  kernel_rfl
abbrev As_Heap_heights : List ATy := [.data true T_Heap]
abbrev R_Heap_heights : List (Bool × Ty) := [(false, (.sl (.int .i64)))]
abbrev M_Heap_heights : List RMode := [.own 3]
abbrev Ft_Heap_heights : Type := D_Heap × Unit → Option ((List Int) × Unit)
noncomputable def X_Heap_heights : Ctx := { types := TT, globals := [], con := [(74, C_Heap_box), (164, C_box_line)], keep := [(3, ⟨[.box 1, .tmp 1, .tmp 3, .tmp 14, .tmp 15, .tmp 16], []⟩)], results := [.tmp 2], ntmps := 37, n := N }
noncomputable def B_Heap_heights : Code := (Tryz.f71.body).getD .skip
noncomputable def L_Heap_heights_3 (m0 : Nat) (p0 p1 p2 : Int) (p3 : List D_A3) (p4 : List Int) (p5 : List D_A3) (p6 p7 : Int) : Option (denL R_Heap_heights) := loopF X_Heap_heights B_Heap_heights R_Heap_heights M_Heap_heights 3 [m0] [(.ver, .num 1), (.box 1, .box 0 false [.int .i64 p0, .int .i64 p1, .int .i64 p2, .imm T_A3 p3 (some 3)]), (.tmp 1, .val false [.addr 1 0 0]), (.tmp 3, .val false [.own 3 (.int .i64) 0 p4]), (.tmp 14, .val false [.imm T_A3 p5 (some 3)]), (.tmp 15, .val false [.int .i64 p6]), (.tmp 16, .val false [.int .i64 p7])]
noncomputable def P_Heap_heights : Ft_Heap_heights := hid (runF X_Heap_heights B_Heap_heights As_Heap_heights R_Heap_heights M_Heap_heights)
theorem h_Heap_heights : P_Heap_heights = runF X_Heap_heights B_Heap_heights As_Heap_heights R_Heap_heights M_Heap_heights := hid_eq _
noncomputable def C_Heap_heights : Contract := ⟨As_Heap_heights, R_Heap_heights, M_Heap_heights, P_Heap_heights⟩
theorem s_Heap_heights : Sound Tryz.prog GG 71 C_Heap_heights := by
  unfold C_Heap_heights; rw [h_Heap_heights]
  exact mkS Tryz.f71 ⟨s_Heap_box, s_box_line, trivial⟩ trivial
noncomputable def l_Heap_heights_3 := hid (L_Heap_heights_3)
theorem h_Heap_heights_3 : l_Heap_heights_3 = L_Heap_heights_3 := hid_eq _
theorem p_Heap_heights (a0 : D_Heap) : P_Heap_heights (a0, ()) =
  bif (decide ((0 : Int) ≤ (IntKind.wrap .i64 (a0.1 * a0.2.1))) && decide (((IntKind.wrap .i64 (a0.1 * a0.2.1)) : Int) ≤ (IntKind.wrap .i64 (a0.1 * a0.2.1))) && decide (((IntKind.wrap .i64 (a0.1 * a0.2.1)) : Int) * (8 : Nat) ≤ 140737488355328) && decide (((IntKind.wrap .i64 (a0.1 * a0.2.1)) : Int) ≤ 140737488355328)) then
    l_Heap_heights_3 N a0.1 a0.2.1 a0.2.2.1 a0.2.2.2.1 (List.replicate (Int.toNat (IntKind.wrap .i64 (a0.1 * a0.2.1))) (Ty.dflt ((.int .i64) : Ty))) a0.2.2.2.1 (List.length a0.2.2.2.1 : Int) 0
  else none := by
  rewrite [h_Heap_heights, h_Heap_heights_3]
  kernel_rfl
theorem q_Heap_heights_3 (m0 : Nat) (p0 p1 p2 : Int) (p3 : List D_A3) (p4 : List Int) (p5 : List D_A3) (p6 p7 : Int) : l_Heap_heights_3 (m0 + 1) p0 p1 p2 p3 p4 p5 p6 p7 =
  bif decide (p7 < p6) then
    bif inB p7 (List.length p5) then
      Option.bind (P_Heap_box ((p0, (p1, (p2, (p3, ())))), ())) fun r2 =>
      Option.bind (P_box_line (r2.1, (nth T_A3 p5 p7), 2, ())) fun r3 =>
      bif inB r3.1 (List.length p4) then
        bif inB r3.1 (List.length p4) then
          l_Heap_heights_3 m0 p0 p1 p2 p3 (List.set p4 (Int.toNat r3.1) (bif decide ((IntKind.wrap .i64 (((((nth T_A3 p5 p7)).2).2).1 + 1)) > (nth ((.int .i64) : Ty) p4 r3.1)) then (IntKind.wrap .i64 (((((nth T_A3 p5 p7)).2).2).1 + 1)) else (nth ((.int .i64) : Ty) p4 r3.1))) p5 p6 (IntKind.wrap .i64 (p7 + 1))
        else none
      else none
    else none
  else
    some (p4, ()) := by
  rewrite [h_Heap_heights_3]
  kernel_rfl
abbrev As_impl_StairHeights : List ATy := [.data true T_Heap]
abbrev R_impl_StairHeights : List (Bool × Ty) := [(false, (.sl (.int .i64))), (false, .bool)]
abbrev M_impl_StairHeights : List RMode := [.own 3]
abbrev Ft_impl_StairHeights : Type := D_Heap × Unit → Option ((List Int) × Bool × Unit)
noncomputable def X_impl_StairHeights : Ctx := { types := TT, globals := [], con := [(68, C_impl_isStair), (71, C_Heap_heights)], keep := [], results := [.tmp 2, .tmp 3], ntmps := 9, n := N }
noncomputable def B_impl_StairHeights : Code := (Tryz.f10.body).getD .skip
noncomputable def P_impl_StairHeights : Ft_impl_StairHeights := hid (runF X_impl_StairHeights B_impl_StairHeights As_impl_StairHeights R_impl_StairHeights M_impl_StairHeights)
theorem h_impl_StairHeights : P_impl_StairHeights = runF X_impl_StairHeights B_impl_StairHeights As_impl_StairHeights R_impl_StairHeights M_impl_StairHeights := hid_eq _
noncomputable def C_impl_StairHeights : Contract := ⟨As_impl_StairHeights, R_impl_StairHeights, M_impl_StairHeights, P_impl_StairHeights⟩
theorem s_impl_StairHeights : Sound Tryz.prog GG 10 C_impl_StairHeights := by
  unfold C_impl_StairHeights; rw [h_impl_StairHeights]
  exact mkS Tryz.f10 ⟨s_impl_isStair, s_Heap_heights, trivial⟩ trivial
theorem p_impl_StairHeights (a0 : D_Heap) : P_impl_StairHeights (a0, ()) =
  Option.bind (P_impl_isStair (a0, ())) fun r0 =>
  bif !r0.1 then
    some (([] : List Int), false, ())
  else
    Option.bind (P_Heap_heights (a0, ())) fun r2 =>
    some (r2.1, true, ()) := by
  rewrite [h_impl_StairHeights]
  kernel_rfl
abbrev As_spec_StairHeights : List ATy := [.data true T_Heap]
abbrev R_spec_StairHeights : List (Bool × Ty) := [(false, (.sl (.int .i64))), (false, .bool)]
abbrev M_spec_StairHeights : List RMode := [.own 3]
abbrev Ft_spec_StairHeights : Type := D_Heap × Unit → Option ((List Int) × Bool × Unit)
noncomputable def X_spec_StairHeights : Ctx := { types := TT, globals := [], con := [(72, C_spec_l5Good), (73, C_spec_l2Heights)], keep := [], results := [.tmp 2, .tmp 3], ntmps := 10, n := N }
noncomputable def B_spec_StairHeights : Code := (Tryz.f11.body).getD .skip
noncomputable def P_spec_StairHeights : Ft_spec_StairHeights := hid (runF X_spec_StairHeights B_spec_StairHeights As_spec_StairHeights R_spec_StairHeights M_spec_StairHeights)
theorem h_spec_StairHeights : P_spec_StairHeights = runF X_spec_StairHeights B_spec_StairHeights As_spec_StairHeights R_spec_StairHeights M_spec_StairHeights := hid_eq _
noncomputable def C_spec_StairHeights : Contract := ⟨As_spec_StairHeights, R_spec_StairHeights, M_spec_StairHeights, P_spec_StairHeights⟩
theorem s_spec_StairHeights : Sound Tryz.prog GG 11 C_spec_StairHeights := by
  unfold C_spec_StairHeights; rw [h_spec_StairHeights]
  exact mkS Tryz.f11 ⟨s_spec_l5Good, s_spec_l2Heights, trivial⟩ trivial
theorem p_spec_StairHeights (a0 : D_Heap) : P_spec_StairHeights (a0, ()) =
  Option.bind (P_spec_l5Good (a0, ())) fun r0 =>
  bif !r0.1 then
    some (([] : List Int), false, ())
  else
    Option.bind (P_spec_l2Heights (a0, ())) fun r2 =>
    some (r2.1, true, ()) := by
  rewrite [h_spec_StairHeights]
  kernel_rfl
abbrev As_box_stairCorners_1 : List ATy := [.data true T_A3, .ptr T_A3, .ptr (.int .u64)]
abbrev R_box_stairCorners_1 : List (Bool × Ty) := [(false, .bool)]
abbrev M_box_stairCorners_1 : List RMode := []
abbrev Ft_box_stairCorners_1 : Type := D_A3 × D_A3 × Int × Unit → Option (Bool × Unit)
noncomputable def X_box_stairCorners_1 : Ctx := { types := TT, globals := [], con := [(81, C_box_index), (82, C_box_isStair)], keep := [], results := [.tmp 4], ntmps := 21, n := N }
noncomputable def B_box_stairCorners_1 : Code := (Tryz.f167.body).getD .skip
noncomputable def P_box_stairCorners_1 : Ft_box_stairCorners_1 := hid (runF X_box_stairCorners_1 B_box_stairCorners_1 As_box_stairCorners_1 R_box_stairCorners_1 M_box_stairCorners_1)
theorem h_box_stairCorners_1 : P_box_stairCorners_1 = runF X_box_stairCorners_1 B_box_stairCorners_1 As_box_stairCorners_1 R_box_stairCorners_1 M_box_stairCorners_1 := hid_eq _
noncomputable def C_box_stairCorners_1 : Contract := ⟨As_box_stairCorners_1, R_box_stairCorners_1, M_box_stairCorners_1, P_box_stairCorners_1⟩
theorem s_box_stairCorners_1 : Sound Tryz.prog GG 167 C_box_stairCorners_1 := by
  unfold C_box_stairCorners_1; rw [h_box_stairCorners_1]
  exact mkS Tryz.f167 ⟨s_box_index, s_box_isStair, trivial⟩ trivial
theorem p_box_stairCorners_1 (a0 : D_A3) (a1 : D_A3) (a2 : Int) : P_box_stairCorners_1 (a0, a1, a2, ()) =
  Option.bind (P_box_index (a1, a0, ())) fun r0 =>
  bif decide ((0 : Int) ≤ r0.1) then
    bif !decide ((intBits .and .u64 a2 (shlI .u64 1 r0.1)) = 0) then
      Option.bind (P_box_isStair (a1, (intBits .andNot .u64 a2 (shlI .u64 1 r0.1)), ())) fun r3 =>
      some (r3.1, ())
    else
      some (false, ())
  else none := by
  rewrite [h_box_stairCorners_1]
  kernel_rfl
abbrev As_box_stairCorners : List ATy := [.data true T_A3, .data false (.int .u64)]
abbrev R_box_stairCorners : List (Bool × Ty) := [(false, (.int .u64))]
abbrev M_box_stairCorners : List RMode := []
abbrev Ft_box_stairCorners : Type := D_A3 × Int × Unit → Option (Int × Unit)
noncomputable def X_box_stairCorners : Ctx := { types := TT, globals := [], con := [(79, C_box_those), (167, C_box_stairCorners_1)], keep := [], results := [.tmp 4], ntmps := 8, n := N }
noncomputable def B_box_stairCorners : Code := (Tryz.f76.body).getD .skip
noncomputable def P_box_stairCorners : Ft_box_stairCorners := hid (runF X_box_stairCorners B_box_stairCorners As_box_stairCorners R_box_stairCorners M_box_stairCorners)
theorem h_box_stairCorners : P_box_stairCorners = runF X_box_stairCorners B_box_stairCorners As_box_stairCorners R_box_stairCorners M_box_stairCorners := hid_eq _
noncomputable def C_box_stairCorners : Contract := ⟨As_box_stairCorners, R_box_stairCorners, M_box_stairCorners, P_box_stairCorners⟩
theorem s_box_stairCorners : Sound Tryz.prog GG 76 C_box_stairCorners := by
  unfold C_box_stairCorners; rw [h_box_stairCorners]
  exact mkS Tryz.f76 ⟨s_box_those, s_box_stairCorners_1, trivial⟩ trivial
theorem p_box_stairCorners (a0 : D_A3) (a1 : Int) : P_box_stairCorners (a0, a1, ()) =
  Option.bind (P_box_those (a0, (fun (y : D_A3 × Unit) => P_box_stairCorners_1 (y.1, a0, a1, ())), ())) fun r0 =>
  some (r0.1, ()) := by
  rewrite [h_box_stairCorners]
  kernel_rfl
abbrev As_impl_StairCorners : List ATy := [.data true T_Heap]
abbrev R_impl_StairCorners : List (Bool × Ty) := [(false, (.sl T_A3)), (false, .bool)]
abbrev M_impl_StairCorners : List RMode := [.own 45]
abbrev Ft_impl_StairCorners : Type := D_Heap × Unit → Option ((List D_A3) × Bool × Unit)
noncomputable def X_impl_StairCorners : Ctx := { types := TT, globals := [], con := [(68, C_impl_isStair), (74, C_Heap_box), (75, C_box_list), (76, C_box_stairCorners), (77, C_Heap_cubes)], keep := [], results := [.tmp 2, .tmp 3], ntmps := 15, n := N }
noncomputable def B_impl_StairCorners : Code := (Tryz.f12.body).getD .skip
noncomputable def P_impl_StairCorners : Ft_impl_StairCorners := hid (runF X_impl_StairCorners B_impl_StairCorners As_impl_StairCorners R_impl_StairCorners M_impl_StairCorners)
theorem h_impl_StairCorners : P_impl_StairCorners = runF X_impl_StairCorners B_impl_StairCorners As_impl_StairCorners R_impl_StairCorners M_impl_StairCorners := hid_eq _
noncomputable def C_impl_StairCorners : Contract := ⟨As_impl_StairCorners, R_impl_StairCorners, M_impl_StairCorners, P_impl_StairCorners⟩
theorem s_impl_StairCorners : Sound Tryz.prog GG 12 C_impl_StairCorners := by
  unfold C_impl_StairCorners; rw [h_impl_StairCorners]
  exact mkS Tryz.f12 ⟨s_impl_isStair, s_Heap_box, s_box_list, s_box_stairCorners, s_Heap_cubes, trivial⟩ trivial
theorem p_impl_StairCorners (a0 : D_Heap) : P_impl_StairCorners (a0, ()) =
  Option.bind (P_impl_isStair (a0, ())) fun r0 =>
  bif !r0.1 then
    some (([] : List D_A3), false, ())
  else
    Option.bind (P_Heap_box (a0, ())) fun r2 =>
    Option.bind (P_Heap_box (a0, ())) fun r3 =>
    Option.bind (P_Heap_cubes (a0, ())) fun r4 =>
    Option.bind (P_box_stairCorners (r3.1, r4.1, ())) fun r5 =>
    Option.bind (P_box_list (r2.1, r5.1, ())) fun r6 =>
    some (r6.1, true, ()) := by
  rewrite [h_impl_StairCorners]
  kernel_rfl
abbrev As_spec_l2Without : List ATy := [.data true T_Heap, .data true T_A3]
abbrev R_spec_l2Without : List (Bool × Ty) := [(true, T_Heap)]
abbrev M_spec_l2Without : List RMode := [.own 45]
abbrev Ft_spec_l2Without : Type := D_Heap × D_A3 × Unit → Option (D_Heap × Unit)
noncomputable def X_spec_l2Without : Ctx := { types := TT, globals := [], con := [(89, C_spec_l2Empty)], keep := [(3, ⟨[.box 2, .box 3, .box 4, .box 5, .tmp 2, .tmp 3, .tmp 4, .tmp 5, .tmp 6], []⟩)], results := [.cell 4 26], ntmps := 39, n := N }
noncomputable def B_spec_l2Without : Code := (Tryz.f168.body).getD .skip
noncomputable def L_spec_l2Without_3 (m0 : Nat) (p0 p1 p2 : Int) (p3 : List D_A3) (p4 p5 p6 p7 p8 p9 : Int) (p10 : List D_A3) (p11 p12 p13 : Int) (p14 : List D_A3) (p15 : Int) : Option (denL R_spec_l2Without) := loopF X_spec_l2Without B_spec_l2Without R_spec_l2Without M_spec_l2Without 3 [m0] [(.ver, .num 1), (.box 2, .box 0 false [.int .i64 p0, .int .i64 p1, .int .i64 p2, .imm T_A3 p3 (some 3)]), (.box 3, .box 0 false [.int .i64 p4, .int .i64 p5, .int .i64 p6]), (.box 4, .box 0 false [.int .i64 p7, .int .i64 p8, .int .i64 p9, .own 45 T_A3 0 p10]), (.box 5, .box 0 false [.int .i64 p11, .int .i64 p12, .int .i64 p13, .own 45 T_A3 0 p14]), (.tmp 2, .val false [.addr 2 0 0]), (.tmp 3, .val false [.addr 3 0 0]), (.tmp 4, .val false [.addr 4 0 0]), (.tmp 5, .val false [.addr 5 0 0]), (.tmp 6, .val false [.int .i64 p15])]
noncomputable def P_spec_l2Without : Ft_spec_l2Without := hid (runF X_spec_l2Without B_spec_l2Without As_spec_l2Without R_spec_l2Without M_spec_l2Without)
theorem h_spec_l2Without : P_spec_l2Without = runF X_spec_l2Without B_spec_l2Without As_spec_l2Without R_spec_l2Without M_spec_l2Without := hid_eq _
noncomputable def C_spec_l2Without : Contract := ⟨As_spec_l2Without, R_spec_l2Without, M_spec_l2Without, P_spec_l2Without⟩
theorem s_spec_l2Without : Sound Tryz.prog GG 168 C_spec_l2Without := by
  unfold C_spec_l2Without; rw [h_spec_l2Without]
  exact mkS Tryz.f168 ⟨s_spec_l2Empty, trivial⟩ trivial
noncomputable def l_spec_l2Without_3 := hid (L_spec_l2Without_3)
theorem h_spec_l2Without_3 : l_spec_l2Without_3 = L_spec_l2Without_3 := hid_eq _
theorem p_spec_l2Without (a0 : D_Heap) (a1 : D_A3) : P_spec_l2Without (a0, a1, ()) =
  Option.bind (P_spec_l2Empty (a0.1, a0.2.1, a0.2.2.1, ())) fun r0 =>
  l_spec_l2Without_3 N a0.1 a0.2.1 a0.2.2.1 a0.2.2.2.1 a1.1 a1.2.1 a1.2.2.1 0 0 0 ([] : List D_A3) r0.1.1 r0.1.2.1 r0.1.2.2.1 r0.1.2.2.2.1 0 := by
  rewrite [h_spec_l2Without, h_spec_l2Without_3]
  kernel_rfl
theorem q_spec_l2Without_3 (m0 : Nat) (p0 p1 p2 : Int) (p3 : List D_A3) (p4 p5 p6 p7 p8 p9 : Int) (p10 : List D_A3) (p11 p12 p13 : Int) (p14 : List D_A3) (p15 : Int) : l_spec_l2Without_3 (m0 + 1) p0 p1 p2 p3 p4 p5 p6 p7 p8 p9 p10 p11 p12 p13 p14 p15 =
  bif decide (p15 < (List.length p3 : Int)) then
    bif inB p15 (List.length p3) then
      bif !(decide (((nth T_A3 p3 p15)).1 = p4) && (decide ((((nth T_A3 p3 p15)).2).1 = p5) && (decide (((((nth T_A3 p3 p15)).2).2).1 = p6) && true))) then
        bif inB p15 (List.length p3) then
          bif (decide (((List.length p14) + (List.length ([(nth T_A3 p3 p15)] : List D_A3))) * 24 ≤ 140737488355328) && decide (((List.length p14) + (List.length ([(nth T_A3 p3 p15)] : List D_A3))) ≤ 140737488355328)) then
            l_spec_l2Without_3 m0 p0 p1 p2 p3 p4 p5 p6 p7 p8 p9 p10 p11 p12 p13 (p14 ++ ([(nth T_A3 p3 p15)] : List D_A3)) (IntKind.wrap .i64 (p15 + 1))
          else none
        else none
      else
        l_spec_l2Without_3 m0 p0 p1 p2 p3 p4 p5 p6 p7 p8 p9 p10 p11 p12 p13 p14 (IntKind.wrap .i64 (p15 + 1))
    else none
  else
    some ((p11, (p12, (p13, (p14, ())))), ()) := by
  rewrite [h_spec_l2Without_3]
  kernel_rfl
abbrev As_spec_l5Corners : List ATy := [.data true T_Heap]
abbrev R_spec_l5Corners : List (Bool × Ty) := [(false, (.sl T_A3))]
abbrev M_spec_l5Corners : List RMode := [.own 45]
abbrev Ft_spec_l5Corners : Type := D_Heap × Unit → Option ((List D_A3) × Unit)
noncomputable def X_spec_l5Corners : Ctx := { types := TT, globals := [], con := [(70, C_spec_l5Stair), (168, C_spec_l2Without)], keep := [(3, ⟨[.box 1, .tmp 1, .tmp 3, .tmp 4], []⟩)], results := [.tmp 2], ntmps := 30, n := N }
noncomputable def B_spec_l5Corners : Code := (Tryz.f78.body).getD .skip
noncomputable def L_spec_l5Corners_3 (m0 : Nat) (p0 p1 p2 : Int) (p3 p4 : List D_A3) (p5 : Int) : Option (denL R_spec_l5Corners) := loopF X_spec_l5Corners B_spec_l5Corners R_spec_l5Corners M_spec_l5Corners 3 [m0] [(.ver, .num 1), (.box 1, .box 0 false [.int .i64 p0, .int .i64 p1, .int .i64 p2, .imm T_A3 p3 (some 3)]), (.tmp 1, .val false [.addr 1 0 0]), (.tmp 3, .val false [.own 45 T_A3 0 p4]), (.tmp 4, .val false [.int .i64 p5])]
noncomputable def P_spec_l5Corners : Ft_spec_l5Corners := hid (runF X_spec_l5Corners B_spec_l5Corners As_spec_l5Corners R_spec_l5Corners M_spec_l5Corners)
theorem h_spec_l5Corners : P_spec_l5Corners = runF X_spec_l5Corners B_spec_l5Corners As_spec_l5Corners R_spec_l5Corners M_spec_l5Corners := hid_eq _
noncomputable def C_spec_l5Corners : Contract := ⟨As_spec_l5Corners, R_spec_l5Corners, M_spec_l5Corners, P_spec_l5Corners⟩
theorem s_spec_l5Corners : Sound Tryz.prog GG 78 C_spec_l5Corners := by
  unfold C_spec_l5Corners; rw [h_spec_l5Corners]
  exact mkS Tryz.f78 ⟨s_spec_l5Stair, s_spec_l2Without, trivial⟩ trivial
noncomputable def l_spec_l5Corners_3 := hid (L_spec_l5Corners_3)
theorem h_spec_l5Corners_3 : l_spec_l5Corners_3 = L_spec_l5Corners_3 := hid_eq _
theorem p_spec_l5Corners (a0 : D_Heap) : P_spec_l5Corners (a0, ()) =
  l_spec_l5Corners_3 N a0.1 a0.2.1 a0.2.2.1 a0.2.2.2.1 ([] : List D_A3) 0 := by
  rewrite [h_spec_l5Corners, h_spec_l5Corners_3]
  kernel_rfl
theorem q_spec_l5Corners_3 (m0 : Nat) (p0 p1 p2 : Int) (p3 p4 : List D_A3) (p5 : Int) : l_spec_l5Corners_3 (m0 + 1) p0 p1 p2 p3 p4 p5 =
  bif decide (p5 < (List.length p3 : Int)) then
    bif inB p5 (List.length p3) then
      Option.bind (P_spec_l2Without ((p0, (p1, (p2, (p3, ())))), (nth T_A3 p3 p5), ())) fun r2 =>
      Option.bind (P_spec_l5Stair (r2.1, ())) fun r3 =>
      bif r3.1 then
        bif inB p5 (List.length p3) then
          bif (decide (((List.length p4) + (List.length ([(nth T_A3 p3 p5)] : List D_A3))) * 24 ≤ 140737488355328) && decide (((List.length p4) + (List.length ([(nth T_A3 p3 p5)] : List D_A3))) ≤ 140737488355328)) then
            l_spec_l5Corners_3 m0 p0 p1 p2 p3 (p4 ++ ([(nth T_A3 p3 p5)] : List D_A3)) (IntKind.wrap .i64 (p5 + 1))
          else none
        else none
      else
        l_spec_l5Corners_3 m0 p0 p1 p2 p3 p4 (IntKind.wrap .i64 (p5 + 1))
    else none
  else
    some (p4, ()) := by
  rewrite [h_spec_l5Corners_3]
  kernel_rfl
abbrev As_spec_StairCorners : List ATy := [.data true T_Heap]
abbrev R_spec_StairCorners : List (Bool × Ty) := [(false, (.sl T_A3)), (false, .bool)]
abbrev M_spec_StairCorners : List RMode := [.own 45]
abbrev Ft_spec_StairCorners : Type := D_Heap × Unit → Option ((List D_A3) × Bool × Unit)
noncomputable def X_spec_StairCorners : Ctx := { types := TT, globals := [], con := [(72, C_spec_l5Good), (78, C_spec_l5Corners)], keep := [], results := [.tmp 2, .tmp 3], ntmps := 10, n := N }
noncomputable def B_spec_StairCorners : Code := (Tryz.f13.body).getD .skip
noncomputable def P_spec_StairCorners : Ft_spec_StairCorners := hid (runF X_spec_StairCorners B_spec_StairCorners As_spec_StairCorners R_spec_StairCorners M_spec_StairCorners)
theorem h_spec_StairCorners : P_spec_StairCorners = runF X_spec_StairCorners B_spec_StairCorners As_spec_StairCorners R_spec_StairCorners M_spec_StairCorners := hid_eq _
noncomputable def C_spec_StairCorners : Contract := ⟨As_spec_StairCorners, R_spec_StairCorners, M_spec_StairCorners, P_spec_StairCorners⟩
theorem s_spec_StairCorners : Sound Tryz.prog GG 13 C_spec_StairCorners := by
  unfold C_spec_StairCorners; rw [h_spec_StairCorners]
  exact mkS Tryz.f13 ⟨s_spec_l5Good, s_spec_l5Corners, trivial⟩ trivial
theorem p_spec_StairCorners (a0 : D_Heap) : P_spec_StairCorners (a0, ()) =
  Option.bind (P_spec_l5Good (a0, ())) fun r0 =>
  bif !r0.1 then
    some (([] : List D_A3), false, ())
  else
    Option.bind (P_spec_l5Corners (a0, ())) fun r2 =>
    some (r2.1, true, ()) := by
  rewrite [h_spec_StairCorners]
  kernel_rfl
abbrev As_impl_StairHollows_1 : List ATy := [.data true T_A3, .ptr T_A3, .ptr (.int .u64)]
abbrev R_impl_StairHollows_1 : List (Bool × Ty) := [(false, .bool)]
abbrev M_impl_StairHollows_1 : List RMode := []
abbrev Ft_impl_StairHollows_1 : Type := D_A3 × D_A3 × Int × Unit → Option (Bool × Unit)
noncomputable def X_impl_StairHollows_1 : Ctx := { types := TT, globals := [], con := [(81, C_box_index), (82, C_box_isStair)], keep := [], results := [.tmp 4], ntmps := 21, n := N }
noncomputable def B_impl_StairHollows_1 : Code := (Tryz.f80.body).getD .skip
noncomputable def P_impl_StairHollows_1 : Ft_impl_StairHollows_1 := hid (runF X_impl_StairHollows_1 B_impl_StairHollows_1 As_impl_StairHollows_1 R_impl_StairHollows_1 M_impl_StairHollows_1)
theorem h_impl_StairHollows_1 : P_impl_StairHollows_1 = runF X_impl_StairHollows_1 B_impl_StairHollows_1 As_impl_StairHollows_1 R_impl_StairHollows_1 M_impl_StairHollows_1 := hid_eq _
noncomputable def C_impl_StairHollows_1 : Contract := ⟨As_impl_StairHollows_1, R_impl_StairHollows_1, M_impl_StairHollows_1, P_impl_StairHollows_1⟩
theorem s_impl_StairHollows_1 : Sound Tryz.prog GG 80 C_impl_StairHollows_1 := by
  unfold C_impl_StairHollows_1; rw [h_impl_StairHollows_1]
  exact mkS Tryz.f80 ⟨s_box_index, s_box_isStair, trivial⟩ trivial
theorem p_impl_StairHollows_1 (a0 : D_A3) (a1 : D_A3) (a2 : Int) : P_impl_StairHollows_1 (a0, a1, a2, ()) =
  Option.bind (P_box_index (a1, a0, ())) fun r0 =>
  bif decide ((0 : Int) ≤ r0.1) then
    bif decide ((intBits .and .u64 a2 (shlI .u64 1 r0.1)) = 0) then
      Option.bind (P_box_isStair (a1, (intBits .or .u64 a2 (shlI .u64 1 r0.1)), ())) fun r3 =>
      some (r3.1, ())
    else
      some (false, ())
  else none := by
  rewrite [h_impl_StairHollows_1]
  kernel_rfl
abbrev As_impl_StairHollows : List ATy := [.data true T_Heap]
abbrev R_impl_StairHollows : List (Bool × Ty) := [(false, (.sl T_A3)), (false, .bool)]
abbrev M_impl_StairHollows : List RMode := [.own 45]
abbrev Ft_impl_StairHollows : Type := D_Heap × Unit → Option ((List D_A3) × Bool × Unit)
noncomputable def X_impl_StairHollows : Ctx := { types := TT, globals := [], con := [(68, C_impl_isStair), (74, C_Heap_box), (75, C_box_list), (77, C_Heap_cubes), (79, C_box_those), (80, C_impl_StairHollows_1)], keep := [], results := [.tmp 2, .tmp 3], ntmps := 18, n := N }
noncomputable def B_impl_StairHollows : Code := (Tryz.f14.body).getD .skip
noncomputable def P_impl_StairHollows : Ft_impl_StairHollows := hid (runF X_impl_StairHollows B_impl_StairHollows As_impl_StairHollows R_impl_StairHollows M_impl_StairHollows)
theorem h_impl_StairHollows : P_impl_StairHollows = runF X_impl_StairHollows B_impl_StairHollows As_impl_StairHollows R_impl_StairHollows M_impl_StairHollows := hid_eq _
noncomputable def C_impl_StairHollows : Contract := ⟨As_impl_StairHollows, R_impl_StairHollows, M_impl_StairHollows, P_impl_StairHollows⟩
theorem s_impl_StairHollows : Sound Tryz.prog GG 14 C_impl_StairHollows := by
  unfold C_impl_StairHollows; rw [h_impl_StairHollows]
  exact mkS Tryz.f14 ⟨s_impl_isStair, s_Heap_box, s_box_list, s_Heap_cubes, s_box_those, s_impl_StairHollows_1, trivial⟩ trivial
theorem p_impl_StairHollows (a0 : D_Heap) : P_impl_StairHollows (a0, ()) =
  Option.bind (P_impl_isStair (a0, ())) fun r0 =>
  bif !r0.1 then
    some (([] : List D_A3), false, ())
  else
    Option.bind (P_Heap_box (a0, ())) fun r2 =>
    Option.bind (P_Heap_cubes (a0, ())) fun r3 =>
    Option.bind (P_box_those (r2.1, (fun (y : D_A3 × Unit) => P_impl_StairHollows_1 (y.1, r2.1, r3.1, ())), ())) fun r4 =>
    Option.bind (P_box_list (r2.1, r4.1, ())) fun r5 =>
    some (r5.1, true, ()) := by
  rewrite [h_impl_StairHollows]
  kernel_rfl
abbrev As_box_heap : List ATy := [.data true T_A3, .data false (.int .u64)]
abbrev R_box_heap : List (Bool × Ty) := [(true, T_Heap)]
abbrev M_box_heap : List RMode := [.own 45]
abbrev Ft_box_heap : Type := D_A3 × Int × Unit → Option (D_Heap × Unit)
noncomputable def X_box_heap : Ctx := { types := TT, globals := [], con := [(75, C_box_list)], keep := [], results := [.cell 4 26], ntmps := 15, n := N }
noncomputable def B_box_heap : Code := (Tryz.f86.body).getD .skip
noncomputable def P_box_heap : Ft_box_heap := hid (runF X_box_heap B_box_heap As_box_heap R_box_heap M_box_heap)
theorem h_box_heap : P_box_heap = runF X_box_heap B_box_heap As_box_heap R_box_heap M_box_heap := hid_eq _
noncomputable def C_box_heap : Contract := ⟨As_box_heap, R_box_heap, M_box_heap, P_box_heap⟩
theorem s_box_heap : Sound Tryz.prog GG 86 C_box_heap := by
  unfold C_box_heap; rw [h_box_heap]
  exact mkS Tryz.f86 ⟨s_box_list, trivial⟩ trivial
theorem p_box_heap (a0 : D_A3) (a1 : Int) : P_box_heap (a0, a1, ()) =
  Option.bind (P_box_list (a0, a1, ())) fun r0 =>
  some ((a0.1, (a0.2.1, (a0.2.2.1, (r0.1, ())))), ()) := by
  rewrite [h_box_heap]
  kernel_rfl
abbrev As_impl_OtherStair_1 : List ATy := [.data true T_A3, .ptr (.int .u64), .ptr T_A3]
abbrev R_impl_OtherStair_1 : List (Bool × Ty) := [(false, .bool)]
abbrev M_impl_OtherStair_1 : List RMode := []
abbrev Ft_impl_OtherStair_1 : Type := D_A3 × Int × D_A3 × Unit → Option (Bool × Unit)
noncomputable def X_impl_OtherStair_1 : Ctx := { types := TT, globals := [], con := [(81, C_box_index), (88, C_set_has)], keep := [], results := [.tmp 4], ntmps := 29, n := N }
noncomputable def B_impl_OtherStair_1 : Code := (Tryz.f87.body).getD .skip
noncomputable def P_impl_OtherStair_1 : Ft_impl_OtherStair_1 := hid (runF X_impl_OtherStair_1 B_impl_OtherStair_1 As_impl_OtherStair_1 R_impl_OtherStair_1 M_impl_OtherStair_1)
theorem h_impl_OtherStair_1 : P_impl_OtherStair_1 = runF X_impl_OtherStair_1 B_impl_OtherStair_1 As_impl_OtherStair_1 R_impl_OtherStair_1 M_impl_OtherStair_1 := hid_eq _
noncomputable def C_impl_OtherStair_1 : Contract := ⟨As_impl_OtherStair_1, R_impl_OtherStair_1, M_impl_OtherStair_1, P_impl_OtherStair_1⟩
theorem s_impl_OtherStair_1 : Sound Tryz.prog GG 87 C_impl_OtherStair_1 := by
  unfold C_impl_OtherStair_1; rw [h_impl_OtherStair_1]
  exact mkS Tryz.f87 ⟨s_box_index, s_set_has, trivial⟩ trivial
theorem p_impl_OtherStair_1 (a0 : D_A3) (a1 : Int) (a2 : D_A3) : P_impl_OtherStair_1 (a0, a1, a2, ()) =
  Option.bind (P_box_index (a2, ((IntKind.wrap .i64 ((IntKind.wrap .i64 (a2.1 - 1)) - a0.1)), ((IntKind.wrap .i64 ((IntKind.wrap .i64 (a2.2.1 - 1)) - a0.2.1)), ((IntKind.wrap .i64 ((IntKind.wrap .i64 (a2.2.2.1 - 1)) - a0.2.2.1)), ()))), ())) fun r0 =>
  Option.bind (P_set_has (a1, r0.1, ())) fun r1 =>
  some (!r1.1, ()) := by
  rewrite [h_impl_OtherStair_1]
  kernel_rfl
abbrev As_impl_OtherStair : List ATy := [.data true T_Heap]
abbrev R_impl_OtherStair : List (Bool × Ty) := [(true, T_Heap), (false, .bool)]
abbrev M_impl_OtherStair : List RMode := [.own 45]
abbrev Ft_impl_OtherStair : Type := D_Heap × Unit → Option (D_Heap × Bool × Unit)
noncomputable def X_impl_OtherStair : Ctx := { types := TT, globals := [], con := [(68, C_impl_isStair), (74, C_Heap_box), (77, C_Heap_cubes), (79, C_box_those), (86, C_box_heap), (87, C_impl_OtherStair_1)], keep := [], results := [.cell 2 26, .tmp 3], ntmps := 19, n := N }
noncomputable def B_impl_OtherStair : Code := (Tryz.f16.body).getD .skip
noncomputable def P_impl_OtherStair : Ft_impl_OtherStair := hid (runF X_impl_OtherStair B_impl_OtherStair As_impl_OtherStair R_impl_OtherStair M_impl_OtherStair)
theorem h_impl_OtherStair : P_impl_OtherStair = runF X_impl_OtherStair B_impl_OtherStair As_impl_OtherStair R_impl_OtherStair M_impl_OtherStair := hid_eq _
noncomputable def C_impl_OtherStair : Contract := ⟨As_impl_OtherStair, R_impl_OtherStair, M_impl_OtherStair, P_impl_OtherStair⟩
theorem s_impl_OtherStair : Sound Tryz.prog GG 16 C_impl_OtherStair := by
  unfold C_impl_OtherStair; rw [h_impl_OtherStair]
  exact mkS Tryz.f16 ⟨s_impl_isStair, s_Heap_box, s_Heap_cubes, s_box_those, s_box_heap, s_impl_OtherStair_1, trivial⟩ trivial
theorem p_impl_OtherStair (a0 : D_Heap) : P_impl_OtherStair (a0, ()) =
  Option.bind (P_impl_isStair (a0, ())) fun r0 =>
  bif !r0.1 then
    some ((0, (0, (0, (([] : List D_A3), ())))), false, ())
  else
    Option.bind (P_Heap_box (a0, ())) fun r2 =>
    Option.bind (P_Heap_cubes (a0, ())) fun r3 =>
    Option.bind (P_box_those (r2.1, (fun (y : D_A3 × Unit) => P_impl_OtherStair_1 (y.1, r3.1, r2.1, ())), ())) fun r4 =>
    Option.bind (P_box_heap (r2.1, r4.1, ())) fun r5 =>
    some (r5.1, true, ()) := by
  rewrite [h_impl_OtherStair]
  kernel_rfl
abbrev As_spec_OtherStair : List ATy := [.data true T_Heap]
abbrev R_spec_OtherStair : List (Bool × Ty) := [(true, T_Heap), (false, .bool)]
abbrev M_spec_OtherStair : List RMode := [.own 45]
abbrev Ft_spec_OtherStair : Type := D_Heap × Unit → Option (D_Heap × Bool × Unit)
noncomputable def X_spec_OtherStair : Ctx := { types := TT, globals := [], con := [(72, C_spec_l5Good), (83, C_spec_l2All), (84, C_spec_l2Has), (89, C_spec_l2Empty)], keep := [(6, ⟨[.box 1, .box 2, .box 4, .tmp 1, .tmp 2, .tmp 4, .tmp 5, .tmp 6], []⟩)], results := [.cell 2 26, .tmp 3], ntmps := 67, n := N }
noncomputable def B_spec_OtherStair : Code := (Tryz.f17.body).getD .skip
noncomputable def L_spec_OtherStair_6 (m0 : Nat) (p0 p1 p2 : Int) (p3 : List D_A3) (p4 p5 p6 : Int) (p7 : List D_A3) (p8 p9 p10 : Int) (p11 p12 : List D_A3) (p13 : Int) : Option (denL R_spec_OtherStair) := loopF X_spec_OtherStair B_spec_OtherStair R_spec_OtherStair M_spec_OtherStair 6 [m0] [(.ver, .num 1), (.box 1, .box 0 false [.int .i64 p0, .int .i64 p1, .int .i64 p2, .imm T_A3 p3 (some 3)]), (.box 2, .box 0 false [.int .i64 p4, .int .i64 p5, .int .i64 p6, .own 45 T_A3 0 p7]), (.box 4, .box 0 false [.int .i64 p8, .int .i64 p9, .int .i64 p10, .own 45 T_A3 0 p11]), (.tmp 1, .val false [.addr 1 0 0]), (.tmp 2, .val false [.addr 2 0 0]), (.tmp 4, .val false [.addr 4 0 0]), (.tmp 5, .val false [.own 45 T_A3 0 p12]), (.tmp 6, .val false [.int .i64 p13])]
noncomputable def P_spec_OtherStair : Ft_spec_OtherStair := hid (runF X_spec_OtherStair B_spec_OtherStair As_spec_OtherStair R_spec_OtherStair M_spec_OtherStair)
theorem h_spec_OtherStair : P_spec_OtherStair = runF X_spec_OtherStair B_spec_OtherStair As_spec_OtherStair R_spec_OtherStair M_spec_OtherStair := hid_eq _
noncomputable def C_spec_OtherStair : Contract := ⟨As_spec_OtherStair, R_spec_OtherStair, M_spec_OtherStair, P_spec_OtherStair⟩
theorem s_spec_OtherStair : Sound Tryz.prog GG 17 C_spec_OtherStair := by
  unfold C_spec_OtherStair; rw [h_spec_OtherStair]
  exact mkS Tryz.f17 ⟨s_spec_l5Good, s_spec_l2All, s_spec_l2Has, s_spec_l2Empty, trivial⟩ trivial
noncomputable def l_spec_OtherStair_6 := hid (L_spec_OtherStair_6)
theorem h_spec_OtherStair_6 : l_spec_OtherStair_6 = L_spec_OtherStair_6 := hid_eq _
theorem p_spec_OtherStair (a0 : D_Heap) : P_spec_OtherStair (a0, ()) =
  Option.bind (P_spec_l5Good (a0, ())) fun r0 =>
  bif !r0.1 then
    some ((0, (0, (0, (([] : List D_A3), ())))), false, ())
  else
    Option.bind (P_spec_l2Empty (a0.1, a0.2.1, a0.2.2.1, ())) fun r2 =>
    Option.bind (P_spec_l2All (a0, ())) fun r3 =>
    l_spec_OtherStair_6 N a0.1 a0.2.1 a0.2.2.1 a0.2.2.2.1 0 0 0 ([] : List D_A3) r2.1.1 r2.1.2.1 r2.1.2.2.1 r2.1.2.2.2.1 r3.1 0 := by
  rewrite [h_spec_OtherStair, h_spec_OtherStair_6]
  kernel_rfl
theorem q_spec_OtherStair_6 (m0 : Nat) (p0 p1 p2 : Int) (p3 : List D_A3) (p4 p5 p6 : Int) (p7 : List D_A3) (p8 p9 p10 : Int) (p11 p12 : List D_A3) (p13 : Int) : l_spec_OtherStair_6 (m0 + 1) p0 p1 p2 p3 p4 p5 p6 p7 p8 p9 p10 p11 p12 p13 =
  bif decide (p13 < (List.length p12 : Int)) then
    bif inB p13 (List.length p12) then
      bif inB p13 (List.length p12) then
        bif inB p13 (List.length p12) then
          Option.bind (P_spec_l2Has ((p0, (p1, (p2, (p3, ())))), ((IntKind.wrap .i64 ((IntKind.wrap .i64 (p0 - 1)) - ((nth T_A3 p12 p13)).1)), ((IntKind.wrap .i64 ((IntKind.wrap .i64 (p1 - 1)) - (((nth T_A3 p12 p13)).2).1)), ((IntKind.wrap .i64 ((IntKind.wrap .i64 (p2 - 1)) - ((((nth T_A3 p12 p13)).2).2).1)), ()))), ())) fun r4 =>
          bif !r4.1 then
            bif inB p13 (List.length p12) then
              bif (decide (((List.length p11) + (List.length ([(nth T_A3 p12 p13)] : List D_A3))) * 24 ≤ 140737488355328) && decide (((List.length p11) + (List.length ([(nth T_A3 p12 p13)] : List D_A3))) ≤ 140737488355328)) then
                l_spec_OtherStair_6 m0 p0 p1 p2 p3 p4 p5 p6 p7 p8 p9 p10 (p11 ++ ([(nth T_A3 p12 p13)] : List D_A3)) p12 (IntKind.wrap .i64 (p13 + 1))
              else none
            else none
          else
            l_spec_OtherStair_6 m0 p0 p1 p2 p3 p4 p5 p6 p7 p8 p9 p10 p11 p12 (IntKind.wrap .i64 (p13 + 1))
        else none
      else none
    else none
  else
    some ((p8, (p9, (p10, (p11, ())))), true, ()) := by
  rewrite [h_spec_OtherStair_6]
  kernel_rfl
abbrev As_Heap_moved : List ATy := [.data true T_Heap, .data true T_A3, .clo [(true, T_A3)] [(true, T_A3)]]
abbrev R_Heap_moved : List (Bool × Ty) := [(true, T_Heap)]
abbrev M_Heap_moved : List RMode := [.own 45]
abbrev Ft_Heap_moved : Type := D_Heap × D_A3 × ((D_A3 × Unit) → Option (D_A3 × Unit)) × Unit → Option (D_Heap × Unit)
noncomputable def X_Heap_moved : Ctx := { types := TT, globals := [], con := [(81, C_box_index), (86, C_box_heap)], keep := [(3, ⟨[.box 4, .box 6, .tmp 2, .tmp 4, .tmp 6, .tmp 7, .tmp 11, .tmp 12, .tmp 13], []⟩)], results := [.cell 6 26], ntmps := 29, n := N }
noncomputable def B_Heap_moved : Code := (Tryz.f172.body).getD .skip
noncomputable def L_Heap_moved_3 (m0 : Nat) (p0 p1 p2 p3 p4 p5 : Int) (p6 : List D_A3) (p7 : (D_A3 × Unit) → Option (D_A3 × Unit)) (p8 : Int) (p9 : List D_A3) (p10 p11 : Int) : Option (denL R_Heap_moved) := loopF X_Heap_moved B_Heap_moved R_Heap_moved M_Heap_moved 3 [m0] [(.ver, .num 1), (.box 4, .box 0 false [.int .i64 p0, .int .i64 p1, .int .i64 p2]), (.box 6, .box 0 false [.int .i64 p3, .int .i64 p4, .int .i64 p5, .own 45 T_A3 0 p6]), (.tmp 2, .val false [.clo [(true, T_A3)] [(true, T_A3)] p7]), (.tmp 4, .val false [.addr 4 0 0]), (.tmp 6, .val false [.addr 6 0 0]), (.tmp 7, .val false [.int .u64 p8]), (.tmp 11, .val false [.imm T_A3 p9 (some 3)]), (.tmp 12, .val false [.int .i64 p10]), (.tmp 13, .val false [.int .i64 p11])]
noncomputable def P_Heap_moved : Ft_Heap_moved := hid (runF X_Heap_moved B_Heap_moved As_Heap_moved R_Heap_moved M_Heap_moved)
theorem h_Heap_moved : P_Heap_moved = runF X_Heap_moved B_Heap_moved As_Heap_moved R_Heap_moved M_Heap_moved := hid_eq _
noncomputable def C_Heap_moved : Contract := ⟨As_Heap_moved, R_Heap_moved, M_Heap_moved, P_Heap_moved⟩
theorem s_Heap_moved : Sound Tryz.prog GG 172 C_Heap_moved := by
  unfold C_Heap_moved; rw [h_Heap_moved]
  exact mkS Tryz.f172 ⟨s_box_index, s_box_heap, trivial⟩ trivial
noncomputable def l_Heap_moved_3 := hid (L_Heap_moved_3)
theorem h_Heap_moved_3 : l_Heap_moved_3 = L_Heap_moved_3 := hid_eq _
theorem p_Heap_moved (a0 : D_Heap) (a1 : D_A3) (a2 : (D_A3 × Unit) → Option (D_A3 × Unit)) : P_Heap_moved (a0, a1, a2, ()) =
  l_Heap_moved_3 N a1.1 a1.2.1 a1.2.2.1 0 0 0 ([] : List D_A3) a2 0 a0.2.2.2.1 (List.length a0.2.2.2.1 : Int) 0 := by
  rewrite [h_Heap_moved, h_Heap_moved_3]
  kernel_rfl
theorem q_Heap_moved_3 (m0 : Nat) (p0 p1 p2 p3 p4 p5 : Int) (p6 : List D_A3) (p7 : (D_A3 × Unit) → Option (D_A3 × Unit)) (p8 : Int) (p9 : List D_A3) (p10 p11 : Int) : l_Heap_moved_3 (m0 + 1) p0 p1 p2 p3 p4 p5 p6 p7 p8 p9 p10 p11 =
  bif decide (p11 < p10) then
    bif inB p11 (List.length p9) then
      Option.bind (p7 ((nth T_A3 p9 p11), ())) fun r2 =>
      Option.bind (P_box_index ((p0, (p1, (p2, ()))), r2.1, ())) fun r3 =>
      bif decide ((0 : Int) ≤ r3.1) then
        l_Heap_moved_3 m0 p0 p1 p2 p3 p4 p5 p6 p7 (intBits .or .u64 p8 (shlI .u64 1 r3.1)) p9 p10 (IntKind.wrap .i64 (p11 + 1))
      else none
    else none
  else
    Option.bind (P_box_heap ((p0, (p1, (p2, ()))), p8, ())) fun r1 =>
    some (r1.1, ()) := by
  rewrite [h_Heap_moved_3]
  kernel_rfl
abbrev As_Heap_turned_1 : List ATy := [.data true T_A3, .ptr T_A3]
abbrev R_Heap_turned_1 : List (Bool × Ty) := [(true, T_A3)]
abbrev M_Heap_turned_1 : List RMode := []
abbrev Ft_Heap_turned_1 : Type := D_A3 × D_A3 × Unit → Option (D_A3 × Unit)
noncomputable def X_Heap_turned_1 : Ctx := { types := TT, globals := [], con := [], keep := [], results := [.cell 3 45], ntmps := 17, n := N }
noncomputable def B_Heap_turned_1 : Code := (Tryz.f173.body).getD .skip
noncomputable def P_Heap_turned_1 : Ft_Heap_turned_1 := hid (runF X_Heap_turned_1 B_Heap_turned_1 As_Heap_turned_1 R_Heap_turned_1 M_Heap_turned_1)
theorem h_Heap_turned_1 : P_Heap_turned_1 = runF X_Heap_turned_1 B_Heap_turned_1 As_Heap_turned_1 R_Heap_turned_1 M_Heap_turned_1 := hid_eq _
noncomputable def C_Heap_turned_1 : Contract := ⟨As_Heap_turned_1, R_Heap_turned_1, M_Heap_turned_1, P_Heap_turned_1⟩
theorem s_Heap_turned_1 : Sound Tryz.prog GG 173 C_Heap_turned_1 := by
  unfold C_Heap_turned_1; rw [h_Heap_turned_1]
  exact mkS Tryz.f173 trivial trivial
theorem p_Heap_turned_1 (a0 : D_A3) (a1 : D_A3) : P_Heap_turned_1 (a0, a1, ()) =
  bif inB a1.1 3 then
    bif inB a1.2.1 3 then
      bif inB a1.2.2.1 3 then
        some (((bif decide (a1.1 = (0 : Int)) then a0.1 else (bif decide (a1.1 = (1 : Int)) then a0.2.1 else a0.2.2.1)), ((bif decide (a1.2.1 = (0 : Int)) then a0.1 else (bif decide (a1.2.1 = (1 : Int)) then a0.2.1 else a0.2.2.1)), ((bif decide (a1.2.2.1 = (0 : Int)) then a0.1 else (bif decide (a1.2.2.1 = (1 : Int)) then a0.2.1 else a0.2.2.1)), ()))), ())
      else none
    else none
  else none := by
  rewrite [h_Heap_turned_1]
  kernel_rfl
abbrev As_Heap_turned : List ATy := [.data true T_Heap, .data true T_A3]
abbrev R_Heap_turned : List (Bool × Ty) := [(true, T_Heap)]
abbrev M_Heap_turned : List RMode := [.own 45]
abbrev Ft_Heap_turned : Type := D_Heap × D_A3 × Unit → Option (D_Heap × Unit)
noncomputable def X_Heap_turned : Ctx := { types := TT, globals := [], con := [(74, C_Heap_box), (172, C_Heap_moved), (173, C_Heap_turned_1)], keep := [], results := [.cell 4 26], ntmps := 24, n := N }
noncomputable def B_Heap_turned : Code := (Tryz.f90.body).getD .skip
noncomputable def P_Heap_turned : Ft_Heap_turned := hid (runF X_Heap_turned B_Heap_turned As_Heap_turned R_Heap_turned M_Heap_turned)
theorem h_Heap_turned : P_Heap_turned = runF X_Heap_turned B_Heap_turned As_Heap_turned R_Heap_turned M_Heap_turned := hid_eq _
noncomputable def C_Heap_turned : Contract := ⟨As_Heap_turned, R_Heap_turned, M_Heap_turned, P_Heap_turned⟩
theorem s_Heap_turned : Sound Tryz.prog GG 90 C_Heap_turned := by
  unfold C_Heap_turned; rw [h_Heap_turned]
  exact mkS Tryz.f90 ⟨s_Heap_box, s_Heap_moved, s_Heap_turned_1, trivial⟩ trivial
theorem p_Heap_turned (a0 : D_Heap) (a1 : D_A3) : P_Heap_turned (a0, a1, ()) =
  Option.bind (P_Heap_box (a0, ())) fun r0 =>
  bif inB a1.1 3 then
    bif inB a1.2.1 3 then
      bif inB a1.2.2.1 3 then
        Option.bind (P_Heap_moved (a0, ((bif decide (a1.1 = (0 : Int)) then r0.1.1 else (bif decide (a1.1 = (1 : Int)) then r0.1.2.1 else r0.1.2.2.1)), ((bif decide (a1.2.1 = (0 : Int)) then r0.1.1 else (bif decide (a1.2.1 = (1 : Int)) then r0.1.2.1 else r0.1.2.2.1)), ((bif decide (a1.2.2.1 = (0 : Int)) then r0.1.1 else (bif decide (a1.2.2.1 = (1 : Int)) then r0.1.2.1 else r0.1.2.2.1)), ()))), (fun (y : D_A3 × Unit) => P_Heap_turned_1 (y.1, a1, ())), ())) fun r4 =>
        some (r4.1, ())
      else none
    else none
  else none := by
  rewrite [h_Heap_turned]
  kernel_rfl
abbrev As_impl_TurnStair : List ATy := [.data true T_Heap]
abbrev R_impl_TurnStair : List (Bool × Ty) := [(true, T_Heap), (false, .bool)]
abbrev M_impl_TurnStair : List RMode := [.own 45]
abbrev Ft_impl_TurnStair : Type := D_Heap × Unit → Option (D_Heap × Bool × Unit)
noncomputable def X_impl_TurnStair : Ctx := { types := TT, globals := [], con := [(68, C_impl_isStair), (90, C_Heap_turned)], keep := [], results := [.cell 2 26, .tmp 3], ntmps := 11, n := N }
noncomputable def B_impl_TurnStair : Code := (Tryz.f18.body).getD .skip
noncomputable def P_impl_TurnStair : Ft_impl_TurnStair := hid (runF X_impl_TurnStair B_impl_TurnStair As_impl_TurnStair R_impl_TurnStair M_impl_TurnStair)
theorem h_impl_TurnStair : P_impl_TurnStair = runF X_impl_TurnStair B_impl_TurnStair As_impl_TurnStair R_impl_TurnStair M_impl_TurnStair := hid_eq _
noncomputable def C_impl_TurnStair : Contract := ⟨As_impl_TurnStair, R_impl_TurnStair, M_impl_TurnStair, P_impl_TurnStair⟩
theorem s_impl_TurnStair : Sound Tryz.prog GG 18 C_impl_TurnStair := by
  unfold C_impl_TurnStair; rw [h_impl_TurnStair]
  exact mkS Tryz.f18 ⟨s_impl_isStair, s_Heap_turned, trivial⟩ trivial
theorem p_impl_TurnStair (a0 : D_Heap) : P_impl_TurnStair (a0, ()) =
  Option.bind (P_impl_isStair (a0, ())) fun r0 =>
  bif !r0.1 then
    some ((0, (0, (0, (([] : List D_A3), ())))), false, ())
  else
    Option.bind (P_Heap_turned (a0, (2, (0, (1, ()))), ())) fun r2 =>
    some (r2.1, true, ()) := by
  rewrite [h_impl_TurnStair]
  kernel_rfl
abbrev As_spec_l5Exchanged : List ATy := [.data true T_Heap, .data true T_A3]
abbrev R_spec_l5Exchanged : List (Bool × Ty) := [(true, T_Heap)]
abbrev M_spec_l5Exchanged : List RMode := [.own 45]
abbrev Ft_spec_l5Exchanged : Type := D_Heap × D_A3 × Unit → Option (D_Heap × Unit)
noncomputable def X_spec_l5Exchanged : Ctx := { types := TT, globals := [], con := [(85, C_spec_l2With), (89, C_spec_l2Empty), (127, C_spec_l2Long)], keep := [(3, ⟨[.box 2, .box 3, .box 4, .box 5, .tmp 2, .tmp 3, .tmp 4, .tmp 5, .tmp 6], []⟩)], results := [.cell 4 26], ntmps := 49, n := N }
noncomputable def B_spec_l5Exchanged : Code := (Tryz.f91.body).getD .skip
noncomputable def L_spec_l5Exchanged_3 (m0 : Nat) (p0 p1 p2 : Int) (p3 : List D_A3) (p4 p5 p6 p7 p8 p9 : Int) (p10 : List D_A3) (p11 p12 p13 : Int) (p14 : List D_A3) (p15 : Int) : Option (denL R_spec_l5Exchanged) := loopF X_spec_l5Exchanged B_spec_l5Exchanged R_spec_l5Exchanged M_spec_l5Exchanged 3 [m0] [(.ver, .num 1), (.box 2, .box 0 false [.int .i64 p0, .int .i64 p1, .int .i64 p2, .imm T_A3 p3 (some 3)]), (.box 3, .box 0 false [.int .i64 p4, .int .i64 p5, .int .i64 p6]), (.box 4, .box 0 false [.int .i64 p7, .int .i64 p8, .int .i64 p9, .own 45 T_A3 0 p10]), (.box 5, .box 0 false [.int .i64 p11, .int .i64 p12, .int .i64 p13, .own 45 T_A3 0 p14]), (.tmp 2, .val false [.addr 2 0 0]), (.tmp 3, .val false [.addr 3 0 0]), (.tmp 4, .val false [.addr 4 0 0]), (.tmp 5, .val false [.addr 5 0 0]), (.tmp 6, .val false [.int .i64 p15])]
noncomputable def P_spec_l5Exchanged : Ft_spec_l5Exchanged := hid (runF X_spec_l5Exchanged B_spec_l5Exchanged As_spec_l5Exchanged R_spec_l5Exchanged M_spec_l5Exchanged)
theorem h_spec_l5Exchanged : P_spec_l5Exchanged = runF X_spec_l5Exchanged B_spec_l5Exchanged As_spec_l5Exchanged R_spec_l5Exchanged M_spec_l5Exchanged := hid_eq _
noncomputable def C_spec_l5Exchanged : Contract := ⟨As_spec_l5Exchanged, R_spec_l5Exchanged, M_spec_l5Exchanged, P_spec_l5Exchanged⟩
theorem s_spec_l5Exchanged : Sound Tryz.prog GG 91 C_spec_l5Exchanged := by
  unfold C_spec_l5Exchanged; rw [h_spec_l5Exchanged]
  exact mkS Tryz.f91 ⟨s_spec_l2With, s_spec_l2Empty, s_spec_l2Long, trivial⟩ trivial
noncomputable def l_spec_l5Exchanged_3 := hid (L_spec_l5Exchanged_3)
theorem h_spec_l5Exchanged_3 : l_spec_l5Exchanged_3 = L_spec_l5Exchanged_3 := hid_eq _
theorem p_spec_l5Exchanged (a0 : D_Heap) (a1 : D_A3) : P_spec_l5Exchanged (a0, a1, ()) =
  Option.bind (P_spec_l2Long (a0, a1.1, ())) fun r0 =>
  Option.bind (P_spec_l2Long (a0, a1.2.1, ())) fun r1 =>
  Option.bind (P_spec_l2Long (a0, a1.2.2.1, ())) fun r2 =>
  Option.bind (P_spec_l2Empty (r0.1, r1.1, r2.1, ())) fun r3 =>
  l_spec_l5Exchanged_3 N a0.1 a0.2.1 a0.2.2.1 a0.2.2.2.1 a1.1 a1.2.1 a1.2.2.1 0 0 0 ([] : List D_A3) r3.1.1 r3.1.2.1 r3.1.2.2.1 r3.1.2.2.2.1 0 := by
  rewrite [h_spec_l5Exchanged, h_spec_l5Exchanged_3]
  kernel_rfl
theorem q_spec_l5Exchanged_3 (m0 : Nat) (p0 p1 p2 : Int) (p3 : List D_A3) (p4 p5 p6 p7 p8 p9 : Int) (p10 : List D_A3) (p11 p12 p13 : Int) (p14 : List D_A3) (p15 : Int) : l_spec_l5Exchanged_3 (m0 + 1) p0 p1 p2 p3 p4 p5 p6 p7 p8 p9 p10 p11 p12 p13 p14 p15 =
  bif decide (p15 < (List.length p3 : Int)) then
    bif inB p15 (List.length p3) then
      bif inB p4 3 then
        bif inB p5 3 then
          bif inB p6 3 then
            Option.bind (P_spec_l2With ((p11, (p12, (p13, (p14, ())))), ((bif decide (p4 = (0 : Int)) then ((nth T_A3 p3 p15)).1 else (bif decide (p4 = (1 : Int)) then (((nth T_A3 p3 p15)).2).1 else ((((nth T_A3 p3 p15)).2).2).1)), ((bif decide (p5 = (0 : Int)) then ((nth T_A3 p3 p15)).1 else (bif decide (p5 = (1 : Int)) then (((nth T_A3 p3 p15)).2).1 else ((((nth T_A3 p3 p15)).2).2).1)), ((bif decide (p6 = (0 : Int)) then ((nth T_A3 p3 p15)).1 else (bif decide (p6 = (1 : Int)) then (((nth T_A3 p3 p15)).2).1 else ((((nth T_A3 p3 p15)).2).2).1)), ()))), ())) fun r5 =>
            l_spec_l5Exchanged_3 m0 p0 p1 p2 p3 p4 p5 p6 p7 p8 p9 p10 r5.1.1 r5.1.2.1 r5.1.2.2.1 r5.1.2.2.2.1 (IntKind.wrap .i64 (p15 + 1))
          else none
        else none
      else none
    else none
  else
    some ((p11, (p12, (p13, (p14, ())))), ()) := by
  rewrite [h_spec_l5Exchanged_3]
  kernel_rfl
abbrev As_spec_TurnStair : List ATy := [.data true T_Heap]
abbrev R_spec_TurnStair : List (Bool × Ty) := [(true, T_Heap), (false, .bool)]
abbrev M_spec_TurnStair : List RMode := [.own 45]
abbrev Ft_spec_TurnStair : Type := D_Heap × Unit → Option (D_Heap × Bool × Unit)
noncomputable def X_spec_TurnStair : Ctx := { types := TT, globals := [], con := [(72, C_spec_l5Good), (91, C_spec_l5Exchanged)], keep := [], results := [.cell 2 26, .tmp 3], ntmps := 11, n := N }
noncomputable def B_spec_TurnStair : Code := (Tryz.f19.body).getD .skip
noncomputable def P_spec_TurnStair : Ft_spec_TurnStair := hid (runF X_spec_TurnStair B_spec_TurnStair As_spec_TurnStair R_spec_TurnStair M_spec_TurnStair)
theorem h_spec_TurnStair : P_spec_TurnStair = runF X_spec_TurnStair B_spec_TurnStair As_spec_TurnStair R_spec_TurnStair M_spec_TurnStair := hid_eq _
noncomputable def C_spec_TurnStair : Contract := ⟨As_spec_TurnStair, R_spec_TurnStair, M_spec_TurnStair, P_spec_TurnStair⟩
theorem s_spec_TurnStair : Sound Tryz.prog GG 19 C_spec_TurnStair := by
  unfold C_spec_TurnStair; rw [h_spec_TurnStair]
  exact mkS Tryz.f19 ⟨s_spec_l5Good, s_spec_l5Exchanged, trivial⟩ trivial
theorem p_spec_TurnStair (a0 : D_Heap) : P_spec_TurnStair (a0, ()) =
  Option.bind (P_spec_l5Good (a0, ())) fun r0 =>
  bif !r0.1 then
    some ((0, (0, (0, (([] : List D_A3), ())))), false, ())
  else
    Option.bind (P_spec_l5Exchanged (a0, (2, (0, (1, ()))), ())) fun r2 =>
    some (r2.1, true, ()) := by
  rewrite [h_spec_TurnStair]
  kernel_rfl
abbrev As_slices_IndexFunc_int_int : List ATy := [.data false (.sl (.sl (.int .i64))), .clo [(false, (.sl (.int .i64)))] [(false, .bool)]]
abbrev R_slices_IndexFunc_int_int : List (Bool × Ty) := [(false, (.int .i64))]
abbrev M_slices_IndexFunc_int_int : List RMode := []
abbrev Ft_slices_IndexFunc_int_int : Type := (List (List Int)) × (((List Int) × Unit) → Option (Bool × Unit)) × Unit → Option (Int × Unit)
noncomputable def X_slices_IndexFunc_int_int : Ctx := { types := TT, globals := [], con := [], keep := [(2, ⟨[.tmp 0, .tmp 1, .tmp 7, .tmp 8], []⟩)], results := [.tmp 4], ntmps := 19, n := N }
noncomputable def B_slices_IndexFunc_int_int : Code := (Tryz.f93.body).getD .skip
noncomputable def L_slices_IndexFunc_int_int_2 (m0 : Nat) (p0 : List (List Int)) (p1 : ((List Int) × Unit) → Option (Bool × Unit)) (p2 p3 : Int) : Option (denL R_slices_IndexFunc_int_int) := loopF X_slices_IndexFunc_int_int B_slices_IndexFunc_int_int R_slices_IndexFunc_int_int M_slices_IndexFunc_int_int 2 [m0] [(.ver, .num 1), (.tmp 0, .val false [.imm (.sl (.int .i64)) p0 (some 0)]), (.tmp 1, .val false [.clo [(false, (.sl (.int .i64)))] [(false, .bool)] p1]), (.tmp 7, .val false [.int .i64 p2]), (.tmp 8, .val false [.int .i64 p3])]
noncomputable def P_slices_IndexFunc_int_int : Ft_slices_IndexFunc_int_int := hid (runF X_slices_IndexFunc_int_int B_slices_IndexFunc_int_int As_slices_IndexFunc_int_int R_slices_IndexFunc_int_int M_slices_IndexFunc_int_int)
theorem h_slices_IndexFunc_int_int : P_slices_IndexFunc_int_int = runF X_slices_IndexFunc_int_int B_slices_IndexFunc_int_int As_slices_IndexFunc_int_int R_slices_IndexFunc_int_int M_slices_IndexFunc_int_int := hid_eq _
noncomputable def C_slices_IndexFunc_int_int : Contract := ⟨As_slices_IndexFunc_int_int, R_slices_IndexFunc_int_int, M_slices_IndexFunc_int_int, P_slices_IndexFunc_int_int⟩
theorem s_slices_IndexFunc_int_int : Sound Tryz.prog GG 93 C_slices_IndexFunc_int_int := by
  unfold C_slices_IndexFunc_int_int; rw [h_slices_IndexFunc_int_int]
  exact mkS Tryz.f93 trivial trivial
noncomputable def l_slices_IndexFunc_int_int_2 := hid (L_slices_IndexFunc_int_int_2)
theorem h_slices_IndexFunc_int_int_2 : l_slices_IndexFunc_int_int_2 = L_slices_IndexFunc_int_int_2 := hid_eq _
theorem p_slices_IndexFunc_int_int (a0 : List (List Int)) (a1 : ((List Int) × Unit) → Option (Bool × Unit)) : P_slices_IndexFunc_int_int (a0, a1, ()) =
  l_slices_IndexFunc_int_int_2 N a0 a1 (List.length a0 : Int) 0 := by
  rewrite [h_slices_IndexFunc_int_int, h_slices_IndexFunc_int_int_2]
  kernel_rfl
theorem q_slices_IndexFunc_int_int_2 (m0 : Nat) (p0 : List (List Int)) (p1 : ((List Int) × Unit) → Option (Bool × Unit)) (p2 p3 : Int) : l_slices_IndexFunc_int_int_2 (m0 + 1) p0 p1 p2 p3 =
  bif decide (p3 < p2) then
    bif inB p3 (List.length p0) then
      Option.bind (p1 ((nth ((.sl (.int .i64)) : Ty) p0 p3), ())) fun r2 =>
      bif r2.1 then
        some (p3, ())
      else
        l_slices_IndexFunc_int_int_2 m0 p0 p1 p2 (IntKind.wrap .i64 (p3 + 1))
    else none
  else
    some ((-1), ()) := by
  rewrite [h_slices_IndexFunc_int_int_2]
  kernel_rfl
abbrev As_slices_Equal_int_int : List ATy := [.data false (.sl (.int .i64)), .data false (.sl (.int .i64))]
abbrev R_slices_Equal_int_int : List (Bool × Ty) := [(false, .bool)]
abbrev M_slices_Equal_int_int : List RMode := []
abbrev Ft_slices_Equal_int_int : Type := (List Int) × (List Int) × Unit → Option (Bool × Unit)
noncomputable def X_slices_Equal_int_int : Ctx := { types := TT, globals := [], con := [], keep := [(4, ⟨[.tmp 0, .tmp 1, .tmp 12, .tmp 13], []⟩)], results := [.tmp 4], ntmps := 26, n := N }
noncomputable def B_slices_Equal_int_int : Code := (Tryz.f95.body).getD .skip
noncomputable def L_slices_Equal_int_int_4 (m0 : Nat) (p0 p1 : List Int) (p2 p3 : Int) : Option (denL R_slices_Equal_int_int) := loopF X_slices_Equal_int_int B_slices_Equal_int_int R_slices_Equal_int_int M_slices_Equal_int_int 4 [m0] [(.ver, .num 1), (.tmp 0, .val false [.imm (.int .i64) p0 (some 0)]), (.tmp 1, .val false [.imm (.int .i64) p1 (some 1)]), (.tmp 12, .val false [.int .i64 p2]), (.tmp 13, .val false [.int .i64 p3])]
noncomputable def P_slices_Equal_int_int : Ft_slices_Equal_int_int := hid (runF X_slices_Equal_int_int B_slices_Equal_int_int As_slices_Equal_int_int R_slices_Equal_int_int M_slices_Equal_int_int)
theorem h_slices_Equal_int_int : P_slices_Equal_int_int = runF X_slices_Equal_int_int B_slices_Equal_int_int As_slices_Equal_int_int R_slices_Equal_int_int M_slices_Equal_int_int := hid_eq _
noncomputable def C_slices_Equal_int_int : Contract := ⟨As_slices_Equal_int_int, R_slices_Equal_int_int, M_slices_Equal_int_int, P_slices_Equal_int_int⟩
theorem s_slices_Equal_int_int : Sound Tryz.prog GG 95 C_slices_Equal_int_int := by
  unfold C_slices_Equal_int_int; rw [h_slices_Equal_int_int]
  exact mkS Tryz.f95 trivial trivial
noncomputable def l_slices_Equal_int_int_4 := hid (L_slices_Equal_int_int_4)
theorem h_slices_Equal_int_int_4 : l_slices_Equal_int_int_4 = L_slices_Equal_int_int_4 := hid_eq _
theorem p_slices_Equal_int_int (a0 : List Int) (a1 : List Int) : P_slices_Equal_int_int (a0, a1, ()) =
  bif !decide ((List.length a0 : Int) = (List.length a1 : Int)) then
    some (false, ())
  else
    l_slices_Equal_int_int_4 N a0 a1 (List.length a0 : Int) 0 := by
  rewrite [h_slices_Equal_int_int, h_slices_Equal_int_int_4]
  kernel_rfl
theorem q_slices_Equal_int_int_4 (m0 : Nat) (p0 p1 : List Int) (p2 p3 : Int) : l_slices_Equal_int_int_4 (m0 + 1) p0 p1 p2 p3 =
  bif decide (p3 < p2) then
    bif inB p3 (List.length p0) then
      bif inB p3 (List.length p1) then
        bif !decide ((nth ((.int .i64) : Ty) p0 p3) = (nth ((.int .i64) : Ty) p1 p3)) then
          some (false, ())
        else
          l_slices_Equal_int_int_4 m0 p0 p1 p2 (IntKind.wrap .i64 (p3 + 1))
      else none
    else none
  else
    some (true, ()) := by
  rewrite [h_slices_Equal_int_int_4]
  kernel_rfl
abbrev As_impl_RankStair_1 : List ATy := [.data false (.sl (.int .i64)), .ptr T_Heap]
abbrev R_impl_RankStair_1 : List (Bool × Ty) := [(false, .bool)]
abbrev M_impl_RankStair_1 : List RMode := []
abbrev Ft_impl_RankStair_1 : Type := (List Int) × D_Heap × Unit → Option (Bool × Unit)
noncomputable def X_impl_RankStair_1 : Ctx := { types := TT, globals := [], con := [(71, C_Heap_heights), (95, C_slices_Equal_int_int)], keep := [], results := [.tmp 3], ntmps := 8, n := N }
noncomputable def B_impl_RankStair_1 : Code := (Tryz.f94.body).getD .skip
noncomputable def P_impl_RankStair_1 : Ft_impl_RankStair_1 := hid (runF X_impl_RankStair_1 B_impl_RankStair_1 As_impl_RankStair_1 R_impl_RankStair_1 M_impl_RankStair_1)
theorem h_impl_RankStair_1 : P_impl_RankStair_1 = runF X_impl_RankStair_1 B_impl_RankStair_1 As_impl_RankStair_1 R_impl_RankStair_1 M_impl_RankStair_1 := hid_eq _
noncomputable def C_impl_RankStair_1 : Contract := ⟨As_impl_RankStair_1, R_impl_RankStair_1, M_impl_RankStair_1, P_impl_RankStair_1⟩
theorem s_impl_RankStair_1 : Sound Tryz.prog GG 94 C_impl_RankStair_1 := by
  unfold C_impl_RankStair_1; rw [h_impl_RankStair_1]
  exact mkS Tryz.f94 ⟨s_Heap_heights, s_slices_Equal_int_int, trivial⟩ trivial
theorem p_impl_RankStair_1 (a0 : List Int) (a1 : D_Heap) : P_impl_RankStair_1 (a0, a1, ()) =
  Option.bind (P_Heap_heights (a1, ())) fun r0 =>
  Option.bind (P_slices_Equal_int_int (a0, r0.1, ())) fun r1 =>
  some (r1.1, ()) := by
  rewrite [h_impl_RankStair_1]
  kernel_rfl
abbrev As_box_stairs : List ATy := [.data true T_A3]
abbrev R_box_stairs : List (Bool × Ty) := [(false, (.sl (.sl (.int .i64)))), (false, .bool)]
abbrev M_box_stairs : List RMode := [.own 30]
abbrev Ft_box_stairs : Type := D_A3 × Unit → Option ((List (List Int)) × Bool × Unit)
noncomputable def P_box_stairs : Ft_box_stairs := hid (stairsF P_box_valid P_box_countStairs)
theorem h_box_stairs : P_box_stairs = stairsF P_box_valid P_box_countStairs := hid_eq _
noncomputable def C_box_stairs : Contract := ⟨As_box_stairs, R_box_stairs, M_box_stairs, P_box_stairs⟩
theorem s_box_stairs : Sound Tryz.prog GG 92 C_box_stairs := by
  unfold C_box_stairs; rw [h_box_stairs]
  exact stairs_sound (fun _ => trivial) s_box_valid s_box_countStairs
theorem p_box_stairs (a0 : D_A3) : P_box_stairs (a0, ()) = stairsF P_box_valid P_box_countStairs (a0, ()) := by rw [h_box_stairs]
abbrev As_impl_RankStair : List ATy := [.data true T_Heap]
abbrev R_impl_RankStair : List (Bool × Ty) := [(false, (.int .i64)), (false, .bool)]
abbrev M_impl_RankStair : List RMode := []
abbrev Ft_impl_RankStair : Type := D_Heap × Unit → Option (Int × Bool × Unit)
noncomputable def X_impl_RankStair : Ctx := { types := TT, globals := [], con := [(68, C_impl_isStair), (74, C_Heap_box), (92, C_box_stairs), (93, C_slices_IndexFunc_int_int), (94, C_impl_RankStair_1)], keep := [], results := [.tmp 2, .tmp 3], ntmps := 22, n := N }
noncomputable def B_impl_RankStair : Code := (Tryz.f20.body).getD .skip
noncomputable def P_impl_RankStair : Ft_impl_RankStair := hid (runF X_impl_RankStair B_impl_RankStair As_impl_RankStair R_impl_RankStair M_impl_RankStair)
theorem h_impl_RankStair : P_impl_RankStair = runF X_impl_RankStair B_impl_RankStair As_impl_RankStair R_impl_RankStair M_impl_RankStair := hid_eq _
noncomputable def C_impl_RankStair : Contract := ⟨As_impl_RankStair, R_impl_RankStair, M_impl_RankStair, P_impl_RankStair⟩
theorem s_impl_RankStair : Sound Tryz.prog GG 20 C_impl_RankStair := by
  unfold C_impl_RankStair; rw [h_impl_RankStair]
  exact mkS Tryz.f20 ⟨s_impl_isStair, s_Heap_box, s_box_stairs, s_slices_IndexFunc_int_int, s_impl_RankStair_1, trivial⟩ trivial
theorem p_impl_RankStair (a0 : D_Heap) : P_impl_RankStair (a0, ()) =
  Option.bind (P_Heap_box (a0, ())) fun r0 =>
  Option.bind (P_box_stairs (r0.1, ())) fun r1 =>
  bif !r1.2.1 then
    some (0, false, ())
  else
    Option.bind (P_impl_isStair (a0, ())) fun r3 =>
    bif !r3.1 then
      some (0, false, ())
    else
      Option.bind (P_slices_IndexFunc_int_int (r1.1, (fun (y : (List Int) × Unit) => P_impl_RankStair_1 (y.1, a0, ())), ())) fun r5 =>
      some (r5.1, true, ()) := by
  rewrite [h_impl_RankStair]
  kernel_rfl
abbrev As_spec_l5Gcd : List ATy := [.data false (.int .i64), .data false (.int .i64)]
abbrev R_spec_l5Gcd : List (Bool × Ty) := [(false, (.int .i64))]
abbrev M_spec_l5Gcd : List RMode := []
abbrev Ft_spec_l5Gcd : Type := Int × Int × Unit → Option (Int × Unit)
noncomputable def X_spec_l5Gcd : Ctx := { types := TT, globals := [], con := [], keep := [(1, ⟨[.tmp 0, .tmp 1], []⟩)], results := [.tmp 4], ntmps := 12, n := N }
noncomputable def B_spec_l5Gcd : Code := (Tryz.f214.body).getD .skip
noncomputable def L_spec_l5Gcd_1 (m0 : Nat) (p0 p1 : Int) : Option (denL R_spec_l5Gcd) := loopF X_spec_l5Gcd B_spec_l5Gcd R_spec_l5Gcd M_spec_l5Gcd 1 [m0] [(.ver, .num 1), (.tmp 0, .val false [.int .i64 p0]), (.tmp 1, .val false [.int .i64 p1])]
noncomputable def P_spec_l5Gcd : Ft_spec_l5Gcd := hid (runF X_spec_l5Gcd B_spec_l5Gcd As_spec_l5Gcd R_spec_l5Gcd M_spec_l5Gcd)
theorem h_spec_l5Gcd : P_spec_l5Gcd = runF X_spec_l5Gcd B_spec_l5Gcd As_spec_l5Gcd R_spec_l5Gcd M_spec_l5Gcd := hid_eq _
noncomputable def C_spec_l5Gcd : Contract := ⟨As_spec_l5Gcd, R_spec_l5Gcd, M_spec_l5Gcd, P_spec_l5Gcd⟩
theorem s_spec_l5Gcd : Sound Tryz.prog GG 214 C_spec_l5Gcd := by
  unfold C_spec_l5Gcd; rw [h_spec_l5Gcd]
  exact mkS Tryz.f214 trivial trivial
noncomputable def l_spec_l5Gcd_1 := hid (L_spec_l5Gcd_1)
theorem h_spec_l5Gcd_1 : l_spec_l5Gcd_1 = L_spec_l5Gcd_1 := hid_eq _
theorem p_spec_l5Gcd (a0 : Int) (a1 : Int) : P_spec_l5Gcd (a0, a1, ()) =
  l_spec_l5Gcd_1 N a0 a1 := by
  rewrite [h_spec_l5Gcd, h_spec_l5Gcd_1]
  kernel_rfl
theorem q_spec_l5Gcd_1 (m0 : Nat) (p0 p1 : Int) : l_spec_l5Gcd_1 (m0 + 1) p0 p1 =
  bif decide (p1 > 0) then
    bif !decide (p1 = 0) then
      l_spec_l5Gcd_1 m0 p1 (Int.tmod p0 p1)
    else none
  else
    some (p0, ()) := by
  rewrite [h_spec_l5Gcd_1]
  kernel_rfl
abbrev As_spec_l5Count : List ATy := [.data false (.int .i64), .data false (.int .i64), .data false (.int .i64)]
abbrev R_spec_l5Count : List (Bool × Ty) := [(false, (.int .i64))]
abbrev M_spec_l5Count : List RMode := []
abbrev Ft_spec_l5Count : Type := Int × Int × Int × Unit → Option (Int × Unit)
noncomputable def X_spec_l5Count : Ctx := { types := TT, globals := [], con := [(214, C_spec_l5Gcd)], keep := [(3, ⟨[.tmp 0, .tmp 1, .tmp 2, .tmp 7, .tmp 8, .tmp 9], []⟩), (6, ⟨[.tmp 0, .tmp 1, .tmp 2, .tmp 7, .tmp 8, .tmp 9, .tmp 10], []⟩)], results := [.tmp 6], ntmps := 48, n := N }
noncomputable def B_spec_l5Count : Code := (Tryz.f176.body).getD .skip
noncomputable def L_spec_l5Count_3 (m0 : Nat) (p0 p1 p2 p3 p4 p5 : Int) : Option (denL R_spec_l5Count) := loopF X_spec_l5Count B_spec_l5Count R_spec_l5Count M_spec_l5Count 3 [m0] [(.ver, .num 1), (.tmp 0, .val false [.int .i64 p0]), (.tmp 1, .val false [.int .i64 p1]), (.tmp 2, .val false [.int .i64 p2]), (.tmp 7, .val false [.int .i64 p3]), (.tmp 8, .val false [.int .i64 p4]), (.tmp 9, .val false [.int .i64 p5])]
noncomputable def L_spec_l5Count_6 (m0 m1 : Nat) (p0 p1 p2 p3 p4 p5 p6 : Int) : Option (denL R_spec_l5Count) := loopF X_spec_l5Count B_spec_l5Count R_spec_l5Count M_spec_l5Count 6 [m0, m1] [(.ver, .num 1), (.tmp 0, .val false [.int .i64 p0]), (.tmp 1, .val false [.int .i64 p1]), (.tmp 2, .val false [.int .i64 p2]), (.tmp 7, .val false [.int .i64 p3]), (.tmp 8, .val false [.int .i64 p4]), (.tmp 9, .val false [.int .i64 p5]), (.tmp 10, .val false [.int .i64 p6])]
noncomputable def P_spec_l5Count : Ft_spec_l5Count := hid (runF X_spec_l5Count B_spec_l5Count As_spec_l5Count R_spec_l5Count M_spec_l5Count)
theorem h_spec_l5Count : P_spec_l5Count = runF X_spec_l5Count B_spec_l5Count As_spec_l5Count R_spec_l5Count M_spec_l5Count := hid_eq _
noncomputable def C_spec_l5Count : Contract := ⟨As_spec_l5Count, R_spec_l5Count, M_spec_l5Count, P_spec_l5Count⟩
theorem s_spec_l5Count : Sound Tryz.prog GG 176 C_spec_l5Count := by
  unfold C_spec_l5Count; rw [h_spec_l5Count]
  exact mkS Tryz.f176 ⟨s_spec_l5Gcd, trivial⟩ trivial
noncomputable def l_spec_l5Count_3 := hid (L_spec_l5Count_3)
theorem h_spec_l5Count_3 : l_spec_l5Count_3 = L_spec_l5Count_3 := hid_eq _
noncomputable def l_spec_l5Count_6 := hid (L_spec_l5Count_6)
theorem h_spec_l5Count_6 : l_spec_l5Count_6 = L_spec_l5Count_6 := hid_eq _
theorem p_spec_l5Count (a0 : Int) (a1 : Int) (a2 : Int) : P_spec_l5Count (a0, a1, a2, ()) =
  l_spec_l5Count_3 N a0 a1 a2 1 1 1 := by
  rewrite [h_spec_l5Count, h_spec_l5Count_3]
  kernel_rfl
theorem q_spec_l5Count_3 (m0 : Nat) (p0 p1 p2 p3 p4 p5 : Int) : l_spec_l5Count_3 (m0 + 1) p0 p1 p2 p3 p4 p5 =
  bif decide (p5 ≤ p0) then
    l_spec_l5Count_6 m0 N p0 p1 p2 p3 p4 p5 1
  else
    bif !decide (p4 = 0) then
      some ((IntKind.wrap .i64 (Int.tdiv p3 p4)), ())
    else none := by
  rewrite [h_spec_l5Count_3, h_spec_l5Count_6]
  kernel_rfl
theorem q_spec_l5Count_6 (m0 m1 : Nat) (p0 p1 p2 p3 p4 p5 p6 : Int) : l_spec_l5Count_6 m0 (m1 + 1) p0 p1 p2 p3 p4 p5 p6 =
  bif decide (p6 ≤ p1) then
    l_spec_l5Count_6 m0 m1 p0 p1 p2 (IntKind.wrap .i64 (p3 * (IntKind.wrap .i64 ((IntKind.wrap .i64 ((IntKind.wrap .i64 (p5 + p6)) + p2)) - 1)))) (IntKind.wrap .i64 (p4 * (IntKind.wrap .i64 ((IntKind.wrap .i64 (p5 + p6)) - 1)))) p5 (IntKind.wrap .i64 (p6 + 1))
  else
    Option.bind (P_spec_l5Gcd (p3, p4, ())) fun r1 =>
    bif !decide (r1.1 = 0) then
      bif !decide (r1.1 = 0) then
        l_spec_l5Count_3 m0 p0 p1 p2 (IntKind.wrap .i64 (Int.tdiv p3 r1.1)) (IntKind.wrap .i64 (Int.tdiv p4 r1.1)) (IntKind.wrap .i64 (p5 + 1))
      else none
    else none := by
  rewrite [h_spec_l5Count_3, h_spec_l5Count_6]
  kernel_rfl
abbrev As_spec_l5Few : List ATy := [.data false (.int .i64), .data false (.int .i64), .data false (.int .i64)]
abbrev R_spec_l5Few : List (Bool × Ty) := [(false, .bool)]
abbrev M_spec_l5Few : List RMode := []
abbrev Ft_spec_l5Few : Type := Int × Int × Int × Unit → Option (Bool × Unit)
noncomputable def X_spec_l5Few : Ctx := { types := TT, globals := [], con := [(159, C_spec_l2Sides), (176, C_spec_l5Count)], keep := [], results := [.tmp 6], ntmps := 18, n := N }
noncomputable def B_spec_l5Few : Code := (Tryz.f96.body).getD .skip
noncomputable def P_spec_l5Few : Ft_spec_l5Few := hid (runF X_spec_l5Few B_spec_l5Few As_spec_l5Few R_spec_l5Few M_spec_l5Few)
theorem h_spec_l5Few : P_spec_l5Few = runF X_spec_l5Few B_spec_l5Few As_spec_l5Few R_spec_l5Few M_spec_l5Few := hid_eq _
noncomputable def C_spec_l5Few : Contract := ⟨As_spec_l5Few, R_spec_l5Few, M_spec_l5Few, P_spec_l5Few⟩
theorem s_spec_l5Few : Sound Tryz.prog GG 96 C_spec_l5Few := by
  unfold C_spec_l5Few; rw [h_spec_l5Few]
  exact mkS Tryz.f96 ⟨s_spec_l2Sides, s_spec_l5Count, trivial⟩ trivial
theorem p_spec_l5Few (a0 : Int) (a1 : Int) (a2 : Int) : P_spec_l5Few (a0, a1, a2, ()) =
  Option.bind (P_spec_l2Sides (a0, a1, a2, ())) fun r0 =>
  bif r0.1 then
    Option.bind (P_spec_l5Count (a0, a1, a2, ())) fun r2 =>
    some (decide (r2.1 ≤ 1000), ())
  else
    some (false, ()) := by
  rewrite [h_spec_l5Few]
  kernel_rfl
abbrev As_spec_l1Own : List ATy := [.data false (.sl (.int .i64))]
abbrev R_spec_l1Own : List (Bool × Ty) := [(false, (.sl (.int .i64)))]
abbrev M_spec_l1Own : List RMode := [.own 3]
abbrev Ft_spec_l1Own : Type := (List Int) × Unit → Option ((List Int) × Unit)
noncomputable def X_spec_l1Own : Ctx := { types := TT, globals := [], con := [], keep := [], results := [.tmp 2], ntmps := 6, n := N }
noncomputable def B_spec_l1Own : Code := (Tryz.f121.body).getD .skip
noncomputable def P_spec_l1Own : Ft_spec_l1Own := hid (runF X_spec_l1Own B_spec_l1Own As_spec_l1Own R_spec_l1Own M_spec_l1Own)
theorem h_spec_l1Own : P_spec_l1Own = runF X_spec_l1Own B_spec_l1Own As_spec_l1Own R_spec_l1Own M_spec_l1Own := hid_eq _
noncomputable def C_spec_l1Own : Contract := ⟨As_spec_l1Own, R_spec_l1Own, M_spec_l1Own, P_spec_l1Own⟩
theorem s_spec_l1Own : Sound Tryz.prog GG 121 C_spec_l1Own := by
  unfold C_spec_l1Own; rw [h_spec_l1Own]
  exact mkS Tryz.f121 trivial trivial
theorem p_spec_l1Own (a0 : List Int) : P_spec_l1Own (a0, ()) =
  bif (decide (((List.length ([] : List Int)) + (List.length a0)) * 8 ≤ 140737488355328) && decide (((List.length ([] : List Int)) + (List.length a0)) ≤ 140737488355328)) then
    some ((([] : List Int) ++ a0), ())
  else none := by
  rewrite [h_spec_l1Own]
  kernel_rfl
abbrev As_spec_l1Least : List ATy := [.data false (.int .i64), .data false (.int .i64)]
abbrev R_spec_l1Least : List (Bool × Ty) := [(false, (.int .i64))]
abbrev M_spec_l1Least : List RMode := []
abbrev Ft_spec_l1Least : Type := Int × Int × Unit → Option (Int × Unit)
noncomputable def X_spec_l1Least : Ctx := { types := TT, globals := [], con := [], keep := [], results := [.tmp 4], ntmps := 10, n := N }
noncomputable def B_spec_l1Least : Code := (Tryz.f177.body).getD .skip
noncomputable def P_spec_l1Least : Ft_spec_l1Least := hid (runF X_spec_l1Least B_spec_l1Least As_spec_l1Least R_spec_l1Least M_spec_l1Least)
theorem h_spec_l1Least : P_spec_l1Least = runF X_spec_l1Least B_spec_l1Least As_spec_l1Least R_spec_l1Least M_spec_l1Least := hid_eq _
noncomputable def C_spec_l1Least : Contract := ⟨As_spec_l1Least, R_spec_l1Least, M_spec_l1Least, P_spec_l1Least⟩
theorem s_spec_l1Least : Sound Tryz.prog GG 177 C_spec_l1Least := by
  unfold C_spec_l1Least; rw [h_spec_l1Least]
  exact mkS Tryz.f177 trivial trivial
theorem p_spec_l1Least (a0 : Int) (a1 : Int) : P_spec_l1Least (a0, a1, ()) =
  bif decide (a0 < a1) then
    some (a0, ())
  else
    some (a1, ()) := by
  rewrite [h_spec_l1Least]
  kernel_rfl
abbrev As_spec_l5All : List ATy := [.data false (.int .i64), .data false (.int .i64), .data false (.int .i64), .data false (.sl (.int .i64))]
abbrev R_spec_l5All : List (Bool × Ty) := [(false, (.sl (.sl (.int .i64))))]
abbrev M_spec_l5All : List RMode := [.own 30]
abbrev Ft_spec_l5All : Type := Int × Int × Int × (List Int) × Unit → Option ((List (List Int)) × Unit)
noncomputable def X_spec_l5All (F_spec_l5All : Ft_spec_l5All) : Ctx := { types := TT, globals := [], con := [(97, ⟨As_spec_l5All, R_spec_l5All, M_spec_l5All, F_spec_l5All⟩), (121, C_spec_l1Own), (177, C_spec_l1Least)], keep := [(11, ⟨[.tmp 0, .tmp 1, .tmp 2, .tmp 3, .tmp 10, .tmp 11, .tmp 12], []⟩)], results := [.tmp 8], ntmps := 63, n := N }
noncomputable def B_spec_l5All : Code := (Tryz.f97.body).getD .skip
noncomputable def L_spec_l5All_11 (F_spec_l5All : Ft_spec_l5All) (m0 : Nat) (p0 p1 p2 : Int) (p3 : List Int) (p4 : Int) (p5 : List (List Int)) (p6 : Int) : Option (denL R_spec_l5All) := loopF (X_spec_l5All F_spec_l5All) B_spec_l5All R_spec_l5All M_spec_l5All 11 [m0] [(.ver, .num 1), (.tmp 0, .val false [.int .i64 p0]), (.tmp 1, .val false [.int .i64 p1]), (.tmp 2, .val false [.int .i64 p2]), (.tmp 3, .val false [.imm (.int .i64) p3 (some 3)]), (.tmp 10, .val false [.int .i64 p4]), (.tmp 11, .val false [.own 30 (.sl (.int .i64)) 0 p5]), (.tmp 12, .val false [.int .i64 p6])]
noncomputable def Pk_spec_l5All : Nat → Ft_spec_l5All
  | 0 => fun _ => none
  | k + 1 => runF (X_spec_l5All (Pk_spec_l5All k)) B_spec_l5All As_spec_l5All R_spec_l5All M_spec_l5All
theorem sk_spec_l5All : ∀ k, Sound Tryz.prog GG 97 ⟨As_spec_l5All, R_spec_l5All, M_spec_l5All, Pk_spec_l5All k⟩
  | 0 => sound_none
  | k + 1 => by
    have ih := sk_spec_l5All k
    exact mkS Tryz.f97 ⟨ih, s_spec_l1Own, s_spec_l1Least, trivial⟩ trivial
noncomputable def P_spec_l5All : Ft_spec_l5All := Pk_spec_l5All N
noncomputable def C_spec_l5All : Contract := ⟨As_spec_l5All, R_spec_l5All, M_spec_l5All, P_spec_l5All⟩
theorem s_spec_l5All : Sound Tryz.prog GG 97 C_spec_l5All := sk_spec_l5All N
noncomputable def l_spec_l5All_11 := hid (fun k => L_spec_l5All_11 (Pk_spec_l5All k))
theorem h_spec_l5All_11 : l_spec_l5All_11 = fun k => L_spec_l5All_11 (Pk_spec_l5All k) := hid_eq _
theorem p_spec_l5All (k : Nat) (a0 : Int) (a1 : Int) (a2 : Int) (a3 : List Int) : Pk_spec_l5All (k + 1) (a0, a1, a2, a3, ()) =
  bif decide ((List.length a3 : Int) = (IntKind.wrap .i64 (a0 * a1))) then
    some (([a3] : List (List Int)), ())
  else
    bif decide ((List.length a3 : Int) ≥ a1) then
      bif inB (IntKind.wrap .i64 ((List.length a3 : Int) - a1)) (List.length a3) then
        Option.bind (P_spec_l1Least (a2, (nth ((.int .i64) : Ty) a3 (IntKind.wrap .i64 ((List.length a3 : Int) - a1))), ())) fun r3 =>
        bif !decide (a1 = 0) then
          bif decide ((Int.tmod (List.length a3 : Int) a1) > 0) then
            bif inB (IntKind.wrap .i64 ((List.length a3 : Int) - 1)) (List.length a3) then
              Option.bind (P_spec_l1Least (r3.1, (nth ((.int .i64) : Ty) a3 (IntKind.wrap .i64 ((List.length a3 : Int) - 1))), ())) fun r7 =>
              l_spec_l5All_11 k N a0 a1 a2 a3 r7.1 ([] : List (List Int)) 0
            else none
          else
            l_spec_l5All_11 k N a0 a1 a2 a3 r3.1 ([] : List (List Int)) 0
        else none
      else none
    else
      bif !decide (a1 = 0) then
        bif decide ((Int.tmod (List.length a3 : Int) a1) > 0) then
          bif inB (IntKind.wrap .i64 ((List.length a3 : Int) - 1)) (List.length a3) then
            Option.bind (P_spec_l1Least (a2, (nth ((.int .i64) : Ty) a3 (IntKind.wrap .i64 ((List.length a3 : Int) - 1))), ())) fun r5 =>
            l_spec_l5All_11 k N a0 a1 a2 a3 r5.1 ([] : List (List Int)) 0
          else none
        else
          l_spec_l5All_11 k N a0 a1 a2 a3 a2 ([] : List (List Int)) 0
      else none := by
  rewrite [h_spec_l5All_11]
  kernel_rfl
theorem q_spec_l5All_11 (k : Nat) (m0 : Nat) (p0 p1 p2 : Int) (p3 : List Int) (p4 : Int) (p5 : List (List Int)) (p6 : Int) : l_spec_l5All_11 k (m0 + 1) p0 p1 p2 p3 p4 p5 p6 =
  bif decide (p6 ≤ p4) then
    Option.bind (P_spec_l1Own (p3, ())) fun r1 =>
    bif (decide (((List.length r1.1) + (List.length ([p6] : List Int))) * 8 ≤ 140737488355328) && decide (((List.length r1.1) + (List.length ([p6] : List Int))) ≤ 140737488355328)) then
      Option.bind (Pk_spec_l5All k (p0, p1, p2, (r1.1 ++ ([p6] : List Int)), ())) fun r3 =>
      bif (decide (((List.length p5) + (List.length r3.1)) * 24 ≤ 140737488355328) && decide (((List.length p5) + (List.length r3.1)) ≤ 140737488355328)) then
        l_spec_l5All_11 k m0 p0 p1 p2 p3 p4 (p5 ++ r3.1) (IntKind.wrap .i64 (p6 + 1))
      else none
    else none
  else
    some (p5, ()) := by
  rewrite [h_spec_l5All_11]
  kernel_rfl
abbrev As_spec_l1Same : List ATy := [.data false (.sl (.int .i64)), .data false (.sl (.int .i64))]
abbrev R_spec_l1Same : List (Bool × Ty) := [(false, .bool)]
abbrev M_spec_l1Same : List RMode := []
abbrev Ft_spec_l1Same : Type := (List Int) × (List Int) × Unit → Option (Bool × Unit)
noncomputable def X_spec_l1Same : Ctx := { types := TT, globals := [], con := [], keep := [(4, ⟨[.tmp 0, .tmp 1, .tmp 5], []⟩)], results := [.tmp 4], ntmps := 26, n := N }
noncomputable def B_spec_l1Same : Code := (Tryz.f98.body).getD .skip
noncomputable def L_spec_l1Same_4 (m0 : Nat) (p0 p1 : List Int) (p2 : Int) : Option (denL R_spec_l1Same) := loopF X_spec_l1Same B_spec_l1Same R_spec_l1Same M_spec_l1Same 4 [m0] [(.ver, .num 1), (.tmp 0, .val false [.imm (.int .i64) p0 (some 0)]), (.tmp 1, .val false [.imm (.int .i64) p1 (some 1)]), (.tmp 5, .val false [.int .i64 p2])]
noncomputable def P_spec_l1Same : Ft_spec_l1Same := hid (runF X_spec_l1Same B_spec_l1Same As_spec_l1Same R_spec_l1Same M_spec_l1Same)
theorem h_spec_l1Same : P_spec_l1Same = runF X_spec_l1Same B_spec_l1Same As_spec_l1Same R_spec_l1Same M_spec_l1Same := hid_eq _
noncomputable def C_spec_l1Same : Contract := ⟨As_spec_l1Same, R_spec_l1Same, M_spec_l1Same, P_spec_l1Same⟩
theorem s_spec_l1Same : Sound Tryz.prog GG 98 C_spec_l1Same := by
  unfold C_spec_l1Same; rw [h_spec_l1Same]
  exact mkS Tryz.f98 trivial trivial
noncomputable def l_spec_l1Same_4 := hid (L_spec_l1Same_4)
theorem h_spec_l1Same_4 : l_spec_l1Same_4 = L_spec_l1Same_4 := hid_eq _
theorem p_spec_l1Same (a0 : List Int) (a1 : List Int) : P_spec_l1Same (a0, a1, ()) =
  bif !decide ((List.length a0 : Int) = (List.length a1 : Int)) then
    some (false, ())
  else
    l_spec_l1Same_4 N a0 a1 0 := by
  rewrite [h_spec_l1Same, h_spec_l1Same_4]
  kernel_rfl
theorem q_spec_l1Same_4 (m0 : Nat) (p0 p1 : List Int) (p2 : Int) : l_spec_l1Same_4 (m0 + 1) p0 p1 p2 =
  bif decide (p2 < (List.length p0 : Int)) then
    bif inB p2 (List.length p0) then
      bif inB p2 (List.length p1) then
        bif !decide ((nth ((.int .i64) : Ty) p0 p2) = (nth ((.int .i64) : Ty) p1 p2)) then
          some (false, ())
        else
          l_spec_l1Same_4 m0 p0 p1 (IntKind.wrap .i64 (p2 + 1))
      else none
    else none
  else
    some (true, ()) := by
  rewrite [h_spec_l1Same_4]
  kernel_rfl
abbrev As_spec_RankStair : List ATy := [.data true T_Heap]
abbrev R_spec_RankStair : List (Bool × Ty) := [(false, (.int .i64)), (false, .bool)]
abbrev M_spec_RankStair : List RMode := []
abbrev Ft_spec_RankStair : Type := D_Heap × Unit → Option (Int × Bool × Unit)
noncomputable def X_spec_RankStair : Ctx := { types := TT, globals := [], con := [(72, C_spec_l5Good), (73, C_spec_l2Heights), (96, C_spec_l5Few), (97, C_spec_l5All), (98, C_spec_l1Same)], keep := [(5, ⟨[.tmp 4, .tmp 5, .tmp 6], []⟩)], results := [.tmp 2, .tmp 3], ntmps := 40, n := N }
noncomputable def B_spec_RankStair : Code := (Tryz.f21.body).getD .skip
noncomputable def L_spec_RankStair_5 (m0 : Nat) (p0 : List (List Int)) (p1 : List Int) (p2 : Int) : Option (denL R_spec_RankStair) := loopF X_spec_RankStair B_spec_RankStair R_spec_RankStair M_spec_RankStair 5 [m0] [(.ver, .num 1), (.tmp 4, .val false [.own 30 (.sl (.int .i64)) 0 p0]), (.tmp 5, .val false [.own 3 (.int .i64) 0 p1]), (.tmp 6, .val false [.int .i64 p2])]
noncomputable def P_spec_RankStair : Ft_spec_RankStair := hid (runF X_spec_RankStair B_spec_RankStair As_spec_RankStair R_spec_RankStair M_spec_RankStair)
theorem h_spec_RankStair : P_spec_RankStair = runF X_spec_RankStair B_spec_RankStair As_spec_RankStair R_spec_RankStair M_spec_RankStair := hid_eq _
noncomputable def C_spec_RankStair : Contract := ⟨As_spec_RankStair, R_spec_RankStair, M_spec_RankStair, P_spec_RankStair⟩
theorem s_spec_RankStair : Sound Tryz.prog GG 21 C_spec_RankStair := by
  unfold C_spec_RankStair; rw [h_spec_RankStair]
  exact mkS Tryz.f21 ⟨s_spec_l5Good, s_spec_l2Heights, s_spec_l5Few, s_spec_l5All, s_spec_l1Same, trivial⟩ trivial
noncomputable def l_spec_RankStair_5 := hid (L_spec_RankStair_5)
theorem h_spec_RankStair_5 : l_spec_RankStair_5 = L_spec_RankStair_5 := hid_eq _
theorem p_spec_RankStair (a0 : D_Heap) : P_spec_RankStair (a0, ()) =
  Option.bind (P_spec_l5Good (a0, ())) fun r0 =>
  bif !r0.1 then
    some (0, false, ())
  else
    Option.bind (P_spec_l5Few (a0.1, a0.2.1, a0.2.2.1, ())) fun r2 =>
    bif !r2.1 then
      some (0, false, ())
    else
      Option.bind (P_spec_l5All (a0.1, a0.2.1, a0.2.2.1, ([] : List Int), ())) fun r4 =>
      Option.bind (P_spec_l2Heights (a0, ())) fun r5 =>
      l_spec_RankStair_5 N r4.1 r5.1 0 := by
  rewrite [h_spec_RankStair, h_spec_RankStair_5]
  kernel_rfl
theorem q_spec_RankStair_5 (m0 : Nat) (p0 : List (List Int)) (p1 : List Int) (p2 : Int) : l_spec_RankStair_5 (m0 + 1) p0 p1 p2 =
  bif inB p2 (List.length p0) then
    Option.bind (P_spec_l1Same ((nth ((.sl (.int .i64)) : Ty) p0 p2), p1, ())) fun r1 =>
    bif !r1.1 then
      l_spec_RankStair_5 m0 p0 p1 (IntKind.wrap .i64 (p2 + 1))
    else
      some (p2, true, ())
  else none := by
  rewrite [h_spec_RankStair_5]
  kernel_rfl
abbrev As_laws_vInts : List ATy := [.data false (.sl (.int .i64)), .data false (.sl (.int .i64))]
abbrev R_laws_vInts : List (Bool × Ty) := [(false, .bool)]
abbrev M_laws_vInts : List RMode := []
abbrev Ft_laws_vInts : Type := (List Int) × (List Int) × Unit → Option (Bool × Unit)
noncomputable def X_laws_vInts : Ctx := { types := TT, globals := [], con := [], keep := [(4, ⟨[.tmp 0, .tmp 1, .tmp 5], []⟩)], results := [.tmp 4], ntmps := 26, n := N }
noncomputable def B_laws_vInts : Code := (Tryz.f22.body).getD .skip
noncomputable def L_laws_vInts_4 (m0 : Nat) (p0 p1 : List Int) (p2 : Int) : Option (denL R_laws_vInts) := loopF X_laws_vInts B_laws_vInts R_laws_vInts M_laws_vInts 4 [m0] [(.ver, .num 1), (.tmp 0, .val false [.imm (.int .i64) p0 (some 0)]), (.tmp 1, .val false [.imm (.int .i64) p1 (some 1)]), (.tmp 5, .val false [.int .i64 p2])]
noncomputable def P_laws_vInts : Ft_laws_vInts := hid (runF X_laws_vInts B_laws_vInts As_laws_vInts R_laws_vInts M_laws_vInts)
theorem h_laws_vInts : P_laws_vInts = runF X_laws_vInts B_laws_vInts As_laws_vInts R_laws_vInts M_laws_vInts := hid_eq _
noncomputable def C_laws_vInts : Contract := ⟨As_laws_vInts, R_laws_vInts, M_laws_vInts, P_laws_vInts⟩
theorem s_laws_vInts : Sound Tryz.prog GG 22 C_laws_vInts := by
  unfold C_laws_vInts; rw [h_laws_vInts]
  exact mkS Tryz.f22 trivial trivial
noncomputable def l_laws_vInts_4 := hid (L_laws_vInts_4)
theorem h_laws_vInts_4 : l_laws_vInts_4 = L_laws_vInts_4 := hid_eq _
theorem p_laws_vInts (a0 : List Int) (a1 : List Int) : P_laws_vInts (a0, a1, ()) =
  bif !decide ((List.length a0 : Int) = (List.length a1 : Int)) then
    some (false, ())
  else
    l_laws_vInts_4 N a0 a1 0 := by
  rewrite [h_laws_vInts, h_laws_vInts_4]
  kernel_rfl
theorem q_laws_vInts_4 (m0 : Nat) (p0 p1 : List Int) (p2 : Int) : l_laws_vInts_4 (m0 + 1) p0 p1 p2 =
  bif decide (p2 < (List.length p0 : Int)) then
    bif inB p2 (List.length p0) then
      bif inB p2 (List.length p1) then
        bif !decide ((nth ((.int .i64) : Ty) p0 p2) = (nth ((.int .i64) : Ty) p1 p2)) then
          some (false, ())
        else
          l_laws_vInts_4 m0 p0 p1 (IntKind.wrap .i64 (p2 + 1))
      else none
    else none
  else
    some (true, ()) := by
  rewrite [h_laws_vInts_4]
  kernel_rfl
abbrev As_laws_vCells : List ATy := [.data false (.sl T_A3), .data false (.sl T_A3)]
abbrev R_laws_vCells : List (Bool × Ty) := [(false, .bool)]
abbrev M_laws_vCells : List RMode := []
abbrev Ft_laws_vCells : Type := (List D_A3) × (List D_A3) × Unit → Option (Bool × Unit)
noncomputable def X_laws_vCells : Ctx := { types := TT, globals := [], con := [], keep := [(4, ⟨[.tmp 0, .tmp 1, .tmp 5], []⟩)], results := [.tmp 4], ntmps := 26, n := N }
noncomputable def B_laws_vCells : Code := (Tryz.f23.body).getD .skip
noncomputable def L_laws_vCells_4 (m0 : Nat) (p0 p1 : List D_A3) (p2 : Int) : Option (denL R_laws_vCells) := loopF X_laws_vCells B_laws_vCells R_laws_vCells M_laws_vCells 4 [m0] [(.ver, .num 1), (.tmp 0, .val false [.imm T_A3 p0 (some 0)]), (.tmp 1, .val false [.imm T_A3 p1 (some 1)]), (.tmp 5, .val false [.int .i64 p2])]
noncomputable def P_laws_vCells : Ft_laws_vCells := hid (runF X_laws_vCells B_laws_vCells As_laws_vCells R_laws_vCells M_laws_vCells)
theorem h_laws_vCells : P_laws_vCells = runF X_laws_vCells B_laws_vCells As_laws_vCells R_laws_vCells M_laws_vCells := hid_eq _
noncomputable def C_laws_vCells : Contract := ⟨As_laws_vCells, R_laws_vCells, M_laws_vCells, P_laws_vCells⟩
theorem s_laws_vCells : Sound Tryz.prog GG 23 C_laws_vCells := by
  unfold C_laws_vCells; rw [h_laws_vCells]
  exact mkS Tryz.f23 trivial trivial
noncomputable def l_laws_vCells_4 := hid (L_laws_vCells_4)
theorem h_laws_vCells_4 : l_laws_vCells_4 = L_laws_vCells_4 := hid_eq _
theorem p_laws_vCells (a0 : List D_A3) (a1 : List D_A3) : P_laws_vCells (a0, a1, ()) =
  bif !decide ((List.length a0 : Int) = (List.length a1 : Int)) then
    some (false, ())
  else
    l_laws_vCells_4 N a0 a1 0 := by
  rewrite [h_laws_vCells, h_laws_vCells_4]
  kernel_rfl
theorem q_laws_vCells_4 (m0 : Nat) (p0 p1 : List D_A3) (p2 : Int) : l_laws_vCells_4 (m0 + 1) p0 p1 p2 =
  bif decide (p2 < (List.length p0 : Int)) then
    bif inB p2 (List.length p0) then
      bif inB p2 (List.length p1) then
        bif !(decide (((nth T_A3 p0 p2)).1 = ((nth T_A3 p1 p2)).1) && (decide ((((nth T_A3 p0 p2)).2).1 = (((nth T_A3 p1 p2)).2).1) && (decide (((((nth T_A3 p0 p2)).2).2).1 = ((((nth T_A3 p1 p2)).2).2).1) && true))) then
          some (false, ())
        else
          l_laws_vCells_4 m0 p0 p1 (IntKind.wrap .i64 (p2 + 1))
      else none
    else none
  else
    some (true, ()) := by
  rewrite [h_laws_vCells_4]
  kernel_rfl
abbrev As_laws_vHeap : List ATy := [.data true T_Heap, .data true T_Heap]
abbrev R_laws_vHeap : List (Bool × Ty) := [(false, .bool)]
abbrev M_laws_vHeap : List RMode := []
abbrev Ft_laws_vHeap : Type := D_Heap × D_Heap × Unit → Option (Bool × Unit)
noncomputable def X_laws_vHeap : Ctx := { types := TT, globals := [], con := [(23, C_laws_vCells)], keep := [], results := [.tmp 4], ntmps := 31, n := N }
noncomputable def B_laws_vHeap : Code := (Tryz.f24.body).getD .skip
noncomputable def P_laws_vHeap : Ft_laws_vHeap := hid (runF X_laws_vHeap B_laws_vHeap As_laws_vHeap R_laws_vHeap M_laws_vHeap)
theorem h_laws_vHeap : P_laws_vHeap = runF X_laws_vHeap B_laws_vHeap As_laws_vHeap R_laws_vHeap M_laws_vHeap := hid_eq _
noncomputable def C_laws_vHeap : Contract := ⟨As_laws_vHeap, R_laws_vHeap, M_laws_vHeap, P_laws_vHeap⟩
theorem s_laws_vHeap : Sound Tryz.prog GG 24 C_laws_vHeap := by
  unfold C_laws_vHeap; rw [h_laws_vHeap]
  exact mkS Tryz.f24 ⟨s_laws_vCells, trivial⟩ trivial
theorem p_laws_vHeap (a0 : D_Heap) (a1 : D_Heap) : P_laws_vHeap (a0, a1, ()) =
  bif decide (a0.1 = a1.1) then
    bif decide (a0.2.1 = a1.2.1) then
      bif decide (a0.2.2.1 = a1.2.2.1) then
        Option.bind (P_laws_vCells (a0.2.2.2.1, a1.2.2.2.1, ())) fun r3 =>
        some (r3.1, ())
      else
        some (false, ())
    else
      some (false, ())
  else
    some (false, ()) := by
  rewrite [h_laws_vHeap]
  kernel_rfl
abbrev As_box_stack_1 : List ATy := [.data true T_A3, .ptr (.sl (.int .i64)), .ptr T_A3]
abbrev R_box_stack_1 : List (Bool × Ty) := [(false, .bool)]
abbrev M_box_stack_1 : List RMode := []
abbrev Ft_box_stack_1 : Type := D_A3 × (List Int) × D_A3 × Unit → Option (Bool × Unit)
noncomputable def X_box_stack_1 : Ctx := { types := TT, globals := [], con := [(164, C_box_line)], keep := [], results := [.tmp 4], ntmps := 14, n := N }
noncomputable def B_box_stack_1 : Code := (Tryz.f178.body).getD .skip
noncomputable def P_box_stack_1 : Ft_box_stack_1 := hid (runF X_box_stack_1 B_box_stack_1 As_box_stack_1 R_box_stack_1 M_box_stack_1)
theorem h_box_stack_1 : P_box_stack_1 = runF X_box_stack_1 B_box_stack_1 As_box_stack_1 R_box_stack_1 M_box_stack_1 := hid_eq _
noncomputable def C_box_stack_1 : Contract := ⟨As_box_stack_1, R_box_stack_1, M_box_stack_1, P_box_stack_1⟩
theorem s_box_stack_1 : Sound Tryz.prog GG 178 C_box_stack_1 := by
  unfold C_box_stack_1; rw [h_box_stack_1]
  exact mkS Tryz.f178 ⟨s_box_line, trivial⟩ trivial
theorem p_box_stack_1 (a0 : D_A3) (a1 : List Int) (a2 : D_A3) : P_box_stack_1 (a0, a1, a2, ()) =
  Option.bind (P_box_line (a2, a0, 2, ())) fun r0 =>
  bif inB r0.1 (List.length a1) then
    some (decide (a0.2.2.1 < (nth ((.int .i64) : Ty) a1 r0.1)), ())
  else none := by
  rewrite [h_box_stack_1]
  kernel_rfl
abbrev As_box_stack : List ATy := [.data true T_A3, .data false (.sl (.int .i64))]
abbrev R_box_stack : List (Bool × Ty) := [(false, (.int .u64))]
abbrev M_box_stack : List RMode := []
abbrev Ft_box_stack : Type := D_A3 × (List Int) × Unit → Option (Int × Unit)
noncomputable def X_box_stack : Ctx := { types := TT, globals := [], con := [(79, C_box_those), (178, C_box_stack_1)], keep := [], results := [.tmp 4], ntmps := 8, n := N }
noncomputable def B_box_stack : Code := (Tryz.f100.body).getD .skip
noncomputable def P_box_stack : Ft_box_stack := hid (runF X_box_stack B_box_stack As_box_stack R_box_stack M_box_stack)
theorem h_box_stack : P_box_stack = runF X_box_stack B_box_stack As_box_stack R_box_stack M_box_stack := hid_eq _
noncomputable def C_box_stack : Contract := ⟨As_box_stack, R_box_stack, M_box_stack, P_box_stack⟩
theorem s_box_stack : Sound Tryz.prog GG 100 C_box_stack := by
  unfold C_box_stack; rw [h_box_stack]
  exact mkS Tryz.f100 ⟨s_box_those, s_box_stack_1, trivial⟩ trivial
theorem p_box_stack (a0 : D_A3) (a1 : List Int) : P_box_stack (a0, a1, ()) =
  Option.bind (P_box_those (a0, (fun (y : D_A3 × Unit) => P_box_stack_1 (y.1, a1, a0, ())), ())) fun r0 =>
  some (r0.1, ()) := by
  rewrite [h_box_stack]
  kernel_rfl
abbrev As_impl_StairAt : List ATy := [.data false (.int .i64), .data false (.int .i64), .data false (.int .i64), .data false (.int .i64)]
abbrev R_impl_StairAt : List (Bool × Ty) := [(true, T_Heap), (false, .bool)]
abbrev M_impl_StairAt : List RMode := [.own 45]
abbrev Ft_impl_StairAt : Type := Int × Int × Int × Int × Unit → Option (D_Heap × Bool × Unit)
noncomputable def X_impl_StairAt : Ctx := { types := TT, globals := [], con := [(86, C_box_heap), (92, C_box_stairs), (99, C_impl_within), (100, C_box_stack)], keep := [], results := [.cell 8 26, .tmp 9], ntmps := 41, n := N }
noncomputable def B_impl_StairAt : Code := (Tryz.f25.body).getD .skip
noncomputable def P_impl_StairAt : Ft_impl_StairAt := hid (runF X_impl_StairAt B_impl_StairAt As_impl_StairAt R_impl_StairAt M_impl_StairAt)
theorem h_impl_StairAt : P_impl_StairAt = runF X_impl_StairAt B_impl_StairAt As_impl_StairAt R_impl_StairAt M_impl_StairAt := hid_eq _
noncomputable def C_impl_StairAt : Contract := ⟨As_impl_StairAt, R_impl_StairAt, M_impl_StairAt, P_impl_StairAt⟩
theorem s_impl_StairAt : Sound Tryz.prog GG 25 C_impl_StairAt := by
  unfold C_impl_StairAt; rw [h_impl_StairAt]
  exact mkS Tryz.f25 ⟨s_box_heap, s_box_stairs, s_impl_within, s_box_stack, trivial⟩ trivial
theorem p_impl_StairAt (a0 : Int) (a1 : Int) (a2 : Int) (a3 : Int) : P_impl_StairAt (a0, a1, a2, a3, ()) =
  Option.bind (P_box_stairs ((a0, (a1, (a2, ()))), ())) fun r0 =>
  bif !r0.2.1 then
    some ((0, (0, (0, (([] : List D_A3), ())))), false, ())
  else
    Option.bind (P_impl_within (a3, 0, (IntKind.wrap .i64 ((List.length r0.1 : Int) - 1)), ())) fun r2 =>
    bif !r2.1 then
      some ((0, (0, (0, (([] : List D_A3), ())))), false, ())
    else
      bif inB a3 (List.length r0.1) then
        Option.bind (P_box_stack ((a0, (a1, (a2, ()))), (nth ((.sl (.int .i64)) : Ty) r0.1 a3), ())) fun r5 =>
        Option.bind (P_box_heap ((a0, (a1, (a2, ()))), r5.1, ())) fun r6 =>
        some (r6.1, true, ())
      else none := by
  rewrite [h_impl_StairAt]
  kernel_rfl
abbrev As_impl_allWithin : List ATy := [.data false (.sl (.int .i64)), .data false (.int .i64), .data false (.int .i64)]
abbrev R_impl_allWithin : List (Bool × Ty) := [(false, .bool)]
abbrev M_impl_allWithin : List RMode := []
abbrev Ft_impl_allWithin : Type := (List Int) × Int × Int × Unit → Option (Bool × Unit)
noncomputable def X_impl_allWithin : Ctx := { types := TT, globals := [], con := [(99, C_impl_within)], keep := [(2, ⟨[.tmp 1, .tmp 2, .tmp 9, .tmp 10, .tmp 11], []⟩)], results := [.tmp 6], ntmps := 21, n := N }
noncomputable def B_impl_allWithin : Code := (Tryz.f102.body).getD .skip
noncomputable def L_impl_allWithin_2 (m0 : Nat) (p0 p1 : Int) (p2 : List Int) (p3 p4 : Int) : Option (denL R_impl_allWithin) := loopF X_impl_allWithin B_impl_allWithin R_impl_allWithin M_impl_allWithin 2 [m0] [(.ver, .num 1), (.tmp 1, .val false [.int .i64 p0]), (.tmp 2, .val false [.int .i64 p1]), (.tmp 9, .val false [.imm (.int .i64) p2 (some 0)]), (.tmp 10, .val false [.int .i64 p3]), (.tmp 11, .val false [.int .i64 p4])]
noncomputable def P_impl_allWithin : Ft_impl_allWithin := hid (runF X_impl_allWithin B_impl_allWithin As_impl_allWithin R_impl_allWithin M_impl_allWithin)
theorem h_impl_allWithin : P_impl_allWithin = runF X_impl_allWithin B_impl_allWithin As_impl_allWithin R_impl_allWithin M_impl_allWithin := hid_eq _
noncomputable def C_impl_allWithin : Contract := ⟨As_impl_allWithin, R_impl_allWithin, M_impl_allWithin, P_impl_allWithin⟩
theorem s_impl_allWithin : Sound Tryz.prog GG 102 C_impl_allWithin := by
  unfold C_impl_allWithin; rw [h_impl_allWithin]
  exact mkS Tryz.f102 ⟨s_impl_within, trivial⟩ trivial
noncomputable def l_impl_allWithin_2 := hid (L_impl_allWithin_2)
theorem h_impl_allWithin_2 : l_impl_allWithin_2 = L_impl_allWithin_2 := hid_eq _
theorem p_impl_allWithin (a0 : List Int) (a1 : Int) (a2 : Int) : P_impl_allWithin (a0, a1, a2, ()) =
  l_impl_allWithin_2 N a1 a2 a0 (List.length a0 : Int) 0 := by
  rewrite [h_impl_allWithin, h_impl_allWithin_2]
  kernel_rfl
theorem q_impl_allWithin_2 (m0 : Nat) (p0 p1 : Int) (p2 : List Int) (p3 p4 : Int) : l_impl_allWithin_2 (m0 + 1) p0 p1 p2 p3 p4 =
  bif decide (p4 < p3) then
    bif inB p4 (List.length p2) then
      Option.bind (P_impl_within ((nth ((.int .i64) : Ty) p2 p4), p0, p1, ())) fun r2 =>
      bif !r2.1 then
        some (false, ())
      else
        l_impl_allWithin_2 m0 p0 p1 p2 p3 (IntKind.wrap .i64 (p4 + 1))
    else none
  else
    some (true, ()) := by
  rewrite [h_impl_allWithin_2]
  kernel_rfl
abbrev As_impl_StackHeap : List ATy := [.data false (.int .i64), .data false (.int .i64), .data false (.int .i64), .data false (.sl (.int .i64))]
abbrev R_impl_StackHeap : List (Bool × Ty) := [(true, T_Heap), (false, .bool)]
abbrev M_impl_StackHeap : List RMode := [.own 45]
abbrev Ft_impl_StackHeap : Type := Int × Int × Int × (List Int) × Unit → Option (D_Heap × Bool × Unit)
noncomputable def X_impl_StackHeap : Ctx := { types := TT, globals := [], con := [(86, C_box_heap), (100, C_box_stack), (101, C_box_valid), (102, C_impl_allWithin)], keep := [], results := [.cell 8 26, .tmp 9], ntmps := 38, n := N }
noncomputable def B_impl_StackHeap : Code := (Tryz.f26.body).getD .skip
noncomputable def P_impl_StackHeap : Ft_impl_StackHeap := hid (runF X_impl_StackHeap B_impl_StackHeap As_impl_StackHeap R_impl_StackHeap M_impl_StackHeap)
theorem h_impl_StackHeap : P_impl_StackHeap = runF X_impl_StackHeap B_impl_StackHeap As_impl_StackHeap R_impl_StackHeap M_impl_StackHeap := hid_eq _
noncomputable def C_impl_StackHeap : Contract := ⟨As_impl_StackHeap, R_impl_StackHeap, M_impl_StackHeap, P_impl_StackHeap⟩
theorem s_impl_StackHeap : Sound Tryz.prog GG 26 C_impl_StackHeap := by
  unfold C_impl_StackHeap; rw [h_impl_StackHeap]
  exact mkS Tryz.f26 ⟨s_box_heap, s_box_stack, s_box_valid, s_impl_allWithin, trivial⟩ trivial
theorem p_impl_StackHeap (a0 : Int) (a1 : Int) (a2 : Int) (a3 : List Int) : P_impl_StackHeap (a0, a1, a2, a3, ()) =
  Option.bind (P_box_valid ((a0, (a1, (a2, ()))), ())) fun r0 =>
  bif !r0.1 then
    some ((0, (0, (0, (([] : List D_A3), ())))), false, ())
  else
    bif !decide ((List.length a3 : Int) = (IntKind.wrap .i64 (a0 * a1))) then
      some ((0, (0, (0, (([] : List D_A3), ())))), false, ())
    else
      Option.bind (P_impl_allWithin (a3, 0, a2, ())) fun r3 =>
      bif !r3.1 then
        some ((0, (0, (0, (([] : List D_A3), ())))), false, ())
      else
        Option.bind (P_box_stack ((a0, (a1, (a2, ()))), a3, ())) fun r5 =>
        Option.bind (P_box_heap ((a0, (a1, (a2, ()))), r5.1, ())) fun r6 =>
        some (r6.1, true, ()) := by
  rewrite [h_impl_StackHeap]
  kernel_rfl
abbrev As_box_lines : List ATy := [.data true T_A3, .data false (.int .i64)]
abbrev R_box_lines : List (Bool × Ty) := [(false, (.int .i64))]
abbrev M_box_lines : List RMode := []
abbrev Ft_box_lines : Type := D_A3 × Int × Unit → Option (Int × Unit)
noncomputable def X_box_lines : Ctx := { types := TT, globals := [], con := [(166, C_box_size)], keep := [], results := [.tmp 4], ntmps := 11, n := N }
noncomputable def B_box_lines : Code := (Tryz.f215.body).getD .skip
noncomputable def P_box_lines : Ft_box_lines := hid (runF X_box_lines B_box_lines As_box_lines R_box_lines M_box_lines)
theorem h_box_lines : P_box_lines = runF X_box_lines B_box_lines As_box_lines R_box_lines M_box_lines := hid_eq _
noncomputable def C_box_lines : Contract := ⟨As_box_lines, R_box_lines, M_box_lines, P_box_lines⟩
theorem s_box_lines : Sound Tryz.prog GG 215 C_box_lines := by
  unfold C_box_lines; rw [h_box_lines]
  exact mkS Tryz.f215 ⟨s_box_size, trivial⟩ trivial
theorem p_box_lines (a0 : D_A3) (a1 : Int) : P_box_lines (a0, a1, ()) =
  Option.bind (P_box_size (a0, ())) fun r0 =>
  bif inB a1 3 then
    bif !decide ((bif decide (a1 = (0 : Int)) then a0.1 else (bif decide (a1 = (1 : Int)) then a0.2.1 else a0.2.2.1)) = 0) then
      some ((IntKind.wrap .i64 (Int.tdiv r0.1 (bif decide (a1 = (0 : Int)) then a0.1 else (bif decide (a1 = (1 : Int)) then a0.2.1 else a0.2.2.1)))), ())
    else none
  else none := by
  rewrite [h_box_lines]
  kernel_rfl
abbrev As_box_view : List ATy := [.data true T_A3, .data false (.int .u64), .data false (.int .i64)]
abbrev R_box_view : List (Bool × Ty) := [(false, (.sl (.int .i64)))]
abbrev M_box_view : List RMode := [.own 3]
abbrev Ft_box_view : Type := D_A3 × Int × Int × Unit → Option ((List Int) × Unit)
noncomputable def X_box_view : Ctx := { types := TT, globals := [], con := [(75, C_box_list), (164, C_box_line), (215, C_box_lines)], keep := [(3, ⟨[.box 3, .tmp 2, .tmp 3, .tmp 7, .tmp 16, .tmp 17, .tmp 18], []⟩)], results := [.tmp 6], ntmps := 33, n := N }
noncomputable def B_box_view : Code := (Tryz.f179.body).getD .skip
noncomputable def L_box_view_3 (m0 : Nat) (p0 p1 p2 p3 : Int) (p4 : List Int) (p5 : List D_A3) (p6 p7 : Int) : Option (denL R_box_view) := loopF X_box_view B_box_view R_box_view M_box_view 3 [m0] [(.ver, .num 1), (.box 3, .box 0 false [.int .i64 p0, .int .i64 p1, .int .i64 p2]), (.tmp 2, .val false [.int .i64 p3]), (.tmp 3, .val false [.addr 3 0 0]), (.tmp 7, .val false [.own 3 (.int .i64) 0 p4]), (.tmp 16, .val false [.own 45 T_A3 0 p5]), (.tmp 17, .val false [.int .i64 p6]), (.tmp 18, .val false [.int .i64 p7])]
noncomputable def P_box_view : Ft_box_view := hid (runF X_box_view B_box_view As_box_view R_box_view M_box_view)
theorem h_box_view : P_box_view = runF X_box_view B_box_view As_box_view R_box_view M_box_view := hid_eq _
noncomputable def C_box_view : Contract := ⟨As_box_view, R_box_view, M_box_view, P_box_view⟩
theorem s_box_view : Sound Tryz.prog GG 179 C_box_view := by
  unfold C_box_view; rw [h_box_view]
  exact mkS Tryz.f179 ⟨s_box_list, s_box_line, s_box_lines, trivial⟩ trivial
noncomputable def l_box_view_3 := hid (L_box_view_3)
theorem h_box_view_3 : l_box_view_3 = L_box_view_3 := hid_eq _
theorem p_box_view (a0 : D_A3) (a1 : Int) (a2 : Int) : P_box_view (a0, a1, a2, ()) =
  Option.bind (P_box_lines (a0, a2, ())) fun r0 =>
  bif (decide ((0 : Int) ≤ r0.1) && decide ((r0.1 : Int) ≤ r0.1) && decide ((r0.1 : Int) * (8 : Nat) ≤ 140737488355328) && decide ((r0.1 : Int) ≤ 140737488355328)) then
    Option.bind (P_box_list (a0, a1, ())) fun r2 =>
    l_box_view_3 N a0.1 a0.2.1 a0.2.2.1 a2 (List.replicate (Int.toNat r0.1) (Ty.dflt ((.int .i64) : Ty))) r2.1 (List.length r2.1 : Int) 0
  else none := by
  rewrite [h_box_view, h_box_view_3]
  kernel_rfl
theorem q_box_view_3 (m0 : Nat) (p0 p1 p2 p3 : Int) (p4 : List Int) (p5 : List D_A3) (p6 p7 : Int) : l_box_view_3 (m0 + 1) p0 p1 p2 p3 p4 p5 p6 p7 =
  bif decide (p7 < p6) then
    bif inB p7 (List.length p5) then
      Option.bind (P_box_line ((p0, (p1, (p2, ()))), (nth T_A3 p5 p7), p3, ())) fun r2 =>
      bif inB r2.1 (List.length p4) then
        bif inB r2.1 (List.length p4) then
          l_box_view_3 m0 p0 p1 p2 p3 (List.set p4 (Int.toNat r2.1) (IntKind.wrap .i64 ((nth ((.int .i64) : Ty) p4 r2.1) + 1))) p5 p6 (IntKind.wrap .i64 (p7 + 1))
        else none
      else none
    else none
  else
    some (p4, ()) := by
  rewrite [h_box_view_3]
  kernel_rfl
abbrev As_Heap_dropped : List ATy := [.data true T_Heap]
abbrev R_Heap_dropped : List (Bool × Ty) := [(false, (.int .u64))]
abbrev M_Heap_dropped : List RMode := []
abbrev Ft_Heap_dropped : Type := D_Heap × Unit → Option (Int × Unit)
noncomputable def X_Heap_dropped : Ctx := { types := TT, globals := [], con := [(74, C_Heap_box), (77, C_Heap_cubes), (100, C_box_stack), (179, C_box_view)], keep := [], results := [.tmp 2], ntmps := 11, n := N }
noncomputable def B_Heap_dropped : Code := (Tryz.f103.body).getD .skip
noncomputable def P_Heap_dropped : Ft_Heap_dropped := hid (runF X_Heap_dropped B_Heap_dropped As_Heap_dropped R_Heap_dropped M_Heap_dropped)
theorem h_Heap_dropped : P_Heap_dropped = runF X_Heap_dropped B_Heap_dropped As_Heap_dropped R_Heap_dropped M_Heap_dropped := hid_eq _
noncomputable def C_Heap_dropped : Contract := ⟨As_Heap_dropped, R_Heap_dropped, M_Heap_dropped, P_Heap_dropped⟩
theorem s_Heap_dropped : Sound Tryz.prog GG 103 C_Heap_dropped := by
  unfold C_Heap_dropped; rw [h_Heap_dropped]
  exact mkS Tryz.f103 ⟨s_Heap_box, s_Heap_cubes, s_box_stack, s_box_view, trivial⟩ trivial
theorem p_Heap_dropped (a0 : D_Heap) : P_Heap_dropped (a0, ()) =
  Option.bind (P_Heap_box (a0, ())) fun r0 =>
  Option.bind (P_Heap_box (a0, ())) fun r1 =>
  Option.bind (P_Heap_cubes (a0, ())) fun r2 =>
  Option.bind (P_box_view (r1.1, r2.1, 2, ())) fun r3 =>
  Option.bind (P_box_stack (r0.1, r3.1, ())) fun r4 =>
  some (r4.1, ()) := by
  rewrite [h_Heap_dropped]
  kernel_rfl
abbrev As_impl_IsSettled : List ATy := [.data true T_Heap]
abbrev R_impl_IsSettled : List (Bool × Ty) := [(false, .bool), (false, .bool)]
abbrev M_impl_IsSettled : List RMode := []
abbrev Ft_impl_IsSettled : Type := D_Heap × Unit → Option (Bool × Bool × Unit)
noncomputable def X_impl_IsSettled : Ctx := { types := TT, globals := [], con := [(67, C_impl_IsHeap), (77, C_Heap_cubes), (103, C_Heap_dropped)], keep := [], results := [.tmp 2, .tmp 3], ntmps := 12, n := N }
noncomputable def B_impl_IsSettled : Code := (Tryz.f27.body).getD .skip
noncomputable def P_impl_IsSettled : Ft_impl_IsSettled := hid (runF X_impl_IsSettled B_impl_IsSettled As_impl_IsSettled R_impl_IsSettled M_impl_IsSettled)
theorem h_impl_IsSettled : P_impl_IsSettled = runF X_impl_IsSettled B_impl_IsSettled As_impl_IsSettled R_impl_IsSettled M_impl_IsSettled := hid_eq _
noncomputable def C_impl_IsSettled : Contract := ⟨As_impl_IsSettled, R_impl_IsSettled, M_impl_IsSettled, P_impl_IsSettled⟩
theorem s_impl_IsSettled : Sound Tryz.prog GG 27 C_impl_IsSettled := by
  unfold C_impl_IsSettled; rw [h_impl_IsSettled]
  exact mkS Tryz.f27 ⟨s_impl_IsHeap, s_Heap_cubes, s_Heap_dropped, trivial⟩ trivial
theorem p_impl_IsSettled (a0 : D_Heap) : P_impl_IsSettled (a0, ()) =
  Option.bind (P_impl_IsHeap (a0, ())) fun r0 =>
  bif !r0.1 then
    some (false, false, ())
  else
    Option.bind (P_Heap_dropped (a0, ())) fun r2 =>
    Option.bind (P_Heap_cubes (a0, ())) fun r3 =>
    some (decide (r2.1 = r3.1), true, ()) := by
  rewrite [h_impl_IsSettled]
  kernel_rfl
abbrev As_impl_isCell : List ATy := [.data true T_Heap, .data true T_A3]
abbrev R_impl_isCell : List (Bool × Ty) := [(false, .bool)]
abbrev M_impl_isCell : List RMode := []
abbrev Ft_impl_isCell : Type := D_Heap × D_A3 × Unit → Option (Bool × Unit)
noncomputable def X_impl_isCell : Ctx := { types := TT, globals := [], con := [(67, C_impl_IsHeap), (74, C_Heap_box), (160, C_box_has)], keep := [], results := [.tmp 4], ntmps := 13, n := N }
noncomputable def B_impl_isCell : Code := (Tryz.f104.body).getD .skip
noncomputable def P_impl_isCell : Ft_impl_isCell := hid (runF X_impl_isCell B_impl_isCell As_impl_isCell R_impl_isCell M_impl_isCell)
theorem h_impl_isCell : P_impl_isCell = runF X_impl_isCell B_impl_isCell As_impl_isCell R_impl_isCell M_impl_isCell := hid_eq _
noncomputable def C_impl_isCell : Contract := ⟨As_impl_isCell, R_impl_isCell, M_impl_isCell, P_impl_isCell⟩
theorem s_impl_isCell : Sound Tryz.prog GG 104 C_impl_isCell := by
  unfold C_impl_isCell; rw [h_impl_isCell]
  exact mkS Tryz.f104 ⟨s_impl_IsHeap, s_Heap_box, s_box_has, trivial⟩ trivial
theorem p_impl_isCell (a0 : D_Heap) (a1 : D_A3) : P_impl_isCell (a0, a1, ()) =
  Option.bind (P_impl_IsHeap (a0, ())) fun r0 =>
  bif r0.1 then
    Option.bind (P_Heap_box (a0, ())) fun r2 =>
    Option.bind (P_box_has (r2.1, a1, ())) fun r3 =>
    some (r3.1, ())
  else
    some (false, ()) := by
  rewrite [h_impl_isCell]
  kernel_rfl
abbrev As_Heap_hasCube : List ATy := [.data true T_Heap, .data true T_A3]
abbrev R_Heap_hasCube : List (Bool × Ty) := [(false, .bool)]
abbrev M_Heap_hasCube : List RMode := []
abbrev Ft_Heap_hasCube : Type := D_Heap × D_A3 × Unit → Option (Bool × Unit)
noncomputable def X_Heap_hasCube : Ctx := { types := TT, globals := [], con := [(74, C_Heap_box), (77, C_Heap_cubes), (81, C_box_index), (88, C_set_has)], keep := [], results := [.tmp 4], ntmps := 12, n := N }
noncomputable def B_Heap_hasCube : Code := (Tryz.f105.body).getD .skip
noncomputable def P_Heap_hasCube : Ft_Heap_hasCube := hid (runF X_Heap_hasCube B_Heap_hasCube As_Heap_hasCube R_Heap_hasCube M_Heap_hasCube)
theorem h_Heap_hasCube : P_Heap_hasCube = runF X_Heap_hasCube B_Heap_hasCube As_Heap_hasCube R_Heap_hasCube M_Heap_hasCube := hid_eq _
noncomputable def C_Heap_hasCube : Contract := ⟨As_Heap_hasCube, R_Heap_hasCube, M_Heap_hasCube, P_Heap_hasCube⟩
theorem s_Heap_hasCube : Sound Tryz.prog GG 105 C_Heap_hasCube := by
  unfold C_Heap_hasCube; rw [h_Heap_hasCube]
  exact mkS Tryz.f105 ⟨s_Heap_box, s_Heap_cubes, s_box_index, s_set_has, trivial⟩ trivial
theorem p_Heap_hasCube (a0 : D_Heap) (a1 : D_A3) : P_Heap_hasCube (a0, a1, ()) =
  Option.bind (P_Heap_cubes (a0, ())) fun r0 =>
  Option.bind (P_Heap_box (a0, ())) fun r1 =>
  Option.bind (P_box_index (r1.1, a1, ())) fun r2 =>
  Option.bind (P_set_has (r0.1, r2.1, ())) fun r3 =>
  some (r3.1, ()) := by
  rewrite [h_Heap_hasCube]
  kernel_rfl
abbrev As_impl_TakeCube : List ATy := [.data true T_Heap, .data true T_A3]
abbrev R_impl_TakeCube : List (Bool × Ty) := [(true, T_Heap), (false, .bool)]
abbrev M_impl_TakeCube : List RMode := [.own 45]
abbrev Ft_impl_TakeCube : Type := D_Heap × D_A3 × Unit → Option (D_Heap × Bool × Unit)
noncomputable def X_impl_TakeCube : Ctx := { types := TT, globals := [], con := [(74, C_Heap_box), (77, C_Heap_cubes), (81, C_box_index), (86, C_box_heap), (104, C_impl_isCell), (105, C_Heap_hasCube)], keep := [], results := [.cell 4 26, .tmp 5], ntmps := 28, n := N }
noncomputable def B_impl_TakeCube : Code := (Tryz.f28.body).getD .skip
noncomputable def P_impl_TakeCube : Ft_impl_TakeCube := hid (runF X_impl_TakeCube B_impl_TakeCube As_impl_TakeCube R_impl_TakeCube M_impl_TakeCube)
theorem h_impl_TakeCube : P_impl_TakeCube = runF X_impl_TakeCube B_impl_TakeCube As_impl_TakeCube R_impl_TakeCube M_impl_TakeCube := hid_eq _
noncomputable def C_impl_TakeCube : Contract := ⟨As_impl_TakeCube, R_impl_TakeCube, M_impl_TakeCube, P_impl_TakeCube⟩
theorem s_impl_TakeCube : Sound Tryz.prog GG 28 C_impl_TakeCube := by
  unfold C_impl_TakeCube; rw [h_impl_TakeCube]
  exact mkS Tryz.f28 ⟨s_Heap_box, s_Heap_cubes, s_box_index, s_box_heap, s_impl_isCell, s_Heap_hasCube, trivial⟩ trivial
theorem p_impl_TakeCube (a0 : D_Heap) (a1 : D_A3) : P_impl_TakeCube (a0, a1, ()) =
  Option.bind (P_impl_isCell (a0, a1, ())) fun r0 =>
  bif !r0.1 then
    some ((0, (0, (0, (([] : List D_A3), ())))), false, ())
  else
    Option.bind (P_Heap_hasCube (a0, a1, ())) fun r2 =>
    bif !r2.1 then
      some ((0, (0, (0, (([] : List D_A3), ())))), false, ())
    else
      Option.bind (P_Heap_box (a0, ())) fun r4 =>
      Option.bind (P_Heap_cubes (a0, ())) fun r5 =>
      Option.bind (P_Heap_box (a0, ())) fun r6 =>
      Option.bind (P_box_index (r6.1, a1, ())) fun r7 =>
      bif decide ((0 : Int) ≤ r7.1) then
        Option.bind (P_box_heap (r4.1, (intBits .andNot .u64 r5.1 (shlI .u64 1 r7.1)), ())) fun r9 =>
        some (r9.1, true, ())
      else none := by
  rewrite [h_impl_TakeCube]
  kernel_rfl
abbrev As_impl_areAlike : List ATy := [.data true T_Heap, .data true T_Heap]
abbrev R_impl_areAlike : List (Bool × Ty) := [(false, .bool)]
abbrev M_impl_areAlike : List RMode := []
abbrev Ft_impl_areAlike : Type := D_Heap × D_Heap × Unit → Option (Bool × Unit)
noncomputable def X_impl_areAlike : Ctx := { types := TT, globals := [], con := [(67, C_impl_IsHeap), (74, C_Heap_box)], keep := [], results := [.tmp 4], ntmps := 18, n := N }
noncomputable def B_impl_areAlike : Code := (Tryz.f106.body).getD .skip
noncomputable def P_impl_areAlike : Ft_impl_areAlike := hid (runF X_impl_areAlike B_impl_areAlike As_impl_areAlike R_impl_areAlike M_impl_areAlike)
theorem h_impl_areAlike : P_impl_areAlike = runF X_impl_areAlike B_impl_areAlike As_impl_areAlike R_impl_areAlike M_impl_areAlike := hid_eq _
noncomputable def C_impl_areAlike : Contract := ⟨As_impl_areAlike, R_impl_areAlike, M_impl_areAlike, P_impl_areAlike⟩
theorem s_impl_areAlike : Sound Tryz.prog GG 106 C_impl_areAlike := by
  unfold C_impl_areAlike; rw [h_impl_areAlike]
  exact mkS Tryz.f106 ⟨s_impl_IsHeap, s_Heap_box, trivial⟩ trivial
theorem p_impl_areAlike (a0 : D_Heap) (a1 : D_Heap) : P_impl_areAlike (a0, a1, ()) =
  Option.bind (P_impl_IsHeap (a0, ())) fun r0 =>
  bif r0.1 then
    Option.bind (P_impl_IsHeap (a1, ())) fun r2 =>
    bif r2.1 then
      Option.bind (P_Heap_box (a0, ())) fun r4 =>
      Option.bind (P_Heap_box (a1, ())) fun r5 =>
      some ((decide (r4.1.1 = r5.1.1) && (decide (r4.1.2.1 = r5.1.2.1) && (decide (r4.1.2.2.1 = r5.1.2.2.1) && true))), ())
    else
      some (false, ())
  else
    some (false, ()) := by
  rewrite [h_impl_areAlike]
  kernel_rfl
abbrev As_impl_JoinHeaps : List ATy := [.data true T_Heap, .data true T_Heap]
abbrev R_impl_JoinHeaps : List (Bool × Ty) := [(true, T_Heap), (false, .bool)]
abbrev M_impl_JoinHeaps : List RMode := [.own 45]
abbrev Ft_impl_JoinHeaps : Type := D_Heap × D_Heap × Unit → Option (D_Heap × Bool × Unit)
noncomputable def X_impl_JoinHeaps : Ctx := { types := TT, globals := [], con := [(74, C_Heap_box), (77, C_Heap_cubes), (86, C_box_heap), (106, C_impl_areAlike)], keep := [], results := [.cell 4 26, .tmp 5], ntmps := 19, n := N }
noncomputable def B_impl_JoinHeaps : Code := (Tryz.f29.body).getD .skip
noncomputable def P_impl_JoinHeaps : Ft_impl_JoinHeaps := hid (runF X_impl_JoinHeaps B_impl_JoinHeaps As_impl_JoinHeaps R_impl_JoinHeaps M_impl_JoinHeaps)
theorem h_impl_JoinHeaps : P_impl_JoinHeaps = runF X_impl_JoinHeaps B_impl_JoinHeaps As_impl_JoinHeaps R_impl_JoinHeaps M_impl_JoinHeaps := hid_eq _
noncomputable def C_impl_JoinHeaps : Contract := ⟨As_impl_JoinHeaps, R_impl_JoinHeaps, M_impl_JoinHeaps, P_impl_JoinHeaps⟩
theorem s_impl_JoinHeaps : Sound Tryz.prog GG 29 C_impl_JoinHeaps := by
  unfold C_impl_JoinHeaps; rw [h_impl_JoinHeaps]
  exact mkS Tryz.f29 ⟨s_Heap_box, s_Heap_cubes, s_box_heap, s_impl_areAlike, trivial⟩ trivial
theorem p_impl_JoinHeaps (a0 : D_Heap) (a1 : D_Heap) : P_impl_JoinHeaps (a0, a1, ()) =
  Option.bind (P_impl_areAlike (a0, a1, ())) fun r0 =>
  bif !r0.1 then
    some ((0, (0, (0, (([] : List D_A3), ())))), false, ())
  else
    Option.bind (P_Heap_box (a0, ())) fun r2 =>
    Option.bind (P_Heap_cubes (a0, ())) fun r3 =>
    Option.bind (P_Heap_cubes (a1, ())) fun r4 =>
    Option.bind (P_box_heap (r2.1, (intBits .or .u64 r3.1 r4.1), ())) fun r5 =>
    some (r5.1, true, ()) := by
  rewrite [h_impl_JoinHeaps]
  kernel_rfl
abbrev As_impl_CommonCubes : List ATy := [.data true T_Heap, .data true T_Heap]
abbrev R_impl_CommonCubes : List (Bool × Ty) := [(true, T_Heap), (false, .bool)]
abbrev M_impl_CommonCubes : List RMode := [.own 45]
abbrev Ft_impl_CommonCubes : Type := D_Heap × D_Heap × Unit → Option (D_Heap × Bool × Unit)
noncomputable def X_impl_CommonCubes : Ctx := { types := TT, globals := [], con := [(74, C_Heap_box), (77, C_Heap_cubes), (86, C_box_heap), (106, C_impl_areAlike)], keep := [], results := [.cell 4 26, .tmp 5], ntmps := 19, n := N }
noncomputable def B_impl_CommonCubes : Code := (Tryz.f30.body).getD .skip
noncomputable def P_impl_CommonCubes : Ft_impl_CommonCubes := hid (runF X_impl_CommonCubes B_impl_CommonCubes As_impl_CommonCubes R_impl_CommonCubes M_impl_CommonCubes)
theorem h_impl_CommonCubes : P_impl_CommonCubes = runF X_impl_CommonCubes B_impl_CommonCubes As_impl_CommonCubes R_impl_CommonCubes M_impl_CommonCubes := hid_eq _
noncomputable def C_impl_CommonCubes : Contract := ⟨As_impl_CommonCubes, R_impl_CommonCubes, M_impl_CommonCubes, P_impl_CommonCubes⟩
theorem s_impl_CommonCubes : Sound Tryz.prog GG 30 C_impl_CommonCubes := by
  unfold C_impl_CommonCubes; rw [h_impl_CommonCubes]
  exact mkS Tryz.f30 ⟨s_Heap_box, s_Heap_cubes, s_box_heap, s_impl_areAlike, trivial⟩ trivial
theorem p_impl_CommonCubes (a0 : D_Heap) (a1 : D_Heap) : P_impl_CommonCubes (a0, a1, ()) =
  Option.bind (P_impl_areAlike (a0, a1, ())) fun r0 =>
  bif !r0.1 then
    some ((0, (0, (0, (([] : List D_A3), ())))), false, ())
  else
    Option.bind (P_Heap_box (a0, ())) fun r2 =>
    Option.bind (P_Heap_cubes (a0, ())) fun r3 =>
    Option.bind (P_Heap_cubes (a1, ())) fun r4 =>
    Option.bind (P_box_heap (r2.1, (intBits .and .u64 r3.1 r4.1), ())) fun r5 =>
    some (r5.1, true, ()) := by
  rewrite [h_impl_CommonCubes]
  kernel_rfl
end Go.VI
