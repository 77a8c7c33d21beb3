/- What more functions of the seat compute, as printed by wip/tools. -/
import Derived.Test.YtdejhienahdoiaaGreatVkE
namespace Go.VI
open Go.Proofs
set_option maxRecDepth 100000
noncomputable section
abbrev T_l1Cur : Ty := (.pair (.sl (.int .u8)) (.pair (.int .i64) (.pair (.int .u64) .unit)))
abbrev D_l1Cur : Type := (List Int) × Int × Int × Unit
abbrev T_l9Found : Ty := (.pair (.sl (.int .i64)) (.pair (.int .i64) .unit))
abbrev D_l9Found : Type := (List Int) × Int × Unit
def TTk : List (TypeId × TI) := [(3, ⟨Tryz.t3.desc, (.int .i64), false, 8, [.int .i64 0], false⟩),
 (4, ⟨Tryz.t4.desc, .bool, false, 1, [.bool false], false⟩),
 (5, ⟨Tryz.t5.desc, (.int .u8), false, 1, [.int .u8 0], false⟩),
 (22, ⟨Tryz.t22.desc, (.sl (.int .u8)), false, 24, [.nil 5 (.int .u8)], false⟩),
 (24, ⟨Tryz.t24.desc, (.sl T_A3), false, 24, [.nil 57 T_A3], false⟩),
 (26, ⟨Tryz.t25.desc, T_Heap, true, 48, [.int .i64 0, .int .i64 0, .int .i64 0, .nil 57 T_A3], false⟩),
 (27, ⟨Tryz.t27.desc, (.sl (.sl T_A3)), false, 24, [.nil 24 (.sl T_A3)], false⟩),
 (32, ⟨Tryz.t32.desc, (.sl (.int .i64)), false, 24, [.nil 3 (.int .i64)], false⟩),
 (41, ⟨Tryz.t41.desc, (.sl T_A2), false, 24, [.nil 46 T_A2], false⟩),
 (46, ⟨Tryz.t46.desc, T_A2, true, 16, [.int .i64 0, .int .i64 0], false⟩),
 (53, ⟨Tryz.t52.desc, T_l9Found, true, 32, [.nil 3 (.int .i64), .int .i64 0], false⟩),
 (57, ⟨Tryz.t57.desc, T_A3, true, 24, [.int .i64 0, .int .i64 0, .int .i64 0], false⟩),
 (58, ⟨Tryz.t57.desc, T_A3, true, 24, [.int .i64 0, .int .i64 0, .int .i64 0], false⟩),
 (61, ⟨Tryz.t61.desc, (.int .u64), false, 8, [.int .u64 0], false⟩),
 (67, ⟨Tryz.t66.desc, T_l1Cur, true, 40, [.nil 5 (.int .u8), .int .i64 0, .int .u64 0], false⟩)]
theorem ttOKk : allP (fun q => tiB Tryz.prog q.1 q.2) TTk :=
 ⟨⟨by kernel_rfl, by kernel_rfl, by kernel_rfl, by kernel_rfl, by kernel_rfl, by kernel_rfl⟩, ⟨by kernel_rfl, by kernel_rfl, by kernel_rfl, by kernel_rfl, by kernel_rfl, by kernel_rfl⟩, ⟨by kernel_rfl, by kernel_rfl, by kernel_rfl, by kernel_rfl, by kernel_rfl, by kernel_rfl⟩, ⟨by kernel_rfl, by kernel_rfl, by kernel_rfl, by kernel_rfl, by kernel_rfl, by kernel_rfl⟩, ⟨by kernel_rfl, by kernel_rfl, by kernel_rfl, by kernel_rfl, by kernel_rfl, by kernel_rfl⟩, ⟨by kernel_rfl, by kernel_rfl, by kernel_rfl, by kernel_rfl, by kernel_rfl, by kernel_rfl⟩, ⟨by kernel_rfl, by kernel_rfl, by kernel_rfl, by kernel_rfl, by kernel_rfl, by kernel_rfl⟩, ⟨by kernel_rfl, by kernel_rfl, by kernel_rfl, by kernel_rfl, by kernel_rfl, by kernel_rfl⟩, ⟨by kernel_rfl, by kernel_rfl, by kernel_rfl, by kernel_rfl, by kernel_rfl, by kernel_rfl⟩, ⟨by kernel_rfl, by kernel_rfl, by kernel_rfl, by kernel_rfl, by kernel_rfl, by kernel_rfl⟩, ⟨by kernel_rfl, by kernel_rfl, by kernel_rfl, by kernel_rfl, by kernel_rfl, by kernel_rfl⟩, ⟨by kernel_rfl, by kernel_rfl, by kernel_rfl, by kernel_rfl, by kernel_rfl, by kernel_rfl⟩, ⟨by kernel_rfl, by kernel_rfl, by kernel_rfl, by kernel_rfl, by kernel_rfl, by kernel_rfl⟩, ⟨by kernel_rfl, by kernel_rfl, by kernel_rfl, by kernel_rfl, by kernel_rfl, by kernel_rfl⟩, ⟨by kernel_rfl, by kernel_rfl, by kernel_rfl, by kernel_rfl, by kernel_rfl, by kernel_rfl⟩, trivial⟩
theorem mkSk {f : FuncId} {c : Code} {X : Ctx} {As : List ATy} {R : List (Bool × Ty)} {M : List RMode} (fn : Func) (hc : allP (fun p => Sound Tryz.prog GG p.1 p.2) X.con) (hm : allP (fun p => SoundM Tryz.prog n0 GG p.1 p.2) X.mcon) (hT : X.types = TTk := by rfl) (hg : X.globals = [] := by rfl) (hf : Tryz.prog.funcs[f]? = some fn := by kernel_rfl) (hb : fn.body = some c := by kernel_rfl) (hn : (fn.name == "runtime.NumGoroutine") = false := by kernel_rfl) (hr : X.results = fn.results.toList := by kernel_rfl) (ht : X.ntmps = fn.ntmps := by kernel_rfl) (hA : decide (As.length ≤ X.ntmps ∧ X.ntmps ≤ lentBase) = true := by kernel_rfl) : Sound Tryz.prog GG f ⟨As, R, M, runF X c As R M⟩ :=
 sound_of_run hmix hstable (tyOK_of (by rw [hT]; exact ttOKk)) (hglob X hg) (conOK_of hc) (mconOK_of hm) hf hb hn hr ht (of_decide_eq_true hA)
theorem mkSMk {f : FuncId} {c : Code} {X : Ctx} {As : List ATy} {R : List (Bool × Ty)} {M : List RMode} (fn : Func) (hc : allP (fun p => Sound Tryz.prog GG p.1 p.2) X.con) (hm : allP (fun p => SoundM Tryz.prog n0 GG p.1 p.2) X.mcon) (hT : X.types = TTk := by rfl) (hg : X.globals = [] := by rfl) (hf : Tryz.prog.funcs[f]? = some fn := by kernel_rfl) (hb : fn.body = some c := by kernel_rfl) (hn : (fn.name == "runtime.NumGoroutine") = false := by kernel_rfl) (hr : X.results = fn.results.toList := by kernel_rfl) (ht : X.ntmps = fn.ntmps := by kernel_rfl) (hA : decide (As.length ≤ X.ntmps ∧ X.ntmps ≤ lentBase) = true := by kernel_rfl) (hR : R.length = X.results.length := by kernel_rfl) (hms : (M.all fun | .pass _ => false | _ => true) = true := by rfl) : SoundM Tryz.prog n0 GG f ⟨As, R, M, runFM X c As R M⟩ :=
 sound_of_runM hmix hstable (tyOK_of (by rw [hT]; exact ttOKk)) (hglob X hg) (conOK_of hc) (mconOK_of hm) hf hb hn hr ht (of_decide_eq_true hA) hR hms
abbrev As_laws_vBig : List ATy := [.data false (.sl (.int .u8))]
abbrev R_laws_vBig : List (Bool × Ty) := [(false, .bool)]
abbrev M_laws_vBig : List RMode := []
abbrev Ft_laws_vBig : Type := (List Int) × Unit → Option (Bool × Unit)
def X_laws_vBig : Ctx := { types := TTk, globals := [], con := [], keep := [], results := [.tmp 2], ntmps := 6, n := N }
def B_laws_vBig : Code := (Tryz.f4.body).getD .skip
def P_laws_vBig : Ft_laws_vBig := hid (runF X_laws_vBig B_laws_vBig As_laws_vBig R_laws_vBig M_laws_vBig)
theorem h_laws_vBig : P_laws_vBig = runF X_laws_vBig B_laws_vBig As_laws_vBig R_laws_vBig M_laws_vBig := hid_eq _
def C_laws_vBig : Contract := ⟨As_laws_vBig, R_laws_vBig, M_laws_vBig, P_laws_vBig⟩
theorem s_laws_vBig : Sound Tryz.prog GG 4 C_laws_vBig := by
 unfold C_laws_vBig; rw [h_laws_vBig]
 exact mkSk Tryz.f4 trivial trivial
theorem p_laws_vBig (a0 : List Int) : P_laws_vBig (a0, ()) =
 some (decide ((List.length a0 : Int) > 65536), ()) := by
 rewrite [h_laws_vBig]
 kernel_rfl
abbrev As_l1Cur_next : List ATy := [.lptr T_l1Cur]
abbrev R_l1Cur_next : List (Bool × Ty) := [(false, (.int .i64))]
abbrev M_l1Cur_next : List RMode := []
abbrev Ft_l1Cur_next : Type := D_l1Cur × Unit → Option ((Int × Unit) × (D_l1Cur × Unit))
def X_l1Cur_next : Ctx := { types := TTk, globals := [], con := [], keep := [], results := [.tmp 2], ntmps := 62, n := N }
def B_l1Cur_next : Code := (Tryz.f69.body).getD .skip
def P_l1Cur_next : Ft_l1Cur_next := hid (runFM X_l1Cur_next B_l1Cur_next As_l1Cur_next R_l1Cur_next M_l1Cur_next)
theorem h_l1Cur_next : P_l1Cur_next = runFM X_l1Cur_next B_l1Cur_next As_l1Cur_next R_l1Cur_next M_l1Cur_next := hid_eq _
def C_l1Cur_next : MContract := ⟨As_l1Cur_next, R_l1Cur_next, M_l1Cur_next, P_l1Cur_next⟩
theorem s_l1Cur_next : SoundM Tryz.prog n0 GG 69 C_l1Cur_next := by
 unfold C_l1Cur_next; rw [h_l1Cur_next]
 exact mkSMk Tryz.f69 trivial trivial
theorem p_l1Cur_next (a0 : D_l1Cur) : P_l1Cur_next (a0, ()) =
 bif decide (a0.2.1 < (List.length a0.1 : Int)) then
 bif inB a0.2.1 (List.length a0.1) then
 bif decide ((IntKind.wrap .i64 (a0.2.1 + 1)) ≤ (List.length a0.1 : Int)) then
 some (((IntKind.wrap .i64 (nth ((.int .u8) : Ty) a0.1 a0.2.1)), ()), ((a0.1, ((IntKind.wrap .i64 (a0.2.1 + 1)), ((IntKind.wrap .u64 ((IntKind.wrap .u64 ((IntKind.wrap .u64 (a0.2.2.1 * 6364136223846793005)) + (IntKind.wrap .u64 (IntKind.wrap .i64 (nth ((.int .u8) : Ty) a0.1 a0.2.1))))) + 462197)), ()))), ()))
 else
 some (((IntKind.wrap .i64 (intBits .and .u64 (shrI .u64 (IntKind.wrap .u64 ((IntKind.wrap .u64 ((IntKind.wrap .u64 (a0.2.2.1 * 6364136223846793005)) + (IntKind.wrap .u64 (IntKind.wrap .i64 (nth ((.int .u8) : Ty) a0.1 a0.2.1))))) + 462197)) 40) 255)), ()), ((a0.1, ((IntKind.wrap .i64 (a0.2.1 + 1)), ((IntKind.wrap .u64 ((IntKind.wrap .u64 ((IntKind.wrap .u64 (a0.2.2.1 * 6364136223846793005)) + (IntKind.wrap .u64 (IntKind.wrap .i64 (nth ((.int .u8) : Ty) a0.1 a0.2.1))))) + 462197)), ()))), ()))
 else none
 else
 bif decide ((IntKind.wrap .i64 (a0.2.1 + 1)) ≤ (List.length a0.1 : Int)) then
 some ((0, ()), ((a0.1, ((IntKind.wrap .i64 (a0.2.1 + 1)), ((IntKind.wrap .u64 ((IntKind.wrap .u64 ((IntKind.wrap .u64 (a0.2.2.1 * 6364136223846793005)) + 0)) + 462197)), ()))), ()))
 else
 some (((IntKind.wrap .i64 (intBits .and .u64 (shrI .u64 (IntKind.wrap .u64 ((IntKind.wrap .u64 ((IntKind.wrap .u64 (a0.2.2.1 * 6364136223846793005)) + 0)) + 462197)) 40) 255)), ()), ((a0.1, ((IntKind.wrap .i64 (a0.2.1 + 1)), ((IntKind.wrap .u64 ((IntKind.wrap .u64 ((IntKind.wrap .u64 (a0.2.2.1 * 6364136223846793005)) + 0)) + 462197)), ()))), ())) := by
 rewrite [h_l1Cur_next]
 kernel_rfl
abbrev As_l1Cur_pick : List ATy := [.lptr T_l1Cur, .data false (.int .i64)]
abbrev R_l1Cur_pick : List (Bool × Ty) := [(false, (.int .i64))]
abbrev M_l1Cur_pick : List RMode := []
abbrev Ft_l1Cur_pick : Type := D_l1Cur × Int × Unit → Option ((Int × Unit) × (D_l1Cur × Unit))
def X_l1Cur_pick : Ctx := { types := TTk, globals := [], con := [], mcon := [(69, C_l1Cur_next)], keep := [], results := [.tmp 4], ntmps := 20, n := N }
def B_l1Cur_pick : Code := (Tryz.f40.body).getD .skip
def P_l1Cur_pick : Ft_l1Cur_pick := hid (runFM X_l1Cur_pick B_l1Cur_pick As_l1Cur_pick R_l1Cur_pick M_l1Cur_pick)
theorem h_l1Cur_pick : P_l1Cur_pick = runFM X_l1Cur_pick B_l1Cur_pick As_l1Cur_pick R_l1Cur_pick M_l1Cur_pick := hid_eq _
def C_l1Cur_pick : MContract := ⟨As_l1Cur_pick, R_l1Cur_pick, M_l1Cur_pick, P_l1Cur_pick⟩
theorem s_l1Cur_pick : SoundM Tryz.prog n0 GG 40 C_l1Cur_pick := by
 unfold C_l1Cur_pick; rw [h_l1Cur_pick]
 exact mkSMk Tryz.f40 trivial ⟨s_l1Cur_next, trivial⟩
theorem p_l1Cur_pick (a0 : D_l1Cur) (a1 : Int) : P_l1Cur_pick (a0, a1, ()) =
 bif decide (a1 ≤ 1) then
 some ((0, ()), (a0, ()))
 else
 Option.bind (P_l1Cur_next (a0, ())) fun r1 =>
 bif decide (a1 > 200) then
 Option.bind (P_l1Cur_next ((a0.1, r1.2.1.2), ())) fun r3 =>
 bif !decide (a1 = 0) then
 some (((Int.tmod (IntKind.wrap .i64 ((IntKind.wrap .i64 (r1.1.1 * 256)) + r3.1.1)) a1), ()), ((a0.1, r3.2.1.2), ()))
 else none
 else
 bif !decide (a1 = 0) then
 some (((Int.tmod r1.1.1 a1), ()), ((a0.1, r1.2.1.2), ()))
 else none := by
 rewrite [h_l1Cur_pick]
 kernel_rfl
abbrev As_l1Cur_one : List ATy := [.lptr T_l1Cur, .data false (.int .i64)]
abbrev R_l1Cur_one : List (Bool × Ty) := [(false, .bool)]
abbrev M_l1Cur_one : List RMode := []
abbrev Ft_l1Cur_one : Type := D_l1Cur × Int × Unit → Option ((Bool × Unit) × (D_l1Cur × Unit))
def X_l1Cur_one : Ctx := { types := TTk, globals := [], con := [], mcon := [(40, C_l1Cur_pick)], keep := [], results := [.tmp 4], ntmps := 9, n := N }
def B_l1Cur_one : Code := (Tryz.f37.body).getD .skip
def P_l1Cur_one : Ft_l1Cur_one := hid (runFM X_l1Cur_one B_l1Cur_one As_l1Cur_one R_l1Cur_one M_l1Cur_one)
theorem h_l1Cur_one : P_l1Cur_one = runFM X_l1Cur_one B_l1Cur_one As_l1Cur_one R_l1Cur_one M_l1Cur_one := hid_eq _
def C_l1Cur_one : MContract := ⟨As_l1Cur_one, R_l1Cur_one, M_l1Cur_one, P_l1Cur_one⟩
theorem s_l1Cur_one : SoundM Tryz.prog n0 GG 37 C_l1Cur_one := by
 unfold C_l1Cur_one; rw [h_l1Cur_one]
 exact mkSMk Tryz.f37 trivial ⟨s_l1Cur_pick, trivial⟩
theorem p_l1Cur_one (a0 : D_l1Cur) (a1 : Int) : P_l1Cur_one (a0, a1, ()) =
 Option.bind (P_l1Cur_pick (a0, a1, ())) fun r0 =>
 some ((decide (r0.1.1 = 0), ()), ((a0.1, r0.2.1.2), ())) := by
 rewrite [h_l1Cur_one]
 kernel_rfl
abbrev As_l1Cur_among : List ATy := [.lptr T_l1Cur, .data false (.sl (.int .i64))]
abbrev R_l1Cur_among : List (Bool × Ty) := [(false, (.int .i64))]
abbrev M_l1Cur_among : List RMode := []
abbrev Ft_l1Cur_among : Type := D_l1Cur × (List Int) × Unit → Option ((Int × Unit) × (D_l1Cur × Unit))
def X_l1Cur_among : Ctx := { types := TTk, globals := [], con := [], mcon := [(40, C_l1Cur_pick)], keep := [], results := [.tmp 4], ntmps := 12, n := N }
def B_l1Cur_among : Code := (Tryz.f39.body).getD .skip
def P_l1Cur_among : Ft_l1Cur_among := hid (runFM X_l1Cur_among B_l1Cur_among As_l1Cur_among R_l1Cur_among M_l1Cur_among)
theorem h_l1Cur_among : P_l1Cur_among = runFM X_l1Cur_among B_l1Cur_among As_l1Cur_among R_l1Cur_among M_l1Cur_among := hid_eq _
def C_l1Cur_among : MContract := ⟨As_l1Cur_among, R_l1Cur_among, M_l1Cur_among, P_l1Cur_among⟩
theorem s_l1Cur_among : SoundM Tryz.prog n0 GG 39 C_l1Cur_among := by
 unfold C_l1Cur_among; rw [h_l1Cur_among]
 exact mkSMk Tryz.f39 trivial ⟨s_l1Cur_pick, trivial⟩
theorem p_l1Cur_among (a0 : D_l1Cur) (a1 : List Int) : P_l1Cur_among (a0, a1, ()) =
 Option.bind (P_l1Cur_pick (a0, (List.length a1 : Int), ())) fun r0 =>
 bif inB r0.1.1 (List.length a1) then
 some (((nth ((.int .i64) : Ty) a1 r0.1.1), ()), ((a0.1, r0.2.1.2), ()))
 else none := by
 rewrite [h_l1Cur_among]
 kernel_rfl
abbrev As_spec_l2All : List ATy := [.data true T_Heap]
abbrev R_spec_l2All : List (Bool × Ty) := [(false, (.sl T_A3))]
abbrev M_spec_l2All : List RMode := [.own 57]
abbrev Ft_spec_l2All : Type := D_Heap × Unit → Option ((List D_A3) × Unit)
def X_spec_l2All : Ctx := { types := TTk, globals := [], con := [], keep := [(3, ⟨[.box 1, .tmp 1, .tmp 3, .tmp 4], []⟩), (6, ⟨[.box 1, .tmp 1, .tmp 3, .tmp 4, .tmp 5], []⟩), (9, ⟨[.box 1, .tmp 1, .tmp 3, .tmp 4, .tmp 5, .tmp 6], []⟩)], results := [.tmp 2], ntmps := 34, n := N }
def B_spec_l2All : Code := (Tryz.f44.body).getD .skip
def L_spec_l2All_3 (m0 : Nat) (p0 p1 p2 : Int) (p3 p4 : List D_A3) (p5 : Int) : Option (denL R_spec_l2All) := loopF X_spec_l2All B_spec_l2All R_spec_l2All M_spec_l2All 3 [m0] [(.ver, .num 1), (.box 1, .box 0 false [.int .i64 p0, .int .i64 p1, .int .i64 p2, .imm T_A3 p3 (some 3)]), (.tmp 1, .val false [.addr 1 0 0]), (.tmp 3, .val false [.own 57 T_A3 0 p4]), (.tmp 4, .val false [.int .i64 p5])]
def L_spec_l2All_6 (m0 m1 : Nat) (p0 p1 p2 : Int) (p3 p4 : List D_A3) (p5 p6 : Int) : Option (denL R_spec_l2All) := loopF X_spec_l2All B_spec_l2All R_spec_l2All M_spec_l2All 6 [m0, m1] [(.ver, .num 1), (.box 1, .box 0 false [.int .i64 p0, .int .i64 p1, .int .i64 p2, .imm T_A3 p3 (some 3)]), (.tmp 1, .val false [.addr 1 0 0]), (.tmp 3, .val false [.own 57 T_A3 0 p4]), (.tmp 4, .val false [.int .i64 p5]), (.tmp 5, .val false [.int .i64 p6])]
def L_spec_l2All_9 (m0 m1 m2 : Nat) (p0 p1 p2 : Int) (p3 p4 : List D_A3) (p5 p6 p7 : Int) : Option (denL R_spec_l2All) := loopF X_spec_l2All B_spec_l2All R_spec_l2All M_spec_l2All 9 [m0, m1, m2] [(.ver, .num 1), (.box 1, .box 0 false [.int .i64 p0, .int .i64 p1, .int .i64 p2, .imm T_A3 p3 (some 3)]), (.tmp 1, .val false [.addr 1 0 0]), (.tmp 3, .val false [.own 57 T_A3 0 p4]), (.tmp 4, .val false [.int .i64 p5]), (.tmp 5, .val false [.int .i64 p6]), (.tmp 6, .val false [.int .i64 p7])]
def P_spec_l2All : Ft_spec_l2All := hid (runF X_spec_l2All B_spec_l2All As_spec_l2All R_spec_l2All M_spec_l2All)
theorem h_spec_l2All : P_spec_l2All = runF X_spec_l2All B_spec_l2All As_spec_l2All R_spec_l2All M_spec_l2All := hid_eq _
def C_spec_l2All : Contract := ⟨As_spec_l2All, R_spec_l2All, M_spec_l2All, P_spec_l2All⟩
theorem s_spec_l2All : Sound Tryz.prog GG 44 C_spec_l2All := by
 unfold C_spec_l2All; rw [h_spec_l2All]
 exact mkSk Tryz.f44 trivial trivial
def l_spec_l2All_3 := hid (L_spec_l2All_3)
theorem h_spec_l2All_3 : l_spec_l2All_3 = L_spec_l2All_3 := hid_eq _
def l_spec_l2All_6 := hid (L_spec_l2All_6)
theorem h_spec_l2All_6 : l_spec_l2All_6 = L_spec_l2All_6 := hid_eq _
def l_spec_l2All_9 := hid (L_spec_l2All_9)
theorem h_spec_l2All_9 : l_spec_l2All_9 = L_spec_l2All_9 := hid_eq _
theorem p_spec_l2All (a0 : D_Heap) : P_spec_l2All (a0, ()) =
 l_spec_l2All_3 N a0.1 a0.2.1 a0.2.2.1 a0.2.2.2.1 ([] : List D_A3) 0 := by
 rewrite [h_spec_l2All, h_spec_l2All_3]
 kernel_rfl
theorem q_spec_l2All_3 (m0 : Nat) (p0 p1 p2 : Int) (p3 p4 : List D_A3) (p5 : Int) : l_spec_l2All_3 (m0 + 1) p0 p1 p2 p3 p4 p5 =
 bif decide (p5 < p0) then
 l_spec_l2All_6 m0 N p0 p1 p2 p3 p4 p5 0
 else
 some (p4, ()) := by
 rewrite [h_spec_l2All_3, h_spec_l2All_6]
 kernel_rfl
theorem q_spec_l2All_6 (m0 m1 : Nat) (p0 p1 p2 : Int) (p3 p4 : List D_A3) (p5 p6 : Int) : l_spec_l2All_6 m0 (m1 + 1) p0 p1 p2 p3 p4 p5 p6 =
 bif decide (p6 < p1) then
 l_spec_l2All_9 m0 m1 N p0 p1 p2 p3 p4 p5 p6 0
 else
 l_spec_l2All_3 m0 p0 p1 p2 p3 p4 (IntKind.wrap .i64 (p5 + 1)) := by
 rewrite [h_spec_l2All_3, h_spec_l2All_6, h_spec_l2All_9]
 kernel_rfl
theorem q_spec_l2All_9 (m0 m1 m2 : Nat) (p0 p1 p2 : Int) (p3 p4 : List D_A3) (p5 p6 p7 : Int) : l_spec_l2All_9 m0 m1 (m2 + 1) p0 p1 p2 p3 p4 p5 p6 p7 =
 bif decide (p7 < p2) then
 bif (decide (((List.length p4) + (List.length ([(p5, (p6, (p7, ())))] : List D_A3))) * 24 ≤ 140737488355328) && decide (((List.length p4) + (List.length ([(p5, (p6, (p7, ())))] : List D_A3))) ≤ 140737488355328)) then
 l_spec_l2All_9 m0 m1 m2 p0 p1 p2 p3 (p4 ++ ([(p5, (p6, (p7, ())))] : List D_A3)) p5 p6 (IntKind.wrap .i64 (p7 + 1))
 else none
 else
 l_spec_l2All_6 m0 m1 p0 p1 p2 p3 p4 p5 (IntKind.wrap .i64 (p6 + 1)) := by
 rewrite [h_spec_l2All_6, h_spec_l2All_9]
 kernel_rfl
abbrev As_spec_l1In : List ATy := [.data false (.int .i64), .data false (.int .i64), .data false (.int .i64)]
abbrev R_spec_l1In : List (Bool × Ty) := [(false, .bool)]
abbrev M_spec_l1In : List RMode := []
abbrev Ft_spec_l1In : Type := Int × Int × Int × Unit → Option (Bool × Unit)
def X_spec_l1In : Ctx := { types := TTk, globals := [], con := [], keep := [], results := [.tmp 6], ntmps := 15, n := N }
def B_spec_l1In : Code := (Tryz.f71.body).getD .skip
def P_spec_l1In : Ft_spec_l1In := hid (runF X_spec_l1In B_spec_l1In As_spec_l1In R_spec_l1In M_spec_l1In)
theorem h_spec_l1In : P_spec_l1In = runF X_spec_l1In B_spec_l1In As_spec_l1In R_spec_l1In M_spec_l1In := hid_eq _
def C_spec_l1In : Contract := ⟨As_spec_l1In, R_spec_l1In, M_spec_l1In, P_spec_l1In⟩
theorem s_spec_l1In : Sound Tryz.prog GG 71 C_spec_l1In := by
 unfold C_spec_l1In; rw [h_spec_l1In]
 exact mkSk Tryz.f71 trivial trivial
theorem p_spec_l1In (a0 a1 a2 : Int) : P_spec_l1In (a0, a1, a2, ()) =
 bif decide (a0 ≥ a1) then
 some (decide (a0 ≤ a2), ())
 else
 some (false, ()) := by
 rewrite [h_spec_l1In]
 kernel_rfl
abbrev As_spec_l1Least : List ATy := [.data false (.int .i64), .data false (.int .i64)]
abbrev R_spec_l1Least : List (Bool × Ty) := [(false, (.int .i64))]
abbrev M_spec_l1Least : List RMode := []
abbrev Ft_spec_l1Least : Type := Int × Int × Unit → Option (Int × Unit)
def X_spec_l1Least : Ctx := { types := TTk, globals := [], con := [], keep := [], results := [.tmp 4], ntmps := 10, n := N }
def B_spec_l1Least : Code := (Tryz.f78.body).getD .skip
def P_spec_l1Least : Ft_spec_l1Least := hid (runF X_spec_l1Least B_spec_l1Least As_spec_l1Least R_spec_l1Least M_spec_l1Least)
theorem h_spec_l1Least : P_spec_l1Least = runF X_spec_l1Least B_spec_l1Least As_spec_l1Least R_spec_l1Least M_spec_l1Least := hid_eq _
def C_spec_l1Least : Contract := ⟨As_spec_l1Least, R_spec_l1Least, M_spec_l1Least, P_spec_l1Least⟩
theorem s_spec_l1Least : Sound Tryz.prog GG 78 C_spec_l1Least := by
 unfold C_spec_l1Least; rw [h_spec_l1Least]
 exact mkSk Tryz.f78 trivial trivial
theorem p_spec_l1Least (a0 a1 : Int) : P_spec_l1Least (a0, a1, ()) =
 bif decide (a0 < a1) then
 some (a0, ())
 else
 some (a1, ()) := by
 rewrite [h_spec_l1Least]
 kernel_rfl
abbrev As_spec_l2Before : List ATy := [.data true T_A3, .data true T_A3]
abbrev R_spec_l2Before : List (Bool × Ty) := [(false, .bool)]
abbrev M_spec_l2Before : List RMode := []
abbrev Ft_spec_l2Before : Type := D_A3 × D_A3 × Unit → Option (Bool × Unit)
def X_spec_l2Before : Ctx := { types := TTk, globals := [], con := [], keep := [(2, ⟨[.box 2, .box 3, .tmp 2, .tmp 3, .tmp 5], []⟩)], results := [.tmp 4], ntmps := 24, n := N }
def B_spec_l2Before : Code := (Tryz.f79.body).getD .skip
def L_spec_l2Before_2 (m0 : Nat) (p0 p1 p2 p3 p4 p5 p6 : Int) : Option (denL R_spec_l2Before) := loopF X_spec_l2Before B_spec_l2Before R_spec_l2Before M_spec_l2Before 2 [m0] [(.ver, .num 1), (.box 2, .box 0 false [.int .i64 p0, .int .i64 p1, .int .i64 p2]), (.box 3, .box 0 false [.int .i64 p3, .int .i64 p4, .int .i64 p5]), (.tmp 2, .val false [.addr 2 0 0]), (.tmp 3, .val false [.addr 3 0 0]), (.tmp 5, .val false [.int .i64 p6])]
def P_spec_l2Before : Ft_spec_l2Before := hid (runF X_spec_l2Before B_spec_l2Before As_spec_l2Before R_spec_l2Before M_spec_l2Before)
theorem h_spec_l2Before : P_spec_l2Before = runF X_spec_l2Before B_spec_l2Before As_spec_l2Before R_spec_l2Before M_spec_l2Before := hid_eq _
def C_spec_l2Before : Contract := ⟨As_spec_l2Before, R_spec_l2Before, M_spec_l2Before, P_spec_l2Before⟩
theorem s_spec_l2Before : Sound Tryz.prog GG 79 C_spec_l2Before := by
 unfold C_spec_l2Before; rw [h_spec_l2Before]
 exact mkSk Tryz.f79 trivial trivial
def l_spec_l2Before_2 := hid (L_spec_l2Before_2)
theorem h_spec_l2Before_2 : l_spec_l2Before_2 = L_spec_l2Before_2 := hid_eq _
theorem p_spec_l2Before (a0 a1 : D_A3) : P_spec_l2Before (a0, a1, ()) =
 l_spec_l2Before_2 N a0.1 a0.2.1 a0.2.2.1 a1.1 a1.2.1 a1.2.2.1 0 := by
 rewrite [h_spec_l2Before, h_spec_l2Before_2]
 kernel_rfl
theorem q_spec_l2Before_2 (m0 : Nat) (p0 p1 p2 p3 p4 p5 p6 : Int) : l_spec_l2Before_2 (m0 + 1) p0 p1 p2 p3 p4 p5 p6 =
 bif decide (p6 < 3) then
 bif inB p6 3 then
 bif inB p6 3 then
 bif !decide ((bif decide (p6 = (0 : Int)) then p0 else (bif decide (p6 = (1 : Int)) then p1 else p2)) = (bif decide (p6 = (0 : Int)) then p3 else (bif decide (p6 = (1 : Int)) then p4 else p5))) then
 bif inB p6 3 then
 bif inB p6 3 then
 some (decide ((bif decide (p6 = (0 : Int)) then p0 else (bif decide (p6 = (1 : Int)) then p1 else p2)) < (bif decide (p6 = (0 : Int)) then p3 else (bif decide (p6 = (1 : Int)) then p4 else p5))), ())
 else none
 else none
 else
 l_spec_l2Before_2 m0 p0 p1 p2 p3 p4 p5 (IntKind.wrap .i64 (p6 + 1))
 else none
 else none
 else
 some (false, ()) := by
 rewrite [h_spec_l2Before_2]
 kernel_rfl
abbrev As_spec_l9Piece : List ATy := [.data false (.sl T_A3)]
abbrev R_spec_l9Piece : List (Bool × Ty) := [(false, .bool)]
abbrev M_spec_l9Piece : List RMode := []
abbrev Ft_spec_l9Piece : Type := (List D_A3) × Unit → Option (Bool × Unit)
def X_spec_l9Piece : Ctx := { types := TTk, globals := [], con := [(71, C_spec_l1In), (78, C_spec_l1Least), (79, C_spec_l2Before)], keep := [(5, ⟨[.box 3, .tmp 0, .tmp 3, .tmp 4], []⟩), (8, ⟨[.box 3, .tmp 0, .tmp 3, .tmp 4, .tmp 5], []⟩)], results := [.tmp 2], ntmps := 59, n := N }
def B_spec_l9Piece : Code := (Tryz.f54.body).getD .skip
def L_spec_l9Piece_5 (m0 : Nat) (p0 p1 p2 : Int) (p3 : List D_A3) (p4 : Int) : Option (denL R_spec_l9Piece) := loopF X_spec_l9Piece B_spec_l9Piece R_spec_l9Piece M_spec_l9Piece 5 [m0] [(.ver, .num 1), (.box 3, .box 0 false [.int .i64 p0, .int .i64 p1, .int .i64 p2]), (.tmp 0, .val false [.imm T_A3 p3 (some 0)]), (.tmp 3, .val false [.addr 3 0 0]), (.tmp 4, .val false [.int .i64 p4])]
def L_spec_l9Piece_8 (m0 m1 : Nat) (p0 p1 p2 : Int) (p3 : List D_A3) (p4 p5 : Int) : Option (denL R_spec_l9Piece) := loopF X_spec_l9Piece B_spec_l9Piece R_spec_l9Piece M_spec_l9Piece 8 [m0, m1] [(.ver, .num 1), (.box 3, .box 0 false [.int .i64 p0, .int .i64 p1, .int .i64 p2]), (.tmp 0, .val false [.imm T_A3 p3 (some 0)]), (.tmp 3, .val false [.addr 3 0 0]), (.tmp 4, .val false [.int .i64 p4]), (.tmp 5, .val false [.int .i64 p5])]
def P_spec_l9Piece : Ft_spec_l9Piece := hid (runF X_spec_l9Piece B_spec_l9Piece As_spec_l9Piece R_spec_l9Piece M_spec_l9Piece)
theorem h_spec_l9Piece : P_spec_l9Piece = runF X_spec_l9Piece B_spec_l9Piece As_spec_l9Piece R_spec_l9Piece M_spec_l9Piece := hid_eq _
def C_spec_l9Piece : Contract := ⟨As_spec_l9Piece, R_spec_l9Piece, M_spec_l9Piece, P_spec_l9Piece⟩
theorem s_spec_l9Piece : Sound Tryz.prog GG 54 C_spec_l9Piece := by
 unfold C_spec_l9Piece; rw [h_spec_l9Piece]
 exact mkSk Tryz.f54 ⟨s_spec_l1In, s_spec_l1Least, s_spec_l2Before, trivial⟩ trivial
def l_spec_l9Piece_5 := hid (L_spec_l9Piece_5)
theorem h_spec_l9Piece_5 : l_spec_l9Piece_5 = L_spec_l9Piece_5 := hid_eq _
def l_spec_l9Piece_8 := hid (L_spec_l9Piece_8)
theorem h_spec_l9Piece_8 : l_spec_l9Piece_8 = L_spec_l9Piece_8 := hid_eq _
theorem p_spec_l9Piece (a0 : List D_A3) : P_spec_l9Piece (a0, ()) =
 Option.bind (P_spec_l1In ((List.length a0 : Int), 1, 5, ())) fun r0 =>
 bif !r0.1 then
 some (false, ())
 else
 l_spec_l9Piece_5 N 4 4 4 a0 0 := by
 rewrite [h_spec_l9Piece, h_spec_l9Piece_5]
 kernel_rfl
theorem q_spec_l9Piece_5 (m0 : Nat) (p0 p1 p2 : Int) (p3 : List D_A3) (p4 : Int) : l_spec_l9Piece_5 (m0 + 1) p0 p1 p2 p3 p4 =
 bif decide (p4 < (List.length p3 : Int)) then
 l_spec_l9Piece_8 m0 N p0 p1 p2 p3 p4 0
 else
 some ((decide (p0 = 0) && (decide (p1 = 0) && (decide (p2 = 0) && true))), ()) := by
 rewrite [h_spec_l9Piece_5, h_spec_l9Piece_8]
 kernel_rfl
theorem q_spec_l9Piece_8 (m0 m1 : Nat) (p0 p1 p2 : Int) (p3 : List D_A3) (p4 p5 : Int) : l_spec_l9Piece_8 m0 (m1 + 1) p0 p1 p2 p3 p4 p5 =
 bif decide (p5 < 3) then
 bif inB p4 (List.length p3) then
 bif inB p5 3 then
 Option.bind (P_spec_l1In ((bif decide (p5 = (0 : Int)) then ((nth T_A3 p3 p4)).1 else (bif decide (p5 = (1 : Int)) then (((nth T_A3 p3 p4)).2).1 else ((((nth T_A3 p3 p4)).2).2).1)), 0, 3, ())) fun r3 =>
 bif !r3.1 then
 some (false, ())
 else
 bif inB p5 3 then
 bif inB p4 (List.length p3) then
 bif inB p5 3 then
 Option.bind (P_spec_l1Least ((bif decide (p5 = (0 : Int)) then p0 else (bif decide (p5 = (1 : Int)) then p1 else p2)), (bif decide (p5 = (0 : Int)) then ((nth T_A3 p3 p4)).1 else (bif decide (p5 = (1 : Int)) then (((nth T_A3 p3 p4)).2).1 else ((((nth T_A3 p3 p4)).2).2).1)), ())) fun r8 =>
 bif inB p5 3 then
 l_spec_l9Piece_8 m0 m1 (bif decide (p5 = (0 : Int)) then r8.1 else p0) (bif decide (p5 = (1 : Int)) then r8.1 else p1) (bif decide (p5 = (2 : Int)) then r8.1 else p2) p3 p4 (IntKind.wrap .i64 (p5 + 1))
 else none
 else none
 else none
 else none
 else none
 else none
 else
 bif decide (p4 > 0) then
 bif inB (IntKind.wrap .i64 (p4 - 1)) (List.length p3) then
 bif inB p4 (List.length p3) then
 Option.bind (P_spec_l2Before ((nth T_A3 p3 (IntKind.wrap .i64 (p4 - 1))), (nth T_A3 p3 p4), ())) fun r4 =>
 bif !r4.1 then
 some (false, ())
 else
 l_spec_l9Piece_5 m0 p0 p1 p2 p3 (IntKind.wrap .i64 (p4 + 1))
 else none
 else none
 else
 l_spec_l9Piece_5 m0 p0 p1 p2 p3 (IntKind.wrap .i64 (p4 + 1)) := by
 rewrite [h_spec_l9Piece_5, h_spec_l9Piece_8]
 kernel_rfl
abbrev As_spec_l2Empty : List ATy := [.data false (.int .i64), .data false (.int .i64), .data false (.int .i64)]
abbrev R_spec_l2Empty : List (Bool × Ty) := [(true, T_Heap)]
abbrev M_spec_l2Empty : List RMode := [.own 57]
abbrev Ft_spec_l2Empty : Type := Int × Int × Int × Unit → Option (D_Heap × Unit)
def X_spec_l2Empty : Ctx := { types := TTk, globals := [], con := [], keep := [], results := [.cell 6 26], ntmps := 12, n := N }
def B_spec_l2Empty : Code := (Tryz.f61.body).getD .skip
def P_spec_l2Empty : Ft_spec_l2Empty := hid (runF X_spec_l2Empty B_spec_l2Empty As_spec_l2Empty R_spec_l2Empty M_spec_l2Empty)
theorem h_spec_l2Empty : P_spec_l2Empty = runF X_spec_l2Empty B_spec_l2Empty As_spec_l2Empty R_spec_l2Empty M_spec_l2Empty := hid_eq _
def C_spec_l2Empty : Contract := ⟨As_spec_l2Empty, R_spec_l2Empty, M_spec_l2Empty, P_spec_l2Empty⟩
theorem s_spec_l2Empty : Sound Tryz.prog GG 61 C_spec_l2Empty := by
 unfold C_spec_l2Empty; rw [h_spec_l2Empty]
 exact mkSk Tryz.f61 trivial trivial
theorem p_spec_l2Empty (a0 a1 a2 : Int) : P_spec_l2Empty (a0, a1, a2, ()) =
 some ((a0, (a1, (a2, (([] : List D_A3), ())))), ()) := by
 rewrite [h_spec_l2Empty]
 kernel_rfl
abbrev As_spec_l2Has : List ATy := [.data true T_Heap, .data true T_A3]
abbrev R_spec_l2Has : List (Bool × Ty) := [(false, .bool)]
abbrev M_spec_l2Has : List RMode := []
abbrev Ft_spec_l2Has : Type := D_Heap × D_A3 × Unit → Option (Bool × Unit)
def X_spec_l2Has : Ctx := { types := TTk, globals := [], con := [], keep := [(2, ⟨[.box 2, .box 3, .tmp 2, .tmp 3, .tmp 5], []⟩)], results := [.tmp 4], ntmps := 20, n := N }
def B_spec_l2Has : Code := (Tryz.f62.body).getD .skip
def L_spec_l2Has_2 (m0 : Nat) (p0 p1 p2 : Int) (p3 : List D_A3) (p4 p5 p6 p7 : Int) : Option (denL R_spec_l2Has) := loopF X_spec_l2Has B_spec_l2Has R_spec_l2Has M_spec_l2Has 2 [m0] [(.ver, .num 1), (.box 2, .box 0 false [.int .i64 p0, .int .i64 p1, .int .i64 p2, .imm T_A3 p3 (some 3)]), (.box 3, .box 0 false [.int .i64 p4, .int .i64 p5, .int .i64 p6]), (.tmp 2, .val false [.addr 2 0 0]), (.tmp 3, .val false [.addr 3 0 0]), (.tmp 5, .val false [.int .i64 p7])]
def P_spec_l2Has : Ft_spec_l2Has := hid (runF X_spec_l2Has B_spec_l2Has As_spec_l2Has R_spec_l2Has M_spec_l2Has)
theorem h_spec_l2Has : P_spec_l2Has = runF X_spec_l2Has B_spec_l2Has As_spec_l2Has R_spec_l2Has M_spec_l2Has := hid_eq _
def C_spec_l2Has : Contract := ⟨As_spec_l2Has, R_spec_l2Has, M_spec_l2Has, P_spec_l2Has⟩
theorem s_spec_l2Has : Sound Tryz.prog GG 62 C_spec_l2Has := by
 unfold C_spec_l2Has; rw [h_spec_l2Has]
 exact mkSk Tryz.f62 trivial trivial
def l_spec_l2Has_2 := hid (L_spec_l2Has_2)
theorem h_spec_l2Has_2 : l_spec_l2Has_2 = L_spec_l2Has_2 := hid_eq _
theorem p_spec_l2Has (a0 : D_Heap) (a1 : D_A3) : P_spec_l2Has (a0, a1, ()) =
 l_spec_l2Has_2 N a0.1 a0.2.1 a0.2.2.1 a0.2.2.2.1 a1.1 a1.2.1 a1.2.2.1 0 := by
 rewrite [h_spec_l2Has, h_spec_l2Has_2]
 kernel_rfl
theorem q_spec_l2Has_2 (m0 : Nat) (p0 p1 p2 : Int) (p3 : List D_A3) (p4 p5 p6 p7 : Int) : l_spec_l2Has_2 (m0 + 1) p0 p1 p2 p3 p4 p5 p6 p7 =
 bif decide (p7 < (List.length p3 : Int)) then
 bif inB p7 (List.length p3) then
 bif (decide (((nth T_A3 p3 p7)).1 = p4) && (decide ((((nth T_A3 p3 p7)).2).1 = p5) && (decide (((((nth T_A3 p3 p7)).2).2).1 = p6) && true))) then
 some (true, ())
 else
 l_spec_l2Has_2 m0 p0 p1 p2 p3 p4 p5 p6 (IntKind.wrap .i64 (p7 + 1))
 else none
 else
 some (false, ()) := by
 rewrite [h_spec_l2Has_2]
 kernel_rfl
abbrev As_spec_l2Made : List ATy := [.data true T_Heap, .data false (.sl T_A3)]
abbrev R_spec_l2Made : List (Bool × Ty) := [(true, T_Heap)]
abbrev M_spec_l2Made : List RMode := [.pass 4]
abbrev Ft_spec_l2Made : Type := D_Heap × (List D_A3) × Unit → Option (D_Heap × Unit)
def X_spec_l2Made : Ctx := { types := TTk, globals := [], con := [], keep := [], results := [.cell 4 26], ntmps := 13, n := N }
def B_spec_l2Made : Code := (Tryz.f84.body).getD .skip
def P_spec_l2Made : Ft_spec_l2Made := hid (runF X_spec_l2Made B_spec_l2Made As_spec_l2Made R_spec_l2Made M_spec_l2Made)
theorem h_spec_l2Made : P_spec_l2Made = runF X_spec_l2Made B_spec_l2Made As_spec_l2Made R_spec_l2Made M_spec_l2Made := hid_eq _
def C_spec_l2Made : Contract := ⟨As_spec_l2Made, R_spec_l2Made, M_spec_l2Made, P_spec_l2Made⟩
theorem s_spec_l2Made : Sound Tryz.prog GG 84 C_spec_l2Made := by
 unfold C_spec_l2Made; rw [h_spec_l2Made]
 exact mkSk Tryz.f84 trivial trivial
theorem p_spec_l2Made (a0 : D_Heap) (a1 : List D_A3) : P_spec_l2Made (a0, a1, ()) =
 some ((a0.1, (a0.2.1, (a0.2.2.1, (a1, ())))), ()) := by
 rewrite [h_spec_l2Made]
 kernel_rfl
abbrev As_spec_l2Own : List ATy := [.data true T_Heap]
abbrev R_spec_l2Own : List (Bool × Ty) := [(true, T_Heap)]
abbrev M_spec_l2Own : List RMode := [.own 57]
abbrev Ft_spec_l2Own : Type := D_Heap × Unit → Option (D_Heap × Unit)
def X_spec_l2Own : Ctx := { types := TTk, globals := [], con := [(84, C_spec_l2Made)], keep := [], results := [.cell 2 26], ntmps := 9, n := N }
def B_spec_l2Own : Code := (Tryz.f63.body).getD .skip
def P_spec_l2Own : Ft_spec_l2Own := hid (runF X_spec_l2Own B_spec_l2Own As_spec_l2Own R_spec_l2Own M_spec_l2Own)
theorem h_spec_l2Own : P_spec_l2Own = runF X_spec_l2Own B_spec_l2Own As_spec_l2Own R_spec_l2Own M_spec_l2Own := hid_eq _
def C_spec_l2Own : Contract := ⟨As_spec_l2Own, R_spec_l2Own, M_spec_l2Own, P_spec_l2Own⟩
theorem s_spec_l2Own : Sound Tryz.prog GG 63 C_spec_l2Own := by
 unfold C_spec_l2Own; rw [h_spec_l2Own]
 exact mkSk Tryz.f63 ⟨s_spec_l2Made, trivial⟩ trivial
theorem p_spec_l2Own (a0 : D_Heap) : P_spec_l2Own (a0, ()) =
 bif (decide (((List.length ([] : List D_A3)) + (List.length a0.2.2.2.1)) * 24 ≤ 140737488355328) && decide (((List.length ([] : List D_A3)) + (List.length a0.2.2.2.1)) ≤ 140737488355328)) then
 Option.bind (P_spec_l2Made (a0, (([] : List D_A3) ++ a0.2.2.2.1), ())) fun r1 =>
 some ((r1.1.1, (r1.1.2.1, (r1.1.2.2.1, ((([] : List D_A3) ++ a0.2.2.2.1), ())))), ())
 else none := by
 rewrite [h_spec_l2Own]
 kernel_rfl
abbrev As_spec_l2With : List ATy := [.data true T_Heap, .data true T_A3]
abbrev R_spec_l2With : List (Bool × Ty) := [(true, T_Heap)]
abbrev M_spec_l2With : List RMode := [.own 57]
abbrev Ft_spec_l2With : Type := D_Heap × D_A3 × Unit → Option (D_Heap × Unit)
def X_spec_l2With : Ctx := { types := TTk, globals := [], con := [(63, C_spec_l2Own), (79, C_spec_l2Before), (84, C_spec_l2Made)], keep := [(2, ⟨[.box 2, .box 3, .box 4, .tmp 2, .tmp 3, .tmp 4, .tmp 5], []⟩)], results := [.cell 4 26], ntmps := 54, n := N }
def B_spec_l2With : Code := (Tryz.f66.body).getD .skip
def L_spec_l2With_2 (m0 : Nat) (p0 p1 p2 : Int) (p3 : List D_A3) (p4 p5 p6 p7 p8 p9 : Int) (p10 : List D_A3) (p11 : Int) : Option (denL R_spec_l2With) := loopF X_spec_l2With B_spec_l2With R_spec_l2With M_spec_l2With 2 [m0] [(.ver, .num 1), (.box 2, .box 0 false [.int .i64 p0, .int .i64 p1, .int .i64 p2, .imm T_A3 p3 (some 3)]), (.box 3, .box 0 false [.int .i64 p4, .int .i64 p5, .int .i64 p6]), (.box 4, .box 0 false [.int .i64 p7, .int .i64 p8, .int .i64 p9, .own 57 T_A3 0 p10]), (.tmp 2, .val false [.addr 2 0 0]), (.tmp 3, .val false [.addr 3 0 0]), (.tmp 4, .val false [.addr 4 0 0]), (.tmp 5, .val false [.int .i64 p11])]
def P_spec_l2With : Ft_spec_l2With := hid (runF X_spec_l2With B_spec_l2With As_spec_l2With R_spec_l2With M_spec_l2With)
theorem h_spec_l2With : P_spec_l2With = runF X_spec_l2With B_spec_l2With As_spec_l2With R_spec_l2With M_spec_l2With := hid_eq _
def C_spec_l2With : Contract := ⟨As_spec_l2With, R_spec_l2With, M_spec_l2With, P_spec_l2With⟩
theorem s_spec_l2With : Sound Tryz.prog GG 66 C_spec_l2With := by
 unfold C_spec_l2With; rw [h_spec_l2With]
 exact mkSk Tryz.f66 ⟨s_spec_l2Own, s_spec_l2Before, s_spec_l2Made, trivial⟩ trivial
def l_spec_l2With_2 := hid (L_spec_l2With_2)
theorem h_spec_l2With_2 : l_spec_l2With_2 = L_spec_l2With_2 := hid_eq _
theorem p_spec_l2With (a0 : D_Heap) (a1 : D_A3) : P_spec_l2With (a0, a1, ()) =
 l_spec_l2With_2 N a0.1 a0.2.1 a0.2.2.1 a0.2.2.2.1 a1.1 a1.2.1 a1.2.2.1 0 0 0 ([] : List D_A3) 0 := by
 rewrite [h_spec_l2With, h_spec_l2With_2]
 kernel_rfl
theorem q_spec_l2With_2 (m0 : Nat) (p0 p1 p2 : Int) (p3 : List D_A3) (p4 p5 p6 p7 p8 p9 : Int) (p10 : List D_A3) (p11 : Int) : l_spec_l2With_2 (m0 + 1) p0 p1 p2 p3 p4 p5 p6 p7 p8 p9 p10 p11 =
 bif decide (p11 < (List.length p3 : Int)) then
 bif inB p11 (List.length p3) then
 Option.bind (P_spec_l2Before ((nth T_A3 p3 p11), (p4, (p5, (p6, ()))), ())) fun r2 =>
 bif r2.1 then
 l_spec_l2With_2 m0 p0 p1 p2 p3 p4 p5 p6 p7 p8 p9 p10 (IntKind.wrap .i64 (p11 + 1))
 else
 bif decide (p11 < (List.length p3 : Int)) then
 bif inB p11 (List.length p3) then
 bif (decide (((nth T_A3 p3 p11)).1 = p4) && (decide ((((nth T_A3 p3 p11)).2).1 = p5) && (decide (((((nth T_A3 p3 p11)).2).2).1 = p6) && true))) then
 Option.bind (P_spec_l2Own ((p0, (p1, (p2, (p3, ())))), ())) fun r7 =>
 some (r7.1, ())
 else
 bif (decide ((0 : Int) ≤ 0) && decide ((0 : Int) ≤ p11) && decide (p11 ≤ (List.length p3 : Int))) then
 bif (decide (((List.length ([] : List D_A3)) + (List.length (cut p3 0 p11))) * 24 ≤ 140737488355328) && decide (((List.length ([] : List D_A3)) + (List.length (cut p3 0 p11))) ≤ 140737488355328)) then
 bif (decide (((List.length (([] : List D_A3) ++ (cut p3 0 p11))) + (List.length ([(p4, (p5, (p6, ())))] : List D_A3))) * 24 ≤ 140737488355328) && decide (((List.length (([] : List D_A3) ++ (cut p3 0 p11))) + (List.length ([(p4, (p5, (p6, ())))] : List D_A3))) ≤ 140737488355328)) then
 bif (decide ((0 : Int) ≤ p11) && decide (p11 ≤ (List.length p3 : Int)) && decide ((List.length p3 : Int) ≤ (List.length p3 : Int))) then
 bif (decide (((List.length ((([] : List D_A3) ++ (cut p3 0 p11)) ++ ([(p4, (p5, (p6, ())))] : List D_A3))) + (List.length (cut p3 p11 (List.length p3 : Int)))) * 24 ≤ 140737488355328) && decide (((List.length ((([] : List D_A3) ++ (cut p3 0 p11)) ++ ([(p4, (p5, (p6, ())))] : List D_A3))) + (List.length (cut p3 p11 (List.length p3 : Int)))) ≤ 140737488355328)) then
 Option.bind (P_spec_l2Made ((p0, (p1, (p2, (p3, ())))), (((([] : List D_A3) ++ (cut p3 0 p11)) ++ ([(p4, (p5, (p6, ())))] : List D_A3)) ++ (cut p3 p11 (List.length p3 : Int))), ())) fun r12 =>
 some ((r12.1.1, (r12.1.2.1, (r12.1.2.2.1, ((((([] : List D_A3) ++ (cut p3 0 p11)) ++ ([(p4, (p5, (p6, ())))] : List D_A3)) ++ (cut p3 p11 (List.length p3 : Int))), ())))), ())
 else none
 else none
 else none
 else none
 else none
 else none
 else
 bif (decide ((0 : Int) ≤ 0) && decide ((0 : Int) ≤ p11) && decide (p11 ≤ (List.length p3 : Int))) then
 bif (decide (((List.length ([] : List D_A3)) + (List.length (cut p3 0 p11))) * 24 ≤ 140737488355328) && decide (((List.length ([] : List D_A3)) + (List.length (cut p3 0 p11))) ≤ 140737488355328)) then
 bif (decide (((List.length (([] : List D_A3) ++ (cut p3 0 p11))) + (List.length ([(p4, (p5, (p6, ())))] : List D_A3))) * 24 ≤ 140737488355328) && decide (((List.length (([] : List D_A3) ++ (cut p3 0 p11))) + (List.length ([(p4, (p5, (p6, ())))] : List D_A3))) ≤ 140737488355328)) then
 bif (decide ((0 : Int) ≤ p11) && decide (p11 ≤ (List.length p3 : Int)) && decide ((List.length p3 : Int) ≤ (List.length p3 : Int))) then
 bif (decide (((List.length ((([] : List D_A3) ++ (cut p3 0 p11)) ++ ([(p4, (p5, (p6, ())))] : List D_A3))) + (List.length (cut p3 p11 (List.length p3 : Int)))) * 24 ≤ 140737488355328) && decide (((List.length ((([] : List D_A3) ++ (cut p3 0 p11)) ++ ([(p4, (p5, (p6, ())))] : List D_A3))) + (List.length (cut p3 p11 (List.length p3 : Int)))) ≤ 140737488355328)) then
 Option.bind (P_spec_l2Made ((p0, (p1, (p2, (p3, ())))), (((([] : List D_A3) ++ (cut p3 0 p11)) ++ ([(p4, (p5, (p6, ())))] : List D_A3)) ++ (cut p3 p11 (List.length p3 : Int))), ())) fun r10 =>
 some ((r10.1.1, (r10.1.2.1, (r10.1.2.2.1, ((((([] : List D_A3) ++ (cut p3 0 p11)) ++ ([(p4, (p5, (p6, ())))] : List D_A3)) ++ (cut p3 p11 (List.length p3 : Int))), ())))), ())
 else none
 else none
 else none
 else none
 else none
 else none
 else
 bif decide (p11 < (List.length p3 : Int)) then
 bif inB p11 (List.length p3) then
 bif (decide (((nth T_A3 p3 p11)).1 = p4) && (decide ((((nth T_A3 p3 p11)).2).1 = p5) && (decide (((((nth T_A3 p3 p11)).2).2).1 = p6) && true))) then
 Option.bind (P_spec_l2Own ((p0, (p1, (p2, (p3, ())))), ())) fun r4 =>
 some (r4.1, ())
 else
 bif (decide ((0 : Int) ≤ 0) && decide ((0 : Int) ≤ p11) && decide (p11 ≤ (List.length p3 : Int))) then
 bif (decide (((List.length ([] : List D_A3)) + (List.length (cut p3 0 p11))) * 24 ≤ 140737488355328) && decide (((List.length ([] : List D_A3)) + (List.length (cut p3 0 p11))) ≤ 140737488355328)) then
 bif (decide (((List.length (([] : List D_A3) ++ (cut p3 0 p11))) + (List.length ([(p4, (p5, (p6, ())))] : List D_A3))) * 24 ≤ 140737488355328) && decide (((List.length (([] : List D_A3) ++ (cut p3 0 p11))) + (List.length ([(p4, (p5, (p6, ())))] : List D_A3))) ≤ 140737488355328)) then
 bif (decide ((0 : Int) ≤ p11) && decide (p11 ≤ (List.length p3 : Int)) && decide ((List.length p3 : Int) ≤ (List.length p3 : Int))) then
 bif (decide (((List.length ((([] : List D_A3) ++ (cut p3 0 p11)) ++ ([(p4, (p5, (p6, ())))] : List D_A3))) + (List.length (cut p3 p11 (List.length p3 : Int)))) * 24 ≤ 140737488355328) && decide (((List.length ((([] : List D_A3) ++ (cut p3 0 p11)) ++ ([(p4, (p5, (p6, ())))] : List D_A3))) + (List.length (cut p3 p11 (List.length p3 : Int)))) ≤ 140737488355328)) then
 Option.bind (P_spec_l2Made ((p0, (p1, (p2, (p3, ())))), (((([] : List D_A3) ++ (cut p3 0 p11)) ++ ([(p4, (p5, (p6, ())))] : List D_A3)) ++ (cut p3 p11 (List.length p3 : Int))), ())) fun r9 =>
 some ((r9.1.1, (r9.1.2.1, (r9.1.2.2.1, ((((([] : List D_A3) ++ (cut p3 0 p11)) ++ ([(p4, (p5, (p6, ())))] : List D_A3)) ++ (cut p3 p11 (List.length p3 : Int))), ())))), ())
 else none
 else none
 else none
 else none
 else none
 else none
 else
 bif (decide ((0 : Int) ≤ 0) && decide ((0 : Int) ≤ p11) && decide (p11 ≤ (List.length p3 : Int))) then
 bif (decide (((List.length ([] : List D_A3)) + (List.length (cut p3 0 p11))) * 24 ≤ 140737488355328) && decide (((List.length ([] : List D_A3)) + (List.length (cut p3 0 p11))) ≤ 140737488355328)) then
 bif (decide (((List.length (([] : List D_A3) ++ (cut p3 0 p11))) + (List.length ([(p4, (p5, (p6, ())))] : List D_A3))) * 24 ≤ 140737488355328) && decide (((List.length (([] : List D_A3) ++ (cut p3 0 p11))) + (List.length ([(p4, (p5, (p6, ())))] : List D_A3))) ≤ 140737488355328)) then
 bif (decide ((0 : Int) ≤ p11) && decide (p11 ≤ (List.length p3 : Int)) && decide ((List.length p3 : Int) ≤ (List.length p3 : Int))) then
 bif (decide (((List.length ((([] : List D_A3) ++ (cut p3 0 p11)) ++ ([(p4, (p5, (p6, ())))] : List D_A3))) + (List.length (cut p3 p11 (List.length p3 : Int)))) * 24 ≤ 140737488355328) && decide (((List.length ((([] : List D_A3) ++ (cut p3 0 p11)) ++ ([(p4, (p5, (p6, ())))] : List D_A3))) + (List.length (cut p3 p11 (List.length p3 : Int)))) ≤ 140737488355328)) then
 Option.bind (P_spec_l2Made ((p0, (p1, (p2, (p3, ())))), (((([] : List D_A3) ++ (cut p3 0 p11)) ++ ([(p4, (p5, (p6, ())))] : List D_A3)) ++ (cut p3 p11 (List.length p3 : Int))), ())) fun r7 =>
 some ((r7.1.1, (r7.1.2.1, (r7.1.2.2.1, ((((([] : List D_A3) ++ (cut p3 0 p11)) ++ ([(p4, (p5, (p6, ())))] : List D_A3)) ++ (cut p3 p11 (List.length p3 : Int))), ())))), ())
 else none
 else none
 else none
 else none
 else none := by
 rewrite [h_spec_l2With_2]
 kernel_rfl
abbrev As_spec_l2Box : List ATy := [.data false (.int .i64), .data false (.int .i64), .data false (.int .i64)]
abbrev R_spec_l2Box : List (Bool × Ty) := [(true, T_Heap)]
abbrev M_spec_l2Box : List RMode := [.own 57]
abbrev Ft_spec_l2Box : Type := Int × Int × Int × Unit → Option (D_Heap × Unit)
def X_spec_l2Box : Ctx := { types := TTk, globals := [], con := [(44, C_spec_l2All), (61, C_spec_l2Empty)], keep := [], results := [.cell 6 26], ntmps := 16, n := N }
def B_spec_l2Box : Code := (Tryz.f85.body).getD .skip
def P_spec_l2Box : Ft_spec_l2Box := hid (runF X_spec_l2Box B_spec_l2Box As_spec_l2Box R_spec_l2Box M_spec_l2Box)
theorem h_spec_l2Box : P_spec_l2Box = runF X_spec_l2Box B_spec_l2Box As_spec_l2Box R_spec_l2Box M_spec_l2Box := hid_eq _
def C_spec_l2Box : Contract := ⟨As_spec_l2Box, R_spec_l2Box, M_spec_l2Box, P_spec_l2Box⟩
theorem s_spec_l2Box : Sound Tryz.prog GG 85 C_spec_l2Box := by
 unfold C_spec_l2Box; rw [h_spec_l2Box]
 exact mkSk Tryz.f85 ⟨s_spec_l2All, s_spec_l2Empty, trivial⟩ trivial
theorem p_spec_l2Box (a0 a1 a2 : Int) : P_spec_l2Box (a0, a1, a2, ()) =
 Option.bind (P_spec_l2Empty (a0, a1, a2, ())) fun r0 =>
 Option.bind (P_spec_l2All (r0.1, ())) fun r1 =>
 some ((r0.1.1, (r0.1.2.1, (r0.1.2.2.1, (r1.1, ())))), ()) := by
 rewrite [h_spec_l2Box]
 kernel_rfl
abbrev As_l1Cur_piece9 : List ATy := [.lptr T_l1Cur]
abbrev R_l1Cur_piece9 : List (Bool × Ty) := [(false, (.sl T_A3))]
abbrev M_l1Cur_piece9 : List RMode := [.own 57]
abbrev Ft_l1Cur_piece9 : Type := D_l1Cur × Unit → Option (((List D_A3) × Unit) × (D_l1Cur × Unit))
def X_l1Cur_piece9 : Ctx := { types := TTk, globals := [], con := [(61, C_spec_l2Empty), (66, C_spec_l2With), (78, C_spec_l1Least), (85, C_spec_l2Box)], mcon := [(37, C_l1Cur_one), (40, C_l1Cur_pick)], keep := [(7, ⟨[.box 5, .box 1000000, .tmp 0, .tmp 5, .tmp 6], []⟩), (15, ⟨[.box 5, .box 1000000, .tmp 5, .tmp 7, .tmp 8, .tmp 9], []⟩), (19, ⟨[.box 5, .box 1000000, .tmp 5, .tmp 7, .tmp 8, .tmp 10], []⟩)], results := [.tmp 2], ntmps := 114, n := N }
def B_l1Cur_piece9 : Code := (Tryz.f64.body).getD .skip
def L_l1Cur_piece9_7 (m0 : Nat) (p0 p1 p2 : Int) (p3 : List D_A3) (p4 : List Int) (p5 p6 p7 : Int) : Option (denL R_l1Cur_piece9 × denM As_l1Cur_piece9) := loopFM X_l1Cur_piece9 B_l1Cur_piece9 As_l1Cur_piece9 R_l1Cur_piece9 M_l1Cur_piece9 7 [m0] [(.ver, .num 1), (.box 5, .box 0 false [.int .i64 p0, .int .i64 p1, .int .i64 p2, .own 57 T_A3 0 p3]), (.box 1000000, .box 0 false [.imm (.int .u8) p4 (some 1), .int .i64 p5, .int .u64 p6]), (.tmp 0, .val false [.addr 1000000 0 0]), (.tmp 5, .val false [.addr 5 0 0]), (.tmp 6, .val false [.int .i64 p7])]
def L_l1Cur_piece9_15 (m0 : Nat) (p0 p1 p2 : Int) (p3 : List D_A3) (p4 : List Int) (p5 p6 : Int) (p7 : List D_A3) (p8 p9 : Int) : Option (denL R_l1Cur_piece9 × denM As_l1Cur_piece9) := loopFM X_l1Cur_piece9 B_l1Cur_piece9 As_l1Cur_piece9 R_l1Cur_piece9 M_l1Cur_piece9 15 [m0] [(.ver, .num 1), (.box 5, .box 0 false [.int .i64 p0, .int .i64 p1, .int .i64 p2, .own 57 T_A3 0 p3]), (.box 1000000, .box 0 false [.imm (.int .u8) p4 (some 1), .int .i64 p5, .int .u64 p6]), (.tmp 5, .val false [.addr 5 0 0]), (.tmp 7, .val false [.own 57 T_A3 0 p7]), (.tmp 8, .val false [.int .i64 p8]), (.tmp 9, .val false [.int .i64 p9])]
def L_l1Cur_piece9_19 (m0 : Nat) (p0 p1 p2 : Int) (p3 : List D_A3) (p4 : List Int) (p5 p6 : Int) (p7 : List D_A3) (p8 p9 : Int) : Option (denL R_l1Cur_piece9 × denM As_l1Cur_piece9) := loopFM X_l1Cur_piece9 B_l1Cur_piece9 As_l1Cur_piece9 R_l1Cur_piece9 M_l1Cur_piece9 19 [m0] [(.ver, .num 1), (.box 5, .box 0 false [.int .i64 p0, .int .i64 p1, .int .i64 p2, .own 57 T_A3 0 p3]), (.box 1000000, .box 0 false [.imm (.int .u8) p4 (some 1), .int .i64 p5, .int .u64 p6]), (.tmp 5, .val false [.addr 5 0 0]), (.tmp 7, .val false [.own 57 T_A3 0 p7]), (.tmp 8, .val false [.int .i64 p8]), (.tmp 10, .val false [.int .i64 p9])]
def P_l1Cur_piece9 : Ft_l1Cur_piece9 := hid (runFM X_l1Cur_piece9 B_l1Cur_piece9 As_l1Cur_piece9 R_l1Cur_piece9 M_l1Cur_piece9)
theorem h_l1Cur_piece9 : P_l1Cur_piece9 = runFM X_l1Cur_piece9 B_l1Cur_piece9 As_l1Cur_piece9 R_l1Cur_piece9 M_l1Cur_piece9 := hid_eq _
def C_l1Cur_piece9 : MContract := ⟨As_l1Cur_piece9, R_l1Cur_piece9, M_l1Cur_piece9, P_l1Cur_piece9⟩
theorem s_l1Cur_piece9 : SoundM Tryz.prog n0 GG 64 C_l1Cur_piece9 := by
 unfold C_l1Cur_piece9; rw [h_l1Cur_piece9]
 exact mkSMk Tryz.f64 ⟨s_spec_l2Empty, s_spec_l2With, s_spec_l1Least, s_spec_l2Box, trivial⟩ ⟨s_l1Cur_one, s_l1Cur_pick, trivial⟩
def l_l1Cur_piece9_7 := hid (L_l1Cur_piece9_7)
theorem h_l1Cur_piece9_7 : l_l1Cur_piece9_7 = L_l1Cur_piece9_7 := hid_eq _
def l_l1Cur_piece9_15 := hid (L_l1Cur_piece9_15)
theorem h_l1Cur_piece9_15 : l_l1Cur_piece9_15 = L_l1Cur_piece9_15 := hid_eq _
def l_l1Cur_piece9_19 := hid (L_l1Cur_piece9_19)
theorem h_l1Cur_piece9_19 : l_l1Cur_piece9_19 = L_l1Cur_piece9_19 := hid_eq _
theorem p_l1Cur_piece9 (a0 : D_l1Cur) : P_l1Cur_piece9 (a0, ()) =
 Option.bind (P_l1Cur_one (a0, 4, ())) fun r0 =>
 bif !r0.1.1 then
 Option.bind (P_l1Cur_pick ((a0.1, r0.2.1.2), (List.length ([(1, (1, (2, ()))), (2, (1, (1, ()))), (1, (2, (1, ()))), (1, (1, (1, ()))), (1, (1, (3, ()))), (2, (2, (1, ()))), (3, (1, (1, ())))] : List D_A3) : Int), ())) fun r2 =>
 bif inB r2.1.1 (List.length ([(1, (1, (2, ()))), (2, (1, (1, ()))), (1, (2, (1, ()))), (1, (1, (1, ()))), (1, (1, (3, ()))), (2, (2, (1, ()))), (3, (1, (1, ())))] : List D_A3)) then
 Option.bind (P_spec_l2Box (((nth T_A3 ([(1, (1, (2, ()))), (2, (1, (1, ()))), (1, (2, (1, ()))), (1, (1, (1, ()))), (1, (1, (3, ()))), (2, (2, (1, ()))), (3, (1, (1, ())))] : List D_A3) r2.1.1)).1, (((nth T_A3 ([(1, (1, (2, ()))), (2, (1, (1, ()))), (1, (2, (1, ()))), (1, (1, (1, ()))), (1, (1, (3, ()))), (2, (2, (1, ()))), (3, (1, (1, ())))] : List D_A3) r2.1.1)).2).1, ((((nth T_A3 ([(1, (1, (2, ()))), (2, (1, (1, ()))), (1, (2, (1, ()))), (1, (1, (1, ()))), (1, (1, (3, ()))), (2, (2, (1, ()))), (3, (1, (1, ())))] : List D_A3) r2.1.1)).2).2).1, ())) fun r4 =>
 some ((r4.1.2.2.2.1, ()), ((a0.1, r2.2.1.2), ()))
 else none
 else
 Option.bind (P_spec_l2Empty (2, 2, 2, ())) fun r2 =>
 Option.bind (P_l1Cur_pick ((a0.1, r0.2.1.2), 2, ())) fun r3 =>
 Option.bind (P_spec_l2With (r2.1, (0, (0, (r3.1.1, ()))), ())) fun r4 =>
 Option.bind (P_l1Cur_pick ((a0.1, r3.2.1.2), 4, ())) fun r5 =>
 l_l1Cur_piece9_7 N r4.1.1 r4.1.2.1 r4.1.2.2.1 r4.1.2.2.2.1 a0.1 r5.2.1.2.1 r5.2.1.2.2.1 r5.1.1 := by
 rewrite [h_l1Cur_piece9, h_l1Cur_piece9_7]
 kernel_rfl
theorem q_l1Cur_piece9_7 (m0 : Nat) (p0 p1 p2 : Int) (p3 : List D_A3) (p4 : List Int) (p5 p6 p7 : Int) : l_l1Cur_piece9_7 (m0 + 1) p0 p1 p2 p3 p4 p5 p6 p7 =
 bif decide (p7 > 0) then
 Option.bind (P_l1Cur_pick ((p4, (p5, (p6, ()))), 2, ())) fun r1 =>
 Option.bind (P_l1Cur_pick ((p4, r1.2.1.2), 2, ())) fun r2 =>
 Option.bind (P_l1Cur_pick ((p4, r2.2.1.2), 2, ())) fun r3 =>
 Option.bind (P_spec_l2With ((p0, (p1, (p2, (p3, ())))), (r1.1.1, (r2.1.1, (r3.1.1, ()))), ())) fun r4 =>
 l_l1Cur_piece9_7 m0 r4.1.1 r4.1.2.1 r4.1.2.2.1 r4.1.2.2.2.1 p4 r3.2.1.2.1 r3.2.1.2.2.1 (IntKind.wrap .i64 (p7 - 1))
 else
 Option.bind (P_l1Cur_one ((p4, (p5, (p6, ()))), 12, ())) fun r1 =>
 bif r1.1.1 then
 Option.bind (P_l1Cur_pick ((p4, r1.2.1.2), 5, ())) fun r3 =>
 bif (decide (((List.length p3) + (List.length ([(r3.1.1, ((-1), (0, ())))] : List D_A3))) * 24 ≤ 140737488355328) && decide (((List.length p3) + (List.length ([(r3.1.1, ((-1), (0, ())))] : List D_A3))) ≤ 140737488355328)) then
 some (((p3 ++ ([(r3.1.1, ((-1), (0, ())))] : List D_A3)), ()), ((p4, r3.2.1.2), ()))
 else none
 else
 l_l1Cur_piece9_15 N p0 p1 p2 p3 p4 r1.2.1.2.1 r1.2.1.2.2.1 ([] : List D_A3) 1 0 := by
 rewrite [h_l1Cur_piece9_7, h_l1Cur_piece9_15]
 kernel_rfl
theorem q_l1Cur_piece9_15 (m0 : Nat) (p0 p1 p2 : Int) (p3 : List D_A3) (p4 : List Int) (p5 p6 : Int) (p7 : List D_A3) (p8 p9 : Int) : l_l1Cur_piece9_15 (m0 + 1) p0 p1 p2 p3 p4 p5 p6 p7 p8 p9 =
 bif decide (p9 < (List.length p3 : Int)) then
 bif inB p9 (List.length p3) then
 Option.bind (P_spec_l1Least (p8, ((((nth T_A3 p3 p9)).2).2).1, ())) fun r2 =>
 l_l1Cur_piece9_15 m0 p0 p1 p2 p3 p4 p5 p6 p7 r2.1 (IntKind.wrap .i64 (p9 + 1))
 else none
 else
 l_l1Cur_piece9_19 N p0 p1 p2 p3 p4 p5 p6 p7 p8 0 := by
 rewrite [h_l1Cur_piece9_15, h_l1Cur_piece9_19]
 kernel_rfl
theorem q_l1Cur_piece9_19 (m0 : Nat) (p0 p1 p2 : Int) (p3 : List D_A3) (p4 : List Int) (p5 p6 : Int) (p7 : List D_A3) (p8 p9 : Int) : l_l1Cur_piece9_19 (m0 + 1) p0 p1 p2 p3 p4 p5 p6 p7 p8 p9 =
 bif decide (p9 < (List.length p3 : Int)) then
 bif inB p9 (List.length p3) then
 bif inB p9 (List.length p3) then
 bif inB p9 (List.length p3) then
 bif (decide (((List.length p7) + (List.length ([(((nth T_A3 p3 p9)).1, ((((nth T_A3 p3 p9)).2).1, ((IntKind.wrap .i64 (((((nth T_A3 p3 p9)).2).2).1 - p8)), ())))] : List D_A3))) * 24 ≤ 140737488355328) && decide (((List.length p7) + (List.length ([(((nth T_A3 p3 p9)).1, ((((nth T_A3 p3 p9)).2).1, ((IntKind.wrap .i64 (((((nth T_A3 p3 p9)).2).2).1 - p8)), ())))] : List D_A3))) ≤ 140737488355328)) then
 l_l1Cur_piece9_19 m0 p0 p1 p2 p3 p4 p5 p6 (p7 ++ ([(((nth T_A3 p3 p9)).1, ((((nth T_A3 p3 p9)).2).1, ((IntKind.wrap .i64 (((((nth T_A3 p3 p9)).2).2).1 - p8)), ())))] : List D_A3)) p8 (IntKind.wrap .i64 (p9 + 1))
 else none
 else none
 else none
 else none
 else
 some ((p7, ()), ((p4, (p5, (p6, ()))), ())) := by
 rewrite [h_l1Cur_piece9_19]
 kernel_rfl
abbrev As_spec_l9Moved : List ATy := [.data false (.sl T_A3), .data true T_A3]
abbrev R_spec_l9Moved : List (Bool × Ty) := [(false, (.sl T_A3))]
abbrev M_spec_l9Moved : List RMode := [.own 57]
abbrev Ft_spec_l9Moved : Type := (List D_A3) × D_A3 × Unit → Option ((List D_A3) × Unit)
def X_spec_l9Moved : Ctx := { types := TTk, globals := [], con := [], keep := [(3, ⟨[.box 3, .tmp 0, .tmp 3, .tmp 5, .tmp 6], []⟩)], results := [.tmp 4], ntmps := 43, n := N }
def B_spec_l9Moved : Code := (Tryz.f67.body).getD .skip
def L_spec_l9Moved_3 (m0 : Nat) (p0 p1 p2 : Int) (p3 p4 : List D_A3) (p5 : Int) : Option (denL R_spec_l9Moved) := loopF X_spec_l9Moved B_spec_l9Moved R_spec_l9Moved M_spec_l9Moved 3 [m0] [(.ver, .num 1), (.box 3, .box 0 false [.int .i64 p0, .int .i64 p1, .int .i64 p2]), (.tmp 0, .val false [.imm T_A3 p3 (some 0)]), (.tmp 3, .val false [.addr 3 0 0]), (.tmp 5, .val false [.own 57 T_A3 0 p4]), (.tmp 6, .val false [.int .i64 p5])]
def P_spec_l9Moved : Ft_spec_l9Moved := hid (runF X_spec_l9Moved B_spec_l9Moved As_spec_l9Moved R_spec_l9Moved M_spec_l9Moved)
theorem h_spec_l9Moved : P_spec_l9Moved = runF X_spec_l9Moved B_spec_l9Moved As_spec_l9Moved R_spec_l9Moved M_spec_l9Moved := hid_eq _
def C_spec_l9Moved : Contract := ⟨As_spec_l9Moved, R_spec_l9Moved, M_spec_l9Moved, P_spec_l9Moved⟩
theorem s_spec_l9Moved : Sound Tryz.prog GG 67 C_spec_l9Moved := by
 unfold C_spec_l9Moved; rw [h_spec_l9Moved]
 exact mkSk Tryz.f67 trivial trivial
def l_spec_l9Moved_3 := hid (L_spec_l9Moved_3)
theorem h_spec_l9Moved_3 : l_spec_l9Moved_3 = L_spec_l9Moved_3 := hid_eq _
theorem p_spec_l9Moved (a0 : List D_A3) (a1 : D_A3) : P_spec_l9Moved (a0, a1, ()) =
 l_spec_l9Moved_3 N a1.1 a1.2.1 a1.2.2.1 a0 ([] : List D_A3) 0 := by
 rewrite [h_spec_l9Moved, h_spec_l9Moved_3]
 kernel_rfl
theorem q_spec_l9Moved_3 (m0 : Nat) (p0 p1 p2 : Int) (p3 p4 : List D_A3) (p5 : Int) : l_spec_l9Moved_3 (m0 + 1) p0 p1 p2 p3 p4 p5 =
 bif decide (p5 < (List.length p3 : Int)) then
 bif inB p5 (List.length p3) then
 bif inB p5 (List.length p3) then
 bif inB p5 (List.length p3) then
 bif (decide (((List.length p4) + (List.length ([((IntKind.wrap .i64 (((nth T_A3 p3 p5)).1 + p0)), ((IntKind.wrap .i64 ((((nth T_A3 p3 p5)).2).1 + p1)), ((IntKind.wrap .i64 (((((nth T_A3 p3 p5)).2).2).1 + p2)), ())))] : List D_A3))) * 24 ≤ 140737488355328) && decide (((List.length p4) + (List.length ([((IntKind.wrap .i64 (((nth T_A3 p3 p5)).1 + p0)), ((IntKind.wrap .i64 ((((nth T_A3 p3 p5)).2).1 + p1)), ((IntKind.wrap .i64 (((((nth T_A3 p3 p5)).2).2).1 + p2)), ())))] : List D_A3))) ≤ 140737488355328)) then
 l_spec_l9Moved_3 m0 p0 p1 p2 p3 (p4 ++ ([((IntKind.wrap .i64 (((nth T_A3 p3 p5)).1 + p0)), ((IntKind.wrap .i64 ((((nth T_A3 p3 p5)).2).1 + p1)), ((IntKind.wrap .i64 (((((nth T_A3 p3 p5)).2).2).1 + p2)), ())))] : List D_A3)) (IntKind.wrap .i64 (p5 + 1))
 else none
 else none
 else none
 else none
 else
 some (p4, ()) := by
 rewrite [h_spec_l9Moved_3]
 kernel_rfl
abbrev As_spec_l2In : List ATy := [.data true T_Heap, .data true T_A3]
abbrev R_spec_l2In : List (Bool × Ty) := [(false, .bool)]
abbrev M_spec_l2In : List RMode := []
abbrev Ft_spec_l2In : Type := D_Heap × D_A3 × Unit → Option (Bool × Unit)
def X_spec_l2In : Ctx := { types := TTk, globals := [], con := [(71, C_spec_l1In)], keep := [], results := [.tmp 4], ntmps := 27, n := N }
def B_spec_l2In : Code := (Tryz.f81.body).getD .skip
def P_spec_l2In : Ft_spec_l2In := hid (runF X_spec_l2In B_spec_l2In As_spec_l2In R_spec_l2In M_spec_l2In)
theorem h_spec_l2In : P_spec_l2In = runF X_spec_l2In B_spec_l2In As_spec_l2In R_spec_l2In M_spec_l2In := hid_eq _
def C_spec_l2In : Contract := ⟨As_spec_l2In, R_spec_l2In, M_spec_l2In, P_spec_l2In⟩
theorem s_spec_l2In : Sound Tryz.prog GG 81 C_spec_l2In := by
 unfold C_spec_l2In; rw [h_spec_l2In]
 exact mkSk Tryz.f81 ⟨s_spec_l1In, trivial⟩ trivial
theorem p_spec_l2In (a0 : D_Heap) (a1 : D_A3) : P_spec_l2In (a0, a1, ()) =
 Option.bind (P_spec_l1In (a1.1, 0, (IntKind.wrap .i64 (a0.1 - 1)), ())) fun r0 =>
 bif r0.1 then
 Option.bind (P_spec_l1In (a1.2.1, 0, (IntKind.wrap .i64 (a0.2.1 - 1)), ())) fun r2 =>
 bif r2.1 then
 Option.bind (P_spec_l1In (a1.2.2.1, 0, (IntKind.wrap .i64 (a0.2.2.1 - 1)), ())) fun r4 =>
 some (r4.1, ())
 else
 some (false, ())
 else
 some (false, ()) := by
 rewrite [h_spec_l2In]
 kernel_rfl
abbrev As_spec_l9Fits : List ATy := [.data true T_Heap, .data false (.sl T_A3), .data true T_A3]
abbrev R_spec_l9Fits : List (Bool × Ty) := [(false, .bool)]
abbrev M_spec_l9Fits : List RMode := []
abbrev Ft_spec_l9Fits : Type := D_Heap × (List D_A3) × D_A3 × Unit → Option (Bool × Unit)
def X_spec_l9Fits : Ctx := { types := TTk, globals := [], con := [(62, C_spec_l2Has), (67, C_spec_l9Moved), (71, C_spec_l1In), (81, C_spec_l2In)], keep := [(2, ⟨[.box 3, .box 5, .tmp 1, .tmp 3, .tmp 5, .tmp 7], []⟩), (8, ⟨[.box 3, .tmp 3, .tmp 8, .tmp 9], []⟩)], results := [.tmp 6], ntmps := 43, n := N }
def B_spec_l9Fits : Code := (Tryz.f65.body).getD .skip
def L_spec_l9Fits_2 (m0 : Nat) (p0 p1 p2 : Int) (p3 : List D_A3) (p4 p5 p6 : Int) (p7 : List D_A3) (p8 : Int) : Option (denL R_spec_l9Fits) := loopF X_spec_l9Fits B_spec_l9Fits R_spec_l9Fits M_spec_l9Fits 2 [m0] [(.ver, .num 1), (.box 3, .box 0 false [.int .i64 p0, .int .i64 p1, .int .i64 p2, .imm T_A3 p3 (some 3)]), (.box 5, .box 0 false [.int .i64 p4, .int .i64 p5, .int .i64 p6]), (.tmp 1, .val false [.imm T_A3 p7 (some 4)]), (.tmp 3, .val false [.addr 3 0 0]), (.tmp 5, .val false [.addr 5 0 0]), (.tmp 7, .val false [.int .i64 p8])]
def L_spec_l9Fits_8 (m0 : Nat) (p0 p1 p2 : Int) (p3 p4 : List D_A3) (p5 : Int) : Option (denL R_spec_l9Fits) := loopF X_spec_l9Fits B_spec_l9Fits R_spec_l9Fits M_spec_l9Fits 8 [m0] [(.ver, .num 1), (.box 3, .box 0 false [.int .i64 p0, .int .i64 p1, .int .i64 p2, .imm T_A3 p3 (some 3)]), (.tmp 3, .val false [.addr 3 0 0]), (.tmp 8, .val false [.own 57 T_A3 0 p4]), (.tmp 9, .val false [.int .i64 p5])]
def P_spec_l9Fits : Ft_spec_l9Fits := hid (runF X_spec_l9Fits B_spec_l9Fits As_spec_l9Fits R_spec_l9Fits M_spec_l9Fits)
theorem h_spec_l9Fits : P_spec_l9Fits = runF X_spec_l9Fits B_spec_l9Fits As_spec_l9Fits R_spec_l9Fits M_spec_l9Fits := hid_eq _
def C_spec_l9Fits : Contract := ⟨As_spec_l9Fits, R_spec_l9Fits, M_spec_l9Fits, P_spec_l9Fits⟩
theorem s_spec_l9Fits : Sound Tryz.prog GG 65 C_spec_l9Fits := by
 unfold C_spec_l9Fits; rw [h_spec_l9Fits]
 exact mkSk Tryz.f65 ⟨s_spec_l2Has, s_spec_l9Moved, s_spec_l1In, s_spec_l2In, trivial⟩ trivial
def l_spec_l9Fits_2 := hid (L_spec_l9Fits_2)
theorem h_spec_l9Fits_2 : l_spec_l9Fits_2 = L_spec_l9Fits_2 := hid_eq _
def l_spec_l9Fits_8 := hid (L_spec_l9Fits_8)
theorem h_spec_l9Fits_8 : l_spec_l9Fits_8 = L_spec_l9Fits_8 := hid_eq _
theorem p_spec_l9Fits (a0 : D_Heap) (a1 : List D_A3) (a2 : D_A3) : P_spec_l9Fits (a0, a1, a2, ()) =
 l_spec_l9Fits_2 N a0.1 a0.2.1 a0.2.2.1 a0.2.2.2.1 a2.1 a2.2.1 a2.2.2.1 a1 0 := by
 rewrite [h_spec_l9Fits, h_spec_l9Fits_2]
 kernel_rfl
theorem q_spec_l9Fits_2 (m0 : Nat) (p0 p1 p2 : Int) (p3 : List D_A3) (p4 p5 p6 : Int) (p7 : List D_A3) (p8 : Int) : l_spec_l9Fits_2 (m0 + 1) p0 p1 p2 p3 p4 p5 p6 p7 p8 =
 bif decide (p8 < 3) then
 bif inB p8 3 then
 Option.bind (P_spec_l1In ((bif decide (p8 = (0 : Int)) then p4 else (bif decide (p8 = (1 : Int)) then p5 else p6)), 0, 3, ())) fun r2 =>
 bif !r2.1 then
 some (false, ())
 else
 l_spec_l9Fits_2 m0 p0 p1 p2 p3 p4 p5 p6 p7 (IntKind.wrap .i64 (p8 + 1))
 else none
 else
 Option.bind (P_spec_l9Moved (p7, (p4, (p5, (p6, ()))), ())) fun r1 =>
 l_spec_l9Fits_8 N p0 p1 p2 p3 r1.1 0 := by
 rewrite [h_spec_l9Fits_2, h_spec_l9Fits_8]
 kernel_rfl
theorem q_spec_l9Fits_8 (m0 : Nat) (p0 p1 p2 : Int) (p3 p4 : List D_A3) (p5 : Int) : l_spec_l9Fits_8 (m0 + 1) p0 p1 p2 p3 p4 p5 =
 bif decide (p5 < (List.length p4 : Int)) then
 bif inB p5 (List.length p4) then
 Option.bind (P_spec_l2In ((p0, (p1, (p2, (p3, ())))), (nth T_A3 p4 p5), ())) fun r2 =>
 bif !r2.1 then
 some (false, ())
 else
 bif inB p5 (List.length p4) then
 Option.bind (P_spec_l2Has ((p0, (p1, (p2, (p3, ())))), (nth T_A3 p4 p5), ())) fun r5 =>
 bif r5.1 then
 some (false, ())
 else
 l_spec_l9Fits_8 m0 p0 p1 p2 p3 p4 (IntKind.wrap .i64 (p5 + 1))
 else none
 else none
 else
 some (true, ()) := by
 rewrite [h_spec_l9Fits_8]
 kernel_rfl
abbrev As_l1Cur_sides : List ATy := [.lptr T_l1Cur]
abbrev R_l1Cur_sides : List (Bool × Ty) := [(false, (.int .i64)), (false, (.int .i64)), (false, (.int .i64))]
abbrev M_l1Cur_sides : List RMode := []
abbrev Ft_l1Cur_sides : Type := D_l1Cur × Unit → Option ((Int × Int × Int × Unit) × (D_l1Cur × Unit))
def X_l1Cur_sides : Ctx := { types := TTk, globals := [], con := [], mcon := [(39, C_l1Cur_among), (40, C_l1Cur_pick)], keep := [], results := [.tmp 2, .tmp 3, .tmp 4], ntmps := 37, n := N }
def B_l1Cur_sides : Code := (Tryz.f86.body).getD .skip
def P_l1Cur_sides : Ft_l1Cur_sides := hid (runFM X_l1Cur_sides B_l1Cur_sides As_l1Cur_sides R_l1Cur_sides M_l1Cur_sides)
theorem h_l1Cur_sides : P_l1Cur_sides = runFM X_l1Cur_sides B_l1Cur_sides As_l1Cur_sides R_l1Cur_sides M_l1Cur_sides := hid_eq _
def C_l1Cur_sides : MContract := ⟨As_l1Cur_sides, R_l1Cur_sides, M_l1Cur_sides, P_l1Cur_sides⟩
theorem s_l1Cur_sides : SoundM Tryz.prog n0 GG 86 C_l1Cur_sides := by
 unfold C_l1Cur_sides; rw [h_l1Cur_sides]
 exact mkSMk Tryz.f86 trivial ⟨s_l1Cur_among, s_l1Cur_pick, trivial⟩
theorem p_l1Cur_sides (a0 : D_l1Cur) : P_l1Cur_sides (a0, ()) =
 Option.bind (P_l1Cur_among (a0, ([2, 3, 3, 1, 4] : List Int), ())) fun r0 =>
 Option.bind (P_l1Cur_among ((a0.1, r0.2.1.2), ([2, 3, 2, 1, 4] : List Int), ())) fun r1 =>
 Option.bind (P_l1Cur_among ((a0.1, r1.2.1.2), ([2, 3, 3, 1, 4] : List Int), ())) fun r2 =>
 Option.bind (P_l1Cur_pick ((a0.1, r2.2.1.2), 60, ())) fun r3 =>
 bif decide (r3.1.1 = 0) then
 Option.bind (P_l1Cur_among ((a0.1, r3.2.1.2), ([0, 5, (-1), 4611686018427387904] : List Int), ())) fun r5 =>
 some ((r5.1.1, r1.1.1, r2.1.1, ()), ((a0.1, r5.2.1.2), ()))
 else
 bif decide (r3.1.1 = 1) then
 Option.bind (P_l1Cur_among ((a0.1, r3.2.1.2), ([0, 5, (-1)] : List Int), ())) fun r6 =>
 some ((r0.1.1, r6.1.1, r2.1.1, ()), ((a0.1, r6.2.1.2), ()))
 else
 bif decide (r3.1.1 = 2) then
 Option.bind (P_l1Cur_among ((a0.1, r3.2.1.2), ([0, 5, (-1)] : List Int), ())) fun r7 =>
 some ((r0.1.1, r1.1.1, r7.1.1, ()), ((a0.1, r7.2.1.2), ()))
 else
 some ((r0.1.1, r1.1.1, r2.1.1, ()), ((a0.1, r3.2.1.2), ())) := by
 rewrite [h_l1Cur_sides]
 kernel_rfl
abbrev As_spec_l2Sides : List ATy := [.data false (.int .i64), .data false (.int .i64), .data false (.int .i64)]
abbrev R_spec_l2Sides : List (Bool × Ty) := [(false, .bool)]
abbrev M_spec_l2Sides : List RMode := []
abbrev Ft_spec_l2Sides : Type := Int × Int × Int × Unit → Option (Bool × Unit)
def X_spec_l2Sides : Ctx := { types := TTk, globals := [], con := [(71, C_spec_l1In)], keep := [], results := [.tmp 6], ntmps := 17, n := N }
def B_spec_l2Sides : Code := (Tryz.f80.body).getD .skip
def P_spec_l2Sides : Ft_spec_l2Sides := hid (runF X_spec_l2Sides B_spec_l2Sides As_spec_l2Sides R_spec_l2Sides M_spec_l2Sides)
theorem h_spec_l2Sides : P_spec_l2Sides = runF X_spec_l2Sides B_spec_l2Sides As_spec_l2Sides R_spec_l2Sides M_spec_l2Sides := hid_eq _
def C_spec_l2Sides : Contract := ⟨As_spec_l2Sides, R_spec_l2Sides, M_spec_l2Sides, P_spec_l2Sides⟩
theorem s_spec_l2Sides : Sound Tryz.prog GG 80 C_spec_l2Sides := by
 unfold C_spec_l2Sides; rw [h_spec_l2Sides]
 exact mkSk Tryz.f80 ⟨s_spec_l1In, trivial⟩ trivial
theorem p_spec_l2Sides (a0 a1 a2 : Int) : P_spec_l2Sides (a0, a1, a2, ()) =
 Option.bind (P_spec_l1In (a0, 1, 4, ())) fun r0 =>
 bif r0.1 then
 Option.bind (P_spec_l1In (a1, 1, 4, ())) fun r2 =>
 bif r2.1 then
 Option.bind (P_spec_l1In (a2, 1, 4, ())) fun r4 =>
 some (r4.1, ())
 else
 some (false, ())
 else
 some (false, ()) := by
 rewrite [h_spec_l2Sides]
 kernel_rfl
abbrev As_spec_l2Heap : List ATy := [.data true T_Heap]
abbrev R_spec_l2Heap : List (Bool × Ty) := [(false, .bool)]
abbrev M_spec_l2Heap : List RMode := []
abbrev Ft_spec_l2Heap : Type := D_Heap × Unit → Option (Bool × Unit)
def X_spec_l2Heap : Ctx := { types := TTk, globals := [], con := [(79, C_spec_l2Before), (80, C_spec_l2Sides), (81, C_spec_l2In)], keep := [(4, ⟨[.box 1, .tmp 1, .tmp 3], []⟩)], results := [.tmp 2], ntmps := 46, n := N }
def B_spec_l2Heap : Code := (Tryz.f55.body).getD .skip
def L_spec_l2Heap_4 (m0 : Nat) (p0 p1 p2 : Int) (p3 : List D_A3) (p4 : Int) : Option (denL R_spec_l2Heap) := loopF X_spec_l2Heap B_spec_l2Heap R_spec_l2Heap M_spec_l2Heap 4 [m0] [(.ver, .num 1), (.box 1, .box 0 false [.int .i64 p0, .int .i64 p1, .int .i64 p2, .imm T_A3 p3 (some 3)]), (.tmp 1, .val false [.addr 1 0 0]), (.tmp 3, .val false [.int .i64 p4])]
def P_spec_l2Heap : Ft_spec_l2Heap := hid (runF X_spec_l2Heap B_spec_l2Heap As_spec_l2Heap R_spec_l2Heap M_spec_l2Heap)
theorem h_spec_l2Heap : P_spec_l2Heap = runF X_spec_l2Heap B_spec_l2Heap As_spec_l2Heap R_spec_l2Heap M_spec_l2Heap := hid_eq _
def C_spec_l2Heap : Contract := ⟨As_spec_l2Heap, R_spec_l2Heap, M_spec_l2Heap, P_spec_l2Heap⟩
theorem s_spec_l2Heap : Sound Tryz.prog GG 55 C_spec_l2Heap := by
 unfold C_spec_l2Heap; rw [h_spec_l2Heap]
 exact mkSk Tryz.f55 ⟨s_spec_l2Before, s_spec_l2Sides, s_spec_l2In, trivial⟩ trivial
def l_spec_l2Heap_4 := hid (L_spec_l2Heap_4)
theorem h_spec_l2Heap_4 : l_spec_l2Heap_4 = L_spec_l2Heap_4 := hid_eq _
theorem p_spec_l2Heap (a0 : D_Heap) : P_spec_l2Heap (a0, ()) =
 Option.bind (P_spec_l2Sides (a0.1, a0.2.1, a0.2.2.1, ())) fun r0 =>
 bif !r0.1 then
 some (false, ())
 else
 l_spec_l2Heap_4 N a0.1 a0.2.1 a0.2.2.1 a0.2.2.2.1 0 := by
 rewrite [h_spec_l2Heap, h_spec_l2Heap_4]
 kernel_rfl
theorem q_spec_l2Heap_4 (m0 : Nat) (p0 p1 p2 : Int) (p3 : List D_A3) (p4 : Int) : l_spec_l2Heap_4 (m0 + 1) p0 p1 p2 p3 p4 =
 bif decide (p4 < (List.length p3 : Int)) then
 bif inB p4 (List.length p3) then
 Option.bind (P_spec_l2In ((p0, (p1, (p2, (p3, ())))), (nth T_A3 p3 p4), ())) fun r2 =>
 bif !r2.1 then
 some (false, ())
 else
 bif decide (p4 > 0) then
 bif inB (IntKind.wrap .i64 (p4 - 1)) (List.length p3) then
 bif inB p4 (List.length p3) then
 Option.bind (P_spec_l2Before ((nth T_A3 p3 (IntKind.wrap .i64 (p4 - 1))), (nth T_A3 p3 p4), ())) fun r7 =>
 bif !r7.1 then
 some (false, ())
 else
 l_spec_l2Heap_4 m0 p0 p1 p2 p3 (IntKind.wrap .i64 (p4 + 1))
 else none
 else none
 else
 l_spec_l2Heap_4 m0 p0 p1 p2 p3 (IntKind.wrap .i64 (p4 + 1))
 else none
 else
 some (true, ()) := by
 rewrite [h_spec_l2Heap_4]
 kernel_rfl
abbrev As_spec_OtherCells : List ATy := [.data true T_Heap]
abbrev R_spec_OtherCells : List (Bool × Ty) := [(true, T_Heap), (false, .bool)]
abbrev M_spec_OtherCells : List RMode := [.own 57]
abbrev Ft_spec_OtherCells : Type := D_Heap × Unit → Option (D_Heap × Bool × Unit)
def X_spec_OtherCells : Ctx := { types := TTk, globals := [], con := [(44, C_spec_l2All), (55, C_spec_l2Heap), (61, C_spec_l2Empty), (62, C_spec_l2Has)], keep := [(5, ⟨[.box 1, .box 2, .box 4, .tmp 1, .tmp 2, .tmp 4, .tmp 5, .tmp 6], []⟩)], results := [.cell 2 26, .tmp 3], ntmps := 43, n := N }
def B_spec_OtherCells : Code := (Tryz.f93.body).getD .skip
def L_spec_OtherCells_5 (m0 : Nat) (p0 p1 p2 : Int) (p3 : List D_A3) (p4 p5 p6 : Int) (p7 : List D_A3) (p8 p9 p10 : Int) (p11 p12 : List D_A3) (p13 : Int) : Option (denL R_spec_OtherCells) := loopF X_spec_OtherCells B_spec_OtherCells R_spec_OtherCells M_spec_OtherCells 5 [m0] [(.ver, .num 1), (.box 1, .box 0 false [.int .i64 p0, .int .i64 p1, .int .i64 p2, .imm T_A3 p3 (some 3)]), (.box 2, .box 0 false [.int .i64 p4, .int .i64 p5, .int .i64 p6, .own 57 T_A3 0 p7]), (.box 4, .box 0 false [.int .i64 p8, .int .i64 p9, .int .i64 p10, .own 57 T_A3 0 p11]), (.tmp 1, .val false [.addr 1 0 0]), (.tmp 2, .val false [.addr 2 0 0]), (.tmp 4, .val false [.addr 4 0 0]), (.tmp 5, .val false [.own 57 T_A3 0 p12]), (.tmp 6, .val false [.int .i64 p13])]
def P_spec_OtherCells : Ft_spec_OtherCells := hid (runF X_spec_OtherCells B_spec_OtherCells As_spec_OtherCells R_spec_OtherCells M_spec_OtherCells)
theorem h_spec_OtherCells : P_spec_OtherCells = runF X_spec_OtherCells B_spec_OtherCells As_spec_OtherCells R_spec_OtherCells M_spec_OtherCells := hid_eq _
def C_spec_OtherCells : Contract := ⟨As_spec_OtherCells, R_spec_OtherCells, M_spec_OtherCells, P_spec_OtherCells⟩
theorem s_spec_OtherCells : Sound Tryz.prog GG 93 C_spec_OtherCells := by
 unfold C_spec_OtherCells; rw [h_spec_OtherCells]
 exact mkSk Tryz.f93 ⟨s_spec_l2All, s_spec_l2Heap, s_spec_l2Empty, s_spec_l2Has, trivial⟩ trivial
def l_spec_OtherCells_5 := hid (L_spec_OtherCells_5)
theorem h_spec_OtherCells_5 : l_spec_OtherCells_5 = L_spec_OtherCells_5 := hid_eq _
theorem p_spec_OtherCells (a0 : D_Heap) : P_spec_OtherCells (a0, ()) =
 Option.bind (P_spec_l2Heap (a0, ())) fun r0 =>
 bif !r0.1 then
 some ((0, (0, (0, (([] : List D_A3), ())))), false, ())
 else
 Option.bind (P_spec_l2Empty (a0.1, a0.2.1, a0.2.2.1, ())) fun r2 =>
 Option.bind (P_spec_l2All (a0, ())) fun r3 =>
 l_spec_OtherCells_5 N a0.1 a0.2.1 a0.2.2.1 a0.2.2.2.1 0 0 0 ([] : List D_A3) r2.1.1 r2.1.2.1 r2.1.2.2.1 r2.1.2.2.2.1 r3.1 0 := by
 rewrite [h_spec_OtherCells, h_spec_OtherCells_5]
 kernel_rfl
theorem q_spec_OtherCells_5 (m0 : Nat) (p0 p1 p2 : Int) (p3 : List D_A3) (p4 p5 p6 : Int) (p7 : List D_A3) (p8 p9 p10 : Int) (p11 p12 : List D_A3) (p13 : Int) : l_spec_OtherCells_5 (m0 + 1) p0 p1 p2 p3 p4 p5 p6 p7 p8 p9 p10 p11 p12 p13 =
 bif decide (p13 < (List.length p12 : Int)) then
 bif inB p13 (List.length p12) then
 Option.bind (P_spec_l2Has ((p0, (p1, (p2, (p3, ())))), (nth T_A3 p12 p13), ())) fun r2 =>
 bif !r2.1 then
 bif inB p13 (List.length p12) then
 bif (decide (((List.length p11) + (List.length ([(nth T_A3 p12 p13)] : List D_A3))) * 24 ≤ 140737488355328) && decide (((List.length p11) + (List.length ([(nth T_A3 p12 p13)] : List D_A3))) ≤ 140737488355328)) then
 l_spec_OtherCells_5 m0 p0 p1 p2 p3 p4 p5 p6 p7 p8 p9 p10 (p11 ++ ([(nth T_A3 p12 p13)] : List D_A3)) p12 (IntKind.wrap .i64 (p13 + 1))
 else none
 else none
 else
 l_spec_OtherCells_5 m0 p0 p1 p2 p3 p4 p5 p6 p7 p8 p9 p10 p11 p12 (IntKind.wrap .i64 (p13 + 1))
 else none
 else
 some ((p8, (p9, (p10, (p11, ())))), true, ()) := by
 rewrite [h_spec_OtherCells_5]
 kernel_rfl
abbrev As_spec_l2Stack : List ATy := [.data false (.int .i64), .data false (.int .i64), .data false (.int .i64), .data false (.sl (.int .i64))]
abbrev R_spec_l2Stack : List (Bool × Ty) := [(true, T_Heap)]
abbrev M_spec_l2Stack : List RMode := [.own 57]
abbrev Ft_spec_l2Stack : Type := Int × Int × Int × (List Int) × Unit → Option (D_Heap × Unit)
def X_spec_l2Stack : Ctx := { types := TTk, globals := [], con := [(44, C_spec_l2All), (61, C_spec_l2Empty)], keep := [(4, ⟨[.box 8, .box 9, .tmp 1, .tmp 3, .tmp 8, .tmp 9, .tmp 10, .tmp 11], []⟩)], results := [.cell 8 26], ntmps := 56, n := N }
def B_spec_l2Stack : Code := (Tryz.f94.body).getD .skip
def L_spec_l2Stack_4 (m0 : Nat) (p0 p1 p2 : Int) (p3 : List D_A3) (p4 p5 p6 : Int) (p7 : List D_A3) (p8 : Int) (p9 : List Int) (p10 : List D_A3) (p11 : Int) : Option (denL R_spec_l2Stack) := loopF X_spec_l2Stack B_spec_l2Stack R_spec_l2Stack M_spec_l2Stack 4 [m0] [(.ver, .num 1), (.box 8, .box 0 false [.int .i64 p0, .int .i64 p1, .int .i64 p2, .own 57 T_A3 0 p3]), (.box 9, .box 0 false [.int .i64 p4, .int .i64 p5, .int .i64 p6, .own 57 T_A3 0 p7]), (.tmp 1, .val false [.int .i64 p8]), (.tmp 3, .val false [.imm (.int .i64) p9 (some 3)]), (.tmp 8, .val false [.addr 8 0 0]), (.tmp 9, .val false [.addr 9 0 0]), (.tmp 10, .val false [.own 57 T_A3 0 p10]), (.tmp 11, .val false [.int .i64 p11])]
def P_spec_l2Stack : Ft_spec_l2Stack := hid (runF X_spec_l2Stack B_spec_l2Stack As_spec_l2Stack R_spec_l2Stack M_spec_l2Stack)
theorem h_spec_l2Stack : P_spec_l2Stack = runF X_spec_l2Stack B_spec_l2Stack As_spec_l2Stack R_spec_l2Stack M_spec_l2Stack := hid_eq _
def C_spec_l2Stack : Contract := ⟨As_spec_l2Stack, R_spec_l2Stack, M_spec_l2Stack, P_spec_l2Stack⟩
theorem s_spec_l2Stack : Sound Tryz.prog GG 94 C_spec_l2Stack := by
 unfold C_spec_l2Stack; rw [h_spec_l2Stack]
 exact mkSk Tryz.f94 ⟨s_spec_l2All, s_spec_l2Empty, trivial⟩ trivial
def l_spec_l2Stack_4 := hid (L_spec_l2Stack_4)
theorem h_spec_l2Stack_4 : l_spec_l2Stack_4 = L_spec_l2Stack_4 := hid_eq _
theorem p_spec_l2Stack (a0 a1 a2 : Int) (a3 : List Int) : P_spec_l2Stack (a0, a1, a2, a3, ()) =
 Option.bind (P_spec_l2Empty (a0, a1, a2, ())) fun r0 =>
 Option.bind (P_spec_l2All (r0.1, ())) fun r1 =>
 l_spec_l2Stack_4 N 0 0 0 ([] : List D_A3) r0.1.1 r0.1.2.1 r0.1.2.2.1 r0.1.2.2.2.1 a1 a3 r1.1 0 := by
 rewrite [h_spec_l2Stack, h_spec_l2Stack_4]
 kernel_rfl
theorem q_spec_l2Stack_4 (m0 : Nat) (p0 p1 p2 : Int) (p3 : List D_A3) (p4 p5 p6 : Int) (p7 : List D_A3) (p8 : Int) (p9 : List Int) (p10 : List D_A3) (p11 : Int) : l_spec_l2Stack_4 (m0 + 1) p0 p1 p2 p3 p4 p5 p6 p7 p8 p9 p10 p11 =
 bif decide (p11 < (List.length p10 : Int)) then
 bif inB p11 (List.length p10) then
 bif inB p11 (List.length p10) then
 bif inB p11 (List.length p10) then
 bif inB (IntKind.wrap .i64 ((IntKind.wrap .i64 (((nth T_A3 p10 p11)).1 * p8)) + (((nth T_A3 p10 p11)).2).1)) (List.length p9) then
 bif decide (((((nth T_A3 p10 p11)).2).2).1 < (nth ((.int .i64) : Ty) p9 (IntKind.wrap .i64 ((IntKind.wrap .i64 (((nth T_A3 p10 p11)).1 * p8)) + (((nth T_A3 p10 p11)).2).1)))) then
 bif inB p11 (List.length p10) then
 bif (decide (((List.length p7) + (List.length ([(nth T_A3 p10 p11)] : List D_A3))) * 24 ≤ 140737488355328) && decide (((List.length p7) + (List.length ([(nth T_A3 p10 p11)] : List D_A3))) ≤ 140737488355328)) then
 l_spec_l2Stack_4 m0 p0 p1 p2 p3 p4 p5 p6 (p7 ++ ([(nth T_A3 p10 p11)] : List D_A3)) p8 p9 p10 (IntKind.wrap .i64 (p11 + 1))
 else none
 else none
 else
 l_spec_l2Stack_4 m0 p0 p1 p2 p3 p4 p5 p6 p7 p8 p9 p10 (IntKind.wrap .i64 (p11 + 1))
 else none
 else none
 else none
 else none
 else
 some ((p4, (p5, (p6, (p7, ())))), ()) := by
 rewrite [h_spec_l2Stack_4]
 kernel_rfl
abbrev As_spec_l2Long : List ATy := [.data true T_Heap, .data false (.int .i64)]
abbrev R_spec_l2Long : List (Bool × Ty) := [(false, (.int .i64))]
abbrev M_spec_l2Long : List RMode := []
abbrev Ft_spec_l2Long : Type := D_Heap × Int × Unit → Option (Int × Unit)
def X_spec_l2Long : Ctx := { types := TTk, globals := [], con := [], keep := [], results := [.tmp 4], ntmps := 14, n := N }
def B_spec_l2Long : Code := (Tryz.f45.body).getD .skip
def P_spec_l2Long : Ft_spec_l2Long := hid (runF X_spec_l2Long B_spec_l2Long As_spec_l2Long R_spec_l2Long M_spec_l2Long)
theorem h_spec_l2Long : P_spec_l2Long = runF X_spec_l2Long B_spec_l2Long As_spec_l2Long R_spec_l2Long M_spec_l2Long := hid_eq _
def C_spec_l2Long : Contract := ⟨As_spec_l2Long, R_spec_l2Long, M_spec_l2Long, P_spec_l2Long⟩
theorem s_spec_l2Long : Sound Tryz.prog GG 45 C_spec_l2Long := by
 unfold C_spec_l2Long; rw [h_spec_l2Long]
 exact mkSk Tryz.f45 trivial trivial
theorem p_spec_l2Long (a0 : D_Heap) (a1 : Int) : P_spec_l2Long (a0, a1, ()) =
 bif inB a1 3 then
 some ((bif decide (a1 = (0 : Int)) then a0.1 else (bif decide (a1 = (1 : Int)) then a0.2.1 else a0.2.2.1)), ())
 else none := by
 rewrite [h_spec_l2Long]
 kernel_rfl
abbrev As_spec_l2Others : List ATy := [.data false (.int .i64)]
abbrev R_spec_l2Others : List (Bool × Ty) := [(false, (.int .i64)), (false, (.int .i64))]
abbrev M_spec_l2Others : List RMode := []
abbrev Ft_spec_l2Others : Type := Int × Unit → Option (Int × Int × Unit)
def X_spec_l2Others : Ctx := { types := TTk, globals := [], con := [], keep := [], results := [.tmp 2, .tmp 3], ntmps := 9, n := N }
def B_spec_l2Others : Code := (Tryz.f99.body).getD .skip
def P_spec_l2Others : Ft_spec_l2Others := hid (runF X_spec_l2Others B_spec_l2Others As_spec_l2Others R_spec_l2Others M_spec_l2Others)
theorem h_spec_l2Others : P_spec_l2Others = runF X_spec_l2Others B_spec_l2Others As_spec_l2Others R_spec_l2Others M_spec_l2Others := hid_eq _
def C_spec_l2Others : Contract := ⟨As_spec_l2Others, R_spec_l2Others, M_spec_l2Others, P_spec_l2Others⟩
theorem s_spec_l2Others : Sound Tryz.prog GG 99 C_spec_l2Others := by
 unfold C_spec_l2Others; rw [h_spec_l2Others]
 exact mkSk Tryz.f99 trivial trivial
theorem p_spec_l2Others (a0 : Int) : P_spec_l2Others (a0, ()) =
 bif decide (a0 = 0) then
 some (1, 2, ())
 else
 bif decide (a0 = 1) then
 some (0, 2, ())
 else
 some (0, 1, ()) := by
 rewrite [h_spec_l2Others]
 kernel_rfl
abbrev As_spec_l2View : List ATy := [.data true T_Heap, .data false (.int .i64)]
abbrev R_spec_l2View : List (Bool × Ty) := [(false, (.sl (.int .i64)))]
abbrev M_spec_l2View : List RMode := [.own 3]
abbrev Ft_spec_l2View : Type := D_Heap × Int × Unit → Option ((List Int) × Unit)
def X_spec_l2View : Ctx := { types := TTk, globals := [], con := [(45, C_spec_l2Long), (99, C_spec_l2Others)], keep := [(4, ⟨[.box 2, .tmp 2, .tmp 5, .tmp 6, .tmp 7, .tmp 8], []⟩)], results := [.tmp 4], ntmps := 54, n := N }
def B_spec_l2View : Code := (Tryz.f97.body).getD .skip
def L_spec_l2View_4 (m0 : Nat) (p0 p1 p2 : Int) (p3 : List D_A3) (p4 p5 : Int) (p6 : List Int) (p7 : Int) : Option (denL R_spec_l2View) := loopF X_spec_l2View B_spec_l2View R_spec_l2View M_spec_l2View 4 [m0] [(.ver, .num 1), (.box 2, .box 0 false [.int .i64 p0, .int .i64 p1, .int .i64 p2, .imm T_A3 p3 (some 3)]), (.tmp 2, .val false [.addr 2 0 0]), (.tmp 5, .val false [.int .i64 p4]), (.tmp 6, .val false [.int .i64 p5]), (.tmp 7, .val false [.own 3 (.int .i64) 0 p6]), (.tmp 8, .val false [.int .i64 p7])]
def P_spec_l2View : Ft_spec_l2View := hid (runF X_spec_l2View B_spec_l2View As_spec_l2View R_spec_l2View M_spec_l2View)
theorem h_spec_l2View : P_spec_l2View = runF X_spec_l2View B_spec_l2View As_spec_l2View R_spec_l2View M_spec_l2View := hid_eq _
def C_spec_l2View : Contract := ⟨As_spec_l2View, R_spec_l2View, M_spec_l2View, P_spec_l2View⟩
theorem s_spec_l2View : Sound Tryz.prog GG 97 C_spec_l2View := by
 unfold C_spec_l2View; rw [h_spec_l2View]
 exact mkSk Tryz.f97 ⟨s_spec_l2Long, s_spec_l2Others, trivial⟩ trivial
def l_spec_l2View_4 := hid (L_spec_l2View_4)
theorem h_spec_l2View_4 : l_spec_l2View_4 = L_spec_l2View_4 := hid_eq _
theorem p_spec_l2View (a0 : D_Heap) (a1 : Int) : P_spec_l2View (a0, a1, ()) =
 Option.bind (P_spec_l2Others (a1, ())) fun r0 =>
 Option.bind (P_spec_l2Long (a0, r0.1, ())) fun r1 =>
 Option.bind (P_spec_l2Long (a0, r0.2.1, ())) fun r2 =>
 bif (decide ((0 : Int) ≤ (IntKind.wrap .i64 (r1.1 * r2.1))) && decide (((IntKind.wrap .i64 (r1.1 * r2.1)) : Int) ≤ (IntKind.wrap .i64 (r1.1 * r2.1))) && decide (((IntKind.wrap .i64 (r1.1 * r2.1)) : Int) * (8 : Nat) ≤ 140737488355328) && decide (((IntKind.wrap .i64 (r1.1 * r2.1)) : Int) ≤ 140737488355328)) then
 l_spec_l2View_4 N a0.1 a0.2.1 a0.2.2.1 a0.2.2.2.1 r0.1 r0.2.1 (List.replicate (Int.toNat (IntKind.wrap .i64 (r1.1 * r2.1))) (Ty.dflt ((.int .i64) : Ty))) 0
 else none := by
 rewrite [h_spec_l2View, h_spec_l2View_4]
 kernel_rfl
theorem q_spec_l2View_4 (m0 : Nat) (p0 p1 p2 : Int) (p3 : List D_A3) (p4 p5 : Int) (p6 : List Int) (p7 : Int) : l_spec_l2View_4 (m0 + 1) p0 p1 p2 p3 p4 p5 p6 p7 =
 bif decide (p7 < (List.length p3 : Int)) then
 bif inB p7 (List.length p3) then
 bif inB p4 3 then
 Option.bind (P_spec_l2Long ((p0, (p1, (p2, (p3, ())))), p5, ())) fun r3 =>
 bif inB p7 (List.length p3) then
 bif inB p5 3 then
 bif inB (IntKind.wrap .i64 ((IntKind.wrap .i64 ((bif decide (p4 = (0 : Int)) then ((nth T_A3 p3 p7)).1 else (bif decide (p4 = (1 : Int)) then (((nth T_A3 p3 p7)).2).1 else ((((nth T_A3 p3 p7)).2).2).1)) * r3.1)) + (bif decide (p5 = (0 : Int)) then ((nth T_A3 p3 p7)).1 else (bif decide (p5 = (1 : Int)) then (((nth T_A3 p3 p7)).2).1 else ((((nth T_A3 p3 p7)).2).2).1)))) (List.length p6) then
 bif inB (IntKind.wrap .i64 ((IntKind.wrap .i64 ((bif decide (p4 = (0 : Int)) then ((nth T_A3 p3 p7)).1 else (bif decide (p4 = (1 : Int)) then (((nth T_A3 p3 p7)).2).1 else ((((nth T_A3 p3 p7)).2).2).1)) * r3.1)) + (bif decide (p5 = (0 : Int)) then ((nth T_A3 p3 p7)).1 else (bif decide (p5 = (1 : Int)) then (((nth T_A3 p3 p7)).2).1 else ((((nth T_A3 p3 p7)).2).2).1)))) (List.length p6) then
 l_spec_l2View_4 m0 p0 p1 p2 p3 p4 p5 (List.set p6 (Int.toNat (IntKind.wrap .i64 ((IntKind.wrap .i64 ((bif decide (p4 = (0 : Int)) then ((nth T_A3 p3 p7)).1 else (bif decide (p4 = (1 : Int)) then (((nth T_A3 p3 p7)).2).1 else ((((nth T_A3 p3 p7)).2).2).1)) * r3.1)) + (bif decide (p5 = (0 : Int)) then ((nth T_A3 p3 p7)).1 else (bif decide (p5 = (1 : Int)) then (((nth T_A3 p3 p7)).2).1 else ((((nth T_A3 p3 p7)).2).2).1))))) (IntKind.wrap .i64 ((nth ((.int .i64) : Ty) p6 (IntKind.wrap .i64 ((IntKind.wrap .i64 ((bif decide (p4 = (0 : Int)) then ((nth T_A3 p3 p7)).1 else (bif decide (p4 = (1 : Int)) then (((nth T_A3 p3 p7)).2).1 else ((((nth T_A3 p3 p7)).2).2).1)) * r3.1)) + (bif decide (p5 = (0 : Int)) then ((nth T_A3 p3 p7)).1 else (bif decide (p5 = (1 : Int)) then (((nth T_A3 p3 p7)).2).1 else ((((nth T_A3 p3 p7)).2).2).1))))) + 1))) (IntKind.wrap .i64 (p7 + 1))
 else none
 else none
 else none
 else none
 else none
 else none
 else
 some (p6, ()) := by
 rewrite [h_spec_l2View_4]
 kernel_rfl
abbrev As_spec_l2Heights : List ATy := [.data true T_Heap]
abbrev R_spec_l2Heights : List (Bool × Ty) := [(false, (.sl (.int .i64)))]
abbrev M_spec_l2Heights : List RMode := [.own 3]
abbrev Ft_spec_l2Heights : Type := D_Heap × Unit → Option ((List Int) × Unit)
def X_spec_l2Heights : Ctx := { types := TTk, globals := [], con := [(97, C_spec_l2View)], keep := [], results := [.tmp 2], ntmps := 5, n := N }
def B_spec_l2Heights : Code := (Tryz.f95.body).getD .skip
def P_spec_l2Heights : Ft_spec_l2Heights := hid (runF X_spec_l2Heights B_spec_l2Heights As_spec_l2Heights R_spec_l2Heights M_spec_l2Heights)
theorem h_spec_l2Heights : P_spec_l2Heights = runF X_spec_l2Heights B_spec_l2Heights As_spec_l2Heights R_spec_l2Heights M_spec_l2Heights := hid_eq _
def C_spec_l2Heights : Contract := ⟨As_spec_l2Heights, R_spec_l2Heights, M_spec_l2Heights, P_spec_l2Heights⟩
theorem s_spec_l2Heights : Sound Tryz.prog GG 95 C_spec_l2Heights := by
 unfold C_spec_l2Heights; rw [h_spec_l2Heights]
 exact mkSk Tryz.f95 ⟨s_spec_l2View, trivial⟩ trivial
theorem p_spec_l2Heights (a0 : D_Heap) : P_spec_l2Heights (a0, ()) =
 Option.bind (P_spec_l2View (a0, 2, ())) fun r0 =>
 some (r0.1, ()) := by
 rewrite [h_spec_l2Heights]
 kernel_rfl
abbrev As_l1Cur_someHeap : List ATy := [.lptr T_l1Cur, .data false (.int .i64), .data false (.int .i64), .data false (.int .i64)]
abbrev R_l1Cur_someHeap : List (Bool × Ty) := [(true, T_Heap)]
abbrev M_l1Cur_someHeap : List RMode := [.own 57]
abbrev Ft_l1Cur_someHeap : Type := D_l1Cur × Int × Int × Int × Unit → Option ((D_Heap × Unit) × (D_l1Cur × Unit))
def X_l1Cur_someHeap : Ctx := { types := TTk, globals := [], con := [(44, C_spec_l2All), (61, C_spec_l2Empty), (80, C_spec_l2Sides), (93, C_spec_OtherCells), (94, C_spec_l2Stack), (95, C_spec_l2Heights)], mcon := [(37, C_l1Cur_one), (39, C_l1Cur_among), (40, C_l1Cur_pick)], keep := [(6, ⟨[.box 8, .box 9, .box 1000000, .tmp 0, .tmp 1, .tmp 2, .tmp 3, .tmp 8, .tmp 9, .tmp 10, .tmp 11, .tmp 12], []⟩)], results := [.cell 8 26], ntmps := 64, n := N }
def B_l1Cur_someHeap : Code := (Tryz.f87.body).getD .skip
def L_l1Cur_someHeap_6 (m0 : Nat) (p0 p1 p2 : Int) (p3 : List D_A3) (p4 p5 p6 : Int) (p7 : List D_A3) (p8 : List Int) (p9 p10 p11 p12 p13 p14 : Int) (p15 : List D_A3) (p16 : Int) : Option (denL R_l1Cur_someHeap × denM As_l1Cur_someHeap) := loopFM X_l1Cur_someHeap B_l1Cur_someHeap As_l1Cur_someHeap R_l1Cur_someHeap M_l1Cur_someHeap 6 [m0] [(.ver, .num 1), (.box 8, .box 0 false [.int .i64 p0, .int .i64 p1, .int .i64 p2, .own 57 T_A3 0 p3]), (.box 9, .box 0 false [.int .i64 p4, .int .i64 p5, .int .i64 p6, .own 57 T_A3 0 p7]), (.box 1000000, .box 0 false [.imm (.int .u8) p8 (some 4), .int .i64 p9, .int .u64 p10]), (.tmp 0, .val false [.addr 1000000 0 0]), (.tmp 1, .val false [.int .i64 p11]), (.tmp 2, .val false [.int .i64 p12]), (.tmp 3, .val false [.int .i64 p13]), (.tmp 8, .val false [.addr 8 0 0]), (.tmp 9, .val false [.addr 9 0 0]), (.tmp 10, .val false [.int .i64 p14]), (.tmp 11, .val false [.own 57 T_A3 0 p15]), (.tmp 12, .val false [.int .i64 p16])]
def P_l1Cur_someHeap : Ft_l1Cur_someHeap := hid (runFM X_l1Cur_someHeap B_l1Cur_someHeap As_l1Cur_someHeap R_l1Cur_someHeap M_l1Cur_someHeap)
theorem h_l1Cur_someHeap : P_l1Cur_someHeap = runFM X_l1Cur_someHeap B_l1Cur_someHeap As_l1Cur_someHeap R_l1Cur_someHeap M_l1Cur_someHeap := hid_eq _
def C_l1Cur_someHeap : MContract := ⟨As_l1Cur_someHeap, R_l1Cur_someHeap, M_l1Cur_someHeap, P_l1Cur_someHeap⟩
theorem s_l1Cur_someHeap : SoundM Tryz.prog n0 GG 87 C_l1Cur_someHeap := by
 unfold C_l1Cur_someHeap; rw [h_l1Cur_someHeap]
 exact mkSMk Tryz.f87 ⟨s_spec_l2All, s_spec_l2Empty, s_spec_l2Sides, s_spec_OtherCells, s_spec_l2Stack, s_spec_l2Heights, trivial⟩ ⟨s_l1Cur_one, s_l1Cur_among, s_l1Cur_pick, trivial⟩
def l_l1Cur_someHeap_6 := hid (L_l1Cur_someHeap_6)
theorem h_l1Cur_someHeap_6 : l_l1Cur_someHeap_6 = L_l1Cur_someHeap_6 := hid_eq _
theorem p_l1Cur_someHeap (a0 : D_l1Cur) (a1 a2 a3 : Int) : P_l1Cur_someHeap (a0, a1, a2, a3, ()) =
 Option.bind (P_spec_l2Empty (a1, a2, a3, ())) fun r0 =>
 Option.bind (P_l1Cur_among (a0, ([2, 3, 2, 4] : List Int), ())) fun r1 =>
 Option.bind (P_spec_l2Sides (a1, a2, a3, ())) fun r2 =>
 bif !r2.1 then
 some ((r0.1, ()), ((a0.1, r1.2.1.2), ()))
 else
 Option.bind (P_spec_l2All (r0.1, ())) fun r4 =>
 l_l1Cur_someHeap_6 N 0 0 0 ([] : List D_A3) r0.1.1 r0.1.2.1 r0.1.2.2.1 r0.1.2.2.2.1 a0.1 r1.2.1.2.1 r1.2.1.2.2.1 a1 a2 a3 r1.1.1 r4.1 0 := by
 rewrite [h_l1Cur_someHeap, h_l1Cur_someHeap_6]
 kernel_rfl
theorem q_l1Cur_someHeap_6 (m0 : Nat) (p0 p1 p2 : Int) (p3 : List D_A3) (p4 p5 p6 : Int) (p7 : List D_A3) (p8 : List Int) (p9 p10 p11 p12 p13 p14 : Int) (p15 : List D_A3) (p16 : Int) : l_l1Cur_someHeap_6 (m0 + 1) p0 p1 p2 p3 p4 p5 p6 p7 p8 p9 p10 p11 p12 p13 p14 p15 p16 =
 bif decide (p16 < (List.length p15 : Int)) then
 Option.bind (P_l1Cur_one ((p8, (p9, (p10, ()))), p14, ())) fun r1 =>
 bif r1.1.1 then
 bif inB p16 (List.length p15) then
 bif (decide (((List.length p7) + (List.length ([(nth T_A3 p15 p16)] : List D_A3))) * 24 ≤ 140737488355328) && decide (((List.length p7) + (List.length ([(nth T_A3 p15 p16)] : List D_A3))) ≤ 140737488355328)) then
 l_l1Cur_someHeap_6 m0 p0 p1 p2 p3 p4 p5 p6 (p7 ++ ([(nth T_A3 p15 p16)] : List D_A3)) p8 r1.2.1.2.1 r1.2.1.2.2.1 p11 p12 p13 p14 p15 (IntKind.wrap .i64 (p16 + 1))
 else none
 else none
 else
 l_l1Cur_someHeap_6 m0 p0 p1 p2 p3 p4 p5 p6 p7 p8 r1.2.1.2.1 r1.2.1.2.2.1 p11 p12 p13 p14 p15 (IntKind.wrap .i64 (p16 + 1))
 else
 Option.bind (P_l1Cur_pick ((p8, (p9, (p10, ()))), 12, ())) fun r1 =>
 bif decide (r1.1.1 = 0) then
 Option.bind (P_spec_OtherCells ((p4, (p5, (p6, (p7, ())))), ())) fun r3 =>
 some ((r3.1, ()), ((p8, r1.2.1.2), ()))
 else
 bif decide (r1.1.1 = 1) then
 Option.bind (P_spec_l2Heights ((p4, (p5, (p6, (p7, ())))), ())) fun r4 =>
 Option.bind (P_spec_l2Stack (p11, p12, p13, r4.1, ())) fun r5 =>
 some ((r5.1, ()), ((p8, r1.2.1.2), ()))
 else
 some (((p4, (p5, (p6, (p7, ())))), ()), ((p8, r1.2.1.2), ())) := by
 rewrite [h_l1Cur_someHeap_6]
 kernel_rfl
abbrev As_l1Cur_heap : List ATy := [.lptr T_l1Cur]
abbrev R_l1Cur_heap : List (Bool × Ty) := [(true, T_Heap)]
abbrev M_l1Cur_heap : List RMode := [.own 57]
abbrev Ft_l1Cur_heap : Type := D_l1Cur × Unit → Option ((D_Heap × Unit) × (D_l1Cur × Unit))
def X_l1Cur_heap : Ctx := { types := TTk, globals := [], con := [], mcon := [(40, C_l1Cur_pick), (86, C_l1Cur_sides), (87, C_l1Cur_someHeap)], keep := [], results := [.cell 2 26], ntmps := 56, n := N }
def B_l1Cur_heap : Code := (Tryz.f68.body).getD .skip
def P_l1Cur_heap : Ft_l1Cur_heap := hid (runFM X_l1Cur_heap B_l1Cur_heap As_l1Cur_heap R_l1Cur_heap M_l1Cur_heap)
theorem h_l1Cur_heap : P_l1Cur_heap = runFM X_l1Cur_heap B_l1Cur_heap As_l1Cur_heap R_l1Cur_heap M_l1Cur_heap := hid_eq _
def C_l1Cur_heap : MContract := ⟨As_l1Cur_heap, R_l1Cur_heap, M_l1Cur_heap, P_l1Cur_heap⟩
theorem s_l1Cur_heap : SoundM Tryz.prog n0 GG 68 C_l1Cur_heap := by
 unfold C_l1Cur_heap; rw [h_l1Cur_heap]
 exact mkSMk Tryz.f68 trivial ⟨s_l1Cur_pick, s_l1Cur_sides, s_l1Cur_someHeap, trivial⟩
theorem p_l1Cur_heap (a0 : D_l1Cur) : P_l1Cur_heap (a0, ()) =
 Option.bind (P_l1Cur_sides (a0, ())) fun r0 =>
 Option.bind (P_l1Cur_someHeap ((a0.1, r0.2.1.2), r0.1.1, r0.1.2.1, r0.1.2.2.1, ())) fun r1 =>
 Option.bind (P_l1Cur_pick ((a0.1, r1.2.1.2), 60, ())) fun r2 =>
 bif decide (r2.1.1 = 0) then
 bif (decide (((List.length r1.1.1.2.2.2.1) + (List.length ([(r0.1.1, (0, (0, ())))] : List D_A3))) * 24 ≤ 140737488355328) && decide (((List.length r1.1.1.2.2.2.1) + (List.length ([(r0.1.1, (0, (0, ())))] : List D_A3))) ≤ 140737488355328)) then
 some (((r1.1.1.1, (r1.1.1.2.1, (r1.1.1.2.2.1, ((r1.1.1.2.2.2.1 ++ ([(r0.1.1, (0, (0, ())))] : List D_A3)), ())))), ()), ((a0.1, r2.2.1.2), ()))
 else none
 else
 bif decide (r2.1.1 = 1) then
 bif (decide (((List.length r1.1.1.2.2.2.1) + (List.length ([((-1), (0, (0, ())))] : List D_A3))) * 24 ≤ 140737488355328) && decide (((List.length r1.1.1.2.2.2.1) + (List.length ([((-1), (0, (0, ())))] : List D_A3))) ≤ 140737488355328)) then
 some (((r1.1.1.1, (r1.1.1.2.1, (r1.1.1.2.2.1, ((r1.1.1.2.2.2.1 ++ ([((-1), (0, (0, ())))] : List D_A3)), ())))), ()), ((a0.1, r2.2.1.2), ()))
 else none
 else
 bif decide (r2.1.1 = 2) then
 bif decide ((List.length r1.1.1.2.2.2.1 : Int) > 0) then
 bif inB 0 (List.length r1.1.1.2.2.2.1) then
 bif (decide (((List.length r1.1.1.2.2.2.1) + (List.length ([(nth T_A3 r1.1.1.2.2.2.1 0)] : List D_A3))) * 24 ≤ 140737488355328) && decide (((List.length r1.1.1.2.2.2.1) + (List.length ([(nth T_A3 r1.1.1.2.2.2.1 0)] : List D_A3))) ≤ 140737488355328)) then
 some (((r1.1.1.1, (r1.1.1.2.1, (r1.1.1.2.2.1, ((r1.1.1.2.2.2.1 ++ ([(nth T_A3 r1.1.1.2.2.2.1 0)] : List D_A3)), ())))), ()), ((a0.1, r2.2.1.2), ()))
 else none
 else none
 else
 some ((r1.1.1, ()), ((a0.1, r2.2.1.2), ()))
 else
 bif decide (r2.1.1 = 3) then
 some (((0, (0, (0, (([] : List D_A3), ())))), ()), ((a0.1, r2.2.1.2), ()))
 else
 some ((r1.1.1, ()), ((a0.1, r2.2.1.2), ())) := by
 rewrite [h_l1Cur_heap]
 kernel_rfl
abbrev As_l1Cur_pack9 : List ATy := [.lptr T_l1Cur]
abbrev R_l1Cur_pack9 : List (Bool × Ty) := [(true, T_Heap), (false, (.sl (.sl T_A3)))]
abbrev M_l1Cur_pack9 : List RMode := [.own 57, .own 24]
abbrev Ft_l1Cur_pack9 : Type := D_l1Cur × Unit → Option ((D_Heap × (List (List D_A3)) × Unit) × (D_l1Cur × Unit))
def X_l1Cur_pack9 : Ctx := { types := TTk, globals := [], con := [(44, C_spec_l2All), (54, C_spec_l9Piece), (61, C_spec_l2Empty), (62, C_spec_l2Has), (63, C_spec_l2Own), (65, C_spec_l9Fits), (66, C_spec_l2With), (67, C_spec_l9Moved)], mcon := [(37, C_l1Cur_one), (39, C_l1Cur_among), (40, C_l1Cur_pick), (64, C_l1Cur_piece9), (68, C_l1Cur_heap)], keep := [(5, ⟨[.box 2, .box 4, .box 5, .box 1000000, .tmp 0, .tmp 2, .tmp 4, .tmp 5, .tmp 6, .tmp 7, .tmp 8], []⟩), (14, ⟨[.box 2, .box 4, .box 5, .box 1000000, .tmp 0, .tmp 2, .tmp 4, .tmp 5, .tmp 6, .tmp 7, .tmp 8, .tmp 9, .tmp 10, .tmp 11], []⟩)], results := [.cell 2 26, .tmp 3], ntmps := 135, n := N }
def B_l1Cur_pack9 : Code := (Tryz.f36.body).getD .skip
def L_l1Cur_pack9_5 (m0 : Nat) (p0 p1 p2 : Int) (p3 : List D_A3) (p4 p5 p6 : Int) (p7 : List D_A3) (p8 p9 p10 : Int) (p11 : List D_A3) (p12 : List Int) (p13 p14 : Int) (p15 : List (List D_A3)) (p16 : List D_A3) (p17 : Int) : Option (denL R_l1Cur_pack9 × denM As_l1Cur_pack9) := loopFM X_l1Cur_pack9 B_l1Cur_pack9 As_l1Cur_pack9 R_l1Cur_pack9 M_l1Cur_pack9 5 [m0] [(.ver, .num 1), (.box 2, .box 0 false [.int .i64 p0, .int .i64 p1, .int .i64 p2, .own 57 T_A3 0 p3]), (.box 4, .box 0 false [.int .i64 p4, .int .i64 p5, .int .i64 p6, .own 57 T_A3 0 p7]), (.box 5, .box 0 false [.int .i64 p8, .int .i64 p9, .int .i64 p10, .own 57 T_A3 0 p11]), (.box 1000000, .box 0 false [.imm (.int .u8) p12 (some 1), .int .i64 p13, .int .u64 p14]), (.tmp 0, .val false [.addr 1000000 0 0]), (.tmp 2, .val false [.addr 2 0 0]), (.tmp 4, .val false [.addr 4 0 0]), (.tmp 5, .val false [.addr 5 0 0]), (.tmp 6, .val false [.own 24 (.sl T_A3) 0 p15]), (.tmp 7, .val false [.own 57 T_A3 0 p16]), (.tmp 8, .val false [.int .i64 p17])]
def L_l1Cur_pack9_14 (m0 m1 : Nat) (p0 p1 p2 : Int) (p3 : List D_A3) (p4 p5 p6 : Int) (p7 : List D_A3) (p8 p9 p10 : Int) (p11 : List D_A3) (p12 : List Int) (p13 p14 : Int) (p15 : List (List D_A3)) (p16 : List D_A3) (p17 : Int) (p18 p19 : List D_A3) (p20 : Int) : Option (denL R_l1Cur_pack9 × denM As_l1Cur_pack9) := loopFM X_l1Cur_pack9 B_l1Cur_pack9 As_l1Cur_pack9 R_l1Cur_pack9 M_l1Cur_pack9 14 [m0, m1] [(.ver, .num 1), (.box 2, .box 0 false [.int .i64 p0, .int .i64 p1, .int .i64 p2, .own 57 T_A3 0 p3]), (.box 4, .box 0 false [.int .i64 p4, .int .i64 p5, .int .i64 p6, .own 57 T_A3 0 p7]), (.box 5, .box 0 false [.int .i64 p8, .int .i64 p9, .int .i64 p10, .own 57 T_A3 0 p11]), (.box 1000000, .box 0 false [.imm (.int .u8) p12 (some 1), .int .i64 p13, .int .u64 p14]), (.tmp 0, .val false [.addr 1000000 0 0]), (.tmp 2, .val false [.addr 2 0 0]), (.tmp 4, .val false [.addr 4 0 0]), (.tmp 5, .val false [.addr 5 0 0]), (.tmp 6, .val false [.own 24 (.sl T_A3) 0 p15]), (.tmp 7, .val false [.own 57 T_A3 0 p16]), (.tmp 8, .val false [.int .i64 p17]), (.tmp 9, .val false [.own 57 T_A3 0 p18]), (.tmp 10, .val false [.own 57 T_A3 0 p19]), (.tmp 11, .val false [.int .i64 p20])]
def P_l1Cur_pack9 : Ft_l1Cur_pack9 := hid (runFM X_l1Cur_pack9 B_l1Cur_pack9 As_l1Cur_pack9 R_l1Cur_pack9 M_l1Cur_pack9)
theorem h_l1Cur_pack9 : P_l1Cur_pack9 = runFM X_l1Cur_pack9 B_l1Cur_pack9 As_l1Cur_pack9 R_l1Cur_pack9 M_l1Cur_pack9 := hid_eq _
def C_l1Cur_pack9 : MContract := ⟨As_l1Cur_pack9, R_l1Cur_pack9, M_l1Cur_pack9, P_l1Cur_pack9⟩
theorem s_l1Cur_pack9 : SoundM Tryz.prog n0 GG 36 C_l1Cur_pack9 := by
 unfold C_l1Cur_pack9; rw [h_l1Cur_pack9]
 exact mkSMk Tryz.f36 ⟨s_spec_l2All, s_spec_l9Piece, s_spec_l2Empty, s_spec_l2Has, s_spec_l2Own, s_spec_l9Fits, s_spec_l2With, s_spec_l9Moved, trivial⟩ ⟨s_l1Cur_one, s_l1Cur_among, s_l1Cur_pick, s_l1Cur_piece9, s_l1Cur_heap, trivial⟩
def l_l1Cur_pack9_5 := hid (L_l1Cur_pack9_5)
theorem h_l1Cur_pack9_5 : l_l1Cur_pack9_5 = L_l1Cur_pack9_5 := hid_eq _
def l_l1Cur_pack9_14 := hid (L_l1Cur_pack9_14)
theorem h_l1Cur_pack9_14 : l_l1Cur_pack9_14 = L_l1Cur_pack9_14 := hid_eq _
theorem p_l1Cur_pack9 (a0 : D_l1Cur) : P_l1Cur_pack9 (a0, ()) =
 Option.bind (P_l1Cur_among (a0, ([2, 3, 1, 2] : List Int), ())) fun r0 =>
 Option.bind (P_l1Cur_among ((a0.1, r0.2.1.2), ([2, 2, 1, 3] : List Int), ())) fun r1 =>
 Option.bind (P_l1Cur_among ((a0.1, r1.2.1.2), ([2, 1, 3, 2] : List Int), ())) fun r2 =>
 Option.bind (P_spec_l2Empty (r0.1.1, r1.1.1, r2.1.1, ())) fun r3 =>
 Option.bind (P_spec_l2Own (r3.1, ())) fun r4 =>
 Option.bind (P_spec_l2All (r3.1, ())) fun r5 =>
 l_l1Cur_pack9_5 N 0 0 0 ([] : List D_A3) r3.1.1 r3.1.2.1 r3.1.2.2.1 r3.1.2.2.2.1 r4.1.1 r4.1.2.1 r4.1.2.2.1 r4.1.2.2.2.1 a0.1 r2.2.1.2.1 r2.2.1.2.2.1 ([] : List (List D_A3)) r5.1 0 := by
 rewrite [h_l1Cur_pack9, h_l1Cur_pack9_5]
 kernel_rfl
theorem q_l1Cur_pack9_5 (m0 : Nat) (p0 p1 p2 : Int) (p3 : List D_A3) (p4 p5 p6 : Int) (p7 : List D_A3) (p8 p9 p10 : Int) (p11 : List D_A3) (p12 : List Int) (p13 p14 : Int) (p15 : List (List D_A3)) (p16 : List D_A3) (p17 : Int) : l_l1Cur_pack9_5 (m0 + 1) p0 p1 p2 p3 p4 p5 p6 p7 p8 p9 p10 p11 p12 p13 p14 p15 p16 p17 =
 bif decide (p17 < (List.length p16 : Int)) then
 bif inB p17 (List.length p16) then
 Option.bind (P_spec_l2Has ((p8, (p9, (p10, (p11, ())))), (nth T_A3 p16 p17), ())) fun r2 =>
 bif r2.1 then
 l_l1Cur_pack9_5 m0 p0 p1 p2 p3 p4 p5 p6 p7 p8 p9 p10 p11 p12 p13 p14 p15 p16 (IntKind.wrap .i64 (p17 + 1))
 else
 Option.bind (P_l1Cur_piece9 ((p12, (p13, (p14, ()))), ())) fun r4 =>
 bif decide ((List.length p15 : Int) = 8) then
 bif inB p17 (List.length p16) then
 Option.bind (P_spec_l2With ((p4, (p5, (p6, (p7, ())))), (nth T_A3 p16 p17), ())) fun r7 =>
 bif inB p17 (List.length p16) then
 Option.bind (P_spec_l2With ((p8, (p9, (p10, (p11, ())))), (nth T_A3 p16 p17), ())) fun r9 =>
 l_l1Cur_pack9_5 m0 p0 p1 p2 p3 r7.1.1 r7.1.2.1 r7.1.2.2.1 r7.1.2.2.2.1 r9.1.1 r9.1.2.1 r9.1.2.2.1 r9.1.2.2.2.1 p12 r4.2.1.2.1 r4.2.1.2.2.1 p15 p16 (IntKind.wrap .i64 (p17 + 1))
 else none
 else none
 else
 Option.bind (P_spec_l9Piece (r4.1.1, ())) fun r6 =>
 bif !r6.1 then
 bif inB p17 (List.length p16) then
 Option.bind (P_spec_l2With ((p4, (p5, (p6, (p7, ())))), (nth T_A3 p16 p17), ())) fun r9 =>
 bif inB p17 (List.length p16) then
 Option.bind (P_spec_l2With ((p8, (p9, (p10, (p11, ())))), (nth T_A3 p16 p17), ())) fun r11 =>
 l_l1Cur_pack9_5 m0 p0 p1 p2 p3 r9.1.1 r9.1.2.1 r9.1.2.2.1 r9.1.2.2.2.1 r11.1.1 r11.1.2.1 r11.1.2.2.1 r11.1.2.2.2.1 p12 r4.2.1.2.1 r4.2.1.2.2.1 p15 p16 (IntKind.wrap .i64 (p17 + 1))
 else none
 else none
 else
 bif inB 0 (List.length r4.1.1) then
 bif !(decide (((nth T_A3 r4.1.1 0)).1 = 0) && (decide ((((nth T_A3 r4.1.1 0)).2).1 = 0) && (decide (((((nth T_A3 r4.1.1 0)).2).2).1 = 0) && true))) then
 bif inB p17 (List.length p16) then
 Option.bind (P_spec_l2With ((p4, (p5, (p6, (p7, ())))), (nth T_A3 p16 p17), ())) fun r11 =>
 bif inB p17 (List.length p16) then
 Option.bind (P_spec_l2With ((p8, (p9, (p10, (p11, ())))), (nth T_A3 p16 p17), ())) fun r13 =>
 l_l1Cur_pack9_5 m0 p0 p1 p2 p3 r11.1.1 r11.1.2.1 r11.1.2.2.1 r11.1.2.2.2.1 r13.1.1 r13.1.2.1 r13.1.2.2.1 r13.1.2.2.2.1 p12 r4.2.1.2.1 r4.2.1.2.2.1 p15 p16 (IntKind.wrap .i64 (p17 + 1))
 else none
 else none
 else
 bif inB p17 (List.length p16) then
 Option.bind (P_spec_l9Fits ((p8, (p9, (p10, (p11, ())))), r4.1.1, (nth T_A3 p16 p17), ())) fun r11 =>
 bif !r11.1 then
 bif inB p17 (List.length p16) then
 Option.bind (P_spec_l2With ((p4, (p5, (p6, (p7, ())))), (nth T_A3 p16 p17), ())) fun r14 =>
 bif inB p17 (List.length p16) then
 Option.bind (P_spec_l2With ((p8, (p9, (p10, (p11, ())))), (nth T_A3 p16 p17), ())) fun r16 =>
 l_l1Cur_pack9_5 m0 p0 p1 p2 p3 r14.1.1 r14.1.2.1 r14.1.2.2.1 r14.1.2.2.2.1 r16.1.1 r16.1.2.1 r16.1.2.2.1 r16.1.2.2.2.1 p12 r4.2.1.2.1 r4.2.1.2.2.1 p15 p16 (IntKind.wrap .i64 (p17 + 1))
 else none
 else none
 else
 Option.bind (P_l1Cur_one ((p12, r4.2.1.2), 8, ())) fun r13 =>
 bif r13.1.1 then
 bif inB p17 (List.length p16) then
 Option.bind (P_spec_l2With ((p4, (p5, (p6, (p7, ())))), (nth T_A3 p16 p17), ())) fun r16 =>
 bif inB p17 (List.length p16) then
 Option.bind (P_spec_l2With ((p8, (p9, (p10, (p11, ())))), (nth T_A3 p16 p17), ())) fun r18 =>
 l_l1Cur_pack9_5 m0 p0 p1 p2 p3 r16.1.1 r16.1.2.1 r16.1.2.2.1 r16.1.2.2.2.1 r18.1.1 r18.1.2.1 r18.1.2.2.1 r18.1.2.2.2.1 p12 r13.2.1.2.1 r13.2.1.2.2.1 p15 p16 (IntKind.wrap .i64 (p17 + 1))
 else none
 else none
 else
 bif inB p17 (List.length p16) then
 Option.bind (P_spec_l9Moved (r4.1.1, (nth T_A3 p16 p17), ())) fun r16 =>
 l_l1Cur_pack9_14 m0 N p0 p1 p2 p3 p4 p5 p6 p7 p8 p9 p10 p11 p12 r13.2.1.2.1 r13.2.1.2.2.1 p15 p16 p17 r4.1.1 r16.1 0
 else none
 else none
 else none
 else none
 else
 Option.bind (P_l1Cur_pick ((p12, (p13, (p14, ()))), 16, ())) fun r1 =>
 bif decide (r1.1.1 = 0) then
 Option.bind (P_l1Cur_piece9 ((p12, r1.2.1.2), ())) fun r3 =>
 bif (decide (((List.length p15) + (List.length ([r3.1.1] : List (List D_A3)))) * 24 ≤ 140737488355328) && decide (((List.length p15) + (List.length ([r3.1.1] : List (List D_A3)))) ≤ 140737488355328)) then
 some (((p4, (p5, (p6, (p7, ())))), (p15 ++ ([r3.1.1] : List (List D_A3))), ()), ((p12, r3.2.1.2), ()))
 else none
 else
 bif decide (r1.1.1 = 1) then
 bif decide ((List.length p15 : Int) > 1) then
 bif inB 0 (List.length p15) then
 bif (decide ((0 : Int) ≤ 1) && decide ((1 : Int) ≤ (List.length p15 : Int)) && decide ((List.length p15 : Int) ≤ (List.length p15 : Int))) then
 bif (decide (((List.length ([] : List (List D_A3))) + (List.length (cut p15 1 (List.length p15 : Int)))) * 24 ≤ 140737488355328) && decide (((List.length ([] : List (List D_A3))) + (List.length (cut p15 1 (List.length p15 : Int)))) ≤ 140737488355328)) then
 bif (decide (((List.length (([] : List (List D_A3)) ++ (cut p15 1 (List.length p15 : Int)))) + (List.length ([(nth ((.sl T_A3) : Ty) p15 0)] : List (List D_A3)))) * 24 ≤ 140737488355328) && decide (((List.length (([] : List (List D_A3)) ++ (cut p15 1 (List.length p15 : Int)))) + (List.length ([(nth ((.sl T_A3) : Ty) p15 0)] : List (List D_A3)))) ≤ 140737488355328)) then
 some (((p4, (p5, (p6, (p7, ())))), ((([] : List (List D_A3)) ++ (cut p15 1 (List.length p15 : Int))) ++ ([(nth ((.sl T_A3) : Ty) p15 0)] : List (List D_A3))), ()), ((p12, r1.2.1.2), ()))
 else none
 else none
 else none
 else none
 else
 some (((p4, (p5, (p6, (p7, ())))), p15, ()), ((p12, r1.2.1.2), ()))
 else
 bif decide (r1.1.1 = 2) then
 Option.bind (P_l1Cur_heap ((p12, r1.2.1.2), ())) fun r5 =>
 some ((r5.1.1, p15, ()), ((p12, r5.2.1.2), ()))
 else
 some (((p4, (p5, (p6, (p7, ())))), p15, ()), ((p12, r1.2.1.2), ())) := by
 rewrite [h_l1Cur_pack9_5, h_l1Cur_pack9_14]
 kernel_rfl
theorem q_l1Cur_pack9_14 (m0 m1 : Nat) (p0 p1 p2 : Int) (p3 : List D_A3) (p4 p5 p6 : Int) (p7 : List D_A3) (p8 p9 p10 : Int) (p11 : List D_A3) (p12 : List Int) (p13 p14 : Int) (p15 : List (List D_A3)) (p16 : List D_A3) (p17 : Int) (p18 p19 : List D_A3) (p20 : Int) : l_l1Cur_pack9_14 m0 (m1 + 1) p0 p1 p2 p3 p4 p5 p6 p7 p8 p9 p10 p11 p12 p13 p14 p15 p16 p17 p18 p19 p20 =
 bif decide (p20 < (List.length p19 : Int)) then
 bif inB p20 (List.length p19) then
 Option.bind (P_spec_l2With ((p8, (p9, (p10, (p11, ())))), (nth T_A3 p19 p20), ())) fun r2 =>
 l_l1Cur_pack9_14 m0 m1 p0 p1 p2 p3 p4 p5 p6 p7 r2.1.1 r2.1.2.1 r2.1.2.2.1 r2.1.2.2.2.1 p12 p13 p14 p15 p16 p17 p18 p19 (IntKind.wrap .i64 (p20 + 1))
 else none
 else
 bif (decide (((List.length p15) + (List.length ([p18] : List (List D_A3)))) * 24 ≤ 140737488355328) && decide (((List.length p15) + (List.length ([p18] : List (List D_A3)))) ≤ 140737488355328)) then
 l_l1Cur_pack9_5 m0 p0 p1 p2 p3 p4 p5 p6 p7 p8 p9 p10 p11 p12 p13 p14 (p15 ++ ([p18] : List (List D_A3))) p16 (IntKind.wrap .i64 (p17 + 1))
 else none := by
 rewrite [h_l1Cur_pack9_5, h_l1Cur_pack9_14]
 kernel_rfl
abbrev As_spec_DrawFirstPacking : List ATy := [.data false (.sl (.int .u8))]
abbrev R_spec_DrawFirstPacking : List (Bool × Ty) := [(true, T_Heap), (false, (.sl (.sl T_A3)))]
abbrev M_spec_DrawFirstPacking : List RMode := [.own 57, .own 24]
abbrev Ft_spec_DrawFirstPacking : Type := (List Int) × Unit → Option (D_Heap × (List (List D_A3)) × Unit)
def X_spec_DrawFirstPacking : Ctx := { types := TTk, globals := [], con := [], mcon := [(36, C_l1Cur_pack9)], keep := [], results := [.cell 2 26, .tmp 3], ntmps := 12, n := N }
def B_spec_DrawFirstPacking : Code := (Tryz.f22.body).getD .skip
def P_spec_DrawFirstPacking : Ft_spec_DrawFirstPacking := hid (runF X_spec_DrawFirstPacking B_spec_DrawFirstPacking As_spec_DrawFirstPacking R_spec_DrawFirstPacking M_spec_DrawFirstPacking)
theorem h_spec_DrawFirstPacking : P_spec_DrawFirstPacking = runF X_spec_DrawFirstPacking B_spec_DrawFirstPacking As_spec_DrawFirstPacking R_spec_DrawFirstPacking M_spec_DrawFirstPacking := hid_eq _
def C_spec_DrawFirstPacking : Contract := ⟨As_spec_DrawFirstPacking, R_spec_DrawFirstPacking, M_spec_DrawFirstPacking, P_spec_DrawFirstPacking⟩
theorem s_spec_DrawFirstPacking : Sound Tryz.prog GG 22 C_spec_DrawFirstPacking := by
 unfold C_spec_DrawFirstPacking; rw [h_spec_DrawFirstPacking]
 exact mkSk Tryz.f22 trivial ⟨s_l1Cur_pack9, trivial⟩
theorem p_spec_DrawFirstPacking (a0 : List Int) : P_spec_DrawFirstPacking (a0, ()) =
 Option.bind (P_l1Cur_pack9 ((a0, (0, (0, ()))), ())) fun r0 =>
 some (r0.1.1, r0.1.2.1, ()) := by
 rewrite [h_spec_DrawFirstPacking]
 kernel_rfl
abbrev As_spec_DrawCountPackings : List ATy := [.data false (.sl (.int .u8))]
abbrev R_spec_DrawCountPackings : List (Bool × Ty) := [(true, T_Heap), (false, (.sl (.sl T_A3)))]
abbrev M_spec_DrawCountPackings : List RMode := [.own 57, .own 24]
abbrev Ft_spec_DrawCountPackings : Type := (List Int) × Unit → Option (D_Heap × (List (List D_A3)) × Unit)
def X_spec_DrawCountPackings : Ctx := { types := TTk, globals := [], con := [(22, C_spec_DrawFirstPacking)], keep := [], results := [.cell 2 26, .tmp 3], ntmps := 8, n := N }
def B_spec_DrawCountPackings : Code := (Tryz.f5.body).getD .skip
def P_spec_DrawCountPackings : Ft_spec_DrawCountPackings := hid (runF X_spec_DrawCountPackings B_spec_DrawCountPackings As_spec_DrawCountPackings R_spec_DrawCountPackings M_spec_DrawCountPackings)
theorem h_spec_DrawCountPackings : P_spec_DrawCountPackings = runF X_spec_DrawCountPackings B_spec_DrawCountPackings As_spec_DrawCountPackings R_spec_DrawCountPackings M_spec_DrawCountPackings := hid_eq _
def C_spec_DrawCountPackings : Contract := ⟨As_spec_DrawCountPackings, R_spec_DrawCountPackings, M_spec_DrawCountPackings, P_spec_DrawCountPackings⟩
theorem s_spec_DrawCountPackings : Sound Tryz.prog GG 5 C_spec_DrawCountPackings := by
 unfold C_spec_DrawCountPackings; rw [h_spec_DrawCountPackings]
 exact mkSk Tryz.f5 ⟨s_spec_DrawFirstPacking, trivial⟩ trivial
theorem p_spec_DrawCountPackings (a0 : List Int) : P_spec_DrawCountPackings (a0, ()) =
 Option.bind (P_spec_DrawFirstPacking (a0, ())) fun r0 =>
 some (r0.1, r0.2.1, ()) := by
 rewrite [h_spec_DrawCountPackings]
 kernel_rfl
abbrev As_spec_l9Ask : List ATy := [.data true T_Heap, .data false (.sl (.sl T_A3))]
abbrev R_spec_l9Ask : List (Bool × Ty) := [(false, .bool)]
abbrev M_spec_l9Ask : List RMode := []
abbrev Ft_spec_l9Ask : Type := D_Heap × (List (List D_A3)) × Unit → Option (Bool × Unit)
def X_spec_l9Ask : Ctx := { types := TTk, globals := [], con := [(54, C_spec_l9Piece), (55, C_spec_l2Heap)], keep := [(2, ⟨[.box 2, .tmp 1, .tmp 2, .tmp 5], []⟩)], results := [.tmp 4], ntmps := 25, n := N }
def B_spec_l9Ask : Code := (Tryz.f26.body).getD .skip
def L_spec_l9Ask_2 (m0 : Nat) (p0 p1 p2 : Int) (p3 : List D_A3) (p4 : List (List D_A3)) (p5 : Int) : Option (denL R_spec_l9Ask) := loopF X_spec_l9Ask B_spec_l9Ask R_spec_l9Ask M_spec_l9Ask 2 [m0] [(.ver, .num 1), (.box 2, .box 0 false [.int .i64 p0, .int .i64 p1, .int .i64 p2, .imm T_A3 p3 (some 3)]), (.tmp 1, .val false [.imm (.sl T_A3) p4 (some 4)]), (.tmp 2, .val false [.addr 2 0 0]), (.tmp 5, .val false [.int .i64 p5])]
def P_spec_l9Ask : Ft_spec_l9Ask := hid (runF X_spec_l9Ask B_spec_l9Ask As_spec_l9Ask R_spec_l9Ask M_spec_l9Ask)
theorem h_spec_l9Ask : P_spec_l9Ask = runF X_spec_l9Ask B_spec_l9Ask As_spec_l9Ask R_spec_l9Ask M_spec_l9Ask := hid_eq _
def C_spec_l9Ask : Contract := ⟨As_spec_l9Ask, R_spec_l9Ask, M_spec_l9Ask, P_spec_l9Ask⟩
theorem s_spec_l9Ask : Sound Tryz.prog GG 26 C_spec_l9Ask := by
 unfold C_spec_l9Ask; rw [h_spec_l9Ask]
 exact mkSk Tryz.f26 ⟨s_spec_l9Piece, s_spec_l2Heap, trivial⟩ trivial
def l_spec_l9Ask_2 := hid (L_spec_l9Ask_2)
theorem h_spec_l9Ask_2 : l_spec_l9Ask_2 = L_spec_l9Ask_2 := hid_eq _
theorem p_spec_l9Ask (a0 : D_Heap) (a1 : List (List D_A3)) : P_spec_l9Ask (a0, a1, ()) =
 l_spec_l9Ask_2 N a0.1 a0.2.1 a0.2.2.1 a0.2.2.2.1 a1 0 := by
 rewrite [h_spec_l9Ask, h_spec_l9Ask_2]
 kernel_rfl
theorem q_spec_l9Ask_2 (m0 : Nat) (p0 p1 p2 : Int) (p3 : List D_A3) (p4 : List (List D_A3)) (p5 : Int) : l_spec_l9Ask_2 (m0 + 1) p0 p1 p2 p3 p4 p5 =
 bif decide (p5 < (List.length p4 : Int)) then
 bif inB p5 (List.length p4) then
 Option.bind (P_spec_l9Piece ((nth ((.sl T_A3) : Ty) p4 p5), ())) fun r2 =>
 bif !r2.1 then
 some (false, ())
 else
 l_spec_l9Ask_2 m0 p0 p1 p2 p3 p4 (IntKind.wrap .i64 (p5 + 1))
 else none
 else
 Option.bind (P_spec_l2Heap ((p0, (p1, (p2, (p3, ())))), ())) fun r1 =>
 bif r1.1 then
 some (decide ((List.length p4 : Int) ≤ 8), ())
 else
 some (false, ()) := by
 rewrite [h_spec_l9Ask_2]
 kernel_rfl
abbrev As_spec_l9Cells : List ATy := [.data false (.sl (.sl T_A3))]
abbrev R_spec_l9Cells : List (Bool × Ty) := [(false, (.int .i64))]
abbrev M_spec_l9Cells : List RMode := []
abbrev Ft_spec_l9Cells : Type := (List (List D_A3)) × Unit → Option (Int × Unit)
def X_spec_l9Cells : Ctx := { types := TTk, globals := [], con := [], keep := [(3, ⟨[.tmp 0, .tmp 3, .tmp 4], []⟩)], results := [.tmp 2], ntmps := 19, n := N }
def B_spec_l9Cells : Code := (Tryz.f56.body).getD .skip
def L_spec_l9Cells_3 (m0 : Nat) (p0 : List (List D_A3)) (p1 p2 : Int) : Option (denL R_spec_l9Cells) := loopF X_spec_l9Cells B_spec_l9Cells R_spec_l9Cells M_spec_l9Cells 3 [m0] [(.ver, .num 1), (.tmp 0, .val false [.imm (.sl T_A3) p0 (some 0)]), (.tmp 3, .val false [.int .i64 p1]), (.tmp 4, .val false [.int .i64 p2])]
def P_spec_l9Cells : Ft_spec_l9Cells := hid (runF X_spec_l9Cells B_spec_l9Cells As_spec_l9Cells R_spec_l9Cells M_spec_l9Cells)
theorem h_spec_l9Cells : P_spec_l9Cells = runF X_spec_l9Cells B_spec_l9Cells As_spec_l9Cells R_spec_l9Cells M_spec_l9Cells := hid_eq _
def C_spec_l9Cells : Contract := ⟨As_spec_l9Cells, R_spec_l9Cells, M_spec_l9Cells, P_spec_l9Cells⟩
theorem s_spec_l9Cells : Sound Tryz.prog GG 56 C_spec_l9Cells := by
 unfold C_spec_l9Cells; rw [h_spec_l9Cells]
 exact mkSk Tryz.f56 trivial trivial
def l_spec_l9Cells_3 := hid (L_spec_l9Cells_3)
theorem h_spec_l9Cells_3 : l_spec_l9Cells_3 = L_spec_l9Cells_3 := hid_eq _
theorem p_spec_l9Cells (a0 : List (List D_A3)) : P_spec_l9Cells (a0, ()) =
 l_spec_l9Cells_3 N a0 0 0 := by
 rewrite [h_spec_l9Cells, h_spec_l9Cells_3]
 kernel_rfl
theorem q_spec_l9Cells_3 (m0 : Nat) (p0 : List (List D_A3)) (p1 p2 : Int) : l_spec_l9Cells_3 (m0 + 1) p0 p1 p2 =
 bif decide (p2 < (List.length p0 : Int)) then
 bif inB p2 (List.length p0) then
 l_spec_l9Cells_3 m0 p0 (IntKind.wrap .i64 (p1 + (List.length (nth ((.sl T_A3) : Ty) p0 p2) : Int))) (IntKind.wrap .i64 (p2 + 1))
 else none
 else
 some (p1, ()) := by
 rewrite [h_spec_l9Cells_3]
 kernel_rfl
abbrev As_spec_l1Has : List ATy := [.data false (.sl (.int .i64)), .data false (.int .i64)]
abbrev R_spec_l1Has : List (Bool × Ty) := [(false, .bool)]
abbrev M_spec_l1Has : List RMode := []
abbrev Ft_spec_l1Has : Type := (List Int) × Int × Unit → Option (Bool × Unit)
def X_spec_l1Has : Ctx := { types := TTk, globals := [], con := [], keep := [(2, ⟨[.tmp 0, .tmp 1, .tmp 5], []⟩)], results := [.tmp 4], ntmps := 18, n := N }
def B_spec_l1Has : Code := (Tryz.f82.body).getD .skip
def L_spec_l1Has_2 (m0 : Nat) (p0 : List Int) (p1 p2 : Int) : Option (denL R_spec_l1Has) := loopF X_spec_l1Has B_spec_l1Has R_spec_l1Has M_spec_l1Has 2 [m0] [(.ver, .num 1), (.tmp 0, .val false [.imm (.int .i64) p0 (some 0)]), (.tmp 1, .val false [.int .i64 p1]), (.tmp 5, .val false [.int .i64 p2])]
def P_spec_l1Has : Ft_spec_l1Has := hid (runF X_spec_l1Has B_spec_l1Has As_spec_l1Has R_spec_l1Has M_spec_l1Has)
theorem h_spec_l1Has : P_spec_l1Has = runF X_spec_l1Has B_spec_l1Has As_spec_l1Has R_spec_l1Has M_spec_l1Has := hid_eq _
def C_spec_l1Has : Contract := ⟨As_spec_l1Has, R_spec_l1Has, M_spec_l1Has, P_spec_l1Has⟩
theorem s_spec_l1Has : Sound Tryz.prog GG 82 C_spec_l1Has := by
 unfold C_spec_l1Has; rw [h_spec_l1Has]
 exact mkSk Tryz.f82 trivial trivial
def l_spec_l1Has_2 := hid (L_spec_l1Has_2)
theorem h_spec_l1Has_2 : l_spec_l1Has_2 = L_spec_l1Has_2 := hid_eq _
theorem p_spec_l1Has (a0 : List Int) (a1 : Int) : P_spec_l1Has (a0, a1, ()) =
 l_spec_l1Has_2 N a0 a1 0 := by
 rewrite [h_spec_l1Has, h_spec_l1Has_2]
 kernel_rfl
theorem q_spec_l1Has_2 (m0 : Nat) (p0 : List Int) (p1 p2 : Int) : l_spec_l1Has_2 (m0 + 1) p0 p1 p2 =
 bif decide (p2 < (List.length p0 : Int)) then
 bif inB p2 (List.length p0) then
 bif decide ((nth ((.int .i64) : Ty) p0 p2) = p1) then
 some (true, ())
 else
 l_spec_l1Has_2 m0 p0 p1 (IntKind.wrap .i64 (p2 + 1))
 else none
 else
 some (false, ()) := by
 rewrite [h_spec_l1Has_2]
 kernel_rfl
abbrev As_spec_l1Own : List ATy := [.data false (.sl (.int .i64))]
abbrev R_spec_l1Own : List (Bool × Ty) := [(false, (.sl (.int .i64)))]
abbrev M_spec_l1Own : List RMode := [.own 3]
abbrev Ft_spec_l1Own : Type := (List Int) × Unit → Option ((List Int) × Unit)
def X_spec_l1Own : Ctx := { types := TTk, globals := [], con := [], keep := [], results := [.tmp 2], ntmps := 6, n := N }
def B_spec_l1Own : Code := (Tryz.f38.body).getD .skip
def P_spec_l1Own : Ft_spec_l1Own := hid (runF X_spec_l1Own B_spec_l1Own As_spec_l1Own R_spec_l1Own M_spec_l1Own)
theorem h_spec_l1Own : P_spec_l1Own = runF X_spec_l1Own B_spec_l1Own As_spec_l1Own R_spec_l1Own M_spec_l1Own := hid_eq _
def C_spec_l1Own : Contract := ⟨As_spec_l1Own, R_spec_l1Own, M_spec_l1Own, P_spec_l1Own⟩
theorem s_spec_l1Own : Sound Tryz.prog GG 38 C_spec_l1Own := by
 unfold C_spec_l1Own; rw [h_spec_l1Own]
 exact mkSk Tryz.f38 trivial trivial
theorem p_spec_l1Own (a0 : List Int) : P_spec_l1Own (a0, ()) =
 bif (decide (((List.length ([] : List Int)) + (List.length a0)) * 8 ≤ 140737488355328) && decide (((List.length ([] : List Int)) + (List.length a0)) ≤ 140737488355328)) then
 some ((([] : List Int) ++ a0), ())
 else none := by
 rewrite [h_spec_l1Own]
 kernel_rfl
abbrev As_spec_l9Place : List ATy := [.data true T_Heap, .data true T_A3]
abbrev R_spec_l9Place : List (Bool × Ty) := [(false, (.int .i64))]
abbrev M_spec_l9Place : List RMode := []
abbrev Ft_spec_l9Place : Type := D_Heap × D_A3 × Unit → Option (Int × Unit)
def X_spec_l9Place : Ctx := { types := TTk, globals := [], con := [], keep := [], results := [.tmp 4], ntmps := 19, n := N }
def B_spec_l9Place : Code := (Tryz.f92.body).getD .skip
def P_spec_l9Place : Ft_spec_l9Place := hid (runF X_spec_l9Place B_spec_l9Place As_spec_l9Place R_spec_l9Place M_spec_l9Place)
theorem h_spec_l9Place : P_spec_l9Place = runF X_spec_l9Place B_spec_l9Place As_spec_l9Place R_spec_l9Place M_spec_l9Place := hid_eq _
def C_spec_l9Place : Contract := ⟨As_spec_l9Place, R_spec_l9Place, M_spec_l9Place, P_spec_l9Place⟩
theorem s_spec_l9Place : Sound Tryz.prog GG 92 C_spec_l9Place := by
 unfold C_spec_l9Place; rw [h_spec_l9Place]
 exact mkSk Tryz.f92 trivial trivial
theorem p_spec_l9Place (a0 : D_Heap) (a1 : D_A3) : P_spec_l9Place (a0, a1, ()) =
 some ((IntKind.wrap .i64 ((IntKind.wrap .i64 ((IntKind.wrap .i64 ((IntKind.wrap .i64 (a1.1 * a0.2.1)) + a1.2.1)) * a0.2.2.1)) + a1.2.2.1)), ()) := by
 rewrite [h_spec_l9Place]
 kernel_rfl
abbrev As_spec_l9Put : List ATy := [.data true T_Heap, .data false (.sl T_A3), .data true T_A3, .data false (.sl (.int .i64)), .data false (.int .i64)]
abbrev R_spec_l9Put : List (Bool × Ty) := [(false, (.sl (.int .i64))), (false, .bool)]
abbrev M_spec_l9Put : List RMode := [.own 3]
abbrev Ft_spec_l9Put : Type := D_Heap × (List D_A3) × D_A3 × (List Int) × Int × Unit → Option ((List Int) × Bool × Unit)
def X_spec_l9Put : Ctx := { types := TTk, globals := [], con := [(38, C_spec_l1Own), (65, C_spec_l9Fits), (67, C_spec_l9Moved), (92, C_spec_l9Place)], keep := [(5, ⟨[.box 5, .tmp 4, .tmp 5, .tmp 12, .tmp 13, .tmp 14], []⟩)], results := [.tmp 10, .tmp 11], ntmps := 53, n := N }
def B_spec_l9Put : Code := (Tryz.f83.body).getD .skip
def L_spec_l9Put_5 (m0 : Nat) (p0 p1 p2 : Int) (p3 : List D_A3) (p4 : Int) (p5 : List Int) (p6 : List D_A3) (p7 : Int) : Option (denL R_spec_l9Put) := loopF X_spec_l9Put B_spec_l9Put R_spec_l9Put M_spec_l9Put 5 [m0] [(.ver, .num 1), (.box 5, .box 0 false [.int .i64 p0, .int .i64 p1, .int .i64 p2, .imm T_A3 p3 (some 3)]), (.tmp 4, .val false [.int .i64 p4]), (.tmp 5, .val false [.addr 5 0 0]), (.tmp 12, .val false [.own 3 (.int .i64) 0 p5]), (.tmp 13, .val false [.own 57 T_A3 0 p6]), (.tmp 14, .val false [.int .i64 p7])]
def P_spec_l9Put : Ft_spec_l9Put := hid (runF X_spec_l9Put B_spec_l9Put As_spec_l9Put R_spec_l9Put M_spec_l9Put)
theorem h_spec_l9Put : P_spec_l9Put = runF X_spec_l9Put B_spec_l9Put As_spec_l9Put R_spec_l9Put M_spec_l9Put := hid_eq _
def C_spec_l9Put : Contract := ⟨As_spec_l9Put, R_spec_l9Put, M_spec_l9Put, P_spec_l9Put⟩
theorem s_spec_l9Put : Sound Tryz.prog GG 83 C_spec_l9Put := by
 unfold C_spec_l9Put; rw [h_spec_l9Put]
 exact mkSk Tryz.f83 ⟨s_spec_l1Own, s_spec_l9Fits, s_spec_l9Moved, s_spec_l9Place, trivial⟩ trivial
def l_spec_l9Put_5 := hid (L_spec_l9Put_5)
theorem h_spec_l9Put_5 : l_spec_l9Put_5 = L_spec_l9Put_5 := hid_eq _
theorem p_spec_l9Put (a0 : D_Heap) (a1 : List D_A3) (a2 : D_A3) (a3 : List Int) (a4 : Int) : P_spec_l9Put (a0, a1, a2, a3, a4, ()) =
 Option.bind (P_spec_l9Fits (a0, a1, a2, ())) fun r0 =>
 bif !r0.1 then
 some (([] : List Int), false, ())
 else
 Option.bind (P_spec_l1Own (a3, ())) fun r2 =>
 Option.bind (P_spec_l9Moved (a1, a2, ())) fun r3 =>
 l_spec_l9Put_5 N a0.1 a0.2.1 a0.2.2.1 a0.2.2.2.1 a4 r2.1 r3.1 0 := by
 rewrite [h_spec_l9Put, h_spec_l9Put_5]
 kernel_rfl
theorem q_spec_l9Put_5 (m0 : Nat) (p0 p1 p2 : Int) (p3 : List D_A3) (p4 : Int) (p5 : List Int) (p6 : List D_A3) (p7 : Int) : l_spec_l9Put_5 (m0 + 1) p0 p1 p2 p3 p4 p5 p6 p7 =
 bif decide (p7 < (List.length p6 : Int)) then
 bif inB p7 (List.length p6) then
 Option.bind (P_spec_l9Place ((p0, (p1, (p2, (p3, ())))), (nth T_A3 p6 p7), ())) fun r2 =>
 bif inB r2.1 (List.length p5) then
 bif !decide ((nth ((.int .i64) : Ty) p5 r2.1) = (-2)) then
 some (([] : List Int), false, ())
 else
 bif inB p7 (List.length p6) then
 Option.bind (P_spec_l9Place ((p0, (p1, (p2, (p3, ())))), (nth T_A3 p6 p7), ())) fun r6 =>
 bif inB r6.1 (List.length p5) then
 l_spec_l9Put_5 m0 p0 p1 p2 p3 p4 (List.set p5 (Int.toNat r6.1) p4) p6 (IntKind.wrap .i64 (p7 + 1))
 else none
 else none
 else none
 else none
 else
 some (p5, true, ()) := by
 rewrite [h_spec_l9Put_5]
 kernel_rfl
abbrev As_spec_l9Search : List ATy := [.data true T_Heap, .data false (.sl (.sl T_A3)), .data false (.sl (.int .i64)), .data false .bool, .data true T_l9Found]
abbrev R_spec_l9Search : List (Bool × Ty) := [(true, T_l9Found)]
abbrev M_spec_l9Search : List RMode := [.imm]
abbrev Ft_spec_l9Search : Type := D_Heap × (List (List D_A3)) × (List Int) × Bool × D_l9Found × Unit → Option (D_l9Found × Unit)
def X_spec_l9Search (F_spec_l9Search : Ft_spec_l9Search) : Ctx := { types := TTk, globals := [], con := [(44, C_spec_l2All), (57, ⟨As_spec_l9Search, R_spec_l9Search, M_spec_l9Search, F_spec_l9Search⟩), (82, C_spec_l1Has), (83, C_spec_l9Put)], keep := [(2, ⟨[.box 5, .box 9, .box 10, .tmp 1, .tmp 2, .tmp 3, .tmp 5, .tmp 9, .tmp 10, .tmp 11], []⟩), (6, ⟨[.box 9, .box 10, .tmp 1, .tmp 2, .tmp 9, .tmp 10, .tmp 12], []⟩), (16, ⟨[.box 5, .box 9, .box 10, .box 13, .tmp 1, .tmp 2, .tmp 3, .tmp 5, .tmp 9, .tmp 10, .tmp 13, .tmp 14], [.box 9]⟩)], results := [.cell 10 53], ntmps := 120, n := N }
def B_spec_l9Search : Code := (Tryz.f57.body).getD .skip
def L_spec_l9Search_2 (F_spec_l9Search : Ft_spec_l9Search) (m0 : Nat) (p0 p1 p2 : Int) (p3 : List D_A3) (p4 : List Int) (p5 : Int) (p6 : List Int) (p7 : Int) (p8 : List (List D_A3)) (p9 : List Int) (p10 : Bool) (p11 : Int) : Option (denL R_spec_l9Search) := loopF (X_spec_l9Search F_spec_l9Search) B_spec_l9Search R_spec_l9Search M_spec_l9Search 2 [m0] [(.ver, .num 1), (.box 5, .box 0 false [.int .i64 p0, .int .i64 p1, .int .i64 p2, .imm T_A3 p3 (some 3)]), (.box 9, .box 0 false [.imm (.int .i64) p4 (some 7), .int .i64 p5]), (.box 10, .box 0 false [.own 3 (.int .i64) 0 p6, .int .i64 p7]), (.tmp 1, .val false [.imm (.sl T_A3) p8 (some 4)]), (.tmp 2, .val false [.imm (.int .i64) p9 (some 5)]), (.tmp 3, .val false [.bool p10]), (.tmp 5, .val false [.addr 5 0 0]), (.tmp 9, .val false [.addr 9 0 0]), (.tmp 10, .val false [.addr 10 0 0]), (.tmp 11, .val false [.int .i64 p11])]
def L_spec_l9Search_6 (F_spec_l9Search : Ft_spec_l9Search) (m0 : Nat) (p0 : List Int) (p1 : Int) (p2 : List Int) (p3 : Int) (p4 : List (List D_A3)) (p5 : List Int) (p6 : Int) : Option (denL R_spec_l9Search) := loopF (X_spec_l9Search F_spec_l9Search) B_spec_l9Search R_spec_l9Search M_spec_l9Search 6 [m0] [(.ver, .num 1), (.box 9, .box 0 false [.imm (.int .i64) p0 (some 7), .int .i64 p1]), (.box 10, .box 0 false [.own 3 (.int .i64) 0 p2, .int .i64 p3]), (.tmp 1, .val false [.imm (.sl T_A3) p4 (some 4)]), (.tmp 2, .val false [.imm (.int .i64) p5 (some 5)]), (.tmp 9, .val false [.addr 9 0 0]), (.tmp 10, .val false [.addr 10 0 0]), (.tmp 12, .val false [.int .i64 p6])]
def L_spec_l9Search_16 (F_spec_l9Search : Ft_spec_l9Search) (m0 : Nat) (p0 p1 p2 : Int) (p3 : List D_A3) (p4 : List Int) (p5 : Int) (p6 : List Int) (p7 p8 p9 p10 : Int) (p11 : List (List D_A3)) (p12 : List Int) (p13 : Bool) (p14 : Int) : Option (denL R_spec_l9Search) := loopF (X_spec_l9Search F_spec_l9Search) B_spec_l9Search R_spec_l9Search M_spec_l9Search 16 [m0] [(.ver, .num 1), (.box 5, .box 0 false [.int .i64 p0, .int .i64 p1, .int .i64 p2, .imm T_A3 p3 (some 3)]), (.box 9, .box 0 false [.imm (.int .i64) p4 none, .int .i64 p5]), (.box 10, .box 0 false [.own 3 (.int .i64) 0 p6, .int .i64 p7]), (.box 13, .box 0 false [.int .i64 p8, .int .i64 p9, .int .i64 p10]), (.tmp 1, .val false [.imm (.sl T_A3) p11 (some 4)]), (.tmp 2, .val false [.imm (.int .i64) p12 (some 5)]), (.tmp 3, .val false [.bool p13]), (.tmp 5, .val false [.addr 5 0 0]), (.tmp 9, .val false [.addr 9 0 0]), (.tmp 10, .val false [.addr 10 0 0]), (.tmp 13, .val false [.addr 13 0 0]), (.tmp 14, .val false [.int .i64 p14])]
def Pk_spec_l9Search : Nat → Ft_spec_l9Search
 | 0 => fun _ => none
 | k + 1 => runF (X_spec_l9Search (Pk_spec_l9Search k)) B_spec_l9Search As_spec_l9Search R_spec_l9Search M_spec_l9Search
theorem sk_spec_l9Search : ∀ k, Sound Tryz.prog GG 57 ⟨As_spec_l9Search, R_spec_l9Search, M_spec_l9Search, Pk_spec_l9Search k⟩
 | 0 => sound_none
 | k + 1 => by have ih := sk_spec_l9Search k; exact mkSk Tryz.f57 ⟨s_spec_l2All, ih, s_spec_l1Has, s_spec_l9Put, trivial⟩ trivial
def P_spec_l9Search : Ft_spec_l9Search := Pk_spec_l9Search N
def C_spec_l9Search : Contract := ⟨As_spec_l9Search, R_spec_l9Search, M_spec_l9Search, P_spec_l9Search⟩
theorem s_spec_l9Search : Sound Tryz.prog GG 57 C_spec_l9Search := sk_spec_l9Search N
def l_spec_l9Search_2 := hid (fun k => L_spec_l9Search_2 (Pk_spec_l9Search k))
theorem h_spec_l9Search_2 : l_spec_l9Search_2 = fun k => L_spec_l9Search_2 (Pk_spec_l9Search k) := hid_eq _
def l_spec_l9Search_6 := hid (fun k => L_spec_l9Search_6 (Pk_spec_l9Search k))
theorem h_spec_l9Search_6 : l_spec_l9Search_6 = fun k => L_spec_l9Search_6 (Pk_spec_l9Search k) := hid_eq _
def l_spec_l9Search_16 := hid (fun k => L_spec_l9Search_16 (Pk_spec_l9Search k))
theorem h_spec_l9Search_16 : l_spec_l9Search_16 = fun k => L_spec_l9Search_16 (Pk_spec_l9Search k) := hid_eq _
theorem p_spec_l9Search (k : Nat) (a0 : D_Heap) (a1 : List (List D_A3)) (a2 : List Int) (a3 : Bool) (a4 : D_l9Found) : Pk_spec_l9Search (k + 1) (a0, a1, a2, a3, a4, ()) =
 l_spec_l9Search_2 k N a0.1 a0.2.1 a0.2.2.1 a0.2.2.2.1 a4.1 a4.2.1 ([] : List Int) 0 a1 a2 a3 0 := by
 rewrite [h_spec_l9Search_2]
 kernel_rfl
theorem q_spec_l9Search_2 (k m0 : Nat) (p0 p1 p2 : Int) (p3 : List D_A3) (p4 : List Int) (p5 : Int) (p6 : List Int) (p7 : Int) (p8 : List (List D_A3)) (p9 : List Int) (p10 : Bool) (p11 : Int) : l_spec_l9Search_2 k (m0 + 1) p0 p1 p2 p3 p4 p5 p6 p7 p8 p9 p10 p11 =
 bif decide (p11 < (List.length p9 : Int)) then
 bif inB p11 (List.length p9) then
 bif !decide ((nth ((.int .i64) : Ty) p9 p11) = (-2)) then
 l_spec_l9Search_2 k m0 p0 p1 p2 p3 p4 p5 p6 p7 p8 p9 p10 (IntKind.wrap .i64 (p11 + 1))
 else
 bif decide (p11 = (List.length p9 : Int)) then
 l_spec_l9Search_6 k N p4 p5 p6 p7 p8 p9 0
 else
 Option.bind (P_spec_l2All ((p0, (p1, (p2, (p3, ())))), ())) fun r4 =>
 bif inB p11 (List.length r4.1) then
 l_spec_l9Search_16 k N p0 p1 p2 p3 p4 p5 p6 p7 (((nth T_A3 r4.1 p11)).1) ((((nth T_A3 r4.1 p11)).2).1) (((((nth T_A3 r4.1 p11)).2).2).1) p8 p9 p10 0
 else none
 else none
 else
 bif decide (p11 = (List.length p9 : Int)) then
 l_spec_l9Search_6 k N p4 p5 p6 p7 p8 p9 0
 else
 Option.bind (P_spec_l2All ((p0, (p1, (p2, (p3, ())))), ())) fun r2 =>
 bif inB p11 (List.length r2.1) then
 l_spec_l9Search_16 k N p0 p1 p2 p3 p4 p5 p6 p7 (((nth T_A3 r2.1 p11)).1) ((((nth T_A3 r2.1 p11)).2).1) (((((nth T_A3 r2.1 p11)).2).2).1) p8 p9 p10 0
 else none := by
 rewrite [h_spec_l9Search_2, h_spec_l9Search_6, h_spec_l9Search_16]
 kernel_rfl
theorem q_spec_l9Search_6 (k m0 : Nat) (p0 : List Int) (p1 : Int) (p2 : List Int) (p3 : Int) (p4 : List (List D_A3)) (p5 : List Int) (p6 : Int) : l_spec_l9Search_6 k (m0 + 1) p0 p1 p2 p3 p4 p5 p6 =
 bif decide (p6 < (List.length p4 : Int)) then
 Option.bind (P_spec_l1Has (p5, p6, ())) fun r1 =>
 bif !r1.1 then
 some ((p0, (p1, ())), ())
 else
 l_spec_l9Search_6 k m0 p0 p1 p2 p3 p4 p5 (IntKind.wrap .i64 (p6 + 1))
 else
 bif decide (p1 = 0) then
 some ((p5, ((IntKind.wrap .i64 (p1 + 1)), ())), ())
 else
 some ((p0, ((IntKind.wrap .i64 (p1 + 1)), ())), ()) := by
 rewrite [h_spec_l9Search_6]
 kernel_rfl
theorem q_spec_l9Search_16 (k m0 : Nat) (p0 p1 p2 : Int) (p3 : List D_A3) (p4 : List Int) (p5 : Int) (p6 : List Int) (p7 p8 p9 p10 : Int) (p11 : List (List D_A3)) (p12 : List Int) (p13 : Bool) (p14 : Int) : l_spec_l9Search_16 k (m0 + 1) p0 p1 p2 p3 p4 p5 p6 p7 p8 p9 p10 p11 p12 p13 p14 =
 bif decide (p14 < (List.length p11 : Int)) then
 bif p13 then
 bif !(decide (p5 > 0)) then
 Option.bind (P_spec_l1Has (p12, p14, ())) fun r3 =>
 bif r3.1 then
 l_spec_l9Search_16 k m0 p0 p1 p2 p3 p4 p5 p6 p7 p8 p9 p10 p11 p12 p13 (IntKind.wrap .i64 (p14 + 1))
 else
 bif inB p14 (List.length p11) then
 bif inB 0 (List.length (nth ((.sl T_A3) : Ty) p11 p14)) then
 bif inB p14 (List.length p11) then
 Option.bind (P_spec_l9Put ((p0, (p1, (p2, (p3, ())))), (nth ((.sl T_A3) : Ty) p11 p14), ((IntKind.wrap .i64 (p8 - ((nth T_A3 (nth ((.sl T_A3) : Ty) p11 p14) 0)).1)), ((IntKind.wrap .i64 (p9 - (((nth T_A3 (nth ((.sl T_A3) : Ty) p11 p14) 0)).2).1)), ((IntKind.wrap .i64 (p10 - ((((nth T_A3 (nth ((.sl T_A3) : Ty) p11 p14) 0)).2).2).1)), ()))), p12, p14, ())) fun r8 =>
 bif r8.2.1 then
 Option.bind (Pk_spec_l9Search k ((p0, (p1, (p2, (p3, ())))), p11, r8.1, p13, (p4, (p5, ())), ())) fun r10 =>
 l_spec_l9Search_16 k m0 p0 p1 p2 p3 r10.1.1 r10.1.2.1 p6 p7 p8 p9 p10 p11 p12 p13 (IntKind.wrap .i64 (p14 + 1))
 else
 l_spec_l9Search_16 k m0 p0 p1 p2 p3 p4 p5 p6 p7 p8 p9 p10 p11 p12 p13 (IntKind.wrap .i64 (p14 + 1))
 else none
 else none
 else none
 else
 some ((p4, (p5, ())), ())
 else
 Option.bind (P_spec_l1Has (p12, p14, ())) fun r2 =>
 bif r2.1 then
 l_spec_l9Search_16 k m0 p0 p1 p2 p3 p4 p5 p6 p7 p8 p9 p10 p11 p12 p13 (IntKind.wrap .i64 (p14 + 1))
 else
 bif inB p14 (List.length p11) then
 bif inB 0 (List.length (nth ((.sl T_A3) : Ty) p11 p14)) then
 bif inB p14 (List.length p11) then
 Option.bind (P_spec_l9Put ((p0, (p1, (p2, (p3, ())))), (nth ((.sl T_A3) : Ty) p11 p14), ((IntKind.wrap .i64 (p8 - ((nth T_A3 (nth ((.sl T_A3) : Ty) p11 p14) 0)).1)), ((IntKind.wrap .i64 (p9 - (((nth T_A3 (nth ((.sl T_A3) : Ty) p11 p14) 0)).2).1)), ((IntKind.wrap .i64 (p10 - ((((nth T_A3 (nth ((.sl T_A3) : Ty) p11 p14) 0)).2).2).1)), ()))), p12, p14, ())) fun r7 =>
 bif r7.2.1 then
 Option.bind (Pk_spec_l9Search k ((p0, (p1, (p2, (p3, ())))), p11, r7.1, p13, (p4, (p5, ())), ())) fun r9 =>
 l_spec_l9Search_16 k m0 p0 p1 p2 p3 r9.1.1 r9.1.2.1 p6 p7 p8 p9 p10 p11 p12 p13 (IntKind.wrap .i64 (p14 + 1))
 else
 l_spec_l9Search_16 k m0 p0 p1 p2 p3 p4 p5 p6 p7 p8 p9 p10 p11 p12 p13 (IntKind.wrap .i64 (p14 + 1))
 else none
 else none
 else none
 else
 some ((p4, (p5, ())), ()) := by
 rewrite [h_spec_l9Search_16]
 kernel_rfl
abbrev As_spec_l9Start : List ATy := [.data true T_Heap]
abbrev R_spec_l9Start : List (Bool × Ty) := [(false, (.sl (.int .i64)))]
abbrev M_spec_l9Start : List RMode := [.own 3]
abbrev Ft_spec_l9Start : Type := D_Heap × Unit → Option ((List Int) × Unit)
def X_spec_l9Start : Ctx := { types := TTk, globals := [], con := [(44, C_spec_l2All), (62, C_spec_l2Has)], keep := [(4, ⟨[.box 1, .tmp 1, .tmp 3, .tmp 4, .tmp 5], []⟩)], results := [.tmp 2], ntmps := 28, n := N }
def B_spec_l9Start : Code := (Tryz.f58.body).getD .skip
def L_spec_l9Start_4 (m0 : Nat) (p0 p1 p2 : Int) (p3 : List D_A3) (p4 : List Int) (p5 : List D_A3) (p6 : Int) : Option (denL R_spec_l9Start) := loopF X_spec_l9Start B_spec_l9Start R_spec_l9Start M_spec_l9Start 4 [m0] [(.ver, .num 1), (.box 1, .box 0 false [.int .i64 p0, .int .i64 p1, .int .i64 p2, .imm T_A3 p3 (some 3)]), (.tmp 1, .val false [.addr 1 0 0]), (.tmp 3, .val false [.own 3 (.int .i64) 0 p4]), (.tmp 4, .val false [.own 57 T_A3 0 p5]), (.tmp 5, .val false [.int .i64 p6])]
def P_spec_l9Start : Ft_spec_l9Start := hid (runF X_spec_l9Start B_spec_l9Start As_spec_l9Start R_spec_l9Start M_spec_l9Start)
theorem h_spec_l9Start : P_spec_l9Start = runF X_spec_l9Start B_spec_l9Start As_spec_l9Start R_spec_l9Start M_spec_l9Start := hid_eq _
def C_spec_l9Start : Contract := ⟨As_spec_l9Start, R_spec_l9Start, M_spec_l9Start, P_spec_l9Start⟩
theorem s_spec_l9Start : Sound Tryz.prog GG 58 C_spec_l9Start := by
 unfold C_spec_l9Start; rw [h_spec_l9Start]
 exact mkSk Tryz.f58 ⟨s_spec_l2All, s_spec_l2Has, trivial⟩ trivial
def l_spec_l9Start_4 := hid (L_spec_l9Start_4)
theorem h_spec_l9Start_4 : l_spec_l9Start_4 = L_spec_l9Start_4 := hid_eq _
theorem p_spec_l9Start (a0 : D_Heap) : P_spec_l9Start (a0, ()) =
 Option.bind (P_spec_l2All (a0, ())) fun r0 =>
 l_spec_l9Start_4 N a0.1 a0.2.1 a0.2.2.1 a0.2.2.2.1 ([] : List Int) r0.1 0 := by
 rewrite [h_spec_l9Start, h_spec_l9Start_4]
 kernel_rfl
theorem q_spec_l9Start_4 (m0 : Nat) (p0 p1 p2 : Int) (p3 : List D_A3) (p4 : List Int) (p5 : List D_A3) (p6 : Int) : l_spec_l9Start_4 (m0 + 1) p0 p1 p2 p3 p4 p5 p6 =
 bif decide (p6 < (List.length p5 : Int)) then
 bif inB p6 (List.length p5) then
 Option.bind (P_spec_l2Has ((p0, (p1, (p2, (p3, ())))), (nth T_A3 p5 p6), ())) fun r2 =>
 bif r2.1 then
 bif (decide (((List.length p4) + (List.length ([(-1)] : List Int))) * 8 ≤ 140737488355328) && decide (((List.length p4) + (List.length ([(-1)] : List Int))) ≤ 140737488355328)) then
 l_spec_l9Start_4 m0 p0 p1 p2 p3 (p4 ++ ([(-1)] : List Int)) p5 (IntKind.wrap .i64 (p6 + 1))
 else none
 else
 bif (decide (((List.length p4) + (List.length ([(-2)] : List Int))) * 8 ≤ 140737488355328) && decide (((List.length p4) + (List.length ([(-2)] : List Int))) ≤ 140737488355328)) then
 l_spec_l9Start_4 m0 p0 p1 p2 p3 (p4 ++ ([(-2)] : List Int)) p5 (IntKind.wrap .i64 (p6 + 1))
 else none
 else none
 else
 some (p4, ()) := by
 rewrite [h_spec_l9Start_4]
 kernel_rfl
abbrev As_spec_l9Find : List ATy := [.data true T_Heap, .data false (.sl (.sl T_A3)), .data false .bool]
abbrev R_spec_l9Find : List (Bool × Ty) := [(true, T_l9Found)]
abbrev M_spec_l9Find : List RMode := [.imm]
abbrev Ft_spec_l9Find : Type := D_Heap × (List (List D_A3)) × Bool × Unit → Option (D_l9Found × Unit)
def X_spec_l9Find : Ctx := { types := TTk, globals := [], con := [(56, C_spec_l9Cells), (57, C_spec_l9Search), (58, C_spec_l9Start)], keep := [], results := [.cell 6 53], ntmps := 32, n := N }
def B_spec_l9Find : Code := (Tryz.f27.body).getD .skip
def P_spec_l9Find : Ft_spec_l9Find := hid (runF X_spec_l9Find B_spec_l9Find As_spec_l9Find R_spec_l9Find M_spec_l9Find)
theorem h_spec_l9Find : P_spec_l9Find = runF X_spec_l9Find B_spec_l9Find As_spec_l9Find R_spec_l9Find M_spec_l9Find := hid_eq _
def C_spec_l9Find : Contract := ⟨As_spec_l9Find, R_spec_l9Find, M_spec_l9Find, P_spec_l9Find⟩
theorem s_spec_l9Find : Sound Tryz.prog GG 27 C_spec_l9Find := by
 unfold C_spec_l9Find; rw [h_spec_l9Find]
 exact mkSk Tryz.f27 ⟨s_spec_l9Cells, s_spec_l9Search, s_spec_l9Start, trivial⟩ trivial
theorem p_spec_l9Find (a0 : D_Heap) (a1 : List (List D_A3)) (a2 : Bool) : P_spec_l9Find (a0, a1, a2, ()) =
 Option.bind (P_spec_l9Cells (a1, ())) fun r0 =>
 bif !decide ((IntKind.wrap .i64 (r0.1 + (List.length a0.2.2.2.1 : Int))) = (IntKind.wrap .i64 ((IntKind.wrap .i64 (a0.1 * a0.2.1)) * a0.2.2.1))) then
 some ((([] : List Int), (0, ())), ())
 else
 Option.bind (P_spec_l9Start (a0, ())) fun r2 =>
 Option.bind (P_spec_l9Search (a0, a1, r2.1, a2, (([] : List Int), (0, ())), ())) fun r3 =>
 some (r3.1, ()) := by
 rewrite [h_spec_l9Find]
 kernel_rfl
abbrev As_spec_CountPackings : List ATy := [.data true T_Heap, .data false (.sl (.sl T_A3))]
abbrev R_spec_CountPackings : List (Bool × Ty) := [(false, (.int .i64)), (false, .bool)]
abbrev M_spec_CountPackings : List RMode := []
abbrev Ft_spec_CountPackings : Type := D_Heap × (List (List D_A3)) × Unit → Option (Int × Bool × Unit)
def X_spec_CountPackings : Ctx := { types := TTk, globals := [], con := [(26, C_spec_l9Ask), (27, C_spec_l9Find)], keep := [], results := [.tmp 4, .tmp 5], ntmps := 14, n := N }
def B_spec_CountPackings : Code := (Tryz.f7.body).getD .skip
def P_spec_CountPackings : Ft_spec_CountPackings := hid (runF X_spec_CountPackings B_spec_CountPackings As_spec_CountPackings R_spec_CountPackings M_spec_CountPackings)
theorem h_spec_CountPackings : P_spec_CountPackings = runF X_spec_CountPackings B_spec_CountPackings As_spec_CountPackings R_spec_CountPackings M_spec_CountPackings := hid_eq _
def C_spec_CountPackings : Contract := ⟨As_spec_CountPackings, R_spec_CountPackings, M_spec_CountPackings, P_spec_CountPackings⟩
theorem s_spec_CountPackings : Sound Tryz.prog GG 7 C_spec_CountPackings := by
 unfold C_spec_CountPackings; rw [h_spec_CountPackings]
 exact mkSk Tryz.f7 ⟨s_spec_l9Ask, s_spec_l9Find, trivial⟩ trivial
theorem p_spec_CountPackings (a0 : D_Heap) (a1 : List (List D_A3)) : P_spec_CountPackings (a0, a1, ()) =
 Option.bind (P_spec_l9Ask (a0, a1, ())) fun r0 =>
 bif !r0.1 then
 some (0, false, ())
 else
 Option.bind (P_spec_l9Find (a0, a1, false, ())) fun r2 =>
 some (r2.1.2.1, true, ()) := by
 rewrite [h_spec_CountPackings]
 kernel_rfl
abbrev As_spec_FirstPacking : List ATy := [.data true T_Heap, .data false (.sl (.sl T_A3))]
abbrev R_spec_FirstPacking : List (Bool × Ty) := [(false, (.sl (.int .i64))), (false, .bool)]
abbrev M_spec_FirstPacking : List RMode := [.imm]
abbrev Ft_spec_FirstPacking : Type := D_Heap × (List (List D_A3)) × Unit → Option ((List Int) × Bool × Unit)
def X_spec_FirstPacking : Ctx := { types := TTk, globals := [], con := [(26, C_spec_l9Ask), (27, C_spec_l9Find)], keep := [], results := [.tmp 4, .tmp 5], ntmps := 20, n := N }
def B_spec_FirstPacking : Code := (Tryz.f9.body).getD .skip
def P_spec_FirstPacking : Ft_spec_FirstPacking := hid (runF X_spec_FirstPacking B_spec_FirstPacking As_spec_FirstPacking R_spec_FirstPacking M_spec_FirstPacking)
theorem h_spec_FirstPacking : P_spec_FirstPacking = runF X_spec_FirstPacking B_spec_FirstPacking As_spec_FirstPacking R_spec_FirstPacking M_spec_FirstPacking := hid_eq _
def C_spec_FirstPacking : Contract := ⟨As_spec_FirstPacking, R_spec_FirstPacking, M_spec_FirstPacking, P_spec_FirstPacking⟩
theorem s_spec_FirstPacking : Sound Tryz.prog GG 9 C_spec_FirstPacking := by
 unfold C_spec_FirstPacking; rw [h_spec_FirstPacking]
 exact mkSk Tryz.f9 ⟨s_spec_l9Ask, s_spec_l9Find, trivial⟩ trivial
theorem p_spec_FirstPacking (a0 : D_Heap) (a1 : List (List D_A3)) : P_spec_FirstPacking (a0, a1, ()) =
 Option.bind (P_spec_l9Ask (a0, a1, ())) fun r0 =>
 bif !r0.1 then
 some (([] : List Int), false, ())
 else
 Option.bind (P_spec_l9Find (a0, a1, true, ())) fun r2 =>
 some (r2.1.1, decide (r2.1.2.1 > 0), ()) := by
 rewrite [h_spec_FirstPacking]
 kernel_rfl
abbrev As_impl_parity : List ATy := [.data false (.sl T_A3)]
abbrev R_impl_parity : List (Bool × Ty) := [(false, (.int .i64))]
abbrev M_impl_parity : List RMode := []
abbrev Ft_impl_parity : Type := (List D_A3) × Unit → Option (Int × Unit)
def X_impl_parity : Ctx := { types := TTk, globals := [], con := [], keep := [(3, ⟨[.tmp 3, .tmp 6, .tmp 7, .tmp 8], []⟩)], results := [.tmp 2], ntmps := 27, n := N }
def B_impl_parity : Code := (Tryz.f30.body).getD .skip
def L_impl_parity_3 (m0 : Nat) (p0 : Int) (p1 : List D_A3) (p2 p3 : Int) : Option (denL R_impl_parity) := loopF X_impl_parity B_impl_parity R_impl_parity M_impl_parity 3 [m0] [(.ver, .num 1), (.tmp 3, .val false [.int .i64 p0]), (.tmp 6, .val false [.imm T_A3 p1 (some 0)]), (.tmp 7, .val false [.int .i64 p2]), (.tmp 8, .val false [.int .i64 p3])]
def P_impl_parity : Ft_impl_parity := hid (runF X_impl_parity B_impl_parity As_impl_parity R_impl_parity M_impl_parity)
theorem h_impl_parity : P_impl_parity = runF X_impl_parity B_impl_parity As_impl_parity R_impl_parity M_impl_parity := hid_eq _
def C_impl_parity : Contract := ⟨As_impl_parity, R_impl_parity, M_impl_parity, P_impl_parity⟩
theorem s_impl_parity : Sound Tryz.prog GG 30 C_impl_parity := by
 unfold C_impl_parity; rw [h_impl_parity]
 exact mkSk Tryz.f30 trivial trivial
def l_impl_parity_3 := hid (L_impl_parity_3)
theorem h_impl_parity_3 : l_impl_parity_3 = L_impl_parity_3 := hid_eq _
theorem p_impl_parity (a0 : List D_A3) : P_impl_parity (a0, ()) =
 l_impl_parity_3 N 0 a0 (List.length a0 : Int) 0 := by
 rewrite [h_impl_parity, h_impl_parity_3]
 kernel_rfl
theorem q_impl_parity_3 (m0 : Nat) (p0 : Int) (p1 : List D_A3) (p2 p3 : Int) : l_impl_parity_3 (m0 + 1) p0 p1 p2 p3 =
 bif decide (p3 < p2) then
 bif inB p3 (List.length p1) then
 l_impl_parity_3 m0 (IntKind.wrap .i64 (p0 + (IntKind.wrap .i64 (1 - (IntKind.wrap .i64 (2 * (Int.tmod (IntKind.wrap .i64 ((IntKind.wrap .i64 (((nth T_A3 p1 p3)).1 + (((nth T_A3 p1 p3)).2).1)) + ((((nth T_A3 p1 p3)).2).2).1)) 2))))))) p1 p2 (IntKind.wrap .i64 (p3 + 1))
 else none
 else
 some (p0, ()) := by
 rewrite [h_impl_parity_3]
 kernel_rfl
abbrev As_impl_ParityBars : List ATy := [.data true T_Heap, .data false (.sl (.sl T_A3))]
abbrev R_impl_ParityBars : List (Bool × Ty) := [(false, .bool), (false, .bool)]
abbrev M_impl_ParityBars : List RMode := []
abbrev Ft_impl_ParityBars : Type := D_Heap × (List (List D_A3)) × Unit → Option (Bool × Bool × Unit)
def X_impl_ParityBars : Ctx := { types := TTk, globals := [], con := [(23, C_impl_arePacked), (30, C_impl_parity), (31, C_Heap_box), (32, C_box_list), (33, C_Heap_free)], keep := [(5, ⟨[.tmp 1, .tmp 6, .tmp 23, .tmp 24], []⟩), (9, ⟨[.tmp 1, .tmp 6, .tmp 7, .tmp 8, .tmp 23, .tmp 24, .tmp 27, .tmp 28, .tmp 29], []⟩)], results := [.tmp 4, .tmp 5], ntmps := 50, n := N }
def B_impl_ParityBars : Code := (Tryz.f10.body).getD .skip
def L_impl_ParityBars_5 (m0 : Nat) (p0 : List (List D_A3)) (p1 p2 p3 : Int) : Option (denL R_impl_ParityBars) := loopF X_impl_ParityBars B_impl_ParityBars R_impl_ParityBars M_impl_ParityBars 5 [m0] [(.ver, .num 1), (.tmp 1, .val false [.imm (.sl T_A3) p0 (some 4)]), (.tmp 6, .val false [.int .i64 p1]), (.tmp 23, .val false [.int .i64 p2]), (.tmp 24, .val false [.int .i64 p3])]
def L_impl_ParityBars_9 (m0 m1 : Nat) (p0 : List (List D_A3)) (p1 p2 p3 p4 p5 : Int) (p6 : List (List D_A3)) (p7 p8 : Int) : Option (denL R_impl_ParityBars) := loopF X_impl_ParityBars B_impl_ParityBars R_impl_ParityBars M_impl_ParityBars 9 [m0, m1] [(.ver, .num 1), (.tmp 1, .val false [.imm (.sl T_A3) p0 (some 4)]), (.tmp 6, .val false [.int .i64 p1]), (.tmp 7, .val false [.int .i64 p2]), (.tmp 8, .val false [.int .i64 p3]), (.tmp 23, .val false [.int .i64 p4]), (.tmp 24, .val false [.int .i64 p5]), (.tmp 27, .val false [.imm (.sl T_A3) p6 (some 4)]), (.tmp 28, .val false [.int .i64 p7]), (.tmp 29, .val false [.int .i64 p8])]
def P_impl_ParityBars : Ft_impl_ParityBars := hid (runF X_impl_ParityBars B_impl_ParityBars As_impl_ParityBars R_impl_ParityBars M_impl_ParityBars)
theorem h_impl_ParityBars : P_impl_ParityBars = runF X_impl_ParityBars B_impl_ParityBars As_impl_ParityBars R_impl_ParityBars M_impl_ParityBars := hid_eq _
def C_impl_ParityBars : Contract := ⟨As_impl_ParityBars, R_impl_ParityBars, M_impl_ParityBars, P_impl_ParityBars⟩
theorem s_impl_ParityBars : Sound Tryz.prog GG 10 C_impl_ParityBars := by
 unfold C_impl_ParityBars; rw [h_impl_ParityBars]
 exact mkSk Tryz.f10 ⟨s_impl_arePacked, s_impl_parity, s_Heap_box, s_box_list, s_Heap_free, trivial⟩ trivial
def l_impl_ParityBars_5 := hid (L_impl_ParityBars_5)
theorem h_impl_ParityBars_5 : l_impl_ParityBars_5 = L_impl_ParityBars_5 := hid_eq _
def l_impl_ParityBars_9 := hid (L_impl_ParityBars_9)
theorem h_impl_ParityBars_9 : l_impl_ParityBars_9 = L_impl_ParityBars_9 := hid_eq _
theorem p_impl_ParityBars (a0 : D_Heap) (a1 : List (List D_A3)) : P_impl_ParityBars (a0, a1, ()) =
 Option.bind (P_impl_arePacked (a0, a1, ())) fun r0 =>
 bif !r0.1 then
 some (false, false, ())
 else
 Option.bind (P_Heap_box (a0, ())) fun r2 =>
 Option.bind (P_Heap_free (a0, ())) fun r3 =>
 Option.bind (P_box_list (r2.1, r3.1, ())) fun r4 =>
 Option.bind (P_impl_parity (r4.1, ())) fun r5 =>
 bif decide ((0 : Int) ≤ (List.length a1 : Int)) then
 l_impl_ParityBars_5 N a1 r5.1 (shlI .i64 1 (List.length a1 : Int)) 0
 else none := by
 rewrite [h_impl_ParityBars, h_impl_ParityBars_5]
 kernel_rfl
theorem q_impl_ParityBars_5 (m0 : Nat) (p0 : List (List D_A3)) (p1 p2 p3 : Int) : l_impl_ParityBars_5 (m0 + 1) p0 p1 p2 p3 =
 bif decide (p3 < p2) then
 l_impl_ParityBars_9 m0 N p0 p1 p3 0 p2 p3 p0 (List.length p0 : Int) 0
 else
 some (true, true, ()) := by
 rewrite [h_impl_ParityBars_5, h_impl_ParityBars_9]
 kernel_rfl
theorem q_impl_ParityBars_9 (m0 m1 : Nat) (p0 : List (List D_A3)) (p1 p2 p3 p4 p5 : Int) (p6 : List (List D_A3)) (p7 p8 : Int) : l_impl_ParityBars_9 m0 (m1 + 1) p0 p1 p2 p3 p4 p5 p6 p7 p8 =
 bif decide (p8 < p7) then
 bif inB p8 (List.length p6) then
 Option.bind (P_impl_parity ((nth ((.sl T_A3) : Ty) p6 p8), ())) fun r2 =>
 bif decide ((0 : Int) ≤ p8) then
 l_impl_ParityBars_9 m0 m1 p0 p1 p2 (IntKind.wrap .i64 (p3 + (IntKind.wrap .i64 (r2.1 * (IntKind.wrap .i64 (1 - (IntKind.wrap .i64 (2 * (intBits .and .i64 (shrI .i64 p2 p8) 1))))))))) p4 p5 p6 p7 (IntKind.wrap .i64 (p8 + 1))
 else none
 else none
 else
 bif decide (p3 = p1) then
 some (false, true, ())
 else
 l_impl_ParityBars_5 m0 p0 p1 p4 (IntKind.wrap .i64 (p5 + 1)) := by
 rewrite [h_impl_ParityBars_5, h_impl_ParityBars_9]
 kernel_rfl
abbrev As_spec_l9Parity : List ATy := [.data false (.sl T_A3)]
abbrev R_spec_l9Parity : List (Bool × Ty) := [(false, (.int .i64))]
abbrev M_spec_l9Parity : List RMode := []
abbrev Ft_spec_l9Parity : Type := (List D_A3) × Unit → Option (Int × Unit)
def X_spec_l9Parity : Ctx := { types := TTk, globals := [], con := [], keep := [(3, ⟨[.tmp 0, .tmp 3, .tmp 4], []⟩)], results := [.tmp 2], ntmps := 34, n := N }
def B_spec_l9Parity : Code := (Tryz.f34.body).getD .skip
def L_spec_l9Parity_3 (m0 : Nat) (p0 : List D_A3) (p1 p2 : Int) : Option (denL R_spec_l9Parity) := loopF X_spec_l9Parity B_spec_l9Parity R_spec_l9Parity M_spec_l9Parity 3 [m0] [(.ver, .num 1), (.tmp 0, .val false [.imm T_A3 p0 (some 0)]), (.tmp 3, .val false [.int .i64 p1]), (.tmp 4, .val false [.int .i64 p2])]
def P_spec_l9Parity : Ft_spec_l9Parity := hid (runF X_spec_l9Parity B_spec_l9Parity As_spec_l9Parity R_spec_l9Parity M_spec_l9Parity)
theorem h_spec_l9Parity : P_spec_l9Parity = runF X_spec_l9Parity B_spec_l9Parity As_spec_l9Parity R_spec_l9Parity M_spec_l9Parity := hid_eq _
def C_spec_l9Parity : Contract := ⟨As_spec_l9Parity, R_spec_l9Parity, M_spec_l9Parity, P_spec_l9Parity⟩
theorem s_spec_l9Parity : Sound Tryz.prog GG 34 C_spec_l9Parity := by
 unfold C_spec_l9Parity; rw [h_spec_l9Parity]
 exact mkSk Tryz.f34 trivial trivial
def l_spec_l9Parity_3 := hid (L_spec_l9Parity_3)
theorem h_spec_l9Parity_3 : l_spec_l9Parity_3 = L_spec_l9Parity_3 := hid_eq _
theorem p_spec_l9Parity (a0 : List D_A3) : P_spec_l9Parity (a0, ()) =
 l_spec_l9Parity_3 N a0 0 0 := by
 rewrite [h_spec_l9Parity, h_spec_l9Parity_3]
 kernel_rfl
theorem q_spec_l9Parity_3 (m0 : Nat) (p0 : List D_A3) (p1 p2 : Int) : l_spec_l9Parity_3 (m0 + 1) p0 p1 p2 =
 bif decide (p2 < (List.length p0 : Int)) then
 bif inB p2 (List.length p0) then
 bif inB p2 (List.length p0) then
 bif inB p2 (List.length p0) then
 l_spec_l9Parity_3 m0 p0 (IntKind.wrap .i64 ((IntKind.wrap .i64 (p1 + 1)) - (IntKind.wrap .i64 (2 * (Int.tmod (IntKind.wrap .i64 ((IntKind.wrap .i64 (((nth T_A3 p0 p2)).1 + (((nth T_A3 p0 p2)).2).1)) + ((((nth T_A3 p0 p2)).2).2).1)) 2))))) (IntKind.wrap .i64 (p2 + 1))
 else none
 else none
 else none
 else
 some (p1, ()) := by
 rewrite [h_spec_l9Parity_3]
 kernel_rfl
abbrev As_spec_l9Free : List ATy := [.data true T_Heap]
abbrev R_spec_l9Free : List (Bool × Ty) := [(true, T_Heap)]
abbrev M_spec_l9Free : List RMode := [.own 57]
abbrev Ft_spec_l9Free : Type := D_Heap × Unit → Option (D_Heap × Unit)
def X_spec_l9Free : Ctx := { types := TTk, globals := [], con := [(44, C_spec_l2All), (61, C_spec_l2Empty), (62, C_spec_l2Has)], keep := [(4, ⟨[.box 1, .box 2, .box 3, .tmp 1, .tmp 2, .tmp 3, .tmp 4, .tmp 5], []⟩)], results := [.cell 2 26], ntmps := 38, n := N }
def B_spec_l9Free : Code := (Tryz.f35.body).getD .skip
def L_spec_l9Free_4 (m0 : Nat) (p0 p1 p2 : Int) (p3 : List D_A3) (p4 p5 p6 : Int) (p7 : List D_A3) (p8 p9 p10 : Int) (p11 p12 : List D_A3) (p13 : Int) : Option (denL R_spec_l9Free) := loopF X_spec_l9Free B_spec_l9Free R_spec_l9Free M_spec_l9Free 4 [m0] [(.ver, .num 1), (.box 1, .box 0 false [.int .i64 p0, .int .i64 p1, .int .i64 p2, .imm T_A3 p3 (some 3)]), (.box 2, .box 0 false [.int .i64 p4, .int .i64 p5, .int .i64 p6, .own 57 T_A3 0 p7]), (.box 3, .box 0 false [.int .i64 p8, .int .i64 p9, .int .i64 p10, .own 57 T_A3 0 p11]), (.tmp 1, .val false [.addr 1 0 0]), (.tmp 2, .val false [.addr 2 0 0]), (.tmp 3, .val false [.addr 3 0 0]), (.tmp 4, .val false [.own 57 T_A3 0 p12]), (.tmp 5, .val false [.int .i64 p13])]
def P_spec_l9Free : Ft_spec_l9Free := hid (runF X_spec_l9Free B_spec_l9Free As_spec_l9Free R_spec_l9Free M_spec_l9Free)
theorem h_spec_l9Free : P_spec_l9Free = runF X_spec_l9Free B_spec_l9Free As_spec_l9Free R_spec_l9Free M_spec_l9Free := hid_eq _
def C_spec_l9Free : Contract := ⟨As_spec_l9Free, R_spec_l9Free, M_spec_l9Free, P_spec_l9Free⟩
theorem s_spec_l9Free : Sound Tryz.prog GG 35 C_spec_l9Free := by
 unfold C_spec_l9Free; rw [h_spec_l9Free]
 exact mkSk Tryz.f35 ⟨s_spec_l2All, s_spec_l2Empty, s_spec_l2Has, trivial⟩ trivial
def l_spec_l9Free_4 := hid (L_spec_l9Free_4)
theorem h_spec_l9Free_4 : l_spec_l9Free_4 = L_spec_l9Free_4 := hid_eq _
theorem p_spec_l9Free (a0 : D_Heap) : P_spec_l9Free (a0, ()) =
 Option.bind (P_spec_l2Empty (a0.1, a0.2.1, a0.2.2.1, ())) fun r0 =>
 Option.bind (P_spec_l2All (a0, ())) fun r1 =>
 l_spec_l9Free_4 N a0.1 a0.2.1 a0.2.2.1 a0.2.2.2.1 0 0 0 ([] : List D_A3) r0.1.1 r0.1.2.1 r0.1.2.2.1 r0.1.2.2.2.1 r1.1 0 := by
 rewrite [h_spec_l9Free, h_spec_l9Free_4]
 kernel_rfl
theorem q_spec_l9Free_4 (m0 : Nat) (p0 p1 p2 : Int) (p3 : List D_A3) (p4 p5 p6 : Int) (p7 : List D_A3) (p8 p9 p10 : Int) (p11 p12 : List D_A3) (p13 : Int) : l_spec_l9Free_4 (m0 + 1) p0 p1 p2 p3 p4 p5 p6 p7 p8 p9 p10 p11 p12 p13 =
 bif decide (p13 < (List.length p12 : Int)) then
 bif inB p13 (List.length p12) then
 Option.bind (P_spec_l2Has ((p0, (p1, (p2, (p3, ())))), (nth T_A3 p12 p13), ())) fun r2 =>
 bif !r2.1 then
 bif inB p13 (List.length p12) then
 bif (decide (((List.length p11) + (List.length ([(nth T_A3 p12 p13)] : List D_A3))) * 24 ≤ 140737488355328) && decide (((List.length p11) + (List.length ([(nth T_A3 p12 p13)] : List D_A3))) ≤ 140737488355328)) then
 l_spec_l9Free_4 m0 p0 p1 p2 p3 p4 p5 p6 p7 p8 p9 p10 (p11 ++ ([(nth T_A3 p12 p13)] : List D_A3)) p12 (IntKind.wrap .i64 (p13 + 1))
 else none
 else none
 else
 l_spec_l9Free_4 m0 p0 p1 p2 p3 p4 p5 p6 p7 p8 p9 p10 p11 p12 (IntKind.wrap .i64 (p13 + 1))
 else none
 else
 some ((p8, (p9, (p10, (p11, ())))), ()) := by
 rewrite [h_spec_l9Free_4]
 kernel_rfl
abbrev As_spec_ParityBars : List ATy := [.data true T_Heap, .data false (.sl (.sl T_A3))]
abbrev R_spec_ParityBars : List (Bool × Ty) := [(false, .bool), (false, .bool)]
abbrev M_spec_ParityBars : List RMode := []
abbrev Ft_spec_ParityBars : Type := D_Heap × (List (List D_A3)) × Unit → Option (Bool × Bool × Unit)
def X_spec_ParityBars : Ctx := { types := TTk, globals := [], con := [(26, C_spec_l9Ask), (34, C_spec_l9Parity), (35, C_spec_l9Free)], keep := [(5, ⟨[.tmp 1, .tmp 6, .tmp 7], []⟩), (9, ⟨[.tmp 1, .tmp 6, .tmp 7, .tmp 8, .tmp 9], []⟩)], results := [.tmp 4, .tmp 5], ntmps := 48, n := N }
def B_spec_ParityBars : Code := (Tryz.f11.body).getD .skip
def L_spec_ParityBars_5 (m0 : Nat) (p0 : List (List D_A3)) (p1 p2 : Int) : Option (denL R_spec_ParityBars) := loopF X_spec_ParityBars B_spec_ParityBars R_spec_ParityBars M_spec_ParityBars 5 [m0] [(.ver, .num 1), (.tmp 1, .val false [.imm (.sl T_A3) p0 (some 4)]), (.tmp 6, .val false [.int .i64 p1]), (.tmp 7, .val false [.int .i64 p2])]
def L_spec_ParityBars_9 (m0 m1 : Nat) (p0 : List (List D_A3)) (p1 p2 p3 p4 : Int) : Option (denL R_spec_ParityBars) := loopF X_spec_ParityBars B_spec_ParityBars R_spec_ParityBars M_spec_ParityBars 9 [m0, m1] [(.ver, .num 1), (.tmp 1, .val false [.imm (.sl T_A3) p0 (some 4)]), (.tmp 6, .val false [.int .i64 p1]), (.tmp 7, .val false [.int .i64 p2]), (.tmp 8, .val false [.int .i64 p3]), (.tmp 9, .val false [.int .i64 p4])]
def P_spec_ParityBars : Ft_spec_ParityBars := hid (runF X_spec_ParityBars B_spec_ParityBars As_spec_ParityBars R_spec_ParityBars M_spec_ParityBars)
theorem h_spec_ParityBars : P_spec_ParityBars = runF X_spec_ParityBars B_spec_ParityBars As_spec_ParityBars R_spec_ParityBars M_spec_ParityBars := hid_eq _
def C_spec_ParityBars : Contract := ⟨As_spec_ParityBars, R_spec_ParityBars, M_spec_ParityBars, P_spec_ParityBars⟩
theorem s_spec_ParityBars : Sound Tryz.prog GG 11 C_spec_ParityBars := by
 unfold C_spec_ParityBars; rw [h_spec_ParityBars]
 exact mkSk Tryz.f11 ⟨s_spec_l9Ask, s_spec_l9Parity, s_spec_l9Free, trivial⟩ trivial
def l_spec_ParityBars_5 := hid (L_spec_ParityBars_5)
theorem h_spec_ParityBars_5 : l_spec_ParityBars_5 = L_spec_ParityBars_5 := hid_eq _
def l_spec_ParityBars_9 := hid (L_spec_ParityBars_9)
theorem h_spec_ParityBars_9 : l_spec_ParityBars_9 = L_spec_ParityBars_9 := hid_eq _
theorem p_spec_ParityBars (a0 : D_Heap) (a1 : List (List D_A3)) : P_spec_ParityBars (a0, a1, ()) =
 Option.bind (P_spec_l9Ask (a0, a1, ())) fun r0 =>
 bif !r0.1 then
 some (false, false, ())
 else
 Option.bind (P_spec_l9Free (a0, ())) fun r2 =>
 Option.bind (P_spec_l9Parity (r2.1.2.2.2.1, ())) fun r3 =>
 l_spec_ParityBars_5 N a1 r3.1 0 := by
 rewrite [h_spec_ParityBars, h_spec_ParityBars_5]
 kernel_rfl
theorem q_spec_ParityBars_5 (m0 : Nat) (p0 : List (List D_A3)) (p1 p2 : Int) : l_spec_ParityBars_5 (m0 + 1) p0 p1 p2 =
 bif decide ((0 : Int) ≤ (List.length p0 : Int)) then
 bif decide (p2 < (shlI .i64 1 (List.length p0 : Int))) then
 l_spec_ParityBars_9 m0 N p0 p1 p2 0 0
 else
 some (true, true, ())
 else none := by
 rewrite [h_spec_ParityBars_5, h_spec_ParityBars_9]
 kernel_rfl
theorem q_spec_ParityBars_9 (m0 m1 : Nat) (p0 : List (List D_A3)) (p1 p2 p3 p4 : Int) : l_spec_ParityBars_9 m0 (m1 + 1) p0 p1 p2 p3 p4 =
 bif decide (p4 < (List.length p0 : Int)) then
 bif decide ((0 : Int) ≤ p4) then
 bif inB p4 (List.length p0) then
 Option.bind (P_spec_l9Parity ((nth ((.sl T_A3) : Ty) p0 p4), ())) fun r3 =>
 l_spec_ParityBars_9 m0 m1 p0 p1 p2 (IntKind.wrap .i64 (p3 + (IntKind.wrap .i64 ((IntKind.wrap .i64 (1 - (IntKind.wrap .i64 (2 * (intBits .and .i64 (shrI .i64 p2 p4) 1))))) * r3.1)))) (IntKind.wrap .i64 (p4 + 1))
 else none
 else none
 else
 bif decide (p3 = p1) then
 some (false, true, ())
 else
 l_spec_ParityBars_5 m0 p0 p1 (IntKind.wrap .i64 (p2 + 1)) := by
 rewrite [h_spec_ParityBars_5, h_spec_ParityBars_9]
 kernel_rfl
abbrev As_spec_DrawIsPacking : List ATy := [.data false (.sl (.int .u8))]
abbrev R_spec_DrawIsPacking : List (Bool × Ty) := [(true, T_Heap), (false, (.sl (.sl T_A3))), (false, (.sl (.int .i64)))]
abbrev M_spec_DrawIsPacking : List RMode := [.imm, .imm, .imm]
abbrev Ft_spec_DrawIsPacking : Type := (List Int) × Unit → Option (D_Heap × (List (List D_A3)) × (List Int) × Unit)
def X_spec_DrawIsPacking : Ctx := { types := TTk, globals := [], con := [(9, C_spec_FirstPacking), (38, C_spec_l1Own)], mcon := [(36, C_l1Cur_pack9), (37, C_l1Cur_one), (39, C_l1Cur_among), (40, C_l1Cur_pick)], keep := [], results := [.cell 2 26, .tmp 3, .tmp 4], ntmps := 48, n := N }
def B_spec_DrawIsPacking : Code := (Tryz.f12.body).getD .skip
def P_spec_DrawIsPacking : Ft_spec_DrawIsPacking := hid (runF X_spec_DrawIsPacking B_spec_DrawIsPacking As_spec_DrawIsPacking R_spec_DrawIsPacking M_spec_DrawIsPacking)
theorem h_spec_DrawIsPacking : P_spec_DrawIsPacking = runF X_spec_DrawIsPacking B_spec_DrawIsPacking As_spec_DrawIsPacking R_spec_DrawIsPacking M_spec_DrawIsPacking := hid_eq _
def C_spec_DrawIsPacking : Contract := ⟨As_spec_DrawIsPacking, R_spec_DrawIsPacking, M_spec_DrawIsPacking, P_spec_DrawIsPacking⟩
theorem s_spec_DrawIsPacking : Sound Tryz.prog GG 12 C_spec_DrawIsPacking := by
 unfold C_spec_DrawIsPacking; rw [h_spec_DrawIsPacking]
 exact mkSk Tryz.f12 ⟨s_spec_FirstPacking, s_spec_l1Own, trivial⟩ ⟨s_l1Cur_pack9, s_l1Cur_one, s_l1Cur_among, s_l1Cur_pick, trivial⟩
theorem p_spec_DrawIsPacking (a0 : List Int) : P_spec_DrawIsPacking (a0, ()) =
 Option.bind (P_l1Cur_pack9 ((a0, (0, (0, ()))), ())) fun r0 =>
 Option.bind (P_spec_FirstPacking (r0.1.1, r0.1.2.1, ())) fun r1 =>
 bif !r1.2.1 then
 bif decide ((List.length ([0, 0] : List Int) : Int) > 0) then
 Option.bind (P_l1Cur_one ((a0, r0.2.1.2), 6, ())) fun r4 =>
 bif r4.1.1 then
 Option.bind (P_spec_l1Own (([0, 0] : List Int), ())) fun r6 =>
 Option.bind (P_l1Cur_pick ((a0, r4.2.1.2), (List.length r6.1 : Int), ())) fun r7 =>
 Option.bind (P_l1Cur_among ((a0, r7.2.1.2), ([(-1), 0, 1, 8, (-2)] : List Int), ())) fun r8 =>
 bif inB r7.1.1 (List.length r6.1) then
 some (r0.1.1, r0.1.2.1, (List.set r6.1 (Int.toNat r7.1.1) r8.1.1), ())
 else none
 else
 some (r0.1.1, r0.1.2.1, ([0, 0] : List Int), ())
 else
 some (r0.1.1, r0.1.2.1, ([0, 0] : List Int), ())
 else
 bif decide ((List.length r1.1 : Int) > 0) then
 Option.bind (P_l1Cur_one ((a0, r0.2.1.2), 6, ())) fun r4 =>
 bif r4.1.1 then
 Option.bind (P_spec_l1Own (r1.1, ())) fun r6 =>
 Option.bind (P_l1Cur_pick ((a0, r4.2.1.2), (List.length r6.1 : Int), ())) fun r7 =>
 Option.bind (P_l1Cur_among ((a0, r7.2.1.2), ([(-1), 0, 1, 8, (-2)] : List Int), ())) fun r8 =>
 bif inB r7.1.1 (List.length r6.1) then
 some (r0.1.1, r0.1.2.1, (List.set r6.1 (Int.toNat r7.1.1) r8.1.1), ())
 else none
 else
 some (r0.1.1, r0.1.2.1, r1.1, ())
 else
 some (r0.1.1, r0.1.2.1, r1.1, ()) := by
 rewrite [h_spec_DrawIsPacking]
 kernel_rfl
abbrev As_laws_vCut : List ATy := [.data false (.sl (.int .u8)), .data false (.int .i64)]
abbrev R_laws_vCut : List (Bool × Ty) := [(false, (.sl (.int .u8)))]
abbrev M_laws_vCut : List RMode := [.own 5]
abbrev Ft_laws_vCut : Type := (List Int) × Int × Unit → Option ((List Int) × Unit)
def X_laws_vCut : Ctx := { types := TTk, globals := [], con := [], keep := [], results := [.tmp 4], ntmps := 20, n := N }
def B_laws_vCut : Code := (Tryz.f13.body).getD .skip
def P_laws_vCut : Ft_laws_vCut := hid (runF X_laws_vCut B_laws_vCut As_laws_vCut R_laws_vCut M_laws_vCut)
theorem h_laws_vCut : P_laws_vCut = runF X_laws_vCut B_laws_vCut As_laws_vCut R_laws_vCut M_laws_vCut := hid_eq _
def C_laws_vCut : Contract := ⟨As_laws_vCut, R_laws_vCut, M_laws_vCut, P_laws_vCut⟩
theorem s_laws_vCut : Sound Tryz.prog GG 13 C_laws_vCut := by
 unfold C_laws_vCut; rw [h_laws_vCut]
 exact mkSk Tryz.f13 trivial trivial
theorem p_laws_vCut (a0 : List Int) (a1 : Int) : P_laws_vCut (a0, a1, ()) =
 bif decide (a1 > (List.length a0 : Int)) then
 bif (decide ((0 : Int) ≤ (List.length a0 : Int)) && decide ((List.length a0 : Int) ≤ (List.length a0 : Int)) && decide ((List.length a0 : Int) ≤ (List.length a0 : Int))) then
 bif (decide (((List.length ([] : List Int)) + (List.length (cut a0 (List.length a0 : Int) (List.length a0 : Int)))) * 1 ≤ 140737488355328) && decide (((List.length ([] : List Int)) + (List.length (cut a0 (List.length a0 : Int) (List.length a0 : Int)))) ≤ 140737488355328)) then
 bif (decide (((List.length (([] : List Int) ++ (cut a0 (List.length a0 : Int) (List.length a0 : Int)))) + (List.length ([(IntKind.wrap .u8 (List.length a0 : Int))] : List Int))) * 1 ≤ 140737488355328) && decide (((List.length (([] : List Int) ++ (cut a0 (List.length a0 : Int) (List.length a0 : Int)))) + (List.length ([(IntKind.wrap .u8 (List.length a0 : Int))] : List Int))) ≤ 140737488355328)) then
 some (((([] : List Int) ++ (cut a0 (List.length a0 : Int) (List.length a0 : Int))) ++ ([(IntKind.wrap .u8 (List.length a0 : Int))] : List Int)), ())
 else none
 else none
 else none
 else
 bif (decide ((0 : Int) ≤ a1) && decide (a1 ≤ (List.length a0 : Int)) && decide ((List.length a0 : Int) ≤ (List.length a0 : Int))) then
 bif (decide (((List.length ([] : List Int)) + (List.length (cut a0 a1 (List.length a0 : Int)))) * 1 ≤ 140737488355328) && decide (((List.length ([] : List Int)) + (List.length (cut a0 a1 (List.length a0 : Int)))) ≤ 140737488355328)) then
 bif (decide (((List.length (([] : List Int) ++ (cut a0 a1 (List.length a0 : Int)))) + (List.length ([(IntKind.wrap .u8 a1)] : List Int))) * 1 ≤ 140737488355328) && decide (((List.length (([] : List Int) ++ (cut a0 a1 (List.length a0 : Int)))) + (List.length ([(IntKind.wrap .u8 a1)] : List Int))) ≤ 140737488355328)) then
 some (((([] : List Int) ++ (cut a0 a1 (List.length a0 : Int))) ++ ([(IntKind.wrap .u8 a1)] : List Int)), ())
 else none
 else none
 else none := by
 rewrite [h_laws_vCut]
 kernel_rfl
abbrev As_Heap_isPacking : List ATy := [.data true T_Heap, .data false (.sl (.sl T_A3)), .data false (.sl (.int .i64))]
abbrev R_Heap_isPacking : List (Bool × Ty) := [(false, .bool)]
abbrev M_Heap_isPacking : List RMode := []
abbrev Ft_Heap_isPacking : Type := D_Heap × (List (List D_A3)) × (List Int) × Unit → Option (Bool × Unit)
def X_Heap_isPacking : Ctx := { types := TTk, globals := [], con := [(31, C_Heap_box), (32, C_box_list), (33, C_Heap_free), (49, C_box_placed), (50, C_box_size), (52, C_impl_added), (70, C_impl_allWithin)], keep := [(6, ⟨[.box 7, .tmp 2, .tmp 7, .tmp 8, .tmp 34, .tmp 35, .tmp 36], []⟩), (10, ⟨[.box 7, .tmp 2, .tmp 7, .tmp 8, .tmp 9, .tmp 10, .tmp 11, .tmp 34, .tmp 35, .tmp 36, .tmp 41, .tmp 42, .tmp 43], []⟩)], results := [.tmp 6], ntmps := 101, n := N }
def B_Heap_isPacking : Code := (Tryz.f41.body).getD .skip
def L_Heap_isPacking_6 (m0 : Nat) (p0 p1 p2 : Int) (p3 : List Int) (p4 : Int) (p5 : List (List D_A3)) (p6 p7 : Int) : Option (denL R_Heap_isPacking) := loopF X_Heap_isPacking B_Heap_isPacking R_Heap_isPacking M_Heap_isPacking 6 [m0] [(.ver, .num 1), (.box 7, .box 0 false [.int .i64 p0, .int .i64 p1, .int .i64 p2]), (.tmp 2, .val false [.imm (.int .i64) p3 (some 5)]), (.tmp 7, .val false [.addr 7 0 0]), (.tmp 8, .val false [.int .u64 p4]), (.tmp 34, .val false [.imm (.sl T_A3) p5 (some 4)]), (.tmp 35, .val false [.int .i64 p6]), (.tmp 36, .val false [.int .i64 p7])]
def L_Heap_isPacking_10 (m0 m1 : Nat) (p0 p1 p2 : Int) (p3 : List Int) (p4 p5 : Int) (p6 : List D_A3) (p7 : Int) (p8 : List (List D_A3)) (p9 p10 : Int) (p11 : List Int) (p12 p13 : Int) : Option (denL R_Heap_isPacking) := loopF X_Heap_isPacking B_Heap_isPacking R_Heap_isPacking M_Heap_isPacking 10 [m0, m1] [(.ver, .num 1), (.box 7, .box 0 false [.int .i64 p0, .int .i64 p1, .int .i64 p2]), (.tmp 2, .val false [.imm (.int .i64) p3 (some 5)]), (.tmp 7, .val false [.addr 7 0 0]), (.tmp 8, .val false [.int .u64 p4]), (.tmp 9, .val false [.int .i64 p5]), (.tmp 10, .val false [.imm T_A3 p6 none]), (.tmp 11, .val false [.int .u64 p7]), (.tmp 34, .val false [.imm (.sl T_A3) p8 (some 4)]), (.tmp 35, .val false [.int .i64 p9]), (.tmp 36, .val false [.int .i64 p10]), (.tmp 41, .val false [.imm (.int .i64) p11 (some 5)]), (.tmp 42, .val false [.int .i64 p12]), (.tmp 43, .val false [.int .i64 p13])]
def P_Heap_isPacking : Ft_Heap_isPacking := hid (runF X_Heap_isPacking B_Heap_isPacking As_Heap_isPacking R_Heap_isPacking M_Heap_isPacking)
theorem h_Heap_isPacking : P_Heap_isPacking = runF X_Heap_isPacking B_Heap_isPacking As_Heap_isPacking R_Heap_isPacking M_Heap_isPacking := hid_eq _
def C_Heap_isPacking : Contract := ⟨As_Heap_isPacking, R_Heap_isPacking, M_Heap_isPacking, P_Heap_isPacking⟩
theorem s_Heap_isPacking : Sound Tryz.prog GG 41 C_Heap_isPacking := by
 unfold C_Heap_isPacking; rw [h_Heap_isPacking]
 exact mkSk Tryz.f41 ⟨s_Heap_box, s_box_list, s_Heap_free, s_box_placed, s_box_size, s_impl_added, s_impl_allWithin, trivial⟩ trivial
def l_Heap_isPacking_6 := hid (L_Heap_isPacking_6)
theorem h_Heap_isPacking_6 : l_Heap_isPacking_6 = L_Heap_isPacking_6 := hid_eq _
def l_Heap_isPacking_10 := hid (L_Heap_isPacking_10)
theorem h_Heap_isPacking_10 : l_Heap_isPacking_10 = L_Heap_isPacking_10 := hid_eq _
theorem p_Heap_isPacking (a0 : D_Heap) (a1 : List (List D_A3)) (a2 : List Int) : P_Heap_isPacking (a0, a1, a2, ()) =
 Option.bind (P_Heap_box (a0, ())) fun r0 =>
 Option.bind (P_box_size (r0.1, ())) fun r1 =>
 bif !decide ((List.length a2 : Int) = r1.1) then
 some (false, ())
 else
 Option.bind (P_impl_allWithin (a2, (-1), (IntKind.wrap .i64 ((List.length a1 : Int) - 1)), ())) fun r3 =>
 bif !r3.1 then
 some (false, ())
 else
 Option.bind (P_Heap_free (a0, ())) fun r5 =>
 l_Heap_isPacking_6 N r0.1.1 r0.1.2.1 r0.1.2.2.1 a2 r5.1 a1 (List.length a1 : Int) 0 := by
 rewrite [h_Heap_isPacking, h_Heap_isPacking_6]
 kernel_rfl
theorem q_Heap_isPacking_6 (m0 : Nat) (p0 p1 p2 : Int) (p3 : List Int) (p4 : Int) (p5 : List (List D_A3)) (p6 p7 : Int) : l_Heap_isPacking_6 (m0 + 1) p0 p1 p2 p3 p4 p5 p6 p7 =
 bif decide (p7 < p6) then
 bif inB p7 (List.length p5) then
 l_Heap_isPacking_10 m0 N p0 p1 p2 p3 p4 p7 (nth ((.sl T_A3) : Ty) p5 p7) 0 p5 p6 p7 p3 (List.length p3 : Int) 0
 else none
 else
 some (decide (p4 = 0), ()) := by
 rewrite [h_Heap_isPacking_6, h_Heap_isPacking_10]
 kernel_rfl
theorem q_Heap_isPacking_10 (m0 m1 : Nat) (p0 p1 p2 : Int) (p3 : List Int) (p4 p5 : Int) (p6 : List D_A3) (p7 : Int) (p8 : List (List D_A3)) (p9 p10 : Int) (p11 : List Int) (p12 p13 : Int) : l_Heap_isPacking_10 m0 (m1 + 1) p0 p1 p2 p3 p4 p5 p6 p7 p8 p9 p10 p11 p12 p13 =
 bif decide (p13 < p12) then
 bif inB p13 (List.length p11) then
 bif decide ((nth ((.int .i64) : Ty) p11 p13) = p5) then
 bif decide ((0 : Int) ≤ p13) then
 l_Heap_isPacking_10 m0 m1 p0 p1 p2 p3 p4 p5 p6 (intBits .or .u64 p7 (shlI .u64 1 p13)) p8 p9 p10 p11 p12 (IntKind.wrap .i64 (p13 + 1))
 else none
 else
 l_Heap_isPacking_10 m0 m1 p0 p1 p2 p3 p4 p5 p6 p7 p8 p9 p10 p11 p12 (IntKind.wrap .i64 (p13 + 1))
 else none
 else
 bif decide (p7 = 0) then
 some (false, ())
 else
 Option.bind (P_box_list ((p0, (p1, (p2, ()))), p7, ())) fun r2 =>
 bif inB 0 (List.length r2.1) then
 bif inB 0 (List.length p6) then
 bif inB 0 (List.length p6) then
 bif inB 0 (List.length p6) then
 Option.bind (P_impl_added ((nth T_A3 r2.1 0), ((IntKind.wrap .i64 (0 - ((nth T_A3 p6 0)).1)), ((IntKind.wrap .i64 (0 - (((nth T_A3 p6 0)).2).1)), ((IntKind.wrap .i64 (0 - ((((nth T_A3 p6 0)).2).2).1)), ()))), ())) fun r7 =>
 Option.bind (P_box_placed ((p0, (p1, (p2, ()))), p4, p6, r7.1, ())) fun r8 =>
 bif !r8.2.1 then
 some (false, ())
 else
 bif !decide (r8.1 = p7) then
 some (false, ())
 else
 l_Heap_isPacking_6 m0 p0 p1 p2 p3 (intBits .andNot .u64 p4 p7) p8 p9 (IntKind.wrap .i64 (p10 + 1))
 else none
 else none
 else none
 else none := by
 rewrite [h_Heap_isPacking_6, h_Heap_isPacking_10]
 kernel_rfl
abbrev As_impl_IsPacking : List ATy := [.data true T_Heap, .data false (.sl (.sl T_A3)), .data false (.sl (.int .i64))]
abbrev R_impl_IsPacking : List (Bool × Ty) := [(false, .bool), (false, .bool)]
abbrev M_impl_IsPacking : List RMode := []
abbrev Ft_impl_IsPacking : Type := D_Heap × (List (List D_A3)) × (List Int) × Unit → Option (Bool × Bool × Unit)
def X_impl_IsPacking : Ctx := { types := TTk, globals := [], con := [(23, C_impl_arePacked), (41, C_Heap_isPacking)], keep := [], results := [.tmp 6, .tmp 7], ntmps := 16, n := N }
def B_impl_IsPacking : Code := (Tryz.f14.body).getD .skip
def P_impl_IsPacking : Ft_impl_IsPacking := hid (runF X_impl_IsPacking B_impl_IsPacking As_impl_IsPacking R_impl_IsPacking M_impl_IsPacking)
theorem h_impl_IsPacking : P_impl_IsPacking = runF X_impl_IsPacking B_impl_IsPacking As_impl_IsPacking R_impl_IsPacking M_impl_IsPacking := hid_eq _
def C_impl_IsPacking : Contract := ⟨As_impl_IsPacking, R_impl_IsPacking, M_impl_IsPacking, P_impl_IsPacking⟩
theorem s_impl_IsPacking : Sound Tryz.prog GG 14 C_impl_IsPacking := by
 unfold C_impl_IsPacking; rw [h_impl_IsPacking]
 exact mkSk Tryz.f14 ⟨s_impl_arePacked, s_Heap_isPacking, trivial⟩ trivial
theorem p_impl_IsPacking (a0 : D_Heap) (a1 : List (List D_A3)) (a2 : List Int) : P_impl_IsPacking (a0, a1, a2, ()) =
 Option.bind (P_impl_arePacked (a0, a1, ())) fun r0 =>
 bif !r0.1 then
 some (false, false, ())
 else
 Option.bind (P_Heap_isPacking (a0, a1, a2, ())) fun r2 =>
 some (r2.1, true, ()) := by
 rewrite [h_impl_IsPacking]
 kernel_rfl
abbrev As_spec_l9Packing : List ATy := [.data true T_Heap, .data false (.sl (.sl T_A3)), .data false (.sl (.int .i64))]
abbrev R_spec_l9Packing : List (Bool × Ty) := [(false, .bool)]
abbrev M_spec_l9Packing : List RMode := []
abbrev Ft_spec_l9Packing : Type := D_Heap × (List (List D_A3)) × (List Int) × Unit → Option (Bool × Unit)
def X_spec_l9Packing : Ctx := { types := TTk, globals := [], con := [(44, C_spec_l2All), (56, C_spec_l9Cells), (62, C_spec_l2Has), (71, C_spec_l1In)], keep := [(5, ⟨[.box 3, .tmp 1, .tmp 2, .tmp 3, .tmp 7, .tmp 8], []⟩), (10, ⟨[.tmp 1, .tmp 2, .tmp 7, .tmp 9], []⟩), (14, ⟨[.tmp 1, .tmp 2, .tmp 7, .tmp 9, .tmp 10, .tmp 11], []⟩), (21, ⟨[.tmp 1, .tmp 2, .tmp 7, .tmp 9, .tmp 10, .tmp 12], []⟩), (24, ⟨[.tmp 1, .tmp 2, .tmp 7, .tmp 9, .tmp 10, .tmp 12, .tmp 13], []⟩)], results := [.tmp 6], ntmps := 136, n := N }
def B_spec_l9Packing : Code := (Tryz.f42.body).getD .skip
def L_spec_l9Packing_5 (m0 : Nat) (p0 p1 p2 : Int) (p3 : List D_A3) (p4 : List (List D_A3)) (p5 : List Int) (p6 : List D_A3) (p7 : Int) : Option (denL R_spec_l9Packing) := loopF X_spec_l9Packing B_spec_l9Packing R_spec_l9Packing M_spec_l9Packing 5 [m0] [(.ver, .num 1), (.box 3, .box 0 false [.int .i64 p0, .int .i64 p1, .int .i64 p2, .imm T_A3 p3 (some 3)]), (.tmp 1, .val false [.imm (.sl T_A3) p4 (some 4)]), (.tmp 2, .val false [.imm (.int .i64) p5 (some 5)]), (.tmp 3, .val false [.addr 3 0 0]), (.tmp 7, .val false [.own 57 T_A3 0 p6]), (.tmp 8, .val false [.int .i64 p7])]
def L_spec_l9Packing_10 (m0 : Nat) (p0 : List (List D_A3)) (p1 : List Int) (p2 : List D_A3) (p3 : Int) : Option (denL R_spec_l9Packing) := loopF X_spec_l9Packing B_spec_l9Packing R_spec_l9Packing M_spec_l9Packing 10 [m0] [(.ver, .num 1), (.tmp 1, .val false [.imm (.sl T_A3) p0 (some 4)]), (.tmp 2, .val false [.imm (.int .i64) p1 (some 5)]), (.tmp 7, .val false [.own 57 T_A3 0 p2]), (.tmp 9, .val false [.int .i64 p3])]
def L_spec_l9Packing_14 (m0 m1 : Nat) (p0 : List (List D_A3)) (p1 : List Int) (p2 : List D_A3) (p3 : Int) (p4 : List D_A3) (p5 : Int) : Option (denL R_spec_l9Packing) := loopF X_spec_l9Packing B_spec_l9Packing R_spec_l9Packing M_spec_l9Packing 14 [m0, m1] [(.ver, .num 1), (.tmp 1, .val false [.imm (.sl T_A3) p0 (some 4)]), (.tmp 2, .val false [.imm (.int .i64) p1 (some 5)]), (.tmp 7, .val false [.own 57 T_A3 0 p2]), (.tmp 9, .val false [.int .i64 p3]), (.tmp 10, .val false [.own 57 T_A3 0 p4]), (.tmp 11, .val false [.int .i64 p5])]
def L_spec_l9Packing_21 (m0 m1 : Nat) (p0 : List (List D_A3)) (p1 : List Int) (p2 : List D_A3) (p3 : Int) (p4 : List D_A3) (p5 : Int) : Option (denL R_spec_l9Packing) := loopF X_spec_l9Packing B_spec_l9Packing R_spec_l9Packing M_spec_l9Packing 21 [m0, m1] [(.ver, .num 1), (.tmp 1, .val false [.imm (.sl T_A3) p0 (some 4)]), (.tmp 2, .val false [.imm (.int .i64) p1 (some 5)]), (.tmp 7, .val false [.own 57 T_A3 0 p2]), (.tmp 9, .val false [.int .i64 p3]), (.tmp 10, .val false [.own 57 T_A3 0 p4]), (.tmp 12, .val false [.int .i64 p5])]
def L_spec_l9Packing_24 (m0 m1 m2 : Nat) (p0 : List (List D_A3)) (p1 : List Int) (p2 : List D_A3) (p3 : Int) (p4 : List D_A3) (p5 p6 : Int) : Option (denL R_spec_l9Packing) := loopF X_spec_l9Packing B_spec_l9Packing R_spec_l9Packing M_spec_l9Packing 24 [m0, m1, m2] [(.ver, .num 1), (.tmp 1, .val false [.imm (.sl T_A3) p0 (some 4)]), (.tmp 2, .val false [.imm (.int .i64) p1 (some 5)]), (.tmp 7, .val false [.own 57 T_A3 0 p2]), (.tmp 9, .val false [.int .i64 p3]), (.tmp 10, .val false [.own 57 T_A3 0 p4]), (.tmp 12, .val false [.int .i64 p5]), (.tmp 13, .val false [.int .i64 p6])]
def P_spec_l9Packing : Ft_spec_l9Packing := hid (runF X_spec_l9Packing B_spec_l9Packing As_spec_l9Packing R_spec_l9Packing M_spec_l9Packing)
theorem h_spec_l9Packing : P_spec_l9Packing = runF X_spec_l9Packing B_spec_l9Packing As_spec_l9Packing R_spec_l9Packing M_spec_l9Packing := hid_eq _
def C_spec_l9Packing : Contract := ⟨As_spec_l9Packing, R_spec_l9Packing, M_spec_l9Packing, P_spec_l9Packing⟩
theorem s_spec_l9Packing : Sound Tryz.prog GG 42 C_spec_l9Packing := by
 unfold C_spec_l9Packing; rw [h_spec_l9Packing]
 exact mkSk Tryz.f42 ⟨s_spec_l2All, s_spec_l9Cells, s_spec_l2Has, s_spec_l1In, trivial⟩ trivial
def l_spec_l9Packing_5 := hid (L_spec_l9Packing_5)
theorem h_spec_l9Packing_5 : l_spec_l9Packing_5 = L_spec_l9Packing_5 := hid_eq _
def l_spec_l9Packing_10 := hid (L_spec_l9Packing_10)
theorem h_spec_l9Packing_10 : l_spec_l9Packing_10 = L_spec_l9Packing_10 := hid_eq _
def l_spec_l9Packing_14 := hid (L_spec_l9Packing_14)
theorem h_spec_l9Packing_14 : l_spec_l9Packing_14 = L_spec_l9Packing_14 := hid_eq _
def l_spec_l9Packing_21 := hid (L_spec_l9Packing_21)
theorem h_spec_l9Packing_21 : l_spec_l9Packing_21 = L_spec_l9Packing_21 := hid_eq _
def l_spec_l9Packing_24 := hid (L_spec_l9Packing_24)
theorem h_spec_l9Packing_24 : l_spec_l9Packing_24 = L_spec_l9Packing_24 := hid_eq _
theorem p_spec_l9Packing (a0 : D_Heap) (a1 : List (List D_A3)) (a2 : List Int) : P_spec_l9Packing (a0, a1, a2, ()) =
 Option.bind (P_spec_l2All (a0, ())) fun r0 =>
 bif !decide ((List.length a2 : Int) = (List.length r0.1 : Int)) then
 some (false, ())
 else
 Option.bind (P_spec_l9Cells (a1, ())) fun r2 =>
 bif !decide ((IntKind.wrap .i64 (r2.1 + (List.length a0.2.2.2.1 : Int))) = (List.length r0.1 : Int)) then
 some (false, ())
 else
 l_spec_l9Packing_5 N a0.1 a0.2.1 a0.2.2.1 a0.2.2.2.1 a1 a2 r0.1 0 := by
 rewrite [h_spec_l9Packing, h_spec_l9Packing_5]
 kernel_rfl
theorem q_spec_l9Packing_5 (m0 : Nat) (p0 p1 p2 : Int) (p3 : List D_A3) (p4 : List (List D_A3)) (p5 : List Int) (p6 : List D_A3) (p7 : Int) : l_spec_l9Packing_5 (m0 + 1) p0 p1 p2 p3 p4 p5 p6 p7 =
 bif decide (p7 < (List.length p6 : Int)) then
 bif inB p7 (List.length p5) then
 Option.bind (P_spec_l1In ((nth ((.int .i64) : Ty) p5 p7), (-1), (IntKind.wrap .i64 ((List.length p4 : Int) - 1)), ())) fun r2 =>
 bif !r2.1 then
 some (false, ())
 else
 bif inB p7 (List.length p5) then
 bif inB p7 (List.length p6) then
 Option.bind (P_spec_l2Has ((p0, (p1, (p2, (p3, ())))), (nth T_A3 p6 p7), ())) fun r6 =>
 bif !(decide ((nth ((.int .i64) : Ty) p5 p7) < 0) == r6.1) then
 some (false, ())
 else
 l_spec_l9Packing_5 m0 p0 p1 p2 p3 p4 p5 p6 (IntKind.wrap .i64 (p7 + 1))
 else none
 else none
 else none
 else
 l_spec_l9Packing_10 N p4 p5 p6 0 := by
 rewrite [h_spec_l9Packing_5, h_spec_l9Packing_10]
 kernel_rfl
theorem q_spec_l9Packing_10 (m0 : Nat) (p0 : List (List D_A3)) (p1 : List Int) (p2 : List D_A3) (p3 : Int) : l_spec_l9Packing_10 (m0 + 1) p0 p1 p2 p3 =
 bif decide (p3 < (List.length p0 : Int)) then
 l_spec_l9Packing_14 m0 N p0 p1 p2 p3 ([] : List D_A3) 0
 else
 some (true, ()) := by
 rewrite [h_spec_l9Packing_10, h_spec_l9Packing_14]
 kernel_rfl
theorem q_spec_l9Packing_14 (m0 m1 : Nat) (p0 : List (List D_A3)) (p1 : List Int) (p2 : List D_A3) (p3 : Int) (p4 : List D_A3) (p5 : Int) : l_spec_l9Packing_14 m0 (m1 + 1) p0 p1 p2 p3 p4 p5 =
 bif decide (p5 < (List.length p2 : Int)) then
 bif inB p5 (List.length p1) then
 bif decide ((nth ((.int .i64) : Ty) p1 p5) = p3) then
 bif inB p5 (List.length p2) then
 bif (decide (((List.length p4) + (List.length ([(nth T_A3 p2 p5)] : List D_A3))) * 24 ≤ 140737488355328) && decide (((List.length p4) + (List.length ([(nth T_A3 p2 p5)] : List D_A3))) ≤ 140737488355328)) then
 l_spec_l9Packing_14 m0 m1 p0 p1 p2 p3 (p4 ++ ([(nth T_A3 p2 p5)] : List D_A3)) (IntKind.wrap .i64 (p5 + 1))
 else none
 else none
 else
 l_spec_l9Packing_14 m0 m1 p0 p1 p2 p3 p4 (IntKind.wrap .i64 (p5 + 1))
 else none
 else
 bif inB p3 (List.length p0) then
 bif !decide ((List.length p4 : Int) = (List.length (nth ((.sl T_A3) : Ty) p0 p3) : Int)) then
 some (false, ())
 else
 l_spec_l9Packing_21 m0 N p0 p1 p2 p3 p4 1
 else none := by
 rewrite [h_spec_l9Packing_14, h_spec_l9Packing_21]
 kernel_rfl
theorem q_spec_l9Packing_21 (m0 m1 : Nat) (p0 : List (List D_A3)) (p1 : List Int) (p2 : List D_A3) (p3 : Int) (p4 : List D_A3) (p5 : Int) : l_spec_l9Packing_21 m0 (m1 + 1) p0 p1 p2 p3 p4 p5 =
 bif decide (p5 < (List.length p4 : Int)) then
 l_spec_l9Packing_24 m0 m1 N p0 p1 p2 p3 p4 p5 0
 else
 l_spec_l9Packing_10 m0 p0 p1 p2 (IntKind.wrap .i64 (p3 + 1)) := by
 rewrite [h_spec_l9Packing_10, h_spec_l9Packing_21, h_spec_l9Packing_24]
 kernel_rfl
theorem q_spec_l9Packing_24 (m0 m1 m2 : Nat) (p0 : List (List D_A3)) (p1 : List Int) (p2 : List D_A3) (p3 : Int) (p4 : List D_A3) (p5 p6 : Int) : l_spec_l9Packing_24 m0 m1 (m2 + 1) p0 p1 p2 p3 p4 p5 p6 =
 bif decide (p6 < 3) then
 bif inB p5 (List.length p4) then
 bif inB p6 3 then
 bif inB 0 (List.length p4) then
 bif inB p6 3 then
 bif inB p3 (List.length p0) then
 bif inB p5 (List.length (nth ((.sl T_A3) : Ty) p0 p3)) then
 bif inB p6 3 then
 bif inB p3 (List.length p0) then
 bif inB 0 (List.length (nth ((.sl T_A3) : Ty) p0 p3)) then
 bif inB p6 3 then
 bif !decide ((IntKind.wrap .i64 ((bif decide (p6 = (0 : Int)) then ((nth T_A3 p4 p5)).1 else (bif decide (p6 = (1 : Int)) then (((nth T_A3 p4 p5)).2).1 else ((((nth T_A3 p4 p5)).2).2).1)) - (bif decide (p6 = (0 : Int)) then ((nth T_A3 p4 0)).1 else (bif decide (p6 = (1 : Int)) then (((nth T_A3 p4 0)).2).1 else ((((nth T_A3 p4 0)).2).2).1)))) = (IntKind.wrap .i64 ((bif decide (p6 = (0 : Int)) then ((nth T_A3 (nth ((.sl T_A3) : Ty) p0 p3) p5)).1 else (bif decide (p6 = (1 : Int)) then (((nth T_A3 (nth ((.sl T_A3) : Ty) p0 p3) p5)).2).1 else ((((nth T_A3 (nth ((.sl T_A3) : Ty) p0 p3) p5)).2).2).1)) - (bif decide (p6 = (0 : Int)) then ((nth T_A3 (nth ((.sl T_A3) : Ty) p0 p3) 0)).1 else (bif decide (p6 = (1 : Int)) then (((nth T_A3 (nth ((.sl T_A3) : Ty) p0 p3) 0)).2).1 else ((((nth T_A3 (nth ((.sl T_A3) : Ty) p0 p3) 0)).2).2).1))))) then
 some (false, ())
 else
 l_spec_l9Packing_24 m0 m1 m2 p0 p1 p2 p3 p4 p5 (IntKind.wrap .i64 (p6 + 1))
 else none
 else none
 else none
 else none
 else none
 else none
 else none
 else none
 else none
 else none
 else
 l_spec_l9Packing_21 m0 m1 p0 p1 p2 p3 p4 (IntKind.wrap .i64 (p5 + 1)) := by
 rewrite [h_spec_l9Packing_21, h_spec_l9Packing_24]
 kernel_rfl
abbrev As_spec_IsPacking : List ATy := [.data true T_Heap, .data false (.sl (.sl T_A3)), .data false (.sl (.int .i64))]
abbrev R_spec_IsPacking : List (Bool × Ty) := [(false, .bool), (false, .bool)]
abbrev M_spec_IsPacking : List RMode := []
abbrev Ft_spec_IsPacking : Type := D_Heap × (List (List D_A3)) × (List Int) × Unit → Option (Bool × Bool × Unit)
def X_spec_IsPacking : Ctx := { types := TTk, globals := [], con := [(26, C_spec_l9Ask), (42, C_spec_l9Packing)], keep := [], results := [.tmp 6, .tmp 7], ntmps := 16, n := N }
def B_spec_IsPacking : Code := (Tryz.f15.body).getD .skip
def P_spec_IsPacking : Ft_spec_IsPacking := hid (runF X_spec_IsPacking B_spec_IsPacking As_spec_IsPacking R_spec_IsPacking M_spec_IsPacking)
theorem h_spec_IsPacking : P_spec_IsPacking = runF X_spec_IsPacking B_spec_IsPacking As_spec_IsPacking R_spec_IsPacking M_spec_IsPacking := hid_eq _
def C_spec_IsPacking : Contract := ⟨As_spec_IsPacking, R_spec_IsPacking, M_spec_IsPacking, P_spec_IsPacking⟩
theorem s_spec_IsPacking : Sound Tryz.prog GG 15 C_spec_IsPacking := by
 unfold C_spec_IsPacking; rw [h_spec_IsPacking]
 exact mkSk Tryz.f15 ⟨s_spec_l9Ask, s_spec_l9Packing, trivial⟩ trivial
theorem p_spec_IsPacking (a0 : D_Heap) (a1 : List (List D_A3)) (a2 : List Int) : P_spec_IsPacking (a0, a1, a2, ()) =
 Option.bind (P_spec_l9Ask (a0, a1, ())) fun r0 =>
 bif !r0.1 then
 some (false, false, ())
 else
 Option.bind (P_spec_l9Packing (a0, a1, a2, ())) fun r2 =>
 some (r2.1, true, ()) := by
 rewrite [h_spec_IsPacking]
 kernel_rfl
abbrev As_impl_FaultPlanes : List ATy := [.data true T_Heap, .data false (.sl (.sl T_A3)), .data false (.sl (.int .i64))]
abbrev R_impl_FaultPlanes : List (Bool × Ty) := [(false, (.sl T_A2)), (false, .bool)]
abbrev M_impl_FaultPlanes : List RMode := [.own 46]
abbrev Ft_impl_FaultPlanes : Type := D_Heap × (List (List D_A3)) × (List Int) × Unit → Option ((List D_A2) × Bool × Unit)
def X_impl_FaultPlanes : Ctx := { types := TTk, globals := [], con := [(23, C_impl_arePacked), (31, C_Heap_box), (41, C_Heap_isPacking), (43, C_box_cell)], keep := [(5, ⟨[.box 9, .tmp 2, .tmp 8, .tmp 9, .tmp 32], []⟩), (8, ⟨[.box 9, .tmp 2, .tmp 8, .tmp 9, .tmp 10, .tmp 11, .tmp 32], []⟩), (12, ⟨[.box 9, .tmp 2, .tmp 8, .tmp 9, .tmp 10, .tmp 11, .tmp 12, .tmp 32, .tmp 42, .tmp 43, .tmp 44], []⟩), (17, ⟨[.box 9, .tmp 2, .tmp 8, .tmp 9, .tmp 10, .tmp 11, .tmp 12, .tmp 14, .tmp 32, .tmp 42, .tmp 43, .tmp 44, .tmp 61, .tmp 62, .tmp 63], []⟩)], results := [.tmp 6, .tmp 7], ntmps := 95, n := N }
def B_impl_FaultPlanes : Code := (Tryz.f16.body).getD .skip
def L_impl_FaultPlanes_5 (m0 : Nat) (p0 p1 p2 : Int) (p3 : List Int) (p4 : List D_A2) (p5 : Int) : Option (denL R_impl_FaultPlanes) := loopF X_impl_FaultPlanes B_impl_FaultPlanes R_impl_FaultPlanes M_impl_FaultPlanes 5 [m0] [(.ver, .num 1), (.box 9, .box 0 false [.int .i64 p0, .int .i64 p1, .int .i64 p2]), (.tmp 2, .val false [.imm (.int .i64) p3 (some 5)]), (.tmp 8, .val false [.own 46 T_A2 0 p4]), (.tmp 9, .val false [.addr 9 0 0]), (.tmp 32, .val false [.int .i64 p5])]
def L_impl_FaultPlanes_8 (m0 m1 : Nat) (p0 p1 p2 : Int) (p3 : List Int) (p4 : List D_A2) (p5 p6 p7 : Int) : Option (denL R_impl_FaultPlanes) := loopF X_impl_FaultPlanes B_impl_FaultPlanes R_impl_FaultPlanes M_impl_FaultPlanes 8 [m0, m1] [(.ver, .num 1), (.box 9, .box 0 false [.int .i64 p0, .int .i64 p1, .int .i64 p2]), (.tmp 2, .val false [.imm (.int .i64) p3 (some 5)]), (.tmp 8, .val false [.own 46 T_A2 0 p4]), (.tmp 9, .val false [.addr 9 0 0]), (.tmp 10, .val false [.int .i64 p5]), (.tmp 11, .val false [.int .i64 p6]), (.tmp 32, .val false [.int .i64 p7])]
def L_impl_FaultPlanes_12 (m0 m1 m2 : Nat) (p0 p1 p2 : Int) (p3 : List Int) (p4 : List D_A2) (p5 p6 : Int) (p7 : Bool) (p8 : Int) (p9 : List Int) (p10 p11 : Int) : Option (denL R_impl_FaultPlanes) := loopF X_impl_FaultPlanes B_impl_FaultPlanes R_impl_FaultPlanes M_impl_FaultPlanes 12 [m0, m1, m2] [(.ver, .num 1), (.box 9, .box 0 false [.int .i64 p0, .int .i64 p1, .int .i64 p2]), (.tmp 2, .val false [.imm (.int .i64) p3 (some 5)]), (.tmp 8, .val false [.own 46 T_A2 0 p4]), (.tmp 9, .val false [.addr 9 0 0]), (.tmp 10, .val false [.int .i64 p5]), (.tmp 11, .val false [.int .i64 p6]), (.tmp 12, .val false [.bool p7]), (.tmp 32, .val false [.int .i64 p8]), (.tmp 42, .val false [.imm (.int .i64) p9 (some 5)]), (.tmp 43, .val false [.int .i64 p10]), (.tmp 44, .val false [.int .i64 p11])]
def L_impl_FaultPlanes_17 (m0 m1 m2 m3 : Nat) (p0 p1 p2 : Int) (p3 : List Int) (p4 : List D_A2) (p5 p6 : Int) (p7 : Bool) (p8 p9 : Int) (p10 : List Int) (p11 p12 : Int) (p13 : List Int) (p14 p15 : Int) : Option (denL R_impl_FaultPlanes) := loopF X_impl_FaultPlanes B_impl_FaultPlanes R_impl_FaultPlanes M_impl_FaultPlanes 17 [m0, m1, m2, m3] [(.ver, .num 1), (.box 9, .box 0 false [.int .i64 p0, .int .i64 p1, .int .i64 p2]), (.tmp 2, .val false [.imm (.int .i64) p3 (some 5)]), (.tmp 8, .val false [.own 46 T_A2 0 p4]), (.tmp 9, .val false [.addr 9 0 0]), (.tmp 10, .val false [.int .i64 p5]), (.tmp 11, .val false [.int .i64 p6]), (.tmp 12, .val false [.bool p7]), (.tmp 14, .val false [.int .i64 p8]), (.tmp 32, .val false [.int .i64 p9]), (.tmp 42, .val false [.imm (.int .i64) p10 (some 5)]), (.tmp 43, .val false [.int .i64 p11]), (.tmp 44, .val false [.int .i64 p12]), (.tmp 61, .val false [.imm (.int .i64) p13 (some 5)]), (.tmp 62, .val false [.int .i64 p14]), (.tmp 63, .val false [.int .i64 p15])]
def P_impl_FaultPlanes : Ft_impl_FaultPlanes := hid (runF X_impl_FaultPlanes B_impl_FaultPlanes As_impl_FaultPlanes R_impl_FaultPlanes M_impl_FaultPlanes)
theorem h_impl_FaultPlanes : P_impl_FaultPlanes = runF X_impl_FaultPlanes B_impl_FaultPlanes As_impl_FaultPlanes R_impl_FaultPlanes M_impl_FaultPlanes := hid_eq _
def C_impl_FaultPlanes : Contract := ⟨As_impl_FaultPlanes, R_impl_FaultPlanes, M_impl_FaultPlanes, P_impl_FaultPlanes⟩
theorem s_impl_FaultPlanes : Sound Tryz.prog GG 16 C_impl_FaultPlanes := by
 unfold C_impl_FaultPlanes; rw [h_impl_FaultPlanes]
 exact mkSk Tryz.f16 ⟨s_impl_arePacked, s_Heap_box, s_Heap_isPacking, s_box_cell, trivial⟩ trivial
def l_impl_FaultPlanes_5 := hid (L_impl_FaultPlanes_5)
theorem h_impl_FaultPlanes_5 : l_impl_FaultPlanes_5 = L_impl_FaultPlanes_5 := hid_eq _
def l_impl_FaultPlanes_8 := hid (L_impl_FaultPlanes_8)
theorem h_impl_FaultPlanes_8 : l_impl_FaultPlanes_8 = L_impl_FaultPlanes_8 := hid_eq _
def l_impl_FaultPlanes_12 := hid (L_impl_FaultPlanes_12)
theorem h_impl_FaultPlanes_12 : l_impl_FaultPlanes_12 = L_impl_FaultPlanes_12 := hid_eq _
def l_impl_FaultPlanes_17 := hid (L_impl_FaultPlanes_17)
theorem h_impl_FaultPlanes_17 : l_impl_FaultPlanes_17 = L_impl_FaultPlanes_17 := hid_eq _
theorem p_impl_FaultPlanes (a0 : D_Heap) (a1 : List (List D_A3)) (a2 : List Int) : P_impl_FaultPlanes (a0, a1, a2, ()) =
 Option.bind (P_impl_arePacked (a0, a1, ())) fun r0 =>
 bif !r0.1 then
 some (([] : List D_A2), false, ())
 else
 Option.bind (P_Heap_isPacking (a0, a1, a2, ())) fun r2 =>
 bif !r2.1 then
 some (([] : List D_A2), false, ())
 else
 Option.bind (P_Heap_box (a0, ())) fun r4 =>
 l_impl_FaultPlanes_5 N r4.1.1 r4.1.2.1 r4.1.2.2.1 a2 ([] : List D_A2) 0 := by
 rewrite [h_impl_FaultPlanes, h_impl_FaultPlanes_5]
 kernel_rfl
theorem q_impl_FaultPlanes_5 (m0 : Nat) (p0 p1 p2 : Int) (p3 : List Int) (p4 : List D_A2) (p5 : Int) : l_impl_FaultPlanes_5 (m0 + 1) p0 p1 p2 p3 p4 p5 =
 bif decide (p5 < 3) then
 l_impl_FaultPlanes_8 m0 N p0 p1 p2 p3 p4 p5 1 p5
 else
 some (p4, true, ()) := by
 rewrite [h_impl_FaultPlanes_5, h_impl_FaultPlanes_8]
 kernel_rfl
theorem q_impl_FaultPlanes_8 (m0 m1 : Nat) (p0 p1 p2 : Int) (p3 : List Int) (p4 : List D_A2) (p5 p6 p7 : Int) : l_impl_FaultPlanes_8 m0 (m1 + 1) p0 p1 p2 p3 p4 p5 p6 p7 =
 bif inB p5 3 then
 bif decide (p6 < (bif decide (p5 = (0 : Int)) then p0 else (bif decide (p5 = (1 : Int)) then p1 else p2))) then
 l_impl_FaultPlanes_12 m0 m1 N p0 p1 p2 p3 p4 p5 p6 false p7 p3 (List.length p3 : Int) 0
 else
 l_impl_FaultPlanes_5 m0 p0 p1 p2 p3 p4 (IntKind.wrap .i64 (p7 + 1))
 else none := by
 rewrite [h_impl_FaultPlanes_5, h_impl_FaultPlanes_8, h_impl_FaultPlanes_12]
 kernel_rfl
theorem q_impl_FaultPlanes_12 (m0 m1 m2 : Nat) (p0 p1 p2 : Int) (p3 : List Int) (p4 : List D_A2) (p5 p6 : Int) (p7 : Bool) (p8 : Int) (p9 : List Int) (p10 p11 : Int) : l_impl_FaultPlanes_12 m0 m1 (m2 + 1) p0 p1 p2 p3 p4 p5 p6 p7 p8 p9 p10 p11 =
 bif decide (p11 < p10) then
 bif inB p11 (List.length p9) then
 Option.bind (P_box_cell ((p0, (p1, (p2, ()))), p11, ())) fun r2 =>
 bif decide ((nth ((.int .i64) : Ty) p9 p11) < 0) then
 l_impl_FaultPlanes_12 m0 m1 m2 p0 p1 p2 p3 p4 p5 p6 p7 p8 p9 p10 (IntKind.wrap .i64 (p11 + 1))
 else
 bif inB p5 3 then
 bif decide ((bif decide (p5 = (0 : Int)) then r2.1.1 else (bif decide (p5 = (1 : Int)) then r2.1.2.1 else r2.1.2.2.1)) ≥ p6) then
 l_impl_FaultPlanes_12 m0 m1 m2 p0 p1 p2 p3 p4 p5 p6 p7 p8 p9 p10 (IntKind.wrap .i64 (p11 + 1))
 else
 l_impl_FaultPlanes_17 m0 m1 m2 N p0 p1 p2 p3 p4 p5 p6 p7 (nth ((.int .i64) : Ty) p9 p11) p8 p9 p10 p11 p3 (List.length p3 : Int) 0
 else none
 else none
 else
 bif !p7 then
 bif (decide (((List.length p4) + (List.length ([(p5, (p6, ()))] : List D_A2))) * 16 ≤ 140737488355328) && decide (((List.length p4) + (List.length ([(p5, (p6, ()))] : List D_A2))) ≤ 140737488355328)) then
 l_impl_FaultPlanes_8 m0 m1 p0 p1 p2 p3 (p4 ++ ([(p5, (p6, ()))] : List D_A2)) p5 (IntKind.wrap .i64 (p6 + 1)) p8
 else none
 else
 l_impl_FaultPlanes_8 m0 m1 p0 p1 p2 p3 p4 p5 (IntKind.wrap .i64 (p6 + 1)) p8 := by
 rewrite [h_impl_FaultPlanes_8, h_impl_FaultPlanes_12, h_impl_FaultPlanes_17]
 kernel_rfl
theorem q_impl_FaultPlanes_17 (m0 m1 m2 m3 : Nat) (p0 p1 p2 : Int) (p3 : List Int) (p4 : List D_A2) (p5 p6 : Int) (p7 : Bool) (p8 p9 : Int) (p10 : List Int) (p11 p12 : Int) (p13 : List Int) (p14 p15 : Int) : l_impl_FaultPlanes_17 m0 m1 m2 (m3 + 1) p0 p1 p2 p3 p4 p5 p6 p7 p8 p9 p10 p11 p12 p13 p14 p15 =
 bif decide (p15 < p14) then
 bif inB p15 (List.length p13) then
 bif p7 then
 l_impl_FaultPlanes_17 m0 m1 m2 m3 p0 p1 p2 p3 p4 p5 p6 true p8 p9 p10 p11 p12 p13 p14 (IntKind.wrap .i64 (p15 + 1))
 else
 bif decide ((nth ((.int .i64) : Ty) p13 p15) = p8) then
 Option.bind (P_box_cell ((p0, (p1, (p2, ()))), p15, ())) fun r4 =>
 bif inB p5 3 then
 l_impl_FaultPlanes_17 m0 m1 m2 m3 p0 p1 p2 p3 p4 p5 p6 (decide ((bif decide (p5 = (0 : Int)) then r4.1.1 else (bif decide (p5 = (1 : Int)) then r4.1.2.1 else r4.1.2.2.1)) ≥ p6)) p8 p9 p10 p11 p12 p13 p14 (IntKind.wrap .i64 (p15 + 1))
 else none
 else
 l_impl_FaultPlanes_17 m0 m1 m2 m3 p0 p1 p2 p3 p4 p5 p6 false p8 p9 p10 p11 p12 p13 p14 (IntKind.wrap .i64 (p15 + 1))
 else none
 else
 l_impl_FaultPlanes_12 m0 m1 m2 p0 p1 p2 p3 p4 p5 p6 p7 p9 p10 p11 (IntKind.wrap .i64 (p12 + 1)) := by
 rewrite [h_impl_FaultPlanes_12, h_impl_FaultPlanes_17]
 kernel_rfl
abbrev As_spec_FaultPlanes : List ATy := [.data true T_Heap, .data false (.sl (.sl T_A3)), .data false (.sl (.int .i64))]
abbrev R_spec_FaultPlanes : List (Bool × Ty) := [(false, (.sl T_A2)), (false, .bool)]
abbrev M_spec_FaultPlanes : List RMode := [.own 46]
abbrev Ft_spec_FaultPlanes : Type := D_Heap × (List (List D_A3)) × (List Int) × Unit → Option ((List D_A2) × Bool × Unit)
def X_spec_FaultPlanes : Ctx := { types := TTk, globals := [], con := [(26, C_spec_l9Ask), (42, C_spec_l9Packing), (44, C_spec_l2All), (45, C_spec_l2Long)], keep := [(6, ⟨[.box 3, .tmp 2, .tmp 3, .tmp 8, .tmp 9, .tmp 10], []⟩), (9, ⟨[.box 3, .tmp 2, .tmp 3, .tmp 8, .tmp 9, .tmp 10, .tmp 11], []⟩), (13, ⟨[.box 3, .tmp 2, .tmp 3, .tmp 8, .tmp 9, .tmp 10, .tmp 11, .tmp 12, .tmp 13], []⟩), (16, ⟨[.box 3, .tmp 2, .tmp 3, .tmp 8, .tmp 9, .tmp 10, .tmp 11, .tmp 12, .tmp 13, .tmp 14], []⟩)], results := [.tmp 6, .tmp 7], ntmps := 98, n := N }
def B_spec_FaultPlanes : Code := (Tryz.f17.body).getD .skip
def L_spec_FaultPlanes_6 (m0 : Nat) (p0 p1 p2 : Int) (p3 : List D_A3) (p4 : List Int) (p5 : List D_A2) (p6 : List D_A3) (p7 : Int) : Option (denL R_spec_FaultPlanes) := loopF X_spec_FaultPlanes B_spec_FaultPlanes R_spec_FaultPlanes M_spec_FaultPlanes 6 [m0] [(.ver, .num 1), (.box 3, .box 0 false [.int .i64 p0, .int .i64 p1, .int .i64 p2, .imm T_A3 p3 (some 3)]), (.tmp 2, .val false [.imm (.int .i64) p4 (some 5)]), (.tmp 3, .val false [.addr 3 0 0]), (.tmp 8, .val false [.own 46 T_A2 0 p5]), (.tmp 9, .val false [.own 57 T_A3 0 p6]), (.tmp 10, .val false [.int .i64 p7])]
def L_spec_FaultPlanes_9 (m0 m1 : Nat) (p0 p1 p2 : Int) (p3 : List D_A3) (p4 : List Int) (p5 : List D_A2) (p6 : List D_A3) (p7 p8 : Int) : Option (denL R_spec_FaultPlanes) := loopF X_spec_FaultPlanes B_spec_FaultPlanes R_spec_FaultPlanes M_spec_FaultPlanes 9 [m0, m1] [(.ver, .num 1), (.box 3, .box 0 false [.int .i64 p0, .int .i64 p1, .int .i64 p2, .imm T_A3 p3 (some 3)]), (.tmp 2, .val false [.imm (.int .i64) p4 (some 5)]), (.tmp 3, .val false [.addr 3 0 0]), (.tmp 8, .val false [.own 46 T_A2 0 p5]), (.tmp 9, .val false [.own 57 T_A3 0 p6]), (.tmp 10, .val false [.int .i64 p7]), (.tmp 11, .val false [.int .i64 p8])]
def L_spec_FaultPlanes_13 (m0 m1 m2 : Nat) (p0 p1 p2 : Int) (p3 : List D_A3) (p4 : List Int) (p5 : List D_A2) (p6 : List D_A3) (p7 p8 : Int) (p9 : Bool) (p10 : Int) : Option (denL R_spec_FaultPlanes) := loopF X_spec_FaultPlanes B_spec_FaultPlanes R_spec_FaultPlanes M_spec_FaultPlanes 13 [m0, m1, m2] [(.ver, .num 1), (.box 3, .box 0 false [.int .i64 p0, .int .i64 p1, .int .i64 p2, .imm T_A3 p3 (some 3)]), (.tmp 2, .val false [.imm (.int .i64) p4 (some 5)]), (.tmp 3, .val false [.addr 3 0 0]), (.tmp 8, .val false [.own 46 T_A2 0 p5]), (.tmp 9, .val false [.own 57 T_A3 0 p6]), (.tmp 10, .val false [.int .i64 p7]), (.tmp 11, .val false [.int .i64 p8]), (.tmp 12, .val false [.bool p9]), (.tmp 13, .val false [.int .i64 p10])]
def L_spec_FaultPlanes_16 (m0 m1 m2 m3 : Nat) (p0 p1 p2 : Int) (p3 : List D_A3) (p4 : List Int) (p5 : List D_A2) (p6 : List D_A3) (p7 p8 : Int) (p9 : Bool) (p10 p11 : Int) : Option (denL R_spec_FaultPlanes) := loopF X_spec_FaultPlanes B_spec_FaultPlanes R_spec_FaultPlanes M_spec_FaultPlanes 16 [m0, m1, m2, m3] [(.ver, .num 1), (.box 3, .box 0 false [.int .i64 p0, .int .i64 p1, .int .i64 p2, .imm T_A3 p3 (some 3)]), (.tmp 2, .val false [.imm (.int .i64) p4 (some 5)]), (.tmp 3, .val false [.addr 3 0 0]), (.tmp 8, .val false [.own 46 T_A2 0 p5]), (.tmp 9, .val false [.own 57 T_A3 0 p6]), (.tmp 10, .val false [.int .i64 p7]), (.tmp 11, .val false [.int .i64 p8]), (.tmp 12, .val false [.bool p9]), (.tmp 13, .val false [.int .i64 p10]), (.tmp 14, .val false [.int .i64 p11])]
def P_spec_FaultPlanes : Ft_spec_FaultPlanes := hid (runF X_spec_FaultPlanes B_spec_FaultPlanes As_spec_FaultPlanes R_spec_FaultPlanes M_spec_FaultPlanes)
theorem h_spec_FaultPlanes : P_spec_FaultPlanes = runF X_spec_FaultPlanes B_spec_FaultPlanes As_spec_FaultPlanes R_spec_FaultPlanes M_spec_FaultPlanes := hid_eq _
def C_spec_FaultPlanes : Contract := ⟨As_spec_FaultPlanes, R_spec_FaultPlanes, M_spec_FaultPlanes, P_spec_FaultPlanes⟩
theorem s_spec_FaultPlanes : Sound Tryz.prog GG 17 C_spec_FaultPlanes := by
 unfold C_spec_FaultPlanes; rw [h_spec_FaultPlanes]
 exact mkSk Tryz.f17 ⟨s_spec_l9Ask, s_spec_l9Packing, s_spec_l2All, s_spec_l2Long, trivial⟩ trivial
def l_spec_FaultPlanes_6 := hid (L_spec_FaultPlanes_6)
theorem h_spec_FaultPlanes_6 : l_spec_FaultPlanes_6 = L_spec_FaultPlanes_6 := hid_eq _
def l_spec_FaultPlanes_9 := hid (L_spec_FaultPlanes_9)
theorem h_spec_FaultPlanes_9 : l_spec_FaultPlanes_9 = L_spec_FaultPlanes_9 := hid_eq _
def l_spec_FaultPlanes_13 := hid (L_spec_FaultPlanes_13)
theorem h_spec_FaultPlanes_13 : l_spec_FaultPlanes_13 = L_spec_FaultPlanes_13 := hid_eq _
def l_spec_FaultPlanes_16 := hid (L_spec_FaultPlanes_16)
theorem h_spec_FaultPlanes_16 : l_spec_FaultPlanes_16 = L_spec_FaultPlanes_16 := hid_eq _
theorem p_spec_FaultPlanes (a0 : D_Heap) (a1 : List (List D_A3)) (a2 : List Int) : P_spec_FaultPlanes (a0, a1, a2, ()) =
 Option.bind (P_spec_l9Ask (a0, a1, ())) fun r0 =>
 bif !r0.1 then
 some (([] : List D_A2), false, ())
 else
 Option.bind (P_spec_l9Packing (a0, a1, a2, ())) fun r2 =>
 bif !r2.1 then
 some (([] : List D_A2), false, ())
 else
 Option.bind (P_spec_l2All (a0, ())) fun r4 =>
 l_spec_FaultPlanes_6 N a0.1 a0.2.1 a0.2.2.1 a0.2.2.2.1 a2 ([] : List D_A2) r4.1 0 := by
 rewrite [h_spec_FaultPlanes, h_spec_FaultPlanes_6]
 kernel_rfl
theorem q_spec_FaultPlanes_6 (m0 : Nat) (p0 p1 p2 : Int) (p3 : List D_A3) (p4 : List Int) (p5 : List D_A2) (p6 : List D_A3) (p7 : Int) : l_spec_FaultPlanes_6 (m0 + 1) p0 p1 p2 p3 p4 p5 p6 p7 =
 bif decide (p7 < 3) then
 l_spec_FaultPlanes_9 m0 N p0 p1 p2 p3 p4 p5 p6 p7 1
 else
 some (p5, true, ()) := by
 rewrite [h_spec_FaultPlanes_6, h_spec_FaultPlanes_9]
 kernel_rfl
theorem q_spec_FaultPlanes_9 (m0 m1 : Nat) (p0 p1 p2 : Int) (p3 : List D_A3) (p4 : List Int) (p5 : List D_A2) (p6 : List D_A3) (p7 p8 : Int) : l_spec_FaultPlanes_9 m0 (m1 + 1) p0 p1 p2 p3 p4 p5 p6 p7 p8 =
 Option.bind (P_spec_l2Long ((p0, (p1, (p2, (p3, ())))), p7, ())) fun r0 =>
 bif decide (p8 < r0.1) then
 l_spec_FaultPlanes_13 m0 m1 N p0 p1 p2 p3 p4 p5 p6 p7 p8 false 0
 else
 l_spec_FaultPlanes_6 m0 p0 p1 p2 p3 p4 p5 p6 (IntKind.wrap .i64 (p7 + 1)) := by
 rewrite [h_spec_FaultPlanes_6, h_spec_FaultPlanes_9, h_spec_FaultPlanes_13]
 kernel_rfl
theorem q_spec_FaultPlanes_13 (m0 m1 m2 : Nat) (p0 p1 p2 : Int) (p3 : List D_A3) (p4 : List Int) (p5 : List D_A2) (p6 : List D_A3) (p7 p8 : Int) (p9 : Bool) (p10 : Int) : l_spec_FaultPlanes_13 m0 m1 (m2 + 1) p0 p1 p2 p3 p4 p5 p6 p7 p8 p9 p10 =
 bif decide (p10 < (List.length p6 : Int)) then
 l_spec_FaultPlanes_16 m0 m1 m2 N p0 p1 p2 p3 p4 p5 p6 p7 p8 p9 p10 0
 else
 bif !p9 then
 bif (decide (((List.length p5) + (List.length ([(p7, (p8, ()))] : List D_A2))) * 16 ≤ 140737488355328) && decide (((List.length p5) + (List.length ([(p7, (p8, ()))] : List D_A2))) ≤ 140737488355328)) then
 l_spec_FaultPlanes_9 m0 m1 p0 p1 p2 p3 p4 (p5 ++ ([(p7, (p8, ()))] : List D_A2)) p6 p7 (IntKind.wrap .i64 (p8 + 1))
 else none
 else
 l_spec_FaultPlanes_9 m0 m1 p0 p1 p2 p3 p4 p5 p6 p7 (IntKind.wrap .i64 (p8 + 1)) := by
 rewrite [h_spec_FaultPlanes_9, h_spec_FaultPlanes_13, h_spec_FaultPlanes_16]
 kernel_rfl
theorem q_spec_FaultPlanes_16 (m0 m1 m2 m3 : Nat) (p0 p1 p2 : Int) (p3 : List D_A3) (p4 : List Int) (p5 : List D_A2) (p6 : List D_A3) (p7 p8 : Int) (p9 : Bool) (p10 p11 : Int) : l_spec_FaultPlanes_16 m0 m1 m2 (m3 + 1) p0 p1 p2 p3 p4 p5 p6 p7 p8 p9 p10 p11 =
 bif decide (p11 < (List.length p6 : Int)) then
 bif inB p10 (List.length p4) then
 bif decide ((nth ((.int .i64) : Ty) p4 p10) ≥ 0) then
 bif inB p11 (List.length p4) then
 bif inB p10 (List.length p4) then
 bif decide ((nth ((.int .i64) : Ty) p4 p11) = (nth ((.int .i64) : Ty) p4 p10)) then
 bif inB p10 (List.length p6) then
 bif inB p7 3 then
 bif decide ((bif decide (p7 = (0 : Int)) then ((nth T_A3 p6 p10)).1 else (bif decide (p7 = (1 : Int)) then (((nth T_A3 p6 p10)).2).1 else ((((nth T_A3 p6 p10)).2).2).1)) < p8) then
 bif inB p11 (List.length p6) then
 bif inB p7 3 then
 bif decide ((bif decide (p7 = (0 : Int)) then ((nth T_A3 p6 p11)).1 else (bif decide (p7 = (1 : Int)) then (((nth T_A3 p6 p11)).2).1 else ((((nth T_A3 p6 p11)).2).2).1)) ≥ p8) then
 l_spec_FaultPlanes_16 m0 m1 m2 m3 p0 p1 p2 p3 p4 p5 p6 p7 p8 true p10 (IntKind.wrap .i64 (p11 + 1))
 else
 l_spec_FaultPlanes_16 m0 m1 m2 m3 p0 p1 p2 p3 p4 p5 p6 p7 p8 p9 p10 (IntKind.wrap .i64 (p11 + 1))
 else none
 else none
 else
 l_spec_FaultPlanes_16 m0 m1 m2 m3 p0 p1 p2 p3 p4 p5 p6 p7 p8 p9 p10 (IntKind.wrap .i64 (p11 + 1))
 else none
 else none
 else
 l_spec_FaultPlanes_16 m0 m1 m2 m3 p0 p1 p2 p3 p4 p5 p6 p7 p8 p9 p10 (IntKind.wrap .i64 (p11 + 1))
 else none
 else none
 else
 l_spec_FaultPlanes_13 m0 m1 m2 p0 p1 p2 p3 p4 p5 p6 p7 p8 p9 (IntKind.wrap .i64 (p10 + 1))
 else none
 else
 l_spec_FaultPlanes_13 m0 m1 m2 p0 p1 p2 p3 p4 p5 p6 p7 p8 p9 (IntKind.wrap .i64 (p10 + 1)) := by
 rewrite [h_spec_FaultPlanes_13, h_spec_FaultPlanes_16]
 kernel_rfl
abbrev As_laws_vInts : List ATy := [.data false (.sl (.int .i64)), .data false (.sl (.int .i64))]
abbrev R_laws_vInts : List (Bool × Ty) := [(false, .bool)]
abbrev M_laws_vInts : List RMode := []
abbrev Ft_laws_vInts : Type := (List Int) × (List Int) × Unit → Option (Bool × Unit)
def X_laws_vInts : Ctx := { types := TTk, globals := [], con := [], keep := [(4, ⟨[.tmp 0, .tmp 1, .tmp 5], []⟩)], results := [.tmp 4], ntmps := 26, n := N }
def B_laws_vInts : Code := (Tryz.f18.body).getD .skip
def L_laws_vInts_4 (m0 : Nat) (p0 p1 : List Int) (p2 : Int) : Option (denL R_laws_vInts) := loopF X_laws_vInts B_laws_vInts R_laws_vInts M_laws_vInts 4 [m0] [(.ver, .num 1), (.tmp 0, .val false [.imm (.int .i64) p0 (some 0)]), (.tmp 1, .val false [.imm (.int .i64) p1 (some 1)]), (.tmp 5, .val false [.int .i64 p2])]
def P_laws_vInts : Ft_laws_vInts := hid (runF X_laws_vInts B_laws_vInts As_laws_vInts R_laws_vInts M_laws_vInts)
theorem h_laws_vInts : P_laws_vInts = runF X_laws_vInts B_laws_vInts As_laws_vInts R_laws_vInts M_laws_vInts := hid_eq _
def C_laws_vInts : Contract := ⟨As_laws_vInts, R_laws_vInts, M_laws_vInts, P_laws_vInts⟩
theorem s_laws_vInts : Sound Tryz.prog GG 18 C_laws_vInts := by
 unfold C_laws_vInts; rw [h_laws_vInts]
 exact mkSk Tryz.f18 trivial trivial
def l_laws_vInts_4 := hid (L_laws_vInts_4)
theorem h_laws_vInts_4 : l_laws_vInts_4 = L_laws_vInts_4 := hid_eq _
theorem p_laws_vInts (a0 a1 : List Int) : P_laws_vInts (a0, a1, ()) =
 bif !decide ((List.length a0 : Int) = (List.length a1 : Int)) then
 some (false, ())
 else
 l_laws_vInts_4 N a0 a1 0 := by
 rewrite [h_laws_vInts, h_laws_vInts_4]
 kernel_rfl
theorem q_laws_vInts_4 (m0 : Nat) (p0 p1 : List Int) (p2 : Int) : l_laws_vInts_4 (m0 + 1) p0 p1 p2 =
 bif decide (p2 < (List.length p0 : Int)) then
 bif inB p2 (List.length p0) then
 bif inB p2 (List.length p1) then
 bif !decide ((nth ((.int .i64) : Ty) p0 p2) = (nth ((.int .i64) : Ty) p1 p2)) then
 some (false, ())
 else
 l_laws_vInts_4 m0 p0 p1 (IntKind.wrap .i64 (p2 + 1))
 else none
 else none
 else
 some (true, ()) := by
 rewrite [h_laws_vInts_4]
 kernel_rfl
abbrev As_laws_vPairs : List ATy := [.data false (.sl T_A2), .data false (.sl T_A2)]
abbrev R_laws_vPairs : List (Bool × Ty) := [(false, .bool)]
abbrev M_laws_vPairs : List RMode := []
abbrev Ft_laws_vPairs : Type := (List D_A2) × (List D_A2) × Unit → Option (Bool × Unit)
def X_laws_vPairs : Ctx := { types := TTk, globals := [], con := [], keep := [(4, ⟨[.tmp 0, .tmp 1, .tmp 5], []⟩)], results := [.tmp 4], ntmps := 26, n := N }
def B_laws_vPairs : Code := (Tryz.f19.body).getD .skip
def L_laws_vPairs_4 (m0 : Nat) (p0 p1 : List D_A2) (p2 : Int) : Option (denL R_laws_vPairs) := loopF X_laws_vPairs B_laws_vPairs R_laws_vPairs M_laws_vPairs 4 [m0] [(.ver, .num 1), (.tmp 0, .val false [.imm T_A2 p0 (some 0)]), (.tmp 1, .val false [.imm T_A2 p1 (some 1)]), (.tmp 5, .val false [.int .i64 p2])]
def P_laws_vPairs : Ft_laws_vPairs := hid (runF X_laws_vPairs B_laws_vPairs As_laws_vPairs R_laws_vPairs M_laws_vPairs)
theorem h_laws_vPairs : P_laws_vPairs = runF X_laws_vPairs B_laws_vPairs As_laws_vPairs R_laws_vPairs M_laws_vPairs := hid_eq _
def C_laws_vPairs : Contract := ⟨As_laws_vPairs, R_laws_vPairs, M_laws_vPairs, P_laws_vPairs⟩
theorem s_laws_vPairs : Sound Tryz.prog GG 19 C_laws_vPairs := by
 unfold C_laws_vPairs; rw [h_laws_vPairs]
 exact mkSk Tryz.f19 trivial trivial
def l_laws_vPairs_4 := hid (L_laws_vPairs_4)
theorem h_laws_vPairs_4 : l_laws_vPairs_4 = L_laws_vPairs_4 := hid_eq _
theorem p_laws_vPairs (a0 a1 : List D_A2) : P_laws_vPairs (a0, a1, ()) =
 bif !decide ((List.length a0 : Int) = (List.length a1 : Int)) then
 some (false, ())
 else
 l_laws_vPairs_4 N a0 a1 0 := by
 rewrite [h_laws_vPairs, h_laws_vPairs_4]
 kernel_rfl
theorem q_laws_vPairs_4 (m0 : Nat) (p0 p1 : List D_A2) (p2 : Int) : l_laws_vPairs_4 (m0 + 1) p0 p1 p2 =
 bif decide (p2 < (List.length p0 : Int)) then
 bif inB p2 (List.length p0) then
 bif inB p2 (List.length p1) then
 bif !(decide (((nth T_A2 p0 p2)).1 = ((nth T_A2 p1 p2)).1) && (decide ((((nth T_A2 p0 p2)).2).1 = (((nth T_A2 p1 p2)).2).1) && true)) then
 some (false, ())
 else
 l_laws_vPairs_4 m0 p0 p1 (IntKind.wrap .i64 (p2 + 1))
 else none
 else none
 else
 some (true, ()) := by
 rewrite [h_laws_vPairs_4]
 kernel_rfl
abbrev As_laws_vLess : List ATy := [.data false (.sl (.int .i64)), .data false (.sl (.int .i64))]
abbrev R_laws_vLess : List (Bool × Ty) := [(false, .bool)]
abbrev M_laws_vLess : List RMode := []
abbrev Ft_laws_vLess : Type := (List Int) × (List Int) × Unit → Option (Bool × Unit)
def X_laws_vLess : Ctx := { types := TTk, globals := [], con := [], keep := [(2, ⟨[.tmp 0, .tmp 1, .tmp 5], []⟩)], results := [.tmp 4], ntmps := 36, n := N }
def B_laws_vLess : Code := (Tryz.f20.body).getD .skip
def L_laws_vLess_2 (m0 : Nat) (p0 p1 : List Int) (p2 : Int) : Option (denL R_laws_vLess) := loopF X_laws_vLess B_laws_vLess R_laws_vLess M_laws_vLess 2 [m0] [(.ver, .num 1), (.tmp 0, .val false [.imm (.int .i64) p0 (some 0)]), (.tmp 1, .val false [.imm (.int .i64) p1 (some 1)]), (.tmp 5, .val false [.int .i64 p2])]
def P_laws_vLess : Ft_laws_vLess := hid (runF X_laws_vLess B_laws_vLess As_laws_vLess R_laws_vLess M_laws_vLess)
theorem h_laws_vLess : P_laws_vLess = runF X_laws_vLess B_laws_vLess As_laws_vLess R_laws_vLess M_laws_vLess := hid_eq _
def C_laws_vLess : Contract := ⟨As_laws_vLess, R_laws_vLess, M_laws_vLess, P_laws_vLess⟩
theorem s_laws_vLess : Sound Tryz.prog GG 20 C_laws_vLess := by
 unfold C_laws_vLess; rw [h_laws_vLess]
 exact mkSk Tryz.f20 trivial trivial
def l_laws_vLess_2 := hid (L_laws_vLess_2)
theorem h_laws_vLess_2 : l_laws_vLess_2 = L_laws_vLess_2 := hid_eq _
theorem p_laws_vLess (a0 a1 : List Int) : P_laws_vLess (a0, a1, ()) =
 l_laws_vLess_2 N a0 a1 0 := by
 rewrite [h_laws_vLess, h_laws_vLess_2]
 kernel_rfl
theorem q_laws_vLess_2 (m0 : Nat) (p0 p1 : List Int) (p2 : Int) : l_laws_vLess_2 (m0 + 1) p0 p1 p2 =
 bif decide (p2 < (List.length p0 : Int)) then
 bif decide (p2 < (List.length p1 : Int)) then
 bif inB p2 (List.length p0) then
 bif inB p2 (List.length p1) then
 bif !decide ((nth ((.int .i64) : Ty) p0 p2) = (nth ((.int .i64) : Ty) p1 p2)) then
 bif inB p2 (List.length p0) then
 bif inB p2 (List.length p1) then
 some (decide ((nth ((.int .i64) : Ty) p0 p2) < (nth ((.int .i64) : Ty) p1 p2)), ())
 else none
 else none
 else
 l_laws_vLess_2 m0 p0 p1 (IntKind.wrap .i64 (p2 + 1))
 else none
 else none
 else
 some (false, ())
 else
 some (false, ()) := by
 rewrite [h_laws_vLess_2]
 kernel_rfl
abbrev As_box_those : List ATy := [.data true T_A3, .clo [(true, T_A3)] [(false, .bool)]]
abbrev R_box_those : List (Bool × Ty) := [(false, (.int .u64))]
abbrev M_box_those : List RMode := []
abbrev Ft_box_those : Type := D_A3 × ((D_A3 × Unit) → Option (Bool × Unit)) × Unit → Option (Int × Unit)
def X_box_those : Ctx := { types := TTk, globals := [], con := [(43, C_box_cell), (50, C_box_size)], keep := [(3, ⟨[.box 2, .tmp 1, .tmp 2, .tmp 5, .tmp 8, .tmp 9], []⟩)], results := [.tmp 4], ntmps := 23, n := N }
def B_box_those : Code := (Tryz.f47.body).getD .skip
def L_box_those_3 (m0 : Nat) (p0 p1 p2 : Int) (p3 : (D_A3 × Unit) → Option (Bool × Unit)) (p4 p5 p6 : Int) : Option (denL R_box_those) := loopF X_box_those B_box_those R_box_those M_box_those 3 [m0] [(.ver, .num 1), (.box 2, .box 0 false [.int .i64 p0, .int .i64 p1, .int .i64 p2]), (.tmp 1, .val false [.clo [(true, T_A3)] [(false, .bool)] p3]), (.tmp 2, .val false [.addr 2 0 0]), (.tmp 5, .val false [.int .u64 p4]), (.tmp 8, .val false [.int .i64 p5]), (.tmp 9, .val false [.int .i64 p6])]
def P_box_those : Ft_box_those := hid (runF X_box_those B_box_those As_box_those R_box_those M_box_those)
theorem h_box_those : P_box_those = runF X_box_those B_box_those As_box_those R_box_those M_box_those := hid_eq _
def C_box_those : Contract := ⟨As_box_those, R_box_those, M_box_those, P_box_those⟩
theorem s_box_those : Sound Tryz.prog GG 47 C_box_those := by
 unfold C_box_those; rw [h_box_those]
 exact mkSk Tryz.f47 ⟨s_box_cell, s_box_size, trivial⟩ trivial
def l_box_those_3 := hid (L_box_those_3)
theorem h_box_those_3 : l_box_those_3 = L_box_those_3 := hid_eq _
theorem p_box_those (a0 : D_A3) (a1 : (D_A3 × Unit) → Option (Bool × Unit)) : P_box_those (a0, a1, ()) =
 Option.bind (P_box_size (a0, ())) fun r0 =>
 l_box_those_3 N a0.1 a0.2.1 a0.2.2.1 a1 0 r0.1 0 := by
 rewrite [h_box_those, h_box_those_3]
 kernel_rfl
theorem q_box_those_3 (m0 : Nat) (p0 p1 p2 : Int) (p3 : (D_A3 × Unit) → Option (Bool × Unit)) (p4 p5 p6 : Int) : l_box_those_3 (m0 + 1) p0 p1 p2 p3 p4 p5 p6 =
 bif decide (p6 < p5) then
 Option.bind (P_box_cell ((p0, (p1, (p2, ()))), p6, ())) fun r1 =>
 Option.bind (p3 (r1.1, ())) fun r2 =>
 bif r2.1 then
 bif decide ((0 : Int) ≤ p6) then
 l_box_those_3 m0 p0 p1 p2 p3 (intBits .or .u64 p4 (shlI .u64 1 p6)) p5 (IntKind.wrap .i64 (p6 + 1))
 else none
 else
 l_box_those_3 m0 p0 p1 p2 p3 p4 p5 (IntKind.wrap .i64 (p6 + 1))
 else
 some (p4, ()) := by
 rewrite [h_box_those_3]
 kernel_rfl
abbrev As_impl_PlacesFor_1 : List ATy := [.data true T_A3, .ptr T_A3, .ptr T_Heap, .ptr (.sl T_A3)]
abbrev R_impl_PlacesFor_1 : List (Bool × Ty) := [(false, .bool)]
abbrev M_impl_PlacesFor_1 : List RMode := []
abbrev Ft_impl_PlacesFor_1 : Type := D_A3 × D_A3 × D_Heap × (List D_A3) × Unit → Option (Bool × Unit)
def X_impl_PlacesFor_1 : Ctx := { types := TTk, globals := [], con := [(33, C_Heap_free), (49, C_box_placed)], keep := [], results := [.tmp 5], ntmps := 18, n := N }
def B_impl_PlacesFor_1 : Code := (Tryz.f48.body).getD .skip
def P_impl_PlacesFor_1 : Ft_impl_PlacesFor_1 := hid (runF X_impl_PlacesFor_1 B_impl_PlacesFor_1 As_impl_PlacesFor_1 R_impl_PlacesFor_1 M_impl_PlacesFor_1)
theorem h_impl_PlacesFor_1 : P_impl_PlacesFor_1 = runF X_impl_PlacesFor_1 B_impl_PlacesFor_1 As_impl_PlacesFor_1 R_impl_PlacesFor_1 M_impl_PlacesFor_1 := hid_eq _
def C_impl_PlacesFor_1 : Contract := ⟨As_impl_PlacesFor_1, R_impl_PlacesFor_1, M_impl_PlacesFor_1, P_impl_PlacesFor_1⟩
theorem s_impl_PlacesFor_1 : Sound Tryz.prog GG 48 C_impl_PlacesFor_1 := by
 unfold C_impl_PlacesFor_1; rw [h_impl_PlacesFor_1]
 exact mkSk Tryz.f48 ⟨s_Heap_free, s_box_placed, trivial⟩ trivial
theorem p_impl_PlacesFor_1 (a0 a1 : D_A3) (a2 : D_Heap) (a3 : List D_A3) : P_impl_PlacesFor_1 (a0, a1, a2, a3, ()) =
 Option.bind (P_Heap_free (a2, ())) fun r0 =>
 Option.bind (P_box_placed (a1, r0.1, a3, a0, ())) fun r1 =>
 some (r1.2.1, ()) := by
 rewrite [h_impl_PlacesFor_1]
 kernel_rfl
abbrev As_impl_PlacesFor : List ATy := [.data true T_Heap, .data false (.sl T_A3)]
abbrev R_impl_PlacesFor : List (Bool × Ty) := [(false, (.sl T_A3)), (false, .bool)]
abbrev M_impl_PlacesFor : List RMode := [.own 57]
abbrev Ft_impl_PlacesFor : Type := D_Heap × (List D_A3) × Unit → Option ((List D_A3) × Bool × Unit)
def X_impl_PlacesFor : Ctx := { types := TTk, globals := [], con := [(31, C_Heap_box), (32, C_box_list), (46, C_impl_isPacked), (47, C_box_those), (48, C_impl_PlacesFor_1)], keep := [], results := [.tmp 4, .tmp 5], ntmps := 19, n := N }
def B_impl_PlacesFor : Code := (Tryz.f21.body).getD .skip
def P_impl_PlacesFor : Ft_impl_PlacesFor := hid (runF X_impl_PlacesFor B_impl_PlacesFor As_impl_PlacesFor R_impl_PlacesFor M_impl_PlacesFor)
theorem h_impl_PlacesFor : P_impl_PlacesFor = runF X_impl_PlacesFor B_impl_PlacesFor As_impl_PlacesFor R_impl_PlacesFor M_impl_PlacesFor := hid_eq _
def C_impl_PlacesFor : Contract := ⟨As_impl_PlacesFor, R_impl_PlacesFor, M_impl_PlacesFor, P_impl_PlacesFor⟩
theorem s_impl_PlacesFor : Sound Tryz.prog GG 21 C_impl_PlacesFor := by
 unfold C_impl_PlacesFor; rw [h_impl_PlacesFor]
 exact mkSk Tryz.f21 ⟨s_Heap_box, s_box_list, s_impl_isPacked, s_box_those, s_impl_PlacesFor_1, trivial⟩ trivial
theorem p_impl_PlacesFor (a0 : D_Heap) (a1 : List D_A3) : P_impl_PlacesFor (a0, a1, ()) =
 Option.bind (P_impl_isPacked (a0, ([a1] : List (List D_A3)), ())) fun r0 =>
 bif !r0.1 then
 some (([] : List D_A3), false, ())
 else
 Option.bind (P_Heap_box (a0, ())) fun r2 =>
 Option.bind (P_box_those (r2.1, (fun (y : D_A3 × Unit) => P_impl_PlacesFor_1 (y.1, r2.1, a0, a1, ())), ())) fun r3 =>
 Option.bind (P_box_list (r2.1, r3.1, ())) fun r4 =>
 some (r4.1, true, ()) := by
 rewrite [h_impl_PlacesFor]
 kernel_rfl
abbrev As_impl_CountPackings : List ATy := [.data true T_Heap, .data false (.sl (.sl T_A3))]
abbrev R_impl_CountPackings : List (Bool × Ty) := [(false, (.int .i64)), (false, .bool)]
abbrev M_impl_CountPackings : List RMode := []
abbrev Ft_impl_CountPackings : Type := D_Heap × (List (List D_A3)) × Unit → Option (Int × Bool × Unit)
def P_impl_CountPackings : Ft_impl_CountPackings := countF
def C_impl_CountPackings : Contract := ⟨As_impl_CountPackings, R_impl_CountPackings, M_impl_CountPackings, P_impl_CountPackings⟩
theorem s_impl_CountPackings : Sound Tryz.prog GG 6 C_impl_CountPackings := count_sound
abbrev As_impl_FirstPacking : List ATy := [.data true T_Heap, .data false (.sl (.sl T_A3))]
abbrev R_impl_FirstPacking : List (Bool × Ty) := [(false, (.sl (.int .i64))), (false, .bool)]
abbrev M_impl_FirstPacking : List RMode := [.own 3]
abbrev Ft_impl_FirstPacking : Type := D_Heap × (List (List D_A3)) × Unit → Option ((List Int) × Bool × Unit)
def P_impl_FirstPacking : Ft_impl_FirstPacking := firstF
def C_impl_FirstPacking : Contract := ⟨As_impl_FirstPacking, R_impl_FirstPacking, M_impl_FirstPacking, P_impl_FirstPacking⟩
theorem s_impl_FirstPacking : Sound Tryz.prog GG 8 C_impl_FirstPacking := first_sound
abbrev As_laws_FnPackings : List ATy := [.data false (.sl (.int .u8))]
abbrev R_laws_FnPackings : List (Bool × Ty) := [(false, .bool)]
abbrev M_laws_FnPackings : List RMode := []
abbrev Ft_laws_FnPackings : Type := (List Int) × Unit → Option (Bool × Unit)
def X_laws_FnPackings : Ctx := { types := TTk, globals := [], con := [(4, C_laws_vBig), (5, C_spec_DrawCountPackings), (6, C_impl_CountPackings), (7, C_spec_CountPackings), (8, C_impl_FirstPacking), (9, C_spec_FirstPacking), (10, C_impl_ParityBars), (11, C_spec_ParityBars), (12, C_spec_DrawIsPacking), (13, C_laws_vCut), (14, C_impl_IsPacking), (15, C_spec_IsPacking), (16, C_impl_FaultPlanes), (17, C_spec_FaultPlanes), (18, C_laws_vInts), (19, C_laws_vPairs), (20, C_laws_vLess), (21, C_impl_PlacesFor)], keep := [(22, ⟨[.box 3, .tmp 3, .tmp 4, .tmp 5, .tmp 6, .tmp 9, .tmp 10, .tmp 13, .tmp 24, .tmp 30], []⟩), (34, ⟨[.box 3, .tmp 3, .tmp 4, .tmp 33], []⟩)], results := [.tmp 2], ntmps := 294, n := N }
def B_laws_FnPackings : Code := (Tryz.f3.body).getD .skip
def L_laws_FnPackings_22 (m0 : Nat) (p0 p1 p2 : Int) (p3 : List D_A3) (p4 : List (List D_A3)) (p5 : Int) (p6 : Bool) (p7 : List Int) (p8 p9 : Bool) (p10 : List D_A2) (p11 : Int) : Option (denL R_laws_FnPackings) := loopF X_laws_FnPackings B_laws_FnPackings R_laws_FnPackings M_laws_FnPackings 22 [m0] [(.ver, .num 1), (.box 3, .box 0 false [.int .i64 p0, .int .i64 p1, .int .i64 p2, .imm T_A3 p3 none]), (.tmp 3, .val false [.addr 3 0 0]), (.tmp 4, .val false [.imm (.sl T_A3) p4 none]), (.tmp 5, .val false [.int .i64 p5]), (.tmp 6, .val false [.bool p6]), (.tmp 9, .val false [.own 3 (.int .i64) 0 p7]), (.tmp 10, .val false [.bool p8]), (.tmp 13, .val false [.bool p9]), (.tmp 24, .val false [.own 46 T_A2 0 p10]), (.tmp 30, .val false [.int .i64 p11])]
def L_laws_FnPackings_34 (m0 : Nat) (p0 p1 p2 : Int) (p3 : List D_A3) (p4 : List (List D_A3)) (p5 : Int) : Option (denL R_laws_FnPackings) := loopF X_laws_FnPackings B_laws_FnPackings R_laws_FnPackings M_laws_FnPackings 34 [m0] [(.ver, .num 1), (.box 3, .box 0 false [.int .i64 p0, .int .i64 p1, .int .i64 p2, .imm T_A3 p3 none]), (.tmp 3, .val false [.addr 3 0 0]), (.tmp 4, .val false [.imm (.sl T_A3) p4 none]), (.tmp 33, .val false [.int .i64 p5])]
def P_laws_FnPackings : Ft_laws_FnPackings := hid (runF X_laws_FnPackings B_laws_FnPackings As_laws_FnPackings R_laws_FnPackings M_laws_FnPackings)
theorem h_laws_FnPackings : P_laws_FnPackings = runF X_laws_FnPackings B_laws_FnPackings As_laws_FnPackings R_laws_FnPackings M_laws_FnPackings := hid_eq _
def C_laws_FnPackings : Contract := ⟨As_laws_FnPackings, R_laws_FnPackings, M_laws_FnPackings, P_laws_FnPackings⟩
theorem s_laws_FnPackings : Sound Tryz.prog GG 3 C_laws_FnPackings := by
 unfold C_laws_FnPackings; rw [h_laws_FnPackings]
 exact mkSk Tryz.f3 ⟨s_laws_vBig, s_spec_DrawCountPackings, s_impl_CountPackings, s_spec_CountPackings, s_impl_FirstPacking, s_spec_FirstPacking, s_impl_ParityBars, s_spec_ParityBars, s_spec_DrawIsPacking, s_laws_vCut, s_impl_IsPacking, s_spec_IsPacking, s_impl_FaultPlanes, s_spec_FaultPlanes, s_laws_vInts, s_laws_vPairs, s_laws_vLess, s_impl_PlacesFor, trivial⟩ trivial
def l_laws_FnPackings_22 := hid (L_laws_FnPackings_22)
theorem h_laws_FnPackings_22 : l_laws_FnPackings_22 = L_laws_FnPackings_22 := hid_eq _
def l_laws_FnPackings_34 := hid (L_laws_FnPackings_34)
theorem h_laws_FnPackings_34 : l_laws_FnPackings_34 = L_laws_FnPackings_34 := hid_eq _
theorem p_laws_FnPackings (a0 : List Int) : P_laws_FnPackings (a0, ()) =
 Option.bind (P_laws_vBig (a0, ())) fun r0 =>
 bif r0.1 then
 some (true, ())
 else
 Option.bind (P_spec_DrawCountPackings (a0, ())) fun r2 =>
 Option.bind (P_impl_CountPackings (r2.1, r2.2.1, ())) fun r3 =>
 Option.bind (P_spec_CountPackings (r2.1, r2.2.1, ())) fun r4 =>
 Option.bind (P_impl_FirstPacking (r2.1, r2.2.1, ())) fun r5 =>
 Option.bind (P_spec_FirstPacking (r2.1, r2.2.1, ())) fun r6 =>
 Option.bind (P_impl_ParityBars (r2.1, r2.2.1, ())) fun r7 =>
 Option.bind (P_spec_ParityBars (r2.1, r2.2.1, ())) fun r8 =>
 Option.bind (P_laws_vCut (a0, 1, ())) fun r9 =>
 Option.bind (P_spec_DrawIsPacking (r9.1, ())) fun r10 =>
 Option.bind (P_impl_IsPacking (r10.1, r10.2.1, r10.2.2.1, ())) fun r11 =>
 Option.bind (P_spec_IsPacking (r10.1, r10.2.1, r10.2.2.1, ())) fun r12 =>
 Option.bind (P_impl_FaultPlanes (r10.1, r10.2.1, r10.2.2.1, ())) fun r13 =>
 Option.bind (P_spec_FaultPlanes (r10.1, r10.2.1, r10.2.2.1, ())) fun r14 =>
 bif !decide (r3.1 = r4.1) then
 some (false, ())
 else
 bif !(r3.2.1 == r4.2.1) then
 some (false, ())
 else
 bif !(r5.2.1 == r6.2.1) then
 some (false, ())
 else
 Option.bind (P_laws_vInts (r5.1, r6.1, ())) fun r18 =>
 bif !r18.1 then
 some (false, ())
 else
 bif !(r7.1 == r8.1) then
 some (false, ())
 else
 bif !(r7.2.1 == r8.2.1) then
 some (false, ())
 else
 bif !(r11.1 == r12.1) then
 some (false, ())
 else
 bif !(r11.2.1 == r12.2.1) then
 some (false, ())
 else
 bif !(r13.2.1 == r14.2.1) then
 some (false, ())
 else
 Option.bind (P_laws_vPairs (r13.1, r14.1, ())) fun r25 =>
 bif !r25.1 then
 some (false, ())
 else
 bif r3.2.1 then
 bif !(r5.2.1 == decide (r3.1 > 0)) then
 some (false, ())
 else
 bif !(r3.2.1 == r7.2.1) then
 some (false, ())
 else
 bif r11.2.1 then
 bif !(r13.2.1 == r11.1) then
 some (false, ())
 else
 bif r13.2.1 then
 Option.bind (P_impl_FirstPacking (r10.1, r10.2.1, ())) fun r33 =>
 bif !r33.2.1 then
 some (false, ())
 else
 Option.bind (P_laws_vLess (r10.2.2.1, r33.1, ())) fun r35 =>
 bif r35.1 then
 some (false, ())
 else
 l_laws_FnPackings_22 N r2.1.1 r2.1.2.1 r2.1.2.2.1 r2.1.2.2.2.1 r2.2.1 r3.1 r3.2.1 r5.1 r5.2.1 r7.1 r13.1 0
 else
 bif r3.2.1 then
 bif r7.1 then
 bif decide (r3.1 > 0) then
 some (false, ())
 else
 bif !r5.2.1 then
 some (true, ())
 else
 Option.bind (P_impl_IsPacking (r2.1, r2.2.1, r5.1, ())) fun r37 =>
 bif !r37.2.1 then
 some (false, ())
 else
 bif !r37.1 then
 some (false, ())
 else
 bif !decide ((List.length r5.1 : Int) = (IntKind.wrap .i64 ((IntKind.wrap .i64 (r2.1.1 * r2.1.2.1)) * r2.1.2.2.1))) then
 some (false, ())
 else
 l_laws_FnPackings_34 N r2.1.1 r2.1.2.1 r2.1.2.2.1 r2.1.2.2.2.1 r2.2.1 0
 else
 bif !r5.2.1 then
 some (true, ())
 else
 Option.bind (P_impl_IsPacking (r2.1, r2.2.1, r5.1, ())) fun r36 =>
 bif !r36.2.1 then
 some (false, ())
 else
 bif !r36.1 then
 some (false, ())
 else
 bif !decide ((List.length r5.1 : Int) = (IntKind.wrap .i64 ((IntKind.wrap .i64 (r2.1.1 * r2.1.2.1)) * r2.1.2.2.1))) then
 some (false, ())
 else
 l_laws_FnPackings_34 N r2.1.1 r2.1.2.1 r2.1.2.2.1 r2.1.2.2.2.1 r2.2.1 0
 else
 bif !r5.2.1 then
 some (true, ())
 else
 Option.bind (P_impl_IsPacking (r2.1, r2.2.1, r5.1, ())) fun r35 =>
 bif !r35.2.1 then
 some (false, ())
 else
 bif !r35.1 then
 some (false, ())
 else
 bif !decide ((List.length r5.1 : Int) = (IntKind.wrap .i64 ((IntKind.wrap .i64 (r2.1.1 * r2.1.2.1)) * r2.1.2.2.1))) then
 some (false, ())
 else
 l_laws_FnPackings_34 N r2.1.1 r2.1.2.1 r2.1.2.2.1 r2.1.2.2.2.1 r2.2.1 0
 else
 bif !(r13.2.1 == false) then
 some (false, ())
 else
 bif r13.2.1 then
 Option.bind (P_impl_FirstPacking (r10.1, r10.2.1, ())) fun r33 =>
 bif !r33.2.1 then
 some (false, ())
 else
 Option.bind (P_laws_vLess (r10.2.2.1, r33.1, ())) fun r35 =>
 bif r35.1 then
 some (false, ())
 else
 l_laws_FnPackings_22 N r2.1.1 r2.1.2.1 r2.1.2.2.1 r2.1.2.2.2.1 r2.2.1 r3.1 r3.2.1 r5.1 r5.2.1 r7.1 r13.1 0
 else
 bif r3.2.1 then
 bif r7.1 then
 bif decide (r3.1 > 0) then
 some (false, ())
 else
 bif !r5.2.1 then
 some (true, ())
 else
 Option.bind (P_impl_IsPacking (r2.1, r2.2.1, r5.1, ())) fun r37 =>
 bif !r37.2.1 then
 some (false, ())
 else
 bif !r37.1 then
 some (false, ())
 else
 bif !decide ((List.length r5.1 : Int) = (IntKind.wrap .i64 ((IntKind.wrap .i64 (r2.1.1 * r2.1.2.1)) * r2.1.2.2.1))) then
 some (false, ())
 else
 l_laws_FnPackings_34 N r2.1.1 r2.1.2.1 r2.1.2.2.1 r2.1.2.2.2.1 r2.2.1 0
 else
 bif !r5.2.1 then
 some (true, ())
 else
 Option.bind (P_impl_IsPacking (r2.1, r2.2.1, r5.1, ())) fun r36 =>
 bif !r36.2.1 then
 some (false, ())
 else
 bif !r36.1 then
 some (false, ())
 else
 bif !decide ((List.length r5.1 : Int) = (IntKind.wrap .i64 ((IntKind.wrap .i64 (r2.1.1 * r2.1.2.1)) * r2.1.2.2.1))) then
 some (false, ())
 else
 l_laws_FnPackings_34 N r2.1.1 r2.1.2.1 r2.1.2.2.1 r2.1.2.2.2.1 r2.2.1 0
 else
 bif !r5.2.1 then
 some (true, ())
 else
 Option.bind (P_impl_IsPacking (r2.1, r2.2.1, r5.1, ())) fun r35 =>
 bif !r35.2.1 then
 some (false, ())
 else
 bif !r35.1 then
 some (false, ())
 else
 bif !decide ((List.length r5.1 : Int) = (IntKind.wrap .i64 ((IntKind.wrap .i64 (r2.1.1 * r2.1.2.1)) * r2.1.2.2.1))) then
 some (false, ())
 else
 l_laws_FnPackings_34 N r2.1.1 r2.1.2.1 r2.1.2.2.1 r2.1.2.2.2.1 r2.2.1 0
 else
 bif !(r5.2.1 == false) then
 some (false, ())
 else
 bif !(r3.2.1 == r7.2.1) then
 some (false, ())
 else
 bif r11.2.1 then
 bif !(r13.2.1 == r11.1) then
 some (false, ())
 else
 bif r13.2.1 then
 Option.bind (P_impl_FirstPacking (r10.1, r10.2.1, ())) fun r33 =>
 bif !r33.2.1 then
 some (false, ())
 else
 Option.bind (P_laws_vLess (r10.2.2.1, r33.1, ())) fun r35 =>
 bif r35.1 then
 some (false, ())
 else
 l_laws_FnPackings_22 N r2.1.1 r2.1.2.1 r2.1.2.2.1 r2.1.2.2.2.1 r2.2.1 r3.1 r3.2.1 r5.1 r5.2.1 r7.1 r13.1 0
 else
 bif r3.2.1 then
 bif r7.1 then
 bif decide (r3.1 > 0) then
 some (false, ())
 else
 bif !r5.2.1 then
 some (true, ())
 else
 Option.bind (P_impl_IsPacking (r2.1, r2.2.1, r5.1, ())) fun r37 =>
 bif !r37.2.1 then
 some (false, ())
 else
 bif !r37.1 then
 some (false, ())
 else
 bif !decide ((List.length r5.1 : Int) = (IntKind.wrap .i64 ((IntKind.wrap .i64 (r2.1.1 * r2.1.2.1)) * r2.1.2.2.1))) then
 some (false, ())
 else
 l_laws_FnPackings_34 N r2.1.1 r2.1.2.1 r2.1.2.2.1 r2.1.2.2.2.1 r2.2.1 0
 else
 bif !r5.2.1 then
 some (true, ())
 else
 Option.bind (P_impl_IsPacking (r2.1, r2.2.1, r5.1, ())) fun r36 =>
 bif !r36.2.1 then
 some (false, ())
 else
 bif !r36.1 then
 some (false, ())
 else
 bif !decide ((List.length r5.1 : Int) = (IntKind.wrap .i64 ((IntKind.wrap .i64 (r2.1.1 * r2.1.2.1)) * r2.1.2.2.1))) then
 some (false, ())
 else
 l_laws_FnPackings_34 N r2.1.1 r2.1.2.1 r2.1.2.2.1 r2.1.2.2.2.1 r2.2.1 0
 else
 bif !r5.2.1 then
 some (true, ())
 else
 Option.bind (P_impl_IsPacking (r2.1, r2.2.1, r5.1, ())) fun r35 =>
 bif !r35.2.1 then
 some (false, ())
 else
 bif !r35.1 then
 some (false, ())
 else
 bif !decide ((List.length r5.1 : Int) = (IntKind.wrap .i64 ((IntKind.wrap .i64 (r2.1.1 * r2.1.2.1)) * r2.1.2.2.1))) then
 some (false, ())
 else
 l_laws_FnPackings_34 N r2.1.1 r2.1.2.1 r2.1.2.2.1 r2.1.2.2.2.1 r2.2.1 0
 else
 bif !(r13.2.1 == false) then
 some (false, ())
 else
 bif r13.2.1 then
 Option.bind (P_impl_FirstPacking (r10.1, r10.2.1, ())) fun r33 =>
 bif !r33.2.1 then
 some (false, ())
 else
 Option.bind (P_laws_vLess (r10.2.2.1, r33.1, ())) fun r35 =>
 bif r35.1 then
 some (false, ())
 else
 l_laws_FnPackings_22 N r2.1.1 r2.1.2.1 r2.1.2.2.1 r2.1.2.2.2.1 r2.2.1 r3.1 r3.2.1 r5.1 r5.2.1 r7.1 r13.1 0
 else
 bif r3.2.1 then
 bif r7.1 then
 bif decide (r3.1 > 0) then
 some (false, ())
 else
 bif !r5.2.1 then
 some (true, ())
 else
 Option.bind (P_impl_IsPacking (r2.1, r2.2.1, r5.1, ())) fun r37 =>
 bif !r37.2.1 then
 some (false, ())
 else
 bif !r37.1 then
 some (false, ())
 else
 bif !decide ((List.length r5.1 : Int) = (IntKind.wrap .i64 ((IntKind.wrap .i64 (r2.1.1 * r2.1.2.1)) * r2.1.2.2.1))) then
 some (false, ())
 else
 l_laws_FnPackings_34 N r2.1.1 r2.1.2.1 r2.1.2.2.1 r2.1.2.2.2.1 r2.2.1 0
 else
 bif !r5.2.1 then
 some (true, ())
 else
 Option.bind (P_impl_IsPacking (r2.1, r2.2.1, r5.1, ())) fun r36 =>
 bif !r36.2.1 then
 some (false, ())
 else
 bif !r36.1 then
 some (false, ())
 else
 bif !decide ((List.length r5.1 : Int) = (IntKind.wrap .i64 ((IntKind.wrap .i64 (r2.1.1 * r2.1.2.1)) * r2.1.2.2.1))) then
 some (false, ())
 else
 l_laws_FnPackings_34 N r2.1.1 r2.1.2.1 r2.1.2.2.1 r2.1.2.2.2.1 r2.2.1 0
 else
 bif !r5.2.1 then
 some (true, ())
 else
 Option.bind (P_impl_IsPacking (r2.1, r2.2.1, r5.1, ())) fun r35 =>
 bif !r35.2.1 then
 some (false, ())
 else
 bif !r35.1 then
 some (false, ())
 else
 bif !decide ((List.length r5.1 : Int) = (IntKind.wrap .i64 ((IntKind.wrap .i64 (r2.1.1 * r2.1.2.1)) * r2.1.2.2.1))) then
 some (false, ())
 else
 l_laws_FnPackings_34 N r2.1.1 r2.1.2.1 r2.1.2.2.1 r2.1.2.2.2.1 r2.2.1 0 := by
 rewrite [h_laws_FnPackings, h_laws_FnPackings_22, h_laws_FnPackings_34]
 kernel_rfl
theorem q_laws_FnPackings_22 (m0 : Nat) (p0 p1 p2 : Int) (p3 : List D_A3) (p4 : List (List D_A3)) (p5 : Int) (p6 : Bool) (p7 : List Int) (p8 p9 : Bool) (p10 : List D_A2) (p11 : Int) : l_laws_FnPackings_22 (m0 + 1) p0 p1 p2 p3 p4 p5 p6 p7 p8 p9 p10 p11 =
 bif decide (p11 < (List.length p10 : Int)) then
 bif inB p11 (List.length p10) then
 bif decide (((nth T_A2 p10 p11)).1 < 0) then
 some (false, ())
 else
 bif inB p11 (List.length p10) then
 bif decide (((nth T_A2 p10 p11)).1 > 2) then
 some (false, ())
 else
 bif inB p11 (List.length p10) then
 bif decide ((((nth T_A2 p10 p11)).2).1 < 1) then
 some (false, ())
 else
 bif inB p11 (List.length p10) then
 bif decide ((((nth T_A2 p10 p11)).2).1 > 3) then
 some (false, ())
 else
 l_laws_FnPackings_22 m0 p0 p1 p2 p3 p4 p5 p6 p7 p8 p9 p10 (IntKind.wrap .i64 (p11 + 1))
 else none
 else none
 else none
 else none
 else
 bif p6 then
 bif p9 then
 bif decide (p5 > 0) then
 some (false, ())
 else
 bif !p8 then
 some (true, ())
 else
 Option.bind (P_impl_IsPacking ((p0, (p1, (p2, (p3, ())))), p4, p7, ())) fun r5 =>
 bif !r5.2.1 then
 some (false, ())
 else
 bif !r5.1 then
 some (false, ())
 else
 bif !decide ((List.length p7 : Int) = (IntKind.wrap .i64 ((IntKind.wrap .i64 (p0 * p1)) * p2))) then
 some (false, ())
 else
 l_laws_FnPackings_34 N p0 p1 p2 p3 p4 0
 else
 bif !p8 then
 some (true, ())
 else
 Option.bind (P_impl_IsPacking ((p0, (p1, (p2, (p3, ())))), p4, p7, ())) fun r4 =>
 bif !r4.2.1 then
 some (false, ())
 else
 bif !r4.1 then
 some (false, ())
 else
 bif !decide ((List.length p7 : Int) = (IntKind.wrap .i64 ((IntKind.wrap .i64 (p0 * p1)) * p2))) then
 some (false, ())
 else
 l_laws_FnPackings_34 N p0 p1 p2 p3 p4 0
 else
 bif !p8 then
 some (true, ())
 else
 Option.bind (P_impl_IsPacking ((p0, (p1, (p2, (p3, ())))), p4, p7, ())) fun r3 =>
 bif !r3.2.1 then
 some (false, ())
 else
 bif !r3.1 then
 some (false, ())
 else
 bif !decide ((List.length p7 : Int) = (IntKind.wrap .i64 ((IntKind.wrap .i64 (p0 * p1)) * p2))) then
 some (false, ())
 else
 l_laws_FnPackings_34 N p0 p1 p2 p3 p4 0 := by
 rewrite [h_laws_FnPackings_22, h_laws_FnPackings_34]
 kernel_rfl
theorem q_laws_FnPackings_34 (m0 : Nat) (p0 p1 p2 : Int) (p3 : List D_A3) (p4 : List (List D_A3)) (p5 : Int) : l_laws_FnPackings_34 (m0 + 1) p0 p1 p2 p3 p4 p5 =
 bif decide (p5 < (List.length p4 : Int)) then
 bif inB p5 (List.length p4) then
 Option.bind (P_impl_PlacesFor ((p0, (p1, (p2, (p3, ())))), (nth ((.sl T_A3) : Ty) p4 p5), ())) fun r2 =>
 bif !r2.2.1 then
 some (false, ())
 else
 bif decide ((List.length r2.1 : Int) = 0) then
 some (false, ())
 else
 l_laws_FnPackings_34 m0 p0 p1 p2 p3 p4 (IntKind.wrap .i64 (p5 + 1))
 else none
 else
 some (true, ()) := by
 rewrite [h_laws_FnPackings_34]
 kernel_rfl
end
end Go.VI
