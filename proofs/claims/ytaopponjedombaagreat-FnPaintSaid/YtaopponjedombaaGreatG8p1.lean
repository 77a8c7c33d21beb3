/- What the functions of the seat compute, as printed by wip/tools. -/
import Derived.Test.YtaopponjedombaaGreatViGen
import Derived.Test.YtaopponjedombaaGreatProg
namespace Go.VI
open Go.Proofs
set_option maxRecDepth 100000
def n0 : Nat := 0
def GG : World → Prop := fun _ => True
theorem hstable : Stable n0 GG := stable_true
theorem hmix : Tryz.prog.follows .mixedOrders = true := by kernel_rfl
theorem hglob (X : Ctx) (h : X.globals = [] := by rfl) (A : Fix) (_ : A.P = Tryz.prog) (_ : A.G = GG) : GlobOK A X := globOK_none h A
abbrev T_l1Cur : Ty := (.pair (.sl (.int .u8)) (.pair (.int .i64) (.pair (.int .u64) .unit)))
abbrev D_l1Cur : Type := (List Int) × Int × Int × Unit
abbrev T_A2 : Ty := (.pair (.int .i64) (.pair (.int .i64) .unit))
abbrev D_A2 : Type := Int × Int × Unit
abbrev T_A3 : Ty := (.pair (.int .i64) (.pair (.int .i64) (.pair (.int .i64) .unit)))
abbrev D_A3 : Type := Int × Int × Int × Unit
abbrev T_Heap : Ty := (.pair (.int .i64) (.pair (.int .i64) (.pair (.int .i64) (.pair (.sl T_A3) .unit))))
abbrev D_Heap : Type := Int × Int × Int × (List D_A3) × Unit
abbrev T_A4 : Ty := (.pair (.int .i64) (.pair (.int .i64) (.pair (.int .i64) (.pair (.int .i64) .unit))))
abbrev D_A4 : Type := Int × Int × Int × Int × Unit
abbrev T_A5 : Ty := (.pair (.int .i64) (.pair (.int .i64) (.pair (.int .i64) (.pair (.int .i64) (.pair (.int .i64) .unit)))))
abbrev D_A5 : Type := Int × Int × Int × Int × Int × Unit
abbrev T_A6 : Ty := (.pair (.int .i64) (.pair (.int .i64) (.pair (.int .i64) (.pair (.int .i64) (.pair (.int .i64) (.pair (.int .i64) .unit))))))
abbrev D_A6 : Type := Int × Int × Int × Int × Int × Int × Unit
abbrev T_A7 : Ty := (.pair (.int .i64) (.pair (.int .i64) (.pair (.int .i64) (.pair (.int .i64) (.pair (.int .i64) (.pair (.int .i64) (.pair (.int .i64) .unit)))))))
abbrev D_A7 : Type := Int × Int × Int × Int × Int × Int × Int × Unit
noncomputable def TT : List (TypeId × TI) := [(3, ⟨Tryz.t3.desc, (.int .i64), false, 8, [.int .i64 0]⟩),
 (4, ⟨Tryz.t4.desc, .bool, false, 1, [.bool false]⟩),
 (5, ⟨Tryz.t5.desc, (.int .u8), false, 1, [.int .u8 0]⟩),
 (22, ⟨Tryz.t22.desc, (.sl (.int .u8)), false, 24, [.nil 5 (.int .u8)]⟩),
 (24, ⟨Tryz.t24.desc, (.sl T_A3), false, 24, [.nil 38 T_A3]⟩),
 (26, ⟨Tryz.t25.desc, T_Heap, true, 48, [.int .i64 0, .int .i64 0, .int .i64 0, .nil 38 T_A3]⟩),
 (29, ⟨Tryz.t29.desc, T_A7, true, 56, [.int .i64 0, .int .i64 0, .int .i64 0, .int .i64 0, .int .i64 0, .int .i64 0, .int .i64 0]⟩),
 (38, ⟨Tryz.t38.desc, T_A3, true, 24, [.int .i64 0, .int .i64 0, .int .i64 0]⟩),
 (68, ⟨Tryz.t68.desc, (.int .u64), false, 8, [.int .u64 0]⟩),
 (70, ⟨Tryz.t69.desc, T_l1Cur, true, 40, [.nil 5 (.int .u8), .int .i64 0, .int .u64 0]⟩),
 (73, ⟨Tryz.t73.desc, (.sl (.int .i64)), false, 24, [.nil 3 (.int .i64)]⟩),
 (76, ⟨Tryz.t38.desc, T_A3, true, 24, [.int .i64 0, .int .i64 0, .int .i64 0]⟩),
 (92, ⟨Tryz.t92.desc, T_A6, true, 48, [.int .i64 0, .int .i64 0, .int .i64 0, .int .i64 0, .int .i64 0, .int .i64 0]⟩),
 (105, ⟨Tryz.t105.desc, (.pair T_A3 (.pair T_A3 (.pair T_A3 (.pair T_A3 (.pair T_A3 (.pair T_A3 .unit)))))), true, 144, [.int .i64 0, .int .i64 0, .int .i64 0, .int .i64 0, .int .i64 0, .int .i64 0, .int .i64 0, .int .i64 0, .int .i64 0, .int .i64 0, .int .i64 0, .int .i64 0, .int .i64 0, .int .i64 0, .int .i64 0, .int .i64 0, .int .i64 0, .int .i64 0]⟩),
 (126, ⟨Tryz.t126.desc, T_A2, true, 16, [.int .i64 0, .int .i64 0]⟩)]
theorem ttOK : allP (fun q => tiB Tryz.prog q.1 q.2) TT :=
 ⟨⟨by kernel_rfl, by kernel_rfl, by kernel_rfl, by kernel_rfl, by kernel_rfl⟩, ⟨by kernel_rfl, by kernel_rfl, by kernel_rfl, by kernel_rfl, by kernel_rfl⟩, ⟨by kernel_rfl, by kernel_rfl, by kernel_rfl, by kernel_rfl, by kernel_rfl⟩, ⟨by kernel_rfl, by kernel_rfl, by kernel_rfl, by kernel_rfl, by kernel_rfl⟩, ⟨by kernel_rfl, by kernel_rfl, by kernel_rfl, by kernel_rfl, by kernel_rfl⟩, ⟨by kernel_rfl, by kernel_rfl, by kernel_rfl, by kernel_rfl, by kernel_rfl⟩, ⟨by kernel_rfl, by kernel_rfl, by kernel_rfl, by kernel_rfl, by kernel_rfl⟩, ⟨by kernel_rfl, by kernel_rfl, by kernel_rfl, by kernel_rfl, by kernel_rfl⟩, ⟨by kernel_rfl, by kernel_rfl, by kernel_rfl, by kernel_rfl, by kernel_rfl⟩, ⟨by kernel_rfl, by kernel_rfl, by kernel_rfl, by kernel_rfl, by kernel_rfl⟩, ⟨by kernel_rfl, by kernel_rfl, by kernel_rfl, by kernel_rfl, by kernel_rfl⟩, ⟨by kernel_rfl, by kernel_rfl, by kernel_rfl, by kernel_rfl, by kernel_rfl⟩, ⟨by kernel_rfl, by kernel_rfl, by kernel_rfl, by kernel_rfl, by kernel_rfl⟩, ⟨by kernel_rfl, by kernel_rfl, by kernel_rfl, by kernel_rfl, by kernel_rfl⟩, ⟨by kernel_rfl, by kernel_rfl, by kernel_rfl, by kernel_rfl, by kernel_rfl⟩, trivial⟩

abbrev As_laws_rBig : List ATy := [.data false (.sl (.int .u8))]
abbrev R_laws_rBig : List (Bool × Ty) := [(false, .bool)]
abbrev M_laws_rBig : List RMode := []
abbrev Ft_laws_rBig : Type := (List Int) × Unit → Option (Bool × Unit)
noncomputable def X_laws_rBig (n : Nat) : Ctx := { types := TT, globals := [], con := [], keep := [], results := [.tmp 2], ntmps := 6, n := n }
noncomputable def B_laws_rBig : Code := (Tryz.f5.body).getD .skip
theorem e_laws_rBig (n : Nat) (a0 : List Int) : runF (X_laws_rBig n) B_laws_rBig As_laws_rBig R_laws_rBig M_laws_rBig (a0, ()) = 
 some (decide ((List.length a0 : Int) > 65536), ()) := by kernel_rfl
noncomputable def P_laws_rBig : Ft_laws_rBig := hid (runF (X_laws_rBig N) B_laws_rBig As_laws_rBig R_laws_rBig M_laws_rBig)
theorem h_laws_rBig : P_laws_rBig = runF (X_laws_rBig N) B_laws_rBig As_laws_rBig R_laws_rBig M_laws_rBig := hid_eq _
noncomputable def C_laws_rBig : Contract := ⟨As_laws_rBig, R_laws_rBig, M_laws_rBig, P_laws_rBig⟩
theorem s_laws_rBig : Sound Tryz.prog GG 5 C_laws_rBig := by
 unfold C_laws_rBig; rw [h_laws_rBig]
 exact sound_of_run (fn := Tryz.f5) hmix hstable (tyOK_of ttOK) (hglob (X_laws_rBig N)) (conOK_of (X := X_laws_rBig N) trivial) (mconOK_of (X := X_laws_rBig N) trivial) (by kernel_rfl) (by kernel_rfl) (by kernel_rfl) (by kernel_rfl) (by kernel_rfl) (of_decide_eq_true (by kernel_rfl))
theorem p_laws_rBig (a0 : List Int) : P_laws_rBig (a0, ()) = 
 some (decide ((List.length a0 : Int) > 65536), ()) := by
 rewrite [h_laws_rBig]
 exact e_laws_rBig N a0

abbrev As_l1Cur_next : List ATy := [.lptr T_l1Cur]
abbrev R_l1Cur_next : List (Bool × Ty) := [(false, (.int .i64))]
abbrev M_l1Cur_next : List RMode := []
abbrev Ft_l1Cur_next : Type := D_l1Cur × Unit → Option ((Int × Unit) × (D_l1Cur × Unit))
noncomputable def X_l1Cur_next (n : Nat) : Ctx := { types := TT, globals := [], con := [], keep := [], results := [.tmp 2], ntmps := 62, n := n }
noncomputable def B_l1Cur_next : Code := (Tryz.f123.body).getD .skip
theorem e_l1Cur_next (n : Nat) (a0 : D_l1Cur) : runFM (X_l1Cur_next n) B_l1Cur_next As_l1Cur_next R_l1Cur_next M_l1Cur_next (a0, ()) = 
 bif decide (a0.2.1 < (List.length a0.1 : Int)) then
 bif inB a0.2.1 (List.length a0.1) then
 bif decide ((IntKind.wrap .i64 (a0.2.1 + 1)) ≤ (List.length a0.1 : Int)) then
 some (((IntKind.wrap .i64 (nth ((.int .u8) : Ty) a0.1 a0.2.1)), ()), ((a0.1, ((IntKind.wrap .i64 (a0.2.1 + 1)), ((IntKind.wrap .u64 ((IntKind.wrap .u64 ((IntKind.wrap .u64 (a0.2.2.1 * 6364136223846793005)) + (IntKind.wrap .u64 (IntKind.wrap .i64 (nth ((.int .u8) : Ty) a0.1 a0.2.1))))) + 462197)), ()))), ()))
 else
 some (((IntKind.wrap .i64 (intBits .and .u64 (shrI .u64 (IntKind.wrap .u64 ((IntKind.wrap .u64 ((IntKind.wrap .u64 (a0.2.2.1 * 6364136223846793005)) + (IntKind.wrap .u64 (IntKind.wrap .i64 (nth ((.int .u8) : Ty) a0.1 a0.2.1))))) + 462197)) 40) 255)), ()), ((a0.1, ((IntKind.wrap .i64 (a0.2.1 + 1)), ((IntKind.wrap .u64 ((IntKind.wrap .u64 ((IntKind.wrap .u64 (a0.2.2.1 * 6364136223846793005)) + (IntKind.wrap .u64 (IntKind.wrap .i64 (nth ((.int .u8) : Ty) a0.1 a0.2.1))))) + 462197)), ()))), ()))
 else none
 else
 bif decide ((IntKind.wrap .i64 (a0.2.1 + 1)) ≤ (List.length a0.1 : Int)) then
 some ((0, ()), ((a0.1, ((IntKind.wrap .i64 (a0.2.1 + 1)), ((IntKind.wrap .u64 ((IntKind.wrap .u64 ((IntKind.wrap .u64 (a0.2.2.1 * 6364136223846793005)) + 0)) + 462197)), ()))), ()))
 else
 some (((IntKind.wrap .i64 (intBits .and .u64 (shrI .u64 (IntKind.wrap .u64 ((IntKind.wrap .u64 ((IntKind.wrap .u64 (a0.2.2.1 * 6364136223846793005)) + 0)) + 462197)) 40) 255)), ()), ((a0.1, ((IntKind.wrap .i64 (a0.2.1 + 1)), ((IntKind.wrap .u64 ((IntKind.wrap .u64 ((IntKind.wrap .u64 (a0.2.2.1 * 6364136223846793005)) + 0)) + 462197)), ()))), ())) := by kernel_rfl
noncomputable def P_l1Cur_next : Ft_l1Cur_next := hid (runFM (X_l1Cur_next N) B_l1Cur_next As_l1Cur_next R_l1Cur_next M_l1Cur_next)
theorem h_l1Cur_next : P_l1Cur_next = runFM (X_l1Cur_next N) B_l1Cur_next As_l1Cur_next R_l1Cur_next M_l1Cur_next := hid_eq _
noncomputable def C_l1Cur_next : MContract := ⟨As_l1Cur_next, R_l1Cur_next, M_l1Cur_next, P_l1Cur_next⟩
theorem s_l1Cur_next : SoundM Tryz.prog n0 GG 123 C_l1Cur_next := by
 unfold C_l1Cur_next; rw [h_l1Cur_next]
 exact sound_of_runM (fn := Tryz.f123) hmix hstable (tyOK_of ttOK) (hglob (X_l1Cur_next N)) (conOK_of (X := X_l1Cur_next N) trivial) (mconOK_of (X := X_l1Cur_next N) trivial) (by kernel_rfl) (by kernel_rfl) (by kernel_rfl) (by kernel_rfl) (by kernel_rfl) (of_decide_eq_true (by kernel_rfl)) (by kernel_rfl) (by rfl)
theorem p_l1Cur_next (a0 : D_l1Cur) : P_l1Cur_next (a0, ()) = 
 bif decide (a0.2.1 < (List.length a0.1 : Int)) then
 bif inB a0.2.1 (List.length a0.1) then
 bif decide ((IntKind.wrap .i64 (a0.2.1 + 1)) ≤ (List.length a0.1 : Int)) then
 some (((IntKind.wrap .i64 (nth ((.int .u8) : Ty) a0.1 a0.2.1)), ()), ((a0.1, ((IntKind.wrap .i64 (a0.2.1 + 1)), ((IntKind.wrap .u64 ((IntKind.wrap .u64 ((IntKind.wrap .u64 (a0.2.2.1 * 6364136223846793005)) + (IntKind.wrap .u64 (IntKind.wrap .i64 (nth ((.int .u8) : Ty) a0.1 a0.2.1))))) + 462197)), ()))), ()))
 else
 some (((IntKind.wrap .i64 (intBits .and .u64 (shrI .u64 (IntKind.wrap .u64 ((IntKind.wrap .u64 ((IntKind.wrap .u64 (a0.2.2.1 * 6364136223846793005)) + (IntKind.wrap .u64 (IntKind.wrap .i64 (nth ((.int .u8) : Ty) a0.1 a0.2.1))))) + 462197)) 40) 255)), ()), ((a0.1, ((IntKind.wrap .i64 (a0.2.1 + 1)), ((IntKind.wrap .u64 ((IntKind.wrap .u64 ((IntKind.wrap .u64 (a0.2.2.1 * 6364136223846793005)) + (IntKind.wrap .u64 (IntKind.wrap .i64 (nth ((.int .u8) : Ty) a0.1 a0.2.1))))) + 462197)), ()))), ()))
 else none
 else
 bif decide ((IntKind.wrap .i64 (a0.2.1 + 1)) ≤ (List.length a0.1 : Int)) then
 some ((0, ()), ((a0.1, ((IntKind.wrap .i64 (a0.2.1 + 1)), ((IntKind.wrap .u64 ((IntKind.wrap .u64 ((IntKind.wrap .u64 (a0.2.2.1 * 6364136223846793005)) + 0)) + 462197)), ()))), ()))
 else
 some (((IntKind.wrap .i64 (intBits .and .u64 (shrI .u64 (IntKind.wrap .u64 ((IntKind.wrap .u64 ((IntKind.wrap .u64 (a0.2.2.1 * 6364136223846793005)) + 0)) + 462197)) 40) 255)), ()), ((a0.1, ((IntKind.wrap .i64 (a0.2.1 + 1)), ((IntKind.wrap .u64 ((IntKind.wrap .u64 ((IntKind.wrap .u64 (a0.2.2.1 * 6364136223846793005)) + 0)) + 462197)), ()))), ())) := by
 rewrite [h_l1Cur_next]
 exact e_l1Cur_next N a0

abbrev As_l1Cur_pick : List ATy := [.lptr T_l1Cur, .data false (.int .i64)]
abbrev R_l1Cur_pick : List (Bool × Ty) := [(false, (.int .i64))]
abbrev M_l1Cur_pick : List RMode := []
abbrev Ft_l1Cur_pick : Type := D_l1Cur × Int × Unit → Option ((Int × Unit) × (D_l1Cur × Unit))
noncomputable def X_l1Cur_pick (n : Nat) (F_l1Cur_next : Ft_l1Cur_next) : Ctx := { types := TT, globals := [], con := [], mcon := [(123, ⟨As_l1Cur_next, R_l1Cur_next, M_l1Cur_next, F_l1Cur_next⟩)], keep := [], results := [.tmp 4], ntmps := 20, n := n }
noncomputable def B_l1Cur_pick : Code := (Tryz.f85.body).getD .skip
theorem e_l1Cur_pick (n : Nat) (F_l1Cur_next : Ft_l1Cur_next) (a0 : D_l1Cur) (a1 : Int) : runFM (X_l1Cur_pick n F_l1Cur_next) B_l1Cur_pick As_l1Cur_pick R_l1Cur_pick M_l1Cur_pick (a0, a1, ()) = 
 bif decide (a1 ≤ 1) then
 some ((0, ()), (a0, ()))
 else
 Option.bind (F_l1Cur_next (a0, ())) fun r1 =>
 bif decide (a1 > 200) then
 Option.bind (F_l1Cur_next ((a0.1, r1.2.1.2), ())) fun r3 =>
 bif !decide (a1 = 0) then
 some (((Int.tmod (IntKind.wrap .i64 ((IntKind.wrap .i64 (r1.1.1 * 256)) + r3.1.1)) a1), ()), ((a0.1, r3.2.1.2), ()))
 else none
 else
 bif !decide (a1 = 0) then
 some (((Int.tmod r1.1.1 a1), ()), ((a0.1, r1.2.1.2), ()))
 else none := by kernel_rfl
noncomputable def P_l1Cur_pick : Ft_l1Cur_pick := hid (runFM (X_l1Cur_pick N P_l1Cur_next) B_l1Cur_pick As_l1Cur_pick R_l1Cur_pick M_l1Cur_pick)
theorem h_l1Cur_pick : P_l1Cur_pick = runFM (X_l1Cur_pick N P_l1Cur_next) B_l1Cur_pick As_l1Cur_pick R_l1Cur_pick M_l1Cur_pick := hid_eq _
noncomputable def C_l1Cur_pick : MContract := ⟨As_l1Cur_pick, R_l1Cur_pick, M_l1Cur_pick, P_l1Cur_pick⟩
theorem s_l1Cur_pick : SoundM Tryz.prog n0 GG 85 C_l1Cur_pick := by
 unfold C_l1Cur_pick; rw [h_l1Cur_pick]
 exact sound_of_runM (fn := Tryz.f85) hmix hstable (tyOK_of ttOK) (hglob (X_l1Cur_pick N P_l1Cur_next)) (conOK_of (X := X_l1Cur_pick N P_l1Cur_next) trivial) (mconOK_of (X := X_l1Cur_pick N P_l1Cur_next) ⟨s_l1Cur_next, trivial⟩) (by kernel_rfl) (by kernel_rfl) (by kernel_rfl) (by kernel_rfl) (by kernel_rfl) (of_decide_eq_true (by kernel_rfl)) (by kernel_rfl) (by rfl)
theorem p_l1Cur_pick (a0 : D_l1Cur) (a1 : Int) : P_l1Cur_pick (a0, a1, ()) = 
 bif decide (a1 ≤ 1) then
 some ((0, ()), (a0, ()))
 else
 Option.bind (P_l1Cur_next (a0, ())) fun r1 =>
 bif decide (a1 > 200) then
 Option.bind (P_l1Cur_next ((a0.1, r1.2.1.2), ())) fun r3 =>
 bif !decide (a1 = 0) then
 some (((Int.tmod (IntKind.wrap .i64 ((IntKind.wrap .i64 (r1.1.1 * 256)) + r3.1.1)) a1), ()), ((a0.1, r3.2.1.2), ()))
 else none
 else
 bif !decide (a1 = 0) then
 some (((Int.tmod r1.1.1 a1), ()), ((a0.1, r1.2.1.2), ()))
 else none := by
 rewrite [h_l1Cur_pick]
 exact e_l1Cur_pick N P_l1Cur_next a0 a1

abbrev As_l1Cur_one : List ATy := [.lptr T_l1Cur, .data false (.int .i64)]
abbrev R_l1Cur_one : List (Bool × Ty) := [(false, .bool)]
abbrev M_l1Cur_one : List RMode := []
abbrev Ft_l1Cur_one : Type := D_l1Cur × Int × Unit → Option ((Bool × Unit) × (D_l1Cur × Unit))
noncomputable def X_l1Cur_one (n : Nat) (F_l1Cur_pick : Ft_l1Cur_pick) : Ctx := { types := TT, globals := [], con := [], mcon := [(85, ⟨As_l1Cur_pick, R_l1Cur_pick, M_l1Cur_pick, F_l1Cur_pick⟩)], keep := [], results := [.tmp 4], ntmps := 9, n := n }
noncomputable def B_l1Cur_one : Code := (Tryz.f46.body).getD .skip
theorem e_l1Cur_one (n : Nat) (F_l1Cur_pick : Ft_l1Cur_pick) (a0 : D_l1Cur) (a1 : Int) : runFM (X_l1Cur_one n F_l1Cur_pick) B_l1Cur_one As_l1Cur_one R_l1Cur_one M_l1Cur_one (a0, a1, ()) = 
 Option.bind (F_l1Cur_pick (a0, a1, ())) fun r0 =>
 some ((decide (r0.1.1 = 0), ()), ((a0.1, r0.2.1.2), ())) := by kernel_rfl
noncomputable def P_l1Cur_one : Ft_l1Cur_one := hid (runFM (X_l1Cur_one N P_l1Cur_pick) B_l1Cur_one As_l1Cur_one R_l1Cur_one M_l1Cur_one)
theorem h_l1Cur_one : P_l1Cur_one = runFM (X_l1Cur_one N P_l1Cur_pick) B_l1Cur_one As_l1Cur_one R_l1Cur_one M_l1Cur_one := hid_eq _
noncomputable def C_l1Cur_one : MContract := ⟨As_l1Cur_one, R_l1Cur_one, M_l1Cur_one, P_l1Cur_one⟩
theorem s_l1Cur_one : SoundM Tryz.prog n0 GG 46 C_l1Cur_one := by
 unfold C_l1Cur_one; rw [h_l1Cur_one]
 exact sound_of_runM (fn := Tryz.f46) hmix hstable (tyOK_of ttOK) (hglob (X_l1Cur_one N P_l1Cur_pick)) (conOK_of (X := X_l1Cur_one N P_l1Cur_pick) trivial) (mconOK_of (X := X_l1Cur_one N P_l1Cur_pick) ⟨s_l1Cur_pick, trivial⟩) (by kernel_rfl) (by kernel_rfl) (by kernel_rfl) (by kernel_rfl) (by kernel_rfl) (of_decide_eq_true (by kernel_rfl)) (by kernel_rfl) (by rfl)
theorem p_l1Cur_one (a0 : D_l1Cur) (a1 : Int) : P_l1Cur_one (a0, a1, ()) = 
 Option.bind (P_l1Cur_pick (a0, a1, ())) fun r0 =>
 some ((decide (r0.1.1 = 0), ()), ((a0.1, r0.2.1.2), ())) := by
 rewrite [h_l1Cur_one]
 exact e_l1Cur_one N P_l1Cur_pick a0 a1

abbrev As_spec_l2Empty : List ATy := [.data false (.int .i64), .data false (.int .i64), .data false (.int .i64)]
abbrev R_spec_l2Empty : List (Bool × Ty) := [(true, T_Heap)]
abbrev M_spec_l2Empty : List RMode := [.own 38]
abbrev Ft_spec_l2Empty : Type := Int × Int × Int × Unit → Option (D_Heap × Unit)
noncomputable def X_spec_l2Empty (n : Nat) : Ctx := { types := TT, globals := [], con := [], keep := [], results := [.cell 6 26], ntmps := 12, n := n }
noncomputable def B_spec_l2Empty : Code := (Tryz.f94.body).getD .skip
theorem e_spec_l2Empty (n : Nat) (a0 a1 a2 : Int) : runF (X_spec_l2Empty n) B_spec_l2Empty As_spec_l2Empty R_spec_l2Empty M_spec_l2Empty (a0, a1, a2, ()) = 
 some ((a0, (a1, (a2, (([] : List D_A3), ())))), ()) := by kernel_rfl
noncomputable def P_spec_l2Empty : Ft_spec_l2Empty := hid (runF (X_spec_l2Empty N) B_spec_l2Empty As_spec_l2Empty R_spec_l2Empty M_spec_l2Empty)
theorem h_spec_l2Empty : P_spec_l2Empty = runF (X_spec_l2Empty N) B_spec_l2Empty As_spec_l2Empty R_spec_l2Empty M_spec_l2Empty := hid_eq _
noncomputable def C_spec_l2Empty : Contract := ⟨As_spec_l2Empty, R_spec_l2Empty, M_spec_l2Empty, P_spec_l2Empty⟩
theorem s_spec_l2Empty : Sound Tryz.prog GG 94 C_spec_l2Empty := by
 unfold C_spec_l2Empty; rw [h_spec_l2Empty]
 exact sound_of_run (fn := Tryz.f94) hmix hstable (tyOK_of ttOK) (hglob (X_spec_l2Empty N)) (conOK_of (X := X_spec_l2Empty N) trivial) (mconOK_of (X := X_spec_l2Empty N) trivial) (by kernel_rfl) (by kernel_rfl) (by kernel_rfl) (by kernel_rfl) (by kernel_rfl) (of_decide_eq_true (by kernel_rfl))
theorem p_spec_l2Empty (a0 a1 a2 : Int) : P_spec_l2Empty (a0, a1, a2, ()) = 
 some ((a0, (a1, (a2, (([] : List D_A3), ())))), ()) := by
 rewrite [h_spec_l2Empty]
 exact e_spec_l2Empty N a0 a1 a2

abbrev As_spec_l2All : List ATy := [.data true T_Heap]
abbrev R_spec_l2All : List (Bool × Ty) := [(false, (.sl T_A3))]
abbrev M_spec_l2All : List RMode := [.own 38]
abbrev Ft_spec_l2All : Type := D_Heap × Unit → Option ((List D_A3) × Unit)
noncomputable def X_spec_l2All (n : Nat) : Ctx := { types := TT, globals := [], con := [], keep := [(3, ⟨[.box 1, .tmp 1, .tmp 3, .tmp 4], []⟩), (6, ⟨[.box 1, .tmp 1, .tmp 3, .tmp 4, .tmp 5], []⟩), (9, ⟨[.box 1, .tmp 1, .tmp 3, .tmp 4, .tmp 5, .tmp 6], []⟩)], results := [.tmp 2], ntmps := 34, n := n }
noncomputable def B_spec_l2All : Code := (Tryz.f103.body).getD .skip
noncomputable def L_spec_l2All_3 (n m0 : Nat) (p0 p1 p2 : Int) (p3 p4 : List D_A3) (p5 : Int) : Option (denL R_spec_l2All) := loopF (X_spec_l2All n) B_spec_l2All R_spec_l2All M_spec_l2All 3 [m0] [(.ver, .num 1), (.box 1, .box 0 false [.int .i64 p0, .int .i64 p1, .int .i64 p2, .imm T_A3 p3 (some 3)]), (.tmp 1, .val false [.addr 1 0 0]), (.tmp 3, .val false [.own 38 T_A3 0 p4]), (.tmp 4, .val false [.int .i64 p5])]
noncomputable def L_spec_l2All_6 (n : Nat) (m0 m1 : Nat) (p0 p1 p2 : Int) (p3 p4 : List D_A3) (p5 p6 : Int) : Option (denL R_spec_l2All) := loopF (X_spec_l2All n) B_spec_l2All R_spec_l2All M_spec_l2All 6 [m0, m1] [(.ver, .num 1), (.box 1, .box 0 false [.int .i64 p0, .int .i64 p1, .int .i64 p2, .imm T_A3 p3 (some 3)]), (.tmp 1, .val false [.addr 1 0 0]), (.tmp 3, .val false [.own 38 T_A3 0 p4]), (.tmp 4, .val false [.int .i64 p5]), (.tmp 5, .val false [.int .i64 p6])]
noncomputable def L_spec_l2All_9 (n : Nat) (m0 m1 m2 : Nat) (p0 p1 p2 : Int) (p3 p4 : List D_A3) (p5 p6 p7 : Int) : Option (denL R_spec_l2All) := loopF (X_spec_l2All n) B_spec_l2All R_spec_l2All M_spec_l2All 9 [m0, m1, m2] [(.ver, .num 1), (.box 1, .box 0 false [.int .i64 p0, .int .i64 p1, .int .i64 p2, .imm T_A3 p3 (some 3)]), (.tmp 1, .val false [.addr 1 0 0]), (.tmp 3, .val false [.own 38 T_A3 0 p4]), (.tmp 4, .val false [.int .i64 p5]), (.tmp 5, .val false [.int .i64 p6]), (.tmp 6, .val false [.int .i64 p7])]
theorem e_spec_l2All (n : Nat) (a0 : D_Heap) : runF (X_spec_l2All n) B_spec_l2All As_spec_l2All R_spec_l2All M_spec_l2All (a0, ()) = 
 L_spec_l2All_3 n n a0.1 a0.2.1 a0.2.2.1 a0.2.2.2.1 ([] : List D_A3) 0 := by kernel_rfl
theorem e_spec_l2All_3 (n m0 : Nat) (p0 p1 p2 : Int) (p3 p4 : List D_A3) (p5 : Int) : L_spec_l2All_3 n (m0 + 1) p0 p1 p2 p3 p4 p5 = 
 bif decide (p5 < p0) then
 L_spec_l2All_6 n m0 n p0 p1 p2 p3 p4 p5 0
 else
 some (p4, ()) := by kernel_rfl
theorem e_spec_l2All_6 (n : Nat) (m0 m1 : Nat) (p0 p1 p2 : Int) (p3 p4 : List D_A3) (p5 p6 : Int) : L_spec_l2All_6 n m0 (m1 + 1) p0 p1 p2 p3 p4 p5 p6 = 
 bif decide (p6 < p1) then
 L_spec_l2All_9 n m0 m1 n p0 p1 p2 p3 p4 p5 p6 0
 else
 L_spec_l2All_3 n m0 p0 p1 p2 p3 p4 (IntKind.wrap .i64 (p5 + 1)) := by kernel_rfl
theorem e_spec_l2All_9 (n : Nat) (m0 m1 m2 : Nat) (p0 p1 p2 : Int) (p3 p4 : List D_A3) (p5 p6 p7 : Int) : L_spec_l2All_9 n m0 m1 (m2 + 1) p0 p1 p2 p3 p4 p5 p6 p7 = 
 bif decide (p7 < p2) then
 bif (decide (((List.length p4) + (List.length ([(p5, (p6, (p7, ())))] : List D_A3))) * 24 ≤ 140737488355328) && decide (((List.length p4) + (List.length ([(p5, (p6, (p7, ())))] : List D_A3))) ≤ 140737488355328)) then
 L_spec_l2All_9 n m0 m1 m2 p0 p1 p2 p3 (p4 ++ ([(p5, (p6, (p7, ())))] : List D_A3)) p5 p6 (IntKind.wrap .i64 (p7 + 1))
 else none
 else
 L_spec_l2All_6 n m0 m1 p0 p1 p2 p3 p4 p5 (IntKind.wrap .i64 (p6 + 1)) := by kernel_rfl
noncomputable def P_spec_l2All : Ft_spec_l2All := hid (runF (X_spec_l2All N) B_spec_l2All As_spec_l2All R_spec_l2All M_spec_l2All)
theorem h_spec_l2All : P_spec_l2All = runF (X_spec_l2All N) B_spec_l2All As_spec_l2All R_spec_l2All M_spec_l2All := hid_eq _
noncomputable def C_spec_l2All : Contract := ⟨As_spec_l2All, R_spec_l2All, M_spec_l2All, P_spec_l2All⟩
theorem s_spec_l2All : Sound Tryz.prog GG 103 C_spec_l2All := by
 unfold C_spec_l2All; rw [h_spec_l2All]
 exact sound_of_run (fn := Tryz.f103) hmix hstable (tyOK_of ttOK) (hglob (X_spec_l2All N)) (conOK_of (X := X_spec_l2All N) trivial) (mconOK_of (X := X_spec_l2All N) trivial) (by kernel_rfl) (by kernel_rfl) (by kernel_rfl) (by kernel_rfl) (by kernel_rfl) (of_decide_eq_true (by kernel_rfl))
noncomputable def l_spec_l2All_3 : Nat → Int → Int → Int → (List D_A3) → (List D_A3) → Int → Option (denL R_spec_l2All) := hid (fun m0 p0 p1 p2 p3 p4 p5 => L_spec_l2All_3 N m0 p0 p1 p2 p3 p4 p5)
theorem h_spec_l2All_3 : l_spec_l2All_3 = fun m0 p0 p1 p2 p3 p4 p5 => L_spec_l2All_3 N m0 p0 p1 p2 p3 p4 p5 := hid_eq _
noncomputable def l_spec_l2All_6 : Nat → Nat → Int → Int → Int → (List D_A3) → (List D_A3) → Int → Int → Option (denL R_spec_l2All) := hid (fun m0 m1 p0 p1 p2 p3 p4 p5 p6 => L_spec_l2All_6 N m0 m1 p0 p1 p2 p3 p4 p5 p6)
theorem h_spec_l2All_6 : l_spec_l2All_6 = fun m0 m1 p0 p1 p2 p3 p4 p5 p6 => L_spec_l2All_6 N m0 m1 p0 p1 p2 p3 p4 p5 p6 := hid_eq _
noncomputable def l_spec_l2All_9 : Nat → Nat → Nat → Int → Int → Int → (List D_A3) → (List D_A3) → Int → Int → Int → Option (denL R_spec_l2All) := hid (fun m0 m1 m2 p0 p1 p2 p3 p4 p5 p6 p7 => L_spec_l2All_9 N m0 m1 m2 p0 p1 p2 p3 p4 p5 p6 p7)
theorem h_spec_l2All_9 : l_spec_l2All_9 = fun m0 m1 m2 p0 p1 p2 p3 p4 p5 p6 p7 => L_spec_l2All_9 N m0 m1 m2 p0 p1 p2 p3 p4 p5 p6 p7 := hid_eq _
theorem p_spec_l2All (a0 : D_Heap) : P_spec_l2All (a0, ()) = 
 l_spec_l2All_3 N a0.1 a0.2.1 a0.2.2.1 a0.2.2.2.1 ([] : List D_A3) 0 := by
 rewrite [h_spec_l2All, h_spec_l2All_3]
 exact e_spec_l2All N a0
theorem q_spec_l2All_3 (m0 : Nat) (p0 p1 p2 : Int) (p3 p4 : List D_A3) (p5 : Int) : l_spec_l2All_3 (m0 + 1) p0 p1 p2 p3 p4 p5 = 
 bif decide (p5 < p0) then
 l_spec_l2All_6 m0 N p0 p1 p2 p3 p4 p5 0
 else
 some (p4, ()) := by
 rewrite [h_spec_l2All_3, h_spec_l2All_6]
 exact e_spec_l2All_3 N m0 p0 p1 p2 p3 p4 p5
theorem q_spec_l2All_6 (m0 m1 : Nat) (p0 p1 p2 : Int) (p3 p4 : List D_A3) (p5 p6 : Int) : l_spec_l2All_6 m0 (m1 + 1) p0 p1 p2 p3 p4 p5 p6 = 
 bif decide (p6 < p1) then
 l_spec_l2All_9 m0 m1 N p0 p1 p2 p3 p4 p5 p6 0
 else
 l_spec_l2All_3 m0 p0 p1 p2 p3 p4 (IntKind.wrap .i64 (p5 + 1)) := by
 rewrite [h_spec_l2All_3, h_spec_l2All_6, h_spec_l2All_9]
 exact e_spec_l2All_6 N m0 m1 p0 p1 p2 p3 p4 p5 p6
theorem q_spec_l2All_9 (m0 m1 m2 : Nat) (p0 p1 p2 : Int) (p3 p4 : List D_A3) (p5 p6 p7 : Int) : l_spec_l2All_9 m0 m1 (m2 + 1) p0 p1 p2 p3 p4 p5 p6 p7 = 
 bif decide (p7 < p2) then
 bif (decide (((List.length p4) + (List.length ([(p5, (p6, (p7, ())))] : List D_A3))) * 24 ≤ 140737488355328) && decide (((List.length p4) + (List.length ([(p5, (p6, (p7, ())))] : List D_A3))) ≤ 140737488355328)) then
 l_spec_l2All_9 m0 m1 m2 p0 p1 p2 p3 (p4 ++ ([(p5, (p6, (p7, ())))] : List D_A3)) p5 p6 (IntKind.wrap .i64 (p7 + 1))
 else none
 else
 l_spec_l2All_6 m0 m1 p0 p1 p2 p3 p4 p5 (IntKind.wrap .i64 (p6 + 1)) := by
 rewrite [h_spec_l2All_6, h_spec_l2All_9]
 exact e_spec_l2All_9 N m0 m1 m2 p0 p1 p2 p3 p4 p5 p6 p7

abbrev As_spec_l2Box : List ATy := [.data false (.int .i64), .data false (.int .i64), .data false (.int .i64)]
abbrev R_spec_l2Box : List (Bool × Ty) := [(true, T_Heap)]
abbrev M_spec_l2Box : List RMode := [.own 38]
abbrev Ft_spec_l2Box : Type := Int × Int × Int × Unit → Option (D_Heap × Unit)
noncomputable def X_spec_l2Box (n : Nat) (F_spec_l2Empty : Ft_spec_l2Empty) (F_spec_l2All : Ft_spec_l2All) : Ctx := { types := TT, globals := [], con := [(94, ⟨As_spec_l2Empty, R_spec_l2Empty, M_spec_l2Empty, F_spec_l2Empty⟩), (103, ⟨As_spec_l2All, R_spec_l2All, M_spec_l2All, F_spec_l2All⟩)], keep := [], results := [.cell 6 26], ntmps := 16, n := n }
noncomputable def B_spec_l2Box : Code := (Tryz.f68.body).getD .skip
theorem e_spec_l2Box (n : Nat) (F_spec_l2Empty : Ft_spec_l2Empty) (F_spec_l2All : Ft_spec_l2All) (a0 a1 a2 : Int) : runF (X_spec_l2Box n F_spec_l2Empty F_spec_l2All) B_spec_l2Box As_spec_l2Box R_spec_l2Box M_spec_l2Box (a0, a1, a2, ()) = 
 Option.bind (F_spec_l2Empty (a0, a1, a2, ())) fun r0 =>
 Option.bind (F_spec_l2All (r0.1, ())) fun r1 =>
 some ((r0.1.1, (r0.1.2.1, (r0.1.2.2.1, (r1.1, ())))), ()) := by kernel_rfl
noncomputable def P_spec_l2Box : Ft_spec_l2Box := hid (runF (X_spec_l2Box N P_spec_l2Empty P_spec_l2All) B_spec_l2Box As_spec_l2Box R_spec_l2Box M_spec_l2Box)
theorem h_spec_l2Box : P_spec_l2Box = runF (X_spec_l2Box N P_spec_l2Empty P_spec_l2All) B_spec_l2Box As_spec_l2Box R_spec_l2Box M_spec_l2Box := hid_eq _
noncomputable def C_spec_l2Box : Contract := ⟨As_spec_l2Box, R_spec_l2Box, M_spec_l2Box, P_spec_l2Box⟩
theorem s_spec_l2Box : Sound Tryz.prog GG 68 C_spec_l2Box := by
 unfold C_spec_l2Box; rw [h_spec_l2Box]
 exact sound_of_run (fn := Tryz.f68) hmix hstable (tyOK_of ttOK) (hglob (X_spec_l2Box N P_spec_l2Empty P_spec_l2All)) (conOK_of (X := X_spec_l2Box N P_spec_l2Empty P_spec_l2All) ⟨s_spec_l2Empty, s_spec_l2All, trivial⟩) (mconOK_of (X := X_spec_l2Box N P_spec_l2Empty P_spec_l2All) trivial) (by kernel_rfl) (by kernel_rfl) (by kernel_rfl) (by kernel_rfl) (by kernel_rfl) (of_decide_eq_true (by kernel_rfl))
theorem p_spec_l2Box (a0 a1 a2 : Int) : P_spec_l2Box (a0, a1, a2, ()) = 
 Option.bind (P_spec_l2Empty (a0, a1, a2, ())) fun r0 =>
 Option.bind (P_spec_l2All (r0.1, ())) fun r1 =>
 some ((r0.1.1, (r0.1.2.1, (r0.1.2.2.1, (r1.1, ())))), ()) := by
 rewrite [h_spec_l2Box]
 exact e_spec_l2Box N P_spec_l2Empty P_spec_l2All a0 a1 a2

abbrev As_l1Cur_among : List ATy := [.lptr T_l1Cur, .data false (.sl (.int .i64))]
abbrev R_l1Cur_among : List (Bool × Ty) := [(false, (.int .i64))]
abbrev M_l1Cur_among : List RMode := []
abbrev Ft_l1Cur_among : Type := D_l1Cur × (List Int) × Unit → Option ((Int × Unit) × (D_l1Cur × Unit))
noncomputable def X_l1Cur_among (n : Nat) (F_l1Cur_pick : Ft_l1Cur_pick) : Ctx := { types := TT, globals := [], con := [], mcon := [(85, ⟨As_l1Cur_pick, R_l1Cur_pick, M_l1Cur_pick, F_l1Cur_pick⟩)], keep := [], results := [.tmp 4], ntmps := 12, n := n }
noncomputable def B_l1Cur_among : Code := (Tryz.f88.body).getD .skip
theorem e_l1Cur_among (n : Nat) (F_l1Cur_pick : Ft_l1Cur_pick) (a0 : D_l1Cur) (a1 : List Int) : runFM (X_l1Cur_among n F_l1Cur_pick) B_l1Cur_among As_l1Cur_among R_l1Cur_among M_l1Cur_among (a0, a1, ()) = 
 Option.bind (F_l1Cur_pick (a0, (List.length a1 : Int), ())) fun r0 =>
 bif inB r0.1.1 (List.length a1) then
 some (((nth ((.int .i64) : Ty) a1 r0.1.1), ()), ((a0.1, r0.2.1.2), ()))
 else none := by kernel_rfl
noncomputable def P_l1Cur_among : Ft_l1Cur_among := hid (runFM (X_l1Cur_among N P_l1Cur_pick) B_l1Cur_among As_l1Cur_among R_l1Cur_among M_l1Cur_among)
theorem h_l1Cur_among : P_l1Cur_among = runFM (X_l1Cur_among N P_l1Cur_pick) B_l1Cur_among As_l1Cur_among R_l1Cur_among M_l1Cur_among := hid_eq _
noncomputable def C_l1Cur_among : MContract := ⟨As_l1Cur_among, R_l1Cur_among, M_l1Cur_among, P_l1Cur_among⟩
theorem s_l1Cur_among : SoundM Tryz.prog n0 GG 88 C_l1Cur_among := by
 unfold C_l1Cur_among; rw [h_l1Cur_among]
 exact sound_of_runM (fn := Tryz.f88) hmix hstable (tyOK_of ttOK) (hglob (X_l1Cur_among N P_l1Cur_pick)) (conOK_of (X := X_l1Cur_among N P_l1Cur_pick) trivial) (mconOK_of (X := X_l1Cur_among N P_l1Cur_pick) ⟨s_l1Cur_pick, trivial⟩) (by kernel_rfl) (by kernel_rfl) (by kernel_rfl) (by kernel_rfl) (by kernel_rfl) (of_decide_eq_true (by kernel_rfl)) (by kernel_rfl) (by rfl)
theorem p_l1Cur_among (a0 : D_l1Cur) (a1 : List Int) : P_l1Cur_among (a0, a1, ()) = 
 Option.bind (P_l1Cur_pick (a0, (List.length a1 : Int), ())) fun r0 =>
 bif inB r0.1.1 (List.length a1) then
 some (((nth ((.int .i64) : Ty) a1 r0.1.1), ()), ((a0.1, r0.2.1.2), ()))
 else none := by
 rewrite [h_l1Cur_among]
 exact e_l1Cur_among N P_l1Cur_pick a0 a1

abbrev As_l1Cur_sides : List ATy := [.lptr T_l1Cur]
abbrev R_l1Cur_sides : List (Bool × Ty) := [(false, (.int .i64)), (false, (.int .i64)), (false, (.int .i64))]
abbrev M_l1Cur_sides : List RMode := []
abbrev Ft_l1Cur_sides : Type := D_l1Cur × Unit → Option ((Int × Int × Int × Unit) × (D_l1Cur × Unit))
noncomputable def X_l1Cur_sides (n : Nat) (F_l1Cur_pick : Ft_l1Cur_pick) (F_l1Cur_among : Ft_l1Cur_among) : Ctx := { types := TT, globals := [], con := [], mcon := [(85, ⟨As_l1Cur_pick, R_l1Cur_pick, M_l1Cur_pick, F_l1Cur_pick⟩), (88, ⟨As_l1Cur_among, R_l1Cur_among, M_l1Cur_among, F_l1Cur_among⟩)], keep := [], results := [.tmp 2, .tmp 3, .tmp 4], ntmps := 37, n := n }
noncomputable def B_l1Cur_sides : Code := (Tryz.f100.body).getD .skip
theorem e_l1Cur_sides (n : Nat) (F_l1Cur_pick : Ft_l1Cur_pick) (F_l1Cur_among : Ft_l1Cur_among) (a0 : D_l1Cur) : runFM (X_l1Cur_sides n F_l1Cur_pick F_l1Cur_among) B_l1Cur_sides As_l1Cur_sides R_l1Cur_sides M_l1Cur_sides (a0, ()) = 
 Option.bind (F_l1Cur_among (a0, ([2, 3, 3, 1, 4] : List Int), ())) fun r0 =>
 Option.bind (F_l1Cur_among ((a0.1, r0.2.1.2), ([2, 3, 2, 1, 4] : List Int), ())) fun r1 =>
 Option.bind (F_l1Cur_among ((a0.1, r1.2.1.2), ([2, 3, 3, 1, 4] : List Int), ())) fun r2 =>
 Option.bind (F_l1Cur_pick ((a0.1, r2.2.1.2), 60, ())) fun r3 =>
 bif decide (r3.1.1 = 0) then
 Option.bind (F_l1Cur_among ((a0.1, r3.2.1.2), ([0, 5, (-1), 4611686018427387904] : List Int), ())) fun r5 =>
 some ((r5.1.1, r1.1.1, r2.1.1, ()), ((a0.1, r5.2.1.2), ()))
 else
 bif decide (r3.1.1 = 1) then
 Option.bind (F_l1Cur_among ((a0.1, r3.2.1.2), ([0, 5, (-1)] : List Int), ())) fun r6 =>
 some ((r0.1.1, r6.1.1, r2.1.1, ()), ((a0.1, r6.2.1.2), ()))
 else
 bif decide (r3.1.1 = 2) then
 Option.bind (F_l1Cur_among ((a0.1, r3.2.1.2), ([0, 5, (-1)] : List Int), ())) fun r7 =>
 some ((r0.1.1, r1.1.1, r7.1.1, ()), ((a0.1, r7.2.1.2), ()))
 else
 some ((r0.1.1, r1.1.1, r2.1.1, ()), ((a0.1, r3.2.1.2), ())) := by kernel_rfl
noncomputable def P_l1Cur_sides : Ft_l1Cur_sides := hid (runFM (X_l1Cur_sides N P_l1Cur_pick P_l1Cur_among) B_l1Cur_sides As_l1Cur_sides R_l1Cur_sides M_l1Cur_sides)
theorem h_l1Cur_sides : P_l1Cur_sides = runFM (X_l1Cur_sides N P_l1Cur_pick P_l1Cur_among) B_l1Cur_sides As_l1Cur_sides R_l1Cur_sides M_l1Cur_sides := hid_eq _
noncomputable def C_l1Cur_sides : MContract := ⟨As_l1Cur_sides, R_l1Cur_sides, M_l1Cur_sides, P_l1Cur_sides⟩
theorem s_l1Cur_sides : SoundM Tryz.prog n0 GG 100 C_l1Cur_sides := by
 unfold C_l1Cur_sides; rw [h_l1Cur_sides]
 exact sound_of_runM (fn := Tryz.f100) hmix hstable (tyOK_of ttOK) (hglob (X_l1Cur_sides N P_l1Cur_pick P_l1Cur_among)) (conOK_of (X := X_l1Cur_sides N P_l1Cur_pick P_l1Cur_among) trivial) (mconOK_of (X := X_l1Cur_sides N P_l1Cur_pick P_l1Cur_among) ⟨s_l1Cur_pick, s_l1Cur_among, trivial⟩) (by kernel_rfl) (by kernel_rfl) (by kernel_rfl) (by kernel_rfl) (by kernel_rfl) (of_decide_eq_true (by kernel_rfl)) (by kernel_rfl) (by rfl)
theorem p_l1Cur_sides (a0 : D_l1Cur) : P_l1Cur_sides (a0, ()) = 
 Option.bind (P_l1Cur_among (a0, ([2, 3, 3, 1, 4] : List Int), ())) fun r0 =>
 Option.bind (P_l1Cur_among ((a0.1, r0.2.1.2), ([2, 3, 2, 1, 4] : List Int), ())) fun r1 =>
 Option.bind (P_l1Cur_among ((a0.1, r1.2.1.2), ([2, 3, 3, 1, 4] : List Int), ())) fun r2 =>
 Option.bind (P_l1Cur_pick ((a0.1, r2.2.1.2), 60, ())) fun r3 =>
 bif decide (r3.1.1 = 0) then
 Option.bind (P_l1Cur_among ((a0.1, r3.2.1.2), ([0, 5, (-1), 4611686018427387904] : List Int), ())) fun r5 =>
 some ((r5.1.1, r1.1.1, r2.1.1, ()), ((a0.1, r5.2.1.2), ()))
 else
 bif decide (r3.1.1 = 1) then
 Option.bind (P_l1Cur_among ((a0.1, r3.2.1.2), ([0, 5, (-1)] : List Int), ())) fun r6 =>
 some ((r0.1.1, r6.1.1, r2.1.1, ()), ((a0.1, r6.2.1.2), ()))
 else
 bif decide (r3.1.1 = 2) then
 Option.bind (P_l1Cur_among ((a0.1, r3.2.1.2), ([0, 5, (-1)] : List Int), ())) fun r7 =>
 some ((r0.1.1, r1.1.1, r7.1.1, ()), ((a0.1, r7.2.1.2), ()))
 else
 some ((r0.1.1, r1.1.1, r2.1.1, ()), ((a0.1, r3.2.1.2), ())) := by
 rewrite [h_l1Cur_sides]
 exact e_l1Cur_sides N P_l1Cur_pick P_l1Cur_among a0

abbrev As_spec_l1In : List ATy := [.data false (.int .i64), .data false (.int .i64), .data false (.int .i64)]
abbrev R_spec_l1In : List (Bool × Ty) := [(false, .bool)]
abbrev M_spec_l1In : List RMode := []
abbrev Ft_spec_l1In : Type := Int × Int × Int × Unit → Option (Bool × Unit)
noncomputable def X_spec_l1In (n : Nat) : Ctx := { types := TT, globals := [], con := [], keep := [], results := [.tmp 6], ntmps := 15, n := n }
noncomputable def B_spec_l1In : Code := (Tryz.f102.body).getD .skip
theorem e_spec_l1In (n : Nat) (a0 a1 a2 : Int) : runF (X_spec_l1In n) B_spec_l1In As_spec_l1In R_spec_l1In M_spec_l1In (a0, a1, a2, ()) = 
 bif decide (a0 ≥ a1) then
 some (decide (a0 ≤ a2), ())
 else
 some (false, ()) := by kernel_rfl
noncomputable def P_spec_l1In : Ft_spec_l1In := hid (runF (X_spec_l1In N) B_spec_l1In As_spec_l1In R_spec_l1In M_spec_l1In)
theorem h_spec_l1In : P_spec_l1In = runF (X_spec_l1In N) B_spec_l1In As_spec_l1In R_spec_l1In M_spec_l1In := hid_eq _
noncomputable def C_spec_l1In : Contract := ⟨As_spec_l1In, R_spec_l1In, M_spec_l1In, P_spec_l1In⟩
theorem s_spec_l1In : Sound Tryz.prog GG 102 C_spec_l1In := by
 unfold C_spec_l1In; rw [h_spec_l1In]
 exact sound_of_run (fn := Tryz.f102) hmix hstable (tyOK_of ttOK) (hglob (X_spec_l1In N)) (conOK_of (X := X_spec_l1In N) trivial) (mconOK_of (X := X_spec_l1In N) trivial) (by kernel_rfl) (by kernel_rfl) (by kernel_rfl) (by kernel_rfl) (by kernel_rfl) (of_decide_eq_true (by kernel_rfl))
theorem p_spec_l1In (a0 a1 a2 : Int) : P_spec_l1In (a0, a1, a2, ()) = 
 bif decide (a0 ≥ a1) then
 some (decide (a0 ≤ a2), ())
 else
 some (false, ()) := by
 rewrite [h_spec_l1In]
 exact e_spec_l1In N a0 a1 a2

abbrev As_spec_l2Sides : List ATy := [.data false (.int .i64), .data false (.int .i64), .data false (.int .i64)]
abbrev R_spec_l2Sides : List (Bool × Ty) := [(false, .bool)]
abbrev M_spec_l2Sides : List RMode := []
abbrev Ft_spec_l2Sides : Type := Int × Int × Int × Unit → Option (Bool × Unit)
noncomputable def X_spec_l2Sides (n : Nat) (F_spec_l1In : Ft_spec_l1In) : Ctx := { types := TT, globals := [], con := [(102, ⟨As_spec_l1In, R_spec_l1In, M_spec_l1In, F_spec_l1In⟩)], keep := [], results := [.tmp 6], ntmps := 17, n := n }
noncomputable def B_spec_l2Sides : Code := (Tryz.f67.body).getD .skip
theorem e_spec_l2Sides (n : Nat) (F_spec_l1In : Ft_spec_l1In) (a0 a1 a2 : Int) : runF (X_spec_l2Sides n F_spec_l1In) B_spec_l2Sides As_spec_l2Sides R_spec_l2Sides M_spec_l2Sides (a0, a1, a2, ()) = 
 Option.bind (F_spec_l1In (a0, 1, 4, ())) fun r0 =>
 bif r0.1 then
 Option.bind (F_spec_l1In (a1, 1, 4, ())) fun r2 =>
 bif r2.1 then
 Option.bind (F_spec_l1In (a2, 1, 4, ())) fun r4 =>
 some (r4.1, ())
 else
 some (false, ())
 else
 some (false, ()) := by kernel_rfl
noncomputable def P_spec_l2Sides : Ft_spec_l2Sides := hid (runF (X_spec_l2Sides N P_spec_l1In) B_spec_l2Sides As_spec_l2Sides R_spec_l2Sides M_spec_l2Sides)
theorem h_spec_l2Sides : P_spec_l2Sides = runF (X_spec_l2Sides N P_spec_l1In) B_spec_l2Sides As_spec_l2Sides R_spec_l2Sides M_spec_l2Sides := hid_eq _
noncomputable def C_spec_l2Sides : Contract := ⟨As_spec_l2Sides, R_spec_l2Sides, M_spec_l2Sides, P_spec_l2Sides⟩
theorem s_spec_l2Sides : Sound Tryz.prog GG 67 C_spec_l2Sides := by
 unfold C_spec_l2Sides; rw [h_spec_l2Sides]
 exact sound_of_run (fn := Tryz.f67) hmix hstable (tyOK_of ttOK) (hglob (X_spec_l2Sides N P_spec_l1In)) (conOK_of (X := X_spec_l2Sides N P_spec_l1In) ⟨s_spec_l1In, trivial⟩) (mconOK_of (X := X_spec_l2Sides N P_spec_l1In) trivial) (by kernel_rfl) (by kernel_rfl) (by kernel_rfl) (by kernel_rfl) (by kernel_rfl) (of_decide_eq_true (by kernel_rfl))
theorem p_spec_l2Sides (a0 a1 a2 : Int) : P_spec_l2Sides (a0, a1, a2, ()) = 
 Option.bind (P_spec_l1In (a0, 1, 4, ())) fun r0 =>
 bif r0.1 then
 Option.bind (P_spec_l1In (a1, 1, 4, ())) fun r2 =>
 bif r2.1 then
 Option.bind (P_spec_l1In (a2, 1, 4, ())) fun r4 =>
 some (r4.1, ())
 else
 some (false, ())
 else
 some (false, ()) := by
 rewrite [h_spec_l2Sides]
 exact e_spec_l2Sides N P_spec_l1In a0 a1 a2

abbrev As_spec_l2In : List ATy := [.data true T_Heap, .data true T_A3]
abbrev R_spec_l2In : List (Bool × Ty) := [(false, .bool)]
abbrev M_spec_l2In : List RMode := []
abbrev Ft_spec_l2In : Type := D_Heap × D_A3 × Unit → Option (Bool × Unit)
noncomputable def X_spec_l2In (n : Nat) (F_spec_l1In : Ft_spec_l1In) : Ctx := { types := TT, globals := [], con := [(102, ⟨As_spec_l1In, R_spec_l1In, M_spec_l1In, F_spec_l1In⟩)], keep := [], results := [.tmp 4], ntmps := 27, n := n }
noncomputable def B_spec_l2In : Code := (Tryz.f91.body).getD .skip
theorem e_spec_l2In (n : Nat) (F_spec_l1In : Ft_spec_l1In) (a0 : D_Heap) (a1 : D_A3) : runF (X_spec_l2In n F_spec_l1In) B_spec_l2In As_spec_l2In R_spec_l2In M_spec_l2In (a0, a1, ()) = 
 Option.bind (F_spec_l1In (a1.1, 0, (IntKind.wrap .i64 (a0.1 - 1)), ())) fun r0 =>
 bif r0.1 then
 Option.bind (F_spec_l1In (a1.2.1, 0, (IntKind.wrap .i64 (a0.2.1 - 1)), ())) fun r2 =>
 bif r2.1 then
 Option.bind (F_spec_l1In (a1.2.2.1, 0, (IntKind.wrap .i64 (a0.2.2.1 - 1)), ())) fun r4 =>
 some (r4.1, ())
 else
 some (false, ())
 else
 some (false, ()) := by kernel_rfl
noncomputable def P_spec_l2In : Ft_spec_l2In := hid (runF (X_spec_l2In N P_spec_l1In) B_spec_l2In As_spec_l2In R_spec_l2In M_spec_l2In)
theorem h_spec_l2In : P_spec_l2In = runF (X_spec_l2In N P_spec_l1In) B_spec_l2In As_spec_l2In R_spec_l2In M_spec_l2In := hid_eq _
noncomputable def C_spec_l2In : Contract := ⟨As_spec_l2In, R_spec_l2In, M_spec_l2In, P_spec_l2In⟩
theorem s_spec_l2In : Sound Tryz.prog GG 91 C_spec_l2In := by
 unfold C_spec_l2In; rw [h_spec_l2In]
 exact sound_of_run (fn := Tryz.f91) hmix hstable (tyOK_of ttOK) (hglob (X_spec_l2In N P_spec_l1In)) (conOK_of (X := X_spec_l2In N P_spec_l1In) ⟨s_spec_l1In, trivial⟩) (mconOK_of (X := X_spec_l2In N P_spec_l1In) trivial) (by kernel_rfl) (by kernel_rfl) (by kernel_rfl) (by kernel_rfl) (by kernel_rfl) (of_decide_eq_true (by kernel_rfl))
theorem p_spec_l2In (a0 : D_Heap) (a1 : D_A3) : P_spec_l2In (a0, a1, ()) = 
 Option.bind (P_spec_l1In (a1.1, 0, (IntKind.wrap .i64 (a0.1 - 1)), ())) fun r0 =>
 bif r0.1 then
 Option.bind (P_spec_l1In (a1.2.1, 0, (IntKind.wrap .i64 (a0.2.1 - 1)), ())) fun r2 =>
 bif r2.1 then
 Option.bind (P_spec_l1In (a1.2.2.1, 0, (IntKind.wrap .i64 (a0.2.2.1 - 1)), ())) fun r4 =>
 some (r4.1, ())
 else
 some (false, ())
 else
 some (false, ()) := by
 rewrite [h_spec_l2In]
 exact e_spec_l2In N P_spec_l1In a0 a1

abbrev As_spec_l2Before : List ATy := [.data true T_A3, .data true T_A3]
abbrev R_spec_l2Before : List (Bool × Ty) := [(false, .bool)]
abbrev M_spec_l2Before : List RMode := []
abbrev Ft_spec_l2Before : Type := D_A3 × D_A3 × Unit → Option (Bool × Unit)
noncomputable def X_spec_l2Before (n : Nat) : Ctx := { types := TT, globals := [], con := [], keep := [(2, ⟨[.box 2, .box 3, .tmp 2, .tmp 3, .tmp 5], []⟩)], results := [.tmp 4], ntmps := 24, n := n }
noncomputable def B_spec_l2Before : Code := (Tryz.f92.body).getD .skip
noncomputable def L_spec_l2Before_2 (n m0 : Nat) (p0 p1 : Int) (p2 p3 : Int) (p4 p5 p6 : Int) : Option (denL R_spec_l2Before) := loopF (X_spec_l2Before n) B_spec_l2Before R_spec_l2Before M_spec_l2Before 2 [m0] [(.ver, .num 1), (.box 2, .box 0 false [.int .i64 p0, .int .i64 p1, .int .i64 p2]), (.box 3, .box 0 false [.int .i64 p3, .int .i64 p4, .int .i64 p5]), (.tmp 2, .val false [.addr 2 0 0]), (.tmp 3, .val false [.addr 3 0 0]), (.tmp 5, .val false [.int .i64 p6])]
theorem e_spec_l2Before (n : Nat) (a0 a1 : D_A3) : runF (X_spec_l2Before n) B_spec_l2Before As_spec_l2Before R_spec_l2Before M_spec_l2Before (a0, a1, ()) = 
 L_spec_l2Before_2 n n a0.1 a0.2.1 a0.2.2.1 a1.1 a1.2.1 a1.2.2.1 0 := by kernel_rfl
theorem e_spec_l2Before_2 (n m0 : Nat) (p0 p1 : Int) (p2 p3 : Int) (p4 p5 p6 : Int) : L_spec_l2Before_2 n (m0 + 1) p0 p1 p2 p3 p4 p5 p6 = 
 bif decide (p6 < 3) then
 bif inB p6 3 then
 bif inB p6 3 then
 bif !decide ((bif decide (p6 = (0 : Int)) then p0 else (bif decide (p6 = (1 : Int)) then p1 else p2)) = (bif decide (p6 = (0 : Int)) then p3 else (bif decide (p6 = (1 : Int)) then p4 else p5))) then
 bif inB p6 3 then
 bif inB p6 3 then
 some (decide ((bif decide (p6 = (0 : Int)) then p0 else (bif decide (p6 = (1 : Int)) then p1 else p2)) < (bif decide (p6 = (0 : Int)) then p3 else (bif decide (p6 = (1 : Int)) then p4 else p5))), ())
 else none
 else none
 else
 L_spec_l2Before_2 n m0 p0 p1 p2 p3 p4 p5 (IntKind.wrap .i64 (p6 + 1))
 else none
 else none
 else
 some (false, ()) := by kernel_rfl
noncomputable def P_spec_l2Before : Ft_spec_l2Before := hid (runF (X_spec_l2Before N) B_spec_l2Before As_spec_l2Before R_spec_l2Before M_spec_l2Before)
theorem h_spec_l2Before : P_spec_l2Before = runF (X_spec_l2Before N) B_spec_l2Before As_spec_l2Before R_spec_l2Before M_spec_l2Before := hid_eq _
noncomputable def C_spec_l2Before : Contract := ⟨As_spec_l2Before, R_spec_l2Before, M_spec_l2Before, P_spec_l2Before⟩
theorem s_spec_l2Before : Sound Tryz.prog GG 92 C_spec_l2Before := by
 unfold C_spec_l2Before; rw [h_spec_l2Before]
 exact sound_of_run (fn := Tryz.f92) hmix hstable (tyOK_of ttOK) (hglob (X_spec_l2Before N)) (conOK_of (X := X_spec_l2Before N) trivial) (mconOK_of (X := X_spec_l2Before N) trivial) (by kernel_rfl) (by kernel_rfl) (by kernel_rfl) (by kernel_rfl) (by kernel_rfl) (of_decide_eq_true (by kernel_rfl))
noncomputable def l_spec_l2Before_2 : Nat → Int → Int → Int → Int → Int → Int → Int → Option (denL R_spec_l2Before) := hid (fun m0 p0 p1 p2 p3 p4 p5 p6 => L_spec_l2Before_2 N m0 p0 p1 p2 p3 p4 p5 p6)
theorem h_spec_l2Before_2 : l_spec_l2Before_2 = fun m0 p0 p1 p2 p3 p4 p5 p6 => L_spec_l2Before_2 N m0 p0 p1 p2 p3 p4 p5 p6 := hid_eq _
theorem p_spec_l2Before (a0 a1 : D_A3) : P_spec_l2Before (a0, a1, ()) = 
 l_spec_l2Before_2 N a0.1 a0.2.1 a0.2.2.1 a1.1 a1.2.1 a1.2.2.1 0 := by
 rewrite [h_spec_l2Before, h_spec_l2Before_2]
 exact e_spec_l2Before N a0 a1
theorem q_spec_l2Before_2 (m0 : Nat) (p0 p1 : Int) (p2 p3 : Int) (p4 p5 p6 : Int) : l_spec_l2Before_2 (m0 + 1) p0 p1 p2 p3 p4 p5 p6 = 
 bif decide (p6 < 3) then
 bif inB p6 3 then
 bif inB p6 3 then
 bif !decide ((bif decide (p6 = (0 : Int)) then p0 else (bif decide (p6 = (1 : Int)) then p1 else p2)) = (bif decide (p6 = (0 : Int)) then p3 else (bif decide (p6 = (1 : Int)) then p4 else p5))) then
 bif inB p6 3 then
 bif inB p6 3 then
 some (decide ((bif decide (p6 = (0 : Int)) then p0 else (bif decide (p6 = (1 : Int)) then p1 else p2)) < (bif decide (p6 = (0 : Int)) then p3 else (bif decide (p6 = (1 : Int)) then p4 else p5))), ())
 else none
 else none
 else
 l_spec_l2Before_2 m0 p0 p1 p2 p3 p4 p5 (IntKind.wrap .i64 (p6 + 1))
 else none
 else none
 else
 some (false, ()) := by
 rewrite [h_spec_l2Before_2]
 exact e_spec_l2Before_2 N m0 p0 p1 p2 p3 p4 p5 p6

abbrev As_spec_l2Heap : List ATy := [.data true T_Heap]
abbrev R_spec_l2Heap : List (Bool × Ty) := [(false, .bool)]
abbrev M_spec_l2Heap : List RMode := []
abbrev Ft_spec_l2Heap : Type := D_Heap × Unit → Option (Bool × Unit)
noncomputable def X_spec_l2Heap (n : Nat) (F_spec_l2Sides : Ft_spec_l2Sides) (F_spec_l2In : Ft_spec_l2In) (F_spec_l2Before : Ft_spec_l2Before) : Ctx := { types := TT, globals := [], con := [(67, ⟨As_spec_l2Sides, R_spec_l2Sides, M_spec_l2Sides, F_spec_l2Sides⟩), (91, ⟨As_spec_l2In, R_spec_l2In, M_spec_l2In, F_spec_l2In⟩), (92, ⟨As_spec_l2Before, R_spec_l2Before, M_spec_l2Before, F_spec_l2Before⟩)], keep := [(4, ⟨[.box 1, .tmp 1, .tmp 3], []⟩)], results := [.tmp 2], ntmps := 46, n := n }
noncomputable def B_spec_l2Heap : Code := (Tryz.f48.body).getD .skip
noncomputable def L_spec_l2Heap_4 (n : Nat) (F_spec_l2Sides : Ft_spec_l2Sides) (F_spec_l2In : Ft_spec_l2In) (F_spec_l2Before : Ft_spec_l2Before) (m0 : Nat) (p0 p1 p2 : Int) (p3 : List D_A3) (p4 : Int) : Option (denL R_spec_l2Heap) := loopF (X_spec_l2Heap n F_spec_l2Sides F_spec_l2In F_spec_l2Before) B_spec_l2Heap R_spec_l2Heap M_spec_l2Heap 4 [m0] [(.ver, .num 1), (.box 1, .box 0 false [.int .i64 p0, .int .i64 p1, .int .i64 p2, .imm T_A3 p3 (some 3)]), (.tmp 1, .val false [.addr 1 0 0]), (.tmp 3, .val false [.int .i64 p4])]
theorem e_spec_l2Heap (n : Nat) (F_spec_l2Sides : Ft_spec_l2Sides) (F_spec_l2In : Ft_spec_l2In) (F_spec_l2Before : Ft_spec_l2Before) (a0 : D_Heap) : runF (X_spec_l2Heap n F_spec_l2Sides F_spec_l2In F_spec_l2Before) B_spec_l2Heap As_spec_l2Heap R_spec_l2Heap M_spec_l2Heap (a0, ()) = 
 Option.bind (F_spec_l2Sides (a0.1, a0.2.1, a0.2.2.1, ())) fun r0 =>
 bif !r0.1 then
 some (false, ())
 else
 L_spec_l2Heap_4 n F_spec_l2Sides F_spec_l2In F_spec_l2Before n a0.1 a0.2.1 a0.2.2.1 a0.2.2.2.1 0 := by kernel_rfl
theorem e_spec_l2Heap_4 (n : Nat) (F_spec_l2Sides : Ft_spec_l2Sides) (F_spec_l2In : Ft_spec_l2In) (F_spec_l2Before : Ft_spec_l2Before) (m0 : Nat) (p0 p1 p2 : Int) (p3 : List D_A3) (p4 : Int) : L_spec_l2Heap_4 n F_spec_l2Sides F_spec_l2In F_spec_l2Before (m0 + 1) p0 p1 p2 p3 p4 = 
 bif decide (p4 < (List.length p3 : Int)) then
 bif inB p4 (List.length p3) then
 Option.bind (F_spec_l2In ((p0, (p1, (p2, (p3, ())))), (nth T_A3 p3 p4), ())) fun r2 =>
 bif !r2.1 then
 some (false, ())
 else
 bif decide (p4 > 0) then
 bif inB (IntKind.wrap .i64 (p4 - 1)) (List.length p3) then
 bif inB p4 (List.length p3) then
 Option.bind (F_spec_l2Before ((nth T_A3 p3 (IntKind.wrap .i64 (p4 - 1))), (nth T_A3 p3 p4), ())) fun r7 =>
 bif !r7.1 then
 some (false, ())
 else
 L_spec_l2Heap_4 n F_spec_l2Sides F_spec_l2In F_spec_l2Before m0 p0 p1 p2 p3 (IntKind.wrap .i64 (p4 + 1))
 else none
 else none
 else
 L_spec_l2Heap_4 n F_spec_l2Sides F_spec_l2In F_spec_l2Before m0 p0 p1 p2 p3 (IntKind.wrap .i64 (p4 + 1))
 else none
 else
 some (true, ()) := by kernel_rfl
noncomputable def P_spec_l2Heap : Ft_spec_l2Heap := hid (runF (X_spec_l2Heap N P_spec_l2Sides P_spec_l2In P_spec_l2Before) B_spec_l2Heap As_spec_l2Heap R_spec_l2Heap M_spec_l2Heap)
theorem h_spec_l2Heap : P_spec_l2Heap = runF (X_spec_l2Heap N P_spec_l2Sides P_spec_l2In P_spec_l2Before) B_spec_l2Heap As_spec_l2Heap R_spec_l2Heap M_spec_l2Heap := hid_eq _
noncomputable def C_spec_l2Heap : Contract := ⟨As_spec_l2Heap, R_spec_l2Heap, M_spec_l2Heap, P_spec_l2Heap⟩
theorem s_spec_l2Heap : Sound Tryz.prog GG 48 C_spec_l2Heap := by
 unfold C_spec_l2Heap; rw [h_spec_l2Heap]
 exact sound_of_run (fn := Tryz.f48) hmix hstable (tyOK_of ttOK) (hglob (X_spec_l2Heap N P_spec_l2Sides P_spec_l2In P_spec_l2Before)) (conOK_of (X := X_spec_l2Heap N P_spec_l2Sides P_spec_l2In P_spec_l2Before) ⟨s_spec_l2Sides, s_spec_l2In, s_spec_l2Before, trivial⟩) (mconOK_of (X := X_spec_l2Heap N P_spec_l2Sides P_spec_l2In P_spec_l2Before) trivial) (by kernel_rfl) (by kernel_rfl) (by kernel_rfl) (by kernel_rfl) (by kernel_rfl) (of_decide_eq_true (by kernel_rfl))
noncomputable def l_spec_l2Heap_4 : Nat → Int → Int → Int → (List D_A3) → Int → Option (denL R_spec_l2Heap) := hid (fun m0 p0 p1 p2 p3 p4 => L_spec_l2Heap_4 N P_spec_l2Sides P_spec_l2In P_spec_l2Before m0 p0 p1 p2 p3 p4)
theorem h_spec_l2Heap_4 : l_spec_l2Heap_4 = fun m0 p0 p1 p2 p3 p4 => L_spec_l2Heap_4 N P_spec_l2Sides P_spec_l2In P_spec_l2Before m0 p0 p1 p2 p3 p4 := hid_eq _
theorem p_spec_l2Heap (a0 : D_Heap) : P_spec_l2Heap (a0, ()) = 
 Option.bind (P_spec_l2Sides (a0.1, a0.2.1, a0.2.2.1, ())) fun r0 =>
 bif !r0.1 then
 some (false, ())
 else
 l_spec_l2Heap_4 N a0.1 a0.2.1 a0.2.2.1 a0.2.2.2.1 0 := by
 rewrite [h_spec_l2Heap, h_spec_l2Heap_4]
 exact e_spec_l2Heap N P_spec_l2Sides P_spec_l2In P_spec_l2Before a0
theorem q_spec_l2Heap_4 (m0 : Nat) (p0 p1 p2 : Int) (p3 : List D_A3) (p4 : Int) : l_spec_l2Heap_4 (m0 + 1) p0 p1 p2 p3 p4 = 
 bif decide (p4 < (List.length p3 : Int)) then
 bif inB p4 (List.length p3) then
 Option.bind (P_spec_l2In ((p0, (p1, (p2, (p3, ())))), (nth T_A3 p3 p4), ())) fun r2 =>
 bif !r2.1 then
 some (false, ())
 else
 bif decide (p4 > 0) then
 bif inB (IntKind.wrap .i64 (p4 - 1)) (List.length p3) then
 bif inB p4 (List.length p3) then
 Option.bind (P_spec_l2Before ((nth T_A3 p3 (IntKind.wrap .i64 (p4 - 1))), (nth T_A3 p3 p4), ())) fun r7 =>
 bif !r7.1 then
 some (false, ())
 else
 l_spec_l2Heap_4 m0 p0 p1 p2 p3 (IntKind.wrap .i64 (p4 + 1))
 else none
 else none
 else
 l_spec_l2Heap_4 m0 p0 p1 p2 p3 (IntKind.wrap .i64 (p4 + 1))
 else none
 else
 some (true, ()) := by
 rewrite [h_spec_l2Heap_4]
 exact e_spec_l2Heap_4 N P_spec_l2Sides P_spec_l2In P_spec_l2Before m0 p0 p1 p2 p3 p4

abbrev As_spec_l2Has : List ATy := [.data true T_Heap, .data true T_A3]
abbrev R_spec_l2Has : List (Bool × Ty) := [(false, .bool)]
abbrev M_spec_l2Has : List RMode := []
abbrev Ft_spec_l2Has : Type := D_Heap × D_A3 × Unit → Option (Bool × Unit)
noncomputable def X_spec_l2Has (n : Nat) : Ctx := { types := TT, globals := [], con := [], keep := [(2, ⟨[.box 2, .box 3, .tmp 2, .tmp 3, .tmp 5], []⟩)], results := [.tmp 4], ntmps := 20, n := n }
noncomputable def B_spec_l2Has : Code := (Tryz.f62.body).getD .skip
noncomputable def L_spec_l2Has_2 (n m0 : Nat) (p0 p1 p2 : Int) (p3 : List D_A3) (p4 p5 : Int) (p6 p7 : Int) : Option (denL R_spec_l2Has) := loopF (X_spec_l2Has n) B_spec_l2Has R_spec_l2Has M_spec_l2Has 2 [m0] [(.ver, .num 1), (.box 2, .box 0 false [.int .i64 p0, .int .i64 p1, .int .i64 p2, .imm T_A3 p3 (some 3)]), (.box 3, .box 0 false [.int .i64 p4, .int .i64 p5, .int .i64 p6]), (.tmp 2, .val false [.addr 2 0 0]), (.tmp 3, .val false [.addr 3 0 0]), (.tmp 5, .val false [.int .i64 p7])]
theorem e_spec_l2Has (n : Nat) (a0 : D_Heap) (a1 : D_A3) : runF (X_spec_l2Has n) B_spec_l2Has As_spec_l2Has R_spec_l2Has M_spec_l2Has (a0, a1, ()) = 
 L_spec_l2Has_2 n n a0.1 a0.2.1 a0.2.2.1 a0.2.2.2.1 a1.1 a1.2.1 a1.2.2.1 0 := by kernel_rfl
theorem e_spec_l2Has_2 (n m0 : Nat) (p0 p1 p2 : Int) (p3 : List D_A3) (p4 p5 : Int) (p6 p7 : Int) : L_spec_l2Has_2 n (m0 + 1) p0 p1 p2 p3 p4 p5 p6 p7 = 
 bif decide (p7 < (List.length p3 : Int)) then
 bif inB p7 (List.length p3) then
 bif (decide (((nth T_A3 p3 p7)).1 = p4) && (decide ((((nth T_A3 p3 p7)).2).1 = p5) && (decide (((((nth T_A3 p3 p7)).2).2).1 = p6) && true))) then
 some (true, ())
 else
 L_spec_l2Has_2 n m0 p0 p1 p2 p3 p4 p5 p6 (IntKind.wrap .i64 (p7 + 1))
 else none
 else
 some (false, ()) := by kernel_rfl
noncomputable def P_spec_l2Has : Ft_spec_l2Has := hid (runF (X_spec_l2Has N) B_spec_l2Has As_spec_l2Has R_spec_l2Has M_spec_l2Has)
theorem h_spec_l2Has : P_spec_l2Has = runF (X_spec_l2Has N) B_spec_l2Has As_spec_l2Has R_spec_l2Has M_spec_l2Has := hid_eq _
noncomputable def C_spec_l2Has : Contract := ⟨As_spec_l2Has, R_spec_l2Has, M_spec_l2Has, P_spec_l2Has⟩
theorem s_spec_l2Has : Sound Tryz.prog GG 62 C_spec_l2Has := by
 unfold C_spec_l2Has; rw [h_spec_l2Has]
 exact sound_of_run (fn := Tryz.f62) hmix hstable (tyOK_of ttOK) (hglob (X_spec_l2Has N)) (conOK_of (X := X_spec_l2Has N) trivial) (mconOK_of (X := X_spec_l2Has N) trivial) (by kernel_rfl) (by kernel_rfl) (by kernel_rfl) (by kernel_rfl) (by kernel_rfl) (of_decide_eq_true (by kernel_rfl))
noncomputable def l_spec_l2Has_2 : Nat → Int → Int → Int → (List D_A3) → Int → Int → Int → Int → Option (denL R_spec_l2Has) := hid (fun m0 p0 p1 p2 p3 p4 p5 p6 p7 => L_spec_l2Has_2 N m0 p0 p1 p2 p3 p4 p5 p6 p7)
theorem h_spec_l2Has_2 : l_spec_l2Has_2 = fun m0 p0 p1 p2 p3 p4 p5 p6 p7 => L_spec_l2Has_2 N m0 p0 p1 p2 p3 p4 p5 p6 p7 := hid_eq _
theorem p_spec_l2Has (a0 : D_Heap) (a1 : D_A3) : P_spec_l2Has (a0, a1, ()) = 
 l_spec_l2Has_2 N a0.1 a0.2.1 a0.2.2.1 a0.2.2.2.1 a1.1 a1.2.1 a1.2.2.1 0 := by
 rewrite [h_spec_l2Has, h_spec_l2Has_2]
 exact e_spec_l2Has N a0 a1
theorem q_spec_l2Has_2 (m0 : Nat) (p0 p1 p2 : Int) (p3 : List D_A3) (p4 p5 : Int) (p6 p7 : Int) : l_spec_l2Has_2 (m0 + 1) p0 p1 p2 p3 p4 p5 p6 p7 = 
 bif decide (p7 < (List.length p3 : Int)) then
 bif inB p7 (List.length p3) then
 bif (decide (((nth T_A3 p3 p7)).1 = p4) && (decide ((((nth T_A3 p3 p7)).2).1 = p5) && (decide (((((nth T_A3 p3 p7)).2).2).1 = p6) && true))) then
 some (true, ())
 else
 l_spec_l2Has_2 m0 p0 p1 p2 p3 p4 p5 p6 (IntKind.wrap .i64 (p7 + 1))
 else none
 else
 some (false, ()) := by
 rewrite [h_spec_l2Has_2]
 exact e_spec_l2Has_2 N m0 p0 p1 p2 p3 p4 p5 p6 p7

abbrev As_spec_OtherCells : List ATy := [.data true T_Heap]
abbrev R_spec_OtherCells : List (Bool × Ty) := [(true, T_Heap), (false, .bool)]
abbrev M_spec_OtherCells : List RMode := [.own 38]
abbrev Ft_spec_OtherCells : Type := D_Heap × Unit → Option (D_Heap × Bool × Unit)
noncomputable def X_spec_OtherCells (n : Nat) (F_spec_l2Heap : Ft_spec_l2Heap) (F_spec_l2Has : Ft_spec_l2Has) (F_spec_l2Empty : Ft_spec_l2Empty) (F_spec_l2All : Ft_spec_l2All) : Ctx := { types := TT, globals := [], con := [(48, ⟨As_spec_l2Heap, R_spec_l2Heap, M_spec_l2Heap, F_spec_l2Heap⟩), (62, ⟨As_spec_l2Has, R_spec_l2Has, M_spec_l2Has, F_spec_l2Has⟩), (94, ⟨As_spec_l2Empty, R_spec_l2Empty, M_spec_l2Empty, F_spec_l2Empty⟩), (103, ⟨As_spec_l2All, R_spec_l2All, M_spec_l2All, F_spec_l2All⟩)], keep := [(5, ⟨[.box 1, .box 2, .box 4, .tmp 1, .tmp 2, .tmp 4, .tmp 5, .tmp 6], []⟩)], results := [.cell 2 26, .tmp 3], ntmps := 43, n := n }
noncomputable def B_spec_OtherCells : Code := (Tryz.f130.body).getD .skip
noncomputable def L_spec_OtherCells_5 (n : Nat) (F_spec_l2Heap : Ft_spec_l2Heap) (F_spec_l2Has : Ft_spec_l2Has) (F_spec_l2Empty : Ft_spec_l2Empty) (F_spec_l2All : Ft_spec_l2All) (m0 : Nat) (p0 p1 p2 : Int) (p3 : List D_A3) (p4 p5 p6 : Int) (p7 : List D_A3) (p8 p9 p10 : Int) (p11 p12 : List D_A3) (p13 : Int) : Option (denL R_spec_OtherCells) := loopF (X_spec_OtherCells n F_spec_l2Heap F_spec_l2Has F_spec_l2Empty F_spec_l2All) B_spec_OtherCells R_spec_OtherCells M_spec_OtherCells 5 [m0] [(.ver, .num 1), (.box 1, .box 0 false [.int .i64 p0, .int .i64 p1, .int .i64 p2, .imm T_A3 p3 (some 3)]), (.box 2, .box 0 false [.int .i64 p4, .int .i64 p5, .int .i64 p6, .own 38 T_A3 0 p7]), (.box 4, .box 0 false [.int .i64 p8, .int .i64 p9, .int .i64 p10, .own 38 T_A3 0 p11]), (.tmp 1, .val false [.addr 1 0 0]), (.tmp 2, .val false [.addr 2 0 0]), (.tmp 4, .val false [.addr 4 0 0]), (.tmp 5, .val false [.own 38 T_A3 0 p12]), (.tmp 6, .val false [.int .i64 p13])]
theorem e_spec_OtherCells (n : Nat) (F_spec_l2Heap : Ft_spec_l2Heap) (F_spec_l2Has : Ft_spec_l2Has) (F_spec_l2Empty : Ft_spec_l2Empty) (F_spec_l2All : Ft_spec_l2All) (a0 : D_Heap) : runF (X_spec_OtherCells n F_spec_l2Heap F_spec_l2Has F_spec_l2Empty F_spec_l2All) B_spec_OtherCells As_spec_OtherCells R_spec_OtherCells M_spec_OtherCells (a0, ()) = 
 Option.bind (F_spec_l2Heap (a0, ())) fun r0 =>
 bif !r0.1 then
 some ((0, (0, (0, (([] : List D_A3), ())))), false, ())
 else
 Option.bind (F_spec_l2Empty (a0.1, a0.2.1, a0.2.2.1, ())) fun r2 =>
 Option.bind (F_spec_l2All (a0, ())) fun r3 =>
 L_spec_OtherCells_5 n F_spec_l2Heap F_spec_l2Has F_spec_l2Empty F_spec_l2All n a0.1 a0.2.1 a0.2.2.1 a0.2.2.2.1 0 0 0 ([] : List D_A3) r2.1.1 r2.1.2.1 r2.1.2.2.1 r2.1.2.2.2.1 r3.1 0 := by kernel_rfl
theorem e_spec_OtherCells_5 (n : Nat) (F_spec_l2Heap : Ft_spec_l2Heap) (F_spec_l2Has : Ft_spec_l2Has) (F_spec_l2Empty : Ft_spec_l2Empty) (F_spec_l2All : Ft_spec_l2All) (m0 : Nat) (p0 p1 p2 : Int) (p3 : List D_A3) (p4 p5 p6 : Int) (p7 : List D_A3) (p8 p9 p10 : Int) (p11 p12 : List D_A3) (p13 : Int) : L_spec_OtherCells_5 n F_spec_l2Heap F_spec_l2Has F_spec_l2Empty F_spec_l2All (m0 + 1) p0 p1 p2 p3 p4 p5 p6 p7 p8 p9 p10 p11 p12 p13 = 
 bif decide (p13 < (List.length p12 : Int)) then
 bif inB p13 (List.length p12) then
 Option.bind (F_spec_l2Has ((p0, (p1, (p2, (p3, ())))), (nth T_A3 p12 p13), ())) fun r2 =>
 bif !r2.1 then
 bif inB p13 (List.length p12) then
 bif (decide (((List.length p11) + (List.length ([(nth T_A3 p12 p13)] : List D_A3))) * 24 ≤ 140737488355328) && decide (((List.length p11) + (List.length ([(nth T_A3 p12 p13)] : List D_A3))) ≤ 140737488355328)) then
 L_spec_OtherCells_5 n F_spec_l2Heap F_spec_l2Has F_spec_l2Empty F_spec_l2All m0 p0 p1 p2 p3 p4 p5 p6 p7 p8 p9 p10 (p11 ++ ([(nth T_A3 p12 p13)] : List D_A3)) p12 (IntKind.wrap .i64 (p13 + 1))
 else none
 else none
 else
 L_spec_OtherCells_5 n F_spec_l2Heap F_spec_l2Has F_spec_l2Empty F_spec_l2All m0 p0 p1 p2 p3 p4 p5 p6 p7 p8 p9 p10 p11 p12 (IntKind.wrap .i64 (p13 + 1))
 else none
 else
 some ((p8, (p9, (p10, (p11, ())))), true, ()) := by kernel_rfl
noncomputable def P_spec_OtherCells : Ft_spec_OtherCells := hid (runF (X_spec_OtherCells N P_spec_l2Heap P_spec_l2Has P_spec_l2Empty P_spec_l2All) B_spec_OtherCells As_spec_OtherCells R_spec_OtherCells M_spec_OtherCells)
theorem h_spec_OtherCells : P_spec_OtherCells = runF (X_spec_OtherCells N P_spec_l2Heap P_spec_l2Has P_spec_l2Empty P_spec_l2All) B_spec_OtherCells As_spec_OtherCells R_spec_OtherCells M_spec_OtherCells := hid_eq _
noncomputable def C_spec_OtherCells : Contract := ⟨As_spec_OtherCells, R_spec_OtherCells, M_spec_OtherCells, P_spec_OtherCells⟩
theorem s_spec_OtherCells : Sound Tryz.prog GG 130 C_spec_OtherCells := by
 unfold C_spec_OtherCells; rw [h_spec_OtherCells]
 exact sound_of_run (fn := Tryz.f130) hmix hstable (tyOK_of ttOK) (hglob (X_spec_OtherCells N P_spec_l2Heap P_spec_l2Has P_spec_l2Empty P_spec_l2All)) (conOK_of (X := X_spec_OtherCells N P_spec_l2Heap P_spec_l2Has P_spec_l2Empty P_spec_l2All) ⟨s_spec_l2Heap, s_spec_l2Has, s_spec_l2Empty, s_spec_l2All, trivial⟩) (mconOK_of (X := X_spec_OtherCells N P_spec_l2Heap P_spec_l2Has P_spec_l2Empty P_spec_l2All) trivial) (by kernel_rfl) (by kernel_rfl) (by kernel_rfl) (by kernel_rfl) (by kernel_rfl) (of_decide_eq_true (by kernel_rfl))
noncomputable def l_spec_OtherCells_5 : Nat → Int → Int → Int → (List D_A3) → Int → Int → Int → (List D_A3) → Int → Int → Int → (List D_A3) → (List D_A3) → Int → Option (denL R_spec_OtherCells) := hid (fun m0 p0 p1 p2 p3 p4 p5 p6 p7 p8 p9 p10 p11 p12 p13 => L_spec_OtherCells_5 N P_spec_l2Heap P_spec_l2Has P_spec_l2Empty P_spec_l2All m0 p0 p1 p2 p3 p4 p5 p6 p7 p8 p9 p10 p11 p12 p13)
theorem h_spec_OtherCells_5 : l_spec_OtherCells_5 = fun m0 p0 p1 p2 p3 p4 p5 p6 p7 p8 p9 p10 p11 p12 p13 => L_spec_OtherCells_5 N P_spec_l2Heap P_spec_l2Has P_spec_l2Empty P_spec_l2All m0 p0 p1 p2 p3 p4 p5 p6 p7 p8 p9 p10 p11 p12 p13 := hid_eq _
theorem p_spec_OtherCells (a0 : D_Heap) : P_spec_OtherCells (a0, ()) = 
 Option.bind (P_spec_l2Heap (a0, ())) fun r0 =>
 bif !r0.1 then
 some ((0, (0, (0, (([] : List D_A3), ())))), false, ())
 else
 Option.bind (P_spec_l2Empty (a0.1, a0.2.1, a0.2.2.1, ())) fun r2 =>
 Option.bind (P_spec_l2All (a0, ())) fun r3 =>
 l_spec_OtherCells_5 N a0.1 a0.2.1 a0.2.2.1 a0.2.2.2.1 0 0 0 ([] : List D_A3) r2.1.1 r2.1.2.1 r2.1.2.2.1 r2.1.2.2.2.1 r3.1 0 := by
 rewrite [h_spec_OtherCells, h_spec_OtherCells_5]
 exact e_spec_OtherCells N P_spec_l2Heap P_spec_l2Has P_spec_l2Empty P_spec_l2All a0
theorem q_spec_OtherCells_5 (m0 : Nat) (p0 p1 p2 : Int) (p3 : List D_A3) (p4 p5 p6 : Int) (p7 : List D_A3) (p8 p9 p10 : Int) (p11 p12 : List D_A3) (p13 : Int) : l_spec_OtherCells_5 (m0 + 1) p0 p1 p2 p3 p4 p5 p6 p7 p8 p9 p10 p11 p12 p13 = 
 bif decide (p13 < (List.length p12 : Int)) then
 bif inB p13 (List.length p12) then
 Option.bind (P_spec_l2Has ((p0, (p1, (p2, (p3, ())))), (nth T_A3 p12 p13), ())) fun r2 =>
 bif !r2.1 then
 bif inB p13 (List.length p12) then
 bif (decide (((List.length p11) + (List.length ([(nth T_A3 p12 p13)] : List D_A3))) * 24 ≤ 140737488355328) && decide (((List.length p11) + (List.length ([(nth T_A3 p12 p13)] : List D_A3))) ≤ 140737488355328)) then
 l_spec_OtherCells_5 m0 p0 p1 p2 p3 p4 p5 p6 p7 p8 p9 p10 (p11 ++ ([(nth T_A3 p12 p13)] : List D_A3)) p12 (IntKind.wrap .i64 (p13 + 1))
 else none
 else none
 else
 l_spec_OtherCells_5 m0 p0 p1 p2 p3 p4 p5 p6 p7 p8 p9 p10 p11 p12 (IntKind.wrap .i64 (p13 + 1))
 else none
 else
 some ((p8, (p9, (p10, (p11, ())))), true, ()) := by
 rewrite [h_spec_OtherCells_5]
 exact e_spec_OtherCells_5 N P_spec_l2Heap P_spec_l2Has P_spec_l2Empty P_spec_l2All m0 p0 p1 p2 p3 p4 p5 p6 p7 p8 p9 p10 p11 p12 p13

abbrev As_spec_l2Stack : List ATy := [.data false (.int .i64), .data false (.int .i64), .data false (.int .i64), .data false (.sl (.int .i64))]
abbrev R_spec_l2Stack : List (Bool × Ty) := [(true, T_Heap)]
abbrev M_spec_l2Stack : List RMode := [.own 38]
abbrev Ft_spec_l2Stack : Type := Int × Int × Int × (List Int) × Unit → Option (D_Heap × Unit)
noncomputable def X_spec_l2Stack (n : Nat) (F_spec_l2Empty : Ft_spec_l2Empty) (F_spec_l2All : Ft_spec_l2All) : Ctx := { types := TT, globals := [], con := [(94, ⟨As_spec_l2Empty, R_spec_l2Empty, M_spec_l2Empty, F_spec_l2Empty⟩), (103, ⟨As_spec_l2All, R_spec_l2All, M_spec_l2All, F_spec_l2All⟩)], keep := [(4, ⟨[.box 8, .box 9, .tmp 1, .tmp 3, .tmp 8, .tmp 9, .tmp 10, .tmp 11], []⟩)], results := [.cell 8 26], ntmps := 56, n := n }
noncomputable def B_spec_l2Stack : Code := (Tryz.f131.body).getD .skip
noncomputable def L_spec_l2Stack_4 (n : Nat) (F_spec_l2Empty : Ft_spec_l2Empty) (F_spec_l2All : Ft_spec_l2All) (m0 : Nat) (p0 p1 p2 : Int) (p3 : List D_A3) (p4 p5 p6 : Int) (p7 : List D_A3) (p8 : Int) (p9 : List Int) (p10 : List D_A3) (p11 : Int) : Option (denL R_spec_l2Stack) := loopF (X_spec_l2Stack n F_spec_l2Empty F_spec_l2All) B_spec_l2Stack R_spec_l2Stack M_spec_l2Stack 4 [m0] [(.ver, .num 1), (.box 8, .box 0 false [.int .i64 p0, .int .i64 p1, .int .i64 p2, .own 38 T_A3 0 p3]), (.box 9, .box 0 false [.int .i64 p4, .int .i64 p5, .int .i64 p6, .own 38 T_A3 0 p7]), (.tmp 1, .val false [.int .i64 p8]), (.tmp 3, .val false [.imm (.int .i64) p9 (some 3)]), (.tmp 8, .val false [.addr 8 0 0]), (.tmp 9, .val false [.addr 9 0 0]), (.tmp 10, .val false [.own 38 T_A3 0 p10]), (.tmp 11, .val false [.int .i64 p11])]
theorem e_spec_l2Stack (n : Nat) (F_spec_l2Empty : Ft_spec_l2Empty) (F_spec_l2All : Ft_spec_l2All) (a0 a1 a2 : Int) (a3 : List Int) : runF (X_spec_l2Stack n F_spec_l2Empty F_spec_l2All) B_spec_l2Stack As_spec_l2Stack R_spec_l2Stack M_spec_l2Stack (a0, a1, a2, a3, ()) = 
 Option.bind (F_spec_l2Empty (a0, a1, a2, ())) fun r0 =>
 Option.bind (F_spec_l2All (r0.1, ())) fun r1 =>
 L_spec_l2Stack_4 n F_spec_l2Empty F_spec_l2All n 0 0 0 ([] : List D_A3) r0.1.1 r0.1.2.1 r0.1.2.2.1 r0.1.2.2.2.1 a1 a3 r1.1 0 := by kernel_rfl
theorem e_spec_l2Stack_4 (n : Nat) (F_spec_l2Empty : Ft_spec_l2Empty) (F_spec_l2All : Ft_spec_l2All) (m0 : Nat) (p0 p1 p2 : Int) (p3 : List D_A3) (p4 p5 p6 : Int) (p7 : List D_A3) (p8 : Int) (p9 : List Int) (p10 : List D_A3) (p11 : Int) : L_spec_l2Stack_4 n F_spec_l2Empty F_spec_l2All (m0 + 1) p0 p1 p2 p3 p4 p5 p6 p7 p8 p9 p10 p11 = 
 bif decide (p11 < (List.length p10 : Int)) then
 bif inB p11 (List.length p10) then
 bif inB p11 (List.length p10) then
 bif inB p11 (List.length p10) then
 bif inB (IntKind.wrap .i64 ((IntKind.wrap .i64 (((nth T_A3 p10 p11)).1 * p8)) + (((nth T_A3 p10 p11)).2).1)) (List.length p9) then
 bif decide (((((nth T_A3 p10 p11)).2).2).1 < (nth ((.int .i64) : Ty) p9 (IntKind.wrap .i64 ((IntKind.wrap .i64 (((nth T_A3 p10 p11)).1 * p8)) + (((nth T_A3 p10 p11)).2).1)))) then
 bif inB p11 (List.length p10) then
 bif (decide (((List.length p7) + (List.length ([(nth T_A3 p10 p11)] : List D_A3))) * 24 ≤ 140737488355328) && decide (((List.length p7) + (List.length ([(nth T_A3 p10 p11)] : List D_A3))) ≤ 140737488355328)) then
 L_spec_l2Stack_4 n F_spec_l2Empty F_spec_l2All m0 p0 p1 p2 p3 p4 p5 p6 (p7 ++ ([(nth T_A3 p10 p11)] : List D_A3)) p8 p9 p10 (IntKind.wrap .i64 (p11 + 1))
 else none
 else none
 else
 L_spec_l2Stack_4 n F_spec_l2Empty F_spec_l2All m0 p0 p1 p2 p3 p4 p5 p6 p7 p8 p9 p10 (IntKind.wrap .i64 (p11 + 1))
 else none
 else none
 else none
 else none
 else
 some ((p4, (p5, (p6, (p7, ())))), ()) := by kernel_rfl
noncomputable def P_spec_l2Stack : Ft_spec_l2Stack := hid (runF (X_spec_l2Stack N P_spec_l2Empty P_spec_l2All) B_spec_l2Stack As_spec_l2Stack R_spec_l2Stack M_spec_l2Stack)
theorem h_spec_l2Stack : P_spec_l2Stack = runF (X_spec_l2Stack N P_spec_l2Empty P_spec_l2All) B_spec_l2Stack As_spec_l2Stack R_spec_l2Stack M_spec_l2Stack := hid_eq _
noncomputable def C_spec_l2Stack : Contract := ⟨As_spec_l2Stack, R_spec_l2Stack, M_spec_l2Stack, P_spec_l2Stack⟩
theorem s_spec_l2Stack : Sound Tryz.prog GG 131 C_spec_l2Stack := by
 unfold C_spec_l2Stack; rw [h_spec_l2Stack]
 exact sound_of_run (fn := Tryz.f131) hmix hstable (tyOK_of ttOK) (hglob (X_spec_l2Stack N P_spec_l2Empty P_spec_l2All)) (conOK_of (X := X_spec_l2Stack N P_spec_l2Empty P_spec_l2All) ⟨s_spec_l2Empty, s_spec_l2All, trivial⟩) (mconOK_of (X := X_spec_l2Stack N P_spec_l2Empty P_spec_l2All) trivial) (by kernel_rfl) (by kernel_rfl) (by kernel_rfl) (by kernel_rfl) (by kernel_rfl) (of_decide_eq_true (by kernel_rfl))
noncomputable def l_spec_l2Stack_4 : Nat → Int → Int → Int → (List D_A3) → Int → Int → Int → (List D_A3) → Int → (List Int) → (List D_A3) → Int → Option (denL R_spec_l2Stack) := hid (fun m0 p0 p1 p2 p3 p4 p5 p6 p7 p8 p9 p10 p11 => L_spec_l2Stack_4 N P_spec_l2Empty P_spec_l2All m0 p0 p1 p2 p3 p4 p5 p6 p7 p8 p9 p10 p11)
theorem h_spec_l2Stack_4 : l_spec_l2Stack_4 = fun m0 p0 p1 p2 p3 p4 p5 p6 p7 p8 p9 p10 p11 => L_spec_l2Stack_4 N P_spec_l2Empty P_spec_l2All m0 p0 p1 p2 p3 p4 p5 p6 p7 p8 p9 p10 p11 := hid_eq _
theorem p_spec_l2Stack (a0 a1 a2 : Int) (a3 : List Int) : P_spec_l2Stack (a0, a1, a2, a3, ()) = 
 Option.bind (P_spec_l2Empty (a0, a1, a2, ())) fun r0 =>
 Option.bind (P_spec_l2All (r0.1, ())) fun r1 =>
 l_spec_l2Stack_4 N 0 0 0 ([] : List D_A3) r0.1.1 r0.1.2.1 r0.1.2.2.1 r0.1.2.2.2.1 a1 a3 r1.1 0 := by
 rewrite [h_spec_l2Stack, h_spec_l2Stack_4]
 exact e_spec_l2Stack N P_spec_l2Empty P_spec_l2All a0 a1 a2 a3
theorem q_spec_l2Stack_4 (m0 : Nat) (p0 p1 p2 : Int) (p3 : List D_A3) (p4 p5 p6 : Int) (p7 : List D_A3) (p8 : Int) (p9 : List Int) (p10 : List D_A3) (p11 : Int) : l_spec_l2Stack_4 (m0 + 1) p0 p1 p2 p3 p4 p5 p6 p7 p8 p9 p10 p11 = 
 bif decide (p11 < (List.length p10 : Int)) then
 bif inB p11 (List.length p10) then
 bif inB p11 (List.length p10) then
 bif inB p11 (List.length p10) then
 bif inB (IntKind.wrap .i64 ((IntKind.wrap .i64 (((nth T_A3 p10 p11)).1 * p8)) + (((nth T_A3 p10 p11)).2).1)) (List.length p9) then
 bif decide (((((nth T_A3 p10 p11)).2).2).1 < (nth ((.int .i64) : Ty) p9 (IntKind.wrap .i64 ((IntKind.wrap .i64 (((nth T_A3 p10 p11)).1 * p8)) + (((nth T_A3 p10 p11)).2).1)))) then
 bif inB p11 (List.length p10) then
 bif (decide (((List.length p7) + (List.length ([(nth T_A3 p10 p11)] : List D_A3))) * 24 ≤ 140737488355328) && decide (((List.length p7) + (List.length ([(nth T_A3 p10 p11)] : List D_A3))) ≤ 140737488355328)) then
 l_spec_l2Stack_4 m0 p0 p1 p2 p3 p4 p5 p6 (p7 ++ ([(nth T_A3 p10 p11)] : List D_A3)) p8 p9 p10 (IntKind.wrap .i64 (p11 + 1))
 else none
 else none
 else
 l_spec_l2Stack_4 m0 p0 p1 p2 p3 p4 p5 p6 p7 p8 p9 p10 (IntKind.wrap .i64 (p11 + 1))
 else none
 else none
 else none
 else none
 else
 some ((p4, (p5, (p6, (p7, ())))), ()) := by
 rewrite [h_spec_l2Stack_4]
 exact e_spec_l2Stack_4 N P_spec_l2Empty P_spec_l2All m0 p0 p1 p2 p3 p4 p5 p6 p7 p8 p9 p10 p11

abbrev As_spec_l2Long : List ATy := [.data true T_Heap, .data false (.int .i64)]
abbrev R_spec_l2Long : List (Bool × Ty) := [(false, (.int .i64))]
abbrev M_spec_l2Long : List RMode := []
abbrev Ft_spec_l2Long : Type := D_Heap × Int × Unit → Option (Int × Unit)
noncomputable def X_spec_l2Long (n : Nat) : Ctx := { types := TT, globals := [], con := [], keep := [], results := [.tmp 4], ntmps := 14, n := n }
noncomputable def B_spec_l2Long : Code := (Tryz.f90.body).getD .skip
theorem e_spec_l2Long (n : Nat) (a0 : D_Heap) (a1 : Int) : runF (X_spec_l2Long n) B_spec_l2Long As_spec_l2Long R_spec_l2Long M_spec_l2Long (a0, a1, ()) = 
 bif inB a1 3 then
 some ((bif decide (a1 = (0 : Int)) then a0.1 else (bif decide (a1 = (1 : Int)) then a0.2.1 else a0.2.2.1)), ())
 else none := by kernel_rfl
noncomputable def P_spec_l2Long : Ft_spec_l2Long := hid (runF (X_spec_l2Long N) B_spec_l2Long As_spec_l2Long R_spec_l2Long M_spec_l2Long)
theorem h_spec_l2Long : P_spec_l2Long = runF (X_spec_l2Long N) B_spec_l2Long As_spec_l2Long R_spec_l2Long M_spec_l2Long := hid_eq _
noncomputable def C_spec_l2Long : Contract := ⟨As_spec_l2Long, R_spec_l2Long, M_spec_l2Long, P_spec_l2Long⟩
theorem s_spec_l2Long : Sound Tryz.prog GG 90 C_spec_l2Long := by
 unfold C_spec_l2Long; rw [h_spec_l2Long]
 exact sound_of_run (fn := Tryz.f90) hmix hstable (tyOK_of ttOK) (hglob (X_spec_l2Long N)) (conOK_of (X := X_spec_l2Long N) trivial) (mconOK_of (X := X_spec_l2Long N) trivial) (by kernel_rfl) (by kernel_rfl) (by kernel_rfl) (by kernel_rfl) (by kernel_rfl) (of_decide_eq_true (by kernel_rfl))
theorem p_spec_l2Long (a0 : D_Heap) (a1 : Int) : P_spec_l2Long (a0, a1, ()) = 
 bif inB a1 3 then
 some ((bif decide (a1 = (0 : Int)) then a0.1 else (bif decide (a1 = (1 : Int)) then a0.2.1 else a0.2.2.1)), ())
 else none := by
 rewrite [h_spec_l2Long]
 exact e_spec_l2Long N a0 a1

abbrev As_spec_l2Others : List ATy := [.data false (.int .i64)]
abbrev R_spec_l2Others : List (Bool × Ty) := [(false, (.int .i64)), (false, (.int .i64))]
abbrev M_spec_l2Others : List RMode := []
abbrev Ft_spec_l2Others : Type := Int × Unit → Option (Int × Int × Unit)
noncomputable def X_spec_l2Others (n : Nat) : Ctx := { types := TT, globals := [], con := [], keep := [], results := [.tmp 2, .tmp 3], ntmps := 9, n := n }
noncomputable def B_spec_l2Others : Code := (Tryz.f155.body).getD .skip
theorem e_spec_l2Others (n : Nat) (a0 : Int) : runF (X_spec_l2Others n) B_spec_l2Others As_spec_l2Others R_spec_l2Others M_spec_l2Others (a0, ()) = 
 bif decide (a0 = 0) then
 some (1, 2, ())
 else
 bif decide (a0 = 1) then
 some (0, 2, ())
 else
 some (0, 1, ()) := by kernel_rfl
noncomputable def P_spec_l2Others : Ft_spec_l2Others := hid (runF (X_spec_l2Others N) B_spec_l2Others As_spec_l2Others R_spec_l2Others M_spec_l2Others)
theorem h_spec_l2Others : P_spec_l2Others = runF (X_spec_l2Others N) B_spec_l2Others As_spec_l2Others R_spec_l2Others M_spec_l2Others := hid_eq _
noncomputable def C_spec_l2Others : Contract := ⟨As_spec_l2Others, R_spec_l2Others, M_spec_l2Others, P_spec_l2Others⟩
theorem s_spec_l2Others : Sound Tryz.prog GG 155 C_spec_l2Others := by
 unfold C_spec_l2Others; rw [h_spec_l2Others]
 exact sound_of_run (fn := Tryz.f155) hmix hstable (tyOK_of ttOK) (hglob (X_spec_l2Others N)) (conOK_of (X := X_spec_l2Others N) trivial) (mconOK_of (X := X_spec_l2Others N) trivial) (by kernel_rfl) (by kernel_rfl) (by kernel_rfl) (by kernel_rfl) (by kernel_rfl) (of_decide_eq_true (by kernel_rfl))
theorem p_spec_l2Others (a0 : Int) : P_spec_l2Others (a0, ()) = 
 bif decide (a0 = 0) then
 some (1, 2, ())
 else
 bif decide (a0 = 1) then
 some (0, 2, ())
 else
 some (0, 1, ()) := by
 rewrite [h_spec_l2Others]
 exact e_spec_l2Others N a0

abbrev As_spec_l2View : List ATy := [.data true T_Heap, .data false (.int .i64)]
abbrev R_spec_l2View : List (Bool × Ty) := [(false, (.sl (.int .i64)))]
abbrev M_spec_l2View : List RMode := [.own 3]
abbrev Ft_spec_l2View : Type := D_Heap × Int × Unit → Option ((List Int) × Unit)
noncomputable def X_spec_l2View (n : Nat) (F_spec_l2Long : Ft_spec_l2Long) (F_spec_l2Others : Ft_spec_l2Others) : Ctx := { types := TT, globals := [], con := [(90, ⟨As_spec_l2Long, R_spec_l2Long, M_spec_l2Long, F_spec_l2Long⟩), (155, ⟨As_spec_l2Others, R_spec_l2Others, M_spec_l2Others, F_spec_l2Others⟩)], keep := [(4, ⟨[.box 2, .tmp 2, .tmp 5, .tmp 6, .tmp 7, .tmp 8], []⟩)], results := [.tmp 4], ntmps := 54, n := n }
noncomputable def B_spec_l2View : Code := (Tryz.f147.body).getD .skip
noncomputable def L_spec_l2View_4 (n : Nat) (F_spec_l2Long : Ft_spec_l2Long) (F_spec_l2Others : Ft_spec_l2Others) (m0 : Nat) (p0 p1 p2 : Int) (p3 : List D_A3) (p4 p5 : Int) (p6 : List Int) (p7 : Int) : Option (denL R_spec_l2View) := loopF (X_spec_l2View n F_spec_l2Long F_spec_l2Others) B_spec_l2View R_spec_l2View M_spec_l2View 4 [m0] [(.ver, .num 1), (.box 2, .box 0 false [.int .i64 p0, .int .i64 p1, .int .i64 p2, .imm T_A3 p3 (some 3)]), (.tmp 2, .val false [.addr 2 0 0]), (.tmp 5, .val false [.int .i64 p4]), (.tmp 6, .val false [.int .i64 p5]), (.tmp 7, .val false [.own 3 (.int .i64) 0 p6]), (.tmp 8, .val false [.int .i64 p7])]
theorem e_spec_l2View (n : Nat) (F_spec_l2Long : Ft_spec_l2Long) (F_spec_l2Others : Ft_spec_l2Others) (a0 : D_Heap) (a1 : Int) : runF (X_spec_l2View n F_spec_l2Long F_spec_l2Others) B_spec_l2View As_spec_l2View R_spec_l2View M_spec_l2View (a0, a1, ()) = 
 Option.bind (F_spec_l2Others (a1, ())) fun r0 =>
 Option.bind (F_spec_l2Long (a0, r0.1, ())) fun r1 =>
 Option.bind (F_spec_l2Long (a0, r0.2.1, ())) fun r2 =>
 bif (decide ((0 : Int) ≤ (IntKind.wrap .i64 (r1.1 * r2.1))) && decide (((IntKind.wrap .i64 (r1.1 * r2.1)) : Int) ≤ (IntKind.wrap .i64 (r1.1 * r2.1))) && decide (((IntKind.wrap .i64 (r1.1 * r2.1)) : Int) * (8 : Nat) ≤ 140737488355328) && decide (((IntKind.wrap .i64 (r1.1 * r2.1)) : Int) ≤ 140737488355328)) then
 L_spec_l2View_4 n F_spec_l2Long F_spec_l2Others n a0.1 a0.2.1 a0.2.2.1 a0.2.2.2.1 r0.1 r0.2.1 (List.replicate (Int.toNat (IntKind.wrap .i64 (r1.1 * r2.1))) (Ty.dflt ((.int .i64) : Ty))) 0
 else none := by kernel_rfl
theorem e_spec_l2View_4 (n : Nat) (F_spec_l2Long : Ft_spec_l2Long) (F_spec_l2Others : Ft_spec_l2Others) (m0 : Nat) (p0 p1 p2 : Int) (p3 : List D_A3) (p4 p5 : Int) (p6 : List Int) (p7 : Int) : L_spec_l2View_4 n F_spec_l2Long F_spec_l2Others (m0 + 1) p0 p1 p2 p3 p4 p5 p6 p7 = 
 bif decide (p7 < (List.length p3 : Int)) then
 bif inB p7 (List.length p3) then
 bif inB p4 3 then
 Option.bind (F_spec_l2Long ((p0, (p1, (p2, (p3, ())))), p5, ())) fun r3 =>
 bif inB p7 (List.length p3) then
 bif inB p5 3 then
 bif inB (IntKind.wrap .i64 ((IntKind.wrap .i64 ((bif decide (p4 = (0 : Int)) then ((nth T_A3 p3 p7)).1 else (bif decide (p4 = (1 : Int)) then (((nth T_A3 p3 p7)).2).1 else ((((nth T_A3 p3 p7)).2).2).1)) * r3.1)) + (bif decide (p5 = (0 : Int)) then ((nth T_A3 p3 p7)).1 else (bif decide (p5 = (1 : Int)) then (((nth T_A3 p3 p7)).2).1 else ((((nth T_A3 p3 p7)).2).2).1)))) (List.length p6) then
 bif inB (IntKind.wrap .i64 ((IntKind.wrap .i64 ((bif decide (p4 = (0 : Int)) then ((nth T_A3 p3 p7)).1 else (bif decide (p4 = (1 : Int)) then (((nth T_A3 p3 p7)).2).1 else ((((nth T_A3 p3 p7)).2).2).1)) * r3.1)) + (bif decide (p5 = (0 : Int)) then ((nth T_A3 p3 p7)).1 else (bif decide (p5 = (1 : Int)) then (((nth T_A3 p3 p7)).2).1 else ((((nth T_A3 p3 p7)).2).2).1)))) (List.length p6) then
 L_spec_l2View_4 n F_spec_l2Long F_spec_l2Others m0 p0 p1 p2 p3 p4 p5 (List.set p6 (Int.toNat (IntKind.wrap .i64 ((IntKind.wrap .i64 ((bif decide (p4 = (0 : Int)) then ((nth T_A3 p3 p7)).1 else (bif decide (p4 = (1 : Int)) then (((nth T_A3 p3 p7)).2).1 else ((((nth T_A3 p3 p7)).2).2).1)) * r3.1)) + (bif decide (p5 = (0 : Int)) then ((nth T_A3 p3 p7)).1 else (bif decide (p5 = (1 : Int)) then (((nth T_A3 p3 p7)).2).1 else ((((nth T_A3 p3 p7)).2).2).1))))) (IntKind.wrap .i64 ((nth ((.int .i64) : Ty) p6 (IntKind.wrap .i64 ((IntKind.wrap .i64 ((bif decide (p4 = (0 : Int)) then ((nth T_A3 p3 p7)).1 else (bif decide (p4 = (1 : Int)) then (((nth T_A3 p3 p7)).2).1 else ((((nth T_A3 p3 p7)).2).2).1)) * r3.1)) + (bif decide (p5 = (0 : Int)) then ((nth T_A3 p3 p7)).1 else (bif decide (p5 = (1 : Int)) then (((nth T_A3 p3 p7)).2).1 else ((((nth T_A3 p3 p7)).2).2).1))))) + 1))) (IntKind.wrap .i64 (p7 + 1))
 else none
 else none
 else none
 else none
 else none
 else none
 else
 some (p6, ()) := by kernel_rfl
noncomputable def P_spec_l2View : Ft_spec_l2View := hid (runF (X_spec_l2View N P_spec_l2Long P_spec_l2Others) B_spec_l2View As_spec_l2View R_spec_l2View M_spec_l2View)
theorem h_spec_l2View : P_spec_l2View = runF (X_spec_l2View N P_spec_l2Long P_spec_l2Others) B_spec_l2View As_spec_l2View R_spec_l2View M_spec_l2View := hid_eq _
noncomputable def C_spec_l2View : Contract := ⟨As_spec_l2View, R_spec_l2View, M_spec_l2View, P_spec_l2View⟩
theorem s_spec_l2View : Sound Tryz.prog GG 147 C_spec_l2View := by
 unfold C_spec_l2View; rw [h_spec_l2View]
 exact sound_of_run (fn := Tryz.f147) hmix hstable (tyOK_of ttOK) (hglob (X_spec_l2View N P_spec_l2Long P_spec_l2Others)) (conOK_of (X := X_spec_l2View N P_spec_l2Long P_spec_l2Others) ⟨s_spec_l2Long, s_spec_l2Others, trivial⟩) (mconOK_of (X := X_spec_l2View N P_spec_l2Long P_spec_l2Others) trivial) (by kernel_rfl) (by kernel_rfl) (by kernel_rfl) (by kernel_rfl) (by kernel_rfl) (of_decide_eq_true (by kernel_rfl))
noncomputable def l_spec_l2View_4 : Nat → Int → Int → Int → (List D_A3) → Int → Int → (List Int) → Int → Option (denL R_spec_l2View) := hid (fun m0 p0 p1 p2 p3 p4 p5 p6 p7 => L_spec_l2View_4 N P_spec_l2Long P_spec_l2Others m0 p0 p1 p2 p3 p4 p5 p6 p7)
theorem h_spec_l2View_4 : l_spec_l2View_4 = fun m0 p0 p1 p2 p3 p4 p5 p6 p7 => L_spec_l2View_4 N P_spec_l2Long P_spec_l2Others m0 p0 p1 p2 p3 p4 p5 p6 p7 := hid_eq _
theorem p_spec_l2View (a0 : D_Heap) (a1 : Int) : P_spec_l2View (a0, a1, ()) = 
 Option.bind (P_spec_l2Others (a1, ())) fun r0 =>
 Option.bind (P_spec_l2Long (a0, r0.1, ())) fun r1 =>
 Option.bind (P_spec_l2Long (a0, r0.2.1, ())) fun r2 =>
 bif (decide ((0 : Int) ≤ (IntKind.wrap .i64 (r1.1 * r2.1))) && decide (((IntKind.wrap .i64 (r1.1 * r2.1)) : Int) ≤ (IntKind.wrap .i64 (r1.1 * r2.1))) && decide (((IntKind.wrap .i64 (r1.1 * r2.1)) : Int) * (8 : Nat) ≤ 140737488355328) && decide (((IntKind.wrap .i64 (r1.1 * r2.1)) : Int) ≤ 140737488355328)) then
 l_spec_l2View_4 N a0.1 a0.2.1 a0.2.2.1 a0.2.2.2.1 r0.1 r0.2.1 (List.replicate (Int.toNat (IntKind.wrap .i64 (r1.1 * r2.1))) (Ty.dflt ((.int .i64) : Ty))) 0
 else none := by
 rewrite [h_spec_l2View, h_spec_l2View_4]
 exact e_spec_l2View N P_spec_l2Long P_spec_l2Others a0 a1
theorem q_spec_l2View_4 (m0 : Nat) (p0 p1 p2 : Int) (p3 : List D_A3) (p4 p5 : Int) (p6 : List Int) (p7 : Int) : l_spec_l2View_4 (m0 + 1) p0 p1 p2 p3 p4 p5 p6 p7 = 
 bif decide (p7 < (List.length p3 : Int)) then
 bif inB p7 (List.length p3) then
 bif inB p4 3 then
 Option.bind (P_spec_l2Long ((p0, (p1, (p2, (p3, ())))), p5, ())) fun r3 =>
 bif inB p7 (List.length p3) then
 bif inB p5 3 then
 bif inB (IntKind.wrap .i64 ((IntKind.wrap .i64 ((bif decide (p4 = (0 : Int)) then ((nth T_A3 p3 p7)).1 else (bif decide (p4 = (1 : Int)) then (((nth T_A3 p3 p7)).2).1 else ((((nth T_A3 p3 p7)).2).2).1)) * r3.1)) + (bif decide (p5 = (0 : Int)) then ((nth T_A3 p3 p7)).1 else (bif decide (p5 = (1 : Int)) then (((nth T_A3 p3 p7)).2).1 else ((((nth T_A3 p3 p7)).2).2).1)))) (List.length p6) then
 bif inB (IntKind.wrap .i64 ((IntKind.wrap .i64 ((bif decide (p4 = (0 : Int)) then ((nth T_A3 p3 p7)).1 else (bif decide (p4 = (1 : Int)) then (((nth T_A3 p3 p7)).2).1 else ((((nth T_A3 p3 p7)).2).2).1)) * r3.1)) + (bif decide (p5 = (0 : Int)) then ((nth T_A3 p3 p7)).1 else (bif decide (p5 = (1 : Int)) then (((nth T_A3 p3 p7)).2).1 else ((((nth T_A3 p3 p7)).2).2).1)))) (List.length p6) then
 l_spec_l2View_4 m0 p0 p1 p2 p3 p4 p5 (List.set p6 (Int.toNat (IntKind.wrap .i64 ((IntKind.wrap .i64 ((bif decide (p4 = (0 : Int)) then ((nth T_A3 p3 p7)).1 else (bif decide (p4 = (1 : Int)) then (((nth T_A3 p3 p7)).2).1 else ((((nth T_A3 p3 p7)).2).2).1)) * r3.1)) + (bif decide (p5 = (0 : Int)) then ((nth T_A3 p3 p7)).1 else (bif decide (p5 = (1 : Int)) then (((nth T_A3 p3 p7)).2).1 else ((((nth T_A3 p3 p7)).2).2).1))))) (IntKind.wrap .i64 ((nth ((.int .i64) : Ty) p6 (IntKind.wrap .i64 ((IntKind.wrap .i64 ((bif decide (p4 = (0 : Int)) then ((nth T_A3 p3 p7)).1 else (bif decide (p4 = (1 : Int)) then (((nth T_A3 p3 p7)).2).1 else ((((nth T_A3 p3 p7)).2).2).1)) * r3.1)) + (bif decide (p5 = (0 : Int)) then ((nth T_A3 p3 p7)).1 else (bif decide (p5 = (1 : Int)) then (((nth T_A3 p3 p7)).2).1 else ((((nth T_A3 p3 p7)).2).2).1))))) + 1))) (IntKind.wrap .i64 (p7 + 1))
 else none
 else none
 else none
 else none
 else none
 else none
 else
 some (p6, ()) := by
 rewrite [h_spec_l2View_4]
 exact e_spec_l2View_4 N P_spec_l2Long P_spec_l2Others m0 p0 p1 p2 p3 p4 p5 p6 p7

abbrev As_spec_l2Heights : List ATy := [.data true T_Heap]
abbrev R_spec_l2Heights : List (Bool × Ty) := [(false, (.sl (.int .i64)))]
abbrev M_spec_l2Heights : List RMode := [.own 3]
abbrev Ft_spec_l2Heights : Type := D_Heap × Unit → Option ((List Int) × Unit)
noncomputable def X_spec_l2Heights (n : Nat) (F_spec_l2View : Ft_spec_l2View) : Ctx := { types := TT, globals := [], con := [(147, ⟨As_spec_l2View, R_spec_l2View, M_spec_l2View, F_spec_l2View⟩)], keep := [], results := [.tmp 2], ntmps := 5, n := n }
noncomputable def B_spec_l2Heights : Code := (Tryz.f132.body).getD .skip
theorem e_spec_l2Heights (n : Nat) (F_spec_l2View : Ft_spec_l2View) (a0 : D_Heap) : runF (X_spec_l2Heights n F_spec_l2View) B_spec_l2Heights As_spec_l2Heights R_spec_l2Heights M_spec_l2Heights (a0, ()) = 
 Option.bind (F_spec_l2View (a0, 2, ())) fun r0 =>
 some (r0.1, ()) := by kernel_rfl
noncomputable def P_spec_l2Heights : Ft_spec_l2Heights := hid (runF (X_spec_l2Heights N P_spec_l2View) B_spec_l2Heights As_spec_l2Heights R_spec_l2Heights M_spec_l2Heights)
theorem h_spec_l2Heights : P_spec_l2Heights = runF (X_spec_l2Heights N P_spec_l2View) B_spec_l2Heights As_spec_l2Heights R_spec_l2Heights M_spec_l2Heights := hid_eq _
noncomputable def C_spec_l2Heights : Contract := ⟨As_spec_l2Heights, R_spec_l2Heights, M_spec_l2Heights, P_spec_l2Heights⟩
theorem s_spec_l2Heights : Sound Tryz.prog GG 132 C_spec_l2Heights := by
 unfold C_spec_l2Heights; rw [h_spec_l2Heights]
 exact sound_of_run (fn := Tryz.f132) hmix hstable (tyOK_of ttOK) (hglob (X_spec_l2Heights N P_spec_l2View)) (conOK_of (X := X_spec_l2Heights N P_spec_l2View) ⟨s_spec_l2View, trivial⟩) (mconOK_of (X := X_spec_l2Heights N P_spec_l2View) trivial) (by kernel_rfl) (by kernel_rfl) (by kernel_rfl) (by kernel_rfl) (by kernel_rfl) (of_decide_eq_true (by kernel_rfl))
theorem p_spec_l2Heights (a0 : D_Heap) : P_spec_l2Heights (a0, ()) = 
 Option.bind (P_spec_l2View (a0, 2, ())) fun r0 =>
 some (r0.1, ()) := by
 rewrite [h_spec_l2Heights]
 exact e_spec_l2Heights N P_spec_l2View a0

abbrev As_l1Cur_someHeap : List ATy := [.lptr T_l1Cur, .data false (.int .i64), .data false (.int .i64), .data false (.int .i64)]
abbrev R_l1Cur_someHeap : List (Bool × Ty) := [(true, T_Heap)]
abbrev M_l1Cur_someHeap : List RMode := [.own 38]
abbrev Ft_l1Cur_someHeap : Type := D_l1Cur × Int × Int × Int × Unit → Option ((D_Heap × Unit) × (D_l1Cur × Unit))
noncomputable def X_l1Cur_someHeap (n : Nat) (F_l1Cur_one : Ft_l1Cur_one) (F_spec_l2Sides : Ft_spec_l2Sides) (F_l1Cur_pick : Ft_l1Cur_pick) (F_l1Cur_among : Ft_l1Cur_among) (F_spec_l2Empty : Ft_spec_l2Empty) (F_spec_l2All : Ft_spec_l2All) (F_spec_OtherCells : Ft_spec_OtherCells) (F_spec_l2Stack : Ft_spec_l2Stack) (F_spec_l2Heights : Ft_spec_l2Heights) : Ctx := { types := TT, globals := [], con := [(67, ⟨As_spec_l2Sides, R_spec_l2Sides, M_spec_l2Sides, F_spec_l2Sides⟩), (94, ⟨As_spec_l2Empty, R_spec_l2Empty, M_spec_l2Empty, F_spec_l2Empty⟩), (103, ⟨As_spec_l2All, R_spec_l2All, M_spec_l2All, F_spec_l2All⟩), (130, ⟨As_spec_OtherCells, R_spec_OtherCells, M_spec_OtherCells, F_spec_OtherCells⟩), (131, ⟨As_spec_l2Stack, R_spec_l2Stack, M_spec_l2Stack, F_spec_l2Stack⟩), (132, ⟨As_spec_l2Heights, R_spec_l2Heights, M_spec_l2Heights, F_spec_l2Heights⟩)], mcon := [(46, ⟨As_l1Cur_one, R_l1Cur_one, M_l1Cur_one, F_l1Cur_one⟩), (85, ⟨As_l1Cur_pick, R_l1Cur_pick, M_l1Cur_pick, F_l1Cur_pick⟩), (88, ⟨As_l1Cur_among, R_l1Cur_among, M_l1Cur_among, F_l1Cur_among⟩)], keep := [(6, ⟨[.box 8, .box 9, .box 1000000, .tmp 0, .tmp 1, .tmp 2, .tmp 3, .tmp 8, .tmp 9, .tmp 10, .tmp 11, .tmp 12], []⟩)], results := [.cell 8 26], ntmps := 64, n := n }
noncomputable def B_l1Cur_someHeap : Code := (Tryz.f110.body).getD .skip
noncomputable def L_l1Cur_someHeap_6 (n : Nat) (F_l1Cur_one : Ft_l1Cur_one) (F_spec_l2Sides : Ft_spec_l2Sides) (F_l1Cur_pick : Ft_l1Cur_pick) (F_l1Cur_among : Ft_l1Cur_among) (F_spec_l2Empty : Ft_spec_l2Empty) (F_spec_l2All : Ft_spec_l2All) (F_spec_OtherCells : Ft_spec_OtherCells) (F_spec_l2Stack : Ft_spec_l2Stack) (F_spec_l2Heights : Ft_spec_l2Heights) (m0 : Nat) (p0 p1 p2 : Int) (p3 : List D_A3) (p4 p5 p6 : Int) (p7 : List D_A3) (p8 : List Int) (p9 p10 : Int) (p11 p12 : Int) (p13 p14 : Int) (p15 : List D_A3) (p16 : Int) : Option (denL R_l1Cur_someHeap × denM As_l1Cur_someHeap) := loopFM (X_l1Cur_someHeap n F_l1Cur_one F_spec_l2Sides F_l1Cur_pick F_l1Cur_among F_spec_l2Empty F_spec_l2All F_spec_OtherCells F_spec_l2Stack F_spec_l2Heights) B_l1Cur_someHeap As_l1Cur_someHeap R_l1Cur_someHeap M_l1Cur_someHeap 6 [m0] [(.ver, .num 1), (.box 8, .box 0 false [.int .i64 p0, .int .i64 p1, .int .i64 p2, .own 38 T_A3 0 p3]), (.box 9, .box 0 false [.int .i64 p4, .int .i64 p5, .int .i64 p6, .own 38 T_A3 0 p7]), (.box 1000000, .box 0 false [.imm (.int .u8) p8 (some 4), .int .i64 p9, .int .u64 p10]), (.tmp 0, .val false [.addr 1000000 0 0]), (.tmp 1, .val false [.int .i64 p11]), (.tmp 2, .val false [.int .i64 p12]), (.tmp 3, .val false [.int .i64 p13]), (.tmp 8, .val false [.addr 8 0 0]), (.tmp 9, .val false [.addr 9 0 0]), (.tmp 10, .val false [.int .i64 p14]), (.tmp 11, .val false [.own 38 T_A3 0 p15]), (.tmp 12, .val false [.int .i64 p16])]
theorem e_l1Cur_someHeap (n : Nat) (F_l1Cur_one : Ft_l1Cur_one) (F_spec_l2Sides : Ft_spec_l2Sides) (F_l1Cur_pick : Ft_l1Cur_pick) (F_l1Cur_among : Ft_l1Cur_among) (F_spec_l2Empty : Ft_spec_l2Empty) (F_spec_l2All : Ft_spec_l2All) (F_spec_OtherCells : Ft_spec_OtherCells) (F_spec_l2Stack : Ft_spec_l2Stack) (F_spec_l2Heights : Ft_spec_l2Heights) (a0 : D_l1Cur) (a1 a2 a3 : Int) : runFM (X_l1Cur_someHeap n F_l1Cur_one F_spec_l2Sides F_l1Cur_pick F_l1Cur_among F_spec_l2Empty F_spec_l2All F_spec_OtherCells F_spec_l2Stack F_spec_l2Heights) B_l1Cur_someHeap As_l1Cur_someHeap R_l1Cur_someHeap M_l1Cur_someHeap (a0, a1, a2, a3, ()) = 
 Option.bind (F_spec_l2Empty (a1, a2, a3, ())) fun r0 =>
 Option.bind (F_l1Cur_among (a0, ([2, 3, 2, 4] : List Int), ())) fun r1 =>
 Option.bind (F_spec_l2Sides (a1, a2, a3, ())) fun r2 =>
 bif !r2.1 then
 some ((r0.1, ()), ((a0.1, r1.2.1.2), ()))
 else
 Option.bind (F_spec_l2All (r0.1, ())) fun r4 =>
 L_l1Cur_someHeap_6 n F_l1Cur_one F_spec_l2Sides F_l1Cur_pick F_l1Cur_among F_spec_l2Empty F_spec_l2All F_spec_OtherCells F_spec_l2Stack F_spec_l2Heights n 0 0 0 ([] : List D_A3) r0.1.1 r0.1.2.1 r0.1.2.2.1 r0.1.2.2.2.1 a0.1 r1.2.1.2.1 r1.2.1.2.2.1 a1 a2 a3 r1.1.1 r4.1 0 := by kernel_rfl
theorem e_l1Cur_someHeap_6 (n : Nat) (F_l1Cur_one : Ft_l1Cur_one) (F_spec_l2Sides : Ft_spec_l2Sides) (F_l1Cur_pick : Ft_l1Cur_pick) (F_l1Cur_among : Ft_l1Cur_among) (F_spec_l2Empty : Ft_spec_l2Empty) (F_spec_l2All : Ft_spec_l2All) (F_spec_OtherCells : Ft_spec_OtherCells) (F_spec_l2Stack : Ft_spec_l2Stack) (F_spec_l2Heights : Ft_spec_l2Heights) (m0 : Nat) (p0 p1 p2 : Int) (p3 : List D_A3) (p4 p5 p6 : Int) (p7 : List D_A3) (p8 : List Int) (p9 p10 : Int) (p11 p12 : Int) (p13 p14 : Int) (p15 : List D_A3) (p16 : Int) : L_l1Cur_someHeap_6 n F_l1Cur_one F_spec_l2Sides F_l1Cur_pick F_l1Cur_among F_spec_l2Empty F_spec_l2All F_spec_OtherCells F_spec_l2Stack F_spec_l2Heights (m0 + 1) p0 p1 p2 p3 p4 p5 p6 p7 p8 p9 p10 p11 p12 p13 p14 p15 p16 = 
 bif decide (p16 < (List.length p15 : Int)) then
 Option.bind (F_l1Cur_one ((p8, (p9, (p10, ()))), p14, ())) fun r1 =>
 bif r1.1.1 then
 bif inB p16 (List.length p15) then
 bif (decide (((List.length p7) + (List.length ([(nth T_A3 p15 p16)] : List D_A3))) * 24 ≤ 140737488355328) && decide (((List.length p7) + (List.length ([(nth T_A3 p15 p16)] : List D_A3))) ≤ 140737488355328)) then
 L_l1Cur_someHeap_6 n F_l1Cur_one F_spec_l2Sides F_l1Cur_pick F_l1Cur_among F_spec_l2Empty F_spec_l2All F_spec_OtherCells F_spec_l2Stack F_spec_l2Heights m0 p0 p1 p2 p3 p4 p5 p6 (p7 ++ ([(nth T_A3 p15 p16)] : List D_A3)) p8 r1.2.1.2.1 r1.2.1.2.2.1 p11 p12 p13 p14 p15 (IntKind.wrap .i64 (p16 + 1))
 else none
 else none
 else
 L_l1Cur_someHeap_6 n F_l1Cur_one F_spec_l2Sides F_l1Cur_pick F_l1Cur_among F_spec_l2Empty F_spec_l2All F_spec_OtherCells F_spec_l2Stack F_spec_l2Heights m0 p0 p1 p2 p3 p4 p5 p6 p7 p8 r1.2.1.2.1 r1.2.1.2.2.1 p11 p12 p13 p14 p15 (IntKind.wrap .i64 (p16 + 1))
 else
 Option.bind (F_l1Cur_pick ((p8, (p9, (p10, ()))), 12, ())) fun r1 =>
 bif decide (r1.1.1 = 0) then
 Option.bind (F_spec_OtherCells ((p4, (p5, (p6, (p7, ())))), ())) fun r3 =>
 some ((r3.1, ()), ((p8, r1.2.1.2), ()))
 else
 bif decide (r1.1.1 = 1) then
 Option.bind (F_spec_l2Heights ((p4, (p5, (p6, (p7, ())))), ())) fun r4 =>
 Option.bind (F_spec_l2Stack (p11, p12, p13, r4.1, ())) fun r5 =>
 some ((r5.1, ()), ((p8, r1.2.1.2), ()))
 else
 some (((p4, (p5, (p6, (p7, ())))), ()), ((p8, r1.2.1.2), ())) := by kernel_rfl
noncomputable def P_l1Cur_someHeap : Ft_l1Cur_someHeap := hid (runFM (X_l1Cur_someHeap N P_l1Cur_one P_spec_l2Sides P_l1Cur_pick P_l1Cur_among P_spec_l2Empty P_spec_l2All P_spec_OtherCells P_spec_l2Stack P_spec_l2Heights) B_l1Cur_someHeap As_l1Cur_someHeap R_l1Cur_someHeap M_l1Cur_someHeap)
theorem h_l1Cur_someHeap : P_l1Cur_someHeap = runFM (X_l1Cur_someHeap N P_l1Cur_one P_spec_l2Sides P_l1Cur_pick P_l1Cur_among P_spec_l2Empty P_spec_l2All P_spec_OtherCells P_spec_l2Stack P_spec_l2Heights) B_l1Cur_someHeap As_l1Cur_someHeap R_l1Cur_someHeap M_l1Cur_someHeap := hid_eq _
noncomputable def C_l1Cur_someHeap : MContract := ⟨As_l1Cur_someHeap, R_l1Cur_someHeap, M_l1Cur_someHeap, P_l1Cur_someHeap⟩
theorem s_l1Cur_someHeap : SoundM Tryz.prog n0 GG 110 C_l1Cur_someHeap := by
 unfold C_l1Cur_someHeap; rw [h_l1Cur_someHeap]
 exact sound_of_runM (fn := Tryz.f110) hmix hstable (tyOK_of ttOK) (hglob (X_l1Cur_someHeap N P_l1Cur_one P_spec_l2Sides P_l1Cur_pick P_l1Cur_among P_spec_l2Empty P_spec_l2All P_spec_OtherCells P_spec_l2Stack P_spec_l2Heights)) (conOK_of (X := X_l1Cur_someHeap N P_l1Cur_one P_spec_l2Sides P_l1Cur_pick P_l1Cur_among P_spec_l2Empty P_spec_l2All P_spec_OtherCells P_spec_l2Stack P_spec_l2Heights) ⟨s_spec_l2Sides, s_spec_l2Empty, s_spec_l2All, s_spec_OtherCells, s_spec_l2Stack, s_spec_l2Heights, trivial⟩) (mconOK_of (X := X_l1Cur_someHeap N P_l1Cur_one P_spec_l2Sides P_l1Cur_pick P_l1Cur_among P_spec_l2Empty P_spec_l2All P_spec_OtherCells P_spec_l2Stack P_spec_l2Heights) ⟨s_l1Cur_one, s_l1Cur_pick, s_l1Cur_among, trivial⟩) (by kernel_rfl) (by kernel_rfl) (by kernel_rfl) (by kernel_rfl) (by kernel_rfl) (of_decide_eq_true (by kernel_rfl)) (by kernel_rfl) (by rfl)
noncomputable def l_l1Cur_someHeap_6 : Nat → Int → Int → Int → (List D_A3) → Int → Int → Int → (List D_A3) → (List Int) → Int → Int → Int → Int → Int → Int → (List D_A3) → Int → Option (denL R_l1Cur_someHeap × denM As_l1Cur_someHeap) := hid (fun m0 p0 p1 p2 p3 p4 p5 p6 p7 p8 p9 p10 p11 p12 p13 p14 p15 p16 => L_l1Cur_someHeap_6 N P_l1Cur_one P_spec_l2Sides P_l1Cur_pick P_l1Cur_among P_spec_l2Empty P_spec_l2All P_spec_OtherCells P_spec_l2Stack P_spec_l2Heights m0 p0 p1 p2 p3 p4 p5 p6 p7 p8 p9 p10 p11 p12 p13 p14 p15 p16)
theorem h_l1Cur_someHeap_6 : l_l1Cur_someHeap_6 = fun m0 p0 p1 p2 p3 p4 p5 p6 p7 p8 p9 p10 p11 p12 p13 p14 p15 p16 => L_l1Cur_someHeap_6 N P_l1Cur_one P_spec_l2Sides P_l1Cur_pick P_l1Cur_among P_spec_l2Empty P_spec_l2All P_spec_OtherCells P_spec_l2Stack P_spec_l2Heights m0 p0 p1 p2 p3 p4 p5 p6 p7 p8 p9 p10 p11 p12 p13 p14 p15 p16 := hid_eq _
theorem p_l1Cur_someHeap (a0 : D_l1Cur) (a1 a2 a3 : Int) : P_l1Cur_someHeap (a0, a1, a2, a3, ()) = 
 Option.bind (P_spec_l2Empty (a1, a2, a3, ())) fun r0 =>
 Option.bind (P_l1Cur_among (a0, ([2, 3, 2, 4] : List Int), ())) fun r1 =>
 Option.bind (P_spec_l2Sides (a1, a2, a3, ())) fun r2 =>
 bif !r2.1 then
 some ((r0.1, ()), ((a0.1, r1.2.1.2), ()))
 else
 Option.bind (P_spec_l2All (r0.1, ())) fun r4 =>
 l_l1Cur_someHeap_6 N 0 0 0 ([] : List D_A3) r0.1.1 r0.1.2.1 r0.1.2.2.1 r0.1.2.2.2.1 a0.1 r1.2.1.2.1 r1.2.1.2.2.1 a1 a2 a3 r1.1.1 r4.1 0 := by
 rewrite [h_l1Cur_someHeap, h_l1Cur_someHeap_6]
 exact e_l1Cur_someHeap N P_l1Cur_one P_spec_l2Sides P_l1Cur_pick P_l1Cur_among P_spec_l2Empty P_spec_l2All P_spec_OtherCells P_spec_l2Stack P_spec_l2Heights a0 a1 a2 a3
theorem q_l1Cur_someHeap_6 (m0 : Nat) (p0 p1 p2 : Int) (p3 : List D_A3) (p4 p5 p6 : Int) (p7 : List D_A3) (p8 : List Int) (p9 p10 : Int) (p11 p12 : Int) (p13 p14 : Int) (p15 : List D_A3) (p16 : Int) : l_l1Cur_someHeap_6 (m0 + 1) p0 p1 p2 p3 p4 p5 p6 p7 p8 p9 p10 p11 p12 p13 p14 p15 p16 = 
 bif decide (p16 < (List.length p15 : Int)) then
 Option.bind (P_l1Cur_one ((p8, (p9, (p10, ()))), p14, ())) fun r1 =>
 bif r1.1.1 then
 bif inB p16 (List.length p15) then
 bif (decide (((List.length p7) + (List.length ([(nth T_A3 p15 p16)] : List D_A3))) * 24 ≤ 140737488355328) && decide (((List.length p7) + (List.length ([(nth T_A3 p15 p16)] : List D_A3))) ≤ 140737488355328)) then
 l_l1Cur_someHeap_6 m0 p0 p1 p2 p3 p4 p5 p6 (p7 ++ ([(nth T_A3 p15 p16)] : List D_A3)) p8 r1.2.1.2.1 r1.2.1.2.2.1 p11 p12 p13 p14 p15 (IntKind.wrap .i64 (p16 + 1))
 else none
 else none
 else
 l_l1Cur_someHeap_6 m0 p0 p1 p2 p3 p4 p5 p6 p7 p8 r1.2.1.2.1 r1.2.1.2.2.1 p11 p12 p13 p14 p15 (IntKind.wrap .i64 (p16 + 1))
 else
 Option.bind (P_l1Cur_pick ((p8, (p9, (p10, ()))), 12, ())) fun r1 =>
 bif decide (r1.1.1 = 0) then
 Option.bind (P_spec_OtherCells ((p4, (p5, (p6, (p7, ())))), ())) fun r3 =>
 some ((r3.1, ()), ((p8, r1.2.1.2), ()))
 else
 bif decide (r1.1.1 = 1) then
 Option.bind (P_spec_l2Heights ((p4, (p5, (p6, (p7, ())))), ())) fun r4 =>
 Option.bind (P_spec_l2Stack (p11, p12, p13, r4.1, ())) fun r5 =>
 some ((r5.1, ()), ((p8, r1.2.1.2), ()))
 else
 some (((p4, (p5, (p6, (p7, ())))), ()), ((p8, r1.2.1.2), ())) := by
 rewrite [h_l1Cur_someHeap_6]
 exact e_l1Cur_someHeap_6 N P_l1Cur_one P_spec_l2Sides P_l1Cur_pick P_l1Cur_among P_spec_l2Empty P_spec_l2All P_spec_OtherCells P_spec_l2Stack P_spec_l2Heights m0 p0 p1 p2 p3 p4 p5 p6 p7 p8 p9 p10 p11 p12 p13 p14 p15 p16

abbrev As_l1Cur_heap : List ATy := [.lptr T_l1Cur]
abbrev R_l1Cur_heap : List (Bool × Ty) := [(true, T_Heap)]
abbrev M_l1Cur_heap : List RMode := [.own 38]
abbrev Ft_l1Cur_heap : Type := D_l1Cur × Unit → Option ((D_Heap × Unit) × (D_l1Cur × Unit))
noncomputable def X_l1Cur_heap (n : Nat) (F_l1Cur_pick : Ft_l1Cur_pick) (F_l1Cur_sides : Ft_l1Cur_sides) (F_l1Cur_someHeap : Ft_l1Cur_someHeap) : Ctx := { types := TT, globals := [], con := [], mcon := [(85, ⟨As_l1Cur_pick, R_l1Cur_pick, M_l1Cur_pick, F_l1Cur_pick⟩), (100, ⟨As_l1Cur_sides, R_l1Cur_sides, M_l1Cur_sides, F_l1Cur_sides⟩), (110, ⟨As_l1Cur_someHeap, R_l1Cur_someHeap, M_l1Cur_someHeap, F_l1Cur_someHeap⟩)], keep := [], results := [.cell 2 26], ntmps := 56, n := n }
noncomputable def B_l1Cur_heap : Code := (Tryz.f77.body).getD .skip
theorem e_l1Cur_heap (n : Nat) (F_l1Cur_pick : Ft_l1Cur_pick) (F_l1Cur_sides : Ft_l1Cur_sides) (F_l1Cur_someHeap : Ft_l1Cur_someHeap) (a0 : D_l1Cur) : runFM (X_l1Cur_heap n F_l1Cur_pick F_l1Cur_sides F_l1Cur_someHeap) B_l1Cur_heap As_l1Cur_heap R_l1Cur_heap M_l1Cur_heap (a0, ()) = 
 Option.bind (F_l1Cur_sides (a0, ())) fun r0 =>
 Option.bind (F_l1Cur_someHeap ((a0.1, r0.2.1.2), r0.1.1, r0.1.2.1, r0.1.2.2.1, ())) fun r1 =>
 Option.bind (F_l1Cur_pick ((a0.1, r1.2.1.2), 60, ())) fun r2 =>
 bif decide (r2.1.1 = 0) then
 bif (decide (((List.length r1.1.1.2.2.2.1) + (List.length ([(r0.1.1, (0, (0, ())))] : List D_A3))) * 24 ≤ 140737488355328) && decide (((List.length r1.1.1.2.2.2.1) + (List.length ([(r0.1.1, (0, (0, ())))] : List D_A3))) ≤ 140737488355328)) then
 some (((r1.1.1.1, (r1.1.1.2.1, (r1.1.1.2.2.1, ((r1.1.1.2.2.2.1 ++ ([(r0.1.1, (0, (0, ())))] : List D_A3)), ())))), ()), ((a0.1, r2.2.1.2), ()))
 else none
 else
 bif decide (r2.1.1 = 1) then
 bif (decide (((List.length r1.1.1.2.2.2.1) + (List.length ([((-1), (0, (0, ())))] : List D_A3))) * 24 ≤ 140737488355328) && decide (((List.length r1.1.1.2.2.2.1) + (List.length ([((-1), (0, (0, ())))] : List D_A3))) ≤ 140737488355328)) then
 some (((r1.1.1.1, (r1.1.1.2.1, (r1.1.1.2.2.1, ((r1.1.1.2.2.2.1 ++ ([((-1), (0, (0, ())))] : List D_A3)), ())))), ()), ((a0.1, r2.2.1.2), ()))
 else none
 else
 bif decide (r2.1.1 = 2) then
 bif decide ((List.length r1.1.1.2.2.2.1 : Int) > 0) then
 bif inB 0 (List.length r1.1.1.2.2.2.1) then
 bif (decide (((List.length r1.1.1.2.2.2.1) + (List.length ([(nth T_A3 r1.1.1.2.2.2.1 0)] : List D_A3))) * 24 ≤ 140737488355328) && decide (((List.length r1.1.1.2.2.2.1) + (List.length ([(nth T_A3 r1.1.1.2.2.2.1 0)] : List D_A3))) ≤ 140737488355328)) then
 some (((r1.1.1.1, (r1.1.1.2.1, (r1.1.1.2.2.1, ((r1.1.1.2.2.2.1 ++ ([(nth T_A3 r1.1.1.2.2.2.1 0)] : List D_A3)), ())))), ()), ((a0.1, r2.2.1.2), ()))
 else none
 else none
 else
 some ((r1.1.1, ()), ((a0.1, r2.2.1.2), ()))
 else
 bif decide (r2.1.1 = 3) then
 some (((0, (0, (0, (([] : List D_A3), ())))), ()), ((a0.1, r2.2.1.2), ()))
 else
 some ((r1.1.1, ()), ((a0.1, r2.2.1.2), ())) := by kernel_rfl
noncomputable def P_l1Cur_heap : Ft_l1Cur_heap := hid (runFM (X_l1Cur_heap N P_l1Cur_pick P_l1Cur_sides P_l1Cur_someHeap) B_l1Cur_heap As_l1Cur_heap R_l1Cur_heap M_l1Cur_heap)
theorem h_l1Cur_heap : P_l1Cur_heap = runFM (X_l1Cur_heap N P_l1Cur_pick P_l1Cur_sides P_l1Cur_someHeap) B_l1Cur_heap As_l1Cur_heap R_l1Cur_heap M_l1Cur_heap := hid_eq _
noncomputable def C_l1Cur_heap : MContract := ⟨As_l1Cur_heap, R_l1Cur_heap, M_l1Cur_heap, P_l1Cur_heap⟩
theorem s_l1Cur_heap : SoundM Tryz.prog n0 GG 77 C_l1Cur_heap := by
 unfold C_l1Cur_heap; rw [h_l1Cur_heap]
 exact sound_of_runM (fn := Tryz.f77) hmix hstable (tyOK_of ttOK) (hglob (X_l1Cur_heap N P_l1Cur_pick P_l1Cur_sides P_l1Cur_someHeap)) (conOK_of (X := X_l1Cur_heap N P_l1Cur_pick P_l1Cur_sides P_l1Cur_someHeap) trivial) (mconOK_of (X := X_l1Cur_heap N P_l1Cur_pick P_l1Cur_sides P_l1Cur_someHeap) ⟨s_l1Cur_pick, s_l1Cur_sides, s_l1Cur_someHeap, trivial⟩) (by kernel_rfl) (by kernel_rfl) (by kernel_rfl) (by kernel_rfl) (by kernel_rfl) (of_decide_eq_true (by kernel_rfl)) (by kernel_rfl) (by rfl)
theorem p_l1Cur_heap (a0 : D_l1Cur) : P_l1Cur_heap (a0, ()) = 
 Option.bind (P_l1Cur_sides (a0, ())) fun r0 =>
 Option.bind (P_l1Cur_someHeap ((a0.1, r0.2.1.2), r0.1.1, r0.1.2.1, r0.1.2.2.1, ())) fun r1 =>
 Option.bind (P_l1Cur_pick ((a0.1, r1.2.1.2), 60, ())) fun r2 =>
 bif decide (r2.1.1 = 0) then
 bif (decide (((List.length r1.1.1.2.2.2.1) + (List.length ([(r0.1.1, (0, (0, ())))] : List D_A3))) * 24 ≤ 140737488355328) && decide (((List.length r1.1.1.2.2.2.1) + (List.length ([(r0.1.1, (0, (0, ())))] : List D_A3))) ≤ 140737488355328)) then
 some (((r1.1.1.1, (r1.1.1.2.1, (r1.1.1.2.2.1, ((r1.1.1.2.2.2.1 ++ ([(r0.1.1, (0, (0, ())))] : List D_A3)), ())))), ()), ((a0.1, r2.2.1.2), ()))
 else none
 else
 bif decide (r2.1.1 = 1) then
 bif (decide (((List.length r1.1.1.2.2.2.1) + (List.length ([((-1), (0, (0, ())))] : List D_A3))) * 24 ≤ 140737488355328) && decide (((List.length r1.1.1.2.2.2.1) + (List.length ([((-1), (0, (0, ())))] : List D_A3))) ≤ 140737488355328)) then
 some (((r1.1.1.1, (r1.1.1.2.1, (r1.1.1.2.2.1, ((r1.1.1.2.2.2.1 ++ ([((-1), (0, (0, ())))] : List D_A3)), ())))), ()), ((a0.1, r2.2.1.2), ()))
 else none
 else
 bif decide (r2.1.1 = 2) then
 bif decide ((List.length r1.1.1.2.2.2.1 : Int) > 0) then
 bif inB 0 (List.length r1.1.1.2.2.2.1) then
 bif (decide (((List.length r1.1.1.2.2.2.1) + (List.length ([(nth T_A3 r1.1.1.2.2.2.1 0)] : List D_A3))) * 24 ≤ 140737488355328) && decide (((List.length r1.1.1.2.2.2.1) + (List.length ([(nth T_A3 r1.1.1.2.2.2.1 0)] : List D_A3))) ≤ 140737488355328)) then
 some (((r1.1.1.1, (r1.1.1.2.1, (r1.1.1.2.2.1, ((r1.1.1.2.2.2.1 ++ ([(nth T_A3 r1.1.1.2.2.2.1 0)] : List D_A3)), ())))), ()), ((a0.1, r2.2.1.2), ()))
 else none
 else none
 else
 some ((r1.1.1, ()), ((a0.1, r2.2.1.2), ()))
 else
 bif decide (r2.1.1 = 3) then
 some (((0, (0, (0, (([] : List D_A3), ())))), ()), ((a0.1, r2.2.1.2), ()))
 else
 some ((r1.1.1, ()), ((a0.1, r2.2.1.2), ())) := by
 rewrite [h_l1Cur_heap]
 exact e_l1Cur_heap N P_l1Cur_pick P_l1Cur_sides P_l1Cur_someHeap a0

abbrev As_spec_l2Without : List ATy := [.data true T_Heap, .data true T_A3]
abbrev R_spec_l2Without : List (Bool × Ty) := [(true, T_Heap)]
abbrev M_spec_l2Without : List RMode := [.own 38]
abbrev Ft_spec_l2Without : Type := D_Heap × D_A3 × Unit → Option (D_Heap × Unit)
noncomputable def X_spec_l2Without (n : Nat) (F_spec_l2Empty : Ft_spec_l2Empty) : Ctx := { types := TT, globals := [], con := [(94, ⟨As_spec_l2Empty, R_spec_l2Empty, M_spec_l2Empty, F_spec_l2Empty⟩)], keep := [(3, ⟨[.box 2, .box 3, .box 4, .box 5, .tmp 2, .tmp 3, .tmp 4, .tmp 5, .tmp 6], []⟩)], results := [.cell 4 26], ntmps := 39, n := n }
noncomputable def B_spec_l2Without : Code := (Tryz.f89.body).getD .skip
noncomputable def L_spec_l2Without_3 (n : Nat) (F_spec_l2Empty : Ft_spec_l2Empty) (m0 : Nat) (p0 p1 p2 : Int) (p3 : List D_A3) (p4 p5 : Int) (p6 p7 : Int) (p8 p9 : Int) (p10 : List D_A3) (p11 p12 p13 : Int) (p14 : List D_A3) (p15 : Int) : Option (denL R_spec_l2Without) := loopF (X_spec_l2Without n F_spec_l2Empty) B_spec_l2Without R_spec_l2Without M_spec_l2Without 3 [m0] [(.ver, .num 1), (.box 2, .box 0 false [.int .i64 p0, .int .i64 p1, .int .i64 p2, .imm T_A3 p3 (some 3)]), (.box 3, .box 0 false [.int .i64 p4, .int .i64 p5, .int .i64 p6]), (.box 4, .box 0 false [.int .i64 p7, .int .i64 p8, .int .i64 p9, .own 38 T_A3 0 p10]), (.box 5, .box 0 false [.int .i64 p11, .int .i64 p12, .int .i64 p13, .own 38 T_A3 0 p14]), (.tmp 2, .val false [.addr 2 0 0]), (.tmp 3, .val false [.addr 3 0 0]), (.tmp 4, .val false [.addr 4 0 0]), (.tmp 5, .val false [.addr 5 0 0]), (.tmp 6, .val false [.int .i64 p15])]
theorem e_spec_l2Without (n : Nat) (F_spec_l2Empty : Ft_spec_l2Empty) (a0 : D_Heap) (a1 : D_A3) : runF (X_spec_l2Without n F_spec_l2Empty) B_spec_l2Without As_spec_l2Without R_spec_l2Without M_spec_l2Without (a0, a1, ()) = 
 Option.bind (F_spec_l2Empty (a0.1, a0.2.1, a0.2.2.1, ())) fun r0 =>
 L_spec_l2Without_3 n F_spec_l2Empty n a0.1 a0.2.1 a0.2.2.1 a0.2.2.2.1 a1.1 a1.2.1 a1.2.2.1 0 0 0 ([] : List D_A3) r0.1.1 r0.1.2.1 r0.1.2.2.1 r0.1.2.2.2.1 0 := by kernel_rfl
theorem e_spec_l2Without_3 (n : Nat) (F_spec_l2Empty : Ft_spec_l2Empty) (m0 : Nat) (p0 p1 p2 : Int) (p3 : List D_A3) (p4 p5 : Int) (p6 p7 : Int) (p8 p9 : Int) (p10 : List D_A3) (p11 p12 p13 : Int) (p14 : List D_A3) (p15 : Int) : L_spec_l2Without_3 n F_spec_l2Empty (m0 + 1) p0 p1 p2 p3 p4 p5 p6 p7 p8 p9 p10 p11 p12 p13 p14 p15 = 
 bif decide (p15 < (List.length p3 : Int)) then
 bif inB p15 (List.length p3) then
 bif !(decide (((nth T_A3 p3 p15)).1 = p4) && (decide ((((nth T_A3 p3 p15)).2).1 = p5) && (decide (((((nth T_A3 p3 p15)).2).2).1 = p6) && true))) then
 bif inB p15 (List.length p3) then
 bif (decide (((List.length p14) + (List.length ([(nth T_A3 p3 p15)] : List D_A3))) * 24 ≤ 140737488355328) && decide (((List.length p14) + (List.length ([(nth T_A3 p3 p15)] : List D_A3))) ≤ 140737488355328)) then
 L_spec_l2Without_3 n F_spec_l2Empty m0 p0 p1 p2 p3 p4 p5 p6 p7 p8 p9 p10 p11 p12 p13 (p14 ++ ([(nth T_A3 p3 p15)] : List D_A3)) (IntKind.wrap .i64 (p15 + 1))
 else none
 else none
 else
 L_spec_l2Without_3 n F_spec_l2Empty m0 p0 p1 p2 p3 p4 p5 p6 p7 p8 p9 p10 p11 p12 p13 p14 (IntKind.wrap .i64 (p15 + 1))
 else none
 else
 some ((p11, (p12, (p13, (p14, ())))), ()) := by kernel_rfl
noncomputable def P_spec_l2Without : Ft_spec_l2Without := hid (runF (X_spec_l2Without N P_spec_l2Empty) B_spec_l2Without As_spec_l2Without R_spec_l2Without M_spec_l2Without)
theorem h_spec_l2Without : P_spec_l2Without = runF (X_spec_l2Without N P_spec_l2Empty) B_spec_l2Without As_spec_l2Without R_spec_l2Without M_spec_l2Without := hid_eq _
noncomputable def C_spec_l2Without : Contract := ⟨As_spec_l2Without, R_spec_l2Without, M_spec_l2Without, P_spec_l2Without⟩
theorem s_spec_l2Without : Sound Tryz.prog GG 89 C_spec_l2Without := by
 unfold C_spec_l2Without; rw [h_spec_l2Without]
 exact sound_of_run (fn := Tryz.f89) hmix hstable (tyOK_of ttOK) (hglob (X_spec_l2Without N P_spec_l2Empty)) (conOK_of (X := X_spec_l2Without N P_spec_l2Empty) ⟨s_spec_l2Empty, trivial⟩) (mconOK_of (X := X_spec_l2Without N P_spec_l2Empty) trivial) (by kernel_rfl) (by kernel_rfl) (by kernel_rfl) (by kernel_rfl) (by kernel_rfl) (of_decide_eq_true (by kernel_rfl))
noncomputable def l_spec_l2Without_3 : Nat → Int → Int → Int → (List D_A3) → Int → Int → Int → Int → Int → Int → (List D_A3) → Int → Int → Int → (List D_A3) → Int → Option (denL R_spec_l2Without) := hid (fun m0 p0 p1 p2 p3 p4 p5 p6 p7 p8 p9 p10 p11 p12 p13 p14 p15 => L_spec_l2Without_3 N P_spec_l2Empty m0 p0 p1 p2 p3 p4 p5 p6 p7 p8 p9 p10 p11 p12 p13 p14 p15)
theorem h_spec_l2Without_3 : l_spec_l2Without_3 = fun m0 p0 p1 p2 p3 p4 p5 p6 p7 p8 p9 p10 p11 p12 p13 p14 p15 => L_spec_l2Without_3 N P_spec_l2Empty m0 p0 p1 p2 p3 p4 p5 p6 p7 p8 p9 p10 p11 p12 p13 p14 p15 := hid_eq _
theorem p_spec_l2Without (a0 : D_Heap) (a1 : D_A3) : P_spec_l2Without (a0, a1, ()) = 
 Option.bind (P_spec_l2Empty (a0.1, a0.2.1, a0.2.2.1, ())) fun r0 =>
 l_spec_l2Without_3 N a0.1 a0.2.1 a0.2.2.1 a0.2.2.2.1 a1.1 a1.2.1 a1.2.2.1 0 0 0 ([] : List D_A3) r0.1.1 r0.1.2.1 r0.1.2.2.1 r0.1.2.2.2.1 0 := by
 rewrite [h_spec_l2Without, h_spec_l2Without_3]
 exact e_spec_l2Without N P_spec_l2Empty a0 a1
theorem q_spec_l2Without_3 (m0 : Nat) (p0 p1 p2 : Int) (p3 : List D_A3) (p4 p5 : Int) (p6 p7 : Int) (p8 p9 : Int) (p10 : List D_A3) (p11 p12 p13 : Int) (p14 : List D_A3) (p15 : Int) : l_spec_l2Without_3 (m0 + 1) p0 p1 p2 p3 p4 p5 p6 p7 p8 p9 p10 p11 p12 p13 p14 p15 = 
 bif decide (p15 < (List.length p3 : Int)) then
 bif inB p15 (List.length p3) then
 bif !(decide (((nth T_A3 p3 p15)).1 = p4) && (decide ((((nth T_A3 p3 p15)).2).1 = p5) && (decide (((((nth T_A3 p3 p15)).2).2).1 = p6) && true))) then
 bif inB p15 (List.length p3) then
 bif (decide (((List.length p14) + (List.length ([(nth T_A3 p3 p15)] : List D_A3))) * 24 ≤ 140737488355328) && decide (((List.length p14) + (List.length ([(nth T_A3 p3 p15)] : List D_A3))) ≤ 140737488355328)) then
 l_spec_l2Without_3 m0 p0 p1 p2 p3 p4 p5 p6 p7 p8 p9 p10 p11 p12 p13 (p14 ++ ([(nth T_A3 p3 p15)] : List D_A3)) (IntKind.wrap .i64 (p15 + 1))
 else none
 else none
 else
 l_spec_l2Without_3 m0 p0 p1 p2 p3 p4 p5 p6 p7 p8 p9 p10 p11 p12 p13 p14 (IntKind.wrap .i64 (p15 + 1))
 else none
 else
 some ((p11, (p12, (p13, (p14, ())))), ()) := by
 rewrite [h_spec_l2Without_3]
 exact e_spec_l2Without_3 N P_spec_l2Empty m0 p0 p1 p2 p3 p4 p5 p6 p7 p8 p9 p10 p11 p12 p13 p14 p15

abbrev As_l1Cur_hollow : List ATy := [.lptr T_l1Cur]
abbrev R_l1Cur_hollow : List (Bool × Ty) := [(true, T_Heap)]
abbrev M_l1Cur_hollow : List RMode := [.own 38]
abbrev Ft_l1Cur_hollow : Type := D_l1Cur × Unit → Option ((D_Heap × Unit) × (D_l1Cur × Unit))
noncomputable def X_l1Cur_hollow (n : Nat) (F_l1Cur_one : Ft_l1Cur_one) (F_spec_l2Box : Ft_spec_l2Box) (F_l1Cur_heap : Ft_l1Cur_heap) (F_l1Cur_pick : Ft_l1Cur_pick) (F_l1Cur_among : Ft_l1Cur_among) (F_spec_l2Without : Ft_spec_l2Without) (F_spec_l2Long : Ft_spec_l2Long) : Ctx := { types := TT, globals := [], con := [(68, ⟨As_spec_l2Box, R_spec_l2Box, M_spec_l2Box, F_spec_l2Box⟩), (89, ⟨As_spec_l2Without, R_spec_l2Without, M_spec_l2Without, F_spec_l2Without⟩), (90, ⟨As_spec_l2Long, R_spec_l2Long, M_spec_l2Long, F_spec_l2Long⟩)], mcon := [(46, ⟨As_l1Cur_one, R_l1Cur_one, M_l1Cur_one, F_l1Cur_one⟩), (77, ⟨As_l1Cur_heap, R_l1Cur_heap, M_l1Cur_heap, F_l1Cur_heap⟩), (85, ⟨As_l1Cur_pick, R_l1Cur_pick, M_l1Cur_pick, F_l1Cur_pick⟩), (88, ⟨As_l1Cur_among, R_l1Cur_among, M_l1Cur_among, F_l1Cur_among⟩)], keep := [(5, ⟨[.box 2, .box 3, .box 1000000, .tmp 0, .tmp 2, .tmp 3, .tmp 4], []⟩), (12, ⟨[.box 2, .box 3, .box 5, .box 1000000, .tmp 0, .tmp 2, .tmp 3, .tmp 4, .tmp 5, .tmp 6, .tmp 7], []⟩)], results := [.cell 2 26], ntmps := 68, n := n }
noncomputable def B_l1Cur_hollow : Code := (Tryz.f45.body).getD .skip
noncomputable def L_l1Cur_hollow_5 (n : Nat) (F_l1Cur_one : Ft_l1Cur_one) (F_spec_l2Box : Ft_spec_l2Box) (F_l1Cur_heap : Ft_l1Cur_heap) (F_l1Cur_pick : Ft_l1Cur_pick) (F_l1Cur_among : Ft_l1Cur_among) (F_spec_l2Without : Ft_spec_l2Without) (F_spec_l2Long : Ft_spec_l2Long) (m0 : Nat) (p0 p1 p2 : Int) (p3 : List D_A3) (p4 p5 p6 : Int) (p7 : List D_A3) (p8 : List Int) (p9 p10 p11 : Int) : Option (denL R_l1Cur_hollow × denM As_l1Cur_hollow) := loopFM (X_l1Cur_hollow n F_l1Cur_one F_spec_l2Box F_l1Cur_heap F_l1Cur_pick F_l1Cur_among F_spec_l2Without F_spec_l2Long) B_l1Cur_hollow As_l1Cur_hollow R_l1Cur_hollow M_l1Cur_hollow 5 [m0] [(.ver, .num 1), (.box 2, .box 0 false [.int .i64 p0, .int .i64 p1, .int .i64 p2, .own 38 T_A3 0 p3]), (.box 3, .box 0 false [.int .i64 p4, .int .i64 p5, .int .i64 p6, .own 38 T_A3 0 p7]), (.box 1000000, .box 0 false [.imm (.int .u8) p8 (some 1), .int .i64 p9, .int .u64 p10]), (.tmp 0, .val false [.addr 1000000 0 0]), (.tmp 2, .val false [.addr 2 0 0]), (.tmp 3, .val false [.addr 3 0 0]), (.tmp 4, .val false [.int .i64 p11])]
noncomputable def L_l1Cur_hollow_12 (n : Nat) (F_l1Cur_one : Ft_l1Cur_one) (F_spec_l2Box : Ft_spec_l2Box) (F_l1Cur_heap : Ft_l1Cur_heap) (F_l1Cur_pick : Ft_l1Cur_pick) (F_l1Cur_among : Ft_l1Cur_among) (F_spec_l2Without : Ft_spec_l2Without) (F_spec_l2Long : Ft_spec_l2Long) (m0 m1 : Nat) (p0 p1 p2 : Int) (p3 : List D_A3) (p4 p5 p6 : Int) (p7 : List D_A3) (p8 p9 p10 : Int) (p11 : List Int) (p12 p13 : Int) (p14 p15 p16 : Int) : Option (denL R_l1Cur_hollow × denM As_l1Cur_hollow) := loopFM (X_l1Cur_hollow n F_l1Cur_one F_spec_l2Box F_l1Cur_heap F_l1Cur_pick F_l1Cur_among F_spec_l2Without F_spec_l2Long) B_l1Cur_hollow As_l1Cur_hollow R_l1Cur_hollow M_l1Cur_hollow 12 [m0, m1] [(.ver, .num 1), (.box 2, .box 0 false [.int .i64 p0, .int .i64 p1, .int .i64 p2, .own 38 T_A3 0 p3]), (.box 3, .box 0 false [.int .i64 p4, .int .i64 p5, .int .i64 p6, .own 38 T_A3 0 p7]), (.box 5, .box 0 false [.int .i64 p8, .int .i64 p9, .int .i64 p10]), (.box 1000000, .box 0 false [.imm (.int .u8) p11 (some 1), .int .i64 p12, .int .u64 p13]), (.tmp 0, .val false [.addr 1000000 0 0]), (.tmp 2, .val false [.addr 2 0 0]), (.tmp 3, .val false [.addr 3 0 0]), (.tmp 4, .val false [.int .i64 p14]), (.tmp 5, .val false [.addr 5 0 0]), (.tmp 6, .val false [.int .i64 p15]), (.tmp 7, .val false [.int .i64 p16])]
theorem e_l1Cur_hollow (n : Nat) (F_l1Cur_one : Ft_l1Cur_one) (F_spec_l2Box : Ft_spec_l2Box) (F_l1Cur_heap : Ft_l1Cur_heap) (F_l1Cur_pick : Ft_l1Cur_pick) (F_l1Cur_among : Ft_l1Cur_among) (F_spec_l2Without : Ft_spec_l2Without) (F_spec_l2Long : Ft_spec_l2Long) (a0 : D_l1Cur) : runFM (X_l1Cur_hollow n F_l1Cur_one F_spec_l2Box F_l1Cur_heap F_l1Cur_pick F_l1Cur_among F_spec_l2Without F_spec_l2Long) B_l1Cur_hollow As_l1Cur_hollow R_l1Cur_hollow M_l1Cur_hollow (a0, ()) = 
 Option.bind (F_l1Cur_one (a0, 2, ())) fun r0 =>
 bif r0.1.1 then
 Option.bind (F_l1Cur_heap ((a0.1, r0.2.1.2), ())) fun r2 =>
 some ((r2.1.1, ()), ((a0.1, r2.2.1.2), ()))
 else
 Option.bind (F_l1Cur_among ((a0.1, r0.2.1.2), ([3, 4, 3] : List Int), ())) fun r2 =>
 Option.bind (F_l1Cur_among ((a0.1, r2.2.1.2), ([3, 4, 3] : List Int), ())) fun r3 =>
 Option.bind (F_l1Cur_among ((a0.1, r3.2.1.2), ([3, 4, 3] : List Int), ())) fun r4 =>
 Option.bind (F_spec_l2Box (r2.1.1, r3.1.1, r4.1.1, ())) fun r5 =>
 Option.bind (F_l1Cur_pick ((a0.1, r4.2.1.2), 5, ())) fun r6 =>
 L_l1Cur_hollow_5 n F_l1Cur_one F_spec_l2Box F_l1Cur_heap F_l1Cur_pick F_l1Cur_among F_spec_l2Without F_spec_l2Long n 0 0 0 ([] : List D_A3) r5.1.1 r5.1.2.1 r5.1.2.2.1 r5.1.2.2.2.1 a0.1 r6.2.1.2.1 r6.2.1.2.2.1 r6.1.1 := by kernel_rfl
theorem e_l1Cur_hollow_5 (n : Nat) (F_l1Cur_one : Ft_l1Cur_one) (F_spec_l2Box : Ft_spec_l2Box) (F_l1Cur_heap : Ft_l1Cur_heap) (F_l1Cur_pick : Ft_l1Cur_pick) (F_l1Cur_among : Ft_l1Cur_among) (F_spec_l2Without : Ft_spec_l2Without) (F_spec_l2Long : Ft_spec_l2Long) (m0 : Nat) (p0 p1 p2 : Int) (p3 : List D_A3) (p4 p5 p6 : Int) (p7 : List D_A3) (p8 : List Int) (p9 p10 p11 : Int) : L_l1Cur_hollow_5 n F_l1Cur_one F_spec_l2Box F_l1Cur_heap F_l1Cur_pick F_l1Cur_among F_spec_l2Without F_spec_l2Long (m0 + 1) p0 p1 p2 p3 p4 p5 p6 p7 p8 p9 p10 p11 = 
 bif decide (p11 > 0) then
 Option.bind (F_l1Cur_pick ((p8, (p9, (p10, ()))), (IntKind.wrap .i64 (p4 - 2)), ())) fun r1 =>
 Option.bind (F_l1Cur_pick ((p8, r1.2.1.2), (IntKind.wrap .i64 (p5 - 2)), ())) fun r2 =>
 Option.bind (F_l1Cur_pick ((p8, r2.2.1.2), (IntKind.wrap .i64 (p6 - 2)), ())) fun r3 =>
 Option.bind (F_spec_l2Without ((p4, (p5, (p6, (p7, ())))), ((IntKind.wrap .i64 (1 + r1.1.1)), ((IntKind.wrap .i64 (1 + r2.1.1)), ((IntKind.wrap .i64 (1 + r3.1.1)), ()))), ())) fun r4 =>
 Option.bind (F_l1Cur_one ((p8, r3.2.1.2), 3, ())) fun r5 =>
 bif r5.1.1 then
 Option.bind (F_l1Cur_pick ((p8, r5.2.1.2), 3, ())) fun r7 =>
 L_l1Cur_hollow_12 n F_l1Cur_one F_spec_l2Box F_l1Cur_heap F_l1Cur_pick F_l1Cur_among F_spec_l2Without F_spec_l2Long m0 n p0 p1 p2 p3 r4.1.1 r4.1.2.1 r4.1.2.2.1 r4.1.2.2.2.1 (IntKind.wrap .i64 (1 + r1.1.1)) (IntKind.wrap .i64 (1 + r2.1.1)) (IntKind.wrap .i64 (1 + r3.1.1)) p8 r7.2.1.2.1 r7.2.1.2.2.1 p11 r7.1.1 0
 else
 L_l1Cur_hollow_5 n F_l1Cur_one F_spec_l2Box F_l1Cur_heap F_l1Cur_pick F_l1Cur_among F_spec_l2Without F_spec_l2Long m0 p0 p1 p2 p3 r4.1.1 r4.1.2.1 r4.1.2.2.1 r4.1.2.2.2.1 p8 r5.2.1.2.1 r5.2.1.2.2.1 (IntKind.wrap .i64 (p11 - 1))
 else
 some (((p4, (p5, (p6, (p7, ())))), ()), ((p8, (p9, (p10, ()))), ())) := by kernel_rfl
theorem e_l1Cur_hollow_12 (n : Nat) (F_l1Cur_one : Ft_l1Cur_one) (F_spec_l2Box : Ft_spec_l2Box) (F_l1Cur_heap : Ft_l1Cur_heap) (F_l1Cur_pick : Ft_l1Cur_pick) (F_l1Cur_among : Ft_l1Cur_among) (F_spec_l2Without : Ft_spec_l2Without) (F_spec_l2Long : Ft_spec_l2Long) (m0 m1 : Nat) (p0 p1 p2 : Int) (p3 : List D_A3) (p4 p5 p6 : Int) (p7 : List D_A3) (p8 p9 p10 : Int) (p11 : List Int) (p12 p13 : Int) (p14 p15 p16 : Int) : L_l1Cur_hollow_12 n F_l1Cur_one F_spec_l2Box F_l1Cur_heap F_l1Cur_pick F_l1Cur_among F_spec_l2Without F_spec_l2Long m0 (m1 + 1) p0 p1 p2 p3 p4 p5 p6 p7 p8 p9 p10 p11 p12 p13 p14 p15 p16 = 
 Option.bind (F_spec_l2Long ((p4, (p5, (p6, (p7, ())))), p15, ())) fun r0 =>
 bif decide (p16 < r0.1) then
 bif inB p15 3 then
 Option.bind (F_spec_l2Without ((p4, (p5, (p6, (p7, ())))), ((bif decide (p15 = (0 : Int)) then p16 else p8), ((bif decide (p15 = (1 : Int)) then p16 else p9), ((bif decide (p15 = (2 : Int)) then p16 else p10), ()))), ())) fun r3 =>
 L_l1Cur_hollow_12 n F_l1Cur_one F_spec_l2Box F_l1Cur_heap F_l1Cur_pick F_l1Cur_among F_spec_l2Without F_spec_l2Long m0 m1 p0 p1 p2 p3 r3.1.1 r3.1.2.1 r3.1.2.2.1 r3.1.2.2.2.1 (bif decide (p15 = (0 : Int)) then p16 else p8) (bif decide (p15 = (1 : Int)) then p16 else p9) (bif decide (p15 = (2 : Int)) then p16 else p10) p11 p12 p13 p14 p15 (IntKind.wrap .i64 (p16 + 1))
 else none
 else
 L_l1Cur_hollow_5 n F_l1Cur_one F_spec_l2Box F_l1Cur_heap F_l1Cur_pick F_l1Cur_among F_spec_l2Without F_spec_l2Long m0 p0 p1 p2 p3 p4 p5 p6 p7 p11 p12 p13 (IntKind.wrap .i64 (p14 - 1)) := by kernel_rfl
noncomputable def P_l1Cur_hollow : Ft_l1Cur_hollow := hid (runFM (X_l1Cur_hollow N P_l1Cur_one P_spec_l2Box P_l1Cur_heap P_l1Cur_pick P_l1Cur_among P_spec_l2Without P_spec_l2Long) B_l1Cur_hollow As_l1Cur_hollow R_l1Cur_hollow M_l1Cur_hollow)
theorem h_l1Cur_hollow : P_l1Cur_hollow = runFM (X_l1Cur_hollow N P_l1Cur_one P_spec_l2Box P_l1Cur_heap P_l1Cur_pick P_l1Cur_among P_spec_l2Without P_spec_l2Long) B_l1Cur_hollow As_l1Cur_hollow R_l1Cur_hollow M_l1Cur_hollow := hid_eq _
noncomputable def C_l1Cur_hollow : MContract := ⟨As_l1Cur_hollow, R_l1Cur_hollow, M_l1Cur_hollow, P_l1Cur_hollow⟩
theorem s_l1Cur_hollow : SoundM Tryz.prog n0 GG 45 C_l1Cur_hollow := by
 unfold C_l1Cur_hollow; rw [h_l1Cur_hollow]
 exact sound_of_runM (fn := Tryz.f45) hmix hstable (tyOK_of ttOK) (hglob (X_l1Cur_hollow N P_l1Cur_one P_spec_l2Box P_l1Cur_heap P_l1Cur_pick P_l1Cur_among P_spec_l2Without P_spec_l2Long)) (conOK_of (X := X_l1Cur_hollow N P_l1Cur_one P_spec_l2Box P_l1Cur_heap P_l1Cur_pick P_l1Cur_among P_spec_l2Without P_spec_l2Long) ⟨s_spec_l2Box, s_spec_l2Without, s_spec_l2Long, trivial⟩) (mconOK_of (X := X_l1Cur_hollow N P_l1Cur_one P_spec_l2Box P_l1Cur_heap P_l1Cur_pick P_l1Cur_among P_spec_l2Without P_spec_l2Long) ⟨s_l1Cur_one, s_l1Cur_heap, s_l1Cur_pick, s_l1Cur_among, trivial⟩) (by kernel_rfl) (by kernel_rfl) (by kernel_rfl) (by kernel_rfl) (by kernel_rfl) (of_decide_eq_true (by kernel_rfl)) (by kernel_rfl) (by rfl)
noncomputable def l_l1Cur_hollow_5 : Nat → Int → Int → Int → (List D_A3) → Int → Int → Int → (List D_A3) → (List Int) → Int → Int → Int → Option (denL R_l1Cur_hollow × denM As_l1Cur_hollow) := hid (fun m0 p0 p1 p2 p3 p4 p5 p6 p7 p8 p9 p10 p11 => L_l1Cur_hollow_5 N P_l1Cur_one P_spec_l2Box P_l1Cur_heap P_l1Cur_pick P_l1Cur_among P_spec_l2Without P_spec_l2Long m0 p0 p1 p2 p3 p4 p5 p6 p7 p8 p9 p10 p11)
theorem h_l1Cur_hollow_5 : l_l1Cur_hollow_5 = fun m0 p0 p1 p2 p3 p4 p5 p6 p7 p8 p9 p10 p11 => L_l1Cur_hollow_5 N P_l1Cur_one P_spec_l2Box P_l1Cur_heap P_l1Cur_pick P_l1Cur_among P_spec_l2Without P_spec_l2Long m0 p0 p1 p2 p3 p4 p5 p6 p7 p8 p9 p10 p11 := hid_eq _
noncomputable def l_l1Cur_hollow_12 : Nat → Nat → Int → Int → Int → (List D_A3) → Int → Int → Int → (List D_A3) → Int → Int → Int → (List Int) → Int → Int → Int → Int → Int → Option (denL R_l1Cur_hollow × denM As_l1Cur_hollow) := hid (fun m0 m1 p0 p1 p2 p3 p4 p5 p6 p7 p8 p9 p10 p11 p12 p13 p14 p15 p16 => L_l1Cur_hollow_12 N P_l1Cur_one P_spec_l2Box P_l1Cur_heap P_l1Cur_pick P_l1Cur_among P_spec_l2Without P_spec_l2Long m0 m1 p0 p1 p2 p3 p4 p5 p6 p7 p8 p9 p10 p11 p12 p13 p14 p15 p16)
theorem h_l1Cur_hollow_12 : l_l1Cur_hollow_12 = fun m0 m1 p0 p1 p2 p3 p4 p5 p6 p7 p8 p9 p10 p11 p12 p13 p14 p15 p16 => L_l1Cur_hollow_12 N P_l1Cur_one P_spec_l2Box P_l1Cur_heap P_l1Cur_pick P_l1Cur_among P_spec_l2Without P_spec_l2Long m0 m1 p0 p1 p2 p3 p4 p5 p6 p7 p8 p9 p10 p11 p12 p13 p14 p15 p16 := hid_eq _
theorem p_l1Cur_hollow (a0 : D_l1Cur) : P_l1Cur_hollow (a0, ()) = 
 Option.bind (P_l1Cur_one (a0, 2, ())) fun r0 =>
 bif r0.1.1 then
 Option.bind (P_l1Cur_heap ((a0.1, r0.2.1.2), ())) fun r2 =>
 some ((r2.1.1, ()), ((a0.1, r2.2.1.2), ()))
 else
 Option.bind (P_l1Cur_among ((a0.1, r0.2.1.2), ([3, 4, 3] : List Int), ())) fun r2 =>
 Option.bind (P_l1Cur_among ((a0.1, r2.2.1.2), ([3, 4, 3] : List Int), ())) fun r3 =>
 Option.bind (P_l1Cur_among ((a0.1, r3.2.1.2), ([3, 4, 3] : List Int), ())) fun r4 =>
 Option.bind (P_spec_l2Box (r2.1.1, r3.1.1, r4.1.1, ())) fun r5 =>
 Option.bind (P_l1Cur_pick ((a0.1, r4.2.1.2), 5, ())) fun r6 =>
 l_l1Cur_hollow_5 N 0 0 0 ([] : List D_A3) r5.1.1 r5.1.2.1 r5.1.2.2.1 r5.1.2.2.2.1 a0.1 r6.2.1.2.1 r6.2.1.2.2.1 r6.1.1 := by
 rewrite [h_l1Cur_hollow, h_l1Cur_hollow_5]
 exact e_l1Cur_hollow N P_l1Cur_one P_spec_l2Box P_l1Cur_heap P_l1Cur_pick P_l1Cur_among P_spec_l2Without P_spec_l2Long a0
theorem q_l1Cur_hollow_5 (m0 : Nat) (p0 p1 p2 : Int) (p3 : List D_A3) (p4 p5 p6 : Int) (p7 : List D_A3) (p8 : List Int) (p9 p10 p11 : Int) : l_l1Cur_hollow_5 (m0 + 1) p0 p1 p2 p3 p4 p5 p6 p7 p8 p9 p10 p11 = 
 bif decide (p11 > 0) then
 Option.bind (P_l1Cur_pick ((p8, (p9, (p10, ()))), (IntKind.wrap .i64 (p4 - 2)), ())) fun r1 =>
 Option.bind (P_l1Cur_pick ((p8, r1.2.1.2), (IntKind.wrap .i64 (p5 - 2)), ())) fun r2 =>
 Option.bind (P_l1Cur_pick ((p8, r2.2.1.2), (IntKind.wrap .i64 (p6 - 2)), ())) fun r3 =>
 Option.bind (P_spec_l2Without ((p4, (p5, (p6, (p7, ())))), ((IntKind.wrap .i64 (1 + r1.1.1)), ((IntKind.wrap .i64 (1 + r2.1.1)), ((IntKind.wrap .i64 (1 + r3.1.1)), ()))), ())) fun r4 =>
 Option.bind (P_l1Cur_one ((p8, r3.2.1.2), 3, ())) fun r5 =>
 bif r5.1.1 then
 Option.bind (P_l1Cur_pick ((p8, r5.2.1.2), 3, ())) fun r7 =>
 l_l1Cur_hollow_12 m0 N p0 p1 p2 p3 r4.1.1 r4.1.2.1 r4.1.2.2.1 r4.1.2.2.2.1 (IntKind.wrap .i64 (1 + r1.1.1)) (IntKind.wrap .i64 (1 + r2.1.1)) (IntKind.wrap .i64 (1 + r3.1.1)) p8 r7.2.1.2.1 r7.2.1.2.2.1 p11 r7.1.1 0
 else
 l_l1Cur_hollow_5 m0 p0 p1 p2 p3 r4.1.1 r4.1.2.1 r4.1.2.2.1 r4.1.2.2.2.1 p8 r5.2.1.2.1 r5.2.1.2.2.1 (IntKind.wrap .i64 (p11 - 1))
 else
 some (((p4, (p5, (p6, (p7, ())))), ()), ((p8, (p9, (p10, ()))), ())) := by
 rewrite [h_l1Cur_hollow_5, h_l1Cur_hollow_12]
 exact e_l1Cur_hollow_5 N P_l1Cur_one P_spec_l2Box P_l1Cur_heap P_l1Cur_pick P_l1Cur_among P_spec_l2Without P_spec_l2Long m0 p0 p1 p2 p3 p4 p5 p6 p7 p8 p9 p10 p11
theorem q_l1Cur_hollow_12 (m0 m1 : Nat) (p0 p1 p2 : Int) (p3 : List D_A3) (p4 p5 p6 : Int) (p7 : List D_A3) (p8 p9 p10 : Int) (p11 : List Int) (p12 p13 : Int) (p14 p15 p16 : Int) : l_l1Cur_hollow_12 m0 (m1 + 1) p0 p1 p2 p3 p4 p5 p6 p7 p8 p9 p10 p11 p12 p13 p14 p15 p16 = 
 Option.bind (P_spec_l2Long ((p4, (p5, (p6, (p7, ())))), p15, ())) fun r0 =>
 bif decide (p16 < r0.1) then
 bif inB p15 3 then
 Option.bind (P_spec_l2Without ((p4, (p5, (p6, (p7, ())))), ((bif decide (p15 = (0 : Int)) then p16 else p8), ((bif decide (p15 = (1 : Int)) then p16 else p9), ((bif decide (p15 = (2 : Int)) then p16 else p10), ()))), ())) fun r3 =>
 l_l1Cur_hollow_12 m0 m1 p0 p1 p2 p3 r3.1.1 r3.1.2.1 r3.1.2.2.1 r3.1.2.2.2.1 (bif decide (p15 = (0 : Int)) then p16 else p8) (bif decide (p15 = (1 : Int)) then p16 else p9) (bif decide (p15 = (2 : Int)) then p16 else p10) p11 p12 p13 p14 p15 (IntKind.wrap .i64 (p16 + 1))
 else none
 else
 l_l1Cur_hollow_5 m0 p0 p1 p2 p3 p4 p5 p6 p7 p11 p12 p13 (IntKind.wrap .i64 (p14 - 1)) := by
 rewrite [h_l1Cur_hollow_5, h_l1Cur_hollow_12]
 exact e_l1Cur_hollow_12 N P_l1Cur_one P_spec_l2Box P_l1Cur_heap P_l1Cur_pick P_l1Cur_among P_spec_l2Without P_spec_l2Long m0 m1 p0 p1 p2 p3 p4 p5 p6 p7 p8 p9 p10 p11 p12 p13 p14 p15 p16

abbrev As_spec_DrawPaintCounts : List ATy := [.data false (.sl (.int .u8))]
abbrev R_spec_DrawPaintCounts : List (Bool × Ty) := [(true, T_Heap), (false, .bool)]
abbrev M_spec_DrawPaintCounts : List RMode := [.own 38]
abbrev Ft_spec_DrawPaintCounts : Type := (List Int) × Unit → Option (D_Heap × Bool × Unit)
noncomputable def X_spec_DrawPaintCounts (n : Nat) (F_l1Cur_hollow : Ft_l1Cur_hollow) (F_l1Cur_one : Ft_l1Cur_one) : Ctx := { types := TT, globals := [], con := [], mcon := [(45, ⟨As_l1Cur_hollow, R_l1Cur_hollow, M_l1Cur_hollow, F_l1Cur_hollow⟩), (46, ⟨As_l1Cur_one, R_l1Cur_one, M_l1Cur_one, F_l1Cur_one⟩)], keep := [], results := [.cell 2 26, .tmp 3], ntmps := 14, n := n }
noncomputable def B_spec_DrawPaintCounts : Code := (Tryz.f6.body).getD .skip
theorem e_spec_DrawPaintCounts (n : Nat) (F_l1Cur_hollow : Ft_l1Cur_hollow) (F_l1Cur_one : Ft_l1Cur_one) (a0 : List Int) : runF (X_spec_DrawPaintCounts n F_l1Cur_hollow F_l1Cur_one) B_spec_DrawPaintCounts As_spec_DrawPaintCounts R_spec_DrawPaintCounts M_spec_DrawPaintCounts (a0, ()) = 
 Option.bind (F_l1Cur_hollow ((a0, (0, (0, ()))), ())) fun r0 =>
 Option.bind (F_l1Cur_one ((a0, r0.2.1.2), 2, ())) fun r1 =>
 some (r0.1.1, r1.1.1, ()) := by kernel_rfl
noncomputable def P_spec_DrawPaintCounts : Ft_spec_DrawPaintCounts := hid (runF (X_spec_DrawPaintCounts N P_l1Cur_hollow P_l1Cur_one) B_spec_DrawPaintCounts As_spec_DrawPaintCounts R_spec_DrawPaintCounts M_spec_DrawPaintCounts)
theorem h_spec_DrawPaintCounts : P_spec_DrawPaintCounts = runF (X_spec_DrawPaintCounts N P_l1Cur_hollow P_l1Cur_one) B_spec_DrawPaintCounts As_spec_DrawPaintCounts R_spec_DrawPaintCounts M_spec_DrawPaintCounts := hid_eq _
noncomputable def C_spec_DrawPaintCounts : Contract := ⟨As_spec_DrawPaintCounts, R_spec_DrawPaintCounts, M_spec_DrawPaintCounts, P_spec_DrawPaintCounts⟩
theorem s_spec_DrawPaintCounts : Sound Tryz.prog GG 6 C_spec_DrawPaintCounts := by
 unfold C_spec_DrawPaintCounts; rw [h_spec_DrawPaintCounts]
 exact sound_of_run (fn := Tryz.f6) hmix hstable (tyOK_of ttOK) (hglob (X_spec_DrawPaintCounts N P_l1Cur_hollow P_l1Cur_one)) (conOK_of (X := X_spec_DrawPaintCounts N P_l1Cur_hollow P_l1Cur_one) trivial) (mconOK_of (X := X_spec_DrawPaintCounts N P_l1Cur_hollow P_l1Cur_one) ⟨s_l1Cur_hollow, s_l1Cur_one, trivial⟩) (by kernel_rfl) (by kernel_rfl) (by kernel_rfl) (by kernel_rfl) (by kernel_rfl) (of_decide_eq_true (by kernel_rfl))
theorem p_spec_DrawPaintCounts (a0 : List Int) : P_spec_DrawPaintCounts (a0, ()) = 
 Option.bind (P_l1Cur_hollow ((a0, (0, (0, ()))), ())) fun r0 =>
 Option.bind (P_l1Cur_one ((a0, r0.2.1.2), 2, ())) fun r1 =>
 some (r0.1.1, r1.1.1, ()) := by
 rewrite [h_spec_DrawPaintCounts]
 exact e_spec_DrawPaintCounts N P_l1Cur_hollow P_l1Cur_one a0

abbrev As_Heap_box : List ATy := [.data true T_Heap]
abbrev R_Heap_box : List (Bool × Ty) := [(true, T_A3)]
abbrev M_Heap_box : List RMode := []
abbrev Ft_Heap_box : Type := D_Heap × Unit → Option (D_A3 × Unit)
noncomputable def X_Heap_box (n : Nat) : Ctx := { types := TT, globals := [], con := [], keep := [], results := [.cell 2 76], ntmps := 10, n := n }
noncomputable def B_Heap_box : Code := (Tryz.f50.body).getD .skip
theorem e_Heap_box (n : Nat) (a0 : D_Heap) : runF (X_Heap_box n) B_Heap_box As_Heap_box R_Heap_box M_Heap_box (a0, ()) = 
 some ((a0.1, (a0.2.1, (a0.2.2.1, ()))), ()) := by kernel_rfl
noncomputable def P_Heap_box : Ft_Heap_box := hid (runF (X_Heap_box N) B_Heap_box As_Heap_box R_Heap_box M_Heap_box)
theorem h_Heap_box : P_Heap_box = runF (X_Heap_box N) B_Heap_box As_Heap_box R_Heap_box M_Heap_box := hid_eq _
noncomputable def C_Heap_box : Contract := ⟨As_Heap_box, R_Heap_box, M_Heap_box, P_Heap_box⟩
theorem s_Heap_box : Sound Tryz.prog GG 50 C_Heap_box := by
 unfold C_Heap_box; rw [h_Heap_box]
 exact sound_of_run (fn := Tryz.f50) hmix hstable (tyOK_of ttOK) (hglob (X_Heap_box N)) (conOK_of (X := X_Heap_box N) trivial) (mconOK_of (X := X_Heap_box N) trivial) (by kernel_rfl) (by kernel_rfl) (by kernel_rfl) (by kernel_rfl) (by kernel_rfl) (of_decide_eq_true (by kernel_rfl))
theorem p_Heap_box (a0 : D_Heap) : P_Heap_box (a0, ()) = 
 some ((a0.1, (a0.2.1, (a0.2.2.1, ()))), ()) := by
 rewrite [h_Heap_box]
 exact e_Heap_box N a0

abbrev As_impl_within : List ATy := [.data false (.int .i64), .data false (.int .i64), .data false (.int .i64)]
abbrev R_impl_within : List (Bool × Ty) := [(false, .bool)]
abbrev M_impl_within : List RMode := []
abbrev Ft_impl_within : Type := Int × Int × Int × Unit → Option (Bool × Unit)
noncomputable def X_impl_within (n : Nat) : Ctx := { types := TT, globals := [], con := [], keep := [], results := [.tmp 6], ntmps := 15, n := n }
noncomputable def B_impl_within : Code := (Tryz.f86.body).getD .skip
theorem e_impl_within (n : Nat) (a0 a1 a2 : Int) : runF (X_impl_within n) B_impl_within As_impl_within R_impl_within M_impl_within (a0, a1, a2, ()) = 
 bif decide (a0 ≥ a1) then
 some (decide (a0 ≤ a2), ())
 else
 some (false, ()) := by kernel_rfl
noncomputable def P_impl_within : Ft_impl_within := hid (runF (X_impl_within N) B_impl_within As_impl_within R_impl_within M_impl_within)
theorem h_impl_within : P_impl_within = runF (X_impl_within N) B_impl_within As_impl_within R_impl_within M_impl_within := hid_eq _
noncomputable def C_impl_within : Contract := ⟨As_impl_within, R_impl_within, M_impl_within, P_impl_within⟩
theorem s_impl_within : Sound Tryz.prog GG 86 C_impl_within := by
 unfold C_impl_within; rw [h_impl_within]
 exact sound_of_run (fn := Tryz.f86) hmix hstable (tyOK_of ttOK) (hglob (X_impl_within N)) (conOK_of (X := X_impl_within N) trivial) (mconOK_of (X := X_impl_within N) trivial) (by kernel_rfl) (by kernel_rfl) (by kernel_rfl) (by kernel_rfl) (by kernel_rfl) (of_decide_eq_true (by kernel_rfl))
theorem p_impl_within (a0 a1 a2 : Int) : P_impl_within (a0, a1, a2, ()) = 
 bif decide (a0 ≥ a1) then
 some (decide (a0 ≤ a2), ())
 else
 some (false, ()) := by
 rewrite [h_impl_within]
 exact e_impl_within N a0 a1 a2

abbrev As_box_valid : List ATy := [.data true T_A3]
abbrev R_box_valid : List (Bool × Ty) := [(false, .bool)]
abbrev M_box_valid : List RMode := []
abbrev Ft_box_valid : Type := D_A3 × Unit → Option (Bool × Unit)
noncomputable def X_box_valid (n : Nat) (F_impl_within : Ft_impl_within) : Ctx := { types := TT, globals := [], con := [(86, ⟨As_impl_within, R_impl_within, M_impl_within, F_impl_within⟩)], keep := [], results := [.tmp 2], ntmps := 16, n := n }
noncomputable def B_box_valid : Code := (Tryz.f51.body).getD .skip
theorem e_box_valid (n : Nat) (F_impl_within : Ft_impl_within) (a0 : D_A3) : runF (X_box_valid n F_impl_within) B_box_valid As_box_valid R_box_valid M_box_valid (a0, ()) = 
 Option.bind (F_impl_within (a0.1, 1, 4, ())) fun r0 =>
 bif r0.1 then
 Option.bind (F_impl_within (a0.2.1, 1, 4, ())) fun r2 =>
 bif r2.1 then
 Option.bind (F_impl_within (a0.2.2.1, 1, 4, ())) fun r4 =>
 some (r4.1, ())
 else
 some (false, ())
 else
 some (false, ()) := by kernel_rfl
noncomputable def P_box_valid : Ft_box_valid := hid (runF (X_box_valid N P_impl_within) B_box_valid As_box_valid R_box_valid M_box_valid)
theorem h_box_valid : P_box_valid = runF (X_box_valid N P_impl_within) B_box_valid As_box_valid R_box_valid M_box_valid := hid_eq _
noncomputable def C_box_valid : Contract := ⟨As_box_valid, R_box_valid, M_box_valid, P_box_valid⟩
theorem s_box_valid : Sound Tryz.prog GG 51 C_box_valid := by
 unfold C_box_valid; rw [h_box_valid]
 exact sound_of_run (fn := Tryz.f51) hmix hstable (tyOK_of ttOK) (hglob (X_box_valid N P_impl_within)) (conOK_of (X := X_box_valid N P_impl_within) ⟨s_impl_within, trivial⟩) (mconOK_of (X := X_box_valid N P_impl_within) trivial) (by kernel_rfl) (by kernel_rfl) (by kernel_rfl) (by kernel_rfl) (by kernel_rfl) (of_decide_eq_true (by kernel_rfl))
theorem p_box_valid (a0 : D_A3) : P_box_valid (a0, ()) = 
 Option.bind (P_impl_within (a0.1, 1, 4, ())) fun r0 =>
 bif r0.1 then
 Option.bind (P_impl_within (a0.2.1, 1, 4, ())) fun r2 =>
 bif r2.1 then
 Option.bind (P_impl_within (a0.2.2.1, 1, 4, ())) fun r4 =>
 some (r4.1, ())
 else
 some (false, ())
 else
 some (false, ()) := by
 rewrite [h_box_valid]
 exact e_box_valid N P_impl_within a0

abbrev As_box_has : List ATy := [.data true T_A3, .data true T_A3]
abbrev R_box_has : List (Bool × Ty) := [(false, .bool)]
abbrev M_box_has : List RMode := []
abbrev Ft_box_has : Type := D_A3 × D_A3 × Unit → Option (Bool × Unit)
noncomputable def X_box_has (n : Nat) (F_impl_within : Ft_impl_within) : Ctx := { types := TT, globals := [], con := [(86, ⟨As_impl_within, R_impl_within, M_impl_within, F_impl_within⟩)], keep := [], results := [.tmp 4], ntmps := 27, n := n }
noncomputable def B_box_has : Code := (Tryz.f52.body).getD .skip
theorem e_box_has (n : Nat) (F_impl_within : Ft_impl_within) (a0 a1 : D_A3) : runF (X_box_has n F_impl_within) B_box_has As_box_has R_box_has M_box_has (a0, a1, ()) = 
 Option.bind (F_impl_within (a1.1, 0, (IntKind.wrap .i64 (a0.1 - 1)), ())) fun r0 =>
 bif r0.1 then
 Option.bind (F_impl_within (a1.2.1, 0, (IntKind.wrap .i64 (a0.2.1 - 1)), ())) fun r2 =>
 bif r2.1 then
 Option.bind (F_impl_within (a1.2.2.1, 0, (IntKind.wrap .i64 (a0.2.2.1 - 1)), ())) fun r4 =>
 some (r4.1, ())
 else
 some (false, ())
 else
 some (false, ()) := by kernel_rfl
noncomputable def P_box_has : Ft_box_has := hid (runF (X_box_has N P_impl_within) B_box_has As_box_has R_box_has M_box_has)
theorem h_box_has : P_box_has = runF (X_box_has N P_impl_within) B_box_has As_box_has R_box_has M_box_has := hid_eq _
noncomputable def C_box_has : Contract := ⟨As_box_has, R_box_has, M_box_has, P_box_has⟩
theorem s_box_has : Sound Tryz.prog GG 52 C_box_has := by
 unfold C_box_has; rw [h_box_has]
 exact sound_of_run (fn := Tryz.f52) hmix hstable (tyOK_of ttOK) (hglob (X_box_has N P_impl_within)) (conOK_of (X := X_box_has N P_impl_within) ⟨s_impl_within, trivial⟩) (mconOK_of (X := X_box_has N P_impl_within) trivial) (by kernel_rfl) (by kernel_rfl) (by kernel_rfl) (by kernel_rfl) (by kernel_rfl) (of_decide_eq_true (by kernel_rfl))
theorem p_box_has (a0 a1 : D_A3) : P_box_has (a0, a1, ()) = 
 Option.bind (P_impl_within (a1.1, 0, (IntKind.wrap .i64 (a0.1 - 1)), ())) fun r0 =>
 bif r0.1 then
 Option.bind (P_impl_within (a1.2.1, 0, (IntKind.wrap .i64 (a0.2.1 - 1)), ())) fun r2 =>
 bif r2.1 then
 Option.bind (P_impl_within (a1.2.2.1, 0, (IntKind.wrap .i64 (a0.2.2.1 - 1)), ())) fun r4 =>
 some (r4.1, ())
 else
 some (false, ())
 else
 some (false, ()) := by
 rewrite [h_box_has]
 exact e_box_has N P_impl_within a0 a1

abbrev As_cmp_isNaN_int : List ATy := [.data false (.int .i64)]
abbrev R_cmp_isNaN_int : List (Bool × Ty) := [(false, .bool)]
abbrev M_cmp_isNaN_int : List RMode := []
abbrev Ft_cmp_isNaN_int : Type := Int × Unit → Option (Bool × Unit)
noncomputable def X_cmp_isNaN_int (n : Nat) : Ctx := { types := TT, globals := [], con := [], keep := [], results := [.tmp 2], ntmps := 6, n := n }
noncomputable def B_cmp_isNaN_int : Code := (Tryz.f146.body).getD .skip
theorem e_cmp_isNaN_int (n : Nat) (a0 : Int) : runF (X_cmp_isNaN_int n) B_cmp_isNaN_int As_cmp_isNaN_int R_cmp_isNaN_int M_cmp_isNaN_int (a0, ()) = 
 some (!decide (a0 = a0), ()) := by kernel_rfl
noncomputable def P_cmp_isNaN_int : Ft_cmp_isNaN_int := hid (runF (X_cmp_isNaN_int N) B_cmp_isNaN_int As_cmp_isNaN_int R_cmp_isNaN_int M_cmp_isNaN_int)
theorem h_cmp_isNaN_int : P_cmp_isNaN_int = runF (X_cmp_isNaN_int N) B_cmp_isNaN_int As_cmp_isNaN_int R_cmp_isNaN_int M_cmp_isNaN_int := hid_eq _
noncomputable def C_cmp_isNaN_int : Contract := ⟨As_cmp_isNaN_int, R_cmp_isNaN_int, M_cmp_isNaN_int, P_cmp_isNaN_int⟩
theorem s_cmp_isNaN_int : Sound Tryz.prog GG 146 C_cmp_isNaN_int := by
 unfold C_cmp_isNaN_int; rw [h_cmp_isNaN_int]
 exact sound_of_run (fn := Tryz.f146) hmix hstable (tyOK_of ttOK) (hglob (X_cmp_isNaN_int N)) (conOK_of (X := X_cmp_isNaN_int N) trivial) (mconOK_of (X := X_cmp_isNaN_int N) trivial) (by kernel_rfl) (by kernel_rfl) (by kernel_rfl) (by kernel_rfl) (by kernel_rfl) (of_decide_eq_true (by kernel_rfl))
theorem p_cmp_isNaN_int (a0 : Int) : P_cmp_isNaN_int (a0, ()) = 
 some (!decide (a0 = a0), ()) := by
 rewrite [h_cmp_isNaN_int]
 exact e_cmp_isNaN_int N a0

abbrev As_cmp_Compare_int : List ATy := [.data false (.int .i64), .data false (.int .i64)]
abbrev R_cmp_Compare_int : List (Bool × Ty) := [(false, (.int .i64))]
abbrev M_cmp_Compare_int : List RMode := []
abbrev Ft_cmp_Compare_int : Type := Int × Int × Unit → Option (Int × Unit)
noncomputable def X_cmp_Compare_int (n : Nat) (F_cmp_isNaN_int : Ft_cmp_isNaN_int) : Ctx := { types := TT, globals := [], con := [(146, ⟨As_cmp_isNaN_int, R_cmp_isNaN_int, M_cmp_isNaN_int, F_cmp_isNaN_int⟩)], keep := [], results := [.tmp 4], ntmps := 20, n := n }
noncomputable def B_cmp_Compare_int : Code := (Tryz.f124.body).getD .skip
theorem e_cmp_Compare_int (n : Nat) (F_cmp_isNaN_int : Ft_cmp_isNaN_int) (a0 a1 : Int) : runF (X_cmp_Compare_int n F_cmp_isNaN_int) B_cmp_Compare_int As_cmp_Compare_int R_cmp_Compare_int M_cmp_Compare_int (a0, a1, ()) = 
 Option.bind (F_cmp_isNaN_int (a0, ())) fun r0 =>
 Option.bind (F_cmp_isNaN_int (a1, ())) fun r1 =>
 bif r0.1 then
 bif r1.1 then
 some (0, ())
 else
 some ((-1), ())
 else
 bif r1.1 then
 some (1, ())
 else
 bif decide (a0 < a1) then
 some ((-1), ())
 else
 bif decide (a0 > a1) then
 some (1, ())
 else
 some (0, ()) := by kernel_rfl
noncomputable def P_cmp_Compare_int : Ft_cmp_Compare_int := hid (runF (X_cmp_Compare_int N P_cmp_isNaN_int) B_cmp_Compare_int As_cmp_Compare_int R_cmp_Compare_int M_cmp_Compare_int)
theorem h_cmp_Compare_int : P_cmp_Compare_int = runF (X_cmp_Compare_int N P_cmp_isNaN_int) B_cmp_Compare_int As_cmp_Compare_int R_cmp_Compare_int M_cmp_Compare_int := hid_eq _
noncomputable def C_cmp_Compare_int : Contract := ⟨As_cmp_Compare_int, R_cmp_Compare_int, M_cmp_Compare_int, P_cmp_Compare_int⟩
theorem s_cmp_Compare_int : Sound Tryz.prog GG 124 C_cmp_Compare_int := by
 unfold C_cmp_Compare_int; rw [h_cmp_Compare_int]
 exact sound_of_run (fn := Tryz.f124) hmix hstable (tyOK_of ttOK) (hglob (X_cmp_Compare_int N P_cmp_isNaN_int)) (conOK_of (X := X_cmp_Compare_int N P_cmp_isNaN_int) ⟨s_cmp_isNaN_int, trivial⟩) (mconOK_of (X := X_cmp_Compare_int N P_cmp_isNaN_int) trivial) (by kernel_rfl) (by kernel_rfl) (by kernel_rfl) (by kernel_rfl) (by kernel_rfl) (of_decide_eq_true (by kernel_rfl))
theorem p_cmp_Compare_int (a0 a1 : Int) : P_cmp_Compare_int (a0, a1, ()) = 
 Option.bind (P_cmp_isNaN_int (a0, ())) fun r0 =>
 Option.bind (P_cmp_isNaN_int (a1, ())) fun r1 =>
 bif r0.1 then
 bif r1.1 then
 some (0, ())
 else
 some ((-1), ())
 else
 bif r1.1 then
 some (1, ())
 else
 bif decide (a0 < a1) then
 some ((-1), ())
 else
 bif decide (a0 > a1) then
 some (1, ())
 else
 some (0, ()) := by
 rewrite [h_cmp_Compare_int]
 exact e_cmp_Compare_int N P_cmp_isNaN_int a0 a1

abbrev As_slices_Compare_int_int : List ATy := [.data false (.sl (.int .i64)), .data false (.sl (.int .i64))]
abbrev R_slices_Compare_int_int : List (Bool × Ty) := [(false, (.int .i64))]
abbrev M_slices_Compare_int_int : List RMode := []
abbrev Ft_slices_Compare_int_int : Type := (List Int) × (List Int) × Unit → Option (Int × Unit)
noncomputable def X_slices_Compare_int_int (n : Nat) (F_cmp_Compare_int : Ft_cmp_Compare_int) : Ctx := { types := TT, globals := [], con := [(124, ⟨As_cmp_Compare_int, R_cmp_Compare_int, M_cmp_Compare_int, F_cmp_Compare_int⟩)], keep := [(2, ⟨[.tmp 0, .tmp 1, .tmp 9, .tmp 10, .tmp 11], []⟩)], results := [.tmp 4], ntmps := 36, n := n }
noncomputable def B_slices_Compare_int_int : Code := (Tryz.f93.body).getD .skip
noncomputable def L_slices_Compare_int_int_2 (n : Nat) (F_cmp_Compare_int : Ft_cmp_Compare_int) (m0 : Nat) (p0 p1 p2 : List Int) (p3 p4 : Int) : Option (denL R_slices_Compare_int_int) := loopF (X_slices_Compare_int_int n F_cmp_Compare_int) B_slices_Compare_int_int R_slices_Compare_int_int M_slices_Compare_int_int 2 [m0] [(.ver, .num 1), (.tmp 0, .val false [.imm (.int .i64) p0 (some 0)]), (.tmp 1, .val false [.imm (.int .i64) p1 (some 1)]), (.tmp 9, .val false [.imm (.int .i64) p2 (some 0)]), (.tmp 10, .val false [.int .i64 p3]), (.tmp 11, .val false [.int .i64 p4])]
theorem e_slices_Compare_int_int (n : Nat) (F_cmp_Compare_int : Ft_cmp_Compare_int) (a0 a1 : List Int) : runF (X_slices_Compare_int_int n F_cmp_Compare_int) B_slices_Compare_int_int As_slices_Compare_int_int R_slices_Compare_int_int M_slices_Compare_int_int (a0, a1, ()) = 
 L_slices_Compare_int_int_2 n F_cmp_Compare_int n a0 a1 a0 (List.length a0 : Int) 0 := by kernel_rfl
theorem e_slices_Compare_int_int_2 (n : Nat) (F_cmp_Compare_int : Ft_cmp_Compare_int) (m0 : Nat) (p0 p1 p2 : List Int) (p3 p4 : Int) : L_slices_Compare_int_int_2 n F_cmp_Compare_int (m0 + 1) p0 p1 p2 p3 p4 = 
 bif decide (p4 < p3) then
 bif inB p4 (List.length p2) then
 bif decide (p4 ≥ (List.length p1 : Int)) then
 some (1, ())
 else
 bif inB p4 (List.length p1) then
 Option.bind (F_cmp_Compare_int ((nth ((.int .i64) : Ty) p2 p4), (nth ((.int .i64) : Ty) p1 p4), ())) fun r4 =>
 bif !decide (r4.1 = 0) then
 some (r4.1, ())
 else
 L_slices_Compare_int_int_2 n F_cmp_Compare_int m0 p0 p1 p2 p3 (IntKind.wrap .i64 (p4 + 1))
 else none
 else none
 else
 bif decide ((List.length p0 : Int) < (List.length p1 : Int)) then
 some ((-1), ())
 else
 some (0, ()) := by kernel_rfl
noncomputable def P_slices_Compare_int_int : Ft_slices_Compare_int_int := hid (runF (X_slices_Compare_int_int N P_cmp_Compare_int) B_slices_Compare_int_int As_slices_Compare_int_int R_slices_Compare_int_int M_slices_Compare_int_int)
theorem h_slices_Compare_int_int : P_slices_Compare_int_int = runF (X_slices_Compare_int_int N P_cmp_Compare_int) B_slices_Compare_int_int As_slices_Compare_int_int R_slices_Compare_int_int M_slices_Compare_int_int := hid_eq _
noncomputable def C_slices_Compare_int_int : Contract := ⟨As_slices_Compare_int_int, R_slices_Compare_int_int, M_slices_Compare_int_int, P_slices_Compare_int_int⟩
theorem s_slices_Compare_int_int : Sound Tryz.prog GG 93 C_slices_Compare_int_int := by
 unfold C_slices_Compare_int_int; rw [h_slices_Compare_int_int]
 exact sound_of_run (fn := Tryz.f93) hmix hstable (tyOK_of ttOK) (hglob (X_slices_Compare_int_int N P_cmp_Compare_int)) (conOK_of (X := X_slices_Compare_int_int N P_cmp_Compare_int) ⟨s_cmp_Compare_int, trivial⟩) (mconOK_of (X := X_slices_Compare_int_int N P_cmp_Compare_int) trivial) (by kernel_rfl) (by kernel_rfl) (by kernel_rfl) (by kernel_rfl) (by kernel_rfl) (of_decide_eq_true (by kernel_rfl))
noncomputable def l_slices_Compare_int_int_2 : Nat → (List Int) → (List Int) → (List Int) → Int → Int → Option (denL R_slices_Compare_int_int) := hid (fun m0 p0 p1 p2 p3 p4 => L_slices_Compare_int_int_2 N P_cmp_Compare_int m0 p0 p1 p2 p3 p4)
theorem h_slices_Compare_int_int_2 : l_slices_Compare_int_int_2 = fun m0 p0 p1 p2 p3 p4 => L_slices_Compare_int_int_2 N P_cmp_Compare_int m0 p0 p1 p2 p3 p4 := hid_eq _
theorem p_slices_Compare_int_int (a0 a1 : List Int) : P_slices_Compare_int_int (a0, a1, ()) = 
 l_slices_Compare_int_int_2 N a0 a1 a0 (List.length a0 : Int) 0 := by
 rewrite [h_slices_Compare_int_int, h_slices_Compare_int_int_2]
 exact e_slices_Compare_int_int N P_cmp_Compare_int a0 a1
theorem q_slices_Compare_int_int_2 (m0 : Nat) (p0 p1 p2 : List Int) (p3 p4 : Int) : l_slices_Compare_int_int_2 (m0 + 1) p0 p1 p2 p3 p4 = 
 bif decide (p4 < p3) then
 bif inB p4 (List.length p2) then
 bif decide (p4 ≥ (List.length p1 : Int)) then
 some (1, ())
 else
 bif inB p4 (List.length p1) then
 Option.bind (P_cmp_Compare_int ((nth ((.int .i64) : Ty) p2 p4), (nth ((.int .i64) : Ty) p1 p4), ())) fun r4 =>
 bif !decide (r4.1 = 0) then
 some (r4.1, ())
 else
 l_slices_Compare_int_int_2 m0 p0 p1 p2 p3 (IntKind.wrap .i64 (p4 + 1))
 else none
 else none
 else
 bif decide ((List.length p0 : Int) < (List.length p1 : Int)) then
 some ((-1), ())
 else
 some (0, ()) := by
 rewrite [h_slices_Compare_int_int_2]
 exact e_slices_Compare_int_int_2 N P_cmp_Compare_int m0 p0 p1 p2 p3 p4

abbrev As_impl_compareCells : List ATy := [.data true T_A3, .data true T_A3]
abbrev R_impl_compareCells : List (Bool × Ty) := [(false, (.int .i64))]
abbrev M_impl_compareCells : List RMode := []
abbrev Ft_impl_compareCells : Type := D_A3 × D_A3 × Unit → Option (Int × Unit)
noncomputable def X_impl_compareCells (n : Nat) (F_slices_Compare_int_int : Ft_slices_Compare_int_int) : Ctx := { types := TT, globals := [], con := [(93, ⟨As_slices_Compare_int_int, R_slices_Compare_int_int, M_slices_Compare_int_int, F_slices_Compare_int_int⟩)], keep := [], results := [.tmp 4], ntmps := 8, n := n }
noncomputable def B_impl_compareCells : Code := (Tryz.f53.body).getD .skip
theorem e_impl_compareCells (n : Nat) (F_slices_Compare_int_int : Ft_slices_Compare_int_int) (a0 a1 : D_A3) : runF (X_impl_compareCells n F_slices_Compare_int_int) B_impl_compareCells As_impl_compareCells R_impl_compareCells M_impl_compareCells (a0, a1, ()) = 
 Option.bind (F_slices_Compare_int_int (([a0.1, a0.2.1, a0.2.2.1] : List Int), ([a1.1, a1.2.1, a1.2.2.1] : List Int), ())) fun r0 =>
 some (r0.1, ()) := by kernel_rfl
noncomputable def P_impl_compareCells : Ft_impl_compareCells := hid (runF (X_impl_compareCells N P_slices_Compare_int_int) B_impl_compareCells As_impl_compareCells R_impl_compareCells M_impl_compareCells)
theorem h_impl_compareCells : P_impl_compareCells = runF (X_impl_compareCells N P_slices_Compare_int_int) B_impl_compareCells As_impl_compareCells R_impl_compareCells M_impl_compareCells := hid_eq _
noncomputable def C_impl_compareCells : Contract := ⟨As_impl_compareCells, R_impl_compareCells, M_impl_compareCells, P_impl_compareCells⟩
theorem s_impl_compareCells : Sound Tryz.prog GG 53 C_impl_compareCells := by
 unfold C_impl_compareCells; rw [h_impl_compareCells]
 exact sound_of_run (fn := Tryz.f53) hmix hstable (tyOK_of ttOK) (hglob (X_impl_compareCells N P_slices_Compare_int_int)) (conOK_of (X := X_impl_compareCells N P_slices_Compare_int_int) ⟨s_slices_Compare_int_int, trivial⟩) (mconOK_of (X := X_impl_compareCells N P_slices_Compare_int_int) trivial) (by kernel_rfl) (by kernel_rfl) (by kernel_rfl) (by kernel_rfl) (by kernel_rfl) (of_decide_eq_true (by kernel_rfl))
theorem p_impl_compareCells (a0 a1 : D_A3) : P_impl_compareCells (a0, a1, ()) = 
 Option.bind (P_slices_Compare_int_int (([a0.1, a0.2.1, a0.2.2.1] : List Int), ([a1.1, a1.2.1, a1.2.2.1] : List Int), ())) fun r0 =>
 some (r0.1, ()) := by
 rewrite [h_impl_compareCells]
 exact e_impl_compareCells N P_slices_Compare_int_int a0 a1

abbrev As_impl_IsHeap : List ATy := [.data true T_Heap]
abbrev R_impl_IsHeap : List (Bool × Ty) := [(false, .bool)]
abbrev M_impl_IsHeap : List RMode := []
abbrev Ft_impl_IsHeap : Type := D_Heap × Unit → Option (Bool × Unit)
noncomputable def X_impl_IsHeap (n : Nat) (F_Heap_box : Ft_Heap_box) (F_box_valid : Ft_box_valid) (F_box_has : Ft_box_has) (F_impl_compareCells : Ft_impl_compareCells) : Ctx := { types := TT, globals := [], con := [(50, ⟨As_Heap_box, R_Heap_box, M_Heap_box, F_Heap_box⟩), (51, ⟨As_box_valid, R_box_valid, M_box_valid, F_box_valid⟩), (52, ⟨As_box_has, R_box_has, M_box_has, F_box_has⟩), (53, ⟨As_impl_compareCells, R_impl_compareCells, M_impl_compareCells, F_impl_compareCells⟩)], keep := [(4, ⟨[.box 1, .tmp 1, .tmp 10, .tmp 11, .tmp 12], []⟩)], results := [.tmp 2], ntmps := 38, n := n }
noncomputable def B_impl_IsHeap : Code := (Tryz.f9.body).getD .skip
noncomputable def L_impl_IsHeap_4 (n : Nat) (F_Heap_box : Ft_Heap_box) (F_box_valid : Ft_box_valid) (F_box_has : Ft_box_has) (F_impl_compareCells : Ft_impl_compareCells) (m0 : Nat) (p0 p1 p2 : Int) (p3 p4 : List D_A3) (p5 p6 : Int) : Option (denL R_impl_IsHeap) := loopF (X_impl_IsHeap n F_Heap_box F_box_valid F_box_has F_impl_compareCells) B_impl_IsHeap R_impl_IsHeap M_impl_IsHeap 4 [m0] [(.ver, .num 1), (.box 1, .box 0 false [.int .i64 p0, .int .i64 p1, .int .i64 p2, .imm T_A3 p3 (some 3)]), (.tmp 1, .val false [.addr 1 0 0]), (.tmp 10, .val false [.imm T_A3 p4 (some 3)]), (.tmp 11, .val false [.int .i64 p5]), (.tmp 12, .val false [.int .i64 p6])]
theorem e_impl_IsHeap (n : Nat) (F_Heap_box : Ft_Heap_box) (F_box_valid : Ft_box_valid) (F_box_has : Ft_box_has) (F_impl_compareCells : Ft_impl_compareCells) (a0 : D_Heap) : runF (X_impl_IsHeap n F_Heap_box F_box_valid F_box_has F_impl_compareCells) B_impl_IsHeap As_impl_IsHeap R_impl_IsHeap M_impl_IsHeap (a0, ()) = 
 Option.bind (F_Heap_box (a0, ())) fun r0 =>
 Option.bind (F_box_valid (r0.1, ())) fun r1 =>
 bif !r1.1 then
 some (false, ())
 else
 L_impl_IsHeap_4 n F_Heap_box F_box_valid F_box_has F_impl_compareCells n a0.1 a0.2.1 a0.2.2.1 a0.2.2.2.1 a0.2.2.2.1 (List.length a0.2.2.2.1 : Int) 0 := by kernel_rfl
theorem e_impl_IsHeap_4 (n : Nat) (F_Heap_box : Ft_Heap_box) (F_box_valid : Ft_box_valid) (F_box_has : Ft_box_has) (F_impl_compareCells : Ft_impl_compareCells) (m0 : Nat) (p0 p1 p2 : Int) (p3 p4 : List D_A3) (p5 p6 : Int) : L_impl_IsHeap_4 n F_Heap_box F_box_valid F_box_has F_impl_compareCells (m0 + 1) p0 p1 p2 p3 p4 p5 p6 = 
 bif decide (p6 < p5) then
 bif inB p6 (List.length p4) then
 Option.bind (F_Heap_box ((p0, (p1, (p2, (p3, ())))), ())) fun r2 =>
 Option.bind (F_box_has (r2.1, (nth T_A3 p4 p6), ())) fun r3 =>
 bif !r3.1 then
 some (false, ())
 else
 bif decide (p6 > 0) then
 bif inB (IntKind.wrap .i64 (p6 - 1)) (List.length p3) then
 Option.bind (F_impl_compareCells ((nth T_A3 p3 (IntKind.wrap .i64 (p6 - 1))), (nth T_A3 p4 p6), ())) fun r7 =>
 bif decide (r7.1 ≥ 0) then
 some (false, ())
 else
 L_impl_IsHeap_4 n F_Heap_box F_box_valid F_box_has F_impl_compareCells m0 p0 p1 p2 p3 p4 p5 (IntKind.wrap .i64 (p6 + 1))
 else none
 else
 L_impl_IsHeap_4 n F_Heap_box F_box_valid F_box_has F_impl_compareCells m0 p0 p1 p2 p3 p4 p5 (IntKind.wrap .i64 (p6 + 1))
 else none
 else
 some (true, ()) := by kernel_rfl
noncomputable def P_impl_IsHeap : Ft_impl_IsHeap := hid (runF (X_impl_IsHeap N P_Heap_box P_box_valid P_box_has P_impl_compareCells) B_impl_IsHeap As_impl_IsHeap R_impl_IsHeap M_impl_IsHeap)
theorem h_impl_IsHeap : P_impl_IsHeap = runF (X_impl_IsHeap N P_Heap_box P_box_valid P_box_has P_impl_compareCells) B_impl_IsHeap As_impl_IsHeap R_impl_IsHeap M_impl_IsHeap := hid_eq _
noncomputable def C_impl_IsHeap : Contract := ⟨As_impl_IsHeap, R_impl_IsHeap, M_impl_IsHeap, P_impl_IsHeap⟩
theorem s_impl_IsHeap : Sound Tryz.prog GG 9 C_impl_IsHeap := by
 unfold C_impl_IsHeap; rw [h_impl_IsHeap]
 exact sound_of_run (fn := Tryz.f9) hmix hstable (tyOK_of ttOK) (hglob (X_impl_IsHeap N P_Heap_box P_box_valid P_box_has P_impl_compareCells)) (conOK_of (X := X_impl_IsHeap N P_Heap_box P_box_valid P_box_has P_impl_compareCells) ⟨s_Heap_box, s_box_valid, s_box_has, s_impl_compareCells, trivial⟩) (mconOK_of (X := X_impl_IsHeap N P_Heap_box P_box_valid P_box_has P_impl_compareCells) trivial) (by kernel_rfl) (by kernel_rfl) (by kernel_rfl) (by kernel_rfl) (by kernel_rfl) (of_decide_eq_true (by kernel_rfl))
noncomputable def l_impl_IsHeap_4 : Nat → Int → Int → Int → (List D_A3) → (List D_A3) → Int → Int → Option (denL R_impl_IsHeap) := hid (fun m0 p0 p1 p2 p3 p4 p5 p6 => L_impl_IsHeap_4 N P_Heap_box P_box_valid P_box_has P_impl_compareCells m0 p0 p1 p2 p3 p4 p5 p6)
theorem h_impl_IsHeap_4 : l_impl_IsHeap_4 = fun m0 p0 p1 p2 p3 p4 p5 p6 => L_impl_IsHeap_4 N P_Heap_box P_box_valid P_box_has P_impl_compareCells m0 p0 p1 p2 p3 p4 p5 p6 := hid_eq _
theorem p_impl_IsHeap (a0 : D_Heap) : P_impl_IsHeap (a0, ()) = 
 Option.bind (P_Heap_box (a0, ())) fun r0 =>
 Option.bind (P_box_valid (r0.1, ())) fun r1 =>
 bif !r1.1 then
 some (false, ())
 else
 l_impl_IsHeap_4 N a0.1 a0.2.1 a0.2.2.1 a0.2.2.2.1 a0.2.2.2.1 (List.length a0.2.2.2.1 : Int) 0 := by
 rewrite [h_impl_IsHeap, h_impl_IsHeap_4]
 exact e_impl_IsHeap N P_Heap_box P_box_valid P_box_has P_impl_compareCells a0
theorem q_impl_IsHeap_4 (m0 : Nat) (p0 p1 p2 : Int) (p3 p4 : List D_A3) (p5 p6 : Int) : l_impl_IsHeap_4 (m0 + 1) p0 p1 p2 p3 p4 p5 p6 = 
 bif decide (p6 < p5) then
 bif inB p6 (List.length p4) then
 Option.bind (P_Heap_box ((p0, (p1, (p2, (p3, ())))), ())) fun r2 =>
 Option.bind (P_box_has (r2.1, (nth T_A3 p4 p6), ())) fun r3 =>
 bif !r3.1 then
 some (false, ())
 else
 bif decide (p6 > 0) then
 bif inB (IntKind.wrap .i64 (p6 - 1)) (List.length p3) then
 Option.bind (P_impl_compareCells ((nth T_A3 p3 (IntKind.wrap .i64 (p6 - 1))), (nth T_A3 p4 p6), ())) fun r7 =>
 bif decide (r7.1 ≥ 0) then
 some (false, ())
 else
 l_impl_IsHeap_4 m0 p0 p1 p2 p3 p4 p5 (IntKind.wrap .i64 (p6 + 1))
 else none
 else
 l_impl_IsHeap_4 m0 p0 p1 p2 p3 p4 p5 (IntKind.wrap .i64 (p6 + 1))
 else none
 else
 some (true, ()) := by
 rewrite [h_impl_IsHeap_4]
 exact e_impl_IsHeap_4 N P_Heap_box P_box_valid P_box_has P_impl_compareCells m0 p0 p1 p2 p3 p4 p5 p6

abbrev As_box_index : List ATy := [.data true T_A3, .data true T_A3]
abbrev R_box_index : List (Bool × Ty) := [(false, (.int .i64))]
abbrev M_box_index : List RMode := []
abbrev Ft_box_index : Type := D_A3 × D_A3 × Unit → Option (Int × Unit)
noncomputable def X_box_index (n : Nat) : Ctx := { types := TT, globals := [], con := [], keep := [], results := [.tmp 4], ntmps := 19, n := n }
noncomputable def B_box_index : Code := (Tryz.f76.body).getD .skip
theorem e_box_index (n : Nat) (a0 a1 : D_A3) : runF (X_box_index n) B_box_index As_box_index R_box_index M_box_index (a0, a1, ()) = 
 some ((IntKind.wrap .i64 ((IntKind.wrap .i64 ((IntKind.wrap .i64 ((IntKind.wrap .i64 (a1.1 * a0.2.1)) + a1.2.1)) * a0.2.2.1)) + a1.2.2.1)), ()) := by kernel_rfl
noncomputable def P_box_index : Ft_box_index := hid (runF (X_box_index N) B_box_index As_box_index R_box_index M_box_index)
theorem h_box_index : P_box_index = runF (X_box_index N) B_box_index As_box_index R_box_index M_box_index := hid_eq _
noncomputable def C_box_index : Contract := ⟨As_box_index, R_box_index, M_box_index, P_box_index⟩
theorem s_box_index : Sound Tryz.prog GG 76 C_box_index := by
 unfold C_box_index; rw [h_box_index]
 exact sound_of_run (fn := Tryz.f76) hmix hstable (tyOK_of ttOK) (hglob (X_box_index N)) (conOK_of (X := X_box_index N) trivial) (mconOK_of (X := X_box_index N) trivial) (by kernel_rfl) (by kernel_rfl) (by kernel_rfl) (by kernel_rfl) (by kernel_rfl) (of_decide_eq_true (by kernel_rfl))
theorem p_box_index (a0 a1 : D_A3) : P_box_index (a0, a1, ()) = 
 some ((IntKind.wrap .i64 ((IntKind.wrap .i64 ((IntKind.wrap .i64 ((IntKind.wrap .i64 (a1.1 * a0.2.1)) + a1.2.1)) * a0.2.2.1)) + a1.2.2.1)), ()) := by
 rewrite [h_box_index]
 exact e_box_index N a0 a1

abbrev As_Heap_cubes : List ATy := [.data true T_Heap]
abbrev R_Heap_cubes : List (Bool × Ty) := [(false, (.int .u64))]
abbrev M_Heap_cubes : List RMode := []
abbrev Ft_Heap_cubes : Type := D_Heap × Unit → Option (Int × Unit)
noncomputable def X_Heap_cubes (n : Nat) (F_Heap_box : Ft_Heap_box) (F_box_index : Ft_box_index) : Ctx := { types := TT, globals := [], con := [(50, ⟨As_Heap_box, R_Heap_box, M_Heap_box, F_Heap_box⟩), (76, ⟨As_box_index, R_box_index, M_box_index, F_box_index⟩)], keep := [(3, ⟨[.box 1, .tmp 1, .tmp 3, .tmp 7, .tmp 8, .tmp 9], []⟩)], results := [.tmp 2], ntmps := 22, n := n }
noncomputable def B_Heap_cubes : Code := (Tryz.f70.body).getD .skip
noncomputable def L_Heap_cubes_3 (n : Nat) (F_Heap_box : Ft_Heap_box) (F_box_index : Ft_box_index) (m0 : Nat) (p0 p1 p2 : Int) (p3 : List D_A3) (p4 : Int) (p5 : List D_A3) (p6 p7 : Int) : Option (denL R_Heap_cubes) := loopF (X_Heap_cubes n F_Heap_box F_box_index) B_Heap_cubes R_Heap_cubes M_Heap_cubes 3 [m0] [(.ver, .num 1), (.box 1, .box 0 false [.int .i64 p0, .int .i64 p1, .int .i64 p2, .imm T_A3 p3 (some 3)]), (.tmp 1, .val false [.addr 1 0 0]), (.tmp 3, .val false [.int .u64 p4]), (.tmp 7, .val false [.imm T_A3 p5 (some 3)]), (.tmp 8, .val false [.int .i64 p6]), (.tmp 9, .val false [.int .i64 p7])]
theorem e_Heap_cubes (n : Nat) (F_Heap_box : Ft_Heap_box) (F_box_index : Ft_box_index) (a0 : D_Heap) : runF (X_Heap_cubes n F_Heap_box F_box_index) B_Heap_cubes As_Heap_cubes R_Heap_cubes M_Heap_cubes (a0, ()) = 
 L_Heap_cubes_3 n F_Heap_box F_box_index n a0.1 a0.2.1 a0.2.2.1 a0.2.2.2.1 0 a0.2.2.2.1 (List.length a0.2.2.2.1 : Int) 0 := by kernel_rfl
theorem e_Heap_cubes_3 (n : Nat) (F_Heap_box : Ft_Heap_box) (F_box_index : Ft_box_index) (m0 : Nat) (p0 p1 p2 : Int) (p3 : List D_A3) (p4 : Int) (p5 : List D_A3) (p6 p7 : Int) : L_Heap_cubes_3 n F_Heap_box F_box_index (m0 + 1) p0 p1 p2 p3 p4 p5 p6 p7 = 
 bif decide (p7 < p6) then
 bif inB p7 (List.length p5) then
 Option.bind (F_Heap_box ((p0, (p1, (p2, (p3, ())))), ())) fun r2 =>
 Option.bind (F_box_index (r2.1, (nth T_A3 p5 p7), ())) fun r3 =>
 bif decide ((0 : Int) ≤ r3.1) then
 L_Heap_cubes_3 n F_Heap_box F_box_index m0 p0 p1 p2 p3 (intBits .or .u64 p4 (shlI .u64 1 r3.1)) p5 p6 (IntKind.wrap .i64 (p7 + 1))
 else none
 else none
 else
 some (p4, ()) := by kernel_rfl
noncomputable def P_Heap_cubes : Ft_Heap_cubes := hid (runF (X_Heap_cubes N P_Heap_box P_box_index) B_Heap_cubes As_Heap_cubes R_Heap_cubes M_Heap_cubes)
theorem h_Heap_cubes : P_Heap_cubes = runF (X_Heap_cubes N P_Heap_box P_box_index) B_Heap_cubes As_Heap_cubes R_Heap_cubes M_Heap_cubes := hid_eq _
noncomputable def C_Heap_cubes : Contract := ⟨As_Heap_cubes, R_Heap_cubes, M_Heap_cubes, P_Heap_cubes⟩
theorem s_Heap_cubes : Sound Tryz.prog GG 70 C_Heap_cubes := by
 unfold C_Heap_cubes; rw [h_Heap_cubes]
 exact sound_of_run (fn := Tryz.f70) hmix hstable (tyOK_of ttOK) (hglob (X_Heap_cubes N P_Heap_box P_box_index)) (conOK_of (X := X_Heap_cubes N P_Heap_box P_box_index) ⟨s_Heap_box, s_box_index, trivial⟩) (mconOK_of (X := X_Heap_cubes N P_Heap_box P_box_index) trivial) (by kernel_rfl) (by kernel_rfl) (by kernel_rfl) (by kernel_rfl) (by kernel_rfl) (of_decide_eq_true (by kernel_rfl))
noncomputable def l_Heap_cubes_3 : Nat → Int → Int → Int → (List D_A3) → Int → (List D_A3) → Int → Int → Option (denL R_Heap_cubes) := hid (fun m0 p0 p1 p2 p3 p4 p5 p6 p7 => L_Heap_cubes_3 N P_Heap_box P_box_index m0 p0 p1 p2 p3 p4 p5 p6 p7)
theorem h_Heap_cubes_3 : l_Heap_cubes_3 = fun m0 p0 p1 p2 p3 p4 p5 p6 p7 => L_Heap_cubes_3 N P_Heap_box P_box_index m0 p0 p1 p2 p3 p4 p5 p6 p7 := hid_eq _
theorem p_Heap_cubes (a0 : D_Heap) : P_Heap_cubes (a0, ()) = 
 l_Heap_cubes_3 N a0.1 a0.2.1 a0.2.2.1 a0.2.2.2.1 0 a0.2.2.2.1 (List.length a0.2.2.2.1 : Int) 0 := by
 rewrite [h_Heap_cubes, h_Heap_cubes_3]
 exact e_Heap_cubes N P_Heap_box P_box_index a0
theorem q_Heap_cubes_3 (m0 : Nat) (p0 p1 p2 : Int) (p3 : List D_A3) (p4 : Int) (p5 : List D_A3) (p6 p7 : Int) : l_Heap_cubes_3 (m0 + 1) p0 p1 p2 p3 p4 p5 p6 p7 = 
 bif decide (p7 < p6) then
 bif inB p7 (List.length p5) then
 Option.bind (P_Heap_box ((p0, (p1, (p2, (p3, ())))), ())) fun r2 =>
 Option.bind (P_box_index (r2.1, (nth T_A3 p5 p7), ())) fun r3 =>
 bif decide ((0 : Int) ≤ r3.1) then
 l_Heap_cubes_3 m0 p0 p1 p2 p3 (intBits .or .u64 p4 (shlI .u64 1 r3.1)) p5 p6 (IntKind.wrap .i64 (p7 + 1))
 else none
 else none
 else
 some (p4, ()) := by
 rewrite [h_Heap_cubes_3]
 exact e_Heap_cubes_3 N P_Heap_box P_box_index m0 p0 p1 p2 p3 p4 p5 p6 p7

abbrev As_box_size : List ATy := [.data true T_A3]
abbrev R_box_size : List (Bool × Ty) := [(false, (.int .i64))]
abbrev M_box_size : List RMode := []
abbrev Ft_box_size : Type := D_A3 × Unit → Option (Int × Unit)
noncomputable def X_box_size (n : Nat) : Ctx := { types := TT, globals := [], con := [], keep := [], results := [.tmp 2], ntmps := 11, n := n }
noncomputable def B_box_size : Code := (Tryz.f127.body).getD .skip
theorem e_box_size (n : Nat) (a0 : D_A3) : runF (X_box_size n) B_box_size As_box_size R_box_size M_box_size (a0, ()) = 
 some ((IntKind.wrap .i64 ((IntKind.wrap .i64 (a0.1 * a0.2.1)) * a0.2.2.1)), ()) := by kernel_rfl
noncomputable def P_box_size : Ft_box_size := hid (runF (X_box_size N) B_box_size As_box_size R_box_size M_box_size)
theorem h_box_size : P_box_size = runF (X_box_size N) B_box_size As_box_size R_box_size M_box_size := hid_eq _
noncomputable def C_box_size : Contract := ⟨As_box_size, R_box_size, M_box_size, P_box_size⟩
theorem s_box_size : Sound Tryz.prog GG 127 C_box_size := by
 unfold C_box_size; rw [h_box_size]
 exact sound_of_run (fn := Tryz.f127) hmix hstable (tyOK_of ttOK) (hglob (X_box_size N)) (conOK_of (X := X_box_size N) trivial) (mconOK_of (X := X_box_size N) trivial) (by kernel_rfl) (by kernel_rfl) (by kernel_rfl) (by kernel_rfl) (by kernel_rfl) (of_decide_eq_true (by kernel_rfl))
theorem p_box_size (a0 : D_A3) : P_box_size (a0, ()) = 
 some ((IntKind.wrap .i64 ((IntKind.wrap .i64 (a0.1 * a0.2.1)) * a0.2.2.1)), ()) := by
 rewrite [h_box_size]
 exact e_box_size N a0

abbrev As_box_full : List ATy := [.data true T_A3]
abbrev R_box_full : List (Bool × Ty) := [(false, (.int .u64))]
abbrev M_box_full : List RMode := []
abbrev Ft_box_full : Type := D_A3 × Unit → Option (Int × Unit)
noncomputable def X_box_full (n : Nat) (F_box_size : Ft_box_size) : Ctx := { types := TT, globals := [], con := [(127, ⟨As_box_size, R_box_size, M_box_size, F_box_size⟩)], keep := [], results := [.tmp 2], ntmps := 7, n := n }
noncomputable def B_box_full : Code := (Tryz.f101.body).getD .skip
theorem e_box_full (n : Nat) (F_box_size : Ft_box_size) (a0 : D_A3) : runF (X_box_full n F_box_size) B_box_full As_box_full R_box_full M_box_full (a0, ()) = 
 Option.bind (F_box_size (a0, ())) fun r0 =>
 bif decide ((0 : Int) ≤ r0.1) then
 some ((IntKind.wrap .u64 ((shlI .u64 1 r0.1) - 1)), ())
 else none := by kernel_rfl
noncomputable def P_box_full : Ft_box_full := hid (runF (X_box_full N P_box_size) B_box_full As_box_full R_box_full M_box_full)
theorem h_box_full : P_box_full = runF (X_box_full N P_box_size) B_box_full As_box_full R_box_full M_box_full := hid_eq _
noncomputable def C_box_full : Contract := ⟨As_box_full, R_box_full, M_box_full, P_box_full⟩
theorem s_box_full : Sound Tryz.prog GG 101 C_box_full := by
 unfold C_box_full; rw [h_box_full]
 exact sound_of_run (fn := Tryz.f101) hmix hstable (tyOK_of ttOK) (hglob (X_box_full N P_box_size)) (conOK_of (X := X_box_full N P_box_size) ⟨s_box_size, trivial⟩) (mconOK_of (X := X_box_full N P_box_size) trivial) (by kernel_rfl) (by kernel_rfl) (by kernel_rfl) (by kernel_rfl) (by kernel_rfl) (of_decide_eq_true (by kernel_rfl))
theorem p_box_full (a0 : D_A3) : P_box_full (a0, ()) = 
 Option.bind (P_box_size (a0, ())) fun r0 =>
 bif decide ((0 : Int) ≤ r0.1) then
 some ((IntKind.wrap .u64 ((shlI .u64 1 r0.1) - 1)), ())
 else none := by
 rewrite [h_box_full]
 exact e_box_full N P_box_size a0

abbrev As_box_cell : List ATy := [.data true T_A3, .data false (.int .i64)]
abbrev R_box_cell : List (Bool × Ty) := [(true, T_A3)]
abbrev M_box_cell : List RMode := []
abbrev Ft_box_cell : Type := D_A3 × Int × Unit → Option (D_A3 × Unit)
noncomputable def X_box_cell (n : Nat) : Ctx := { types := TT, globals := [], con := [], keep := [], results := [.cell 4 38], ntmps := 24, n := n }
noncomputable def B_box_cell : Code := (Tryz.f128.body).getD .skip
theorem e_box_cell (n : Nat) (a0 : D_A3) (a1 : Int) : runF (X_box_cell n) B_box_cell As_box_cell R_box_cell M_box_cell (a0, a1, ()) = 
 bif !decide (a0.2.2.1 = 0) then
 bif !decide (a0.2.1 = 0) then
 bif !decide (a0.2.2.1 = 0) then
 bif !decide (a0.2.1 = 0) then
 bif !decide (a0.2.2.1 = 0) then
 some (((IntKind.wrap .i64 (Int.tdiv (IntKind.wrap .i64 (Int.tdiv a1 a0.2.2.1)) a0.2.1)), ((Int.tmod (IntKind.wrap .i64 (Int.tdiv a1 a0.2.2.1)) a0.2.1), ((Int.tmod a1 a0.2.2.1), ()))), ())
 else none
 else none
 else none
 else none
 else none := by kernel_rfl
noncomputable def P_box_cell : Ft_box_cell := hid (runF (X_box_cell N) B_box_cell As_box_cell R_box_cell M_box_cell)
theorem h_box_cell : P_box_cell = runF (X_box_cell N) B_box_cell As_box_cell R_box_cell M_box_cell := hid_eq _
noncomputable def C_box_cell : Contract := ⟨As_box_cell, R_box_cell, M_box_cell, P_box_cell⟩
theorem s_box_cell : Sound Tryz.prog GG 128 C_box_cell := by
 unfold C_box_cell; rw [h_box_cell]
 exact sound_of_run (fn := Tryz.f128) hmix hstable (tyOK_of ttOK) (hglob (X_box_cell N)) (conOK_of (X := X_box_cell N) trivial) (mconOK_of (X := X_box_cell N) trivial) (by kernel_rfl) (by kernel_rfl) (by kernel_rfl) (by kernel_rfl) (by kernel_rfl) (of_decide_eq_true (by kernel_rfl))
theorem p_box_cell (a0 : D_A3) (a1 : Int) : P_box_cell (a0, a1, ()) = 
 bif !decide (a0.2.2.1 = 0) then
 bif !decide (a0.2.1 = 0) then
 bif !decide (a0.2.2.1 = 0) then
 bif !decide (a0.2.1 = 0) then
 bif !decide (a0.2.2.1 = 0) then
 some (((IntKind.wrap .i64 (Int.tdiv (IntKind.wrap .i64 (Int.tdiv a1 a0.2.2.1)) a0.2.1)), ((Int.tmod (IntKind.wrap .i64 (Int.tdiv a1 a0.2.2.1)) a0.2.1), ((Int.tmod a1 a0.2.2.1), ()))), ())
 else none
 else none
 else none
 else none
 else none := by
 rewrite [h_box_cell]
 exact e_box_cell N a0 a1

abbrev As_box_those : List ATy := [.data true T_A3, .clo [(true, T_A3)] [(false, .bool)]]
abbrev R_box_those : List (Bool × Ty) := [(false, (.int .u64))]
abbrev M_box_those : List RMode := []
abbrev Ft_box_those : Type := D_A3 × ((D_A3 × Unit) → Option (Bool × Unit)) × Unit → Option (Int × Unit)
noncomputable def X_box_those (n : Nat) (F_box_size : Ft_box_size) (F_box_cell : Ft_box_cell) : Ctx := { types := TT, globals := [], con := [(127, ⟨As_box_size, R_box_size, M_box_size, F_box_size⟩), (128, ⟨As_box_cell, R_box_cell, M_box_cell, F_box_cell⟩)], keep := [(3, ⟨[.box 2, .tmp 1, .tmp 2, .tmp 5, .tmp 8, .tmp 9], []⟩)], results := [.tmp 4], ntmps := 23, n := n }
noncomputable def B_box_those : Code := (Tryz.f105.body).getD .skip
noncomputable def L_box_those_3 (n : Nat) (F_box_size : Ft_box_size) (F_box_cell : Ft_box_cell) (m0 : Nat) (p0 p1 p2 : Int) (p3 : (D_A3 × Unit) → Option (Bool × Unit)) (p4 p5 p6 : Int) : Option (denL R_box_those) := loopF (X_box_those n F_box_size F_box_cell) B_box_those R_box_those M_box_those 3 [m0] [(.ver, .num 1), (.box 2, .box 0 false [.int .i64 p0, .int .i64 p1, .int .i64 p2]), (.tmp 1, .val false [.clo [(true, T_A3)] [(false, .bool)] p3]), (.tmp 2, .val false [.addr 2 0 0]), (.tmp 5, .val false [.int .u64 p4]), (.tmp 8, .val false [.int .i64 p5]), (.tmp 9, .val false [.int .i64 p6])]
theorem e_box_those (n : Nat) (F_box_size : Ft_box_size) (F_box_cell : Ft_box_cell) (a0 : D_A3) (a1 : (D_A3 × Unit) → Option (Bool × Unit)) : runF (X_box_those n F_box_size F_box_cell) B_box_those As_box_those R_box_those M_box_those (a0, a1, ()) = 
 Option.bind (F_box_size (a0, ())) fun r0 =>
 L_box_those_3 n F_box_size F_box_cell n a0.1 a0.2.1 a0.2.2.1 a1 0 r0.1 0 := by kernel_rfl
theorem e_box_those_3 (n : Nat) (F_box_size : Ft_box_size) (F_box_cell : Ft_box_cell) (m0 : Nat) (p0 p1 p2 : Int) (p3 : (D_A3 × Unit) → Option (Bool × Unit)) (p4 p5 p6 : Int) : L_box_those_3 n F_box_size F_box_cell (m0 + 1) p0 p1 p2 p3 p4 p5 p6 = 
 bif decide (p6 < p5) then
 Option.bind (F_box_cell ((p0, (p1, (p2, ()))), p6, ())) fun r1 =>
 Option.bind (p3 (r1.1, ())) fun r2 =>
 bif r2.1 then
 bif decide ((0 : Int) ≤ p6) then
 L_box_those_3 n F_box_size F_box_cell m0 p0 p1 p2 p3 (intBits .or .u64 p4 (shlI .u64 1 p6)) p5 (IntKind.wrap .i64 (p6 + 1))
 else none
 else
 L_box_those_3 n F_box_size F_box_cell m0 p0 p1 p2 p3 p4 p5 (IntKind.wrap .i64 (p6 + 1))
 else
 some (p4, ()) := by kernel_rfl
noncomputable def P_box_those : Ft_box_those := hid (runF (X_box_those N P_box_size P_box_cell) B_box_those As_box_those R_box_those M_box_those)
theorem h_box_those : P_box_those = runF (X_box_those N P_box_size P_box_cell) B_box_those As_box_those R_box_those M_box_those := hid_eq _
noncomputable def C_box_those : Contract := ⟨As_box_those, R_box_those, M_box_those, P_box_those⟩
theorem s_box_those : Sound Tryz.prog GG 105 C_box_those := by
 unfold C_box_those; rw [h_box_those]
 exact sound_of_run (fn := Tryz.f105) hmix hstable (tyOK_of ttOK) (hglob (X_box_those N P_box_size P_box_cell)) (conOK_of (X := X_box_those N P_box_size P_box_cell) ⟨s_box_size, s_box_cell, trivial⟩) (mconOK_of (X := X_box_those N P_box_size P_box_cell) trivial) (by kernel_rfl) (by kernel_rfl) (by kernel_rfl) (by kernel_rfl) (by kernel_rfl) (of_decide_eq_true (by kernel_rfl))
noncomputable def l_box_those_3 : Nat → Int → Int → Int → ((D_A3 × Unit) → Option (Bool × Unit)) → Int → Int → Int → Option (denL R_box_those) := hid (fun m0 p0 p1 p2 p3 p4 p5 p6 => L_box_those_3 N P_box_size P_box_cell m0 p0 p1 p2 p3 p4 p5 p6)
theorem h_box_those_3 : l_box_those_3 = fun m0 p0 p1 p2 p3 p4 p5 p6 => L_box_those_3 N P_box_size P_box_cell m0 p0 p1 p2 p3 p4 p5 p6 := hid_eq _
theorem p_box_those (a0 : D_A3) (a1 : (D_A3 × Unit) → Option (Bool × Unit)) : P_box_those (a0, a1, ()) = 
 Option.bind (P_box_size (a0, ())) fun r0 =>
 l_box_those_3 N a0.1 a0.2.1 a0.2.2.1 a1 0 r0.1 0 := by
 rewrite [h_box_those, h_box_those_3]
 exact e_box_those N P_box_size P_box_cell a0 a1
theorem q_box_those_3 (m0 : Nat) (p0 p1 p2 : Int) (p3 : (D_A3 × Unit) → Option (Bool × Unit)) (p4 p5 p6 : Int) : l_box_those_3 (m0 + 1) p0 p1 p2 p3 p4 p5 p6 = 
 bif decide (p6 < p5) then
 Option.bind (P_box_cell ((p0, (p1, (p2, ()))), p6, ())) fun r1 =>
 Option.bind (p3 (r1.1, ())) fun r2 =>
 bif r2.1 then
 bif decide ((0 : Int) ≤ p6) then
 l_box_those_3 m0 p0 p1 p2 p3 (intBits .or .u64 p4 (shlI .u64 1 p6)) p5 (IntKind.wrap .i64 (p6 + 1))
 else none
 else
 l_box_those_3 m0 p0 p1 p2 p3 p4 p5 (IntKind.wrap .i64 (p6 + 1))
 else
 some (p4, ()) := by
 rewrite [h_box_those_3]
 exact e_box_those_3 N P_box_size P_box_cell m0 p0 p1 p2 p3 p4 p5 p6

abbrev As_box_near : List ATy := [.data true T_A3, .data true T_A3]
abbrev R_box_near : List (Bool × Ty) := [(false, (.int .u64))]
abbrev M_box_near : List RMode := []
abbrev Ft_box_near : Type := D_A3 × D_A3 × Unit → Option (Int × Unit)
noncomputable def X_box_near (n : Nat) (F_box_has : Ft_box_has) (F_box_index : Ft_box_index) : Ctx := { types := TT, globals := [], con := [(52, ⟨As_box_has, R_box_has, M_box_has, F_box_has⟩), (76, ⟨As_box_index, R_box_index, M_box_index, F_box_index⟩)], keep := [(3, ⟨[.box 2, .box 3, .tmp 2, .tmp 3, .tmp 5, .tmp 10], []⟩), (6, ⟨[.box 2, .box 3, .tmp 2, .tmp 3, .tmp 5, .tmp 6, .tmp 10, .tmp 13, .tmp 14], []⟩)], results := [.tmp 4], ntmps := 36, n := n }
noncomputable def B_box_near : Code := (Tryz.f107.body).getD .skip
noncomputable def L_box_near_3 (n : Nat) (F_box_has : Ft_box_has) (F_box_index : Ft_box_index) (m0 : Nat) (p0 p1 : Int) (p2 p3 : Int) (p4 p5 : Int) (p6 p7 : Int) : Option (denL R_box_near) := loopF (X_box_near n F_box_has F_box_index) B_box_near R_box_near M_box_near 3 [m0] [(.ver, .num 1), (.box 2, .box 0 false [.int .i64 p0, .int .i64 p1, .int .i64 p2]), (.box 3, .box 0 false [.int .i64 p3, .int .i64 p4, .int .i64 p5]), (.tmp 2, .val false [.addr 2 0 0]), (.tmp 3, .val false [.addr 3 0 0]), (.tmp 5, .val false [.int .u64 p6]), (.tmp 10, .val false [.int .i64 p7])]
noncomputable def L_box_near_6 (n : Nat) (F_box_has : Ft_box_has) (F_box_index : Ft_box_index) (m0 m1 : Nat) (p0 p1 : Int) (p2 p3 : Int) (p4 p5 : Int) (p6 p7 : Int) (p8 p9 : Int) (p10 p11 : Int) : Option (denL R_box_near) := loopF (X_box_near n F_box_has F_box_index) B_box_near R_box_near M_box_near 6 [m0, m1] [(.ver, .num 1), (.box 2, .box 0 false [.int .i64 p0, .int .i64 p1, .int .i64 p2]), (.box 3, .box 0 false [.int .i64 p3, .int .i64 p4, .int .i64 p5]), (.tmp 2, .val false [.addr 2 0 0]), (.tmp 3, .val false [.addr 3 0 0]), (.tmp 5, .val false [.int .u64 p6]), (.tmp 6, .val false [.int .i64 p7]), (.tmp 10, .val false [.int .i64 p8]), (.tmp 13, .val true [.int .i64 p9, .int .i64 p10]), (.tmp 14, .val false [.int .i64 p11])]
theorem e_box_near (n : Nat) (F_box_has : Ft_box_has) (F_box_index : Ft_box_index) (a0 a1 : D_A3) : runF (X_box_near n F_box_has F_box_index) B_box_near As_box_near R_box_near M_box_near (a0, a1, ()) = 
 L_box_near_3 n F_box_has F_box_index n a0.1 a0.2.1 a0.2.2.1 a1.1 a1.2.1 a1.2.2.1 0 0 := by kernel_rfl
theorem e_box_near_3 (n : Nat) (F_box_has : Ft_box_has) (F_box_index : Ft_box_index) (m0 : Nat) (p0 p1 : Int) (p2 p3 : Int) (p4 p5 : Int) (p6 p7 : Int) : L_box_near_3 n F_box_has F_box_index (m0 + 1) p0 p1 p2 p3 p4 p5 p6 p7 = 
 bif decide (p7 < 3) then
 L_box_near_6 n F_box_has F_box_index m0 n p0 p1 p2 p3 p4 p5 p6 p7 p7 (-1) 1 0
 else
 some (p6, ()) := by kernel_rfl
theorem e_box_near_6 (n : Nat) (F_box_has : Ft_box_has) (F_box_index : Ft_box_index) (m0 m1 : Nat) (p0 p1 : Int) (p2 p3 : Int) (p4 p5 : Int) (p6 p7 : Int) (p8 p9 : Int) (p10 p11 : Int) : L_box_near_6 n F_box_has F_box_index m0 (m1 + 1) p0 p1 p2 p3 p4 p5 p6 p7 p8 p9 p10 p11 = 
 bif decide (p11 < 2) then
 bif inB p11 2 then
 bif inB p7 3 then
 bif inB p7 3 then
 Option.bind (F_box_has ((p0, (p1, (p2, ()))), ((bif decide (p7 = (0 : Int)) then (IntKind.wrap .i64 ((bif decide (p7 = (0 : Int)) then p3 else (bif decide (p7 = (1 : Int)) then p4 else p5)) + (bif decide (p11 = (0 : Int)) then p9 else p10))) else p3), ((bif decide (p7 = (1 : Int)) then (IntKind.wrap .i64 ((bif decide (p7 = (0 : Int)) then p3 else (bif decide (p7 = (1 : Int)) then p4 else p5)) + (bif decide (p11 = (0 : Int)) then p9 else p10))) else p4), ((bif decide (p7 = (2 : Int)) then (IntKind.wrap .i64 ((bif decide (p7 = (0 : Int)) then p3 else (bif decide (p7 = (1 : Int)) then p4 else p5)) + (bif decide (p11 = (0 : Int)) then p9 else p10))) else p5), ()))), ())) fun r4 =>
 bif r4.1 then
 Option.bind (F_box_index ((p0, (p1, (p2, ()))), ((bif decide (p7 = (0 : Int)) then (IntKind.wrap .i64 ((bif decide (p7 = (0 : Int)) then p3 else (bif decide (p7 = (1 : Int)) then p4 else p5)) + (bif decide (p11 = (0 : Int)) then p9 else p10))) else p3), ((bif decide (p7 = (1 : Int)) then (IntKind.wrap .i64 ((bif decide (p7 = (0 : Int)) then p3 else (bif decide (p7 = (1 : Int)) then p4 else p5)) + (bif decide (p11 = (0 : Int)) then p9 else p10))) else p4), ((bif decide (p7 = (2 : Int)) then (IntKind.wrap .i64 ((bif decide (p7 = (0 : Int)) then p3 else (bif decide (p7 = (1 : Int)) then p4 else p5)) + (bif decide (p11 = (0 : Int)) then p9 else p10))) else p5), ()))), ())) fun r6 =>
 bif decide ((0 : Int) ≤ r6.1) then
 L_box_near_6 n F_box_has F_box_index m0 m1 p0 p1 p2 p3 p4 p5 (intBits .or .u64 p6 (shlI .u64 1 r6.1)) p7 p8 p9 p10 (IntKind.wrap .i64 (p11 + 1))
 else none
 else
 L_box_near_6 n F_box_has F_box_index m0 m1 p0 p1 p2 p3 p4 p5 p6 p7 p8 p9 p10 (IntKind.wrap .i64 (p11 + 1))
 else none
 else none
 else none
 else
 L_box_near_3 n F_box_has F_box_index m0 p0 p1 p2 p3 p4 p5 p6 (IntKind.wrap .i64 (p8 + 1)) := by kernel_rfl
noncomputable def P_box_near : Ft_box_near := hid (runF (X_box_near N P_box_has P_box_index) B_box_near As_box_near R_box_near M_box_near)
theorem h_box_near : P_box_near = runF (X_box_near N P_box_has P_box_index) B_box_near As_box_near R_box_near M_box_near := hid_eq _
noncomputable def C_box_near : Contract := ⟨As_box_near, R_box_near, M_box_near, P_box_near⟩
theorem s_box_near : Sound Tryz.prog GG 107 C_box_near := by
 unfold C_box_near; rw [h_box_near]
 exact sound_of_run (fn := Tryz.f107) hmix hstable (tyOK_of ttOK) (hglob (X_box_near N P_box_has P_box_index)) (conOK_of (X := X_box_near N P_box_has P_box_index) ⟨s_box_has, s_box_index, trivial⟩) (mconOK_of (X := X_box_near N P_box_has P_box_index) trivial) (by kernel_rfl) (by kernel_rfl) (by kernel_rfl) (by kernel_rfl) (by kernel_rfl) (of_decide_eq_true (by kernel_rfl))
noncomputable def l_box_near_3 : Nat → Int → Int → Int → Int → Int → Int → Int → Int → Option (denL R_box_near) := hid (fun m0 p0 p1 p2 p3 p4 p5 p6 p7 => L_box_near_3 N P_box_has P_box_index m0 p0 p1 p2 p3 p4 p5 p6 p7)
theorem h_box_near_3 : l_box_near_3 = fun m0 p0 p1 p2 p3 p4 p5 p6 p7 => L_box_near_3 N P_box_has P_box_index m0 p0 p1 p2 p3 p4 p5 p6 p7 := hid_eq _
noncomputable def l_box_near_6 : Nat → Nat → Int → Int → Int → Int → Int → Int → Int → Int → Int → Int → Int → Int → Option (denL R_box_near) := hid (fun m0 m1 p0 p1 p2 p3 p4 p5 p6 p7 p8 p9 p10 p11 => L_box_near_6 N P_box_has P_box_index m0 m1 p0 p1 p2 p3 p4 p5 p6 p7 p8 p9 p10 p11)
theorem h_box_near_6 : l_box_near_6 = fun m0 m1 p0 p1 p2 p3 p4 p5 p6 p7 p8 p9 p10 p11 => L_box_near_6 N P_box_has P_box_index m0 m1 p0 p1 p2 p3 p4 p5 p6 p7 p8 p9 p10 p11 := hid_eq _
theorem p_box_near (a0 a1 : D_A3) : P_box_near (a0, a1, ()) = 
 l_box_near_3 N a0.1 a0.2.1 a0.2.2.1 a1.1 a1.2.1 a1.2.2.1 0 0 := by
 rewrite [h_box_near, h_box_near_3]
 exact e_box_near N P_box_has P_box_index a0 a1
theorem q_box_near_3 (m0 : Nat) (p0 p1 : Int) (p2 p3 : Int) (p4 p5 : Int) (p6 p7 : Int) : l_box_near_3 (m0 + 1) p0 p1 p2 p3 p4 p5 p6 p7 = 
 bif decide (p7 < 3) then
 l_box_near_6 m0 N p0 p1 p2 p3 p4 p5 p6 p7 p7 (-1) 1 0
 else
 some (p6, ()) := by
 rewrite [h_box_near_3, h_box_near_6]
 exact e_box_near_3 N P_box_has P_box_index m0 p0 p1 p2 p3 p4 p5 p6 p7
theorem q_box_near_6 (m0 m1 : Nat) (p0 p1 : Int) (p2 p3 : Int) (p4 p5 : Int) (p6 p7 : Int) (p8 p9 : Int) (p10 p11 : Int) : l_box_near_6 m0 (m1 + 1) p0 p1 p2 p3 p4 p5 p6 p7 p8 p9 p10 p11 = 
 bif decide (p11 < 2) then
 bif inB p11 2 then
 bif inB p7 3 then
 bif inB p7 3 then
 Option.bind (P_box_has ((p0, (p1, (p2, ()))), ((bif decide (p7 = (0 : Int)) then (IntKind.wrap .i64 ((bif decide (p7 = (0 : Int)) then p3 else (bif decide (p7 = (1 : Int)) then p4 else p5)) + (bif decide (p11 = (0 : Int)) then p9 else p10))) else p3), ((bif decide (p7 = (1 : Int)) then (IntKind.wrap .i64 ((bif decide (p7 = (0 : Int)) then p3 else (bif decide (p7 = (1 : Int)) then p4 else p5)) + (bif decide (p11 = (0 : Int)) then p9 else p10))) else p4), ((bif decide (p7 = (2 : Int)) then (IntKind.wrap .i64 ((bif decide (p7 = (0 : Int)) then p3 else (bif decide (p7 = (1 : Int)) then p4 else p5)) + (bif decide (p11 = (0 : Int)) then p9 else p10))) else p5), ()))), ())) fun r4 =>
 bif r4.1 then
 Option.bind (P_box_index ((p0, (p1, (p2, ()))), ((bif decide (p7 = (0 : Int)) then (IntKind.wrap .i64 ((bif decide (p7 = (0 : Int)) then p3 else (bif decide (p7 = (1 : Int)) then p4 else p5)) + (bif decide (p11 = (0 : Int)) then p9 else p10))) else p3), ((bif decide (p7 = (1 : Int)) then (IntKind.wrap .i64 ((bif decide (p7 = (0 : Int)) then p3 else (bif decide (p7 = (1 : Int)) then p4 else p5)) + (bif decide (p11 = (0 : Int)) then p9 else p10))) else p4), ((bif decide (p7 = (2 : Int)) then (IntKind.wrap .i64 ((bif decide (p7 = (0 : Int)) then p3 else (bif decide (p7 = (1 : Int)) then p4 else p5)) + (bif decide (p11 = (0 : Int)) then p9 else p10))) else p5), ()))), ())) fun r6 =>
 bif decide ((0 : Int) ≤ r6.1) then
 l_box_near_6 m0 m1 p0 p1 p2 p3 p4 p5 (intBits .or .u64 p6 (shlI .u64 1 r6.1)) p7 p8 p9 p10 (IntKind.wrap .i64 (p11 + 1))
 else none
 else
 l_box_near_6 m0 m1 p0 p1 p2 p3 p4 p5 p6 p7 p8 p9 p10 (IntKind.wrap .i64 (p11 + 1))
 else none
 else none
 else none
 else
 l_box_near_3 m0 p0 p1 p2 p3 p4 p5 p6 (IntKind.wrap .i64 (p8 + 1)) := by
 rewrite [h_box_near_3, h_box_near_6]
 exact e_box_near_6 N P_box_has P_box_index m0 m1 p0 p1 p2 p3 p4 p5 p6 p7 p8 p9 p10 p11

abbrev As_math_bits_OnesCount64 : List ATy := [.data false (.int .u64)]
abbrev R_math_bits_OnesCount64 : List (Bool × Ty) := [(false, (.int .i64))]
abbrev M_math_bits_OnesCount64 : List RMode := []
abbrev Ft_math_bits_OnesCount64 : Type := Int × Unit → Option (Int × Unit)
noncomputable def X_math_bits_OnesCount64 (n : Nat) : Ctx := { types := TT, globals := [], con := [], keep := [], results := [.tmp 2], ntmps := 35, n := n }
noncomputable def B_math_bits_OnesCount64 : Code := (Tryz.f129.body).getD .skip
theorem e_math_bits_OnesCount64 (n : Nat) (a0 : Int) : runF (X_math_bits_OnesCount64 n) B_math_bits_OnesCount64 As_math_bits_OnesCount64 R_math_bits_OnesCount64 M_math_bits_OnesCount64 (a0, ()) = 
 some ((intBits .and .i64 (IntKind.wrap .i64 (IntKind.wrap .u64 ((IntKind.wrap .u64 ((IntKind.wrap .u64 ((intBits .and .u64 (IntKind.wrap .u64 ((shrI .u64 (IntKind.wrap .u64 ((intBits .and .u64 (shrI .u64 (IntKind.wrap .u64 ((intBits .and .u64 (shrI .u64 a0 1) 6148914691236517205) + (intBits .and .u64 a0 6148914691236517205))) 2) 3689348814741910323) + (intBits .and .u64 (IntKind.wrap .u64 ((intBits .and .u64 (shrI .u64 a0 1) 6148914691236517205) + (intBits .and .u64 a0 6148914691236517205))) 3689348814741910323))) 4) + (IntKind.wrap .u64 ((intBits .and .u64 (shrI .u64 (IntKind.wrap .u64 ((intBits .and .u64 (shrI .u64 a0 1) 6148914691236517205) + (intBits .and .u64 a0 6148914691236517205))) 2) 3689348814741910323) + (intBits .and .u64 (IntKind.wrap .u64 ((intBits .and .u64 (shrI .u64 a0 1) 6148914691236517205) + (intBits .and .u64 a0 6148914691236517205))) 3689348814741910323))))) 1085102592571150095) + (shrI .u64 (intBits .and .u64 (IntKind.wrap .u64 ((shrI .u64 (IntKind.wrap .u64 ((intBits .and .u64 (shrI .u64 (IntKind.wrap .u64 ((intBits .and .u64 (shrI .u64 a0 1) 6148914691236517205) + (intBits .and .u64 a0 6148914691236517205))) 2) 3689348814741910323) + (intBits .and .u64 (IntKind.wrap .u64 ((intBits .and .u64 (shrI .u64 a0 1) 6148914691236517205) + (intBits .and .u64 a0 6148914691236517205))) 3689348814741910323))) 4) + (IntKind.wrap .u64 ((intBits .and .u64 (shrI .u64 (IntKind.wrap .u64 ((intBits .and .u64 (shrI .u64 a0 1) 6148914691236517205) + (intBits .and .u64 a0 6148914691236517205))) 2) 3689348814741910323) + (intBits .and .u64 (IntKind.wrap .u64 ((intBits .and .u64 (shrI .u64 a0 1) 6148914691236517205) + (intBits .and .u64 a0 6148914691236517205))) 3689348814741910323))))) 1085102592571150095) 8))) + (shrI .u64 (IntKind.wrap .u64 ((intBits .and .u64 (IntKind.wrap .u64 ((shrI .u64 (IntKind.wrap .u64 ((intBits .and .u64 (shrI .u64 (IntKind.wrap .u64 ((intBits .and .u64 (shrI .u64 a0 1) 6148914691236517205) + (intBits .and .u64 a0 6148914691236517205))) 2) 3689348814741910323) + (intBits .and .u64 (IntKind.wrap .u64 ((intBits .and .u64 (shrI .u64 a0 1) 6148914691236517205) + (intBits .and .u64 a0 6148914691236517205))) 3689348814741910323))) 4) + (IntKind.wrap .u64 ((intBits .and .u64 (shrI .u64 (IntKind.wrap .u64 ((intBits .and .u64 (shrI .u64 a0 1) 6148914691236517205) + (intBits .and .u64 a0 6148914691236517205))) 2) 3689348814741910323) + (intBits .and .u64 (IntKind.wrap .u64 ((intBits .and .u64 (shrI .u64 a0 1) 6148914691236517205) + (intBits .and .u64 a0 6148914691236517205))) 3689348814741910323))))) 1085102592571150095) + (shrI .u64 (intBits .and .u64 (IntKind.wrap .u64 ((shrI .u64 (IntKind.wrap .u64 ((intBits .and .u64 (shrI .u64 (IntKind.wrap .u64 ((intBits .and .u64 (shrI .u64 a0 1) 6148914691236517205) + (intBits .and .u64 a0 6148914691236517205))) 2) 3689348814741910323) + (intBits .and .u64 (IntKind.wrap .u64 ((intBits .and .u64 (shrI .u64 a0 1) 6148914691236517205) + (intBits .and .u64 a0 6148914691236517205))) 3689348814741910323))) 4) + (IntKind.wrap .u64 ((intBits .and .u64 (shrI .u64 (IntKind.wrap .u64 ((intBits .and .u64 (shrI .u64 a0 1) 6148914691236517205) + (intBits .and .u64 a0 6148914691236517205))) 2) 3689348814741910323) + (intBits .and .u64 (IntKind.wrap .u64 ((intBits .and .u64 (shrI .u64 a0 1) 6148914691236517205) + (intBits .and .u64 a0 6148914691236517205))) 3689348814741910323))))) 1085102592571150095) 8))) 16))) + (shrI .u64 (IntKind.wrap .u64 ((IntKind.wrap .u64 ((intBits .and .u64 (IntKind.wrap .u64 ((shrI .u64 (IntKind.wrap .u64 ((intBits .and .u64 (shrI .u64 (IntKind.wrap .u64 ((intBits .and .u64 (shrI .u64 a0 1) 6148914691236517205) + (intBits .and .u64 a0 6148914691236517205))) 2) 3689348814741910323) + (intBits .and .u64 (IntKind.wrap .u64 ((intBits .and .u64 (shrI .u64 a0 1) 6148914691236517205) + (intBits .and .u64 a0 6148914691236517205))) 3689348814741910323))) 4) + (IntKind.wrap .u64 ((intBits .and .u64 (shrI .u64 (IntKind.wrap .u64 ((intBits .and .u64 (shrI .u64 a0 1) 6148914691236517205) + (intBits .and .u64 a0 6148914691236517205))) 2) 3689348814741910323) + (intBits .and .u64 (IntKind.wrap .u64 ((intBits .and .u64 (shrI .u64 a0 1) 6148914691236517205) + (intBits .and .u64 a0 6148914691236517205))) 3689348814741910323))))) 1085102592571150095) + (shrI .u64 (intBits .and .u64 (IntKind.wrap .u64 ((shrI .u64 (IntKind.wrap .u64 ((intBits .and .u64 (shrI .u64 (IntKind.wrap .u64 ((intBits .and .u64 (shrI .u64 a0 1) 6148914691236517205) + (intBits .and .u64 a0 6148914691236517205))) 2) 3689348814741910323) + (intBits .and .u64 (IntKind.wrap .u64 ((intBits .and .u64 (shrI .u64 a0 1) 6148914691236517205) + (intBits .and .u64 a0 6148914691236517205))) 3689348814741910323))) 4) + (IntKind.wrap .u64 ((intBits .and .u64 (shrI .u64 (IntKind.wrap .u64 ((intBits .and .u64 (shrI .u64 a0 1) 6148914691236517205) + (intBits .and .u64 a0 6148914691236517205))) 2) 3689348814741910323) + (intBits .and .u64 (IntKind.wrap .u64 ((intBits .and .u64 (shrI .u64 a0 1) 6148914691236517205) + (intBits .and .u64 a0 6148914691236517205))) 3689348814741910323))))) 1085102592571150095) 8))) + (shrI .u64 (IntKind.wrap .u64 ((intBits .and .u64 (IntKind.wrap .u64 ((shrI .u64 (IntKind.wrap .u64 ((intBits .and .u64 (shrI .u64 (IntKind.wrap .u64 ((intBits .and .u64 (shrI .u64 a0 1) 6148914691236517205) + (intBits .and .u64 a0 6148914691236517205))) 2) 3689348814741910323) + (intBits .and .u64 (IntKind.wrap .u64 ((intBits .and .u64 (shrI .u64 a0 1) 6148914691236517205) + (intBits .and .u64 a0 6148914691236517205))) 3689348814741910323))) 4) + (IntKind.wrap .u64 ((intBits .and .u64 (shrI .u64 (IntKind.wrap .u64 ((intBits .and .u64 (shrI .u64 a0 1) 6148914691236517205) + (intBits .and .u64 a0 6148914691236517205))) 2) 3689348814741910323) + (intBits .and .u64 (IntKind.wrap .u64 ((intBits .and .u64 (shrI .u64 a0 1) 6148914691236517205) + (intBits .and .u64 a0 6148914691236517205))) 3689348814741910323))))) 1085102592571150095) + (shrI .u64 (intBits .and .u64 (IntKind.wrap .u64 ((shrI .u64 (IntKind.wrap .u64 ((intBits .and .u64 (shrI .u64 (IntKind.wrap .u64 ((intBits .and .u64 (shrI .u64 a0 1) 6148914691236517205) + (intBits .and .u64 a0 6148914691236517205))) 2) 3689348814741910323) + (intBits .and .u64 (IntKind.wrap .u64 ((intBits .and .u64 (shrI .u64 a0 1) 6148914691236517205) + (intBits .and .u64 a0 6148914691236517205))) 3689348814741910323))) 4) + (IntKind.wrap .u64 ((intBits .and .u64 (shrI .u64 (IntKind.wrap .u64 ((intBits .and .u64 (shrI .u64 a0 1) 6148914691236517205) + (intBits .and .u64 a0 6148914691236517205))) 2) 3689348814741910323) + (intBits .and .u64 (IntKind.wrap .u64 ((intBits .and .u64 (shrI .u64 a0 1) 6148914691236517205) + (intBits .and .u64 a0 6148914691236517205))) 3689348814741910323))))) 1085102592571150095) 8))) 16))) 32)))) 127), ()) := by kernel_rfl
noncomputable def P_math_bits_OnesCount64 : Ft_math_bits_OnesCount64 := hid (runF (X_math_bits_OnesCount64 N) B_math_bits_OnesCount64 As_math_bits_OnesCount64 R_math_bits_OnesCount64 M_math_bits_OnesCount64)
theorem h_math_bits_OnesCount64 : P_math_bits_OnesCount64 = runF (X_math_bits_OnesCount64 N) B_math_bits_OnesCount64 As_math_bits_OnesCount64 R_math_bits_OnesCount64 M_math_bits_OnesCount64 := hid_eq _
noncomputable def C_math_bits_OnesCount64 : Contract := ⟨As_math_bits_OnesCount64, R_math_bits_OnesCount64, M_math_bits_OnesCount64, P_math_bits_OnesCount64⟩
theorem s_math_bits_OnesCount64 : Sound Tryz.prog GG 129 C_math_bits_OnesCount64 := by
 unfold C_math_bits_OnesCount64; rw [h_math_bits_OnesCount64]
 exact sound_of_run (fn := Tryz.f129) hmix hstable (tyOK_of ttOK) (hglob (X_math_bits_OnesCount64 N)) (conOK_of (X := X_math_bits_OnesCount64 N) trivial) (mconOK_of (X := X_math_bits_OnesCount64 N) trivial) (by kernel_rfl) (by kernel_rfl) (by kernel_rfl) (by kernel_rfl) (by kernel_rfl) (of_decide_eq_true (by kernel_rfl))
theorem p_math_bits_OnesCount64 (a0 : Int) : P_math_bits_OnesCount64 (a0, ()) = 
 some ((intBits .and .i64 (IntKind.wrap .i64 (IntKind.wrap .u64 ((IntKind.wrap .u64 ((IntKind.wrap .u64 ((intBits .and .u64 (IntKind.wrap .u64 ((shrI .u64 (IntKind.wrap .u64 ((intBits .and .u64 (shrI .u64 (IntKind.wrap .u64 ((intBits .and .u64 (shrI .u64 a0 1) 6148914691236517205) + (intBits .and .u64 a0 6148914691236517205))) 2) 3689348814741910323) + (intBits .and .u64 (IntKind.wrap .u64 ((intBits .and .u64 (shrI .u64 a0 1) 6148914691236517205) + (intBits .and .u64 a0 6148914691236517205))) 3689348814741910323))) 4) + (IntKind.wrap .u64 ((intBits .and .u64 (shrI .u64 (IntKind.wrap .u64 ((intBits .and .u64 (shrI .u64 a0 1) 6148914691236517205) + (intBits .and .u64 a0 6148914691236517205))) 2) 3689348814741910323) + (intBits .and .u64 (IntKind.wrap .u64 ((intBits .and .u64 (shrI .u64 a0 1) 6148914691236517205) + (intBits .and .u64 a0 6148914691236517205))) 3689348814741910323))))) 1085102592571150095) + (shrI .u64 (intBits .and .u64 (IntKind.wrap .u64 ((shrI .u64 (IntKind.wrap .u64 ((intBits .and .u64 (shrI .u64 (IntKind.wrap .u64 ((intBits .and .u64 (shrI .u64 a0 1) 6148914691236517205) + (intBits .and .u64 a0 6148914691236517205))) 2) 3689348814741910323) + (intBits .and .u64 (IntKind.wrap .u64 ((intBits .and .u64 (shrI .u64 a0 1) 6148914691236517205) + (intBits .and .u64 a0 6148914691236517205))) 3689348814741910323))) 4) + (IntKind.wrap .u64 ((intBits .and .u64 (shrI .u64 (IntKind.wrap .u64 ((intBits .and .u64 (shrI .u64 a0 1) 6148914691236517205) + (intBits .and .u64 a0 6148914691236517205))) 2) 3689348814741910323) + (intBits .and .u64 (IntKind.wrap .u64 ((intBits .and .u64 (shrI .u64 a0 1) 6148914691236517205) + (intBits .and .u64 a0 6148914691236517205))) 3689348814741910323))))) 1085102592571150095) 8))) + (shrI .u64 (IntKind.wrap .u64 ((intBits .and .u64 (IntKind.wrap .u64 ((shrI .u64 (IntKind.wrap .u64 ((intBits .and .u64 (shrI .u64 (IntKind.wrap .u64 ((intBits .and .u64 (shrI .u64 a0 1) 6148914691236517205) + (intBits .and .u64 a0 6148914691236517205))) 2) 3689348814741910323) + (intBits .and .u64 (IntKind.wrap .u64 ((intBits .and .u64 (shrI .u64 a0 1) 6148914691236517205) + (intBits .and .u64 a0 6148914691236517205))) 3689348814741910323))) 4) + (IntKind.wrap .u64 ((intBits .and .u64 (shrI .u64 (IntKind.wrap .u64 ((intBits .and .u64 (shrI .u64 a0 1) 6148914691236517205) + (intBits .and .u64 a0 6148914691236517205))) 2) 3689348814741910323) + (intBits .and .u64 (IntKind.wrap .u64 ((intBits .and .u64 (shrI .u64 a0 1) 6148914691236517205) + (intBits .and .u64 a0 6148914691236517205))) 3689348814741910323))))) 1085102592571150095) + (shrI .u64 (intBits .and .u64 (IntKind.wrap .u64 ((shrI .u64 (IntKind.wrap .u64 ((intBits .and .u64 (shrI .u64 (IntKind.wrap .u64 ((intBits .and .u64 (shrI .u64 a0 1) 6148914691236517205) + (intBits .and .u64 a0 6148914691236517205))) 2) 3689348814741910323) + (intBits .and .u64 (IntKind.wrap .u64 ((intBits .and .u64 (shrI .u64 a0 1) 6148914691236517205) + (intBits .and .u64 a0 6148914691236517205))) 3689348814741910323))) 4) + (IntKind.wrap .u64 ((intBits .and .u64 (shrI .u64 (IntKind.wrap .u64 ((intBits .and .u64 (shrI .u64 a0 1) 6148914691236517205) + (intBits .and .u64 a0 6148914691236517205))) 2) 3689348814741910323) + (intBits .and .u64 (IntKind.wrap .u64 ((intBits .and .u64 (shrI .u64 a0 1) 6148914691236517205) + (intBits .and .u64 a0 6148914691236517205))) 3689348814741910323))))) 1085102592571150095) 8))) 16))) + (shrI .u64 (IntKind.wrap .u64 ((IntKind.wrap .u64 ((intBits .and .u64 (IntKind.wrap .u64 ((shrI .u64 (IntKind.wrap .u64 ((intBits .and .u64 (shrI .u64 (IntKind.wrap .u64 ((intBits .and .u64 (shrI .u64 a0 1) 6148914691236517205) + (intBits .and .u64 a0 6148914691236517205))) 2) 3689348814741910323) + (intBits .and .u64 (IntKind.wrap .u64 ((intBits .and .u64 (shrI .u64 a0 1) 6148914691236517205) + (intBits .and .u64 a0 6148914691236517205))) 3689348814741910323))) 4) + (IntKind.wrap .u64 ((intBits .and .u64 (shrI .u64 (IntKind.wrap .u64 ((intBits .and .u64 (shrI .u64 a0 1) 6148914691236517205) + (intBits .and .u64 a0 6148914691236517205))) 2) 3689348814741910323) + (intBits .and .u64 (IntKind.wrap .u64 ((intBits .and .u64 (shrI .u64 a0 1) 6148914691236517205) + (intBits .and .u64 a0 6148914691236517205))) 3689348814741910323))))) 1085102592571150095) + (shrI .u64 (intBits .and .u64 (IntKind.wrap .u64 ((shrI .u64 (IntKind.wrap .u64 ((intBits .and .u64 (shrI .u64 (IntKind.wrap .u64 ((intBits .and .u64 (shrI .u64 a0 1) 6148914691236517205) + (intBits .and .u64 a0 6148914691236517205))) 2) 3689348814741910323) + (intBits .and .u64 (IntKind.wrap .u64 ((intBits .and .u64 (shrI .u64 a0 1) 6148914691236517205) + (intBits .and .u64 a0 6148914691236517205))) 3689348814741910323))) 4) + (IntKind.wrap .u64 ((intBits .and .u64 (shrI .u64 (IntKind.wrap .u64 ((intBits .and .u64 (shrI .u64 a0 1) 6148914691236517205) + (intBits .and .u64 a0 6148914691236517205))) 2) 3689348814741910323) + (intBits .and .u64 (IntKind.wrap .u64 ((intBits .and .u64 (shrI .u64 a0 1) 6148914691236517205) + (intBits .and .u64 a0 6148914691236517205))) 3689348814741910323))))) 1085102592571150095) 8))) + (shrI .u64 (IntKind.wrap .u64 ((intBits .and .u64 (IntKind.wrap .u64 ((shrI .u64 (IntKind.wrap .u64 ((intBits .and .u64 (shrI .u64 (IntKind.wrap .u64 ((intBits .and .u64 (shrI .u64 a0 1) 6148914691236517205) + (intBits .and .u64 a0 6148914691236517205))) 2) 3689348814741910323) + (intBits .and .u64 (IntKind.wrap .u64 ((intBits .and .u64 (shrI .u64 a0 1) 6148914691236517205) + (intBits .and .u64 a0 6148914691236517205))) 3689348814741910323))) 4) + (IntKind.wrap .u64 ((intBits .and .u64 (shrI .u64 (IntKind.wrap .u64 ((intBits .and .u64 (shrI .u64 a0 1) 6148914691236517205) + (intBits .and .u64 a0 6148914691236517205))) 2) 3689348814741910323) + (intBits .and .u64 (IntKind.wrap .u64 ((intBits .and .u64 (shrI .u64 a0 1) 6148914691236517205) + (intBits .and .u64 a0 6148914691236517205))) 3689348814741910323))))) 1085102592571150095) + (shrI .u64 (intBits .and .u64 (IntKind.wrap .u64 ((shrI .u64 (IntKind.wrap .u64 ((intBits .and .u64 (shrI .u64 (IntKind.wrap .u64 ((intBits .and .u64 (shrI .u64 a0 1) 6148914691236517205) + (intBits .and .u64 a0 6148914691236517205))) 2) 3689348814741910323) + (intBits .and .u64 (IntKind.wrap .u64 ((intBits .and .u64 (shrI .u64 a0 1) 6148914691236517205) + (intBits .and .u64 a0 6148914691236517205))) 3689348814741910323))) 4) + (IntKind.wrap .u64 ((intBits .and .u64 (shrI .u64 (IntKind.wrap .u64 ((intBits .and .u64 (shrI .u64 a0 1) 6148914691236517205) + (intBits .and .u64 a0 6148914691236517205))) 2) 3689348814741910323) + (intBits .and .u64 (IntKind.wrap .u64 ((intBits .and .u64 (shrI .u64 a0 1) 6148914691236517205) + (intBits .and .u64 a0 6148914691236517205))) 3689348814741910323))))) 1085102592571150095) 8))) 16))) 32)))) 127), ()) := by
 rewrite [h_math_bits_OnesCount64]
 exact e_math_bits_OnesCount64 N a0

abbrev As_set_count : List ATy := [.data false (.int .u64)]
abbrev R_set_count : List (Bool × Ty) := [(false, (.int .i64))]
abbrev M_set_count : List RMode := []
abbrev Ft_set_count : Type := Int × Unit → Option (Int × Unit)
noncomputable def X_set_count (n : Nat) (F_math_bits_OnesCount64 : Ft_math_bits_OnesCount64) : Ctx := { types := TT, globals := [], con := [(129, ⟨As_math_bits_OnesCount64, R_math_bits_OnesCount64, M_math_bits_OnesCount64, F_math_bits_OnesCount64⟩)], keep := [], results := [.tmp 2], ntmps := 5, n := n }
noncomputable def B_set_count : Code := (Tryz.f108.body).getD .skip
theorem e_set_count (n : Nat) (F_math_bits_OnesCount64 : Ft_math_bits_OnesCount64) (a0 : Int) : runF (X_set_count n F_math_bits_OnesCount64) B_set_count As_set_count R_set_count M_set_count (a0, ()) = 
 Option.bind (F_math_bits_OnesCount64 (a0, ())) fun r0 =>
 some (r0.1, ()) := by kernel_rfl
noncomputable def P_set_count : Ft_set_count := hid (runF (X_set_count N P_math_bits_OnesCount64) B_set_count As_set_count R_set_count M_set_count)
theorem h_set_count : P_set_count = runF (X_set_count N P_math_bits_OnesCount64) B_set_count As_set_count R_set_count M_set_count := hid_eq _
noncomputable def C_set_count : Contract := ⟨As_set_count, R_set_count, M_set_count, P_set_count⟩
theorem s_set_count : Sound Tryz.prog GG 108 C_set_count := by
 unfold C_set_count; rw [h_set_count]
 exact sound_of_run (fn := Tryz.f108) hmix hstable (tyOK_of ttOK) (hglob (X_set_count N P_math_bits_OnesCount64)) (conOK_of (X := X_set_count N P_math_bits_OnesCount64) ⟨s_math_bits_OnesCount64, trivial⟩) (mconOK_of (X := X_set_count N P_math_bits_OnesCount64) trivial) (by kernel_rfl) (by kernel_rfl) (by kernel_rfl) (by kernel_rfl) (by kernel_rfl) (of_decide_eq_true (by kernel_rfl))
theorem p_set_count (a0 : Int) : P_set_count (a0, ()) = 
 Option.bind (P_math_bits_OnesCount64 (a0, ())) fun r0 =>
 some (r0.1, ()) := by
 rewrite [h_set_count]
 exact e_set_count N P_math_bits_OnesCount64 a0

abbrev As_Heap_enclosed_1 : List ATy := [.data true T_A3, .ptr T_A3]
abbrev R_Heap_enclosed_1 : List (Bool × Ty) := [(false, .bool)]
abbrev M_Heap_enclosed_1 : List RMode := []
abbrev Ft_Heap_enclosed_1 : Type := D_A3 × D_A3 × Unit → Option (Bool × Unit)
noncomputable def X_Heap_enclosed_1 (n : Nat) (F_box_near : Ft_box_near) (F_set_count : Ft_set_count) : Ctx := { types := TT, globals := [], con := [(107, ⟨As_box_near, R_box_near, M_box_near, F_box_near⟩), (108, ⟨As_set_count, R_set_count, M_set_count, F_set_count⟩)], keep := [], results := [.tmp 3], ntmps := 9, n := n }
noncomputable def B_Heap_enclosed_1 : Code := (Tryz.f106.body).getD .skip
theorem e_Heap_enclosed_1 (n : Nat) (F_box_near : Ft_box_near) (F_set_count : Ft_set_count) (a0 a1 : D_A3) : runF (X_Heap_enclosed_1 n F_box_near F_set_count) B_Heap_enclosed_1 As_Heap_enclosed_1 R_Heap_enclosed_1 M_Heap_enclosed_1 (a0, a1, ()) = 
 Option.bind (F_box_near (a1, a0, ())) fun r0 =>
 Option.bind (F_set_count (r0.1, ())) fun r1 =>
 some (decide (r1.1 < 6), ()) := by kernel_rfl
noncomputable def P_Heap_enclosed_1 : Ft_Heap_enclosed_1 := hid (runF (X_Heap_enclosed_1 N P_box_near P_set_count) B_Heap_enclosed_1 As_Heap_enclosed_1 R_Heap_enclosed_1 M_Heap_enclosed_1)
theorem h_Heap_enclosed_1 : P_Heap_enclosed_1 = runF (X_Heap_enclosed_1 N P_box_near P_set_count) B_Heap_enclosed_1 As_Heap_enclosed_1 R_Heap_enclosed_1 M_Heap_enclosed_1 := hid_eq _
noncomputable def C_Heap_enclosed_1 : Contract := ⟨As_Heap_enclosed_1, R_Heap_enclosed_1, M_Heap_enclosed_1, P_Heap_enclosed_1⟩
theorem s_Heap_enclosed_1 : Sound Tryz.prog GG 106 C_Heap_enclosed_1 := by
 unfold C_Heap_enclosed_1; rw [h_Heap_enclosed_1]
 exact sound_of_run (fn := Tryz.f106) hmix hstable (tyOK_of ttOK) (hglob (X_Heap_enclosed_1 N P_box_near P_set_count)) (conOK_of (X := X_Heap_enclosed_1 N P_box_near P_set_count) ⟨s_box_near, s_set_count, trivial⟩) (mconOK_of (X := X_Heap_enclosed_1 N P_box_near P_set_count) trivial) (by kernel_rfl) (by kernel_rfl) (by kernel_rfl) (by kernel_rfl) (by kernel_rfl) (of_decide_eq_true (by kernel_rfl))
theorem p_Heap_enclosed_1 (a0 a1 : D_A3) : P_Heap_enclosed_1 (a0, a1, ()) = 
 Option.bind (P_box_near (a1, a0, ())) fun r0 =>
 Option.bind (P_set_count (r0.1, ())) fun r1 =>
 some (decide (r1.1 < 6), ()) := by
 rewrite [h_Heap_enclosed_1]
 exact e_Heap_enclosed_1 N P_box_near P_set_count a0 a1

abbrev As_set_has : List ATy := [.data false (.int .u64), .data false (.int .i64)]
abbrev R_set_has : List (Bool × Ty) := [(false, .bool)]
abbrev M_set_has : List RMode := []
abbrev Ft_set_has : Type := Int × Int × Unit → Option (Bool × Unit)
noncomputable def X_set_has (n : Nat) : Ctx := { types := TT, globals := [], con := [], keep := [], results := [.tmp 4], ntmps := 10, n := n }
noncomputable def B_set_has : Code := (Tryz.f75.body).getD .skip
theorem e_set_has (n : Nat) (a0 a1 : Int) : runF (X_set_has n) B_set_has As_set_has R_set_has M_set_has (a0, a1, ()) = 
 bif decide ((0 : Int) ≤ a1) then
 some (decide ((intBits .and .u64 (shrI .u64 a0 a1) 1) = 1), ())
 else none := by kernel_rfl
noncomputable def P_set_has : Ft_set_has := hid (runF (X_set_has N) B_set_has As_set_has R_set_has M_set_has)
theorem h_set_has : P_set_has = runF (X_set_has N) B_set_has As_set_has R_set_has M_set_has := hid_eq _
noncomputable def C_set_has : Contract := ⟨As_set_has, R_set_has, M_set_has, P_set_has⟩
theorem s_set_has : Sound Tryz.prog GG 75 C_set_has := by
 unfold C_set_has; rw [h_set_has]
 exact sound_of_run (fn := Tryz.f75) hmix hstable (tyOK_of ttOK) (hglob (X_set_has N)) (conOK_of (X := X_set_has N) trivial) (mconOK_of (X := X_set_has N) trivial) (by kernel_rfl) (by kernel_rfl) (by kernel_rfl) (by kernel_rfl) (by kernel_rfl) (of_decide_eq_true (by kernel_rfl))
theorem p_set_has (a0 a1 : Int) : P_set_has (a0, a1, ()) = 
 bif decide ((0 : Int) ≤ a1) then
 some (decide ((intBits .and .u64 (shrI .u64 a0 a1) 1) = 1), ())
 else none := by
 rewrite [h_set_has]
 exact e_set_has N a0 a1

abbrev As_box_grown : List ATy := [.data true T_A3, .data false (.int .u64), .data false (.int .u64)]
abbrev R_box_grown : List (Bool × Ty) := [(false, (.int .u64))]
abbrev M_box_grown : List RMode := []
abbrev Ft_box_grown : Type := D_A3 × Int × Int × Unit → Option (Int × Unit)
noncomputable def X_box_grown (n : Nat) (F_set_has : Ft_set_has) (F_box_near : Ft_box_near) (F_box_size : Ft_box_size) (F_box_cell : Ft_box_cell) : Ctx := { types := TT, globals := [], con := [(75, ⟨As_set_has, R_set_has, M_set_has, F_set_has⟩), (107, ⟨As_box_near, R_box_near, M_box_near, F_box_near⟩), (127, ⟨As_box_size, R_box_size, M_box_size, F_box_size⟩), (128, ⟨As_box_cell, R_box_cell, M_box_cell, F_box_cell⟩)], keep := [(1, ⟨[.box 3, .tmp 1, .tmp 2, .tmp 3], []⟩), (3, ⟨[.box 3, .tmp 1, .tmp 2, .tmp 3, .tmp 7, .tmp 11, .tmp 12], []⟩)], results := [.tmp 6], ntmps := 33, n := n }
noncomputable def B_box_grown : Code := (Tryz.f109.body).getD .skip
noncomputable def L_box_grown_1 (n : Nat) (F_set_has : Ft_set_has) (F_box_near : Ft_box_near) (F_box_size : Ft_box_size) (F_box_cell : Ft_box_cell) (m0 : Nat) (p0 p1 : Int) (p2 p3 p4 : Int) : Option (denL R_box_grown) := loopF (X_box_grown n F_set_has F_box_near F_box_size F_box_cell) B_box_grown R_box_grown M_box_grown 1 [m0] [(.ver, .num 1), (.box 3, .box 0 false [.int .i64 p0, .int .i64 p1, .int .i64 p2]), (.tmp 1, .val false [.int .u64 p3]), (.tmp 2, .val false [.int .u64 p4]), (.tmp 3, .val false [.addr 3 0 0])]
noncomputable def L_box_grown_3 (n : Nat) (F_set_has : Ft_set_has) (F_box_near : Ft_box_near) (F_box_size : Ft_box_size) (F_box_cell : Ft_box_cell) (m0 m1 : Nat) (p0 p1 : Int) (p2 p3 : Int) (p4 p5 : Int) (p6 p7 : Int) : Option (denL R_box_grown) := loopF (X_box_grown n F_set_has F_box_near F_box_size F_box_cell) B_box_grown R_box_grown M_box_grown 3 [m0, m1] [(.ver, .num 1), (.box 3, .box 0 false [.int .i64 p0, .int .i64 p1, .int .i64 p2]), (.tmp 1, .val false [.int .u64 p3]), (.tmp 2, .val false [.int .u64 p4]), (.tmp 3, .val false [.addr 3 0 0]), (.tmp 7, .val false [.int .u64 p5]), (.tmp 11, .val false [.int .i64 p6]), (.tmp 12, .val false [.int .i64 p7])]
theorem e_box_grown (n : Nat) (F_set_has : Ft_set_has) (F_box_near : Ft_box_near) (F_box_size : Ft_box_size) (F_box_cell : Ft_box_cell) (a0 : D_A3) (a1 a2 : Int) : runF (X_box_grown n F_set_has F_box_near F_box_size F_box_cell) B_box_grown As_box_grown R_box_grown M_box_grown (a0, a1, a2, ()) = 
 L_box_grown_1 n F_set_has F_box_near F_box_size F_box_cell n a0.1 a0.2.1 a0.2.2.1 a1 a2 := by kernel_rfl
theorem e_box_grown_1 (n : Nat) (F_set_has : Ft_set_has) (F_box_near : Ft_box_near) (F_box_size : Ft_box_size) (F_box_cell : Ft_box_cell) (m0 : Nat) (p0 p1 : Int) (p2 p3 p4 : Int) : L_box_grown_1 n F_set_has F_box_near F_box_size F_box_cell (m0 + 1) p0 p1 p2 p3 p4 = 
 Option.bind (F_box_size ((p0, (p1, (p2, ()))), ())) fun r0 =>
 L_box_grown_3 n F_set_has F_box_near F_box_size F_box_cell m0 n p0 p1 p2 p3 p4 p3 r0.1 0 := by kernel_rfl
theorem e_box_grown_3 (n : Nat) (F_set_has : Ft_set_has) (F_box_near : Ft_box_near) (F_box_size : Ft_box_size) (F_box_cell : Ft_box_cell) (m0 m1 : Nat) (p0 p1 : Int) (p2 p3 : Int) (p4 p5 : Int) (p6 p7 : Int) : L_box_grown_3 n F_set_has F_box_near F_box_size F_box_cell m0 (m1 + 1) p0 p1 p2 p3 p4 p5 p6 p7 = 
 bif decide (p7 < p6) then
 Option.bind (F_set_has (p3, p7, ())) fun r1 =>
 bif r1.1 then
 Option.bind (F_box_cell ((p0, (p1, (p2, ()))), p7, ())) fun r3 =>
 Option.bind (F_box_near ((p0, (p1, (p2, ()))), r3.1, ())) fun r4 =>
 L_box_grown_3 n F_set_has F_box_near F_box_size F_box_cell m0 m1 p0 p1 p2 p3 p4 (intBits .or .u64 p5 (intBits .and .u64 r4.1 p4)) p6 (IntKind.wrap .i64 (p7 + 1))
 else
 L_box_grown_3 n F_set_has F_box_near F_box_size F_box_cell m0 m1 p0 p1 p2 p3 p4 p5 p6 (IntKind.wrap .i64 (p7 + 1))
 else
 bif decide (p5 = p3) then
 some (p3, ())
 else
 L_box_grown_1 n F_set_has F_box_near F_box_size F_box_cell m0 p0 p1 p2 p5 p4 := by kernel_rfl
noncomputable def P_box_grown : Ft_box_grown := hid (runF (X_box_grown N P_set_has P_box_near P_box_size P_box_cell) B_box_grown As_box_grown R_box_grown M_box_grown)
theorem h_box_grown : P_box_grown = runF (X_box_grown N P_set_has P_box_near P_box_size P_box_cell) B_box_grown As_box_grown R_box_grown M_box_grown := hid_eq _
noncomputable def C_box_grown : Contract := ⟨As_box_grown, R_box_grown, M_box_grown, P_box_grown⟩
theorem s_box_grown : Sound Tryz.prog GG 109 C_box_grown := by
 unfold C_box_grown; rw [h_box_grown]
 exact sound_of_run (fn := Tryz.f109) hmix hstable (tyOK_of ttOK) (hglob (X_box_grown N P_set_has P_box_near P_box_size P_box_cell)) (conOK_of (X := X_box_grown N P_set_has P_box_near P_box_size P_box_cell) ⟨s_set_has, s_box_near, s_box_size, s_box_cell, trivial⟩) (mconOK_of (X := X_box_grown N P_set_has P_box_near P_box_size P_box_cell) trivial) (by kernel_rfl) (by kernel_rfl) (by kernel_rfl) (by kernel_rfl) (by kernel_rfl) (of_decide_eq_true (by kernel_rfl))
noncomputable def l_box_grown_1 : Nat → Int → Int → Int → Int → Int → Option (denL R_box_grown) := hid (fun m0 p0 p1 p2 p3 p4 => L_box_grown_1 N P_set_has P_box_near P_box_size P_box_cell m0 p0 p1 p2 p3 p4)
theorem h_box_grown_1 : l_box_grown_1 = fun m0 p0 p1 p2 p3 p4 => L_box_grown_1 N P_set_has P_box_near P_box_size P_box_cell m0 p0 p1 p2 p3 p4 := hid_eq _
noncomputable def l_box_grown_3 : Nat → Nat → Int → Int → Int → Int → Int → Int → Int → Int → Option (denL R_box_grown) := hid (fun m0 m1 p0 p1 p2 p3 p4 p5 p6 p7 => L_box_grown_3 N P_set_has P_box_near P_box_size P_box_cell m0 m1 p0 p1 p2 p3 p4 p5 p6 p7)
theorem h_box_grown_3 : l_box_grown_3 = fun m0 m1 p0 p1 p2 p3 p4 p5 p6 p7 => L_box_grown_3 N P_set_has P_box_near P_box_size P_box_cell m0 m1 p0 p1 p2 p3 p4 p5 p6 p7 := hid_eq _
theorem p_box_grown (a0 : D_A3) (a1 a2 : Int) : P_box_grown (a0, a1, a2, ()) = 
 l_box_grown_1 N a0.1 a0.2.1 a0.2.2.1 a1 a2 := by
 rewrite [h_box_grown, h_box_grown_1]
 exact e_box_grown N P_set_has P_box_near P_box_size P_box_cell a0 a1 a2
theorem q_box_grown_1 (m0 : Nat) (p0 p1 : Int) (p2 p3 p4 : Int) : l_box_grown_1 (m0 + 1) p0 p1 p2 p3 p4 = 
 Option.bind (P_box_size ((p0, (p1, (p2, ()))), ())) fun r0 =>
 l_box_grown_3 m0 N p0 p1 p2 p3 p4 p3 r0.1 0 := by
 rewrite [h_box_grown_1, h_box_grown_3]
 exact e_box_grown_1 N P_set_has P_box_near P_box_size P_box_cell m0 p0 p1 p2 p3 p4
theorem q_box_grown_3 (m0 m1 : Nat) (p0 p1 : Int) (p2 p3 : Int) (p4 p5 : Int) (p6 p7 : Int) : l_box_grown_3 m0 (m1 + 1) p0 p1 p2 p3 p4 p5 p6 p7 = 
 bif decide (p7 < p6) then
 Option.bind (P_set_has (p3, p7, ())) fun r1 =>
 bif r1.1 then
 Option.bind (P_box_cell ((p0, (p1, (p2, ()))), p7, ())) fun r3 =>
 Option.bind (P_box_near ((p0, (p1, (p2, ()))), r3.1, ())) fun r4 =>
 l_box_grown_3 m0 m1 p0 p1 p2 p3 p4 (intBits .or .u64 p5 (intBits .and .u64 r4.1 p4)) p6 (IntKind.wrap .i64 (p7 + 1))
 else
 l_box_grown_3 m0 m1 p0 p1 p2 p3 p4 p5 p6 (IntKind.wrap .i64 (p7 + 1))
 else
 bif decide (p5 = p3) then
 some (p3, ())
 else
 l_box_grown_1 m0 p0 p1 p2 p5 p4 := by
 rewrite [h_box_grown_1, h_box_grown_3]
 exact e_box_grown_3 N P_set_has P_box_near P_box_size P_box_cell m0 m1 p0 p1 p2 p3 p4 p5 p6 p7

abbrev As_Heap_enclosed : List ATy := [.data true T_Heap]
abbrev R_Heap_enclosed : List (Bool × Ty) := [(false, (.int .u64))]
abbrev M_Heap_enclosed : List RMode := []
abbrev Ft_Heap_enclosed : Type := D_Heap × Unit → Option (Int × Unit)
noncomputable def X_Heap_enclosed (n : Nat) (F_Heap_box : Ft_Heap_box) (F_Heap_cubes : Ft_Heap_cubes) (F_box_full : Ft_box_full) (F_box_those : Ft_box_those) (F_Heap_enclosed_1 : Ft_Heap_enclosed_1) (F_box_grown : Ft_box_grown) : Ctx := { types := TT, globals := [], con := [(50, ⟨As_Heap_box, R_Heap_box, M_Heap_box, F_Heap_box⟩), (70, ⟨As_Heap_cubes, R_Heap_cubes, M_Heap_cubes, F_Heap_cubes⟩), (101, ⟨As_box_full, R_box_full, M_box_full, F_box_full⟩), (105, ⟨As_box_those, R_box_those, M_box_those, F_box_those⟩), (106, ⟨As_Heap_enclosed_1, R_Heap_enclosed_1, M_Heap_enclosed_1, F_Heap_enclosed_1⟩), (109, ⟨As_box_grown, R_box_grown, M_box_grown, F_box_grown⟩)], keep := [], results := [.tmp 2], ntmps := 24, n := n }
noncomputable def B_Heap_enclosed : Code := (Tryz.f72.body).getD .skip
theorem e_Heap_enclosed (n : Nat) (F_Heap_box : Ft_Heap_box) (F_Heap_cubes : Ft_Heap_cubes) (F_box_full : Ft_box_full) (F_box_those : Ft_box_those) (F_Heap_enclosed_1 : Ft_Heap_enclosed_1) (F_box_grown : Ft_box_grown) (a0 : D_Heap) : runF (X_Heap_enclosed n F_Heap_box F_Heap_cubes F_box_full F_box_those F_Heap_enclosed_1 F_box_grown) B_Heap_enclosed As_Heap_enclosed R_Heap_enclosed M_Heap_enclosed (a0, ()) = 
 Option.bind (F_Heap_box (a0, ())) fun r0 =>
 Option.bind (F_box_full (r0.1, ())) fun r1 =>
 Option.bind (F_Heap_cubes (a0, ())) fun r2 =>
 Option.bind (F_box_those (r0.1, (fun (y : D_A3 × Unit) => F_Heap_enclosed_1 (y.1, r0.1, ())), ())) fun r3 =>
 Option.bind (F_box_grown (r0.1, (intBits .and .u64 (intBits .andNot .u64 r1.1 r2.1) r3.1), (intBits .andNot .u64 r1.1 r2.1), ())) fun r4 =>
 some ((intBits .andNot .u64 (intBits .andNot .u64 r1.1 r2.1) r4.1), ()) := by kernel_rfl
noncomputable def P_Heap_enclosed : Ft_Heap_enclosed := hid (runF (X_Heap_enclosed N P_Heap_box P_Heap_cubes P_box_full P_box_those P_Heap_enclosed_1 P_box_grown) B_Heap_enclosed As_Heap_enclosed R_Heap_enclosed M_Heap_enclosed)
theorem h_Heap_enclosed : P_Heap_enclosed = runF (X_Heap_enclosed N P_Heap_box P_Heap_cubes P_box_full P_box_those P_Heap_enclosed_1 P_box_grown) B_Heap_enclosed As_Heap_enclosed R_Heap_enclosed M_Heap_enclosed := hid_eq _
noncomputable def C_Heap_enclosed : Contract := ⟨As_Heap_enclosed, R_Heap_enclosed, M_Heap_enclosed, P_Heap_enclosed⟩
theorem s_Heap_enclosed : Sound Tryz.prog GG 72 C_Heap_enclosed := by
 unfold C_Heap_enclosed; rw [h_Heap_enclosed]
 exact sound_of_run (fn := Tryz.f72) hmix hstable (tyOK_of ttOK) (hglob (X_Heap_enclosed N P_Heap_box P_Heap_cubes P_box_full P_box_those P_Heap_enclosed_1 P_box_grown)) (conOK_of (X := X_Heap_enclosed N P_Heap_box P_Heap_cubes P_box_full P_box_those P_Heap_enclosed_1 P_box_grown) ⟨s_Heap_box, s_Heap_cubes, s_box_full, s_box_those, s_Heap_enclosed_1, s_box_grown, trivial⟩) (mconOK_of (X := X_Heap_enclosed N P_Heap_box P_Heap_cubes P_box_full P_box_those P_Heap_enclosed_1 P_box_grown) trivial) (by kernel_rfl) (by kernel_rfl) (by kernel_rfl) (by kernel_rfl) (by kernel_rfl) (of_decide_eq_true (by kernel_rfl))
theorem p_Heap_enclosed (a0 : D_Heap) : P_Heap_enclosed (a0, ()) = 
 Option.bind (P_Heap_box (a0, ())) fun r0 =>
 Option.bind (P_box_full (r0.1, ())) fun r1 =>
 Option.bind (P_Heap_cubes (a0, ())) fun r2 =>
 Option.bind (P_box_those (r0.1, (fun (y : D_A3 × Unit) => P_Heap_enclosed_1 (y.1, r0.1, ())), ())) fun r3 =>
 Option.bind (P_box_grown (r0.1, (intBits .and .u64 (intBits .andNot .u64 r1.1 r2.1) r3.1), (intBits .andNot .u64 r1.1 r2.1), ())) fun r4 =>
 some ((intBits .andNot .u64 (intBits .andNot .u64 r1.1 r2.1) r4.1), ()) := by
 rewrite [h_Heap_enclosed]
 exact e_Heap_enclosed N P_Heap_box P_Heap_cubes P_box_full P_box_those P_Heap_enclosed_1 P_box_grown a0

abbrev As_impl_beyond : List ATy := [.data true T_A3, .data false (.int .i64)]
abbrev R_impl_beyond : List (Bool × Ty) := [(true, T_A3)]
abbrev M_impl_beyond : List RMode := []
abbrev Ft_impl_beyond : Type := D_A3 × Int × Unit → Option (D_A3 × Unit)
noncomputable def X_impl_beyond (n : Nat) : Ctx := { types := TT, globals := [], con := [], keep := [], results := [.cell 4 38], ntmps := 16, n := n }
noncomputable def B_impl_beyond : Code := (Tryz.f73.body).getD .skip
theorem e_impl_beyond (n : Nat) (a0 : D_A3) (a1 : Int) : runF (X_impl_beyond n) B_impl_beyond As_impl_beyond R_impl_beyond M_impl_beyond (a0, a1, ()) = 
 bif inB (IntKind.wrap .i64 (Int.tdiv a1 2)) 3 then
 bif inB (IntKind.wrap .i64 (Int.tdiv a1 2)) 3 then
 some (((bif decide ((IntKind.wrap .i64 (Int.tdiv a1 2)) = (0 : Int)) then (IntKind.wrap .i64 ((bif decide ((IntKind.wrap .i64 (Int.tdiv a1 2)) = (0 : Int)) then a0.1 else (bif decide ((IntKind.wrap .i64 (Int.tdiv a1 2)) = (1 : Int)) then a0.2.1 else a0.2.2.1)) + (IntKind.wrap .i64 ((IntKind.wrap .i64 (2 * (Int.tmod a1 2))) - 1)))) else a0.1), ((bif decide ((IntKind.wrap .i64 (Int.tdiv a1 2)) = (1 : Int)) then (IntKind.wrap .i64 ((bif decide ((IntKind.wrap .i64 (Int.tdiv a1 2)) = (0 : Int)) then a0.1 else (bif decide ((IntKind.wrap .i64 (Int.tdiv a1 2)) = (1 : Int)) then a0.2.1 else a0.2.2.1)) + (IntKind.wrap .i64 ((IntKind.wrap .i64 (2 * (Int.tmod a1 2))) - 1)))) else a0.2.1), ((bif decide ((IntKind.wrap .i64 (Int.tdiv a1 2)) = (2 : Int)) then (IntKind.wrap .i64 ((bif decide ((IntKind.wrap .i64 (Int.tdiv a1 2)) = (0 : Int)) then a0.1 else (bif decide ((IntKind.wrap .i64 (Int.tdiv a1 2)) = (1 : Int)) then a0.2.1 else a0.2.2.1)) + (IntKind.wrap .i64 ((IntKind.wrap .i64 (2 * (Int.tmod a1 2))) - 1)))) else a0.2.2.1), ()))), ())
 else none
 else none := by kernel_rfl
noncomputable def P_impl_beyond : Ft_impl_beyond := hid (runF (X_impl_beyond N) B_impl_beyond As_impl_beyond R_impl_beyond M_impl_beyond)
theorem h_impl_beyond : P_impl_beyond = runF (X_impl_beyond N) B_impl_beyond As_impl_beyond R_impl_beyond M_impl_beyond := hid_eq _
noncomputable def C_impl_beyond : Contract := ⟨As_impl_beyond, R_impl_beyond, M_impl_beyond, P_impl_beyond⟩
theorem s_impl_beyond : Sound Tryz.prog GG 73 C_impl_beyond := by
 unfold C_impl_beyond; rw [h_impl_beyond]
 exact sound_of_run (fn := Tryz.f73) hmix hstable (tyOK_of ttOK) (hglob (X_impl_beyond N)) (conOK_of (X := X_impl_beyond N) trivial) (mconOK_of (X := X_impl_beyond N) trivial) (by kernel_rfl) (by kernel_rfl) (by kernel_rfl) (by kernel_rfl) (by kernel_rfl) (of_decide_eq_true (by kernel_rfl))
theorem p_impl_beyond (a0 : D_A3) (a1 : Int) : P_impl_beyond (a0, a1, ()) = 
 bif inB (IntKind.wrap .i64 (Int.tdiv a1 2)) 3 then
 bif inB (IntKind.wrap .i64 (Int.tdiv a1 2)) 3 then
 some (((bif decide ((IntKind.wrap .i64 (Int.tdiv a1 2)) = (0 : Int)) then (IntKind.wrap .i64 ((bif decide ((IntKind.wrap .i64 (Int.tdiv a1 2)) = (0 : Int)) then a0.1 else (bif decide ((IntKind.wrap .i64 (Int.tdiv a1 2)) = (1 : Int)) then a0.2.1 else a0.2.2.1)) + (IntKind.wrap .i64 ((IntKind.wrap .i64 (2 * (Int.tmod a1 2))) - 1)))) else a0.1), ((bif decide ((IntKind.wrap .i64 (Int.tdiv a1 2)) = (1 : Int)) then (IntKind.wrap .i64 ((bif decide ((IntKind.wrap .i64 (Int.tdiv a1 2)) = (0 : Int)) then a0.1 else (bif decide ((IntKind.wrap .i64 (Int.tdiv a1 2)) = (1 : Int)) then a0.2.1 else a0.2.2.1)) + (IntKind.wrap .i64 ((IntKind.wrap .i64 (2 * (Int.tmod a1 2))) - 1)))) else a0.2.1), ((bif decide ((IntKind.wrap .i64 (Int.tdiv a1 2)) = (2 : Int)) then (IntKind.wrap .i64 ((bif decide ((IntKind.wrap .i64 (Int.tdiv a1 2)) = (0 : Int)) then a0.1 else (bif decide ((IntKind.wrap .i64 (Int.tdiv a1 2)) = (1 : Int)) then a0.2.1 else a0.2.2.1)) + (IntKind.wrap .i64 ((IntKind.wrap .i64 (2 * (Int.tmod a1 2))) - 1)))) else a0.2.2.1), ()))), ())
 else none
 else none := by
 rewrite [h_impl_beyond]
 exact e_impl_beyond N a0 a1

abbrev As_Heap_hasCube : List ATy := [.data true T_Heap, .data true T_A3]
abbrev R_Heap_hasCube : List (Bool × Ty) := [(false, .bool)]
abbrev M_Heap_hasCube : List RMode := []
abbrev Ft_Heap_hasCube : Type := D_Heap × D_A3 × Unit → Option (Bool × Unit)
noncomputable def X_Heap_hasCube (n : Nat) (F_Heap_box : Ft_Heap_box) (F_Heap_cubes : Ft_Heap_cubes) (F_set_has : Ft_set_has) (F_box_index : Ft_box_index) : Ctx := { types := TT, globals := [], con := [(50, ⟨As_Heap_box, R_Heap_box, M_Heap_box, F_Heap_box⟩), (70, ⟨As_Heap_cubes, R_Heap_cubes, M_Heap_cubes, F_Heap_cubes⟩), (75, ⟨As_set_has, R_set_has, M_set_has, F_set_has⟩), (76, ⟨As_box_index, R_box_index, M_box_index, F_box_index⟩)], keep := [], results := [.tmp 4], ntmps := 12, n := n }
noncomputable def B_Heap_hasCube : Code := (Tryz.f59.body).getD .skip
theorem e_Heap_hasCube (n : Nat) (F_Heap_box : Ft_Heap_box) (F_Heap_cubes : Ft_Heap_cubes) (F_set_has : Ft_set_has) (F_box_index : Ft_box_index) (a0 : D_Heap) (a1 : D_A3) : runF (X_Heap_hasCube n F_Heap_box F_Heap_cubes F_set_has F_box_index) B_Heap_hasCube As_Heap_hasCube R_Heap_hasCube M_Heap_hasCube (a0, a1, ()) = 
 Option.bind (F_Heap_cubes (a0, ())) fun r0 =>
 Option.bind (F_Heap_box (a0, ())) fun r1 =>
 Option.bind (F_box_index (r1.1, a1, ())) fun r2 =>
 Option.bind (F_set_has (r0.1, r2.1, ())) fun r3 =>
 some (r3.1, ()) := by kernel_rfl
noncomputable def P_Heap_hasCube : Ft_Heap_hasCube := hid (runF (X_Heap_hasCube N P_Heap_box P_Heap_cubes P_set_has P_box_index) B_Heap_hasCube As_Heap_hasCube R_Heap_hasCube M_Heap_hasCube)
theorem h_Heap_hasCube : P_Heap_hasCube = runF (X_Heap_hasCube N P_Heap_box P_Heap_cubes P_set_has P_box_index) B_Heap_hasCube As_Heap_hasCube R_Heap_hasCube M_Heap_hasCube := hid_eq _
noncomputable def C_Heap_hasCube : Contract := ⟨As_Heap_hasCube, R_Heap_hasCube, M_Heap_hasCube, P_Heap_hasCube⟩
theorem s_Heap_hasCube : Sound Tryz.prog GG 59 C_Heap_hasCube := by
 unfold C_Heap_hasCube; rw [h_Heap_hasCube]
 exact sound_of_run (fn := Tryz.f59) hmix hstable (tyOK_of ttOK) (hglob (X_Heap_hasCube N P_Heap_box P_Heap_cubes P_set_has P_box_index)) (conOK_of (X := X_Heap_hasCube N P_Heap_box P_Heap_cubes P_set_has P_box_index) ⟨s_Heap_box, s_Heap_cubes, s_set_has, s_box_index, trivial⟩) (mconOK_of (X := X_Heap_hasCube N P_Heap_box P_Heap_cubes P_set_has P_box_index) trivial) (by kernel_rfl) (by kernel_rfl) (by kernel_rfl) (by kernel_rfl) (by kernel_rfl) (of_decide_eq_true (by kernel_rfl))
theorem p_Heap_hasCube (a0 : D_Heap) (a1 : D_A3) : P_Heap_hasCube (a0, a1, ()) = 
 Option.bind (P_Heap_cubes (a0, ())) fun r0 =>
 Option.bind (P_Heap_box (a0, ())) fun r1 =>
 Option.bind (P_box_index (r1.1, a1, ())) fun r2 =>
 Option.bind (P_set_has (r0.1, r2.1, ())) fun r3 =>
 some (r3.1, ()) := by
 rewrite [h_Heap_hasCube]
 exact e_Heap_hasCube N P_Heap_box P_Heap_cubes P_set_has P_box_index a0 a1

abbrev As_Heap_isBare : List ATy := [.data true T_Heap, .data true T_A3]
abbrev R_Heap_isBare : List (Bool × Ty) := [(false, .bool)]
abbrev M_Heap_isBare : List RMode := []
abbrev Ft_Heap_isBare : Type := D_Heap × D_A3 × Unit → Option (Bool × Unit)
noncomputable def X_Heap_isBare (n : Nat) (F_Heap_box : Ft_Heap_box) (F_box_has : Ft_box_has) (F_Heap_hasCube : Ft_Heap_hasCube) : Ctx := { types := TT, globals := [], con := [(50, ⟨As_Heap_box, R_Heap_box, M_Heap_box, F_Heap_box⟩), (52, ⟨As_box_has, R_box_has, M_box_has, F_box_has⟩), (59, ⟨As_Heap_hasCube, R_Heap_hasCube, M_Heap_hasCube, F_Heap_hasCube⟩)], keep := [], results := [.tmp 4], ntmps := 16, n := n }
noncomputable def B_Heap_isBare : Code := (Tryz.f74.body).getD .skip
theorem e_Heap_isBare (n : Nat) (F_Heap_box : Ft_Heap_box) (F_box_has : Ft_box_has) (F_Heap_hasCube : Ft_Heap_hasCube) (a0 : D_Heap) (a1 : D_A3) : runF (X_Heap_isBare n F_Heap_box F_box_has F_Heap_hasCube) B_Heap_isBare As_Heap_isBare R_Heap_isBare M_Heap_isBare (a0, a1, ()) = 
 Option.bind (F_Heap_box (a0, ())) fun r0 =>
 Option.bind (F_box_has (r0.1, a1, ())) fun r1 =>
 bif !r1.1 then
 some (true, ())
 else
 Option.bind (F_Heap_hasCube (a0, a1, ())) fun r3 =>
 some (!r3.1, ()) := by kernel_rfl
noncomputable def P_Heap_isBare : Ft_Heap_isBare := hid (runF (X_Heap_isBare N P_Heap_box P_box_has P_Heap_hasCube) B_Heap_isBare As_Heap_isBare R_Heap_isBare M_Heap_isBare)
theorem h_Heap_isBare : P_Heap_isBare = runF (X_Heap_isBare N P_Heap_box P_box_has P_Heap_hasCube) B_Heap_isBare As_Heap_isBare R_Heap_isBare M_Heap_isBare := hid_eq _
noncomputable def C_Heap_isBare : Contract := ⟨As_Heap_isBare, R_Heap_isBare, M_Heap_isBare, P_Heap_isBare⟩
theorem s_Heap_isBare : Sound Tryz.prog GG 74 C_Heap_isBare := by
 unfold C_Heap_isBare; rw [h_Heap_isBare]
 exact sound_of_run (fn := Tryz.f74) hmix hstable (tyOK_of ttOK) (hglob (X_Heap_isBare N P_Heap_box P_box_has P_Heap_hasCube)) (conOK_of (X := X_Heap_isBare N P_Heap_box P_box_has P_Heap_hasCube) ⟨s_Heap_box, s_box_has, s_Heap_hasCube, trivial⟩) (mconOK_of (X := X_Heap_isBare N P_Heap_box P_box_has P_Heap_hasCube) trivial) (by kernel_rfl) (by kernel_rfl) (by kernel_rfl) (by kernel_rfl) (by kernel_rfl) (of_decide_eq_true (by kernel_rfl))
theorem p_Heap_isBare (a0 : D_Heap) (a1 : D_A3) : P_Heap_isBare (a0, a1, ()) = 
 Option.bind (P_Heap_box (a0, ())) fun r0 =>
 Option.bind (P_box_has (r0.1, a1, ())) fun r1 =>
 bif !r1.1 then
 some (true, ())
 else
 Option.bind (P_Heap_hasCube (a0, a1, ())) fun r3 =>
 some (!r3.1, ()) := by
 rewrite [h_Heap_isBare]
 exact e_Heap_isBare N P_Heap_box P_box_has P_Heap_hasCube a0 a1

abbrev As_Heap_painted : List ATy := [.data true T_Heap, .data false .bool]
abbrev R_Heap_painted : List (Bool × Ty) := [(false, (.sl (.int .i64)))]
abbrev M_Heap_painted : List RMode := [.own 3]
abbrev Ft_Heap_painted : Type := D_Heap × Bool × Unit → Option ((List Int) × Unit)
noncomputable def X_Heap_painted (n : Nat) (F_Heap_box : Ft_Heap_box) (F_box_has : Ft_box_has) (F_Heap_enclosed : Ft_Heap_enclosed) (F_impl_beyond : Ft_impl_beyond) (F_Heap_isBare : Ft_Heap_isBare) (F_set_has : Ft_set_has) (F_box_index : Ft_box_index) : Ctx := { types := TT, globals := [], con := [(50, ⟨As_Heap_box, R_Heap_box, M_Heap_box, F_Heap_box⟩), (52, ⟨As_box_has, R_box_has, M_box_has, F_box_has⟩), (72, ⟨As_Heap_enclosed, R_Heap_enclosed, M_Heap_enclosed, F_Heap_enclosed⟩), (73, ⟨As_impl_beyond, R_impl_beyond, M_impl_beyond, F_impl_beyond⟩), (74, ⟨As_Heap_isBare, R_Heap_isBare, M_Heap_isBare, F_Heap_isBare⟩), (75, ⟨As_set_has, R_set_has, M_set_has, F_set_has⟩), (76, ⟨As_box_index, R_box_index, M_box_index, F_box_index⟩)], keep := [(5, ⟨[.box 2, .tmp 2, .tmp 5, .tmp 6, .tmp 17, .tmp 18, .tmp 19], []⟩), (9, ⟨[.box 2, .box 8, .tmp 2, .tmp 5, .tmp 6, .tmp 8, .tmp 9, .tmp 17, .tmp 18, .tmp 19, .tmp 23], []⟩)], results := [.tmp 4], ntmps := 57, n := n }
noncomputable def B_Heap_painted : Code := (Tryz.f47.body).getD .skip
noncomputable def L_Heap_painted_5 (n : Nat) (F_Heap_box : Ft_Heap_box) (F_box_has : Ft_box_has) (F_Heap_enclosed : Ft_Heap_enclosed) (F_impl_beyond : Ft_impl_beyond) (F_Heap_isBare : Ft_Heap_isBare) (F_set_has : Ft_set_has) (F_box_index : Ft_box_index) (m0 : Nat) (p0 p1 p2 : Int) (p3 : List D_A3) (p4 : List Int) (p5 : Int) (p6 : List D_A3) (p7 p8 : Int) : Option (denL R_Heap_painted) := loopF (X_Heap_painted n F_Heap_box F_box_has F_Heap_enclosed F_impl_beyond F_Heap_isBare F_set_has F_box_index) B_Heap_painted R_Heap_painted M_Heap_painted 5 [m0] [(.ver, .num 1), (.box 2, .box 0 false [.int .i64 p0, .int .i64 p1, .int .i64 p2, .imm T_A3 p3 (some 3)]), (.tmp 2, .val false [.addr 2 0 0]), (.tmp 5, .val false [.own 3 (.int .i64) 0 p4]), (.tmp 6, .val false [.int .u64 p5]), (.tmp 17, .val false [.imm T_A3 p6 (some 3)]), (.tmp 18, .val false [.int .i64 p7]), (.tmp 19, .val false [.int .i64 p8])]
noncomputable def L_Heap_painted_9 (n : Nat) (F_Heap_box : Ft_Heap_box) (F_box_has : Ft_box_has) (F_Heap_enclosed : Ft_Heap_enclosed) (F_impl_beyond : Ft_impl_beyond) (F_Heap_isBare : Ft_Heap_isBare) (F_set_has : Ft_set_has) (F_box_index : Ft_box_index) (m0 m1 : Nat) (p0 p1 p2 : Int) (p3 : List D_A3) (p4 p5 p6 : Int) (p7 : List Int) (p8 p9 : Int) (p10 : List D_A3) (p11 p12 p13 : Int) : Option (denL R_Heap_painted) := loopF (X_Heap_painted n F_Heap_box F_box_has F_Heap_enclosed F_impl_beyond F_Heap_isBare F_set_has F_box_index) B_Heap_painted R_Heap_painted M_Heap_painted 9 [m0, m1] [(.ver, .num 1), (.box 2, .box 0 false [.int .i64 p0, .int .i64 p1, .int .i64 p2, .imm T_A3 p3 (some 3)]), (.box 8, .box 0 false [.int .i64 p4, .int .i64 p5, .int .i64 p6]), (.tmp 2, .val false [.addr 2 0 0]), (.tmp 5, .val false [.own 3 (.int .i64) 0 p7]), (.tmp 6, .val false [.int .u64 p8]), (.tmp 8, .val false [.addr 8 0 0]), (.tmp 9, .val false [.int .i64 p9]), (.tmp 17, .val false [.imm T_A3 p10 (some 3)]), (.tmp 18, .val false [.int .i64 p11]), (.tmp 19, .val false [.int .i64 p12]), (.tmp 23, .val false [.int .i64 p13])]
theorem e_Heap_painted (n : Nat) (F_Heap_box : Ft_Heap_box) (F_box_has : Ft_box_has) (F_Heap_enclosed : Ft_Heap_enclosed) (F_impl_beyond : Ft_impl_beyond) (F_Heap_isBare : Ft_Heap_isBare) (F_set_has : Ft_set_has) (F_box_index : Ft_box_index) (a0 : D_Heap) (a1 : Bool) : runF (X_Heap_painted n F_Heap_box F_box_has F_Heap_enclosed F_impl_beyond F_Heap_isBare F_set_has F_box_index) B_Heap_painted As_Heap_painted R_Heap_painted M_Heap_painted (a0, a1, ()) = 
 bif a1 then
 Option.bind (F_Heap_enclosed (a0, ())) fun r1 =>
 L_Heap_painted_5 n F_Heap_box F_box_has F_Heap_enclosed F_impl_beyond F_Heap_isBare F_set_has F_box_index n a0.1 a0.2.1 a0.2.2.1 a0.2.2.2.1 ([] : List Int) r1.1 a0.2.2.2.1 (List.length a0.2.2.2.1 : Int) 0
 else
 L_Heap_painted_5 n F_Heap_box F_box_has F_Heap_enclosed F_impl_beyond F_Heap_isBare F_set_has F_box_index n a0.1 a0.2.1 a0.2.2.1 a0.2.2.2.1 ([] : List Int) 0 a0.2.2.2.1 (List.length a0.2.2.2.1 : Int) 0 := by kernel_rfl
theorem e_Heap_painted_5 (n : Nat) (F_Heap_box : Ft_Heap_box) (F_box_has : Ft_box_has) (F_Heap_enclosed : Ft_Heap_enclosed) (F_impl_beyond : Ft_impl_beyond) (F_Heap_isBare : Ft_Heap_isBare) (F_set_has : Ft_set_has) (F_box_index : Ft_box_index) (m0 : Nat) (p0 p1 p2 : Int) (p3 : List D_A3) (p4 : List Int) (p5 : Int) (p6 : List D_A3) (p7 p8 : Int) : L_Heap_painted_5 n F_Heap_box F_box_has F_Heap_enclosed F_impl_beyond F_Heap_isBare F_set_has F_box_index (m0 + 1) p0 p1 p2 p3 p4 p5 p6 p7 p8 = 
 bif decide (p8 < p7) then
 bif inB p8 (List.length p6) then
 L_Heap_painted_9 n F_Heap_box F_box_has F_Heap_enclosed F_impl_beyond F_Heap_isBare F_set_has F_box_index m0 n p0 p1 p2 p3 (((nth T_A3 p6 p8)).1) ((((nth T_A3 p6 p8)).2).1) (((((nth T_A3 p6 p8)).2).2).1) p4 p5 0 p6 p7 p8 0
 else none
 else
 some (p4, ()) := by kernel_rfl
theorem e_Heap_painted_9 (n : Nat) (F_Heap_box : Ft_Heap_box) (F_box_has : Ft_box_has) (F_Heap_enclosed : Ft_Heap_enclosed) (F_impl_beyond : Ft_impl_beyond) (F_Heap_isBare : Ft_Heap_isBare) (F_set_has : Ft_set_has) (F_box_index : Ft_box_index) (m0 m1 : Nat) (p0 p1 p2 : Int) (p3 : List D_A3) (p4 p5 p6 : Int) (p7 : List Int) (p8 p9 : Int) (p10 : List D_A3) (p11 p12 p13 : Int) : L_Heap_painted_9 n F_Heap_box F_box_has F_Heap_enclosed F_impl_beyond F_Heap_isBare F_set_has F_box_index m0 (m1 + 1) p0 p1 p2 p3 p4 p5 p6 p7 p8 p9 p10 p11 p12 p13 = 
 bif decide (p13 < 6) then
 Option.bind (F_impl_beyond ((p4, (p5, (p6, ()))), p13, ())) fun r1 =>
 Option.bind (F_Heap_isBare ((p0, (p1, (p2, (p3, ())))), r1.1, ())) fun r2 =>
 bif r2.1 then
 Option.bind (F_Heap_box ((p0, (p1, (p2, (p3, ())))), ())) fun r4 =>
 Option.bind (F_box_has (r4.1, r1.1, ())) fun r5 =>
 bif !r5.1 then
 L_Heap_painted_9 n F_Heap_box F_box_has F_Heap_enclosed F_impl_beyond F_Heap_isBare F_set_has F_box_index m0 m1 p0 p1 p2 p3 p4 p5 p6 p7 p8 (IntKind.wrap .i64 (p9 + 1)) p10 p11 p12 (IntKind.wrap .i64 (p13 + 1))
 else
 Option.bind (F_Heap_box ((p0, (p1, (p2, (p3, ())))), ())) fun r7 =>
 Option.bind (F_box_index (r7.1, r1.1, ())) fun r8 =>
 Option.bind (F_set_has (p8, r8.1, ())) fun r9 =>
 bif !r9.1 then
 L_Heap_painted_9 n F_Heap_box F_box_has F_Heap_enclosed F_impl_beyond F_Heap_isBare F_set_has F_box_index m0 m1 p0 p1 p2 p3 p4 p5 p6 p7 p8 (IntKind.wrap .i64 (p9 + 1)) p10 p11 p12 (IntKind.wrap .i64 (p13 + 1))
 else
 L_Heap_painted_9 n F_Heap_box F_box_has F_Heap_enclosed F_impl_beyond F_Heap_isBare F_set_has F_box_index m0 m1 p0 p1 p2 p3 p4 p5 p6 p7 p8 p9 p10 p11 p12 (IntKind.wrap .i64 (p13 + 1))
 else
 L_Heap_painted_9 n F_Heap_box F_box_has F_Heap_enclosed F_impl_beyond F_Heap_isBare F_set_has F_box_index m0 m1 p0 p1 p2 p3 p4 p5 p6 p7 p8 p9 p10 p11 p12 (IntKind.wrap .i64 (p13 + 1))
 else
 bif (decide (((List.length p7) + (List.length ([p9] : List Int))) * 8 ≤ 140737488355328) && decide (((List.length p7) + (List.length ([p9] : List Int))) ≤ 140737488355328)) then
 L_Heap_painted_5 n F_Heap_box F_box_has F_Heap_enclosed F_impl_beyond F_Heap_isBare F_set_has F_box_index m0 p0 p1 p2 p3 (p7 ++ ([p9] : List Int)) p8 p10 p11 (IntKind.wrap .i64 (p12 + 1))
 else none := by kernel_rfl
noncomputable def P_Heap_painted : Ft_Heap_painted := hid (runF (X_Heap_painted N P_Heap_box P_box_has P_Heap_enclosed P_impl_beyond P_Heap_isBare P_set_has P_box_index) B_Heap_painted As_Heap_painted R_Heap_painted M_Heap_painted)
theorem h_Heap_painted : P_Heap_painted = runF (X_Heap_painted N P_Heap_box P_box_has P_Heap_enclosed P_impl_beyond P_Heap_isBare P_set_has P_box_index) B_Heap_painted As_Heap_painted R_Heap_painted M_Heap_painted := hid_eq _
noncomputable def C_Heap_painted : Contract := ⟨As_Heap_painted, R_Heap_painted, M_Heap_painted, P_Heap_painted⟩
theorem s_Heap_painted : Sound Tryz.prog GG 47 C_Heap_painted := by
 unfold C_Heap_painted; rw [h_Heap_painted]
 exact sound_of_run (fn := Tryz.f47) hmix hstable (tyOK_of ttOK) (hglob (X_Heap_painted N P_Heap_box P_box_has P_Heap_enclosed P_impl_beyond P_Heap_isBare P_set_has P_box_index)) (conOK_of (X := X_Heap_painted N P_Heap_box P_box_has P_Heap_enclosed P_impl_beyond P_Heap_isBare P_set_has P_box_index) ⟨s_Heap_box, s_box_has, s_Heap_enclosed, s_impl_beyond, s_Heap_isBare, s_set_has, s_box_index, trivial⟩) (mconOK_of (X := X_Heap_painted N P_Heap_box P_box_has P_Heap_enclosed P_impl_beyond P_Heap_isBare P_set_has P_box_index) trivial) (by kernel_rfl) (by kernel_rfl) (by kernel_rfl) (by kernel_rfl) (by kernel_rfl) (of_decide_eq_true (by kernel_rfl))
noncomputable def l_Heap_painted_5 : Nat → Int → Int → Int → (List D_A3) → (List Int) → Int → (List D_A3) → Int → Int → Option (denL R_Heap_painted) := hid (fun m0 p0 p1 p2 p3 p4 p5 p6 p7 p8 => L_Heap_painted_5 N P_Heap_box P_box_has P_Heap_enclosed P_impl_beyond P_Heap_isBare P_set_has P_box_index m0 p0 p1 p2 p3 p4 p5 p6 p7 p8)
theorem h_Heap_painted_5 : l_Heap_painted_5 = fun m0 p0 p1 p2 p3 p4 p5 p6 p7 p8 => L_Heap_painted_5 N P_Heap_box P_box_has P_Heap_enclosed P_impl_beyond P_Heap_isBare P_set_has P_box_index m0 p0 p1 p2 p3 p4 p5 p6 p7 p8 := hid_eq _
noncomputable def l_Heap_painted_9 : Nat → Nat → Int → Int → Int → (List D_A3) → Int → Int → Int → (List Int) → Int → Int → (List D_A3) → Int → Int → Int → Option (denL R_Heap_painted) := hid (fun m0 m1 p0 p1 p2 p3 p4 p5 p6 p7 p8 p9 p10 p11 p12 p13 => L_Heap_painted_9 N P_Heap_box P_box_has P_Heap_enclosed P_impl_beyond P_Heap_isBare P_set_has P_box_index m0 m1 p0 p1 p2 p3 p4 p5 p6 p7 p8 p9 p10 p11 p12 p13)
theorem h_Heap_painted_9 : l_Heap_painted_9 = fun m0 m1 p0 p1 p2 p3 p4 p5 p6 p7 p8 p9 p10 p11 p12 p13 => L_Heap_painted_9 N P_Heap_box P_box_has P_Heap_enclosed P_impl_beyond P_Heap_isBare P_set_has P_box_index m0 m1 p0 p1 p2 p3 p4 p5 p6 p7 p8 p9 p10 p11 p12 p13 := hid_eq _
theorem p_Heap_painted (a0 : D_Heap) (a1 : Bool) : P_Heap_painted (a0, a1, ()) = 
 bif a1 then
 Option.bind (P_Heap_enclosed (a0, ())) fun r1 =>
 l_Heap_painted_5 N a0.1 a0.2.1 a0.2.2.1 a0.2.2.2.1 ([] : List Int) r1.1 a0.2.2.2.1 (List.length a0.2.2.2.1 : Int) 0
 else
 l_Heap_painted_5 N a0.1 a0.2.1 a0.2.2.1 a0.2.2.2.1 ([] : List Int) 0 a0.2.2.2.1 (List.length a0.2.2.2.1 : Int) 0 := by
 rewrite [h_Heap_painted, h_Heap_painted_5]
 exact e_Heap_painted N P_Heap_box P_box_has P_Heap_enclosed P_impl_beyond P_Heap_isBare P_set_has P_box_index a0 a1
theorem q_Heap_painted_5 (m0 : Nat) (p0 p1 p2 : Int) (p3 : List D_A3) (p4 : List Int) (p5 : Int) (p6 : List D_A3) (p7 p8 : Int) : l_Heap_painted_5 (m0 + 1) p0 p1 p2 p3 p4 p5 p6 p7 p8 = 
 bif decide (p8 < p7) then
 bif inB p8 (List.length p6) then
 l_Heap_painted_9 m0 N p0 p1 p2 p3 (((nth T_A3 p6 p8)).1) ((((nth T_A3 p6 p8)).2).1) (((((nth T_A3 p6 p8)).2).2).1) p4 p5 0 p6 p7 p8 0
 else none
 else
 some (p4, ()) := by
 rewrite [h_Heap_painted_5, h_Heap_painted_9]
 exact e_Heap_painted_5 N P_Heap_box P_box_has P_Heap_enclosed P_impl_beyond P_Heap_isBare P_set_has P_box_index m0 p0 p1 p2 p3 p4 p5 p6 p7 p8
theorem q_Heap_painted_9 (m0 m1 : Nat) (p0 p1 p2 : Int) (p3 : List D_A3) (p4 p5 p6 : Int) (p7 : List Int) (p8 p9 : Int) (p10 : List D_A3) (p11 p12 p13 : Int) : l_Heap_painted_9 m0 (m1 + 1) p0 p1 p2 p3 p4 p5 p6 p7 p8 p9 p10 p11 p12 p13 = 
 bif decide (p13 < 6) then
 Option.bind (P_impl_beyond ((p4, (p5, (p6, ()))), p13, ())) fun r1 =>
 Option.bind (P_Heap_isBare ((p0, (p1, (p2, (p3, ())))), r1.1, ())) fun r2 =>
 bif r2.1 then
 Option.bind (P_Heap_box ((p0, (p1, (p2, (p3, ())))), ())) fun r4 =>
 Option.bind (P_box_has (r4.1, r1.1, ())) fun r5 =>
 bif !r5.1 then
 l_Heap_painted_9 m0 m1 p0 p1 p2 p3 p4 p5 p6 p7 p8 (IntKind.wrap .i64 (p9 + 1)) p10 p11 p12 (IntKind.wrap .i64 (p13 + 1))
 else
 Option.bind (P_Heap_box ((p0, (p1, (p2, (p3, ())))), ())) fun r7 =>
 Option.bind (P_box_index (r7.1, r1.1, ())) fun r8 =>
 Option.bind (P_set_has (p8, r8.1, ())) fun r9 =>
 bif !r9.1 then
 l_Heap_painted_9 m0 m1 p0 p1 p2 p3 p4 p5 p6 p7 p8 (IntKind.wrap .i64 (p9 + 1)) p10 p11 p12 (IntKind.wrap .i64 (p13 + 1))
 else
 l_Heap_painted_9 m0 m1 p0 p1 p2 p3 p4 p5 p6 p7 p8 p9 p10 p11 p12 (IntKind.wrap .i64 (p13 + 1))
 else
 l_Heap_painted_9 m0 m1 p0 p1 p2 p3 p4 p5 p6 p7 p8 p9 p10 p11 p12 (IntKind.wrap .i64 (p13 + 1))
 else
 bif (decide (((List.length p7) + (List.length ([p9] : List Int))) * 8 ≤ 140737488355328) && decide (((List.length p7) + (List.length ([p9] : List Int))) ≤ 140737488355328)) then
 l_Heap_painted_5 m0 p0 p1 p2 p3 (p7 ++ ([p9] : List Int)) p8 p10 p11 (IntKind.wrap .i64 (p12 + 1))
 else none := by
 rewrite [h_Heap_painted_5, h_Heap_painted_9]
 exact e_Heap_painted_9 N P_Heap_box P_box_has P_Heap_enclosed P_impl_beyond P_Heap_isBare P_set_has P_box_index m0 m1 p0 p1 p2 p3 p4 p5 p6 p7 p8 p9 p10 p11 p12 p13

abbrev As_impl_PaintCounts : List ATy := [.data true T_Heap, .data false .bool]
abbrev R_impl_PaintCounts : List (Bool × Ty) := [(true, T_A7), (false, .bool)]
abbrev M_impl_PaintCounts : List RMode := []
abbrev Ft_impl_PaintCounts : Type := D_Heap × Bool × Unit → Option (D_A7 × Bool × Unit)
noncomputable def X_impl_PaintCounts (n : Nat) (F_impl_IsHeap : Ft_impl_IsHeap) (F_Heap_painted : Ft_Heap_painted) : Ctx := { types := TT, globals := [], con := [(9, ⟨As_impl_IsHeap, R_impl_IsHeap, M_impl_IsHeap, F_impl_IsHeap⟩), (47, ⟨As_Heap_painted, R_Heap_painted, M_Heap_painted, F_Heap_painted⟩)], keep := [(5, ⟨[.box 4, .box 6, .tmp 4, .tmp 6, .tmp 16, .tmp 17, .tmp 18], []⟩)], results := [.cell 4 29, .tmp 5], ntmps := 29, n := n }
noncomputable def B_impl_PaintCounts : Code := (Tryz.f7.body).getD .skip
noncomputable def L_impl_PaintCounts_5 (n : Nat) (F_impl_IsHeap : Ft_impl_IsHeap) (F_Heap_painted : Ft_Heap_painted) (m0 : Nat) (p0 p1 : Int) (p2 p3 : Int) (p4 p5 : Int) (p6 p7 : Int) (p8 p9 : Int) (p10 p11 : Int) (p12 p13 : Int) (p14 : List Int) (p15 p16 : Int) : Option (denL R_impl_PaintCounts) := loopF (X_impl_PaintCounts n F_impl_IsHeap F_Heap_painted) B_impl_PaintCounts R_impl_PaintCounts M_impl_PaintCounts 5 [m0] [(.ver, .num 1), (.box 4, .box 0 false [.int .i64 p0, .int .i64 p1, .int .i64 p2, .int .i64 p3, .int .i64 p4, .int .i64 p5, .int .i64 p6]), (.box 6, .box 0 false [.int .i64 p7, .int .i64 p8, .int .i64 p9, .int .i64 p10, .int .i64 p11, .int .i64 p12, .int .i64 p13]), (.tmp 4, .val false [.addr 4 0 0]), (.tmp 6, .val false [.addr 6 0 0]), (.tmp 16, .val false [.own 3 (.int .i64) 0 p14]), (.tmp 17, .val false [.int .i64 p15]), (.tmp 18, .val false [.int .i64 p16])]
theorem e_impl_PaintCounts (n : Nat) (F_impl_IsHeap : Ft_impl_IsHeap) (F_Heap_painted : Ft_Heap_painted) (a0 : D_Heap) (a1 : Bool) : runF (X_impl_PaintCounts n F_impl_IsHeap F_Heap_painted) B_impl_PaintCounts As_impl_PaintCounts R_impl_PaintCounts M_impl_PaintCounts (a0, a1, ()) = 
 Option.bind (F_impl_IsHeap (a0, ())) fun r0 =>
 bif !r0.1 then
 some ((0, (0, (0, (0, (0, (0, (0, ()))))))), false, ())
 else
 Option.bind (F_Heap_painted (a0, a1, ())) fun r2 =>
 L_impl_PaintCounts_5 n F_impl_IsHeap F_Heap_painted n 0 0 0 0 0 0 0 0 0 0 0 0 0 0 r2.1 (List.length r2.1 : Int) 0 := by kernel_rfl
theorem e_impl_PaintCounts_5 (n : Nat) (F_impl_IsHeap : Ft_impl_IsHeap) (F_Heap_painted : Ft_Heap_painted) (m0 : Nat) (p0 p1 : Int) (p2 p3 : Int) (p4 p5 : Int) (p6 p7 : Int) (p8 p9 : Int) (p10 p11 : Int) (p12 p13 : Int) (p14 : List Int) (p15 p16 : Int) : L_impl_PaintCounts_5 n F_impl_IsHeap F_Heap_painted (m0 + 1) p0 p1 p2 p3 p4 p5 p6 p7 p8 p9 p10 p11 p12 p13 p14 p15 p16 = 
 bif decide (p16 < p15) then
 bif inB p16 (List.length p14) then
 bif inB (nth ((.int .i64) : Ty) p14 p16) 7 then
 bif inB (nth ((.int .i64) : Ty) p14 p16) 7 then
 L_impl_PaintCounts_5 n F_impl_IsHeap F_Heap_painted m0 p0 p1 p2 p3 p4 p5 p6 (bif decide ((nth ((.int .i64) : Ty) p14 p16) = (0 : Int)) then (IntKind.wrap .i64 ((bif decide ((nth ((.int .i64) : Ty) p14 p16) = (0 : Int)) then p7 else (bif decide ((nth ((.int .i64) : Ty) p14 p16) = (1 : Int)) then p8 else (bif decide ((nth ((.int .i64) : Ty) p14 p16) = (2 : Int)) then p9 else (bif decide ((nth ((.int .i64) : Ty) p14 p16) = (3 : Int)) then p10 else (bif decide ((nth ((.int .i64) : Ty) p14 p16) = (4 : Int)) then p11 else (bif decide ((nth ((.int .i64) : Ty) p14 p16) = (5 : Int)) then p12 else p13)))))) + 1)) else p7) (bif decide ((nth ((.int .i64) : Ty) p14 p16) = (1 : Int)) then (IntKind.wrap .i64 ((bif decide ((nth ((.int .i64) : Ty) p14 p16) = (0 : Int)) then p7 else (bif decide ((nth ((.int .i64) : Ty) p14 p16) = (1 : Int)) then p8 else (bif decide ((nth ((.int .i64) : Ty) p14 p16) = (2 : Int)) then p9 else (bif decide ((nth ((.int .i64) : Ty) p14 p16) = (3 : Int)) then p10 else (bif decide ((nth ((.int .i64) : Ty) p14 p16) = (4 : Int)) then p11 else (bif decide ((nth ((.int .i64) : Ty) p14 p16) = (5 : Int)) then p12 else p13)))))) + 1)) else p8) (bif decide ((nth ((.int .i64) : Ty) p14 p16) = (2 : Int)) then (IntKind.wrap .i64 ((bif decide ((nth ((.int .i64) : Ty) p14 p16) = (0 : Int)) then p7 else (bif decide ((nth ((.int .i64) : Ty) p14 p16) = (1 : Int)) then p8 else (bif decide ((nth ((.int .i64) : Ty) p14 p16) = (2 : Int)) then p9 else (bif decide ((nth ((.int .i64) : Ty) p14 p16) = (3 : Int)) then p10 else (bif decide ((nth ((.int .i64) : Ty) p14 p16) = (4 : Int)) then p11 else (bif decide ((nth ((.int .i64) : Ty) p14 p16) = (5 : Int)) then p12 else p13)))))) + 1)) else p9) (bif decide ((nth ((.int .i64) : Ty) p14 p16) = (3 : Int)) then (IntKind.wrap .i64 ((bif decide ((nth ((.int .i64) : Ty) p14 p16) = (0 : Int)) then p7 else (bif decide ((nth ((.int .i64) : Ty) p14 p16) = (1 : Int)) then p8 else (bif decide ((nth ((.int .i64) : Ty) p14 p16) = (2 : Int)) then p9 else (bif decide ((nth ((.int .i64) : Ty) p14 p16) = (3 : Int)) then p10 else (bif decide ((nth ((.int .i64) : Ty) p14 p16) = (4 : Int)) then p11 else (bif decide ((nth ((.int .i64) : Ty) p14 p16) = (5 : Int)) then p12 else p13)))))) + 1)) else p10) (bif decide ((nth ((.int .i64) : Ty) p14 p16) = (4 : Int)) then (IntKind.wrap .i64 ((bif decide ((nth ((.int .i64) : Ty) p14 p16) = (0 : Int)) then p7 else (bif decide ((nth ((.int .i64) : Ty) p14 p16) = (1 : Int)) then p8 else (bif decide ((nth ((.int .i64) : Ty) p14 p16) = (2 : Int)) then p9 else (bif decide ((nth ((.int .i64) : Ty) p14 p16) = (3 : Int)) then p10 else (bif decide ((nth ((.int .i64) : Ty) p14 p16) = (4 : Int)) then p11 else (bif decide ((nth ((.int .i64) : Ty) p14 p16) = (5 : Int)) then p12 else p13)))))) + 1)) else p11) (bif decide ((nth ((.int .i64) : Ty) p14 p16) = (5 : Int)) then (IntKind.wrap .i64 ((bif decide ((nth ((.int .i64) : Ty) p14 p16) = (0 : Int)) then p7 else (bif decide ((nth ((.int .i64) : Ty) p14 p16) = (1 : Int)) then p8 else (bif decide ((nth ((.int .i64) : Ty) p14 p16) = (2 : Int)) then p9 else (bif decide ((nth ((.int .i64) : Ty) p14 p16) = (3 : Int)) then p10 else (bif decide ((nth ((.int .i64) : Ty) p14 p16) = (4 : Int)) then p11 else (bif decide ((nth ((.int .i64) : Ty) p14 p16) = (5 : Int)) then p12 else p13)))))) + 1)) else p12) (bif decide ((nth ((.int .i64) : Ty) p14 p16) = (6 : Int)) then (IntKind.wrap .i64 ((bif decide ((nth ((.int .i64) : Ty) p14 p16) = (0 : Int)) then p7 else (bif decide ((nth ((.int .i64) : Ty) p14 p16) = (1 : Int)) then p8 else (bif decide ((nth ((.int .i64) : Ty) p14 p16) = (2 : Int)) then p9 else (bif decide ((nth ((.int .i64) : Ty) p14 p16) = (3 : Int)) then p10 else (bif decide ((nth ((.int .i64) : Ty) p14 p16) = (4 : Int)) then p11 else (bif decide ((nth ((.int .i64) : Ty) p14 p16) = (5 : Int)) then p12 else p13)))))) + 1)) else p13) p14 p15 (IntKind.wrap .i64 (p16 + 1))
 else none
 else none
 else none
 else
 some ((p7, (p8, (p9, (p10, (p11, (p12, (p13, ()))))))), true, ()) := by kernel_rfl
noncomputable def P_impl_PaintCounts : Ft_impl_PaintCounts := hid (runF (X_impl_PaintCounts N P_impl_IsHeap P_Heap_painted) B_impl_PaintCounts As_impl_PaintCounts R_impl_PaintCounts M_impl_PaintCounts)
theorem h_impl_PaintCounts : P_impl_PaintCounts = runF (X_impl_PaintCounts N P_impl_IsHeap P_Heap_painted) B_impl_PaintCounts As_impl_PaintCounts R_impl_PaintCounts M_impl_PaintCounts := hid_eq _
noncomputable def C_impl_PaintCounts : Contract := ⟨As_impl_PaintCounts, R_impl_PaintCounts, M_impl_PaintCounts, P_impl_PaintCounts⟩
theorem s_impl_PaintCounts : Sound Tryz.prog GG 7 C_impl_PaintCounts := by
 unfold C_impl_PaintCounts; rw [h_impl_PaintCounts]
 exact sound_of_run (fn := Tryz.f7) hmix hstable (tyOK_of ttOK) (hglob (X_impl_PaintCounts N P_impl_IsHeap P_Heap_painted)) (conOK_of (X := X_impl_PaintCounts N P_impl_IsHeap P_Heap_painted) ⟨s_impl_IsHeap, s_Heap_painted, trivial⟩) (mconOK_of (X := X_impl_PaintCounts N P_impl_IsHeap P_Heap_painted) trivial) (by kernel_rfl) (by kernel_rfl) (by kernel_rfl) (by kernel_rfl) (by kernel_rfl) (of_decide_eq_true (by kernel_rfl))
noncomputable def l_impl_PaintCounts_5 : Nat → Int → Int → Int → Int → Int → Int → Int → Int → Int → Int → Int → Int → Int → Int → (List Int) → Int → Int → Option (denL R_impl_PaintCounts) := hid (fun m0 p0 p1 p2 p3 p4 p5 p6 p7 p8 p9 p10 p11 p12 p13 p14 p15 p16 => L_impl_PaintCounts_5 N P_impl_IsHeap P_Heap_painted m0 p0 p1 p2 p3 p4 p5 p6 p7 p8 p9 p10 p11 p12 p13 p14 p15 p16)
theorem h_impl_PaintCounts_5 : l_impl_PaintCounts_5 = fun m0 p0 p1 p2 p3 p4 p5 p6 p7 p8 p9 p10 p11 p12 p13 p14 p15 p16 => L_impl_PaintCounts_5 N P_impl_IsHeap P_Heap_painted m0 p0 p1 p2 p3 p4 p5 p6 p7 p8 p9 p10 p11 p12 p13 p14 p15 p16 := hid_eq _
theorem p_impl_PaintCounts (a0 : D_Heap) (a1 : Bool) : P_impl_PaintCounts (a0, a1, ()) = 
 Option.bind (P_impl_IsHeap (a0, ())) fun r0 =>
 bif !r0.1 then
 some ((0, (0, (0, (0, (0, (0, (0, ()))))))), false, ())
 else
 Option.bind (P_Heap_painted (a0, a1, ())) fun r2 =>
 l_impl_PaintCounts_5 N 0 0 0 0 0 0 0 0 0 0 0 0 0 0 r2.1 (List.length r2.1 : Int) 0 := by
 rewrite [h_impl_PaintCounts, h_impl_PaintCounts_5]
 exact e_impl_PaintCounts N P_impl_IsHeap P_Heap_painted a0 a1
theorem q_impl_PaintCounts_5 (m0 : Nat) (p0 p1 : Int) (p2 p3 : Int) (p4 p5 : Int) (p6 p7 : Int) (p8 p9 : Int) (p10 p11 : Int) (p12 p13 : Int) (p14 : List Int) (p15 p16 : Int) : l_impl_PaintCounts_5 (m0 + 1) p0 p1 p2 p3 p4 p5 p6 p7 p8 p9 p10 p11 p12 p13 p14 p15 p16 = 
 bif decide (p16 < p15) then
 bif inB p16 (List.length p14) then
 bif inB (nth ((.int .i64) : Ty) p14 p16) 7 then
 bif inB (nth ((.int .i64) : Ty) p14 p16) 7 then
 l_impl_PaintCounts_5 m0 p0 p1 p2 p3 p4 p5 p6 (bif decide ((nth ((.int .i64) : Ty) p14 p16) = (0 : Int)) then (IntKind.wrap .i64 ((bif decide ((nth ((.int .i64) : Ty) p14 p16) = (0 : Int)) then p7 else (bif decide ((nth ((.int .i64) : Ty) p14 p16) = (1 : Int)) then p8 else (bif decide ((nth ((.int .i64) : Ty) p14 p16) = (2 : Int)) then p9 else (bif decide ((nth ((.int .i64) : Ty) p14 p16) = (3 : Int)) then p10 else (bif decide ((nth ((.int .i64) : Ty) p14 p16) = (4 : Int)) then p11 else (bif decide ((nth ((.int .i64) : Ty) p14 p16) = (5 : Int)) then p12 else p13)))))) + 1)) else p7) (bif decide ((nth ((.int .i64) : Ty) p14 p16) = (1 : Int)) then (IntKind.wrap .i64 ((bif decide ((nth ((.int .i64) : Ty) p14 p16) = (0 : Int)) then p7 else (bif decide ((nth ((.int .i64) : Ty) p14 p16) = (1 : Int)) then p8 else (bif decide ((nth ((.int .i64) : Ty) p14 p16) = (2 : Int)) then p9 else (bif decide ((nth ((.int .i64) : Ty) p14 p16) = (3 : Int)) then p10 else (bif decide ((nth ((.int .i64) : Ty) p14 p16) = (4 : Int)) then p11 else (bif decide ((nth ((.int .i64) : Ty) p14 p16) = (5 : Int)) then p12 else p13)))))) + 1)) else p8) (bif decide ((nth ((.int .i64) : Ty) p14 p16) = (2 : Int)) then (IntKind.wrap .i64 ((bif decide ((nth ((.int .i64) : Ty) p14 p16) = (0 : Int)) then p7 else (bif decide ((nth ((.int .i64) : Ty) p14 p16) = (1 : Int)) then p8 else (bif decide ((nth ((.int .i64) : Ty) p14 p16) = (2 : Int)) then p9 else (bif decide ((nth ((.int .i64) : Ty) p14 p16) = (3 : Int)) then p10 else (bif decide ((nth ((.int .i64) : Ty) p14 p16) = (4 : Int)) then p11 else (bif decide ((nth ((.int .i64) : Ty) p14 p16) = (5 : Int)) then p12 else p13)))))) + 1)) else p9) (bif decide ((nth ((.int .i64) : Ty) p14 p16) = (3 : Int)) then (IntKind.wrap .i64 ((bif decide ((nth ((.int .i64) : Ty) p14 p16) = (0 : Int)) then p7 else (bif decide ((nth ((.int .i64) : Ty) p14 p16) = (1 : Int)) then p8 else (bif decide ((nth ((.int .i64) : Ty) p14 p16) = (2 : Int)) then p9 else (bif decide ((nth ((.int .i64) : Ty) p14 p16) = (3 : Int)) then p10 else (bif decide ((nth ((.int .i64) : Ty) p14 p16) = (4 : Int)) then p11 else (bif decide ((nth ((.int .i64) : Ty) p14 p16) = (5 : Int)) then p12 else p13)))))) + 1)) else p10) (bif decide ((nth ((.int .i64) : Ty) p14 p16) = (4 : Int)) then (IntKind.wrap .i64 ((bif decide ((nth ((.int .i64) : Ty) p14 p16) = (0 : Int)) then p7 else (bif decide ((nth ((.int .i64) : Ty) p14 p16) = (1 : Int)) then p8 else (bif decide ((nth ((.int .i64) : Ty) p14 p16) = (2 : Int)) then p9 else (bif decide ((nth ((.int .i64) : Ty) p14 p16) = (3 : Int)) then p10 else (bif decide ((nth ((.int .i64) : Ty) p14 p16) = (4 : Int)) then p11 else (bif decide ((nth ((.int .i64) : Ty) p14 p16) = (5 : Int)) then p12 else p13)))))) + 1)) else p11) (bif decide ((nth ((.int .i64) : Ty) p14 p16) = (5 : Int)) then (IntKind.wrap .i64 ((bif decide ((nth ((.int .i64) : Ty) p14 p16) = (0 : Int)) then p7 else (bif decide ((nth ((.int .i64) : Ty) p14 p16) = (1 : Int)) then p8 else (bif decide ((nth ((.int .i64) : Ty) p14 p16) = (2 : Int)) then p9 else (bif decide ((nth ((.int .i64) : Ty) p14 p16) = (3 : Int)) then p10 else (bif decide ((nth ((.int .i64) : Ty) p14 p16) = (4 : Int)) then p11 else (bif decide ((nth ((.int .i64) : Ty) p14 p16) = (5 : Int)) then p12 else p13)))))) + 1)) else p12) (bif decide ((nth ((.int .i64) : Ty) p14 p16) = (6 : Int)) then (IntKind.wrap .i64 ((bif decide ((nth ((.int .i64) : Ty) p14 p16) = (0 : Int)) then p7 else (bif decide ((nth ((.int .i64) : Ty) p14 p16) = (1 : Int)) then p8 else (bif decide ((nth ((.int .i64) : Ty) p14 p16) = (2 : Int)) then p9 else (bif decide ((nth ((.int .i64) : Ty) p14 p16) = (3 : Int)) then p10 else (bif decide ((nth ((.int .i64) : Ty) p14 p16) = (4 : Int)) then p11 else (bif decide ((nth ((.int .i64) : Ty) p14 p16) = (5 : Int)) then p12 else p13)))))) + 1)) else p13) p14 p15 (IntKind.wrap .i64 (p16 + 1))
 else none
 else none
 else none
 else
 some ((p7, (p8, (p9, (p10, (p11, (p12, (p13, ()))))))), true, ()) := by
 rewrite [h_impl_PaintCounts_5]
 exact e_impl_PaintCounts_5 N P_impl_IsHeap P_Heap_painted m0 p0 p1 p2 p3 p4 p5 p6 p7 p8 p9 p10 p11 p12 p13 p14 p15 p16

abbrev As_spec_l6Steps : List ATy := []
abbrev R_spec_l6Steps : List (Bool × Ty) := [(true, (.pair T_A3 (.pair T_A3 (.pair T_A3 (.pair T_A3 (.pair T_A3 (.pair T_A3 .unit)))))))]
abbrev M_spec_l6Steps : List RMode := []
abbrev Ft_spec_l6Steps : Type := Unit → Option ((D_A3 × D_A3 × D_A3 × D_A3 × D_A3 × D_A3 × Unit) × Unit)
noncomputable def X_spec_l6Steps (n : Nat) : Ctx := { types := TT, globals := [], con := [], keep := [], results := [.cell 0 105], ntmps := 8, n := n }
noncomputable def B_spec_l6Steps : Code := (Tryz.f96.body).getD .skip
theorem e_spec_l6Steps (n : Nat)  : runF (X_spec_l6Steps n) B_spec_l6Steps As_spec_l6Steps R_spec_l6Steps M_spec_l6Steps (()) = 
 some ((((-1), (0, (0, ()))), ((1, (0, (0, ()))), ((0, ((-1), (0, ()))), ((0, (1, (0, ()))), ((0, (0, ((-1), ()))), ((0, (0, (1, ()))), ())))))), ()) := by kernel_rfl
noncomputable def P_spec_l6Steps : Ft_spec_l6Steps := hid (runF (X_spec_l6Steps N) B_spec_l6Steps As_spec_l6Steps R_spec_l6Steps M_spec_l6Steps)
theorem h_spec_l6Steps : P_spec_l6Steps = runF (X_spec_l6Steps N) B_spec_l6Steps As_spec_l6Steps R_spec_l6Steps M_spec_l6Steps := hid_eq _
noncomputable def C_spec_l6Steps : Contract := ⟨As_spec_l6Steps, R_spec_l6Steps, M_spec_l6Steps, P_spec_l6Steps⟩
theorem s_spec_l6Steps : Sound Tryz.prog GG 96 C_spec_l6Steps := by
 unfold C_spec_l6Steps; rw [h_spec_l6Steps]
 exact sound_of_run (fn := Tryz.f96) hmix hstable (tyOK_of ttOK) (hglob (X_spec_l6Steps N)) (conOK_of (X := X_spec_l6Steps N) trivial) (mconOK_of (X := X_spec_l6Steps N) trivial) (by kernel_rfl) (by kernel_rfl) (by kernel_rfl) (by kernel_rfl) (by kernel_rfl) (of_decide_eq_true (by kernel_rfl))
theorem p_spec_l6Steps  : P_spec_l6Steps (()) = 
 some ((((-1), (0, (0, ()))), ((1, (0, (0, ()))), ((0, ((-1), (0, ()))), ((0, (1, (0, ()))), ((0, (0, ((-1), ()))), ((0, (0, (1, ()))), ())))))), ()) := by
 rewrite [h_spec_l6Steps]
 exact e_spec_l6Steps N 

abbrev As_spec_l6Beside : List ATy := [.data true T_A3, .data true T_A3]
abbrev R_spec_l6Beside : List (Bool × Ty) := [(true, T_A3)]
abbrev M_spec_l6Beside : List RMode := []
abbrev Ft_spec_l6Beside : Type := D_A3 × D_A3 × Unit → Option (D_A3 × Unit)
noncomputable def X_spec_l6Beside (n : Nat) : Ctx := { types := TT, globals := [], con := [], keep := [], results := [.cell 4 38], ntmps := 21, n := n }
noncomputable def B_spec_l6Beside : Code := (Tryz.f97.body).getD .skip
theorem e_spec_l6Beside (n : Nat) (a0 a1 : D_A3) : runF (X_spec_l6Beside n) B_spec_l6Beside As_spec_l6Beside R_spec_l6Beside M_spec_l6Beside (a0, a1, ()) = 
 some (((IntKind.wrap .i64 (a0.1 + a1.1)), ((IntKind.wrap .i64 (a0.2.1 + a1.2.1)), ((IntKind.wrap .i64 (a0.2.2.1 + a1.2.2.1)), ()))), ()) := by kernel_rfl
noncomputable def P_spec_l6Beside : Ft_spec_l6Beside := hid (runF (X_spec_l6Beside N) B_spec_l6Beside As_spec_l6Beside R_spec_l6Beside M_spec_l6Beside)
theorem h_spec_l6Beside : P_spec_l6Beside = runF (X_spec_l6Beside N) B_spec_l6Beside As_spec_l6Beside R_spec_l6Beside M_spec_l6Beside := hid_eq _
noncomputable def C_spec_l6Beside : Contract := ⟨As_spec_l6Beside, R_spec_l6Beside, M_spec_l6Beside, P_spec_l6Beside⟩
theorem s_spec_l6Beside : Sound Tryz.prog GG 97 C_spec_l6Beside := by
 unfold C_spec_l6Beside; rw [h_spec_l6Beside]
 exact sound_of_run (fn := Tryz.f97) hmix hstable (tyOK_of ttOK) (hglob (X_spec_l6Beside N)) (conOK_of (X := X_spec_l6Beside N) trivial) (mconOK_of (X := X_spec_l6Beside N) trivial) (by kernel_rfl) (by kernel_rfl) (by kernel_rfl) (by kernel_rfl) (by kernel_rfl) (of_decide_eq_true (by kernel_rfl))
theorem p_spec_l6Beside (a0 a1 : D_A3) : P_spec_l6Beside (a0, a1, ()) = 
 some (((IntKind.wrap .i64 (a0.1 + a1.1)), ((IntKind.wrap .i64 (a0.2.1 + a1.2.1)), ((IntKind.wrap .i64 (a0.2.2.1 + a1.2.2.1)), ()))), ()) := by
 rewrite [h_spec_l6Beside]
 exact e_spec_l6Beside N a0 a1

abbrev As_spec_l11Painted : List ATy := [.data true T_Heap, .data true T_Heap, .data true T_A3]
abbrev R_spec_l11Painted : List (Bool × Ty) := [(false, (.int .i64))]
abbrev M_spec_l11Painted : List RMode := []
abbrev Ft_spec_l11Painted : Type := D_Heap × D_Heap × D_A3 × Unit → Option (Int × Unit)
noncomputable def X_spec_l11Painted (n : Nat) (F_spec_l2Has : Ft_spec_l2Has) (F_spec_l6Steps : Ft_spec_l6Steps) (F_spec_l6Beside : Ft_spec_l6Beside) : Ctx := { types := TT, globals := [], con := [(62, ⟨As_spec_l2Has, R_spec_l2Has, M_spec_l2Has, F_spec_l2Has⟩), (96, ⟨As_spec_l6Steps, R_spec_l6Steps, M_spec_l6Steps, F_spec_l6Steps⟩), (97, ⟨As_spec_l6Beside, R_spec_l6Beside, M_spec_l6Beside, F_spec_l6Beside⟩)], keep := [(3, ⟨[.box 3, .box 4, .box 5, .box 8, .tmp 3, .tmp 4, .tmp 5, .tmp 7, .tmp 8, .tmp 9], []⟩)], results := [.tmp 6], ntmps := 34, n := n }
noncomputable def B_spec_l11Painted : Code := (Tryz.f63.body).getD .skip
noncomputable def L_spec_l11Painted_3 (n : Nat) (F_spec_l2Has : Ft_spec_l2Has) (F_spec_l6Steps : Ft_spec_l6Steps) (F_spec_l6Beside : Ft_spec_l6Beside) (m0 : Nat) (p0 p1 p2 : Int) (p3 : List D_A3) (p4 p5 p6 : Int) (p7 : List D_A3) (p8 p9 : Int) (p10 p11 : Int) (p12 p13 : Int) (p14 p15 : Int) (p16 p17 : Int) (p18 p19 : Int) (p20 p21 : Int) (p22 p23 : Int) (p24 p25 : Int) (p26 p27 : Int) (p28 p29 p30 : Int) : Option (denL R_spec_l11Painted) := loopF (X_spec_l11Painted n F_spec_l2Has F_spec_l6Steps F_spec_l6Beside) B_spec_l11Painted R_spec_l11Painted M_spec_l11Painted 3 [m0] [(.ver, .num 1), (.box 3, .box 0 false [.int .i64 p0, .int .i64 p1, .int .i64 p2, .imm T_A3 p3 (some 3)]), (.box 4, .box 0 false [.int .i64 p4, .int .i64 p5, .int .i64 p6, .imm T_A3 p7 (some 7)]), (.box 5, .box 0 false [.int .i64 p8, .int .i64 p9, .int .i64 p10]), (.box 8, .box 0 false [.int .i64 p11, .int .i64 p12, .int .i64 p13, .int .i64 p14, .int .i64 p15, .int .i64 p16, .int .i64 p17, .int .i64 p18, .int .i64 p19, .int .i64 p20, .int .i64 p21, .int .i64 p22, .int .i64 p23, .int .i64 p24, .int .i64 p25, .int .i64 p26, .int .i64 p27, .int .i64 p28]), (.tmp 3, .val false [.addr 3 0 0]), (.tmp 4, .val false [.addr 4 0 0]), (.tmp 5, .val false [.addr 5 0 0]), (.tmp 7, .val false [.int .i64 p29]), (.tmp 8, .val false [.addr 8 0 0]), (.tmp 9, .val false [.int .i64 p30])]
theorem e_spec_l11Painted (n : Nat) (F_spec_l2Has : Ft_spec_l2Has) (F_spec_l6Steps : Ft_spec_l6Steps) (F_spec_l6Beside : Ft_spec_l6Beside) (a0 a1 : D_Heap) (a2 : D_A3) : runF (X_spec_l11Painted n F_spec_l2Has F_spec_l6Steps F_spec_l6Beside) B_spec_l11Painted As_spec_l11Painted R_spec_l11Painted M_spec_l11Painted (a0, a1, a2, ()) = 
 Option.bind (F_spec_l6Steps (())) fun r0 =>
 L_spec_l11Painted_3 n F_spec_l2Has F_spec_l6Steps F_spec_l6Beside n a0.1 a0.2.1 a0.2.2.1 a0.2.2.2.1 a1.1 a1.2.1 a1.2.2.1 a1.2.2.2.1 a2.1 a2.2.1 a2.2.2.1 r0.1.1.1 r0.1.1.2.1 r0.1.1.2.2.1 r0.1.2.1.1 r0.1.2.1.2.1 r0.1.2.1.2.2.1 r0.1.2.2.1.1 r0.1.2.2.1.2.1 r0.1.2.2.1.2.2.1 r0.1.2.2.2.1.1 r0.1.2.2.2.1.2.1 r0.1.2.2.2.1.2.2.1 r0.1.2.2.2.2.1.1 r0.1.2.2.2.2.1.2.1 r0.1.2.2.2.2.1.2.2.1 r0.1.2.2.2.2.2.1.1 r0.1.2.2.2.2.2.1.2.1 r0.1.2.2.2.2.2.1.2.2.1 0 0 := by kernel_rfl
theorem e_spec_l11Painted_3 (n : Nat) (F_spec_l2Has : Ft_spec_l2Has) (F_spec_l6Steps : Ft_spec_l6Steps) (F_spec_l6Beside : Ft_spec_l6Beside) (m0 : Nat) (p0 p1 p2 : Int) (p3 : List D_A3) (p4 p5 p6 : Int) (p7 : List D_A3) (p8 p9 : Int) (p10 p11 : Int) (p12 p13 : Int) (p14 p15 : Int) (p16 p17 : Int) (p18 p19 : Int) (p20 p21 : Int) (p22 p23 : Int) (p24 p25 : Int) (p26 p27 : Int) (p28 p29 p30 : Int) : L_spec_l11Painted_3 n F_spec_l2Has F_spec_l6Steps F_spec_l6Beside (m0 + 1) p0 p1 p2 p3 p4 p5 p6 p7 p8 p9 p10 p11 p12 p13 p14 p15 p16 p17 p18 p19 p20 p21 p22 p23 p24 p25 p26 p27 p28 p29 p30 = 
 bif decide (p30 < 6) then
 bif inB p30 6 then
 Option.bind (F_spec_l6Beside ((p8, (p9, (p10, ()))), ((bif decide (p30 = (0 : Int)) then p11 else (bif decide (p30 = (1 : Int)) then p14 else (bif decide (p30 = (2 : Int)) then p17 else (bif decide (p30 = (3 : Int)) then p20 else (bif decide (p30 = (4 : Int)) then p23 else p26))))), ((bif decide (p30 = (0 : Int)) then p12 else (bif decide (p30 = (1 : Int)) then p15 else (bif decide (p30 = (2 : Int)) then p18 else (bif decide (p30 = (3 : Int)) then p21 else (bif decide (p30 = (4 : Int)) then p24 else p27))))), ((bif decide (p30 = (0 : Int)) then p13 else (bif decide (p30 = (1 : Int)) then p16 else (bif decide (p30 = (2 : Int)) then p19 else (bif decide (p30 = (3 : Int)) then p22 else (bif decide (p30 = (4 : Int)) then p25 else p28))))), ()))), ())) fun r2 =>
 Option.bind (F_spec_l2Has ((p0, (p1, (p2, (p3, ())))), r2.1, ())) fun r3 =>
 bif !r3.1 then
 Option.bind (F_spec_l2Has ((p4, (p5, (p6, (p7, ())))), r2.1, ())) fun r5 =>
 bif !r5.1 then
 L_spec_l11Painted_3 n F_spec_l2Has F_spec_l6Steps F_spec_l6Beside m0 p0 p1 p2 p3 p4 p5 p6 p7 p8 p9 p10 p11 p12 p13 p14 p15 p16 p17 p18 p19 p20 p21 p22 p23 p24 p25 p26 p27 p28 (IntKind.wrap .i64 (p29 + 1)) (IntKind.wrap .i64 (p30 + 1))
 else
 L_spec_l11Painted_3 n F_spec_l2Has F_spec_l6Steps F_spec_l6Beside m0 p0 p1 p2 p3 p4 p5 p6 p7 p8 p9 p10 p11 p12 p13 p14 p15 p16 p17 p18 p19 p20 p21 p22 p23 p24 p25 p26 p27 p28 p29 (IntKind.wrap .i64 (p30 + 1))
 else
 L_spec_l11Painted_3 n F_spec_l2Has F_spec_l6Steps F_spec_l6Beside m0 p0 p1 p2 p3 p4 p5 p6 p7 p8 p9 p10 p11 p12 p13 p14 p15 p16 p17 p18 p19 p20 p21 p22 p23 p24 p25 p26 p27 p28 p29 (IntKind.wrap .i64 (p30 + 1))
 else none
 else
 some (p29, ()) := by kernel_rfl
noncomputable def P_spec_l11Painted : Ft_spec_l11Painted := hid (runF (X_spec_l11Painted N P_spec_l2Has P_spec_l6Steps P_spec_l6Beside) B_spec_l11Painted As_spec_l11Painted R_spec_l11Painted M_spec_l11Painted)
theorem h_spec_l11Painted : P_spec_l11Painted = runF (X_spec_l11Painted N P_spec_l2Has P_spec_l6Steps P_spec_l6Beside) B_spec_l11Painted As_spec_l11Painted R_spec_l11Painted M_spec_l11Painted := hid_eq _
noncomputable def C_spec_l11Painted : Contract := ⟨As_spec_l11Painted, R_spec_l11Painted, M_spec_l11Painted, P_spec_l11Painted⟩
theorem s_spec_l11Painted : Sound Tryz.prog GG 63 C_spec_l11Painted := by
 unfold C_spec_l11Painted; rw [h_spec_l11Painted]
 exact sound_of_run (fn := Tryz.f63) hmix hstable (tyOK_of ttOK) (hglob (X_spec_l11Painted N P_spec_l2Has P_spec_l6Steps P_spec_l6Beside)) (conOK_of (X := X_spec_l11Painted N P_spec_l2Has P_spec_l6Steps P_spec_l6Beside) ⟨s_spec_l2Has, s_spec_l6Steps, s_spec_l6Beside, trivial⟩) (mconOK_of (X := X_spec_l11Painted N P_spec_l2Has P_spec_l6Steps P_spec_l6Beside) trivial) (by kernel_rfl) (by kernel_rfl) (by kernel_rfl) (by kernel_rfl) (by kernel_rfl) (of_decide_eq_true (by kernel_rfl))
noncomputable def l_spec_l11Painted_3 : Nat → Int → Int → Int → (List D_A3) → Int → Int → Int → (List D_A3) → Int → Int → Int → Int → Int → Int → Int → Int → Int → Int → Int → Int → Int → Int → Int → Int → Int → Int → Int → Int → Int → Int → Int → Option (denL R_spec_l11Painted) := hid (fun m0 p0 p1 p2 p3 p4 p5 p6 p7 p8 p9 p10 p11 p12 p13 p14 p15 p16 p17 p18 p19 p20 p21 p22 p23 p24 p25 p26 p27 p28 p29 p30 => L_spec_l11Painted_3 N P_spec_l2Has P_spec_l6Steps P_spec_l6Beside m0 p0 p1 p2 p3 p4 p5 p6 p7 p8 p9 p10 p11 p12 p13 p14 p15 p16 p17 p18 p19 p20 p21 p22 p23 p24 p25 p26 p27 p28 p29 p30)
theorem h_spec_l11Painted_3 : l_spec_l11Painted_3 = fun m0 p0 p1 p2 p3 p4 p5 p6 p7 p8 p9 p10 p11 p12 p13 p14 p15 p16 p17 p18 p19 p20 p21 p22 p23 p24 p25 p26 p27 p28 p29 p30 => L_spec_l11Painted_3 N P_spec_l2Has P_spec_l6Steps P_spec_l6Beside m0 p0 p1 p2 p3 p4 p5 p6 p7 p8 p9 p10 p11 p12 p13 p14 p15 p16 p17 p18 p19 p20 p21 p22 p23 p24 p25 p26 p27 p28 p29 p30 := hid_eq _
theorem p_spec_l11Painted (a0 a1 : D_Heap) (a2 : D_A3) : P_spec_l11Painted (a0, a1, a2, ()) = 
 Option.bind (P_spec_l6Steps (())) fun r0 =>
 l_spec_l11Painted_3 N a0.1 a0.2.1 a0.2.2.1 a0.2.2.2.1 a1.1 a1.2.1 a1.2.2.1 a1.2.2.2.1 a2.1 a2.2.1 a2.2.2.1 r0.1.1.1 r0.1.1.2.1 r0.1.1.2.2.1 r0.1.2.1.1 r0.1.2.1.2.1 r0.1.2.1.2.2.1 r0.1.2.2.1.1 r0.1.2.2.1.2.1 r0.1.2.2.1.2.2.1 r0.1.2.2.2.1.1 r0.1.2.2.2.1.2.1 r0.1.2.2.2.1.2.2.1 r0.1.2.2.2.2.1.1 r0.1.2.2.2.2.1.2.1 r0.1.2.2.2.2.1.2.2.1 r0.1.2.2.2.2.2.1.1 r0.1.2.2.2.2.2.1.2.1 r0.1.2.2.2.2.2.1.2.2.1 0 0 := by
 rewrite [h_spec_l11Painted, h_spec_l11Painted_3]
 exact e_spec_l11Painted N P_spec_l2Has P_spec_l6Steps P_spec_l6Beside a0 a1 a2
theorem q_spec_l11Painted_3 (m0 : Nat) (p0 p1 p2 : Int) (p3 : List D_A3) (p4 p5 p6 : Int) (p7 : List D_A3) (p8 p9 : Int) (p10 p11 : Int) (p12 p13 : Int) (p14 p15 : Int) (p16 p17 : Int) (p18 p19 : Int) (p20 p21 : Int) (p22 p23 : Int) (p24 p25 : Int) (p26 p27 : Int) (p28 p29 p30 : Int) : l_spec_l11Painted_3 (m0 + 1) p0 p1 p2 p3 p4 p5 p6 p7 p8 p9 p10 p11 p12 p13 p14 p15 p16 p17 p18 p19 p20 p21 p22 p23 p24 p25 p26 p27 p28 p29 p30 = 
 bif decide (p30 < 6) then
 bif inB p30 6 then
 Option.bind (P_spec_l6Beside ((p8, (p9, (p10, ()))), ((bif decide (p30 = (0 : Int)) then p11 else (bif decide (p30 = (1 : Int)) then p14 else (bif decide (p30 = (2 : Int)) then p17 else (bif decide (p30 = (3 : Int)) then p20 else (bif decide (p30 = (4 : Int)) then p23 else p26))))), ((bif decide (p30 = (0 : Int)) then p12 else (bif decide (p30 = (1 : Int)) then p15 else (bif decide (p30 = (2 : Int)) then p18 else (bif decide (p30 = (3 : Int)) then p21 else (bif decide (p30 = (4 : Int)) then p24 else p27))))), ((bif decide (p30 = (0 : Int)) then p13 else (bif decide (p30 = (1 : Int)) then p16 else (bif decide (p30 = (2 : Int)) then p19 else (bif decide (p30 = (3 : Int)) then p22 else (bif decide (p30 = (4 : Int)) then p25 else p28))))), ()))), ())) fun r2 =>
 Option.bind (P_spec_l2Has ((p0, (p1, (p2, (p3, ())))), r2.1, ())) fun r3 =>
 bif !r3.1 then
 Option.bind (P_spec_l2Has ((p4, (p5, (p6, (p7, ())))), r2.1, ())) fun r5 =>
 bif !r5.1 then
 l_spec_l11Painted_3 m0 p0 p1 p2 p3 p4 p5 p6 p7 p8 p9 p10 p11 p12 p13 p14 p15 p16 p17 p18 p19 p20 p21 p22 p23 p24 p25 p26 p27 p28 (IntKind.wrap .i64 (p29 + 1)) (IntKind.wrap .i64 (p30 + 1))
 else
 l_spec_l11Painted_3 m0 p0 p1 p2 p3 p4 p5 p6 p7 p8 p9 p10 p11 p12 p13 p14 p15 p16 p17 p18 p19 p20 p21 p22 p23 p24 p25 p26 p27 p28 p29 (IntKind.wrap .i64 (p30 + 1))
 else
 l_spec_l11Painted_3 m0 p0 p1 p2 p3 p4 p5 p6 p7 p8 p9 p10 p11 p12 p13 p14 p15 p16 p17 p18 p19 p20 p21 p22 p23 p24 p25 p26 p27 p28 p29 (IntKind.wrap .i64 (p30 + 1))
 else none
 else
 some (p29, ()) := by
 rewrite [h_spec_l11Painted_3]
 exact e_spec_l11Painted_3 N P_spec_l2Has P_spec_l6Steps P_spec_l6Beside m0 p0 p1 p2 p3 p4 p5 p6 p7 p8 p9 p10 p11 p12 p13 p14 p15 p16 p17 p18 p19 p20 p21 p22 p23 p24 p25 p26 p27 p28 p29 p30
end Go.VI
