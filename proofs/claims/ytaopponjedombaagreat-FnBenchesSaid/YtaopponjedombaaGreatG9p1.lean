/- What the functions of the seat compute, as printed by wip/tools. -/
import Derived.Test.YtaopponjedombaaGreatViGen
import Derived.Test.YtaopponjedombaaGreatProg
namespace Go.VI
open Go.Proofs
set_option maxRecDepth 100000
def n0 : Nat := 0
def GG : World → Prop := fun _ => True
theorem hstable : Stable n0 GG := stable_true
theorem hmix : Tryz.prog.follows .mixedOrders = true := by kernel_rfl
theorem hglob (X : Ctx) (h : X.globals = [] := by rfl) (A : Fix) (_ : A.P = Tryz.prog) (_ : A.G = GG) : GlobOK A X := globOK_none h A
abbrev T_l1Cur : Ty := (.pair (.sl (.int .u8)) (.pair (.int .i64) (.pair (.int .u64) .unit)))
abbrev D_l1Cur : Type := (List Int) × Int × Int × Unit
abbrev T_A2 : Ty := (.pair (.int .i64) (.pair (.int .i64) .unit))
abbrev D_A2 : Type := Int × Int × Unit
abbrev T_A3 : Ty := (.pair (.int .i64) (.pair (.int .i64) (.pair (.int .i64) .unit)))
abbrev D_A3 : Type := Int × Int × Int × Unit
abbrev T_Heap : Ty := (.pair (.int .i64) (.pair (.int .i64) (.pair (.int .i64) (.pair (.sl T_A3) .unit))))
abbrev D_Heap : Type := Int × Int × Int × (List D_A3) × Unit
abbrev T_Bench : Ty := (.pair T_Heap (.pair (.int .i64) (.pair (.int .i64) .unit)))
abbrev D_Bench : Type := D_Heap × Int × Int × Unit
abbrev T_Act : Ty := (.pair (.int .i64) (.pair T_A3 (.pair (.int .i64) (.pair (.int .i64) .unit))))
abbrev D_Act : Type := Int × D_A3 × D_A2
noncomputable def TT : List (TypeId × TI) := [(3, ⟨Tryz.t3.desc, (.int .i64), false, 8, [.int .i64 0]⟩),
 (4, ⟨Tryz.t4.desc, .bool, false, 1, [.bool false]⟩),
 (5, ⟨Tryz.t5.desc, (.int .u8), false, 1, [.int .u8 0]⟩),
 (22, ⟨Tryz.t22.desc, (.sl (.int .u8)), false, 24, [.nil 5 (.int .u8)]⟩),
 (24, ⟨Tryz.t24.desc, (.sl T_A3), false, 24, [.nil 38 T_A3]⟩),
 (26, ⟨Tryz.t25.desc, T_Heap, true, 48, [.int .i64 0, .int .i64 0, .int .i64 0, .nil 38 T_A3]⟩),
 (38, ⟨Tryz.t38.desc, T_A3, true, 24, [.int .i64 0, .int .i64 0, .int .i64 0]⟩),
 (51, ⟨Tryz.t50.desc, T_Bench, true, 64, [.int .i64 0, .int .i64 0, .int .i64 0, .nil 38 T_A3, .int .i64 0, .int .i64 0]⟩),
 (55, ⟨Tryz.t54.desc, T_Act, true, 48, [.int .i64 0, .int .i64 0, .int .i64 0, .int .i64 0, .int .i64 0, .int .i64 0]⟩),
 (60, ⟨Tryz.t60.desc, (.sl T_Act), false, 24, [.nil 55 T_Act]⟩),
 (68, ⟨Tryz.t68.desc, (.int .u64), false, 8, [.int .u64 0]⟩),
 (70, ⟨Tryz.t69.desc, T_l1Cur, true, 40, [.nil 5 (.int .u8), .int .i64 0, .int .u64 0]⟩),
 (73, ⟨Tryz.t73.desc, (.sl (.int .i64)), false, 24, [.nil 3 (.int .i64)]⟩),
 (76, ⟨Tryz.t38.desc, T_A3, true, 24, [.int .i64 0, .int .i64 0, .int .i64 0]⟩),
 (126, ⟨Tryz.t126.desc, T_A2, true, 16, [.int .i64 0, .int .i64 0]⟩),
 (143, ⟨Tryz.t143.desc, (.sl (.sl T_A3)), false, 24, [.nil 24 (.sl T_A3)]⟩)]
theorem ttOK : allP (fun q => tiB Tryz.prog q.1 q.2) TT :=
 ⟨⟨by kernel_rfl, by kernel_rfl, by kernel_rfl, by kernel_rfl, by kernel_rfl⟩, ⟨by kernel_rfl, by kernel_rfl, by kernel_rfl, by kernel_rfl, by kernel_rfl⟩, ⟨by kernel_rfl, by kernel_rfl, by kernel_rfl, by kernel_rfl, by kernel_rfl⟩, ⟨by kernel_rfl, by kernel_rfl, by kernel_rfl, by kernel_rfl, by kernel_rfl⟩, ⟨by kernel_rfl, by kernel_rfl, by kernel_rfl, by kernel_rfl, by kernel_rfl⟩, ⟨by kernel_rfl, by kernel_rfl, by kernel_rfl, by kernel_rfl, by kernel_rfl⟩, ⟨by kernel_rfl, by kernel_rfl, by kernel_rfl, by kernel_rfl, by kernel_rfl⟩, ⟨by kernel_rfl, by kernel_rfl, by kernel_rfl, by kernel_rfl, by kernel_rfl⟩, ⟨by kernel_rfl, by kernel_rfl, by kernel_rfl, by kernel_rfl, by kernel_rfl⟩, ⟨by kernel_rfl, by kernel_rfl, by kernel_rfl, by kernel_rfl, by kernel_rfl⟩, ⟨by kernel_rfl, by kernel_rfl, by kernel_rfl, by kernel_rfl, by kernel_rfl⟩, ⟨by kernel_rfl, by kernel_rfl, by kernel_rfl, by kernel_rfl, by kernel_rfl⟩, ⟨by kernel_rfl, by kernel_rfl, by kernel_rfl, by kernel_rfl, by kernel_rfl⟩, ⟨by kernel_rfl, by kernel_rfl, by kernel_rfl, by kernel_rfl, by kernel_rfl⟩, ⟨by kernel_rfl, by kernel_rfl, by kernel_rfl, by kernel_rfl, by kernel_rfl⟩, ⟨by kernel_rfl, by kernel_rfl, by kernel_rfl, by kernel_rfl, by kernel_rfl⟩, trivial⟩

abbrev As_laws_vBig : List ATy := [.data false (.sl (.int .u8))]
abbrev R_laws_vBig : List (Bool × Ty) := [(false, .bool)]
abbrev M_laws_vBig : List RMode := []
abbrev Ft_laws_vBig : Type := (List Int) × Unit → Option (Bool × Unit)
noncomputable def X_laws_vBig (n : Nat) : Ctx := { types := TT, globals := [], con := [], keep := [], results := [.tmp 2], ntmps := 6, n := n }
noncomputable def B_laws_vBig : Code := (Tryz.f30.body).getD .skip
theorem e_laws_vBig (n : Nat) (a0 : List Int) : runF (X_laws_vBig n) B_laws_vBig As_laws_vBig R_laws_vBig M_laws_vBig (a0, ()) = 
 some (decide ((List.length a0 : Int) > 65536), ()) := by kernel_rfl
noncomputable def P_laws_vBig : Ft_laws_vBig := hid (runF (X_laws_vBig N) B_laws_vBig As_laws_vBig R_laws_vBig M_laws_vBig)
theorem h_laws_vBig : P_laws_vBig = runF (X_laws_vBig N) B_laws_vBig As_laws_vBig R_laws_vBig M_laws_vBig := hid_eq _
noncomputable def C_laws_vBig : Contract := ⟨As_laws_vBig, R_laws_vBig, M_laws_vBig, P_laws_vBig⟩
theorem s_laws_vBig : Sound Tryz.prog GG 30 C_laws_vBig := by
 unfold C_laws_vBig; rw [h_laws_vBig]
 exact sound_of_run (fn := Tryz.f30) hmix hstable (tyOK_of ttOK) (hglob (X_laws_vBig N)) (conOK_of (X := X_laws_vBig N) trivial) (mconOK_of (X := X_laws_vBig N) trivial) (by kernel_rfl) (by kernel_rfl) (by kernel_rfl) (by kernel_rfl) (by kernel_rfl) (of_decide_eq_true (by kernel_rfl))
theorem p_laws_vBig (a0 : List Int) : P_laws_vBig (a0, ()) = 
 some (decide ((List.length a0 : Int) > 65536), ()) := by
 rewrite [h_laws_vBig]
 exact e_laws_vBig N a0

abbrev As_l1Cur_next : List ATy := [.lptr T_l1Cur]
abbrev R_l1Cur_next : List (Bool × Ty) := [(false, (.int .i64))]
abbrev M_l1Cur_next : List RMode := []
abbrev Ft_l1Cur_next : Type := D_l1Cur × Unit → Option ((Int × Unit) × (D_l1Cur × Unit))
noncomputable def X_l1Cur_next (n : Nat) : Ctx := { types := TT, globals := [], con := [], keep := [], results := [.tmp 2], ntmps := 62, n := n }
noncomputable def B_l1Cur_next : Code := (Tryz.f123.body).getD .skip
theorem e_l1Cur_next (n : Nat) (a0 : D_l1Cur) : runFM (X_l1Cur_next n) B_l1Cur_next As_l1Cur_next R_l1Cur_next M_l1Cur_next (a0, ()) = 
 bif decide (a0.2.1 < (List.length a0.1 : Int)) then
 bif inB a0.2.1 (List.length a0.1) then
 bif decide ((IntKind.wrap .i64 (a0.2.1 + 1)) ≤ (List.length a0.1 : Int)) then
 some (((IntKind.wrap .i64 (nth ((.int .u8) : Ty) a0.1 a0.2.1)), ()), ((a0.1, ((IntKind.wrap .i64 (a0.2.1 + 1)), ((IntKind.wrap .u64 ((IntKind.wrap .u64 ((IntKind.wrap .u64 (a0.2.2.1 * 6364136223846793005)) + (IntKind.wrap .u64 (IntKind.wrap .i64 (nth ((.int .u8) : Ty) a0.1 a0.2.1))))) + 462197)), ()))), ()))
 else
 some (((IntKind.wrap .i64 (intBits .and .u64 (shrI .u64 (IntKind.wrap .u64 ((IntKind.wrap .u64 ((IntKind.wrap .u64 (a0.2.2.1 * 6364136223846793005)) + (IntKind.wrap .u64 (IntKind.wrap .i64 (nth ((.int .u8) : Ty) a0.1 a0.2.1))))) + 462197)) 40) 255)), ()), ((a0.1, ((IntKind.wrap .i64 (a0.2.1 + 1)), ((IntKind.wrap .u64 ((IntKind.wrap .u64 ((IntKind.wrap .u64 (a0.2.2.1 * 6364136223846793005)) + (IntKind.wrap .u64 (IntKind.wrap .i64 (nth ((.int .u8) : Ty) a0.1 a0.2.1))))) + 462197)), ()))), ()))
 else none
 else
 bif decide ((IntKind.wrap .i64 (a0.2.1 + 1)) ≤ (List.length a0.1 : Int)) then
 some ((0, ()), ((a0.1, ((IntKind.wrap .i64 (a0.2.1 + 1)), ((IntKind.wrap .u64 ((IntKind.wrap .u64 ((IntKind.wrap .u64 (a0.2.2.1 * 6364136223846793005)) + 0)) + 462197)), ()))), ()))
 else
 some (((IntKind.wrap .i64 (intBits .and .u64 (shrI .u64 (IntKind.wrap .u64 ((IntKind.wrap .u64 ((IntKind.wrap .u64 (a0.2.2.1 * 6364136223846793005)) + 0)) + 462197)) 40) 255)), ()), ((a0.1, ((IntKind.wrap .i64 (a0.2.1 + 1)), ((IntKind.wrap .u64 ((IntKind.wrap .u64 ((IntKind.wrap .u64 (a0.2.2.1 * 6364136223846793005)) + 0)) + 462197)), ()))), ())) := by kernel_rfl
noncomputable def P_l1Cur_next : Ft_l1Cur_next := hid (runFM (X_l1Cur_next N) B_l1Cur_next As_l1Cur_next R_l1Cur_next M_l1Cur_next)
theorem h_l1Cur_next : P_l1Cur_next = runFM (X_l1Cur_next N) B_l1Cur_next As_l1Cur_next R_l1Cur_next M_l1Cur_next := hid_eq _
noncomputable def C_l1Cur_next : MContract := ⟨As_l1Cur_next, R_l1Cur_next, M_l1Cur_next, P_l1Cur_next⟩
theorem s_l1Cur_next : SoundM Tryz.prog n0 GG 123 C_l1Cur_next := by
 unfold C_l1Cur_next; rw [h_l1Cur_next]
 exact sound_of_runM (fn := Tryz.f123) hmix hstable (tyOK_of ttOK) (hglob (X_l1Cur_next N)) (conOK_of (X := X_l1Cur_next N) trivial) (mconOK_of (X := X_l1Cur_next N) trivial) (by kernel_rfl) (by kernel_rfl) (by kernel_rfl) (by kernel_rfl) (by kernel_rfl) (of_decide_eq_true (by kernel_rfl)) (by kernel_rfl) (by rfl)
theorem p_l1Cur_next (a0 : D_l1Cur) : P_l1Cur_next (a0, ()) = 
 bif decide (a0.2.1 < (List.length a0.1 : Int)) then
 bif inB a0.2.1 (List.length a0.1) then
 bif decide ((IntKind.wrap .i64 (a0.2.1 + 1)) ≤ (List.length a0.1 : Int)) then
 some (((IntKind.wrap .i64 (nth ((.int .u8) : Ty) a0.1 a0.2.1)), ()), ((a0.1, ((IntKind.wrap .i64 (a0.2.1 + 1)), ((IntKind.wrap .u64 ((IntKind.wrap .u64 ((IntKind.wrap .u64 (a0.2.2.1 * 6364136223846793005)) + (IntKind.wrap .u64 (IntKind.wrap .i64 (nth ((.int .u8) : Ty) a0.1 a0.2.1))))) + 462197)), ()))), ()))
 else
 some (((IntKind.wrap .i64 (intBits .and .u64 (shrI .u64 (IntKind.wrap .u64 ((IntKind.wrap .u64 ((IntKind.wrap .u64 (a0.2.2.1 * 6364136223846793005)) + (IntKind.wrap .u64 (IntKind.wrap .i64 (nth ((.int .u8) : Ty) a0.1 a0.2.1))))) + 462197)) 40) 255)), ()), ((a0.1, ((IntKind.wrap .i64 (a0.2.1 + 1)), ((IntKind.wrap .u64 ((IntKind.wrap .u64 ((IntKind.wrap .u64 (a0.2.2.1 * 6364136223846793005)) + (IntKind.wrap .u64 (IntKind.wrap .i64 (nth ((.int .u8) : Ty) a0.1 a0.2.1))))) + 462197)), ()))), ()))
 else none
 else
 bif decide ((IntKind.wrap .i64 (a0.2.1 + 1)) ≤ (List.length a0.1 : Int)) then
 some ((0, ()), ((a0.1, ((IntKind.wrap .i64 (a0.2.1 + 1)), ((IntKind.wrap .u64 ((IntKind.wrap .u64 ((IntKind.wrap .u64 (a0.2.2.1 * 6364136223846793005)) + 0)) + 462197)), ()))), ()))
 else
 some (((IntKind.wrap .i64 (intBits .and .u64 (shrI .u64 (IntKind.wrap .u64 ((IntKind.wrap .u64 ((IntKind.wrap .u64 (a0.2.2.1 * 6364136223846793005)) + 0)) + 462197)) 40) 255)), ()), ((a0.1, ((IntKind.wrap .i64 (a0.2.1 + 1)), ((IntKind.wrap .u64 ((IntKind.wrap .u64 ((IntKind.wrap .u64 (a0.2.2.1 * 6364136223846793005)) + 0)) + 462197)), ()))), ())) := by
 rewrite [h_l1Cur_next]
 exact e_l1Cur_next N a0

abbrev As_l1Cur_pick : List ATy := [.lptr T_l1Cur, .data false (.int .i64)]
abbrev R_l1Cur_pick : List (Bool × Ty) := [(false, (.int .i64))]
abbrev M_l1Cur_pick : List RMode := []
abbrev Ft_l1Cur_pick : Type := D_l1Cur × Int × Unit → Option ((Int × Unit) × (D_l1Cur × Unit))
noncomputable def X_l1Cur_pick (n : Nat) (F_l1Cur_next : Ft_l1Cur_next) : Ctx := { types := TT, globals := [], con := [], mcon := [(123, ⟨As_l1Cur_next, R_l1Cur_next, M_l1Cur_next, F_l1Cur_next⟩)], keep := [], results := [.tmp 4], ntmps := 20, n := n }
noncomputable def B_l1Cur_pick : Code := (Tryz.f85.body).getD .skip
theorem e_l1Cur_pick (n : Nat) (F_l1Cur_next : Ft_l1Cur_next) (a0 : D_l1Cur) (a1 : Int) : runFM (X_l1Cur_pick n F_l1Cur_next) B_l1Cur_pick As_l1Cur_pick R_l1Cur_pick M_l1Cur_pick (a0, a1, ()) = 
 bif decide (a1 ≤ 1) then
 some ((0, ()), (a0, ()))
 else
 Option.bind (F_l1Cur_next (a0, ())) fun r1 =>
 bif decide (a1 > 200) then
 Option.bind (F_l1Cur_next ((a0.1, r1.2.1.2), ())) fun r3 =>
 bif !decide (a1 = 0) then
 some (((Int.tmod (IntKind.wrap .i64 ((IntKind.wrap .i64 (r1.1.1 * 256)) + r3.1.1)) a1), ()), ((a0.1, r3.2.1.2), ()))
 else none
 else
 bif !decide (a1 = 0) then
 some (((Int.tmod r1.1.1 a1), ()), ((a0.1, r1.2.1.2), ()))
 else none := by kernel_rfl
noncomputable def P_l1Cur_pick : Ft_l1Cur_pick := hid (runFM (X_l1Cur_pick N P_l1Cur_next) B_l1Cur_pick As_l1Cur_pick R_l1Cur_pick M_l1Cur_pick)
theorem h_l1Cur_pick : P_l1Cur_pick = runFM (X_l1Cur_pick N P_l1Cur_next) B_l1Cur_pick As_l1Cur_pick R_l1Cur_pick M_l1Cur_pick := hid_eq _
noncomputable def C_l1Cur_pick : MContract := ⟨As_l1Cur_pick, R_l1Cur_pick, M_l1Cur_pick, P_l1Cur_pick⟩
theorem s_l1Cur_pick : SoundM Tryz.prog n0 GG 85 C_l1Cur_pick := by
 unfold C_l1Cur_pick; rw [h_l1Cur_pick]
 exact sound_of_runM (fn := Tryz.f85) hmix hstable (tyOK_of ttOK) (hglob (X_l1Cur_pick N P_l1Cur_next)) (conOK_of (X := X_l1Cur_pick N P_l1Cur_next) trivial) (mconOK_of (X := X_l1Cur_pick N P_l1Cur_next) ⟨s_l1Cur_next, trivial⟩) (by kernel_rfl) (by kernel_rfl) (by kernel_rfl) (by kernel_rfl) (by kernel_rfl) (of_decide_eq_true (by kernel_rfl)) (by kernel_rfl) (by rfl)
theorem p_l1Cur_pick (a0 : D_l1Cur) (a1 : Int) : P_l1Cur_pick (a0, a1, ()) = 
 bif decide (a1 ≤ 1) then
 some ((0, ()), (a0, ()))
 else
 Option.bind (P_l1Cur_next (a0, ())) fun r1 =>
 bif decide (a1 > 200) then
 Option.bind (P_l1Cur_next ((a0.1, r1.2.1.2), ())) fun r3 =>
 bif !decide (a1 = 0) then
 some (((Int.tmod (IntKind.wrap .i64 ((IntKind.wrap .i64 (r1.1.1 * 256)) + r3.1.1)) a1), ()), ((a0.1, r3.2.1.2), ()))
 else none
 else
 bif !decide (a1 = 0) then
 some (((Int.tmod r1.1.1 a1), ()), ((a0.1, r1.2.1.2), ()))
 else none := by
 rewrite [h_l1Cur_pick]
 exact e_l1Cur_pick N P_l1Cur_next a0 a1

abbrev As_l1Cur_among : List ATy := [.lptr T_l1Cur, .data false (.sl (.int .i64))]
abbrev R_l1Cur_among : List (Bool × Ty) := [(false, (.int .i64))]
abbrev M_l1Cur_among : List RMode := []
abbrev Ft_l1Cur_among : Type := D_l1Cur × (List Int) × Unit → Option ((Int × Unit) × (D_l1Cur × Unit))
noncomputable def X_l1Cur_among (n : Nat) (F_l1Cur_pick : Ft_l1Cur_pick) : Ctx := { types := TT, globals := [], con := [], mcon := [(85, ⟨As_l1Cur_pick, R_l1Cur_pick, M_l1Cur_pick, F_l1Cur_pick⟩)], keep := [], results := [.tmp 4], ntmps := 12, n := n }
noncomputable def B_l1Cur_among : Code := (Tryz.f88.body).getD .skip
theorem e_l1Cur_among (n : Nat) (F_l1Cur_pick : Ft_l1Cur_pick) (a0 : D_l1Cur) (a1 : List Int) : runFM (X_l1Cur_among n F_l1Cur_pick) B_l1Cur_among As_l1Cur_among R_l1Cur_among M_l1Cur_among (a0, a1, ()) = 
 Option.bind (F_l1Cur_pick (a0, (List.length a1 : Int), ())) fun r0 =>
 bif inB r0.1.1 (List.length a1) then
 some (((nth ((.int .i64) : Ty) a1 r0.1.1), ()), ((a0.1, r0.2.1.2), ()))
 else none := by kernel_rfl
noncomputable def P_l1Cur_among : Ft_l1Cur_among := hid (runFM (X_l1Cur_among N P_l1Cur_pick) B_l1Cur_among As_l1Cur_among R_l1Cur_among M_l1Cur_among)
theorem h_l1Cur_among : P_l1Cur_among = runFM (X_l1Cur_among N P_l1Cur_pick) B_l1Cur_among As_l1Cur_among R_l1Cur_among M_l1Cur_among := hid_eq _
noncomputable def C_l1Cur_among : MContract := ⟨As_l1Cur_among, R_l1Cur_among, M_l1Cur_among, P_l1Cur_among⟩
theorem s_l1Cur_among : SoundM Tryz.prog n0 GG 88 C_l1Cur_among := by
 unfold C_l1Cur_among; rw [h_l1Cur_among]
 exact sound_of_runM (fn := Tryz.f88) hmix hstable (tyOK_of ttOK) (hglob (X_l1Cur_among N P_l1Cur_pick)) (conOK_of (X := X_l1Cur_among N P_l1Cur_pick) trivial) (mconOK_of (X := X_l1Cur_among N P_l1Cur_pick) ⟨s_l1Cur_pick, trivial⟩) (by kernel_rfl) (by kernel_rfl) (by kernel_rfl) (by kernel_rfl) (by kernel_rfl) (of_decide_eq_true (by kernel_rfl)) (by kernel_rfl) (by rfl)
theorem p_l1Cur_among (a0 : D_l1Cur) (a1 : List Int) : P_l1Cur_among (a0, a1, ()) = 
 Option.bind (P_l1Cur_pick (a0, (List.length a1 : Int), ())) fun r0 =>
 bif inB r0.1.1 (List.length a1) then
 some (((nth ((.int .i64) : Ty) a1 r0.1.1), ()), ((a0.1, r0.2.1.2), ()))
 else none := by
 rewrite [h_l1Cur_among]
 exact e_l1Cur_among N P_l1Cur_pick a0 a1

abbrev As_l1Cur_sides : List ATy := [.lptr T_l1Cur]
abbrev R_l1Cur_sides : List (Bool × Ty) := [(false, (.int .i64)), (false, (.int .i64)), (false, (.int .i64))]
abbrev M_l1Cur_sides : List RMode := []
abbrev Ft_l1Cur_sides : Type := D_l1Cur × Unit → Option ((Int × Int × Int × Unit) × (D_l1Cur × Unit))
noncomputable def X_l1Cur_sides (n : Nat) (F_l1Cur_pick : Ft_l1Cur_pick) (F_l1Cur_among : Ft_l1Cur_among) : Ctx := { types := TT, globals := [], con := [], mcon := [(85, ⟨As_l1Cur_pick, R_l1Cur_pick, M_l1Cur_pick, F_l1Cur_pick⟩), (88, ⟨As_l1Cur_among, R_l1Cur_among, M_l1Cur_among, F_l1Cur_among⟩)], keep := [], results := [.tmp 2, .tmp 3, .tmp 4], ntmps := 37, n := n }
noncomputable def B_l1Cur_sides : Code := (Tryz.f100.body).getD .skip
theorem e_l1Cur_sides (n : Nat) (F_l1Cur_pick : Ft_l1Cur_pick) (F_l1Cur_among : Ft_l1Cur_among) (a0 : D_l1Cur) : runFM (X_l1Cur_sides n F_l1Cur_pick F_l1Cur_among) B_l1Cur_sides As_l1Cur_sides R_l1Cur_sides M_l1Cur_sides (a0, ()) = 
 Option.bind (F_l1Cur_among (a0, ([2, 3, 3, 1, 4] : List Int), ())) fun r0 =>
 Option.bind (F_l1Cur_among ((a0.1, r0.2.1.2), ([2, 3, 2, 1, 4] : List Int), ())) fun r1 =>
 Option.bind (F_l1Cur_among ((a0.1, r1.2.1.2), ([2, 3, 3, 1, 4] : List Int), ())) fun r2 =>
 Option.bind (F_l1Cur_pick ((a0.1, r2.2.1.2), 60, ())) fun r3 =>
 bif decide (r3.1.1 = 0) then
 Option.bind (F_l1Cur_among ((a0.1, r3.2.1.2), ([0, 5, (-1), 4611686018427387904] : List Int), ())) fun r5 =>
 some ((r5.1.1, r1.1.1, r2.1.1, ()), ((a0.1, r5.2.1.2), ()))
 else
 bif decide (r3.1.1 = 1) then
 Option.bind (F_l1Cur_among ((a0.1, r3.2.1.2), ([0, 5, (-1)] : List Int), ())) fun r6 =>
 some ((r0.1.1, r6.1.1, r2.1.1, ()), ((a0.1, r6.2.1.2), ()))
 else
 bif decide (r3.1.1 = 2) then
 Option.bind (F_l1Cur_among ((a0.1, r3.2.1.2), ([0, 5, (-1)] : List Int), ())) fun r7 =>
 some ((r0.1.1, r1.1.1, r7.1.1, ()), ((a0.1, r7.2.1.2), ()))
 else
 some ((r0.1.1, r1.1.1, r2.1.1, ()), ((a0.1, r3.2.1.2), ())) := by kernel_rfl
noncomputable def P_l1Cur_sides : Ft_l1Cur_sides := hid (runFM (X_l1Cur_sides N P_l1Cur_pick P_l1Cur_among) B_l1Cur_sides As_l1Cur_sides R_l1Cur_sides M_l1Cur_sides)
theorem h_l1Cur_sides : P_l1Cur_sides = runFM (X_l1Cur_sides N P_l1Cur_pick P_l1Cur_among) B_l1Cur_sides As_l1Cur_sides R_l1Cur_sides M_l1Cur_sides := hid_eq _
noncomputable def C_l1Cur_sides : MContract := ⟨As_l1Cur_sides, R_l1Cur_sides, M_l1Cur_sides, P_l1Cur_sides⟩
theorem s_l1Cur_sides : SoundM Tryz.prog n0 GG 100 C_l1Cur_sides := by
 unfold C_l1Cur_sides; rw [h_l1Cur_sides]
 exact sound_of_runM (fn := Tryz.f100) hmix hstable (tyOK_of ttOK) (hglob (X_l1Cur_sides N P_l1Cur_pick P_l1Cur_among)) (conOK_of (X := X_l1Cur_sides N P_l1Cur_pick P_l1Cur_among) trivial) (mconOK_of (X := X_l1Cur_sides N P_l1Cur_pick P_l1Cur_among) ⟨s_l1Cur_pick, s_l1Cur_among, trivial⟩) (by kernel_rfl) (by kernel_rfl) (by kernel_rfl) (by kernel_rfl) (by kernel_rfl) (of_decide_eq_true (by kernel_rfl)) (by kernel_rfl) (by rfl)
theorem p_l1Cur_sides (a0 : D_l1Cur) : P_l1Cur_sides (a0, ()) = 
 Option.bind (P_l1Cur_among (a0, ([2, 3, 3, 1, 4] : List Int), ())) fun r0 =>
 Option.bind (P_l1Cur_among ((a0.1, r0.2.1.2), ([2, 3, 2, 1, 4] : List Int), ())) fun r1 =>
 Option.bind (P_l1Cur_among ((a0.1, r1.2.1.2), ([2, 3, 3, 1, 4] : List Int), ())) fun r2 =>
 Option.bind (P_l1Cur_pick ((a0.1, r2.2.1.2), 60, ())) fun r3 =>
 bif decide (r3.1.1 = 0) then
 Option.bind (P_l1Cur_among ((a0.1, r3.2.1.2), ([0, 5, (-1), 4611686018427387904] : List Int), ())) fun r5 =>
 some ((r5.1.1, r1.1.1, r2.1.1, ()), ((a0.1, r5.2.1.2), ()))
 else
 bif decide (r3.1.1 = 1) then
 Option.bind (P_l1Cur_among ((a0.1, r3.2.1.2), ([0, 5, (-1)] : List Int), ())) fun r6 =>
 some ((r0.1.1, r6.1.1, r2.1.1, ()), ((a0.1, r6.2.1.2), ()))
 else
 bif decide (r3.1.1 = 2) then
 Option.bind (P_l1Cur_among ((a0.1, r3.2.1.2), ([0, 5, (-1)] : List Int), ())) fun r7 =>
 some ((r0.1.1, r1.1.1, r7.1.1, ()), ((a0.1, r7.2.1.2), ()))
 else
 some ((r0.1.1, r1.1.1, r2.1.1, ()), ((a0.1, r3.2.1.2), ())) := by
 rewrite [h_l1Cur_sides]
 exact e_l1Cur_sides N P_l1Cur_pick P_l1Cur_among a0

abbrev As_l1Cur_one : List ATy := [.lptr T_l1Cur, .data false (.int .i64)]
abbrev R_l1Cur_one : List (Bool × Ty) := [(false, .bool)]
abbrev M_l1Cur_one : List RMode := []
abbrev Ft_l1Cur_one : Type := D_l1Cur × Int × Unit → Option ((Bool × Unit) × (D_l1Cur × Unit))
noncomputable def X_l1Cur_one (n : Nat) (F_l1Cur_pick : Ft_l1Cur_pick) : Ctx := { types := TT, globals := [], con := [], mcon := [(85, ⟨As_l1Cur_pick, R_l1Cur_pick, M_l1Cur_pick, F_l1Cur_pick⟩)], keep := [], results := [.tmp 4], ntmps := 9, n := n }
noncomputable def B_l1Cur_one : Code := (Tryz.f46.body).getD .skip
theorem e_l1Cur_one (n : Nat) (F_l1Cur_pick : Ft_l1Cur_pick) (a0 : D_l1Cur) (a1 : Int) : runFM (X_l1Cur_one n F_l1Cur_pick) B_l1Cur_one As_l1Cur_one R_l1Cur_one M_l1Cur_one (a0, a1, ()) = 
 Option.bind (F_l1Cur_pick (a0, a1, ())) fun r0 =>
 some ((decide (r0.1.1 = 0), ()), ((a0.1, r0.2.1.2), ())) := by kernel_rfl
noncomputable def P_l1Cur_one : Ft_l1Cur_one := hid (runFM (X_l1Cur_one N P_l1Cur_pick) B_l1Cur_one As_l1Cur_one R_l1Cur_one M_l1Cur_one)
theorem h_l1Cur_one : P_l1Cur_one = runFM (X_l1Cur_one N P_l1Cur_pick) B_l1Cur_one As_l1Cur_one R_l1Cur_one M_l1Cur_one := hid_eq _
noncomputable def C_l1Cur_one : MContract := ⟨As_l1Cur_one, R_l1Cur_one, M_l1Cur_one, P_l1Cur_one⟩
theorem s_l1Cur_one : SoundM Tryz.prog n0 GG 46 C_l1Cur_one := by
 unfold C_l1Cur_one; rw [h_l1Cur_one]
 exact sound_of_runM (fn := Tryz.f46) hmix hstable (tyOK_of ttOK) (hglob (X_l1Cur_one N P_l1Cur_pick)) (conOK_of (X := X_l1Cur_one N P_l1Cur_pick) trivial) (mconOK_of (X := X_l1Cur_one N P_l1Cur_pick) ⟨s_l1Cur_pick, trivial⟩) (by kernel_rfl) (by kernel_rfl) (by kernel_rfl) (by kernel_rfl) (by kernel_rfl) (of_decide_eq_true (by kernel_rfl)) (by kernel_rfl) (by rfl)
theorem p_l1Cur_one (a0 : D_l1Cur) (a1 : Int) : P_l1Cur_one (a0, a1, ()) = 
 Option.bind (P_l1Cur_pick (a0, a1, ())) fun r0 =>
 some ((decide (r0.1.1 = 0), ()), ((a0.1, r0.2.1.2), ())) := by
 rewrite [h_l1Cur_one]
 exact e_l1Cur_one N P_l1Cur_pick a0 a1

abbrev As_spec_l1In : List ATy := [.data false (.int .i64), .data false (.int .i64), .data false (.int .i64)]
abbrev R_spec_l1In : List (Bool × Ty) := [(false, .bool)]
abbrev M_spec_l1In : List RMode := []
abbrev Ft_spec_l1In : Type := Int × Int × Int × Unit → Option (Bool × Unit)
noncomputable def X_spec_l1In (n : Nat) : Ctx := { types := TT, globals := [], con := [], keep := [], results := [.tmp 6], ntmps := 15, n := n }
noncomputable def B_spec_l1In : Code := (Tryz.f102.body).getD .skip
theorem e_spec_l1In (n : Nat) (a0 a1 a2 : Int) : runF (X_spec_l1In n) B_spec_l1In As_spec_l1In R_spec_l1In M_spec_l1In (a0, a1, a2, ()) = 
 bif decide (a0 ≥ a1) then
 some (decide (a0 ≤ a2), ())
 else
 some (false, ()) := by kernel_rfl
noncomputable def P_spec_l1In : Ft_spec_l1In := hid (runF (X_spec_l1In N) B_spec_l1In As_spec_l1In R_spec_l1In M_spec_l1In)
theorem h_spec_l1In : P_spec_l1In = runF (X_spec_l1In N) B_spec_l1In As_spec_l1In R_spec_l1In M_spec_l1In := hid_eq _
noncomputable def C_spec_l1In : Contract := ⟨As_spec_l1In, R_spec_l1In, M_spec_l1In, P_spec_l1In⟩
theorem s_spec_l1In : Sound Tryz.prog GG 102 C_spec_l1In := by
 unfold C_spec_l1In; rw [h_spec_l1In]
 exact sound_of_run (fn := Tryz.f102) hmix hstable (tyOK_of ttOK) (hglob (X_spec_l1In N)) (conOK_of (X := X_spec_l1In N) trivial) (mconOK_of (X := X_spec_l1In N) trivial) (by kernel_rfl) (by kernel_rfl) (by kernel_rfl) (by kernel_rfl) (by kernel_rfl) (of_decide_eq_true (by kernel_rfl))
theorem p_spec_l1In (a0 a1 a2 : Int) : P_spec_l1In (a0, a1, a2, ()) = 
 bif decide (a0 ≥ a1) then
 some (decide (a0 ≤ a2), ())
 else
 some (false, ()) := by
 rewrite [h_spec_l1In]
 exact e_spec_l1In N a0 a1 a2

abbrev As_spec_l2Sides : List ATy := [.data false (.int .i64), .data false (.int .i64), .data false (.int .i64)]
abbrev R_spec_l2Sides : List (Bool × Ty) := [(false, .bool)]
abbrev M_spec_l2Sides : List RMode := []
abbrev Ft_spec_l2Sides : Type := Int × Int × Int × Unit → Option (Bool × Unit)
noncomputable def X_spec_l2Sides (n : Nat) (F_spec_l1In : Ft_spec_l1In) : Ctx := { types := TT, globals := [], con := [(102, ⟨As_spec_l1In, R_spec_l1In, M_spec_l1In, F_spec_l1In⟩)], keep := [], results := [.tmp 6], ntmps := 17, n := n }
noncomputable def B_spec_l2Sides : Code := (Tryz.f67.body).getD .skip
theorem e_spec_l2Sides (n : Nat) (F_spec_l1In : Ft_spec_l1In) (a0 a1 a2 : Int) : runF (X_spec_l2Sides n F_spec_l1In) B_spec_l2Sides As_spec_l2Sides R_spec_l2Sides M_spec_l2Sides (a0, a1, a2, ()) = 
 Option.bind (F_spec_l1In (a0, 1, 4, ())) fun r0 =>
 bif r0.1 then
 Option.bind (F_spec_l1In (a1, 1, 4, ())) fun r2 =>
 bif r2.1 then
 Option.bind (F_spec_l1In (a2, 1, 4, ())) fun r4 =>
 some (r4.1, ())
 else
 some (false, ())
 else
 some (false, ()) := by kernel_rfl
noncomputable def P_spec_l2Sides : Ft_spec_l2Sides := hid (runF (X_spec_l2Sides N P_spec_l1In) B_spec_l2Sides As_spec_l2Sides R_spec_l2Sides M_spec_l2Sides)
theorem h_spec_l2Sides : P_spec_l2Sides = runF (X_spec_l2Sides N P_spec_l1In) B_spec_l2Sides As_spec_l2Sides R_spec_l2Sides M_spec_l2Sides := hid_eq _
noncomputable def C_spec_l2Sides : Contract := ⟨As_spec_l2Sides, R_spec_l2Sides, M_spec_l2Sides, P_spec_l2Sides⟩
theorem s_spec_l2Sides : Sound Tryz.prog GG 67 C_spec_l2Sides := by
 unfold C_spec_l2Sides; rw [h_spec_l2Sides]
 exact sound_of_run (fn := Tryz.f67) hmix hstable (tyOK_of ttOK) (hglob (X_spec_l2Sides N P_spec_l1In)) (conOK_of (X := X_spec_l2Sides N P_spec_l1In) ⟨s_spec_l1In, trivial⟩) (mconOK_of (X := X_spec_l2Sides N P_spec_l1In) trivial) (by kernel_rfl) (by kernel_rfl) (by kernel_rfl) (by kernel_rfl) (by kernel_rfl) (of_decide_eq_true (by kernel_rfl))
theorem p_spec_l2Sides (a0 a1 a2 : Int) : P_spec_l2Sides (a0, a1, a2, ()) = 
 Option.bind (P_spec_l1In (a0, 1, 4, ())) fun r0 =>
 bif r0.1 then
 Option.bind (P_spec_l1In (a1, 1, 4, ())) fun r2 =>
 bif r2.1 then
 Option.bind (P_spec_l1In (a2, 1, 4, ())) fun r4 =>
 some (r4.1, ())
 else
 some (false, ())
 else
 some (false, ()) := by
 rewrite [h_spec_l2Sides]
 exact e_spec_l2Sides N P_spec_l1In a0 a1 a2

abbrev As_spec_l2Empty : List ATy := [.data false (.int .i64), .data false (.int .i64), .data false (.int .i64)]
abbrev R_spec_l2Empty : List (Bool × Ty) := [(true, T_Heap)]
abbrev M_spec_l2Empty : List RMode := [.own 38]
abbrev Ft_spec_l2Empty : Type := Int × Int × Int × Unit → Option (D_Heap × Unit)
noncomputable def X_spec_l2Empty (n : Nat) : Ctx := { types := TT, globals := [], con := [], keep := [], results := [.cell 6 26], ntmps := 12, n := n }
noncomputable def B_spec_l2Empty : Code := (Tryz.f94.body).getD .skip
theorem e_spec_l2Empty (n : Nat) (a0 a1 a2 : Int) : runF (X_spec_l2Empty n) B_spec_l2Empty As_spec_l2Empty R_spec_l2Empty M_spec_l2Empty (a0, a1, a2, ()) = 
 some ((a0, (a1, (a2, (([] : List D_A3), ())))), ()) := by kernel_rfl
noncomputable def P_spec_l2Empty : Ft_spec_l2Empty := hid (runF (X_spec_l2Empty N) B_spec_l2Empty As_spec_l2Empty R_spec_l2Empty M_spec_l2Empty)
theorem h_spec_l2Empty : P_spec_l2Empty = runF (X_spec_l2Empty N) B_spec_l2Empty As_spec_l2Empty R_spec_l2Empty M_spec_l2Empty := hid_eq _
noncomputable def C_spec_l2Empty : Contract := ⟨As_spec_l2Empty, R_spec_l2Empty, M_spec_l2Empty, P_spec_l2Empty⟩
theorem s_spec_l2Empty : Sound Tryz.prog GG 94 C_spec_l2Empty := by
 unfold C_spec_l2Empty; rw [h_spec_l2Empty]
 exact sound_of_run (fn := Tryz.f94) hmix hstable (tyOK_of ttOK) (hglob (X_spec_l2Empty N)) (conOK_of (X := X_spec_l2Empty N) trivial) (mconOK_of (X := X_spec_l2Empty N) trivial) (by kernel_rfl) (by kernel_rfl) (by kernel_rfl) (by kernel_rfl) (by kernel_rfl) (of_decide_eq_true (by kernel_rfl))
theorem p_spec_l2Empty (a0 a1 a2 : Int) : P_spec_l2Empty (a0, a1, a2, ()) = 
 some ((a0, (a1, (a2, (([] : List D_A3), ())))), ()) := by
 rewrite [h_spec_l2Empty]
 exact e_spec_l2Empty N a0 a1 a2

abbrev As_spec_l2All : List ATy := [.data true T_Heap]
abbrev R_spec_l2All : List (Bool × Ty) := [(false, (.sl T_A3))]
abbrev M_spec_l2All : List RMode := [.own 38]
abbrev Ft_spec_l2All : Type := D_Heap × Unit → Option ((List D_A3) × Unit)
noncomputable def X_spec_l2All (n : Nat) : Ctx := { types := TT, globals := [], con := [], keep := [(3, ⟨[.box 1, .tmp 1, .tmp 3, .tmp 4], []⟩), (6, ⟨[.box 1, .tmp 1, .tmp 3, .tmp 4, .tmp 5], []⟩), (9, ⟨[.box 1, .tmp 1, .tmp 3, .tmp 4, .tmp 5, .tmp 6], []⟩)], results := [.tmp 2], ntmps := 34, n := n }
noncomputable def B_spec_l2All : Code := (Tryz.f103.body).getD .skip
noncomputable def L_spec_l2All_3 (n m0 : Nat) (p0 p1 p2 : Int) (p3 p4 : List D_A3) (p5 : Int) : Option (denL R_spec_l2All) := loopF (X_spec_l2All n) B_spec_l2All R_spec_l2All M_spec_l2All 3 [m0] [(.ver, .num 1), (.box 1, .box 0 false [.int .i64 p0, .int .i64 p1, .int .i64 p2, .imm T_A3 p3 (some 3)]), (.tmp 1, .val false [.addr 1 0 0]), (.tmp 3, .val false [.own 38 T_A3 0 p4]), (.tmp 4, .val false [.int .i64 p5])]
noncomputable def L_spec_l2All_6 (n : Nat) (m0 m1 : Nat) (p0 p1 p2 : Int) (p3 p4 : List D_A3) (p5 p6 : Int) : Option (denL R_spec_l2All) := loopF (X_spec_l2All n) B_spec_l2All R_spec_l2All M_spec_l2All 6 [m0, m1] [(.ver, .num 1), (.box 1, .box 0 false [.int .i64 p0, .int .i64 p1, .int .i64 p2, .imm T_A3 p3 (some 3)]), (.tmp 1, .val false [.addr 1 0 0]), (.tmp 3, .val false [.own 38 T_A3 0 p4]), (.tmp 4, .val false [.int .i64 p5]), (.tmp 5, .val false [.int .i64 p6])]
noncomputable def L_spec_l2All_9 (n : Nat) (m0 m1 m2 : Nat) (p0 p1 p2 : Int) (p3 p4 : List D_A3) (p5 p6 p7 : Int) : Option (denL R_spec_l2All) := loopF (X_spec_l2All n) B_spec_l2All R_spec_l2All M_spec_l2All 9 [m0, m1, m2] [(.ver, .num 1), (.box 1, .box 0 false [.int .i64 p0, .int .i64 p1, .int .i64 p2, .imm T_A3 p3 (some 3)]), (.tmp 1, .val false [.addr 1 0 0]), (.tmp 3, .val false [.own 38 T_A3 0 p4]), (.tmp 4, .val false [.int .i64 p5]), (.tmp 5, .val false [.int .i64 p6]), (.tmp 6, .val false [.int .i64 p7])]
theorem e_spec_l2All (n : Nat) (a0 : D_Heap) : runF (X_spec_l2All n) B_spec_l2All As_spec_l2All R_spec_l2All M_spec_l2All (a0, ()) = 
 L_spec_l2All_3 n n a0.1 a0.2.1 a0.2.2.1 a0.2.2.2.1 ([] : List D_A3) 0 := by kernel_rfl
theorem e_spec_l2All_3 (n m0 : Nat) (p0 p1 p2 : Int) (p3 p4 : List D_A3) (p5 : Int) : L_spec_l2All_3 n (m0 + 1) p0 p1 p2 p3 p4 p5 = 
 bif decide (p5 < p0) then
 L_spec_l2All_6 n m0 n p0 p1 p2 p3 p4 p5 0
 else
 some (p4, ()) := by kernel_rfl
theorem e_spec_l2All_6 (n : Nat) (m0 m1 : Nat) (p0 p1 p2 : Int) (p3 p4 : List D_A3) (p5 p6 : Int) : L_spec_l2All_6 n m0 (m1 + 1) p0 p1 p2 p3 p4 p5 p6 = 
 bif decide (p6 < p1) then
 L_spec_l2All_9 n m0 m1 n p0 p1 p2 p3 p4 p5 p6 0
 else
 L_spec_l2All_3 n m0 p0 p1 p2 p3 p4 (IntKind.wrap .i64 (p5 + 1)) := by kernel_rfl
theorem e_spec_l2All_9 (n : Nat) (m0 m1 m2 : Nat) (p0 p1 p2 : Int) (p3 p4 : List D_A3) (p5 p6 p7 : Int) : L_spec_l2All_9 n m0 m1 (m2 + 1) p0 p1 p2 p3 p4 p5 p6 p7 = 
 bif decide (p7 < p2) then
 bif (decide (((List.length p4) + (List.length ([(p5, (p6, (p7, ())))] : List D_A3))) * 24 ≤ 140737488355328) && decide (((List.length p4) + (List.length ([(p5, (p6, (p7, ())))] : List D_A3))) ≤ 140737488355328)) then
 L_spec_l2All_9 n m0 m1 m2 p0 p1 p2 p3 (p4 ++ ([(p5, (p6, (p7, ())))] : List D_A3)) p5 p6 (IntKind.wrap .i64 (p7 + 1))
 else none
 else
 L_spec_l2All_6 n m0 m1 p0 p1 p2 p3 p4 p5 (IntKind.wrap .i64 (p6 + 1)) := by kernel_rfl
noncomputable def P_spec_l2All : Ft_spec_l2All := hid (runF (X_spec_l2All N) B_spec_l2All As_spec_l2All R_spec_l2All M_spec_l2All)
theorem h_spec_l2All : P_spec_l2All = runF (X_spec_l2All N) B_spec_l2All As_spec_l2All R_spec_l2All M_spec_l2All := hid_eq _
noncomputable def C_spec_l2All : Contract := ⟨As_spec_l2All, R_spec_l2All, M_spec_l2All, P_spec_l2All⟩
theorem s_spec_l2All : Sound Tryz.prog GG 103 C_spec_l2All := by
 unfold C_spec_l2All; rw [h_spec_l2All]
 exact sound_of_run (fn := Tryz.f103) hmix hstable (tyOK_of ttOK) (hglob (X_spec_l2All N)) (conOK_of (X := X_spec_l2All N) trivial) (mconOK_of (X := X_spec_l2All N) trivial) (by kernel_rfl) (by kernel_rfl) (by kernel_rfl) (by kernel_rfl) (by kernel_rfl) (of_decide_eq_true (by kernel_rfl))
noncomputable def l_spec_l2All_3 : Nat → Int → Int → Int → (List D_A3) → (List D_A3) → Int → Option (denL R_spec_l2All) := hid (fun m0 p0 p1 p2 p3 p4 p5 => L_spec_l2All_3 N m0 p0 p1 p2 p3 p4 p5)
theorem h_spec_l2All_3 : l_spec_l2All_3 = fun m0 p0 p1 p2 p3 p4 p5 => L_spec_l2All_3 N m0 p0 p1 p2 p3 p4 p5 := hid_eq _
noncomputable def l_spec_l2All_6 : Nat → Nat → Int → Int → Int → (List D_A3) → (List D_A3) → Int → Int → Option (denL R_spec_l2All) := hid (fun m0 m1 p0 p1 p2 p3 p4 p5 p6 => L_spec_l2All_6 N m0 m1 p0 p1 p2 p3 p4 p5 p6)
theorem h_spec_l2All_6 : l_spec_l2All_6 = fun m0 m1 p0 p1 p2 p3 p4 p5 p6 => L_spec_l2All_6 N m0 m1 p0 p1 p2 p3 p4 p5 p6 := hid_eq _
noncomputable def l_spec_l2All_9 : Nat → Nat → Nat → Int → Int → Int → (List D_A3) → (List D_A3) → Int → Int → Int → Option (denL R_spec_l2All) := hid (fun m0 m1 m2 p0 p1 p2 p3 p4 p5 p6 p7 => L_spec_l2All_9 N m0 m1 m2 p0 p1 p2 p3 p4 p5 p6 p7)
theorem h_spec_l2All_9 : l_spec_l2All_9 = fun m0 m1 m2 p0 p1 p2 p3 p4 p5 p6 p7 => L_spec_l2All_9 N m0 m1 m2 p0 p1 p2 p3 p4 p5 p6 p7 := hid_eq _
theorem p_spec_l2All (a0 : D_Heap) : P_spec_l2All (a0, ()) = 
 l_spec_l2All_3 N a0.1 a0.2.1 a0.2.2.1 a0.2.2.2.1 ([] : List D_A3) 0 := by
 rewrite [h_spec_l2All, h_spec_l2All_3]
 exact e_spec_l2All N a0
theorem q_spec_l2All_3 (m0 : Nat) (p0 p1 p2 : Int) (p3 p4 : List D_A3) (p5 : Int) : l_spec_l2All_3 (m0 + 1) p0 p1 p2 p3 p4 p5 = 
 bif decide (p5 < p0) then
 l_spec_l2All_6 m0 N p0 p1 p2 p3 p4 p5 0
 else
 some (p4, ()) := by
 rewrite [h_spec_l2All_3, h_spec_l2All_6]
 exact e_spec_l2All_3 N m0 p0 p1 p2 p3 p4 p5
theorem q_spec_l2All_6 (m0 m1 : Nat) (p0 p1 p2 : Int) (p3 p4 : List D_A3) (p5 p6 : Int) : l_spec_l2All_6 m0 (m1 + 1) p0 p1 p2 p3 p4 p5 p6 = 
 bif decide (p6 < p1) then
 l_spec_l2All_9 m0 m1 N p0 p1 p2 p3 p4 p5 p6 0
 else
 l_spec_l2All_3 m0 p0 p1 p2 p3 p4 (IntKind.wrap .i64 (p5 + 1)) := by
 rewrite [h_spec_l2All_3, h_spec_l2All_6, h_spec_l2All_9]
 exact e_spec_l2All_6 N m0 m1 p0 p1 p2 p3 p4 p5 p6
theorem q_spec_l2All_9 (m0 m1 m2 : Nat) (p0 p1 p2 : Int) (p3 p4 : List D_A3) (p5 p6 p7 : Int) : l_spec_l2All_9 m0 m1 (m2 + 1) p0 p1 p2 p3 p4 p5 p6 p7 = 
 bif decide (p7 < p2) then
 bif (decide (((List.length p4) + (List.length ([(p5, (p6, (p7, ())))] : List D_A3))) * 24 ≤ 140737488355328) && decide (((List.length p4) + (List.length ([(p5, (p6, (p7, ())))] : List D_A3))) ≤ 140737488355328)) then
 l_spec_l2All_9 m0 m1 m2 p0 p1 p2 p3 (p4 ++ ([(p5, (p6, (p7, ())))] : List D_A3)) p5 p6 (IntKind.wrap .i64 (p7 + 1))
 else none
 else
 l_spec_l2All_6 m0 m1 p0 p1 p2 p3 p4 p5 (IntKind.wrap .i64 (p6 + 1)) := by
 rewrite [h_spec_l2All_6, h_spec_l2All_9]
 exact e_spec_l2All_9 N m0 m1 m2 p0 p1 p2 p3 p4 p5 p6 p7

abbrev As_spec_l2In : List ATy := [.data true T_Heap, .data true T_A3]
abbrev R_spec_l2In : List (Bool × Ty) := [(false, .bool)]
abbrev M_spec_l2In : List RMode := []
abbrev Ft_spec_l2In : Type := D_Heap × D_A3 × Unit → Option (Bool × Unit)
noncomputable def X_spec_l2In (n : Nat) (F_spec_l1In : Ft_spec_l1In) : Ctx := { types := TT, globals := [], con := [(102, ⟨As_spec_l1In, R_spec_l1In, M_spec_l1In, F_spec_l1In⟩)], keep := [], results := [.tmp 4], ntmps := 27, n := n }
noncomputable def B_spec_l2In : Code := (Tryz.f91.body).getD .skip
theorem e_spec_l2In (n : Nat) (F_spec_l1In : Ft_spec_l1In) (a0 : D_Heap) (a1 : D_A3) : runF (X_spec_l2In n F_spec_l1In) B_spec_l2In As_spec_l2In R_spec_l2In M_spec_l2In (a0, a1, ()) = 
 Option.bind (F_spec_l1In (a1.1, 0, (IntKind.wrap .i64 (a0.1 - 1)), ())) fun r0 =>
 bif r0.1 then
 Option.bind (F_spec_l1In (a1.2.1, 0, (IntKind.wrap .i64 (a0.2.1 - 1)), ())) fun r2 =>
 bif r2.1 then
 Option.bind (F_spec_l1In (a1.2.2.1, 0, (IntKind.wrap .i64 (a0.2.2.1 - 1)), ())) fun r4 =>
 some (r4.1, ())
 else
 some (false, ())
 else
 some (false, ()) := by kernel_rfl
noncomputable def P_spec_l2In : Ft_spec_l2In := hid (runF (X_spec_l2In N P_spec_l1In) B_spec_l2In As_spec_l2In R_spec_l2In M_spec_l2In)
theorem h_spec_l2In : P_spec_l2In = runF (X_spec_l2In N P_spec_l1In) B_spec_l2In As_spec_l2In R_spec_l2In M_spec_l2In := hid_eq _
noncomputable def C_spec_l2In : Contract := ⟨As_spec_l2In, R_spec_l2In, M_spec_l2In, P_spec_l2In⟩
theorem s_spec_l2In : Sound Tryz.prog GG 91 C_spec_l2In := by
 unfold C_spec_l2In; rw [h_spec_l2In]
 exact sound_of_run (fn := Tryz.f91) hmix hstable (tyOK_of ttOK) (hglob (X_spec_l2In N P_spec_l1In)) (conOK_of (X := X_spec_l2In N P_spec_l1In) ⟨s_spec_l1In, trivial⟩) (mconOK_of (X := X_spec_l2In N P_spec_l1In) trivial) (by kernel_rfl) (by kernel_rfl) (by kernel_rfl) (by kernel_rfl) (by kernel_rfl) (of_decide_eq_true (by kernel_rfl))
theorem p_spec_l2In (a0 : D_Heap) (a1 : D_A3) : P_spec_l2In (a0, a1, ()) = 
 Option.bind (P_spec_l1In (a1.1, 0, (IntKind.wrap .i64 (a0.1 - 1)), ())) fun r0 =>
 bif r0.1 then
 Option.bind (P_spec_l1In (a1.2.1, 0, (IntKind.wrap .i64 (a0.2.1 - 1)), ())) fun r2 =>
 bif r2.1 then
 Option.bind (P_spec_l1In (a1.2.2.1, 0, (IntKind.wrap .i64 (a0.2.2.1 - 1)), ())) fun r4 =>
 some (r4.1, ())
 else
 some (false, ())
 else
 some (false, ()) := by
 rewrite [h_spec_l2In]
 exact e_spec_l2In N P_spec_l1In a0 a1

abbrev As_spec_l2Before : List ATy := [.data true T_A3, .data true T_A3]
abbrev R_spec_l2Before : List (Bool × Ty) := [(false, .bool)]
abbrev M_spec_l2Before : List RMode := []
abbrev Ft_spec_l2Before : Type := D_A3 × D_A3 × Unit → Option (Bool × Unit)
noncomputable def X_spec_l2Before (n : Nat) : Ctx := { types := TT, globals := [], con := [], keep := [(2, ⟨[.box 2, .box 3, .tmp 2, .tmp 3, .tmp 5], []⟩)], results := [.tmp 4], ntmps := 24, n := n }
noncomputable def B_spec_l2Before : Code := (Tryz.f92.body).getD .skip
noncomputable def L_spec_l2Before_2 (n m0 : Nat) (p0 p1 : Int) (p2 p3 : Int) (p4 p5 p6 : Int) : Option (denL R_spec_l2Before) := loopF (X_spec_l2Before n) B_spec_l2Before R_spec_l2Before M_spec_l2Before 2 [m0] [(.ver, .num 1), (.box 2, .box 0 false [.int .i64 p0, .int .i64 p1, .int .i64 p2]), (.box 3, .box 0 false [.int .i64 p3, .int .i64 p4, .int .i64 p5]), (.tmp 2, .val false [.addr 2 0 0]), (.tmp 3, .val false [.addr 3 0 0]), (.tmp 5, .val false [.int .i64 p6])]
theorem e_spec_l2Before (n : Nat) (a0 a1 : D_A3) : runF (X_spec_l2Before n) B_spec_l2Before As_spec_l2Before R_spec_l2Before M_spec_l2Before (a0, a1, ()) = 
 L_spec_l2Before_2 n n a0.1 a0.2.1 a0.2.2.1 a1.1 a1.2.1 a1.2.2.1 0 := by kernel_rfl
theorem e_spec_l2Before_2 (n m0 : Nat) (p0 p1 : Int) (p2 p3 : Int) (p4 p5 p6 : Int) : L_spec_l2Before_2 n (m0 + 1) p0 p1 p2 p3 p4 p5 p6 = 
 bif decide (p6 < 3) then
 bif inB p6 3 then
 bif inB p6 3 then
 bif !decide ((bif decide (p6 = (0 : Int)) then p0 else (bif decide (p6 = (1 : Int)) then p1 else p2)) = (bif decide (p6 = (0 : Int)) then p3 else (bif decide (p6 = (1 : Int)) then p4 else p5))) then
 bif inB p6 3 then
 bif inB p6 3 then
 some (decide ((bif decide (p6 = (0 : Int)) then p0 else (bif decide (p6 = (1 : Int)) then p1 else p2)) < (bif decide (p6 = (0 : Int)) then p3 else (bif decide (p6 = (1 : Int)) then p4 else p5))), ())
 else none
 else none
 else
 L_spec_l2Before_2 n m0 p0 p1 p2 p3 p4 p5 (IntKind.wrap .i64 (p6 + 1))
 else none
 else none
 else
 some (false, ()) := by kernel_rfl
noncomputable def P_spec_l2Before : Ft_spec_l2Before := hid (runF (X_spec_l2Before N) B_spec_l2Before As_spec_l2Before R_spec_l2Before M_spec_l2Before)
theorem h_spec_l2Before : P_spec_l2Before = runF (X_spec_l2Before N) B_spec_l2Before As_spec_l2Before R_spec_l2Before M_spec_l2Before := hid_eq _
noncomputable def C_spec_l2Before : Contract := ⟨As_spec_l2Before, R_spec_l2Before, M_spec_l2Before, P_spec_l2Before⟩
theorem s_spec_l2Before : Sound Tryz.prog GG 92 C_spec_l2Before := by
 unfold C_spec_l2Before; rw [h_spec_l2Before]
 exact sound_of_run (fn := Tryz.f92) hmix hstable (tyOK_of ttOK) (hglob (X_spec_l2Before N)) (conOK_of (X := X_spec_l2Before N) trivial) (mconOK_of (X := X_spec_l2Before N) trivial) (by kernel_rfl) (by kernel_rfl) (by kernel_rfl) (by kernel_rfl) (by kernel_rfl) (of_decide_eq_true (by kernel_rfl))
noncomputable def l_spec_l2Before_2 : Nat → Int → Int → Int → Int → Int → Int → Int → Option (denL R_spec_l2Before) := hid (fun m0 p0 p1 p2 p3 p4 p5 p6 => L_spec_l2Before_2 N m0 p0 p1 p2 p3 p4 p5 p6)
theorem h_spec_l2Before_2 : l_spec_l2Before_2 = fun m0 p0 p1 p2 p3 p4 p5 p6 => L_spec_l2Before_2 N m0 p0 p1 p2 p3 p4 p5 p6 := hid_eq _
theorem p_spec_l2Before (a0 a1 : D_A3) : P_spec_l2Before (a0, a1, ()) = 
 l_spec_l2Before_2 N a0.1 a0.2.1 a0.2.2.1 a1.1 a1.2.1 a1.2.2.1 0 := by
 rewrite [h_spec_l2Before, h_spec_l2Before_2]
 exact e_spec_l2Before N a0 a1
theorem q_spec_l2Before_2 (m0 : Nat) (p0 p1 : Int) (p2 p3 : Int) (p4 p5 p6 : Int) : l_spec_l2Before_2 (m0 + 1) p0 p1 p2 p3 p4 p5 p6 = 
 bif decide (p6 < 3) then
 bif inB p6 3 then
 bif inB p6 3 then
 bif !decide ((bif decide (p6 = (0 : Int)) then p0 else (bif decide (p6 = (1 : Int)) then p1 else p2)) = (bif decide (p6 = (0 : Int)) then p3 else (bif decide (p6 = (1 : Int)) then p4 else p5))) then
 bif inB p6 3 then
 bif inB p6 3 then
 some (decide ((bif decide (p6 = (0 : Int)) then p0 else (bif decide (p6 = (1 : Int)) then p1 else p2)) < (bif decide (p6 = (0 : Int)) then p3 else (bif decide (p6 = (1 : Int)) then p4 else p5))), ())
 else none
 else none
 else
 l_spec_l2Before_2 m0 p0 p1 p2 p3 p4 p5 (IntKind.wrap .i64 (p6 + 1))
 else none
 else none
 else
 some (false, ()) := by
 rewrite [h_spec_l2Before_2]
 exact e_spec_l2Before_2 N m0 p0 p1 p2 p3 p4 p5 p6

abbrev As_spec_l2Heap : List ATy := [.data true T_Heap]
abbrev R_spec_l2Heap : List (Bool × Ty) := [(false, .bool)]
abbrev M_spec_l2Heap : List RMode := []
abbrev Ft_spec_l2Heap : Type := D_Heap × Unit → Option (Bool × Unit)
noncomputable def X_spec_l2Heap (n : Nat) (F_spec_l2Sides : Ft_spec_l2Sides) (F_spec_l2In : Ft_spec_l2In) (F_spec_l2Before : Ft_spec_l2Before) : Ctx := { types := TT, globals := [], con := [(67, ⟨As_spec_l2Sides, R_spec_l2Sides, M_spec_l2Sides, F_spec_l2Sides⟩), (91, ⟨As_spec_l2In, R_spec_l2In, M_spec_l2In, F_spec_l2In⟩), (92, ⟨As_spec_l2Before, R_spec_l2Before, M_spec_l2Before, F_spec_l2Before⟩)], keep := [(4, ⟨[.box 1, .tmp 1, .tmp 3], []⟩)], results := [.tmp 2], ntmps := 46, n := n }
noncomputable def B_spec_l2Heap : Code := (Tryz.f48.body).getD .skip
noncomputable def L_spec_l2Heap_4 (n : Nat) (F_spec_l2Sides : Ft_spec_l2Sides) (F_spec_l2In : Ft_spec_l2In) (F_spec_l2Before : Ft_spec_l2Before) (m0 : Nat) (p0 p1 p2 : Int) (p3 : List D_A3) (p4 : Int) : Option (denL R_spec_l2Heap) := loopF (X_spec_l2Heap n F_spec_l2Sides F_spec_l2In F_spec_l2Before) B_spec_l2Heap R_spec_l2Heap M_spec_l2Heap 4 [m0] [(.ver, .num 1), (.box 1, .box 0 false [.int .i64 p0, .int .i64 p1, .int .i64 p2, .imm T_A3 p3 (some 3)]), (.tmp 1, .val false [.addr 1 0 0]), (.tmp 3, .val false [.int .i64 p4])]
theorem e_spec_l2Heap (n : Nat) (F_spec_l2Sides : Ft_spec_l2Sides) (F_spec_l2In : Ft_spec_l2In) (F_spec_l2Before : Ft_spec_l2Before) (a0 : D_Heap) : runF (X_spec_l2Heap n F_spec_l2Sides F_spec_l2In F_spec_l2Before) B_spec_l2Heap As_spec_l2Heap R_spec_l2Heap M_spec_l2Heap (a0, ()) = 
 Option.bind (F_spec_l2Sides (a0.1, a0.2.1, a0.2.2.1, ())) fun r0 =>
 bif !r0.1 then
 some (false, ())
 else
 L_spec_l2Heap_4 n F_spec_l2Sides F_spec_l2In F_spec_l2Before n a0.1 a0.2.1 a0.2.2.1 a0.2.2.2.1 0 := by kernel_rfl
theorem e_spec_l2Heap_4 (n : Nat) (F_spec_l2Sides : Ft_spec_l2Sides) (F_spec_l2In : Ft_spec_l2In) (F_spec_l2Before : Ft_spec_l2Before) (m0 : Nat) (p0 p1 p2 : Int) (p3 : List D_A3) (p4 : Int) : L_spec_l2Heap_4 n F_spec_l2Sides F_spec_l2In F_spec_l2Before (m0 + 1) p0 p1 p2 p3 p4 = 
 bif decide (p4 < (List.length p3 : Int)) then
 bif inB p4 (List.length p3) then
 Option.bind (F_spec_l2In ((p0, (p1, (p2, (p3, ())))), (nth T_A3 p3 p4), ())) fun r2 =>
 bif !r2.1 then
 some (false, ())
 else
 bif decide (p4 > 0) then
 bif inB (IntKind.wrap .i64 (p4 - 1)) (List.length p3) then
 bif inB p4 (List.length p3) then
 Option.bind (F_spec_l2Before ((nth T_A3 p3 (IntKind.wrap .i64 (p4 - 1))), (nth T_A3 p3 p4), ())) fun r7 =>
 bif !r7.1 then
 some (false, ())
 else
 L_spec_l2Heap_4 n F_spec_l2Sides F_spec_l2In F_spec_l2Before m0 p0 p1 p2 p3 (IntKind.wrap .i64 (p4 + 1))
 else none
 else none
 else
 L_spec_l2Heap_4 n F_spec_l2Sides F_spec_l2In F_spec_l2Before m0 p0 p1 p2 p3 (IntKind.wrap .i64 (p4 + 1))
 else none
 else
 some (true, ()) := by kernel_rfl
noncomputable def P_spec_l2Heap : Ft_spec_l2Heap := hid (runF (X_spec_l2Heap N P_spec_l2Sides P_spec_l2In P_spec_l2Before) B_spec_l2Heap As_spec_l2Heap R_spec_l2Heap M_spec_l2Heap)
theorem h_spec_l2Heap : P_spec_l2Heap = runF (X_spec_l2Heap N P_spec_l2Sides P_spec_l2In P_spec_l2Before) B_spec_l2Heap As_spec_l2Heap R_spec_l2Heap M_spec_l2Heap := hid_eq _
noncomputable def C_spec_l2Heap : Contract := ⟨As_spec_l2Heap, R_spec_l2Heap, M_spec_l2Heap, P_spec_l2Heap⟩
theorem s_spec_l2Heap : Sound Tryz.prog GG 48 C_spec_l2Heap := by
 unfold C_spec_l2Heap; rw [h_spec_l2Heap]
 exact sound_of_run (fn := Tryz.f48) hmix hstable (tyOK_of ttOK) (hglob (X_spec_l2Heap N P_spec_l2Sides P_spec_l2In P_spec_l2Before)) (conOK_of (X := X_spec_l2Heap N P_spec_l2Sides P_spec_l2In P_spec_l2Before) ⟨s_spec_l2Sides, s_spec_l2In, s_spec_l2Before, trivial⟩) (mconOK_of (X := X_spec_l2Heap N P_spec_l2Sides P_spec_l2In P_spec_l2Before) trivial) (by kernel_rfl) (by kernel_rfl) (by kernel_rfl) (by kernel_rfl) (by kernel_rfl) (of_decide_eq_true (by kernel_rfl))
noncomputable def l_spec_l2Heap_4 : Nat → Int → Int → Int → (List D_A3) → Int → Option (denL R_spec_l2Heap) := hid (fun m0 p0 p1 p2 p3 p4 => L_spec_l2Heap_4 N P_spec_l2Sides P_spec_l2In P_spec_l2Before m0 p0 p1 p2 p3 p4)
theorem h_spec_l2Heap_4 : l_spec_l2Heap_4 = fun m0 p0 p1 p2 p3 p4 => L_spec_l2Heap_4 N P_spec_l2Sides P_spec_l2In P_spec_l2Before m0 p0 p1 p2 p3 p4 := hid_eq _
theorem p_spec_l2Heap (a0 : D_Heap) : P_spec_l2Heap (a0, ()) = 
 Option.bind (P_spec_l2Sides (a0.1, a0.2.1, a0.2.2.1, ())) fun r0 =>
 bif !r0.1 then
 some (false, ())
 else
 l_spec_l2Heap_4 N a0.1 a0.2.1 a0.2.2.1 a0.2.2.2.1 0 := by
 rewrite [h_spec_l2Heap, h_spec_l2Heap_4]
 exact e_spec_l2Heap N P_spec_l2Sides P_spec_l2In P_spec_l2Before a0
theorem q_spec_l2Heap_4 (m0 : Nat) (p0 p1 p2 : Int) (p3 : List D_A3) (p4 : Int) : l_spec_l2Heap_4 (m0 + 1) p0 p1 p2 p3 p4 = 
 bif decide (p4 < (List.length p3 : Int)) then
 bif inB p4 (List.length p3) then
 Option.bind (P_spec_l2In ((p0, (p1, (p2, (p3, ())))), (nth T_A3 p3 p4), ())) fun r2 =>
 bif !r2.1 then
 some (false, ())
 else
 bif decide (p4 > 0) then
 bif inB (IntKind.wrap .i64 (p4 - 1)) (List.length p3) then
 bif inB p4 (List.length p3) then
 Option.bind (P_spec_l2Before ((nth T_A3 p3 (IntKind.wrap .i64 (p4 - 1))), (nth T_A3 p3 p4), ())) fun r7 =>
 bif !r7.1 then
 some (false, ())
 else
 l_spec_l2Heap_4 m0 p0 p1 p2 p3 (IntKind.wrap .i64 (p4 + 1))
 else none
 else none
 else
 l_spec_l2Heap_4 m0 p0 p1 p2 p3 (IntKind.wrap .i64 (p4 + 1))
 else none
 else
 some (true, ()) := by
 rewrite [h_spec_l2Heap_4]
 exact e_spec_l2Heap_4 N P_spec_l2Sides P_spec_l2In P_spec_l2Before m0 p0 p1 p2 p3 p4

abbrev As_spec_l2Has : List ATy := [.data true T_Heap, .data true T_A3]
abbrev R_spec_l2Has : List (Bool × Ty) := [(false, .bool)]
abbrev M_spec_l2Has : List RMode := []
abbrev Ft_spec_l2Has : Type := D_Heap × D_A3 × Unit → Option (Bool × Unit)
noncomputable def X_spec_l2Has (n : Nat) : Ctx := { types := TT, globals := [], con := [], keep := [(2, ⟨[.box 2, .box 3, .tmp 2, .tmp 3, .tmp 5], []⟩)], results := [.tmp 4], ntmps := 20, n := n }
noncomputable def B_spec_l2Has : Code := (Tryz.f62.body).getD .skip
noncomputable def L_spec_l2Has_2 (n m0 : Nat) (p0 p1 p2 : Int) (p3 : List D_A3) (p4 p5 : Int) (p6 p7 : Int) : Option (denL R_spec_l2Has) := loopF (X_spec_l2Has n) B_spec_l2Has R_spec_l2Has M_spec_l2Has 2 [m0] [(.ver, .num 1), (.box 2, .box 0 false [.int .i64 p0, .int .i64 p1, .int .i64 p2, .imm T_A3 p3 (some 3)]), (.box 3, .box 0 false [.int .i64 p4, .int .i64 p5, .int .i64 p6]), (.tmp 2, .val false [.addr 2 0 0]), (.tmp 3, .val false [.addr 3 0 0]), (.tmp 5, .val false [.int .i64 p7])]
theorem e_spec_l2Has (n : Nat) (a0 : D_Heap) (a1 : D_A3) : runF (X_spec_l2Has n) B_spec_l2Has As_spec_l2Has R_spec_l2Has M_spec_l2Has (a0, a1, ()) = 
 L_spec_l2Has_2 n n a0.1 a0.2.1 a0.2.2.1 a0.2.2.2.1 a1.1 a1.2.1 a1.2.2.1 0 := by kernel_rfl
theorem e_spec_l2Has_2 (n m0 : Nat) (p0 p1 p2 : Int) (p3 : List D_A3) (p4 p5 : Int) (p6 p7 : Int) : L_spec_l2Has_2 n (m0 + 1) p0 p1 p2 p3 p4 p5 p6 p7 = 
 bif decide (p7 < (List.length p3 : Int)) then
 bif inB p7 (List.length p3) then
 bif (decide (((nth T_A3 p3 p7)).1 = p4) && (decide ((((nth T_A3 p3 p7)).2).1 = p5) && (decide (((((nth T_A3 p3 p7)).2).2).1 = p6) && true))) then
 some (true, ())
 else
 L_spec_l2Has_2 n m0 p0 p1 p2 p3 p4 p5 p6 (IntKind.wrap .i64 (p7 + 1))
 else none
 else
 some (false, ()) := by kernel_rfl
noncomputable def P_spec_l2Has : Ft_spec_l2Has := hid (runF (X_spec_l2Has N) B_spec_l2Has As_spec_l2Has R_spec_l2Has M_spec_l2Has)
theorem h_spec_l2Has : P_spec_l2Has = runF (X_spec_l2Has N) B_spec_l2Has As_spec_l2Has R_spec_l2Has M_spec_l2Has := hid_eq _
noncomputable def C_spec_l2Has : Contract := ⟨As_spec_l2Has, R_spec_l2Has, M_spec_l2Has, P_spec_l2Has⟩
theorem s_spec_l2Has : Sound Tryz.prog GG 62 C_spec_l2Has := by
 unfold C_spec_l2Has; rw [h_spec_l2Has]
 exact sound_of_run (fn := Tryz.f62) hmix hstable (tyOK_of ttOK) (hglob (X_spec_l2Has N)) (conOK_of (X := X_spec_l2Has N) trivial) (mconOK_of (X := X_spec_l2Has N) trivial) (by kernel_rfl) (by kernel_rfl) (by kernel_rfl) (by kernel_rfl) (by kernel_rfl) (of_decide_eq_true (by kernel_rfl))
noncomputable def l_spec_l2Has_2 : Nat → Int → Int → Int → (List D_A3) → Int → Int → Int → Int → Option (denL R_spec_l2Has) := hid (fun m0 p0 p1 p2 p3 p4 p5 p6 p7 => L_spec_l2Has_2 N m0 p0 p1 p2 p3 p4 p5 p6 p7)
theorem h_spec_l2Has_2 : l_spec_l2Has_2 = fun m0 p0 p1 p2 p3 p4 p5 p6 p7 => L_spec_l2Has_2 N m0 p0 p1 p2 p3 p4 p5 p6 p7 := hid_eq _
theorem p_spec_l2Has (a0 : D_Heap) (a1 : D_A3) : P_spec_l2Has (a0, a1, ()) = 
 l_spec_l2Has_2 N a0.1 a0.2.1 a0.2.2.1 a0.2.2.2.1 a1.1 a1.2.1 a1.2.2.1 0 := by
 rewrite [h_spec_l2Has, h_spec_l2Has_2]
 exact e_spec_l2Has N a0 a1
theorem q_spec_l2Has_2 (m0 : Nat) (p0 p1 p2 : Int) (p3 : List D_A3) (p4 p5 : Int) (p6 p7 : Int) : l_spec_l2Has_2 (m0 + 1) p0 p1 p2 p3 p4 p5 p6 p7 = 
 bif decide (p7 < (List.length p3 : Int)) then
 bif inB p7 (List.length p3) then
 bif (decide (((nth T_A3 p3 p7)).1 = p4) && (decide ((((nth T_A3 p3 p7)).2).1 = p5) && (decide (((((nth T_A3 p3 p7)).2).2).1 = p6) && true))) then
 some (true, ())
 else
 l_spec_l2Has_2 m0 p0 p1 p2 p3 p4 p5 p6 (IntKind.wrap .i64 (p7 + 1))
 else none
 else
 some (false, ()) := by
 rewrite [h_spec_l2Has_2]
 exact e_spec_l2Has_2 N m0 p0 p1 p2 p3 p4 p5 p6 p7

abbrev As_spec_OtherCells : List ATy := [.data true T_Heap]
abbrev R_spec_OtherCells : List (Bool × Ty) := [(true, T_Heap), (false, .bool)]
abbrev M_spec_OtherCells : List RMode := [.own 38]
abbrev Ft_spec_OtherCells : Type := D_Heap × Unit → Option (D_Heap × Bool × Unit)
noncomputable def X_spec_OtherCells (n : Nat) (F_spec_l2Heap : Ft_spec_l2Heap) (F_spec_l2Has : Ft_spec_l2Has) (F_spec_l2Empty : Ft_spec_l2Empty) (F_spec_l2All : Ft_spec_l2All) : Ctx := { types := TT, globals := [], con := [(48, ⟨As_spec_l2Heap, R_spec_l2Heap, M_spec_l2Heap, F_spec_l2Heap⟩), (62, ⟨As_spec_l2Has, R_spec_l2Has, M_spec_l2Has, F_spec_l2Has⟩), (94, ⟨As_spec_l2Empty, R_spec_l2Empty, M_spec_l2Empty, F_spec_l2Empty⟩), (103, ⟨As_spec_l2All, R_spec_l2All, M_spec_l2All, F_spec_l2All⟩)], keep := [(5, ⟨[.box 1, .box 2, .box 4, .tmp 1, .tmp 2, .tmp 4, .tmp 5, .tmp 6], []⟩)], results := [.cell 2 26, .tmp 3], ntmps := 43, n := n }
noncomputable def B_spec_OtherCells : Code := (Tryz.f130.body).getD .skip
noncomputable def L_spec_OtherCells_5 (n : Nat) (F_spec_l2Heap : Ft_spec_l2Heap) (F_spec_l2Has : Ft_spec_l2Has) (F_spec_l2Empty : Ft_spec_l2Empty) (F_spec_l2All : Ft_spec_l2All) (m0 : Nat) (p0 p1 p2 : Int) (p3 : List D_A3) (p4 p5 p6 : Int) (p7 : List D_A3) (p8 p9 p10 : Int) (p11 p12 : List D_A3) (p13 : Int) : Option (denL R_spec_OtherCells) := loopF (X_spec_OtherCells n F_spec_l2Heap F_spec_l2Has F_spec_l2Empty F_spec_l2All) B_spec_OtherCells R_spec_OtherCells M_spec_OtherCells 5 [m0] [(.ver, .num 1), (.box 1, .box 0 false [.int .i64 p0, .int .i64 p1, .int .i64 p2, .imm T_A3 p3 (some 3)]), (.box 2, .box 0 false [.int .i64 p4, .int .i64 p5, .int .i64 p6, .own 38 T_A3 0 p7]), (.box 4, .box 0 false [.int .i64 p8, .int .i64 p9, .int .i64 p10, .own 38 T_A3 0 p11]), (.tmp 1, .val false [.addr 1 0 0]), (.tmp 2, .val false [.addr 2 0 0]), (.tmp 4, .val false [.addr 4 0 0]), (.tmp 5, .val false [.own 38 T_A3 0 p12]), (.tmp 6, .val false [.int .i64 p13])]
theorem e_spec_OtherCells (n : Nat) (F_spec_l2Heap : Ft_spec_l2Heap) (F_spec_l2Has : Ft_spec_l2Has) (F_spec_l2Empty : Ft_spec_l2Empty) (F_spec_l2All : Ft_spec_l2All) (a0 : D_Heap) : runF (X_spec_OtherCells n F_spec_l2Heap F_spec_l2Has F_spec_l2Empty F_spec_l2All) B_spec_OtherCells As_spec_OtherCells R_spec_OtherCells M_spec_OtherCells (a0, ()) = 
 Option.bind (F_spec_l2Heap (a0, ())) fun r0 =>
 bif !r0.1 then
 some ((0, (0, (0, (([] : List D_A3), ())))), false, ())
 else
 Option.bind (F_spec_l2Empty (a0.1, a0.2.1, a0.2.2.1, ())) fun r2 =>
 Option.bind (F_spec_l2All (a0, ())) fun r3 =>
 L_spec_OtherCells_5 n F_spec_l2Heap F_spec_l2Has F_spec_l2Empty F_spec_l2All n a0.1 a0.2.1 a0.2.2.1 a0.2.2.2.1 0 0 0 ([] : List D_A3) r2.1.1 r2.1.2.1 r2.1.2.2.1 r2.1.2.2.2.1 r3.1 0 := by kernel_rfl
theorem e_spec_OtherCells_5 (n : Nat) (F_spec_l2Heap : Ft_spec_l2Heap) (F_spec_l2Has : Ft_spec_l2Has) (F_spec_l2Empty : Ft_spec_l2Empty) (F_spec_l2All : Ft_spec_l2All) (m0 : Nat) (p0 p1 p2 : Int) (p3 : List D_A3) (p4 p5 p6 : Int) (p7 : List D_A3) (p8 p9 p10 : Int) (p11 p12 : List D_A3) (p13 : Int) : L_spec_OtherCells_5 n F_spec_l2Heap F_spec_l2Has F_spec_l2Empty F_spec_l2All (m0 + 1) p0 p1 p2 p3 p4 p5 p6 p7 p8 p9 p10 p11 p12 p13 = 
 bif decide (p13 < (List.length p12 : Int)) then
 bif inB p13 (List.length p12) then
 Option.bind (F_spec_l2Has ((p0, (p1, (p2, (p3, ())))), (nth T_A3 p12 p13), ())) fun r2 =>
 bif !r2.1 then
 bif inB p13 (List.length p12) then
 bif (decide (((List.length p11) + (List.length ([(nth T_A3 p12 p13)] : List D_A3))) * 24 ≤ 140737488355328) && decide (((List.length p11) + (List.length ([(nth T_A3 p12 p13)] : List D_A3))) ≤ 140737488355328)) then
 L_spec_OtherCells_5 n F_spec_l2Heap F_spec_l2Has F_spec_l2Empty F_spec_l2All m0 p0 p1 p2 p3 p4 p5 p6 p7 p8 p9 p10 (p11 ++ ([(nth T_A3 p12 p13)] : List D_A3)) p12 (IntKind.wrap .i64 (p13 + 1))
 else none
 else none
 else
 L_spec_OtherCells_5 n F_spec_l2Heap F_spec_l2Has F_spec_l2Empty F_spec_l2All m0 p0 p1 p2 p3 p4 p5 p6 p7 p8 p9 p10 p11 p12 (IntKind.wrap .i64 (p13 + 1))
 else none
 else
 some ((p8, (p9, (p10, (p11, ())))), true, ()) := by kernel_rfl
noncomputable def P_spec_OtherCells : Ft_spec_OtherCells := hid (runF (X_spec_OtherCells N P_spec_l2Heap P_spec_l2Has P_spec_l2Empty P_spec_l2All) B_spec_OtherCells As_spec_OtherCells R_spec_OtherCells M_spec_OtherCells)
theorem h_spec_OtherCells : P_spec_OtherCells = runF (X_spec_OtherCells N P_spec_l2Heap P_spec_l2Has P_spec_l2Empty P_spec_l2All) B_spec_OtherCells As_spec_OtherCells R_spec_OtherCells M_spec_OtherCells := hid_eq _
noncomputable def C_spec_OtherCells : Contract := ⟨As_spec_OtherCells, R_spec_OtherCells, M_spec_OtherCells, P_spec_OtherCells⟩
theorem s_spec_OtherCells : Sound Tryz.prog GG 130 C_spec_OtherCells := by
 unfold C_spec_OtherCells; rw [h_spec_OtherCells]
 exact sound_of_run (fn := Tryz.f130) hmix hstable (tyOK_of ttOK) (hglob (X_spec_OtherCells N P_spec_l2Heap P_spec_l2Has P_spec_l2Empty P_spec_l2All)) (conOK_of (X := X_spec_OtherCells N P_spec_l2Heap P_spec_l2Has P_spec_l2Empty P_spec_l2All) ⟨s_spec_l2Heap, s_spec_l2Has, s_spec_l2Empty, s_spec_l2All, trivial⟩) (mconOK_of (X := X_spec_OtherCells N P_spec_l2Heap P_spec_l2Has P_spec_l2Empty P_spec_l2All) trivial) (by kernel_rfl) (by kernel_rfl) (by kernel_rfl) (by kernel_rfl) (by kernel_rfl) (of_decide_eq_true (by kernel_rfl))
noncomputable def l_spec_OtherCells_5 : Nat → Int → Int → Int → (List D_A3) → Int → Int → Int → (List D_A3) → Int → Int → Int → (List D_A3) → (List D_A3) → Int → Option (denL R_spec_OtherCells) := hid (fun m0 p0 p1 p2 p3 p4 p5 p6 p7 p8 p9 p10 p11 p12 p13 => L_spec_OtherCells_5 N P_spec_l2Heap P_spec_l2Has P_spec_l2Empty P_spec_l2All m0 p0 p1 p2 p3 p4 p5 p6 p7 p8 p9 p10 p11 p12 p13)
theorem h_spec_OtherCells_5 : l_spec_OtherCells_5 = fun m0 p0 p1 p2 p3 p4 p5 p6 p7 p8 p9 p10 p11 p12 p13 => L_spec_OtherCells_5 N P_spec_l2Heap P_spec_l2Has P_spec_l2Empty P_spec_l2All m0 p0 p1 p2 p3 p4 p5 p6 p7 p8 p9 p10 p11 p12 p13 := hid_eq _
theorem p_spec_OtherCells (a0 : D_Heap) : P_spec_OtherCells (a0, ()) = 
 Option.bind (P_spec_l2Heap (a0, ())) fun r0 =>
 bif !r0.1 then
 some ((0, (0, (0, (([] : List D_A3), ())))), false, ())
 else
 Option.bind (P_spec_l2Empty (a0.1, a0.2.1, a0.2.2.1, ())) fun r2 =>
 Option.bind (P_spec_l2All (a0, ())) fun r3 =>
 l_spec_OtherCells_5 N a0.1 a0.2.1 a0.2.2.1 a0.2.2.2.1 0 0 0 ([] : List D_A3) r2.1.1 r2.1.2.1 r2.1.2.2.1 r2.1.2.2.2.1 r3.1 0 := by
 rewrite [h_spec_OtherCells, h_spec_OtherCells_5]
 exact e_spec_OtherCells N P_spec_l2Heap P_spec_l2Has P_spec_l2Empty P_spec_l2All a0
theorem q_spec_OtherCells_5 (m0 : Nat) (p0 p1 p2 : Int) (p3 : List D_A3) (p4 p5 p6 : Int) (p7 : List D_A3) (p8 p9 p10 : Int) (p11 p12 : List D_A3) (p13 : Int) : l_spec_OtherCells_5 (m0 + 1) p0 p1 p2 p3 p4 p5 p6 p7 p8 p9 p10 p11 p12 p13 = 
 bif decide (p13 < (List.length p12 : Int)) then
 bif inB p13 (List.length p12) then
 Option.bind (P_spec_l2Has ((p0, (p1, (p2, (p3, ())))), (nth T_A3 p12 p13), ())) fun r2 =>
 bif !r2.1 then
 bif inB p13 (List.length p12) then
 bif (decide (((List.length p11) + (List.length ([(nth T_A3 p12 p13)] : List D_A3))) * 24 ≤ 140737488355328) && decide (((List.length p11) + (List.length ([(nth T_A3 p12 p13)] : List D_A3))) ≤ 140737488355328)) then
 l_spec_OtherCells_5 m0 p0 p1 p2 p3 p4 p5 p6 p7 p8 p9 p10 (p11 ++ ([(nth T_A3 p12 p13)] : List D_A3)) p12 (IntKind.wrap .i64 (p13 + 1))
 else none
 else none
 else
 l_spec_OtherCells_5 m0 p0 p1 p2 p3 p4 p5 p6 p7 p8 p9 p10 p11 p12 (IntKind.wrap .i64 (p13 + 1))
 else none
 else
 some ((p8, (p9, (p10, (p11, ())))), true, ()) := by
 rewrite [h_spec_OtherCells_5]
 exact e_spec_OtherCells_5 N P_spec_l2Heap P_spec_l2Has P_spec_l2Empty P_spec_l2All m0 p0 p1 p2 p3 p4 p5 p6 p7 p8 p9 p10 p11 p12 p13

abbrev As_spec_l2Stack : List ATy := [.data false (.int .i64), .data false (.int .i64), .data false (.int .i64), .data false (.sl (.int .i64))]
abbrev R_spec_l2Stack : List (Bool × Ty) := [(true, T_Heap)]
abbrev M_spec_l2Stack : List RMode := [.own 38]
abbrev Ft_spec_l2Stack : Type := Int × Int × Int × (List Int) × Unit → Option (D_Heap × Unit)
noncomputable def X_spec_l2Stack (n : Nat) (F_spec_l2Empty : Ft_spec_l2Empty) (F_spec_l2All : Ft_spec_l2All) : Ctx := { types := TT, globals := [], con := [(94, ⟨As_spec_l2Empty, R_spec_l2Empty, M_spec_l2Empty, F_spec_l2Empty⟩), (103, ⟨As_spec_l2All, R_spec_l2All, M_spec_l2All, F_spec_l2All⟩)], keep := [(4, ⟨[.box 8, .box 9, .tmp 1, .tmp 3, .tmp 8, .tmp 9, .tmp 10, .tmp 11], []⟩)], results := [.cell 8 26], ntmps := 56, n := n }
noncomputable def B_spec_l2Stack : Code := (Tryz.f131.body).getD .skip
noncomputable def L_spec_l2Stack_4 (n : Nat) (F_spec_l2Empty : Ft_spec_l2Empty) (F_spec_l2All : Ft_spec_l2All) (m0 : Nat) (p0 p1 p2 : Int) (p3 : List D_A3) (p4 p5 p6 : Int) (p7 : List D_A3) (p8 : Int) (p9 : List Int) (p10 : List D_A3) (p11 : Int) : Option (denL R_spec_l2Stack) := loopF (X_spec_l2Stack n F_spec_l2Empty F_spec_l2All) B_spec_l2Stack R_spec_l2Stack M_spec_l2Stack 4 [m0] [(.ver, .num 1), (.box 8, .box 0 false [.int .i64 p0, .int .i64 p1, .int .i64 p2, .own 38 T_A3 0 p3]), (.box 9, .box 0 false [.int .i64 p4, .int .i64 p5, .int .i64 p6, .own 38 T_A3 0 p7]), (.tmp 1, .val false [.int .i64 p8]), (.tmp 3, .val false [.imm (.int .i64) p9 (some 3)]), (.tmp 8, .val false [.addr 8 0 0]), (.tmp 9, .val false [.addr 9 0 0]), (.tmp 10, .val false [.own 38 T_A3 0 p10]), (.tmp 11, .val false [.int .i64 p11])]
theorem e_spec_l2Stack (n : Nat) (F_spec_l2Empty : Ft_spec_l2Empty) (F_spec_l2All : Ft_spec_l2All) (a0 a1 a2 : Int) (a3 : List Int) : runF (X_spec_l2Stack n F_spec_l2Empty F_spec_l2All) B_spec_l2Stack As_spec_l2Stack R_spec_l2Stack M_spec_l2Stack (a0, a1, a2, a3, ()) = 
 Option.bind (F_spec_l2Empty (a0, a1, a2, ())) fun r0 =>
 Option.bind (F_spec_l2All (r0.1, ())) fun r1 =>
 L_spec_l2Stack_4 n F_spec_l2Empty F_spec_l2All n 0 0 0 ([] : List D_A3) r0.1.1 r0.1.2.1 r0.1.2.2.1 r0.1.2.2.2.1 a1 a3 r1.1 0 := by kernel_rfl
theorem e_spec_l2Stack_4 (n : Nat) (F_spec_l2Empty : Ft_spec_l2Empty) (F_spec_l2All : Ft_spec_l2All) (m0 : Nat) (p0 p1 p2 : Int) (p3 : List D_A3) (p4 p5 p6 : Int) (p7 : List D_A3) (p8 : Int) (p9 : List Int) (p10 : List D_A3) (p11 : Int) : L_spec_l2Stack_4 n F_spec_l2Empty F_spec_l2All (m0 + 1) p0 p1 p2 p3 p4 p5 p6 p7 p8 p9 p10 p11 = 
 bif decide (p11 < (List.length p10 : Int)) then
 bif inB p11 (List.length p10) then
 bif inB p11 (List.length p10) then
 bif inB p11 (List.length p10) then
 bif inB (IntKind.wrap .i64 ((IntKind.wrap .i64 (((nth T_A3 p10 p11)).1 * p8)) + (((nth T_A3 p10 p11)).2).1)) (List.length p9) then
 bif decide (((((nth T_A3 p10 p11)).2).2).1 < (nth ((.int .i64) : Ty) p9 (IntKind.wrap .i64 ((IntKind.wrap .i64 (((nth T_A3 p10 p11)).1 * p8)) + (((nth T_A3 p10 p11)).2).1)))) then
 bif inB p11 (List.length p10) then
 bif (decide (((List.length p7) + (List.length ([(nth T_A3 p10 p11)] : List D_A3))) * 24 ≤ 140737488355328) && decide (((List.length p7) + (List.length ([(nth T_A3 p10 p11)] : List D_A3))) ≤ 140737488355328)) then
 L_spec_l2Stack_4 n F_spec_l2Empty F_spec_l2All m0 p0 p1 p2 p3 p4 p5 p6 (p7 ++ ([(nth T_A3 p10 p11)] : List D_A3)) p8 p9 p10 (IntKind.wrap .i64 (p11 + 1))
 else none
 else none
 else
 L_spec_l2Stack_4 n F_spec_l2Empty F_spec_l2All m0 p0 p1 p2 p3 p4 p5 p6 p7 p8 p9 p10 (IntKind.wrap .i64 (p11 + 1))
 else none
 else none
 else none
 else none
 else
 some ((p4, (p5, (p6, (p7, ())))), ()) := by kernel_rfl
noncomputable def P_spec_l2Stack : Ft_spec_l2Stack := hid (runF (X_spec_l2Stack N P_spec_l2Empty P_spec_l2All) B_spec_l2Stack As_spec_l2Stack R_spec_l2Stack M_spec_l2Stack)
theorem h_spec_l2Stack : P_spec_l2Stack = runF (X_spec_l2Stack N P_spec_l2Empty P_spec_l2All) B_spec_l2Stack As_spec_l2Stack R_spec_l2Stack M_spec_l2Stack := hid_eq _
noncomputable def C_spec_l2Stack : Contract := ⟨As_spec_l2Stack, R_spec_l2Stack, M_spec_l2Stack, P_spec_l2Stack⟩
theorem s_spec_l2Stack : Sound Tryz.prog GG 131 C_spec_l2Stack := by
 unfold C_spec_l2Stack; rw [h_spec_l2Stack]
 exact sound_of_run (fn := Tryz.f131) hmix hstable (tyOK_of ttOK) (hglob (X_spec_l2Stack N P_spec_l2Empty P_spec_l2All)) (conOK_of (X := X_spec_l2Stack N P_spec_l2Empty P_spec_l2All) ⟨s_spec_l2Empty, s_spec_l2All, trivial⟩) (mconOK_of (X := X_spec_l2Stack N P_spec_l2Empty P_spec_l2All) trivial) (by kernel_rfl) (by kernel_rfl) (by kernel_rfl) (by kernel_rfl) (by kernel_rfl) (of_decide_eq_true (by kernel_rfl))
noncomputable def l_spec_l2Stack_4 : Nat → Int → Int → Int → (List D_A3) → Int → Int → Int → (List D_A3) → Int → (List Int) → (List D_A3) → Int → Option (denL R_spec_l2Stack) := hid (fun m0 p0 p1 p2 p3 p4 p5 p6 p7 p8 p9 p10 p11 => L_spec_l2Stack_4 N P_spec_l2Empty P_spec_l2All m0 p0 p1 p2 p3 p4 p5 p6 p7 p8 p9 p10 p11)
theorem h_spec_l2Stack_4 : l_spec_l2Stack_4 = fun m0 p0 p1 p2 p3 p4 p5 p6 p7 p8 p9 p10 p11 => L_spec_l2Stack_4 N P_spec_l2Empty P_spec_l2All m0 p0 p1 p2 p3 p4 p5 p6 p7 p8 p9 p10 p11 := hid_eq _
theorem p_spec_l2Stack (a0 a1 a2 : Int) (a3 : List Int) : P_spec_l2Stack (a0, a1, a2, a3, ()) = 
 Option.bind (P_spec_l2Empty (a0, a1, a2, ())) fun r0 =>
 Option.bind (P_spec_l2All (r0.1, ())) fun r1 =>
 l_spec_l2Stack_4 N 0 0 0 ([] : List D_A3) r0.1.1 r0.1.2.1 r0.1.2.2.1 r0.1.2.2.2.1 a1 a3 r1.1 0 := by
 rewrite [h_spec_l2Stack, h_spec_l2Stack_4]
 exact e_spec_l2Stack N P_spec_l2Empty P_spec_l2All a0 a1 a2 a3
theorem q_spec_l2Stack_4 (m0 : Nat) (p0 p1 p2 : Int) (p3 : List D_A3) (p4 p5 p6 : Int) (p7 : List D_A3) (p8 : Int) (p9 : List Int) (p10 : List D_A3) (p11 : Int) : l_spec_l2Stack_4 (m0 + 1) p0 p1 p2 p3 p4 p5 p6 p7 p8 p9 p10 p11 = 
 bif decide (p11 < (List.length p10 : Int)) then
 bif inB p11 (List.length p10) then
 bif inB p11 (List.length p10) then
 bif inB p11 (List.length p10) then
 bif inB (IntKind.wrap .i64 ((IntKind.wrap .i64 (((nth T_A3 p10 p11)).1 * p8)) + (((nth T_A3 p10 p11)).2).1)) (List.length p9) then
 bif decide (((((nth T_A3 p10 p11)).2).2).1 < (nth ((.int .i64) : Ty) p9 (IntKind.wrap .i64 ((IntKind.wrap .i64 (((nth T_A3 p10 p11)).1 * p8)) + (((nth T_A3 p10 p11)).2).1)))) then
 bif inB p11 (List.length p10) then
 bif (decide (((List.length p7) + (List.length ([(nth T_A3 p10 p11)] : List D_A3))) * 24 ≤ 140737488355328) && decide (((List.length p7) + (List.length ([(nth T_A3 p10 p11)] : List D_A3))) ≤ 140737488355328)) then
 l_spec_l2Stack_4 m0 p0 p1 p2 p3 p4 p5 p6 (p7 ++ ([(nth T_A3 p10 p11)] : List D_A3)) p8 p9 p10 (IntKind.wrap .i64 (p11 + 1))
 else none
 else none
 else
 l_spec_l2Stack_4 m0 p0 p1 p2 p3 p4 p5 p6 p7 p8 p9 p10 (IntKind.wrap .i64 (p11 + 1))
 else none
 else none
 else none
 else none
 else
 some ((p4, (p5, (p6, (p7, ())))), ()) := by
 rewrite [h_spec_l2Stack_4]
 exact e_spec_l2Stack_4 N P_spec_l2Empty P_spec_l2All m0 p0 p1 p2 p3 p4 p5 p6 p7 p8 p9 p10 p11

abbrev As_spec_l2Long : List ATy := [.data true T_Heap, .data false (.int .i64)]
abbrev R_spec_l2Long : List (Bool × Ty) := [(false, (.int .i64))]
abbrev M_spec_l2Long : List RMode := []
abbrev Ft_spec_l2Long : Type := D_Heap × Int × Unit → Option (Int × Unit)
noncomputable def X_spec_l2Long (n : Nat) : Ctx := { types := TT, globals := [], con := [], keep := [], results := [.tmp 4], ntmps := 14, n := n }
noncomputable def B_spec_l2Long : Code := (Tryz.f90.body).getD .skip
theorem e_spec_l2Long (n : Nat) (a0 : D_Heap) (a1 : Int) : runF (X_spec_l2Long n) B_spec_l2Long As_spec_l2Long R_spec_l2Long M_spec_l2Long (a0, a1, ()) = 
 bif inB a1 3 then
 some ((bif decide (a1 = (0 : Int)) then a0.1 else (bif decide (a1 = (1 : Int)) then a0.2.1 else a0.2.2.1)), ())
 else none := by kernel_rfl
noncomputable def P_spec_l2Long : Ft_spec_l2Long := hid (runF (X_spec_l2Long N) B_spec_l2Long As_spec_l2Long R_spec_l2Long M_spec_l2Long)
theorem h_spec_l2Long : P_spec_l2Long = runF (X_spec_l2Long N) B_spec_l2Long As_spec_l2Long R_spec_l2Long M_spec_l2Long := hid_eq _
noncomputable def C_spec_l2Long : Contract := ⟨As_spec_l2Long, R_spec_l2Long, M_spec_l2Long, P_spec_l2Long⟩
theorem s_spec_l2Long : Sound Tryz.prog GG 90 C_spec_l2Long := by
 unfold C_spec_l2Long; rw [h_spec_l2Long]
 exact sound_of_run (fn := Tryz.f90) hmix hstable (tyOK_of ttOK) (hglob (X_spec_l2Long N)) (conOK_of (X := X_spec_l2Long N) trivial) (mconOK_of (X := X_spec_l2Long N) trivial) (by kernel_rfl) (by kernel_rfl) (by kernel_rfl) (by kernel_rfl) (by kernel_rfl) (of_decide_eq_true (by kernel_rfl))
theorem p_spec_l2Long (a0 : D_Heap) (a1 : Int) : P_spec_l2Long (a0, a1, ()) = 
 bif inB a1 3 then
 some ((bif decide (a1 = (0 : Int)) then a0.1 else (bif decide (a1 = (1 : Int)) then a0.2.1 else a0.2.2.1)), ())
 else none := by
 rewrite [h_spec_l2Long]
 exact e_spec_l2Long N a0 a1

abbrev As_spec_l2Others : List ATy := [.data false (.int .i64)]
abbrev R_spec_l2Others : List (Bool × Ty) := [(false, (.int .i64)), (false, (.int .i64))]
abbrev M_spec_l2Others : List RMode := []
abbrev Ft_spec_l2Others : Type := Int × Unit → Option (Int × Int × Unit)
noncomputable def X_spec_l2Others (n : Nat) : Ctx := { types := TT, globals := [], con := [], keep := [], results := [.tmp 2, .tmp 3], ntmps := 9, n := n }
noncomputable def B_spec_l2Others : Code := (Tryz.f155.body).getD .skip
theorem e_spec_l2Others (n : Nat) (a0 : Int) : runF (X_spec_l2Others n) B_spec_l2Others As_spec_l2Others R_spec_l2Others M_spec_l2Others (a0, ()) = 
 bif decide (a0 = 0) then
 some (1, 2, ())
 else
 bif decide (a0 = 1) then
 some (0, 2, ())
 else
 some (0, 1, ()) := by kernel_rfl
noncomputable def P_spec_l2Others : Ft_spec_l2Others := hid (runF (X_spec_l2Others N) B_spec_l2Others As_spec_l2Others R_spec_l2Others M_spec_l2Others)
theorem h_spec_l2Others : P_spec_l2Others = runF (X_spec_l2Others N) B_spec_l2Others As_spec_l2Others R_spec_l2Others M_spec_l2Others := hid_eq _
noncomputable def C_spec_l2Others : Contract := ⟨As_spec_l2Others, R_spec_l2Others, M_spec_l2Others, P_spec_l2Others⟩
theorem s_spec_l2Others : Sound Tryz.prog GG 155 C_spec_l2Others := by
 unfold C_spec_l2Others; rw [h_spec_l2Others]
 exact sound_of_run (fn := Tryz.f155) hmix hstable (tyOK_of ttOK) (hglob (X_spec_l2Others N)) (conOK_of (X := X_spec_l2Others N) trivial) (mconOK_of (X := X_spec_l2Others N) trivial) (by kernel_rfl) (by kernel_rfl) (by kernel_rfl) (by kernel_rfl) (by kernel_rfl) (of_decide_eq_true (by kernel_rfl))
theorem p_spec_l2Others (a0 : Int) : P_spec_l2Others (a0, ()) = 
 bif decide (a0 = 0) then
 some (1, 2, ())
 else
 bif decide (a0 = 1) then
 some (0, 2, ())
 else
 some (0, 1, ()) := by
 rewrite [h_spec_l2Others]
 exact e_spec_l2Others N a0

abbrev As_spec_l2View : List ATy := [.data true T_Heap, .data false (.int .i64)]
abbrev R_spec_l2View : List (Bool × Ty) := [(false, (.sl (.int .i64)))]
abbrev M_spec_l2View : List RMode := [.own 3]
abbrev Ft_spec_l2View : Type := D_Heap × Int × Unit → Option ((List Int) × Unit)
noncomputable def X_spec_l2View (n : Nat) (F_spec_l2Long : Ft_spec_l2Long) (F_spec_l2Others : Ft_spec_l2Others) : Ctx := { types := TT, globals := [], con := [(90, ⟨As_spec_l2Long, R_spec_l2Long, M_spec_l2Long, F_spec_l2Long⟩), (155, ⟨As_spec_l2Others, R_spec_l2Others, M_spec_l2Others, F_spec_l2Others⟩)], keep := [(4, ⟨[.box 2, .tmp 2, .tmp 5, .tmp 6, .tmp 7, .tmp 8], []⟩)], results := [.tmp 4], ntmps := 54, n := n }
noncomputable def B_spec_l2View : Code := (Tryz.f147.body).getD .skip
noncomputable def L_spec_l2View_4 (n : Nat) (F_spec_l2Long : Ft_spec_l2Long) (F_spec_l2Others : Ft_spec_l2Others) (m0 : Nat) (p0 p1 p2 : Int) (p3 : List D_A3) (p4 p5 : Int) (p6 : List Int) (p7 : Int) : Option (denL R_spec_l2View) := loopF (X_spec_l2View n F_spec_l2Long F_spec_l2Others) B_spec_l2View R_spec_l2View M_spec_l2View 4 [m0] [(.ver, .num 1), (.box 2, .box 0 false [.int .i64 p0, .int .i64 p1, .int .i64 p2, .imm T_A3 p3 (some 3)]), (.tmp 2, .val false [.addr 2 0 0]), (.tmp 5, .val false [.int .i64 p4]), (.tmp 6, .val false [.int .i64 p5]), (.tmp 7, .val false [.own 3 (.int .i64) 0 p6]), (.tmp 8, .val false [.int .i64 p7])]
theorem e_spec_l2View (n : Nat) (F_spec_l2Long : Ft_spec_l2Long) (F_spec_l2Others : Ft_spec_l2Others) (a0 : D_Heap) (a1 : Int) : runF (X_spec_l2View n F_spec_l2Long F_spec_l2Others) B_spec_l2View As_spec_l2View R_spec_l2View M_spec_l2View (a0, a1, ()) = 
 Option.bind (F_spec_l2Others (a1, ())) fun r0 =>
 Option.bind (F_spec_l2Long (a0, r0.1, ())) fun r1 =>
 Option.bind (F_spec_l2Long (a0, r0.2.1, ())) fun r2 =>
 bif (decide ((0 : Int) ≤ (IntKind.wrap .i64 (r1.1 * r2.1))) && decide (((IntKind.wrap .i64 (r1.1 * r2.1)) : Int) ≤ (IntKind.wrap .i64 (r1.1 * r2.1))) && decide (((IntKind.wrap .i64 (r1.1 * r2.1)) : Int) * (8 : Nat) ≤ 140737488355328) && decide (((IntKind.wrap .i64 (r1.1 * r2.1)) : Int) ≤ 140737488355328)) then
 L_spec_l2View_4 n F_spec_l2Long F_spec_l2Others n a0.1 a0.2.1 a0.2.2.1 a0.2.2.2.1 r0.1 r0.2.1 (List.replicate (Int.toNat (IntKind.wrap .i64 (r1.1 * r2.1))) (Ty.dflt ((.int .i64) : Ty))) 0
 else none := by kernel_rfl
theorem e_spec_l2View_4 (n : Nat) (F_spec_l2Long : Ft_spec_l2Long) (F_spec_l2Others : Ft_spec_l2Others) (m0 : Nat) (p0 p1 p2 : Int) (p3 : List D_A3) (p4 p5 : Int) (p6 : List Int) (p7 : Int) : L_spec_l2View_4 n F_spec_l2Long F_spec_l2Others (m0 + 1) p0 p1 p2 p3 p4 p5 p6 p7 = 
 bif decide (p7 < (List.length p3 : Int)) then
 bif inB p7 (List.length p3) then
 bif inB p4 3 then
 Option.bind (F_spec_l2Long ((p0, (p1, (p2, (p3, ())))), p5, ())) fun r3 =>
 bif inB p7 (List.length p3) then
 bif inB p5 3 then
 bif inB (IntKind.wrap .i64 ((IntKind.wrap .i64 ((bif decide (p4 = (0 : Int)) then ((nth T_A3 p3 p7)).1 else (bif decide (p4 = (1 : Int)) then (((nth T_A3 p3 p7)).2).1 else ((((nth T_A3 p3 p7)).2).2).1)) * r3.1)) + (bif decide (p5 = (0 : Int)) then ((nth T_A3 p3 p7)).1 else (bif decide (p5 = (1 : Int)) then (((nth T_A3 p3 p7)).2).1 else ((((nth T_A3 p3 p7)).2).2).1)))) (List.length p6) then
 bif inB (IntKind.wrap .i64 ((IntKind.wrap .i64 ((bif decide (p4 = (0 : Int)) then ((nth T_A3 p3 p7)).1 else (bif decide (p4 = (1 : Int)) then (((nth T_A3 p3 p7)).2).1 else ((((nth T_A3 p3 p7)).2).2).1)) * r3.1)) + (bif decide (p5 = (0 : Int)) then ((nth T_A3 p3 p7)).1 else (bif decide (p5 = (1 : Int)) then (((nth T_A3 p3 p7)).2).1 else ((((nth T_A3 p3 p7)).2).2).1)))) (List.length p6) then
 L_spec_l2View_4 n F_spec_l2Long F_spec_l2Others m0 p0 p1 p2 p3 p4 p5 (List.set p6 (Int.toNat (IntKind.wrap .i64 ((IntKind.wrap .i64 ((bif decide (p4 = (0 : Int)) then ((nth T_A3 p3 p7)).1 else (bif decide (p4 = (1 : Int)) then (((nth T_A3 p3 p7)).2).1 else ((((nth T_A3 p3 p7)).2).2).1)) * r3.1)) + (bif decide (p5 = (0 : Int)) then ((nth T_A3 p3 p7)).1 else (bif decide (p5 = (1 : Int)) then (((nth T_A3 p3 p7)).2).1 else ((((nth T_A3 p3 p7)).2).2).1))))) (IntKind.wrap .i64 ((nth ((.int .i64) : Ty) p6 (IntKind.wrap .i64 ((IntKind.wrap .i64 ((bif decide (p4 = (0 : Int)) then ((nth T_A3 p3 p7)).1 else (bif decide (p4 = (1 : Int)) then (((nth T_A3 p3 p7)).2).1 else ((((nth T_A3 p3 p7)).2).2).1)) * r3.1)) + (bif decide (p5 = (0 : Int)) then ((nth T_A3 p3 p7)).1 else (bif decide (p5 = (1 : Int)) then (((nth T_A3 p3 p7)).2).1 else ((((nth T_A3 p3 p7)).2).2).1))))) + 1))) (IntKind.wrap .i64 (p7 + 1))
 else none
 else none
 else none
 else none
 else none
 else none
 else
 some (p6, ()) := by kernel_rfl
noncomputable def P_spec_l2View : Ft_spec_l2View := hid (runF (X_spec_l2View N P_spec_l2Long P_spec_l2Others) B_spec_l2View As_spec_l2View R_spec_l2View M_spec_l2View)
theorem h_spec_l2View : P_spec_l2View = runF (X_spec_l2View N P_spec_l2Long P_spec_l2Others) B_spec_l2View As_spec_l2View R_spec_l2View M_spec_l2View := hid_eq _
noncomputable def C_spec_l2View : Contract := ⟨As_spec_l2View, R_spec_l2View, M_spec_l2View, P_spec_l2View⟩
theorem s_spec_l2View : Sound Tryz.prog GG 147 C_spec_l2View := by
 unfold C_spec_l2View; rw [h_spec_l2View]
 exact sound_of_run (fn := Tryz.f147) hmix hstable (tyOK_of ttOK) (hglob (X_spec_l2View N P_spec_l2Long P_spec_l2Others)) (conOK_of (X := X_spec_l2View N P_spec_l2Long P_spec_l2Others) ⟨s_spec_l2Long, s_spec_l2Others, trivial⟩) (mconOK_of (X := X_spec_l2View N P_spec_l2Long P_spec_l2Others) trivial) (by kernel_rfl) (by kernel_rfl) (by kernel_rfl) (by kernel_rfl) (by kernel_rfl) (of_decide_eq_true (by kernel_rfl))
noncomputable def l_spec_l2View_4 : Nat → Int → Int → Int → (List D_A3) → Int → Int → (List Int) → Int → Option (denL R_spec_l2View) := hid (fun m0 p0 p1 p2 p3 p4 p5 p6 p7 => L_spec_l2View_4 N P_spec_l2Long P_spec_l2Others m0 p0 p1 p2 p3 p4 p5 p6 p7)
theorem h_spec_l2View_4 : l_spec_l2View_4 = fun m0 p0 p1 p2 p3 p4 p5 p6 p7 => L_spec_l2View_4 N P_spec_l2Long P_spec_l2Others m0 p0 p1 p2 p3 p4 p5 p6 p7 := hid_eq _
theorem p_spec_l2View (a0 : D_Heap) (a1 : Int) : P_spec_l2View (a0, a1, ()) = 
 Option.bind (P_spec_l2Others (a1, ())) fun r0 =>
 Option.bind (P_spec_l2Long (a0, r0.1, ())) fun r1 =>
 Option.bind (P_spec_l2Long (a0, r0.2.1, ())) fun r2 =>
 bif (decide ((0 : Int) ≤ (IntKind.wrap .i64 (r1.1 * r2.1))) && decide (((IntKind.wrap .i64 (r1.1 * r2.1)) : Int) ≤ (IntKind.wrap .i64 (r1.1 * r2.1))) && decide (((IntKind.wrap .i64 (r1.1 * r2.1)) : Int) * (8 : Nat) ≤ 140737488355328) && decide (((IntKind.wrap .i64 (r1.1 * r2.1)) : Int) ≤ 140737488355328)) then
 l_spec_l2View_4 N a0.1 a0.2.1 a0.2.2.1 a0.2.2.2.1 r0.1 r0.2.1 (List.replicate (Int.toNat (IntKind.wrap .i64 (r1.1 * r2.1))) (Ty.dflt ((.int .i64) : Ty))) 0
 else none := by
 rewrite [h_spec_l2View, h_spec_l2View_4]
 exact e_spec_l2View N P_spec_l2Long P_spec_l2Others a0 a1
theorem q_spec_l2View_4 (m0 : Nat) (p0 p1 p2 : Int) (p3 : List D_A3) (p4 p5 : Int) (p6 : List Int) (p7 : Int) : l_spec_l2View_4 (m0 + 1) p0 p1 p2 p3 p4 p5 p6 p7 = 
 bif decide (p7 < (List.length p3 : Int)) then
 bif inB p7 (List.length p3) then
 bif inB p4 3 then
 Option.bind (P_spec_l2Long ((p0, (p1, (p2, (p3, ())))), p5, ())) fun r3 =>
 bif inB p7 (List.length p3) then
 bif inB p5 3 then
 bif inB (IntKind.wrap .i64 ((IntKind.wrap .i64 ((bif decide (p4 = (0 : Int)) then ((nth T_A3 p3 p7)).1 else (bif decide (p4 = (1 : Int)) then (((nth T_A3 p3 p7)).2).1 else ((((nth T_A3 p3 p7)).2).2).1)) * r3.1)) + (bif decide (p5 = (0 : Int)) then ((nth T_A3 p3 p7)).1 else (bif decide (p5 = (1 : Int)) then (((nth T_A3 p3 p7)).2).1 else ((((nth T_A3 p3 p7)).2).2).1)))) (List.length p6) then
 bif inB (IntKind.wrap .i64 ((IntKind.wrap .i64 ((bif decide (p4 = (0 : Int)) then ((nth T_A3 p3 p7)).1 else (bif decide (p4 = (1 : Int)) then (((nth T_A3 p3 p7)).2).1 else ((((nth T_A3 p3 p7)).2).2).1)) * r3.1)) + (bif decide (p5 = (0 : Int)) then ((nth T_A3 p3 p7)).1 else (bif decide (p5 = (1 : Int)) then (((nth T_A3 p3 p7)).2).1 else ((((nth T_A3 p3 p7)).2).2).1)))) (List.length p6) then
 l_spec_l2View_4 m0 p0 p1 p2 p3 p4 p5 (List.set p6 (Int.toNat (IntKind.wrap .i64 ((IntKind.wrap .i64 ((bif decide (p4 = (0 : Int)) then ((nth T_A3 p3 p7)).1 else (bif decide (p4 = (1 : Int)) then (((nth T_A3 p3 p7)).2).1 else ((((nth T_A3 p3 p7)).2).2).1)) * r3.1)) + (bif decide (p5 = (0 : Int)) then ((nth T_A3 p3 p7)).1 else (bif decide (p5 = (1 : Int)) then (((nth T_A3 p3 p7)).2).1 else ((((nth T_A3 p3 p7)).2).2).1))))) (IntKind.wrap .i64 ((nth ((.int .i64) : Ty) p6 (IntKind.wrap .i64 ((IntKind.wrap .i64 ((bif decide (p4 = (0 : Int)) then ((nth T_A3 p3 p7)).1 else (bif decide (p4 = (1 : Int)) then (((nth T_A3 p3 p7)).2).1 else ((((nth T_A3 p3 p7)).2).2).1)) * r3.1)) + (bif decide (p5 = (0 : Int)) then ((nth T_A3 p3 p7)).1 else (bif decide (p5 = (1 : Int)) then (((nth T_A3 p3 p7)).2).1 else ((((nth T_A3 p3 p7)).2).2).1))))) + 1))) (IntKind.wrap .i64 (p7 + 1))
 else none
 else none
 else none
 else none
 else none
 else none
 else
 some (p6, ()) := by
 rewrite [h_spec_l2View_4]
 exact e_spec_l2View_4 N P_spec_l2Long P_spec_l2Others m0 p0 p1 p2 p3 p4 p5 p6 p7

abbrev As_spec_l2Heights : List ATy := [.data true T_Heap]
abbrev R_spec_l2Heights : List (Bool × Ty) := [(false, (.sl (.int .i64)))]
abbrev M_spec_l2Heights : List RMode := [.own 3]
abbrev Ft_spec_l2Heights : Type := D_Heap × Unit → Option ((List Int) × Unit)
noncomputable def X_spec_l2Heights (n : Nat) (F_spec_l2View : Ft_spec_l2View) : Ctx := { types := TT, globals := [], con := [(147, ⟨As_spec_l2View, R_spec_l2View, M_spec_l2View, F_spec_l2View⟩)], keep := [], results := [.tmp 2], ntmps := 5, n := n }
noncomputable def B_spec_l2Heights : Code := (Tryz.f132.body).getD .skip
theorem e_spec_l2Heights (n : Nat) (F_spec_l2View : Ft_spec_l2View) (a0 : D_Heap) : runF (X_spec_l2Heights n F_spec_l2View) B_spec_l2Heights As_spec_l2Heights R_spec_l2Heights M_spec_l2Heights (a0, ()) = 
 Option.bind (F_spec_l2View (a0, 2, ())) fun r0 =>
 some (r0.1, ()) := by kernel_rfl
noncomputable def P_spec_l2Heights : Ft_spec_l2Heights := hid (runF (X_spec_l2Heights N P_spec_l2View) B_spec_l2Heights As_spec_l2Heights R_spec_l2Heights M_spec_l2Heights)
theorem h_spec_l2Heights : P_spec_l2Heights = runF (X_spec_l2Heights N P_spec_l2View) B_spec_l2Heights As_spec_l2Heights R_spec_l2Heights M_spec_l2Heights := hid_eq _
noncomputable def C_spec_l2Heights : Contract := ⟨As_spec_l2Heights, R_spec_l2Heights, M_spec_l2Heights, P_spec_l2Heights⟩
theorem s_spec_l2Heights : Sound Tryz.prog GG 132 C_spec_l2Heights := by
 unfold C_spec_l2Heights; rw [h_spec_l2Heights]
 exact sound_of_run (fn := Tryz.f132) hmix hstable (tyOK_of ttOK) (hglob (X_spec_l2Heights N P_spec_l2View)) (conOK_of (X := X_spec_l2Heights N P_spec_l2View) ⟨s_spec_l2View, trivial⟩) (mconOK_of (X := X_spec_l2Heights N P_spec_l2View) trivial) (by kernel_rfl) (by kernel_rfl) (by kernel_rfl) (by kernel_rfl) (by kernel_rfl) (of_decide_eq_true (by kernel_rfl))
theorem p_spec_l2Heights (a0 : D_Heap) : P_spec_l2Heights (a0, ()) = 
 Option.bind (P_spec_l2View (a0, 2, ())) fun r0 =>
 some (r0.1, ()) := by
 rewrite [h_spec_l2Heights]
 exact e_spec_l2Heights N P_spec_l2View a0

abbrev As_l1Cur_someHeap : List ATy := [.lptr T_l1Cur, .data false (.int .i64), .data false (.int .i64), .data false (.int .i64)]
abbrev R_l1Cur_someHeap : List (Bool × Ty) := [(true, T_Heap)]
abbrev M_l1Cur_someHeap : List RMode := [.own 38]
abbrev Ft_l1Cur_someHeap : Type := D_l1Cur × Int × Int × Int × Unit → Option ((D_Heap × Unit) × (D_l1Cur × Unit))
noncomputable def X_l1Cur_someHeap (n : Nat) (F_l1Cur_one : Ft_l1Cur_one) (F_spec_l2Sides : Ft_spec_l2Sides) (F_l1Cur_pick : Ft_l1Cur_pick) (F_l1Cur_among : Ft_l1Cur_among) (F_spec_l2Empty : Ft_spec_l2Empty) (F_spec_l2All : Ft_spec_l2All) (F_spec_OtherCells : Ft_spec_OtherCells) (F_spec_l2Stack : Ft_spec_l2Stack) (F_spec_l2Heights : Ft_spec_l2Heights) : Ctx := { types := TT, globals := [], con := [(67, ⟨As_spec_l2Sides, R_spec_l2Sides, M_spec_l2Sides, F_spec_l2Sides⟩), (94, ⟨As_spec_l2Empty, R_spec_l2Empty, M_spec_l2Empty, F_spec_l2Empty⟩), (103, ⟨As_spec_l2All, R_spec_l2All, M_spec_l2All, F_spec_l2All⟩), (130, ⟨As_spec_OtherCells, R_spec_OtherCells, M_spec_OtherCells, F_spec_OtherCells⟩), (131, ⟨As_spec_l2Stack, R_spec_l2Stack, M_spec_l2Stack, F_spec_l2Stack⟩), (132, ⟨As_spec_l2Heights, R_spec_l2Heights, M_spec_l2Heights, F_spec_l2Heights⟩)], mcon := [(46, ⟨As_l1Cur_one, R_l1Cur_one, M_l1Cur_one, F_l1Cur_one⟩), (85, ⟨As_l1Cur_pick, R_l1Cur_pick, M_l1Cur_pick, F_l1Cur_pick⟩), (88, ⟨As_l1Cur_among, R_l1Cur_among, M_l1Cur_among, F_l1Cur_among⟩)], keep := [(6, ⟨[.box 8, .box 9, .box 1000000, .tmp 0, .tmp 1, .tmp 2, .tmp 3, .tmp 8, .tmp 9, .tmp 10, .tmp 11, .tmp 12], []⟩)], results := [.cell 8 26], ntmps := 64, n := n }
noncomputable def B_l1Cur_someHeap : Code := (Tryz.f110.body).getD .skip
noncomputable def L_l1Cur_someHeap_6 (n : Nat) (F_l1Cur_one : Ft_l1Cur_one) (F_spec_l2Sides : Ft_spec_l2Sides) (F_l1Cur_pick : Ft_l1Cur_pick) (F_l1Cur_among : Ft_l1Cur_among) (F_spec_l2Empty : Ft_spec_l2Empty) (F_spec_l2All : Ft_spec_l2All) (F_spec_OtherCells : Ft_spec_OtherCells) (F_spec_l2Stack : Ft_spec_l2Stack) (F_spec_l2Heights : Ft_spec_l2Heights) (m0 : Nat) (p0 p1 p2 : Int) (p3 : List D_A3) (p4 p5 p6 : Int) (p7 : List D_A3) (p8 : List Int) (p9 p10 : Int) (p11 p12 : Int) (p13 p14 : Int) (p15 : List D_A3) (p16 : Int) : Option (denL R_l1Cur_someHeap × denM As_l1Cur_someHeap) := loopFM (X_l1Cur_someHeap n F_l1Cur_one F_spec_l2Sides F_l1Cur_pick F_l1Cur_among F_spec_l2Empty F_spec_l2All F_spec_OtherCells F_spec_l2Stack F_spec_l2Heights) B_l1Cur_someHeap As_l1Cur_someHeap R_l1Cur_someHeap M_l1Cur_someHeap 6 [m0] [(.ver, .num 1), (.box 8, .box 0 false [.int .i64 p0, .int .i64 p1, .int .i64 p2, .own 38 T_A3 0 p3]), (.box 9, .box 0 false [.int .i64 p4, .int .i64 p5, .int .i64 p6, .own 38 T_A3 0 p7]), (.box 1000000, .box 0 false [.imm (.int .u8) p8 (some 4), .int .i64 p9, .int .u64 p10]), (.tmp 0, .val false [.addr 1000000 0 0]), (.tmp 1, .val false [.int .i64 p11]), (.tmp 2, .val false [.int .i64 p12]), (.tmp 3, .val false [.int .i64 p13]), (.tmp 8, .val false [.addr 8 0 0]), (.tmp 9, .val false [.addr 9 0 0]), (.tmp 10, .val false [.int .i64 p14]), (.tmp 11, .val false [.own 38 T_A3 0 p15]), (.tmp 12, .val false [.int .i64 p16])]
theorem e_l1Cur_someHeap (n : Nat) (F_l1Cur_one : Ft_l1Cur_one) (F_spec_l2Sides : Ft_spec_l2Sides) (F_l1Cur_pick : Ft_l1Cur_pick) (F_l1Cur_among : Ft_l1Cur_among) (F_spec_l2Empty : Ft_spec_l2Empty) (F_spec_l2All : Ft_spec_l2All) (F_spec_OtherCells : Ft_spec_OtherCells) (F_spec_l2Stack : Ft_spec_l2Stack) (F_spec_l2Heights : Ft_spec_l2Heights) (a0 : D_l1Cur) (a1 a2 a3 : Int) : runFM (X_l1Cur_someHeap n F_l1Cur_one F_spec_l2Sides F_l1Cur_pick F_l1Cur_among F_spec_l2Empty F_spec_l2All F_spec_OtherCells F_spec_l2Stack F_spec_l2Heights) B_l1Cur_someHeap As_l1Cur_someHeap R_l1Cur_someHeap M_l1Cur_someHeap (a0, a1, a2, a3, ()) = 
 Option.bind (F_spec_l2Empty (a1, a2, a3, ())) fun r0 =>
 Option.bind (F_l1Cur_among (a0, ([2, 3, 2, 4] : List Int), ())) fun r1 =>
 Option.bind (F_spec_l2Sides (a1, a2, a3, ())) fun r2 =>
 bif !r2.1 then
 some ((r0.1, ()), ((a0.1, r1.2.1.2), ()))
 else
 Option.bind (F_spec_l2All (r0.1, ())) fun r4 =>
 L_l1Cur_someHeap_6 n F_l1Cur_one F_spec_l2Sides F_l1Cur_pick F_l1Cur_among F_spec_l2Empty F_spec_l2All F_spec_OtherCells F_spec_l2Stack F_spec_l2Heights n 0 0 0 ([] : List D_A3) r0.1.1 r0.1.2.1 r0.1.2.2.1 r0.1.2.2.2.1 a0.1 r1.2.1.2.1 r1.2.1.2.2.1 a1 a2 a3 r1.1.1 r4.1 0 := by kernel_rfl
theorem e_l1Cur_someHeap_6 (n : Nat) (F_l1Cur_one : Ft_l1Cur_one) (F_spec_l2Sides : Ft_spec_l2Sides) (F_l1Cur_pick : Ft_l1Cur_pick) (F_l1Cur_among : Ft_l1Cur_among) (F_spec_l2Empty : Ft_spec_l2Empty) (F_spec_l2All : Ft_spec_l2All) (F_spec_OtherCells : Ft_spec_OtherCells) (F_spec_l2Stack : Ft_spec_l2Stack) (F_spec_l2Heights : Ft_spec_l2Heights) (m0 : Nat) (p0 p1 p2 : Int) (p3 : List D_A3) (p4 p5 p6 : Int) (p7 : List D_A3) (p8 : List Int) (p9 p10 : Int) (p11 p12 : Int) (p13 p14 : Int) (p15 : List D_A3) (p16 : Int) : L_l1Cur_someHeap_6 n F_l1Cur_one F_spec_l2Sides F_l1Cur_pick F_l1Cur_among F_spec_l2Empty F_spec_l2All F_spec_OtherCells F_spec_l2Stack F_spec_l2Heights (m0 + 1) p0 p1 p2 p3 p4 p5 p6 p7 p8 p9 p10 p11 p12 p13 p14 p15 p16 = 
 bif decide (p16 < (List.length p15 : Int)) then
 Option.bind (F_l1Cur_one ((p8, (p9, (p10, ()))), p14, ())) fun r1 =>
 bif r1.1.1 then
 bif inB p16 (List.length p15) then
 bif (decide (((List.length p7) + (List.length ([(nth T_A3 p15 p16)] : List D_A3))) * 24 ≤ 140737488355328) && decide (((List.length p7) + (List.length ([(nth T_A3 p15 p16)] : List D_A3))) ≤ 140737488355328)) then
 L_l1Cur_someHeap_6 n F_l1Cur_one F_spec_l2Sides F_l1Cur_pick F_l1Cur_among F_spec_l2Empty F_spec_l2All F_spec_OtherCells F_spec_l2Stack F_spec_l2Heights m0 p0 p1 p2 p3 p4 p5 p6 (p7 ++ ([(nth T_A3 p15 p16)] : List D_A3)) p8 r1.2.1.2.1 r1.2.1.2.2.1 p11 p12 p13 p14 p15 (IntKind.wrap .i64 (p16 + 1))
 else none
 else none
 else
 L_l1Cur_someHeap_6 n F_l1Cur_one F_spec_l2Sides F_l1Cur_pick F_l1Cur_among F_spec_l2Empty F_spec_l2All F_spec_OtherCells F_spec_l2Stack F_spec_l2Heights m0 p0 p1 p2 p3 p4 p5 p6 p7 p8 r1.2.1.2.1 r1.2.1.2.2.1 p11 p12 p13 p14 p15 (IntKind.wrap .i64 (p16 + 1))
 else
 Option.bind (F_l1Cur_pick ((p8, (p9, (p10, ()))), 12, ())) fun r1 =>
 bif decide (r1.1.1 = 0) then
 Option.bind (F_spec_OtherCells ((p4, (p5, (p6, (p7, ())))), ())) fun r3 =>
 some ((r3.1, ()), ((p8, r1.2.1.2), ()))
 else
 bif decide (r1.1.1 = 1) then
 Option.bind (F_spec_l2Heights ((p4, (p5, (p6, (p7, ())))), ())) fun r4 =>
 Option.bind (F_spec_l2Stack (p11, p12, p13, r4.1, ())) fun r5 =>
 some ((r5.1, ()), ((p8, r1.2.1.2), ()))
 else
 some (((p4, (p5, (p6, (p7, ())))), ()), ((p8, r1.2.1.2), ())) := by kernel_rfl
noncomputable def P_l1Cur_someHeap : Ft_l1Cur_someHeap := hid (runFM (X_l1Cur_someHeap N P_l1Cur_one P_spec_l2Sides P_l1Cur_pick P_l1Cur_among P_spec_l2Empty P_spec_l2All P_spec_OtherCells P_spec_l2Stack P_spec_l2Heights) B_l1Cur_someHeap As_l1Cur_someHeap R_l1Cur_someHeap M_l1Cur_someHeap)
theorem h_l1Cur_someHeap : P_l1Cur_someHeap = runFM (X_l1Cur_someHeap N P_l1Cur_one P_spec_l2Sides P_l1Cur_pick P_l1Cur_among P_spec_l2Empty P_spec_l2All P_spec_OtherCells P_spec_l2Stack P_spec_l2Heights) B_l1Cur_someHeap As_l1Cur_someHeap R_l1Cur_someHeap M_l1Cur_someHeap := hid_eq _
noncomputable def C_l1Cur_someHeap : MContract := ⟨As_l1Cur_someHeap, R_l1Cur_someHeap, M_l1Cur_someHeap, P_l1Cur_someHeap⟩
theorem s_l1Cur_someHeap : SoundM Tryz.prog n0 GG 110 C_l1Cur_someHeap := by
 unfold C_l1Cur_someHeap; rw [h_l1Cur_someHeap]
 exact sound_of_runM (fn := Tryz.f110) hmix hstable (tyOK_of ttOK) (hglob (X_l1Cur_someHeap N P_l1Cur_one P_spec_l2Sides P_l1Cur_pick P_l1Cur_among P_spec_l2Empty P_spec_l2All P_spec_OtherCells P_spec_l2Stack P_spec_l2Heights)) (conOK_of (X := X_l1Cur_someHeap N P_l1Cur_one P_spec_l2Sides P_l1Cur_pick P_l1Cur_among P_spec_l2Empty P_spec_l2All P_spec_OtherCells P_spec_l2Stack P_spec_l2Heights) ⟨s_spec_l2Sides, s_spec_l2Empty, s_spec_l2All, s_spec_OtherCells, s_spec_l2Stack, s_spec_l2Heights, trivial⟩) (mconOK_of (X := X_l1Cur_someHeap N P_l1Cur_one P_spec_l2Sides P_l1Cur_pick P_l1Cur_among P_spec_l2Empty P_spec_l2All P_spec_OtherCells P_spec_l2Stack P_spec_l2Heights) ⟨s_l1Cur_one, s_l1Cur_pick, s_l1Cur_among, trivial⟩) (by kernel_rfl) (by kernel_rfl) (by kernel_rfl) (by kernel_rfl) (by kernel_rfl) (of_decide_eq_true (by kernel_rfl)) (by kernel_rfl) (by rfl)
noncomputable def l_l1Cur_someHeap_6 : Nat → Int → Int → Int → (List D_A3) → Int → Int → Int → (List D_A3) → (List Int) → Int → Int → Int → Int → Int → Int → (List D_A3) → Int → Option (denL R_l1Cur_someHeap × denM As_l1Cur_someHeap) := hid (fun m0 p0 p1 p2 p3 p4 p5 p6 p7 p8 p9 p10 p11 p12 p13 p14 p15 p16 => L_l1Cur_someHeap_6 N P_l1Cur_one P_spec_l2Sides P_l1Cur_pick P_l1Cur_among P_spec_l2Empty P_spec_l2All P_spec_OtherCells P_spec_l2Stack P_spec_l2Heights m0 p0 p1 p2 p3 p4 p5 p6 p7 p8 p9 p10 p11 p12 p13 p14 p15 p16)
theorem h_l1Cur_someHeap_6 : l_l1Cur_someHeap_6 = fun m0 p0 p1 p2 p3 p4 p5 p6 p7 p8 p9 p10 p11 p12 p13 p14 p15 p16 => L_l1Cur_someHeap_6 N P_l1Cur_one P_spec_l2Sides P_l1Cur_pick P_l1Cur_among P_spec_l2Empty P_spec_l2All P_spec_OtherCells P_spec_l2Stack P_spec_l2Heights m0 p0 p1 p2 p3 p4 p5 p6 p7 p8 p9 p10 p11 p12 p13 p14 p15 p16 := hid_eq _
theorem p_l1Cur_someHeap (a0 : D_l1Cur) (a1 a2 a3 : Int) : P_l1Cur_someHeap (a0, a1, a2, a3, ()) = 
 Option.bind (P_spec_l2Empty (a1, a2, a3, ())) fun r0 =>
 Option.bind (P_l1Cur_among (a0, ([2, 3, 2, 4] : List Int), ())) fun r1 =>
 Option.bind (P_spec_l2Sides (a1, a2, a3, ())) fun r2 =>
 bif !r2.1 then
 some ((r0.1, ()), ((a0.1, r1.2.1.2), ()))
 else
 Option.bind (P_spec_l2All (r0.1, ())) fun r4 =>
 l_l1Cur_someHeap_6 N 0 0 0 ([] : List D_A3) r0.1.1 r0.1.2.1 r0.1.2.2.1 r0.1.2.2.2.1 a0.1 r1.2.1.2.1 r1.2.1.2.2.1 a1 a2 a3 r1.1.1 r4.1 0 := by
 rewrite [h_l1Cur_someHeap, h_l1Cur_someHeap_6]
 exact e_l1Cur_someHeap N P_l1Cur_one P_spec_l2Sides P_l1Cur_pick P_l1Cur_among P_spec_l2Empty P_spec_l2All P_spec_OtherCells P_spec_l2Stack P_spec_l2Heights a0 a1 a2 a3
theorem q_l1Cur_someHeap_6 (m0 : Nat) (p0 p1 p2 : Int) (p3 : List D_A3) (p4 p5 p6 : Int) (p7 : List D_A3) (p8 : List Int) (p9 p10 : Int) (p11 p12 : Int) (p13 p14 : Int) (p15 : List D_A3) (p16 : Int) : l_l1Cur_someHeap_6 (m0 + 1) p0 p1 p2 p3 p4 p5 p6 p7 p8 p9 p10 p11 p12 p13 p14 p15 p16 = 
 bif decide (p16 < (List.length p15 : Int)) then
 Option.bind (P_l1Cur_one ((p8, (p9, (p10, ()))), p14, ())) fun r1 =>
 bif r1.1.1 then
 bif inB p16 (List.length p15) then
 bif (decide (((List.length p7) + (List.length ([(nth T_A3 p15 p16)] : List D_A3))) * 24 ≤ 140737488355328) && decide (((List.length p7) + (List.length ([(nth T_A3 p15 p16)] : List D_A3))) ≤ 140737488355328)) then
 l_l1Cur_someHeap_6 m0 p0 p1 p2 p3 p4 p5 p6 (p7 ++ ([(nth T_A3 p15 p16)] : List D_A3)) p8 r1.2.1.2.1 r1.2.1.2.2.1 p11 p12 p13 p14 p15 (IntKind.wrap .i64 (p16 + 1))
 else none
 else none
 else
 l_l1Cur_someHeap_6 m0 p0 p1 p2 p3 p4 p5 p6 p7 p8 r1.2.1.2.1 r1.2.1.2.2.1 p11 p12 p13 p14 p15 (IntKind.wrap .i64 (p16 + 1))
 else
 Option.bind (P_l1Cur_pick ((p8, (p9, (p10, ()))), 12, ())) fun r1 =>
 bif decide (r1.1.1 = 0) then
 Option.bind (P_spec_OtherCells ((p4, (p5, (p6, (p7, ())))), ())) fun r3 =>
 some ((r3.1, ()), ((p8, r1.2.1.2), ()))
 else
 bif decide (r1.1.1 = 1) then
 Option.bind (P_spec_l2Heights ((p4, (p5, (p6, (p7, ())))), ())) fun r4 =>
 Option.bind (P_spec_l2Stack (p11, p12, p13, r4.1, ())) fun r5 =>
 some ((r5.1, ()), ((p8, r1.2.1.2), ()))
 else
 some (((p4, (p5, (p6, (p7, ())))), ()), ((p8, r1.2.1.2), ())) := by
 rewrite [h_l1Cur_someHeap_6]
 exact e_l1Cur_someHeap_6 N P_l1Cur_one P_spec_l2Sides P_l1Cur_pick P_l1Cur_among P_spec_l2Empty P_spec_l2All P_spec_OtherCells P_spec_l2Stack P_spec_l2Heights m0 p0 p1 p2 p3 p4 p5 p6 p7 p8 p9 p10 p11 p12 p13 p14 p15 p16

abbrev As_l1Cur_heap : List ATy := [.lptr T_l1Cur]
abbrev R_l1Cur_heap : List (Bool × Ty) := [(true, T_Heap)]
abbrev M_l1Cur_heap : List RMode := [.own 38]
abbrev Ft_l1Cur_heap : Type := D_l1Cur × Unit → Option ((D_Heap × Unit) × (D_l1Cur × Unit))
noncomputable def X_l1Cur_heap (n : Nat) (F_l1Cur_pick : Ft_l1Cur_pick) (F_l1Cur_sides : Ft_l1Cur_sides) (F_l1Cur_someHeap : Ft_l1Cur_someHeap) : Ctx := { types := TT, globals := [], con := [], mcon := [(85, ⟨As_l1Cur_pick, R_l1Cur_pick, M_l1Cur_pick, F_l1Cur_pick⟩), (100, ⟨As_l1Cur_sides, R_l1Cur_sides, M_l1Cur_sides, F_l1Cur_sides⟩), (110, ⟨As_l1Cur_someHeap, R_l1Cur_someHeap, M_l1Cur_someHeap, F_l1Cur_someHeap⟩)], keep := [], results := [.cell 2 26], ntmps := 56, n := n }
noncomputable def B_l1Cur_heap : Code := (Tryz.f77.body).getD .skip
theorem e_l1Cur_heap (n : Nat) (F_l1Cur_pick : Ft_l1Cur_pick) (F_l1Cur_sides : Ft_l1Cur_sides) (F_l1Cur_someHeap : Ft_l1Cur_someHeap) (a0 : D_l1Cur) : runFM (X_l1Cur_heap n F_l1Cur_pick F_l1Cur_sides F_l1Cur_someHeap) B_l1Cur_heap As_l1Cur_heap R_l1Cur_heap M_l1Cur_heap (a0, ()) = 
 Option.bind (F_l1Cur_sides (a0, ())) fun r0 =>
 Option.bind (F_l1Cur_someHeap ((a0.1, r0.2.1.2), r0.1.1, r0.1.2.1, r0.1.2.2.1, ())) fun r1 =>
 Option.bind (F_l1Cur_pick ((a0.1, r1.2.1.2), 60, ())) fun r2 =>
 bif decide (r2.1.1 = 0) then
 bif (decide (((List.length r1.1.1.2.2.2.1) + (List.length ([(r0.1.1, (0, (0, ())))] : List D_A3))) * 24 ≤ 140737488355328) && decide (((List.length r1.1.1.2.2.2.1) + (List.length ([(r0.1.1, (0, (0, ())))] : List D_A3))) ≤ 140737488355328)) then
 some (((r1.1.1.1, (r1.1.1.2.1, (r1.1.1.2.2.1, ((r1.1.1.2.2.2.1 ++ ([(r0.1.1, (0, (0, ())))] : List D_A3)), ())))), ()), ((a0.1, r2.2.1.2), ()))
 else none
 else
 bif decide (r2.1.1 = 1) then
 bif (decide (((List.length r1.1.1.2.2.2.1) + (List.length ([((-1), (0, (0, ())))] : List D_A3))) * 24 ≤ 140737488355328) && decide (((List.length r1.1.1.2.2.2.1) + (List.length ([((-1), (0, (0, ())))] : List D_A3))) ≤ 140737488355328)) then
 some (((r1.1.1.1, (r1.1.1.2.1, (r1.1.1.2.2.1, ((r1.1.1.2.2.2.1 ++ ([((-1), (0, (0, ())))] : List D_A3)), ())))), ()), ((a0.1, r2.2.1.2), ()))
 else none
 else
 bif decide (r2.1.1 = 2) then
 bif decide ((List.length r1.1.1.2.2.2.1 : Int) > 0) then
 bif inB 0 (List.length r1.1.1.2.2.2.1) then
 bif (decide (((List.length r1.1.1.2.2.2.1) + (List.length ([(nth T_A3 r1.1.1.2.2.2.1 0)] : List D_A3))) * 24 ≤ 140737488355328) && decide (((List.length r1.1.1.2.2.2.1) + (List.length ([(nth T_A3 r1.1.1.2.2.2.1 0)] : List D_A3))) ≤ 140737488355328)) then
 some (((r1.1.1.1, (r1.1.1.2.1, (r1.1.1.2.2.1, ((r1.1.1.2.2.2.1 ++ ([(nth T_A3 r1.1.1.2.2.2.1 0)] : List D_A3)), ())))), ()), ((a0.1, r2.2.1.2), ()))
 else none
 else none
 else
 some ((r1.1.1, ()), ((a0.1, r2.2.1.2), ()))
 else
 bif decide (r2.1.1 = 3) then
 some (((0, (0, (0, (([] : List D_A3), ())))), ()), ((a0.1, r2.2.1.2), ()))
 else
 some ((r1.1.1, ()), ((a0.1, r2.2.1.2), ())) := by kernel_rfl
noncomputable def P_l1Cur_heap : Ft_l1Cur_heap := hid (runFM (X_l1Cur_heap N P_l1Cur_pick P_l1Cur_sides P_l1Cur_someHeap) B_l1Cur_heap As_l1Cur_heap R_l1Cur_heap M_l1Cur_heap)
theorem h_l1Cur_heap : P_l1Cur_heap = runFM (X_l1Cur_heap N P_l1Cur_pick P_l1Cur_sides P_l1Cur_someHeap) B_l1Cur_heap As_l1Cur_heap R_l1Cur_heap M_l1Cur_heap := hid_eq _
noncomputable def C_l1Cur_heap : MContract := ⟨As_l1Cur_heap, R_l1Cur_heap, M_l1Cur_heap, P_l1Cur_heap⟩
theorem s_l1Cur_heap : SoundM Tryz.prog n0 GG 77 C_l1Cur_heap := by
 unfold C_l1Cur_heap; rw [h_l1Cur_heap]
 exact sound_of_runM (fn := Tryz.f77) hmix hstable (tyOK_of ttOK) (hglob (X_l1Cur_heap N P_l1Cur_pick P_l1Cur_sides P_l1Cur_someHeap)) (conOK_of (X := X_l1Cur_heap N P_l1Cur_pick P_l1Cur_sides P_l1Cur_someHeap) trivial) (mconOK_of (X := X_l1Cur_heap N P_l1Cur_pick P_l1Cur_sides P_l1Cur_someHeap) ⟨s_l1Cur_pick, s_l1Cur_sides, s_l1Cur_someHeap, trivial⟩) (by kernel_rfl) (by kernel_rfl) (by kernel_rfl) (by kernel_rfl) (by kernel_rfl) (of_decide_eq_true (by kernel_rfl)) (by kernel_rfl) (by rfl)
theorem p_l1Cur_heap (a0 : D_l1Cur) : P_l1Cur_heap (a0, ()) = 
 Option.bind (P_l1Cur_sides (a0, ())) fun r0 =>
 Option.bind (P_l1Cur_someHeap ((a0.1, r0.2.1.2), r0.1.1, r0.1.2.1, r0.1.2.2.1, ())) fun r1 =>
 Option.bind (P_l1Cur_pick ((a0.1, r1.2.1.2), 60, ())) fun r2 =>
 bif decide (r2.1.1 = 0) then
 bif (decide (((List.length r1.1.1.2.2.2.1) + (List.length ([(r0.1.1, (0, (0, ())))] : List D_A3))) * 24 ≤ 140737488355328) && decide (((List.length r1.1.1.2.2.2.1) + (List.length ([(r0.1.1, (0, (0, ())))] : List D_A3))) ≤ 140737488355328)) then
 some (((r1.1.1.1, (r1.1.1.2.1, (r1.1.1.2.2.1, ((r1.1.1.2.2.2.1 ++ ([(r0.1.1, (0, (0, ())))] : List D_A3)), ())))), ()), ((a0.1, r2.2.1.2), ()))
 else none
 else
 bif decide (r2.1.1 = 1) then
 bif (decide (((List.length r1.1.1.2.2.2.1) + (List.length ([((-1), (0, (0, ())))] : List D_A3))) * 24 ≤ 140737488355328) && decide (((List.length r1.1.1.2.2.2.1) + (List.length ([((-1), (0, (0, ())))] : List D_A3))) ≤ 140737488355328)) then
 some (((r1.1.1.1, (r1.1.1.2.1, (r1.1.1.2.2.1, ((r1.1.1.2.2.2.1 ++ ([((-1), (0, (0, ())))] : List D_A3)), ())))), ()), ((a0.1, r2.2.1.2), ()))
 else none
 else
 bif decide (r2.1.1 = 2) then
 bif decide ((List.length r1.1.1.2.2.2.1 : Int) > 0) then
 bif inB 0 (List.length r1.1.1.2.2.2.1) then
 bif (decide (((List.length r1.1.1.2.2.2.1) + (List.length ([(nth T_A3 r1.1.1.2.2.2.1 0)] : List D_A3))) * 24 ≤ 140737488355328) && decide (((List.length r1.1.1.2.2.2.1) + (List.length ([(nth T_A3 r1.1.1.2.2.2.1 0)] : List D_A3))) ≤ 140737488355328)) then
 some (((r1.1.1.1, (r1.1.1.2.1, (r1.1.1.2.2.1, ((r1.1.1.2.2.2.1 ++ ([(nth T_A3 r1.1.1.2.2.2.1 0)] : List D_A3)), ())))), ()), ((a0.1, r2.2.1.2), ()))
 else none
 else none
 else
 some ((r1.1.1, ()), ((a0.1, r2.2.1.2), ()))
 else
 bif decide (r2.1.1 = 3) then
 some (((0, (0, (0, (([] : List D_A3), ())))), ()), ((a0.1, r2.2.1.2), ()))
 else
 some ((r1.1.1, ()), ((a0.1, r2.2.1.2), ())) := by
 rewrite [h_l1Cur_heap]
 exact e_l1Cur_heap N P_l1Cur_pick P_l1Cur_sides P_l1Cur_someHeap a0

abbrev As_spec_DrawNewBench : List ATy := [.data false (.sl (.int .u8))]
abbrev R_spec_DrawNewBench : List (Bool × Ty) := [(true, T_Heap)]
abbrev M_spec_DrawNewBench : List RMode := [.own 38]
abbrev Ft_spec_DrawNewBench : Type := (List Int) × Unit → Option (D_Heap × Unit)
noncomputable def X_spec_DrawNewBench (n : Nat) (F_l1Cur_heap : Ft_l1Cur_heap) : Ctx := { types := TT, globals := [], con := [], mcon := [(77, ⟨As_l1Cur_heap, R_l1Cur_heap, M_l1Cur_heap, F_l1Cur_heap⟩)], keep := [], results := [.cell 2 26], ntmps := 9, n := n }
noncomputable def B_spec_DrawNewBench : Code := (Tryz.f31.body).getD .skip
theorem e_spec_DrawNewBench (n : Nat) (F_l1Cur_heap : Ft_l1Cur_heap) (a0 : List Int) : runF (X_spec_DrawNewBench n F_l1Cur_heap) B_spec_DrawNewBench As_spec_DrawNewBench R_spec_DrawNewBench M_spec_DrawNewBench (a0, ()) = 
 Option.bind (F_l1Cur_heap ((a0, (0, (0, ()))), ())) fun r0 =>
 some (r0.1.1, ()) := by kernel_rfl
noncomputable def P_spec_DrawNewBench : Ft_spec_DrawNewBench := hid (runF (X_spec_DrawNewBench N P_l1Cur_heap) B_spec_DrawNewBench As_spec_DrawNewBench R_spec_DrawNewBench M_spec_DrawNewBench)
theorem h_spec_DrawNewBench : P_spec_DrawNewBench = runF (X_spec_DrawNewBench N P_l1Cur_heap) B_spec_DrawNewBench As_spec_DrawNewBench R_spec_DrawNewBench M_spec_DrawNewBench := hid_eq _
noncomputable def C_spec_DrawNewBench : Contract := ⟨As_spec_DrawNewBench, R_spec_DrawNewBench, M_spec_DrawNewBench, P_spec_DrawNewBench⟩
theorem s_spec_DrawNewBench : Sound Tryz.prog GG 31 C_spec_DrawNewBench := by
 unfold C_spec_DrawNewBench; rw [h_spec_DrawNewBench]
 exact sound_of_run (fn := Tryz.f31) hmix hstable (tyOK_of ttOK) (hglob (X_spec_DrawNewBench N P_l1Cur_heap)) (conOK_of (X := X_spec_DrawNewBench N P_l1Cur_heap) trivial) (mconOK_of (X := X_spec_DrawNewBench N P_l1Cur_heap) ⟨s_l1Cur_heap, trivial⟩) (by kernel_rfl) (by kernel_rfl) (by kernel_rfl) (by kernel_rfl) (by kernel_rfl) (of_decide_eq_true (by kernel_rfl))
theorem p_spec_DrawNewBench (a0 : List Int) : P_spec_DrawNewBench (a0, ()) = 
 Option.bind (P_l1Cur_heap ((a0, (0, (0, ()))), ())) fun r0 =>
 some (r0.1.1, ()) := by
 rewrite [h_spec_DrawNewBench]
 exact e_spec_DrawNewBench N P_l1Cur_heap a0

abbrev As_Heap_box : List ATy := [.data true T_Heap]
abbrev R_Heap_box : List (Bool × Ty) := [(true, T_A3)]
abbrev M_Heap_box : List RMode := []
abbrev Ft_Heap_box : Type := D_Heap × Unit → Option (D_A3 × Unit)
noncomputable def X_Heap_box (n : Nat) : Ctx := { types := TT, globals := [], con := [], keep := [], results := [.cell 2 76], ntmps := 10, n := n }
noncomputable def B_Heap_box : Code := (Tryz.f50.body).getD .skip
theorem e_Heap_box (n : Nat) (a0 : D_Heap) : runF (X_Heap_box n) B_Heap_box As_Heap_box R_Heap_box M_Heap_box (a0, ()) = 
 some ((a0.1, (a0.2.1, (a0.2.2.1, ()))), ()) := by kernel_rfl
noncomputable def P_Heap_box : Ft_Heap_box := hid (runF (X_Heap_box N) B_Heap_box As_Heap_box R_Heap_box M_Heap_box)
theorem h_Heap_box : P_Heap_box = runF (X_Heap_box N) B_Heap_box As_Heap_box R_Heap_box M_Heap_box := hid_eq _
noncomputable def C_Heap_box : Contract := ⟨As_Heap_box, R_Heap_box, M_Heap_box, P_Heap_box⟩
theorem s_Heap_box : Sound Tryz.prog GG 50 C_Heap_box := by
 unfold C_Heap_box; rw [h_Heap_box]
 exact sound_of_run (fn := Tryz.f50) hmix hstable (tyOK_of ttOK) (hglob (X_Heap_box N)) (conOK_of (X := X_Heap_box N) trivial) (mconOK_of (X := X_Heap_box N) trivial) (by kernel_rfl) (by kernel_rfl) (by kernel_rfl) (by kernel_rfl) (by kernel_rfl) (of_decide_eq_true (by kernel_rfl))
theorem p_Heap_box (a0 : D_Heap) : P_Heap_box (a0, ()) = 
 some ((a0.1, (a0.2.1, (a0.2.2.1, ()))), ()) := by
 rewrite [h_Heap_box]
 exact e_Heap_box N a0

abbrev As_impl_within : List ATy := [.data false (.int .i64), .data false (.int .i64), .data false (.int .i64)]
abbrev R_impl_within : List (Bool × Ty) := [(false, .bool)]
abbrev M_impl_within : List RMode := []
abbrev Ft_impl_within : Type := Int × Int × Int × Unit → Option (Bool × Unit)
noncomputable def X_impl_within (n : Nat) : Ctx := { types := TT, globals := [], con := [], keep := [], results := [.tmp 6], ntmps := 15, n := n }
noncomputable def B_impl_within : Code := (Tryz.f86.body).getD .skip
theorem e_impl_within (n : Nat) (a0 a1 a2 : Int) : runF (X_impl_within n) B_impl_within As_impl_within R_impl_within M_impl_within (a0, a1, a2, ()) = 
 bif decide (a0 ≥ a1) then
 some (decide (a0 ≤ a2), ())
 else
 some (false, ()) := by kernel_rfl
noncomputable def P_impl_within : Ft_impl_within := hid (runF (X_impl_within N) B_impl_within As_impl_within R_impl_within M_impl_within)
theorem h_impl_within : P_impl_within = runF (X_impl_within N) B_impl_within As_impl_within R_impl_within M_impl_within := hid_eq _
noncomputable def C_impl_within : Contract := ⟨As_impl_within, R_impl_within, M_impl_within, P_impl_within⟩
theorem s_impl_within : Sound Tryz.prog GG 86 C_impl_within := by
 unfold C_impl_within; rw [h_impl_within]
 exact sound_of_run (fn := Tryz.f86) hmix hstable (tyOK_of ttOK) (hglob (X_impl_within N)) (conOK_of (X := X_impl_within N) trivial) (mconOK_of (X := X_impl_within N) trivial) (by kernel_rfl) (by kernel_rfl) (by kernel_rfl) (by kernel_rfl) (by kernel_rfl) (of_decide_eq_true (by kernel_rfl))
theorem p_impl_within (a0 a1 a2 : Int) : P_impl_within (a0, a1, a2, ()) = 
 bif decide (a0 ≥ a1) then
 some (decide (a0 ≤ a2), ())
 else
 some (false, ()) := by
 rewrite [h_impl_within]
 exact e_impl_within N a0 a1 a2

abbrev As_box_valid : List ATy := [.data true T_A3]
abbrev R_box_valid : List (Bool × Ty) := [(false, .bool)]
abbrev M_box_valid : List RMode := []
abbrev Ft_box_valid : Type := D_A3 × Unit → Option (Bool × Unit)
noncomputable def X_box_valid (n : Nat) (F_impl_within : Ft_impl_within) : Ctx := { types := TT, globals := [], con := [(86, ⟨As_impl_within, R_impl_within, M_impl_within, F_impl_within⟩)], keep := [], results := [.tmp 2], ntmps := 16, n := n }
noncomputable def B_box_valid : Code := (Tryz.f51.body).getD .skip
theorem e_box_valid (n : Nat) (F_impl_within : Ft_impl_within) (a0 : D_A3) : runF (X_box_valid n F_impl_within) B_box_valid As_box_valid R_box_valid M_box_valid (a0, ()) = 
 Option.bind (F_impl_within (a0.1, 1, 4, ())) fun r0 =>
 bif r0.1 then
 Option.bind (F_impl_within (a0.2.1, 1, 4, ())) fun r2 =>
 bif r2.1 then
 Option.bind (F_impl_within (a0.2.2.1, 1, 4, ())) fun r4 =>
 some (r4.1, ())
 else
 some (false, ())
 else
 some (false, ()) := by kernel_rfl
noncomputable def P_box_valid : Ft_box_valid := hid (runF (X_box_valid N P_impl_within) B_box_valid As_box_valid R_box_valid M_box_valid)
theorem h_box_valid : P_box_valid = runF (X_box_valid N P_impl_within) B_box_valid As_box_valid R_box_valid M_box_valid := hid_eq _
noncomputable def C_box_valid : Contract := ⟨As_box_valid, R_box_valid, M_box_valid, P_box_valid⟩
theorem s_box_valid : Sound Tryz.prog GG 51 C_box_valid := by
 unfold C_box_valid; rw [h_box_valid]
 exact sound_of_run (fn := Tryz.f51) hmix hstable (tyOK_of ttOK) (hglob (X_box_valid N P_impl_within)) (conOK_of (X := X_box_valid N P_impl_within) ⟨s_impl_within, trivial⟩) (mconOK_of (X := X_box_valid N P_impl_within) trivial) (by kernel_rfl) (by kernel_rfl) (by kernel_rfl) (by kernel_rfl) (by kernel_rfl) (of_decide_eq_true (by kernel_rfl))
theorem p_box_valid (a0 : D_A3) : P_box_valid (a0, ()) = 
 Option.bind (P_impl_within (a0.1, 1, 4, ())) fun r0 =>
 bif r0.1 then
 Option.bind (P_impl_within (a0.2.1, 1, 4, ())) fun r2 =>
 bif r2.1 then
 Option.bind (P_impl_within (a0.2.2.1, 1, 4, ())) fun r4 =>
 some (r4.1, ())
 else
 some (false, ())
 else
 some (false, ()) := by
 rewrite [h_box_valid]
 exact e_box_valid N P_impl_within a0

abbrev As_box_has : List ATy := [.data true T_A3, .data true T_A3]
abbrev R_box_has : List (Bool × Ty) := [(false, .bool)]
abbrev M_box_has : List RMode := []
abbrev Ft_box_has : Type := D_A3 × D_A3 × Unit → Option (Bool × Unit)
noncomputable def X_box_has (n : Nat) (F_impl_within : Ft_impl_within) : Ctx := { types := TT, globals := [], con := [(86, ⟨As_impl_within, R_impl_within, M_impl_within, F_impl_within⟩)], keep := [], results := [.tmp 4], ntmps := 27, n := n }
noncomputable def B_box_has : Code := (Tryz.f52.body).getD .skip
theorem e_box_has (n : Nat) (F_impl_within : Ft_impl_within) (a0 a1 : D_A3) : runF (X_box_has n F_impl_within) B_box_has As_box_has R_box_has M_box_has (a0, a1, ()) = 
 Option.bind (F_impl_within (a1.1, 0, (IntKind.wrap .i64 (a0.1 - 1)), ())) fun r0 =>
 bif r0.1 then
 Option.bind (F_impl_within (a1.2.1, 0, (IntKind.wrap .i64 (a0.2.1 - 1)), ())) fun r2 =>
 bif r2.1 then
 Option.bind (F_impl_within (a1.2.2.1, 0, (IntKind.wrap .i64 (a0.2.2.1 - 1)), ())) fun r4 =>
 some (r4.1, ())
 else
 some (false, ())
 else
 some (false, ()) := by kernel_rfl
noncomputable def P_box_has : Ft_box_has := hid (runF (X_box_has N P_impl_within) B_box_has As_box_has R_box_has M_box_has)
theorem h_box_has : P_box_has = runF (X_box_has N P_impl_within) B_box_has As_box_has R_box_has M_box_has := hid_eq _
noncomputable def C_box_has : Contract := ⟨As_box_has, R_box_has, M_box_has, P_box_has⟩
theorem s_box_has : Sound Tryz.prog GG 52 C_box_has := by
 unfold C_box_has; rw [h_box_has]
 exact sound_of_run (fn := Tryz.f52) hmix hstable (tyOK_of ttOK) (hglob (X_box_has N P_impl_within)) (conOK_of (X := X_box_has N P_impl_within) ⟨s_impl_within, trivial⟩) (mconOK_of (X := X_box_has N P_impl_within) trivial) (by kernel_rfl) (by kernel_rfl) (by kernel_rfl) (by kernel_rfl) (by kernel_rfl) (of_decide_eq_true (by kernel_rfl))
theorem p_box_has (a0 a1 : D_A3) : P_box_has (a0, a1, ()) = 
 Option.bind (P_impl_within (a1.1, 0, (IntKind.wrap .i64 (a0.1 - 1)), ())) fun r0 =>
 bif r0.1 then
 Option.bind (P_impl_within (a1.2.1, 0, (IntKind.wrap .i64 (a0.2.1 - 1)), ())) fun r2 =>
 bif r2.1 then
 Option.bind (P_impl_within (a1.2.2.1, 0, (IntKind.wrap .i64 (a0.2.2.1 - 1)), ())) fun r4 =>
 some (r4.1, ())
 else
 some (false, ())
 else
 some (false, ()) := by
 rewrite [h_box_has]
 exact e_box_has N P_impl_within a0 a1

abbrev As_cmp_isNaN_int : List ATy := [.data false (.int .i64)]
abbrev R_cmp_isNaN_int : List (Bool × Ty) := [(false, .bool)]
abbrev M_cmp_isNaN_int : List RMode := []
abbrev Ft_cmp_isNaN_int : Type := Int × Unit → Option (Bool × Unit)
noncomputable def X_cmp_isNaN_int (n : Nat) : Ctx := { types := TT, globals := [], con := [], keep := [], results := [.tmp 2], ntmps := 6, n := n }
noncomputable def B_cmp_isNaN_int : Code := (Tryz.f146.body).getD .skip
theorem e_cmp_isNaN_int (n : Nat) (a0 : Int) : runF (X_cmp_isNaN_int n) B_cmp_isNaN_int As_cmp_isNaN_int R_cmp_isNaN_int M_cmp_isNaN_int (a0, ()) = 
 some (!decide (a0 = a0), ()) := by kernel_rfl
noncomputable def P_cmp_isNaN_int : Ft_cmp_isNaN_int := hid (runF (X_cmp_isNaN_int N) B_cmp_isNaN_int As_cmp_isNaN_int R_cmp_isNaN_int M_cmp_isNaN_int)
theorem h_cmp_isNaN_int : P_cmp_isNaN_int = runF (X_cmp_isNaN_int N) B_cmp_isNaN_int As_cmp_isNaN_int R_cmp_isNaN_int M_cmp_isNaN_int := hid_eq _
noncomputable def C_cmp_isNaN_int : Contract := ⟨As_cmp_isNaN_int, R_cmp_isNaN_int, M_cmp_isNaN_int, P_cmp_isNaN_int⟩
theorem s_cmp_isNaN_int : Sound Tryz.prog GG 146 C_cmp_isNaN_int := by
 unfold C_cmp_isNaN_int; rw [h_cmp_isNaN_int]
 exact sound_of_run (fn := Tryz.f146) hmix hstable (tyOK_of ttOK) (hglob (X_cmp_isNaN_int N)) (conOK_of (X := X_cmp_isNaN_int N) trivial) (mconOK_of (X := X_cmp_isNaN_int N) trivial) (by kernel_rfl) (by kernel_rfl) (by kernel_rfl) (by kernel_rfl) (by kernel_rfl) (of_decide_eq_true (by kernel_rfl))
theorem p_cmp_isNaN_int (a0 : Int) : P_cmp_isNaN_int (a0, ()) = 
 some (!decide (a0 = a0), ()) := by
 rewrite [h_cmp_isNaN_int]
 exact e_cmp_isNaN_int N a0

abbrev As_cmp_Compare_int : List ATy := [.data false (.int .i64), .data false (.int .i64)]
abbrev R_cmp_Compare_int : List (Bool × Ty) := [(false, (.int .i64))]
abbrev M_cmp_Compare_int : List RMode := []
abbrev Ft_cmp_Compare_int : Type := Int × Int × Unit → Option (Int × Unit)
noncomputable def X_cmp_Compare_int (n : Nat) (F_cmp_isNaN_int : Ft_cmp_isNaN_int) : Ctx := { types := TT, globals := [], con := [(146, ⟨As_cmp_isNaN_int, R_cmp_isNaN_int, M_cmp_isNaN_int, F_cmp_isNaN_int⟩)], keep := [], results := [.tmp 4], ntmps := 20, n := n }
noncomputable def B_cmp_Compare_int : Code := (Tryz.f124.body).getD .skip
theorem e_cmp_Compare_int (n : Nat) (F_cmp_isNaN_int : Ft_cmp_isNaN_int) (a0 a1 : Int) : runF (X_cmp_Compare_int n F_cmp_isNaN_int) B_cmp_Compare_int As_cmp_Compare_int R_cmp_Compare_int M_cmp_Compare_int (a0, a1, ()) = 
 Option.bind (F_cmp_isNaN_int (a0, ())) fun r0 =>
 Option.bind (F_cmp_isNaN_int (a1, ())) fun r1 =>
 bif r0.1 then
 bif r1.1 then
 some (0, ())
 else
 some ((-1), ())
 else
 bif r1.1 then
 some (1, ())
 else
 bif decide (a0 < a1) then
 some ((-1), ())
 else
 bif decide (a0 > a1) then
 some (1, ())
 else
 some (0, ()) := by kernel_rfl
noncomputable def P_cmp_Compare_int : Ft_cmp_Compare_int := hid (runF (X_cmp_Compare_int N P_cmp_isNaN_int) B_cmp_Compare_int As_cmp_Compare_int R_cmp_Compare_int M_cmp_Compare_int)
theorem h_cmp_Compare_int : P_cmp_Compare_int = runF (X_cmp_Compare_int N P_cmp_isNaN_int) B_cmp_Compare_int As_cmp_Compare_int R_cmp_Compare_int M_cmp_Compare_int := hid_eq _
noncomputable def C_cmp_Compare_int : Contract := ⟨As_cmp_Compare_int, R_cmp_Compare_int, M_cmp_Compare_int, P_cmp_Compare_int⟩
theorem s_cmp_Compare_int : Sound Tryz.prog GG 124 C_cmp_Compare_int := by
 unfold C_cmp_Compare_int; rw [h_cmp_Compare_int]
 exact sound_of_run (fn := Tryz.f124) hmix hstable (tyOK_of ttOK) (hglob (X_cmp_Compare_int N P_cmp_isNaN_int)) (conOK_of (X := X_cmp_Compare_int N P_cmp_isNaN_int) ⟨s_cmp_isNaN_int, trivial⟩) (mconOK_of (X := X_cmp_Compare_int N P_cmp_isNaN_int) trivial) (by kernel_rfl) (by kernel_rfl) (by kernel_rfl) (by kernel_rfl) (by kernel_rfl) (of_decide_eq_true (by kernel_rfl))
theorem p_cmp_Compare_int (a0 a1 : Int) : P_cmp_Compare_int (a0, a1, ()) = 
 Option.bind (P_cmp_isNaN_int (a0, ())) fun r0 =>
 Option.bind (P_cmp_isNaN_int (a1, ())) fun r1 =>
 bif r0.1 then
 bif r1.1 then
 some (0, ())
 else
 some ((-1), ())
 else
 bif r1.1 then
 some (1, ())
 else
 bif decide (a0 < a1) then
 some ((-1), ())
 else
 bif decide (a0 > a1) then
 some (1, ())
 else
 some (0, ()) := by
 rewrite [h_cmp_Compare_int]
 exact e_cmp_Compare_int N P_cmp_isNaN_int a0 a1

abbrev As_slices_Compare_int_int : List ATy := [.data false (.sl (.int .i64)), .data false (.sl (.int .i64))]
abbrev R_slices_Compare_int_int : List (Bool × Ty) := [(false, (.int .i64))]
abbrev M_slices_Compare_int_int : List RMode := []
abbrev Ft_slices_Compare_int_int : Type := (List Int) × (List Int) × Unit → Option (Int × Unit)
noncomputable def X_slices_Compare_int_int (n : Nat) (F_cmp_Compare_int : Ft_cmp_Compare_int) : Ctx := { types := TT, globals := [], con := [(124, ⟨As_cmp_Compare_int, R_cmp_Compare_int, M_cmp_Compare_int, F_cmp_Compare_int⟩)], keep := [(2, ⟨[.tmp 0, .tmp 1, .tmp 9, .tmp 10, .tmp 11], []⟩)], results := [.tmp 4], ntmps := 36, n := n }
noncomputable def B_slices_Compare_int_int : Code := (Tryz.f93.body).getD .skip
noncomputable def L_slices_Compare_int_int_2 (n : Nat) (F_cmp_Compare_int : Ft_cmp_Compare_int) (m0 : Nat) (p0 p1 p2 : List Int) (p3 p4 : Int) : Option (denL R_slices_Compare_int_int) := loopF (X_slices_Compare_int_int n F_cmp_Compare_int) B_slices_Compare_int_int R_slices_Compare_int_int M_slices_Compare_int_int 2 [m0] [(.ver, .num 1), (.tmp 0, .val false [.imm (.int .i64) p0 (some 0)]), (.tmp 1, .val false [.imm (.int .i64) p1 (some 1)]), (.tmp 9, .val false [.imm (.int .i64) p2 (some 0)]), (.tmp 10, .val false [.int .i64 p3]), (.tmp 11, .val false [.int .i64 p4])]
theorem e_slices_Compare_int_int (n : Nat) (F_cmp_Compare_int : Ft_cmp_Compare_int) (a0 a1 : List Int) : runF (X_slices_Compare_int_int n F_cmp_Compare_int) B_slices_Compare_int_int As_slices_Compare_int_int R_slices_Compare_int_int M_slices_Compare_int_int (a0, a1, ()) = 
 L_slices_Compare_int_int_2 n F_cmp_Compare_int n a0 a1 a0 (List.length a0 : Int) 0 := by kernel_rfl
theorem e_slices_Compare_int_int_2 (n : Nat) (F_cmp_Compare_int : Ft_cmp_Compare_int) (m0 : Nat) (p0 p1 p2 : List Int) (p3 p4 : Int) : L_slices_Compare_int_int_2 n F_cmp_Compare_int (m0 + 1) p0 p1 p2 p3 p4 = 
 bif decide (p4 < p3) then
 bif inB p4 (List.length p2) then
 bif decide (p4 ≥ (List.length p1 : Int)) then
 some (1, ())
 else
 bif inB p4 (List.length p1) then
 Option.bind (F_cmp_Compare_int ((nth ((.int .i64) : Ty) p2 p4), (nth ((.int .i64) : Ty) p1 p4), ())) fun r4 =>
 bif !decide (r4.1 = 0) then
 some (r4.1, ())
 else
 L_slices_Compare_int_int_2 n F_cmp_Compare_int m0 p0 p1 p2 p3 (IntKind.wrap .i64 (p4 + 1))
 else none
 else none
 else
 bif decide ((List.length p0 : Int) < (List.length p1 : Int)) then
 some ((-1), ())
 else
 some (0, ()) := by kernel_rfl
noncomputable def P_slices_Compare_int_int : Ft_slices_Compare_int_int := hid (runF (X_slices_Compare_int_int N P_cmp_Compare_int) B_slices_Compare_int_int As_slices_Compare_int_int R_slices_Compare_int_int M_slices_Compare_int_int)
theorem h_slices_Compare_int_int : P_slices_Compare_int_int = runF (X_slices_Compare_int_int N P_cmp_Compare_int) B_slices_Compare_int_int As_slices_Compare_int_int R_slices_Compare_int_int M_slices_Compare_int_int := hid_eq _
noncomputable def C_slices_Compare_int_int : Contract := ⟨As_slices_Compare_int_int, R_slices_Compare_int_int, M_slices_Compare_int_int, P_slices_Compare_int_int⟩
theorem s_slices_Compare_int_int : Sound Tryz.prog GG 93 C_slices_Compare_int_int := by
 unfold C_slices_Compare_int_int; rw [h_slices_Compare_int_int]
 exact sound_of_run (fn := Tryz.f93) hmix hstable (tyOK_of ttOK) (hglob (X_slices_Compare_int_int N P_cmp_Compare_int)) (conOK_of (X := X_slices_Compare_int_int N P_cmp_Compare_int) ⟨s_cmp_Compare_int, trivial⟩) (mconOK_of (X := X_slices_Compare_int_int N P_cmp_Compare_int) trivial) (by kernel_rfl) (by kernel_rfl) (by kernel_rfl) (by kernel_rfl) (by kernel_rfl) (of_decide_eq_true (by kernel_rfl))
noncomputable def l_slices_Compare_int_int_2 : Nat → (List Int) → (List Int) → (List Int) → Int → Int → Option (denL R_slices_Compare_int_int) := hid (fun m0 p0 p1 p2 p3 p4 => L_slices_Compare_int_int_2 N P_cmp_Compare_int m0 p0 p1 p2 p3 p4)
theorem h_slices_Compare_int_int_2 : l_slices_Compare_int_int_2 = fun m0 p0 p1 p2 p3 p4 => L_slices_Compare_int_int_2 N P_cmp_Compare_int m0 p0 p1 p2 p3 p4 := hid_eq _
theorem p_slices_Compare_int_int (a0 a1 : List Int) : P_slices_Compare_int_int (a0, a1, ()) = 
 l_slices_Compare_int_int_2 N a0 a1 a0 (List.length a0 : Int) 0 := by
 rewrite [h_slices_Compare_int_int, h_slices_Compare_int_int_2]
 exact e_slices_Compare_int_int N P_cmp_Compare_int a0 a1
theorem q_slices_Compare_int_int_2 (m0 : Nat) (p0 p1 p2 : List Int) (p3 p4 : Int) : l_slices_Compare_int_int_2 (m0 + 1) p0 p1 p2 p3 p4 = 
 bif decide (p4 < p3) then
 bif inB p4 (List.length p2) then
 bif decide (p4 ≥ (List.length p1 : Int)) then
 some (1, ())
 else
 bif inB p4 (List.length p1) then
 Option.bind (P_cmp_Compare_int ((nth ((.int .i64) : Ty) p2 p4), (nth ((.int .i64) : Ty) p1 p4), ())) fun r4 =>
 bif !decide (r4.1 = 0) then
 some (r4.1, ())
 else
 l_slices_Compare_int_int_2 m0 p0 p1 p2 p3 (IntKind.wrap .i64 (p4 + 1))
 else none
 else none
 else
 bif decide ((List.length p0 : Int) < (List.length p1 : Int)) then
 some ((-1), ())
 else
 some (0, ()) := by
 rewrite [h_slices_Compare_int_int_2]
 exact e_slices_Compare_int_int_2 N P_cmp_Compare_int m0 p0 p1 p2 p3 p4

abbrev As_impl_compareCells : List ATy := [.data true T_A3, .data true T_A3]
abbrev R_impl_compareCells : List (Bool × Ty) := [(false, (.int .i64))]
abbrev M_impl_compareCells : List RMode := []
abbrev Ft_impl_compareCells : Type := D_A3 × D_A3 × Unit → Option (Int × Unit)
noncomputable def X_impl_compareCells (n : Nat) (F_slices_Compare_int_int : Ft_slices_Compare_int_int) : Ctx := { types := TT, globals := [], con := [(93, ⟨As_slices_Compare_int_int, R_slices_Compare_int_int, M_slices_Compare_int_int, F_slices_Compare_int_int⟩)], keep := [], results := [.tmp 4], ntmps := 8, n := n }
noncomputable def B_impl_compareCells : Code := (Tryz.f53.body).getD .skip
theorem e_impl_compareCells (n : Nat) (F_slices_Compare_int_int : Ft_slices_Compare_int_int) (a0 a1 : D_A3) : runF (X_impl_compareCells n F_slices_Compare_int_int) B_impl_compareCells As_impl_compareCells R_impl_compareCells M_impl_compareCells (a0, a1, ()) = 
 Option.bind (F_slices_Compare_int_int (([a0.1, a0.2.1, a0.2.2.1] : List Int), ([a1.1, a1.2.1, a1.2.2.1] : List Int), ())) fun r0 =>
 some (r0.1, ()) := by kernel_rfl
noncomputable def P_impl_compareCells : Ft_impl_compareCells := hid (runF (X_impl_compareCells N P_slices_Compare_int_int) B_impl_compareCells As_impl_compareCells R_impl_compareCells M_impl_compareCells)
theorem h_impl_compareCells : P_impl_compareCells = runF (X_impl_compareCells N P_slices_Compare_int_int) B_impl_compareCells As_impl_compareCells R_impl_compareCells M_impl_compareCells := hid_eq _
noncomputable def C_impl_compareCells : Contract := ⟨As_impl_compareCells, R_impl_compareCells, M_impl_compareCells, P_impl_compareCells⟩
theorem s_impl_compareCells : Sound Tryz.prog GG 53 C_impl_compareCells := by
 unfold C_impl_compareCells; rw [h_impl_compareCells]
 exact sound_of_run (fn := Tryz.f53) hmix hstable (tyOK_of ttOK) (hglob (X_impl_compareCells N P_slices_Compare_int_int)) (conOK_of (X := X_impl_compareCells N P_slices_Compare_int_int) ⟨s_slices_Compare_int_int, trivial⟩) (mconOK_of (X := X_impl_compareCells N P_slices_Compare_int_int) trivial) (by kernel_rfl) (by kernel_rfl) (by kernel_rfl) (by kernel_rfl) (by kernel_rfl) (of_decide_eq_true (by kernel_rfl))
theorem p_impl_compareCells (a0 a1 : D_A3) : P_impl_compareCells (a0, a1, ()) = 
 Option.bind (P_slices_Compare_int_int (([a0.1, a0.2.1, a0.2.2.1] : List Int), ([a1.1, a1.2.1, a1.2.2.1] : List Int), ())) fun r0 =>
 some (r0.1, ()) := by
 rewrite [h_impl_compareCells]
 exact e_impl_compareCells N P_slices_Compare_int_int a0 a1

abbrev As_impl_IsHeap : List ATy := [.data true T_Heap]
abbrev R_impl_IsHeap : List (Bool × Ty) := [(false, .bool)]
abbrev M_impl_IsHeap : List RMode := []
abbrev Ft_impl_IsHeap : Type := D_Heap × Unit → Option (Bool × Unit)
noncomputable def X_impl_IsHeap (n : Nat) (F_Heap_box : Ft_Heap_box) (F_box_valid : Ft_box_valid) (F_box_has : Ft_box_has) (F_impl_compareCells : Ft_impl_compareCells) : Ctx := { types := TT, globals := [], con := [(50, ⟨As_Heap_box, R_Heap_box, M_Heap_box, F_Heap_box⟩), (51, ⟨As_box_valid, R_box_valid, M_box_valid, F_box_valid⟩), (52, ⟨As_box_has, R_box_has, M_box_has, F_box_has⟩), (53, ⟨As_impl_compareCells, R_impl_compareCells, M_impl_compareCells, F_impl_compareCells⟩)], keep := [(4, ⟨[.box 1, .tmp 1, .tmp 10, .tmp 11, .tmp 12], []⟩)], results := [.tmp 2], ntmps := 38, n := n }
noncomputable def B_impl_IsHeap : Code := (Tryz.f9.body).getD .skip
noncomputable def L_impl_IsHeap_4 (n : Nat) (F_Heap_box : Ft_Heap_box) (F_box_valid : Ft_box_valid) (F_box_has : Ft_box_has) (F_impl_compareCells : Ft_impl_compareCells) (m0 : Nat) (p0 p1 p2 : Int) (p3 p4 : List D_A3) (p5 p6 : Int) : Option (denL R_impl_IsHeap) := loopF (X_impl_IsHeap n F_Heap_box F_box_valid F_box_has F_impl_compareCells) B_impl_IsHeap R_impl_IsHeap M_impl_IsHeap 4 [m0] [(.ver, .num 1), (.box 1, .box 0 false [.int .i64 p0, .int .i64 p1, .int .i64 p2, .imm T_A3 p3 (some 3)]), (.tmp 1, .val false [.addr 1 0 0]), (.tmp 10, .val false [.imm T_A3 p4 (some 3)]), (.tmp 11, .val false [.int .i64 p5]), (.tmp 12, .val false [.int .i64 p6])]
theorem e_impl_IsHeap (n : Nat) (F_Heap_box : Ft_Heap_box) (F_box_valid : Ft_box_valid) (F_box_has : Ft_box_has) (F_impl_compareCells : Ft_impl_compareCells) (a0 : D_Heap) : runF (X_impl_IsHeap n F_Heap_box F_box_valid F_box_has F_impl_compareCells) B_impl_IsHeap As_impl_IsHeap R_impl_IsHeap M_impl_IsHeap (a0, ()) = 
 Option.bind (F_Heap_box (a0, ())) fun r0 =>
 Option.bind (F_box_valid (r0.1, ())) fun r1 =>
 bif !r1.1 then
 some (false, ())
 else
 L_impl_IsHeap_4 n F_Heap_box F_box_valid F_box_has F_impl_compareCells n a0.1 a0.2.1 a0.2.2.1 a0.2.2.2.1 a0.2.2.2.1 (List.length a0.2.2.2.1 : Int) 0 := by kernel_rfl
theorem e_impl_IsHeap_4 (n : Nat) (F_Heap_box : Ft_Heap_box) (F_box_valid : Ft_box_valid) (F_box_has : Ft_box_has) (F_impl_compareCells : Ft_impl_compareCells) (m0 : Nat) (p0 p1 p2 : Int) (p3 p4 : List D_A3) (p5 p6 : Int) : L_impl_IsHeap_4 n F_Heap_box F_box_valid F_box_has F_impl_compareCells (m0 + 1) p0 p1 p2 p3 p4 p5 p6 = 
 bif decide (p6 < p5) then
 bif inB p6 (List.length p4) then
 Option.bind (F_Heap_box ((p0, (p1, (p2, (p3, ())))), ())) fun r2 =>
 Option.bind (F_box_has (r2.1, (nth T_A3 p4 p6), ())) fun r3 =>
 bif !r3.1 then
 some (false, ())
 else
 bif decide (p6 > 0) then
 bif inB (IntKind.wrap .i64 (p6 - 1)) (List.length p3) then
 Option.bind (F_impl_compareCells ((nth T_A3 p3 (IntKind.wrap .i64 (p6 - 1))), (nth T_A3 p4 p6), ())) fun r7 =>
 bif decide (r7.1 ≥ 0) then
 some (false, ())
 else
 L_impl_IsHeap_4 n F_Heap_box F_box_valid F_box_has F_impl_compareCells m0 p0 p1 p2 p3 p4 p5 (IntKind.wrap .i64 (p6 + 1))
 else none
 else
 L_impl_IsHeap_4 n F_Heap_box F_box_valid F_box_has F_impl_compareCells m0 p0 p1 p2 p3 p4 p5 (IntKind.wrap .i64 (p6 + 1))
 else none
 else
 some (true, ()) := by kernel_rfl
noncomputable def P_impl_IsHeap : Ft_impl_IsHeap := hid (runF (X_impl_IsHeap N P_Heap_box P_box_valid P_box_has P_impl_compareCells) B_impl_IsHeap As_impl_IsHeap R_impl_IsHeap M_impl_IsHeap)
theorem h_impl_IsHeap : P_impl_IsHeap = runF (X_impl_IsHeap N P_Heap_box P_box_valid P_box_has P_impl_compareCells) B_impl_IsHeap As_impl_IsHeap R_impl_IsHeap M_impl_IsHeap := hid_eq _
noncomputable def C_impl_IsHeap : Contract := ⟨As_impl_IsHeap, R_impl_IsHeap, M_impl_IsHeap, P_impl_IsHeap⟩
theorem s_impl_IsHeap : Sound Tryz.prog GG 9 C_impl_IsHeap := by
 unfold C_impl_IsHeap; rw [h_impl_IsHeap]
 exact sound_of_run (fn := Tryz.f9) hmix hstable (tyOK_of ttOK) (hglob (X_impl_IsHeap N P_Heap_box P_box_valid P_box_has P_impl_compareCells)) (conOK_of (X := X_impl_IsHeap N P_Heap_box P_box_valid P_box_has P_impl_compareCells) ⟨s_Heap_box, s_box_valid, s_box_has, s_impl_compareCells, trivial⟩) (mconOK_of (X := X_impl_IsHeap N P_Heap_box P_box_valid P_box_has P_impl_compareCells) trivial) (by kernel_rfl) (by kernel_rfl) (by kernel_rfl) (by kernel_rfl) (by kernel_rfl) (of_decide_eq_true (by kernel_rfl))
noncomputable def l_impl_IsHeap_4 : Nat → Int → Int → Int → (List D_A3) → (List D_A3) → Int → Int → Option (denL R_impl_IsHeap) := hid (fun m0 p0 p1 p2 p3 p4 p5 p6 => L_impl_IsHeap_4 N P_Heap_box P_box_valid P_box_has P_impl_compareCells m0 p0 p1 p2 p3 p4 p5 p6)
theorem h_impl_IsHeap_4 : l_impl_IsHeap_4 = fun m0 p0 p1 p2 p3 p4 p5 p6 => L_impl_IsHeap_4 N P_Heap_box P_box_valid P_box_has P_impl_compareCells m0 p0 p1 p2 p3 p4 p5 p6 := hid_eq _
theorem p_impl_IsHeap (a0 : D_Heap) : P_impl_IsHeap (a0, ()) = 
 Option.bind (P_Heap_box (a0, ())) fun r0 =>
 Option.bind (P_box_valid (r0.1, ())) fun r1 =>
 bif !r1.1 then
 some (false, ())
 else
 l_impl_IsHeap_4 N a0.1 a0.2.1 a0.2.2.1 a0.2.2.2.1 a0.2.2.2.1 (List.length a0.2.2.2.1 : Int) 0 := by
 rewrite [h_impl_IsHeap, h_impl_IsHeap_4]
 exact e_impl_IsHeap N P_Heap_box P_box_valid P_box_has P_impl_compareCells a0
theorem q_impl_IsHeap_4 (m0 : Nat) (p0 p1 p2 : Int) (p3 p4 : List D_A3) (p5 p6 : Int) : l_impl_IsHeap_4 (m0 + 1) p0 p1 p2 p3 p4 p5 p6 = 
 bif decide (p6 < p5) then
 bif inB p6 (List.length p4) then
 Option.bind (P_Heap_box ((p0, (p1, (p2, (p3, ())))), ())) fun r2 =>
 Option.bind (P_box_has (r2.1, (nth T_A3 p4 p6), ())) fun r3 =>
 bif !r3.1 then
 some (false, ())
 else
 bif decide (p6 > 0) then
 bif inB (IntKind.wrap .i64 (p6 - 1)) (List.length p3) then
 Option.bind (P_impl_compareCells ((nth T_A3 p3 (IntKind.wrap .i64 (p6 - 1))), (nth T_A3 p4 p6), ())) fun r7 =>
 bif decide (r7.1 ≥ 0) then
 some (false, ())
 else
 l_impl_IsHeap_4 m0 p0 p1 p2 p3 p4 p5 (IntKind.wrap .i64 (p6 + 1))
 else none
 else
 l_impl_IsHeap_4 m0 p0 p1 p2 p3 p4 p5 (IntKind.wrap .i64 (p6 + 1))
 else none
 else
 some (true, ()) := by
 rewrite [h_impl_IsHeap_4]
 exact e_impl_IsHeap_4 N P_Heap_box P_box_valid P_box_has P_impl_compareCells m0 p0 p1 p2 p3 p4 p5 p6

abbrev As_Bench_own : List ATy := [.data true T_Bench]
abbrev R_Bench_own : List (Bool × Ty) := [(true, T_Bench)]
abbrev M_Bench_own : List RMode := [.own 38]
abbrev Ft_Bench_own : Type := D_Bench × Unit → Option (D_Bench × Unit)
noncomputable def X_Bench_own (n : Nat) : Ctx := { types := TT, globals := [], con := [], keep := [], results := [.cell 2 51], ntmps := 11, n := n }
noncomputable def B_Bench_own : Code := (Tryz.f78.body).getD .skip
theorem e_Bench_own (n : Nat) (a0 : D_Bench) : runF (X_Bench_own n) B_Bench_own As_Bench_own R_Bench_own M_Bench_own (a0, ()) = 
 bif (decide (((List.length ([] : List D_A3)) + (List.length a0.1.2.2.2.1)) * 24 ≤ 140737488355328) && decide (((List.length ([] : List D_A3)) + (List.length a0.1.2.2.2.1)) ≤ 140737488355328)) then
 some (((a0.1.1, (a0.1.2.1, (a0.1.2.2.1, ((([] : List D_A3) ++ a0.1.2.2.2.1), ())))), a0.2), ())
 else none := by kernel_rfl
noncomputable def P_Bench_own : Ft_Bench_own := hid (runF (X_Bench_own N) B_Bench_own As_Bench_own R_Bench_own M_Bench_own)
theorem h_Bench_own : P_Bench_own = runF (X_Bench_own N) B_Bench_own As_Bench_own R_Bench_own M_Bench_own := hid_eq _
noncomputable def C_Bench_own : Contract := ⟨As_Bench_own, R_Bench_own, M_Bench_own, P_Bench_own⟩
theorem s_Bench_own : Sound Tryz.prog GG 78 C_Bench_own := by
 unfold C_Bench_own; rw [h_Bench_own]
 exact sound_of_run (fn := Tryz.f78) hmix hstable (tyOK_of ttOK) (hglob (X_Bench_own N)) (conOK_of (X := X_Bench_own N) trivial) (mconOK_of (X := X_Bench_own N) trivial) (by kernel_rfl) (by kernel_rfl) (by kernel_rfl) (by kernel_rfl) (by kernel_rfl) (of_decide_eq_true (by kernel_rfl))
theorem p_Bench_own (a0 : D_Bench) : P_Bench_own (a0, ()) = 
 bif (decide (((List.length ([] : List D_A3)) + (List.length a0.1.2.2.2.1)) * 24 ≤ 140737488355328) && decide (((List.length ([] : List D_A3)) + (List.length a0.1.2.2.2.1)) ≤ 140737488355328)) then
 some (((a0.1.1, (a0.1.2.1, (a0.1.2.2.1, ((([] : List D_A3) ++ a0.1.2.2.2.1), ())))), a0.2), ())
 else none := by
 rewrite [h_Bench_own]
 exact e_Bench_own N a0

abbrev As_impl_NewBench : List ATy := [.data true T_Heap]
abbrev R_impl_NewBench : List (Bool × Ty) := [(true, T_Bench), (false, .bool)]
abbrev M_impl_NewBench : List RMode := [.own 38]
abbrev Ft_impl_NewBench : Type := D_Heap × Unit → Option (D_Bench × Bool × Unit)
noncomputable def X_impl_NewBench (n : Nat) (F_impl_IsHeap : Ft_impl_IsHeap) (F_Bench_own : Ft_Bench_own) : Ctx := { types := TT, globals := [], con := [(9, ⟨As_impl_IsHeap, R_impl_IsHeap, M_impl_IsHeap, F_impl_IsHeap⟩), (78, ⟨As_Bench_own, R_Bench_own, M_Bench_own, F_Bench_own⟩)], keep := [], results := [.cell 2 51, .tmp 3], ntmps := 14, n := n }
noncomputable def B_impl_NewBench : Code := (Tryz.f32.body).getD .skip
theorem e_impl_NewBench (n : Nat) (F_impl_IsHeap : Ft_impl_IsHeap) (F_Bench_own : Ft_Bench_own) (a0 : D_Heap) : runF (X_impl_NewBench n F_impl_IsHeap F_Bench_own) B_impl_NewBench As_impl_NewBench R_impl_NewBench M_impl_NewBench (a0, ()) = 
 Option.bind (F_impl_IsHeap (a0, ())) fun r0 =>
 bif !r0.1 then
 some (((0, (0, (0, (([] : List D_A3), ())))), (0, (0, ()))), false, ())
 else
 Option.bind (F_Bench_own ((a0, ((List.length a0.2.2.2.1 : Int), (0, ()))), ())) fun r2 =>
 some (r2.1, true, ()) := by kernel_rfl
noncomputable def P_impl_NewBench : Ft_impl_NewBench := hid (runF (X_impl_NewBench N P_impl_IsHeap P_Bench_own) B_impl_NewBench As_impl_NewBench R_impl_NewBench M_impl_NewBench)
theorem h_impl_NewBench : P_impl_NewBench = runF (X_impl_NewBench N P_impl_IsHeap P_Bench_own) B_impl_NewBench As_impl_NewBench R_impl_NewBench M_impl_NewBench := hid_eq _
noncomputable def C_impl_NewBench : Contract := ⟨As_impl_NewBench, R_impl_NewBench, M_impl_NewBench, P_impl_NewBench⟩
theorem s_impl_NewBench : Sound Tryz.prog GG 32 C_impl_NewBench := by
 unfold C_impl_NewBench; rw [h_impl_NewBench]
 exact sound_of_run (fn := Tryz.f32) hmix hstable (tyOK_of ttOK) (hglob (X_impl_NewBench N P_impl_IsHeap P_Bench_own)) (conOK_of (X := X_impl_NewBench N P_impl_IsHeap P_Bench_own) ⟨s_impl_IsHeap, s_Bench_own, trivial⟩) (mconOK_of (X := X_impl_NewBench N P_impl_IsHeap P_Bench_own) trivial) (by kernel_rfl) (by kernel_rfl) (by kernel_rfl) (by kernel_rfl) (by kernel_rfl) (of_decide_eq_true (by kernel_rfl))
theorem p_impl_NewBench (a0 : D_Heap) : P_impl_NewBench (a0, ()) = 
 Option.bind (P_impl_IsHeap (a0, ())) fun r0 =>
 bif !r0.1 then
 some (((0, (0, (0, (([] : List D_A3), ())))), (0, (0, ()))), false, ())
 else
 Option.bind (P_Bench_own ((a0, ((List.length a0.2.2.2.1 : Int), (0, ()))), ())) fun r2 =>
 some (r2.1, true, ()) := by
 rewrite [h_impl_NewBench]
 exact e_impl_NewBench N P_impl_IsHeap P_Bench_own a0

abbrev As_spec_l2Made : List ATy := [.data true T_Heap, .data false (.sl T_A3)]
abbrev R_spec_l2Made : List (Bool × Ty) := [(true, T_Heap)]
abbrev M_spec_l2Made : List RMode := [.pass 4]
abbrev Ft_spec_l2Made : Type := D_Heap × (List D_A3) × Unit → Option (D_Heap × Unit)
noncomputable def X_spec_l2Made (n : Nat) : Ctx := { types := TT, globals := [], con := [], keep := [], results := [.cell 4 26], ntmps := 13, n := n }
noncomputable def B_spec_l2Made : Code := (Tryz.f98.body).getD .skip
theorem e_spec_l2Made (n : Nat) (a0 : D_Heap) (a1 : List D_A3) : runF (X_spec_l2Made n) B_spec_l2Made As_spec_l2Made R_spec_l2Made M_spec_l2Made (a0, a1, ()) = 
 some ((a0.1, (a0.2.1, (a0.2.2.1, (a1, ())))), ()) := by kernel_rfl
noncomputable def P_spec_l2Made : Ft_spec_l2Made := hid (runF (X_spec_l2Made N) B_spec_l2Made As_spec_l2Made R_spec_l2Made M_spec_l2Made)
theorem h_spec_l2Made : P_spec_l2Made = runF (X_spec_l2Made N) B_spec_l2Made As_spec_l2Made R_spec_l2Made M_spec_l2Made := hid_eq _
noncomputable def C_spec_l2Made : Contract := ⟨As_spec_l2Made, R_spec_l2Made, M_spec_l2Made, P_spec_l2Made⟩
theorem s_spec_l2Made : Sound Tryz.prog GG 98 C_spec_l2Made := by
 unfold C_spec_l2Made; rw [h_spec_l2Made]
 exact sound_of_run (fn := Tryz.f98) hmix hstable (tyOK_of ttOK) (hglob (X_spec_l2Made N)) (conOK_of (X := X_spec_l2Made N) trivial) (mconOK_of (X := X_spec_l2Made N) trivial) (by kernel_rfl) (by kernel_rfl) (by kernel_rfl) (by kernel_rfl) (by kernel_rfl) (of_decide_eq_true (by kernel_rfl))
theorem p_spec_l2Made (a0 : D_Heap) (a1 : List D_A3) : P_spec_l2Made (a0, a1, ()) = 
 some ((a0.1, (a0.2.1, (a0.2.2.1, (a1, ())))), ()) := by
 rewrite [h_spec_l2Made]
 exact e_spec_l2Made N a0 a1

abbrev As_spec_l2Own : List ATy := [.data true T_Heap]
abbrev R_spec_l2Own : List (Bool × Ty) := [(true, T_Heap)]
abbrev M_spec_l2Own : List RMode := [.own 38]
abbrev Ft_spec_l2Own : Type := D_Heap × Unit → Option (D_Heap × Unit)
noncomputable def X_spec_l2Own (n : Nat) (F_spec_l2Made : Ft_spec_l2Made) : Ctx := { types := TT, globals := [], con := [(98, ⟨As_spec_l2Made, R_spec_l2Made, M_spec_l2Made, F_spec_l2Made⟩)], keep := [], results := [.cell 2 26], ntmps := 9, n := n }
noncomputable def B_spec_l2Own : Code := (Tryz.f111.body).getD .skip
theorem e_spec_l2Own (n : Nat) (F_spec_l2Made : Ft_spec_l2Made) (a0 : D_Heap) : runF (X_spec_l2Own n F_spec_l2Made) B_spec_l2Own As_spec_l2Own R_spec_l2Own M_spec_l2Own (a0, ()) = 
 bif (decide (((List.length ([] : List D_A3)) + (List.length a0.2.2.2.1)) * 24 ≤ 140737488355328) && decide (((List.length ([] : List D_A3)) + (List.length a0.2.2.2.1)) ≤ 140737488355328)) then
 Option.bind (F_spec_l2Made (a0, (([] : List D_A3) ++ a0.2.2.2.1), ())) fun r1 =>
 some ((r1.1.1, (r1.1.2.1, (r1.1.2.2.1, ((([] : List D_A3) ++ a0.2.2.2.1), ())))), ())
 else none := by kernel_rfl
noncomputable def P_spec_l2Own : Ft_spec_l2Own := hid (runF (X_spec_l2Own N P_spec_l2Made) B_spec_l2Own As_spec_l2Own R_spec_l2Own M_spec_l2Own)
theorem h_spec_l2Own : P_spec_l2Own = runF (X_spec_l2Own N P_spec_l2Made) B_spec_l2Own As_spec_l2Own R_spec_l2Own M_spec_l2Own := hid_eq _
noncomputable def C_spec_l2Own : Contract := ⟨As_spec_l2Own, R_spec_l2Own, M_spec_l2Own, P_spec_l2Own⟩
theorem s_spec_l2Own : Sound Tryz.prog GG 111 C_spec_l2Own := by
 unfold C_spec_l2Own; rw [h_spec_l2Own]
 exact sound_of_run (fn := Tryz.f111) hmix hstable (tyOK_of ttOK) (hglob (X_spec_l2Own N P_spec_l2Made)) (conOK_of (X := X_spec_l2Own N P_spec_l2Made) ⟨s_spec_l2Made, trivial⟩) (mconOK_of (X := X_spec_l2Own N P_spec_l2Made) trivial) (by kernel_rfl) (by kernel_rfl) (by kernel_rfl) (by kernel_rfl) (by kernel_rfl) (of_decide_eq_true (by kernel_rfl))
theorem p_spec_l2Own (a0 : D_Heap) : P_spec_l2Own (a0, ()) = 
 bif (decide (((List.length ([] : List D_A3)) + (List.length a0.2.2.2.1)) * 24 ≤ 140737488355328) && decide (((List.length ([] : List D_A3)) + (List.length a0.2.2.2.1)) ≤ 140737488355328)) then
 Option.bind (P_spec_l2Made (a0, (([] : List D_A3) ++ a0.2.2.2.1), ())) fun r1 =>
 some ((r1.1.1, (r1.1.2.1, (r1.1.2.2.1, ((([] : List D_A3) ++ a0.2.2.2.1), ())))), ())
 else none := by
 rewrite [h_spec_l2Own]
 exact e_spec_l2Own N P_spec_l2Made a0

abbrev As_spec_l12Own : List ATy := [.data true T_Bench]
abbrev R_spec_l12Own : List (Bool × Ty) := [(true, T_Bench)]
abbrev M_spec_l12Own : List RMode := [.own 38]
abbrev Ft_spec_l12Own : Type := D_Bench × Unit → Option (D_Bench × Unit)
noncomputable def X_spec_l12Own (n : Nat) (F_spec_l2Own : Ft_spec_l2Own) : Ctx := { types := TT, globals := [], con := [(111, ⟨As_spec_l2Own, R_spec_l2Own, M_spec_l2Own, F_spec_l2Own⟩)], keep := [], results := [.cell 2 51], ntmps := 11, n := n }
noncomputable def B_spec_l12Own : Code := (Tryz.f79.body).getD .skip
theorem e_spec_l12Own (n : Nat) (F_spec_l2Own : Ft_spec_l2Own) (a0 : D_Bench) : runF (X_spec_l12Own n F_spec_l2Own) B_spec_l12Own As_spec_l12Own R_spec_l12Own M_spec_l12Own (a0, ()) = 
 Option.bind (F_spec_l2Own (a0.1, ())) fun r0 =>
 some ((r0.1, a0.2), ()) := by kernel_rfl
noncomputable def P_spec_l12Own : Ft_spec_l12Own := hid (runF (X_spec_l12Own N P_spec_l2Own) B_spec_l12Own As_spec_l12Own R_spec_l12Own M_spec_l12Own)
theorem h_spec_l12Own : P_spec_l12Own = runF (X_spec_l12Own N P_spec_l2Own) B_spec_l12Own As_spec_l12Own R_spec_l12Own M_spec_l12Own := hid_eq _
noncomputable def C_spec_l12Own : Contract := ⟨As_spec_l12Own, R_spec_l12Own, M_spec_l12Own, P_spec_l12Own⟩
theorem s_spec_l12Own : Sound Tryz.prog GG 79 C_spec_l12Own := by
 unfold C_spec_l12Own; rw [h_spec_l12Own]
 exact sound_of_run (fn := Tryz.f79) hmix hstable (tyOK_of ttOK) (hglob (X_spec_l12Own N P_spec_l2Own)) (conOK_of (X := X_spec_l12Own N P_spec_l2Own) ⟨s_spec_l2Own, trivial⟩) (mconOK_of (X := X_spec_l12Own N P_spec_l2Own) trivial) (by kernel_rfl) (by kernel_rfl) (by kernel_rfl) (by kernel_rfl) (by kernel_rfl) (of_decide_eq_true (by kernel_rfl))
theorem p_spec_l12Own (a0 : D_Bench) : P_spec_l12Own (a0, ()) = 
 Option.bind (P_spec_l2Own (a0.1, ())) fun r0 =>
 some ((r0.1, a0.2), ()) := by
 rewrite [h_spec_l12Own]
 exact e_spec_l12Own N P_spec_l2Own a0

abbrev As_spec_NewBench : List ATy := [.data true T_Heap]
abbrev R_spec_NewBench : List (Bool × Ty) := [(true, T_Bench), (false, .bool)]
abbrev M_spec_NewBench : List RMode := [.own 38]
abbrev Ft_spec_NewBench : Type := D_Heap × Unit → Option (D_Bench × Bool × Unit)
noncomputable def X_spec_NewBench (n : Nat) (F_spec_l2Heap : Ft_spec_l2Heap) (F_spec_l12Own : Ft_spec_l12Own) : Ctx := { types := TT, globals := [], con := [(48, ⟨As_spec_l2Heap, R_spec_l2Heap, M_spec_l2Heap, F_spec_l2Heap⟩), (79, ⟨As_spec_l12Own, R_spec_l12Own, M_spec_l12Own, F_spec_l12Own⟩)], keep := [], results := [.cell 2 51, .tmp 3], ntmps := 14, n := n }
noncomputable def B_spec_NewBench : Code := (Tryz.f33.body).getD .skip
theorem e_spec_NewBench (n : Nat) (F_spec_l2Heap : Ft_spec_l2Heap) (F_spec_l12Own : Ft_spec_l12Own) (a0 : D_Heap) : runF (X_spec_NewBench n F_spec_l2Heap F_spec_l12Own) B_spec_NewBench As_spec_NewBench R_spec_NewBench M_spec_NewBench (a0, ()) = 
 Option.bind (F_spec_l2Heap (a0, ())) fun r0 =>
 bif !r0.1 then
 some (((0, (0, (0, (([] : List D_A3), ())))), (0, (0, ()))), false, ())
 else
 Option.bind (F_spec_l12Own ((a0, ((List.length a0.2.2.2.1 : Int), (0, ()))), ())) fun r2 =>
 some (r2.1, true, ()) := by kernel_rfl
noncomputable def P_spec_NewBench : Ft_spec_NewBench := hid (runF (X_spec_NewBench N P_spec_l2Heap P_spec_l12Own) B_spec_NewBench As_spec_NewBench R_spec_NewBench M_spec_NewBench)
theorem h_spec_NewBench : P_spec_NewBench = runF (X_spec_NewBench N P_spec_l2Heap P_spec_l12Own) B_spec_NewBench As_spec_NewBench R_spec_NewBench M_spec_NewBench := hid_eq _
noncomputable def C_spec_NewBench : Contract := ⟨As_spec_NewBench, R_spec_NewBench, M_spec_NewBench, P_spec_NewBench⟩
theorem s_spec_NewBench : Sound Tryz.prog GG 33 C_spec_NewBench := by
 unfold C_spec_NewBench; rw [h_spec_NewBench]
 exact sound_of_run (fn := Tryz.f33) hmix hstable (tyOK_of ttOK) (hglob (X_spec_NewBench N P_spec_l2Heap P_spec_l12Own)) (conOK_of (X := X_spec_NewBench N P_spec_l2Heap P_spec_l12Own) ⟨s_spec_l2Heap, s_spec_l12Own, trivial⟩) (mconOK_of (X := X_spec_NewBench N P_spec_l2Heap P_spec_l12Own) trivial) (by kernel_rfl) (by kernel_rfl) (by kernel_rfl) (by kernel_rfl) (by kernel_rfl) (of_decide_eq_true (by kernel_rfl))
theorem p_spec_NewBench (a0 : D_Heap) : P_spec_NewBench (a0, ()) = 
 Option.bind (P_spec_l2Heap (a0, ())) fun r0 =>
 bif !r0.1 then
 some (((0, (0, (0, (([] : List D_A3), ())))), (0, (0, ()))), false, ())
 else
 Option.bind (P_spec_l12Own ((a0, ((List.length a0.2.2.2.1 : Int), (0, ()))), ())) fun r2 =>
 some (r2.1, true, ()) := by
 rewrite [h_spec_NewBench]
 exact e_spec_NewBench N P_spec_l2Heap P_spec_l12Own a0

abbrev As_spec_l1Least : List ATy := [.data false (.int .i64), .data false (.int .i64)]
abbrev R_spec_l1Least : List (Bool × Ty) := [(false, (.int .i64))]
abbrev M_spec_l1Least : List RMode := []
abbrev Ft_spec_l1Least : Type := Int × Int × Unit → Option (Int × Unit)
noncomputable def X_spec_l1Least (n : Nat) : Ctx := { types := TT, globals := [], con := [], keep := [], results := [.tmp 4], ntmps := 10, n := n }
noncomputable def B_spec_l1Least : Code := (Tryz.f122.body).getD .skip
theorem e_spec_l1Least (n : Nat) (a0 a1 : Int) : runF (X_spec_l1Least n) B_spec_l1Least As_spec_l1Least R_spec_l1Least M_spec_l1Least (a0, a1, ()) = 
 bif decide (a0 < a1) then
 some (a0, ())
 else
 some (a1, ()) := by kernel_rfl
noncomputable def P_spec_l1Least : Ft_spec_l1Least := hid (runF (X_spec_l1Least N) B_spec_l1Least As_spec_l1Least R_spec_l1Least M_spec_l1Least)
theorem h_spec_l1Least : P_spec_l1Least = runF (X_spec_l1Least N) B_spec_l1Least As_spec_l1Least R_spec_l1Least M_spec_l1Least := hid_eq _
noncomputable def C_spec_l1Least : Contract := ⟨As_spec_l1Least, R_spec_l1Least, M_spec_l1Least, P_spec_l1Least⟩
theorem s_spec_l1Least : Sound Tryz.prog GG 122 C_spec_l1Least := by
 unfold C_spec_l1Least; rw [h_spec_l1Least]
 exact sound_of_run (fn := Tryz.f122) hmix hstable (tyOK_of ttOK) (hglob (X_spec_l1Least N)) (conOK_of (X := X_spec_l1Least N) trivial) (mconOK_of (X := X_spec_l1Least N) trivial) (by kernel_rfl) (by kernel_rfl) (by kernel_rfl) (by kernel_rfl) (by kernel_rfl) (of_decide_eq_true (by kernel_rfl))
theorem p_spec_l1Least (a0 a1 : Int) : P_spec_l1Least (a0, a1, ()) = 
 bif decide (a0 < a1) then
 some (a0, ())
 else
 some (a1, ()) := by
 rewrite [h_spec_l1Least]
 exact e_spec_l1Least N a0 a1

abbrev As_spec_l1Most : List ATy := [.data false (.int .i64), .data false (.int .i64)]
abbrev R_spec_l1Most : List (Bool × Ty) := [(false, (.int .i64))]
abbrev M_spec_l1Most : List RMode := []
abbrev Ft_spec_l1Most : Type := Int × Int × Unit → Option (Int × Unit)
noncomputable def X_spec_l1Most (n : Nat) : Ctx := { types := TT, globals := [], con := [], keep := [], results := [.tmp 4], ntmps := 10, n := n }
noncomputable def B_spec_l1Most : Code := (Tryz.f125.body).getD .skip
theorem e_spec_l1Most (n : Nat) (a0 a1 : Int) : runF (X_spec_l1Most n) B_spec_l1Most As_spec_l1Most R_spec_l1Most M_spec_l1Most (a0, a1, ()) = 
 bif decide (a0 > a1) then
 some (a0, ())
 else
 some (a1, ()) := by kernel_rfl
noncomputable def P_spec_l1Most : Ft_spec_l1Most := hid (runF (X_spec_l1Most N) B_spec_l1Most As_spec_l1Most R_spec_l1Most M_spec_l1Most)
theorem h_spec_l1Most : P_spec_l1Most = runF (X_spec_l1Most N) B_spec_l1Most As_spec_l1Most R_spec_l1Most M_spec_l1Most := hid_eq _
noncomputable def C_spec_l1Most : Contract := ⟨As_spec_l1Most, R_spec_l1Most, M_spec_l1Most, P_spec_l1Most⟩
theorem s_spec_l1Most : Sound Tryz.prog GG 125 C_spec_l1Most := by
 unfold C_spec_l1Most; rw [h_spec_l1Most]
 exact sound_of_run (fn := Tryz.f125) hmix hstable (tyOK_of ttOK) (hglob (X_spec_l1Most N)) (conOK_of (X := X_spec_l1Most N) trivial) (mconOK_of (X := X_spec_l1Most N) trivial) (by kernel_rfl) (by kernel_rfl) (by kernel_rfl) (by kernel_rfl) (by kernel_rfl) (of_decide_eq_true (by kernel_rfl))
theorem p_spec_l1Most (a0 a1 : Int) : P_spec_l1Most (a0, a1, ()) = 
 bif decide (a0 > a1) then
 some (a0, ())
 else
 some (a1, ()) := by
 rewrite [h_spec_l1Most]
 exact e_spec_l1Most N a0 a1

abbrev As_l1Cur_cell : List ATy := [.lptr T_l1Cur, .data true T_Heap]
abbrev R_l1Cur_cell : List (Bool × Ty) := [(true, T_A3)]
abbrev M_l1Cur_cell : List RMode := []
abbrev Ft_l1Cur_cell : Type := D_l1Cur × D_Heap × Unit → Option ((D_A3 × Unit) × (D_l1Cur × Unit))
noncomputable def X_l1Cur_cell (n : Nat) (F_l1Cur_one : Ft_l1Cur_one) (F_l1Cur_pick : Ft_l1Cur_pick) (F_l1Cur_among : Ft_l1Cur_among) (F_spec_l2Long : Ft_spec_l2Long) (F_spec_l1Least : Ft_spec_l1Least) (F_spec_l1Most : Ft_spec_l1Most) : Ctx := { types := TT, globals := [], con := [(90, ⟨As_spec_l2Long, R_spec_l2Long, M_spec_l2Long, F_spec_l2Long⟩), (122, ⟨As_spec_l1Least, R_spec_l1Least, M_spec_l1Least, F_spec_l1Least⟩), (125, ⟨As_spec_l1Most, R_spec_l1Most, M_spec_l1Most, F_spec_l1Most⟩)], mcon := [(46, ⟨As_l1Cur_one, R_l1Cur_one, M_l1Cur_one, F_l1Cur_one⟩), (85, ⟨As_l1Cur_pick, R_l1Cur_pick, M_l1Cur_pick, F_l1Cur_pick⟩), (88, ⟨As_l1Cur_among, R_l1Cur_among, M_l1Cur_among, F_l1Cur_among⟩)], keep := [(3, ⟨[.box 3, .box 4, .box 5, .box 1000000, .tmp 0, .tmp 3, .tmp 4, .tmp 5, .tmp 6], []⟩)], results := [.cell 4 38], ntmps := 30, n := n }
noncomputable def B_l1Cur_cell : Code := (Tryz.f95.body).getD .skip
noncomputable def L_l1Cur_cell_3 (n : Nat) (F_l1Cur_one : Ft_l1Cur_one) (F_l1Cur_pick : Ft_l1Cur_pick) (F_l1Cur_among : Ft_l1Cur_among) (F_spec_l2Long : Ft_spec_l2Long) (F_spec_l1Least : Ft_spec_l1Least) (F_spec_l1Most : Ft_spec_l1Most) (m0 : Nat) (p0 p1 p2 : Int) (p3 : List D_A3) (p4 p5 : Int) (p6 p7 : Int) (p8 p9 : Int) (p10 : List Int) (p11 p12 p13 : Int) : Option (denL R_l1Cur_cell × denM As_l1Cur_cell) := loopFM (X_l1Cur_cell n F_l1Cur_one F_l1Cur_pick F_l1Cur_among F_spec_l2Long F_spec_l1Least F_spec_l1Most) B_l1Cur_cell As_l1Cur_cell R_l1Cur_cell M_l1Cur_cell 3 [m0] [(.ver, .num 1), (.box 3, .box 0 false [.int .i64 p0, .int .i64 p1, .int .i64 p2, .imm T_A3 p3 (some 4)]), (.box 4, .box 0 false [.int .i64 p4, .int .i64 p5, .int .i64 p6]), (.box 5, .box 0 false [.int .i64 p7, .int .i64 p8, .int .i64 p9]), (.box 1000000, .box 0 false [.imm (.int .u8) p10 (some 5), .int .i64 p11, .int .u64 p12]), (.tmp 0, .val false [.addr 1000000 0 0]), (.tmp 3, .val false [.addr 3 0 0]), (.tmp 4, .val false [.addr 4 0 0]), (.tmp 5, .val false [.addr 5 0 0]), (.tmp 6, .val false [.int .i64 p13])]
theorem e_l1Cur_cell (n : Nat) (F_l1Cur_one : Ft_l1Cur_one) (F_l1Cur_pick : Ft_l1Cur_pick) (F_l1Cur_among : Ft_l1Cur_among) (F_spec_l2Long : Ft_spec_l2Long) (F_spec_l1Least : Ft_spec_l1Least) (F_spec_l1Most : Ft_spec_l1Most) (a0 : D_l1Cur) (a1 : D_Heap) : runFM (X_l1Cur_cell n F_l1Cur_one F_l1Cur_pick F_l1Cur_among F_spec_l2Long F_spec_l1Least F_spec_l1Most) B_l1Cur_cell As_l1Cur_cell R_l1Cur_cell M_l1Cur_cell (a0, a1, ()) = 
 L_l1Cur_cell_3 n F_l1Cur_one F_l1Cur_pick F_l1Cur_among F_spec_l2Long F_spec_l1Least F_spec_l1Most n a1.1 a1.2.1 a1.2.2.1 a1.2.2.2.1 0 0 0 0 0 0 a0.1 a0.2.1 a0.2.2.1 0 := by kernel_rfl
theorem e_l1Cur_cell_3 (n : Nat) (F_l1Cur_one : Ft_l1Cur_one) (F_l1Cur_pick : Ft_l1Cur_pick) (F_l1Cur_among : Ft_l1Cur_among) (F_spec_l2Long : Ft_spec_l2Long) (F_spec_l1Least : Ft_spec_l1Least) (F_spec_l1Most : Ft_spec_l1Most) (m0 : Nat) (p0 p1 p2 : Int) (p3 : List D_A3) (p4 p5 : Int) (p6 p7 : Int) (p8 p9 : Int) (p10 : List Int) (p11 p12 p13 : Int) : L_l1Cur_cell_3 n F_l1Cur_one F_l1Cur_pick F_l1Cur_among F_spec_l2Long F_spec_l1Least F_spec_l1Most (m0 + 1) p0 p1 p2 p3 p4 p5 p6 p7 p8 p9 p10 p11 p12 p13 = 
 bif decide (p13 < 3) then
 Option.bind (F_spec_l2Long ((p0, (p1, (p2, (p3, ())))), p13, ())) fun r1 =>
 Option.bind (F_spec_l1Least (r1.1, 4, ())) fun r2 =>
 Option.bind (F_spec_l1Most (r2.1, 1, ())) fun r3 =>
 Option.bind (F_l1Cur_pick ((p10, (p11, (p12, ()))), r3.1, ())) fun r4 =>
 bif inB p13 3 then
 L_l1Cur_cell_3 n F_l1Cur_one F_l1Cur_pick F_l1Cur_among F_spec_l2Long F_spec_l1Least F_spec_l1Most m0 p0 p1 p2 p3 p4 p5 p6 (bif decide (p13 = (0 : Int)) then r4.1.1 else p7) (bif decide (p13 = (1 : Int)) then r4.1.1 else p8) (bif decide (p13 = (2 : Int)) then r4.1.1 else p9) p10 r4.2.1.2.1 r4.2.1.2.2.1 (IntKind.wrap .i64 (p13 + 1))
 else none
 else
 Option.bind (F_l1Cur_one ((p10, (p11, (p12, ()))), 30, ())) fun r1 =>
 bif r1.1.1 then
 Option.bind (F_l1Cur_pick ((p10, r1.2.1.2), 3, ())) fun r3 =>
 Option.bind (F_l1Cur_among ((p10, r3.2.1.2), ([(-1), 4, 4611686018427387904] : List Int), ())) fun r4 =>
 bif inB r3.1.1 3 then
 some ((((bif decide (r3.1.1 = (0 : Int)) then r4.1.1 else p7), ((bif decide (r3.1.1 = (1 : Int)) then r4.1.1 else p8), ((bif decide (r3.1.1 = (2 : Int)) then r4.1.1 else p9), ()))), ()), ((p10, r4.2.1.2), ()))
 else none
 else
 some (((p7, (p8, (p9, ()))), ()), ((p10, r1.2.1.2), ())) := by kernel_rfl
noncomputable def P_l1Cur_cell : Ft_l1Cur_cell := hid (runFM (X_l1Cur_cell N P_l1Cur_one P_l1Cur_pick P_l1Cur_among P_spec_l2Long P_spec_l1Least P_spec_l1Most) B_l1Cur_cell As_l1Cur_cell R_l1Cur_cell M_l1Cur_cell)
theorem h_l1Cur_cell : P_l1Cur_cell = runFM (X_l1Cur_cell N P_l1Cur_one P_l1Cur_pick P_l1Cur_among P_spec_l2Long P_spec_l1Least P_spec_l1Most) B_l1Cur_cell As_l1Cur_cell R_l1Cur_cell M_l1Cur_cell := hid_eq _
noncomputable def C_l1Cur_cell : MContract := ⟨As_l1Cur_cell, R_l1Cur_cell, M_l1Cur_cell, P_l1Cur_cell⟩
theorem s_l1Cur_cell : SoundM Tryz.prog n0 GG 95 C_l1Cur_cell := by
 unfold C_l1Cur_cell; rw [h_l1Cur_cell]
 exact sound_of_runM (fn := Tryz.f95) hmix hstable (tyOK_of ttOK) (hglob (X_l1Cur_cell N P_l1Cur_one P_l1Cur_pick P_l1Cur_among P_spec_l2Long P_spec_l1Least P_spec_l1Most)) (conOK_of (X := X_l1Cur_cell N P_l1Cur_one P_l1Cur_pick P_l1Cur_among P_spec_l2Long P_spec_l1Least P_spec_l1Most) ⟨s_spec_l2Long, s_spec_l1Least, s_spec_l1Most, trivial⟩) (mconOK_of (X := X_l1Cur_cell N P_l1Cur_one P_l1Cur_pick P_l1Cur_among P_spec_l2Long P_spec_l1Least P_spec_l1Most) ⟨s_l1Cur_one, s_l1Cur_pick, s_l1Cur_among, trivial⟩) (by kernel_rfl) (by kernel_rfl) (by kernel_rfl) (by kernel_rfl) (by kernel_rfl) (of_decide_eq_true (by kernel_rfl)) (by kernel_rfl) (by rfl)
noncomputable def l_l1Cur_cell_3 : Nat → Int → Int → Int → (List D_A3) → Int → Int → Int → Int → Int → Int → (List Int) → Int → Int → Int → Option (denL R_l1Cur_cell × denM As_l1Cur_cell) := hid (fun m0 p0 p1 p2 p3 p4 p5 p6 p7 p8 p9 p10 p11 p12 p13 => L_l1Cur_cell_3 N P_l1Cur_one P_l1Cur_pick P_l1Cur_among P_spec_l2Long P_spec_l1Least P_spec_l1Most m0 p0 p1 p2 p3 p4 p5 p6 p7 p8 p9 p10 p11 p12 p13)
theorem h_l1Cur_cell_3 : l_l1Cur_cell_3 = fun m0 p0 p1 p2 p3 p4 p5 p6 p7 p8 p9 p10 p11 p12 p13 => L_l1Cur_cell_3 N P_l1Cur_one P_l1Cur_pick P_l1Cur_among P_spec_l2Long P_spec_l1Least P_spec_l1Most m0 p0 p1 p2 p3 p4 p5 p6 p7 p8 p9 p10 p11 p12 p13 := hid_eq _
theorem p_l1Cur_cell (a0 : D_l1Cur) (a1 : D_Heap) : P_l1Cur_cell (a0, a1, ()) = 
 l_l1Cur_cell_3 N a1.1 a1.2.1 a1.2.2.1 a1.2.2.2.1 0 0 0 0 0 0 a0.1 a0.2.1 a0.2.2.1 0 := by
 rewrite [h_l1Cur_cell, h_l1Cur_cell_3]
 exact e_l1Cur_cell N P_l1Cur_one P_l1Cur_pick P_l1Cur_among P_spec_l2Long P_spec_l1Least P_spec_l1Most a0 a1
theorem q_l1Cur_cell_3 (m0 : Nat) (p0 p1 p2 : Int) (p3 : List D_A3) (p4 p5 : Int) (p6 p7 : Int) (p8 p9 : Int) (p10 : List Int) (p11 p12 p13 : Int) : l_l1Cur_cell_3 (m0 + 1) p0 p1 p2 p3 p4 p5 p6 p7 p8 p9 p10 p11 p12 p13 = 
 bif decide (p13 < 3) then
 Option.bind (P_spec_l2Long ((p0, (p1, (p2, (p3, ())))), p13, ())) fun r1 =>
 Option.bind (P_spec_l1Least (r1.1, 4, ())) fun r2 =>
 Option.bind (P_spec_l1Most (r2.1, 1, ())) fun r3 =>
 Option.bind (P_l1Cur_pick ((p10, (p11, (p12, ()))), r3.1, ())) fun r4 =>
 bif inB p13 3 then
 l_l1Cur_cell_3 m0 p0 p1 p2 p3 p4 p5 p6 (bif decide (p13 = (0 : Int)) then r4.1.1 else p7) (bif decide (p13 = (1 : Int)) then r4.1.1 else p8) (bif decide (p13 = (2 : Int)) then r4.1.1 else p9) p10 r4.2.1.2.1 r4.2.1.2.2.1 (IntKind.wrap .i64 (p13 + 1))
 else none
 else
 Option.bind (P_l1Cur_one ((p10, (p11, (p12, ()))), 30, ())) fun r1 =>
 bif r1.1.1 then
 Option.bind (P_l1Cur_pick ((p10, r1.2.1.2), 3, ())) fun r3 =>
 Option.bind (P_l1Cur_among ((p10, r3.2.1.2), ([(-1), 4, 4611686018427387904] : List Int), ())) fun r4 =>
 bif inB r3.1.1 3 then
 some ((((bif decide (r3.1.1 = (0 : Int)) then r4.1.1 else p7), ((bif decide (r3.1.1 = (1 : Int)) then r4.1.1 else p8), ((bif decide (r3.1.1 = (2 : Int)) then r4.1.1 else p9), ()))), ()), ((p10, r4.2.1.2), ()))
 else none
 else
 some (((p7, (p8, (p9, ()))), ()), ((p10, r1.2.1.2), ())) := by
 rewrite [h_l1Cur_cell_3]
 exact e_l1Cur_cell_3 N P_l1Cur_one P_l1Cur_pick P_l1Cur_among P_spec_l2Long P_spec_l1Least P_spec_l1Most m0 p0 p1 p2 p3 p4 p5 p6 p7 p8 p9 p10 p11 p12 p13

abbrev As_l1Cur_cube : List ATy := [.lptr T_l1Cur, .data true T_Heap]
abbrev R_l1Cur_cube : List (Bool × Ty) := [(true, T_A3)]
abbrev M_l1Cur_cube : List RMode := []
abbrev Ft_l1Cur_cube : Type := D_l1Cur × D_Heap × Unit → Option ((D_A3 × Unit) × (D_l1Cur × Unit))
noncomputable def X_l1Cur_cube (n : Nat) (F_l1Cur_one : Ft_l1Cur_one) (F_l1Cur_pick : Ft_l1Cur_pick) (F_l1Cur_cell : Ft_l1Cur_cell) : Ctx := { types := TT, globals := [], con := [], mcon := [(46, ⟨As_l1Cur_one, R_l1Cur_one, M_l1Cur_one, F_l1Cur_one⟩), (85, ⟨As_l1Cur_pick, R_l1Cur_pick, M_l1Cur_pick, F_l1Cur_pick⟩), (95, ⟨As_l1Cur_cell, R_l1Cur_cell, M_l1Cur_cell, F_l1Cur_cell⟩)], keep := [], results := [.cell 4 38], ntmps := 26, n := n }
noncomputable def B_l1Cur_cube : Code := (Tryz.f57.body).getD .skip
theorem e_l1Cur_cube (n : Nat) (F_l1Cur_one : Ft_l1Cur_one) (F_l1Cur_pick : Ft_l1Cur_pick) (F_l1Cur_cell : Ft_l1Cur_cell) (a0 : D_l1Cur) (a1 : D_Heap) : runFM (X_l1Cur_cube n F_l1Cur_one F_l1Cur_pick F_l1Cur_cell) B_l1Cur_cube As_l1Cur_cube R_l1Cur_cube M_l1Cur_cube (a0, a1, ()) = 
 bif decide ((List.length a1.2.2.2.1 : Int) > 0) then
 Option.bind (F_l1Cur_one (a0, 8, ())) fun r1 =>
 bif !r1.1.1 then
 Option.bind (F_l1Cur_pick ((a0.1, r1.2.1.2), (List.length a1.2.2.2.1 : Int), ())) fun r3 =>
 bif inB r3.1.1 (List.length a1.2.2.2.1) then
 some (((nth T_A3 a1.2.2.2.1 r3.1.1), ()), ((a0.1, r3.2.1.2), ()))
 else none
 else
 Option.bind (F_l1Cur_cell ((a0.1, r1.2.1.2), a1, ())) fun r3 =>
 some ((r3.1.1, ()), ((a0.1, r3.2.1.2), ()))
 else
 Option.bind (F_l1Cur_cell (a0, a1, ())) fun r1 =>
 some ((r1.1.1, ()), ((a0.1, r1.2.1.2), ())) := by kernel_rfl
noncomputable def P_l1Cur_cube : Ft_l1Cur_cube := hid (runFM (X_l1Cur_cube N P_l1Cur_one P_l1Cur_pick P_l1Cur_cell) B_l1Cur_cube As_l1Cur_cube R_l1Cur_cube M_l1Cur_cube)
theorem h_l1Cur_cube : P_l1Cur_cube = runFM (X_l1Cur_cube N P_l1Cur_one P_l1Cur_pick P_l1Cur_cell) B_l1Cur_cube As_l1Cur_cube R_l1Cur_cube M_l1Cur_cube := hid_eq _
noncomputable def C_l1Cur_cube : MContract := ⟨As_l1Cur_cube, R_l1Cur_cube, M_l1Cur_cube, P_l1Cur_cube⟩
theorem s_l1Cur_cube : SoundM Tryz.prog n0 GG 57 C_l1Cur_cube := by
 unfold C_l1Cur_cube; rw [h_l1Cur_cube]
 exact sound_of_runM (fn := Tryz.f57) hmix hstable (tyOK_of ttOK) (hglob (X_l1Cur_cube N P_l1Cur_one P_l1Cur_pick P_l1Cur_cell)) (conOK_of (X := X_l1Cur_cube N P_l1Cur_one P_l1Cur_pick P_l1Cur_cell) trivial) (mconOK_of (X := X_l1Cur_cube N P_l1Cur_one P_l1Cur_pick P_l1Cur_cell) ⟨s_l1Cur_one, s_l1Cur_pick, s_l1Cur_cell, trivial⟩) (by kernel_rfl) (by kernel_rfl) (by kernel_rfl) (by kernel_rfl) (by kernel_rfl) (of_decide_eq_true (by kernel_rfl)) (by kernel_rfl) (by rfl)
theorem p_l1Cur_cube (a0 : D_l1Cur) (a1 : D_Heap) : P_l1Cur_cube (a0, a1, ()) = 
 bif decide ((List.length a1.2.2.2.1 : Int) > 0) then
 Option.bind (P_l1Cur_one (a0, 8, ())) fun r1 =>
 bif !r1.1.1 then
 Option.bind (P_l1Cur_pick ((a0.1, r1.2.1.2), (List.length a1.2.2.2.1 : Int), ())) fun r3 =>
 bif inB r3.1.1 (List.length a1.2.2.2.1) then
 some (((nth T_A3 a1.2.2.2.1 r3.1.1), ()), ((a0.1, r3.2.1.2), ()))
 else none
 else
 Option.bind (P_l1Cur_cell ((a0.1, r1.2.1.2), a1, ())) fun r3 =>
 some ((r3.1.1, ()), ((a0.1, r3.2.1.2), ()))
 else
 Option.bind (P_l1Cur_cell (a0, a1, ())) fun r1 =>
 some ((r1.1.1, ()), ((a0.1, r1.2.1.2), ())) := by
 rewrite [h_l1Cur_cube]
 exact e_l1Cur_cube N P_l1Cur_one P_l1Cur_pick P_l1Cur_cell a0 a1

abbrev As_l1Cur_direction : List ATy := [.lptr T_l1Cur]
abbrev R_l1Cur_direction : List (Bool × Ty) := [(false, (.int .i64))]
abbrev M_l1Cur_direction : List RMode := []
abbrev Ft_l1Cur_direction : Type := D_l1Cur × Unit → Option ((Int × Unit) × (D_l1Cur × Unit))
noncomputable def X_l1Cur_direction (n : Nat) (F_l1Cur_one : Ft_l1Cur_one) (F_l1Cur_pick : Ft_l1Cur_pick) (F_l1Cur_among : Ft_l1Cur_among) : Ctx := { types := TT, globals := [], con := [], mcon := [(46, ⟨As_l1Cur_one, R_l1Cur_one, M_l1Cur_one, F_l1Cur_one⟩), (85, ⟨As_l1Cur_pick, R_l1Cur_pick, M_l1Cur_pick, F_l1Cur_pick⟩), (88, ⟨As_l1Cur_among, R_l1Cur_among, M_l1Cur_among, F_l1Cur_among⟩)], keep := [], results := [.tmp 2], ntmps := 10, n := n }
noncomputable def B_l1Cur_direction : Code := (Tryz.f112.body).getD .skip
theorem e_l1Cur_direction (n : Nat) (F_l1Cur_one : Ft_l1Cur_one) (F_l1Cur_pick : Ft_l1Cur_pick) (F_l1Cur_among : Ft_l1Cur_among) (a0 : D_l1Cur) : runFM (X_l1Cur_direction n F_l1Cur_one F_l1Cur_pick F_l1Cur_among) B_l1Cur_direction As_l1Cur_direction R_l1Cur_direction M_l1Cur_direction (a0, ()) = 
 Option.bind (F_l1Cur_one (a0, 30, ())) fun r0 =>
 bif r0.1.1 then
 Option.bind (F_l1Cur_among ((a0.1, r0.2.1.2), ([(-1), 3, 4611686018427387904] : List Int), ())) fun r2 =>
 some ((r2.1.1, ()), ((a0.1, r2.2.1.2), ()))
 else
 Option.bind (F_l1Cur_pick ((a0.1, r0.2.1.2), 3, ())) fun r2 =>
 some ((r2.1.1, ()), ((a0.1, r2.2.1.2), ())) := by kernel_rfl
noncomputable def P_l1Cur_direction : Ft_l1Cur_direction := hid (runFM (X_l1Cur_direction N P_l1Cur_one P_l1Cur_pick P_l1Cur_among) B_l1Cur_direction As_l1Cur_direction R_l1Cur_direction M_l1Cur_direction)
theorem h_l1Cur_direction : P_l1Cur_direction = runFM (X_l1Cur_direction N P_l1Cur_one P_l1Cur_pick P_l1Cur_among) B_l1Cur_direction As_l1Cur_direction R_l1Cur_direction M_l1Cur_direction := hid_eq _
noncomputable def C_l1Cur_direction : MContract := ⟨As_l1Cur_direction, R_l1Cur_direction, M_l1Cur_direction, P_l1Cur_direction⟩
theorem s_l1Cur_direction : SoundM Tryz.prog n0 GG 112 C_l1Cur_direction := by
 unfold C_l1Cur_direction; rw [h_l1Cur_direction]
 exact sound_of_runM (fn := Tryz.f112) hmix hstable (tyOK_of ttOK) (hglob (X_l1Cur_direction N P_l1Cur_one P_l1Cur_pick P_l1Cur_among)) (conOK_of (X := X_l1Cur_direction N P_l1Cur_one P_l1Cur_pick P_l1Cur_among) trivial) (mconOK_of (X := X_l1Cur_direction N P_l1Cur_one P_l1Cur_pick P_l1Cur_among) ⟨s_l1Cur_one, s_l1Cur_pick, s_l1Cur_among, trivial⟩) (by kernel_rfl) (by kernel_rfl) (by kernel_rfl) (by kernel_rfl) (by kernel_rfl) (of_decide_eq_true (by kernel_rfl)) (by kernel_rfl) (by rfl)
theorem p_l1Cur_direction (a0 : D_l1Cur) : P_l1Cur_direction (a0, ()) = 
 Option.bind (P_l1Cur_one (a0, 30, ())) fun r0 =>
 bif r0.1.1 then
 Option.bind (P_l1Cur_among ((a0.1, r0.2.1.2), ([(-1), 3, 4611686018427387904] : List Int), ())) fun r2 =>
 some ((r2.1.1, ()), ((a0.1, r2.2.1.2), ()))
 else
 Option.bind (P_l1Cur_pick ((a0.1, r0.2.1.2), 3, ())) fun r2 =>
 some ((r2.1.1, ()), ((a0.1, r2.2.1.2), ())) := by
 rewrite [h_l1Cur_direction]
 exact e_l1Cur_direction N P_l1Cur_one P_l1Cur_pick P_l1Cur_among a0

abbrev As_l1Cur_act12 : List ATy := [.lptr T_l1Cur, .data true T_Heap]
abbrev R_l1Cur_act12 : List (Bool × Ty) := [(true, T_Act)]
abbrev M_l1Cur_act12 : List RMode := []
abbrev Ft_l1Cur_act12 : Type := D_l1Cur × D_Heap × Unit → Option ((D_Act × Unit) × (D_l1Cur × Unit))
noncomputable def X_l1Cur_act12 (n : Nat) (F_l1Cur_cube : Ft_l1Cur_cube) (F_l1Cur_pick : Ft_l1Cur_pick) (F_l1Cur_among : Ft_l1Cur_among) (F_l1Cur_cell : Ft_l1Cur_cell) (F_l1Cur_direction : Ft_l1Cur_direction) : Ctx := { types := TT, globals := [], con := [], mcon := [(57, ⟨As_l1Cur_cube, R_l1Cur_cube, M_l1Cur_cube, F_l1Cur_cube⟩), (85, ⟨As_l1Cur_pick, R_l1Cur_pick, M_l1Cur_pick, F_l1Cur_pick⟩), (88, ⟨As_l1Cur_among, R_l1Cur_among, M_l1Cur_among, F_l1Cur_among⟩), (95, ⟨As_l1Cur_cell, R_l1Cur_cell, M_l1Cur_cell, F_l1Cur_cell⟩), (112, ⟨As_l1Cur_direction, R_l1Cur_direction, M_l1Cur_direction, F_l1Cur_direction⟩)], keep := [], results := [.cell 4 55], ntmps := 67, n := n }
noncomputable def B_l1Cur_act12 : Code := (Tryz.f81.body).getD .skip
theorem e_l1Cur_act12 (n : Nat) (F_l1Cur_cube : Ft_l1Cur_cube) (F_l1Cur_pick : Ft_l1Cur_pick) (F_l1Cur_among : Ft_l1Cur_among) (F_l1Cur_cell : Ft_l1Cur_cell) (F_l1Cur_direction : Ft_l1Cur_direction) (a0 : D_l1Cur) (a1 : D_Heap) : runFM (X_l1Cur_act12 n F_l1Cur_cube F_l1Cur_pick F_l1Cur_among F_l1Cur_cell F_l1Cur_direction) B_l1Cur_act12 As_l1Cur_act12 R_l1Cur_act12 M_l1Cur_act12 (a0, a1, ()) = 
 Option.bind (F_l1Cur_among (a0, ([1, 1, 1, 2, 2, 3, 4, 5, 6, 7] : List Int), ())) fun r0 =>
 bif decide (r0.1.1 = 1) then
 Option.bind (F_l1Cur_cell ((a0.1, r0.2.1.2), a1, ())) fun r2 =>
 Option.bind (F_l1Cur_pick ((a0.1, r2.2.1.2), 32, ())) fun r3 =>
 bif decide (r3.1.1 = 0) then
 Option.bind (F_l1Cur_among ((a0.1, r3.2.1.2), ([(-1), 3, 1, 4611686018427387904] : List Int), ())) fun r5 =>
 some (((r0.1.1, (r2.1.1, (r5.1.1, (0, ())))), ()), ((a0.1, r5.2.1.2), ()))
 else
 bif decide (r3.1.1 = 1) then
 Option.bind (F_l1Cur_among ((a0.1, r3.2.1.2), ([(-1), 3, 1] : List Int), ())) fun r6 =>
 some (((r0.1.1, (r2.1.1, (0, (r6.1.1, ())))), ()), ((a0.1, r6.2.1.2), ()))
 else
 bif decide (r3.1.1 = 2) then
 Option.bind (F_l1Cur_among ((a0.1, r3.2.1.2), ([0, 8, (-1)] : List Int), ())) fun r7 =>
 some (((r7.1.1, (r2.1.1, (0, (0, ())))), ()), ((a0.1, r7.2.1.2), ()))
 else
 bif decide (r3.1.1 = 3) then
 Option.bind (F_l1Cur_pick ((a0.1, r3.2.1.2), 3, ())) fun r8 =>
 Option.bind (F_l1Cur_among ((a0.1, r8.2.1.2), ([(-1), 4, 1] : List Int), ())) fun r9 =>
 bif inB r8.1.1 3 then
 some (((r0.1.1, (((bif decide (r8.1.1 = (0 : Int)) then r9.1.1 else r2.1.1.1), ((bif decide (r8.1.1 = (1 : Int)) then r9.1.1 else r2.1.1.2.1), ((bif decide (r8.1.1 = (2 : Int)) then r9.1.1 else r2.1.1.2.2.1), ()))), (0, (0, ())))), ()), ((a0.1, r9.2.1.2), ()))
 else none
 else
 some (((r0.1.1, (r2.1.1, (0, (0, ())))), ()), ((a0.1, r3.2.1.2), ()))
 else
 bif decide (r0.1.1 = 2) then
 Option.bind (F_l1Cur_cube ((a0.1, r0.2.1.2), a1, ())) fun r3 =>
 Option.bind (F_l1Cur_pick ((a0.1, r3.2.1.2), 32, ())) fun r4 =>
 bif decide (r4.1.1 = 0) then
 Option.bind (F_l1Cur_among ((a0.1, r4.2.1.2), ([(-1), 3, 1, 4611686018427387904] : List Int), ())) fun r6 =>
 some (((r0.1.1, (r3.1.1, (r6.1.1, (0, ())))), ()), ((a0.1, r6.2.1.2), ()))
 else
 bif decide (r4.1.1 = 1) then
 Option.bind (F_l1Cur_among ((a0.1, r4.2.1.2), ([(-1), 3, 1] : List Int), ())) fun r7 =>
 some (((r0.1.1, (r3.1.1, (0, (r7.1.1, ())))), ()), ((a0.1, r7.2.1.2), ()))
 else
 bif decide (r4.1.1 = 2) then
 Option.bind (F_l1Cur_among ((a0.1, r4.2.1.2), ([0, 8, (-1)] : List Int), ())) fun r8 =>
 some (((r8.1.1, (r3.1.1, (0, (0, ())))), ()), ((a0.1, r8.2.1.2), ()))
 else
 bif decide (r4.1.1 = 3) then
 Option.bind (F_l1Cur_pick ((a0.1, r4.2.1.2), 3, ())) fun r9 =>
 Option.bind (F_l1Cur_among ((a0.1, r9.2.1.2), ([(-1), 4, 1] : List Int), ())) fun r10 =>
 bif inB r9.1.1 3 then
 some (((r0.1.1, (((bif decide (r9.1.1 = (0 : Int)) then r10.1.1 else r3.1.1.1), ((bif decide (r9.1.1 = (1 : Int)) then r10.1.1 else r3.1.1.2.1), ((bif decide (r9.1.1 = (2 : Int)) then r10.1.1 else r3.1.1.2.2.1), ()))), (0, (0, ())))), ()), ((a0.1, r10.2.1.2), ()))
 else none
 else
 some (((r0.1.1, (r3.1.1, (0, (0, ())))), ()), ((a0.1, r4.2.1.2), ()))
 else
 bif decide (r0.1.1 = 5) then
 Option.bind (F_l1Cur_direction ((a0.1, r0.2.1.2), ())) fun r4 =>
 Option.bind (F_l1Cur_pick ((a0.1, r4.2.1.2), 32, ())) fun r5 =>
 bif decide (r5.1.1 = 0) then
 Option.bind (F_l1Cur_among ((a0.1, r5.2.1.2), ([(-1), 3, 1, 4611686018427387904] : List Int), ())) fun r7 =>
 some (((r0.1.1, ((0, (0, (0, ()))), (r7.1.1, (0, ())))), ()), ((a0.1, r7.2.1.2), ()))
 else
 bif decide (r5.1.1 = 1) then
 Option.bind (F_l1Cur_among ((a0.1, r5.2.1.2), ([(-1), 3, 1] : List Int), ())) fun r8 =>
 some (((r0.1.1, ((0, (0, (0, ()))), (r4.1.1, (r8.1.1, ())))), ()), ((a0.1, r8.2.1.2), ()))
 else
 bif decide (r5.1.1 = 2) then
 Option.bind (F_l1Cur_among ((a0.1, r5.2.1.2), ([0, 8, (-1)] : List Int), ())) fun r9 =>
 some (((r9.1.1, ((0, (0, (0, ()))), (r4.1.1, (0, ())))), ()), ((a0.1, r9.2.1.2), ()))
 else
 bif decide (r5.1.1 = 3) then
 Option.bind (F_l1Cur_pick ((a0.1, r5.2.1.2), 3, ())) fun r10 =>
 Option.bind (F_l1Cur_among ((a0.1, r10.2.1.2), ([(-1), 4, 1] : List Int), ())) fun r11 =>
 bif inB r10.1.1 3 then
 some (((r0.1.1, (((bif decide (r10.1.1 = (0 : Int)) then r11.1.1 else 0), ((bif decide (r10.1.1 = (1 : Int)) then r11.1.1 else 0), ((bif decide (r10.1.1 = (2 : Int)) then r11.1.1 else 0), ()))), (r4.1.1, (0, ())))), ()), ((a0.1, r11.2.1.2), ()))
 else none
 else
 some (((r0.1.1, ((0, (0, (0, ()))), (r4.1.1, (0, ())))), ()), ((a0.1, r5.2.1.2), ()))
 else
 bif decide (r0.1.1 = 6) then
 Option.bind (F_l1Cur_direction ((a0.1, r0.2.1.2), ())) fun r5 =>
 Option.bind (F_l1Cur_direction ((a0.1, r5.2.1.2), ())) fun r6 =>
 Option.bind (F_l1Cur_pick ((a0.1, r6.2.1.2), 32, ())) fun r7 =>
 bif decide (r7.1.1 = 0) then
 Option.bind (F_l1Cur_among ((a0.1, r7.2.1.2), ([(-1), 3, 1, 4611686018427387904] : List Int), ())) fun r9 =>
 some (((r0.1.1, ((0, (0, (0, ()))), (r9.1.1, (r6.1.1, ())))), ()), ((a0.1, r9.2.1.2), ()))
 else
 bif decide (r7.1.1 = 1) then
 Option.bind (F_l1Cur_among ((a0.1, r7.2.1.2), ([(-1), 3, 1] : List Int), ())) fun r10 =>
 some (((r0.1.1, ((0, (0, (0, ()))), (r5.1.1, (r10.1.1, ())))), ()), ((a0.1, r10.2.1.2), ()))
 else
 bif decide (r7.1.1 = 2) then
 Option.bind (F_l1Cur_among ((a0.1, r7.2.1.2), ([0, 8, (-1)] : List Int), ())) fun r11 =>
 some (((r11.1.1, ((0, (0, (0, ()))), (r5.1.1, (r6.1.1, ())))), ()), ((a0.1, r11.2.1.2), ()))
 else
 bif decide (r7.1.1 = 3) then
 Option.bind (F_l1Cur_pick ((a0.1, r7.2.1.2), 3, ())) fun r12 =>
 Option.bind (F_l1Cur_among ((a0.1, r12.2.1.2), ([(-1), 4, 1] : List Int), ())) fun r13 =>
 bif inB r12.1.1 3 then
 some (((r0.1.1, (((bif decide (r12.1.1 = (0 : Int)) then r13.1.1 else 0), ((bif decide (r12.1.1 = (1 : Int)) then r13.1.1 else 0), ((bif decide (r12.1.1 = (2 : Int)) then r13.1.1 else 0), ()))), (r5.1.1, (r6.1.1, ())))), ()), ((a0.1, r13.2.1.2), ()))
 else none
 else
 some (((r0.1.1, ((0, (0, (0, ()))), (r5.1.1, (r6.1.1, ())))), ()), ((a0.1, r7.2.1.2), ()))
 else
 Option.bind (F_l1Cur_pick ((a0.1, r0.2.1.2), 32, ())) fun r5 =>
 bif decide (r5.1.1 = 0) then
 Option.bind (F_l1Cur_among ((a0.1, r5.2.1.2), ([(-1), 3, 1, 4611686018427387904] : List Int), ())) fun r7 =>
 some (((r0.1.1, ((0, (0, (0, ()))), (r7.1.1, (0, ())))), ()), ((a0.1, r7.2.1.2), ()))
 else
 bif decide (r5.1.1 = 1) then
 Option.bind (F_l1Cur_among ((a0.1, r5.2.1.2), ([(-1), 3, 1] : List Int), ())) fun r8 =>
 some (((r0.1.1, ((0, (0, (0, ()))), (0, (r8.1.1, ())))), ()), ((a0.1, r8.2.1.2), ()))
 else
 bif decide (r5.1.1 = 2) then
 Option.bind (F_l1Cur_among ((a0.1, r5.2.1.2), ([0, 8, (-1)] : List Int), ())) fun r9 =>
 some (((r9.1.1, ((0, (0, (0, ()))), (0, (0, ())))), ()), ((a0.1, r9.2.1.2), ()))
 else
 bif decide (r5.1.1 = 3) then
 Option.bind (F_l1Cur_pick ((a0.1, r5.2.1.2), 3, ())) fun r10 =>
 Option.bind (F_l1Cur_among ((a0.1, r10.2.1.2), ([(-1), 4, 1] : List Int), ())) fun r11 =>
 bif inB r10.1.1 3 then
 some (((r0.1.1, (((bif decide (r10.1.1 = (0 : Int)) then r11.1.1 else 0), ((bif decide (r10.1.1 = (1 : Int)) then r11.1.1 else 0), ((bif decide (r10.1.1 = (2 : Int)) then r11.1.1 else 0), ()))), (0, (0, ())))), ()), ((a0.1, r11.2.1.2), ()))
 else none
 else
 some (((r0.1.1, ((0, (0, (0, ()))), (0, (0, ())))), ()), ((a0.1, r5.2.1.2), ())) := by kernel_rfl
noncomputable def P_l1Cur_act12 : Ft_l1Cur_act12 := hid (runFM (X_l1Cur_act12 N P_l1Cur_cube P_l1Cur_pick P_l1Cur_among P_l1Cur_cell P_l1Cur_direction) B_l1Cur_act12 As_l1Cur_act12 R_l1Cur_act12 M_l1Cur_act12)
theorem h_l1Cur_act12 : P_l1Cur_act12 = runFM (X_l1Cur_act12 N P_l1Cur_cube P_l1Cur_pick P_l1Cur_among P_l1Cur_cell P_l1Cur_direction) B_l1Cur_act12 As_l1Cur_act12 R_l1Cur_act12 M_l1Cur_act12 := hid_eq _
noncomputable def C_l1Cur_act12 : MContract := ⟨As_l1Cur_act12, R_l1Cur_act12, M_l1Cur_act12, P_l1Cur_act12⟩
theorem s_l1Cur_act12 : SoundM Tryz.prog n0 GG 81 C_l1Cur_act12 := by
 unfold C_l1Cur_act12; rw [h_l1Cur_act12]
 exact sound_of_runM (fn := Tryz.f81) hmix hstable (tyOK_of ttOK) (hglob (X_l1Cur_act12 N P_l1Cur_cube P_l1Cur_pick P_l1Cur_among P_l1Cur_cell P_l1Cur_direction)) (conOK_of (X := X_l1Cur_act12 N P_l1Cur_cube P_l1Cur_pick P_l1Cur_among P_l1Cur_cell P_l1Cur_direction) trivial) (mconOK_of (X := X_l1Cur_act12 N P_l1Cur_cube P_l1Cur_pick P_l1Cur_among P_l1Cur_cell P_l1Cur_direction) ⟨s_l1Cur_cube, s_l1Cur_pick, s_l1Cur_among, s_l1Cur_cell, s_l1Cur_direction, trivial⟩) (by kernel_rfl) (by kernel_rfl) (by kernel_rfl) (by kernel_rfl) (by kernel_rfl) (of_decide_eq_true (by kernel_rfl)) (by kernel_rfl) (by rfl)
theorem p_l1Cur_act12 (a0 : D_l1Cur) (a1 : D_Heap) : P_l1Cur_act12 (a0, a1, ()) = 
 Option.bind (P_l1Cur_among (a0, ([1, 1, 1, 2, 2, 3, 4, 5, 6, 7] : List Int), ())) fun r0 =>
 bif decide (r0.1.1 = 1) then
 Option.bind (P_l1Cur_cell ((a0.1, r0.2.1.2), a1, ())) fun r2 =>
 Option.bind (P_l1Cur_pick ((a0.1, r2.2.1.2), 32, ())) fun r3 =>
 bif decide (r3.1.1 = 0) then
 Option.bind (P_l1Cur_among ((a0.1, r3.2.1.2), ([(-1), 3, 1, 4611686018427387904] : List Int), ())) fun r5 =>
 some (((r0.1.1, (r2.1.1, (r5.1.1, (0, ())))), ()), ((a0.1, r5.2.1.2), ()))
 else
 bif decide (r3.1.1 = 1) then
 Option.bind (P_l1Cur_among ((a0.1, r3.2.1.2), ([(-1), 3, 1] : List Int), ())) fun r6 =>
 some (((r0.1.1, (r2.1.1, (0, (r6.1.1, ())))), ()), ((a0.1, r6.2.1.2), ()))
 else
 bif decide (r3.1.1 = 2) then
 Option.bind (P_l1Cur_among ((a0.1, r3.2.1.2), ([0, 8, (-1)] : List Int), ())) fun r7 =>
 some (((r7.1.1, (r2.1.1, (0, (0, ())))), ()), ((a0.1, r7.2.1.2), ()))
 else
 bif decide (r3.1.1 = 3) then
 Option.bind (P_l1Cur_pick ((a0.1, r3.2.1.2), 3, ())) fun r8 =>
 Option.bind (P_l1Cur_among ((a0.1, r8.2.1.2), ([(-1), 4, 1] : List Int), ())) fun r9 =>
 bif inB r8.1.1 3 then
 some (((r0.1.1, (((bif decide (r8.1.1 = (0 : Int)) then r9.1.1 else r2.1.1.1), ((bif decide (r8.1.1 = (1 : Int)) then r9.1.1 else r2.1.1.2.1), ((bif decide (r8.1.1 = (2 : Int)) then r9.1.1 else r2.1.1.2.2.1), ()))), (0, (0, ())))), ()), ((a0.1, r9.2.1.2), ()))
 else none
 else
 some (((r0.1.1, (r2.1.1, (0, (0, ())))), ()), ((a0.1, r3.2.1.2), ()))
 else
 bif decide (r0.1.1 = 2) then
 Option.bind (P_l1Cur_cube ((a0.1, r0.2.1.2), a1, ())) fun r3 =>
 Option.bind (P_l1Cur_pick ((a0.1, r3.2.1.2), 32, ())) fun r4 =>
 bif decide (r4.1.1 = 0) then
 Option.bind (P_l1Cur_among ((a0.1, r4.2.1.2), ([(-1), 3, 1, 4611686018427387904] : List Int), ())) fun r6 =>
 some (((r0.1.1, (r3.1.1, (r6.1.1, (0, ())))), ()), ((a0.1, r6.2.1.2), ()))
 else
 bif decide (r4.1.1 = 1) then
 Option.bind (P_l1Cur_among ((a0.1, r4.2.1.2), ([(-1), 3, 1] : List Int), ())) fun r7 =>
 some (((r0.1.1, (r3.1.1, (0, (r7.1.1, ())))), ()), ((a0.1, r7.2.1.2), ()))
 else
 bif decide (r4.1.1 = 2) then
 Option.bind (P_l1Cur_among ((a0.1, r4.2.1.2), ([0, 8, (-1)] : List Int), ())) fun r8 =>
 some (((r8.1.1, (r3.1.1, (0, (0, ())))), ()), ((a0.1, r8.2.1.2), ()))
 else
 bif decide (r4.1.1 = 3) then
 Option.bind (P_l1Cur_pick ((a0.1, r4.2.1.2), 3, ())) fun r9 =>
 Option.bind (P_l1Cur_among ((a0.1, r9.2.1.2), ([(-1), 4, 1] : List Int), ())) fun r10 =>
 bif inB r9.1.1 3 then
 some (((r0.1.1, (((bif decide (r9.1.1 = (0 : Int)) then r10.1.1 else r3.1.1.1), ((bif decide (r9.1.1 = (1 : Int)) then r10.1.1 else r3.1.1.2.1), ((bif decide (r9.1.1 = (2 : Int)) then r10.1.1 else r3.1.1.2.2.1), ()))), (0, (0, ())))), ()), ((a0.1, r10.2.1.2), ()))
 else none
 else
 some (((r0.1.1, (r3.1.1, (0, (0, ())))), ()), ((a0.1, r4.2.1.2), ()))
 else
 bif decide (r0.1.1 = 5) then
 Option.bind (P_l1Cur_direction ((a0.1, r0.2.1.2), ())) fun r4 =>
 Option.bind (P_l1Cur_pick ((a0.1, r4.2.1.2), 32, ())) fun r5 =>
 bif decide (r5.1.1 = 0) then
 Option.bind (P_l1Cur_among ((a0.1, r5.2.1.2), ([(-1), 3, 1, 4611686018427387904] : List Int), ())) fun r7 =>
 some (((r0.1.1, ((0, (0, (0, ()))), (r7.1.1, (0, ())))), ()), ((a0.1, r7.2.1.2), ()))
 else
 bif decide (r5.1.1 = 1) then
 Option.bind (P_l1Cur_among ((a0.1, r5.2.1.2), ([(-1), 3, 1] : List Int), ())) fun r8 =>
 some (((r0.1.1, ((0, (0, (0, ()))), (r4.1.1, (r8.1.1, ())))), ()), ((a0.1, r8.2.1.2), ()))
 else
 bif decide (r5.1.1 = 2) then
 Option.bind (P_l1Cur_among ((a0.1, r5.2.1.2), ([0, 8, (-1)] : List Int), ())) fun r9 =>
 some (((r9.1.1, ((0, (0, (0, ()))), (r4.1.1, (0, ())))), ()), ((a0.1, r9.2.1.2), ()))
 else
 bif decide (r5.1.1 = 3) then
 Option.bind (P_l1Cur_pick ((a0.1, r5.2.1.2), 3, ())) fun r10 =>
 Option.bind (P_l1Cur_among ((a0.1, r10.2.1.2), ([(-1), 4, 1] : List Int), ())) fun r11 =>
 bif inB r10.1.1 3 then
 some (((r0.1.1, (((bif decide (r10.1.1 = (0 : Int)) then r11.1.1 else 0), ((bif decide (r10.1.1 = (1 : Int)) then r11.1.1 else 0), ((bif decide (r10.1.1 = (2 : Int)) then r11.1.1 else 0), ()))), (r4.1.1, (0, ())))), ()), ((a0.1, r11.2.1.2), ()))
 else none
 else
 some (((r0.1.1, ((0, (0, (0, ()))), (r4.1.1, (0, ())))), ()), ((a0.1, r5.2.1.2), ()))
 else
 bif decide (r0.1.1 = 6) then
 Option.bind (P_l1Cur_direction ((a0.1, r0.2.1.2), ())) fun r5 =>
 Option.bind (P_l1Cur_direction ((a0.1, r5.2.1.2), ())) fun r6 =>
 Option.bind (P_l1Cur_pick ((a0.1, r6.2.1.2), 32, ())) fun r7 =>
 bif decide (r7.1.1 = 0) then
 Option.bind (P_l1Cur_among ((a0.1, r7.2.1.2), ([(-1), 3, 1, 4611686018427387904] : List Int), ())) fun r9 =>
 some (((r0.1.1, ((0, (0, (0, ()))), (r9.1.1, (r6.1.1, ())))), ()), ((a0.1, r9.2.1.2), ()))
 else
 bif decide (r7.1.1 = 1) then
 Option.bind (P_l1Cur_among ((a0.1, r7.2.1.2), ([(-1), 3, 1] : List Int), ())) fun r10 =>
 some (((r0.1.1, ((0, (0, (0, ()))), (r5.1.1, (r10.1.1, ())))), ()), ((a0.1, r10.2.1.2), ()))
 else
 bif decide (r7.1.1 = 2) then
 Option.bind (P_l1Cur_among ((a0.1, r7.2.1.2), ([0, 8, (-1)] : List Int), ())) fun r11 =>
 some (((r11.1.1, ((0, (0, (0, ()))), (r5.1.1, (r6.1.1, ())))), ()), ((a0.1, r11.2.1.2), ()))
 else
 bif decide (r7.1.1 = 3) then
 Option.bind (P_l1Cur_pick ((a0.1, r7.2.1.2), 3, ())) fun r12 =>
 Option.bind (P_l1Cur_among ((a0.1, r12.2.1.2), ([(-1), 4, 1] : List Int), ())) fun r13 =>
 bif inB r12.1.1 3 then
 some (((r0.1.1, (((bif decide (r12.1.1 = (0 : Int)) then r13.1.1 else 0), ((bif decide (r12.1.1 = (1 : Int)) then r13.1.1 else 0), ((bif decide (r12.1.1 = (2 : Int)) then r13.1.1 else 0), ()))), (r5.1.1, (r6.1.1, ())))), ()), ((a0.1, r13.2.1.2), ()))
 else none
 else
 some (((r0.1.1, ((0, (0, (0, ()))), (r5.1.1, (r6.1.1, ())))), ()), ((a0.1, r7.2.1.2), ()))
 else
 Option.bind (P_l1Cur_pick ((a0.1, r0.2.1.2), 32, ())) fun r5 =>
 bif decide (r5.1.1 = 0) then
 Option.bind (P_l1Cur_among ((a0.1, r5.2.1.2), ([(-1), 3, 1, 4611686018427387904] : List Int), ())) fun r7 =>
 some (((r0.1.1, ((0, (0, (0, ()))), (r7.1.1, (0, ())))), ()), ((a0.1, r7.2.1.2), ()))
 else
 bif decide (r5.1.1 = 1) then
 Option.bind (P_l1Cur_among ((a0.1, r5.2.1.2), ([(-1), 3, 1] : List Int), ())) fun r8 =>
 some (((r0.1.1, ((0, (0, (0, ()))), (0, (r8.1.1, ())))), ()), ((a0.1, r8.2.1.2), ()))
 else
 bif decide (r5.1.1 = 2) then
 Option.bind (P_l1Cur_among ((a0.1, r5.2.1.2), ([0, 8, (-1)] : List Int), ())) fun r9 =>
 some (((r9.1.1, ((0, (0, (0, ()))), (0, (0, ())))), ()), ((a0.1, r9.2.1.2), ()))
 else
 bif decide (r5.1.1 = 3) then
 Option.bind (P_l1Cur_pick ((a0.1, r5.2.1.2), 3, ())) fun r10 =>
 Option.bind (P_l1Cur_among ((a0.1, r10.2.1.2), ([(-1), 4, 1] : List Int), ())) fun r11 =>
 bif inB r10.1.1 3 then
 some (((r0.1.1, (((bif decide (r10.1.1 = (0 : Int)) then r11.1.1 else 0), ((bif decide (r10.1.1 = (1 : Int)) then r11.1.1 else 0), ((bif decide (r10.1.1 = (2 : Int)) then r11.1.1 else 0), ()))), (0, (0, ())))), ()), ((a0.1, r11.2.1.2), ()))
 else none
 else
 some (((r0.1.1, ((0, (0, (0, ()))), (0, (0, ())))), ()), ((a0.1, r5.2.1.2), ())) := by
 rewrite [h_l1Cur_act12]
 exact e_l1Cur_act12 N P_l1Cur_cube P_l1Cur_pick P_l1Cur_among P_l1Cur_cell P_l1Cur_direction a0 a1

abbrev As_spec_l12Good : List ATy := [.data true T_Bench]
abbrev R_spec_l12Good : List (Bool × Ty) := [(false, .bool)]
abbrev M_spec_l12Good : List RMode := []
abbrev Ft_spec_l12Good : Type := D_Bench × Unit → Option (Bool × Unit)
noncomputable def X_spec_l12Good (n : Nat) (F_spec_l2Heap : Ft_spec_l2Heap) (F_spec_l1In : Ft_spec_l1In) : Ctx := { types := TT, globals := [], con := [(48, ⟨As_spec_l2Heap, R_spec_l2Heap, M_spec_l2Heap, F_spec_l2Heap⟩), (102, ⟨As_spec_l1In, R_spec_l1In, M_spec_l1In, F_spec_l1In⟩)], keep := [], results := [.tmp 2], ntmps := 20, n := n }
noncomputable def B_spec_l12Good : Code := (Tryz.f83.body).getD .skip
theorem e_spec_l12Good (n : Nat) (F_spec_l2Heap : Ft_spec_l2Heap) (F_spec_l1In : Ft_spec_l1In) (a0 : D_Bench) : runF (X_spec_l12Good n F_spec_l2Heap F_spec_l1In) B_spec_l12Good As_spec_l12Good R_spec_l12Good M_spec_l12Good (a0, ()) = 
 Option.bind (F_spec_l2Heap (a0.1, ())) fun r0 =>
 bif r0.1 then
 Option.bind (F_spec_l1In (a0.2.2.1, 0, 1000, ())) fun r2 =>
 bif r2.1 then
 Option.bind (F_spec_l1In (a0.2.1, 0, (List.length a0.1.2.2.2.1 : Int), ())) fun r4 =>
 some (r4.1, ())
 else
 some (false, ())
 else
 some (false, ()) := by kernel_rfl
noncomputable def P_spec_l12Good : Ft_spec_l12Good := hid (runF (X_spec_l12Good N P_spec_l2Heap P_spec_l1In) B_spec_l12Good As_spec_l12Good R_spec_l12Good M_spec_l12Good)
theorem h_spec_l12Good : P_spec_l12Good = runF (X_spec_l12Good N P_spec_l2Heap P_spec_l1In) B_spec_l12Good As_spec_l12Good R_spec_l12Good M_spec_l12Good := hid_eq _
noncomputable def C_spec_l12Good : Contract := ⟨As_spec_l12Good, R_spec_l12Good, M_spec_l12Good, P_spec_l12Good⟩
theorem s_spec_l12Good : Sound Tryz.prog GG 83 C_spec_l12Good := by
 unfold C_spec_l12Good; rw [h_spec_l12Good]
 exact sound_of_run (fn := Tryz.f83) hmix hstable (tyOK_of ttOK) (hglob (X_spec_l12Good N P_spec_l2Heap P_spec_l1In)) (conOK_of (X := X_spec_l12Good N P_spec_l2Heap P_spec_l1In) ⟨s_spec_l2Heap, s_spec_l1In, trivial⟩) (mconOK_of (X := X_spec_l12Good N P_spec_l2Heap P_spec_l1In) trivial) (by kernel_rfl) (by kernel_rfl) (by kernel_rfl) (by kernel_rfl) (by kernel_rfl) (of_decide_eq_true (by kernel_rfl))
theorem p_spec_l12Good (a0 : D_Bench) : P_spec_l12Good (a0, ()) = 
 Option.bind (P_spec_l2Heap (a0.1, ())) fun r0 =>
 bif r0.1 then
 Option.bind (P_spec_l1In (a0.2.2.1, 0, 1000, ())) fun r2 =>
 bif r2.1 then
 Option.bind (P_spec_l1In (a0.2.1, 0, (List.length a0.1.2.2.2.1 : Int), ())) fun r4 =>
 some (r4.1, ())
 else
 some (false, ())
 else
 some (false, ()) := by
 rewrite [h_spec_l12Good]
 exact e_spec_l12Good N P_spec_l2Heap P_spec_l1In a0

abbrev As_spec_l2Cell : List ATy := [.data true T_Heap, .data true T_A3]
abbrev R_spec_l2Cell : List (Bool × Ty) := [(false, .bool)]
abbrev M_spec_l2Cell : List RMode := []
abbrev Ft_spec_l2Cell : Type := D_Heap × D_A3 × Unit → Option (Bool × Unit)
noncomputable def X_spec_l2Cell (n : Nat) (F_spec_l2Heap : Ft_spec_l2Heap) (F_spec_l2In : Ft_spec_l2In) : Ctx := { types := TT, globals := [], con := [(48, ⟨As_spec_l2Heap, R_spec_l2Heap, M_spec_l2Heap, F_spec_l2Heap⟩), (91, ⟨As_spec_l2In, R_spec_l2In, M_spec_l2In, F_spec_l2In⟩)], keep := [], results := [.tmp 4], ntmps := 12, n := n }
noncomputable def B_spec_l2Cell : Code := (Tryz.f61.body).getD .skip
theorem e_spec_l2Cell (n : Nat) (F_spec_l2Heap : Ft_spec_l2Heap) (F_spec_l2In : Ft_spec_l2In) (a0 : D_Heap) (a1 : D_A3) : runF (X_spec_l2Cell n F_spec_l2Heap F_spec_l2In) B_spec_l2Cell As_spec_l2Cell R_spec_l2Cell M_spec_l2Cell (a0, a1, ()) = 
 Option.bind (F_spec_l2Heap (a0, ())) fun r0 =>
 bif r0.1 then
 Option.bind (F_spec_l2In (a0, a1, ())) fun r2 =>
 some (r2.1, ())
 else
 some (false, ()) := by kernel_rfl
noncomputable def P_spec_l2Cell : Ft_spec_l2Cell := hid (runF (X_spec_l2Cell N P_spec_l2Heap P_spec_l2In) B_spec_l2Cell As_spec_l2Cell R_spec_l2Cell M_spec_l2Cell)
theorem h_spec_l2Cell : P_spec_l2Cell = runF (X_spec_l2Cell N P_spec_l2Heap P_spec_l2In) B_spec_l2Cell As_spec_l2Cell R_spec_l2Cell M_spec_l2Cell := hid_eq _
noncomputable def C_spec_l2Cell : Contract := ⟨As_spec_l2Cell, R_spec_l2Cell, M_spec_l2Cell, P_spec_l2Cell⟩
theorem s_spec_l2Cell : Sound Tryz.prog GG 61 C_spec_l2Cell := by
 unfold C_spec_l2Cell; rw [h_spec_l2Cell]
 exact sound_of_run (fn := Tryz.f61) hmix hstable (tyOK_of ttOK) (hglob (X_spec_l2Cell N P_spec_l2Heap P_spec_l2In)) (conOK_of (X := X_spec_l2Cell N P_spec_l2Heap P_spec_l2In) ⟨s_spec_l2Heap, s_spec_l2In, trivial⟩) (mconOK_of (X := X_spec_l2Cell N P_spec_l2Heap P_spec_l2In) trivial) (by kernel_rfl) (by kernel_rfl) (by kernel_rfl) (by kernel_rfl) (by kernel_rfl) (of_decide_eq_true (by kernel_rfl))
theorem p_spec_l2Cell (a0 : D_Heap) (a1 : D_A3) : P_spec_l2Cell (a0, a1, ()) = 
 Option.bind (P_spec_l2Heap (a0, ())) fun r0 =>
 bif r0.1 then
 Option.bind (P_spec_l2In (a0, a1, ())) fun r2 =>
 some (r2.1, ())
 else
 some (false, ()) := by
 rewrite [h_spec_l2Cell]
 exact e_spec_l2Cell N P_spec_l2Heap P_spec_l2In a0 a1

abbrev As_spec_l2With : List ATy := [.data true T_Heap, .data true T_A3]
abbrev R_spec_l2With : List (Bool × Ty) := [(true, T_Heap)]
abbrev M_spec_l2With : List RMode := [.own 38]
abbrev Ft_spec_l2With : Type := D_Heap × D_A3 × Unit → Option (D_Heap × Unit)
noncomputable def X_spec_l2With (n : Nat) (F_spec_l2Before : Ft_spec_l2Before) (F_spec_l2Made : Ft_spec_l2Made) (F_spec_l2Own : Ft_spec_l2Own) : Ctx := { types := TT, globals := [], con := [(92, ⟨As_spec_l2Before, R_spec_l2Before, M_spec_l2Before, F_spec_l2Before⟩), (98, ⟨As_spec_l2Made, R_spec_l2Made, M_spec_l2Made, F_spec_l2Made⟩), (111, ⟨As_spec_l2Own, R_spec_l2Own, M_spec_l2Own, F_spec_l2Own⟩)], keep := [(2, ⟨[.box 2, .box 3, .box 4, .tmp 2, .tmp 3, .tmp 4, .tmp 5], []⟩)], results := [.cell 4 26], ntmps := 54, n := n }
noncomputable def B_spec_l2With : Code := (Tryz.f126.body).getD .skip
noncomputable def L_spec_l2With_2 (n : Nat) (F_spec_l2Before : Ft_spec_l2Before) (F_spec_l2Made : Ft_spec_l2Made) (F_spec_l2Own : Ft_spec_l2Own) (m0 : Nat) (p0 p1 p2 : Int) (p3 : List D_A3) (p4 p5 : Int) (p6 p7 : Int) (p8 p9 : Int) (p10 : List D_A3) (p11 : Int) : Option (denL R_spec_l2With) := loopF (X_spec_l2With n F_spec_l2Before F_spec_l2Made F_spec_l2Own) B_spec_l2With R_spec_l2With M_spec_l2With 2 [m0] [(.ver, .num 1), (.box 2, .box 0 false [.int .i64 p0, .int .i64 p1, .int .i64 p2, .imm T_A3 p3 (some 3)]), (.box 3, .box 0 false [.int .i64 p4, .int .i64 p5, .int .i64 p6]), (.box 4, .box 0 false [.int .i64 p7, .int .i64 p8, .int .i64 p9, .own 38 T_A3 0 p10]), (.tmp 2, .val false [.addr 2 0 0]), (.tmp 3, .val false [.addr 3 0 0]), (.tmp 4, .val false [.addr 4 0 0]), (.tmp 5, .val false [.int .i64 p11])]
theorem e_spec_l2With (n : Nat) (F_spec_l2Before : Ft_spec_l2Before) (F_spec_l2Made : Ft_spec_l2Made) (F_spec_l2Own : Ft_spec_l2Own) (a0 : D_Heap) (a1 : D_A3) : runF (X_spec_l2With n F_spec_l2Before F_spec_l2Made F_spec_l2Own) B_spec_l2With As_spec_l2With R_spec_l2With M_spec_l2With (a0, a1, ()) = 
 L_spec_l2With_2 n F_spec_l2Before F_spec_l2Made F_spec_l2Own n a0.1 a0.2.1 a0.2.2.1 a0.2.2.2.1 a1.1 a1.2.1 a1.2.2.1 0 0 0 ([] : List D_A3) 0 := by kernel_rfl
theorem e_spec_l2With_2 (n : Nat) (F_spec_l2Before : Ft_spec_l2Before) (F_spec_l2Made : Ft_spec_l2Made) (F_spec_l2Own : Ft_spec_l2Own) (m0 : Nat) (p0 p1 p2 : Int) (p3 : List D_A3) (p4 p5 : Int) (p6 p7 : Int) (p8 p9 : Int) (p10 : List D_A3) (p11 : Int) : L_spec_l2With_2 n F_spec_l2Before F_spec_l2Made F_spec_l2Own (m0 + 1) p0 p1 p2 p3 p4 p5 p6 p7 p8 p9 p10 p11 = 
 bif decide (p11 < (List.length p3 : Int)) then
 bif inB p11 (List.length p3) then
 Option.bind (F_spec_l2Before ((nth T_A3 p3 p11), (p4, (p5, (p6, ()))), ())) fun r2 =>
 bif r2.1 then
 L_spec_l2With_2 n F_spec_l2Before F_spec_l2Made F_spec_l2Own m0 p0 p1 p2 p3 p4 p5 p6 p7 p8 p9 p10 (IntKind.wrap .i64 (p11 + 1))
 else
 bif decide (p11 < (List.length p3 : Int)) then
 bif inB p11 (List.length p3) then
 bif (decide (((nth T_A3 p3 p11)).1 = p4) && (decide ((((nth T_A3 p3 p11)).2).1 = p5) && (decide (((((nth T_A3 p3 p11)).2).2).1 = p6) && true))) then
 Option.bind (F_spec_l2Own ((p0, (p1, (p2, (p3, ())))), ())) fun r7 =>
 some (r7.1, ())
 else
 bif (decide ((0 : Int) ≤ 0) && decide ((0 : Int) ≤ p11) && decide (p11 ≤ (List.length p3 : Int))) then
 bif (decide (((List.length ([] : List D_A3)) + (List.length (cut p3 0 p11))) * 24 ≤ 140737488355328) && decide (((List.length ([] : List D_A3)) + (List.length (cut p3 0 p11))) ≤ 140737488355328)) then
 bif (decide (((List.length (([] : List D_A3) ++ (cut p3 0 p11))) + (List.length ([(p4, (p5, (p6, ())))] : List D_A3))) * 24 ≤ 140737488355328) && decide (((List.length (([] : List D_A3) ++ (cut p3 0 p11))) + (List.length ([(p4, (p5, (p6, ())))] : List D_A3))) ≤ 140737488355328)) then
 bif (decide ((0 : Int) ≤ p11) && decide (p11 ≤ (List.length p3 : Int)) && decide ((List.length p3 : Int) ≤ (List.length p3 : Int))) then
 bif (decide (((List.length ((([] : List D_A3) ++ (cut p3 0 p11)) ++ ([(p4, (p5, (p6, ())))] : List D_A3))) + (List.length (cut p3 p11 (List.length p3 : Int)))) * 24 ≤ 140737488355328) && decide (((List.length ((([] : List D_A3) ++ (cut p3 0 p11)) ++ ([(p4, (p5, (p6, ())))] : List D_A3))) + (List.length (cut p3 p11 (List.length p3 : Int)))) ≤ 140737488355328)) then
 Option.bind (F_spec_l2Made ((p0, (p1, (p2, (p3, ())))), (((([] : List D_A3) ++ (cut p3 0 p11)) ++ ([(p4, (p5, (p6, ())))] : List D_A3)) ++ (cut p3 p11 (List.length p3 : Int))), ())) fun r12 =>
 some ((r12.1.1, (r12.1.2.1, (r12.1.2.2.1, ((((([] : List D_A3) ++ (cut p3 0 p11)) ++ ([(p4, (p5, (p6, ())))] : List D_A3)) ++ (cut p3 p11 (List.length p3 : Int))), ())))), ())
 else none
 else none
 else none
 else none
 else none
 else none
 else
 bif (decide ((0 : Int) ≤ 0) && decide ((0 : Int) ≤ p11) && decide (p11 ≤ (List.length p3 : Int))) then
 bif (decide (((List.length ([] : List D_A3)) + (List.length (cut p3 0 p11))) * 24 ≤ 140737488355328) && decide (((List.length ([] : List D_A3)) + (List.length (cut p3 0 p11))) ≤ 140737488355328)) then
 bif (decide (((List.length (([] : List D_A3) ++ (cut p3 0 p11))) + (List.length ([(p4, (p5, (p6, ())))] : List D_A3))) * 24 ≤ 140737488355328) && decide (((List.length (([] : List D_A3) ++ (cut p3 0 p11))) + (List.length ([(p4, (p5, (p6, ())))] : List D_A3))) ≤ 140737488355328)) then
 bif (decide ((0 : Int) ≤ p11) && decide (p11 ≤ (List.length p3 : Int)) && decide ((List.length p3 : Int) ≤ (List.length p3 : Int))) then
 bif (decide (((List.length ((([] : List D_A3) ++ (cut p3 0 p11)) ++ ([(p4, (p5, (p6, ())))] : List D_A3))) + (List.length (cut p3 p11 (List.length p3 : Int)))) * 24 ≤ 140737488355328) && decide (((List.length ((([] : List D_A3) ++ (cut p3 0 p11)) ++ ([(p4, (p5, (p6, ())))] : List D_A3))) + (List.length (cut p3 p11 (List.length p3 : Int)))) ≤ 140737488355328)) then
 Option.bind (F_spec_l2Made ((p0, (p1, (p2, (p3, ())))), (((([] : List D_A3) ++ (cut p3 0 p11)) ++ ([(p4, (p5, (p6, ())))] : List D_A3)) ++ (cut p3 p11 (List.length p3 : Int))), ())) fun r10 =>
 some ((r10.1.1, (r10.1.2.1, (r10.1.2.2.1, ((((([] : List D_A3) ++ (cut p3 0 p11)) ++ ([(p4, (p5, (p6, ())))] : List D_A3)) ++ (cut p3 p11 (List.length p3 : Int))), ())))), ())
 else none
 else none
 else none
 else none
 else none
 else none
 else
 bif decide (p11 < (List.length p3 : Int)) then
 bif inB p11 (List.length p3) then
 bif (decide (((nth T_A3 p3 p11)).1 = p4) && (decide ((((nth T_A3 p3 p11)).2).1 = p5) && (decide (((((nth T_A3 p3 p11)).2).2).1 = p6) && true))) then
 Option.bind (F_spec_l2Own ((p0, (p1, (p2, (p3, ())))), ())) fun r4 =>
 some (r4.1, ())
 else
 bif (decide ((0 : Int) ≤ 0) && decide ((0 : Int) ≤ p11) && decide (p11 ≤ (List.length p3 : Int))) then
 bif (decide (((List.length ([] : List D_A3)) + (List.length (cut p3 0 p11))) * 24 ≤ 140737488355328) && decide (((List.length ([] : List D_A3)) + (List.length (cut p3 0 p11))) ≤ 140737488355328)) then
 bif (decide (((List.length (([] : List D_A3) ++ (cut p3 0 p11))) + (List.length ([(p4, (p5, (p6, ())))] : List D_A3))) * 24 ≤ 140737488355328) && decide (((List.length (([] : List D_A3) ++ (cut p3 0 p11))) + (List.length ([(p4, (p5, (p6, ())))] : List D_A3))) ≤ 140737488355328)) then
 bif (decide ((0 : Int) ≤ p11) && decide (p11 ≤ (List.length p3 : Int)) && decide ((List.length p3 : Int) ≤ (List.length p3 : Int))) then
 bif (decide (((List.length ((([] : List D_A3) ++ (cut p3 0 p11)) ++ ([(p4, (p5, (p6, ())))] : List D_A3))) + (List.length (cut p3 p11 (List.length p3 : Int)))) * 24 ≤ 140737488355328) && decide (((List.length ((([] : List D_A3) ++ (cut p3 0 p11)) ++ ([(p4, (p5, (p6, ())))] : List D_A3))) + (List.length (cut p3 p11 (List.length p3 : Int)))) ≤ 140737488355328)) then
 Option.bind (F_spec_l2Made ((p0, (p1, (p2, (p3, ())))), (((([] : List D_A3) ++ (cut p3 0 p11)) ++ ([(p4, (p5, (p6, ())))] : List D_A3)) ++ (cut p3 p11 (List.length p3 : Int))), ())) fun r9 =>
 some ((r9.1.1, (r9.1.2.1, (r9.1.2.2.1, ((((([] : List D_A3) ++ (cut p3 0 p11)) ++ ([(p4, (p5, (p6, ())))] : List D_A3)) ++ (cut p3 p11 (List.length p3 : Int))), ())))), ())
 else none
 else none
 else none
 else none
 else none
 else none
 else
 bif (decide ((0 : Int) ≤ 0) && decide ((0 : Int) ≤ p11) && decide (p11 ≤ (List.length p3 : Int))) then
 bif (decide (((List.length ([] : List D_A3)) + (List.length (cut p3 0 p11))) * 24 ≤ 140737488355328) && decide (((List.length ([] : List D_A3)) + (List.length (cut p3 0 p11))) ≤ 140737488355328)) then
 bif (decide (((List.length (([] : List D_A3) ++ (cut p3 0 p11))) + (List.length ([(p4, (p5, (p6, ())))] : List D_A3))) * 24 ≤ 140737488355328) && decide (((List.length (([] : List D_A3) ++ (cut p3 0 p11))) + (List.length ([(p4, (p5, (p6, ())))] : List D_A3))) ≤ 140737488355328)) then
 bif (decide ((0 : Int) ≤ p11) && decide (p11 ≤ (List.length p3 : Int)) && decide ((List.length p3 : Int) ≤ (List.length p3 : Int))) then
 bif (decide (((List.length ((([] : List D_A3) ++ (cut p3 0 p11)) ++ ([(p4, (p5, (p6, ())))] : List D_A3))) + (List.length (cut p3 p11 (List.length p3 : Int)))) * 24 ≤ 140737488355328) && decide (((List.length ((([] : List D_A3) ++ (cut p3 0 p11)) ++ ([(p4, (p5, (p6, ())))] : List D_A3))) + (List.length (cut p3 p11 (List.length p3 : Int)))) ≤ 140737488355328)) then
 Option.bind (F_spec_l2Made ((p0, (p1, (p2, (p3, ())))), (((([] : List D_A3) ++ (cut p3 0 p11)) ++ ([(p4, (p5, (p6, ())))] : List D_A3)) ++ (cut p3 p11 (List.length p3 : Int))), ())) fun r7 =>
 some ((r7.1.1, (r7.1.2.1, (r7.1.2.2.1, ((((([] : List D_A3) ++ (cut p3 0 p11)) ++ ([(p4, (p5, (p6, ())))] : List D_A3)) ++ (cut p3 p11 (List.length p3 : Int))), ())))), ())
 else none
 else none
 else none
 else none
 else none := by kernel_rfl
noncomputable def P_spec_l2With : Ft_spec_l2With := hid (runF (X_spec_l2With N P_spec_l2Before P_spec_l2Made P_spec_l2Own) B_spec_l2With As_spec_l2With R_spec_l2With M_spec_l2With)
theorem h_spec_l2With : P_spec_l2With = runF (X_spec_l2With N P_spec_l2Before P_spec_l2Made P_spec_l2Own) B_spec_l2With As_spec_l2With R_spec_l2With M_spec_l2With := hid_eq _
noncomputable def C_spec_l2With : Contract := ⟨As_spec_l2With, R_spec_l2With, M_spec_l2With, P_spec_l2With⟩
theorem s_spec_l2With : Sound Tryz.prog GG 126 C_spec_l2With := by
 unfold C_spec_l2With; rw [h_spec_l2With]
 exact sound_of_run (fn := Tryz.f126) hmix hstable (tyOK_of ttOK) (hglob (X_spec_l2With N P_spec_l2Before P_spec_l2Made P_spec_l2Own)) (conOK_of (X := X_spec_l2With N P_spec_l2Before P_spec_l2Made P_spec_l2Own) ⟨s_spec_l2Before, s_spec_l2Made, s_spec_l2Own, trivial⟩) (mconOK_of (X := X_spec_l2With N P_spec_l2Before P_spec_l2Made P_spec_l2Own) trivial) (by kernel_rfl) (by kernel_rfl) (by kernel_rfl) (by kernel_rfl) (by kernel_rfl) (of_decide_eq_true (by kernel_rfl))
noncomputable def l_spec_l2With_2 : Nat → Int → Int → Int → (List D_A3) → Int → Int → Int → Int → Int → Int → (List D_A3) → Int → Option (denL R_spec_l2With) := hid (fun m0 p0 p1 p2 p3 p4 p5 p6 p7 p8 p9 p10 p11 => L_spec_l2With_2 N P_spec_l2Before P_spec_l2Made P_spec_l2Own m0 p0 p1 p2 p3 p4 p5 p6 p7 p8 p9 p10 p11)
theorem h_spec_l2With_2 : l_spec_l2With_2 = fun m0 p0 p1 p2 p3 p4 p5 p6 p7 p8 p9 p10 p11 => L_spec_l2With_2 N P_spec_l2Before P_spec_l2Made P_spec_l2Own m0 p0 p1 p2 p3 p4 p5 p6 p7 p8 p9 p10 p11 := hid_eq _
theorem p_spec_l2With (a0 : D_Heap) (a1 : D_A3) : P_spec_l2With (a0, a1, ()) = 
 l_spec_l2With_2 N a0.1 a0.2.1 a0.2.2.1 a0.2.2.2.1 a1.1 a1.2.1 a1.2.2.1 0 0 0 ([] : List D_A3) 0 := by
 rewrite [h_spec_l2With, h_spec_l2With_2]
 exact e_spec_l2With N P_spec_l2Before P_spec_l2Made P_spec_l2Own a0 a1
theorem q_spec_l2With_2 (m0 : Nat) (p0 p1 p2 : Int) (p3 : List D_A3) (p4 p5 : Int) (p6 p7 : Int) (p8 p9 : Int) (p10 : List D_A3) (p11 : Int) : l_spec_l2With_2 (m0 + 1) p0 p1 p2 p3 p4 p5 p6 p7 p8 p9 p10 p11 = 
 bif decide (p11 < (List.length p3 : Int)) then
 bif inB p11 (List.length p3) then
 Option.bind (P_spec_l2Before ((nth T_A3 p3 p11), (p4, (p5, (p6, ()))), ())) fun r2 =>
 bif r2.1 then
 l_spec_l2With_2 m0 p0 p1 p2 p3 p4 p5 p6 p7 p8 p9 p10 (IntKind.wrap .i64 (p11 + 1))
 else
 bif decide (p11 < (List.length p3 : Int)) then
 bif inB p11 (List.length p3) then
 bif (decide (((nth T_A3 p3 p11)).1 = p4) && (decide ((((nth T_A3 p3 p11)).2).1 = p5) && (decide (((((nth T_A3 p3 p11)).2).2).1 = p6) && true))) then
 Option.bind (P_spec_l2Own ((p0, (p1, (p2, (p3, ())))), ())) fun r7 =>
 some (r7.1, ())
 else
 bif (decide ((0 : Int) ≤ 0) && decide ((0 : Int) ≤ p11) && decide (p11 ≤ (List.length p3 : Int))) then
 bif (decide (((List.length ([] : List D_A3)) + (List.length (cut p3 0 p11))) * 24 ≤ 140737488355328) && decide (((List.length ([] : List D_A3)) + (List.length (cut p3 0 p11))) ≤ 140737488355328)) then
 bif (decide (((List.length (([] : List D_A3) ++ (cut p3 0 p11))) + (List.length ([(p4, (p5, (p6, ())))] : List D_A3))) * 24 ≤ 140737488355328) && decide (((List.length (([] : List D_A3) ++ (cut p3 0 p11))) + (List.length ([(p4, (p5, (p6, ())))] : List D_A3))) ≤ 140737488355328)) then
 bif (decide ((0 : Int) ≤ p11) && decide (p11 ≤ (List.length p3 : Int)) && decide ((List.length p3 : Int) ≤ (List.length p3 : Int))) then
 bif (decide (((List.length ((([] : List D_A3) ++ (cut p3 0 p11)) ++ ([(p4, (p5, (p6, ())))] : List D_A3))) + (List.length (cut p3 p11 (List.length p3 : Int)))) * 24 ≤ 140737488355328) && decide (((List.length ((([] : List D_A3) ++ (cut p3 0 p11)) ++ ([(p4, (p5, (p6, ())))] : List D_A3))) + (List.length (cut p3 p11 (List.length p3 : Int)))) ≤ 140737488355328)) then
 Option.bind (P_spec_l2Made ((p0, (p1, (p2, (p3, ())))), (((([] : List D_A3) ++ (cut p3 0 p11)) ++ ([(p4, (p5, (p6, ())))] : List D_A3)) ++ (cut p3 p11 (List.length p3 : Int))), ())) fun r12 =>
 some ((r12.1.1, (r12.1.2.1, (r12.1.2.2.1, ((((([] : List D_A3) ++ (cut p3 0 p11)) ++ ([(p4, (p5, (p6, ())))] : List D_A3)) ++ (cut p3 p11 (List.length p3 : Int))), ())))), ())
 else none
 else none
 else none
 else none
 else none
 else none
 else
 bif (decide ((0 : Int) ≤ 0) && decide ((0 : Int) ≤ p11) && decide (p11 ≤ (List.length p3 : Int))) then
 bif (decide (((List.length ([] : List D_A3)) + (List.length (cut p3 0 p11))) * 24 ≤ 140737488355328) && decide (((List.length ([] : List D_A3)) + (List.length (cut p3 0 p11))) ≤ 140737488355328)) then
 bif (decide (((List.length (([] : List D_A3) ++ (cut p3 0 p11))) + (List.length ([(p4, (p5, (p6, ())))] : List D_A3))) * 24 ≤ 140737488355328) && decide (((List.length (([] : List D_A3) ++ (cut p3 0 p11))) + (List.length ([(p4, (p5, (p6, ())))] : List D_A3))) ≤ 140737488355328)) then
 bif (decide ((0 : Int) ≤ p11) && decide (p11 ≤ (List.length p3 : Int)) && decide ((List.length p3 : Int) ≤ (List.length p3 : Int))) then
 bif (decide (((List.length ((([] : List D_A3) ++ (cut p3 0 p11)) ++ ([(p4, (p5, (p6, ())))] : List D_A3))) + (List.length (cut p3 p11 (List.length p3 : Int)))) * 24 ≤ 140737488355328) && decide (((List.length ((([] : List D_A3) ++ (cut p3 0 p11)) ++ ([(p4, (p5, (p6, ())))] : List D_A3))) + (List.length (cut p3 p11 (List.length p3 : Int)))) ≤ 140737488355328)) then
 Option.bind (P_spec_l2Made ((p0, (p1, (p2, (p3, ())))), (((([] : List D_A3) ++ (cut p3 0 p11)) ++ ([(p4, (p5, (p6, ())))] : List D_A3)) ++ (cut p3 p11 (List.length p3 : Int))), ())) fun r10 =>
 some ((r10.1.1, (r10.1.2.1, (r10.1.2.2.1, ((((([] : List D_A3) ++ (cut p3 0 p11)) ++ ([(p4, (p5, (p6, ())))] : List D_A3)) ++ (cut p3 p11 (List.length p3 : Int))), ())))), ())
 else none
 else none
 else none
 else none
 else none
 else none
 else
 bif decide (p11 < (List.length p3 : Int)) then
 bif inB p11 (List.length p3) then
 bif (decide (((nth T_A3 p3 p11)).1 = p4) && (decide ((((nth T_A3 p3 p11)).2).1 = p5) && (decide (((((nth T_A3 p3 p11)).2).2).1 = p6) && true))) then
 Option.bind (P_spec_l2Own ((p0, (p1, (p2, (p3, ())))), ())) fun r4 =>
 some (r4.1, ())
 else
 bif (decide ((0 : Int) ≤ 0) && decide ((0 : Int) ≤ p11) && decide (p11 ≤ (List.length p3 : Int))) then
 bif (decide (((List.length ([] : List D_A3)) + (List.length (cut p3 0 p11))) * 24 ≤ 140737488355328) && decide (((List.length ([] : List D_A3)) + (List.length (cut p3 0 p11))) ≤ 140737488355328)) then
 bif (decide (((List.length (([] : List D_A3) ++ (cut p3 0 p11))) + (List.length ([(p4, (p5, (p6, ())))] : List D_A3))) * 24 ≤ 140737488355328) && decide (((List.length (([] : List D_A3) ++ (cut p3 0 p11))) + (List.length ([(p4, (p5, (p6, ())))] : List D_A3))) ≤ 140737488355328)) then
 bif (decide ((0 : Int) ≤ p11) && decide (p11 ≤ (List.length p3 : Int)) && decide ((List.length p3 : Int) ≤ (List.length p3 : Int))) then
 bif (decide (((List.length ((([] : List D_A3) ++ (cut p3 0 p11)) ++ ([(p4, (p5, (p6, ())))] : List D_A3))) + (List.length (cut p3 p11 (List.length p3 : Int)))) * 24 ≤ 140737488355328) && decide (((List.length ((([] : List D_A3) ++ (cut p3 0 p11)) ++ ([(p4, (p5, (p6, ())))] : List D_A3))) + (List.length (cut p3 p11 (List.length p3 : Int)))) ≤ 140737488355328)) then
 Option.bind (P_spec_l2Made ((p0, (p1, (p2, (p3, ())))), (((([] : List D_A3) ++ (cut p3 0 p11)) ++ ([(p4, (p5, (p6, ())))] : List D_A3)) ++ (cut p3 p11 (List.length p3 : Int))), ())) fun r9 =>
 some ((r9.1.1, (r9.1.2.1, (r9.1.2.2.1, ((((([] : List D_A3) ++ (cut p3 0 p11)) ++ ([(p4, (p5, (p6, ())))] : List D_A3)) ++ (cut p3 p11 (List.length p3 : Int))), ())))), ())
 else none
 else none
 else none
 else none
 else none
 else none
 else
 bif (decide ((0 : Int) ≤ 0) && decide ((0 : Int) ≤ p11) && decide (p11 ≤ (List.length p3 : Int))) then
 bif (decide (((List.length ([] : List D_A3)) + (List.length (cut p3 0 p11))) * 24 ≤ 140737488355328) && decide (((List.length ([] : List D_A3)) + (List.length (cut p3 0 p11))) ≤ 140737488355328)) then
 bif (decide (((List.length (([] : List D_A3) ++ (cut p3 0 p11))) + (List.length ([(p4, (p5, (p6, ())))] : List D_A3))) * 24 ≤ 140737488355328) && decide (((List.length (([] : List D_A3) ++ (cut p3 0 p11))) + (List.length ([(p4, (p5, (p6, ())))] : List D_A3))) ≤ 140737488355328)) then
 bif (decide ((0 : Int) ≤ p11) && decide (p11 ≤ (List.length p3 : Int)) && decide ((List.length p3 : Int) ≤ (List.length p3 : Int))) then
 bif (decide (((List.length ((([] : List D_A3) ++ (cut p3 0 p11)) ++ ([(p4, (p5, (p6, ())))] : List D_A3))) + (List.length (cut p3 p11 (List.length p3 : Int)))) * 24 ≤ 140737488355328) && decide (((List.length ((([] : List D_A3) ++ (cut p3 0 p11)) ++ ([(p4, (p5, (p6, ())))] : List D_A3))) + (List.length (cut p3 p11 (List.length p3 : Int)))) ≤ 140737488355328)) then
 Option.bind (P_spec_l2Made ((p0, (p1, (p2, (p3, ())))), (((([] : List D_A3) ++ (cut p3 0 p11)) ++ ([(p4, (p5, (p6, ())))] : List D_A3)) ++ (cut p3 p11 (List.length p3 : Int))), ())) fun r7 =>
 some ((r7.1.1, (r7.1.2.1, (r7.1.2.2.1, ((((([] : List D_A3) ++ (cut p3 0 p11)) ++ ([(p4, (p5, (p6, ())))] : List D_A3)) ++ (cut p3 p11 (List.length p3 : Int))), ())))), ())
 else none
 else none
 else none
 else none
 else none := by
 rewrite [h_spec_l2With_2]
 exact e_spec_l2With_2 N P_spec_l2Before P_spec_l2Made P_spec_l2Own m0 p0 p1 p2 p3 p4 p5 p6 p7 p8 p9 p10 p11

abbrev As_spec_PutCube : List ATy := [.data true T_Heap, .data true T_A3]
abbrev R_spec_PutCube : List (Bool × Ty) := [(true, T_Heap), (false, .bool)]
abbrev M_spec_PutCube : List RMode := [.own 38]
abbrev Ft_spec_PutCube : Type := D_Heap × D_A3 × Unit → Option (D_Heap × Bool × Unit)
noncomputable def X_spec_PutCube (n : Nat) (F_spec_l2Cell : Ft_spec_l2Cell) (F_spec_l2Has : Ft_spec_l2Has) (F_spec_l2With : Ft_spec_l2With) : Ctx := { types := TT, globals := [], con := [(61, ⟨As_spec_l2Cell, R_spec_l2Cell, M_spec_l2Cell, F_spec_l2Cell⟩), (62, ⟨As_spec_l2Has, R_spec_l2Has, M_spec_l2Has, F_spec_l2Has⟩), (126, ⟨As_spec_l2With, R_spec_l2With, M_spec_l2With, F_spec_l2With⟩)], keep := [], results := [.cell 4 26, .tmp 5], ntmps := 19, n := n }
noncomputable def B_spec_PutCube : Code := (Tryz.f140.body).getD .skip
theorem e_spec_PutCube (n : Nat) (F_spec_l2Cell : Ft_spec_l2Cell) (F_spec_l2Has : Ft_spec_l2Has) (F_spec_l2With : Ft_spec_l2With) (a0 : D_Heap) (a1 : D_A3) : runF (X_spec_PutCube n F_spec_l2Cell F_spec_l2Has F_spec_l2With) B_spec_PutCube As_spec_PutCube R_spec_PutCube M_spec_PutCube (a0, a1, ()) = 
 Option.bind (F_spec_l2Cell (a0, a1, ())) fun r0 =>
 bif !r0.1 then
 some ((0, (0, (0, (([] : List D_A3), ())))), false, ())
 else
 Option.bind (F_spec_l2Has (a0, a1, ())) fun r2 =>
 bif r2.1 then
 some ((0, (0, (0, (([] : List D_A3), ())))), false, ())
 else
 Option.bind (F_spec_l2With (a0, a1, ())) fun r4 =>
 some (r4.1, true, ()) := by kernel_rfl
noncomputable def P_spec_PutCube : Ft_spec_PutCube := hid (runF (X_spec_PutCube N P_spec_l2Cell P_spec_l2Has P_spec_l2With) B_spec_PutCube As_spec_PutCube R_spec_PutCube M_spec_PutCube)
theorem h_spec_PutCube : P_spec_PutCube = runF (X_spec_PutCube N P_spec_l2Cell P_spec_l2Has P_spec_l2With) B_spec_PutCube As_spec_PutCube R_spec_PutCube M_spec_PutCube := hid_eq _
noncomputable def C_spec_PutCube : Contract := ⟨As_spec_PutCube, R_spec_PutCube, M_spec_PutCube, P_spec_PutCube⟩
theorem s_spec_PutCube : Sound Tryz.prog GG 140 C_spec_PutCube := by
 unfold C_spec_PutCube; rw [h_spec_PutCube]
 exact sound_of_run (fn := Tryz.f140) hmix hstable (tyOK_of ttOK) (hglob (X_spec_PutCube N P_spec_l2Cell P_spec_l2Has P_spec_l2With)) (conOK_of (X := X_spec_PutCube N P_spec_l2Cell P_spec_l2Has P_spec_l2With) ⟨s_spec_l2Cell, s_spec_l2Has, s_spec_l2With, trivial⟩) (mconOK_of (X := X_spec_PutCube N P_spec_l2Cell P_spec_l2Has P_spec_l2With) trivial) (by kernel_rfl) (by kernel_rfl) (by kernel_rfl) (by kernel_rfl) (by kernel_rfl) (of_decide_eq_true (by kernel_rfl))
theorem p_spec_PutCube (a0 : D_Heap) (a1 : D_A3) : P_spec_PutCube (a0, a1, ()) = 
 Option.bind (P_spec_l2Cell (a0, a1, ())) fun r0 =>
 bif !r0.1 then
 some ((0, (0, (0, (([] : List D_A3), ())))), false, ())
 else
 Option.bind (P_spec_l2Has (a0, a1, ())) fun r2 =>
 bif r2.1 then
 some ((0, (0, (0, (([] : List D_A3), ())))), false, ())
 else
 Option.bind (P_spec_l2With (a0, a1, ())) fun r4 =>
 some (r4.1, true, ()) := by
 rewrite [h_spec_PutCube]
 exact e_spec_PutCube N P_spec_l2Cell P_spec_l2Has P_spec_l2With a0 a1

abbrev As_spec_l2Without : List ATy := [.data true T_Heap, .data true T_A3]
abbrev R_spec_l2Without : List (Bool × Ty) := [(true, T_Heap)]
abbrev M_spec_l2Without : List RMode := [.own 38]
abbrev Ft_spec_l2Without : Type := D_Heap × D_A3 × Unit → Option (D_Heap × Unit)
noncomputable def X_spec_l2Without (n : Nat) (F_spec_l2Empty : Ft_spec_l2Empty) : Ctx := { types := TT, globals := [], con := [(94, ⟨As_spec_l2Empty, R_spec_l2Empty, M_spec_l2Empty, F_spec_l2Empty⟩)], keep := [(3, ⟨[.box 2, .box 3, .box 4, .box 5, .tmp 2, .tmp 3, .tmp 4, .tmp 5, .tmp 6], []⟩)], results := [.cell 4 26], ntmps := 39, n := n }
noncomputable def B_spec_l2Without : Code := (Tryz.f89.body).getD .skip
noncomputable def L_spec_l2Without_3 (n : Nat) (F_spec_l2Empty : Ft_spec_l2Empty) (m0 : Nat) (p0 p1 p2 : Int) (p3 : List D_A3) (p4 p5 : Int) (p6 p7 : Int) (p8 p9 : Int) (p10 : List D_A3) (p11 p12 p13 : Int) (p14 : List D_A3) (p15 : Int) : Option (denL R_spec_l2Without) := loopF (X_spec_l2Without n F_spec_l2Empty) B_spec_l2Without R_spec_l2Without M_spec_l2Without 3 [m0] [(.ver, .num 1), (.box 2, .box 0 false [.int .i64 p0, .int .i64 p1, .int .i64 p2, .imm T_A3 p3 (some 3)]), (.box 3, .box 0 false [.int .i64 p4, .int .i64 p5, .int .i64 p6]), (.box 4, .box 0 false [.int .i64 p7, .int .i64 p8, .int .i64 p9, .own 38 T_A3 0 p10]), (.box 5, .box 0 false [.int .i64 p11, .int .i64 p12, .int .i64 p13, .own 38 T_A3 0 p14]), (.tmp 2, .val false [.addr 2 0 0]), (.tmp 3, .val false [.addr 3 0 0]), (.tmp 4, .val false [.addr 4 0 0]), (.tmp 5, .val false [.addr 5 0 0]), (.tmp 6, .val false [.int .i64 p15])]
theorem e_spec_l2Without (n : Nat) (F_spec_l2Empty : Ft_spec_l2Empty) (a0 : D_Heap) (a1 : D_A3) : runF (X_spec_l2Without n F_spec_l2Empty) B_spec_l2Without As_spec_l2Without R_spec_l2Without M_spec_l2Without (a0, a1, ()) = 
 Option.bind (F_spec_l2Empty (a0.1, a0.2.1, a0.2.2.1, ())) fun r0 =>
 L_spec_l2Without_3 n F_spec_l2Empty n a0.1 a0.2.1 a0.2.2.1 a0.2.2.2.1 a1.1 a1.2.1 a1.2.2.1 0 0 0 ([] : List D_A3) r0.1.1 r0.1.2.1 r0.1.2.2.1 r0.1.2.2.2.1 0 := by kernel_rfl
theorem e_spec_l2Without_3 (n : Nat) (F_spec_l2Empty : Ft_spec_l2Empty) (m0 : Nat) (p0 p1 p2 : Int) (p3 : List D_A3) (p4 p5 : Int) (p6 p7 : Int) (p8 p9 : Int) (p10 : List D_A3) (p11 p12 p13 : Int) (p14 : List D_A3) (p15 : Int) : L_spec_l2Without_3 n F_spec_l2Empty (m0 + 1) p0 p1 p2 p3 p4 p5 p6 p7 p8 p9 p10 p11 p12 p13 p14 p15 = 
 bif decide (p15 < (List.length p3 : Int)) then
 bif inB p15 (List.length p3) then
 bif !(decide (((nth T_A3 p3 p15)).1 = p4) && (decide ((((nth T_A3 p3 p15)).2).1 = p5) && (decide (((((nth T_A3 p3 p15)).2).2).1 = p6) && true))) then
 bif inB p15 (List.length p3) then
 bif (decide (((List.length p14) + (List.length ([(nth T_A3 p3 p15)] : List D_A3))) * 24 ≤ 140737488355328) && decide (((List.length p14) + (List.length ([(nth T_A3 p3 p15)] : List D_A3))) ≤ 140737488355328)) then
 L_spec_l2Without_3 n F_spec_l2Empty m0 p0 p1 p2 p3 p4 p5 p6 p7 p8 p9 p10 p11 p12 p13 (p14 ++ ([(nth T_A3 p3 p15)] : List D_A3)) (IntKind.wrap .i64 (p15 + 1))
 else none
 else none
 else
 L_spec_l2Without_3 n F_spec_l2Empty m0 p0 p1 p2 p3 p4 p5 p6 p7 p8 p9 p10 p11 p12 p13 p14 (IntKind.wrap .i64 (p15 + 1))
 else none
 else
 some ((p11, (p12, (p13, (p14, ())))), ()) := by kernel_rfl
noncomputable def P_spec_l2Without : Ft_spec_l2Without := hid (runF (X_spec_l2Without N P_spec_l2Empty) B_spec_l2Without As_spec_l2Without R_spec_l2Without M_spec_l2Without)
theorem h_spec_l2Without : P_spec_l2Without = runF (X_spec_l2Without N P_spec_l2Empty) B_spec_l2Without As_spec_l2Without R_spec_l2Without M_spec_l2Without := hid_eq _
noncomputable def C_spec_l2Without : Contract := ⟨As_spec_l2Without, R_spec_l2Without, M_spec_l2Without, P_spec_l2Without⟩
theorem s_spec_l2Without : Sound Tryz.prog GG 89 C_spec_l2Without := by
 unfold C_spec_l2Without; rw [h_spec_l2Without]
 exact sound_of_run (fn := Tryz.f89) hmix hstable (tyOK_of ttOK) (hglob (X_spec_l2Without N P_spec_l2Empty)) (conOK_of (X := X_spec_l2Without N P_spec_l2Empty) ⟨s_spec_l2Empty, trivial⟩) (mconOK_of (X := X_spec_l2Without N P_spec_l2Empty) trivial) (by kernel_rfl) (by kernel_rfl) (by kernel_rfl) (by kernel_rfl) (by kernel_rfl) (of_decide_eq_true (by kernel_rfl))
noncomputable def l_spec_l2Without_3 : Nat → Int → Int → Int → (List D_A3) → Int → Int → Int → Int → Int → Int → (List D_A3) → Int → Int → Int → (List D_A3) → Int → Option (denL R_spec_l2Without) := hid (fun m0 p0 p1 p2 p3 p4 p5 p6 p7 p8 p9 p10 p11 p12 p13 p14 p15 => L_spec_l2Without_3 N P_spec_l2Empty m0 p0 p1 p2 p3 p4 p5 p6 p7 p8 p9 p10 p11 p12 p13 p14 p15)
theorem h_spec_l2Without_3 : l_spec_l2Without_3 = fun m0 p0 p1 p2 p3 p4 p5 p6 p7 p8 p9 p10 p11 p12 p13 p14 p15 => L_spec_l2Without_3 N P_spec_l2Empty m0 p0 p1 p2 p3 p4 p5 p6 p7 p8 p9 p10 p11 p12 p13 p14 p15 := hid_eq _
theorem p_spec_l2Without (a0 : D_Heap) (a1 : D_A3) : P_spec_l2Without (a0, a1, ()) = 
 Option.bind (P_spec_l2Empty (a0.1, a0.2.1, a0.2.2.1, ())) fun r0 =>
 l_spec_l2Without_3 N a0.1 a0.2.1 a0.2.2.1 a0.2.2.2.1 a1.1 a1.2.1 a1.2.2.1 0 0 0 ([] : List D_A3) r0.1.1 r0.1.2.1 r0.1.2.2.1 r0.1.2.2.2.1 0 := by
 rewrite [h_spec_l2Without, h_spec_l2Without_3]
 exact e_spec_l2Without N P_spec_l2Empty a0 a1
theorem q_spec_l2Without_3 (m0 : Nat) (p0 p1 p2 : Int) (p3 : List D_A3) (p4 p5 : Int) (p6 p7 : Int) (p8 p9 : Int) (p10 : List D_A3) (p11 p12 p13 : Int) (p14 : List D_A3) (p15 : Int) : l_spec_l2Without_3 (m0 + 1) p0 p1 p2 p3 p4 p5 p6 p7 p8 p9 p10 p11 p12 p13 p14 p15 = 
 bif decide (p15 < (List.length p3 : Int)) then
 bif inB p15 (List.length p3) then
 bif !(decide (((nth T_A3 p3 p15)).1 = p4) && (decide ((((nth T_A3 p3 p15)).2).1 = p5) && (decide (((((nth T_A3 p3 p15)).2).2).1 = p6) && true))) then
 bif inB p15 (List.length p3) then
 bif (decide (((List.length p14) + (List.length ([(nth T_A3 p3 p15)] : List D_A3))) * 24 ≤ 140737488355328) && decide (((List.length p14) + (List.length ([(nth T_A3 p3 p15)] : List D_A3))) ≤ 140737488355328)) then
 l_spec_l2Without_3 m0 p0 p1 p2 p3 p4 p5 p6 p7 p8 p9 p10 p11 p12 p13 (p14 ++ ([(nth T_A3 p3 p15)] : List D_A3)) (IntKind.wrap .i64 (p15 + 1))
 else none
 else none
 else
 l_spec_l2Without_3 m0 p0 p1 p2 p3 p4 p5 p6 p7 p8 p9 p10 p11 p12 p13 p14 (IntKind.wrap .i64 (p15 + 1))
 else none
 else
 some ((p11, (p12, (p13, (p14, ())))), ()) := by
 rewrite [h_spec_l2Without_3]
 exact e_spec_l2Without_3 N P_spec_l2Empty m0 p0 p1 p2 p3 p4 p5 p6 p7 p8 p9 p10 p11 p12 p13 p14 p15

abbrev As_spec_TakeCube : List ATy := [.data true T_Heap, .data true T_A3]
abbrev R_spec_TakeCube : List (Bool × Ty) := [(true, T_Heap), (false, .bool)]
abbrev M_spec_TakeCube : List RMode := [.own 38]
abbrev Ft_spec_TakeCube : Type := D_Heap × D_A3 × Unit → Option (D_Heap × Bool × Unit)
noncomputable def X_spec_TakeCube (n : Nat) (F_spec_l2Cell : Ft_spec_l2Cell) (F_spec_l2Has : Ft_spec_l2Has) (F_spec_l2Without : Ft_spec_l2Without) : Ctx := { types := TT, globals := [], con := [(61, ⟨As_spec_l2Cell, R_spec_l2Cell, M_spec_l2Cell, F_spec_l2Cell⟩), (62, ⟨As_spec_l2Has, R_spec_l2Has, M_spec_l2Has, F_spec_l2Has⟩), (89, ⟨As_spec_l2Without, R_spec_l2Without, M_spec_l2Without, F_spec_l2Without⟩)], keep := [], results := [.cell 4 26, .tmp 5], ntmps := 20, n := n }
noncomputable def B_spec_TakeCube : Code := (Tryz.f141.body).getD .skip
theorem e_spec_TakeCube (n : Nat) (F_spec_l2Cell : Ft_spec_l2Cell) (F_spec_l2Has : Ft_spec_l2Has) (F_spec_l2Without : Ft_spec_l2Without) (a0 : D_Heap) (a1 : D_A3) : runF (X_spec_TakeCube n F_spec_l2Cell F_spec_l2Has F_spec_l2Without) B_spec_TakeCube As_spec_TakeCube R_spec_TakeCube M_spec_TakeCube (a0, a1, ()) = 
 Option.bind (F_spec_l2Cell (a0, a1, ())) fun r0 =>
 bif !r0.1 then
 some ((0, (0, (0, (([] : List D_A3), ())))), false, ())
 else
 Option.bind (F_spec_l2Has (a0, a1, ())) fun r2 =>
 bif !r2.1 then
 some ((0, (0, (0, (([] : List D_A3), ())))), false, ())
 else
 Option.bind (F_spec_l2Without (a0, a1, ())) fun r4 =>
 some (r4.1, true, ()) := by kernel_rfl
noncomputable def P_spec_TakeCube : Ft_spec_TakeCube := hid (runF (X_spec_TakeCube N P_spec_l2Cell P_spec_l2Has P_spec_l2Without) B_spec_TakeCube As_spec_TakeCube R_spec_TakeCube M_spec_TakeCube)
theorem h_spec_TakeCube : P_spec_TakeCube = runF (X_spec_TakeCube N P_spec_l2Cell P_spec_l2Has P_spec_l2Without) B_spec_TakeCube As_spec_TakeCube R_spec_TakeCube M_spec_TakeCube := hid_eq _
noncomputable def C_spec_TakeCube : Contract := ⟨As_spec_TakeCube, R_spec_TakeCube, M_spec_TakeCube, P_spec_TakeCube⟩
theorem s_spec_TakeCube : Sound Tryz.prog GG 141 C_spec_TakeCube := by
 unfold C_spec_TakeCube; rw [h_spec_TakeCube]
 exact sound_of_run (fn := Tryz.f141) hmix hstable (tyOK_of ttOK) (hglob (X_spec_TakeCube N P_spec_l2Cell P_spec_l2Has P_spec_l2Without)) (conOK_of (X := X_spec_TakeCube N P_spec_l2Cell P_spec_l2Has P_spec_l2Without) ⟨s_spec_l2Cell, s_spec_l2Has, s_spec_l2Without, trivial⟩) (mconOK_of (X := X_spec_TakeCube N P_spec_l2Cell P_spec_l2Has P_spec_l2Without) trivial) (by kernel_rfl) (by kernel_rfl) (by kernel_rfl) (by kernel_rfl) (by kernel_rfl) (of_decide_eq_true (by kernel_rfl))
theorem p_spec_TakeCube (a0 : D_Heap) (a1 : D_A3) : P_spec_TakeCube (a0, a1, ()) = 
 Option.bind (P_spec_l2Cell (a0, a1, ())) fun r0 =>
 bif !r0.1 then
 some ((0, (0, (0, (([] : List D_A3), ())))), false, ())
 else
 Option.bind (P_spec_l2Has (a0, a1, ())) fun r2 =>
 bif !r2.1 then
 some ((0, (0, (0, (([] : List D_A3), ())))), false, ())
 else
 Option.bind (P_spec_l2Without (a0, a1, ())) fun r4 =>
 some (r4.1, true, ()) := by
 rewrite [h_spec_TakeCube]
 exact e_spec_TakeCube N P_spec_l2Cell P_spec_l2Has P_spec_l2Without a0 a1

abbrev As_spec_l7Drop : List ATy := [.data true T_Heap]
abbrev R_spec_l7Drop : List (Bool × Ty) := [(true, T_Heap)]
abbrev M_spec_l7Drop : List RMode := [.own 38]
abbrev Ft_spec_l7Drop : Type := D_Heap × Unit → Option (D_Heap × Unit)
noncomputable def X_spec_l7Drop (n : Nat) (F_spec_l2Stack : Ft_spec_l2Stack) (F_spec_l2Heights : Ft_spec_l2Heights) : Ctx := { types := TT, globals := [], con := [(131, ⟨As_spec_l2Stack, R_spec_l2Stack, M_spec_l2Stack, F_spec_l2Stack⟩), (132, ⟨As_spec_l2Heights, R_spec_l2Heights, M_spec_l2Heights, F_spec_l2Heights⟩)], keep := [], results := [.cell 2 26], ntmps := 12, n := n }
noncomputable def B_spec_l7Drop : Code := (Tryz.f151.body).getD .skip
theorem e_spec_l7Drop (n : Nat) (F_spec_l2Stack : Ft_spec_l2Stack) (F_spec_l2Heights : Ft_spec_l2Heights) (a0 : D_Heap) : runF (X_spec_l7Drop n F_spec_l2Stack F_spec_l2Heights) B_spec_l7Drop As_spec_l7Drop R_spec_l7Drop M_spec_l7Drop (a0, ()) = 
 Option.bind (F_spec_l2Heights (a0, ())) fun r0 =>
 Option.bind (F_spec_l2Stack (a0.1, a0.2.1, a0.2.2.1, r0.1, ())) fun r1 =>
 some (r1.1, ()) := by kernel_rfl
noncomputable def P_spec_l7Drop : Ft_spec_l7Drop := hid (runF (X_spec_l7Drop N P_spec_l2Stack P_spec_l2Heights) B_spec_l7Drop As_spec_l7Drop R_spec_l7Drop M_spec_l7Drop)
theorem h_spec_l7Drop : P_spec_l7Drop = runF (X_spec_l7Drop N P_spec_l2Stack P_spec_l2Heights) B_spec_l7Drop As_spec_l7Drop R_spec_l7Drop M_spec_l7Drop := hid_eq _
noncomputable def C_spec_l7Drop : Contract := ⟨As_spec_l7Drop, R_spec_l7Drop, M_spec_l7Drop, P_spec_l7Drop⟩
theorem s_spec_l7Drop : Sound Tryz.prog GG 151 C_spec_l7Drop := by
 unfold C_spec_l7Drop; rw [h_spec_l7Drop]
 exact sound_of_run (fn := Tryz.f151) hmix hstable (tyOK_of ttOK) (hglob (X_spec_l7Drop N P_spec_l2Stack P_spec_l2Heights)) (conOK_of (X := X_spec_l7Drop N P_spec_l2Stack P_spec_l2Heights) ⟨s_spec_l2Stack, s_spec_l2Heights, trivial⟩) (mconOK_of (X := X_spec_l7Drop N P_spec_l2Stack P_spec_l2Heights) trivial) (by kernel_rfl) (by kernel_rfl) (by kernel_rfl) (by kernel_rfl) (by kernel_rfl) (of_decide_eq_true (by kernel_rfl))
theorem p_spec_l7Drop (a0 : D_Heap) : P_spec_l7Drop (a0, ()) = 
 Option.bind (P_spec_l2Heights (a0, ())) fun r0 =>
 Option.bind (P_spec_l2Stack (a0.1, a0.2.1, a0.2.2.1, r0.1, ())) fun r1 =>
 some (r1.1, ()) := by
 rewrite [h_spec_l7Drop]
 exact e_spec_l7Drop N P_spec_l2Stack P_spec_l2Heights a0

abbrev As_spec_DropHeap : List ATy := [.data true T_Heap]
abbrev R_spec_DropHeap : List (Bool × Ty) := [(true, T_Heap), (false, .bool)]
abbrev M_spec_DropHeap : List RMode := [.own 38]
abbrev Ft_spec_DropHeap : Type := D_Heap × Unit → Option (D_Heap × Bool × Unit)
noncomputable def X_spec_DropHeap (n : Nat) (F_spec_l2Heap : Ft_spec_l2Heap) (F_spec_l7Drop : Ft_spec_l7Drop) : Ctx := { types := TT, globals := [], con := [(48, ⟨As_spec_l2Heap, R_spec_l2Heap, M_spec_l2Heap, F_spec_l2Heap⟩), (151, ⟨As_spec_l7Drop, R_spec_l7Drop, M_spec_l7Drop, F_spec_l7Drop⟩)], keep := [], results := [.cell 2 26, .tmp 3], ntmps := 10, n := n }
noncomputable def B_spec_DropHeap : Code := (Tryz.f142.body).getD .skip
theorem e_spec_DropHeap (n : Nat) (F_spec_l2Heap : Ft_spec_l2Heap) (F_spec_l7Drop : Ft_spec_l7Drop) (a0 : D_Heap) : runF (X_spec_DropHeap n F_spec_l2Heap F_spec_l7Drop) B_spec_DropHeap As_spec_DropHeap R_spec_DropHeap M_spec_DropHeap (a0, ()) = 
 Option.bind (F_spec_l2Heap (a0, ())) fun r0 =>
 bif !r0.1 then
 some ((0, (0, (0, (([] : List D_A3), ())))), false, ())
 else
 Option.bind (F_spec_l7Drop (a0, ())) fun r2 =>
 some (r2.1, true, ()) := by kernel_rfl
noncomputable def P_spec_DropHeap : Ft_spec_DropHeap := hid (runF (X_spec_DropHeap N P_spec_l2Heap P_spec_l7Drop) B_spec_DropHeap As_spec_DropHeap R_spec_DropHeap M_spec_DropHeap)
theorem h_spec_DropHeap : P_spec_DropHeap = runF (X_spec_DropHeap N P_spec_l2Heap P_spec_l7Drop) B_spec_DropHeap As_spec_DropHeap R_spec_DropHeap M_spec_DropHeap := hid_eq _
noncomputable def C_spec_DropHeap : Contract := ⟨As_spec_DropHeap, R_spec_DropHeap, M_spec_DropHeap, P_spec_DropHeap⟩
theorem s_spec_DropHeap : Sound Tryz.prog GG 142 C_spec_DropHeap := by
 unfold C_spec_DropHeap; rw [h_spec_DropHeap]
 exact sound_of_run (fn := Tryz.f142) hmix hstable (tyOK_of ttOK) (hglob (X_spec_DropHeap N P_spec_l2Heap P_spec_l7Drop)) (conOK_of (X := X_spec_DropHeap N P_spec_l2Heap P_spec_l7Drop) ⟨s_spec_l2Heap, s_spec_l7Drop, trivial⟩) (mconOK_of (X := X_spec_DropHeap N P_spec_l2Heap P_spec_l7Drop) trivial) (by kernel_rfl) (by kernel_rfl) (by kernel_rfl) (by kernel_rfl) (by kernel_rfl) (of_decide_eq_true (by kernel_rfl))
theorem p_spec_DropHeap (a0 : D_Heap) : P_spec_DropHeap (a0, ()) = 
 Option.bind (P_spec_l2Heap (a0, ())) fun r0 =>
 bif !r0.1 then
 some ((0, (0, (0, (([] : List D_A3), ())))), false, ())
 else
 Option.bind (P_spec_l7Drop (a0, ())) fun r2 =>
 some (r2.1, true, ()) := by
 rewrite [h_spec_DropHeap]
 exact e_spec_DropHeap N P_spec_l2Heap P_spec_l7Drop a0

abbrev As_spec_l2Apart : List ATy := [.data true T_A3, .data true T_A3]
abbrev R_spec_l2Apart : List (Bool × Ty) := [(false, (.int .i64))]
abbrev M_spec_l2Apart : List RMode := []
abbrev Ft_spec_l2Apart : Type := D_A3 × D_A3 × Unit → Option (Int × Unit)
noncomputable def X_spec_l2Apart (n : Nat) (F_spec_l1Most : Ft_spec_l1Most) : Ctx := { types := TT, globals := [], con := [(125, ⟨As_spec_l1Most, R_spec_l1Most, M_spec_l1Most, F_spec_l1Most⟩)], keep := [(3, ⟨[.box 2, .box 3, .tmp 2, .tmp 3, .tmp 5, .tmp 6], []⟩)], results := [.tmp 4], ntmps := 29, n := n }
noncomputable def B_spec_l2Apart : Code := (Tryz.f163.body).getD .skip
noncomputable def L_spec_l2Apart_3 (n : Nat) (F_spec_l1Most : Ft_spec_l1Most) (m0 : Nat) (p0 p1 : Int) (p2 p3 : Int) (p4 p5 : Int) (p6 p7 : Int) : Option (denL R_spec_l2Apart) := loopF (X_spec_l2Apart n F_spec_l1Most) B_spec_l2Apart R_spec_l2Apart M_spec_l2Apart 3 [m0] [(.ver, .num 1), (.box 2, .box 0 false [.int .i64 p0, .int .i64 p1, .int .i64 p2]), (.box 3, .box 0 false [.int .i64 p3, .int .i64 p4, .int .i64 p5]), (.tmp 2, .val false [.addr 2 0 0]), (.tmp 3, .val false [.addr 3 0 0]), (.tmp 5, .val false [.int .i64 p6]), (.tmp 6, .val false [.int .i64 p7])]
theorem e_spec_l2Apart (n : Nat) (F_spec_l1Most : Ft_spec_l1Most) (a0 a1 : D_A3) : runF (X_spec_l2Apart n F_spec_l1Most) B_spec_l2Apart As_spec_l2Apart R_spec_l2Apart M_spec_l2Apart (a0, a1, ()) = 
 L_spec_l2Apart_3 n F_spec_l1Most n a0.1 a0.2.1 a0.2.2.1 a1.1 a1.2.1 a1.2.2.1 0 0 := by kernel_rfl
theorem e_spec_l2Apart_3 (n : Nat) (F_spec_l1Most : Ft_spec_l1Most) (m0 : Nat) (p0 p1 : Int) (p2 p3 : Int) (p4 p5 : Int) (p6 p7 : Int) : L_spec_l2Apart_3 n F_spec_l1Most (m0 + 1) p0 p1 p2 p3 p4 p5 p6 p7 = 
 bif decide (p7 < 3) then
 bif inB p7 3 then
 bif inB p7 3 then
 bif inB p7 3 then
 bif inB p7 3 then
 Option.bind (F_spec_l1Most ((IntKind.wrap .i64 ((bif decide (p7 = (0 : Int)) then p0 else (bif decide (p7 = (1 : Int)) then p1 else p2)) - (bif decide (p7 = (0 : Int)) then p3 else (bif decide (p7 = (1 : Int)) then p4 else p5)))), (IntKind.wrap .i64 ((bif decide (p7 = (0 : Int)) then p3 else (bif decide (p7 = (1 : Int)) then p4 else p5)) - (bif decide (p7 = (0 : Int)) then p0 else (bif decide (p7 = (1 : Int)) then p1 else p2)))), ())) fun r5 =>
 L_spec_l2Apart_3 n F_spec_l1Most m0 p0 p1 p2 p3 p4 p5 (IntKind.wrap .i64 (p6 + r5.1)) (IntKind.wrap .i64 (p7 + 1))
 else none
 else none
 else none
 else none
 else
 some (p6, ()) := by kernel_rfl
noncomputable def P_spec_l2Apart : Ft_spec_l2Apart := hid (runF (X_spec_l2Apart N P_spec_l1Most) B_spec_l2Apart As_spec_l2Apart R_spec_l2Apart M_spec_l2Apart)
theorem h_spec_l2Apart : P_spec_l2Apart = runF (X_spec_l2Apart N P_spec_l1Most) B_spec_l2Apart As_spec_l2Apart R_spec_l2Apart M_spec_l2Apart := hid_eq _
noncomputable def C_spec_l2Apart : Contract := ⟨As_spec_l2Apart, R_spec_l2Apart, M_spec_l2Apart, P_spec_l2Apart⟩
theorem s_spec_l2Apart : Sound Tryz.prog GG 163 C_spec_l2Apart := by
 unfold C_spec_l2Apart; rw [h_spec_l2Apart]
 exact sound_of_run (fn := Tryz.f163) hmix hstable (tyOK_of ttOK) (hglob (X_spec_l2Apart N P_spec_l1Most)) (conOK_of (X := X_spec_l2Apart N P_spec_l1Most) ⟨s_spec_l1Most, trivial⟩) (mconOK_of (X := X_spec_l2Apart N P_spec_l1Most) trivial) (by kernel_rfl) (by kernel_rfl) (by kernel_rfl) (by kernel_rfl) (by kernel_rfl) (of_decide_eq_true (by kernel_rfl))
noncomputable def l_spec_l2Apart_3 : Nat → Int → Int → Int → Int → Int → Int → Int → Int → Option (denL R_spec_l2Apart) := hid (fun m0 p0 p1 p2 p3 p4 p5 p6 p7 => L_spec_l2Apart_3 N P_spec_l1Most m0 p0 p1 p2 p3 p4 p5 p6 p7)
theorem h_spec_l2Apart_3 : l_spec_l2Apart_3 = fun m0 p0 p1 p2 p3 p4 p5 p6 p7 => L_spec_l2Apart_3 N P_spec_l1Most m0 p0 p1 p2 p3 p4 p5 p6 p7 := hid_eq _
theorem p_spec_l2Apart (a0 a1 : D_A3) : P_spec_l2Apart (a0, a1, ()) = 
 l_spec_l2Apart_3 N a0.1 a0.2.1 a0.2.2.1 a1.1 a1.2.1 a1.2.2.1 0 0 := by
 rewrite [h_spec_l2Apart, h_spec_l2Apart_3]
 exact e_spec_l2Apart N P_spec_l1Most a0 a1
theorem q_spec_l2Apart_3 (m0 : Nat) (p0 p1 : Int) (p2 p3 : Int) (p4 p5 : Int) (p6 p7 : Int) : l_spec_l2Apart_3 (m0 + 1) p0 p1 p2 p3 p4 p5 p6 p7 = 
 bif decide (p7 < 3) then
 bif inB p7 3 then
 bif inB p7 3 then
 bif inB p7 3 then
 bif inB p7 3 then
 Option.bind (P_spec_l1Most ((IntKind.wrap .i64 ((bif decide (p7 = (0 : Int)) then p0 else (bif decide (p7 = (1 : Int)) then p1 else p2)) - (bif decide (p7 = (0 : Int)) then p3 else (bif decide (p7 = (1 : Int)) then p4 else p5)))), (IntKind.wrap .i64 ((bif decide (p7 = (0 : Int)) then p3 else (bif decide (p7 = (1 : Int)) then p4 else p5)) - (bif decide (p7 = (0 : Int)) then p0 else (bif decide (p7 = (1 : Int)) then p1 else p2)))), ())) fun r5 =>
 l_spec_l2Apart_3 m0 p0 p1 p2 p3 p4 p5 (IntKind.wrap .i64 (p6 + r5.1)) (IntKind.wrap .i64 (p7 + 1))
 else none
 else none
 else none
 else none
 else
 some (p6, ()) := by
 rewrite [h_spec_l2Apart_3]
 exact e_spec_l2Apart_3 N P_spec_l1Most m0 p0 p1 p2 p3 p4 p5 p6 p7

abbrev As_spec_l2Near : List ATy := [.data true T_Heap, .data true T_A3]
abbrev R_spec_l2Near : List (Bool × Ty) := [(false, (.sl T_A3))]
abbrev M_spec_l2Near : List RMode := [.own 38]
abbrev Ft_spec_l2Near : Type := D_Heap × D_A3 × Unit → Option ((List D_A3) × Unit)
noncomputable def X_spec_l2Near (n : Nat) (F_spec_l2Apart : Ft_spec_l2Apart) : Ctx := { types := TT, globals := [], con := [(163, ⟨As_spec_l2Apart, R_spec_l2Apart, M_spec_l2Apart, F_spec_l2Apart⟩)], keep := [(3, ⟨[.box 2, .box 3, .tmp 2, .tmp 3, .tmp 5, .tmp 6], []⟩)], results := [.tmp 4], ntmps := 32, n := n }
noncomputable def B_spec_l2Near : Code := (Tryz.f162.body).getD .skip
noncomputable def L_spec_l2Near_3 (n : Nat) (F_spec_l2Apart : Ft_spec_l2Apart) (m0 : Nat) (p0 p1 p2 : Int) (p3 : List D_A3) (p4 p5 p6 : Int) (p7 : List D_A3) (p8 : Int) : Option (denL R_spec_l2Near) := loopF (X_spec_l2Near n F_spec_l2Apart) B_spec_l2Near R_spec_l2Near M_spec_l2Near 3 [m0] [(.ver, .num 1), (.box 2, .box 0 false [.int .i64 p0, .int .i64 p1, .int .i64 p2, .imm T_A3 p3 (some 3)]), (.box 3, .box 0 false [.int .i64 p4, .int .i64 p5, .int .i64 p6]), (.tmp 2, .val false [.addr 2 0 0]), (.tmp 3, .val false [.addr 3 0 0]), (.tmp 5, .val false [.own 38 T_A3 0 p7]), (.tmp 6, .val false [.int .i64 p8])]
theorem e_spec_l2Near (n : Nat) (F_spec_l2Apart : Ft_spec_l2Apart) (a0 : D_Heap) (a1 : D_A3) : runF (X_spec_l2Near n F_spec_l2Apart) B_spec_l2Near As_spec_l2Near R_spec_l2Near M_spec_l2Near (a0, a1, ()) = 
 L_spec_l2Near_3 n F_spec_l2Apart n a0.1 a0.2.1 a0.2.2.1 a0.2.2.2.1 a1.1 a1.2.1 a1.2.2.1 ([] : List D_A3) 0 := by kernel_rfl
theorem e_spec_l2Near_3 (n : Nat) (F_spec_l2Apart : Ft_spec_l2Apart) (m0 : Nat) (p0 p1 p2 : Int) (p3 : List D_A3) (p4 p5 p6 : Int) (p7 : List D_A3) (p8 : Int) : L_spec_l2Near_3 n F_spec_l2Apart (m0 + 1) p0 p1 p2 p3 p4 p5 p6 p7 p8 = 
 bif decide (p8 < (List.length p3 : Int)) then
 bif inB p8 (List.length p3) then
 Option.bind (F_spec_l2Apart ((nth T_A3 p3 p8), (p4, (p5, (p6, ()))), ())) fun r2 =>
 bif decide (r2.1 = 1) then
 bif inB p8 (List.length p3) then
 bif (decide (((List.length p7) + (List.length ([(nth T_A3 p3 p8)] : List D_A3))) * 24 ≤ 140737488355328) && decide (((List.length p7) + (List.length ([(nth T_A3 p3 p8)] : List D_A3))) ≤ 140737488355328)) then
 L_spec_l2Near_3 n F_spec_l2Apart m0 p0 p1 p2 p3 p4 p5 p6 (p7 ++ ([(nth T_A3 p3 p8)] : List D_A3)) (IntKind.wrap .i64 (p8 + 1))
 else none
 else none
 else
 L_spec_l2Near_3 n F_spec_l2Apart m0 p0 p1 p2 p3 p4 p5 p6 p7 (IntKind.wrap .i64 (p8 + 1))
 else none
 else
 some (p7, ()) := by kernel_rfl
noncomputable def P_spec_l2Near : Ft_spec_l2Near := hid (runF (X_spec_l2Near N P_spec_l2Apart) B_spec_l2Near As_spec_l2Near R_spec_l2Near M_spec_l2Near)
theorem h_spec_l2Near : P_spec_l2Near = runF (X_spec_l2Near N P_spec_l2Apart) B_spec_l2Near As_spec_l2Near R_spec_l2Near M_spec_l2Near := hid_eq _
noncomputable def C_spec_l2Near : Contract := ⟨As_spec_l2Near, R_spec_l2Near, M_spec_l2Near, P_spec_l2Near⟩
theorem s_spec_l2Near : Sound Tryz.prog GG 162 C_spec_l2Near := by
 unfold C_spec_l2Near; rw [h_spec_l2Near]
 exact sound_of_run (fn := Tryz.f162) hmix hstable (tyOK_of ttOK) (hglob (X_spec_l2Near N P_spec_l2Apart)) (conOK_of (X := X_spec_l2Near N P_spec_l2Apart) ⟨s_spec_l2Apart, trivial⟩) (mconOK_of (X := X_spec_l2Near N P_spec_l2Apart) trivial) (by kernel_rfl) (by kernel_rfl) (by kernel_rfl) (by kernel_rfl) (by kernel_rfl) (of_decide_eq_true (by kernel_rfl))
noncomputable def l_spec_l2Near_3 : Nat → Int → Int → Int → (List D_A3) → Int → Int → Int → (List D_A3) → Int → Option (denL R_spec_l2Near) := hid (fun m0 p0 p1 p2 p3 p4 p5 p6 p7 p8 => L_spec_l2Near_3 N P_spec_l2Apart m0 p0 p1 p2 p3 p4 p5 p6 p7 p8)
theorem h_spec_l2Near_3 : l_spec_l2Near_3 = fun m0 p0 p1 p2 p3 p4 p5 p6 p7 p8 => L_spec_l2Near_3 N P_spec_l2Apart m0 p0 p1 p2 p3 p4 p5 p6 p7 p8 := hid_eq _
theorem p_spec_l2Near (a0 : D_Heap) (a1 : D_A3) : P_spec_l2Near (a0, a1, ()) = 
 l_spec_l2Near_3 N a0.1 a0.2.1 a0.2.2.1 a0.2.2.2.1 a1.1 a1.2.1 a1.2.2.1 ([] : List D_A3) 0 := by
 rewrite [h_spec_l2Near, h_spec_l2Near_3]
 exact e_spec_l2Near N P_spec_l2Apart a0 a1
theorem q_spec_l2Near_3 (m0 : Nat) (p0 p1 p2 : Int) (p3 : List D_A3) (p4 p5 p6 : Int) (p7 : List D_A3) (p8 : Int) : l_spec_l2Near_3 (m0 + 1) p0 p1 p2 p3 p4 p5 p6 p7 p8 = 
 bif decide (p8 < (List.length p3 : Int)) then
 bif inB p8 (List.length p3) then
 Option.bind (P_spec_l2Apart ((nth T_A3 p3 p8), (p4, (p5, (p6, ()))), ())) fun r2 =>
 bif decide (r2.1 = 1) then
 bif inB p8 (List.length p3) then
 bif (decide (((List.length p7) + (List.length ([(nth T_A3 p3 p8)] : List D_A3))) * 24 ≤ 140737488355328) && decide (((List.length p7) + (List.length ([(nth T_A3 p3 p8)] : List D_A3))) ≤ 140737488355328)) then
 l_spec_l2Near_3 m0 p0 p1 p2 p3 p4 p5 p6 (p7 ++ ([(nth T_A3 p3 p8)] : List D_A3)) (IntKind.wrap .i64 (p8 + 1))
 else none
 else none
 else
 l_spec_l2Near_3 m0 p0 p1 p2 p3 p4 p5 p6 p7 (IntKind.wrap .i64 (p8 + 1))
 else none
 else
 some (p7, ()) := by
 rewrite [h_spec_l2Near_3]
 exact e_spec_l2Near_3 N P_spec_l2Apart m0 p0 p1 p2 p3 p4 p5 p6 p7 p8

abbrev As_spec_l2Parts : List ATy := [.data true T_Heap]
abbrev R_spec_l2Parts : List (Bool × Ty) := [(false, (.sl (.sl T_A3)))]
abbrev M_spec_l2Parts : List RMode := [.own 24]
abbrev Ft_spec_l2Parts : Type := D_Heap × Unit → Option ((List (List D_A3)) × Unit)
noncomputable def X_spec_l2Parts (n : Nat) (F_spec_l2Without : Ft_spec_l2Without) (F_spec_l2Empty : Ft_spec_l2Empty) (F_spec_l2Own : Ft_spec_l2Own) (F_spec_l2With : Ft_spec_l2With) (F_spec_l2Near : Ft_spec_l2Near) : Ctx := { types := TT, globals := [], con := [(89, ⟨As_spec_l2Without, R_spec_l2Without, M_spec_l2Without, F_spec_l2Without⟩), (94, ⟨As_spec_l2Empty, R_spec_l2Empty, M_spec_l2Empty, F_spec_l2Empty⟩), (111, ⟨As_spec_l2Own, R_spec_l2Own, M_spec_l2Own, F_spec_l2Own⟩), (126, ⟨As_spec_l2With, R_spec_l2With, M_spec_l2With, F_spec_l2With⟩), (162, ⟨As_spec_l2Near, R_spec_l2Near, M_spec_l2Near, F_spec_l2Near⟩)], keep := [(2, ⟨[.box 1, .box 4, .tmp 1, .tmp 3, .tmp 4], []⟩), (6, ⟨[.box 1, .box 4, .box 5, .tmp 1, .tmp 3, .tmp 4, .tmp 5, .tmp 6, .tmp 7], []⟩), (11, ⟨[.box 1, .box 4, .box 5, .tmp 1, .tmp 3, .tmp 4, .tmp 5, .tmp 6, .tmp 7, .tmp 8, .tmp 9], []⟩)], results := [.tmp 2], ntmps := 77, n := n }
noncomputable def B_spec_l2Parts : Code := (Tryz.f160.body).getD .skip
noncomputable def L_spec_l2Parts_2 (n : Nat) (F_spec_l2Without : Ft_spec_l2Without) (F_spec_l2Empty : Ft_spec_l2Empty) (F_spec_l2Own : Ft_spec_l2Own) (F_spec_l2With : Ft_spec_l2With) (F_spec_l2Near : Ft_spec_l2Near) (m0 : Nat) (p0 p1 p2 : Int) (p3 : List D_A3) (p4 p5 p6 : Int) (p7 : List D_A3) (p8 : List (List D_A3)) : Option (denL R_spec_l2Parts) := loopF (X_spec_l2Parts n F_spec_l2Without F_spec_l2Empty F_spec_l2Own F_spec_l2With F_spec_l2Near) B_spec_l2Parts R_spec_l2Parts M_spec_l2Parts 2 [m0] [(.ver, .num 1), (.box 1, .box 0 false [.int .i64 p0, .int .i64 p1, .int .i64 p2, .imm T_A3 p3 (some 3)]), (.box 4, .box 0 false [.int .i64 p4, .int .i64 p5, .int .i64 p6, .own 38 T_A3 0 p7]), (.tmp 1, .val false [.addr 1 0 0]), (.tmp 3, .val false [.own 24 (.sl T_A3) 0 p8]), (.tmp 4, .val false [.addr 4 0 0])]
noncomputable def L_spec_l2Parts_6 (n : Nat) (F_spec_l2Without : Ft_spec_l2Without) (F_spec_l2Empty : Ft_spec_l2Empty) (F_spec_l2Own : Ft_spec_l2Own) (F_spec_l2With : Ft_spec_l2With) (F_spec_l2Near : Ft_spec_l2Near) (m0 m1 : Nat) (p0 p1 p2 : Int) (p3 : List D_A3) (p4 p5 p6 : Int) (p7 : List D_A3) (p8 p9 p10 : Int) (p11 : List D_A3) (p12 : List (List D_A3)) (p13 : List D_A3) (p14 : Int) : Option (denL R_spec_l2Parts) := loopF (X_spec_l2Parts n F_spec_l2Without F_spec_l2Empty F_spec_l2Own F_spec_l2With F_spec_l2Near) B_spec_l2Parts R_spec_l2Parts M_spec_l2Parts 6 [m0, m1] [(.ver, .num 1), (.box 1, .box 0 false [.int .i64 p0, .int .i64 p1, .int .i64 p2, .imm T_A3 p3 (some 3)]), (.box 4, .box 0 false [.int .i64 p4, .int .i64 p5, .int .i64 p6, .own 38 T_A3 0 p7]), (.box 5, .box 0 false [.int .i64 p8, .int .i64 p9, .int .i64 p10, .own 38 T_A3 0 p11]), (.tmp 1, .val false [.addr 1 0 0]), (.tmp 3, .val false [.own 24 (.sl T_A3) 0 p12]), (.tmp 4, .val false [.addr 4 0 0]), (.tmp 5, .val false [.addr 5 0 0]), (.tmp 6, .val false [.own 38 T_A3 0 p13]), (.tmp 7, .val false [.int .i64 p14])]
noncomputable def L_spec_l2Parts_11 (n : Nat) (F_spec_l2Without : Ft_spec_l2Without) (F_spec_l2Empty : Ft_spec_l2Empty) (F_spec_l2Own : Ft_spec_l2Own) (F_spec_l2With : Ft_spec_l2With) (F_spec_l2Near : Ft_spec_l2Near) (m0 m1 m2 : Nat) (p0 p1 p2 : Int) (p3 : List D_A3) (p4 p5 p6 : Int) (p7 : List D_A3) (p8 p9 p10 : Int) (p11 : List D_A3) (p12 : List (List D_A3)) (p13 : List D_A3) (p14 : Int) (p15 : List D_A3) (p16 : Int) : Option (denL R_spec_l2Parts) := loopF (X_spec_l2Parts n F_spec_l2Without F_spec_l2Empty F_spec_l2Own F_spec_l2With F_spec_l2Near) B_spec_l2Parts R_spec_l2Parts M_spec_l2Parts 11 [m0, m1, m2] [(.ver, .num 1), (.box 1, .box 0 false [.int .i64 p0, .int .i64 p1, .int .i64 p2, .imm T_A3 p3 (some 3)]), (.box 4, .box 0 false [.int .i64 p4, .int .i64 p5, .int .i64 p6, .own 38 T_A3 0 p7]), (.box 5, .box 0 false [.int .i64 p8, .int .i64 p9, .int .i64 p10, .own 38 T_A3 0 p11]), (.tmp 1, .val false [.addr 1 0 0]), (.tmp 3, .val false [.own 24 (.sl T_A3) 0 p12]), (.tmp 4, .val false [.addr 4 0 0]), (.tmp 5, .val false [.addr 5 0 0]), (.tmp 6, .val false [.own 38 T_A3 0 p13]), (.tmp 7, .val false [.int .i64 p14]), (.tmp 8, .val false [.own 38 T_A3 0 p15]), (.tmp 9, .val false [.int .i64 p16])]
theorem e_spec_l2Parts (n : Nat) (F_spec_l2Without : Ft_spec_l2Without) (F_spec_l2Empty : Ft_spec_l2Empty) (F_spec_l2Own : Ft_spec_l2Own) (F_spec_l2With : Ft_spec_l2With) (F_spec_l2Near : Ft_spec_l2Near) (a0 : D_Heap) : runF (X_spec_l2Parts n F_spec_l2Without F_spec_l2Empty F_spec_l2Own F_spec_l2With F_spec_l2Near) B_spec_l2Parts As_spec_l2Parts R_spec_l2Parts M_spec_l2Parts (a0, ()) = 
 Option.bind (F_spec_l2Own (a0, ())) fun r0 =>
 L_spec_l2Parts_2 n F_spec_l2Without F_spec_l2Empty F_spec_l2Own F_spec_l2With F_spec_l2Near n a0.1 a0.2.1 a0.2.2.1 a0.2.2.2.1 r0.1.1 r0.1.2.1 r0.1.2.2.1 r0.1.2.2.2.1 ([] : List (List D_A3)) := by kernel_rfl
theorem e_spec_l2Parts_2 (n : Nat) (F_spec_l2Without : Ft_spec_l2Without) (F_spec_l2Empty : Ft_spec_l2Empty) (F_spec_l2Own : Ft_spec_l2Own) (F_spec_l2With : Ft_spec_l2With) (F_spec_l2Near : Ft_spec_l2Near) (m0 : Nat) (p0 p1 p2 : Int) (p3 : List D_A3) (p4 p5 p6 : Int) (p7 : List D_A3) (p8 : List (List D_A3)) : L_spec_l2Parts_2 n F_spec_l2Without F_spec_l2Empty F_spec_l2Own F_spec_l2With F_spec_l2Near (m0 + 1) p0 p1 p2 p3 p4 p5 p6 p7 p8 = 
 bif decide ((List.length p7 : Int) > 0) then
 Option.bind (F_spec_l2Empty (p0, p1, p2, ())) fun r1 =>
 bif inB 0 (List.length p7) then
 bif inB 0 (List.length ([(nth T_A3 p7 0)] : List D_A3)) then
 Option.bind (F_spec_l2Without ((p4, (p5, (p6, (p7, ())))), (nth T_A3 ([(nth T_A3 p7 0)] : List D_A3) 0), ())) fun r4 =>
 L_spec_l2Parts_6 n F_spec_l2Without F_spec_l2Empty F_spec_l2Own F_spec_l2With F_spec_l2Near m0 n p0 p1 p2 p3 r4.1.1 r4.1.2.1 r4.1.2.2.1 r4.1.2.2.2.1 r1.1.1 r1.1.2.1 r1.1.2.2.1 r1.1.2.2.2.1 p8 ([(nth T_A3 p7 0)] : List D_A3) 0
 else none
 else none
 else
 some (p8, ()) := by kernel_rfl
theorem e_spec_l2Parts_6 (n : Nat) (F_spec_l2Without : Ft_spec_l2Without) (F_spec_l2Empty : Ft_spec_l2Empty) (F_spec_l2Own : Ft_spec_l2Own) (F_spec_l2With : Ft_spec_l2With) (F_spec_l2Near : Ft_spec_l2Near) (m0 m1 : Nat) (p0 p1 p2 : Int) (p3 : List D_A3) (p4 p5 p6 : Int) (p7 : List D_A3) (p8 p9 p10 : Int) (p11 : List D_A3) (p12 : List (List D_A3)) (p13 : List D_A3) (p14 : Int) : L_spec_l2Parts_6 n F_spec_l2Without F_spec_l2Empty F_spec_l2Own F_spec_l2With F_spec_l2Near m0 (m1 + 1) p0 p1 p2 p3 p4 p5 p6 p7 p8 p9 p10 p11 p12 p13 p14 = 
 bif decide (p14 < (List.length p13 : Int)) then
 bif inB p14 (List.length p13) then
 Option.bind (F_spec_l2With ((p8, (p9, (p10, (p11, ())))), (nth T_A3 p13 p14), ())) fun r2 =>
 bif inB p14 (List.length p13) then
 Option.bind (F_spec_l2Near ((p4, (p5, (p6, (p7, ())))), (nth T_A3 p13 p14), ())) fun r4 =>
 L_spec_l2Parts_11 n F_spec_l2Without F_spec_l2Empty F_spec_l2Own F_spec_l2With F_spec_l2Near m0 m1 n p0 p1 p2 p3 p4 p5 p6 p7 r2.1.1 r2.1.2.1 r2.1.2.2.1 r2.1.2.2.2.1 p12 p13 p14 r4.1 0
 else none
 else none
 else
 bif (decide (((List.length p12) + (List.length ([p11] : List (List D_A3)))) * 24 ≤ 140737488355328) && decide (((List.length p12) + (List.length ([p11] : List (List D_A3)))) ≤ 140737488355328)) then
 L_spec_l2Parts_2 n F_spec_l2Without F_spec_l2Empty F_spec_l2Own F_spec_l2With F_spec_l2Near m0 p0 p1 p2 p3 p4 p5 p6 p7 (p12 ++ ([p11] : List (List D_A3)))
 else none := by kernel_rfl
theorem e_spec_l2Parts_11 (n : Nat) (F_spec_l2Without : Ft_spec_l2Without) (F_spec_l2Empty : Ft_spec_l2Empty) (F_spec_l2Own : Ft_spec_l2Own) (F_spec_l2With : Ft_spec_l2With) (F_spec_l2Near : Ft_spec_l2Near) (m0 m1 m2 : Nat) (p0 p1 p2 : Int) (p3 : List D_A3) (p4 p5 p6 : Int) (p7 : List D_A3) (p8 p9 p10 : Int) (p11 : List D_A3) (p12 : List (List D_A3)) (p13 : List D_A3) (p14 : Int) (p15 : List D_A3) (p16 : Int) : L_spec_l2Parts_11 n F_spec_l2Without F_spec_l2Empty F_spec_l2Own F_spec_l2With F_spec_l2Near m0 m1 (m2 + 1) p0 p1 p2 p3 p4 p5 p6 p7 p8 p9 p10 p11 p12 p13 p14 p15 p16 = 
 bif decide (p16 < (List.length p15 : Int)) then
 bif inB p16 (List.length p15) then
 bif (decide (((List.length p13) + (List.length ([(nth T_A3 p15 p16)] : List D_A3))) * 24 ≤ 140737488355328) && decide (((List.length p13) + (List.length ([(nth T_A3 p15 p16)] : List D_A3))) ≤ 140737488355328)) then
 bif inB p16 (List.length p15) then
 Option.bind (F_spec_l2Without ((p4, (p5, (p6, (p7, ())))), (nth T_A3 p15 p16), ())) fun r4 =>
 L_spec_l2Parts_11 n F_spec_l2Without F_spec_l2Empty F_spec_l2Own F_spec_l2With F_spec_l2Near m0 m1 m2 p0 p1 p2 p3 r4.1.1 r4.1.2.1 r4.1.2.2.1 r4.1.2.2.2.1 p8 p9 p10 p11 p12 (p13 ++ ([(nth T_A3 p15 p16)] : List D_A3)) p14 p15 (IntKind.wrap .i64 (p16 + 1))
 else none
 else none
 else none
 else
 L_spec_l2Parts_6 n F_spec_l2Without F_spec_l2Empty F_spec_l2Own F_spec_l2With F_spec_l2Near m0 m1 p0 p1 p2 p3 p4 p5 p6 p7 p8 p9 p10 p11 p12 p13 (IntKind.wrap .i64 (p14 + 1)) := by kernel_rfl
noncomputable def P_spec_l2Parts : Ft_spec_l2Parts := hid (runF (X_spec_l2Parts N P_spec_l2Without P_spec_l2Empty P_spec_l2Own P_spec_l2With P_spec_l2Near) B_spec_l2Parts As_spec_l2Parts R_spec_l2Parts M_spec_l2Parts)
theorem h_spec_l2Parts : P_spec_l2Parts = runF (X_spec_l2Parts N P_spec_l2Without P_spec_l2Empty P_spec_l2Own P_spec_l2With P_spec_l2Near) B_spec_l2Parts As_spec_l2Parts R_spec_l2Parts M_spec_l2Parts := hid_eq _
noncomputable def C_spec_l2Parts : Contract := ⟨As_spec_l2Parts, R_spec_l2Parts, M_spec_l2Parts, P_spec_l2Parts⟩
theorem s_spec_l2Parts : Sound Tryz.prog GG 160 C_spec_l2Parts := by
 unfold C_spec_l2Parts; rw [h_spec_l2Parts]
 exact sound_of_run (fn := Tryz.f160) hmix hstable (tyOK_of ttOK) (hglob (X_spec_l2Parts N P_spec_l2Without P_spec_l2Empty P_spec_l2Own P_spec_l2With P_spec_l2Near)) (conOK_of (X := X_spec_l2Parts N P_spec_l2Without P_spec_l2Empty P_spec_l2Own P_spec_l2With P_spec_l2Near) ⟨s_spec_l2Without, s_spec_l2Empty, s_spec_l2Own, s_spec_l2With, s_spec_l2Near, trivial⟩) (mconOK_of (X := X_spec_l2Parts N P_spec_l2Without P_spec_l2Empty P_spec_l2Own P_spec_l2With P_spec_l2Near) trivial) (by kernel_rfl) (by kernel_rfl) (by kernel_rfl) (by kernel_rfl) (by kernel_rfl) (of_decide_eq_true (by kernel_rfl))
noncomputable def l_spec_l2Parts_2 : Nat → Int → Int → Int → (List D_A3) → Int → Int → Int → (List D_A3) → (List (List D_A3)) → Option (denL R_spec_l2Parts) := hid (fun m0 p0 p1 p2 p3 p4 p5 p6 p7 p8 => L_spec_l2Parts_2 N P_spec_l2Without P_spec_l2Empty P_spec_l2Own P_spec_l2With P_spec_l2Near m0 p0 p1 p2 p3 p4 p5 p6 p7 p8)
theorem h_spec_l2Parts_2 : l_spec_l2Parts_2 = fun m0 p0 p1 p2 p3 p4 p5 p6 p7 p8 => L_spec_l2Parts_2 N P_spec_l2Without P_spec_l2Empty P_spec_l2Own P_spec_l2With P_spec_l2Near m0 p0 p1 p2 p3 p4 p5 p6 p7 p8 := hid_eq _
noncomputable def l_spec_l2Parts_6 : Nat → Nat → Int → Int → Int → (List D_A3) → Int → Int → Int → (List D_A3) → Int → Int → Int → (List D_A3) → (List (List D_A3)) → (List D_A3) → Int → Option (denL R_spec_l2Parts) := hid (fun m0 m1 p0 p1 p2 p3 p4 p5 p6 p7 p8 p9 p10 p11 p12 p13 p14 => L_spec_l2Parts_6 N P_spec_l2Without P_spec_l2Empty P_spec_l2Own P_spec_l2With P_spec_l2Near m0 m1 p0 p1 p2 p3 p4 p5 p6 p7 p8 p9 p10 p11 p12 p13 p14)
theorem h_spec_l2Parts_6 : l_spec_l2Parts_6 = fun m0 m1 p0 p1 p2 p3 p4 p5 p6 p7 p8 p9 p10 p11 p12 p13 p14 => L_spec_l2Parts_6 N P_spec_l2Without P_spec_l2Empty P_spec_l2Own P_spec_l2With P_spec_l2Near m0 m1 p0 p1 p2 p3 p4 p5 p6 p7 p8 p9 p10 p11 p12 p13 p14 := hid_eq _
noncomputable def l_spec_l2Parts_11 : Nat → Nat → Nat → Int → Int → Int → (List D_A3) → Int → Int → Int → (List D_A3) → Int → Int → Int → (List D_A3) → (List (List D_A3)) → (List D_A3) → Int → (List D_A3) → Int → Option (denL R_spec_l2Parts) := hid (fun m0 m1 m2 p0 p1 p2 p3 p4 p5 p6 p7 p8 p9 p10 p11 p12 p13 p14 p15 p16 => L_spec_l2Parts_11 N P_spec_l2Without P_spec_l2Empty P_spec_l2Own P_spec_l2With P_spec_l2Near m0 m1 m2 p0 p1 p2 p3 p4 p5 p6 p7 p8 p9 p10 p11 p12 p13 p14 p15 p16)
theorem h_spec_l2Parts_11 : l_spec_l2Parts_11 = fun m0 m1 m2 p0 p1 p2 p3 p4 p5 p6 p7 p8 p9 p10 p11 p12 p13 p14 p15 p16 => L_spec_l2Parts_11 N P_spec_l2Without P_spec_l2Empty P_spec_l2Own P_spec_l2With P_spec_l2Near m0 m1 m2 p0 p1 p2 p3 p4 p5 p6 p7 p8 p9 p10 p11 p12 p13 p14 p15 p16 := hid_eq _
theorem p_spec_l2Parts (a0 : D_Heap) : P_spec_l2Parts (a0, ()) = 
 Option.bind (P_spec_l2Own (a0, ())) fun r0 =>
 l_spec_l2Parts_2 N a0.1 a0.2.1 a0.2.2.1 a0.2.2.2.1 r0.1.1 r0.1.2.1 r0.1.2.2.1 r0.1.2.2.2.1 ([] : List (List D_A3)) := by
 rewrite [h_spec_l2Parts, h_spec_l2Parts_2]
 exact e_spec_l2Parts N P_spec_l2Without P_spec_l2Empty P_spec_l2Own P_spec_l2With P_spec_l2Near a0
theorem q_spec_l2Parts_2 (m0 : Nat) (p0 p1 p2 : Int) (p3 : List D_A3) (p4 p5 p6 : Int) (p7 : List D_A3) (p8 : List (List D_A3)) : l_spec_l2Parts_2 (m0 + 1) p0 p1 p2 p3 p4 p5 p6 p7 p8 = 
 bif decide ((List.length p7 : Int) > 0) then
 Option.bind (P_spec_l2Empty (p0, p1, p2, ())) fun r1 =>
 bif inB 0 (List.length p7) then
 bif inB 0 (List.length ([(nth T_A3 p7 0)] : List D_A3)) then
 Option.bind (P_spec_l2Without ((p4, (p5, (p6, (p7, ())))), (nth T_A3 ([(nth T_A3 p7 0)] : List D_A3) 0), ())) fun r4 =>
 l_spec_l2Parts_6 m0 N p0 p1 p2 p3 r4.1.1 r4.1.2.1 r4.1.2.2.1 r4.1.2.2.2.1 r1.1.1 r1.1.2.1 r1.1.2.2.1 r1.1.2.2.2.1 p8 ([(nth T_A3 p7 0)] : List D_A3) 0
 else none
 else none
 else
 some (p8, ()) := by
 rewrite [h_spec_l2Parts_2, h_spec_l2Parts_6]
 exact e_spec_l2Parts_2 N P_spec_l2Without P_spec_l2Empty P_spec_l2Own P_spec_l2With P_spec_l2Near m0 p0 p1 p2 p3 p4 p5 p6 p7 p8
theorem q_spec_l2Parts_6 (m0 m1 : Nat) (p0 p1 p2 : Int) (p3 : List D_A3) (p4 p5 p6 : Int) (p7 : List D_A3) (p8 p9 p10 : Int) (p11 : List D_A3) (p12 : List (List D_A3)) (p13 : List D_A3) (p14 : Int) : l_spec_l2Parts_6 m0 (m1 + 1) p0 p1 p2 p3 p4 p5 p6 p7 p8 p9 p10 p11 p12 p13 p14 = 
 bif decide (p14 < (List.length p13 : Int)) then
 bif inB p14 (List.length p13) then
 Option.bind (P_spec_l2With ((p8, (p9, (p10, (p11, ())))), (nth T_A3 p13 p14), ())) fun r2 =>
 bif inB p14 (List.length p13) then
 Option.bind (P_spec_l2Near ((p4, (p5, (p6, (p7, ())))), (nth T_A3 p13 p14), ())) fun r4 =>
 l_spec_l2Parts_11 m0 m1 N p0 p1 p2 p3 p4 p5 p6 p7 r2.1.1 r2.1.2.1 r2.1.2.2.1 r2.1.2.2.2.1 p12 p13 p14 r4.1 0
 else none
 else none
 else
 bif (decide (((List.length p12) + (List.length ([p11] : List (List D_A3)))) * 24 ≤ 140737488355328) && decide (((List.length p12) + (List.length ([p11] : List (List D_A3)))) ≤ 140737488355328)) then
 l_spec_l2Parts_2 m0 p0 p1 p2 p3 p4 p5 p6 p7 (p12 ++ ([p11] : List (List D_A3)))
 else none := by
 rewrite [h_spec_l2Parts_2, h_spec_l2Parts_6, h_spec_l2Parts_11]
 exact e_spec_l2Parts_6 N P_spec_l2Without P_spec_l2Empty P_spec_l2Own P_spec_l2With P_spec_l2Near m0 m1 p0 p1 p2 p3 p4 p5 p6 p7 p8 p9 p10 p11 p12 p13 p14
theorem q_spec_l2Parts_11 (m0 m1 m2 : Nat) (p0 p1 p2 : Int) (p3 : List D_A3) (p4 p5 p6 : Int) (p7 : List D_A3) (p8 p9 p10 : Int) (p11 : List D_A3) (p12 : List (List D_A3)) (p13 : List D_A3) (p14 : Int) (p15 : List D_A3) (p16 : Int) : l_spec_l2Parts_11 m0 m1 (m2 + 1) p0 p1 p2 p3 p4 p5 p6 p7 p8 p9 p10 p11 p12 p13 p14 p15 p16 = 
 bif decide (p16 < (List.length p15 : Int)) then
 bif inB p16 (List.length p15) then
 bif (decide (((List.length p13) + (List.length ([(nth T_A3 p15 p16)] : List D_A3))) * 24 ≤ 140737488355328) && decide (((List.length p13) + (List.length ([(nth T_A3 p15 p16)] : List D_A3))) ≤ 140737488355328)) then
 bif inB p16 (List.length p15) then
 Option.bind (P_spec_l2Without ((p4, (p5, (p6, (p7, ())))), (nth T_A3 p15 p16), ())) fun r4 =>
 l_spec_l2Parts_11 m0 m1 m2 p0 p1 p2 p3 r4.1.1 r4.1.2.1 r4.1.2.2.1 r4.1.2.2.2.1 p8 p9 p10 p11 p12 (p13 ++ ([(nth T_A3 p15 p16)] : List D_A3)) p14 p15 (IntKind.wrap .i64 (p16 + 1))
 else none
 else none
 else none
 else
 l_spec_l2Parts_6 m0 m1 p0 p1 p2 p3 p4 p5 p6 p7 p8 p9 p10 p11 p12 p13 (IntKind.wrap .i64 (p14 + 1)) := by
 rewrite [h_spec_l2Parts_6, h_spec_l2Parts_11]
 exact e_spec_l2Parts_11 N P_spec_l2Without P_spec_l2Empty P_spec_l2Own P_spec_l2With P_spec_l2Near m0 m1 m2 p0 p1 p2 p3 p4 p5 p6 p7 p8 p9 p10 p11 p12 p13 p14 p15 p16

abbrev As_spec_l7Parted : List ATy := [.data true T_Heap, .data false .bool]
abbrev R_spec_l7Parted : List (Bool × Ty) := [(false, (.sl T_A3))]
abbrev M_spec_l7Parted : List RMode := [.own 38]
abbrev Ft_spec_l7Parted : Type := D_Heap × Bool × Unit → Option ((List D_A3) × Unit)
noncomputable def X_spec_l7Parted (n : Nat) (F_spec_l2Empty : Ft_spec_l2Empty) (F_spec_l2With : Ft_spec_l2With) (F_spec_l2Parts : Ft_spec_l2Parts) : Ctx := { types := TT, globals := [], con := [(94, ⟨As_spec_l2Empty, R_spec_l2Empty, M_spec_l2Empty, F_spec_l2Empty⟩), (126, ⟨As_spec_l2With, R_spec_l2With, M_spec_l2With, F_spec_l2With⟩), (160, ⟨As_spec_l2Parts, R_spec_l2Parts, M_spec_l2Parts, F_spec_l2Parts⟩)], keep := [(3, ⟨[.box 6, .tmp 1, .tmp 5, .tmp 6, .tmp 7], []⟩), (7, ⟨[.box 6, .tmp 1, .tmp 5, .tmp 6, .tmp 7, .tmp 8, .tmp 9], []⟩), (11, ⟨[.box 6, .tmp 1, .tmp 5, .tmp 6, .tmp 7, .tmp 8, .tmp 10], []⟩)], results := [.tmp 4], ntmps := 72, n := n }
noncomputable def B_spec_l7Parted : Code := (Tryz.f152.body).getD .skip
noncomputable def L_spec_l7Parted_3 (n : Nat) (F_spec_l2Empty : Ft_spec_l2Empty) (F_spec_l2With : Ft_spec_l2With) (F_spec_l2Parts : Ft_spec_l2Parts) (m0 : Nat) (p0 p1 p2 : Int) (p3 : List D_A3) (p4 : Bool) (p5 : List (List D_A3)) (p6 : Int) : Option (denL R_spec_l7Parted) := loopF (X_spec_l7Parted n F_spec_l2Empty F_spec_l2With F_spec_l2Parts) B_spec_l7Parted R_spec_l7Parted M_spec_l7Parted 3 [m0] [(.ver, .num 1), (.box 6, .box 0 false [.int .i64 p0, .int .i64 p1, .int .i64 p2, .own 38 T_A3 0 p3]), (.tmp 1, .val false [.bool p4]), (.tmp 5, .val false [.own 24 (.sl T_A3) 0 p5]), (.tmp 6, .val false [.addr 6 0 0]), (.tmp 7, .val false [.int .i64 p6])]
noncomputable def L_spec_l7Parted_7 (n : Nat) (F_spec_l2Empty : Ft_spec_l2Empty) (F_spec_l2With : Ft_spec_l2With) (F_spec_l2Parts : Ft_spec_l2Parts) (m0 m1 : Nat) (p0 p1 p2 : Int) (p3 : List D_A3) (p4 : Bool) (p5 : List (List D_A3)) (p6 : Int) (p7 : Bool) (p8 : Int) : Option (denL R_spec_l7Parted) := loopF (X_spec_l7Parted n F_spec_l2Empty F_spec_l2With F_spec_l2Parts) B_spec_l7Parted R_spec_l7Parted M_spec_l7Parted 7 [m0, m1] [(.ver, .num 1), (.box 6, .box 0 false [.int .i64 p0, .int .i64 p1, .int .i64 p2, .own 38 T_A3 0 p3]), (.tmp 1, .val false [.bool p4]), (.tmp 5, .val false [.own 24 (.sl T_A3) 0 p5]), (.tmp 6, .val false [.addr 6 0 0]), (.tmp 7, .val false [.int .i64 p6]), (.tmp 8, .val false [.bool p7]), (.tmp 9, .val false [.int .i64 p8])]
noncomputable def L_spec_l7Parted_11 (n : Nat) (F_spec_l2Empty : Ft_spec_l2Empty) (F_spec_l2With : Ft_spec_l2With) (F_spec_l2Parts : Ft_spec_l2Parts) (m0 m1 : Nat) (p0 p1 p2 : Int) (p3 : List D_A3) (p4 : Bool) (p5 : List (List D_A3)) (p6 : Int) (p7 : Bool) (p8 : Int) : Option (denL R_spec_l7Parted) := loopF (X_spec_l7Parted n F_spec_l2Empty F_spec_l2With F_spec_l2Parts) B_spec_l7Parted R_spec_l7Parted M_spec_l7Parted 11 [m0, m1] [(.ver, .num 1), (.box 6, .box 0 false [.int .i64 p0, .int .i64 p1, .int .i64 p2, .own 38 T_A3 0 p3]), (.tmp 1, .val false [.bool p4]), (.tmp 5, .val false [.own 24 (.sl T_A3) 0 p5]), (.tmp 6, .val false [.addr 6 0 0]), (.tmp 7, .val false [.int .i64 p6]), (.tmp 8, .val false [.bool p7]), (.tmp 10, .val false [.int .i64 p8])]
theorem e_spec_l7Parted (n : Nat) (F_spec_l2Empty : Ft_spec_l2Empty) (F_spec_l2With : Ft_spec_l2With) (F_spec_l2Parts : Ft_spec_l2Parts) (a0 : D_Heap) (a1 : Bool) : runF (X_spec_l7Parted n F_spec_l2Empty F_spec_l2With F_spec_l2Parts) B_spec_l7Parted As_spec_l7Parted R_spec_l7Parted M_spec_l7Parted (a0, a1, ()) = 
 Option.bind (F_spec_l2Parts (a0, ())) fun r0 =>
 Option.bind (F_spec_l2Empty (a0.1, a0.2.1, a0.2.2.1, ())) fun r1 =>
 L_spec_l7Parted_3 n F_spec_l2Empty F_spec_l2With F_spec_l2Parts n r1.1.1 r1.1.2.1 r1.1.2.2.1 r1.1.2.2.2.1 a1 r0.1 0 := by kernel_rfl
theorem e_spec_l7Parted_3 (n : Nat) (F_spec_l2Empty : Ft_spec_l2Empty) (F_spec_l2With : Ft_spec_l2With) (F_spec_l2Parts : Ft_spec_l2Parts) (m0 : Nat) (p0 p1 p2 : Int) (p3 : List D_A3) (p4 : Bool) (p5 : List (List D_A3)) (p6 : Int) : L_spec_l7Parted_3 n F_spec_l2Empty F_spec_l2With F_spec_l2Parts (m0 + 1) p0 p1 p2 p3 p4 p5 p6 = 
 bif decide (p6 < (List.length p5 : Int)) then
 L_spec_l7Parted_7 n F_spec_l2Empty F_spec_l2With F_spec_l2Parts m0 n p0 p1 p2 p3 p4 p5 p6 false 0
 else
 some (p3, ()) := by kernel_rfl
theorem e_spec_l7Parted_7 (n : Nat) (F_spec_l2Empty : Ft_spec_l2Empty) (F_spec_l2With : Ft_spec_l2With) (F_spec_l2Parts : Ft_spec_l2Parts) (m0 m1 : Nat) (p0 p1 p2 : Int) (p3 : List D_A3) (p4 : Bool) (p5 : List (List D_A3)) (p6 : Int) (p7 : Bool) (p8 : Int) : L_spec_l7Parted_7 n F_spec_l2Empty F_spec_l2With F_spec_l2Parts m0 (m1 + 1) p0 p1 p2 p3 p4 p5 p6 p7 p8 = 
 bif inB p6 (List.length p5) then
 bif decide (p8 < (List.length (nth ((.sl T_A3) : Ty) p5 p6) : Int)) then
 bif p7 then
 L_spec_l7Parted_7 n F_spec_l2Empty F_spec_l2With F_spec_l2Parts m0 m1 p0 p1 p2 p3 p4 p5 p6 true (IntKind.wrap .i64 (p8 + 1))
 else
 bif inB p6 (List.length p5) then
 bif inB p8 (List.length (nth ((.sl T_A3) : Ty) p5 p6)) then
 L_spec_l7Parted_7 n F_spec_l2Empty F_spec_l2With F_spec_l2Parts m0 m1 p0 p1 p2 p3 p4 p5 p6 (decide (((((nth T_A3 (nth ((.sl T_A3) : Ty) p5 p6) p8)).2).2).1 = 0)) (IntKind.wrap .i64 (p8 + 1))
 else none
 else none
 else
 L_spec_l7Parted_11 n F_spec_l2Empty F_spec_l2With F_spec_l2Parts m0 n p0 p1 p2 p3 p4 p5 p6 p7 0
 else none := by kernel_rfl
theorem e_spec_l7Parted_11 (n : Nat) (F_spec_l2Empty : Ft_spec_l2Empty) (F_spec_l2With : Ft_spec_l2With) (F_spec_l2Parts : Ft_spec_l2Parts) (m0 m1 : Nat) (p0 p1 p2 : Int) (p3 : List D_A3) (p4 : Bool) (p5 : List (List D_A3)) (p6 : Int) (p7 : Bool) (p8 : Int) : L_spec_l7Parted_11 n F_spec_l2Empty F_spec_l2With F_spec_l2Parts m0 (m1 + 1) p0 p1 p2 p3 p4 p5 p6 p7 p8 = 
 bif inB p6 (List.length p5) then
 bif decide (p8 < (List.length (nth ((.sl T_A3) : Ty) p5 p6) : Int)) then
 bif !(p7 == p4) then
 bif inB p6 (List.length p5) then
 bif inB p8 (List.length (nth ((.sl T_A3) : Ty) p5 p6)) then
 Option.bind (F_spec_l2With ((p0, (p1, (p2, (p3, ())))), (nth T_A3 (nth ((.sl T_A3) : Ty) p5 p6) p8), ())) fun r5 =>
 L_spec_l7Parted_11 n F_spec_l2Empty F_spec_l2With F_spec_l2Parts m0 m1 r5.1.1 r5.1.2.1 r5.1.2.2.1 r5.1.2.2.2.1 p4 p5 p6 p7 (IntKind.wrap .i64 (p8 + 1))
 else none
 else none
 else
 L_spec_l7Parted_3 n F_spec_l2Empty F_spec_l2With F_spec_l2Parts m0 p0 p1 p2 p3 p4 p5 (IntKind.wrap .i64 (p6 + 1))
 else
 L_spec_l7Parted_3 n F_spec_l2Empty F_spec_l2With F_spec_l2Parts m0 p0 p1 p2 p3 p4 p5 (IntKind.wrap .i64 (p6 + 1))
 else none := by kernel_rfl
noncomputable def P_spec_l7Parted : Ft_spec_l7Parted := hid (runF (X_spec_l7Parted N P_spec_l2Empty P_spec_l2With P_spec_l2Parts) B_spec_l7Parted As_spec_l7Parted R_spec_l7Parted M_spec_l7Parted)
theorem h_spec_l7Parted : P_spec_l7Parted = runF (X_spec_l7Parted N P_spec_l2Empty P_spec_l2With P_spec_l2Parts) B_spec_l7Parted As_spec_l7Parted R_spec_l7Parted M_spec_l7Parted := hid_eq _
noncomputable def C_spec_l7Parted : Contract := ⟨As_spec_l7Parted, R_spec_l7Parted, M_spec_l7Parted, P_spec_l7Parted⟩
theorem s_spec_l7Parted : Sound Tryz.prog GG 152 C_spec_l7Parted := by
 unfold C_spec_l7Parted; rw [h_spec_l7Parted]
 exact sound_of_run (fn := Tryz.f152) hmix hstable (tyOK_of ttOK) (hglob (X_spec_l7Parted N P_spec_l2Empty P_spec_l2With P_spec_l2Parts)) (conOK_of (X := X_spec_l7Parted N P_spec_l2Empty P_spec_l2With P_spec_l2Parts) ⟨s_spec_l2Empty, s_spec_l2With, s_spec_l2Parts, trivial⟩) (mconOK_of (X := X_spec_l7Parted N P_spec_l2Empty P_spec_l2With P_spec_l2Parts) trivial) (by kernel_rfl) (by kernel_rfl) (by kernel_rfl) (by kernel_rfl) (by kernel_rfl) (of_decide_eq_true (by kernel_rfl))
noncomputable def l_spec_l7Parted_3 : Nat → Int → Int → Int → (List D_A3) → Bool → (List (List D_A3)) → Int → Option (denL R_spec_l7Parted) := hid (fun m0 p0 p1 p2 p3 p4 p5 p6 => L_spec_l7Parted_3 N P_spec_l2Empty P_spec_l2With P_spec_l2Parts m0 p0 p1 p2 p3 p4 p5 p6)
theorem h_spec_l7Parted_3 : l_spec_l7Parted_3 = fun m0 p0 p1 p2 p3 p4 p5 p6 => L_spec_l7Parted_3 N P_spec_l2Empty P_spec_l2With P_spec_l2Parts m0 p0 p1 p2 p3 p4 p5 p6 := hid_eq _
noncomputable def l_spec_l7Parted_7 : Nat → Nat → Int → Int → Int → (List D_A3) → Bool → (List (List D_A3)) → Int → Bool → Int → Option (denL R_spec_l7Parted) := hid (fun m0 m1 p0 p1 p2 p3 p4 p5 p6 p7 p8 => L_spec_l7Parted_7 N P_spec_l2Empty P_spec_l2With P_spec_l2Parts m0 m1 p0 p1 p2 p3 p4 p5 p6 p7 p8)
theorem h_spec_l7Parted_7 : l_spec_l7Parted_7 = fun m0 m1 p0 p1 p2 p3 p4 p5 p6 p7 p8 => L_spec_l7Parted_7 N P_spec_l2Empty P_spec_l2With P_spec_l2Parts m0 m1 p0 p1 p2 p3 p4 p5 p6 p7 p8 := hid_eq _
noncomputable def l_spec_l7Parted_11 : Nat → Nat → Int → Int → Int → (List D_A3) → Bool → (List (List D_A3)) → Int → Bool → Int → Option (denL R_spec_l7Parted) := hid (fun m0 m1 p0 p1 p2 p3 p4 p5 p6 p7 p8 => L_spec_l7Parted_11 N P_spec_l2Empty P_spec_l2With P_spec_l2Parts m0 m1 p0 p1 p2 p3 p4 p5 p6 p7 p8)
theorem h_spec_l7Parted_11 : l_spec_l7Parted_11 = fun m0 m1 p0 p1 p2 p3 p4 p5 p6 p7 p8 => L_spec_l7Parted_11 N P_spec_l2Empty P_spec_l2With P_spec_l2Parts m0 m1 p0 p1 p2 p3 p4 p5 p6 p7 p8 := hid_eq _
theorem p_spec_l7Parted (a0 : D_Heap) (a1 : Bool) : P_spec_l7Parted (a0, a1, ()) = 
 Option.bind (P_spec_l2Parts (a0, ())) fun r0 =>
 Option.bind (P_spec_l2Empty (a0.1, a0.2.1, a0.2.2.1, ())) fun r1 =>
 l_spec_l7Parted_3 N r1.1.1 r1.1.2.1 r1.1.2.2.1 r1.1.2.2.2.1 a1 r0.1 0 := by
 rewrite [h_spec_l7Parted, h_spec_l7Parted_3]
 exact e_spec_l7Parted N P_spec_l2Empty P_spec_l2With P_spec_l2Parts a0 a1
theorem q_spec_l7Parted_3 (m0 : Nat) (p0 p1 p2 : Int) (p3 : List D_A3) (p4 : Bool) (p5 : List (List D_A3)) (p6 : Int) : l_spec_l7Parted_3 (m0 + 1) p0 p1 p2 p3 p4 p5 p6 = 
 bif decide (p6 < (List.length p5 : Int)) then
 l_spec_l7Parted_7 m0 N p0 p1 p2 p3 p4 p5 p6 false 0
 else
 some (p3, ()) := by
 rewrite [h_spec_l7Parted_3, h_spec_l7Parted_7]
 exact e_spec_l7Parted_3 N P_spec_l2Empty P_spec_l2With P_spec_l2Parts m0 p0 p1 p2 p3 p4 p5 p6
theorem q_spec_l7Parted_7 (m0 m1 : Nat) (p0 p1 p2 : Int) (p3 : List D_A3) (p4 : Bool) (p5 : List (List D_A3)) (p6 : Int) (p7 : Bool) (p8 : Int) : l_spec_l7Parted_7 m0 (m1 + 1) p0 p1 p2 p3 p4 p5 p6 p7 p8 = 
 bif inB p6 (List.length p5) then
 bif decide (p8 < (List.length (nth ((.sl T_A3) : Ty) p5 p6) : Int)) then
 bif p7 then
 l_spec_l7Parted_7 m0 m1 p0 p1 p2 p3 p4 p5 p6 true (IntKind.wrap .i64 (p8 + 1))
 else
 bif inB p6 (List.length p5) then
 bif inB p8 (List.length (nth ((.sl T_A3) : Ty) p5 p6)) then
 l_spec_l7Parted_7 m0 m1 p0 p1 p2 p3 p4 p5 p6 (decide (((((nth T_A3 (nth ((.sl T_A3) : Ty) p5 p6) p8)).2).2).1 = 0)) (IntKind.wrap .i64 (p8 + 1))
 else none
 else none
 else
 l_spec_l7Parted_11 m0 N p0 p1 p2 p3 p4 p5 p6 p7 0
 else none := by
 rewrite [h_spec_l7Parted_7, h_spec_l7Parted_11]
 exact e_spec_l7Parted_7 N P_spec_l2Empty P_spec_l2With P_spec_l2Parts m0 m1 p0 p1 p2 p3 p4 p5 p6 p7 p8
theorem q_spec_l7Parted_11 (m0 m1 : Nat) (p0 p1 p2 : Int) (p3 : List D_A3) (p4 : Bool) (p5 : List (List D_A3)) (p6 : Int) (p7 : Bool) (p8 : Int) : l_spec_l7Parted_11 m0 (m1 + 1) p0 p1 p2 p3 p4 p5 p6 p7 p8 = 
 bif inB p6 (List.length p5) then
 bif decide (p8 < (List.length (nth ((.sl T_A3) : Ty) p5 p6) : Int)) then
 bif !(p7 == p4) then
 bif inB p6 (List.length p5) then
 bif inB p8 (List.length (nth ((.sl T_A3) : Ty) p5 p6)) then
 Option.bind (P_spec_l2With ((p0, (p1, (p2, (p3, ())))), (nth T_A3 (nth ((.sl T_A3) : Ty) p5 p6) p8), ())) fun r5 =>
 l_spec_l7Parted_11 m0 m1 r5.1.1 r5.1.2.1 r5.1.2.2.1 r5.1.2.2.2.1 p4 p5 p6 p7 (IntKind.wrap .i64 (p8 + 1))
 else none
 else none
 else
 l_spec_l7Parted_3 m0 p0 p1 p2 p3 p4 p5 (IntKind.wrap .i64 (p6 + 1))
 else
 l_spec_l7Parted_3 m0 p0 p1 p2 p3 p4 p5 (IntKind.wrap .i64 (p6 + 1))
 else none := by
 rewrite [h_spec_l7Parted_3, h_spec_l7Parted_11]
 exact e_spec_l7Parted_11 N P_spec_l2Empty P_spec_l2With P_spec_l2Parts m0 m1 p0 p1 p2 p3 p4 p5 p6 p7 p8
end Go.VI
