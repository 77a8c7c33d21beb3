/- What the functions of the seat compute, as printed by wip/tools. -/
import Derived.Test.YtaopponjedombaaViGen
import Derived.Test.YtaopponjedombaaProg
noncomputable section
namespace Go.VI
open Go.Proofs
set_option maxRecDepth 100000
def n0 : Nat := 0
def GG : World → Prop := fun _ => True
theorem hstable : Stable n0 GG := stable_true
theorem hmix : Try.prog.follows .mixedOrders = true := by kernel_rfl
theorem hglob (X : Ctx) (h : X.globals = [] := by rfl) (A : Fix) (_ : A.P = Try.prog) (_ : A.G = GG) : GlobOK A X := globOK_none h A
abbrev T_A2 : Ty := (.pair (.int .i64) (.pair (.int .i64) .unit))
abbrev D_A2 : Type := Int × Int × Unit
abbrev T_A3 : Ty := (.pair (.int .i64) (.pair (.int .i64) (.pair (.int .i64) .unit)))
abbrev D_A3 : Type := Int × Int × Int × Unit
abbrev T_Heap : Ty := (.pair (.int .i64) (.pair (.int .i64) (.pair (.int .i64) (.pair (.sl T_A3) .unit))))
abbrev D_Heap : Type := Int × Int × Int × (List D_A3) × Unit
abbrev T_l1Cur : Ty := (.pair (.sl (.int .u8)) (.pair (.int .i64) (.pair (.int .u64) .unit)))
abbrev D_l1Cur : Type := (List Int) × Int × Int × Unit
abbrev T_A4 : Ty := (.pair (.int .i64) (.pair (.int .i64) (.pair (.int .i64) (.pair (.int .i64) .unit))))
abbrev D_A4 : Type := Int × Int × Int × Int × Unit
abbrev T_A5 : Ty := (.pair (.int .i64) (.pair (.int .i64) (.pair (.int .i64) (.pair (.int .i64) (.pair (.int .i64) .unit)))))
abbrev D_A5 : Type := Int × Int × Int × Int × Int × Unit
abbrev T_A6 : Ty := (.pair (.int .i64) (.pair (.int .i64) (.pair (.int .i64) (.pair (.int .i64) (.pair (.int .i64) (.pair (.int .i64) .unit))))))
abbrev D_A6 : Type := Int × Int × Int × Int × Int × Int × Unit
def TT : List (TypeId × TI) := [(3, ⟨Try.t3.desc, (.int .i64), false, 8, [.int .i64 0]⟩),
 (4, ⟨Try.t4.desc, .bool, false, 1, [.bool false]⟩),
 (5, ⟨Try.t5.desc, (.int .u8), false, 1, [.int .u8 0]⟩),
 (22, ⟨Try.t22.desc, (.sl (.int .u8)), false, 24, [.nil 5 (.int .u8)]⟩),
 (24, ⟨Try.t24.desc, (.sl T_A3), false, 24, [.nil 49 T_A3]⟩),
 (26, ⟨Try.t25.desc, T_Heap, true, 48, [.int .i64 0, .int .i64 0, .int .i64 0, .nil 49 T_A3]⟩),
 (34, ⟨Try.t34.desc, (.sl T_A2), false, 24, [.nil 50 T_A2]⟩),
 (37, ⟨Try.t37.desc, (.sl (.sl T_A3)), false, 24, [.nil 24 (.sl T_A3)]⟩),
 (49, ⟨Try.t49.desc, T_A3, true, 24, [.int .i64 0, .int .i64 0, .int .i64 0]⟩),
 (50, ⟨Try.t50.desc, T_A2, true, 16, [.int .i64 0, .int .i64 0]⟩),
 (52, ⟨Try.t52.desc, (.int .u64), false, 8, [.int .u64 0]⟩),
 (54, ⟨Try.t53.desc, T_l1Cur, true, 40, [.nil 5 (.int .u8), .int .i64 0, .int .u64 0]⟩),
 (59, ⟨Try.t49.desc, T_A3, true, 24, [.int .i64 0, .int .i64 0, .int .i64 0]⟩),
 (61, ⟨Try.t52.desc, (.int .u64), false, 8, [.int .u64 0]⟩),
 (71, ⟨Try.t71.desc, (.sl (.int .i64)), false, 24, [.nil 3 (.int .i64)]⟩),
 (85, ⟨Try.t85.desc, (.sl (.int .u64)), false, 24, [.nil 61 (.int .u64)]⟩),
 (87, ⟨Try.t87.desc, T_A6, true, 48, [.int .i64 0, .int .i64 0, .int .i64 0, .int .i64 0, .int .i64 0, .int .i64 0]⟩)]
theorem ttOK : allP (fun q => tiB Try.prog q.1 q.2) TT :=
 ⟨⟨by kernel_rfl, by kernel_rfl, by kernel_rfl, by kernel_rfl, by kernel_rfl⟩, ⟨by kernel_rfl, by kernel_rfl, by kernel_rfl, by kernel_rfl, by kernel_rfl⟩, ⟨by kernel_rfl, by kernel_rfl, by kernel_rfl, by kernel_rfl, by kernel_rfl⟩, ⟨by kernel_rfl, by kernel_rfl, by kernel_rfl, by kernel_rfl, by kernel_rfl⟩, ⟨by kernel_rfl, by kernel_rfl, by kernel_rfl, by kernel_rfl, by kernel_rfl⟩, ⟨by kernel_rfl, by kernel_rfl, by kernel_rfl, by kernel_rfl, by kernel_rfl⟩, ⟨by kernel_rfl, by kernel_rfl, by kernel_rfl, by kernel_rfl, by kernel_rfl⟩, ⟨by kernel_rfl, by kernel_rfl, by kernel_rfl, by kernel_rfl, by kernel_rfl⟩, ⟨by kernel_rfl, by kernel_rfl, by kernel_rfl, by kernel_rfl, by kernel_rfl⟩, ⟨by kernel_rfl, by kernel_rfl, by kernel_rfl, by kernel_rfl, by kernel_rfl⟩, ⟨by kernel_rfl, by kernel_rfl, by kernel_rfl, by kernel_rfl, by kernel_rfl⟩, ⟨by kernel_rfl, by kernel_rfl, by kernel_rfl, by kernel_rfl, by kernel_rfl⟩, ⟨by kernel_rfl, by kernel_rfl, by kernel_rfl, by kernel_rfl, by kernel_rfl⟩, ⟨by kernel_rfl, by kernel_rfl, by kernel_rfl, by kernel_rfl, by kernel_rfl⟩, ⟨by kernel_rfl, by kernel_rfl, by kernel_rfl, by kernel_rfl, by kernel_rfl⟩, ⟨by kernel_rfl, by kernel_rfl, by kernel_rfl, by kernel_rfl, by kernel_rfl⟩, ⟨by kernel_rfl, by kernel_rfl, by kernel_rfl, by kernel_rfl, by kernel_rfl⟩, trivial⟩

abbrev As_laws_rBig : List ATy := [.data false (.sl (.int .u8))]
abbrev R_laws_rBig : List (Bool × Ty) := [(false, .bool)]
abbrev M_laws_rBig : List RMode := []
abbrev Ft_laws_rBig : Type := (List Int) × Unit → Option (Bool × Unit)
def X_laws_rBig (n : Nat) : Ctx := { types := TT, globals := [], con := [], keep := [], results := [.tmp 2], ntmps := 6, n := n }
def B_laws_rBig : Code := (Try.f4.body).getD .skip
theorem e_laws_rBig (n : Nat) (a0 : List Int) : runF (X_laws_rBig n) B_laws_rBig As_laws_rBig R_laws_rBig M_laws_rBig (a0, ()) = 
 some (decide ((List.length a0 : Int) > 65536), ()) := by kernel_rfl
def P_laws_rBig : Ft_laws_rBig := hid (runF (X_laws_rBig N) B_laws_rBig As_laws_rBig R_laws_rBig M_laws_rBig)
theorem h_laws_rBig : P_laws_rBig = runF (X_laws_rBig N) B_laws_rBig As_laws_rBig R_laws_rBig M_laws_rBig := hid_eq _
def C_laws_rBig : Contract := ⟨As_laws_rBig, R_laws_rBig, M_laws_rBig, P_laws_rBig⟩
theorem s_laws_rBig : Sound Try.prog GG 4 C_laws_rBig := by
 unfold C_laws_rBig; rw [h_laws_rBig]
 exact sound_of_run (fn := Try.f4) hmix hstable (tyOK_of ttOK) (hglob _) (conOK_of trivial) (mconOK_of trivial) (by kernel_rfl) (by kernel_rfl) (by kernel_rfl) (by kernel_rfl) (by kernel_rfl) (of_decide_eq_true (by kernel_rfl))
theorem p_laws_rBig (a0 : List Int) : P_laws_rBig (a0, ()) = 
 some (decide ((List.length a0 : Int) > 65536), ()) := by
 rewrite [h_laws_rBig]
 exact e_laws_rBig N a0

abbrev As_spec_l2Long : List ATy := [.data true T_Heap, .data false (.int .i64)]
abbrev R_spec_l2Long : List (Bool × Ty) := [(false, (.int .i64))]
abbrev M_spec_l2Long : List RMode := []
abbrev Ft_spec_l2Long : Type := D_Heap × Int × Unit → Option (Int × Unit)
def X_spec_l2Long (n : Nat) : Ctx := { types := TT, globals := [], con := [], keep := [], results := [.tmp 4], ntmps := 14, n := n }
def B_spec_l2Long : Code := (Try.f32.body).getD .skip
theorem e_spec_l2Long (n : Nat) (a0 : D_Heap) (a1 : Int) : runF (X_spec_l2Long n) B_spec_l2Long As_spec_l2Long R_spec_l2Long M_spec_l2Long (a0, a1, ()) = 
 bif inB a1 3 then
 some ((bif decide (a1 = (0 : Int)) then a0.1 else (bif decide (a1 = (1 : Int)) then a0.2.1 else a0.2.2.1)), ())
 else none := by kernel_rfl
def P_spec_l2Long : Ft_spec_l2Long := hid (runF (X_spec_l2Long N) B_spec_l2Long As_spec_l2Long R_spec_l2Long M_spec_l2Long)
theorem h_spec_l2Long : P_spec_l2Long = runF (X_spec_l2Long N) B_spec_l2Long As_spec_l2Long R_spec_l2Long M_spec_l2Long := hid_eq _
def C_spec_l2Long : Contract := ⟨As_spec_l2Long, R_spec_l2Long, M_spec_l2Long, P_spec_l2Long⟩
theorem s_spec_l2Long : Sound Try.prog GG 32 C_spec_l2Long := by
 unfold C_spec_l2Long; rw [h_spec_l2Long]
 exact sound_of_run (fn := Try.f32) hmix hstable (tyOK_of ttOK) (hglob _) (conOK_of trivial) (mconOK_of trivial) (by kernel_rfl) (by kernel_rfl) (by kernel_rfl) (by kernel_rfl) (by kernel_rfl) (of_decide_eq_true (by kernel_rfl))
theorem p_spec_l2Long (a0 : D_Heap) (a1 : Int) : P_spec_l2Long (a0, a1, ()) = 
 bif inB a1 3 then
 some ((bif decide (a1 = (0 : Int)) then a0.1 else (bif decide (a1 = (1 : Int)) then a0.2.1 else a0.2.2.1)), ())
 else none := by
 rewrite [h_spec_l2Long]
 exact e_spec_l2Long N a0 a1

abbrev As_l1Cur_next : List ATy := [.lptr T_l1Cur]
abbrev R_l1Cur_next : List (Bool × Ty) := [(false, (.int .i64))]
abbrev M_l1Cur_next : List RMode := []
abbrev Ft_l1Cur_next : Type := D_l1Cur × Unit → Option ((Int × Unit) × (D_l1Cur × Unit))
def X_l1Cur_next (n : Nat) : Ctx := { types := TT, globals := [], con := [], keep := [], results := [.tmp 2], ntmps := 62, n := n }
def B_l1Cur_next : Code := (Try.f84.body).getD .skip
theorem e_l1Cur_next (n : Nat) (a0 : D_l1Cur) : runFM (X_l1Cur_next n) B_l1Cur_next As_l1Cur_next R_l1Cur_next M_l1Cur_next (a0, ()) = 
 bif decide (a0.2.1 < (List.length a0.1 : Int)) then
 bif inB a0.2.1 (List.length a0.1) then
 bif decide ((IntKind.wrap .i64 (a0.2.1 + 1)) ≤ (List.length a0.1 : Int)) then
 some (((IntKind.wrap .i64 (nth ((.int .u8) : Ty) a0.1 a0.2.1)), ()), ((a0.1, ((IntKind.wrap .i64 (a0.2.1 + 1)), ((IntKind.wrap .u64 ((IntKind.wrap .u64 ((IntKind.wrap .u64 (a0.2.2.1 * 6364136223846793005)) + (IntKind.wrap .u64 (IntKind.wrap .i64 (nth ((.int .u8) : Ty) a0.1 a0.2.1))))) + 462197)), ()))), ()))
 else
 some (((IntKind.wrap .i64 (intBits .and .u64 (shrI .u64 (IntKind.wrap .u64 ((IntKind.wrap .u64 ((IntKind.wrap .u64 (a0.2.2.1 * 6364136223846793005)) + (IntKind.wrap .u64 (IntKind.wrap .i64 (nth ((.int .u8) : Ty) a0.1 a0.2.1))))) + 462197)) 40) 255)), ()), ((a0.1, ((IntKind.wrap .i64 (a0.2.1 + 1)), ((IntKind.wrap .u64 ((IntKind.wrap .u64 ((IntKind.wrap .u64 (a0.2.2.1 * 6364136223846793005)) + (IntKind.wrap .u64 (IntKind.wrap .i64 (nth ((.int .u8) : Ty) a0.1 a0.2.1))))) + 462197)), ()))), ()))
 else none
 else
 bif decide ((IntKind.wrap .i64 (a0.2.1 + 1)) ≤ (List.length a0.1 : Int)) then
 some ((0, ()), ((a0.1, ((IntKind.wrap .i64 (a0.2.1 + 1)), ((IntKind.wrap .u64 ((IntKind.wrap .u64 ((IntKind.wrap .u64 (a0.2.2.1 * 6364136223846793005)) + 0)) + 462197)), ()))), ()))
 else
 some (((IntKind.wrap .i64 (intBits .and .u64 (shrI .u64 (IntKind.wrap .u64 ((IntKind.wrap .u64 ((IntKind.wrap .u64 (a0.2.2.1 * 6364136223846793005)) + 0)) + 462197)) 40) 255)), ()), ((a0.1, ((IntKind.wrap .i64 (a0.2.1 + 1)), ((IntKind.wrap .u64 ((IntKind.wrap .u64 ((IntKind.wrap .u64 (a0.2.2.1 * 6364136223846793005)) + 0)) + 462197)), ()))), ())) := by kernel_rfl
def P_l1Cur_next : Ft_l1Cur_next := hid (runFM (X_l1Cur_next N) B_l1Cur_next As_l1Cur_next R_l1Cur_next M_l1Cur_next)
theorem h_l1Cur_next : P_l1Cur_next = runFM (X_l1Cur_next N) B_l1Cur_next As_l1Cur_next R_l1Cur_next M_l1Cur_next := hid_eq _
def C_l1Cur_next : MContract := ⟨As_l1Cur_next, R_l1Cur_next, M_l1Cur_next, P_l1Cur_next⟩
theorem s_l1Cur_next : SoundM Try.prog n0 GG 84 C_l1Cur_next := by
 unfold C_l1Cur_next; rw [h_l1Cur_next]
 exact sound_of_runM (fn := Try.f84) hmix hstable (tyOK_of ttOK) (hglob _) (conOK_of trivial) (mconOK_of trivial) (by kernel_rfl) (by kernel_rfl) (by kernel_rfl) (by kernel_rfl) (by kernel_rfl) (of_decide_eq_true (by kernel_rfl)) (by kernel_rfl) (by rfl)
theorem p_l1Cur_next (a0 : D_l1Cur) : P_l1Cur_next (a0, ()) = 
 bif decide (a0.2.1 < (List.length a0.1 : Int)) then
 bif inB a0.2.1 (List.length a0.1) then
 bif decide ((IntKind.wrap .i64 (a0.2.1 + 1)) ≤ (List.length a0.1 : Int)) then
 some (((IntKind.wrap .i64 (nth ((.int .u8) : Ty) a0.1 a0.2.1)), ()), ((a0.1, ((IntKind.wrap .i64 (a0.2.1 + 1)), ((IntKind.wrap .u64 ((IntKind.wrap .u64 ((IntKind.wrap .u64 (a0.2.2.1 * 6364136223846793005)) + (IntKind.wrap .u64 (IntKind.wrap .i64 (nth ((.int .u8) : Ty) a0.1 a0.2.1))))) + 462197)), ()))), ()))
 else
 some (((IntKind.wrap .i64 (intBits .and .u64 (shrI .u64 (IntKind.wrap .u64 ((IntKind.wrap .u64 ((IntKind.wrap .u64 (a0.2.2.1 * 6364136223846793005)) + (IntKind.wrap .u64 (IntKind.wrap .i64 (nth ((.int .u8) : Ty) a0.1 a0.2.1))))) + 462197)) 40) 255)), ()), ((a0.1, ((IntKind.wrap .i64 (a0.2.1 + 1)), ((IntKind.wrap .u64 ((IntKind.wrap .u64 ((IntKind.wrap .u64 (a0.2.2.1 * 6364136223846793005)) + (IntKind.wrap .u64 (IntKind.wrap .i64 (nth ((.int .u8) : Ty) a0.1 a0.2.1))))) + 462197)), ()))), ()))
 else none
 else
 bif decide ((IntKind.wrap .i64 (a0.2.1 + 1)) ≤ (List.length a0.1 : Int)) then
 some ((0, ()), ((a0.1, ((IntKind.wrap .i64 (a0.2.1 + 1)), ((IntKind.wrap .u64 ((IntKind.wrap .u64 ((IntKind.wrap .u64 (a0.2.2.1 * 6364136223846793005)) + 0)) + 462197)), ()))), ()))
 else
 some (((IntKind.wrap .i64 (intBits .and .u64 (shrI .u64 (IntKind.wrap .u64 ((IntKind.wrap .u64 ((IntKind.wrap .u64 (a0.2.2.1 * 6364136223846793005)) + 0)) + 462197)) 40) 255)), ()), ((a0.1, ((IntKind.wrap .i64 (a0.2.1 + 1)), ((IntKind.wrap .u64 ((IntKind.wrap .u64 ((IntKind.wrap .u64 (a0.2.2.1 * 6364136223846793005)) + 0)) + 462197)), ()))), ())) := by
 rewrite [h_l1Cur_next]
 exact e_l1Cur_next N a0

abbrev As_l1Cur_pick : List ATy := [.lptr T_l1Cur, .data false (.int .i64)]
abbrev R_l1Cur_pick : List (Bool × Ty) := [(false, (.int .i64))]
abbrev M_l1Cur_pick : List RMode := []
abbrev Ft_l1Cur_pick : Type := D_l1Cur × Int × Unit → Option ((Int × Unit) × (D_l1Cur × Unit))
def X_l1Cur_pick (n : Nat) (F_l1Cur_next : Ft_l1Cur_next) : Ctx := { types := TT, globals := [], con := [], mcon := [(84, ⟨As_l1Cur_next, R_l1Cur_next, M_l1Cur_next, F_l1Cur_next⟩)], keep := [], results := [.tmp 4], ntmps := 20, n := n }
def B_l1Cur_pick : Code := (Try.f57.body).getD .skip
theorem e_l1Cur_pick (n : Nat) (F_l1Cur_next : Ft_l1Cur_next) (a0 : D_l1Cur) (a1 : Int) : runFM (X_l1Cur_pick n F_l1Cur_next) B_l1Cur_pick As_l1Cur_pick R_l1Cur_pick M_l1Cur_pick (a0, a1, ()) = 
 bif decide (a1 ≤ 1) then
 some ((0, ()), (a0, ()))
 else
 Option.bind (F_l1Cur_next (a0, ())) fun r1 =>
 bif decide (a1 > 200) then
 Option.bind (F_l1Cur_next ((a0.1, r1.2.1.2), ())) fun r3 =>
 bif !decide (a1 = 0) then
 some (((Int.tmod (IntKind.wrap .i64 ((IntKind.wrap .i64 (r1.1.1 * 256)) + r3.1.1)) a1), ()), ((a0.1, r3.2.1.2), ()))
 else none
 else
 bif !decide (a1 = 0) then
 some (((Int.tmod r1.1.1 a1), ()), ((a0.1, r1.2.1.2), ()))
 else none := by kernel_rfl
def P_l1Cur_pick : Ft_l1Cur_pick := hid (runFM (X_l1Cur_pick N P_l1Cur_next) B_l1Cur_pick As_l1Cur_pick R_l1Cur_pick M_l1Cur_pick)
theorem h_l1Cur_pick : P_l1Cur_pick = runFM (X_l1Cur_pick N P_l1Cur_next) B_l1Cur_pick As_l1Cur_pick R_l1Cur_pick M_l1Cur_pick := hid_eq _
def C_l1Cur_pick : MContract := ⟨As_l1Cur_pick, R_l1Cur_pick, M_l1Cur_pick, P_l1Cur_pick⟩
theorem s_l1Cur_pick : SoundM Try.prog n0 GG 57 C_l1Cur_pick := by
 unfold C_l1Cur_pick; rw [h_l1Cur_pick]
 exact sound_of_runM (fn := Try.f57) hmix hstable (tyOK_of ttOK) (hglob _) (conOK_of trivial) (mconOK_of ⟨s_l1Cur_next, trivial⟩) (by kernel_rfl) (by kernel_rfl) (by kernel_rfl) (by kernel_rfl) (by kernel_rfl) (of_decide_eq_true (by kernel_rfl)) (by kernel_rfl) (by rfl)
theorem p_l1Cur_pick (a0 : D_l1Cur) (a1 : Int) : P_l1Cur_pick (a0, a1, ()) = 
 bif decide (a1 ≤ 1) then
 some ((0, ()), (a0, ()))
 else
 Option.bind (P_l1Cur_next (a0, ())) fun r1 =>
 bif decide (a1 > 200) then
 Option.bind (P_l1Cur_next ((a0.1, r1.2.1.2), ())) fun r3 =>
 bif !decide (a1 = 0) then
 some (((Int.tmod (IntKind.wrap .i64 ((IntKind.wrap .i64 (r1.1.1 * 256)) + r3.1.1)) a1), ()), ((a0.1, r3.2.1.2), ()))
 else none
 else
 bif !decide (a1 = 0) then
 some (((Int.tmod r1.1.1 a1), ()), ((a0.1, r1.2.1.2), ()))
 else none := by
 rewrite [h_l1Cur_pick]
 exact e_l1Cur_pick N P_l1Cur_next a0 a1

abbrev As_l1Cur_among : List ATy := [.lptr T_l1Cur, .data false (.sl (.int .i64))]
abbrev R_l1Cur_among : List (Bool × Ty) := [(false, (.int .i64))]
abbrev M_l1Cur_among : List RMode := []
abbrev Ft_l1Cur_among : Type := D_l1Cur × (List Int) × Unit → Option ((Int × Unit) × (D_l1Cur × Unit))
def X_l1Cur_among (n : Nat) (F_l1Cur_pick : Ft_l1Cur_pick) : Ctx := { types := TT, globals := [], con := [], mcon := [(57, ⟨As_l1Cur_pick, R_l1Cur_pick, M_l1Cur_pick, F_l1Cur_pick⟩)], keep := [], results := [.tmp 4], ntmps := 12, n := n }
def B_l1Cur_among : Code := (Try.f36.body).getD .skip
theorem e_l1Cur_among (n : Nat) (F_l1Cur_pick : Ft_l1Cur_pick) (a0 : D_l1Cur) (a1 : List Int) : runFM (X_l1Cur_among n F_l1Cur_pick) B_l1Cur_among As_l1Cur_among R_l1Cur_among M_l1Cur_among (a0, a1, ()) = 
 Option.bind (F_l1Cur_pick (a0, (List.length a1 : Int), ())) fun r0 =>
 bif inB r0.1.1 (List.length a1) then
 some (((nth ((.int .i64) : Ty) a1 r0.1.1), ()), ((a0.1, r0.2.1.2), ()))
 else none := by kernel_rfl
def P_l1Cur_among : Ft_l1Cur_among := hid (runFM (X_l1Cur_among N P_l1Cur_pick) B_l1Cur_among As_l1Cur_among R_l1Cur_among M_l1Cur_among)
theorem h_l1Cur_among : P_l1Cur_among = runFM (X_l1Cur_among N P_l1Cur_pick) B_l1Cur_among As_l1Cur_among R_l1Cur_among M_l1Cur_among := hid_eq _
def C_l1Cur_among : MContract := ⟨As_l1Cur_among, R_l1Cur_among, M_l1Cur_among, P_l1Cur_among⟩
theorem s_l1Cur_among : SoundM Try.prog n0 GG 36 C_l1Cur_among := by
 unfold C_l1Cur_among; rw [h_l1Cur_among]
 exact sound_of_runM (fn := Try.f36) hmix hstable (tyOK_of ttOK) (hglob _) (conOK_of trivial) (mconOK_of ⟨s_l1Cur_pick, trivial⟩) (by kernel_rfl) (by kernel_rfl) (by kernel_rfl) (by kernel_rfl) (by kernel_rfl) (of_decide_eq_true (by kernel_rfl)) (by kernel_rfl) (by rfl)
theorem p_l1Cur_among (a0 : D_l1Cur) (a1 : List Int) : P_l1Cur_among (a0, a1, ()) = 
 Option.bind (P_l1Cur_pick (a0, (List.length a1 : Int), ())) fun r0 =>
 bif inB r0.1.1 (List.length a1) then
 some (((nth ((.int .i64) : Ty) a1 r0.1.1), ()), ((a0.1, r0.2.1.2), ()))
 else none := by
 rewrite [h_l1Cur_among]
 exact e_l1Cur_among N P_l1Cur_pick a0 a1

abbrev As_l1Cur_one : List ATy := [.lptr T_l1Cur, .data false (.int .i64)]
abbrev R_l1Cur_one : List (Bool × Ty) := [(false, .bool)]
abbrev M_l1Cur_one : List RMode := []
abbrev Ft_l1Cur_one : Type := D_l1Cur × Int × Unit → Option ((Bool × Unit) × (D_l1Cur × Unit))
def X_l1Cur_one (n : Nat) (F_l1Cur_pick : Ft_l1Cur_pick) : Ctx := { types := TT, globals := [], con := [], mcon := [(57, ⟨As_l1Cur_pick, R_l1Cur_pick, M_l1Cur_pick, F_l1Cur_pick⟩)], keep := [], results := [.tmp 4], ntmps := 9, n := n }
def B_l1Cur_one : Code := (Try.f44.body).getD .skip
theorem e_l1Cur_one (n : Nat) (F_l1Cur_pick : Ft_l1Cur_pick) (a0 : D_l1Cur) (a1 : Int) : runFM (X_l1Cur_one n F_l1Cur_pick) B_l1Cur_one As_l1Cur_one R_l1Cur_one M_l1Cur_one (a0, a1, ()) = 
 Option.bind (F_l1Cur_pick (a0, a1, ())) fun r0 =>
 some ((decide (r0.1.1 = 0), ()), ((a0.1, r0.2.1.2), ())) := by kernel_rfl
def P_l1Cur_one : Ft_l1Cur_one := hid (runFM (X_l1Cur_one N P_l1Cur_pick) B_l1Cur_one As_l1Cur_one R_l1Cur_one M_l1Cur_one)
theorem h_l1Cur_one : P_l1Cur_one = runFM (X_l1Cur_one N P_l1Cur_pick) B_l1Cur_one As_l1Cur_one R_l1Cur_one M_l1Cur_one := hid_eq _
def C_l1Cur_one : MContract := ⟨As_l1Cur_one, R_l1Cur_one, M_l1Cur_one, P_l1Cur_one⟩
theorem s_l1Cur_one : SoundM Try.prog n0 GG 44 C_l1Cur_one := by
 unfold C_l1Cur_one; rw [h_l1Cur_one]
 exact sound_of_runM (fn := Try.f44) hmix hstable (tyOK_of ttOK) (hglob _) (conOK_of trivial) (mconOK_of ⟨s_l1Cur_pick, trivial⟩) (by kernel_rfl) (by kernel_rfl) (by kernel_rfl) (by kernel_rfl) (by kernel_rfl) (of_decide_eq_true (by kernel_rfl)) (by kernel_rfl) (by rfl)
theorem p_l1Cur_one (a0 : D_l1Cur) (a1 : Int) : P_l1Cur_one (a0, a1, ()) = 
 Option.bind (P_l1Cur_pick (a0, a1, ())) fun r0 =>
 some ((decide (r0.1.1 = 0), ()), ((a0.1, r0.2.1.2), ())) := by
 rewrite [h_l1Cur_one]
 exact e_l1Cur_one N P_l1Cur_pick a0 a1

abbrev As_l1Cur_sides : List ATy := [.lptr T_l1Cur]
abbrev R_l1Cur_sides : List (Bool × Ty) := [(false, (.int .i64)), (false, (.int .i64)), (false, (.int .i64))]
abbrev M_l1Cur_sides : List RMode := []
abbrev Ft_l1Cur_sides : Type := D_l1Cur × Unit → Option ((Int × Int × Int × Unit) × (D_l1Cur × Unit))
def X_l1Cur_sides (n : Nat) (F_l1Cur_among : Ft_l1Cur_among) (F_l1Cur_pick : Ft_l1Cur_pick) : Ctx := { types := TT, globals := [], con := [], mcon := [(36, ⟨As_l1Cur_among, R_l1Cur_among, M_l1Cur_among, F_l1Cur_among⟩), (57, ⟨As_l1Cur_pick, R_l1Cur_pick, M_l1Cur_pick, F_l1Cur_pick⟩)], keep := [], results := [.tmp 2, .tmp 3, .tmp 4], ntmps := 37, n := n }
def B_l1Cur_sides : Code := (Try.f77.body).getD .skip
theorem e_l1Cur_sides (n : Nat) (F_l1Cur_among : Ft_l1Cur_among) (F_l1Cur_pick : Ft_l1Cur_pick) (a0 : D_l1Cur) : runFM (X_l1Cur_sides n F_l1Cur_among F_l1Cur_pick) B_l1Cur_sides As_l1Cur_sides R_l1Cur_sides M_l1Cur_sides (a0, ()) = 
 Option.bind (F_l1Cur_among (a0, ([2, 3, 3, 1, 4] : List Int), ())) fun r0 =>
 Option.bind (F_l1Cur_among ((a0.1, r0.2.1.2), ([2, 3, 2, 1, 4] : List Int), ())) fun r1 =>
 Option.bind (F_l1Cur_among ((a0.1, r1.2.1.2), ([2, 3, 3, 1, 4] : List Int), ())) fun r2 =>
 Option.bind (F_l1Cur_pick ((a0.1, r2.2.1.2), 60, ())) fun r3 =>
 bif decide (r3.1.1 = 0) then
 Option.bind (F_l1Cur_among ((a0.1, r3.2.1.2), ([0, 5, (-1), 4611686018427387904] : List Int), ())) fun r5 =>
 some ((r5.1.1, r1.1.1, r2.1.1, ()), ((a0.1, r5.2.1.2), ()))
 else
 bif decide (r3.1.1 = 1) then
 Option.bind (F_l1Cur_among ((a0.1, r3.2.1.2), ([0, 5, (-1)] : List Int), ())) fun r6 =>
 some ((r0.1.1, r6.1.1, r2.1.1, ()), ((a0.1, r6.2.1.2), ()))
 else
 bif decide (r3.1.1 = 2) then
 Option.bind (F_l1Cur_among ((a0.1, r3.2.1.2), ([0, 5, (-1)] : List Int), ())) fun r7 =>
 some ((r0.1.1, r1.1.1, r7.1.1, ()), ((a0.1, r7.2.1.2), ()))
 else
 some ((r0.1.1, r1.1.1, r2.1.1, ()), ((a0.1, r3.2.1.2), ())) := by kernel_rfl
def P_l1Cur_sides : Ft_l1Cur_sides := hid (runFM (X_l1Cur_sides N P_l1Cur_among P_l1Cur_pick) B_l1Cur_sides As_l1Cur_sides R_l1Cur_sides M_l1Cur_sides)
theorem h_l1Cur_sides : P_l1Cur_sides = runFM (X_l1Cur_sides N P_l1Cur_among P_l1Cur_pick) B_l1Cur_sides As_l1Cur_sides R_l1Cur_sides M_l1Cur_sides := hid_eq _
def C_l1Cur_sides : MContract := ⟨As_l1Cur_sides, R_l1Cur_sides, M_l1Cur_sides, P_l1Cur_sides⟩
theorem s_l1Cur_sides : SoundM Try.prog n0 GG 77 C_l1Cur_sides := by
 unfold C_l1Cur_sides; rw [h_l1Cur_sides]
 exact sound_of_runM (fn := Try.f77) hmix hstable (tyOK_of ttOK) (hglob _) (conOK_of trivial) (mconOK_of ⟨s_l1Cur_among, s_l1Cur_pick, trivial⟩) (by kernel_rfl) (by kernel_rfl) (by kernel_rfl) (by kernel_rfl) (by kernel_rfl) (of_decide_eq_true (by kernel_rfl)) (by kernel_rfl) (by rfl)
theorem p_l1Cur_sides (a0 : D_l1Cur) : P_l1Cur_sides (a0, ()) = 
 Option.bind (P_l1Cur_among (a0, ([2, 3, 3, 1, 4] : List Int), ())) fun r0 =>
 Option.bind (P_l1Cur_among ((a0.1, r0.2.1.2), ([2, 3, 2, 1, 4] : List Int), ())) fun r1 =>
 Option.bind (P_l1Cur_among ((a0.1, r1.2.1.2), ([2, 3, 3, 1, 4] : List Int), ())) fun r2 =>
 Option.bind (P_l1Cur_pick ((a0.1, r2.2.1.2), 60, ())) fun r3 =>
 bif decide (r3.1.1 = 0) then
 Option.bind (P_l1Cur_among ((a0.1, r3.2.1.2), ([0, 5, (-1), 4611686018427387904] : List Int), ())) fun r5 =>
 some ((r5.1.1, r1.1.1, r2.1.1, ()), ((a0.1, r5.2.1.2), ()))
 else
 bif decide (r3.1.1 = 1) then
 Option.bind (P_l1Cur_among ((a0.1, r3.2.1.2), ([0, 5, (-1)] : List Int), ())) fun r6 =>
 some ((r0.1.1, r6.1.1, r2.1.1, ()), ((a0.1, r6.2.1.2), ()))
 else
 bif decide (r3.1.1 = 2) then
 Option.bind (P_l1Cur_among ((a0.1, r3.2.1.2), ([0, 5, (-1)] : List Int), ())) fun r7 =>
 some ((r0.1.1, r1.1.1, r7.1.1, ()), ((a0.1, r7.2.1.2), ()))
 else
 some ((r0.1.1, r1.1.1, r2.1.1, ()), ((a0.1, r3.2.1.2), ())) := by
 rewrite [h_l1Cur_sides]
 exact e_l1Cur_sides N P_l1Cur_among P_l1Cur_pick a0

abbrev As_spec_l2Empty : List ATy := [.data false (.int .i64), .data false (.int .i64), .data false (.int .i64)]
abbrev R_spec_l2Empty : List (Bool × Ty) := [(true, T_Heap)]
abbrev M_spec_l2Empty : List RMode := [.own 49]
abbrev Ft_spec_l2Empty : Type := Int × Int × Int × Unit → Option (D_Heap × Unit)
def X_spec_l2Empty (n : Nat) : Ctx := { types := TT, globals := [], con := [], keep := [], results := [.cell 6 26], ntmps := 12, n := n }
def B_spec_l2Empty : Code := (Try.f63.body).getD .skip
theorem e_spec_l2Empty (n : Nat) (a0 a1 a2 : Int) : runF (X_spec_l2Empty n) B_spec_l2Empty As_spec_l2Empty R_spec_l2Empty M_spec_l2Empty (a0, a1, a2, ()) = 
 some ((a0, (a1, (a2, (([] : List D_A3), ())))), ()) := by kernel_rfl
def P_spec_l2Empty : Ft_spec_l2Empty := hid (runF (X_spec_l2Empty N) B_spec_l2Empty As_spec_l2Empty R_spec_l2Empty M_spec_l2Empty)
theorem h_spec_l2Empty : P_spec_l2Empty = runF (X_spec_l2Empty N) B_spec_l2Empty As_spec_l2Empty R_spec_l2Empty M_spec_l2Empty := hid_eq _
def C_spec_l2Empty : Contract := ⟨As_spec_l2Empty, R_spec_l2Empty, M_spec_l2Empty, P_spec_l2Empty⟩
theorem s_spec_l2Empty : Sound Try.prog GG 63 C_spec_l2Empty := by
 unfold C_spec_l2Empty; rw [h_spec_l2Empty]
 exact sound_of_run (fn := Try.f63) hmix hstable (tyOK_of ttOK) (hglob _) (conOK_of trivial) (mconOK_of trivial) (by kernel_rfl) (by kernel_rfl) (by kernel_rfl) (by kernel_rfl) (by kernel_rfl) (of_decide_eq_true (by kernel_rfl))
theorem p_spec_l2Empty (a0 a1 a2 : Int) : P_spec_l2Empty (a0, a1, a2, ()) = 
 some ((a0, (a1, (a2, (([] : List D_A3), ())))), ()) := by
 rewrite [h_spec_l2Empty]
 exact e_spec_l2Empty N a0 a1 a2

abbrev As_spec_l1In : List ATy := [.data false (.int .i64), .data false (.int .i64), .data false (.int .i64)]
abbrev R_spec_l1In : List (Bool × Ty) := [(false, .bool)]
abbrev M_spec_l1In : List RMode := []
abbrev Ft_spec_l1In : Type := Int × Int × Int × Unit → Option (Bool × Unit)
def X_spec_l1In (n : Nat) : Ctx := { types := TT, globals := [], con := [], keep := [], results := [.tmp 6], ntmps := 15, n := n }
def B_spec_l1In : Code := (Try.f49.body).getD .skip
theorem e_spec_l1In (n : Nat) (a0 a1 a2 : Int) : runF (X_spec_l1In n) B_spec_l1In As_spec_l1In R_spec_l1In M_spec_l1In (a0, a1, a2, ()) = 
 bif decide (a0 ≥ a1) then
 some (decide (a0 ≤ a2), ())
 else
 some (false, ()) := by kernel_rfl
def P_spec_l1In : Ft_spec_l1In := hid (runF (X_spec_l1In N) B_spec_l1In As_spec_l1In R_spec_l1In M_spec_l1In)
theorem h_spec_l1In : P_spec_l1In = runF (X_spec_l1In N) B_spec_l1In As_spec_l1In R_spec_l1In M_spec_l1In := hid_eq _
def C_spec_l1In : Contract := ⟨As_spec_l1In, R_spec_l1In, M_spec_l1In, P_spec_l1In⟩
theorem s_spec_l1In : Sound Try.prog GG 49 C_spec_l1In := by
 unfold C_spec_l1In; rw [h_spec_l1In]
 exact sound_of_run (fn := Try.f49) hmix hstable (tyOK_of ttOK) (hglob _) (conOK_of trivial) (mconOK_of trivial) (by kernel_rfl) (by kernel_rfl) (by kernel_rfl) (by kernel_rfl) (by kernel_rfl) (of_decide_eq_true (by kernel_rfl))
theorem p_spec_l1In (a0 a1 a2 : Int) : P_spec_l1In (a0, a1, a2, ()) = 
 bif decide (a0 ≥ a1) then
 some (decide (a0 ≤ a2), ())
 else
 some (false, ()) := by
 rewrite [h_spec_l1In]
 exact e_spec_l1In N a0 a1 a2

abbrev As_spec_l2Sides : List ATy := [.data false (.int .i64), .data false (.int .i64), .data false (.int .i64)]
abbrev R_spec_l2Sides : List (Bool × Ty) := [(false, .bool)]
abbrev M_spec_l2Sides : List RMode := []
abbrev Ft_spec_l2Sides : Type := Int × Int × Int × Unit → Option (Bool × Unit)
def X_spec_l2Sides (n : Nat) (F_spec_l1In : Ft_spec_l1In) : Ctx := { types := TT, globals := [], con := [(49, ⟨As_spec_l1In, R_spec_l1In, M_spec_l1In, F_spec_l1In⟩)], keep := [], results := [.tmp 6], ntmps := 17, n := n }
def B_spec_l2Sides : Code := (Try.f71.body).getD .skip
theorem e_spec_l2Sides (n : Nat) (F_spec_l1In : Ft_spec_l1In) (a0 a1 a2 : Int) : runF (X_spec_l2Sides n F_spec_l1In) B_spec_l2Sides As_spec_l2Sides R_spec_l2Sides M_spec_l2Sides (a0, a1, a2, ()) = 
 Option.bind (F_spec_l1In (a0, 1, 4, ())) fun r0 =>
 bif r0.1 then
 Option.bind (F_spec_l1In (a1, 1, 4, ())) fun r2 =>
 bif r2.1 then
 Option.bind (F_spec_l1In (a2, 1, 4, ())) fun r4 =>
 some (r4.1, ())
 else
 some (false, ())
 else
 some (false, ()) := by kernel_rfl
def P_spec_l2Sides : Ft_spec_l2Sides := hid (runF (X_spec_l2Sides N P_spec_l1In) B_spec_l2Sides As_spec_l2Sides R_spec_l2Sides M_spec_l2Sides)
theorem h_spec_l2Sides : P_spec_l2Sides = runF (X_spec_l2Sides N P_spec_l1In) B_spec_l2Sides As_spec_l2Sides R_spec_l2Sides M_spec_l2Sides := hid_eq _
def C_spec_l2Sides : Contract := ⟨As_spec_l2Sides, R_spec_l2Sides, M_spec_l2Sides, P_spec_l2Sides⟩
theorem s_spec_l2Sides : Sound Try.prog GG 71 C_spec_l2Sides := by
 unfold C_spec_l2Sides; rw [h_spec_l2Sides]
 exact sound_of_run (fn := Try.f71) hmix hstable (tyOK_of ttOK) (hglob _) (conOK_of ⟨s_spec_l1In, trivial⟩) (mconOK_of trivial) (by kernel_rfl) (by kernel_rfl) (by kernel_rfl) (by kernel_rfl) (by kernel_rfl) (of_decide_eq_true (by kernel_rfl))
theorem p_spec_l2Sides (a0 a1 a2 : Int) : P_spec_l2Sides (a0, a1, a2, ()) = 
 Option.bind (P_spec_l1In (a0, 1, 4, ())) fun r0 =>
 bif r0.1 then
 Option.bind (P_spec_l1In (a1, 1, 4, ())) fun r2 =>
 bif r2.1 then
 Option.bind (P_spec_l1In (a2, 1, 4, ())) fun r4 =>
 some (r4.1, ())
 else
 some (false, ())
 else
 some (false, ()) := by
 rewrite [h_spec_l2Sides]
 exact e_spec_l2Sides N P_spec_l1In a0 a1 a2

abbrev As_spec_l2All : List ATy := [.data true T_Heap]
abbrev R_spec_l2All : List (Bool × Ty) := [(false, (.sl T_A3))]
abbrev M_spec_l2All : List RMode := [.own 49]
abbrev Ft_spec_l2All : Type := D_Heap × Unit → Option ((List D_A3) × Unit)
def X_spec_l2All (n : Nat) : Ctx := { types := TT, globals := [], con := [], keep := [(3, ⟨[.box 1, .tmp 1, .tmp 3, .tmp 4], []⟩), (6, ⟨[.box 1, .tmp 1, .tmp 3, .tmp 4, .tmp 5], []⟩), (9, ⟨[.box 1, .tmp 1, .tmp 3, .tmp 4, .tmp 5, .tmp 6], []⟩)], results := [.tmp 2], ntmps := 34, n := n }
def B_spec_l2All : Code := (Try.f83.body).getD .skip
def L_spec_l2All_3 (n m0 : Nat) (p0 p1 p2 : Int) (p3 p4 : List D_A3) (p5 : Int) : Option (denL R_spec_l2All) := loopF (X_spec_l2All n) B_spec_l2All R_spec_l2All M_spec_l2All 3 [m0] [(.ver, .num 1), (.box 1, .box 0 false [.int .i64 p0, .int .i64 p1, .int .i64 p2, .imm T_A3 p3 (some 3)]), (.tmp 1, .val false [.addr 1 0 0]), (.tmp 3, .val false [.own 49 T_A3 0 p4]), (.tmp 4, .val false [.int .i64 p5])]
def L_spec_l2All_6 (n : Nat) (m0 m1 : Nat) (p0 p1 p2 : Int) (p3 p4 : List D_A3) (p5 p6 : Int) : Option (denL R_spec_l2All) := loopF (X_spec_l2All n) B_spec_l2All R_spec_l2All M_spec_l2All 6 [m0, m1] [(.ver, .num 1), (.box 1, .box 0 false [.int .i64 p0, .int .i64 p1, .int .i64 p2, .imm T_A3 p3 (some 3)]), (.tmp 1, .val false [.addr 1 0 0]), (.tmp 3, .val false [.own 49 T_A3 0 p4]), (.tmp 4, .val false [.int .i64 p5]), (.tmp 5, .val false [.int .i64 p6])]
def L_spec_l2All_9 (n : Nat) (m0 m1 m2 : Nat) (p0 p1 p2 : Int) (p3 p4 : List D_A3) (p5 p6 p7 : Int) : Option (denL R_spec_l2All) := loopF (X_spec_l2All n) B_spec_l2All R_spec_l2All M_spec_l2All 9 [m0, m1, m2] [(.ver, .num 1), (.box 1, .box 0 false [.int .i64 p0, .int .i64 p1, .int .i64 p2, .imm T_A3 p3 (some 3)]), (.tmp 1, .val false [.addr 1 0 0]), (.tmp 3, .val false [.own 49 T_A3 0 p4]), (.tmp 4, .val false [.int .i64 p5]), (.tmp 5, .val false [.int .i64 p6]), (.tmp 6, .val false [.int .i64 p7])]
theorem e_spec_l2All (n : Nat) (a0 : D_Heap) : runF (X_spec_l2All n) B_spec_l2All As_spec_l2All R_spec_l2All M_spec_l2All (a0, ()) = 
 L_spec_l2All_3 n n a0.1 a0.2.1 a0.2.2.1 a0.2.2.2.1 ([] : List D_A3) 0 := by kernel_rfl
theorem e_spec_l2All_3 (n m0 : Nat) (p0 p1 p2 : Int) (p3 p4 : List D_A3) (p5 : Int) : L_spec_l2All_3 n (m0 + 1) p0 p1 p2 p3 p4 p5 = 
 bif decide (p5 < p0) then
 L_spec_l2All_6 n m0 n p0 p1 p2 p3 p4 p5 0
 else
 some (p4, ()) := by kernel_rfl
theorem e_spec_l2All_6 (n : Nat) (m0 m1 : Nat) (p0 p1 p2 : Int) (p3 p4 : List D_A3) (p5 p6 : Int) : L_spec_l2All_6 n m0 (m1 + 1) p0 p1 p2 p3 p4 p5 p6 = 
 bif decide (p6 < p1) then
 L_spec_l2All_9 n m0 m1 n p0 p1 p2 p3 p4 p5 p6 0
 else
 L_spec_l2All_3 n m0 p0 p1 p2 p3 p4 (IntKind.wrap .i64 (p5 + 1)) := by kernel_rfl
theorem e_spec_l2All_9 (n : Nat) (m0 m1 m2 : Nat) (p0 p1 p2 : Int) (p3 p4 : List D_A3) (p5 p6 p7 : Int) : L_spec_l2All_9 n m0 m1 (m2 + 1) p0 p1 p2 p3 p4 p5 p6 p7 = 
 bif decide (p7 < p2) then
 bif (decide (((List.length p4) + (List.length ([(p5, (p6, (p7, ())))] : List D_A3))) * 24 ≤ 140737488355328) && decide (((List.length p4) + (List.length ([(p5, (p6, (p7, ())))] : List D_A3))) ≤ 140737488355328)) then
 L_spec_l2All_9 n m0 m1 m2 p0 p1 p2 p3 (p4 ++ ([(p5, (p6, (p7, ())))] : List D_A3)) p5 p6 (IntKind.wrap .i64 (p7 + 1))
 else none
 else
 L_spec_l2All_6 n m0 m1 p0 p1 p2 p3 p4 p5 (IntKind.wrap .i64 (p6 + 1)) := by kernel_rfl
def P_spec_l2All : Ft_spec_l2All := hid (runF (X_spec_l2All N) B_spec_l2All As_spec_l2All R_spec_l2All M_spec_l2All)
theorem h_spec_l2All : P_spec_l2All = runF (X_spec_l2All N) B_spec_l2All As_spec_l2All R_spec_l2All M_spec_l2All := hid_eq _
def C_spec_l2All : Contract := ⟨As_spec_l2All, R_spec_l2All, M_spec_l2All, P_spec_l2All⟩
theorem s_spec_l2All : Sound Try.prog GG 83 C_spec_l2All := by
 unfold C_spec_l2All; rw [h_spec_l2All]
 exact sound_of_run (fn := Try.f83) hmix hstable (tyOK_of ttOK) (hglob _) (conOK_of trivial) (mconOK_of trivial) (by kernel_rfl) (by kernel_rfl) (by kernel_rfl) (by kernel_rfl) (by kernel_rfl) (of_decide_eq_true (by kernel_rfl))
def l_spec_l2All_3 : Nat → Int → Int → Int → (List D_A3) → (List D_A3) → Int → Option (denL R_spec_l2All) := hid (fun m0 p0 p1 p2 p3 p4 p5 => L_spec_l2All_3 N m0 p0 p1 p2 p3 p4 p5)
theorem h_spec_l2All_3 : l_spec_l2All_3 = fun m0 p0 p1 p2 p3 p4 p5 => L_spec_l2All_3 N m0 p0 p1 p2 p3 p4 p5 := hid_eq _
def l_spec_l2All_6 : Nat → Nat → Int → Int → Int → (List D_A3) → (List D_A3) → Int → Int → Option (denL R_spec_l2All) := hid (fun m0 m1 p0 p1 p2 p3 p4 p5 p6 => L_spec_l2All_6 N m0 m1 p0 p1 p2 p3 p4 p5 p6)
theorem h_spec_l2All_6 : l_spec_l2All_6 = fun m0 m1 p0 p1 p2 p3 p4 p5 p6 => L_spec_l2All_6 N m0 m1 p0 p1 p2 p3 p4 p5 p6 := hid_eq _
def l_spec_l2All_9 : Nat → Nat → Nat → Int → Int → Int → (List D_A3) → (List D_A3) → Int → Int → Int → Option (denL R_spec_l2All) := hid (fun m0 m1 m2 p0 p1 p2 p3 p4 p5 p6 p7 => L_spec_l2All_9 N m0 m1 m2 p0 p1 p2 p3 p4 p5 p6 p7)
theorem h_spec_l2All_9 : l_spec_l2All_9 = fun m0 m1 m2 p0 p1 p2 p3 p4 p5 p6 p7 => L_spec_l2All_9 N m0 m1 m2 p0 p1 p2 p3 p4 p5 p6 p7 := hid_eq _
theorem p_spec_l2All (a0 : D_Heap) : P_spec_l2All (a0, ()) = 
 l_spec_l2All_3 N a0.1 a0.2.1 a0.2.2.1 a0.2.2.2.1 ([] : List D_A3) 0 := by
 rewrite [h_spec_l2All, h_spec_l2All_3]
 exact e_spec_l2All N a0
theorem q_spec_l2All_3 (m0 : Nat) (p0 p1 p2 : Int) (p3 p4 : List D_A3) (p5 : Int) : l_spec_l2All_3 (m0 + 1) p0 p1 p2 p3 p4 p5 = 
 bif decide (p5 < p0) then
 l_spec_l2All_6 m0 N p0 p1 p2 p3 p4 p5 0
 else
 some (p4, ()) := by
 rewrite [h_spec_l2All_3, h_spec_l2All_6]
 exact e_spec_l2All_3 N m0 p0 p1 p2 p3 p4 p5
theorem q_spec_l2All_6 (m0 m1 : Nat) (p0 p1 p2 : Int) (p3 p4 : List D_A3) (p5 p6 : Int) : l_spec_l2All_6 m0 (m1 + 1) p0 p1 p2 p3 p4 p5 p6 = 
 bif decide (p6 < p1) then
 l_spec_l2All_9 m0 m1 N p0 p1 p2 p3 p4 p5 p6 0
 else
 l_spec_l2All_3 m0 p0 p1 p2 p3 p4 (IntKind.wrap .i64 (p5 + 1)) := by
 rewrite [h_spec_l2All_3, h_spec_l2All_6, h_spec_l2All_9]
 exact e_spec_l2All_6 N m0 m1 p0 p1 p2 p3 p4 p5 p6
theorem q_spec_l2All_9 (m0 m1 m2 : Nat) (p0 p1 p2 : Int) (p3 p4 : List D_A3) (p5 p6 p7 : Int) : l_spec_l2All_9 m0 m1 (m2 + 1) p0 p1 p2 p3 p4 p5 p6 p7 = 
 bif decide (p7 < p2) then
 bif (decide (((List.length p4) + (List.length ([(p5, (p6, (p7, ())))] : List D_A3))) * 24 ≤ 140737488355328) && decide (((List.length p4) + (List.length ([(p5, (p6, (p7, ())))] : List D_A3))) ≤ 140737488355328)) then
 l_spec_l2All_9 m0 m1 m2 p0 p1 p2 p3 (p4 ++ ([(p5, (p6, (p7, ())))] : List D_A3)) p5 p6 (IntKind.wrap .i64 (p7 + 1))
 else none
 else
 l_spec_l2All_6 m0 m1 p0 p1 p2 p3 p4 p5 (IntKind.wrap .i64 (p6 + 1)) := by
 rewrite [h_spec_l2All_6, h_spec_l2All_9]
 exact e_spec_l2All_9 N m0 m1 m2 p0 p1 p2 p3 p4 p5 p6 p7

abbrev As_spec_l2In : List ATy := [.data true T_Heap, .data true T_A3]
abbrev R_spec_l2In : List (Bool × Ty) := [(false, .bool)]
abbrev M_spec_l2In : List RMode := []
abbrev Ft_spec_l2In : Type := D_Heap × D_A3 × Unit → Option (Bool × Unit)
def X_spec_l2In (n : Nat) (F_spec_l1In : Ft_spec_l1In) : Ctx := { types := TT, globals := [], con := [(49, ⟨As_spec_l1In, R_spec_l1In, M_spec_l1In, F_spec_l1In⟩)], keep := [], results := [.tmp 4], ntmps := 27, n := n }
def B_spec_l2In : Code := (Try.f72.body).getD .skip
theorem e_spec_l2In (n : Nat) (F_spec_l1In : Ft_spec_l1In) (a0 : D_Heap) (a1 : D_A3) : runF (X_spec_l2In n F_spec_l1In) B_spec_l2In As_spec_l2In R_spec_l2In M_spec_l2In (a0, a1, ()) = 
 Option.bind (F_spec_l1In (a1.1, 0, (IntKind.wrap .i64 (a0.1 - 1)), ())) fun r0 =>
 bif r0.1 then
 Option.bind (F_spec_l1In (a1.2.1, 0, (IntKind.wrap .i64 (a0.2.1 - 1)), ())) fun r2 =>
 bif r2.1 then
 Option.bind (F_spec_l1In (a1.2.2.1, 0, (IntKind.wrap .i64 (a0.2.2.1 - 1)), ())) fun r4 =>
 some (r4.1, ())
 else
 some (false, ())
 else
 some (false, ()) := by kernel_rfl
def P_spec_l2In : Ft_spec_l2In := hid (runF (X_spec_l2In N P_spec_l1In) B_spec_l2In As_spec_l2In R_spec_l2In M_spec_l2In)
theorem h_spec_l2In : P_spec_l2In = runF (X_spec_l2In N P_spec_l1In) B_spec_l2In As_spec_l2In R_spec_l2In M_spec_l2In := hid_eq _
def C_spec_l2In : Contract := ⟨As_spec_l2In, R_spec_l2In, M_spec_l2In, P_spec_l2In⟩
theorem s_spec_l2In : Sound Try.prog GG 72 C_spec_l2In := by
 unfold C_spec_l2In; rw [h_spec_l2In]
 exact sound_of_run (fn := Try.f72) hmix hstable (tyOK_of ttOK) (hglob _) (conOK_of ⟨s_spec_l1In, trivial⟩) (mconOK_of trivial) (by kernel_rfl) (by kernel_rfl) (by kernel_rfl) (by kernel_rfl) (by kernel_rfl) (of_decide_eq_true (by kernel_rfl))
theorem p_spec_l2In (a0 : D_Heap) (a1 : D_A3) : P_spec_l2In (a0, a1, ()) = 
 Option.bind (P_spec_l1In (a1.1, 0, (IntKind.wrap .i64 (a0.1 - 1)), ())) fun r0 =>
 bif r0.1 then
 Option.bind (P_spec_l1In (a1.2.1, 0, (IntKind.wrap .i64 (a0.2.1 - 1)), ())) fun r2 =>
 bif r2.1 then
 Option.bind (P_spec_l1In (a1.2.2.1, 0, (IntKind.wrap .i64 (a0.2.2.1 - 1)), ())) fun r4 =>
 some (r4.1, ())
 else
 some (false, ())
 else
 some (false, ()) := by
 rewrite [h_spec_l2In]
 exact e_spec_l2In N P_spec_l1In a0 a1

abbrev As_spec_l2Before : List ATy := [.data true T_A3, .data true T_A3]
abbrev R_spec_l2Before : List (Bool × Ty) := [(false, .bool)]
abbrev M_spec_l2Before : List RMode := []
abbrev Ft_spec_l2Before : Type := D_A3 × D_A3 × Unit → Option (Bool × Unit)
def X_spec_l2Before (n : Nat) : Ctx := { types := TT, globals := [], con := [], keep := [(2, ⟨[.box 2, .box 3, .tmp 2, .tmp 3, .tmp 5], []⟩)], results := [.tmp 4], ntmps := 24, n := n }
def B_spec_l2Before : Code := (Try.f73.body).getD .skip
def L_spec_l2Before_2 (n m0 : Nat) (p0 p1 : Int) (p2 p3 : Int) (p4 p5 p6 : Int) : Option (denL R_spec_l2Before) := loopF (X_spec_l2Before n) B_spec_l2Before R_spec_l2Before M_spec_l2Before 2 [m0] [(.ver, .num 1), (.box 2, .box 0 false [.int .i64 p0, .int .i64 p1, .int .i64 p2]), (.box 3, .box 0 false [.int .i64 p3, .int .i64 p4, .int .i64 p5]), (.tmp 2, .val false [.addr 2 0 0]), (.tmp 3, .val false [.addr 3 0 0]), (.tmp 5, .val false [.int .i64 p6])]
theorem e_spec_l2Before (n : Nat) (a0 a1 : D_A3) : runF (X_spec_l2Before n) B_spec_l2Before As_spec_l2Before R_spec_l2Before M_spec_l2Before (a0, a1, ()) = 
 L_spec_l2Before_2 n n a0.1 a0.2.1 a0.2.2.1 a1.1 a1.2.1 a1.2.2.1 0 := by kernel_rfl
theorem e_spec_l2Before_2 (n m0 : Nat) (p0 p1 : Int) (p2 p3 : Int) (p4 p5 p6 : Int) : L_spec_l2Before_2 n (m0 + 1) p0 p1 p2 p3 p4 p5 p6 = 
 bif decide (p6 < 3) then
 bif inB p6 3 then
 bif inB p6 3 then
 bif !decide ((bif decide (p6 = (0 : Int)) then p0 else (bif decide (p6 = (1 : Int)) then p1 else p2)) = (bif decide (p6 = (0 : Int)) then p3 else (bif decide (p6 = (1 : Int)) then p4 else p5))) then
 bif inB p6 3 then
 bif inB p6 3 then
 some (decide ((bif decide (p6 = (0 : Int)) then p0 else (bif decide (p6 = (1 : Int)) then p1 else p2)) < (bif decide (p6 = (0 : Int)) then p3 else (bif decide (p6 = (1 : Int)) then p4 else p5))), ())
 else none
 else none
 else
 L_spec_l2Before_2 n m0 p0 p1 p2 p3 p4 p5 (IntKind.wrap .i64 (p6 + 1))
 else none
 else none
 else
 some (false, ()) := by kernel_rfl
def P_spec_l2Before : Ft_spec_l2Before := hid (runF (X_spec_l2Before N) B_spec_l2Before As_spec_l2Before R_spec_l2Before M_spec_l2Before)
theorem h_spec_l2Before : P_spec_l2Before = runF (X_spec_l2Before N) B_spec_l2Before As_spec_l2Before R_spec_l2Before M_spec_l2Before := hid_eq _
def C_spec_l2Before : Contract := ⟨As_spec_l2Before, R_spec_l2Before, M_spec_l2Before, P_spec_l2Before⟩
theorem s_spec_l2Before : Sound Try.prog GG 73 C_spec_l2Before := by
 unfold C_spec_l2Before; rw [h_spec_l2Before]
 exact sound_of_run (fn := Try.f73) hmix hstable (tyOK_of ttOK) (hglob _) (conOK_of trivial) (mconOK_of trivial) (by kernel_rfl) (by kernel_rfl) (by kernel_rfl) (by kernel_rfl) (by kernel_rfl) (of_decide_eq_true (by kernel_rfl))
def l_spec_l2Before_2 : Nat → Int → Int → Int → Int → Int → Int → Int → Option (denL R_spec_l2Before) := hid (fun m0 p0 p1 p2 p3 p4 p5 p6 => L_spec_l2Before_2 N m0 p0 p1 p2 p3 p4 p5 p6)
theorem h_spec_l2Before_2 : l_spec_l2Before_2 = fun m0 p0 p1 p2 p3 p4 p5 p6 => L_spec_l2Before_2 N m0 p0 p1 p2 p3 p4 p5 p6 := hid_eq _
theorem p_spec_l2Before (a0 a1 : D_A3) : P_spec_l2Before (a0, a1, ()) = 
 l_spec_l2Before_2 N a0.1 a0.2.1 a0.2.2.1 a1.1 a1.2.1 a1.2.2.1 0 := by
 rewrite [h_spec_l2Before, h_spec_l2Before_2]
 exact e_spec_l2Before N a0 a1
theorem q_spec_l2Before_2 (m0 : Nat) (p0 p1 : Int) (p2 p3 : Int) (p4 p5 p6 : Int) : l_spec_l2Before_2 (m0 + 1) p0 p1 p2 p3 p4 p5 p6 = 
 bif decide (p6 < 3) then
 bif inB p6 3 then
 bif inB p6 3 then
 bif !decide ((bif decide (p6 = (0 : Int)) then p0 else (bif decide (p6 = (1 : Int)) then p1 else p2)) = (bif decide (p6 = (0 : Int)) then p3 else (bif decide (p6 = (1 : Int)) then p4 else p5))) then
 bif inB p6 3 then
 bif inB p6 3 then
 some (decide ((bif decide (p6 = (0 : Int)) then p0 else (bif decide (p6 = (1 : Int)) then p1 else p2)) < (bif decide (p6 = (0 : Int)) then p3 else (bif decide (p6 = (1 : Int)) then p4 else p5))), ())
 else none
 else none
 else
 l_spec_l2Before_2 m0 p0 p1 p2 p3 p4 p5 (IntKind.wrap .i64 (p6 + 1))
 else none
 else none
 else
 some (false, ()) := by
 rewrite [h_spec_l2Before_2]
 exact e_spec_l2Before_2 N m0 p0 p1 p2 p3 p4 p5 p6

abbrev As_spec_l2Heap : List ATy := [.data true T_Heap]
abbrev R_spec_l2Heap : List (Bool × Ty) := [(false, .bool)]
abbrev M_spec_l2Heap : List RMode := []
abbrev Ft_spec_l2Heap : Type := D_Heap × Unit → Option (Bool × Unit)
def X_spec_l2Heap (n : Nat) (F_spec_l2Sides : Ft_spec_l2Sides) (F_spec_l2In : Ft_spec_l2In) (F_spec_l2Before : Ft_spec_l2Before) : Ctx := { types := TT, globals := [], con := [(71, ⟨As_spec_l2Sides, R_spec_l2Sides, M_spec_l2Sides, F_spec_l2Sides⟩), (72, ⟨As_spec_l2In, R_spec_l2In, M_spec_l2In, F_spec_l2In⟩), (73, ⟨As_spec_l2Before, R_spec_l2Before, M_spec_l2Before, F_spec_l2Before⟩)], keep := [(4, ⟨[.box 1, .tmp 1, .tmp 3], []⟩)], results := [.tmp 2], ntmps := 46, n := n }
def B_spec_l2Heap : Code := (Try.f42.body).getD .skip
def L_spec_l2Heap_4 (n : Nat) (F_spec_l2Sides : Ft_spec_l2Sides) (F_spec_l2In : Ft_spec_l2In) (F_spec_l2Before : Ft_spec_l2Before) (m0 : Nat) (p0 p1 p2 : Int) (p3 : List D_A3) (p4 : Int) : Option (denL R_spec_l2Heap) := loopF (X_spec_l2Heap n F_spec_l2Sides F_spec_l2In F_spec_l2Before) B_spec_l2Heap R_spec_l2Heap M_spec_l2Heap 4 [m0] [(.ver, .num 1), (.box 1, .box 0 false [.int .i64 p0, .int .i64 p1, .int .i64 p2, .imm T_A3 p3 (some 3)]), (.tmp 1, .val false [.addr 1 0 0]), (.tmp 3, .val false [.int .i64 p4])]
theorem e_spec_l2Heap (n : Nat) (F_spec_l2Sides : Ft_spec_l2Sides) (F_spec_l2In : Ft_spec_l2In) (F_spec_l2Before : Ft_spec_l2Before) (a0 : D_Heap) : runF (X_spec_l2Heap n F_spec_l2Sides F_spec_l2In F_spec_l2Before) B_spec_l2Heap As_spec_l2Heap R_spec_l2Heap M_spec_l2Heap (a0, ()) = 
 Option.bind (F_spec_l2Sides (a0.1, a0.2.1, a0.2.2.1, ())) fun r0 =>
 bif !r0.1 then
 some (false, ())
 else
 L_spec_l2Heap_4 n F_spec_l2Sides F_spec_l2In F_spec_l2Before n a0.1 a0.2.1 a0.2.2.1 a0.2.2.2.1 0 := by kernel_rfl
theorem e_spec_l2Heap_4 (n : Nat) (F_spec_l2Sides : Ft_spec_l2Sides) (F_spec_l2In : Ft_spec_l2In) (F_spec_l2Before : Ft_spec_l2Before) (m0 : Nat) (p0 p1 p2 : Int) (p3 : List D_A3) (p4 : Int) : L_spec_l2Heap_4 n F_spec_l2Sides F_spec_l2In F_spec_l2Before (m0 + 1) p0 p1 p2 p3 p4 = 
 bif decide (p4 < (List.length p3 : Int)) then
 bif inB p4 (List.length p3) then
 Option.bind (F_spec_l2In ((p0, (p1, (p2, (p3, ())))), (nth T_A3 p3 p4), ())) fun r2 =>
 bif !r2.1 then
 some (false, ())
 else
 bif decide (p4 > 0) then
 bif inB (IntKind.wrap .i64 (p4 - 1)) (List.length p3) then
 bif inB p4 (List.length p3) then
 Option.bind (F_spec_l2Before ((nth T_A3 p3 (IntKind.wrap .i64 (p4 - 1))), (nth T_A3 p3 p4), ())) fun r7 =>
 bif !r7.1 then
 some (false, ())
 else
 L_spec_l2Heap_4 n F_spec_l2Sides F_spec_l2In F_spec_l2Before m0 p0 p1 p2 p3 (IntKind.wrap .i64 (p4 + 1))
 else none
 else none
 else
 L_spec_l2Heap_4 n F_spec_l2Sides F_spec_l2In F_spec_l2Before m0 p0 p1 p2 p3 (IntKind.wrap .i64 (p4 + 1))
 else none
 else
 some (true, ()) := by kernel_rfl
def P_spec_l2Heap : Ft_spec_l2Heap := hid (runF (X_spec_l2Heap N P_spec_l2Sides P_spec_l2In P_spec_l2Before) B_spec_l2Heap As_spec_l2Heap R_spec_l2Heap M_spec_l2Heap)
theorem h_spec_l2Heap : P_spec_l2Heap = runF (X_spec_l2Heap N P_spec_l2Sides P_spec_l2In P_spec_l2Before) B_spec_l2Heap As_spec_l2Heap R_spec_l2Heap M_spec_l2Heap := hid_eq _
def C_spec_l2Heap : Contract := ⟨As_spec_l2Heap, R_spec_l2Heap, M_spec_l2Heap, P_spec_l2Heap⟩
theorem s_spec_l2Heap : Sound Try.prog GG 42 C_spec_l2Heap := by
 unfold C_spec_l2Heap; rw [h_spec_l2Heap]
 exact sound_of_run (fn := Try.f42) hmix hstable (tyOK_of ttOK) (hglob _) (conOK_of ⟨s_spec_l2Sides, s_spec_l2In, s_spec_l2Before, trivial⟩) (mconOK_of trivial) (by kernel_rfl) (by kernel_rfl) (by kernel_rfl) (by kernel_rfl) (by kernel_rfl) (of_decide_eq_true (by kernel_rfl))
def l_spec_l2Heap_4 : Nat → Int → Int → Int → (List D_A3) → Int → Option (denL R_spec_l2Heap) := hid (fun m0 p0 p1 p2 p3 p4 => L_spec_l2Heap_4 N P_spec_l2Sides P_spec_l2In P_spec_l2Before m0 p0 p1 p2 p3 p4)
theorem h_spec_l2Heap_4 : l_spec_l2Heap_4 = fun m0 p0 p1 p2 p3 p4 => L_spec_l2Heap_4 N P_spec_l2Sides P_spec_l2In P_spec_l2Before m0 p0 p1 p2 p3 p4 := hid_eq _
theorem p_spec_l2Heap (a0 : D_Heap) : P_spec_l2Heap (a0, ()) = 
 Option.bind (P_spec_l2Sides (a0.1, a0.2.1, a0.2.2.1, ())) fun r0 =>
 bif !r0.1 then
 some (false, ())
 else
 l_spec_l2Heap_4 N a0.1 a0.2.1 a0.2.2.1 a0.2.2.2.1 0 := by
 rewrite [h_spec_l2Heap, h_spec_l2Heap_4]
 exact e_spec_l2Heap N P_spec_l2Sides P_spec_l2In P_spec_l2Before a0
theorem q_spec_l2Heap_4 (m0 : Nat) (p0 p1 p2 : Int) (p3 : List D_A3) (p4 : Int) : l_spec_l2Heap_4 (m0 + 1) p0 p1 p2 p3 p4 = 
 bif decide (p4 < (List.length p3 : Int)) then
 bif inB p4 (List.length p3) then
 Option.bind (P_spec_l2In ((p0, (p1, (p2, (p3, ())))), (nth T_A3 p3 p4), ())) fun r2 =>
 bif !r2.1 then
 some (false, ())
 else
 bif decide (p4 > 0) then
 bif inB (IntKind.wrap .i64 (p4 - 1)) (List.length p3) then
 bif inB p4 (List.length p3) then
 Option.bind (P_spec_l2Before ((nth T_A3 p3 (IntKind.wrap .i64 (p4 - 1))), (nth T_A3 p3 p4), ())) fun r7 =>
 bif !r7.1 then
 some (false, ())
 else
 l_spec_l2Heap_4 m0 p0 p1 p2 p3 (IntKind.wrap .i64 (p4 + 1))
 else none
 else none
 else
 l_spec_l2Heap_4 m0 p0 p1 p2 p3 (IntKind.wrap .i64 (p4 + 1))
 else none
 else
 some (true, ()) := by
 rewrite [h_spec_l2Heap_4]
 exact e_spec_l2Heap_4 N P_spec_l2Sides P_spec_l2In P_spec_l2Before m0 p0 p1 p2 p3 p4

abbrev As_spec_l2Has : List ATy := [.data true T_Heap, .data true T_A3]
abbrev R_spec_l2Has : List (Bool × Ty) := [(false, .bool)]
abbrev M_spec_l2Has : List RMode := []
abbrev Ft_spec_l2Has : Type := D_Heap × D_A3 × Unit → Option (Bool × Unit)
def X_spec_l2Has (n : Nat) : Ctx := { types := TT, globals := [], con := [], keep := [(2, ⟨[.box 2, .box 3, .tmp 2, .tmp 3, .tmp 5], []⟩)], results := [.tmp 4], ntmps := 20, n := n }
def B_spec_l2Has : Code := (Try.f65.body).getD .skip
def L_spec_l2Has_2 (n m0 : Nat) (p0 p1 p2 : Int) (p3 : List D_A3) (p4 p5 : Int) (p6 p7 : Int) : Option (denL R_spec_l2Has) := loopF (X_spec_l2Has n) B_spec_l2Has R_spec_l2Has M_spec_l2Has 2 [m0] [(.ver, .num 1), (.box 2, .box 0 false [.int .i64 p0, .int .i64 p1, .int .i64 p2, .imm T_A3 p3 (some 3)]), (.box 3, .box 0 false [.int .i64 p4, .int .i64 p5, .int .i64 p6]), (.tmp 2, .val false [.addr 2 0 0]), (.tmp 3, .val false [.addr 3 0 0]), (.tmp 5, .val false [.int .i64 p7])]
theorem e_spec_l2Has (n : Nat) (a0 : D_Heap) (a1 : D_A3) : runF (X_spec_l2Has n) B_spec_l2Has As_spec_l2Has R_spec_l2Has M_spec_l2Has (a0, a1, ()) = 
 L_spec_l2Has_2 n n a0.1 a0.2.1 a0.2.2.1 a0.2.2.2.1 a1.1 a1.2.1 a1.2.2.1 0 := by kernel_rfl
theorem e_spec_l2Has_2 (n m0 : Nat) (p0 p1 p2 : Int) (p3 : List D_A3) (p4 p5 : Int) (p6 p7 : Int) : L_spec_l2Has_2 n (m0 + 1) p0 p1 p2 p3 p4 p5 p6 p7 = 
 bif decide (p7 < (List.length p3 : Int)) then
 bif inB p7 (List.length p3) then
 bif (decide (((nth T_A3 p3 p7)).1 = p4) && (decide ((((nth T_A3 p3 p7)).2).1 = p5) && (decide (((((nth T_A3 p3 p7)).2).2).1 = p6) && true))) then
 some (true, ())
 else
 L_spec_l2Has_2 n m0 p0 p1 p2 p3 p4 p5 p6 (IntKind.wrap .i64 (p7 + 1))
 else none
 else
 some (false, ()) := by kernel_rfl
def P_spec_l2Has : Ft_spec_l2Has := hid (runF (X_spec_l2Has N) B_spec_l2Has As_spec_l2Has R_spec_l2Has M_spec_l2Has)
theorem h_spec_l2Has : P_spec_l2Has = runF (X_spec_l2Has N) B_spec_l2Has As_spec_l2Has R_spec_l2Has M_spec_l2Has := hid_eq _
def C_spec_l2Has : Contract := ⟨As_spec_l2Has, R_spec_l2Has, M_spec_l2Has, P_spec_l2Has⟩
theorem s_spec_l2Has : Sound Try.prog GG 65 C_spec_l2Has := by
 unfold C_spec_l2Has; rw [h_spec_l2Has]
 exact sound_of_run (fn := Try.f65) hmix hstable (tyOK_of ttOK) (hglob _) (conOK_of trivial) (mconOK_of trivial) (by kernel_rfl) (by kernel_rfl) (by kernel_rfl) (by kernel_rfl) (by kernel_rfl) (of_decide_eq_true (by kernel_rfl))
def l_spec_l2Has_2 : Nat → Int → Int → Int → (List D_A3) → Int → Int → Int → Int → Option (denL R_spec_l2Has) := hid (fun m0 p0 p1 p2 p3 p4 p5 p6 p7 => L_spec_l2Has_2 N m0 p0 p1 p2 p3 p4 p5 p6 p7)
theorem h_spec_l2Has_2 : l_spec_l2Has_2 = fun m0 p0 p1 p2 p3 p4 p5 p6 p7 => L_spec_l2Has_2 N m0 p0 p1 p2 p3 p4 p5 p6 p7 := hid_eq _
theorem p_spec_l2Has (a0 : D_Heap) (a1 : D_A3) : P_spec_l2Has (a0, a1, ()) = 
 l_spec_l2Has_2 N a0.1 a0.2.1 a0.2.2.1 a0.2.2.2.1 a1.1 a1.2.1 a1.2.2.1 0 := by
 rewrite [h_spec_l2Has, h_spec_l2Has_2]
 exact e_spec_l2Has N a0 a1
theorem q_spec_l2Has_2 (m0 : Nat) (p0 p1 p2 : Int) (p3 : List D_A3) (p4 p5 : Int) (p6 p7 : Int) : l_spec_l2Has_2 (m0 + 1) p0 p1 p2 p3 p4 p5 p6 p7 = 
 bif decide (p7 < (List.length p3 : Int)) then
 bif inB p7 (List.length p3) then
 bif (decide (((nth T_A3 p3 p7)).1 = p4) && (decide ((((nth T_A3 p3 p7)).2).1 = p5) && (decide (((((nth T_A3 p3 p7)).2).2).1 = p6) && true))) then
 some (true, ())
 else
 l_spec_l2Has_2 m0 p0 p1 p2 p3 p4 p5 p6 (IntKind.wrap .i64 (p7 + 1))
 else none
 else
 some (false, ()) := by
 rewrite [h_spec_l2Has_2]
 exact e_spec_l2Has_2 N m0 p0 p1 p2 p3 p4 p5 p6 p7

abbrev As_spec_OtherCells : List ATy := [.data true T_Heap]
abbrev R_spec_OtherCells : List (Bool × Ty) := [(true, T_Heap), (false, .bool)]
abbrev M_spec_OtherCells : List RMode := [.own 49]
abbrev Ft_spec_OtherCells : Type := D_Heap × Unit → Option (D_Heap × Bool × Unit)
def X_spec_OtherCells (n : Nat) (F_spec_l2Heap : Ft_spec_l2Heap) (F_spec_l2Empty : Ft_spec_l2Empty) (F_spec_l2Has : Ft_spec_l2Has) (F_spec_l2All : Ft_spec_l2All) : Ctx := { types := TT, globals := [], con := [(42, ⟨As_spec_l2Heap, R_spec_l2Heap, M_spec_l2Heap, F_spec_l2Heap⟩), (63, ⟨As_spec_l2Empty, R_spec_l2Empty, M_spec_l2Empty, F_spec_l2Empty⟩), (65, ⟨As_spec_l2Has, R_spec_l2Has, M_spec_l2Has, F_spec_l2Has⟩), (83, ⟨As_spec_l2All, R_spec_l2All, M_spec_l2All, F_spec_l2All⟩)], keep := [(5, ⟨[.box 1, .box 2, .box 4, .tmp 1, .tmp 2, .tmp 4, .tmp 5, .tmp 6], []⟩)], results := [.cell 2 26, .tmp 3], ntmps := 43, n := n }
def B_spec_OtherCells : Code := (Try.f87.body).getD .skip
def L_spec_OtherCells_5 (n : Nat) (F_spec_l2Heap : Ft_spec_l2Heap) (F_spec_l2Empty : Ft_spec_l2Empty) (F_spec_l2Has : Ft_spec_l2Has) (F_spec_l2All : Ft_spec_l2All) (m0 : Nat) (p0 p1 p2 : Int) (p3 : List D_A3) (p4 p5 p6 : Int) (p7 : List D_A3) (p8 p9 p10 : Int) (p11 p12 : List D_A3) (p13 : Int) : Option (denL R_spec_OtherCells) := loopF (X_spec_OtherCells n F_spec_l2Heap F_spec_l2Empty F_spec_l2Has F_spec_l2All) B_spec_OtherCells R_spec_OtherCells M_spec_OtherCells 5 [m0] [(.ver, .num 1), (.box 1, .box 0 false [.int .i64 p0, .int .i64 p1, .int .i64 p2, .imm T_A3 p3 (some 3)]), (.box 2, .box 0 false [.int .i64 p4, .int .i64 p5, .int .i64 p6, .own 49 T_A3 0 p7]), (.box 4, .box 0 false [.int .i64 p8, .int .i64 p9, .int .i64 p10, .own 49 T_A3 0 p11]), (.tmp 1, .val false [.addr 1 0 0]), (.tmp 2, .val false [.addr 2 0 0]), (.tmp 4, .val false [.addr 4 0 0]), (.tmp 5, .val false [.own 49 T_A3 0 p12]), (.tmp 6, .val false [.int .i64 p13])]
theorem e_spec_OtherCells (n : Nat) (F_spec_l2Heap : Ft_spec_l2Heap) (F_spec_l2Empty : Ft_spec_l2Empty) (F_spec_l2Has : Ft_spec_l2Has) (F_spec_l2All : Ft_spec_l2All) (a0 : D_Heap) : runF (X_spec_OtherCells n F_spec_l2Heap F_spec_l2Empty F_spec_l2Has F_spec_l2All) B_spec_OtherCells As_spec_OtherCells R_spec_OtherCells M_spec_OtherCells (a0, ()) = 
 Option.bind (F_spec_l2Heap (a0, ())) fun r0 =>
 bif !r0.1 then
 some ((0, (0, (0, (([] : List D_A3), ())))), false, ())
 else
 Option.bind (F_spec_l2Empty (a0.1, a0.2.1, a0.2.2.1, ())) fun r2 =>
 Option.bind (F_spec_l2All (a0, ())) fun r3 =>
 L_spec_OtherCells_5 n F_spec_l2Heap F_spec_l2Empty F_spec_l2Has F_spec_l2All n a0.1 a0.2.1 a0.2.2.1 a0.2.2.2.1 0 0 0 ([] : List D_A3) r2.1.1 r2.1.2.1 r2.1.2.2.1 r2.1.2.2.2.1 r3.1 0 := by kernel_rfl
theorem e_spec_OtherCells_5 (n : Nat) (F_spec_l2Heap : Ft_spec_l2Heap) (F_spec_l2Empty : Ft_spec_l2Empty) (F_spec_l2Has : Ft_spec_l2Has) (F_spec_l2All : Ft_spec_l2All) (m0 : Nat) (p0 p1 p2 : Int) (p3 : List D_A3) (p4 p5 p6 : Int) (p7 : List D_A3) (p8 p9 p10 : Int) (p11 p12 : List D_A3) (p13 : Int) : L_spec_OtherCells_5 n F_spec_l2Heap F_spec_l2Empty F_spec_l2Has F_spec_l2All (m0 + 1) p0 p1 p2 p3 p4 p5 p6 p7 p8 p9 p10 p11 p12 p13 = 
 bif decide (p13 < (List.length p12 : Int)) then
 bif inB p13 (List.length p12) then
 Option.bind (F_spec_l2Has ((p0, (p1, (p2, (p3, ())))), (nth T_A3 p12 p13), ())) fun r2 =>
 bif !r2.1 then
 bif inB p13 (List.length p12) then
 bif (decide (((List.length p11) + (List.length ([(nth T_A3 p12 p13)] : List D_A3))) * 24 ≤ 140737488355328) && decide (((List.length p11) + (List.length ([(nth T_A3 p12 p13)] : List D_A3))) ≤ 140737488355328)) then
 L_spec_OtherCells_5 n F_spec_l2Heap F_spec_l2Empty F_spec_l2Has F_spec_l2All m0 p0 p1 p2 p3 p4 p5 p6 p7 p8 p9 p10 (p11 ++ ([(nth T_A3 p12 p13)] : List D_A3)) p12 (IntKind.wrap .i64 (p13 + 1))
 else none
 else none
 else
 L_spec_OtherCells_5 n F_spec_l2Heap F_spec_l2Empty F_spec_l2Has F_spec_l2All m0 p0 p1 p2 p3 p4 p5 p6 p7 p8 p9 p10 p11 p12 (IntKind.wrap .i64 (p13 + 1))
 else none
 else
 some ((p8, (p9, (p10, (p11, ())))), true, ()) := by kernel_rfl
def P_spec_OtherCells : Ft_spec_OtherCells := hid (runF (X_spec_OtherCells N P_spec_l2Heap P_spec_l2Empty P_spec_l2Has P_spec_l2All) B_spec_OtherCells As_spec_OtherCells R_spec_OtherCells M_spec_OtherCells)
theorem h_spec_OtherCells : P_spec_OtherCells = runF (X_spec_OtherCells N P_spec_l2Heap P_spec_l2Empty P_spec_l2Has P_spec_l2All) B_spec_OtherCells As_spec_OtherCells R_spec_OtherCells M_spec_OtherCells := hid_eq _
def C_spec_OtherCells : Contract := ⟨As_spec_OtherCells, R_spec_OtherCells, M_spec_OtherCells, P_spec_OtherCells⟩
theorem s_spec_OtherCells : Sound Try.prog GG 87 C_spec_OtherCells := by
 unfold C_spec_OtherCells; rw [h_spec_OtherCells]
 exact sound_of_run (fn := Try.f87) hmix hstable (tyOK_of ttOK) (hglob _) (conOK_of ⟨s_spec_l2Heap, s_spec_l2Empty, s_spec_l2Has, s_spec_l2All, trivial⟩) (mconOK_of trivial) (by kernel_rfl) (by kernel_rfl) (by kernel_rfl) (by kernel_rfl) (by kernel_rfl) (of_decide_eq_true (by kernel_rfl))
def l_spec_OtherCells_5 : Nat → Int → Int → Int → (List D_A3) → Int → Int → Int → (List D_A3) → Int → Int → Int → (List D_A3) → (List D_A3) → Int → Option (denL R_spec_OtherCells) := hid (fun m0 p0 p1 p2 p3 p4 p5 p6 p7 p8 p9 p10 p11 p12 p13 => L_spec_OtherCells_5 N P_spec_l2Heap P_spec_l2Empty P_spec_l2Has P_spec_l2All m0 p0 p1 p2 p3 p4 p5 p6 p7 p8 p9 p10 p11 p12 p13)
theorem h_spec_OtherCells_5 : l_spec_OtherCells_5 = fun m0 p0 p1 p2 p3 p4 p5 p6 p7 p8 p9 p10 p11 p12 p13 => L_spec_OtherCells_5 N P_spec_l2Heap P_spec_l2Empty P_spec_l2Has P_spec_l2All m0 p0 p1 p2 p3 p4 p5 p6 p7 p8 p9 p10 p11 p12 p13 := hid_eq _
theorem p_spec_OtherCells (a0 : D_Heap) : P_spec_OtherCells (a0, ()) = 
 Option.bind (P_spec_l2Heap (a0, ())) fun r0 =>
 bif !r0.1 then
 some ((0, (0, (0, (([] : List D_A3), ())))), false, ())
 else
 Option.bind (P_spec_l2Empty (a0.1, a0.2.1, a0.2.2.1, ())) fun r2 =>
 Option.bind (P_spec_l2All (a0, ())) fun r3 =>
 l_spec_OtherCells_5 N a0.1 a0.2.1 a0.2.2.1 a0.2.2.2.1 0 0 0 ([] : List D_A3) r2.1.1 r2.1.2.1 r2.1.2.2.1 r2.1.2.2.2.1 r3.1 0 := by
 rewrite [h_spec_OtherCells, h_spec_OtherCells_5]
 exact e_spec_OtherCells N P_spec_l2Heap P_spec_l2Empty P_spec_l2Has P_spec_l2All a0
theorem q_spec_OtherCells_5 (m0 : Nat) (p0 p1 p2 : Int) (p3 : List D_A3) (p4 p5 p6 : Int) (p7 : List D_A3) (p8 p9 p10 : Int) (p11 p12 : List D_A3) (p13 : Int) : l_spec_OtherCells_5 (m0 + 1) p0 p1 p2 p3 p4 p5 p6 p7 p8 p9 p10 p11 p12 p13 = 
 bif decide (p13 < (List.length p12 : Int)) then
 bif inB p13 (List.length p12) then
 Option.bind (P_spec_l2Has ((p0, (p1, (p2, (p3, ())))), (nth T_A3 p12 p13), ())) fun r2 =>
 bif !r2.1 then
 bif inB p13 (List.length p12) then
 bif (decide (((List.length p11) + (List.length ([(nth T_A3 p12 p13)] : List D_A3))) * 24 ≤ 140737488355328) && decide (((List.length p11) + (List.length ([(nth T_A3 p12 p13)] : List D_A3))) ≤ 140737488355328)) then
 l_spec_OtherCells_5 m0 p0 p1 p2 p3 p4 p5 p6 p7 p8 p9 p10 (p11 ++ ([(nth T_A3 p12 p13)] : List D_A3)) p12 (IntKind.wrap .i64 (p13 + 1))
 else none
 else none
 else
 l_spec_OtherCells_5 m0 p0 p1 p2 p3 p4 p5 p6 p7 p8 p9 p10 p11 p12 (IntKind.wrap .i64 (p13 + 1))
 else none
 else
 some ((p8, (p9, (p10, (p11, ())))), true, ()) := by
 rewrite [h_spec_OtherCells_5]
 exact e_spec_OtherCells_5 N P_spec_l2Heap P_spec_l2Empty P_spec_l2Has P_spec_l2All m0 p0 p1 p2 p3 p4 p5 p6 p7 p8 p9 p10 p11 p12 p13

abbrev As_spec_l2Stack : List ATy := [.data false (.int .i64), .data false (.int .i64), .data false (.int .i64), .data false (.sl (.int .i64))]
abbrev R_spec_l2Stack : List (Bool × Ty) := [(true, T_Heap)]
abbrev M_spec_l2Stack : List RMode := [.own 49]
abbrev Ft_spec_l2Stack : Type := Int × Int × Int × (List Int) × Unit → Option (D_Heap × Unit)
def X_spec_l2Stack (n : Nat) (F_spec_l2Empty : Ft_spec_l2Empty) (F_spec_l2All : Ft_spec_l2All) : Ctx := { types := TT, globals := [], con := [(63, ⟨As_spec_l2Empty, R_spec_l2Empty, M_spec_l2Empty, F_spec_l2Empty⟩), (83, ⟨As_spec_l2All, R_spec_l2All, M_spec_l2All, F_spec_l2All⟩)], keep := [(4, ⟨[.box 8, .box 9, .tmp 1, .tmp 3, .tmp 8, .tmp 9, .tmp 10, .tmp 11], []⟩)], results := [.cell 8 26], ntmps := 56, n := n }
def B_spec_l2Stack : Code := (Try.f88.body).getD .skip
def L_spec_l2Stack_4 (n : Nat) (F_spec_l2Empty : Ft_spec_l2Empty) (F_spec_l2All : Ft_spec_l2All) (m0 : Nat) (p0 p1 p2 : Int) (p3 : List D_A3) (p4 p5 p6 : Int) (p7 : List D_A3) (p8 : Int) (p9 : List Int) (p10 : List D_A3) (p11 : Int) : Option (denL R_spec_l2Stack) := loopF (X_spec_l2Stack n F_spec_l2Empty F_spec_l2All) B_spec_l2Stack R_spec_l2Stack M_spec_l2Stack 4 [m0] [(.ver, .num 1), (.box 8, .box 0 false [.int .i64 p0, .int .i64 p1, .int .i64 p2, .own 49 T_A3 0 p3]), (.box 9, .box 0 false [.int .i64 p4, .int .i64 p5, .int .i64 p6, .own 49 T_A3 0 p7]), (.tmp 1, .val false [.int .i64 p8]), (.tmp 3, .val false [.imm (.int .i64) p9 (some 3)]), (.tmp 8, .val false [.addr 8 0 0]), (.tmp 9, .val false [.addr 9 0 0]), (.tmp 10, .val false [.own 49 T_A3 0 p10]), (.tmp 11, .val false [.int .i64 p11])]
theorem e_spec_l2Stack (n : Nat) (F_spec_l2Empty : Ft_spec_l2Empty) (F_spec_l2All : Ft_spec_l2All) (a0 a1 a2 : Int) (a3 : List Int) : runF (X_spec_l2Stack n F_spec_l2Empty F_spec_l2All) B_spec_l2Stack As_spec_l2Stack R_spec_l2Stack M_spec_l2Stack (a0, a1, a2, a3, ()) = 
 Option.bind (F_spec_l2Empty (a0, a1, a2, ())) fun r0 =>
 Option.bind (F_spec_l2All (r0.1, ())) fun r1 =>
 L_spec_l2Stack_4 n F_spec_l2Empty F_spec_l2All n 0 0 0 ([] : List D_A3) r0.1.1 r0.1.2.1 r0.1.2.2.1 r0.1.2.2.2.1 a1 a3 r1.1 0 := by kernel_rfl
theorem e_spec_l2Stack_4 (n : Nat) (F_spec_l2Empty : Ft_spec_l2Empty) (F_spec_l2All : Ft_spec_l2All) (m0 : Nat) (p0 p1 p2 : Int) (p3 : List D_A3) (p4 p5 p6 : Int) (p7 : List D_A3) (p8 : Int) (p9 : List Int) (p10 : List D_A3) (p11 : Int) : L_spec_l2Stack_4 n F_spec_l2Empty F_spec_l2All (m0 + 1) p0 p1 p2 p3 p4 p5 p6 p7 p8 p9 p10 p11 = 
 bif decide (p11 < (List.length p10 : Int)) then
 bif inB p11 (List.length p10) then
 bif inB p11 (List.length p10) then
 bif inB p11 (List.length p10) then
 bif inB (IntKind.wrap .i64 ((IntKind.wrap .i64 (((nth T_A3 p10 p11)).1 * p8)) + (((nth T_A3 p10 p11)).2).1)) (List.length p9) then
 bif decide (((((nth T_A3 p10 p11)).2).2).1 < (nth ((.int .i64) : Ty) p9 (IntKind.wrap .i64 ((IntKind.wrap .i64 (((nth T_A3 p10 p11)).1 * p8)) + (((nth T_A3 p10 p11)).2).1)))) then
 bif inB p11 (List.length p10) then
 bif (decide (((List.length p7) + (List.length ([(nth T_A3 p10 p11)] : List D_A3))) * 24 ≤ 140737488355328) && decide (((List.length p7) + (List.length ([(nth T_A3 p10 p11)] : List D_A3))) ≤ 140737488355328)) then
 L_spec_l2Stack_4 n F_spec_l2Empty F_spec_l2All m0 p0 p1 p2 p3 p4 p5 p6 (p7 ++ ([(nth T_A3 p10 p11)] : List D_A3)) p8 p9 p10 (IntKind.wrap .i64 (p11 + 1))
 else none
 else none
 else
 L_spec_l2Stack_4 n F_spec_l2Empty F_spec_l2All m0 p0 p1 p2 p3 p4 p5 p6 p7 p8 p9 p10 (IntKind.wrap .i64 (p11 + 1))
 else none
 else none
 else none
 else none
 else
 some ((p4, (p5, (p6, (p7, ())))), ()) := by kernel_rfl
def P_spec_l2Stack : Ft_spec_l2Stack := hid (runF (X_spec_l2Stack N P_spec_l2Empty P_spec_l2All) B_spec_l2Stack As_spec_l2Stack R_spec_l2Stack M_spec_l2Stack)
theorem h_spec_l2Stack : P_spec_l2Stack = runF (X_spec_l2Stack N P_spec_l2Empty P_spec_l2All) B_spec_l2Stack As_spec_l2Stack R_spec_l2Stack M_spec_l2Stack := hid_eq _
def C_spec_l2Stack : Contract := ⟨As_spec_l2Stack, R_spec_l2Stack, M_spec_l2Stack, P_spec_l2Stack⟩
theorem s_spec_l2Stack : Sound Try.prog GG 88 C_spec_l2Stack := by
 unfold C_spec_l2Stack; rw [h_spec_l2Stack]
 exact sound_of_run (fn := Try.f88) hmix hstable (tyOK_of ttOK) (hglob _) (conOK_of ⟨s_spec_l2Empty, s_spec_l2All, trivial⟩) (mconOK_of trivial) (by kernel_rfl) (by kernel_rfl) (by kernel_rfl) (by kernel_rfl) (by kernel_rfl) (of_decide_eq_true (by kernel_rfl))
def l_spec_l2Stack_4 : Nat → Int → Int → Int → (List D_A3) → Int → Int → Int → (List D_A3) → Int → (List Int) → (List D_A3) → Int → Option (denL R_spec_l2Stack) := hid (fun m0 p0 p1 p2 p3 p4 p5 p6 p7 p8 p9 p10 p11 => L_spec_l2Stack_4 N P_spec_l2Empty P_spec_l2All m0 p0 p1 p2 p3 p4 p5 p6 p7 p8 p9 p10 p11)
theorem h_spec_l2Stack_4 : l_spec_l2Stack_4 = fun m0 p0 p1 p2 p3 p4 p5 p6 p7 p8 p9 p10 p11 => L_spec_l2Stack_4 N P_spec_l2Empty P_spec_l2All m0 p0 p1 p2 p3 p4 p5 p6 p7 p8 p9 p10 p11 := hid_eq _
theorem p_spec_l2Stack (a0 a1 a2 : Int) (a3 : List Int) : P_spec_l2Stack (a0, a1, a2, a3, ()) = 
 Option.bind (P_spec_l2Empty (a0, a1, a2, ())) fun r0 =>
 Option.bind (P_spec_l2All (r0.1, ())) fun r1 =>
 l_spec_l2Stack_4 N 0 0 0 ([] : List D_A3) r0.1.1 r0.1.2.1 r0.1.2.2.1 r0.1.2.2.2.1 a1 a3 r1.1 0 := by
 rewrite [h_spec_l2Stack, h_spec_l2Stack_4]
 exact e_spec_l2Stack N P_spec_l2Empty P_spec_l2All a0 a1 a2 a3
theorem q_spec_l2Stack_4 (m0 : Nat) (p0 p1 p2 : Int) (p3 : List D_A3) (p4 p5 p6 : Int) (p7 : List D_A3) (p8 : Int) (p9 : List Int) (p10 : List D_A3) (p11 : Int) : l_spec_l2Stack_4 (m0 + 1) p0 p1 p2 p3 p4 p5 p6 p7 p8 p9 p10 p11 = 
 bif decide (p11 < (List.length p10 : Int)) then
 bif inB p11 (List.length p10) then
 bif inB p11 (List.length p10) then
 bif inB p11 (List.length p10) then
 bif inB (IntKind.wrap .i64 ((IntKind.wrap .i64 (((nth T_A3 p10 p11)).1 * p8)) + (((nth T_A3 p10 p11)).2).1)) (List.length p9) then
 bif decide (((((nth T_A3 p10 p11)).2).2).1 < (nth ((.int .i64) : Ty) p9 (IntKind.wrap .i64 ((IntKind.wrap .i64 (((nth T_A3 p10 p11)).1 * p8)) + (((nth T_A3 p10 p11)).2).1)))) then
 bif inB p11 (List.length p10) then
 bif (decide (((List.length p7) + (List.length ([(nth T_A3 p10 p11)] : List D_A3))) * 24 ≤ 140737488355328) && decide (((List.length p7) + (List.length ([(nth T_A3 p10 p11)] : List D_A3))) ≤ 140737488355328)) then
 l_spec_l2Stack_4 m0 p0 p1 p2 p3 p4 p5 p6 (p7 ++ ([(nth T_A3 p10 p11)] : List D_A3)) p8 p9 p10 (IntKind.wrap .i64 (p11 + 1))
 else none
 else none
 else
 l_spec_l2Stack_4 m0 p0 p1 p2 p3 p4 p5 p6 p7 p8 p9 p10 (IntKind.wrap .i64 (p11 + 1))
 else none
 else none
 else none
 else none
 else
 some ((p4, (p5, (p6, (p7, ())))), ()) := by
 rewrite [h_spec_l2Stack_4]
 exact e_spec_l2Stack_4 N P_spec_l2Empty P_spec_l2All m0 p0 p1 p2 p3 p4 p5 p6 p7 p8 p9 p10 p11

abbrev As_spec_l2Others : List ATy := [.data false (.int .i64)]
abbrev R_spec_l2Others : List (Bool × Ty) := [(false, (.int .i64)), (false, (.int .i64))]
abbrev M_spec_l2Others : List RMode := []
abbrev Ft_spec_l2Others : Type := Int × Unit → Option (Int × Int × Unit)
def X_spec_l2Others (n : Nat) : Ctx := { types := TT, globals := [], con := [], keep := [], results := [.tmp 2, .tmp 3], ntmps := 9, n := n }
def B_spec_l2Others : Code := (Try.f93.body).getD .skip
theorem e_spec_l2Others (n : Nat) (a0 : Int) : runF (X_spec_l2Others n) B_spec_l2Others As_spec_l2Others R_spec_l2Others M_spec_l2Others (a0, ()) = 
 bif decide (a0 = 0) then
 some (1, 2, ())
 else
 bif decide (a0 = 1) then
 some (0, 2, ())
 else
 some (0, 1, ()) := by kernel_rfl
def P_spec_l2Others : Ft_spec_l2Others := hid (runF (X_spec_l2Others N) B_spec_l2Others As_spec_l2Others R_spec_l2Others M_spec_l2Others)
theorem h_spec_l2Others : P_spec_l2Others = runF (X_spec_l2Others N) B_spec_l2Others As_spec_l2Others R_spec_l2Others M_spec_l2Others := hid_eq _
def C_spec_l2Others : Contract := ⟨As_spec_l2Others, R_spec_l2Others, M_spec_l2Others, P_spec_l2Others⟩
theorem s_spec_l2Others : Sound Try.prog GG 93 C_spec_l2Others := by
 unfold C_spec_l2Others; rw [h_spec_l2Others]
 exact sound_of_run (fn := Try.f93) hmix hstable (tyOK_of ttOK) (hglob _) (conOK_of trivial) (mconOK_of trivial) (by kernel_rfl) (by kernel_rfl) (by kernel_rfl) (by kernel_rfl) (by kernel_rfl) (of_decide_eq_true (by kernel_rfl))
theorem p_spec_l2Others (a0 : Int) : P_spec_l2Others (a0, ()) = 
 bif decide (a0 = 0) then
 some (1, 2, ())
 else
 bif decide (a0 = 1) then
 some (0, 2, ())
 else
 some (0, 1, ()) := by
 rewrite [h_spec_l2Others]
 exact e_spec_l2Others N a0

abbrev As_spec_l2View : List ATy := [.data true T_Heap, .data false (.int .i64)]
abbrev R_spec_l2View : List (Bool × Ty) := [(false, (.sl (.int .i64)))]
abbrev M_spec_l2View : List RMode := [.own 3]
abbrev Ft_spec_l2View : Type := D_Heap × Int × Unit → Option ((List Int) × Unit)
def X_spec_l2View (n : Nat) (F_spec_l2Long : Ft_spec_l2Long) (F_spec_l2Others : Ft_spec_l2Others) : Ctx := { types := TT, globals := [], con := [(32, ⟨As_spec_l2Long, R_spec_l2Long, M_spec_l2Long, F_spec_l2Long⟩), (93, ⟨As_spec_l2Others, R_spec_l2Others, M_spec_l2Others, F_spec_l2Others⟩)], keep := [(4, ⟨[.box 2, .tmp 2, .tmp 5, .tmp 6, .tmp 7, .tmp 8], []⟩)], results := [.tmp 4], ntmps := 54, n := n }
def B_spec_l2View : Code := (Try.f91.body).getD .skip
def L_spec_l2View_4 (n : Nat) (F_spec_l2Long : Ft_spec_l2Long) (F_spec_l2Others : Ft_spec_l2Others) (m0 : Nat) (p0 p1 p2 : Int) (p3 : List D_A3) (p4 p5 : Int) (p6 : List Int) (p7 : Int) : Option (denL R_spec_l2View) := loopF (X_spec_l2View n F_spec_l2Long F_spec_l2Others) B_spec_l2View R_spec_l2View M_spec_l2View 4 [m0] [(.ver, .num 1), (.box 2, .box 0 false [.int .i64 p0, .int .i64 p1, .int .i64 p2, .imm T_A3 p3 (some 3)]), (.tmp 2, .val false [.addr 2 0 0]), (.tmp 5, .val false [.int .i64 p4]), (.tmp 6, .val false [.int .i64 p5]), (.tmp 7, .val false [.own 3 (.int .i64) 0 p6]), (.tmp 8, .val false [.int .i64 p7])]
theorem e_spec_l2View (n : Nat) (F_spec_l2Long : Ft_spec_l2Long) (F_spec_l2Others : Ft_spec_l2Others) (a0 : D_Heap) (a1 : Int) : runF (X_spec_l2View n F_spec_l2Long F_spec_l2Others) B_spec_l2View As_spec_l2View R_spec_l2View M_spec_l2View (a0, a1, ()) = 
 Option.bind (F_spec_l2Others (a1, ())) fun r0 =>
 Option.bind (F_spec_l2Long (a0, r0.1, ())) fun r1 =>
 Option.bind (F_spec_l2Long (a0, r0.2.1, ())) fun r2 =>
 bif (decide ((0 : Int) ≤ (IntKind.wrap .i64 (r1.1 * r2.1))) && decide (((IntKind.wrap .i64 (r1.1 * r2.1)) : Int) ≤ (IntKind.wrap .i64 (r1.1 * r2.1))) && decide (((IntKind.wrap .i64 (r1.1 * r2.1)) : Int) * (8 : Nat) ≤ 140737488355328) && decide (((IntKind.wrap .i64 (r1.1 * r2.1)) : Int) ≤ 140737488355328)) then
 L_spec_l2View_4 n F_spec_l2Long F_spec_l2Others n a0.1 a0.2.1 a0.2.2.1 a0.2.2.2.1 r0.1 r0.2.1 (List.replicate (Int.toNat (IntKind.wrap .i64 (r1.1 * r2.1))) (Ty.dflt ((.int .i64) : Ty))) 0
 else none := by kernel_rfl
theorem e_spec_l2View_4 (n : Nat) (F_spec_l2Long : Ft_spec_l2Long) (F_spec_l2Others : Ft_spec_l2Others) (m0 : Nat) (p0 p1 p2 : Int) (p3 : List D_A3) (p4 p5 : Int) (p6 : List Int) (p7 : Int) : L_spec_l2View_4 n F_spec_l2Long F_spec_l2Others (m0 + 1) p0 p1 p2 p3 p4 p5 p6 p7 = 
 bif decide (p7 < (List.length p3 : Int)) then
 bif inB p7 (List.length p3) then
 bif inB p4 3 then
 Option.bind (F_spec_l2Long ((p0, (p1, (p2, (p3, ())))), p5, ())) fun r3 =>
 bif inB p7 (List.length p3) then
 bif inB p5 3 then
 bif inB (IntKind.wrap .i64 ((IntKind.wrap .i64 ((bif decide (p4 = (0 : Int)) then ((nth T_A3 p3 p7)).1 else (bif decide (p4 = (1 : Int)) then (((nth T_A3 p3 p7)).2).1 else ((((nth T_A3 p3 p7)).2).2).1)) * r3.1)) + (bif decide (p5 = (0 : Int)) then ((nth T_A3 p3 p7)).1 else (bif decide (p5 = (1 : Int)) then (((nth T_A3 p3 p7)).2).1 else ((((nth T_A3 p3 p7)).2).2).1)))) (List.length p6) then
 bif inB (IntKind.wrap .i64 ((IntKind.wrap .i64 ((bif decide (p4 = (0 : Int)) then ((nth T_A3 p3 p7)).1 else (bif decide (p4 = (1 : Int)) then (((nth T_A3 p3 p7)).2).1 else ((((nth T_A3 p3 p7)).2).2).1)) * r3.1)) + (bif decide (p5 = (0 : Int)) then ((nth T_A3 p3 p7)).1 else (bif decide (p5 = (1 : Int)) then (((nth T_A3 p3 p7)).2).1 else ((((nth T_A3 p3 p7)).2).2).1)))) (List.length p6) then
 L_spec_l2View_4 n F_spec_l2Long F_spec_l2Others m0 p0 p1 p2 p3 p4 p5 (List.set p6 (Int.toNat (IntKind.wrap .i64 ((IntKind.wrap .i64 ((bif decide (p4 = (0 : Int)) then ((nth T_A3 p3 p7)).1 else (bif decide (p4 = (1 : Int)) then (((nth T_A3 p3 p7)).2).1 else ((((nth T_A3 p3 p7)).2).2).1)) * r3.1)) + (bif decide (p5 = (0 : Int)) then ((nth T_A3 p3 p7)).1 else (bif decide (p5 = (1 : Int)) then (((nth T_A3 p3 p7)).2).1 else ((((nth T_A3 p3 p7)).2).2).1))))) (IntKind.wrap .i64 ((nth ((.int .i64) : Ty) p6 (IntKind.wrap .i64 ((IntKind.wrap .i64 ((bif decide (p4 = (0 : Int)) then ((nth T_A3 p3 p7)).1 else (bif decide (p4 = (1 : Int)) then (((nth T_A3 p3 p7)).2).1 else ((((nth T_A3 p3 p7)).2).2).1)) * r3.1)) + (bif decide (p5 = (0 : Int)) then ((nth T_A3 p3 p7)).1 else (bif decide (p5 = (1 : Int)) then (((nth T_A3 p3 p7)).2).1 else ((((nth T_A3 p3 p7)).2).2).1))))) + 1))) (IntKind.wrap .i64 (p7 + 1))
 else none
 else none
 else none
 else none
 else none
 else none
 else
 some (p6, ()) := by kernel_rfl
def P_spec_l2View : Ft_spec_l2View := hid (runF (X_spec_l2View N P_spec_l2Long P_spec_l2Others) B_spec_l2View As_spec_l2View R_spec_l2View M_spec_l2View)
theorem h_spec_l2View : P_spec_l2View = runF (X_spec_l2View N P_spec_l2Long P_spec_l2Others) B_spec_l2View As_spec_l2View R_spec_l2View M_spec_l2View := hid_eq _
def C_spec_l2View : Contract := ⟨As_spec_l2View, R_spec_l2View, M_spec_l2View, P_spec_l2View⟩
theorem s_spec_l2View : Sound Try.prog GG 91 C_spec_l2View := by
 unfold C_spec_l2View; rw [h_spec_l2View]
 exact sound_of_run (fn := Try.f91) hmix hstable (tyOK_of ttOK) (hglob _) (conOK_of ⟨s_spec_l2Long, s_spec_l2Others, trivial⟩) (mconOK_of trivial) (by kernel_rfl) (by kernel_rfl) (by kernel_rfl) (by kernel_rfl) (by kernel_rfl) (of_decide_eq_true (by kernel_rfl))
def l_spec_l2View_4 : Nat → Int → Int → Int → (List D_A3) → Int → Int → (List Int) → Int → Option (denL R_spec_l2View) := hid (fun m0 p0 p1 p2 p3 p4 p5 p6 p7 => L_spec_l2View_4 N P_spec_l2Long P_spec_l2Others m0 p0 p1 p2 p3 p4 p5 p6 p7)
theorem h_spec_l2View_4 : l_spec_l2View_4 = fun m0 p0 p1 p2 p3 p4 p5 p6 p7 => L_spec_l2View_4 N P_spec_l2Long P_spec_l2Others m0 p0 p1 p2 p3 p4 p5 p6 p7 := hid_eq _
theorem p_spec_l2View (a0 : D_Heap) (a1 : Int) : P_spec_l2View (a0, a1, ()) = 
 Option.bind (P_spec_l2Others (a1, ())) fun r0 =>
 Option.bind (P_spec_l2Long (a0, r0.1, ())) fun r1 =>
 Option.bind (P_spec_l2Long (a0, r0.2.1, ())) fun r2 =>
 bif (decide ((0 : Int) ≤ (IntKind.wrap .i64 (r1.1 * r2.1))) && decide (((IntKind.wrap .i64 (r1.1 * r2.1)) : Int) ≤ (IntKind.wrap .i64 (r1.1 * r2.1))) && decide (((IntKind.wrap .i64 (r1.1 * r2.1)) : Int) * (8 : Nat) ≤ 140737488355328) && decide (((IntKind.wrap .i64 (r1.1 * r2.1)) : Int) ≤ 140737488355328)) then
 l_spec_l2View_4 N a0.1 a0.2.1 a0.2.2.1 a0.2.2.2.1 r0.1 r0.2.1 (List.replicate (Int.toNat (IntKind.wrap .i64 (r1.1 * r2.1))) (Ty.dflt ((.int .i64) : Ty))) 0
 else none := by
 rewrite [h_spec_l2View, h_spec_l2View_4]
 exact e_spec_l2View N P_spec_l2Long P_spec_l2Others a0 a1
theorem q_spec_l2View_4 (m0 : Nat) (p0 p1 p2 : Int) (p3 : List D_A3) (p4 p5 : Int) (p6 : List Int) (p7 : Int) : l_spec_l2View_4 (m0 + 1) p0 p1 p2 p3 p4 p5 p6 p7 = 
 bif decide (p7 < (List.length p3 : Int)) then
 bif inB p7 (List.length p3) then
 bif inB p4 3 then
 Option.bind (P_spec_l2Long ((p0, (p1, (p2, (p3, ())))), p5, ())) fun r3 =>
 bif inB p7 (List.length p3) then
 bif inB p5 3 then
 bif inB (IntKind.wrap .i64 ((IntKind.wrap .i64 ((bif decide (p4 = (0 : Int)) then ((nth T_A3 p3 p7)).1 else (bif decide (p4 = (1 : Int)) then (((nth T_A3 p3 p7)).2).1 else ((((nth T_A3 p3 p7)).2).2).1)) * r3.1)) + (bif decide (p5 = (0 : Int)) then ((nth T_A3 p3 p7)).1 else (bif decide (p5 = (1 : Int)) then (((nth T_A3 p3 p7)).2).1 else ((((nth T_A3 p3 p7)).2).2).1)))) (List.length p6) then
 bif inB (IntKind.wrap .i64 ((IntKind.wrap .i64 ((bif decide (p4 = (0 : Int)) then ((nth T_A3 p3 p7)).1 else (bif decide (p4 = (1 : Int)) then (((nth T_A3 p3 p7)).2).1 else ((((nth T_A3 p3 p7)).2).2).1)) * r3.1)) + (bif decide (p5 = (0 : Int)) then ((nth T_A3 p3 p7)).1 else (bif decide (p5 = (1 : Int)) then (((nth T_A3 p3 p7)).2).1 else ((((nth T_A3 p3 p7)).2).2).1)))) (List.length p6) then
 l_spec_l2View_4 m0 p0 p1 p2 p3 p4 p5 (List.set p6 (Int.toNat (IntKind.wrap .i64 ((IntKind.wrap .i64 ((bif decide (p4 = (0 : Int)) then ((nth T_A3 p3 p7)).1 else (bif decide (p4 = (1 : Int)) then (((nth T_A3 p3 p7)).2).1 else ((((nth T_A3 p3 p7)).2).2).1)) * r3.1)) + (bif decide (p5 = (0 : Int)) then ((nth T_A3 p3 p7)).1 else (bif decide (p5 = (1 : Int)) then (((nth T_A3 p3 p7)).2).1 else ((((nth T_A3 p3 p7)).2).2).1))))) (IntKind.wrap .i64 ((nth ((.int .i64) : Ty) p6 (IntKind.wrap .i64 ((IntKind.wrap .i64 ((bif decide (p4 = (0 : Int)) then ((nth T_A3 p3 p7)).1 else (bif decide (p4 = (1 : Int)) then (((nth T_A3 p3 p7)).2).1 else ((((nth T_A3 p3 p7)).2).2).1)) * r3.1)) + (bif decide (p5 = (0 : Int)) then ((nth T_A3 p3 p7)).1 else (bif decide (p5 = (1 : Int)) then (((nth T_A3 p3 p7)).2).1 else ((((nth T_A3 p3 p7)).2).2).1))))) + 1))) (IntKind.wrap .i64 (p7 + 1))
 else none
 else none
 else none
 else none
 else none
 else none
 else
 some (p6, ()) := by
 rewrite [h_spec_l2View_4]
 exact e_spec_l2View_4 N P_spec_l2Long P_spec_l2Others m0 p0 p1 p2 p3 p4 p5 p6 p7

abbrev As_spec_l2Heights : List ATy := [.data true T_Heap]
abbrev R_spec_l2Heights : List (Bool × Ty) := [(false, (.sl (.int .i64)))]
abbrev M_spec_l2Heights : List RMode := [.own 3]
abbrev Ft_spec_l2Heights : Type := D_Heap × Unit → Option ((List Int) × Unit)
def X_spec_l2Heights (n : Nat) (F_spec_l2View : Ft_spec_l2View) : Ctx := { types := TT, globals := [], con := [(91, ⟨As_spec_l2View, R_spec_l2View, M_spec_l2View, F_spec_l2View⟩)], keep := [], results := [.tmp 2], ntmps := 5, n := n }
def B_spec_l2Heights : Code := (Try.f89.body).getD .skip
theorem e_spec_l2Heights (n : Nat) (F_spec_l2View : Ft_spec_l2View) (a0 : D_Heap) : runF (X_spec_l2Heights n F_spec_l2View) B_spec_l2Heights As_spec_l2Heights R_spec_l2Heights M_spec_l2Heights (a0, ()) = 
 Option.bind (F_spec_l2View (a0, 2, ())) fun r0 =>
 some (r0.1, ()) := by kernel_rfl
def P_spec_l2Heights : Ft_spec_l2Heights := hid (runF (X_spec_l2Heights N P_spec_l2View) B_spec_l2Heights As_spec_l2Heights R_spec_l2Heights M_spec_l2Heights)
theorem h_spec_l2Heights : P_spec_l2Heights = runF (X_spec_l2Heights N P_spec_l2View) B_spec_l2Heights As_spec_l2Heights R_spec_l2Heights M_spec_l2Heights := hid_eq _
def C_spec_l2Heights : Contract := ⟨As_spec_l2Heights, R_spec_l2Heights, M_spec_l2Heights, P_spec_l2Heights⟩
theorem s_spec_l2Heights : Sound Try.prog GG 89 C_spec_l2Heights := by
 unfold C_spec_l2Heights; rw [h_spec_l2Heights]
 exact sound_of_run (fn := Try.f89) hmix hstable (tyOK_of ttOK) (hglob _) (conOK_of ⟨s_spec_l2View, trivial⟩) (mconOK_of trivial) (by kernel_rfl) (by kernel_rfl) (by kernel_rfl) (by kernel_rfl) (by kernel_rfl) (of_decide_eq_true (by kernel_rfl))
theorem p_spec_l2Heights (a0 : D_Heap) : P_spec_l2Heights (a0, ()) = 
 Option.bind (P_spec_l2View (a0, 2, ())) fun r0 =>
 some (r0.1, ()) := by
 rewrite [h_spec_l2Heights]
 exact e_spec_l2Heights N P_spec_l2View a0

abbrev As_l1Cur_someHeap : List ATy := [.lptr T_l1Cur, .data false (.int .i64), .data false (.int .i64), .data false (.int .i64)]
abbrev R_l1Cur_someHeap : List (Bool × Ty) := [(true, T_Heap)]
abbrev M_l1Cur_someHeap : List RMode := [.own 49]
abbrev Ft_l1Cur_someHeap : Type := D_l1Cur × Int × Int × Int × Unit → Option ((D_Heap × Unit) × (D_l1Cur × Unit))
def X_l1Cur_someHeap (n : Nat) (F_l1Cur_among : Ft_l1Cur_among) (F_l1Cur_one : Ft_l1Cur_one) (F_l1Cur_pick : Ft_l1Cur_pick) (F_spec_l2Empty : Ft_spec_l2Empty) (F_spec_l2Sides : Ft_spec_l2Sides) (F_spec_l2All : Ft_spec_l2All) (F_spec_OtherCells : Ft_spec_OtherCells) (F_spec_l2Stack : Ft_spec_l2Stack) (F_spec_l2Heights : Ft_spec_l2Heights) : Ctx := { types := TT, globals := [], con := [(63, ⟨As_spec_l2Empty, R_spec_l2Empty, M_spec_l2Empty, F_spec_l2Empty⟩), (71, ⟨As_spec_l2Sides, R_spec_l2Sides, M_spec_l2Sides, F_spec_l2Sides⟩), (83, ⟨As_spec_l2All, R_spec_l2All, M_spec_l2All, F_spec_l2All⟩), (87, ⟨As_spec_OtherCells, R_spec_OtherCells, M_spec_OtherCells, F_spec_OtherCells⟩), (88, ⟨As_spec_l2Stack, R_spec_l2Stack, M_spec_l2Stack, F_spec_l2Stack⟩), (89, ⟨As_spec_l2Heights, R_spec_l2Heights, M_spec_l2Heights, F_spec_l2Heights⟩)], mcon := [(36, ⟨As_l1Cur_among, R_l1Cur_among, M_l1Cur_among, F_l1Cur_among⟩), (44, ⟨As_l1Cur_one, R_l1Cur_one, M_l1Cur_one, F_l1Cur_one⟩), (57, ⟨As_l1Cur_pick, R_l1Cur_pick, M_l1Cur_pick, F_l1Cur_pick⟩)], keep := [(6, ⟨[.box 8, .box 9, .box 1000000, .tmp 0, .tmp 1, .tmp 2, .tmp 3, .tmp 8, .tmp 9, .tmp 10, .tmp 11, .tmp 12], []⟩)], results := [.cell 8 26], ntmps := 64, n := n }
def B_l1Cur_someHeap : Code := (Try.f78.body).getD .skip
def L_l1Cur_someHeap_6 (n : Nat) (F_l1Cur_among : Ft_l1Cur_among) (F_l1Cur_one : Ft_l1Cur_one) (F_l1Cur_pick : Ft_l1Cur_pick) (F_spec_l2Empty : Ft_spec_l2Empty) (F_spec_l2Sides : Ft_spec_l2Sides) (F_spec_l2All : Ft_spec_l2All) (F_spec_OtherCells : Ft_spec_OtherCells) (F_spec_l2Stack : Ft_spec_l2Stack) (F_spec_l2Heights : Ft_spec_l2Heights) (m0 : Nat) (p0 p1 p2 : Int) (p3 : List D_A3) (p4 p5 p6 : Int) (p7 : List D_A3) (p8 : List Int) (p9 p10 : Int) (p11 p12 : Int) (p13 p14 : Int) (p15 : List D_A3) (p16 : Int) : Option (denL R_l1Cur_someHeap × denM As_l1Cur_someHeap) := loopFM (X_l1Cur_someHeap n F_l1Cur_among F_l1Cur_one F_l1Cur_pick F_spec_l2Empty F_spec_l2Sides F_spec_l2All F_spec_OtherCells F_spec_l2Stack F_spec_l2Heights) B_l1Cur_someHeap As_l1Cur_someHeap R_l1Cur_someHeap M_l1Cur_someHeap 6 [m0] [(.ver, .num 1), (.box 8, .box 0 false [.int .i64 p0, .int .i64 p1, .int .i64 p2, .own 49 T_A3 0 p3]), (.box 9, .box 0 false [.int .i64 p4, .int .i64 p5, .int .i64 p6, .own 49 T_A3 0 p7]), (.box 1000000, .box 0 false [.imm (.int .u8) p8 (some 4), .int .i64 p9, .int .u64 p10]), (.tmp 0, .val false [.addr 1000000 0 0]), (.tmp 1, .val false [.int .i64 p11]), (.tmp 2, .val false [.int .i64 p12]), (.tmp 3, .val false [.int .i64 p13]), (.tmp 8, .val false [.addr 8 0 0]), (.tmp 9, .val false [.addr 9 0 0]), (.tmp 10, .val false [.int .i64 p14]), (.tmp 11, .val false [.own 49 T_A3 0 p15]), (.tmp 12, .val false [.int .i64 p16])]
theorem e_l1Cur_someHeap (n : Nat) (F_l1Cur_among : Ft_l1Cur_among) (F_l1Cur_one : Ft_l1Cur_one) (F_l1Cur_pick : Ft_l1Cur_pick) (F_spec_l2Empty : Ft_spec_l2Empty) (F_spec_l2Sides : Ft_spec_l2Sides) (F_spec_l2All : Ft_spec_l2All) (F_spec_OtherCells : Ft_spec_OtherCells) (F_spec_l2Stack : Ft_spec_l2Stack) (F_spec_l2Heights : Ft_spec_l2Heights) (a0 : D_l1Cur) (a1 a2 a3 : Int) : runFM (X_l1Cur_someHeap n F_l1Cur_among F_l1Cur_one F_l1Cur_pick F_spec_l2Empty F_spec_l2Sides F_spec_l2All F_spec_OtherCells F_spec_l2Stack F_spec_l2Heights) B_l1Cur_someHeap As_l1Cur_someHeap R_l1Cur_someHeap M_l1Cur_someHeap (a0, a1, a2, a3, ()) = 
 Option.bind (F_spec_l2Empty (a1, a2, a3, ())) fun r0 =>
 Option.bind (F_l1Cur_among (a0, ([2, 3, 2, 4] : List Int), ())) fun r1 =>
 Option.bind (F_spec_l2Sides (a1, a2, a3, ())) fun r2 =>
 bif !r2.1 then
 some ((r0.1, ()), ((a0.1, r1.2.1.2), ()))
 else
 Option.bind (F_spec_l2All (r0.1, ())) fun r4 =>
 L_l1Cur_someHeap_6 n F_l1Cur_among F_l1Cur_one F_l1Cur_pick F_spec_l2Empty F_spec_l2Sides F_spec_l2All F_spec_OtherCells F_spec_l2Stack F_spec_l2Heights n 0 0 0 ([] : List D_A3) r0.1.1 r0.1.2.1 r0.1.2.2.1 r0.1.2.2.2.1 a0.1 r1.2.1.2.1 r1.2.1.2.2.1 a1 a2 a3 r1.1.1 r4.1 0 := by kernel_rfl
theorem e_l1Cur_someHeap_6 (n : Nat) (F_l1Cur_among : Ft_l1Cur_among) (F_l1Cur_one : Ft_l1Cur_one) (F_l1Cur_pick : Ft_l1Cur_pick) (F_spec_l2Empty : Ft_spec_l2Empty) (F_spec_l2Sides : Ft_spec_l2Sides) (F_spec_l2All : Ft_spec_l2All) (F_spec_OtherCells : Ft_spec_OtherCells) (F_spec_l2Stack : Ft_spec_l2Stack) (F_spec_l2Heights : Ft_spec_l2Heights) (m0 : Nat) (p0 p1 p2 : Int) (p3 : List D_A3) (p4 p5 p6 : Int) (p7 : List D_A3) (p8 : List Int) (p9 p10 : Int) (p11 p12 : Int) (p13 p14 : Int) (p15 : List D_A3) (p16 : Int) : L_l1Cur_someHeap_6 n F_l1Cur_among F_l1Cur_one F_l1Cur_pick F_spec_l2Empty F_spec_l2Sides F_spec_l2All F_spec_OtherCells F_spec_l2Stack F_spec_l2Heights (m0 + 1) p0 p1 p2 p3 p4 p5 p6 p7 p8 p9 p10 p11 p12 p13 p14 p15 p16 = 
 bif decide (p16 < (List.length p15 : Int)) then
 Option.bind (F_l1Cur_one ((p8, (p9, (p10, ()))), p14, ())) fun r1 =>
 bif r1.1.1 then
 bif inB p16 (List.length p15) then
 bif (decide (((List.length p7) + (List.length ([(nth T_A3 p15 p16)] : List D_A3))) * 24 ≤ 140737488355328) && decide (((List.length p7) + (List.length ([(nth T_A3 p15 p16)] : List D_A3))) ≤ 140737488355328)) then
 L_l1Cur_someHeap_6 n F_l1Cur_among F_l1Cur_one F_l1Cur_pick F_spec_l2Empty F_spec_l2Sides F_spec_l2All F_spec_OtherCells F_spec_l2Stack F_spec_l2Heights m0 p0 p1 p2 p3 p4 p5 p6 (p7 ++ ([(nth T_A3 p15 p16)] : List D_A3)) p8 r1.2.1.2.1 r1.2.1.2.2.1 p11 p12 p13 p14 p15 (IntKind.wrap .i64 (p16 + 1))
 else none
 else none
 else
 L_l1Cur_someHeap_6 n F_l1Cur_among F_l1Cur_one F_l1Cur_pick F_spec_l2Empty F_spec_l2Sides F_spec_l2All F_spec_OtherCells F_spec_l2Stack F_spec_l2Heights m0 p0 p1 p2 p3 p4 p5 p6 p7 p8 r1.2.1.2.1 r1.2.1.2.2.1 p11 p12 p13 p14 p15 (IntKind.wrap .i64 (p16 + 1))
 else
 Option.bind (F_l1Cur_pick ((p8, (p9, (p10, ()))), 12, ())) fun r1 =>
 bif decide (r1.1.1 = 0) then
 Option.bind (F_spec_OtherCells ((p4, (p5, (p6, (p7, ())))), ())) fun r3 =>
 some ((r3.1, ()), ((p8, r1.2.1.2), ()))
 else
 bif decide (r1.1.1 = 1) then
 Option.bind (F_spec_l2Heights ((p4, (p5, (p6, (p7, ())))), ())) fun r4 =>
 Option.bind (F_spec_l2Stack (p11, p12, p13, r4.1, ())) fun r5 =>
 some ((r5.1, ()), ((p8, r1.2.1.2), ()))
 else
 some (((p4, (p5, (p6, (p7, ())))), ()), ((p8, r1.2.1.2), ())) := by kernel_rfl
def P_l1Cur_someHeap : Ft_l1Cur_someHeap := hid (runFM (X_l1Cur_someHeap N P_l1Cur_among P_l1Cur_one P_l1Cur_pick P_spec_l2Empty P_spec_l2Sides P_spec_l2All P_spec_OtherCells P_spec_l2Stack P_spec_l2Heights) B_l1Cur_someHeap As_l1Cur_someHeap R_l1Cur_someHeap M_l1Cur_someHeap)
theorem h_l1Cur_someHeap : P_l1Cur_someHeap = runFM (X_l1Cur_someHeap N P_l1Cur_among P_l1Cur_one P_l1Cur_pick P_spec_l2Empty P_spec_l2Sides P_spec_l2All P_spec_OtherCells P_spec_l2Stack P_spec_l2Heights) B_l1Cur_someHeap As_l1Cur_someHeap R_l1Cur_someHeap M_l1Cur_someHeap := hid_eq _
def C_l1Cur_someHeap : MContract := ⟨As_l1Cur_someHeap, R_l1Cur_someHeap, M_l1Cur_someHeap, P_l1Cur_someHeap⟩
theorem s_l1Cur_someHeap : SoundM Try.prog n0 GG 78 C_l1Cur_someHeap := by
 unfold C_l1Cur_someHeap; rw [h_l1Cur_someHeap]
 exact sound_of_runM (fn := Try.f78) hmix hstable (tyOK_of ttOK) (hglob _) (conOK_of ⟨s_spec_l2Empty, s_spec_l2Sides, s_spec_l2All, s_spec_OtherCells, s_spec_l2Stack, s_spec_l2Heights, trivial⟩) (mconOK_of ⟨s_l1Cur_among, s_l1Cur_one, s_l1Cur_pick, trivial⟩) (by kernel_rfl) (by kernel_rfl) (by kernel_rfl) (by kernel_rfl) (by kernel_rfl) (of_decide_eq_true (by kernel_rfl)) (by kernel_rfl) (by rfl)
def l_l1Cur_someHeap_6 : Nat → Int → Int → Int → (List D_A3) → Int → Int → Int → (List D_A3) → (List Int) → Int → Int → Int → Int → Int → Int → (List D_A3) → Int → Option (denL R_l1Cur_someHeap × denM As_l1Cur_someHeap) := hid (fun m0 p0 p1 p2 p3 p4 p5 p6 p7 p8 p9 p10 p11 p12 p13 p14 p15 p16 => L_l1Cur_someHeap_6 N P_l1Cur_among P_l1Cur_one P_l1Cur_pick P_spec_l2Empty P_spec_l2Sides P_spec_l2All P_spec_OtherCells P_spec_l2Stack P_spec_l2Heights m0 p0 p1 p2 p3 p4 p5 p6 p7 p8 p9 p10 p11 p12 p13 p14 p15 p16)
theorem h_l1Cur_someHeap_6 : l_l1Cur_someHeap_6 = fun m0 p0 p1 p2 p3 p4 p5 p6 p7 p8 p9 p10 p11 p12 p13 p14 p15 p16 => L_l1Cur_someHeap_6 N P_l1Cur_among P_l1Cur_one P_l1Cur_pick P_spec_l2Empty P_spec_l2Sides P_spec_l2All P_spec_OtherCells P_spec_l2Stack P_spec_l2Heights m0 p0 p1 p2 p3 p4 p5 p6 p7 p8 p9 p10 p11 p12 p13 p14 p15 p16 := hid_eq _
theorem p_l1Cur_someHeap (a0 : D_l1Cur) (a1 a2 a3 : Int) : P_l1Cur_someHeap (a0, a1, a2, a3, ()) = 
 Option.bind (P_spec_l2Empty (a1, a2, a3, ())) fun r0 =>
 Option.bind (P_l1Cur_among (a0, ([2, 3, 2, 4] : List Int), ())) fun r1 =>
 Option.bind (P_spec_l2Sides (a1, a2, a3, ())) fun r2 =>
 bif !r2.1 then
 some ((r0.1, ()), ((a0.1, r1.2.1.2), ()))
 else
 Option.bind (P_spec_l2All (r0.1, ())) fun r4 =>
 l_l1Cur_someHeap_6 N 0 0 0 ([] : List D_A3) r0.1.1 r0.1.2.1 r0.1.2.2.1 r0.1.2.2.2.1 a0.1 r1.2.1.2.1 r1.2.1.2.2.1 a1 a2 a3 r1.1.1 r4.1 0 := by
 rewrite [h_l1Cur_someHeap, h_l1Cur_someHeap_6]
 exact e_l1Cur_someHeap N P_l1Cur_among P_l1Cur_one P_l1Cur_pick P_spec_l2Empty P_spec_l2Sides P_spec_l2All P_spec_OtherCells P_spec_l2Stack P_spec_l2Heights a0 a1 a2 a3
theorem q_l1Cur_someHeap_6 (m0 : Nat) (p0 p1 p2 : Int) (p3 : List D_A3) (p4 p5 p6 : Int) (p7 : List D_A3) (p8 : List Int) (p9 p10 : Int) (p11 p12 : Int) (p13 p14 : Int) (p15 : List D_A3) (p16 : Int) : l_l1Cur_someHeap_6 (m0 + 1) p0 p1 p2 p3 p4 p5 p6 p7 p8 p9 p10 p11 p12 p13 p14 p15 p16 = 
 bif decide (p16 < (List.length p15 : Int)) then
 Option.bind (P_l1Cur_one ((p8, (p9, (p10, ()))), p14, ())) fun r1 =>
 bif r1.1.1 then
 bif inB p16 (List.length p15) then
 bif (decide (((List.length p7) + (List.length ([(nth T_A3 p15 p16)] : List D_A3))) * 24 ≤ 140737488355328) && decide (((List.length p7) + (List.length ([(nth T_A3 p15 p16)] : List D_A3))) ≤ 140737488355328)) then
 l_l1Cur_someHeap_6 m0 p0 p1 p2 p3 p4 p5 p6 (p7 ++ ([(nth T_A3 p15 p16)] : List D_A3)) p8 r1.2.1.2.1 r1.2.1.2.2.1 p11 p12 p13 p14 p15 (IntKind.wrap .i64 (p16 + 1))
 else none
 else none
 else
 l_l1Cur_someHeap_6 m0 p0 p1 p2 p3 p4 p5 p6 p7 p8 r1.2.1.2.1 r1.2.1.2.2.1 p11 p12 p13 p14 p15 (IntKind.wrap .i64 (p16 + 1))
 else
 Option.bind (P_l1Cur_pick ((p8, (p9, (p10, ()))), 12, ())) fun r1 =>
 bif decide (r1.1.1 = 0) then
 Option.bind (P_spec_OtherCells ((p4, (p5, (p6, (p7, ())))), ())) fun r3 =>
 some ((r3.1, ()), ((p8, r1.2.1.2), ()))
 else
 bif decide (r1.1.1 = 1) then
 Option.bind (P_spec_l2Heights ((p4, (p5, (p6, (p7, ())))), ())) fun r4 =>
 Option.bind (P_spec_l2Stack (p11, p12, p13, r4.1, ())) fun r5 =>
 some ((r5.1, ()), ((p8, r1.2.1.2), ()))
 else
 some (((p4, (p5, (p6, (p7, ())))), ()), ((p8, r1.2.1.2), ())) := by
 rewrite [h_l1Cur_someHeap_6]
 exact e_l1Cur_someHeap_6 N P_l1Cur_among P_l1Cur_one P_l1Cur_pick P_spec_l2Empty P_spec_l2Sides P_spec_l2All P_spec_OtherCells P_spec_l2Stack P_spec_l2Heights m0 p0 p1 p2 p3 p4 p5 p6 p7 p8 p9 p10 p11 p12 p13 p14 p15 p16

abbrev As_l1Cur_heap : List ATy := [.lptr T_l1Cur]
abbrev R_l1Cur_heap : List (Bool × Ty) := [(true, T_Heap)]
abbrev M_l1Cur_heap : List RMode := [.own 49]
abbrev Ft_l1Cur_heap : Type := D_l1Cur × Unit → Option ((D_Heap × Unit) × (D_l1Cur × Unit))
def X_l1Cur_heap (n : Nat) (F_l1Cur_pick : Ft_l1Cur_pick) (F_l1Cur_sides : Ft_l1Cur_sides) (F_l1Cur_someHeap : Ft_l1Cur_someHeap) : Ctx := { types := TT, globals := [], con := [], mcon := [(57, ⟨As_l1Cur_pick, R_l1Cur_pick, M_l1Cur_pick, F_l1Cur_pick⟩), (77, ⟨As_l1Cur_sides, R_l1Cur_sides, M_l1Cur_sides, F_l1Cur_sides⟩), (78, ⟨As_l1Cur_someHeap, R_l1Cur_someHeap, M_l1Cur_someHeap, F_l1Cur_someHeap⟩)], keep := [], results := [.cell 2 26], ntmps := 56, n := n }
def B_l1Cur_heap : Code := (Try.f45.body).getD .skip
theorem e_l1Cur_heap (n : Nat) (F_l1Cur_pick : Ft_l1Cur_pick) (F_l1Cur_sides : Ft_l1Cur_sides) (F_l1Cur_someHeap : Ft_l1Cur_someHeap) (a0 : D_l1Cur) : runFM (X_l1Cur_heap n F_l1Cur_pick F_l1Cur_sides F_l1Cur_someHeap) B_l1Cur_heap As_l1Cur_heap R_l1Cur_heap M_l1Cur_heap (a0, ()) = 
 Option.bind (F_l1Cur_sides (a0, ())) fun r0 =>
 Option.bind (F_l1Cur_someHeap ((a0.1, r0.2.1.2), r0.1.1, r0.1.2.1, r0.1.2.2.1, ())) fun r1 =>
 Option.bind (F_l1Cur_pick ((a0.1, r1.2.1.2), 60, ())) fun r2 =>
 bif decide (r2.1.1 = 0) then
 bif (decide (((List.length r1.1.1.2.2.2.1) + (List.length ([(r0.1.1, (0, (0, ())))] : List D_A3))) * 24 ≤ 140737488355328) && decide (((List.length r1.1.1.2.2.2.1) + (List.length ([(r0.1.1, (0, (0, ())))] : List D_A3))) ≤ 140737488355328)) then
 some (((r1.1.1.1, (r1.1.1.2.1, (r1.1.1.2.2.1, ((r1.1.1.2.2.2.1 ++ ([(r0.1.1, (0, (0, ())))] : List D_A3)), ())))), ()), ((a0.1, r2.2.1.2), ()))
 else none
 else
 bif decide (r2.1.1 = 1) then
 bif (decide (((List.length r1.1.1.2.2.2.1) + (List.length ([((-1), (0, (0, ())))] : List D_A3))) * 24 ≤ 140737488355328) && decide (((List.length r1.1.1.2.2.2.1) + (List.length ([((-1), (0, (0, ())))] : List D_A3))) ≤ 140737488355328)) then
 some (((r1.1.1.1, (r1.1.1.2.1, (r1.1.1.2.2.1, ((r1.1.1.2.2.2.1 ++ ([((-1), (0, (0, ())))] : List D_A3)), ())))), ()), ((a0.1, r2.2.1.2), ()))
 else none
 else
 bif decide (r2.1.1 = 2) then
 bif decide ((List.length r1.1.1.2.2.2.1 : Int) > 0) then
 bif inB 0 (List.length r1.1.1.2.2.2.1) then
 bif (decide (((List.length r1.1.1.2.2.2.1) + (List.length ([(nth T_A3 r1.1.1.2.2.2.1 0)] : List D_A3))) * 24 ≤ 140737488355328) && decide (((List.length r1.1.1.2.2.2.1) + (List.length ([(nth T_A3 r1.1.1.2.2.2.1 0)] : List D_A3))) ≤ 140737488355328)) then
 some (((r1.1.1.1, (r1.1.1.2.1, (r1.1.1.2.2.1, ((r1.1.1.2.2.2.1 ++ ([(nth T_A3 r1.1.1.2.2.2.1 0)] : List D_A3)), ())))), ()), ((a0.1, r2.2.1.2), ()))
 else none
 else none
 else
 some ((r1.1.1, ()), ((a0.1, r2.2.1.2), ()))
 else
 bif decide (r2.1.1 = 3) then
 some (((0, (0, (0, (([] : List D_A3), ())))), ()), ((a0.1, r2.2.1.2), ()))
 else
 some ((r1.1.1, ()), ((a0.1, r2.2.1.2), ())) := by kernel_rfl
def P_l1Cur_heap : Ft_l1Cur_heap := hid (runFM (X_l1Cur_heap N P_l1Cur_pick P_l1Cur_sides P_l1Cur_someHeap) B_l1Cur_heap As_l1Cur_heap R_l1Cur_heap M_l1Cur_heap)
theorem h_l1Cur_heap : P_l1Cur_heap = runFM (X_l1Cur_heap N P_l1Cur_pick P_l1Cur_sides P_l1Cur_someHeap) B_l1Cur_heap As_l1Cur_heap R_l1Cur_heap M_l1Cur_heap := hid_eq _
def C_l1Cur_heap : MContract := ⟨As_l1Cur_heap, R_l1Cur_heap, M_l1Cur_heap, P_l1Cur_heap⟩
theorem s_l1Cur_heap : SoundM Try.prog n0 GG 45 C_l1Cur_heap := by
 unfold C_l1Cur_heap; rw [h_l1Cur_heap]
 exact sound_of_runM (fn := Try.f45) hmix hstable (tyOK_of ttOK) (hglob _) (conOK_of trivial) (mconOK_of ⟨s_l1Cur_pick, s_l1Cur_sides, s_l1Cur_someHeap, trivial⟩) (by kernel_rfl) (by kernel_rfl) (by kernel_rfl) (by kernel_rfl) (by kernel_rfl) (of_decide_eq_true (by kernel_rfl)) (by kernel_rfl) (by rfl)
theorem p_l1Cur_heap (a0 : D_l1Cur) : P_l1Cur_heap (a0, ()) = 
 Option.bind (P_l1Cur_sides (a0, ())) fun r0 =>
 Option.bind (P_l1Cur_someHeap ((a0.1, r0.2.1.2), r0.1.1, r0.1.2.1, r0.1.2.2.1, ())) fun r1 =>
 Option.bind (P_l1Cur_pick ((a0.1, r1.2.1.2), 60, ())) fun r2 =>
 bif decide (r2.1.1 = 0) then
 bif (decide (((List.length r1.1.1.2.2.2.1) + (List.length ([(r0.1.1, (0, (0, ())))] : List D_A3))) * 24 ≤ 140737488355328) && decide (((List.length r1.1.1.2.2.2.1) + (List.length ([(r0.1.1, (0, (0, ())))] : List D_A3))) ≤ 140737488355328)) then
 some (((r1.1.1.1, (r1.1.1.2.1, (r1.1.1.2.2.1, ((r1.1.1.2.2.2.1 ++ ([(r0.1.1, (0, (0, ())))] : List D_A3)), ())))), ()), ((a0.1, r2.2.1.2), ()))
 else none
 else
 bif decide (r2.1.1 = 1) then
 bif (decide (((List.length r1.1.1.2.2.2.1) + (List.length ([((-1), (0, (0, ())))] : List D_A3))) * 24 ≤ 140737488355328) && decide (((List.length r1.1.1.2.2.2.1) + (List.length ([((-1), (0, (0, ())))] : List D_A3))) ≤ 140737488355328)) then
 some (((r1.1.1.1, (r1.1.1.2.1, (r1.1.1.2.2.1, ((r1.1.1.2.2.2.1 ++ ([((-1), (0, (0, ())))] : List D_A3)), ())))), ()), ((a0.1, r2.2.1.2), ()))
 else none
 else
 bif decide (r2.1.1 = 2) then
 bif decide ((List.length r1.1.1.2.2.2.1 : Int) > 0) then
 bif inB 0 (List.length r1.1.1.2.2.2.1) then
 bif (decide (((List.length r1.1.1.2.2.2.1) + (List.length ([(nth T_A3 r1.1.1.2.2.2.1 0)] : List D_A3))) * 24 ≤ 140737488355328) && decide (((List.length r1.1.1.2.2.2.1) + (List.length ([(nth T_A3 r1.1.1.2.2.2.1 0)] : List D_A3))) ≤ 140737488355328)) then
 some (((r1.1.1.1, (r1.1.1.2.1, (r1.1.1.2.2.1, ((r1.1.1.2.2.2.1 ++ ([(nth T_A3 r1.1.1.2.2.2.1 0)] : List D_A3)), ())))), ()), ((a0.1, r2.2.1.2), ()))
 else none
 else none
 else
 some ((r1.1.1, ()), ((a0.1, r2.2.1.2), ()))
 else
 bif decide (r2.1.1 = 3) then
 some (((0, (0, (0, (([] : List D_A3), ())))), ()), ((a0.1, r2.2.1.2), ()))
 else
 some ((r1.1.1, ()), ((a0.1, r2.2.1.2), ())) := by
 rewrite [h_l1Cur_heap]
 exact e_l1Cur_heap N P_l1Cur_pick P_l1Cur_sides P_l1Cur_someHeap a0

abbrev As_spec_l2Box : List ATy := [.data false (.int .i64), .data false (.int .i64), .data false (.int .i64)]
abbrev R_spec_l2Box : List (Bool × Ty) := [(true, T_Heap)]
abbrev M_spec_l2Box : List RMode := [.own 49]
abbrev Ft_spec_l2Box : Type := Int × Int × Int × Unit → Option (D_Heap × Unit)
def X_spec_l2Box (n : Nat) (F_spec_l2Empty : Ft_spec_l2Empty) (F_spec_l2All : Ft_spec_l2All) : Ctx := { types := TT, globals := [], con := [(63, ⟨As_spec_l2Empty, R_spec_l2Empty, M_spec_l2Empty, F_spec_l2Empty⟩), (83, ⟨As_spec_l2All, R_spec_l2All, M_spec_l2All, F_spec_l2All⟩)], keep := [], results := [.cell 6 26], ntmps := 16, n := n }
def B_spec_l2Box : Code := (Try.f56.body).getD .skip
theorem e_spec_l2Box (n : Nat) (F_spec_l2Empty : Ft_spec_l2Empty) (F_spec_l2All : Ft_spec_l2All) (a0 a1 a2 : Int) : runF (X_spec_l2Box n F_spec_l2Empty F_spec_l2All) B_spec_l2Box As_spec_l2Box R_spec_l2Box M_spec_l2Box (a0, a1, a2, ()) = 
 Option.bind (F_spec_l2Empty (a0, a1, a2, ())) fun r0 =>
 Option.bind (F_spec_l2All (r0.1, ())) fun r1 =>
 some ((r0.1.1, (r0.1.2.1, (r0.1.2.2.1, (r1.1, ())))), ()) := by kernel_rfl
def P_spec_l2Box : Ft_spec_l2Box := hid (runF (X_spec_l2Box N P_spec_l2Empty P_spec_l2All) B_spec_l2Box As_spec_l2Box R_spec_l2Box M_spec_l2Box)
theorem h_spec_l2Box : P_spec_l2Box = runF (X_spec_l2Box N P_spec_l2Empty P_spec_l2All) B_spec_l2Box As_spec_l2Box R_spec_l2Box M_spec_l2Box := hid_eq _
def C_spec_l2Box : Contract := ⟨As_spec_l2Box, R_spec_l2Box, M_spec_l2Box, P_spec_l2Box⟩
theorem s_spec_l2Box : Sound Try.prog GG 56 C_spec_l2Box := by
 unfold C_spec_l2Box; rw [h_spec_l2Box]
 exact sound_of_run (fn := Try.f56) hmix hstable (tyOK_of ttOK) (hglob _) (conOK_of ⟨s_spec_l2Empty, s_spec_l2All, trivial⟩) (mconOK_of trivial) (by kernel_rfl) (by kernel_rfl) (by kernel_rfl) (by kernel_rfl) (by kernel_rfl) (of_decide_eq_true (by kernel_rfl))
theorem p_spec_l2Box (a0 a1 a2 : Int) : P_spec_l2Box (a0, a1, a2, ()) = 
 Option.bind (P_spec_l2Empty (a0, a1, a2, ())) fun r0 =>
 Option.bind (P_spec_l2All (r0.1, ())) fun r1 =>
 some ((r0.1.1, (r0.1.2.1, (r0.1.2.2.1, (r1.1, ())))), ()) := by
 rewrite [h_spec_l2Box]
 exact e_spec_l2Box N P_spec_l2Empty P_spec_l2All a0 a1 a2

abbrev As_spec_l2Without : List ATy := [.data true T_Heap, .data true T_A3]
abbrev R_spec_l2Without : List (Bool × Ty) := [(true, T_Heap)]
abbrev M_spec_l2Without : List RMode := [.own 49]
abbrev Ft_spec_l2Without : Type := D_Heap × D_A3 × Unit → Option (D_Heap × Unit)
def X_spec_l2Without (n : Nat) (F_spec_l2Empty : Ft_spec_l2Empty) : Ctx := { types := TT, globals := [], con := [(63, ⟨As_spec_l2Empty, R_spec_l2Empty, M_spec_l2Empty, F_spec_l2Empty⟩)], keep := [(3, ⟨[.box 2, .box 3, .box 4, .box 5, .tmp 2, .tmp 3, .tmp 4, .tmp 5, .tmp 6], []⟩)], results := [.cell 4 26], ntmps := 39, n := n }
def B_spec_l2Without : Code := (Try.f58.body).getD .skip
def L_spec_l2Without_3 (n : Nat) (F_spec_l2Empty : Ft_spec_l2Empty) (m0 : Nat) (p0 p1 p2 : Int) (p3 : List D_A3) (p4 p5 : Int) (p6 p7 : Int) (p8 p9 : Int) (p10 : List D_A3) (p11 p12 p13 : Int) (p14 : List D_A3) (p15 : Int) : Option (denL R_spec_l2Without) := loopF (X_spec_l2Without n F_spec_l2Empty) B_spec_l2Without R_spec_l2Without M_spec_l2Without 3 [m0] [(.ver, .num 1), (.box 2, .box 0 false [.int .i64 p0, .int .i64 p1, .int .i64 p2, .imm T_A3 p3 (some 3)]), (.box 3, .box 0 false [.int .i64 p4, .int .i64 p5, .int .i64 p6]), (.box 4, .box 0 false [.int .i64 p7, .int .i64 p8, .int .i64 p9, .own 49 T_A3 0 p10]), (.box 5, .box 0 false [.int .i64 p11, .int .i64 p12, .int .i64 p13, .own 49 T_A3 0 p14]), (.tmp 2, .val false [.addr 2 0 0]), (.tmp 3, .val false [.addr 3 0 0]), (.tmp 4, .val false [.addr 4 0 0]), (.tmp 5, .val false [.addr 5 0 0]), (.tmp 6, .val false [.int .i64 p15])]
theorem e_spec_l2Without (n : Nat) (F_spec_l2Empty : Ft_spec_l2Empty) (a0 : D_Heap) (a1 : D_A3) : runF (X_spec_l2Without n F_spec_l2Empty) B_spec_l2Without As_spec_l2Without R_spec_l2Without M_spec_l2Without (a0, a1, ()) = 
 Option.bind (F_spec_l2Empty (a0.1, a0.2.1, a0.2.2.1, ())) fun r0 =>
 L_spec_l2Without_3 n F_spec_l2Empty n a0.1 a0.2.1 a0.2.2.1 a0.2.2.2.1 a1.1 a1.2.1 a1.2.2.1 0 0 0 ([] : List D_A3) r0.1.1 r0.1.2.1 r0.1.2.2.1 r0.1.2.2.2.1 0 := by kernel_rfl
theorem e_spec_l2Without_3 (n : Nat) (F_spec_l2Empty : Ft_spec_l2Empty) (m0 : Nat) (p0 p1 p2 : Int) (p3 : List D_A3) (p4 p5 : Int) (p6 p7 : Int) (p8 p9 : Int) (p10 : List D_A3) (p11 p12 p13 : Int) (p14 : List D_A3) (p15 : Int) : L_spec_l2Without_3 n F_spec_l2Empty (m0 + 1) p0 p1 p2 p3 p4 p5 p6 p7 p8 p9 p10 p11 p12 p13 p14 p15 = 
 bif decide (p15 < (List.length p3 : Int)) then
 bif inB p15 (List.length p3) then
 bif !(decide (((nth T_A3 p3 p15)).1 = p4) && (decide ((((nth T_A3 p3 p15)).2).1 = p5) && (decide (((((nth T_A3 p3 p15)).2).2).1 = p6) && true))) then
 bif inB p15 (List.length p3) then
 bif (decide (((List.length p14) + (List.length ([(nth T_A3 p3 p15)] : List D_A3))) * 24 ≤ 140737488355328) && decide (((List.length p14) + (List.length ([(nth T_A3 p3 p15)] : List D_A3))) ≤ 140737488355328)) then
 L_spec_l2Without_3 n F_spec_l2Empty m0 p0 p1 p2 p3 p4 p5 p6 p7 p8 p9 p10 p11 p12 p13 (p14 ++ ([(nth T_A3 p3 p15)] : List D_A3)) (IntKind.wrap .i64 (p15 + 1))
 else none
 else none
 else
 L_spec_l2Without_3 n F_spec_l2Empty m0 p0 p1 p2 p3 p4 p5 p6 p7 p8 p9 p10 p11 p12 p13 p14 (IntKind.wrap .i64 (p15 + 1))
 else none
 else
 some ((p11, (p12, (p13, (p14, ())))), ()) := by kernel_rfl
def P_spec_l2Without : Ft_spec_l2Without := hid (runF (X_spec_l2Without N P_spec_l2Empty) B_spec_l2Without As_spec_l2Without R_spec_l2Without M_spec_l2Without)
theorem h_spec_l2Without : P_spec_l2Without = runF (X_spec_l2Without N P_spec_l2Empty) B_spec_l2Without As_spec_l2Without R_spec_l2Without M_spec_l2Without := hid_eq _
def C_spec_l2Without : Contract := ⟨As_spec_l2Without, R_spec_l2Without, M_spec_l2Without, P_spec_l2Without⟩
theorem s_spec_l2Without : Sound Try.prog GG 58 C_spec_l2Without := by
 unfold C_spec_l2Without; rw [h_spec_l2Without]
 exact sound_of_run (fn := Try.f58) hmix hstable (tyOK_of ttOK) (hglob _) (conOK_of ⟨s_spec_l2Empty, trivial⟩) (mconOK_of trivial) (by kernel_rfl) (by kernel_rfl) (by kernel_rfl) (by kernel_rfl) (by kernel_rfl) (of_decide_eq_true (by kernel_rfl))
def l_spec_l2Without_3 : Nat → Int → Int → Int → (List D_A3) → Int → Int → Int → Int → Int → Int → (List D_A3) → Int → Int → Int → (List D_A3) → Int → Option (denL R_spec_l2Without) := hid (fun m0 p0 p1 p2 p3 p4 p5 p6 p7 p8 p9 p10 p11 p12 p13 p14 p15 => L_spec_l2Without_3 N P_spec_l2Empty m0 p0 p1 p2 p3 p4 p5 p6 p7 p8 p9 p10 p11 p12 p13 p14 p15)
theorem h_spec_l2Without_3 : l_spec_l2Without_3 = fun m0 p0 p1 p2 p3 p4 p5 p6 p7 p8 p9 p10 p11 p12 p13 p14 p15 => L_spec_l2Without_3 N P_spec_l2Empty m0 p0 p1 p2 p3 p4 p5 p6 p7 p8 p9 p10 p11 p12 p13 p14 p15 := hid_eq _
theorem p_spec_l2Without (a0 : D_Heap) (a1 : D_A3) : P_spec_l2Without (a0, a1, ()) = 
 Option.bind (P_spec_l2Empty (a0.1, a0.2.1, a0.2.2.1, ())) fun r0 =>
 l_spec_l2Without_3 N a0.1 a0.2.1 a0.2.2.1 a0.2.2.2.1 a1.1 a1.2.1 a1.2.2.1 0 0 0 ([] : List D_A3) r0.1.1 r0.1.2.1 r0.1.2.2.1 r0.1.2.2.2.1 0 := by
 rewrite [h_spec_l2Without, h_spec_l2Without_3]
 exact e_spec_l2Without N P_spec_l2Empty a0 a1
theorem q_spec_l2Without_3 (m0 : Nat) (p0 p1 p2 : Int) (p3 : List D_A3) (p4 p5 : Int) (p6 p7 : Int) (p8 p9 : Int) (p10 : List D_A3) (p11 p12 p13 : Int) (p14 : List D_A3) (p15 : Int) : l_spec_l2Without_3 (m0 + 1) p0 p1 p2 p3 p4 p5 p6 p7 p8 p9 p10 p11 p12 p13 p14 p15 = 
 bif decide (p15 < (List.length p3 : Int)) then
 bif inB p15 (List.length p3) then
 bif !(decide (((nth T_A3 p3 p15)).1 = p4) && (decide ((((nth T_A3 p3 p15)).2).1 = p5) && (decide (((((nth T_A3 p3 p15)).2).2).1 = p6) && true))) then
 bif inB p15 (List.length p3) then
 bif (decide (((List.length p14) + (List.length ([(nth T_A3 p3 p15)] : List D_A3))) * 24 ≤ 140737488355328) && decide (((List.length p14) + (List.length ([(nth T_A3 p3 p15)] : List D_A3))) ≤ 140737488355328)) then
 l_spec_l2Without_3 m0 p0 p1 p2 p3 p4 p5 p6 p7 p8 p9 p10 p11 p12 p13 (p14 ++ ([(nth T_A3 p3 p15)] : List D_A3)) (IntKind.wrap .i64 (p15 + 1))
 else none
 else none
 else
 l_spec_l2Without_3 m0 p0 p1 p2 p3 p4 p5 p6 p7 p8 p9 p10 p11 p12 p13 p14 (IntKind.wrap .i64 (p15 + 1))
 else none
 else
 some ((p11, (p12, (p13, (p14, ())))), ()) := by
 rewrite [h_spec_l2Without_3]
 exact e_spec_l2Without_3 N P_spec_l2Empty m0 p0 p1 p2 p3 p4 p5 p6 p7 p8 p9 p10 p11 p12 p13 p14 p15

abbrev As_l1Cur_hollow : List ATy := [.lptr T_l1Cur]
abbrev R_l1Cur_hollow : List (Bool × Ty) := [(true, T_Heap)]
abbrev M_l1Cur_hollow : List RMode := [.own 49]
abbrev Ft_l1Cur_hollow : Type := D_l1Cur × Unit → Option ((D_Heap × Unit) × (D_l1Cur × Unit))
def X_l1Cur_hollow (n : Nat) (F_spec_l2Long : Ft_spec_l2Long) (F_l1Cur_among : Ft_l1Cur_among) (F_l1Cur_one : Ft_l1Cur_one) (F_l1Cur_heap : Ft_l1Cur_heap) (F_spec_l2Box : Ft_spec_l2Box) (F_l1Cur_pick : Ft_l1Cur_pick) (F_spec_l2Without : Ft_spec_l2Without) : Ctx := { types := TT, globals := [], con := [(32, ⟨As_spec_l2Long, R_spec_l2Long, M_spec_l2Long, F_spec_l2Long⟩), (56, ⟨As_spec_l2Box, R_spec_l2Box, M_spec_l2Box, F_spec_l2Box⟩), (58, ⟨As_spec_l2Without, R_spec_l2Without, M_spec_l2Without, F_spec_l2Without⟩)], mcon := [(36, ⟨As_l1Cur_among, R_l1Cur_among, M_l1Cur_among, F_l1Cur_among⟩), (44, ⟨As_l1Cur_one, R_l1Cur_one, M_l1Cur_one, F_l1Cur_one⟩), (45, ⟨As_l1Cur_heap, R_l1Cur_heap, M_l1Cur_heap, F_l1Cur_heap⟩), (57, ⟨As_l1Cur_pick, R_l1Cur_pick, M_l1Cur_pick, F_l1Cur_pick⟩)], keep := [(5, ⟨[.box 2, .box 3, .box 1000000, .tmp 0, .tmp 2, .tmp 3, .tmp 4], []⟩), (12, ⟨[.box 2, .box 3, .box 5, .box 1000000, .tmp 0, .tmp 2, .tmp 3, .tmp 4, .tmp 5, .tmp 6, .tmp 7], []⟩)], results := [.cell 2 26], ntmps := 68, n := n }
def B_l1Cur_hollow : Code := (Try.f24.body).getD .skip
def L_l1Cur_hollow_5 (n : Nat) (F_spec_l2Long : Ft_spec_l2Long) (F_l1Cur_among : Ft_l1Cur_among) (F_l1Cur_one : Ft_l1Cur_one) (F_l1Cur_heap : Ft_l1Cur_heap) (F_spec_l2Box : Ft_spec_l2Box) (F_l1Cur_pick : Ft_l1Cur_pick) (F_spec_l2Without : Ft_spec_l2Without) (m0 : Nat) (p0 p1 p2 : Int) (p3 : List D_A3) (p4 p5 p6 : Int) (p7 : List D_A3) (p8 : List Int) (p9 p10 p11 : Int) : Option (denL R_l1Cur_hollow × denM As_l1Cur_hollow) := loopFM (X_l1Cur_hollow n F_spec_l2Long F_l1Cur_among F_l1Cur_one F_l1Cur_heap F_spec_l2Box F_l1Cur_pick F_spec_l2Without) B_l1Cur_hollow As_l1Cur_hollow R_l1Cur_hollow M_l1Cur_hollow 5 [m0] [(.ver, .num 1), (.box 2, .box 0 false [.int .i64 p0, .int .i64 p1, .int .i64 p2, .own 49 T_A3 0 p3]), (.box 3, .box 0 false [.int .i64 p4, .int .i64 p5, .int .i64 p6, .own 49 T_A3 0 p7]), (.box 1000000, .box 0 false [.imm (.int .u8) p8 (some 1), .int .i64 p9, .int .u64 p10]), (.tmp 0, .val false [.addr 1000000 0 0]), (.tmp 2, .val false [.addr 2 0 0]), (.tmp 3, .val false [.addr 3 0 0]), (.tmp 4, .val false [.int .i64 p11])]
def L_l1Cur_hollow_12 (n : Nat) (F_spec_l2Long : Ft_spec_l2Long) (F_l1Cur_among : Ft_l1Cur_among) (F_l1Cur_one : Ft_l1Cur_one) (F_l1Cur_heap : Ft_l1Cur_heap) (F_spec_l2Box : Ft_spec_l2Box) (F_l1Cur_pick : Ft_l1Cur_pick) (F_spec_l2Without : Ft_spec_l2Without) (m0 m1 : Nat) (p0 p1 p2 : Int) (p3 : List D_A3) (p4 p5 p6 : Int) (p7 : List D_A3) (p8 p9 p10 : Int) (p11 : List Int) (p12 p13 : Int) (p14 p15 p16 : Int) : Option (denL R_l1Cur_hollow × denM As_l1Cur_hollow) := loopFM (X_l1Cur_hollow n F_spec_l2Long F_l1Cur_among F_l1Cur_one F_l1Cur_heap F_spec_l2Box F_l1Cur_pick F_spec_l2Without) B_l1Cur_hollow As_l1Cur_hollow R_l1Cur_hollow M_l1Cur_hollow 12 [m0, m1] [(.ver, .num 1), (.box 2, .box 0 false [.int .i64 p0, .int .i64 p1, .int .i64 p2, .own 49 T_A3 0 p3]), (.box 3, .box 0 false [.int .i64 p4, .int .i64 p5, .int .i64 p6, .own 49 T_A3 0 p7]), (.box 5, .box 0 false [.int .i64 p8, .int .i64 p9, .int .i64 p10]), (.box 1000000, .box 0 false [.imm (.int .u8) p11 (some 1), .int .i64 p12, .int .u64 p13]), (.tmp 0, .val false [.addr 1000000 0 0]), (.tmp 2, .val false [.addr 2 0 0]), (.tmp 3, .val false [.addr 3 0 0]), (.tmp 4, .val false [.int .i64 p14]), (.tmp 5, .val false [.addr 5 0 0]), (.tmp 6, .val false [.int .i64 p15]), (.tmp 7, .val false [.int .i64 p16])]
theorem e_l1Cur_hollow (n : Nat) (F_spec_l2Long : Ft_spec_l2Long) (F_l1Cur_among : Ft_l1Cur_among) (F_l1Cur_one : Ft_l1Cur_one) (F_l1Cur_heap : Ft_l1Cur_heap) (F_spec_l2Box : Ft_spec_l2Box) (F_l1Cur_pick : Ft_l1Cur_pick) (F_spec_l2Without : Ft_spec_l2Without) (a0 : D_l1Cur) : runFM (X_l1Cur_hollow n F_spec_l2Long F_l1Cur_among F_l1Cur_one F_l1Cur_heap F_spec_l2Box F_l1Cur_pick F_spec_l2Without) B_l1Cur_hollow As_l1Cur_hollow R_l1Cur_hollow M_l1Cur_hollow (a0, ()) = 
 Option.bind (F_l1Cur_one (a0, 2, ())) fun r0 =>
 bif r0.1.1 then
 Option.bind (F_l1Cur_heap ((a0.1, r0.2.1.2), ())) fun r2 =>
 some ((r2.1.1, ()), ((a0.1, r2.2.1.2), ()))
 else
 Option.bind (F_l1Cur_among ((a0.1, r0.2.1.2), ([3, 4, 3] : List Int), ())) fun r2 =>
 Option.bind (F_l1Cur_among ((a0.1, r2.2.1.2), ([3, 4, 3] : List Int), ())) fun r3 =>
 Option.bind (F_l1Cur_among ((a0.1, r3.2.1.2), ([3, 4, 3] : List Int), ())) fun r4 =>
 Option.bind (F_spec_l2Box (r2.1.1, r3.1.1, r4.1.1, ())) fun r5 =>
 Option.bind (F_l1Cur_pick ((a0.1, r4.2.1.2), 5, ())) fun r6 =>
 L_l1Cur_hollow_5 n F_spec_l2Long F_l1Cur_among F_l1Cur_one F_l1Cur_heap F_spec_l2Box F_l1Cur_pick F_spec_l2Without n 0 0 0 ([] : List D_A3) r5.1.1 r5.1.2.1 r5.1.2.2.1 r5.1.2.2.2.1 a0.1 r6.2.1.2.1 r6.2.1.2.2.1 r6.1.1 := by kernel_rfl
theorem e_l1Cur_hollow_5 (n : Nat) (F_spec_l2Long : Ft_spec_l2Long) (F_l1Cur_among : Ft_l1Cur_among) (F_l1Cur_one : Ft_l1Cur_one) (F_l1Cur_heap : Ft_l1Cur_heap) (F_spec_l2Box : Ft_spec_l2Box) (F_l1Cur_pick : Ft_l1Cur_pick) (F_spec_l2Without : Ft_spec_l2Without) (m0 : Nat) (p0 p1 p2 : Int) (p3 : List D_A3) (p4 p5 p6 : Int) (p7 : List D_A3) (p8 : List Int) (p9 p10 p11 : Int) : L_l1Cur_hollow_5 n F_spec_l2Long F_l1Cur_among F_l1Cur_one F_l1Cur_heap F_spec_l2Box F_l1Cur_pick F_spec_l2Without (m0 + 1) p0 p1 p2 p3 p4 p5 p6 p7 p8 p9 p10 p11 = 
 bif decide (p11 > 0) then
 Option.bind (F_l1Cur_pick ((p8, (p9, (p10, ()))), (IntKind.wrap .i64 (p4 - 2)), ())) fun r1 =>
 Option.bind (F_l1Cur_pick ((p8, r1.2.1.2), (IntKind.wrap .i64 (p5 - 2)), ())) fun r2 =>
 Option.bind (F_l1Cur_pick ((p8, r2.2.1.2), (IntKind.wrap .i64 (p6 - 2)), ())) fun r3 =>
 Option.bind (F_spec_l2Without ((p4, (p5, (p6, (p7, ())))), ((IntKind.wrap .i64 (1 + r1.1.1)), ((IntKind.wrap .i64 (1 + r2.1.1)), ((IntKind.wrap .i64 (1 + r3.1.1)), ()))), ())) fun r4 =>
 Option.bind (F_l1Cur_one ((p8, r3.2.1.2), 3, ())) fun r5 =>
 bif r5.1.1 then
 Option.bind (F_l1Cur_pick ((p8, r5.2.1.2), 3, ())) fun r7 =>
 L_l1Cur_hollow_12 n F_spec_l2Long F_l1Cur_among F_l1Cur_one F_l1Cur_heap F_spec_l2Box F_l1Cur_pick F_spec_l2Without m0 n p0 p1 p2 p3 r4.1.1 r4.1.2.1 r4.1.2.2.1 r4.1.2.2.2.1 (IntKind.wrap .i64 (1 + r1.1.1)) (IntKind.wrap .i64 (1 + r2.1.1)) (IntKind.wrap .i64 (1 + r3.1.1)) p8 r7.2.1.2.1 r7.2.1.2.2.1 p11 r7.1.1 0
 else
 L_l1Cur_hollow_5 n F_spec_l2Long F_l1Cur_among F_l1Cur_one F_l1Cur_heap F_spec_l2Box F_l1Cur_pick F_spec_l2Without m0 p0 p1 p2 p3 r4.1.1 r4.1.2.1 r4.1.2.2.1 r4.1.2.2.2.1 p8 r5.2.1.2.1 r5.2.1.2.2.1 (IntKind.wrap .i64 (p11 - 1))
 else
 some (((p4, (p5, (p6, (p7, ())))), ()), ((p8, (p9, (p10, ()))), ())) := by kernel_rfl
theorem e_l1Cur_hollow_12 (n : Nat) (F_spec_l2Long : Ft_spec_l2Long) (F_l1Cur_among : Ft_l1Cur_among) (F_l1Cur_one : Ft_l1Cur_one) (F_l1Cur_heap : Ft_l1Cur_heap) (F_spec_l2Box : Ft_spec_l2Box) (F_l1Cur_pick : Ft_l1Cur_pick) (F_spec_l2Without : Ft_spec_l2Without) (m0 m1 : Nat) (p0 p1 p2 : Int) (p3 : List D_A3) (p4 p5 p6 : Int) (p7 : List D_A3) (p8 p9 p10 : Int) (p11 : List Int) (p12 p13 : Int) (p14 p15 p16 : Int) : L_l1Cur_hollow_12 n F_spec_l2Long F_l1Cur_among F_l1Cur_one F_l1Cur_heap F_spec_l2Box F_l1Cur_pick F_spec_l2Without m0 (m1 + 1) p0 p1 p2 p3 p4 p5 p6 p7 p8 p9 p10 p11 p12 p13 p14 p15 p16 = 
 Option.bind (F_spec_l2Long ((p4, (p5, (p6, (p7, ())))), p15, ())) fun r0 =>
 bif decide (p16 < r0.1) then
 bif inB p15 3 then
 Option.bind (F_spec_l2Without ((p4, (p5, (p6, (p7, ())))), ((bif decide (p15 = (0 : Int)) then p16 else p8), ((bif decide (p15 = (1 : Int)) then p16 else p9), ((bif decide (p15 = (2 : Int)) then p16 else p10), ()))), ())) fun r3 =>
 L_l1Cur_hollow_12 n F_spec_l2Long F_l1Cur_among F_l1Cur_one F_l1Cur_heap F_spec_l2Box F_l1Cur_pick F_spec_l2Without m0 m1 p0 p1 p2 p3 r3.1.1 r3.1.2.1 r3.1.2.2.1 r3.1.2.2.2.1 (bif decide (p15 = (0 : Int)) then p16 else p8) (bif decide (p15 = (1 : Int)) then p16 else p9) (bif decide (p15 = (2 : Int)) then p16 else p10) p11 p12 p13 p14 p15 (IntKind.wrap .i64 (p16 + 1))
 else none
 else
 L_l1Cur_hollow_5 n F_spec_l2Long F_l1Cur_among F_l1Cur_one F_l1Cur_heap F_spec_l2Box F_l1Cur_pick F_spec_l2Without m0 p0 p1 p2 p3 p4 p5 p6 p7 p11 p12 p13 (IntKind.wrap .i64 (p14 - 1)) := by kernel_rfl
def P_l1Cur_hollow : Ft_l1Cur_hollow := hid (runFM (X_l1Cur_hollow N P_spec_l2Long P_l1Cur_among P_l1Cur_one P_l1Cur_heap P_spec_l2Box P_l1Cur_pick P_spec_l2Without) B_l1Cur_hollow As_l1Cur_hollow R_l1Cur_hollow M_l1Cur_hollow)
theorem h_l1Cur_hollow : P_l1Cur_hollow = runFM (X_l1Cur_hollow N P_spec_l2Long P_l1Cur_among P_l1Cur_one P_l1Cur_heap P_spec_l2Box P_l1Cur_pick P_spec_l2Without) B_l1Cur_hollow As_l1Cur_hollow R_l1Cur_hollow M_l1Cur_hollow := hid_eq _
def C_l1Cur_hollow : MContract := ⟨As_l1Cur_hollow, R_l1Cur_hollow, M_l1Cur_hollow, P_l1Cur_hollow⟩
theorem s_l1Cur_hollow : SoundM Try.prog n0 GG 24 C_l1Cur_hollow := by
 unfold C_l1Cur_hollow; rw [h_l1Cur_hollow]
 exact sound_of_runM (fn := Try.f24) hmix hstable (tyOK_of ttOK) (hglob _) (conOK_of ⟨s_spec_l2Long, s_spec_l2Box, s_spec_l2Without, trivial⟩) (mconOK_of ⟨s_l1Cur_among, s_l1Cur_one, s_l1Cur_heap, s_l1Cur_pick, trivial⟩) (by kernel_rfl) (by kernel_rfl) (by kernel_rfl) (by kernel_rfl) (by kernel_rfl) (of_decide_eq_true (by kernel_rfl)) (by kernel_rfl) (by rfl)
def l_l1Cur_hollow_5 : Nat → Int → Int → Int → (List D_A3) → Int → Int → Int → (List D_A3) → (List Int) → Int → Int → Int → Option (denL R_l1Cur_hollow × denM As_l1Cur_hollow) := hid (fun m0 p0 p1 p2 p3 p4 p5 p6 p7 p8 p9 p10 p11 => L_l1Cur_hollow_5 N P_spec_l2Long P_l1Cur_among P_l1Cur_one P_l1Cur_heap P_spec_l2Box P_l1Cur_pick P_spec_l2Without m0 p0 p1 p2 p3 p4 p5 p6 p7 p8 p9 p10 p11)
theorem h_l1Cur_hollow_5 : l_l1Cur_hollow_5 = fun m0 p0 p1 p2 p3 p4 p5 p6 p7 p8 p9 p10 p11 => L_l1Cur_hollow_5 N P_spec_l2Long P_l1Cur_among P_l1Cur_one P_l1Cur_heap P_spec_l2Box P_l1Cur_pick P_spec_l2Without m0 p0 p1 p2 p3 p4 p5 p6 p7 p8 p9 p10 p11 := hid_eq _
def l_l1Cur_hollow_12 : Nat → Nat → Int → Int → Int → (List D_A3) → Int → Int → Int → (List D_A3) → Int → Int → Int → (List Int) → Int → Int → Int → Int → Int → Option (denL R_l1Cur_hollow × denM As_l1Cur_hollow) := hid (fun m0 m1 p0 p1 p2 p3 p4 p5 p6 p7 p8 p9 p10 p11 p12 p13 p14 p15 p16 => L_l1Cur_hollow_12 N P_spec_l2Long P_l1Cur_among P_l1Cur_one P_l1Cur_heap P_spec_l2Box P_l1Cur_pick P_spec_l2Without m0 m1 p0 p1 p2 p3 p4 p5 p6 p7 p8 p9 p10 p11 p12 p13 p14 p15 p16)
theorem h_l1Cur_hollow_12 : l_l1Cur_hollow_12 = fun m0 m1 p0 p1 p2 p3 p4 p5 p6 p7 p8 p9 p10 p11 p12 p13 p14 p15 p16 => L_l1Cur_hollow_12 N P_spec_l2Long P_l1Cur_among P_l1Cur_one P_l1Cur_heap P_spec_l2Box P_l1Cur_pick P_spec_l2Without m0 m1 p0 p1 p2 p3 p4 p5 p6 p7 p8 p9 p10 p11 p12 p13 p14 p15 p16 := hid_eq _
theorem p_l1Cur_hollow (a0 : D_l1Cur) : P_l1Cur_hollow (a0, ()) = 
 Option.bind (P_l1Cur_one (a0, 2, ())) fun r0 =>
 bif r0.1.1 then
 Option.bind (P_l1Cur_heap ((a0.1, r0.2.1.2), ())) fun r2 =>
 some ((r2.1.1, ()), ((a0.1, r2.2.1.2), ()))
 else
 Option.bind (P_l1Cur_among ((a0.1, r0.2.1.2), ([3, 4, 3] : List Int), ())) fun r2 =>
 Option.bind (P_l1Cur_among ((a0.1, r2.2.1.2), ([3, 4, 3] : List Int), ())) fun r3 =>
 Option.bind (P_l1Cur_among ((a0.1, r3.2.1.2), ([3, 4, 3] : List Int), ())) fun r4 =>
 Option.bind (P_spec_l2Box (r2.1.1, r3.1.1, r4.1.1, ())) fun r5 =>
 Option.bind (P_l1Cur_pick ((a0.1, r4.2.1.2), 5, ())) fun r6 =>
 l_l1Cur_hollow_5 N 0 0 0 ([] : List D_A3) r5.1.1 r5.1.2.1 r5.1.2.2.1 r5.1.2.2.2.1 a0.1 r6.2.1.2.1 r6.2.1.2.2.1 r6.1.1 := by
 rewrite [h_l1Cur_hollow, h_l1Cur_hollow_5]
 exact e_l1Cur_hollow N P_spec_l2Long P_l1Cur_among P_l1Cur_one P_l1Cur_heap P_spec_l2Box P_l1Cur_pick P_spec_l2Without a0
theorem q_l1Cur_hollow_5 (m0 : Nat) (p0 p1 p2 : Int) (p3 : List D_A3) (p4 p5 p6 : Int) (p7 : List D_A3) (p8 : List Int) (p9 p10 p11 : Int) : l_l1Cur_hollow_5 (m0 + 1) p0 p1 p2 p3 p4 p5 p6 p7 p8 p9 p10 p11 = 
 bif decide (p11 > 0) then
 Option.bind (P_l1Cur_pick ((p8, (p9, (p10, ()))), (IntKind.wrap .i64 (p4 - 2)), ())) fun r1 =>
 Option.bind (P_l1Cur_pick ((p8, r1.2.1.2), (IntKind.wrap .i64 (p5 - 2)), ())) fun r2 =>
 Option.bind (P_l1Cur_pick ((p8, r2.2.1.2), (IntKind.wrap .i64 (p6 - 2)), ())) fun r3 =>
 Option.bind (P_spec_l2Without ((p4, (p5, (p6, (p7, ())))), ((IntKind.wrap .i64 (1 + r1.1.1)), ((IntKind.wrap .i64 (1 + r2.1.1)), ((IntKind.wrap .i64 (1 + r3.1.1)), ()))), ())) fun r4 =>
 Option.bind (P_l1Cur_one ((p8, r3.2.1.2), 3, ())) fun r5 =>
 bif r5.1.1 then
 Option.bind (P_l1Cur_pick ((p8, r5.2.1.2), 3, ())) fun r7 =>
 l_l1Cur_hollow_12 m0 N p0 p1 p2 p3 r4.1.1 r4.1.2.1 r4.1.2.2.1 r4.1.2.2.2.1 (IntKind.wrap .i64 (1 + r1.1.1)) (IntKind.wrap .i64 (1 + r2.1.1)) (IntKind.wrap .i64 (1 + r3.1.1)) p8 r7.2.1.2.1 r7.2.1.2.2.1 p11 r7.1.1 0
 else
 l_l1Cur_hollow_5 m0 p0 p1 p2 p3 r4.1.1 r4.1.2.1 r4.1.2.2.1 r4.1.2.2.2.1 p8 r5.2.1.2.1 r5.2.1.2.2.1 (IntKind.wrap .i64 (p11 - 1))
 else
 some (((p4, (p5, (p6, (p7, ())))), ()), ((p8, (p9, (p10, ()))), ())) := by
 rewrite [h_l1Cur_hollow_5, h_l1Cur_hollow_12]
 exact e_l1Cur_hollow_5 N P_spec_l2Long P_l1Cur_among P_l1Cur_one P_l1Cur_heap P_spec_l2Box P_l1Cur_pick P_spec_l2Without m0 p0 p1 p2 p3 p4 p5 p6 p7 p8 p9 p10 p11
theorem q_l1Cur_hollow_12 (m0 m1 : Nat) (p0 p1 p2 : Int) (p3 : List D_A3) (p4 p5 p6 : Int) (p7 : List D_A3) (p8 p9 p10 : Int) (p11 : List Int) (p12 p13 : Int) (p14 p15 p16 : Int) : l_l1Cur_hollow_12 m0 (m1 + 1) p0 p1 p2 p3 p4 p5 p6 p7 p8 p9 p10 p11 p12 p13 p14 p15 p16 = 
 Option.bind (P_spec_l2Long ((p4, (p5, (p6, (p7, ())))), p15, ())) fun r0 =>
 bif decide (p16 < r0.1) then
 bif inB p15 3 then
 Option.bind (P_spec_l2Without ((p4, (p5, (p6, (p7, ())))), ((bif decide (p15 = (0 : Int)) then p16 else p8), ((bif decide (p15 = (1 : Int)) then p16 else p9), ((bif decide (p15 = (2 : Int)) then p16 else p10), ()))), ())) fun r3 =>
 l_l1Cur_hollow_12 m0 m1 p0 p1 p2 p3 r3.1.1 r3.1.2.1 r3.1.2.2.1 r3.1.2.2.2.1 (bif decide (p15 = (0 : Int)) then p16 else p8) (bif decide (p15 = (1 : Int)) then p16 else p9) (bif decide (p15 = (2 : Int)) then p16 else p10) p11 p12 p13 p14 p15 (IntKind.wrap .i64 (p16 + 1))
 else none
 else
 l_l1Cur_hollow_5 m0 p0 p1 p2 p3 p4 p5 p6 p7 p11 p12 p13 (IntKind.wrap .i64 (p14 - 1)) := by
 rewrite [h_l1Cur_hollow_5, h_l1Cur_hollow_12]
 exact e_l1Cur_hollow_12 N P_spec_l2Long P_l1Cur_among P_l1Cur_one P_l1Cur_heap P_spec_l2Box P_l1Cur_pick P_spec_l2Without m0 m1 p0 p1 p2 p3 p4 p5 p6 p7 p8 p9 p10 p11 p12 p13 p14 p15 p16

abbrev As_l1Cur_direction : List ATy := [.lptr T_l1Cur]
abbrev R_l1Cur_direction : List (Bool × Ty) := [(false, (.int .i64))]
abbrev M_l1Cur_direction : List RMode := []
abbrev Ft_l1Cur_direction : Type := D_l1Cur × Unit → Option ((Int × Unit) × (D_l1Cur × Unit))
def X_l1Cur_direction (n : Nat) (F_l1Cur_among : Ft_l1Cur_among) (F_l1Cur_one : Ft_l1Cur_one) (F_l1Cur_pick : Ft_l1Cur_pick) : Ctx := { types := TT, globals := [], con := [], mcon := [(36, ⟨As_l1Cur_among, R_l1Cur_among, M_l1Cur_among, F_l1Cur_among⟩), (44, ⟨As_l1Cur_one, R_l1Cur_one, M_l1Cur_one, F_l1Cur_one⟩), (57, ⟨As_l1Cur_pick, R_l1Cur_pick, M_l1Cur_pick, F_l1Cur_pick⟩)], keep := [], results := [.tmp 2], ntmps := 10, n := n }
def B_l1Cur_direction : Code := (Try.f59.body).getD .skip
theorem e_l1Cur_direction (n : Nat) (F_l1Cur_among : Ft_l1Cur_among) (F_l1Cur_one : Ft_l1Cur_one) (F_l1Cur_pick : Ft_l1Cur_pick) (a0 : D_l1Cur) : runFM (X_l1Cur_direction n F_l1Cur_among F_l1Cur_one F_l1Cur_pick) B_l1Cur_direction As_l1Cur_direction R_l1Cur_direction M_l1Cur_direction (a0, ()) = 
 Option.bind (F_l1Cur_one (a0, 30, ())) fun r0 =>
 bif r0.1.1 then
 Option.bind (F_l1Cur_among ((a0.1, r0.2.1.2), ([(-1), 3, 4611686018427387904] : List Int), ())) fun r2 =>
 some ((r2.1.1, ()), ((a0.1, r2.2.1.2), ()))
 else
 Option.bind (F_l1Cur_pick ((a0.1, r0.2.1.2), 3, ())) fun r2 =>
 some ((r2.1.1, ()), ((a0.1, r2.2.1.2), ())) := by kernel_rfl
def P_l1Cur_direction : Ft_l1Cur_direction := hid (runFM (X_l1Cur_direction N P_l1Cur_among P_l1Cur_one P_l1Cur_pick) B_l1Cur_direction As_l1Cur_direction R_l1Cur_direction M_l1Cur_direction)
theorem h_l1Cur_direction : P_l1Cur_direction = runFM (X_l1Cur_direction N P_l1Cur_among P_l1Cur_one P_l1Cur_pick) B_l1Cur_direction As_l1Cur_direction R_l1Cur_direction M_l1Cur_direction := hid_eq _
def C_l1Cur_direction : MContract := ⟨As_l1Cur_direction, R_l1Cur_direction, M_l1Cur_direction, P_l1Cur_direction⟩
theorem s_l1Cur_direction : SoundM Try.prog n0 GG 59 C_l1Cur_direction := by
 unfold C_l1Cur_direction; rw [h_l1Cur_direction]
 exact sound_of_runM (fn := Try.f59) hmix hstable (tyOK_of ttOK) (hglob _) (conOK_of trivial) (mconOK_of ⟨s_l1Cur_among, s_l1Cur_one, s_l1Cur_pick, trivial⟩) (by kernel_rfl) (by kernel_rfl) (by kernel_rfl) (by kernel_rfl) (by kernel_rfl) (of_decide_eq_true (by kernel_rfl)) (by kernel_rfl) (by rfl)
theorem p_l1Cur_direction (a0 : D_l1Cur) : P_l1Cur_direction (a0, ()) = 
 Option.bind (P_l1Cur_one (a0, 30, ())) fun r0 =>
 bif r0.1.1 then
 Option.bind (P_l1Cur_among ((a0.1, r0.2.1.2), ([(-1), 3, 4611686018427387904] : List Int), ())) fun r2 =>
 some ((r2.1.1, ()), ((a0.1, r2.2.1.2), ()))
 else
 Option.bind (P_l1Cur_pick ((a0.1, r0.2.1.2), 3, ())) fun r2 =>
 some ((r2.1.1, ()), ((a0.1, r2.2.1.2), ())) := by
 rewrite [h_l1Cur_direction]
 exact e_l1Cur_direction N P_l1Cur_among P_l1Cur_one P_l1Cur_pick a0

abbrev As_spec_l1Most : List ATy := [.data false (.int .i64), .data false (.int .i64)]
abbrev R_spec_l1Most : List (Bool × Ty) := [(false, (.int .i64))]
abbrev M_spec_l1Most : List RMode := []
abbrev Ft_spec_l1Most : Type := Int × Int × Unit → Option (Int × Unit)
def X_spec_l1Most (n : Nat) : Ctx := { types := TT, globals := [], con := [], keep := [], results := [.tmp 4], ntmps := 10, n := n }
def B_spec_l1Most : Code := (Try.f60.body).getD .skip
theorem e_spec_l1Most (n : Nat) (a0 a1 : Int) : runF (X_spec_l1Most n) B_spec_l1Most As_spec_l1Most R_spec_l1Most M_spec_l1Most (a0, a1, ()) = 
 bif decide (a0 > a1) then
 some (a0, ())
 else
 some (a1, ()) := by kernel_rfl
def P_spec_l1Most : Ft_spec_l1Most := hid (runF (X_spec_l1Most N) B_spec_l1Most As_spec_l1Most R_spec_l1Most M_spec_l1Most)
theorem h_spec_l1Most : P_spec_l1Most = runF (X_spec_l1Most N) B_spec_l1Most As_spec_l1Most R_spec_l1Most M_spec_l1Most := hid_eq _
def C_spec_l1Most : Contract := ⟨As_spec_l1Most, R_spec_l1Most, M_spec_l1Most, P_spec_l1Most⟩
theorem s_spec_l1Most : Sound Try.prog GG 60 C_spec_l1Most := by
 unfold C_spec_l1Most; rw [h_spec_l1Most]
 exact sound_of_run (fn := Try.f60) hmix hstable (tyOK_of ttOK) (hglob _) (conOK_of trivial) (mconOK_of trivial) (by kernel_rfl) (by kernel_rfl) (by kernel_rfl) (by kernel_rfl) (by kernel_rfl) (of_decide_eq_true (by kernel_rfl))
theorem p_spec_l1Most (a0 a1 : Int) : P_spec_l1Most (a0, a1, ()) = 
 bif decide (a0 > a1) then
 some (a0, ())
 else
 some (a1, ()) := by
 rewrite [h_spec_l1Most]
 exact e_spec_l1Most N a0 a1

abbrev As_spec_l1Least : List ATy := [.data false (.int .i64), .data false (.int .i64)]
abbrev R_spec_l1Least : List (Bool × Ty) := [(false, (.int .i64))]
abbrev M_spec_l1Least : List RMode := []
abbrev Ft_spec_l1Least : Type := Int × Int × Unit → Option (Int × Unit)
def X_spec_l1Least (n : Nat) : Ctx := { types := TT, globals := [], con := [], keep := [], results := [.tmp 4], ntmps := 10, n := n }
def B_spec_l1Least : Code := (Try.f85.body).getD .skip
theorem e_spec_l1Least (n : Nat) (a0 a1 : Int) : runF (X_spec_l1Least n) B_spec_l1Least As_spec_l1Least R_spec_l1Least M_spec_l1Least (a0, a1, ()) = 
 bif decide (a0 < a1) then
 some (a0, ())
 else
 some (a1, ()) := by kernel_rfl
def P_spec_l1Least : Ft_spec_l1Least := hid (runF (X_spec_l1Least N) B_spec_l1Least As_spec_l1Least R_spec_l1Least M_spec_l1Least)
theorem h_spec_l1Least : P_spec_l1Least = runF (X_spec_l1Least N) B_spec_l1Least As_spec_l1Least R_spec_l1Least M_spec_l1Least := hid_eq _
def C_spec_l1Least : Contract := ⟨As_spec_l1Least, R_spec_l1Least, M_spec_l1Least, P_spec_l1Least⟩
theorem s_spec_l1Least : Sound Try.prog GG 85 C_spec_l1Least := by
 unfold C_spec_l1Least; rw [h_spec_l1Least]
 exact sound_of_run (fn := Try.f85) hmix hstable (tyOK_of ttOK) (hglob _) (conOK_of trivial) (mconOK_of trivial) (by kernel_rfl) (by kernel_rfl) (by kernel_rfl) (by kernel_rfl) (by kernel_rfl) (of_decide_eq_true (by kernel_rfl))
theorem p_spec_l1Least (a0 a1 : Int) : P_spec_l1Least (a0, a1, ()) = 
 bif decide (a0 < a1) then
 some (a0, ())
 else
 some (a1, ()) := by
 rewrite [h_spec_l1Least]
 exact e_spec_l1Least N a0 a1

abbrev As_spec_l2Fit : List ATy := [.data false (.int .i64)]
abbrev R_spec_l2Fit : List (Bool × Ty) := [(false, (.int .i64))]
abbrev M_spec_l2Fit : List RMode := []
abbrev Ft_spec_l2Fit : Type := Int × Unit → Option (Int × Unit)
def X_spec_l2Fit (n : Nat) (F_spec_l1Most : Ft_spec_l1Most) (F_spec_l1Least : Ft_spec_l1Least) : Ctx := { types := TT, globals := [], con := [(60, ⟨As_spec_l1Most, R_spec_l1Most, M_spec_l1Most, F_spec_l1Most⟩), (85, ⟨As_spec_l1Least, R_spec_l1Least, M_spec_l1Least, F_spec_l1Least⟩)], keep := [], results := [.tmp 2], ntmps := 6, n := n }
def B_spec_l2Fit : Code := (Try.f61.body).getD .skip
theorem e_spec_l2Fit (n : Nat) (F_spec_l1Most : Ft_spec_l1Most) (F_spec_l1Least : Ft_spec_l1Least) (a0 : Int) : runF (X_spec_l2Fit n F_spec_l1Most F_spec_l1Least) B_spec_l2Fit As_spec_l2Fit R_spec_l2Fit M_spec_l2Fit (a0, ()) = 
 Option.bind (F_spec_l1Least (a0, 4, ())) fun r0 =>
 Option.bind (F_spec_l1Most (1, r0.1, ())) fun r1 =>
 some (r1.1, ()) := by kernel_rfl
def P_spec_l2Fit : Ft_spec_l2Fit := hid (runF (X_spec_l2Fit N P_spec_l1Most P_spec_l1Least) B_spec_l2Fit As_spec_l2Fit R_spec_l2Fit M_spec_l2Fit)
theorem h_spec_l2Fit : P_spec_l2Fit = runF (X_spec_l2Fit N P_spec_l1Most P_spec_l1Least) B_spec_l2Fit As_spec_l2Fit R_spec_l2Fit M_spec_l2Fit := hid_eq _
def C_spec_l2Fit : Contract := ⟨As_spec_l2Fit, R_spec_l2Fit, M_spec_l2Fit, P_spec_l2Fit⟩
theorem s_spec_l2Fit : Sound Try.prog GG 61 C_spec_l2Fit := by
 unfold C_spec_l2Fit; rw [h_spec_l2Fit]
 exact sound_of_run (fn := Try.f61) hmix hstable (tyOK_of ttOK) (hglob _) (conOK_of ⟨s_spec_l1Most, s_spec_l1Least, trivial⟩) (mconOK_of trivial) (by kernel_rfl) (by kernel_rfl) (by kernel_rfl) (by kernel_rfl) (by kernel_rfl) (of_decide_eq_true (by kernel_rfl))
theorem p_spec_l2Fit (a0 : Int) : P_spec_l2Fit (a0, ()) = 
 Option.bind (P_spec_l1Least (a0, 4, ())) fun r0 =>
 Option.bind (P_spec_l1Most (1, r0.1, ())) fun r1 =>
 some (r1.1, ()) := by
 rewrite [h_spec_l2Fit]
 exact e_spec_l2Fit N P_spec_l1Most P_spec_l1Least a0

abbrev As_l1Cur_cut : List ATy := [.lptr T_l1Cur, .data true T_Heap]
abbrev R_l1Cur_cut : List (Bool × Ty) := [(false, (.int .i64)), (false, (.int .i64))]
abbrev M_l1Cur_cut : List RMode := []
abbrev Ft_l1Cur_cut : Type := D_l1Cur × D_Heap × Unit → Option ((Int × Int × Unit) × (D_l1Cur × Unit))
def X_l1Cur_cut (n : Nat) (F_spec_l2Long : Ft_spec_l2Long) (F_l1Cur_among : Ft_l1Cur_among) (F_l1Cur_one : Ft_l1Cur_one) (F_spec_l1In : Ft_spec_l1In) (F_l1Cur_pick : Ft_l1Cur_pick) (F_l1Cur_direction : Ft_l1Cur_direction) (F_spec_l1Most : Ft_spec_l1Most) (F_spec_l2Fit : Ft_spec_l2Fit) : Ctx := { types := TT, globals := [], con := [(32, ⟨As_spec_l2Long, R_spec_l2Long, M_spec_l2Long, F_spec_l2Long⟩), (49, ⟨As_spec_l1In, R_spec_l1In, M_spec_l1In, F_spec_l1In⟩), (60, ⟨As_spec_l1Most, R_spec_l1Most, M_spec_l1Most, F_spec_l1Most⟩), (61, ⟨As_spec_l2Fit, R_spec_l2Fit, M_spec_l2Fit, F_spec_l2Fit⟩)], mcon := [(36, ⟨As_l1Cur_among, R_l1Cur_among, M_l1Cur_among, F_l1Cur_among⟩), (44, ⟨As_l1Cur_one, R_l1Cur_one, M_l1Cur_one, F_l1Cur_one⟩), (57, ⟨As_l1Cur_pick, R_l1Cur_pick, M_l1Cur_pick, F_l1Cur_pick⟩), (59, ⟨As_l1Cur_direction, R_l1Cur_direction, M_l1Cur_direction, F_l1Cur_direction⟩)], keep := [], results := [.tmp 4, .tmp 5], ntmps := 30, n := n }
def B_l1Cur_cut : Code := (Try.f25.body).getD .skip
theorem e_l1Cur_cut (n : Nat) (F_spec_l2Long : Ft_spec_l2Long) (F_l1Cur_among : Ft_l1Cur_among) (F_l1Cur_one : Ft_l1Cur_one) (F_spec_l1In : Ft_spec_l1In) (F_l1Cur_pick : Ft_l1Cur_pick) (F_l1Cur_direction : Ft_l1Cur_direction) (F_spec_l1Most : Ft_spec_l1Most) (F_spec_l2Fit : Ft_spec_l2Fit) (a0 : D_l1Cur) (a1 : D_Heap) : runFM (X_l1Cur_cut n F_spec_l2Long F_l1Cur_among F_l1Cur_one F_spec_l1In F_l1Cur_pick F_l1Cur_direction F_spec_l1Most F_spec_l2Fit) B_l1Cur_cut As_l1Cur_cut R_l1Cur_cut M_l1Cur_cut (a0, a1, ()) = 
 Option.bind (F_l1Cur_direction (a0, ())) fun r0 =>
 Option.bind (F_spec_l1In (r0.1.1, 0, 2, ())) fun r1 =>
 bif !r1.1 then
 Option.bind (F_l1Cur_among ((a0.1, r0.2.1.2), ([0, 1, 4, (-1)] : List Int), ())) fun r3 =>
 some ((r0.1.1, r3.1.1, ()), ((a0.1, r3.2.1.2), ()))
 else
 Option.bind (F_l1Cur_one ((a0.1, r0.2.1.2), 16, ())) fun r3 =>
 bif r3.1.1 then
 Option.bind (F_l1Cur_among ((a0.1, r3.2.1.2), ([0, 1, 4, (-1)] : List Int), ())) fun r5 =>
 some ((r0.1.1, r5.1.1, ()), ((a0.1, r5.2.1.2), ()))
 else
 Option.bind (F_spec_l2Long (a1, r0.1.1, ())) fun r5 =>
 Option.bind (F_spec_l2Fit (r5.1, ())) fun r6 =>
 Option.bind (F_spec_l1Most ((IntKind.wrap .i64 (r6.1 - 1)), 1, ())) fun r7 =>
 Option.bind (F_l1Cur_pick ((a0.1, r3.2.1.2), r7.1, ())) fun r8 =>
 some ((r0.1.1, (IntKind.wrap .i64 (1 + r8.1.1)), ()), ((a0.1, r8.2.1.2), ())) := by kernel_rfl
def P_l1Cur_cut : Ft_l1Cur_cut := hid (runFM (X_l1Cur_cut N P_spec_l2Long P_l1Cur_among P_l1Cur_one P_spec_l1In P_l1Cur_pick P_l1Cur_direction P_spec_l1Most P_spec_l2Fit) B_l1Cur_cut As_l1Cur_cut R_l1Cur_cut M_l1Cur_cut)
theorem h_l1Cur_cut : P_l1Cur_cut = runFM (X_l1Cur_cut N P_spec_l2Long P_l1Cur_among P_l1Cur_one P_spec_l1In P_l1Cur_pick P_l1Cur_direction P_spec_l1Most P_spec_l2Fit) B_l1Cur_cut As_l1Cur_cut R_l1Cur_cut M_l1Cur_cut := hid_eq _
def C_l1Cur_cut : MContract := ⟨As_l1Cur_cut, R_l1Cur_cut, M_l1Cur_cut, P_l1Cur_cut⟩
theorem s_l1Cur_cut : SoundM Try.prog n0 GG 25 C_l1Cur_cut := by
 unfold C_l1Cur_cut; rw [h_l1Cur_cut]
 exact sound_of_runM (fn := Try.f25) hmix hstable (tyOK_of ttOK) (hglob _) (conOK_of ⟨s_spec_l2Long, s_spec_l1In, s_spec_l1Most, s_spec_l2Fit, trivial⟩) (mconOK_of ⟨s_l1Cur_among, s_l1Cur_one, s_l1Cur_pick, s_l1Cur_direction, trivial⟩) (by kernel_rfl) (by kernel_rfl) (by kernel_rfl) (by kernel_rfl) (by kernel_rfl) (of_decide_eq_true (by kernel_rfl)) (by kernel_rfl) (by rfl)
theorem p_l1Cur_cut (a0 : D_l1Cur) (a1 : D_Heap) : P_l1Cur_cut (a0, a1, ()) = 
 Option.bind (P_l1Cur_direction (a0, ())) fun r0 =>
 Option.bind (P_spec_l1In (r0.1.1, 0, 2, ())) fun r1 =>
 bif !r1.1 then
 Option.bind (P_l1Cur_among ((a0.1, r0.2.1.2), ([0, 1, 4, (-1)] : List Int), ())) fun r3 =>
 some ((r0.1.1, r3.1.1, ()), ((a0.1, r3.2.1.2), ()))
 else
 Option.bind (P_l1Cur_one ((a0.1, r0.2.1.2), 16, ())) fun r3 =>
 bif r3.1.1 then
 Option.bind (P_l1Cur_among ((a0.1, r3.2.1.2), ([0, 1, 4, (-1)] : List Int), ())) fun r5 =>
 some ((r0.1.1, r5.1.1, ()), ((a0.1, r5.2.1.2), ()))
 else
 Option.bind (P_spec_l2Long (a1, r0.1.1, ())) fun r5 =>
 Option.bind (P_spec_l2Fit (r5.1, ())) fun r6 =>
 Option.bind (P_spec_l1Most ((IntKind.wrap .i64 (r6.1 - 1)), 1, ())) fun r7 =>
 Option.bind (P_l1Cur_pick ((a0.1, r3.2.1.2), r7.1, ())) fun r8 =>
 some ((r0.1.1, (IntKind.wrap .i64 (1 + r8.1.1)), ()), ((a0.1, r8.2.1.2), ())) := by
 rewrite [h_l1Cur_cut]
 exact e_l1Cur_cut N P_spec_l2Long P_l1Cur_among P_l1Cur_one P_spec_l1In P_l1Cur_pick P_l1Cur_direction P_spec_l1Most P_spec_l2Fit a0 a1

abbrev As_spec_DrawCutHeap : List ATy := [.data false (.sl (.int .u8))]
abbrev R_spec_DrawCutHeap : List (Bool × Ty) := [(true, T_Heap), (false, (.int .i64)), (false, (.int .i64))]
abbrev M_spec_DrawCutHeap : List RMode := [.own 49]
abbrev Ft_spec_DrawCutHeap : Type := (List Int) × Unit → Option (D_Heap × Int × Int × Unit)
def X_spec_DrawCutHeap (n : Nat) (F_l1Cur_hollow : Ft_l1Cur_hollow) (F_l1Cur_cut : Ft_l1Cur_cut) : Ctx := { types := TT, globals := [], con := [], mcon := [(24, ⟨As_l1Cur_hollow, R_l1Cur_hollow, M_l1Cur_hollow, F_l1Cur_hollow⟩), (25, ⟨As_l1Cur_cut, R_l1Cur_cut, M_l1Cur_cut, F_l1Cur_cut⟩)], keep := [], results := [.cell 2 26, .tmp 3, .tmp 4], ntmps := 23, n := n }
def B_spec_DrawCutHeap : Code := (Try.f5.body).getD .skip
theorem e_spec_DrawCutHeap (n : Nat) (F_l1Cur_hollow : Ft_l1Cur_hollow) (F_l1Cur_cut : Ft_l1Cur_cut) (a0 : List Int) : runF (X_spec_DrawCutHeap n F_l1Cur_hollow F_l1Cur_cut) B_spec_DrawCutHeap As_spec_DrawCutHeap R_spec_DrawCutHeap M_spec_DrawCutHeap (a0, ()) = 
 Option.bind (F_l1Cur_hollow ((a0, (0, (0, ()))), ())) fun r0 =>
 Option.bind (F_l1Cur_cut ((a0, r0.2.1.2), r0.1.1, ())) fun r1 =>
 some (r0.1.1, r1.1.1, r1.1.2.1, ()) := by kernel_rfl
def P_spec_DrawCutHeap : Ft_spec_DrawCutHeap := hid (runF (X_spec_DrawCutHeap N P_l1Cur_hollow P_l1Cur_cut) B_spec_DrawCutHeap As_spec_DrawCutHeap R_spec_DrawCutHeap M_spec_DrawCutHeap)
theorem h_spec_DrawCutHeap : P_spec_DrawCutHeap = runF (X_spec_DrawCutHeap N P_l1Cur_hollow P_l1Cur_cut) B_spec_DrawCutHeap As_spec_DrawCutHeap R_spec_DrawCutHeap M_spec_DrawCutHeap := hid_eq _
def C_spec_DrawCutHeap : Contract := ⟨As_spec_DrawCutHeap, R_spec_DrawCutHeap, M_spec_DrawCutHeap, P_spec_DrawCutHeap⟩
theorem s_spec_DrawCutHeap : Sound Try.prog GG 5 C_spec_DrawCutHeap := by
 unfold C_spec_DrawCutHeap; rw [h_spec_DrawCutHeap]
 exact sound_of_run (fn := Try.f5) hmix hstable (tyOK_of ttOK) (hglob _) (conOK_of trivial) (mconOK_of ⟨s_l1Cur_hollow, s_l1Cur_cut, trivial⟩) (by kernel_rfl) (by kernel_rfl) (by kernel_rfl) (by kernel_rfl) (by kernel_rfl) (of_decide_eq_true (by kernel_rfl))
theorem p_spec_DrawCutHeap (a0 : List Int) : P_spec_DrawCutHeap (a0, ()) = 
 Option.bind (P_l1Cur_hollow ((a0, (0, (0, ()))), ())) fun r0 =>
 Option.bind (P_l1Cur_cut ((a0, r0.2.1.2), r0.1.1, ())) fun r1 =>
 some (r0.1.1, r1.1.1, r1.1.2.1, ()) := by
 rewrite [h_spec_DrawCutHeap]
 exact e_spec_DrawCutHeap N P_l1Cur_hollow P_l1Cur_cut a0

abbrev As_Heap_box : List ATy := [.data true T_Heap]
abbrev R_Heap_box : List (Bool × Ty) := [(true, T_A3)]
abbrev M_Heap_box : List RMode := []
abbrev Ft_Heap_box : Type := D_Heap × Unit → Option (D_A3 × Unit)
def X_Heap_box (n : Nat) : Ctx := { types := TT, globals := [], con := [], keep := [], results := [.cell 2 59], ntmps := 10, n := n }
def B_Heap_box : Code := (Try.f27.body).getD .skip
theorem e_Heap_box (n : Nat) (a0 : D_Heap) : runF (X_Heap_box n) B_Heap_box As_Heap_box R_Heap_box M_Heap_box (a0, ()) = 
 some ((a0.1, (a0.2.1, (a0.2.2.1, ()))), ()) := by kernel_rfl
def P_Heap_box : Ft_Heap_box := hid (runF (X_Heap_box N) B_Heap_box As_Heap_box R_Heap_box M_Heap_box)
theorem h_Heap_box : P_Heap_box = runF (X_Heap_box N) B_Heap_box As_Heap_box R_Heap_box M_Heap_box := hid_eq _
def C_Heap_box : Contract := ⟨As_Heap_box, R_Heap_box, M_Heap_box, P_Heap_box⟩
theorem s_Heap_box : Sound Try.prog GG 27 C_Heap_box := by
 unfold C_Heap_box; rw [h_Heap_box]
 exact sound_of_run (fn := Try.f27) hmix hstable (tyOK_of ttOK) (hglob _) (conOK_of trivial) (mconOK_of trivial) (by kernel_rfl) (by kernel_rfl) (by kernel_rfl) (by kernel_rfl) (by kernel_rfl) (of_decide_eq_true (by kernel_rfl))
theorem p_Heap_box (a0 : D_Heap) : P_Heap_box (a0, ()) = 
 some ((a0.1, (a0.2.1, (a0.2.2.1, ()))), ()) := by
 rewrite [h_Heap_box]
 exact e_Heap_box N a0

abbrev As_impl_within : List ATy := [.data false (.int .i64), .data false (.int .i64), .data false (.int .i64)]
abbrev R_impl_within : List (Bool × Ty) := [(false, .bool)]
abbrev M_impl_within : List RMode := []
abbrev Ft_impl_within : Type := Int × Int × Int × Unit → Option (Bool × Unit)
def X_impl_within (n : Nat) : Ctx := { types := TT, globals := [], con := [], keep := [], results := [.tmp 6], ntmps := 15, n := n }
def B_impl_within : Code := (Try.f62.body).getD .skip
theorem e_impl_within (n : Nat) (a0 a1 a2 : Int) : runF (X_impl_within n) B_impl_within As_impl_within R_impl_within M_impl_within (a0, a1, a2, ()) = 
 bif decide (a0 ≥ a1) then
 some (decide (a0 ≤ a2), ())
 else
 some (false, ()) := by kernel_rfl
def P_impl_within : Ft_impl_within := hid (runF (X_impl_within N) B_impl_within As_impl_within R_impl_within M_impl_within)
theorem h_impl_within : P_impl_within = runF (X_impl_within N) B_impl_within As_impl_within R_impl_within M_impl_within := hid_eq _
def C_impl_within : Contract := ⟨As_impl_within, R_impl_within, M_impl_within, P_impl_within⟩
theorem s_impl_within : Sound Try.prog GG 62 C_impl_within := by
 unfold C_impl_within; rw [h_impl_within]
 exact sound_of_run (fn := Try.f62) hmix hstable (tyOK_of ttOK) (hglob _) (conOK_of trivial) (mconOK_of trivial) (by kernel_rfl) (by kernel_rfl) (by kernel_rfl) (by kernel_rfl) (by kernel_rfl) (of_decide_eq_true (by kernel_rfl))
theorem p_impl_within (a0 a1 a2 : Int) : P_impl_within (a0, a1, a2, ()) = 
 bif decide (a0 ≥ a1) then
 some (decide (a0 ≤ a2), ())
 else
 some (false, ()) := by
 rewrite [h_impl_within]
 exact e_impl_within N a0 a1 a2

abbrev As_box_valid : List ATy := [.data true T_A3]
abbrev R_box_valid : List (Bool × Ty) := [(false, .bool)]
abbrev M_box_valid : List RMode := []
abbrev Ft_box_valid : Type := D_A3 × Unit → Option (Bool × Unit)
def X_box_valid (n : Nat) (F_impl_within : Ft_impl_within) : Ctx := { types := TT, globals := [], con := [(62, ⟨As_impl_within, R_impl_within, M_impl_within, F_impl_within⟩)], keep := [], results := [.tmp 2], ntmps := 16, n := n }
def B_box_valid : Code := (Try.f48.body).getD .skip
theorem e_box_valid (n : Nat) (F_impl_within : Ft_impl_within) (a0 : D_A3) : runF (X_box_valid n F_impl_within) B_box_valid As_box_valid R_box_valid M_box_valid (a0, ()) = 
 Option.bind (F_impl_within (a0.1, 1, 4, ())) fun r0 =>
 bif r0.1 then
 Option.bind (F_impl_within (a0.2.1, 1, 4, ())) fun r2 =>
 bif r2.1 then
 Option.bind (F_impl_within (a0.2.2.1, 1, 4, ())) fun r4 =>
 some (r4.1, ())
 else
 some (false, ())
 else
 some (false, ()) := by kernel_rfl
def P_box_valid : Ft_box_valid := hid (runF (X_box_valid N P_impl_within) B_box_valid As_box_valid R_box_valid M_box_valid)
theorem h_box_valid : P_box_valid = runF (X_box_valid N P_impl_within) B_box_valid As_box_valid R_box_valid M_box_valid := hid_eq _
def C_box_valid : Contract := ⟨As_box_valid, R_box_valid, M_box_valid, P_box_valid⟩
theorem s_box_valid : Sound Try.prog GG 48 C_box_valid := by
 unfold C_box_valid; rw [h_box_valid]
 exact sound_of_run (fn := Try.f48) hmix hstable (tyOK_of ttOK) (hglob _) (conOK_of ⟨s_impl_within, trivial⟩) (mconOK_of trivial) (by kernel_rfl) (by kernel_rfl) (by kernel_rfl) (by kernel_rfl) (by kernel_rfl) (of_decide_eq_true (by kernel_rfl))
theorem p_box_valid (a0 : D_A3) : P_box_valid (a0, ()) = 
 Option.bind (P_impl_within (a0.1, 1, 4, ())) fun r0 =>
 bif r0.1 then
 Option.bind (P_impl_within (a0.2.1, 1, 4, ())) fun r2 =>
 bif r2.1 then
 Option.bind (P_impl_within (a0.2.2.1, 1, 4, ())) fun r4 =>
 some (r4.1, ())
 else
 some (false, ())
 else
 some (false, ()) := by
 rewrite [h_box_valid]
 exact e_box_valid N P_impl_within a0

abbrev As_box_has : List ATy := [.data true T_A3, .data true T_A3]
abbrev R_box_has : List (Bool × Ty) := [(false, .bool)]
abbrev M_box_has : List RMode := []
abbrev Ft_box_has : Type := D_A3 × D_A3 × Unit → Option (Bool × Unit)
def X_box_has (n : Nat) (F_impl_within : Ft_impl_within) : Ctx := { types := TT, globals := [], con := [(62, ⟨As_impl_within, R_impl_within, M_impl_within, F_impl_within⟩)], keep := [], results := [.tmp 4], ntmps := 27, n := n }
def B_box_has : Code := (Try.f52.body).getD .skip
theorem e_box_has (n : Nat) (F_impl_within : Ft_impl_within) (a0 a1 : D_A3) : runF (X_box_has n F_impl_within) B_box_has As_box_has R_box_has M_box_has (a0, a1, ()) = 
 Option.bind (F_impl_within (a1.1, 0, (IntKind.wrap .i64 (a0.1 - 1)), ())) fun r0 =>
 bif r0.1 then
 Option.bind (F_impl_within (a1.2.1, 0, (IntKind.wrap .i64 (a0.2.1 - 1)), ())) fun r2 =>
 bif r2.1 then
 Option.bind (F_impl_within (a1.2.2.1, 0, (IntKind.wrap .i64 (a0.2.2.1 - 1)), ())) fun r4 =>
 some (r4.1, ())
 else
 some (false, ())
 else
 some (false, ()) := by kernel_rfl
def P_box_has : Ft_box_has := hid (runF (X_box_has N P_impl_within) B_box_has As_box_has R_box_has M_box_has)
theorem h_box_has : P_box_has = runF (X_box_has N P_impl_within) B_box_has As_box_has R_box_has M_box_has := hid_eq _
def C_box_has : Contract := ⟨As_box_has, R_box_has, M_box_has, P_box_has⟩
theorem s_box_has : Sound Try.prog GG 52 C_box_has := by
 unfold C_box_has; rw [h_box_has]
 exact sound_of_run (fn := Try.f52) hmix hstable (tyOK_of ttOK) (hglob _) (conOK_of ⟨s_impl_within, trivial⟩) (mconOK_of trivial) (by kernel_rfl) (by kernel_rfl) (by kernel_rfl) (by kernel_rfl) (by kernel_rfl) (of_decide_eq_true (by kernel_rfl))
theorem p_box_has (a0 a1 : D_A3) : P_box_has (a0, a1, ()) = 
 Option.bind (P_impl_within (a1.1, 0, (IntKind.wrap .i64 (a0.1 - 1)), ())) fun r0 =>
 bif r0.1 then
 Option.bind (P_impl_within (a1.2.1, 0, (IntKind.wrap .i64 (a0.2.1 - 1)), ())) fun r2 =>
 bif r2.1 then
 Option.bind (P_impl_within (a1.2.2.1, 0, (IntKind.wrap .i64 (a0.2.2.1 - 1)), ())) fun r4 =>
 some (r4.1, ())
 else
 some (false, ())
 else
 some (false, ()) := by
 rewrite [h_box_has]
 exact e_box_has N P_impl_within a0 a1

abbrev As_cmp_isNaN_int : List ATy := [.data false (.int .i64)]
abbrev R_cmp_isNaN_int : List (Bool × Ty) := [(false, .bool)]
abbrev M_cmp_isNaN_int : List RMode := []
abbrev Ft_cmp_isNaN_int : Type := Int × Unit → Option (Bool × Unit)
def X_cmp_isNaN_int (n : Nat) : Ctx := { types := TT, globals := [], con := [], keep := [], results := [.tmp 2], ntmps := 6, n := n }
def B_cmp_isNaN_int : Code := (Try.f92.body).getD .skip
theorem e_cmp_isNaN_int (n : Nat) (a0 : Int) : runF (X_cmp_isNaN_int n) B_cmp_isNaN_int As_cmp_isNaN_int R_cmp_isNaN_int M_cmp_isNaN_int (a0, ()) = 
 some (!decide (a0 = a0), ()) := by kernel_rfl
def P_cmp_isNaN_int : Ft_cmp_isNaN_int := hid (runF (X_cmp_isNaN_int N) B_cmp_isNaN_int As_cmp_isNaN_int R_cmp_isNaN_int M_cmp_isNaN_int)
theorem h_cmp_isNaN_int : P_cmp_isNaN_int = runF (X_cmp_isNaN_int N) B_cmp_isNaN_int As_cmp_isNaN_int R_cmp_isNaN_int M_cmp_isNaN_int := hid_eq _
def C_cmp_isNaN_int : Contract := ⟨As_cmp_isNaN_int, R_cmp_isNaN_int, M_cmp_isNaN_int, P_cmp_isNaN_int⟩
theorem s_cmp_isNaN_int : Sound Try.prog GG 92 C_cmp_isNaN_int := by
 unfold C_cmp_isNaN_int; rw [h_cmp_isNaN_int]
 exact sound_of_run (fn := Try.f92) hmix hstable (tyOK_of ttOK) (hglob _) (conOK_of trivial) (mconOK_of trivial) (by kernel_rfl) (by kernel_rfl) (by kernel_rfl) (by kernel_rfl) (by kernel_rfl) (of_decide_eq_true (by kernel_rfl))
theorem p_cmp_isNaN_int (a0 : Int) : P_cmp_isNaN_int (a0, ()) = 
 some (!decide (a0 = a0), ()) := by
 rewrite [h_cmp_isNaN_int]
 exact e_cmp_isNaN_int N a0

abbrev As_cmp_Compare_int : List ATy := [.data false (.int .i64), .data false (.int .i64)]
abbrev R_cmp_Compare_int : List (Bool × Ty) := [(false, (.int .i64))]
abbrev M_cmp_Compare_int : List RMode := []
abbrev Ft_cmp_Compare_int : Type := Int × Int × Unit → Option (Int × Unit)
def X_cmp_Compare_int (n : Nat) (F_cmp_isNaN_int : Ft_cmp_isNaN_int) : Ctx := { types := TT, globals := [], con := [(92, ⟨As_cmp_isNaN_int, R_cmp_isNaN_int, M_cmp_isNaN_int, F_cmp_isNaN_int⟩)], keep := [], results := [.tmp 4], ntmps := 20, n := n }
def B_cmp_Compare_int : Code := (Try.f90.body).getD .skip
theorem e_cmp_Compare_int (n : Nat) (F_cmp_isNaN_int : Ft_cmp_isNaN_int) (a0 a1 : Int) : runF (X_cmp_Compare_int n F_cmp_isNaN_int) B_cmp_Compare_int As_cmp_Compare_int R_cmp_Compare_int M_cmp_Compare_int (a0, a1, ()) = 
 Option.bind (F_cmp_isNaN_int (a0, ())) fun r0 =>
 Option.bind (F_cmp_isNaN_int (a1, ())) fun r1 =>
 bif r0.1 then
 bif r1.1 then
 some (0, ())
 else
 some ((-1), ())
 else
 bif r1.1 then
 some (1, ())
 else
 bif decide (a0 < a1) then
 some ((-1), ())
 else
 bif decide (a0 > a1) then
 some (1, ())
 else
 some (0, ()) := by kernel_rfl
def P_cmp_Compare_int : Ft_cmp_Compare_int := hid (runF (X_cmp_Compare_int N P_cmp_isNaN_int) B_cmp_Compare_int As_cmp_Compare_int R_cmp_Compare_int M_cmp_Compare_int)
theorem h_cmp_Compare_int : P_cmp_Compare_int = runF (X_cmp_Compare_int N P_cmp_isNaN_int) B_cmp_Compare_int As_cmp_Compare_int R_cmp_Compare_int M_cmp_Compare_int := hid_eq _
def C_cmp_Compare_int : Contract := ⟨As_cmp_Compare_int, R_cmp_Compare_int, M_cmp_Compare_int, P_cmp_Compare_int⟩
theorem s_cmp_Compare_int : Sound Try.prog GG 90 C_cmp_Compare_int := by
 unfold C_cmp_Compare_int; rw [h_cmp_Compare_int]
 exact sound_of_run (fn := Try.f90) hmix hstable (tyOK_of ttOK) (hglob _) (conOK_of ⟨s_cmp_isNaN_int, trivial⟩) (mconOK_of trivial) (by kernel_rfl) (by kernel_rfl) (by kernel_rfl) (by kernel_rfl) (by kernel_rfl) (of_decide_eq_true (by kernel_rfl))
theorem p_cmp_Compare_int (a0 a1 : Int) : P_cmp_Compare_int (a0, a1, ()) = 
 Option.bind (P_cmp_isNaN_int (a0, ())) fun r0 =>
 Option.bind (P_cmp_isNaN_int (a1, ())) fun r1 =>
 bif r0.1 then
 bif r1.1 then
 some (0, ())
 else
 some ((-1), ())
 else
 bif r1.1 then
 some (1, ())
 else
 bif decide (a0 < a1) then
 some ((-1), ())
 else
 bif decide (a0 > a1) then
 some (1, ())
 else
 some (0, ()) := by
 rewrite [h_cmp_Compare_int]
 exact e_cmp_Compare_int N P_cmp_isNaN_int a0 a1

abbrev As_slices_Compare_int_int : List ATy := [.data false (.sl (.int .i64)), .data false (.sl (.int .i64))]
abbrev R_slices_Compare_int_int : List (Bool × Ty) := [(false, (.int .i64))]
abbrev M_slices_Compare_int_int : List RMode := []
abbrev Ft_slices_Compare_int_int : Type := (List Int) × (List Int) × Unit → Option (Int × Unit)
def X_slices_Compare_int_int (n : Nat) (F_cmp_Compare_int : Ft_cmp_Compare_int) : Ctx := { types := TT, globals := [], con := [(90, ⟨As_cmp_Compare_int, R_cmp_Compare_int, M_cmp_Compare_int, F_cmp_Compare_int⟩)], keep := [(2, ⟨[.tmp 0, .tmp 1, .tmp 9, .tmp 10, .tmp 11], []⟩)], results := [.tmp 4], ntmps := 36, n := n }
def B_slices_Compare_int_int : Code := (Try.f80.body).getD .skip
def L_slices_Compare_int_int_2 (n : Nat) (F_cmp_Compare_int : Ft_cmp_Compare_int) (m0 : Nat) (p0 p1 p2 : List Int) (p3 p4 : Int) : Option (denL R_slices_Compare_int_int) := loopF (X_slices_Compare_int_int n F_cmp_Compare_int) B_slices_Compare_int_int R_slices_Compare_int_int M_slices_Compare_int_int 2 [m0] [(.ver, .num 1), (.tmp 0, .val false [.imm (.int .i64) p0 (some 0)]), (.tmp 1, .val false [.imm (.int .i64) p1 (some 1)]), (.tmp 9, .val false [.imm (.int .i64) p2 (some 0)]), (.tmp 10, .val false [.int .i64 p3]), (.tmp 11, .val false [.int .i64 p4])]
theorem e_slices_Compare_int_int (n : Nat) (F_cmp_Compare_int : Ft_cmp_Compare_int) (a0 a1 : List Int) : runF (X_slices_Compare_int_int n F_cmp_Compare_int) B_slices_Compare_int_int As_slices_Compare_int_int R_slices_Compare_int_int M_slices_Compare_int_int (a0, a1, ()) = 
 L_slices_Compare_int_int_2 n F_cmp_Compare_int n a0 a1 a0 (List.length a0 : Int) 0 := by kernel_rfl
theorem e_slices_Compare_int_int_2 (n : Nat) (F_cmp_Compare_int : Ft_cmp_Compare_int) (m0 : Nat) (p0 p1 p2 : List Int) (p3 p4 : Int) : L_slices_Compare_int_int_2 n F_cmp_Compare_int (m0 + 1) p0 p1 p2 p3 p4 = 
 bif decide (p4 < p3) then
 bif inB p4 (List.length p2) then
 bif decide (p4 ≥ (List.length p1 : Int)) then
 some (1, ())
 else
 bif inB p4 (List.length p1) then
 Option.bind (F_cmp_Compare_int ((nth ((.int .i64) : Ty) p2 p4), (nth ((.int .i64) : Ty) p1 p4), ())) fun r4 =>
 bif !decide (r4.1 = 0) then
 some (r4.1, ())
 else
 L_slices_Compare_int_int_2 n F_cmp_Compare_int m0 p0 p1 p2 p3 (IntKind.wrap .i64 (p4 + 1))
 else none
 else none
 else
 bif decide ((List.length p0 : Int) < (List.length p1 : Int)) then
 some ((-1), ())
 else
 some (0, ()) := by kernel_rfl
def P_slices_Compare_int_int : Ft_slices_Compare_int_int := hid (runF (X_slices_Compare_int_int N P_cmp_Compare_int) B_slices_Compare_int_int As_slices_Compare_int_int R_slices_Compare_int_int M_slices_Compare_int_int)
theorem h_slices_Compare_int_int : P_slices_Compare_int_int = runF (X_slices_Compare_int_int N P_cmp_Compare_int) B_slices_Compare_int_int As_slices_Compare_int_int R_slices_Compare_int_int M_slices_Compare_int_int := hid_eq _
def C_slices_Compare_int_int : Contract := ⟨As_slices_Compare_int_int, R_slices_Compare_int_int, M_slices_Compare_int_int, P_slices_Compare_int_int⟩
theorem s_slices_Compare_int_int : Sound Try.prog GG 80 C_slices_Compare_int_int := by
 unfold C_slices_Compare_int_int; rw [h_slices_Compare_int_int]
 exact sound_of_run (fn := Try.f80) hmix hstable (tyOK_of ttOK) (hglob _) (conOK_of ⟨s_cmp_Compare_int, trivial⟩) (mconOK_of trivial) (by kernel_rfl) (by kernel_rfl) (by kernel_rfl) (by kernel_rfl) (by kernel_rfl) (of_decide_eq_true (by kernel_rfl))
def l_slices_Compare_int_int_2 : Nat → (List Int) → (List Int) → (List Int) → Int → Int → Option (denL R_slices_Compare_int_int) := hid (fun m0 p0 p1 p2 p3 p4 => L_slices_Compare_int_int_2 N P_cmp_Compare_int m0 p0 p1 p2 p3 p4)
theorem h_slices_Compare_int_int_2 : l_slices_Compare_int_int_2 = fun m0 p0 p1 p2 p3 p4 => L_slices_Compare_int_int_2 N P_cmp_Compare_int m0 p0 p1 p2 p3 p4 := hid_eq _
theorem p_slices_Compare_int_int (a0 a1 : List Int) : P_slices_Compare_int_int (a0, a1, ()) = 
 l_slices_Compare_int_int_2 N a0 a1 a0 (List.length a0 : Int) 0 := by
 rewrite [h_slices_Compare_int_int, h_slices_Compare_int_int_2]
 exact e_slices_Compare_int_int N P_cmp_Compare_int a0 a1
theorem q_slices_Compare_int_int_2 (m0 : Nat) (p0 p1 p2 : List Int) (p3 p4 : Int) : l_slices_Compare_int_int_2 (m0 + 1) p0 p1 p2 p3 p4 = 
 bif decide (p4 < p3) then
 bif inB p4 (List.length p2) then
 bif decide (p4 ≥ (List.length p1 : Int)) then
 some (1, ())
 else
 bif inB p4 (List.length p1) then
 Option.bind (P_cmp_Compare_int ((nth ((.int .i64) : Ty) p2 p4), (nth ((.int .i64) : Ty) p1 p4), ())) fun r4 =>
 bif !decide (r4.1 = 0) then
 some (r4.1, ())
 else
 l_slices_Compare_int_int_2 m0 p0 p1 p2 p3 (IntKind.wrap .i64 (p4 + 1))
 else none
 else none
 else
 bif decide ((List.length p0 : Int) < (List.length p1 : Int)) then
 some ((-1), ())
 else
 some (0, ()) := by
 rewrite [h_slices_Compare_int_int_2]
 exact e_slices_Compare_int_int_2 N P_cmp_Compare_int m0 p0 p1 p2 p3 p4

abbrev As_impl_compareCells : List ATy := [.data true T_A3, .data true T_A3]
abbrev R_impl_compareCells : List (Bool × Ty) := [(false, (.int .i64))]
abbrev M_impl_compareCells : List RMode := []
abbrev Ft_impl_compareCells : Type := D_A3 × D_A3 × Unit → Option (Int × Unit)
def X_impl_compareCells (n : Nat) (F_slices_Compare_int_int : Ft_slices_Compare_int_int) : Ctx := { types := TT, globals := [], con := [(80, ⟨As_slices_Compare_int_int, R_slices_Compare_int_int, M_slices_Compare_int_int, F_slices_Compare_int_int⟩)], keep := [], results := [.tmp 4], ntmps := 8, n := n }
def B_impl_compareCells : Code := (Try.f53.body).getD .skip
theorem e_impl_compareCells (n : Nat) (F_slices_Compare_int_int : Ft_slices_Compare_int_int) (a0 a1 : D_A3) : runF (X_impl_compareCells n F_slices_Compare_int_int) B_impl_compareCells As_impl_compareCells R_impl_compareCells M_impl_compareCells (a0, a1, ()) = 
 Option.bind (F_slices_Compare_int_int (([a0.1, a0.2.1, a0.2.2.1] : List Int), ([a1.1, a1.2.1, a1.2.2.1] : List Int), ())) fun r0 =>
 some (r0.1, ()) := by kernel_rfl
def P_impl_compareCells : Ft_impl_compareCells := hid (runF (X_impl_compareCells N P_slices_Compare_int_int) B_impl_compareCells As_impl_compareCells R_impl_compareCells M_impl_compareCells)
theorem h_impl_compareCells : P_impl_compareCells = runF (X_impl_compareCells N P_slices_Compare_int_int) B_impl_compareCells As_impl_compareCells R_impl_compareCells M_impl_compareCells := hid_eq _
def C_impl_compareCells : Contract := ⟨As_impl_compareCells, R_impl_compareCells, M_impl_compareCells, P_impl_compareCells⟩
theorem s_impl_compareCells : Sound Try.prog GG 53 C_impl_compareCells := by
 unfold C_impl_compareCells; rw [h_impl_compareCells]
 exact sound_of_run (fn := Try.f53) hmix hstable (tyOK_of ttOK) (hglob _) (conOK_of ⟨s_slices_Compare_int_int, trivial⟩) (mconOK_of trivial) (by kernel_rfl) (by kernel_rfl) (by kernel_rfl) (by kernel_rfl) (by kernel_rfl) (of_decide_eq_true (by kernel_rfl))
theorem p_impl_compareCells (a0 a1 : D_A3) : P_impl_compareCells (a0, a1, ()) = 
 Option.bind (P_slices_Compare_int_int (([a0.1, a0.2.1, a0.2.2.1] : List Int), ([a1.1, a1.2.1, a1.2.2.1] : List Int), ())) fun r0 =>
 some (r0.1, ()) := by
 rewrite [h_impl_compareCells]
 exact e_impl_compareCells N P_slices_Compare_int_int a0 a1

abbrev As_impl_IsHeap : List ATy := [.data true T_Heap]
abbrev R_impl_IsHeap : List (Bool × Ty) := [(false, .bool)]
abbrev M_impl_IsHeap : List RMode := []
abbrev Ft_impl_IsHeap : Type := D_Heap × Unit → Option (Bool × Unit)
def X_impl_IsHeap (n : Nat) (F_Heap_box : Ft_Heap_box) (F_box_valid : Ft_box_valid) (F_box_has : Ft_box_has) (F_impl_compareCells : Ft_impl_compareCells) : Ctx := { types := TT, globals := [], con := [(27, ⟨As_Heap_box, R_Heap_box, M_Heap_box, F_Heap_box⟩), (48, ⟨As_box_valid, R_box_valid, M_box_valid, F_box_valid⟩), (52, ⟨As_box_has, R_box_has, M_box_has, F_box_has⟩), (53, ⟨As_impl_compareCells, R_impl_compareCells, M_impl_compareCells, F_impl_compareCells⟩)], keep := [(4, ⟨[.box 1, .tmp 1, .tmp 10, .tmp 11, .tmp 12], []⟩)], results := [.tmp 2], ntmps := 38, n := n }
def B_impl_IsHeap : Code := (Try.f20.body).getD .skip
def L_impl_IsHeap_4 (n : Nat) (F_Heap_box : Ft_Heap_box) (F_box_valid : Ft_box_valid) (F_box_has : Ft_box_has) (F_impl_compareCells : Ft_impl_compareCells) (m0 : Nat) (p0 p1 p2 : Int) (p3 p4 : List D_A3) (p5 p6 : Int) : Option (denL R_impl_IsHeap) := loopF (X_impl_IsHeap n F_Heap_box F_box_valid F_box_has F_impl_compareCells) B_impl_IsHeap R_impl_IsHeap M_impl_IsHeap 4 [m0] [(.ver, .num 1), (.box 1, .box 0 false [.int .i64 p0, .int .i64 p1, .int .i64 p2, .imm T_A3 p3 (some 3)]), (.tmp 1, .val false [.addr 1 0 0]), (.tmp 10, .val false [.imm T_A3 p4 (some 3)]), (.tmp 11, .val false [.int .i64 p5]), (.tmp 12, .val false [.int .i64 p6])]
theorem e_impl_IsHeap (n : Nat) (F_Heap_box : Ft_Heap_box) (F_box_valid : Ft_box_valid) (F_box_has : Ft_box_has) (F_impl_compareCells : Ft_impl_compareCells) (a0 : D_Heap) : runF (X_impl_IsHeap n F_Heap_box F_box_valid F_box_has F_impl_compareCells) B_impl_IsHeap As_impl_IsHeap R_impl_IsHeap M_impl_IsHeap (a0, ()) = 
 Option.bind (F_Heap_box (a0, ())) fun r0 =>
 Option.bind (F_box_valid (r0.1, ())) fun r1 =>
 bif !r1.1 then
 some (false, ())
 else
 L_impl_IsHeap_4 n F_Heap_box F_box_valid F_box_has F_impl_compareCells n a0.1 a0.2.1 a0.2.2.1 a0.2.2.2.1 a0.2.2.2.1 (List.length a0.2.2.2.1 : Int) 0 := by kernel_rfl
theorem e_impl_IsHeap_4 (n : Nat) (F_Heap_box : Ft_Heap_box) (F_box_valid : Ft_box_valid) (F_box_has : Ft_box_has) (F_impl_compareCells : Ft_impl_compareCells) (m0 : Nat) (p0 p1 p2 : Int) (p3 p4 : List D_A3) (p5 p6 : Int) : L_impl_IsHeap_4 n F_Heap_box F_box_valid F_box_has F_impl_compareCells (m0 + 1) p0 p1 p2 p3 p4 p5 p6 = 
 bif decide (p6 < p5) then
 bif inB p6 (List.length p4) then
 Option.bind (F_Heap_box ((p0, (p1, (p2, (p3, ())))), ())) fun r2 =>
 Option.bind (F_box_has (r2.1, (nth T_A3 p4 p6), ())) fun r3 =>
 bif !r3.1 then
 some (false, ())
 else
 bif decide (p6 > 0) then
 bif inB (IntKind.wrap .i64 (p6 - 1)) (List.length p3) then
 Option.bind (F_impl_compareCells ((nth T_A3 p3 (IntKind.wrap .i64 (p6 - 1))), (nth T_A3 p4 p6), ())) fun r7 =>
 bif decide (r7.1 ≥ 0) then
 some (false, ())
 else
 L_impl_IsHeap_4 n F_Heap_box F_box_valid F_box_has F_impl_compareCells m0 p0 p1 p2 p3 p4 p5 (IntKind.wrap .i64 (p6 + 1))
 else none
 else
 L_impl_IsHeap_4 n F_Heap_box F_box_valid F_box_has F_impl_compareCells m0 p0 p1 p2 p3 p4 p5 (IntKind.wrap .i64 (p6 + 1))
 else none
 else
 some (true, ()) := by kernel_rfl
def P_impl_IsHeap : Ft_impl_IsHeap := hid (runF (X_impl_IsHeap N P_Heap_box P_box_valid P_box_has P_impl_compareCells) B_impl_IsHeap As_impl_IsHeap R_impl_IsHeap M_impl_IsHeap)
theorem h_impl_IsHeap : P_impl_IsHeap = runF (X_impl_IsHeap N P_Heap_box P_box_valid P_box_has P_impl_compareCells) B_impl_IsHeap As_impl_IsHeap R_impl_IsHeap M_impl_IsHeap := hid_eq _
def C_impl_IsHeap : Contract := ⟨As_impl_IsHeap, R_impl_IsHeap, M_impl_IsHeap, P_impl_IsHeap⟩
theorem s_impl_IsHeap : Sound Try.prog GG 20 C_impl_IsHeap := by
 unfold C_impl_IsHeap; rw [h_impl_IsHeap]
 exact sound_of_run (fn := Try.f20) hmix hstable (tyOK_of ttOK) (hglob _) (conOK_of ⟨s_Heap_box, s_box_valid, s_box_has, s_impl_compareCells, trivial⟩) (mconOK_of trivial) (by kernel_rfl) (by kernel_rfl) (by kernel_rfl) (by kernel_rfl) (by kernel_rfl) (of_decide_eq_true (by kernel_rfl))
def l_impl_IsHeap_4 : Nat → Int → Int → Int → (List D_A3) → (List D_A3) → Int → Int → Option (denL R_impl_IsHeap) := hid (fun m0 p0 p1 p2 p3 p4 p5 p6 => L_impl_IsHeap_4 N P_Heap_box P_box_valid P_box_has P_impl_compareCells m0 p0 p1 p2 p3 p4 p5 p6)
theorem h_impl_IsHeap_4 : l_impl_IsHeap_4 = fun m0 p0 p1 p2 p3 p4 p5 p6 => L_impl_IsHeap_4 N P_Heap_box P_box_valid P_box_has P_impl_compareCells m0 p0 p1 p2 p3 p4 p5 p6 := hid_eq _
theorem p_impl_IsHeap (a0 : D_Heap) : P_impl_IsHeap (a0, ()) = 
 Option.bind (P_Heap_box (a0, ())) fun r0 =>
 Option.bind (P_box_valid (r0.1, ())) fun r1 =>
 bif !r1.1 then
 some (false, ())
 else
 l_impl_IsHeap_4 N a0.1 a0.2.1 a0.2.2.1 a0.2.2.2.1 a0.2.2.2.1 (List.length a0.2.2.2.1 : Int) 0 := by
 rewrite [h_impl_IsHeap, h_impl_IsHeap_4]
 exact e_impl_IsHeap N P_Heap_box P_box_valid P_box_has P_impl_compareCells a0
theorem q_impl_IsHeap_4 (m0 : Nat) (p0 p1 p2 : Int) (p3 p4 : List D_A3) (p5 p6 : Int) : l_impl_IsHeap_4 (m0 + 1) p0 p1 p2 p3 p4 p5 p6 = 
 bif decide (p6 < p5) then
 bif inB p6 (List.length p4) then
 Option.bind (P_Heap_box ((p0, (p1, (p2, (p3, ())))), ())) fun r2 =>
 Option.bind (P_box_has (r2.1, (nth T_A3 p4 p6), ())) fun r3 =>
 bif !r3.1 then
 some (false, ())
 else
 bif decide (p6 > 0) then
 bif inB (IntKind.wrap .i64 (p6 - 1)) (List.length p3) then
 Option.bind (P_impl_compareCells ((nth T_A3 p3 (IntKind.wrap .i64 (p6 - 1))), (nth T_A3 p4 p6), ())) fun r7 =>
 bif decide (r7.1 ≥ 0) then
 some (false, ())
 else
 l_impl_IsHeap_4 m0 p0 p1 p2 p3 p4 p5 (IntKind.wrap .i64 (p6 + 1))
 else none
 else
 l_impl_IsHeap_4 m0 p0 p1 p2 p3 p4 p5 (IntKind.wrap .i64 (p6 + 1))
 else none
 else
 some (true, ()) := by
 rewrite [h_impl_IsHeap_4]
 exact e_impl_IsHeap_4 N P_Heap_box P_box_valid P_box_has P_impl_compareCells m0 p0 p1 p2 p3 p4 p5 p6

abbrev As_impl_isDirection : List ATy := [.data false (.int .i64)]
abbrev R_impl_isDirection : List (Bool × Ty) := [(false, .bool)]
abbrev M_impl_isDirection : List RMode := []
abbrev Ft_impl_isDirection : Type := Int × Unit → Option (Bool × Unit)
def X_impl_isDirection (n : Nat) (F_impl_within : Ft_impl_within) : Ctx := { types := TT, globals := [], con := [(62, ⟨As_impl_within, R_impl_within, M_impl_within, F_impl_within⟩)], keep := [], results := [.tmp 2], ntmps := 5, n := n }
def B_impl_isDirection : Code := (Try.f46.body).getD .skip
theorem e_impl_isDirection (n : Nat) (F_impl_within : Ft_impl_within) (a0 : Int) : runF (X_impl_isDirection n F_impl_within) B_impl_isDirection As_impl_isDirection R_impl_isDirection M_impl_isDirection (a0, ()) = 
 Option.bind (F_impl_within (a0, 0, 2, ())) fun r0 =>
 some (r0.1, ()) := by kernel_rfl
def P_impl_isDirection : Ft_impl_isDirection := hid (runF (X_impl_isDirection N P_impl_within) B_impl_isDirection As_impl_isDirection R_impl_isDirection M_impl_isDirection)
theorem h_impl_isDirection : P_impl_isDirection = runF (X_impl_isDirection N P_impl_within) B_impl_isDirection As_impl_isDirection R_impl_isDirection M_impl_isDirection := hid_eq _
def C_impl_isDirection : Contract := ⟨As_impl_isDirection, R_impl_isDirection, M_impl_isDirection, P_impl_isDirection⟩
theorem s_impl_isDirection : Sound Try.prog GG 46 C_impl_isDirection := by
 unfold C_impl_isDirection; rw [h_impl_isDirection]
 exact sound_of_run (fn := Try.f46) hmix hstable (tyOK_of ttOK) (hglob _) (conOK_of ⟨s_impl_within, trivial⟩) (mconOK_of trivial) (by kernel_rfl) (by kernel_rfl) (by kernel_rfl) (by kernel_rfl) (by kernel_rfl) (of_decide_eq_true (by kernel_rfl))
theorem p_impl_isDirection (a0 : Int) : P_impl_isDirection (a0, ()) = 
 Option.bind (P_impl_within (a0, 0, 2, ())) fun r0 =>
 some (r0.1, ()) := by
 rewrite [h_impl_isDirection]
 exact e_impl_isDirection N P_impl_within a0

abbrev As_Heap_isCut : List ATy := [.data true T_Heap, .data false (.int .i64), .data false (.int .i64)]
abbrev R_Heap_isCut : List (Bool × Ty) := [(false, .bool)]
abbrev M_Heap_isCut : List RMode := []
abbrev Ft_Heap_isCut : Type := D_Heap × Int × Int × Unit → Option (Bool × Unit)
def X_Heap_isCut (n : Nat) (F_Heap_box : Ft_Heap_box) (F_impl_isDirection : Ft_impl_isDirection) (F_impl_within : Ft_impl_within) : Ctx := { types := TT, globals := [], con := [(27, ⟨As_Heap_box, R_Heap_box, M_Heap_box, F_Heap_box⟩), (46, ⟨As_impl_isDirection, R_impl_isDirection, M_impl_isDirection, F_impl_isDirection⟩), (62, ⟨As_impl_within, R_impl_within, M_impl_within, F_impl_within⟩)], keep := [], results := [.tmp 6], ntmps := 18, n := n }
def B_Heap_isCut : Code := (Try.f26.body).getD .skip
theorem e_Heap_isCut (n : Nat) (F_Heap_box : Ft_Heap_box) (F_impl_isDirection : Ft_impl_isDirection) (F_impl_within : Ft_impl_within) (a0 : D_Heap) (a1 a2 : Int) : runF (X_Heap_isCut n F_Heap_box F_impl_isDirection F_impl_within) B_Heap_isCut As_Heap_isCut R_Heap_isCut M_Heap_isCut (a0, a1, a2, ()) = 
 Option.bind (F_impl_isDirection (a1, ())) fun r0 =>
 bif r0.1 then
 Option.bind (F_Heap_box (a0, ())) fun r2 =>
 bif inB a1 3 then
 Option.bind (F_impl_within (a2, 1, (IntKind.wrap .i64 ((bif decide (a1 = (0 : Int)) then r2.1.1 else (bif decide (a1 = (1 : Int)) then r2.1.2.1 else r2.1.2.2.1)) - 1)), ())) fun r4 =>
 some (r4.1, ())
 else none
 else
 some (false, ()) := by kernel_rfl
def P_Heap_isCut : Ft_Heap_isCut := hid (runF (X_Heap_isCut N P_Heap_box P_impl_isDirection P_impl_within) B_Heap_isCut As_Heap_isCut R_Heap_isCut M_Heap_isCut)
theorem h_Heap_isCut : P_Heap_isCut = runF (X_Heap_isCut N P_Heap_box P_impl_isDirection P_impl_within) B_Heap_isCut As_Heap_isCut R_Heap_isCut M_Heap_isCut := hid_eq _
def C_Heap_isCut : Contract := ⟨As_Heap_isCut, R_Heap_isCut, M_Heap_isCut, P_Heap_isCut⟩
theorem s_Heap_isCut : Sound Try.prog GG 26 C_Heap_isCut := by
 unfold C_Heap_isCut; rw [h_Heap_isCut]
 exact sound_of_run (fn := Try.f26) hmix hstable (tyOK_of ttOK) (hglob _) (conOK_of ⟨s_Heap_box, s_impl_isDirection, s_impl_within, trivial⟩) (mconOK_of trivial) (by kernel_rfl) (by kernel_rfl) (by kernel_rfl) (by kernel_rfl) (by kernel_rfl) (of_decide_eq_true (by kernel_rfl))
theorem p_Heap_isCut (a0 : D_Heap) (a1 a2 : Int) : P_Heap_isCut (a0, a1, a2, ()) = 
 Option.bind (P_impl_isDirection (a1, ())) fun r0 =>
 bif r0.1 then
 Option.bind (P_Heap_box (a0, ())) fun r2 =>
 bif inB a1 3 then
 Option.bind (P_impl_within (a2, 1, (IntKind.wrap .i64 ((bif decide (a1 = (0 : Int)) then r2.1.1 else (bif decide (a1 = (1 : Int)) then r2.1.2.1 else r2.1.2.2.1)) - 1)), ())) fun r4 =>
 some (r4.1, ())
 else none
 else
 some (false, ()) := by
 rewrite [h_Heap_isCut]
 exact e_Heap_isCut N P_Heap_box P_impl_isDirection P_impl_within a0 a1 a2

abbrev As_box_index : List ATy := [.data true T_A3, .data true T_A3]
abbrev R_box_index : List (Bool × Ty) := [(false, (.int .i64))]
abbrev M_box_index : List RMode := []
abbrev Ft_box_index : Type := D_A3 × D_A3 × Unit → Option (Int × Unit)
def X_box_index (n : Nat) : Ctx := { types := TT, globals := [], con := [], keep := [], results := [.tmp 4], ntmps := 19, n := n }
def B_box_index : Code := (Try.f28.body).getD .skip
theorem e_box_index (n : Nat) (a0 a1 : D_A3) : runF (X_box_index n) B_box_index As_box_index R_box_index M_box_index (a0, a1, ()) = 
 some ((IntKind.wrap .i64 ((IntKind.wrap .i64 ((IntKind.wrap .i64 ((IntKind.wrap .i64 (a1.1 * a0.2.1)) + a1.2.1)) * a0.2.2.1)) + a1.2.2.1)), ()) := by kernel_rfl
def P_box_index : Ft_box_index := hid (runF (X_box_index N) B_box_index As_box_index R_box_index M_box_index)
theorem h_box_index : P_box_index = runF (X_box_index N) B_box_index As_box_index R_box_index M_box_index := hid_eq _
def C_box_index : Contract := ⟨As_box_index, R_box_index, M_box_index, P_box_index⟩
theorem s_box_index : Sound Try.prog GG 28 C_box_index := by
 unfold C_box_index; rw [h_box_index]
 exact sound_of_run (fn := Try.f28) hmix hstable (tyOK_of ttOK) (hglob _) (conOK_of trivial) (mconOK_of trivial) (by kernel_rfl) (by kernel_rfl) (by kernel_rfl) (by kernel_rfl) (by kernel_rfl) (of_decide_eq_true (by kernel_rfl))
theorem p_box_index (a0 a1 : D_A3) : P_box_index (a0, a1, ()) = 
 some ((IntKind.wrap .i64 ((IntKind.wrap .i64 ((IntKind.wrap .i64 ((IntKind.wrap .i64 (a1.1 * a0.2.1)) + a1.2.1)) * a0.2.2.1)) + a1.2.2.1)), ()) := by
 rewrite [h_box_index]
 exact e_box_index N a0 a1

abbrev As_box_size : List ATy := [.data true T_A3]
abbrev R_box_size : List (Bool × Ty) := [(false, (.int .i64))]
abbrev M_box_size : List RMode := []
abbrev Ft_box_size : Type := D_A3 × Unit → Option (Int × Unit)
def X_box_size (n : Nat) : Ctx := { types := TT, globals := [], con := [], keep := [], results := [.tmp 2], ntmps := 11, n := n }
def B_box_size : Code := (Try.f67.body).getD .skip
theorem e_box_size (n : Nat) (a0 : D_A3) : runF (X_box_size n) B_box_size As_box_size R_box_size M_box_size (a0, ()) = 
 some ((IntKind.wrap .i64 ((IntKind.wrap .i64 (a0.1 * a0.2.1)) * a0.2.2.1)), ()) := by kernel_rfl
def P_box_size : Ft_box_size := hid (runF (X_box_size N) B_box_size As_box_size R_box_size M_box_size)
theorem h_box_size : P_box_size = runF (X_box_size N) B_box_size As_box_size R_box_size M_box_size := hid_eq _
def C_box_size : Contract := ⟨As_box_size, R_box_size, M_box_size, P_box_size⟩
theorem s_box_size : Sound Try.prog GG 67 C_box_size := by
 unfold C_box_size; rw [h_box_size]
 exact sound_of_run (fn := Try.f67) hmix hstable (tyOK_of ttOK) (hglob _) (conOK_of trivial) (mconOK_of trivial) (by kernel_rfl) (by kernel_rfl) (by kernel_rfl) (by kernel_rfl) (by kernel_rfl) (of_decide_eq_true (by kernel_rfl))
theorem p_box_size (a0 : D_A3) : P_box_size (a0, ()) = 
 some ((IntKind.wrap .i64 ((IntKind.wrap .i64 (a0.1 * a0.2.1)) * a0.2.2.1)), ()) := by
 rewrite [h_box_size]
 exact e_box_size N a0

abbrev As_set_has : List ATy := [.data false (.int .u64), .data false (.int .i64)]
abbrev R_set_has : List (Bool × Ty) := [(false, .bool)]
abbrev M_set_has : List RMode := []
abbrev Ft_set_has : Type := Int × Int × Unit → Option (Bool × Unit)
def X_set_has (n : Nat) : Ctx := { types := TT, globals := [], con := [], keep := [], results := [.tmp 4], ntmps := 10, n := n }
def B_set_has : Code := (Try.f68.body).getD .skip
theorem e_set_has (n : Nat) (a0 a1 : Int) : runF (X_set_has n) B_set_has As_set_has R_set_has M_set_has (a0, a1, ()) = 
 bif decide ((0 : Int) ≤ a1) then
 some (decide ((intBits .and .u64 (shrI .u64 a0 a1) 1) = 1), ())
 else none := by kernel_rfl
def P_set_has : Ft_set_has := hid (runF (X_set_has N) B_set_has As_set_has R_set_has M_set_has)
theorem h_set_has : P_set_has = runF (X_set_has N) B_set_has As_set_has R_set_has M_set_has := hid_eq _
def C_set_has : Contract := ⟨As_set_has, R_set_has, M_set_has, P_set_has⟩
theorem s_set_has : Sound Try.prog GG 68 C_set_has := by
 unfold C_set_has; rw [h_set_has]
 exact sound_of_run (fn := Try.f68) hmix hstable (tyOK_of ttOK) (hglob _) (conOK_of trivial) (mconOK_of trivial) (by kernel_rfl) (by kernel_rfl) (by kernel_rfl) (by kernel_rfl) (by kernel_rfl) (of_decide_eq_true (by kernel_rfl))
theorem p_set_has (a0 a1 : Int) : P_set_has (a0, a1, ()) = 
 bif decide ((0 : Int) ≤ a1) then
 some (decide ((intBits .and .u64 (shrI .u64 a0 a1) 1) = 1), ())
 else none := by
 rewrite [h_set_has]
 exact e_set_has N a0 a1

abbrev As_box_cell : List ATy := [.data true T_A3, .data false (.int .i64)]
abbrev R_box_cell : List (Bool × Ty) := [(true, T_A3)]
abbrev M_box_cell : List RMode := []
abbrev Ft_box_cell : Type := D_A3 × Int × Unit → Option (D_A3 × Unit)
def X_box_cell (n : Nat) : Ctx := { types := TT, globals := [], con := [], keep := [], results := [.cell 4 49], ntmps := 24, n := n }
def B_box_cell : Code := (Try.f69.body).getD .skip
theorem e_box_cell (n : Nat) (a0 : D_A3) (a1 : Int) : runF (X_box_cell n) B_box_cell As_box_cell R_box_cell M_box_cell (a0, a1, ()) = 
 bif !decide (a0.2.2.1 = 0) then
 bif !decide (a0.2.1 = 0) then
 bif !decide (a0.2.2.1 = 0) then
 bif !decide (a0.2.1 = 0) then
 bif !decide (a0.2.2.1 = 0) then
 some (((IntKind.wrap .i64 (Int.tdiv (IntKind.wrap .i64 (Int.tdiv a1 a0.2.2.1)) a0.2.1)), ((Int.tmod (IntKind.wrap .i64 (Int.tdiv a1 a0.2.2.1)) a0.2.1), ((Int.tmod a1 a0.2.2.1), ()))), ())
 else none
 else none
 else none
 else none
 else none := by kernel_rfl
def P_box_cell : Ft_box_cell := hid (runF (X_box_cell N) B_box_cell As_box_cell R_box_cell M_box_cell)
theorem h_box_cell : P_box_cell = runF (X_box_cell N) B_box_cell As_box_cell R_box_cell M_box_cell := hid_eq _
def C_box_cell : Contract := ⟨As_box_cell, R_box_cell, M_box_cell, P_box_cell⟩
theorem s_box_cell : Sound Try.prog GG 69 C_box_cell := by
 unfold C_box_cell; rw [h_box_cell]
 exact sound_of_run (fn := Try.f69) hmix hstable (tyOK_of ttOK) (hglob _) (conOK_of trivial) (mconOK_of trivial) (by kernel_rfl) (by kernel_rfl) (by kernel_rfl) (by kernel_rfl) (by kernel_rfl) (of_decide_eq_true (by kernel_rfl))
theorem p_box_cell (a0 : D_A3) (a1 : Int) : P_box_cell (a0, a1, ()) = 
 bif !decide (a0.2.2.1 = 0) then
 bif !decide (a0.2.1 = 0) then
 bif !decide (a0.2.2.1 = 0) then
 bif !decide (a0.2.1 = 0) then
 bif !decide (a0.2.2.1 = 0) then
 some (((IntKind.wrap .i64 (Int.tdiv (IntKind.wrap .i64 (Int.tdiv a1 a0.2.2.1)) a0.2.1)), ((Int.tmod (IntKind.wrap .i64 (Int.tdiv a1 a0.2.2.1)) a0.2.1), ((Int.tmod a1 a0.2.2.1), ()))), ())
 else none
 else none
 else none
 else none
 else none := by
 rewrite [h_box_cell]
 exact e_box_cell N a0 a1

abbrev As_box_list : List ATy := [.data true T_A3, .data false (.int .u64)]
abbrev R_box_list : List (Bool × Ty) := [(false, (.sl T_A3))]
abbrev M_box_list : List RMode := [.own 49]
abbrev Ft_box_list : Type := D_A3 × Int × Unit → Option ((List D_A3) × Unit)
def X_box_list (n : Nat) (F_box_size : Ft_box_size) (F_set_has : Ft_set_has) (F_box_cell : Ft_box_cell) : Ctx := { types := TT, globals := [], con := [(67, ⟨As_box_size, R_box_size, M_box_size, F_box_size⟩), (68, ⟨As_set_has, R_set_has, M_set_has, F_set_has⟩), (69, ⟨As_box_cell, R_box_cell, M_box_cell, F_box_cell⟩)], keep := [(3, ⟨[.box 2, .tmp 1, .tmp 2, .tmp 5, .tmp 9, .tmp 10], []⟩)], results := [.tmp 4], ntmps := 24, n := n }
def B_box_list : Code := (Try.f38.body).getD .skip
def L_box_list_3 (n : Nat) (F_box_size : Ft_box_size) (F_set_has : Ft_set_has) (F_box_cell : Ft_box_cell) (m0 : Nat) (p0 p1 : Int) (p2 p3 : Int) (p4 : List D_A3) (p5 p6 : Int) : Option (denL R_box_list) := loopF (X_box_list n F_box_size F_set_has F_box_cell) B_box_list R_box_list M_box_list 3 [m0] [(.ver, .num 1), (.box 2, .box 0 false [.int .i64 p0, .int .i64 p1, .int .i64 p2]), (.tmp 1, .val false [.int .u64 p3]), (.tmp 2, .val false [.addr 2 0 0]), (.tmp 5, .val false [.own 49 T_A3 0 p4]), (.tmp 9, .val false [.int .i64 p5]), (.tmp 10, .val false [.int .i64 p6])]
theorem e_box_list (n : Nat) (F_box_size : Ft_box_size) (F_set_has : Ft_set_has) (F_box_cell : Ft_box_cell) (a0 : D_A3) (a1 : Int) : runF (X_box_list n F_box_size F_set_has F_box_cell) B_box_list As_box_list R_box_list M_box_list (a0, a1, ()) = 
 Option.bind (F_box_size (a0, ())) fun r0 =>
 L_box_list_3 n F_box_size F_set_has F_box_cell n a0.1 a0.2.1 a0.2.2.1 a1 ([] : List D_A3) r0.1 0 := by kernel_rfl
theorem e_box_list_3 (n : Nat) (F_box_size : Ft_box_size) (F_set_has : Ft_set_has) (F_box_cell : Ft_box_cell) (m0 : Nat) (p0 p1 : Int) (p2 p3 : Int) (p4 : List D_A3) (p5 p6 : Int) : L_box_list_3 n F_box_size F_set_has F_box_cell (m0 + 1) p0 p1 p2 p3 p4 p5 p6 = 
 bif decide (p6 < p5) then
 Option.bind (F_set_has (p3, p6, ())) fun r1 =>
 bif r1.1 then
 Option.bind (F_box_cell ((p0, (p1, (p2, ()))), p6, ())) fun r3 =>
 bif (decide (((List.length p4) + (List.length ([r3.1] : List D_A3))) * 24 ≤ 140737488355328) && decide (((List.length p4) + (List.length ([r3.1] : List D_A3))) ≤ 140737488355328)) then
 L_box_list_3 n F_box_size F_set_has F_box_cell m0 p0 p1 p2 p3 (p4 ++ ([r3.1] : List D_A3)) p5 (IntKind.wrap .i64 (p6 + 1))
 else none
 else
 L_box_list_3 n F_box_size F_set_has F_box_cell m0 p0 p1 p2 p3 p4 p5 (IntKind.wrap .i64 (p6 + 1))
 else
 some (p4, ()) := by kernel_rfl
def P_box_list : Ft_box_list := hid (runF (X_box_list N P_box_size P_set_has P_box_cell) B_box_list As_box_list R_box_list M_box_list)
theorem h_box_list : P_box_list = runF (X_box_list N P_box_size P_set_has P_box_cell) B_box_list As_box_list R_box_list M_box_list := hid_eq _
def C_box_list : Contract := ⟨As_box_list, R_box_list, M_box_list, P_box_list⟩
theorem s_box_list : Sound Try.prog GG 38 C_box_list := by
 unfold C_box_list; rw [h_box_list]
 exact sound_of_run (fn := Try.f38) hmix hstable (tyOK_of ttOK) (hglob _) (conOK_of ⟨s_box_size, s_set_has, s_box_cell, trivial⟩) (mconOK_of trivial) (by kernel_rfl) (by kernel_rfl) (by kernel_rfl) (by kernel_rfl) (by kernel_rfl) (of_decide_eq_true (by kernel_rfl))
def l_box_list_3 : Nat → Int → Int → Int → Int → (List D_A3) → Int → Int → Option (denL R_box_list) := hid (fun m0 p0 p1 p2 p3 p4 p5 p6 => L_box_list_3 N P_box_size P_set_has P_box_cell m0 p0 p1 p2 p3 p4 p5 p6)
theorem h_box_list_3 : l_box_list_3 = fun m0 p0 p1 p2 p3 p4 p5 p6 => L_box_list_3 N P_box_size P_set_has P_box_cell m0 p0 p1 p2 p3 p4 p5 p6 := hid_eq _
theorem p_box_list (a0 : D_A3) (a1 : Int) : P_box_list (a0, a1, ()) = 
 Option.bind (P_box_size (a0, ())) fun r0 =>
 l_box_list_3 N a0.1 a0.2.1 a0.2.2.1 a1 ([] : List D_A3) r0.1 0 := by
 rewrite [h_box_list, h_box_list_3]
 exact e_box_list N P_box_size P_set_has P_box_cell a0 a1
theorem q_box_list_3 (m0 : Nat) (p0 p1 : Int) (p2 p3 : Int) (p4 : List D_A3) (p5 p6 : Int) : l_box_list_3 (m0 + 1) p0 p1 p2 p3 p4 p5 p6 = 
 bif decide (p6 < p5) then
 Option.bind (P_set_has (p3, p6, ())) fun r1 =>
 bif r1.1 then
 Option.bind (P_box_cell ((p0, (p1, (p2, ()))), p6, ())) fun r3 =>
 bif (decide (((List.length p4) + (List.length ([r3.1] : List D_A3))) * 24 ≤ 140737488355328) && decide (((List.length p4) + (List.length ([r3.1] : List D_A3))) ≤ 140737488355328)) then
 l_box_list_3 m0 p0 p1 p2 p3 (p4 ++ ([r3.1] : List D_A3)) p5 (IntKind.wrap .i64 (p6 + 1))
 else none
 else
 l_box_list_3 m0 p0 p1 p2 p3 p4 p5 (IntKind.wrap .i64 (p6 + 1))
 else
 some (p4, ()) := by
 rewrite [h_box_list_3]
 exact e_box_list_3 N P_box_size P_set_has P_box_cell m0 p0 p1 p2 p3 p4 p5 p6

abbrev As_box_heap : List ATy := [.data true T_A3, .data false (.int .u64)]
abbrev R_box_heap : List (Bool × Ty) := [(true, T_Heap)]
abbrev M_box_heap : List RMode := [.own 49]
abbrev Ft_box_heap : Type := D_A3 × Int × Unit → Option (D_Heap × Unit)
def X_box_heap (n : Nat) (F_box_list : Ft_box_list) : Ctx := { types := TT, globals := [], con := [(38, ⟨As_box_list, R_box_list, M_box_list, F_box_list⟩)], keep := [], results := [.cell 4 26], ntmps := 15, n := n }
def B_box_heap : Code := (Try.f29.body).getD .skip
theorem e_box_heap (n : Nat) (F_box_list : Ft_box_list) (a0 : D_A3) (a1 : Int) : runF (X_box_heap n F_box_list) B_box_heap As_box_heap R_box_heap M_box_heap (a0, a1, ()) = 
 Option.bind (F_box_list (a0, a1, ())) fun r0 =>
 some ((a0.1, (a0.2.1, (a0.2.2.1, (r0.1, ())))), ()) := by kernel_rfl
def P_box_heap : Ft_box_heap := hid (runF (X_box_heap N P_box_list) B_box_heap As_box_heap R_box_heap M_box_heap)
theorem h_box_heap : P_box_heap = runF (X_box_heap N P_box_list) B_box_heap As_box_heap R_box_heap M_box_heap := hid_eq _
def C_box_heap : Contract := ⟨As_box_heap, R_box_heap, M_box_heap, P_box_heap⟩
theorem s_box_heap : Sound Try.prog GG 29 C_box_heap := by
 unfold C_box_heap; rw [h_box_heap]
 exact sound_of_run (fn := Try.f29) hmix hstable (tyOK_of ttOK) (hglob _) (conOK_of ⟨s_box_list, trivial⟩) (mconOK_of trivial) (by kernel_rfl) (by kernel_rfl) (by kernel_rfl) (by kernel_rfl) (by kernel_rfl) (of_decide_eq_true (by kernel_rfl))
theorem p_box_heap (a0 : D_A3) (a1 : Int) : P_box_heap (a0, a1, ()) = 
 Option.bind (P_box_list (a0, a1, ())) fun r0 =>
 some ((a0.1, (a0.2.1, (a0.2.2.1, (r0.1, ())))), ()) := by
 rewrite [h_box_heap]
 exact e_box_heap N P_box_list a0 a1

abbrev As_impl_CutHeap : List ATy := [.data true T_Heap, .data false (.int .i64), .data false (.int .i64)]
abbrev R_impl_CutHeap : List (Bool × Ty) := [(true, T_Heap), (true, T_Heap), (false, .bool)]
abbrev M_impl_CutHeap : List RMode := [.own 49, .own 49]
abbrev Ft_impl_CutHeap : Type := D_Heap × Int × Int × Unit → Option (D_Heap × D_Heap × Bool × Unit)
def X_impl_CutHeap (n : Nat) (F_impl_IsHeap : Ft_impl_IsHeap) (F_Heap_isCut : Ft_Heap_isCut) (F_Heap_box : Ft_Heap_box) (F_box_index : Ft_box_index) (F_box_heap : Ft_box_heap) : Ctx := { types := TT, globals := [], con := [(20, ⟨As_impl_IsHeap, R_impl_IsHeap, M_impl_IsHeap, F_impl_IsHeap⟩), (26, ⟨As_Heap_isCut, R_Heap_isCut, M_Heap_isCut, F_Heap_isCut⟩), (27, ⟨As_Heap_box, R_Heap_box, M_Heap_box, F_Heap_box⟩), (28, ⟨As_box_index, R_box_index, M_box_index, F_box_index⟩), (29, ⟨As_box_heap, R_box_heap, M_box_heap, F_box_heap⟩)], keep := [(7, ⟨[.box 6, .box 7, .box 9, .box 10, .tmp 1, .tmp 2, .tmp 6, .tmp 7, .tmp 9, .tmp 10, .tmp 11, .tmp 12, .tmp 42, .tmp 43, .tmp 44], []⟩)], results := [.cell 6 26, .cell 7 26, .tmp 8], ntmps := 78, n := n }
def B_impl_CutHeap : Code := (Try.f6.body).getD .skip
def L_impl_CutHeap_7 (n : Nat) (F_impl_IsHeap : Ft_impl_IsHeap) (F_Heap_isCut : Ft_Heap_isCut) (F_Heap_box : Ft_Heap_box) (F_box_index : Ft_box_index) (F_box_heap : Ft_box_heap) (m0 : Nat) (p0 p1 p2 : Int) (p3 : List D_A3) (p4 p5 p6 : Int) (p7 : List D_A3) (p8 p9 : Int) (p10 p11 : Int) (p12 p13 : Int) (p14 p15 : Int) (p16 p17 : Int) (p18 : List D_A3) (p19 p20 : Int) : Option (denL R_impl_CutHeap) := loopF (X_impl_CutHeap n F_impl_IsHeap F_Heap_isCut F_Heap_box F_box_index F_box_heap) B_impl_CutHeap R_impl_CutHeap M_impl_CutHeap 7 [m0] [(.ver, .num 1), (.box 6, .box 0 false [.int .i64 p0, .int .i64 p1, .int .i64 p2, .own 49 T_A3 0 p3]), (.box 7, .box 0 false [.int .i64 p4, .int .i64 p5, .int .i64 p6, .own 49 T_A3 0 p7]), (.box 9, .box 0 false [.int .i64 p8, .int .i64 p9, .int .i64 p10]), (.box 10, .box 0 false [.int .i64 p11, .int .i64 p12, .int .i64 p13]), (.tmp 1, .val false [.int .i64 p14]), (.tmp 2, .val false [.int .i64 p15]), (.tmp 6, .val false [.addr 6 0 0]), (.tmp 7, .val false [.addr 7 0 0]), (.tmp 9, .val false [.addr 9 0 0]), (.tmp 10, .val false [.addr 10 0 0]), (.tmp 11, .val false [.int .u64 p16]), (.tmp 12, .val false [.int .u64 p17]), (.tmp 42, .val false [.imm T_A3 p18 (some 3)]), (.tmp 43, .val false [.int .i64 p19]), (.tmp 44, .val false [.int .i64 p20])]
theorem e_impl_CutHeap (n : Nat) (F_impl_IsHeap : Ft_impl_IsHeap) (F_Heap_isCut : Ft_Heap_isCut) (F_Heap_box : Ft_Heap_box) (F_box_index : Ft_box_index) (F_box_heap : Ft_box_heap) (a0 : D_Heap) (a1 a2 : Int) : runF (X_impl_CutHeap n F_impl_IsHeap F_Heap_isCut F_Heap_box F_box_index F_box_heap) B_impl_CutHeap As_impl_CutHeap R_impl_CutHeap M_impl_CutHeap (a0, a1, a2, ()) = 
 Option.bind (F_impl_IsHeap (a0, ())) fun r0 =>
 bif !r0.1 then
 some ((0, (0, (0, (([] : List D_A3), ())))), (0, (0, (0, (([] : List D_A3), ())))), false, ())
 else
 Option.bind (F_Heap_isCut (a0, a1, a2, ())) fun r2 =>
 bif !r2.1 then
 some ((0, (0, (0, (([] : List D_A3), ())))), (0, (0, (0, (([] : List D_A3), ())))), false, ())
 else
 Option.bind (F_Heap_box (a0, ())) fun r4 =>
 Option.bind (F_Heap_box (a0, ())) fun r5 =>
 bif inB a1 3 then
 bif inB a1 3 then
 bif inB a1 3 then
 L_impl_CutHeap_7 n F_impl_IsHeap F_Heap_isCut F_Heap_box F_box_index F_box_heap n 0 0 0 ([] : List D_A3) 0 0 0 ([] : List D_A3) (bif decide (a1 = (0 : Int)) then a2 else r4.1.1) (bif decide (a1 = (1 : Int)) then a2 else r4.1.2.1) (bif decide (a1 = (2 : Int)) then a2 else r4.1.2.2.1) (bif decide (a1 = (0 : Int)) then (IntKind.wrap .i64 ((bif decide (a1 = (0 : Int)) then r5.1.1 else (bif decide (a1 = (1 : Int)) then r5.1.2.1 else r5.1.2.2.1)) - a2)) else r5.1.1) (bif decide (a1 = (1 : Int)) then (IntKind.wrap .i64 ((bif decide (a1 = (0 : Int)) then r5.1.1 else (bif decide (a1 = (1 : Int)) then r5.1.2.1 else r5.1.2.2.1)) - a2)) else r5.1.2.1) (bif decide (a1 = (2 : Int)) then (IntKind.wrap .i64 ((bif decide (a1 = (0 : Int)) then r5.1.1 else (bif decide (a1 = (1 : Int)) then r5.1.2.1 else r5.1.2.2.1)) - a2)) else r5.1.2.2.1) a1 a2 0 0 a0.2.2.2.1 (List.length a0.2.2.2.1 : Int) 0
 else none
 else none
 else none := by kernel_rfl
theorem e_impl_CutHeap_7 (n : Nat) (F_impl_IsHeap : Ft_impl_IsHeap) (F_Heap_isCut : Ft_Heap_isCut) (F_Heap_box : Ft_Heap_box) (F_box_index : Ft_box_index) (F_box_heap : Ft_box_heap) (m0 : Nat) (p0 p1 p2 : Int) (p3 : List D_A3) (p4 p5 p6 : Int) (p7 : List D_A3) (p8 p9 : Int) (p10 p11 : Int) (p12 p13 : Int) (p14 p15 : Int) (p16 p17 : Int) (p18 : List D_A3) (p19 p20 : Int) : L_impl_CutHeap_7 n F_impl_IsHeap F_Heap_isCut F_Heap_box F_box_index F_box_heap (m0 + 1) p0 p1 p2 p3 p4 p5 p6 p7 p8 p9 p10 p11 p12 p13 p14 p15 p16 p17 p18 p19 p20 = 
 bif decide (p20 < p19) then
 bif inB p20 (List.length p18) then
 bif inB p14 3 then
 bif decide ((bif decide (p14 = (0 : Int)) then ((nth T_A3 p18 p20)).1 else (bif decide (p14 = (1 : Int)) then (((nth T_A3 p18 p20)).2).1 else ((((nth T_A3 p18 p20)).2).2).1)) < p15) then
 Option.bind (F_box_index ((p8, (p9, (p10, ()))), (nth T_A3 p18 p20), ())) fun r4 =>
 bif decide ((0 : Int) ≤ r4.1) then
 L_impl_CutHeap_7 n F_impl_IsHeap F_Heap_isCut F_Heap_box F_box_index F_box_heap m0 p0 p1 p2 p3 p4 p5 p6 p7 p8 p9 p10 p11 p12 p13 p14 p15 (intBits .or .u64 p16 (shlI .u64 1 r4.1)) p17 p18 p19 (IntKind.wrap .i64 (p20 + 1))
 else none
 else
 bif inB p14 3 then
 bif inB p14 3 then
 Option.bind (F_box_index ((p11, (p12, (p13, ()))), ((bif decide (p14 = (0 : Int)) then (IntKind.wrap .i64 ((bif decide (p14 = (0 : Int)) then ((nth T_A3 p18 p20)).1 else (bif decide (p14 = (1 : Int)) then (((nth T_A3 p18 p20)).2).1 else ((((nth T_A3 p18 p20)).2).2).1)) - p15)) else ((nth T_A3 p18 p20)).1), ((bif decide (p14 = (1 : Int)) then (IntKind.wrap .i64 ((bif decide (p14 = (0 : Int)) then ((nth T_A3 p18 p20)).1 else (bif decide (p14 = (1 : Int)) then (((nth T_A3 p18 p20)).2).1 else ((((nth T_A3 p18 p20)).2).2).1)) - p15)) else (((nth T_A3 p18 p20)).2).1), ((bif decide (p14 = (2 : Int)) then (IntKind.wrap .i64 ((bif decide (p14 = (0 : Int)) then ((nth T_A3 p18 p20)).1 else (bif decide (p14 = (1 : Int)) then (((nth T_A3 p18 p20)).2).1 else ((((nth T_A3 p18 p20)).2).2).1)) - p15)) else ((((nth T_A3 p18 p20)).2).2).1), ()))), ())) fun r6 =>
 bif decide ((0 : Int) ≤ r6.1) then
 L_impl_CutHeap_7 n F_impl_IsHeap F_Heap_isCut F_Heap_box F_box_index F_box_heap m0 p0 p1 p2 p3 p4 p5 p6 p7 p8 p9 p10 p11 p12 p13 p14 p15 p16 (intBits .or .u64 p17 (shlI .u64 1 r6.1)) p18 p19 (IntKind.wrap .i64 (p20 + 1))
 else none
 else none
 else none
 else none
 else none
 else
 Option.bind (F_box_heap ((p8, (p9, (p10, ()))), p16, ())) fun r1 =>
 Option.bind (F_box_heap ((p11, (p12, (p13, ()))), p17, ())) fun r2 =>
 some (r1.1, r2.1, true, ()) := by kernel_rfl
def P_impl_CutHeap : Ft_impl_CutHeap := hid (runF (X_impl_CutHeap N P_impl_IsHeap P_Heap_isCut P_Heap_box P_box_index P_box_heap) B_impl_CutHeap As_impl_CutHeap R_impl_CutHeap M_impl_CutHeap)
theorem h_impl_CutHeap : P_impl_CutHeap = runF (X_impl_CutHeap N P_impl_IsHeap P_Heap_isCut P_Heap_box P_box_index P_box_heap) B_impl_CutHeap As_impl_CutHeap R_impl_CutHeap M_impl_CutHeap := hid_eq _
def C_impl_CutHeap : Contract := ⟨As_impl_CutHeap, R_impl_CutHeap, M_impl_CutHeap, P_impl_CutHeap⟩
theorem s_impl_CutHeap : Sound Try.prog GG 6 C_impl_CutHeap := by
 unfold C_impl_CutHeap; rw [h_impl_CutHeap]
 exact sound_of_run (fn := Try.f6) hmix hstable (tyOK_of ttOK) (hglob _) (conOK_of ⟨s_impl_IsHeap, s_Heap_isCut, s_Heap_box, s_box_index, s_box_heap, trivial⟩) (mconOK_of trivial) (by kernel_rfl) (by kernel_rfl) (by kernel_rfl) (by kernel_rfl) (by kernel_rfl) (of_decide_eq_true (by kernel_rfl))
def l_impl_CutHeap_7 : Nat → Int → Int → Int → (List D_A3) → Int → Int → Int → (List D_A3) → Int → Int → Int → Int → Int → Int → Int → Int → Int → Int → (List D_A3) → Int → Int → Option (denL R_impl_CutHeap) := hid (fun m0 p0 p1 p2 p3 p4 p5 p6 p7 p8 p9 p10 p11 p12 p13 p14 p15 p16 p17 p18 p19 p20 => L_impl_CutHeap_7 N P_impl_IsHeap P_Heap_isCut P_Heap_box P_box_index P_box_heap m0 p0 p1 p2 p3 p4 p5 p6 p7 p8 p9 p10 p11 p12 p13 p14 p15 p16 p17 p18 p19 p20)
theorem h_impl_CutHeap_7 : l_impl_CutHeap_7 = fun m0 p0 p1 p2 p3 p4 p5 p6 p7 p8 p9 p10 p11 p12 p13 p14 p15 p16 p17 p18 p19 p20 => L_impl_CutHeap_7 N P_impl_IsHeap P_Heap_isCut P_Heap_box P_box_index P_box_heap m0 p0 p1 p2 p3 p4 p5 p6 p7 p8 p9 p10 p11 p12 p13 p14 p15 p16 p17 p18 p19 p20 := hid_eq _
theorem p_impl_CutHeap (a0 : D_Heap) (a1 a2 : Int) : P_impl_CutHeap (a0, a1, a2, ()) = 
 Option.bind (P_impl_IsHeap (a0, ())) fun r0 =>
 bif !r0.1 then
 some ((0, (0, (0, (([] : List D_A3), ())))), (0, (0, (0, (([] : List D_A3), ())))), false, ())
 else
 Option.bind (P_Heap_isCut (a0, a1, a2, ())) fun r2 =>
 bif !r2.1 then
 some ((0, (0, (0, (([] : List D_A3), ())))), (0, (0, (0, (([] : List D_A3), ())))), false, ())
 else
 Option.bind (P_Heap_box (a0, ())) fun r4 =>
 Option.bind (P_Heap_box (a0, ())) fun r5 =>
 bif inB a1 3 then
 bif inB a1 3 then
 bif inB a1 3 then
 l_impl_CutHeap_7 N 0 0 0 ([] : List D_A3) 0 0 0 ([] : List D_A3) (bif decide (a1 = (0 : Int)) then a2 else r4.1.1) (bif decide (a1 = (1 : Int)) then a2 else r4.1.2.1) (bif decide (a1 = (2 : Int)) then a2 else r4.1.2.2.1) (bif decide (a1 = (0 : Int)) then (IntKind.wrap .i64 ((bif decide (a1 = (0 : Int)) then r5.1.1 else (bif decide (a1 = (1 : Int)) then r5.1.2.1 else r5.1.2.2.1)) - a2)) else r5.1.1) (bif decide (a1 = (1 : Int)) then (IntKind.wrap .i64 ((bif decide (a1 = (0 : Int)) then r5.1.1 else (bif decide (a1 = (1 : Int)) then r5.1.2.1 else r5.1.2.2.1)) - a2)) else r5.1.2.1) (bif decide (a1 = (2 : Int)) then (IntKind.wrap .i64 ((bif decide (a1 = (0 : Int)) then r5.1.1 else (bif decide (a1 = (1 : Int)) then r5.1.2.1 else r5.1.2.2.1)) - a2)) else r5.1.2.2.1) a1 a2 0 0 a0.2.2.2.1 (List.length a0.2.2.2.1 : Int) 0
 else none
 else none
 else none := by
 rewrite [h_impl_CutHeap, h_impl_CutHeap_7]
 exact e_impl_CutHeap N P_impl_IsHeap P_Heap_isCut P_Heap_box P_box_index P_box_heap a0 a1 a2
theorem q_impl_CutHeap_7 (m0 : Nat) (p0 p1 p2 : Int) (p3 : List D_A3) (p4 p5 p6 : Int) (p7 : List D_A3) (p8 p9 : Int) (p10 p11 : Int) (p12 p13 : Int) (p14 p15 : Int) (p16 p17 : Int) (p18 : List D_A3) (p19 p20 : Int) : l_impl_CutHeap_7 (m0 + 1) p0 p1 p2 p3 p4 p5 p6 p7 p8 p9 p10 p11 p12 p13 p14 p15 p16 p17 p18 p19 p20 = 
 bif decide (p20 < p19) then
 bif inB p20 (List.length p18) then
 bif inB p14 3 then
 bif decide ((bif decide (p14 = (0 : Int)) then ((nth T_A3 p18 p20)).1 else (bif decide (p14 = (1 : Int)) then (((nth T_A3 p18 p20)).2).1 else ((((nth T_A3 p18 p20)).2).2).1)) < p15) then
 Option.bind (P_box_index ((p8, (p9, (p10, ()))), (nth T_A3 p18 p20), ())) fun r4 =>
 bif decide ((0 : Int) ≤ r4.1) then
 l_impl_CutHeap_7 m0 p0 p1 p2 p3 p4 p5 p6 p7 p8 p9 p10 p11 p12 p13 p14 p15 (intBits .or .u64 p16 (shlI .u64 1 r4.1)) p17 p18 p19 (IntKind.wrap .i64 (p20 + 1))
 else none
 else
 bif inB p14 3 then
 bif inB p14 3 then
 Option.bind (P_box_index ((p11, (p12, (p13, ()))), ((bif decide (p14 = (0 : Int)) then (IntKind.wrap .i64 ((bif decide (p14 = (0 : Int)) then ((nth T_A3 p18 p20)).1 else (bif decide (p14 = (1 : Int)) then (((nth T_A3 p18 p20)).2).1 else ((((nth T_A3 p18 p20)).2).2).1)) - p15)) else ((nth T_A3 p18 p20)).1), ((bif decide (p14 = (1 : Int)) then (IntKind.wrap .i64 ((bif decide (p14 = (0 : Int)) then ((nth T_A3 p18 p20)).1 else (bif decide (p14 = (1 : Int)) then (((nth T_A3 p18 p20)).2).1 else ((((nth T_A3 p18 p20)).2).2).1)) - p15)) else (((nth T_A3 p18 p20)).2).1), ((bif decide (p14 = (2 : Int)) then (IntKind.wrap .i64 ((bif decide (p14 = (0 : Int)) then ((nth T_A3 p18 p20)).1 else (bif decide (p14 = (1 : Int)) then (((nth T_A3 p18 p20)).2).1 else ((((nth T_A3 p18 p20)).2).2).1)) - p15)) else ((((nth T_A3 p18 p20)).2).2).1), ()))), ())) fun r6 =>
 bif decide ((0 : Int) ≤ r6.1) then
 l_impl_CutHeap_7 m0 p0 p1 p2 p3 p4 p5 p6 p7 p8 p9 p10 p11 p12 p13 p14 p15 p16 (intBits .or .u64 p17 (shlI .u64 1 r6.1)) p18 p19 (IntKind.wrap .i64 (p20 + 1))
 else none
 else none
 else none
 else none
 else none
 else
 Option.bind (P_box_heap ((p8, (p9, (p10, ()))), p16, ())) fun r1 =>
 Option.bind (P_box_heap ((p11, (p12, (p13, ()))), p17, ())) fun r2 =>
 some (r1.1, r2.1, true, ()) := by
 rewrite [h_impl_CutHeap_7]
 exact e_impl_CutHeap_7 N P_impl_IsHeap P_Heap_isCut P_Heap_box P_box_index P_box_heap m0 p0 p1 p2 p3 p4 p5 p6 p7 p8 p9 p10 p11 p12 p13 p14 p15 p16 p17 p18 p19 p20

abbrev As_spec_l11Cut : List ATy := [.data true T_Heap, .data false (.int .i64), .data false (.int .i64)]
abbrev R_spec_l11Cut : List (Bool × Ty) := [(false, .bool)]
abbrev M_spec_l11Cut : List RMode := []
abbrev Ft_spec_l11Cut : Type := D_Heap × Int × Int × Unit → Option (Bool × Unit)
def X_spec_l11Cut (n : Nat) (F_spec_l2Long : Ft_spec_l2Long) (F_spec_l2Heap : Ft_spec_l2Heap) (F_spec_l1In : Ft_spec_l1In) : Ctx := { types := TT, globals := [], con := [(32, ⟨As_spec_l2Long, R_spec_l2Long, M_spec_l2Long, F_spec_l2Long⟩), (42, ⟨As_spec_l2Heap, R_spec_l2Heap, M_spec_l2Heap, F_spec_l2Heap⟩), (49, ⟨As_spec_l1In, R_spec_l1In, M_spec_l1In, F_spec_l1In⟩)], keep := [], results := [.tmp 6], ntmps := 21, n := n }
def B_spec_l11Cut : Code := (Try.f30.body).getD .skip
theorem e_spec_l11Cut (n : Nat) (F_spec_l2Long : Ft_spec_l2Long) (F_spec_l2Heap : Ft_spec_l2Heap) (F_spec_l1In : Ft_spec_l1In) (a0 : D_Heap) (a1 a2 : Int) : runF (X_spec_l11Cut n F_spec_l2Long F_spec_l2Heap F_spec_l1In) B_spec_l11Cut As_spec_l11Cut R_spec_l11Cut M_spec_l11Cut (a0, a1, a2, ()) = 
 Option.bind (F_spec_l2Heap (a0, ())) fun r0 =>
 bif r0.1 then
 Option.bind (F_spec_l1In (a1, 0, 2, ())) fun r2 =>
 bif r2.1 then
 Option.bind (F_spec_l2Long (a0, a1, ())) fun r4 =>
 Option.bind (F_spec_l1In (a2, 1, (IntKind.wrap .i64 (r4.1 - 1)), ())) fun r5 =>
 some (r5.1, ())
 else
 some (false, ())
 else
 some (false, ()) := by kernel_rfl
def P_spec_l11Cut : Ft_spec_l11Cut := hid (runF (X_spec_l11Cut N P_spec_l2Long P_spec_l2Heap P_spec_l1In) B_spec_l11Cut As_spec_l11Cut R_spec_l11Cut M_spec_l11Cut)
theorem h_spec_l11Cut : P_spec_l11Cut = runF (X_spec_l11Cut N P_spec_l2Long P_spec_l2Heap P_spec_l1In) B_spec_l11Cut As_spec_l11Cut R_spec_l11Cut M_spec_l11Cut := hid_eq _
def C_spec_l11Cut : Contract := ⟨As_spec_l11Cut, R_spec_l11Cut, M_spec_l11Cut, P_spec_l11Cut⟩
theorem s_spec_l11Cut : Sound Try.prog GG 30 C_spec_l11Cut := by
 unfold C_spec_l11Cut; rw [h_spec_l11Cut]
 exact sound_of_run (fn := Try.f30) hmix hstable (tyOK_of ttOK) (hglob _) (conOK_of ⟨s_spec_l2Long, s_spec_l2Heap, s_spec_l1In, trivial⟩) (mconOK_of trivial) (by kernel_rfl) (by kernel_rfl) (by kernel_rfl) (by kernel_rfl) (by kernel_rfl) (of_decide_eq_true (by kernel_rfl))
theorem p_spec_l11Cut (a0 : D_Heap) (a1 a2 : Int) : P_spec_l11Cut (a0, a1, a2, ()) = 
 Option.bind (P_spec_l2Heap (a0, ())) fun r0 =>
 bif r0.1 then
 Option.bind (P_spec_l1In (a1, 0, 2, ())) fun r2 =>
 bif r2.1 then
 Option.bind (P_spec_l2Long (a0, a1, ())) fun r4 =>
 Option.bind (P_spec_l1In (a2, 1, (IntKind.wrap .i64 (r4.1 - 1)), ())) fun r5 =>
 some (r5.1, ())
 else
 some (false, ())
 else
 some (false, ()) := by
 rewrite [h_spec_l11Cut]
 exact e_spec_l11Cut N P_spec_l2Long P_spec_l2Heap P_spec_l1In a0 a1 a2

abbrev As_spec_l11Box : List ATy := [.data true T_Heap, .data false (.int .i64), .data false (.int .i64)]
abbrev R_spec_l11Box : List (Bool × Ty) := [(true, T_Heap)]
abbrev M_spec_l11Box : List RMode := [.own 49]
abbrev Ft_spec_l11Box : Type := D_Heap × Int × Int × Unit → Option (D_Heap × Unit)
def X_spec_l11Box (n : Nat) (F_spec_l2Empty : Ft_spec_l2Empty) : Ctx := { types := TT, globals := [], con := [(63, ⟨As_spec_l2Empty, R_spec_l2Empty, M_spec_l2Empty, F_spec_l2Empty⟩)], keep := [], results := [.cell 6 26], ntmps := 25, n := n }
def B_spec_l11Box : Code := (Try.f31.body).getD .skip
theorem e_spec_l11Box (n : Nat) (F_spec_l2Empty : Ft_spec_l2Empty) (a0 : D_Heap) (a1 a2 : Int) : runF (X_spec_l11Box n F_spec_l2Empty) B_spec_l11Box As_spec_l11Box R_spec_l11Box M_spec_l11Box (a0, a1, a2, ()) = 
 bif inB a1 3 then
 Option.bind (F_spec_l2Empty ((bif decide (a1 = (0 : Int)) then a2 else a0.1), (bif decide (a1 = (1 : Int)) then a2 else a0.2.1), (bif decide (a1 = (2 : Int)) then a2 else a0.2.2.1), ())) fun r1 =>
 some (r1.1, ())
 else none := by kernel_rfl
def P_spec_l11Box : Ft_spec_l11Box := hid (runF (X_spec_l11Box N P_spec_l2Empty) B_spec_l11Box As_spec_l11Box R_spec_l11Box M_spec_l11Box)
theorem h_spec_l11Box : P_spec_l11Box = runF (X_spec_l11Box N P_spec_l2Empty) B_spec_l11Box As_spec_l11Box R_spec_l11Box M_spec_l11Box := hid_eq _
def C_spec_l11Box : Contract := ⟨As_spec_l11Box, R_spec_l11Box, M_spec_l11Box, P_spec_l11Box⟩
theorem s_spec_l11Box : Sound Try.prog GG 31 C_spec_l11Box := by
 unfold C_spec_l11Box; rw [h_spec_l11Box]
 exact sound_of_run (fn := Try.f31) hmix hstable (tyOK_of ttOK) (hglob _) (conOK_of ⟨s_spec_l2Empty, trivial⟩) (mconOK_of trivial) (by kernel_rfl) (by kernel_rfl) (by kernel_rfl) (by kernel_rfl) (by kernel_rfl) (of_decide_eq_true (by kernel_rfl))
theorem p_spec_l11Box (a0 : D_Heap) (a1 a2 : Int) : P_spec_l11Box (a0, a1, a2, ()) = 
 bif inB a1 3 then
 Option.bind (P_spec_l2Empty ((bif decide (a1 = (0 : Int)) then a2 else a0.1), (bif decide (a1 = (1 : Int)) then a2 else a0.2.1), (bif decide (a1 = (2 : Int)) then a2 else a0.2.2.1), ())) fun r1 =>
 some (r1.1, ())
 else none := by
 rewrite [h_spec_l11Box]
 exact e_spec_l11Box N P_spec_l2Empty a0 a1 a2

abbrev As_spec_CutHeap : List ATy := [.data true T_Heap, .data false (.int .i64), .data false (.int .i64)]
abbrev R_spec_CutHeap : List (Bool × Ty) := [(true, T_Heap), (true, T_Heap), (false, .bool)]
abbrev M_spec_CutHeap : List RMode := [.own 49, .own 49]
abbrev Ft_spec_CutHeap : Type := D_Heap × Int × Int × Unit → Option (D_Heap × D_Heap × Bool × Unit)
def X_spec_CutHeap (n : Nat) (F_spec_l11Cut : Ft_spec_l11Cut) (F_spec_l11Box : Ft_spec_l11Box) (F_spec_l2Long : Ft_spec_l2Long) : Ctx := { types := TT, globals := [], con := [(30, ⟨As_spec_l11Cut, R_spec_l11Cut, M_spec_l11Cut, F_spec_l11Cut⟩), (31, ⟨As_spec_l11Box, R_spec_l11Box, M_spec_l11Box, F_spec_l11Box⟩), (32, ⟨As_spec_l2Long, R_spec_l2Long, M_spec_l2Long, F_spec_l2Long⟩)], keep := [(5, ⟨[.box 3, .box 6, .box 7, .box 9, .box 10, .tmp 1, .tmp 2, .tmp 3, .tmp 6, .tmp 7, .tmp 9, .tmp 10, .tmp 11], []⟩)], results := [.cell 6 26, .cell 7 26, .tmp 8], ntmps := 70, n := n }
def B_spec_CutHeap : Code := (Try.f7.body).getD .skip
def L_spec_CutHeap_5 (n : Nat) (F_spec_l11Cut : Ft_spec_l11Cut) (F_spec_l11Box : Ft_spec_l11Box) (F_spec_l2Long : Ft_spec_l2Long) (m0 : Nat) (p0 p1 p2 : Int) (p3 : List D_A3) (p4 p5 p6 : Int) (p7 : List D_A3) (p8 p9 p10 : Int) (p11 : List D_A3) (p12 p13 p14 : Int) (p15 : List D_A3) (p16 p17 p18 : Int) (p19 : List D_A3) (p20 p21 p22 : Int) : Option (denL R_spec_CutHeap) := loopF (X_spec_CutHeap n F_spec_l11Cut F_spec_l11Box F_spec_l2Long) B_spec_CutHeap R_spec_CutHeap M_spec_CutHeap 5 [m0] [(.ver, .num 1), (.box 3, .box 0 false [.int .i64 p0, .int .i64 p1, .int .i64 p2, .imm T_A3 p3 (some 3)]), (.box 6, .box 0 false [.int .i64 p4, .int .i64 p5, .int .i64 p6, .own 49 T_A3 0 p7]), (.box 7, .box 0 false [.int .i64 p8, .int .i64 p9, .int .i64 p10, .own 49 T_A3 0 p11]), (.box 9, .box 0 false [.int .i64 p12, .int .i64 p13, .int .i64 p14, .own 49 T_A3 0 p15]), (.box 10, .box 0 false [.int .i64 p16, .int .i64 p17, .int .i64 p18, .own 49 T_A3 0 p19]), (.tmp 1, .val false [.int .i64 p20]), (.tmp 2, .val false [.int .i64 p21]), (.tmp 3, .val false [.addr 3 0 0]), (.tmp 6, .val false [.addr 6 0 0]), (.tmp 7, .val false [.addr 7 0 0]), (.tmp 9, .val false [.addr 9 0 0]), (.tmp 10, .val false [.addr 10 0 0]), (.tmp 11, .val false [.int .i64 p22])]
theorem e_spec_CutHeap (n : Nat) (F_spec_l11Cut : Ft_spec_l11Cut) (F_spec_l11Box : Ft_spec_l11Box) (F_spec_l2Long : Ft_spec_l2Long) (a0 : D_Heap) (a1 a2 : Int) : runF (X_spec_CutHeap n F_spec_l11Cut F_spec_l11Box F_spec_l2Long) B_spec_CutHeap As_spec_CutHeap R_spec_CutHeap M_spec_CutHeap (a0, a1, a2, ()) = 
 Option.bind (F_spec_l11Cut (a0, a1, a2, ())) fun r0 =>
 bif !r0.1 then
 some ((0, (0, (0, (([] : List D_A3), ())))), (0, (0, (0, (([] : List D_A3), ())))), false, ())
 else
 Option.bind (F_spec_l11Box (a0, a1, a2, ())) fun r2 =>
 Option.bind (F_spec_l2Long (a0, a1, ())) fun r3 =>
 Option.bind (F_spec_l11Box (a0, a1, (IntKind.wrap .i64 (r3.1 - a2)), ())) fun r4 =>
 L_spec_CutHeap_5 n F_spec_l11Cut F_spec_l11Box F_spec_l2Long n a0.1 a0.2.1 a0.2.2.1 a0.2.2.2.1 0 0 0 ([] : List D_A3) 0 0 0 ([] : List D_A3) r2.1.1 r2.1.2.1 r2.1.2.2.1 r2.1.2.2.2.1 r4.1.1 r4.1.2.1 r4.1.2.2.1 r4.1.2.2.2.1 a1 a2 0 := by kernel_rfl
theorem e_spec_CutHeap_5 (n : Nat) (F_spec_l11Cut : Ft_spec_l11Cut) (F_spec_l11Box : Ft_spec_l11Box) (F_spec_l2Long : Ft_spec_l2Long) (m0 : Nat) (p0 p1 p2 : Int) (p3 : List D_A3) (p4 p5 p6 : Int) (p7 : List D_A3) (p8 p9 p10 : Int) (p11 : List D_A3) (p12 p13 p14 : Int) (p15 : List D_A3) (p16 p17 p18 : Int) (p19 : List D_A3) (p20 p21 p22 : Int) : L_spec_CutHeap_5 n F_spec_l11Cut F_spec_l11Box F_spec_l2Long (m0 + 1) p0 p1 p2 p3 p4 p5 p6 p7 p8 p9 p10 p11 p12 p13 p14 p15 p16 p17 p18 p19 p20 p21 p22 = 
 bif decide (p22 < (List.length p3 : Int)) then
 bif inB p22 (List.length p3) then
 bif inB p20 3 then
 bif decide ((bif decide (p20 = (0 : Int)) then ((nth T_A3 p3 p22)).1 else (bif decide (p20 = (1 : Int)) then (((nth T_A3 p3 p22)).2).1 else ((((nth T_A3 p3 p22)).2).2).1)) < p21) then
 bif (decide (((List.length p15) + (List.length ([(nth T_A3 p3 p22)] : List D_A3))) * 24 ≤ 140737488355328) && decide (((List.length p15) + (List.length ([(nth T_A3 p3 p22)] : List D_A3))) ≤ 140737488355328)) then
 L_spec_CutHeap_5 n F_spec_l11Cut F_spec_l11Box F_spec_l2Long m0 p0 p1 p2 p3 p4 p5 p6 p7 p8 p9 p10 p11 p12 p13 p14 (p15 ++ ([(nth T_A3 p3 p22)] : List D_A3)) p16 p17 p18 p19 p20 p21 (IntKind.wrap .i64 (p22 + 1))
 else none
 else
 bif inB p20 3 then
 bif inB p20 3 then
 bif (decide (((List.length p19) + (List.length ([((bif decide (p20 = (0 : Int)) then (IntKind.wrap .i64 ((bif decide (p20 = (0 : Int)) then ((nth T_A3 p3 p22)).1 else (bif decide (p20 = (1 : Int)) then (((nth T_A3 p3 p22)).2).1 else ((((nth T_A3 p3 p22)).2).2).1)) - p21)) else ((nth T_A3 p3 p22)).1), ((bif decide (p20 = (1 : Int)) then (IntKind.wrap .i64 ((bif decide (p20 = (0 : Int)) then ((nth T_A3 p3 p22)).1 else (bif decide (p20 = (1 : Int)) then (((nth T_A3 p3 p22)).2).1 else ((((nth T_A3 p3 p22)).2).2).1)) - p21)) else (((nth T_A3 p3 p22)).2).1), ((bif decide (p20 = (2 : Int)) then (IntKind.wrap .i64 ((bif decide (p20 = (0 : Int)) then ((nth T_A3 p3 p22)).1 else (bif decide (p20 = (1 : Int)) then (((nth T_A3 p3 p22)).2).1 else ((((nth T_A3 p3 p22)).2).2).1)) - p21)) else ((((nth T_A3 p3 p22)).2).2).1), ())))] : List D_A3))) * 24 ≤ 140737488355328) && decide (((List.length p19) + (List.length ([((bif decide (p20 = (0 : Int)) then (IntKind.wrap .i64 ((bif decide (p20 = (0 : Int)) then ((nth T_A3 p3 p22)).1 else (bif decide (p20 = (1 : Int)) then (((nth T_A3 p3 p22)).2).1 else ((((nth T_A3 p3 p22)).2).2).1)) - p21)) else ((nth T_A3 p3 p22)).1), ((bif decide (p20 = (1 : Int)) then (IntKind.wrap .i64 ((bif decide (p20 = (0 : Int)) then ((nth T_A3 p3 p22)).1 else (bif decide (p20 = (1 : Int)) then (((nth T_A3 p3 p22)).2).1 else ((((nth T_A3 p3 p22)).2).2).1)) - p21)) else (((nth T_A3 p3 p22)).2).1), ((bif decide (p20 = (2 : Int)) then (IntKind.wrap .i64 ((bif decide (p20 = (0 : Int)) then ((nth T_A3 p3 p22)).1 else (bif decide (p20 = (1 : Int)) then (((nth T_A3 p3 p22)).2).1 else ((((nth T_A3 p3 p22)).2).2).1)) - p21)) else ((((nth T_A3 p3 p22)).2).2).1), ())))] : List D_A3))) ≤ 140737488355328)) then
 L_spec_CutHeap_5 n F_spec_l11Cut F_spec_l11Box F_spec_l2Long m0 p0 p1 p2 p3 p4 p5 p6 p7 p8 p9 p10 p11 p12 p13 p14 p15 p16 p17 p18 (p19 ++ ([((bif decide (p20 = (0 : Int)) then (IntKind.wrap .i64 ((bif decide (p20 = (0 : Int)) then ((nth T_A3 p3 p22)).1 else (bif decide (p20 = (1 : Int)) then (((nth T_A3 p3 p22)).2).1 else ((((nth T_A3 p3 p22)).2).2).1)) - p21)) else ((nth T_A3 p3 p22)).1), ((bif decide (p20 = (1 : Int)) then (IntKind.wrap .i64 ((bif decide (p20 = (0 : Int)) then ((nth T_A3 p3 p22)).1 else (bif decide (p20 = (1 : Int)) then (((nth T_A3 p3 p22)).2).1 else ((((nth T_A3 p3 p22)).2).2).1)) - p21)) else (((nth T_A3 p3 p22)).2).1), ((bif decide (p20 = (2 : Int)) then (IntKind.wrap .i64 ((bif decide (p20 = (0 : Int)) then ((nth T_A3 p3 p22)).1 else (bif decide (p20 = (1 : Int)) then (((nth T_A3 p3 p22)).2).1 else ((((nth T_A3 p3 p22)).2).2).1)) - p21)) else ((((nth T_A3 p3 p22)).2).2).1), ())))] : List D_A3)) p20 p21 (IntKind.wrap .i64 (p22 + 1))
 else none
 else none
 else none
 else none
 else none
 else
 some ((p12, (p13, (p14, (p15, ())))), (p16, (p17, (p18, (p19, ())))), true, ()) := by kernel_rfl
def P_spec_CutHeap : Ft_spec_CutHeap := hid (runF (X_spec_CutHeap N P_spec_l11Cut P_spec_l11Box P_spec_l2Long) B_spec_CutHeap As_spec_CutHeap R_spec_CutHeap M_spec_CutHeap)
theorem h_spec_CutHeap : P_spec_CutHeap = runF (X_spec_CutHeap N P_spec_l11Cut P_spec_l11Box P_spec_l2Long) B_spec_CutHeap As_spec_CutHeap R_spec_CutHeap M_spec_CutHeap := hid_eq _
def C_spec_CutHeap : Contract := ⟨As_spec_CutHeap, R_spec_CutHeap, M_spec_CutHeap, P_spec_CutHeap⟩
theorem s_spec_CutHeap : Sound Try.prog GG 7 C_spec_CutHeap := by
 unfold C_spec_CutHeap; rw [h_spec_CutHeap]
 exact sound_of_run (fn := Try.f7) hmix hstable (tyOK_of ttOK) (hglob _) (conOK_of ⟨s_spec_l11Cut, s_spec_l11Box, s_spec_l2Long, trivial⟩) (mconOK_of trivial) (by kernel_rfl) (by kernel_rfl) (by kernel_rfl) (by kernel_rfl) (by kernel_rfl) (of_decide_eq_true (by kernel_rfl))
def l_spec_CutHeap_5 : Nat → Int → Int → Int → (List D_A3) → Int → Int → Int → (List D_A3) → Int → Int → Int → (List D_A3) → Int → Int → Int → (List D_A3) → Int → Int → Int → (List D_A3) → Int → Int → Int → Option (denL R_spec_CutHeap) := hid (fun m0 p0 p1 p2 p3 p4 p5 p6 p7 p8 p9 p10 p11 p12 p13 p14 p15 p16 p17 p18 p19 p20 p21 p22 => L_spec_CutHeap_5 N P_spec_l11Cut P_spec_l11Box P_spec_l2Long m0 p0 p1 p2 p3 p4 p5 p6 p7 p8 p9 p10 p11 p12 p13 p14 p15 p16 p17 p18 p19 p20 p21 p22)
theorem h_spec_CutHeap_5 : l_spec_CutHeap_5 = fun m0 p0 p1 p2 p3 p4 p5 p6 p7 p8 p9 p10 p11 p12 p13 p14 p15 p16 p17 p18 p19 p20 p21 p22 => L_spec_CutHeap_5 N P_spec_l11Cut P_spec_l11Box P_spec_l2Long m0 p0 p1 p2 p3 p4 p5 p6 p7 p8 p9 p10 p11 p12 p13 p14 p15 p16 p17 p18 p19 p20 p21 p22 := hid_eq _
theorem p_spec_CutHeap (a0 : D_Heap) (a1 a2 : Int) : P_spec_CutHeap (a0, a1, a2, ()) = 
 Option.bind (P_spec_l11Cut (a0, a1, a2, ())) fun r0 =>
 bif !r0.1 then
 some ((0, (0, (0, (([] : List D_A3), ())))), (0, (0, (0, (([] : List D_A3), ())))), false, ())
 else
 Option.bind (P_spec_l11Box (a0, a1, a2, ())) fun r2 =>
 Option.bind (P_spec_l2Long (a0, a1, ())) fun r3 =>
 Option.bind (P_spec_l11Box (a0, a1, (IntKind.wrap .i64 (r3.1 - a2)), ())) fun r4 =>
 l_spec_CutHeap_5 N a0.1 a0.2.1 a0.2.2.1 a0.2.2.2.1 0 0 0 ([] : List D_A3) 0 0 0 ([] : List D_A3) r2.1.1 r2.1.2.1 r2.1.2.2.1 r2.1.2.2.2.1 r4.1.1 r4.1.2.1 r4.1.2.2.1 r4.1.2.2.2.1 a1 a2 0 := by
 rewrite [h_spec_CutHeap, h_spec_CutHeap_5]
 exact e_spec_CutHeap N P_spec_l11Cut P_spec_l11Box P_spec_l2Long a0 a1 a2
theorem q_spec_CutHeap_5 (m0 : Nat) (p0 p1 p2 : Int) (p3 : List D_A3) (p4 p5 p6 : Int) (p7 : List D_A3) (p8 p9 p10 : Int) (p11 : List D_A3) (p12 p13 p14 : Int) (p15 : List D_A3) (p16 p17 p18 : Int) (p19 : List D_A3) (p20 p21 p22 : Int) : l_spec_CutHeap_5 (m0 + 1) p0 p1 p2 p3 p4 p5 p6 p7 p8 p9 p10 p11 p12 p13 p14 p15 p16 p17 p18 p19 p20 p21 p22 = 
 bif decide (p22 < (List.length p3 : Int)) then
 bif inB p22 (List.length p3) then
 bif inB p20 3 then
 bif decide ((bif decide (p20 = (0 : Int)) then ((nth T_A3 p3 p22)).1 else (bif decide (p20 = (1 : Int)) then (((nth T_A3 p3 p22)).2).1 else ((((nth T_A3 p3 p22)).2).2).1)) < p21) then
 bif (decide (((List.length p15) + (List.length ([(nth T_A3 p3 p22)] : List D_A3))) * 24 ≤ 140737488355328) && decide (((List.length p15) + (List.length ([(nth T_A3 p3 p22)] : List D_A3))) ≤ 140737488355328)) then
 l_spec_CutHeap_5 m0 p0 p1 p2 p3 p4 p5 p6 p7 p8 p9 p10 p11 p12 p13 p14 (p15 ++ ([(nth T_A3 p3 p22)] : List D_A3)) p16 p17 p18 p19 p20 p21 (IntKind.wrap .i64 (p22 + 1))
 else none
 else
 bif inB p20 3 then
 bif inB p20 3 then
 bif (decide (((List.length p19) + (List.length ([((bif decide (p20 = (0 : Int)) then (IntKind.wrap .i64 ((bif decide (p20 = (0 : Int)) then ((nth T_A3 p3 p22)).1 else (bif decide (p20 = (1 : Int)) then (((nth T_A3 p3 p22)).2).1 else ((((nth T_A3 p3 p22)).2).2).1)) - p21)) else ((nth T_A3 p3 p22)).1), ((bif decide (p20 = (1 : Int)) then (IntKind.wrap .i64 ((bif decide (p20 = (0 : Int)) then ((nth T_A3 p3 p22)).1 else (bif decide (p20 = (1 : Int)) then (((nth T_A3 p3 p22)).2).1 else ((((nth T_A3 p3 p22)).2).2).1)) - p21)) else (((nth T_A3 p3 p22)).2).1), ((bif decide (p20 = (2 : Int)) then (IntKind.wrap .i64 ((bif decide (p20 = (0 : Int)) then ((nth T_A3 p3 p22)).1 else (bif decide (p20 = (1 : Int)) then (((nth T_A3 p3 p22)).2).1 else ((((nth T_A3 p3 p22)).2).2).1)) - p21)) else ((((nth T_A3 p3 p22)).2).2).1), ())))] : List D_A3))) * 24 ≤ 140737488355328) && decide (((List.length p19) + (List.length ([((bif decide (p20 = (0 : Int)) then (IntKind.wrap .i64 ((bif decide (p20 = (0 : Int)) then ((nth T_A3 p3 p22)).1 else (bif decide (p20 = (1 : Int)) then (((nth T_A3 p3 p22)).2).1 else ((((nth T_A3 p3 p22)).2).2).1)) - p21)) else ((nth T_A3 p3 p22)).1), ((bif decide (p20 = (1 : Int)) then (IntKind.wrap .i64 ((bif decide (p20 = (0 : Int)) then ((nth T_A3 p3 p22)).1 else (bif decide (p20 = (1 : Int)) then (((nth T_A3 p3 p22)).2).1 else ((((nth T_A3 p3 p22)).2).2).1)) - p21)) else (((nth T_A3 p3 p22)).2).1), ((bif decide (p20 = (2 : Int)) then (IntKind.wrap .i64 ((bif decide (p20 = (0 : Int)) then ((nth T_A3 p3 p22)).1 else (bif decide (p20 = (1 : Int)) then (((nth T_A3 p3 p22)).2).1 else ((((nth T_A3 p3 p22)).2).2).1)) - p21)) else ((((nth T_A3 p3 p22)).2).2).1), ())))] : List D_A3))) ≤ 140737488355328)) then
 l_spec_CutHeap_5 m0 p0 p1 p2 p3 p4 p5 p6 p7 p8 p9 p10 p11 p12 p13 p14 p15 p16 p17 p18 (p19 ++ ([((bif decide (p20 = (0 : Int)) then (IntKind.wrap .i64 ((bif decide (p20 = (0 : Int)) then ((nth T_A3 p3 p22)).1 else (bif decide (p20 = (1 : Int)) then (((nth T_A3 p3 p22)).2).1 else ((((nth T_A3 p3 p22)).2).2).1)) - p21)) else ((nth T_A3 p3 p22)).1), ((bif decide (p20 = (1 : Int)) then (IntKind.wrap .i64 ((bif decide (p20 = (0 : Int)) then ((nth T_A3 p3 p22)).1 else (bif decide (p20 = (1 : Int)) then (((nth T_A3 p3 p22)).2).1 else ((((nth T_A3 p3 p22)).2).2).1)) - p21)) else (((nth T_A3 p3 p22)).2).1), ((bif decide (p20 = (2 : Int)) then (IntKind.wrap .i64 ((bif decide (p20 = (0 : Int)) then ((nth T_A3 p3 p22)).1 else (bif decide (p20 = (1 : Int)) then (((nth T_A3 p3 p22)).2).1 else ((((nth T_A3 p3 p22)).2).2).1)) - p21)) else ((((nth T_A3 p3 p22)).2).2).1), ())))] : List D_A3)) p20 p21 (IntKind.wrap .i64 (p22 + 1))
 else none
 else none
 else none
 else none
 else none
 else
 some ((p12, (p13, (p14, (p15, ())))), (p16, (p17, (p18, (p19, ())))), true, ()) := by
 rewrite [h_spec_CutHeap_5]
 exact e_spec_CutHeap_5 N P_spec_l11Cut P_spec_l11Box P_spec_l2Long m0 p0 p1 p2 p3 p4 p5 p6 p7 p8 p9 p10 p11 p12 p13 p14 p15 p16 p17 p18 p19 p20 p21 p22

abbrev As_laws_rCells : List ATy := [.data false (.sl T_A3), .data false (.sl T_A3)]
abbrev R_laws_rCells : List (Bool × Ty) := [(false, .bool)]
abbrev M_laws_rCells : List RMode := []
abbrev Ft_laws_rCells : Type := (List D_A3) × (List D_A3) × Unit → Option (Bool × Unit)
def X_laws_rCells (n : Nat) : Ctx := { types := TT, globals := [], con := [], keep := [(4, ⟨[.tmp 0, .tmp 1, .tmp 5], []⟩)], results := [.tmp 4], ntmps := 26, n := n }
def B_laws_rCells : Code := (Try.f33.body).getD .skip
def L_laws_rCells_4 (n m0 : Nat) (p0 p1 : List D_A3) (p2 : Int) : Option (denL R_laws_rCells) := loopF (X_laws_rCells n) B_laws_rCells R_laws_rCells M_laws_rCells 4 [m0] [(.ver, .num 1), (.tmp 0, .val false [.imm T_A3 p0 (some 0)]), (.tmp 1, .val false [.imm T_A3 p1 (some 1)]), (.tmp 5, .val false [.int .i64 p2])]
theorem e_laws_rCells (n : Nat) (a0 a1 : List D_A3) : runF (X_laws_rCells n) B_laws_rCells As_laws_rCells R_laws_rCells M_laws_rCells (a0, a1, ()) = 
 bif !decide ((List.length a0 : Int) = (List.length a1 : Int)) then
 some (false, ())
 else
 L_laws_rCells_4 n n a0 a1 0 := by kernel_rfl
theorem e_laws_rCells_4 (n m0 : Nat) (p0 p1 : List D_A3) (p2 : Int) : L_laws_rCells_4 n (m0 + 1) p0 p1 p2 = 
 bif decide (p2 < (List.length p0 : Int)) then
 bif inB p2 (List.length p0) then
 bif inB p2 (List.length p1) then
 bif !(decide (((nth T_A3 p0 p2)).1 = ((nth T_A3 p1 p2)).1) && (decide ((((nth T_A3 p0 p2)).2).1 = (((nth T_A3 p1 p2)).2).1) && (decide (((((nth T_A3 p0 p2)).2).2).1 = ((((nth T_A3 p1 p2)).2).2).1) && true))) then
 some (false, ())
 else
 L_laws_rCells_4 n m0 p0 p1 (IntKind.wrap .i64 (p2 + 1))
 else none
 else none
 else
 some (true, ()) := by kernel_rfl
def P_laws_rCells : Ft_laws_rCells := hid (runF (X_laws_rCells N) B_laws_rCells As_laws_rCells R_laws_rCells M_laws_rCells)
theorem h_laws_rCells : P_laws_rCells = runF (X_laws_rCells N) B_laws_rCells As_laws_rCells R_laws_rCells M_laws_rCells := hid_eq _
def C_laws_rCells : Contract := ⟨As_laws_rCells, R_laws_rCells, M_laws_rCells, P_laws_rCells⟩
theorem s_laws_rCells : Sound Try.prog GG 33 C_laws_rCells := by
 unfold C_laws_rCells; rw [h_laws_rCells]
 exact sound_of_run (fn := Try.f33) hmix hstable (tyOK_of ttOK) (hglob _) (conOK_of trivial) (mconOK_of trivial) (by kernel_rfl) (by kernel_rfl) (by kernel_rfl) (by kernel_rfl) (by kernel_rfl) (of_decide_eq_true (by kernel_rfl))
def l_laws_rCells_4 : Nat → (List D_A3) → (List D_A3) → Int → Option (denL R_laws_rCells) := hid (fun m0 p0 p1 p2 => L_laws_rCells_4 N m0 p0 p1 p2)
theorem h_laws_rCells_4 : l_laws_rCells_4 = fun m0 p0 p1 p2 => L_laws_rCells_4 N m0 p0 p1 p2 := hid_eq _
theorem p_laws_rCells (a0 a1 : List D_A3) : P_laws_rCells (a0, a1, ()) = 
 bif !decide ((List.length a0 : Int) = (List.length a1 : Int)) then
 some (false, ())
 else
 l_laws_rCells_4 N a0 a1 0 := by
 rewrite [h_laws_rCells, h_laws_rCells_4]
 exact e_laws_rCells N a0 a1
theorem q_laws_rCells_4 (m0 : Nat) (p0 p1 : List D_A3) (p2 : Int) : l_laws_rCells_4 (m0 + 1) p0 p1 p2 = 
 bif decide (p2 < (List.length p0 : Int)) then
 bif inB p2 (List.length p0) then
 bif inB p2 (List.length p1) then
 bif !(decide (((nth T_A3 p0 p2)).1 = ((nth T_A3 p1 p2)).1) && (decide ((((nth T_A3 p0 p2)).2).1 = (((nth T_A3 p1 p2)).2).1) && (decide (((((nth T_A3 p0 p2)).2).2).1 = ((((nth T_A3 p1 p2)).2).2).1) && true))) then
 some (false, ())
 else
 l_laws_rCells_4 m0 p0 p1 (IntKind.wrap .i64 (p2 + 1))
 else none
 else none
 else
 some (true, ()) := by
 rewrite [h_laws_rCells_4]
 exact e_laws_rCells_4 N m0 p0 p1 p2

abbrev As_laws_rHeap : List ATy := [.data true T_Heap, .data true T_Heap]
abbrev R_laws_rHeap : List (Bool × Ty) := [(false, .bool)]
abbrev M_laws_rHeap : List RMode := []
abbrev Ft_laws_rHeap : Type := D_Heap × D_Heap × Unit → Option (Bool × Unit)
def X_laws_rHeap (n : Nat) (F_laws_rCells : Ft_laws_rCells) : Ctx := { types := TT, globals := [], con := [(33, ⟨As_laws_rCells, R_laws_rCells, M_laws_rCells, F_laws_rCells⟩)], keep := [], results := [.tmp 4], ntmps := 31, n := n }
def B_laws_rHeap : Code := (Try.f8.body).getD .skip
theorem e_laws_rHeap (n : Nat) (F_laws_rCells : Ft_laws_rCells) (a0 a1 : D_Heap) : runF (X_laws_rHeap n F_laws_rCells) B_laws_rHeap As_laws_rHeap R_laws_rHeap M_laws_rHeap (a0, a1, ()) = 
 bif decide (a0.1 = a1.1) then
 bif decide (a0.2.1 = a1.2.1) then
 bif decide (a0.2.2.1 = a1.2.2.1) then
 Option.bind (F_laws_rCells (a0.2.2.2.1, a1.2.2.2.1, ())) fun r3 =>
 some (r3.1, ())
 else
 some (false, ())
 else
 some (false, ())
 else
 some (false, ()) := by kernel_rfl
def P_laws_rHeap : Ft_laws_rHeap := hid (runF (X_laws_rHeap N P_laws_rCells) B_laws_rHeap As_laws_rHeap R_laws_rHeap M_laws_rHeap)
theorem h_laws_rHeap : P_laws_rHeap = runF (X_laws_rHeap N P_laws_rCells) B_laws_rHeap As_laws_rHeap R_laws_rHeap M_laws_rHeap := hid_eq _
def C_laws_rHeap : Contract := ⟨As_laws_rHeap, R_laws_rHeap, M_laws_rHeap, P_laws_rHeap⟩
theorem s_laws_rHeap : Sound Try.prog GG 8 C_laws_rHeap := by
 unfold C_laws_rHeap; rw [h_laws_rHeap]
 exact sound_of_run (fn := Try.f8) hmix hstable (tyOK_of ttOK) (hglob _) (conOK_of ⟨s_laws_rCells, trivial⟩) (mconOK_of trivial) (by kernel_rfl) (by kernel_rfl) (by kernel_rfl) (by kernel_rfl) (by kernel_rfl) (of_decide_eq_true (by kernel_rfl))
theorem p_laws_rHeap (a0 a1 : D_Heap) : P_laws_rHeap (a0, a1, ()) = 
 bif decide (a0.1 = a1.1) then
 bif decide (a0.2.1 = a1.2.1) then
 bif decide (a0.2.2.1 = a1.2.2.1) then
 Option.bind (P_laws_rCells (a0.2.2.2.1, a1.2.2.2.1, ())) fun r3 =>
 some (r3.1, ())
 else
 some (false, ())
 else
 some (false, ())
 else
 some (false, ()) := by
 rewrite [h_laws_rHeap]
 exact e_laws_rHeap N P_laws_rCells a0 a1

abbrev As_Heap_cubes : List ATy := [.data true T_Heap]
abbrev R_Heap_cubes : List (Bool × Ty) := [(false, (.int .u64))]
abbrev M_Heap_cubes : List RMode := []
abbrev Ft_Heap_cubes : Type := D_Heap × Unit → Option (Int × Unit)
def X_Heap_cubes (n : Nat) (F_Heap_box : Ft_Heap_box) (F_box_index : Ft_box_index) : Ctx := { types := TT, globals := [], con := [(27, ⟨As_Heap_box, R_Heap_box, M_Heap_box, F_Heap_box⟩), (28, ⟨As_box_index, R_box_index, M_box_index, F_box_index⟩)], keep := [(3, ⟨[.box 1, .tmp 1, .tmp 3, .tmp 7, .tmp 8, .tmp 9], []⟩)], results := [.tmp 2], ntmps := 22, n := n }
def B_Heap_cubes : Code := (Try.f37.body).getD .skip
def L_Heap_cubes_3 (n : Nat) (F_Heap_box : Ft_Heap_box) (F_box_index : Ft_box_index) (m0 : Nat) (p0 p1 p2 : Int) (p3 : List D_A3) (p4 : Int) (p5 : List D_A3) (p6 p7 : Int) : Option (denL R_Heap_cubes) := loopF (X_Heap_cubes n F_Heap_box F_box_index) B_Heap_cubes R_Heap_cubes M_Heap_cubes 3 [m0] [(.ver, .num 1), (.box 1, .box 0 false [.int .i64 p0, .int .i64 p1, .int .i64 p2, .imm T_A3 p3 (some 3)]), (.tmp 1, .val false [.addr 1 0 0]), (.tmp 3, .val false [.int .u64 p4]), (.tmp 7, .val false [.imm T_A3 p5 (some 3)]), (.tmp 8, .val false [.int .i64 p6]), (.tmp 9, .val false [.int .i64 p7])]
theorem e_Heap_cubes (n : Nat) (F_Heap_box : Ft_Heap_box) (F_box_index : Ft_box_index) (a0 : D_Heap) : runF (X_Heap_cubes n F_Heap_box F_box_index) B_Heap_cubes As_Heap_cubes R_Heap_cubes M_Heap_cubes (a0, ()) = 
 L_Heap_cubes_3 n F_Heap_box F_box_index n a0.1 a0.2.1 a0.2.2.1 a0.2.2.2.1 0 a0.2.2.2.1 (List.length a0.2.2.2.1 : Int) 0 := by kernel_rfl
theorem e_Heap_cubes_3 (n : Nat) (F_Heap_box : Ft_Heap_box) (F_box_index : Ft_box_index) (m0 : Nat) (p0 p1 p2 : Int) (p3 : List D_A3) (p4 : Int) (p5 : List D_A3) (p6 p7 : Int) : L_Heap_cubes_3 n F_Heap_box F_box_index (m0 + 1) p0 p1 p2 p3 p4 p5 p6 p7 = 
 bif decide (p7 < p6) then
 bif inB p7 (List.length p5) then
 Option.bind (F_Heap_box ((p0, (p1, (p2, (p3, ())))), ())) fun r2 =>
 Option.bind (F_box_index (r2.1, (nth T_A3 p5 p7), ())) fun r3 =>
 bif decide ((0 : Int) ≤ r3.1) then
 L_Heap_cubes_3 n F_Heap_box F_box_index m0 p0 p1 p2 p3 (intBits .or .u64 p4 (shlI .u64 1 r3.1)) p5 p6 (IntKind.wrap .i64 (p7 + 1))
 else none
 else none
 else
 some (p4, ()) := by kernel_rfl
def P_Heap_cubes : Ft_Heap_cubes := hid (runF (X_Heap_cubes N P_Heap_box P_box_index) B_Heap_cubes As_Heap_cubes R_Heap_cubes M_Heap_cubes)
theorem h_Heap_cubes : P_Heap_cubes = runF (X_Heap_cubes N P_Heap_box P_box_index) B_Heap_cubes As_Heap_cubes R_Heap_cubes M_Heap_cubes := hid_eq _
def C_Heap_cubes : Contract := ⟨As_Heap_cubes, R_Heap_cubes, M_Heap_cubes, P_Heap_cubes⟩
theorem s_Heap_cubes : Sound Try.prog GG 37 C_Heap_cubes := by
 unfold C_Heap_cubes; rw [h_Heap_cubes]
 exact sound_of_run (fn := Try.f37) hmix hstable (tyOK_of ttOK) (hglob _) (conOK_of ⟨s_Heap_box, s_box_index, trivial⟩) (mconOK_of trivial) (by kernel_rfl) (by kernel_rfl) (by kernel_rfl) (by kernel_rfl) (by kernel_rfl) (of_decide_eq_true (by kernel_rfl))
def l_Heap_cubes_3 : Nat → Int → Int → Int → (List D_A3) → Int → (List D_A3) → Int → Int → Option (denL R_Heap_cubes) := hid (fun m0 p0 p1 p2 p3 p4 p5 p6 p7 => L_Heap_cubes_3 N P_Heap_box P_box_index m0 p0 p1 p2 p3 p4 p5 p6 p7)
theorem h_Heap_cubes_3 : l_Heap_cubes_3 = fun m0 p0 p1 p2 p3 p4 p5 p6 p7 => L_Heap_cubes_3 N P_Heap_box P_box_index m0 p0 p1 p2 p3 p4 p5 p6 p7 := hid_eq _
theorem p_Heap_cubes (a0 : D_Heap) : P_Heap_cubes (a0, ()) = 
 l_Heap_cubes_3 N a0.1 a0.2.1 a0.2.2.1 a0.2.2.2.1 0 a0.2.2.2.1 (List.length a0.2.2.2.1 : Int) 0 := by
 rewrite [h_Heap_cubes, h_Heap_cubes_3]
 exact e_Heap_cubes N P_Heap_box P_box_index a0
theorem q_Heap_cubes_3 (m0 : Nat) (p0 p1 p2 : Int) (p3 : List D_A3) (p4 : Int) (p5 : List D_A3) (p6 p7 : Int) : l_Heap_cubes_3 (m0 + 1) p0 p1 p2 p3 p4 p5 p6 p7 = 
 bif decide (p7 < p6) then
 bif inB p7 (List.length p5) then
 Option.bind (P_Heap_box ((p0, (p1, (p2, (p3, ())))), ())) fun r2 =>
 Option.bind (P_box_index (r2.1, (nth T_A3 p5 p7), ())) fun r3 =>
 bif decide ((0 : Int) ≤ r3.1) then
 l_Heap_cubes_3 m0 p0 p1 p2 p3 (intBits .or .u64 p4 (shlI .u64 1 r3.1)) p5 p6 (IntKind.wrap .i64 (p7 + 1))
 else none
 else none
 else
 some (p4, ()) := by
 rewrite [h_Heap_cubes_3]
 exact e_Heap_cubes_3 N P_Heap_box P_box_index m0 p0 p1 p2 p3 p4 p5 p6 p7

abbrev As_Heap_hasCube : List ATy := [.data true T_Heap, .data true T_A3]
abbrev R_Heap_hasCube : List (Bool × Ty) := [(false, .bool)]
abbrev M_Heap_hasCube : List RMode := []
abbrev Ft_Heap_hasCube : Type := D_Heap × D_A3 × Unit → Option (Bool × Unit)
def X_Heap_hasCube (n : Nat) (F_Heap_box : Ft_Heap_box) (F_box_index : Ft_box_index) (F_Heap_cubes : Ft_Heap_cubes) (F_set_has : Ft_set_has) : Ctx := { types := TT, globals := [], con := [(27, ⟨As_Heap_box, R_Heap_box, M_Heap_box, F_Heap_box⟩), (28, ⟨As_box_index, R_box_index, M_box_index, F_box_index⟩), (37, ⟨As_Heap_cubes, R_Heap_cubes, M_Heap_cubes, F_Heap_cubes⟩), (68, ⟨As_set_has, R_set_has, M_set_has, F_set_has⟩)], keep := [], results := [.tmp 4], ntmps := 12, n := n }
def B_Heap_hasCube : Code := (Try.f64.body).getD .skip
theorem e_Heap_hasCube (n : Nat) (F_Heap_box : Ft_Heap_box) (F_box_index : Ft_box_index) (F_Heap_cubes : Ft_Heap_cubes) (F_set_has : Ft_set_has) (a0 : D_Heap) (a1 : D_A3) : runF (X_Heap_hasCube n F_Heap_box F_box_index F_Heap_cubes F_set_has) B_Heap_hasCube As_Heap_hasCube R_Heap_hasCube M_Heap_hasCube (a0, a1, ()) = 
 Option.bind (F_Heap_cubes (a0, ())) fun r0 =>
 Option.bind (F_Heap_box (a0, ())) fun r1 =>
 Option.bind (F_box_index (r1.1, a1, ())) fun r2 =>
 Option.bind (F_set_has (r0.1, r2.1, ())) fun r3 =>
 some (r3.1, ()) := by kernel_rfl
def P_Heap_hasCube : Ft_Heap_hasCube := hid (runF (X_Heap_hasCube N P_Heap_box P_box_index P_Heap_cubes P_set_has) B_Heap_hasCube As_Heap_hasCube R_Heap_hasCube M_Heap_hasCube)
theorem h_Heap_hasCube : P_Heap_hasCube = runF (X_Heap_hasCube N P_Heap_box P_box_index P_Heap_cubes P_set_has) B_Heap_hasCube As_Heap_hasCube R_Heap_hasCube M_Heap_hasCube := hid_eq _
def C_Heap_hasCube : Contract := ⟨As_Heap_hasCube, R_Heap_hasCube, M_Heap_hasCube, P_Heap_hasCube⟩
theorem s_Heap_hasCube : Sound Try.prog GG 64 C_Heap_hasCube := by
 unfold C_Heap_hasCube; rw [h_Heap_hasCube]
 exact sound_of_run (fn := Try.f64) hmix hstable (tyOK_of ttOK) (hglob _) (conOK_of ⟨s_Heap_box, s_box_index, s_Heap_cubes, s_set_has, trivial⟩) (mconOK_of trivial) (by kernel_rfl) (by kernel_rfl) (by kernel_rfl) (by kernel_rfl) (by kernel_rfl) (of_decide_eq_true (by kernel_rfl))
theorem p_Heap_hasCube (a0 : D_Heap) (a1 : D_A3) : P_Heap_hasCube (a0, a1, ()) = 
 Option.bind (P_Heap_cubes (a0, ())) fun r0 =>
 Option.bind (P_Heap_box (a0, ())) fun r1 =>
 Option.bind (P_box_index (r1.1, a1, ())) fun r2 =>
 Option.bind (P_set_has (r0.1, r2.1, ())) fun r3 =>
 some (r3.1, ()) := by
 rewrite [h_Heap_hasCube]
 exact e_Heap_hasCube N P_Heap_box P_box_index P_Heap_cubes P_set_has a0 a1

abbrev As_Heap_cutFaces : List ATy := [.data true T_Heap, .data false (.int .i64), .data false (.int .i64)]
abbrev R_Heap_cutFaces : List (Bool × Ty) := [(false, (.int .i64))]
abbrev M_Heap_cutFaces : List RMode := []
abbrev Ft_Heap_cutFaces : Type := D_Heap × Int × Int × Unit → Option (Int × Unit)
def X_Heap_cutFaces (n : Nat) (F_Heap_hasCube : Ft_Heap_hasCube) : Ctx := { types := TT, globals := [], con := [(64, ⟨As_Heap_hasCube, R_Heap_hasCube, M_Heap_hasCube, F_Heap_hasCube⟩)], keep := [(3, ⟨[.box 3, .tmp 1, .tmp 2, .tmp 3, .tmp 7, .tmp 12, .tmp 13, .tmp 14], []⟩)], results := [.tmp 6], ntmps := 38, n := n }
def B_Heap_cutFaces : Code := (Try.f34.body).getD .skip
def L_Heap_cutFaces_3 (n : Nat) (F_Heap_hasCube : Ft_Heap_hasCube) (m0 : Nat) (p0 p1 p2 : Int) (p3 : List D_A3) (p4 p5 p6 : Int) (p7 : List D_A3) (p8 p9 : Int) : Option (denL R_Heap_cutFaces) := loopF (X_Heap_cutFaces n F_Heap_hasCube) B_Heap_cutFaces R_Heap_cutFaces M_Heap_cutFaces 3 [m0] [(.ver, .num 1), (.box 3, .box 0 false [.int .i64 p0, .int .i64 p1, .int .i64 p2, .imm T_A3 p3 (some 3)]), (.tmp 1, .val false [.int .i64 p4]), (.tmp 2, .val false [.int .i64 p5]), (.tmp 3, .val false [.addr 3 0 0]), (.tmp 7, .val false [.int .i64 p6]), (.tmp 12, .val false [.imm T_A3 p7 (some 3)]), (.tmp 13, .val false [.int .i64 p8]), (.tmp 14, .val false [.int .i64 p9])]
theorem e_Heap_cutFaces (n : Nat) (F_Heap_hasCube : Ft_Heap_hasCube) (a0 : D_Heap) (a1 a2 : Int) : runF (X_Heap_cutFaces n F_Heap_hasCube) B_Heap_cutFaces As_Heap_cutFaces R_Heap_cutFaces M_Heap_cutFaces (a0, a1, a2, ()) = 
 L_Heap_cutFaces_3 n F_Heap_hasCube n a0.1 a0.2.1 a0.2.2.1 a0.2.2.2.1 a1 a2 0 a0.2.2.2.1 (List.length a0.2.2.2.1 : Int) 0 := by kernel_rfl
theorem e_Heap_cutFaces_3 (n : Nat) (F_Heap_hasCube : Ft_Heap_hasCube) (m0 : Nat) (p0 p1 p2 : Int) (p3 : List D_A3) (p4 p5 p6 : Int) (p7 : List D_A3) (p8 p9 : Int) : L_Heap_cutFaces_3 n F_Heap_hasCube (m0 + 1) p0 p1 p2 p3 p4 p5 p6 p7 p8 p9 = 
 bif decide (p9 < p8) then
 bif inB p9 (List.length p7) then
 bif inB p4 3 then
 bif inB p4 3 then
 bif inB p4 3 then
 bif decide ((bif decide (p4 = (0 : Int)) then ((nth T_A3 p7 p9)).1 else (bif decide (p4 = (1 : Int)) then (((nth T_A3 p7 p9)).2).1 else ((((nth T_A3 p7 p9)).2).2).1)) = p5) then
 Option.bind (F_Heap_hasCube ((p0, (p1, (p2, (p3, ())))), ((bif decide (p4 = (0 : Int)) then (IntKind.wrap .i64 ((bif decide (p4 = (0 : Int)) then ((nth T_A3 p7 p9)).1 else (bif decide (p4 = (1 : Int)) then (((nth T_A3 p7 p9)).2).1 else ((((nth T_A3 p7 p9)).2).2).1)) - 1)) else ((nth T_A3 p7 p9)).1), ((bif decide (p4 = (1 : Int)) then (IntKind.wrap .i64 ((bif decide (p4 = (0 : Int)) then ((nth T_A3 p7 p9)).1 else (bif decide (p4 = (1 : Int)) then (((nth T_A3 p7 p9)).2).1 else ((((nth T_A3 p7 p9)).2).2).1)) - 1)) else (((nth T_A3 p7 p9)).2).1), ((bif decide (p4 = (2 : Int)) then (IntKind.wrap .i64 ((bif decide (p4 = (0 : Int)) then ((nth T_A3 p7 p9)).1 else (bif decide (p4 = (1 : Int)) then (((nth T_A3 p7 p9)).2).1 else ((((nth T_A3 p7 p9)).2).2).1)) - 1)) else ((((nth T_A3 p7 p9)).2).2).1), ()))), ())) fun r6 =>
 bif r6.1 then
 L_Heap_cutFaces_3 n F_Heap_hasCube m0 p0 p1 p2 p3 p4 p5 (IntKind.wrap .i64 (p6 + 1)) p7 p8 (IntKind.wrap .i64 (p9 + 1))
 else
 L_Heap_cutFaces_3 n F_Heap_hasCube m0 p0 p1 p2 p3 p4 p5 p6 p7 p8 (IntKind.wrap .i64 (p9 + 1))
 else
 L_Heap_cutFaces_3 n F_Heap_hasCube m0 p0 p1 p2 p3 p4 p5 p6 p7 p8 (IntKind.wrap .i64 (p9 + 1))
 else none
 else none
 else none
 else none
 else
 some (p6, ()) := by kernel_rfl
def P_Heap_cutFaces : Ft_Heap_cutFaces := hid (runF (X_Heap_cutFaces N P_Heap_hasCube) B_Heap_cutFaces As_Heap_cutFaces R_Heap_cutFaces M_Heap_cutFaces)
theorem h_Heap_cutFaces : P_Heap_cutFaces = runF (X_Heap_cutFaces N P_Heap_hasCube) B_Heap_cutFaces As_Heap_cutFaces R_Heap_cutFaces M_Heap_cutFaces := hid_eq _
def C_Heap_cutFaces : Contract := ⟨As_Heap_cutFaces, R_Heap_cutFaces, M_Heap_cutFaces, P_Heap_cutFaces⟩
theorem s_Heap_cutFaces : Sound Try.prog GG 34 C_Heap_cutFaces := by
 unfold C_Heap_cutFaces; rw [h_Heap_cutFaces]
 exact sound_of_run (fn := Try.f34) hmix hstable (tyOK_of ttOK) (hglob _) (conOK_of ⟨s_Heap_hasCube, trivial⟩) (mconOK_of trivial) (by kernel_rfl) (by kernel_rfl) (by kernel_rfl) (by kernel_rfl) (by kernel_rfl) (of_decide_eq_true (by kernel_rfl))
def l_Heap_cutFaces_3 : Nat → Int → Int → Int → (List D_A3) → Int → Int → Int → (List D_A3) → Int → Int → Option (denL R_Heap_cutFaces) := hid (fun m0 p0 p1 p2 p3 p4 p5 p6 p7 p8 p9 => L_Heap_cutFaces_3 N P_Heap_hasCube m0 p0 p1 p2 p3 p4 p5 p6 p7 p8 p9)
theorem h_Heap_cutFaces_3 : l_Heap_cutFaces_3 = fun m0 p0 p1 p2 p3 p4 p5 p6 p7 p8 p9 => L_Heap_cutFaces_3 N P_Heap_hasCube m0 p0 p1 p2 p3 p4 p5 p6 p7 p8 p9 := hid_eq _
theorem p_Heap_cutFaces (a0 : D_Heap) (a1 a2 : Int) : P_Heap_cutFaces (a0, a1, a2, ()) = 
 l_Heap_cutFaces_3 N a0.1 a0.2.1 a0.2.2.1 a0.2.2.2.1 a1 a2 0 a0.2.2.2.1 (List.length a0.2.2.2.1 : Int) 0 := by
 rewrite [h_Heap_cutFaces, h_Heap_cutFaces_3]
 exact e_Heap_cutFaces N P_Heap_hasCube a0 a1 a2
theorem q_Heap_cutFaces_3 (m0 : Nat) (p0 p1 p2 : Int) (p3 : List D_A3) (p4 p5 p6 : Int) (p7 : List D_A3) (p8 p9 : Int) : l_Heap_cutFaces_3 (m0 + 1) p0 p1 p2 p3 p4 p5 p6 p7 p8 p9 = 
 bif decide (p9 < p8) then
 bif inB p9 (List.length p7) then
 bif inB p4 3 then
 bif inB p4 3 then
 bif inB p4 3 then
 bif decide ((bif decide (p4 = (0 : Int)) then ((nth T_A3 p7 p9)).1 else (bif decide (p4 = (1 : Int)) then (((nth T_A3 p7 p9)).2).1 else ((((nth T_A3 p7 p9)).2).2).1)) = p5) then
 Option.bind (P_Heap_hasCube ((p0, (p1, (p2, (p3, ())))), ((bif decide (p4 = (0 : Int)) then (IntKind.wrap .i64 ((bif decide (p4 = (0 : Int)) then ((nth T_A3 p7 p9)).1 else (bif decide (p4 = (1 : Int)) then (((nth T_A3 p7 p9)).2).1 else ((((nth T_A3 p7 p9)).2).2).1)) - 1)) else ((nth T_A3 p7 p9)).1), ((bif decide (p4 = (1 : Int)) then (IntKind.wrap .i64 ((bif decide (p4 = (0 : Int)) then ((nth T_A3 p7 p9)).1 else (bif decide (p4 = (1 : Int)) then (((nth T_A3 p7 p9)).2).1 else ((((nth T_A3 p7 p9)).2).2).1)) - 1)) else (((nth T_A3 p7 p9)).2).1), ((bif decide (p4 = (2 : Int)) then (IntKind.wrap .i64 ((bif decide (p4 = (0 : Int)) then ((nth T_A3 p7 p9)).1 else (bif decide (p4 = (1 : Int)) then (((nth T_A3 p7 p9)).2).1 else ((((nth T_A3 p7 p9)).2).2).1)) - 1)) else ((((nth T_A3 p7 p9)).2).2).1), ()))), ())) fun r6 =>
 bif r6.1 then
 l_Heap_cutFaces_3 m0 p0 p1 p2 p3 p4 p5 (IntKind.wrap .i64 (p6 + 1)) p7 p8 (IntKind.wrap .i64 (p9 + 1))
 else
 l_Heap_cutFaces_3 m0 p0 p1 p2 p3 p4 p5 p6 p7 p8 (IntKind.wrap .i64 (p9 + 1))
 else
 l_Heap_cutFaces_3 m0 p0 p1 p2 p3 p4 p5 p6 p7 p8 (IntKind.wrap .i64 (p9 + 1))
 else none
 else none
 else none
 else none
 else
 some (p6, ()) := by
 rewrite [h_Heap_cutFaces_3]
 exact e_Heap_cutFaces_3 N P_Heap_hasCube m0 p0 p1 p2 p3 p4 p5 p6 p7 p8 p9

abbrev As_impl_CutFaces : List ATy := [.data true T_Heap, .data false (.int .i64), .data false (.int .i64)]
abbrev R_impl_CutFaces : List (Bool × Ty) := [(false, (.int .i64)), (false, .bool)]
abbrev M_impl_CutFaces : List RMode := []
abbrev Ft_impl_CutFaces : Type := D_Heap × Int × Int × Unit → Option (Int × Bool × Unit)
def X_impl_CutFaces (n : Nat) (F_impl_IsHeap : Ft_impl_IsHeap) (F_Heap_isCut : Ft_Heap_isCut) (F_Heap_cutFaces : Ft_Heap_cutFaces) : Ctx := { types := TT, globals := [], con := [(20, ⟨As_impl_IsHeap, R_impl_IsHeap, M_impl_IsHeap, F_impl_IsHeap⟩), (26, ⟨As_Heap_isCut, R_Heap_isCut, M_Heap_isCut, F_Heap_isCut⟩), (34, ⟨As_Heap_cutFaces, R_Heap_cutFaces, M_Heap_cutFaces, F_Heap_cutFaces⟩)], keep := [], results := [.tmp 6, .tmp 7], ntmps := 22, n := n }
def B_impl_CutFaces : Code := (Try.f9.body).getD .skip
theorem e_impl_CutFaces (n : Nat) (F_impl_IsHeap : Ft_impl_IsHeap) (F_Heap_isCut : Ft_Heap_isCut) (F_Heap_cutFaces : Ft_Heap_cutFaces) (a0 : D_Heap) (a1 a2 : Int) : runF (X_impl_CutFaces n F_impl_IsHeap F_Heap_isCut F_Heap_cutFaces) B_impl_CutFaces As_impl_CutFaces R_impl_CutFaces M_impl_CutFaces (a0, a1, a2, ()) = 
 Option.bind (F_impl_IsHeap (a0, ())) fun r0 =>
 bif !r0.1 then
 some (0, false, ())
 else
 Option.bind (F_Heap_isCut (a0, a1, a2, ())) fun r2 =>
 bif !r2.1 then
 some (0, false, ())
 else
 Option.bind (F_Heap_cutFaces (a0, a1, a2, ())) fun r4 =>
 some (r4.1, true, ()) := by kernel_rfl
def P_impl_CutFaces : Ft_impl_CutFaces := hid (runF (X_impl_CutFaces N P_impl_IsHeap P_Heap_isCut P_Heap_cutFaces) B_impl_CutFaces As_impl_CutFaces R_impl_CutFaces M_impl_CutFaces)
theorem h_impl_CutFaces : P_impl_CutFaces = runF (X_impl_CutFaces N P_impl_IsHeap P_Heap_isCut P_Heap_cutFaces) B_impl_CutFaces As_impl_CutFaces R_impl_CutFaces M_impl_CutFaces := hid_eq _
def C_impl_CutFaces : Contract := ⟨As_impl_CutFaces, R_impl_CutFaces, M_impl_CutFaces, P_impl_CutFaces⟩
theorem s_impl_CutFaces : Sound Try.prog GG 9 C_impl_CutFaces := by
 unfold C_impl_CutFaces; rw [h_impl_CutFaces]
 exact sound_of_run (fn := Try.f9) hmix hstable (tyOK_of ttOK) (hglob _) (conOK_of ⟨s_impl_IsHeap, s_Heap_isCut, s_Heap_cutFaces, trivial⟩) (mconOK_of trivial) (by kernel_rfl) (by kernel_rfl) (by kernel_rfl) (by kernel_rfl) (by kernel_rfl) (of_decide_eq_true (by kernel_rfl))
theorem p_impl_CutFaces (a0 : D_Heap) (a1 a2 : Int) : P_impl_CutFaces (a0, a1, a2, ()) = 
 Option.bind (P_impl_IsHeap (a0, ())) fun r0 =>
 bif !r0.1 then
 some (0, false, ())
 else
 Option.bind (P_Heap_isCut (a0, a1, a2, ())) fun r2 =>
 bif !r2.1 then
 some (0, false, ())
 else
 Option.bind (P_Heap_cutFaces (a0, a1, a2, ())) fun r4 =>
 some (r4.1, true, ()) := by
 rewrite [h_impl_CutFaces]
 exact e_impl_CutFaces N P_impl_IsHeap P_Heap_isCut P_Heap_cutFaces a0 a1 a2

abbrev As_spec_l6Beside : List ATy := [.data true T_A3, .data true T_A3]
abbrev R_spec_l6Beside : List (Bool × Ty) := [(true, T_A3)]
abbrev M_spec_l6Beside : List RMode := []
abbrev Ft_spec_l6Beside : Type := D_A3 × D_A3 × Unit → Option (D_A3 × Unit)
def X_spec_l6Beside (n : Nat) : Ctx := { types := TT, globals := [], con := [], keep := [], results := [.cell 4 49], ntmps := 21, n := n }
def B_spec_l6Beside : Code := (Try.f66.body).getD .skip
theorem e_spec_l6Beside (n : Nat) (a0 a1 : D_A3) : runF (X_spec_l6Beside n) B_spec_l6Beside As_spec_l6Beside R_spec_l6Beside M_spec_l6Beside (a0, a1, ()) = 
 some (((IntKind.wrap .i64 (a0.1 + a1.1)), ((IntKind.wrap .i64 (a0.2.1 + a1.2.1)), ((IntKind.wrap .i64 (a0.2.2.1 + a1.2.2.1)), ()))), ()) := by kernel_rfl
def P_spec_l6Beside : Ft_spec_l6Beside := hid (runF (X_spec_l6Beside N) B_spec_l6Beside As_spec_l6Beside R_spec_l6Beside M_spec_l6Beside)
theorem h_spec_l6Beside : P_spec_l6Beside = runF (X_spec_l6Beside N) B_spec_l6Beside As_spec_l6Beside R_spec_l6Beside M_spec_l6Beside := hid_eq _
def C_spec_l6Beside : Contract := ⟨As_spec_l6Beside, R_spec_l6Beside, M_spec_l6Beside, P_spec_l6Beside⟩
theorem s_spec_l6Beside : Sound Try.prog GG 66 C_spec_l6Beside := by
 unfold C_spec_l6Beside; rw [h_spec_l6Beside]
 exact sound_of_run (fn := Try.f66) hmix hstable (tyOK_of ttOK) (hglob _) (conOK_of trivial) (mconOK_of trivial) (by kernel_rfl) (by kernel_rfl) (by kernel_rfl) (by kernel_rfl) (by kernel_rfl) (of_decide_eq_true (by kernel_rfl))
theorem p_spec_l6Beside (a0 a1 : D_A3) : P_spec_l6Beside (a0, a1, ()) = 
 some (((IntKind.wrap .i64 (a0.1 + a1.1)), ((IntKind.wrap .i64 (a0.2.1 + a1.2.1)), ((IntKind.wrap .i64 (a0.2.2.1 + a1.2.2.1)), ()))), ()) := by
 rewrite [h_spec_l6Beside]
 exact e_spec_l6Beside N a0 a1

abbrev As_spec_l11Faces : List ATy := [.data true T_Heap, .data false (.int .i64), .data false (.int .i64)]
abbrev R_spec_l11Faces : List (Bool × Ty) := [(false, (.int .i64))]
abbrev M_spec_l11Faces : List RMode := []
abbrev Ft_spec_l11Faces : Type := D_Heap × Int × Int × Unit → Option (Int × Unit)
def X_spec_l11Faces (n : Nat) (F_spec_l2Has : Ft_spec_l2Has) (F_spec_l6Beside : Ft_spec_l6Beside) : Ctx := { types := TT, globals := [], con := [(65, ⟨As_spec_l2Has, R_spec_l2Has, M_spec_l2Has, F_spec_l2Has⟩), (66, ⟨As_spec_l6Beside, R_spec_l6Beside, M_spec_l6Beside, F_spec_l6Beside⟩)], keep := [(4, ⟨[.box 3, .box 8, .tmp 1, .tmp 2, .tmp 3, .tmp 7, .tmp 8, .tmp 9], []⟩)], results := [.tmp 6], ntmps := 44, n := n }
def B_spec_l11Faces : Code := (Try.f35.body).getD .skip
def L_spec_l11Faces_4 (n : Nat) (F_spec_l2Has : Ft_spec_l2Has) (F_spec_l6Beside : Ft_spec_l6Beside) (m0 : Nat) (p0 p1 p2 : Int) (p3 : List D_A3) (p4 p5 : Int) (p6 p7 : Int) (p8 p9 p10 : Int) : Option (denL R_spec_l11Faces) := loopF (X_spec_l11Faces n F_spec_l2Has F_spec_l6Beside) B_spec_l11Faces R_spec_l11Faces M_spec_l11Faces 4 [m0] [(.ver, .num 1), (.box 3, .box 0 false [.int .i64 p0, .int .i64 p1, .int .i64 p2, .imm T_A3 p3 (some 3)]), (.box 8, .box 0 false [.int .i64 p4, .int .i64 p5, .int .i64 p6]), (.tmp 1, .val false [.int .i64 p7]), (.tmp 2, .val false [.int .i64 p8]), (.tmp 3, .val false [.addr 3 0 0]), (.tmp 7, .val false [.int .i64 p9]), (.tmp 8, .val false [.addr 8 0 0]), (.tmp 9, .val false [.int .i64 p10])]
theorem e_spec_l11Faces (n : Nat) (F_spec_l2Has : Ft_spec_l2Has) (F_spec_l6Beside : Ft_spec_l6Beside) (a0 : D_Heap) (a1 a2 : Int) : runF (X_spec_l11Faces n F_spec_l2Has F_spec_l6Beside) B_spec_l11Faces As_spec_l11Faces R_spec_l11Faces M_spec_l11Faces (a0, a1, a2, ()) = 
 bif inB a1 3 then
 L_spec_l11Faces_4 n F_spec_l2Has F_spec_l6Beside n a0.1 a0.2.1 a0.2.2.1 a0.2.2.2.1 (bif decide (a1 = (0 : Int)) then 1 else 0) (bif decide (a1 = (1 : Int)) then 1 else 0) (bif decide (a1 = (2 : Int)) then 1 else 0) a1 a2 0 0
 else none := by kernel_rfl
theorem e_spec_l11Faces_4 (n : Nat) (F_spec_l2Has : Ft_spec_l2Has) (F_spec_l6Beside : Ft_spec_l6Beside) (m0 : Nat) (p0 p1 p2 : Int) (p3 : List D_A3) (p4 p5 : Int) (p6 p7 : Int) (p8 p9 p10 : Int) : L_spec_l11Faces_4 n F_spec_l2Has F_spec_l6Beside (m0 + 1) p0 p1 p2 p3 p4 p5 p6 p7 p8 p9 p10 = 
 bif decide (p10 < (List.length p3 : Int)) then
 bif inB p10 (List.length p3) then
 bif inB p7 3 then
 bif decide ((bif decide (p7 = (0 : Int)) then ((nth T_A3 p3 p10)).1 else (bif decide (p7 = (1 : Int)) then (((nth T_A3 p3 p10)).2).1 else ((((nth T_A3 p3 p10)).2).2).1)) = (IntKind.wrap .i64 (p8 - 1))) then
 bif inB p10 (List.length p3) then
 Option.bind (F_spec_l6Beside ((nth T_A3 p3 p10), (p4, (p5, (p6, ()))), ())) fun r5 =>
 Option.bind (F_spec_l2Has ((p0, (p1, (p2, (p3, ())))), r5.1, ())) fun r6 =>
 bif r6.1 then
 L_spec_l11Faces_4 n F_spec_l2Has F_spec_l6Beside m0 p0 p1 p2 p3 p4 p5 p6 p7 p8 (IntKind.wrap .i64 (p9 + 1)) (IntKind.wrap .i64 (p10 + 1))
 else
 L_spec_l11Faces_4 n F_spec_l2Has F_spec_l6Beside m0 p0 p1 p2 p3 p4 p5 p6 p7 p8 p9 (IntKind.wrap .i64 (p10 + 1))
 else none
 else
 L_spec_l11Faces_4 n F_spec_l2Has F_spec_l6Beside m0 p0 p1 p2 p3 p4 p5 p6 p7 p8 p9 (IntKind.wrap .i64 (p10 + 1))
 else none
 else none
 else
 some (p9, ()) := by kernel_rfl
def P_spec_l11Faces : Ft_spec_l11Faces := hid (runF (X_spec_l11Faces N P_spec_l2Has P_spec_l6Beside) B_spec_l11Faces As_spec_l11Faces R_spec_l11Faces M_spec_l11Faces)
theorem h_spec_l11Faces : P_spec_l11Faces = runF (X_spec_l11Faces N P_spec_l2Has P_spec_l6Beside) B_spec_l11Faces As_spec_l11Faces R_spec_l11Faces M_spec_l11Faces := hid_eq _
def C_spec_l11Faces : Contract := ⟨As_spec_l11Faces, R_spec_l11Faces, M_spec_l11Faces, P_spec_l11Faces⟩
theorem s_spec_l11Faces : Sound Try.prog GG 35 C_spec_l11Faces := by
 unfold C_spec_l11Faces; rw [h_spec_l11Faces]
 exact sound_of_run (fn := Try.f35) hmix hstable (tyOK_of ttOK) (hglob _) (conOK_of ⟨s_spec_l2Has, s_spec_l6Beside, trivial⟩) (mconOK_of trivial) (by kernel_rfl) (by kernel_rfl) (by kernel_rfl) (by kernel_rfl) (by kernel_rfl) (of_decide_eq_true (by kernel_rfl))
def l_spec_l11Faces_4 : Nat → Int → Int → Int → (List D_A3) → Int → Int → Int → Int → Int → Int → Int → Option (denL R_spec_l11Faces) := hid (fun m0 p0 p1 p2 p3 p4 p5 p6 p7 p8 p9 p10 => L_spec_l11Faces_4 N P_spec_l2Has P_spec_l6Beside m0 p0 p1 p2 p3 p4 p5 p6 p7 p8 p9 p10)
theorem h_spec_l11Faces_4 : l_spec_l11Faces_4 = fun m0 p0 p1 p2 p3 p4 p5 p6 p7 p8 p9 p10 => L_spec_l11Faces_4 N P_spec_l2Has P_spec_l6Beside m0 p0 p1 p2 p3 p4 p5 p6 p7 p8 p9 p10 := hid_eq _
theorem p_spec_l11Faces (a0 : D_Heap) (a1 a2 : Int) : P_spec_l11Faces (a0, a1, a2, ()) = 
 bif inB a1 3 then
 l_spec_l11Faces_4 N a0.1 a0.2.1 a0.2.2.1 a0.2.2.2.1 (bif decide (a1 = (0 : Int)) then 1 else 0) (bif decide (a1 = (1 : Int)) then 1 else 0) (bif decide (a1 = (2 : Int)) then 1 else 0) a1 a2 0 0
 else none := by
 rewrite [h_spec_l11Faces, h_spec_l11Faces_4]
 exact e_spec_l11Faces N P_spec_l2Has P_spec_l6Beside a0 a1 a2
theorem q_spec_l11Faces_4 (m0 : Nat) (p0 p1 p2 : Int) (p3 : List D_A3) (p4 p5 : Int) (p6 p7 : Int) (p8 p9 p10 : Int) : l_spec_l11Faces_4 (m0 + 1) p0 p1 p2 p3 p4 p5 p6 p7 p8 p9 p10 = 
 bif decide (p10 < (List.length p3 : Int)) then
 bif inB p10 (List.length p3) then
 bif inB p7 3 then
 bif decide ((bif decide (p7 = (0 : Int)) then ((nth T_A3 p3 p10)).1 else (bif decide (p7 = (1 : Int)) then (((nth T_A3 p3 p10)).2).1 else ((((nth T_A3 p3 p10)).2).2).1)) = (IntKind.wrap .i64 (p8 - 1))) then
 bif inB p10 (List.length p3) then
 Option.bind (P_spec_l6Beside ((nth T_A3 p3 p10), (p4, (p5, (p6, ()))), ())) fun r5 =>
 Option.bind (P_spec_l2Has ((p0, (p1, (p2, (p3, ())))), r5.1, ())) fun r6 =>
 bif r6.1 then
 l_spec_l11Faces_4 m0 p0 p1 p2 p3 p4 p5 p6 p7 p8 (IntKind.wrap .i64 (p9 + 1)) (IntKind.wrap .i64 (p10 + 1))
 else
 l_spec_l11Faces_4 m0 p0 p1 p2 p3 p4 p5 p6 p7 p8 p9 (IntKind.wrap .i64 (p10 + 1))
 else none
 else
 l_spec_l11Faces_4 m0 p0 p1 p2 p3 p4 p5 p6 p7 p8 p9 (IntKind.wrap .i64 (p10 + 1))
 else none
 else none
 else
 some (p9, ()) := by
 rewrite [h_spec_l11Faces_4]
 exact e_spec_l11Faces_4 N P_spec_l2Has P_spec_l6Beside m0 p0 p1 p2 p3 p4 p5 p6 p7 p8 p9 p10

abbrev As_spec_CutFaces : List ATy := [.data true T_Heap, .data false (.int .i64), .data false (.int .i64)]
abbrev R_spec_CutFaces : List (Bool × Ty) := [(false, (.int .i64)), (false, .bool)]
abbrev M_spec_CutFaces : List RMode := []
abbrev Ft_spec_CutFaces : Type := D_Heap × Int × Int × Unit → Option (Int × Bool × Unit)
def X_spec_CutFaces (n : Nat) (F_spec_l11Cut : Ft_spec_l11Cut) (F_spec_l11Faces : Ft_spec_l11Faces) : Ctx := { types := TT, globals := [], con := [(30, ⟨As_spec_l11Cut, R_spec_l11Cut, M_spec_l11Cut, F_spec_l11Cut⟩), (35, ⟨As_spec_l11Faces, R_spec_l11Faces, M_spec_l11Faces, F_spec_l11Faces⟩)], keep := [], results := [.tmp 6, .tmp 7], ntmps := 17, n := n }
def B_spec_CutFaces : Code := (Try.f10.body).getD .skip
theorem e_spec_CutFaces (n : Nat) (F_spec_l11Cut : Ft_spec_l11Cut) (F_spec_l11Faces : Ft_spec_l11Faces) (a0 : D_Heap) (a1 a2 : Int) : runF (X_spec_CutFaces n F_spec_l11Cut F_spec_l11Faces) B_spec_CutFaces As_spec_CutFaces R_spec_CutFaces M_spec_CutFaces (a0, a1, a2, ()) = 
 Option.bind (F_spec_l11Cut (a0, a1, a2, ())) fun r0 =>
 bif !r0.1 then
 some (0, false, ())
 else
 Option.bind (F_spec_l11Faces (a0, a1, a2, ())) fun r2 =>
 some (r2.1, true, ()) := by kernel_rfl
def P_spec_CutFaces : Ft_spec_CutFaces := hid (runF (X_spec_CutFaces N P_spec_l11Cut P_spec_l11Faces) B_spec_CutFaces As_spec_CutFaces R_spec_CutFaces M_spec_CutFaces)
theorem h_spec_CutFaces : P_spec_CutFaces = runF (X_spec_CutFaces N P_spec_l11Cut P_spec_l11Faces) B_spec_CutFaces As_spec_CutFaces R_spec_CutFaces M_spec_CutFaces := hid_eq _
def C_spec_CutFaces : Contract := ⟨As_spec_CutFaces, R_spec_CutFaces, M_spec_CutFaces, P_spec_CutFaces⟩
theorem s_spec_CutFaces : Sound Try.prog GG 10 C_spec_CutFaces := by
 unfold C_spec_CutFaces; rw [h_spec_CutFaces]
 exact sound_of_run (fn := Try.f10) hmix hstable (tyOK_of ttOK) (hglob _) (conOK_of ⟨s_spec_l11Cut, s_spec_l11Faces, trivial⟩) (mconOK_of trivial) (by kernel_rfl) (by kernel_rfl) (by kernel_rfl) (by kernel_rfl) (by kernel_rfl) (of_decide_eq_true (by kernel_rfl))
theorem p_spec_CutFaces (a0 : D_Heap) (a1 a2 : Int) : P_spec_CutFaces (a0, a1, a2, ()) = 
 Option.bind (P_spec_l11Cut (a0, a1, a2, ())) fun r0 =>
 bif !r0.1 then
 some (0, false, ())
 else
 Option.bind (P_spec_l11Faces (a0, a1, a2, ())) fun r2 =>
 some (r2.1, true, ()) := by
 rewrite [h_spec_CutFaces]
 exact e_spec_CutFaces N P_spec_l11Cut P_spec_l11Faces a0 a1 a2

abbrev As_spec_DrawPiecesAfter : List ATy := [.data false (.sl (.int .u8))]
abbrev R_spec_DrawPiecesAfter : List (Bool × Ty) := [(true, T_Heap), (false, (.sl T_A2))]
abbrev M_spec_DrawPiecesAfter : List RMode := [.own 49, .own 50]
abbrev Ft_spec_DrawPiecesAfter : Type := (List Int) × Unit → Option (D_Heap × (List D_A2) × Unit)
def X_spec_DrawPiecesAfter (n : Nat) (F_l1Cur_hollow : Ft_l1Cur_hollow) (F_l1Cur_cut : Ft_l1Cur_cut) (F_l1Cur_among : Ft_l1Cur_among) : Ctx := { types := TT, globals := [], con := [], mcon := [(24, ⟨As_l1Cur_hollow, R_l1Cur_hollow, M_l1Cur_hollow, F_l1Cur_hollow⟩), (25, ⟨As_l1Cur_cut, R_l1Cur_cut, M_l1Cur_cut, F_l1Cur_cut⟩), (36, ⟨As_l1Cur_among, R_l1Cur_among, M_l1Cur_among, F_l1Cur_among⟩)], keep := [(4, ⟨[.box 2, .box 5, .box 12, .tmp 2, .tmp 4, .tmp 5, .tmp 6, .tmp 7], []⟩)], results := [.cell 2 26, .tmp 3], ntmps := 37, n := n }
def B_spec_DrawPiecesAfter : Code := (Try.f11.body).getD .skip
def L_spec_DrawPiecesAfter_4 (n : Nat) (F_l1Cur_hollow : Ft_l1Cur_hollow) (F_l1Cur_cut : Ft_l1Cur_cut) (F_l1Cur_among : Ft_l1Cur_among) (m0 : Nat) (p0 p1 p2 : Int) (p3 : List D_A3) (p4 p5 p6 : Int) (p7 : List D_A3) (p8 : List Int) (p9 p10 : Int) (p11 : List D_A2) (p12 : Int) : Option (denL R_spec_DrawPiecesAfter) := loopF (X_spec_DrawPiecesAfter n F_l1Cur_hollow F_l1Cur_cut F_l1Cur_among) B_spec_DrawPiecesAfter R_spec_DrawPiecesAfter M_spec_DrawPiecesAfter 4 [m0] [(.ver, .num 1), (.box 2, .box 0 false [.int .i64 p0, .int .i64 p1, .int .i64 p2, .own 49 T_A3 0 p3]), (.box 5, .box 0 false [.int .i64 p4, .int .i64 p5, .int .i64 p6, .own 49 T_A3 0 p7]), (.box 12, .box 0 false [.imm (.int .u8) p8 (some 0), .int .i64 p9, .int .u64 p10]), (.tmp 2, .val false [.addr 2 0 0]), (.tmp 4, .val false [.addr 12 0 0]), (.tmp 5, .val false [.addr 5 0 0]), (.tmp 6, .val false [.own 50 T_A2 0 p11]), (.tmp 7, .val false [.int .i64 p12])]
theorem e_spec_DrawPiecesAfter (n : Nat) (F_l1Cur_hollow : Ft_l1Cur_hollow) (F_l1Cur_cut : Ft_l1Cur_cut) (F_l1Cur_among : Ft_l1Cur_among) (a0 : List Int) : runF (X_spec_DrawPiecesAfter n F_l1Cur_hollow F_l1Cur_cut F_l1Cur_among) B_spec_DrawPiecesAfter As_spec_DrawPiecesAfter R_spec_DrawPiecesAfter M_spec_DrawPiecesAfter (a0, ()) = 
 Option.bind (F_l1Cur_hollow ((a0, (0, (0, ()))), ())) fun r0 =>
 Option.bind (F_l1Cur_among ((a0, r0.2.1.2), ([2, 1, 3, 0, 5, 13] : List Int), ())) fun r1 =>
 L_spec_DrawPiecesAfter_4 n F_l1Cur_hollow F_l1Cur_cut F_l1Cur_among n 0 0 0 ([] : List D_A3) r0.1.1.1 r0.1.1.2.1 r0.1.1.2.2.1 r0.1.1.2.2.2.1 a0 r1.2.1.2.1 r1.2.1.2.2.1 ([] : List D_A2) r1.1.1 := by kernel_rfl
theorem e_spec_DrawPiecesAfter_4 (n : Nat) (F_l1Cur_hollow : Ft_l1Cur_hollow) (F_l1Cur_cut : Ft_l1Cur_cut) (F_l1Cur_among : Ft_l1Cur_among) (m0 : Nat) (p0 p1 p2 : Int) (p3 : List D_A3) (p4 p5 p6 : Int) (p7 : List D_A3) (p8 : List Int) (p9 p10 : Int) (p11 : List D_A2) (p12 : Int) : L_spec_DrawPiecesAfter_4 n F_l1Cur_hollow F_l1Cur_cut F_l1Cur_among (m0 + 1) p0 p1 p2 p3 p4 p5 p6 p7 p8 p9 p10 p11 p12 = 
 bif decide (p12 > 0) then
 Option.bind (F_l1Cur_cut ((p8, (p9, (p10, ()))), (p4, (p5, (p6, (p7, ())))), ())) fun r1 =>
 bif (decide (((List.length p11) + (List.length ([(r1.1.1, (r1.1.2.1, ()))] : List D_A2))) * 16 ≤ 140737488355328) && decide (((List.length p11) + (List.length ([(r1.1.1, (r1.1.2.1, ()))] : List D_A2))) ≤ 140737488355328)) then
 L_spec_DrawPiecesAfter_4 n F_l1Cur_hollow F_l1Cur_cut F_l1Cur_among m0 p0 p1 p2 p3 p4 p5 p6 p7 p8 r1.2.1.2.1 r1.2.1.2.2.1 (p11 ++ ([(r1.1.1, (r1.1.2.1, ()))] : List D_A2)) (IntKind.wrap .i64 (p12 - 1))
 else none
 else
 some ((p4, (p5, (p6, (p7, ())))), p11, ()) := by kernel_rfl
def P_spec_DrawPiecesAfter : Ft_spec_DrawPiecesAfter := hid (runF (X_spec_DrawPiecesAfter N P_l1Cur_hollow P_l1Cur_cut P_l1Cur_among) B_spec_DrawPiecesAfter As_spec_DrawPiecesAfter R_spec_DrawPiecesAfter M_spec_DrawPiecesAfter)
theorem h_spec_DrawPiecesAfter : P_spec_DrawPiecesAfter = runF (X_spec_DrawPiecesAfter N P_l1Cur_hollow P_l1Cur_cut P_l1Cur_among) B_spec_DrawPiecesAfter As_spec_DrawPiecesAfter R_spec_DrawPiecesAfter M_spec_DrawPiecesAfter := hid_eq _
def C_spec_DrawPiecesAfter : Contract := ⟨As_spec_DrawPiecesAfter, R_spec_DrawPiecesAfter, M_spec_DrawPiecesAfter, P_spec_DrawPiecesAfter⟩
theorem s_spec_DrawPiecesAfter : Sound Try.prog GG 11 C_spec_DrawPiecesAfter := by
 unfold C_spec_DrawPiecesAfter; rw [h_spec_DrawPiecesAfter]
 exact sound_of_run (fn := Try.f11) hmix hstable (tyOK_of ttOK) (hglob _) (conOK_of trivial) (mconOK_of ⟨s_l1Cur_hollow, s_l1Cur_cut, s_l1Cur_among, trivial⟩) (by kernel_rfl) (by kernel_rfl) (by kernel_rfl) (by kernel_rfl) (by kernel_rfl) (of_decide_eq_true (by kernel_rfl))
def l_spec_DrawPiecesAfter_4 : Nat → Int → Int → Int → (List D_A3) → Int → Int → Int → (List D_A3) → (List Int) → Int → Int → (List D_A2) → Int → Option (denL R_spec_DrawPiecesAfter) := hid (fun m0 p0 p1 p2 p3 p4 p5 p6 p7 p8 p9 p10 p11 p12 => L_spec_DrawPiecesAfter_4 N P_l1Cur_hollow P_l1Cur_cut P_l1Cur_among m0 p0 p1 p2 p3 p4 p5 p6 p7 p8 p9 p10 p11 p12)
theorem h_spec_DrawPiecesAfter_4 : l_spec_DrawPiecesAfter_4 = fun m0 p0 p1 p2 p3 p4 p5 p6 p7 p8 p9 p10 p11 p12 => L_spec_DrawPiecesAfter_4 N P_l1Cur_hollow P_l1Cur_cut P_l1Cur_among m0 p0 p1 p2 p3 p4 p5 p6 p7 p8 p9 p10 p11 p12 := hid_eq _
theorem p_spec_DrawPiecesAfter (a0 : List Int) : P_spec_DrawPiecesAfter (a0, ()) = 
 Option.bind (P_l1Cur_hollow ((a0, (0, (0, ()))), ())) fun r0 =>
 Option.bind (P_l1Cur_among ((a0, r0.2.1.2), ([2, 1, 3, 0, 5, 13] : List Int), ())) fun r1 =>
 l_spec_DrawPiecesAfter_4 N 0 0 0 ([] : List D_A3) r0.1.1.1 r0.1.1.2.1 r0.1.1.2.2.1 r0.1.1.2.2.2.1 a0 r1.2.1.2.1 r1.2.1.2.2.1 ([] : List D_A2) r1.1.1 := by
 rewrite [h_spec_DrawPiecesAfter, h_spec_DrawPiecesAfter_4]
 exact e_spec_DrawPiecesAfter N P_l1Cur_hollow P_l1Cur_cut P_l1Cur_among a0
theorem q_spec_DrawPiecesAfter_4 (m0 : Nat) (p0 p1 p2 : Int) (p3 : List D_A3) (p4 p5 p6 : Int) (p7 : List D_A3) (p8 : List Int) (p9 p10 : Int) (p11 : List D_A2) (p12 : Int) : l_spec_DrawPiecesAfter_4 (m0 + 1) p0 p1 p2 p3 p4 p5 p6 p7 p8 p9 p10 p11 p12 = 
 bif decide (p12 > 0) then
 Option.bind (P_l1Cur_cut ((p8, (p9, (p10, ()))), (p4, (p5, (p6, (p7, ())))), ())) fun r1 =>
 bif (decide (((List.length p11) + (List.length ([(r1.1.1, (r1.1.2.1, ()))] : List D_A2))) * 16 ≤ 140737488355328) && decide (((List.length p11) + (List.length ([(r1.1.1, (r1.1.2.1, ()))] : List D_A2))) ≤ 140737488355328)) then
 l_spec_DrawPiecesAfter_4 m0 p0 p1 p2 p3 p4 p5 p6 p7 p8 r1.2.1.2.1 r1.2.1.2.2.1 (p11 ++ ([(r1.1.1, (r1.1.2.1, ()))] : List D_A2)) (IntKind.wrap .i64 (p12 - 1))
 else none
 else
 some ((p4, (p5, (p6, (p7, ())))), p11, ()) := by
 rewrite [h_spec_DrawPiecesAfter_4]
 exact e_spec_DrawPiecesAfter_4 N P_l1Cur_hollow P_l1Cur_cut P_l1Cur_among m0 p0 p1 p2 p3 p4 p5 p6 p7 p8 p9 p10 p11 p12
end Go.VI
