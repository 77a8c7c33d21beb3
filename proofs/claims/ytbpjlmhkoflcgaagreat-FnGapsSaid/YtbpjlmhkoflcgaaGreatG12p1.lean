/- What the functions of the seat compute, as printed by wip/tools. -/
import Derived.Test.YtbpjlmhkoflcgaaGreatViGen
import Derived.Test.YtbpjlmhkoflcgaaGreatProg
namespace Go.VI
open Go.Proofs
set_option maxRecDepth 100000
def n0 : Nat := 0
def GG : World → Prop := fun _ => True
theorem hstable : Stable n0 GG := stable_true
theorem hmix : Tryz.prog.follows .mixedOrders = true := by kernel_rfl
theorem hglob (X : Ctx) (h : X.globals = [] := by rfl) (A : Fix) (_ : A.P = Tryz.prog) (_ : A.G = GG) : GlobOK A X := globOK_none h A
abbrev T_l1Cur : Ty := (.pair (.sl (.int .u8)) (.pair (.int .i64) (.pair (.int .u64) .unit)))
abbrev D_l1Cur : Type := (List Int) × Int × Int × Unit
abbrev T_A2 : Ty := (.pair (.int .i64) (.pair (.int .i64) .unit))
abbrev D_A2 : Type := Int × Int × Unit
abbrev T_A3 : Ty := (.pair (.int .i64) (.pair (.int .i64) (.pair (.int .i64) .unit)))
abbrev D_A3 : Type := Int × Int × Int × Unit
abbrev T_Heap : Ty := (.pair (.int .i64) (.pair (.int .i64) (.pair (.int .i64) (.pair (.sl T_A3) .unit))))
abbrev D_Heap : Type := Int × Int × Int × (List D_A3) × Unit
abbrev T_Bench : Ty := (.pair T_Heap (.pair (.int .i64) (.pair (.int .i64) .unit)))
abbrev D_Bench : Type := D_Heap × Int × Int × Unit
abbrev T_Act : Ty := (.pair (.int .i64) (.pair T_A3 (.pair (.int .i64) (.pair (.int .i64) .unit))))
abbrev D_Act : Type := Int × D_A3 × D_A2
abbrev T_Shadow : Ty := (.pair (.int .i64) (.pair (.int .i64) (.pair (.int .i64) (.pair (.sl (.int .i64)) (.pair (.sl (.int .i64)) (.pair (.sl (.int .i64)) .unit))))))
abbrev D_Shadow : Type := Int × Int × Int × (List Int) × (List Int) × (List Int) × Unit
noncomputable def TT : List (TypeId × TI) := [(3, ⟨Tryz.t3.desc, (.int .i64), false, 8, [.int .i64 0]⟩),
  (4, ⟨Tryz.t4.desc, .bool, false, 1, [.bool false]⟩),
  (5, ⟨Tryz.t5.desc, (.int .u8), false, 1, [.int .u8 0]⟩),
  (22, ⟨Tryz.t22.desc, (.sl (.int .u8)), false, 24, [.nil 5 (.int .u8)]⟩),
  (24, ⟨Tryz.t24.desc, (.sl T_A3), false, 24, [.nil 55 T_A3]⟩),
  (26, ⟨Tryz.t25.desc, T_Heap, true, 48, [.int .i64 0, .int .i64 0, .int .i64 0, .nil 55 T_A3]⟩),
  (28, ⟨Tryz.t27.desc, T_Bench, true, 64, [.int .i64 0, .int .i64 0, .int .i64 0, .nil 55 T_A3, .int .i64 0, .int .i64 0]⟩),
  (33, ⟨Tryz.t33.desc, (.sl (.int .i64)), false, 24, [.nil 3 (.int .i64)]⟩),
  (35, ⟨Tryz.t34.desc, T_Shadow, true, 96, [.int .i64 0, .int .i64 0, .int .i64 0, .nil 3 (.int .i64), .nil 3 (.int .i64), .nil 3 (.int .i64)]⟩),
  (55, ⟨Tryz.t55.desc, T_A3, true, 24, [.int .i64 0, .int .i64 0, .int .i64 0]⟩),
  (56, ⟨Tryz.t55.desc, T_A3, true, 24, [.int .i64 0, .int .i64 0, .int .i64 0]⟩),
  (59, ⟨Tryz.t59.desc, (.int .u64), false, 8, [.int .u64 0]⟩),
  (60, ⟨Tryz.t59.desc, (.int .u64), false, 8, [.int .u64 0]⟩),
  (69, ⟨Tryz.t68.desc, T_l1Cur, true, 40, [.nil 5 (.int .u8), .int .i64 0, .int .u64 0]⟩),
  (74, ⟨Tryz.t74.desc, (.sl (.int .u64)), false, 24, [.nil 60 (.int .u64)]⟩),
  (99, ⟨Tryz.t99.desc, (.pair (.sl (.int .i64)) (.pair (.sl (.int .i64)) (.pair (.sl (.int .i64)) .unit))), true, 72, [.nil 3 (.int .i64), .nil 3 (.int .i64), .nil 3 (.int .i64)]⟩),
  (122, ⟨Tryz.t121.desc, T_Act, true, 48, [.int .i64 0, .int .i64 0, .int .i64 0, .int .i64 0, .int .i64 0, .int .i64 0]⟩),
  (149, ⟨Tryz.t149.desc, (.sl (.sl T_A3)), false, 24, [.nil 24 (.sl T_A3)]⟩)]
theorem ttOK : allP (fun q => tiB Tryz.prog q.1 q.2) TT :=
  ⟨⟨by kernel_rfl, by kernel_rfl, by kernel_rfl, by kernel_rfl, by kernel_rfl⟩, ⟨by kernel_rfl, by kernel_rfl, by kernel_rfl, by kernel_rfl, by kernel_rfl⟩, ⟨by kernel_rfl, by kernel_rfl, by kernel_rfl, by kernel_rfl, by kernel_rfl⟩, ⟨by kernel_rfl, by kernel_rfl, by kernel_rfl, by kernel_rfl, by kernel_rfl⟩, ⟨by kernel_rfl, by kernel_rfl, by kernel_rfl, by kernel_rfl, by kernel_rfl⟩, ⟨by kernel_rfl, by kernel_rfl, by kernel_rfl, by kernel_rfl, by kernel_rfl⟩, ⟨by kernel_rfl, by kernel_rfl, by kernel_rfl, by kernel_rfl, by kernel_rfl⟩, ⟨by kernel_rfl, by kernel_rfl, by kernel_rfl, by kernel_rfl, by kernel_rfl⟩, ⟨by kernel_rfl, by kernel_rfl, by kernel_rfl, by kernel_rfl, by kernel_rfl⟩, ⟨by kernel_rfl, by kernel_rfl, by kernel_rfl, by kernel_rfl, by kernel_rfl⟩, ⟨by kernel_rfl, by kernel_rfl, by kernel_rfl, by kernel_rfl, by kernel_rfl⟩, ⟨by kernel_rfl, by kernel_rfl, by kernel_rfl, by kernel_rfl, by kernel_rfl⟩, ⟨by kernel_rfl, by kernel_rfl, by kernel_rfl, by kernel_rfl, by kernel_rfl⟩, ⟨by kernel_rfl, by kernel_rfl, by kernel_rfl, by kernel_rfl, by kernel_rfl⟩, ⟨by kernel_rfl, by kernel_rfl, by kernel_rfl, by kernel_rfl, by kernel_rfl⟩, ⟨by kernel_rfl, by kernel_rfl, by kernel_rfl, by kernel_rfl, by kernel_rfl⟩, ⟨by kernel_rfl, by kernel_rfl, by kernel_rfl, by kernel_rfl, by kernel_rfl⟩, ⟨by kernel_rfl, by kernel_rfl, by kernel_rfl, by kernel_rfl, by kernel_rfl⟩, trivial⟩

/- 5: loop.example/g01166/laws.vBig -/
abbrev As_laws_vBig : List ATy := [.data false (.sl (.int .u8))]
abbrev R_laws_vBig : List (Bool × Ty) := [(false, .bool)]
abbrev M_laws_vBig : List RMode := []
abbrev Ft_laws_vBig : Type := (List Int) × Unit → Option (Bool × Unit)
noncomputable def X_laws_vBig (n : Nat) : Ctx := { types := TT, globals := [], con := [], keep := [], results := [.tmp 2], ntmps := 6, n := n }
noncomputable def B_laws_vBig : Code := (Tryz.f5.body).getD .skip
noncomputable def P_laws_vBig : Ft_laws_vBig := hid (runF (X_laws_vBig N) B_laws_vBig As_laws_vBig R_laws_vBig M_laws_vBig)
theorem h_laws_vBig : P_laws_vBig = runF (X_laws_vBig N) B_laws_vBig As_laws_vBig R_laws_vBig M_laws_vBig := hid_eq _
noncomputable def C_laws_vBig : Contract := ⟨As_laws_vBig, R_laws_vBig, M_laws_vBig, P_laws_vBig⟩
theorem s_laws_vBig : Sound Tryz.prog GG 5 C_laws_vBig := by
  unfold C_laws_vBig; rw [h_laws_vBig]
  exact sound_of_run (fn := Tryz.f5) hmix hstable (tyOK_of ttOK) (hglob (X_laws_vBig N)) (conOK_of (X := X_laws_vBig N) trivial) (mconOK_of (X := X_laws_vBig N) trivial) (by kernel_rfl) (by kernel_rfl) (by kernel_rfl) (by kernel_rfl) (by kernel_rfl) (of_decide_eq_true (by kernel_rfl))
theorem p_laws_vBig (a0 : List Int) : P_laws_vBig (a0, ()) = 
  some (decide ((List.length a0 : Int) > 65536), ()) := by
  rewrite [h_laws_vBig]
  kernel_rfl

/- 134: (*loop.example/g01166/spec.l1Cur).next -/
abbrev As_l1Cur_next : List ATy := [.lptr T_l1Cur]
abbrev R_l1Cur_next : List (Bool × Ty) := [(false, (.int .i64))]
abbrev M_l1Cur_next : List RMode := []
abbrev Ft_l1Cur_next : Type := D_l1Cur × Unit → Option ((Int × Unit) × (D_l1Cur × Unit))
noncomputable def X_l1Cur_next (n : Nat) : Ctx := { types := TT, globals := [], con := [], keep := [], results := [.tmp 2], ntmps := 62, n := n }
noncomputable def B_l1Cur_next : Code := (Tryz.f134.body).getD .skip
noncomputable def P_l1Cur_next : Ft_l1Cur_next := hid (runFM (X_l1Cur_next N) B_l1Cur_next As_l1Cur_next R_l1Cur_next M_l1Cur_next)
theorem h_l1Cur_next : P_l1Cur_next = runFM (X_l1Cur_next N) B_l1Cur_next As_l1Cur_next R_l1Cur_next M_l1Cur_next := hid_eq _
noncomputable def C_l1Cur_next : MContract := ⟨As_l1Cur_next, R_l1Cur_next, M_l1Cur_next, P_l1Cur_next⟩
theorem s_l1Cur_next : SoundM Tryz.prog n0 GG 134 C_l1Cur_next := by
  unfold C_l1Cur_next; rw [h_l1Cur_next]
  exact sound_of_runM (fn := Tryz.f134) hmix hstable (tyOK_of ttOK) (hglob (X_l1Cur_next N)) (conOK_of (X := X_l1Cur_next N) trivial) (mconOK_of (X := X_l1Cur_next N) trivial) (by kernel_rfl) (by kernel_rfl) (by kernel_rfl) (by kernel_rfl) (by kernel_rfl) (of_decide_eq_true (by kernel_rfl)) (by kernel_rfl) (by rfl)
theorem p_l1Cur_next (a0 : D_l1Cur) : P_l1Cur_next (a0, ()) = 
  bif decide (a0.2.1 < (List.length a0.1 : Int)) then
    bif inB a0.2.1 (List.length a0.1) then
      bif decide ((IntKind.wrap .i64 (a0.2.1 + 1)) ≤ (List.length a0.1 : Int)) then
        some (((IntKind.wrap .i64 (nth ((.int .u8) : Ty) a0.1 a0.2.1)), ()), ((a0.1, ((IntKind.wrap .i64 (a0.2.1 + 1)), ((IntKind.wrap .u64 ((IntKind.wrap .u64 ((IntKind.wrap .u64 (a0.2.2.1 * 6364136223846793005)) + (IntKind.wrap .u64 (IntKind.wrap .i64 (nth ((.int .u8) : Ty) a0.1 a0.2.1))))) + 462197)), ()))), ()))
      else
        some (((IntKind.wrap .i64 (intBits .and .u64 (shrI .u64 (IntKind.wrap .u64 ((IntKind.wrap .u64 ((IntKind.wrap .u64 (a0.2.2.1 * 6364136223846793005)) + (IntKind.wrap .u64 (IntKind.wrap .i64 (nth ((.int .u8) : Ty) a0.1 a0.2.1))))) + 462197)) 40) 255)), ()), ((a0.1, ((IntKind.wrap .i64 (a0.2.1 + 1)), ((IntKind.wrap .u64 ((IntKind.wrap .u64 ((IntKind.wrap .u64 (a0.2.2.1 * 6364136223846793005)) + (IntKind.wrap .u64 (IntKind.wrap .i64 (nth ((.int .u8) : Ty) a0.1 a0.2.1))))) + 462197)), ()))), ()))
    else none
  else
    bif decide ((IntKind.wrap .i64 (a0.2.1 + 1)) ≤ (List.length a0.1 : Int)) then
      some ((0, ()), ((a0.1, ((IntKind.wrap .i64 (a0.2.1 + 1)), ((IntKind.wrap .u64 ((IntKind.wrap .u64 ((IntKind.wrap .u64 (a0.2.2.1 * 6364136223846793005)) + 0)) + 462197)), ()))), ()))
    else
      some (((IntKind.wrap .i64 (intBits .and .u64 (shrI .u64 (IntKind.wrap .u64 ((IntKind.wrap .u64 ((IntKind.wrap .u64 (a0.2.2.1 * 6364136223846793005)) + 0)) + 462197)) 40) 255)), ()), ((a0.1, ((IntKind.wrap .i64 (a0.2.1 + 1)), ((IntKind.wrap .u64 ((IntKind.wrap .u64 ((IntKind.wrap .u64 (a0.2.2.1 * 6364136223846793005)) + 0)) + 462197)), ()))), ())) := by
  rewrite [h_l1Cur_next]
  kernel_rfl

/- 109: (*loop.example/g01166/spec.l1Cur).pick -/
abbrev As_l1Cur_pick : List ATy := [.lptr T_l1Cur, .data false (.int .i64)]
abbrev R_l1Cur_pick : List (Bool × Ty) := [(false, (.int .i64))]
abbrev M_l1Cur_pick : List RMode := []
abbrev Ft_l1Cur_pick : Type := D_l1Cur × Int × Unit → Option ((Int × Unit) × (D_l1Cur × Unit))
noncomputable def X_l1Cur_pick (n : Nat) (F_l1Cur_next : Ft_l1Cur_next) : Ctx := { types := TT, globals := [], con := [], mcon := [(134, ⟨As_l1Cur_next, R_l1Cur_next, M_l1Cur_next, F_l1Cur_next⟩)], keep := [], results := [.tmp 4], ntmps := 20, n := n }
noncomputable def B_l1Cur_pick : Code := (Tryz.f109.body).getD .skip
noncomputable def P_l1Cur_pick : Ft_l1Cur_pick := hid (runFM (X_l1Cur_pick N P_l1Cur_next) B_l1Cur_pick As_l1Cur_pick R_l1Cur_pick M_l1Cur_pick)
theorem h_l1Cur_pick : P_l1Cur_pick = runFM (X_l1Cur_pick N P_l1Cur_next) B_l1Cur_pick As_l1Cur_pick R_l1Cur_pick M_l1Cur_pick := hid_eq _
noncomputable def C_l1Cur_pick : MContract := ⟨As_l1Cur_pick, R_l1Cur_pick, M_l1Cur_pick, P_l1Cur_pick⟩
theorem s_l1Cur_pick : SoundM Tryz.prog n0 GG 109 C_l1Cur_pick := by
  unfold C_l1Cur_pick; rw [h_l1Cur_pick]
  exact sound_of_runM (fn := Tryz.f109) hmix hstable (tyOK_of ttOK) (hglob (X_l1Cur_pick N P_l1Cur_next)) (conOK_of (X := X_l1Cur_pick N P_l1Cur_next) trivial) (mconOK_of (X := X_l1Cur_pick N P_l1Cur_next) ⟨s_l1Cur_next, trivial⟩) (by kernel_rfl) (by kernel_rfl) (by kernel_rfl) (by kernel_rfl) (by kernel_rfl) (of_decide_eq_true (by kernel_rfl)) (by kernel_rfl) (by rfl)
theorem p_l1Cur_pick (a0 : D_l1Cur) (a1 : Int) : P_l1Cur_pick (a0, a1, ()) = 
  bif decide (a1 ≤ 1) then
    some ((0, ()), (a0, ()))
  else
    Option.bind (P_l1Cur_next (a0, ())) fun r1 =>
    bif decide (a1 > 200) then
      Option.bind (P_l1Cur_next ((a0.1, r1.2.1.2), ())) fun r3 =>
      bif !decide (a1 = 0) then
        some (((Int.tmod (IntKind.wrap .i64 ((IntKind.wrap .i64 (r1.1.1 * 256)) + r3.1.1)) a1), ()), ((a0.1, r3.2.1.2), ()))
      else none
    else
      bif !decide (a1 = 0) then
        some (((Int.tmod r1.1.1 a1), ()), ((a0.1, r1.2.1.2), ()))
      else none := by
  rewrite [h_l1Cur_pick]
  kernel_rfl

/- 92: (*loop.example/g01166/spec.l1Cur).among -/
abbrev As_l1Cur_among : List ATy := [.lptr T_l1Cur, .data false (.sl (.int .i64))]
abbrev R_l1Cur_among : List (Bool × Ty) := [(false, (.int .i64))]
abbrev M_l1Cur_among : List RMode := []
abbrev Ft_l1Cur_among : Type := D_l1Cur × (List Int) × Unit → Option ((Int × Unit) × (D_l1Cur × Unit))
noncomputable def X_l1Cur_among (n : Nat) (F_l1Cur_pick : Ft_l1Cur_pick) : Ctx := { types := TT, globals := [], con := [], mcon := [(109, ⟨As_l1Cur_pick, R_l1Cur_pick, M_l1Cur_pick, F_l1Cur_pick⟩)], keep := [], results := [.tmp 4], ntmps := 12, n := n }
noncomputable def B_l1Cur_among : Code := (Tryz.f92.body).getD .skip
noncomputable def P_l1Cur_among : Ft_l1Cur_among := hid (runFM (X_l1Cur_among N P_l1Cur_pick) B_l1Cur_among As_l1Cur_among R_l1Cur_among M_l1Cur_among)
theorem h_l1Cur_among : P_l1Cur_among = runFM (X_l1Cur_among N P_l1Cur_pick) B_l1Cur_among As_l1Cur_among R_l1Cur_among M_l1Cur_among := hid_eq _
noncomputable def C_l1Cur_among : MContract := ⟨As_l1Cur_among, R_l1Cur_among, M_l1Cur_among, P_l1Cur_among⟩
theorem s_l1Cur_among : SoundM Tryz.prog n0 GG 92 C_l1Cur_among := by
  unfold C_l1Cur_among; rw [h_l1Cur_among]
  exact sound_of_runM (fn := Tryz.f92) hmix hstable (tyOK_of ttOK) (hglob (X_l1Cur_among N P_l1Cur_pick)) (conOK_of (X := X_l1Cur_among N P_l1Cur_pick) trivial) (mconOK_of (X := X_l1Cur_among N P_l1Cur_pick) ⟨s_l1Cur_pick, trivial⟩) (by kernel_rfl) (by kernel_rfl) (by kernel_rfl) (by kernel_rfl) (by kernel_rfl) (of_decide_eq_true (by kernel_rfl)) (by kernel_rfl) (by rfl)
theorem p_l1Cur_among (a0 : D_l1Cur) (a1 : List Int) : P_l1Cur_among (a0, a1, ()) = 
  Option.bind (P_l1Cur_pick (a0, (List.length a1 : Int), ())) fun r0 =>
  bif inB r0.1.1 (List.length a1) then
    some (((nth ((.int .i64) : Ty) a1 r0.1.1), ()), ((a0.1, r0.2.1.2), ()))
  else none := by
  rewrite [h_l1Cur_among]
  kernel_rfl

/- 91: (*loop.example/g01166/spec.l1Cur).one -/
abbrev As_l1Cur_one : List ATy := [.lptr T_l1Cur, .data false (.int .i64)]
abbrev R_l1Cur_one : List (Bool × Ty) := [(false, .bool)]
abbrev M_l1Cur_one : List RMode := []
abbrev Ft_l1Cur_one : Type := D_l1Cur × Int × Unit → Option ((Bool × Unit) × (D_l1Cur × Unit))
noncomputable def X_l1Cur_one (n : Nat) (F_l1Cur_pick : Ft_l1Cur_pick) : Ctx := { types := TT, globals := [], con := [], mcon := [(109, ⟨As_l1Cur_pick, R_l1Cur_pick, M_l1Cur_pick, F_l1Cur_pick⟩)], keep := [], results := [.tmp 4], ntmps := 9, n := n }
noncomputable def B_l1Cur_one : Code := (Tryz.f91.body).getD .skip
noncomputable def P_l1Cur_one : Ft_l1Cur_one := hid (runFM (X_l1Cur_one N P_l1Cur_pick) B_l1Cur_one As_l1Cur_one R_l1Cur_one M_l1Cur_one)
theorem h_l1Cur_one : P_l1Cur_one = runFM (X_l1Cur_one N P_l1Cur_pick) B_l1Cur_one As_l1Cur_one R_l1Cur_one M_l1Cur_one := hid_eq _
noncomputable def C_l1Cur_one : MContract := ⟨As_l1Cur_one, R_l1Cur_one, M_l1Cur_one, P_l1Cur_one⟩
theorem s_l1Cur_one : SoundM Tryz.prog n0 GG 91 C_l1Cur_one := by
  unfold C_l1Cur_one; rw [h_l1Cur_one]
  exact sound_of_runM (fn := Tryz.f91) hmix hstable (tyOK_of ttOK) (hglob (X_l1Cur_one N P_l1Cur_pick)) (conOK_of (X := X_l1Cur_one N P_l1Cur_pick) trivial) (mconOK_of (X := X_l1Cur_one N P_l1Cur_pick) ⟨s_l1Cur_pick, trivial⟩) (by kernel_rfl) (by kernel_rfl) (by kernel_rfl) (by kernel_rfl) (by kernel_rfl) (of_decide_eq_true (by kernel_rfl)) (by kernel_rfl) (by rfl)
theorem p_l1Cur_one (a0 : D_l1Cur) (a1 : Int) : P_l1Cur_one (a0, a1, ()) = 
  Option.bind (P_l1Cur_pick (a0, a1, ())) fun r0 =>
  some ((decide (r0.1.1 = 0), ()), ((a0.1, r0.2.1.2), ())) := by
  rewrite [h_l1Cur_one]
  kernel_rfl

/- 97: loop.example/g01166/spec.l2Empty -/
abbrev As_spec_l2Empty : List ATy := [.data false (.int .i64), .data false (.int .i64), .data false (.int .i64)]
abbrev R_spec_l2Empty : List (Bool × Ty) := [(true, T_Heap)]
abbrev M_spec_l2Empty : List RMode := [.own 55]
abbrev Ft_spec_l2Empty : Type := Int × Int × Int × Unit → Option (D_Heap × Unit)
noncomputable def X_spec_l2Empty (n : Nat) : Ctx := { types := TT, globals := [], con := [], keep := [], results := [.cell 6 26], ntmps := 12, n := n }
noncomputable def B_spec_l2Empty : Code := (Tryz.f97.body).getD .skip
noncomputable def P_spec_l2Empty : Ft_spec_l2Empty := hid (runF (X_spec_l2Empty N) B_spec_l2Empty As_spec_l2Empty R_spec_l2Empty M_spec_l2Empty)
theorem h_spec_l2Empty : P_spec_l2Empty = runF (X_spec_l2Empty N) B_spec_l2Empty As_spec_l2Empty R_spec_l2Empty M_spec_l2Empty := hid_eq _
noncomputable def C_spec_l2Empty : Contract := ⟨As_spec_l2Empty, R_spec_l2Empty, M_spec_l2Empty, P_spec_l2Empty⟩
theorem s_spec_l2Empty : Sound Tryz.prog GG 97 C_spec_l2Empty := by
  unfold C_spec_l2Empty; rw [h_spec_l2Empty]
  exact sound_of_run (fn := Tryz.f97) hmix hstable (tyOK_of ttOK) (hglob (X_spec_l2Empty N)) (conOK_of (X := X_spec_l2Empty N) trivial) (mconOK_of (X := X_spec_l2Empty N) trivial) (by kernel_rfl) (by kernel_rfl) (by kernel_rfl) (by kernel_rfl) (by kernel_rfl) (of_decide_eq_true (by kernel_rfl))
theorem p_spec_l2Empty (a0 : Int) (a1 : Int) (a2 : Int) : P_spec_l2Empty (a0, a1, a2, ()) = 
  some ((a0, (a1, (a2, (([] : List D_A3), ())))), ()) := by
  rewrite [h_spec_l2Empty]
  kernel_rfl

/- 67: loop.example/g01166/spec.l1In -/
abbrev As_spec_l1In : List ATy := [.data false (.int .i64), .data false (.int .i64), .data false (.int .i64)]
abbrev R_spec_l1In : List (Bool × Ty) := [(false, .bool)]
abbrev M_spec_l1In : List RMode := []
abbrev Ft_spec_l1In : Type := Int × Int × Int × Unit → Option (Bool × Unit)
noncomputable def X_spec_l1In (n : Nat) : Ctx := { types := TT, globals := [], con := [], keep := [], results := [.tmp 6], ntmps := 15, n := n }
noncomputable def B_spec_l1In : Code := (Tryz.f67.body).getD .skip
noncomputable def P_spec_l1In : Ft_spec_l1In := hid (runF (X_spec_l1In N) B_spec_l1In As_spec_l1In R_spec_l1In M_spec_l1In)
theorem h_spec_l1In : P_spec_l1In = runF (X_spec_l1In N) B_spec_l1In As_spec_l1In R_spec_l1In M_spec_l1In := hid_eq _
noncomputable def C_spec_l1In : Contract := ⟨As_spec_l1In, R_spec_l1In, M_spec_l1In, P_spec_l1In⟩
theorem s_spec_l1In : Sound Tryz.prog GG 67 C_spec_l1In := by
  unfold C_spec_l1In; rw [h_spec_l1In]
  exact sound_of_run (fn := Tryz.f67) hmix hstable (tyOK_of ttOK) (hglob (X_spec_l1In N)) (conOK_of (X := X_spec_l1In N) trivial) (mconOK_of (X := X_spec_l1In N) trivial) (by kernel_rfl) (by kernel_rfl) (by kernel_rfl) (by kernel_rfl) (by kernel_rfl) (of_decide_eq_true (by kernel_rfl))
theorem p_spec_l1In (a0 : Int) (a1 : Int) (a2 : Int) : P_spec_l1In (a0, a1, a2, ()) = 
  bif decide (a0 ≥ a1) then
    some (decide (a0 ≤ a2), ())
  else
    some (false, ()) := by
  rewrite [h_spec_l1In]
  kernel_rfl

/- 103: loop.example/g01166/spec.l2Sides -/
abbrev As_spec_l2Sides : List ATy := [.data false (.int .i64), .data false (.int .i64), .data false (.int .i64)]
abbrev R_spec_l2Sides : List (Bool × Ty) := [(false, .bool)]
abbrev M_spec_l2Sides : List RMode := []
abbrev Ft_spec_l2Sides : Type := Int × Int × Int × Unit → Option (Bool × Unit)
noncomputable def X_spec_l2Sides (n : Nat) (F_spec_l1In : Ft_spec_l1In) : Ctx := { types := TT, globals := [], con := [(67, ⟨As_spec_l1In, R_spec_l1In, M_spec_l1In, F_spec_l1In⟩)], keep := [], results := [.tmp 6], ntmps := 17, n := n }
noncomputable def B_spec_l2Sides : Code := (Tryz.f103.body).getD .skip
noncomputable def P_spec_l2Sides : Ft_spec_l2Sides := hid (runF (X_spec_l2Sides N P_spec_l1In) B_spec_l2Sides As_spec_l2Sides R_spec_l2Sides M_spec_l2Sides)
theorem h_spec_l2Sides : P_spec_l2Sides = runF (X_spec_l2Sides N P_spec_l1In) B_spec_l2Sides As_spec_l2Sides R_spec_l2Sides M_spec_l2Sides := hid_eq _
noncomputable def C_spec_l2Sides : Contract := ⟨As_spec_l2Sides, R_spec_l2Sides, M_spec_l2Sides, P_spec_l2Sides⟩
theorem s_spec_l2Sides : Sound Tryz.prog GG 103 C_spec_l2Sides := by
  unfold C_spec_l2Sides; rw [h_spec_l2Sides]
  exact sound_of_run (fn := Tryz.f103) hmix hstable (tyOK_of ttOK) (hglob (X_spec_l2Sides N P_spec_l1In)) (conOK_of (X := X_spec_l2Sides N P_spec_l1In) ⟨s_spec_l1In, trivial⟩) (mconOK_of (X := X_spec_l2Sides N P_spec_l1In) trivial) (by kernel_rfl) (by kernel_rfl) (by kernel_rfl) (by kernel_rfl) (by kernel_rfl) (of_decide_eq_true (by kernel_rfl))
theorem p_spec_l2Sides (a0 : Int) (a1 : Int) (a2 : Int) : P_spec_l2Sides (a0, a1, a2, ()) = 
  Option.bind (P_spec_l1In (a0, 1, 4, ())) fun r0 =>
  bif r0.1 then
    Option.bind (P_spec_l1In (a1, 1, 4, ())) fun r2 =>
    bif r2.1 then
      Option.bind (P_spec_l1In (a2, 1, 4, ())) fun r4 =>
      some (r4.1, ())
    else
      some (false, ())
  else
    some (false, ()) := by
  rewrite [h_spec_l2Sides]
  kernel_rfl

/- 124: loop.example/g01166/spec.l2All -/
abbrev As_spec_l2All : List ATy := [.data true T_Heap]
abbrev R_spec_l2All : List (Bool × Ty) := [(false, (.sl T_A3))]
abbrev M_spec_l2All : List RMode := [.own 55]
abbrev Ft_spec_l2All : Type := D_Heap × Unit → Option ((List D_A3) × Unit)
noncomputable def X_spec_l2All (n : Nat) : Ctx := { types := TT, globals := [], con := [], keep := [(3, ⟨[.box 1, .tmp 1, .tmp 3, .tmp 4], []⟩), (6, ⟨[.box 1, .tmp 1, .tmp 3, .tmp 4, .tmp 5], []⟩), (9, ⟨[.box 1, .tmp 1, .tmp 3, .tmp 4, .tmp 5, .tmp 6], []⟩)], results := [.tmp 2], ntmps := 34, n := n }
noncomputable def B_spec_l2All : Code := (Tryz.f124.body).getD .skip
noncomputable def L_spec_l2All_3 (n : Nat) (m0 : Nat) (p0 : Int) (p1 : Int) (p2 : Int) (p3 : List D_A3) (p4 : List D_A3) (p5 : Int) : Option (denL R_spec_l2All) := loopF (X_spec_l2All n) B_spec_l2All R_spec_l2All M_spec_l2All 3 [m0] [(.ver, .num 1), (.box 1, .box 0 false [.int .i64 p0, .int .i64 p1, .int .i64 p2, .imm T_A3 p3 (some 3)]), (.tmp 1, .val false [.addr 1 0 0]), (.tmp 3, .val false [.own 55 T_A3 0 p4]), (.tmp 4, .val false [.int .i64 p5])]
noncomputable def L_spec_l2All_6 (n : Nat) (m0 m1 : Nat) (p0 : Int) (p1 : Int) (p2 : Int) (p3 : List D_A3) (p4 : List D_A3) (p5 : Int) (p6 : Int) : Option (denL R_spec_l2All) := loopF (X_spec_l2All n) B_spec_l2All R_spec_l2All M_spec_l2All 6 [m0, m1] [(.ver, .num 1), (.box 1, .box 0 false [.int .i64 p0, .int .i64 p1, .int .i64 p2, .imm T_A3 p3 (some 3)]), (.tmp 1, .val false [.addr 1 0 0]), (.tmp 3, .val false [.own 55 T_A3 0 p4]), (.tmp 4, .val false [.int .i64 p5]), (.tmp 5, .val false [.int .i64 p6])]
noncomputable def L_spec_l2All_9 (n : Nat) (m0 m1 m2 : Nat) (p0 : Int) (p1 : Int) (p2 : Int) (p3 : List D_A3) (p4 : List D_A3) (p5 : Int) (p6 : Int) (p7 : Int) : Option (denL R_spec_l2All) := loopF (X_spec_l2All n) B_spec_l2All R_spec_l2All M_spec_l2All 9 [m0, m1, m2] [(.ver, .num 1), (.box 1, .box 0 false [.int .i64 p0, .int .i64 p1, .int .i64 p2, .imm T_A3 p3 (some 3)]), (.tmp 1, .val false [.addr 1 0 0]), (.tmp 3, .val false [.own 55 T_A3 0 p4]), (.tmp 4, .val false [.int .i64 p5]), (.tmp 5, .val false [.int .i64 p6]), (.tmp 6, .val false [.int .i64 p7])]
noncomputable def P_spec_l2All : Ft_spec_l2All := hid (runF (X_spec_l2All N) B_spec_l2All As_spec_l2All R_spec_l2All M_spec_l2All)
theorem h_spec_l2All : P_spec_l2All = runF (X_spec_l2All N) B_spec_l2All As_spec_l2All R_spec_l2All M_spec_l2All := hid_eq _
noncomputable def C_spec_l2All : Contract := ⟨As_spec_l2All, R_spec_l2All, M_spec_l2All, P_spec_l2All⟩
theorem s_spec_l2All : Sound Tryz.prog GG 124 C_spec_l2All := by
  unfold C_spec_l2All; rw [h_spec_l2All]
  exact sound_of_run (fn := Tryz.f124) hmix hstable (tyOK_of ttOK) (hglob (X_spec_l2All N)) (conOK_of (X := X_spec_l2All N) trivial) (mconOK_of (X := X_spec_l2All N) trivial) (by kernel_rfl) (by kernel_rfl) (by kernel_rfl) (by kernel_rfl) (by kernel_rfl) (of_decide_eq_true (by kernel_rfl))
noncomputable def l_spec_l2All_3 : Nat → Int → Int → Int → (List D_A3) → (List D_A3) → Int → Option (denL R_spec_l2All) := hid (fun m0 p0 p1 p2 p3 p4 p5 => L_spec_l2All_3 N m0 p0 p1 p2 p3 p4 p5)
theorem h_spec_l2All_3 : l_spec_l2All_3 = fun m0 p0 p1 p2 p3 p4 p5 => L_spec_l2All_3 N m0 p0 p1 p2 p3 p4 p5 := hid_eq _
noncomputable def l_spec_l2All_6 : Nat → Nat → Int → Int → Int → (List D_A3) → (List D_A3) → Int → Int → Option (denL R_spec_l2All) := hid (fun m0 m1 p0 p1 p2 p3 p4 p5 p6 => L_spec_l2All_6 N m0 m1 p0 p1 p2 p3 p4 p5 p6)
theorem h_spec_l2All_6 : l_spec_l2All_6 = fun m0 m1 p0 p1 p2 p3 p4 p5 p6 => L_spec_l2All_6 N m0 m1 p0 p1 p2 p3 p4 p5 p6 := hid_eq _
noncomputable def l_spec_l2All_9 : Nat → Nat → Nat → Int → Int → Int → (List D_A3) → (List D_A3) → Int → Int → Int → Option (denL R_spec_l2All) := hid (fun m0 m1 m2 p0 p1 p2 p3 p4 p5 p6 p7 => L_spec_l2All_9 N m0 m1 m2 p0 p1 p2 p3 p4 p5 p6 p7)
theorem h_spec_l2All_9 : l_spec_l2All_9 = fun m0 m1 m2 p0 p1 p2 p3 p4 p5 p6 p7 => L_spec_l2All_9 N m0 m1 m2 p0 p1 p2 p3 p4 p5 p6 p7 := hid_eq _
theorem p_spec_l2All (a0 : D_Heap) : P_spec_l2All (a0, ()) = 
  l_spec_l2All_3 N a0.1 a0.2.1 a0.2.2.1 a0.2.2.2.1 ([] : List D_A3) 0 := by
  rewrite [h_spec_l2All, h_spec_l2All_3]
  kernel_rfl
theorem q_spec_l2All_3 (m0 : Nat) (p0 : Int) (p1 : Int) (p2 : Int) (p3 : List D_A3) (p4 : List D_A3) (p5 : Int) : l_spec_l2All_3 (m0 + 1) p0 p1 p2 p3 p4 p5 = 
  bif decide (p5 < p0) then
    l_spec_l2All_6 m0 N p0 p1 p2 p3 p4 p5 0
  else
    some (p4, ()) := by
  rewrite [h_spec_l2All_3, h_spec_l2All_6]
  kernel_rfl
theorem q_spec_l2All_6 (m0 m1 : Nat) (p0 : Int) (p1 : Int) (p2 : Int) (p3 : List D_A3) (p4 : List D_A3) (p5 : Int) (p6 : Int) : l_spec_l2All_6 m0 (m1 + 1) p0 p1 p2 p3 p4 p5 p6 = 
  bif decide (p6 < p1) then
    l_spec_l2All_9 m0 m1 N p0 p1 p2 p3 p4 p5 p6 0
  else
    l_spec_l2All_3 m0 p0 p1 p2 p3 p4 (IntKind.wrap .i64 (p5 + 1)) := by
  rewrite [h_spec_l2All_3, h_spec_l2All_6, h_spec_l2All_9]
  kernel_rfl
theorem q_spec_l2All_9 (m0 m1 m2 : Nat) (p0 : Int) (p1 : Int) (p2 : Int) (p3 : List D_A3) (p4 : List D_A3) (p5 : Int) (p6 : Int) (p7 : Int) : l_spec_l2All_9 m0 m1 (m2 + 1) p0 p1 p2 p3 p4 p5 p6 p7 = 
  bif decide (p7 < p2) then
    bif (decide (((List.length p4) + (List.length ([(p5, (p6, (p7, ())))] : List D_A3))) * 24 ≤ 140737488355328) && decide (((List.length p4) + (List.length ([(p5, (p6, (p7, ())))] : List D_A3))) ≤ 140737488355328)) then
      l_spec_l2All_9 m0 m1 m2 p0 p1 p2 p3 (p4 ++ ([(p5, (p6, (p7, ())))] : List D_A3)) p5 p6 (IntKind.wrap .i64 (p7 + 1))
    else none
  else
    l_spec_l2All_6 m0 m1 p0 p1 p2 p3 p4 p5 (IntKind.wrap .i64 (p6 + 1)) := by
  rewrite [h_spec_l2All_6, h_spec_l2All_9]
  kernel_rfl

/- 116: loop.example/g01166/spec.l2In -/
abbrev As_spec_l2In : List ATy := [.data true T_Heap, .data true T_A3]
abbrev R_spec_l2In : List (Bool × Ty) := [(false, .bool)]
abbrev M_spec_l2In : List RMode := []
abbrev Ft_spec_l2In : Type := D_Heap × D_A3 × Unit → Option (Bool × Unit)
noncomputable def X_spec_l2In (n : Nat) (F_spec_l1In : Ft_spec_l1In) : Ctx := { types := TT, globals := [], con := [(67, ⟨As_spec_l1In, R_spec_l1In, M_spec_l1In, F_spec_l1In⟩)], keep := [], results := [.tmp 4], ntmps := 27, n := n }
noncomputable def B_spec_l2In : Code := (Tryz.f116.body).getD .skip
noncomputable def P_spec_l2In : Ft_spec_l2In := hid (runF (X_spec_l2In N P_spec_l1In) B_spec_l2In As_spec_l2In R_spec_l2In M_spec_l2In)
theorem h_spec_l2In : P_spec_l2In = runF (X_spec_l2In N P_spec_l1In) B_spec_l2In As_spec_l2In R_spec_l2In M_spec_l2In := hid_eq _
noncomputable def C_spec_l2In : Contract := ⟨As_spec_l2In, R_spec_l2In, M_spec_l2In, P_spec_l2In⟩
theorem s_spec_l2In : Sound Tryz.prog GG 116 C_spec_l2In := by
  unfold C_spec_l2In; rw [h_spec_l2In]
  exact sound_of_run (fn := Tryz.f116) hmix hstable (tyOK_of ttOK) (hglob (X_spec_l2In N P_spec_l1In)) (conOK_of (X := X_spec_l2In N P_spec_l1In) ⟨s_spec_l1In, trivial⟩) (mconOK_of (X := X_spec_l2In N P_spec_l1In) trivial) (by kernel_rfl) (by kernel_rfl) (by kernel_rfl) (by kernel_rfl) (by kernel_rfl) (of_decide_eq_true (by kernel_rfl))
theorem p_spec_l2In (a0 : D_Heap) (a1 : D_A3) : P_spec_l2In (a0, a1, ()) = 
  Option.bind (P_spec_l1In (a1.1, 0, (IntKind.wrap .i64 (a0.1 - 1)), ())) fun r0 =>
  bif r0.1 then
    Option.bind (P_spec_l1In (a1.2.1, 0, (IntKind.wrap .i64 (a0.2.1 - 1)), ())) fun r2 =>
    bif r2.1 then
      Option.bind (P_spec_l1In (a1.2.2.1, 0, (IntKind.wrap .i64 (a0.2.2.1 - 1)), ())) fun r4 =>
      some (r4.1, ())
    else
      some (false, ())
  else
    some (false, ()) := by
  rewrite [h_spec_l2In]
  kernel_rfl

/- 117: loop.example/g01166/spec.l2Before -/
abbrev As_spec_l2Before : List ATy := [.data true T_A3, .data true T_A3]
abbrev R_spec_l2Before : List (Bool × Ty) := [(false, .bool)]
abbrev M_spec_l2Before : List RMode := []
abbrev Ft_spec_l2Before : Type := D_A3 × D_A3 × Unit → Option (Bool × Unit)
noncomputable def X_spec_l2Before (n : Nat) : Ctx := { types := TT, globals := [], con := [], keep := [(2, ⟨[.box 2, .box 3, .tmp 2, .tmp 3, .tmp 5], []⟩)], results := [.tmp 4], ntmps := 24, n := n }
noncomputable def B_spec_l2Before : Code := (Tryz.f117.body).getD .skip
noncomputable def L_spec_l2Before_2 (n : Nat) (m0 : Nat) (p0 : Int) (p1 : Int) (p2 : Int) (p3 : Int) (p4 : Int) (p5 : Int) (p6 : Int) : Option (denL R_spec_l2Before) := loopF (X_spec_l2Before n) B_spec_l2Before R_spec_l2Before M_spec_l2Before 2 [m0] [(.ver, .num 1), (.box 2, .box 0 false [.int .i64 p0, .int .i64 p1, .int .i64 p2]), (.box 3, .box 0 false [.int .i64 p3, .int .i64 p4, .int .i64 p5]), (.tmp 2, .val false [.addr 2 0 0]), (.tmp 3, .val false [.addr 3 0 0]), (.tmp 5, .val false [.int .i64 p6])]
noncomputable def P_spec_l2Before : Ft_spec_l2Before := hid (runF (X_spec_l2Before N) B_spec_l2Before As_spec_l2Before R_spec_l2Before M_spec_l2Before)
theorem h_spec_l2Before : P_spec_l2Before = runF (X_spec_l2Before N) B_spec_l2Before As_spec_l2Before R_spec_l2Before M_spec_l2Before := hid_eq _
noncomputable def C_spec_l2Before : Contract := ⟨As_spec_l2Before, R_spec_l2Before, M_spec_l2Before, P_spec_l2Before⟩
theorem s_spec_l2Before : Sound Tryz.prog GG 117 C_spec_l2Before := by
  unfold C_spec_l2Before; rw [h_spec_l2Before]
  exact sound_of_run (fn := Tryz.f117) hmix hstable (tyOK_of ttOK) (hglob (X_spec_l2Before N)) (conOK_of (X := X_spec_l2Before N) trivial) (mconOK_of (X := X_spec_l2Before N) trivial) (by kernel_rfl) (by kernel_rfl) (by kernel_rfl) (by kernel_rfl) (by kernel_rfl) (of_decide_eq_true (by kernel_rfl))
noncomputable def l_spec_l2Before_2 : Nat → Int → Int → Int → Int → Int → Int → Int → Option (denL R_spec_l2Before) := hid (fun m0 p0 p1 p2 p3 p4 p5 p6 => L_spec_l2Before_2 N m0 p0 p1 p2 p3 p4 p5 p6)
theorem h_spec_l2Before_2 : l_spec_l2Before_2 = fun m0 p0 p1 p2 p3 p4 p5 p6 => L_spec_l2Before_2 N m0 p0 p1 p2 p3 p4 p5 p6 := hid_eq _
theorem p_spec_l2Before (a0 : D_A3) (a1 : D_A3) : P_spec_l2Before (a0, a1, ()) = 
  l_spec_l2Before_2 N a0.1 a0.2.1 a0.2.2.1 a1.1 a1.2.1 a1.2.2.1 0 := by
  rewrite [h_spec_l2Before, h_spec_l2Before_2]
  kernel_rfl
theorem q_spec_l2Before_2 (m0 : Nat) (p0 : Int) (p1 : Int) (p2 : Int) (p3 : Int) (p4 : Int) (p5 : Int) (p6 : Int) : l_spec_l2Before_2 (m0 + 1) p0 p1 p2 p3 p4 p5 p6 = 
  bif decide (p6 < 3) then
    bif inB p6 3 then
      bif inB p6 3 then
        bif !decide ((bif decide (p6 = (0 : Int)) then p0 else (bif decide (p6 = (1 : Int)) then p1 else p2)) = (bif decide (p6 = (0 : Int)) then p3 else (bif decide (p6 = (1 : Int)) then p4 else p5))) then
          bif inB p6 3 then
            bif inB p6 3 then
              some (decide ((bif decide (p6 = (0 : Int)) then p0 else (bif decide (p6 = (1 : Int)) then p1 else p2)) < (bif decide (p6 = (0 : Int)) then p3 else (bif decide (p6 = (1 : Int)) then p4 else p5))), ())
            else none
          else none
        else
          l_spec_l2Before_2 m0 p0 p1 p2 p3 p4 p5 (IntKind.wrap .i64 (p6 + 1))
      else none
    else none
  else
    some (false, ()) := by
  rewrite [h_spec_l2Before_2]
  kernel_rfl

/- 83: loop.example/g01166/spec.l2Heap -/
abbrev As_spec_l2Heap : List ATy := [.data true T_Heap]
abbrev R_spec_l2Heap : List (Bool × Ty) := [(false, .bool)]
abbrev M_spec_l2Heap : List RMode := []
abbrev Ft_spec_l2Heap : Type := D_Heap × Unit → Option (Bool × Unit)
noncomputable def X_spec_l2Heap (n : Nat) (F_spec_l2Sides : Ft_spec_l2Sides) (F_spec_l2In : Ft_spec_l2In) (F_spec_l2Before : Ft_spec_l2Before) : Ctx := { types := TT, globals := [], con := [(103, ⟨As_spec_l2Sides, R_spec_l2Sides, M_spec_l2Sides, F_spec_l2Sides⟩), (116, ⟨As_spec_l2In, R_spec_l2In, M_spec_l2In, F_spec_l2In⟩), (117, ⟨As_spec_l2Before, R_spec_l2Before, M_spec_l2Before, F_spec_l2Before⟩)], keep := [(4, ⟨[.box 1, .tmp 1, .tmp 3], []⟩)], results := [.tmp 2], ntmps := 46, n := n }
noncomputable def B_spec_l2Heap : Code := (Tryz.f83.body).getD .skip
noncomputable def L_spec_l2Heap_4 (n : Nat) (F_spec_l2Sides : Ft_spec_l2Sides) (F_spec_l2In : Ft_spec_l2In) (F_spec_l2Before : Ft_spec_l2Before) (m0 : Nat) (p0 : Int) (p1 : Int) (p2 : Int) (p3 : List D_A3) (p4 : Int) : Option (denL R_spec_l2Heap) := loopF (X_spec_l2Heap n F_spec_l2Sides F_spec_l2In F_spec_l2Before) B_spec_l2Heap R_spec_l2Heap M_spec_l2Heap 4 [m0] [(.ver, .num 1), (.box 1, .box 0 false [.int .i64 p0, .int .i64 p1, .int .i64 p2, .imm T_A3 p3 (some 3)]), (.tmp 1, .val false [.addr 1 0 0]), (.tmp 3, .val false [.int .i64 p4])]
noncomputable def P_spec_l2Heap : Ft_spec_l2Heap := hid (runF (X_spec_l2Heap N P_spec_l2Sides P_spec_l2In P_spec_l2Before) B_spec_l2Heap As_spec_l2Heap R_spec_l2Heap M_spec_l2Heap)
theorem h_spec_l2Heap : P_spec_l2Heap = runF (X_spec_l2Heap N P_spec_l2Sides P_spec_l2In P_spec_l2Before) B_spec_l2Heap As_spec_l2Heap R_spec_l2Heap M_spec_l2Heap := hid_eq _
noncomputable def C_spec_l2Heap : Contract := ⟨As_spec_l2Heap, R_spec_l2Heap, M_spec_l2Heap, P_spec_l2Heap⟩
theorem s_spec_l2Heap : Sound Tryz.prog GG 83 C_spec_l2Heap := by
  unfold C_spec_l2Heap; rw [h_spec_l2Heap]
  exact sound_of_run (fn := Tryz.f83) hmix hstable (tyOK_of ttOK) (hglob (X_spec_l2Heap N P_spec_l2Sides P_spec_l2In P_spec_l2Before)) (conOK_of (X := X_spec_l2Heap N P_spec_l2Sides P_spec_l2In P_spec_l2Before) ⟨s_spec_l2Sides, s_spec_l2In, s_spec_l2Before, trivial⟩) (mconOK_of (X := X_spec_l2Heap N P_spec_l2Sides P_spec_l2In P_spec_l2Before) trivial) (by kernel_rfl) (by kernel_rfl) (by kernel_rfl) (by kernel_rfl) (by kernel_rfl) (of_decide_eq_true (by kernel_rfl))
noncomputable def l_spec_l2Heap_4 : Nat → Int → Int → Int → (List D_A3) → Int → Option (denL R_spec_l2Heap) := hid (fun m0 p0 p1 p2 p3 p4 => L_spec_l2Heap_4 N P_spec_l2Sides P_spec_l2In P_spec_l2Before m0 p0 p1 p2 p3 p4)
theorem h_spec_l2Heap_4 : l_spec_l2Heap_4 = fun m0 p0 p1 p2 p3 p4 => L_spec_l2Heap_4 N P_spec_l2Sides P_spec_l2In P_spec_l2Before m0 p0 p1 p2 p3 p4 := hid_eq _
theorem p_spec_l2Heap (a0 : D_Heap) : P_spec_l2Heap (a0, ()) = 
  Option.bind (P_spec_l2Sides (a0.1, a0.2.1, a0.2.2.1, ())) fun r0 =>
  bif !r0.1 then
    some (false, ())
  else
    l_spec_l2Heap_4 N a0.1 a0.2.1 a0.2.2.1 a0.2.2.2.1 0 := by
  rewrite [h_spec_l2Heap, h_spec_l2Heap_4]
  kernel_rfl
theorem q_spec_l2Heap_4 (m0 : Nat) (p0 : Int) (p1 : Int) (p2 : Int) (p3 : List D_A3) (p4 : Int) : l_spec_l2Heap_4 (m0 + 1) p0 p1 p2 p3 p4 = 
  bif decide (p4 < (List.length p3 : Int)) then
    bif inB p4 (List.length p3) then
      Option.bind (P_spec_l2In ((p0, (p1, (p2, (p3, ())))), (nth T_A3 p3 p4), ())) fun r2 =>
      bif !r2.1 then
        some (false, ())
      else
        bif decide (p4 > 0) then
          bif inB (IntKind.wrap .i64 (p4 - 1)) (List.length p3) then
            bif inB p4 (List.length p3) then
              Option.bind (P_spec_l2Before ((nth T_A3 p3 (IntKind.wrap .i64 (p4 - 1))), (nth T_A3 p3 p4), ())) fun r7 =>
              bif !r7.1 then
                some (false, ())
              else
                l_spec_l2Heap_4 m0 p0 p1 p2 p3 (IntKind.wrap .i64 (p4 + 1))
            else none
          else none
        else
          l_spec_l2Heap_4 m0 p0 p1 p2 p3 (IntKind.wrap .i64 (p4 + 1))
    else none
  else
    some (true, ()) := by
  rewrite [h_spec_l2Heap_4]
  kernel_rfl

/- 144: loop.example/g01166/spec.l2Has -/
abbrev As_spec_l2Has : List ATy := [.data true T_Heap, .data true T_A3]
abbrev R_spec_l2Has : List (Bool × Ty) := [(false, .bool)]
abbrev M_spec_l2Has : List RMode := []
abbrev Ft_spec_l2Has : Type := D_Heap × D_A3 × Unit → Option (Bool × Unit)
noncomputable def X_spec_l2Has (n : Nat) : Ctx := { types := TT, globals := [], con := [], keep := [(2, ⟨[.box 2, .box 3, .tmp 2, .tmp 3, .tmp 5], []⟩)], results := [.tmp 4], ntmps := 20, n := n }
noncomputable def B_spec_l2Has : Code := (Tryz.f144.body).getD .skip
noncomputable def L_spec_l2Has_2 (n : Nat) (m0 : Nat) (p0 : Int) (p1 : Int) (p2 : Int) (p3 : List D_A3) (p4 : Int) (p5 : Int) (p6 : Int) (p7 : Int) : Option (denL R_spec_l2Has) := loopF (X_spec_l2Has n) B_spec_l2Has R_spec_l2Has M_spec_l2Has 2 [m0] [(.ver, .num 1), (.box 2, .box 0 false [.int .i64 p0, .int .i64 p1, .int .i64 p2, .imm T_A3 p3 (some 3)]), (.box 3, .box 0 false [.int .i64 p4, .int .i64 p5, .int .i64 p6]), (.tmp 2, .val false [.addr 2 0 0]), (.tmp 3, .val false [.addr 3 0 0]), (.tmp 5, .val false [.int .i64 p7])]
noncomputable def P_spec_l2Has : Ft_spec_l2Has := hid (runF (X_spec_l2Has N) B_spec_l2Has As_spec_l2Has R_spec_l2Has M_spec_l2Has)
theorem h_spec_l2Has : P_spec_l2Has = runF (X_spec_l2Has N) B_spec_l2Has As_spec_l2Has R_spec_l2Has M_spec_l2Has := hid_eq _
noncomputable def C_spec_l2Has : Contract := ⟨As_spec_l2Has, R_spec_l2Has, M_spec_l2Has, P_spec_l2Has⟩
theorem s_spec_l2Has : Sound Tryz.prog GG 144 C_spec_l2Has := by
  unfold C_spec_l2Has; rw [h_spec_l2Has]
  exact sound_of_run (fn := Tryz.f144) hmix hstable (tyOK_of ttOK) (hglob (X_spec_l2Has N)) (conOK_of (X := X_spec_l2Has N) trivial) (mconOK_of (X := X_spec_l2Has N) trivial) (by kernel_rfl) (by kernel_rfl) (by kernel_rfl) (by kernel_rfl) (by kernel_rfl) (of_decide_eq_true (by kernel_rfl))
noncomputable def l_spec_l2Has_2 : Nat → Int → Int → Int → (List D_A3) → Int → Int → Int → Int → Option (denL R_spec_l2Has) := hid (fun m0 p0 p1 p2 p3 p4 p5 p6 p7 => L_spec_l2Has_2 N m0 p0 p1 p2 p3 p4 p5 p6 p7)
theorem h_spec_l2Has_2 : l_spec_l2Has_2 = fun m0 p0 p1 p2 p3 p4 p5 p6 p7 => L_spec_l2Has_2 N m0 p0 p1 p2 p3 p4 p5 p6 p7 := hid_eq _
theorem p_spec_l2Has (a0 : D_Heap) (a1 : D_A3) : P_spec_l2Has (a0, a1, ()) = 
  l_spec_l2Has_2 N a0.1 a0.2.1 a0.2.2.1 a0.2.2.2.1 a1.1 a1.2.1 a1.2.2.1 0 := by
  rewrite [h_spec_l2Has, h_spec_l2Has_2]
  kernel_rfl
theorem q_spec_l2Has_2 (m0 : Nat) (p0 : Int) (p1 : Int) (p2 : Int) (p3 : List D_A3) (p4 : Int) (p5 : Int) (p6 : Int) (p7 : Int) : l_spec_l2Has_2 (m0 + 1) p0 p1 p2 p3 p4 p5 p6 p7 = 
  bif decide (p7 < (List.length p3 : Int)) then
    bif inB p7 (List.length p3) then
      bif (decide (((nth T_A3 p3 p7)).1 = p4) && (decide ((((nth T_A3 p3 p7)).2).1 = p5) && (decide (((((nth T_A3 p3 p7)).2).2).1 = p6) && true))) then
        some (true, ())
      else
        l_spec_l2Has_2 m0 p0 p1 p2 p3 p4 p5 p6 (IntKind.wrap .i64 (p7 + 1))
    else none
  else
    some (false, ()) := by
  rewrite [h_spec_l2Has_2]
  kernel_rfl

/- 125: loop.example/g01166/spec.OtherCells -/
abbrev As_spec_OtherCells : List ATy := [.data true T_Heap]
abbrev R_spec_OtherCells : List (Bool × Ty) := [(true, T_Heap), (false, .bool)]
abbrev M_spec_OtherCells : List RMode := [.own 55]
abbrev Ft_spec_OtherCells : Type := D_Heap × Unit → Option (D_Heap × Bool × Unit)
noncomputable def X_spec_OtherCells (n : Nat) (F_spec_l2Heap : Ft_spec_l2Heap) (F_spec_l2Empty : Ft_spec_l2Empty) (F_spec_l2All : Ft_spec_l2All) (F_spec_l2Has : Ft_spec_l2Has) : Ctx := { types := TT, globals := [], con := [(83, ⟨As_spec_l2Heap, R_spec_l2Heap, M_spec_l2Heap, F_spec_l2Heap⟩), (97, ⟨As_spec_l2Empty, R_spec_l2Empty, M_spec_l2Empty, F_spec_l2Empty⟩), (124, ⟨As_spec_l2All, R_spec_l2All, M_spec_l2All, F_spec_l2All⟩), (144, ⟨As_spec_l2Has, R_spec_l2Has, M_spec_l2Has, F_spec_l2Has⟩)], keep := [(5, ⟨[.box 1, .box 2, .box 4, .tmp 1, .tmp 2, .tmp 4, .tmp 5, .tmp 6], []⟩)], results := [.cell 2 26, .tmp 3], ntmps := 43, n := n }
noncomputable def B_spec_OtherCells : Code := (Tryz.f125.body).getD .skip
noncomputable def L_spec_OtherCells_5 (n : Nat) (F_spec_l2Heap : Ft_spec_l2Heap) (F_spec_l2Empty : Ft_spec_l2Empty) (F_spec_l2All : Ft_spec_l2All) (F_spec_l2Has : Ft_spec_l2Has) (m0 : Nat) (p0 : Int) (p1 : Int) (p2 : Int) (p3 : List D_A3) (p4 : Int) (p5 : Int) (p6 : Int) (p7 : List D_A3) (p8 : Int) (p9 : Int) (p10 : Int) (p11 : List D_A3) (p12 : List D_A3) (p13 : Int) : Option (denL R_spec_OtherCells) := loopF (X_spec_OtherCells n F_spec_l2Heap F_spec_l2Empty F_spec_l2All F_spec_l2Has) B_spec_OtherCells R_spec_OtherCells M_spec_OtherCells 5 [m0] [(.ver, .num 1), (.box 1, .box 0 false [.int .i64 p0, .int .i64 p1, .int .i64 p2, .imm T_A3 p3 (some 3)]), (.box 2, .box 0 false [.int .i64 p4, .int .i64 p5, .int .i64 p6, .own 55 T_A3 0 p7]), (.box 4, .box 0 false [.int .i64 p8, .int .i64 p9, .int .i64 p10, .own 55 T_A3 0 p11]), (.tmp 1, .val false [.addr 1 0 0]), (.tmp 2, .val false [.addr 2 0 0]), (.tmp 4, .val false [.addr 4 0 0]), (.tmp 5, .val false [.own 55 T_A3 0 p12]), (.tmp 6, .val false [.int .i64 p13])]
noncomputable def P_spec_OtherCells : Ft_spec_OtherCells := hid (runF (X_spec_OtherCells N P_spec_l2Heap P_spec_l2Empty P_spec_l2All P_spec_l2Has) B_spec_OtherCells As_spec_OtherCells R_spec_OtherCells M_spec_OtherCells)
theorem h_spec_OtherCells : P_spec_OtherCells = runF (X_spec_OtherCells N P_spec_l2Heap P_spec_l2Empty P_spec_l2All P_spec_l2Has) B_spec_OtherCells As_spec_OtherCells R_spec_OtherCells M_spec_OtherCells := hid_eq _
noncomputable def C_spec_OtherCells : Contract := ⟨As_spec_OtherCells, R_spec_OtherCells, M_spec_OtherCells, P_spec_OtherCells⟩
theorem s_spec_OtherCells : Sound Tryz.prog GG 125 C_spec_OtherCells := by
  unfold C_spec_OtherCells; rw [h_spec_OtherCells]
  exact sound_of_run (fn := Tryz.f125) hmix hstable (tyOK_of ttOK) (hglob (X_spec_OtherCells N P_spec_l2Heap P_spec_l2Empty P_spec_l2All P_spec_l2Has)) (conOK_of (X := X_spec_OtherCells N P_spec_l2Heap P_spec_l2Empty P_spec_l2All P_spec_l2Has) ⟨s_spec_l2Heap, s_spec_l2Empty, s_spec_l2All, s_spec_l2Has, trivial⟩) (mconOK_of (X := X_spec_OtherCells N P_spec_l2Heap P_spec_l2Empty P_spec_l2All P_spec_l2Has) trivial) (by kernel_rfl) (by kernel_rfl) (by kernel_rfl) (by kernel_rfl) (by kernel_rfl) (of_decide_eq_true (by kernel_rfl))
noncomputable def l_spec_OtherCells_5 : Nat → Int → Int → Int → (List D_A3) → Int → Int → Int → (List D_A3) → Int → Int → Int → (List D_A3) → (List D_A3) → Int → Option (denL R_spec_OtherCells) := hid (fun m0 p0 p1 p2 p3 p4 p5 p6 p7 p8 p9 p10 p11 p12 p13 => L_spec_OtherCells_5 N P_spec_l2Heap P_spec_l2Empty P_spec_l2All P_spec_l2Has m0 p0 p1 p2 p3 p4 p5 p6 p7 p8 p9 p10 p11 p12 p13)
theorem h_spec_OtherCells_5 : l_spec_OtherCells_5 = fun m0 p0 p1 p2 p3 p4 p5 p6 p7 p8 p9 p10 p11 p12 p13 => L_spec_OtherCells_5 N P_spec_l2Heap P_spec_l2Empty P_spec_l2All P_spec_l2Has m0 p0 p1 p2 p3 p4 p5 p6 p7 p8 p9 p10 p11 p12 p13 := hid_eq _
theorem p_spec_OtherCells (a0 : D_Heap) : P_spec_OtherCells (a0, ()) = 
  Option.bind (P_spec_l2Heap (a0, ())) fun r0 =>
  bif !r0.1 then
    some ((0, (0, (0, (([] : List D_A3), ())))), false, ())
  else
    Option.bind (P_spec_l2Empty (a0.1, a0.2.1, a0.2.2.1, ())) fun r2 =>
    Option.bind (P_spec_l2All (a0, ())) fun r3 =>
    l_spec_OtherCells_5 N a0.1 a0.2.1 a0.2.2.1 a0.2.2.2.1 0 0 0 ([] : List D_A3) r2.1.1 r2.1.2.1 r2.1.2.2.1 r2.1.2.2.2.1 r3.1 0 := by
  rewrite [h_spec_OtherCells, h_spec_OtherCells_5]
  kernel_rfl
theorem q_spec_OtherCells_5 (m0 : Nat) (p0 : Int) (p1 : Int) (p2 : Int) (p3 : List D_A3) (p4 : Int) (p5 : Int) (p6 : Int) (p7 : List D_A3) (p8 : Int) (p9 : Int) (p10 : Int) (p11 : List D_A3) (p12 : List D_A3) (p13 : Int) : l_spec_OtherCells_5 (m0 + 1) p0 p1 p2 p3 p4 p5 p6 p7 p8 p9 p10 p11 p12 p13 = 
  bif decide (p13 < (List.length p12 : Int)) then
    bif inB p13 (List.length p12) then
      Option.bind (P_spec_l2Has ((p0, (p1, (p2, (p3, ())))), (nth T_A3 p12 p13), ())) fun r2 =>
      bif !r2.1 then
        bif inB p13 (List.length p12) then
          bif (decide (((List.length p11) + (List.length ([(nth T_A3 p12 p13)] : List D_A3))) * 24 ≤ 140737488355328) && decide (((List.length p11) + (List.length ([(nth T_A3 p12 p13)] : List D_A3))) ≤ 140737488355328)) then
            l_spec_OtherCells_5 m0 p0 p1 p2 p3 p4 p5 p6 p7 p8 p9 p10 (p11 ++ ([(nth T_A3 p12 p13)] : List D_A3)) p12 (IntKind.wrap .i64 (p13 + 1))
          else none
        else none
      else
        l_spec_OtherCells_5 m0 p0 p1 p2 p3 p4 p5 p6 p7 p8 p9 p10 p11 p12 (IntKind.wrap .i64 (p13 + 1))
    else none
  else
    some ((p8, (p9, (p10, (p11, ())))), true, ()) := by
  rewrite [h_spec_OtherCells_5]
  kernel_rfl

/- 126: loop.example/g01166/spec.l2Stack -/
abbrev As_spec_l2Stack : List ATy := [.data false (.int .i64), .data false (.int .i64), .data false (.int .i64), .data false (.sl (.int .i64))]
abbrev R_spec_l2Stack : List (Bool × Ty) := [(true, T_Heap)]
abbrev M_spec_l2Stack : List RMode := [.own 55]
abbrev Ft_spec_l2Stack : Type := Int × Int × Int × (List Int) × Unit → Option (D_Heap × Unit)
noncomputable def X_spec_l2Stack (n : Nat) (F_spec_l2Empty : Ft_spec_l2Empty) (F_spec_l2All : Ft_spec_l2All) : Ctx := { types := TT, globals := [], con := [(97, ⟨As_spec_l2Empty, R_spec_l2Empty, M_spec_l2Empty, F_spec_l2Empty⟩), (124, ⟨As_spec_l2All, R_spec_l2All, M_spec_l2All, F_spec_l2All⟩)], keep := [(4, ⟨[.box 8, .box 9, .tmp 1, .tmp 3, .tmp 8, .tmp 9, .tmp 10, .tmp 11], []⟩)], results := [.cell 8 26], ntmps := 56, n := n }
noncomputable def B_spec_l2Stack : Code := (Tryz.f126.body).getD .skip
noncomputable def L_spec_l2Stack_4 (n : Nat) (F_spec_l2Empty : Ft_spec_l2Empty) (F_spec_l2All : Ft_spec_l2All) (m0 : Nat) (p0 : Int) (p1 : Int) (p2 : Int) (p3 : List D_A3) (p4 : Int) (p5 : Int) (p6 : Int) (p7 : List D_A3) (p8 : Int) (p9 : List Int) (p10 : List D_A3) (p11 : Int) : Option (denL R_spec_l2Stack) := loopF (X_spec_l2Stack n F_spec_l2Empty F_spec_l2All) B_spec_l2Stack R_spec_l2Stack M_spec_l2Stack 4 [m0] [(.ver, .num 1), (.box 8, .box 0 false [.int .i64 p0, .int .i64 p1, .int .i64 p2, .own 55 T_A3 0 p3]), (.box 9, .box 0 false [.int .i64 p4, .int .i64 p5, .int .i64 p6, .own 55 T_A3 0 p7]), (.tmp 1, .val false [.int .i64 p8]), (.tmp 3, .val false [.imm (.int .i64) p9 (some 3)]), (.tmp 8, .val false [.addr 8 0 0]), (.tmp 9, .val false [.addr 9 0 0]), (.tmp 10, .val false [.own 55 T_A3 0 p10]), (.tmp 11, .val false [.int .i64 p11])]
noncomputable def P_spec_l2Stack : Ft_spec_l2Stack := hid (runF (X_spec_l2Stack N P_spec_l2Empty P_spec_l2All) B_spec_l2Stack As_spec_l2Stack R_spec_l2Stack M_spec_l2Stack)
theorem h_spec_l2Stack : P_spec_l2Stack = runF (X_spec_l2Stack N P_spec_l2Empty P_spec_l2All) B_spec_l2Stack As_spec_l2Stack R_spec_l2Stack M_spec_l2Stack := hid_eq _
noncomputable def C_spec_l2Stack : Contract := ⟨As_spec_l2Stack, R_spec_l2Stack, M_spec_l2Stack, P_spec_l2Stack⟩
theorem s_spec_l2Stack : Sound Tryz.prog GG 126 C_spec_l2Stack := by
  unfold C_spec_l2Stack; rw [h_spec_l2Stack]
  exact sound_of_run (fn := Tryz.f126) hmix hstable (tyOK_of ttOK) (hglob (X_spec_l2Stack N P_spec_l2Empty P_spec_l2All)) (conOK_of (X := X_spec_l2Stack N P_spec_l2Empty P_spec_l2All) ⟨s_spec_l2Empty, s_spec_l2All, trivial⟩) (mconOK_of (X := X_spec_l2Stack N P_spec_l2Empty P_spec_l2All) trivial) (by kernel_rfl) (by kernel_rfl) (by kernel_rfl) (by kernel_rfl) (by kernel_rfl) (of_decide_eq_true (by kernel_rfl))
noncomputable def l_spec_l2Stack_4 : Nat → Int → Int → Int → (List D_A3) → Int → Int → Int → (List D_A3) → Int → (List Int) → (List D_A3) → Int → Option (denL R_spec_l2Stack) := hid (fun m0 p0 p1 p2 p3 p4 p5 p6 p7 p8 p9 p10 p11 => L_spec_l2Stack_4 N P_spec_l2Empty P_spec_l2All m0 p0 p1 p2 p3 p4 p5 p6 p7 p8 p9 p10 p11)
theorem h_spec_l2Stack_4 : l_spec_l2Stack_4 = fun m0 p0 p1 p2 p3 p4 p5 p6 p7 p8 p9 p10 p11 => L_spec_l2Stack_4 N P_spec_l2Empty P_spec_l2All m0 p0 p1 p2 p3 p4 p5 p6 p7 p8 p9 p10 p11 := hid_eq _
theorem p_spec_l2Stack (a0 : Int) (a1 : Int) (a2 : Int) (a3 : List Int) : P_spec_l2Stack (a0, a1, a2, a3, ()) = 
  Option.bind (P_spec_l2Empty (a0, a1, a2, ())) fun r0 =>
  Option.bind (P_spec_l2All (r0.1, ())) fun r1 =>
  l_spec_l2Stack_4 N 0 0 0 ([] : List D_A3) r0.1.1 r0.1.2.1 r0.1.2.2.1 r0.1.2.2.2.1 a1 a3 r1.1 0 := by
  rewrite [h_spec_l2Stack, h_spec_l2Stack_4]
  kernel_rfl
theorem q_spec_l2Stack_4 (m0 : Nat) (p0 : Int) (p1 : Int) (p2 : Int) (p3 : List D_A3) (p4 : Int) (p5 : Int) (p6 : Int) (p7 : List D_A3) (p8 : Int) (p9 : List Int) (p10 : List D_A3) (p11 : Int) : l_spec_l2Stack_4 (m0 + 1) p0 p1 p2 p3 p4 p5 p6 p7 p8 p9 p10 p11 = 
  bif decide (p11 < (List.length p10 : Int)) then
    bif inB p11 (List.length p10) then
      bif inB p11 (List.length p10) then
        bif inB p11 (List.length p10) then
          bif inB (IntKind.wrap .i64 ((IntKind.wrap .i64 (((nth T_A3 p10 p11)).1 * p8)) + (((nth T_A3 p10 p11)).2).1)) (List.length p9) then
            bif decide (((((nth T_A3 p10 p11)).2).2).1 < (nth ((.int .i64) : Ty) p9 (IntKind.wrap .i64 ((IntKind.wrap .i64 (((nth T_A3 p10 p11)).1 * p8)) + (((nth T_A3 p10 p11)).2).1)))) then
              bif inB p11 (List.length p10) then
                bif (decide (((List.length p7) + (List.length ([(nth T_A3 p10 p11)] : List D_A3))) * 24 ≤ 140737488355328) && decide (((List.length p7) + (List.length ([(nth T_A3 p10 p11)] : List D_A3))) ≤ 140737488355328)) then
                  l_spec_l2Stack_4 m0 p0 p1 p2 p3 p4 p5 p6 (p7 ++ ([(nth T_A3 p10 p11)] : List D_A3)) p8 p9 p10 (IntKind.wrap .i64 (p11 + 1))
                else none
              else none
            else
              l_spec_l2Stack_4 m0 p0 p1 p2 p3 p4 p5 p6 p7 p8 p9 p10 (IntKind.wrap .i64 (p11 + 1))
          else none
        else none
      else none
    else none
  else
    some ((p4, (p5, (p6, (p7, ())))), ()) := by
  rewrite [h_spec_l2Stack_4]
  kernel_rfl

/- 130: loop.example/g01166/spec.l2Others -/
abbrev As_spec_l2Others : List ATy := [.data false (.int .i64)]
abbrev R_spec_l2Others : List (Bool × Ty) := [(false, (.int .i64)), (false, (.int .i64))]
abbrev M_spec_l2Others : List RMode := []
abbrev Ft_spec_l2Others : Type := Int × Unit → Option (Int × Int × Unit)
noncomputable def X_spec_l2Others (n : Nat) : Ctx := { types := TT, globals := [], con := [], keep := [], results := [.tmp 2, .tmp 3], ntmps := 9, n := n }
noncomputable def B_spec_l2Others : Code := (Tryz.f130.body).getD .skip
noncomputable def P_spec_l2Others : Ft_spec_l2Others := hid (runF (X_spec_l2Others N) B_spec_l2Others As_spec_l2Others R_spec_l2Others M_spec_l2Others)
theorem h_spec_l2Others : P_spec_l2Others = runF (X_spec_l2Others N) B_spec_l2Others As_spec_l2Others R_spec_l2Others M_spec_l2Others := hid_eq _
noncomputable def C_spec_l2Others : Contract := ⟨As_spec_l2Others, R_spec_l2Others, M_spec_l2Others, P_spec_l2Others⟩
theorem s_spec_l2Others : Sound Tryz.prog GG 130 C_spec_l2Others := by
  unfold C_spec_l2Others; rw [h_spec_l2Others]
  exact sound_of_run (fn := Tryz.f130) hmix hstable (tyOK_of ttOK) (hglob (X_spec_l2Others N)) (conOK_of (X := X_spec_l2Others N) trivial) (mconOK_of (X := X_spec_l2Others N) trivial) (by kernel_rfl) (by kernel_rfl) (by kernel_rfl) (by kernel_rfl) (by kernel_rfl) (of_decide_eq_true (by kernel_rfl))
theorem p_spec_l2Others (a0 : Int) : P_spec_l2Others (a0, ()) = 
  bif decide (a0 = 0) then
    some (1, 2, ())
  else
    bif decide (a0 = 1) then
      some (0, 2, ())
    else
      some (0, 1, ()) := by
  rewrite [h_spec_l2Others]
  kernel_rfl

/- 132: loop.example/g01166/spec.l2Long -/
abbrev As_spec_l2Long : List ATy := [.data true T_Heap, .data false (.int .i64)]
abbrev R_spec_l2Long : List (Bool × Ty) := [(false, (.int .i64))]
abbrev M_spec_l2Long : List RMode := []
abbrev Ft_spec_l2Long : Type := D_Heap × Int × Unit → Option (Int × Unit)
noncomputable def X_spec_l2Long (n : Nat) : Ctx := { types := TT, globals := [], con := [], keep := [], results := [.tmp 4], ntmps := 14, n := n }
noncomputable def B_spec_l2Long : Code := (Tryz.f132.body).getD .skip
noncomputable def P_spec_l2Long : Ft_spec_l2Long := hid (runF (X_spec_l2Long N) B_spec_l2Long As_spec_l2Long R_spec_l2Long M_spec_l2Long)
theorem h_spec_l2Long : P_spec_l2Long = runF (X_spec_l2Long N) B_spec_l2Long As_spec_l2Long R_spec_l2Long M_spec_l2Long := hid_eq _
noncomputable def C_spec_l2Long : Contract := ⟨As_spec_l2Long, R_spec_l2Long, M_spec_l2Long, P_spec_l2Long⟩
theorem s_spec_l2Long : Sound Tryz.prog GG 132 C_spec_l2Long := by
  unfold C_spec_l2Long; rw [h_spec_l2Long]
  exact sound_of_run (fn := Tryz.f132) hmix hstable (tyOK_of ttOK) (hglob (X_spec_l2Long N)) (conOK_of (X := X_spec_l2Long N) trivial) (mconOK_of (X := X_spec_l2Long N) trivial) (by kernel_rfl) (by kernel_rfl) (by kernel_rfl) (by kernel_rfl) (by kernel_rfl) (of_decide_eq_true (by kernel_rfl))
theorem p_spec_l2Long (a0 : D_Heap) (a1 : Int) : P_spec_l2Long (a0, a1, ()) = 
  bif inB a1 3 then
    some ((bif decide (a1 = (0 : Int)) then a0.1 else (bif decide (a1 = (1 : Int)) then a0.2.1 else a0.2.2.1)), ())
  else none := by
  rewrite [h_spec_l2Long]
  kernel_rfl

/- 131: loop.example/g01166/spec.l2View -/
abbrev As_spec_l2View : List ATy := [.data true T_Heap, .data false (.int .i64)]
abbrev R_spec_l2View : List (Bool × Ty) := [(false, (.sl (.int .i64)))]
abbrev M_spec_l2View : List RMode := [.own 3]
abbrev Ft_spec_l2View : Type := D_Heap × Int × Unit → Option ((List Int) × Unit)
noncomputable def X_spec_l2View (n : Nat) (F_spec_l2Others : Ft_spec_l2Others) (F_spec_l2Long : Ft_spec_l2Long) : Ctx := { types := TT, globals := [], con := [(130, ⟨As_spec_l2Others, R_spec_l2Others, M_spec_l2Others, F_spec_l2Others⟩), (132, ⟨As_spec_l2Long, R_spec_l2Long, M_spec_l2Long, F_spec_l2Long⟩)], keep := [(4, ⟨[.box 2, .tmp 2, .tmp 5, .tmp 6, .tmp 7, .tmp 8], []⟩)], results := [.tmp 4], ntmps := 54, n := n }
noncomputable def B_spec_l2View : Code := (Tryz.f131.body).getD .skip
noncomputable def L_spec_l2View_4 (n : Nat) (F_spec_l2Others : Ft_spec_l2Others) (F_spec_l2Long : Ft_spec_l2Long) (m0 : Nat) (p0 : Int) (p1 : Int) (p2 : Int) (p3 : List D_A3) (p4 : Int) (p5 : Int) (p6 : List Int) (p7 : Int) : Option (denL R_spec_l2View) := loopF (X_spec_l2View n F_spec_l2Others F_spec_l2Long) B_spec_l2View R_spec_l2View M_spec_l2View 4 [m0] [(.ver, .num 1), (.box 2, .box 0 false [.int .i64 p0, .int .i64 p1, .int .i64 p2, .imm T_A3 p3 (some 3)]), (.tmp 2, .val false [.addr 2 0 0]), (.tmp 5, .val false [.int .i64 p4]), (.tmp 6, .val false [.int .i64 p5]), (.tmp 7, .val false [.own 3 (.int .i64) 0 p6]), (.tmp 8, .val false [.int .i64 p7])]
noncomputable def P_spec_l2View : Ft_spec_l2View := hid (runF (X_spec_l2View N P_spec_l2Others P_spec_l2Long) B_spec_l2View As_spec_l2View R_spec_l2View M_spec_l2View)
theorem h_spec_l2View : P_spec_l2View = runF (X_spec_l2View N P_spec_l2Others P_spec_l2Long) B_spec_l2View As_spec_l2View R_spec_l2View M_spec_l2View := hid_eq _
noncomputable def C_spec_l2View : Contract := ⟨As_spec_l2View, R_spec_l2View, M_spec_l2View, P_spec_l2View⟩
theorem s_spec_l2View : Sound Tryz.prog GG 131 C_spec_l2View := by
  unfold C_spec_l2View; rw [h_spec_l2View]
  exact sound_of_run (fn := Tryz.f131) hmix hstable (tyOK_of ttOK) (hglob (X_spec_l2View N P_spec_l2Others P_spec_l2Long)) (conOK_of (X := X_spec_l2View N P_spec_l2Others P_spec_l2Long) ⟨s_spec_l2Others, s_spec_l2Long, trivial⟩) (mconOK_of (X := X_spec_l2View N P_spec_l2Others P_spec_l2Long) trivial) (by kernel_rfl) (by kernel_rfl) (by kernel_rfl) (by kernel_rfl) (by kernel_rfl) (of_decide_eq_true (by kernel_rfl))
noncomputable def l_spec_l2View_4 : Nat → Int → Int → Int → (List D_A3) → Int → Int → (List Int) → Int → Option (denL R_spec_l2View) := hid (fun m0 p0 p1 p2 p3 p4 p5 p6 p7 => L_spec_l2View_4 N P_spec_l2Others P_spec_l2Long m0 p0 p1 p2 p3 p4 p5 p6 p7)
theorem h_spec_l2View_4 : l_spec_l2View_4 = fun m0 p0 p1 p2 p3 p4 p5 p6 p7 => L_spec_l2View_4 N P_spec_l2Others P_spec_l2Long m0 p0 p1 p2 p3 p4 p5 p6 p7 := hid_eq _
theorem p_spec_l2View (a0 : D_Heap) (a1 : Int) : P_spec_l2View (a0, a1, ()) = 
  Option.bind (P_spec_l2Others (a1, ())) fun r0 =>
  Option.bind (P_spec_l2Long (a0, r0.1, ())) fun r1 =>
  Option.bind (P_spec_l2Long (a0, r0.2.1, ())) fun r2 =>
  bif (decide ((0 : Int) ≤ (IntKind.wrap .i64 (r1.1 * r2.1))) && decide (((IntKind.wrap .i64 (r1.1 * r2.1)) : Int) ≤ (IntKind.wrap .i64 (r1.1 * r2.1))) && decide (((IntKind.wrap .i64 (r1.1 * r2.1)) : Int) * (8 : Nat) ≤ 140737488355328) && decide (((IntKind.wrap .i64 (r1.1 * r2.1)) : Int) ≤ 140737488355328)) then
    l_spec_l2View_4 N a0.1 a0.2.1 a0.2.2.1 a0.2.2.2.1 r0.1 r0.2.1 (List.replicate (Int.toNat (IntKind.wrap .i64 (r1.1 * r2.1))) (Ty.dflt ((.int .i64) : Ty))) 0
  else none := by
  rewrite [h_spec_l2View, h_spec_l2View_4]
  kernel_rfl
theorem q_spec_l2View_4 (m0 : Nat) (p0 : Int) (p1 : Int) (p2 : Int) (p3 : List D_A3) (p4 : Int) (p5 : Int) (p6 : List Int) (p7 : Int) : l_spec_l2View_4 (m0 + 1) p0 p1 p2 p3 p4 p5 p6 p7 = 
  bif decide (p7 < (List.length p3 : Int)) then
    bif inB p7 (List.length p3) then
      bif inB p4 3 then
        Option.bind (P_spec_l2Long ((p0, (p1, (p2, (p3, ())))), p5, ())) fun r3 =>
        bif inB p7 (List.length p3) then
          bif inB p5 3 then
            bif inB (IntKind.wrap .i64 ((IntKind.wrap .i64 ((bif decide (p4 = (0 : Int)) then ((nth T_A3 p3 p7)).1 else (bif decide (p4 = (1 : Int)) then (((nth T_A3 p3 p7)).2).1 else ((((nth T_A3 p3 p7)).2).2).1)) * r3.1)) + (bif decide (p5 = (0 : Int)) then ((nth T_A3 p3 p7)).1 else (bif decide (p5 = (1 : Int)) then (((nth T_A3 p3 p7)).2).1 else ((((nth T_A3 p3 p7)).2).2).1)))) (List.length p6) then
              bif inB (IntKind.wrap .i64 ((IntKind.wrap .i64 ((bif decide (p4 = (0 : Int)) then ((nth T_A3 p3 p7)).1 else (bif decide (p4 = (1 : Int)) then (((nth T_A3 p3 p7)).2).1 else ((((nth T_A3 p3 p7)).2).2).1)) * r3.1)) + (bif decide (p5 = (0 : Int)) then ((nth T_A3 p3 p7)).1 else (bif decide (p5 = (1 : Int)) then (((nth T_A3 p3 p7)).2).1 else ((((nth T_A3 p3 p7)).2).2).1)))) (List.length p6) then
                l_spec_l2View_4 m0 p0 p1 p2 p3 p4 p5 (List.set p6 (Int.toNat (IntKind.wrap .i64 ((IntKind.wrap .i64 ((bif decide (p4 = (0 : Int)) then ((nth T_A3 p3 p7)).1 else (bif decide (p4 = (1 : Int)) then (((nth T_A3 p3 p7)).2).1 else ((((nth T_A3 p3 p7)).2).2).1)) * r3.1)) + (bif decide (p5 = (0 : Int)) then ((nth T_A3 p3 p7)).1 else (bif decide (p5 = (1 : Int)) then (((nth T_A3 p3 p7)).2).1 else ((((nth T_A3 p3 p7)).2).2).1))))) (IntKind.wrap .i64 ((nth ((.int .i64) : Ty) p6 (IntKind.wrap .i64 ((IntKind.wrap .i64 ((bif decide (p4 = (0 : Int)) then ((nth T_A3 p3 p7)).1 else (bif decide (p4 = (1 : Int)) then (((nth T_A3 p3 p7)).2).1 else ((((nth T_A3 p3 p7)).2).2).1)) * r3.1)) + (bif decide (p5 = (0 : Int)) then ((nth T_A3 p3 p7)).1 else (bif decide (p5 = (1 : Int)) then (((nth T_A3 p3 p7)).2).1 else ((((nth T_A3 p3 p7)).2).2).1))))) + 1))) (IntKind.wrap .i64 (p7 + 1))
              else none
            else none
          else none
        else none
      else none
    else none
  else
    some (p6, ()) := by
  rewrite [h_spec_l2View_4]
  kernel_rfl

/- 127: loop.example/g01166/spec.l2Heights -/
abbrev As_spec_l2Heights : List ATy := [.data true T_Heap]
abbrev R_spec_l2Heights : List (Bool × Ty) := [(false, (.sl (.int .i64)))]
abbrev M_spec_l2Heights : List RMode := [.own 3]
abbrev Ft_spec_l2Heights : Type := D_Heap × Unit → Option ((List Int) × Unit)
noncomputable def X_spec_l2Heights (n : Nat) (F_spec_l2View : Ft_spec_l2View) : Ctx := { types := TT, globals := [], con := [(131, ⟨As_spec_l2View, R_spec_l2View, M_spec_l2View, F_spec_l2View⟩)], keep := [], results := [.tmp 2], ntmps := 5, n := n }
noncomputable def B_spec_l2Heights : Code := (Tryz.f127.body).getD .skip
noncomputable def P_spec_l2Heights : Ft_spec_l2Heights := hid (runF (X_spec_l2Heights N P_spec_l2View) B_spec_l2Heights As_spec_l2Heights R_spec_l2Heights M_spec_l2Heights)
theorem h_spec_l2Heights : P_spec_l2Heights = runF (X_spec_l2Heights N P_spec_l2View) B_spec_l2Heights As_spec_l2Heights R_spec_l2Heights M_spec_l2Heights := hid_eq _
noncomputable def C_spec_l2Heights : Contract := ⟨As_spec_l2Heights, R_spec_l2Heights, M_spec_l2Heights, P_spec_l2Heights⟩
theorem s_spec_l2Heights : Sound Tryz.prog GG 127 C_spec_l2Heights := by
  unfold C_spec_l2Heights; rw [h_spec_l2Heights]
  exact sound_of_run (fn := Tryz.f127) hmix hstable (tyOK_of ttOK) (hglob (X_spec_l2Heights N P_spec_l2View)) (conOK_of (X := X_spec_l2Heights N P_spec_l2View) ⟨s_spec_l2View, trivial⟩) (mconOK_of (X := X_spec_l2Heights N P_spec_l2View) trivial) (by kernel_rfl) (by kernel_rfl) (by kernel_rfl) (by kernel_rfl) (by kernel_rfl) (of_decide_eq_true (by kernel_rfl))
theorem p_spec_l2Heights (a0 : D_Heap) : P_spec_l2Heights (a0, ()) = 
  Option.bind (P_spec_l2View (a0, 2, ())) fun r0 =>
  some (r0.1, ()) := by
  rewrite [h_spec_l2Heights]
  kernel_rfl

/- 93: (*loop.example/g01166/spec.l1Cur).someHeap -/
abbrev As_l1Cur_someHeap : List ATy := [.lptr T_l1Cur, .data false (.int .i64), .data false (.int .i64), .data false (.int .i64)]
abbrev R_l1Cur_someHeap : List (Bool × Ty) := [(true, T_Heap)]
abbrev M_l1Cur_someHeap : List RMode := [.own 55]
abbrev Ft_l1Cur_someHeap : Type := D_l1Cur × Int × Int × Int × Unit → Option ((D_Heap × Unit) × (D_l1Cur × Unit))
noncomputable def X_l1Cur_someHeap (n : Nat) (F_l1Cur_one : Ft_l1Cur_one) (F_l1Cur_among : Ft_l1Cur_among) (F_spec_l2Empty : Ft_spec_l2Empty) (F_spec_l2Sides : Ft_spec_l2Sides) (F_l1Cur_pick : Ft_l1Cur_pick) (F_spec_l2All : Ft_spec_l2All) (F_spec_OtherCells : Ft_spec_OtherCells) (F_spec_l2Stack : Ft_spec_l2Stack) (F_spec_l2Heights : Ft_spec_l2Heights) : Ctx := { types := TT, globals := [], con := [(97, ⟨As_spec_l2Empty, R_spec_l2Empty, M_spec_l2Empty, F_spec_l2Empty⟩), (103, ⟨As_spec_l2Sides, R_spec_l2Sides, M_spec_l2Sides, F_spec_l2Sides⟩), (124, ⟨As_spec_l2All, R_spec_l2All, M_spec_l2All, F_spec_l2All⟩), (125, ⟨As_spec_OtherCells, R_spec_OtherCells, M_spec_OtherCells, F_spec_OtherCells⟩), (126, ⟨As_spec_l2Stack, R_spec_l2Stack, M_spec_l2Stack, F_spec_l2Stack⟩), (127, ⟨As_spec_l2Heights, R_spec_l2Heights, M_spec_l2Heights, F_spec_l2Heights⟩)], mcon := [(91, ⟨As_l1Cur_one, R_l1Cur_one, M_l1Cur_one, F_l1Cur_one⟩), (92, ⟨As_l1Cur_among, R_l1Cur_among, M_l1Cur_among, F_l1Cur_among⟩), (109, ⟨As_l1Cur_pick, R_l1Cur_pick, M_l1Cur_pick, F_l1Cur_pick⟩)], keep := [(6, ⟨[.box 8, .box 9, .box 1000000, .tmp 0, .tmp 1, .tmp 2, .tmp 3, .tmp 8, .tmp 9, .tmp 10, .tmp 11, .tmp 12], []⟩)], results := [.cell 8 26], ntmps := 64, n := n }
noncomputable def B_l1Cur_someHeap : Code := (Tryz.f93.body).getD .skip
noncomputable def L_l1Cur_someHeap_6 (n : Nat) (F_l1Cur_one : Ft_l1Cur_one) (F_l1Cur_among : Ft_l1Cur_among) (F_spec_l2Empty : Ft_spec_l2Empty) (F_spec_l2Sides : Ft_spec_l2Sides) (F_l1Cur_pick : Ft_l1Cur_pick) (F_spec_l2All : Ft_spec_l2All) (F_spec_OtherCells : Ft_spec_OtherCells) (F_spec_l2Stack : Ft_spec_l2Stack) (F_spec_l2Heights : Ft_spec_l2Heights) (m0 : Nat) (p0 : Int) (p1 : Int) (p2 : Int) (p3 : List D_A3) (p4 : Int) (p5 : Int) (p6 : Int) (p7 : List D_A3) (p8 : List Int) (p9 : Int) (p10 : Int) (p11 : Int) (p12 : Int) (p13 : Int) (p14 : Int) (p15 : List D_A3) (p16 : Int) : Option (denL R_l1Cur_someHeap × denM As_l1Cur_someHeap) := loopFM (X_l1Cur_someHeap n F_l1Cur_one F_l1Cur_among F_spec_l2Empty F_spec_l2Sides F_l1Cur_pick F_spec_l2All F_spec_OtherCells F_spec_l2Stack F_spec_l2Heights) B_l1Cur_someHeap As_l1Cur_someHeap R_l1Cur_someHeap M_l1Cur_someHeap 6 [m0] [(.ver, .num 1), (.box 8, .box 0 false [.int .i64 p0, .int .i64 p1, .int .i64 p2, .own 55 T_A3 0 p3]), (.box 9, .box 0 false [.int .i64 p4, .int .i64 p5, .int .i64 p6, .own 55 T_A3 0 p7]), (.box 1000000, .box 0 false [.imm (.int .u8) p8 (some 4), .int .i64 p9, .int .u64 p10]), (.tmp 0, .val false [.addr 1000000 0 0]), (.tmp 1, .val false [.int .i64 p11]), (.tmp 2, .val false [.int .i64 p12]), (.tmp 3, .val false [.int .i64 p13]), (.tmp 8, .val false [.addr 8 0 0]), (.tmp 9, .val false [.addr 9 0 0]), (.tmp 10, .val false [.int .i64 p14]), (.tmp 11, .val false [.own 55 T_A3 0 p15]), (.tmp 12, .val false [.int .i64 p16])]
noncomputable def P_l1Cur_someHeap : Ft_l1Cur_someHeap := hid (runFM (X_l1Cur_someHeap N P_l1Cur_one P_l1Cur_among P_spec_l2Empty P_spec_l2Sides P_l1Cur_pick P_spec_l2All P_spec_OtherCells P_spec_l2Stack P_spec_l2Heights) B_l1Cur_someHeap As_l1Cur_someHeap R_l1Cur_someHeap M_l1Cur_someHeap)
theorem h_l1Cur_someHeap : P_l1Cur_someHeap = runFM (X_l1Cur_someHeap N P_l1Cur_one P_l1Cur_among P_spec_l2Empty P_spec_l2Sides P_l1Cur_pick P_spec_l2All P_spec_OtherCells P_spec_l2Stack P_spec_l2Heights) B_l1Cur_someHeap As_l1Cur_someHeap R_l1Cur_someHeap M_l1Cur_someHeap := hid_eq _
noncomputable def C_l1Cur_someHeap : MContract := ⟨As_l1Cur_someHeap, R_l1Cur_someHeap, M_l1Cur_someHeap, P_l1Cur_someHeap⟩
theorem s_l1Cur_someHeap : SoundM Tryz.prog n0 GG 93 C_l1Cur_someHeap := by
  unfold C_l1Cur_someHeap; rw [h_l1Cur_someHeap]
  exact sound_of_runM (fn := Tryz.f93) hmix hstable (tyOK_of ttOK) (hglob (X_l1Cur_someHeap N P_l1Cur_one P_l1Cur_among P_spec_l2Empty P_spec_l2Sides P_l1Cur_pick P_spec_l2All P_spec_OtherCells P_spec_l2Stack P_spec_l2Heights)) (conOK_of (X := X_l1Cur_someHeap N P_l1Cur_one P_l1Cur_among P_spec_l2Empty P_spec_l2Sides P_l1Cur_pick P_spec_l2All P_spec_OtherCells P_spec_l2Stack P_spec_l2Heights) ⟨s_spec_l2Empty, s_spec_l2Sides, s_spec_l2All, s_spec_OtherCells, s_spec_l2Stack, s_spec_l2Heights, trivial⟩) (mconOK_of (X := X_l1Cur_someHeap N P_l1Cur_one P_l1Cur_among P_spec_l2Empty P_spec_l2Sides P_l1Cur_pick P_spec_l2All P_spec_OtherCells P_spec_l2Stack P_spec_l2Heights) ⟨s_l1Cur_one, s_l1Cur_among, s_l1Cur_pick, trivial⟩) (by kernel_rfl) (by kernel_rfl) (by kernel_rfl) (by kernel_rfl) (by kernel_rfl) (of_decide_eq_true (by kernel_rfl)) (by kernel_rfl) (by rfl)
noncomputable def l_l1Cur_someHeap_6 : Nat → Int → Int → Int → (List D_A3) → Int → Int → Int → (List D_A3) → (List Int) → Int → Int → Int → Int → Int → Int → (List D_A3) → Int → Option (denL R_l1Cur_someHeap × denM As_l1Cur_someHeap) := hid (fun m0 p0 p1 p2 p3 p4 p5 p6 p7 p8 p9 p10 p11 p12 p13 p14 p15 p16 => L_l1Cur_someHeap_6 N P_l1Cur_one P_l1Cur_among P_spec_l2Empty P_spec_l2Sides P_l1Cur_pick P_spec_l2All P_spec_OtherCells P_spec_l2Stack P_spec_l2Heights m0 p0 p1 p2 p3 p4 p5 p6 p7 p8 p9 p10 p11 p12 p13 p14 p15 p16)
theorem h_l1Cur_someHeap_6 : l_l1Cur_someHeap_6 = fun m0 p0 p1 p2 p3 p4 p5 p6 p7 p8 p9 p10 p11 p12 p13 p14 p15 p16 => L_l1Cur_someHeap_6 N P_l1Cur_one P_l1Cur_among P_spec_l2Empty P_spec_l2Sides P_l1Cur_pick P_spec_l2All P_spec_OtherCells P_spec_l2Stack P_spec_l2Heights m0 p0 p1 p2 p3 p4 p5 p6 p7 p8 p9 p10 p11 p12 p13 p14 p15 p16 := hid_eq _
theorem p_l1Cur_someHeap (a0 : D_l1Cur) (a1 : Int) (a2 : Int) (a3 : Int) : P_l1Cur_someHeap (a0, a1, a2, a3, ()) = 
  Option.bind (P_spec_l2Empty (a1, a2, a3, ())) fun r0 =>
  Option.bind (P_l1Cur_among (a0, ([2, 3, 2, 4] : List Int), ())) fun r1 =>
  Option.bind (P_spec_l2Sides (a1, a2, a3, ())) fun r2 =>
  bif !r2.1 then
    some ((r0.1, ()), ((a0.1, r1.2.1.2), ()))
  else
    Option.bind (P_spec_l2All (r0.1, ())) fun r4 =>
    l_l1Cur_someHeap_6 N 0 0 0 ([] : List D_A3) r0.1.1 r0.1.2.1 r0.1.2.2.1 r0.1.2.2.2.1 a0.1 r1.2.1.2.1 r1.2.1.2.2.1 a1 a2 a3 r1.1.1 r4.1 0 := by
  rewrite [h_l1Cur_someHeap, h_l1Cur_someHeap_6]
  kernel_rfl
theorem q_l1Cur_someHeap_6 (m0 : Nat) (p0 : Int) (p1 : Int) (p2 : Int) (p3 : List D_A3) (p4 : Int) (p5 : Int) (p6 : Int) (p7 : List D_A3) (p8 : List Int) (p9 : Int) (p10 : Int) (p11 : Int) (p12 : Int) (p13 : Int) (p14 : Int) (p15 : List D_A3) (p16 : Int) : l_l1Cur_someHeap_6 (m0 + 1) p0 p1 p2 p3 p4 p5 p6 p7 p8 p9 p10 p11 p12 p13 p14 p15 p16 = 
  bif decide (p16 < (List.length p15 : Int)) then
    Option.bind (P_l1Cur_one ((p8, (p9, (p10, ()))), p14, ())) fun r1 =>
    bif r1.1.1 then
      bif inB p16 (List.length p15) then
        bif (decide (((List.length p7) + (List.length ([(nth T_A3 p15 p16)] : List D_A3))) * 24 ≤ 140737488355328) && decide (((List.length p7) + (List.length ([(nth T_A3 p15 p16)] : List D_A3))) ≤ 140737488355328)) then
          l_l1Cur_someHeap_6 m0 p0 p1 p2 p3 p4 p5 p6 (p7 ++ ([(nth T_A3 p15 p16)] : List D_A3)) p8 r1.2.1.2.1 r1.2.1.2.2.1 p11 p12 p13 p14 p15 (IntKind.wrap .i64 (p16 + 1))
        else none
      else none
    else
      l_l1Cur_someHeap_6 m0 p0 p1 p2 p3 p4 p5 p6 p7 p8 r1.2.1.2.1 r1.2.1.2.2.1 p11 p12 p13 p14 p15 (IntKind.wrap .i64 (p16 + 1))
  else
    Option.bind (P_l1Cur_pick ((p8, (p9, (p10, ()))), 12, ())) fun r1 =>
    bif decide (r1.1.1 = 0) then
      Option.bind (P_spec_OtherCells ((p4, (p5, (p6, (p7, ())))), ())) fun r3 =>
      some ((r3.1, ()), ((p8, r1.2.1.2), ()))
    else
      bif decide (r1.1.1 = 1) then
        Option.bind (P_spec_l2Heights ((p4, (p5, (p6, (p7, ())))), ())) fun r4 =>
        Option.bind (P_spec_l2Stack (p11, p12, p13, r4.1, ())) fun r5 =>
        some ((r5.1, ()), ((p8, r1.2.1.2), ()))
      else
        some (((p4, (p5, (p6, (p7, ())))), ()), ((p8, r1.2.1.2), ())) := by
  rewrite [h_l1Cur_someHeap_6]
  kernel_rfl

/- 96: loop.example/g01166/spec.l2Made -/
abbrev As_spec_l2Made : List ATy := [.data true T_Heap, .data false (.sl T_A3)]
abbrev R_spec_l2Made : List (Bool × Ty) := [(true, T_Heap)]
abbrev M_spec_l2Made : List RMode := [.pass 4]
abbrev Ft_spec_l2Made : Type := D_Heap × (List D_A3) × Unit → Option (D_Heap × Unit)
noncomputable def X_spec_l2Made (n : Nat) : Ctx := { types := TT, globals := [], con := [], keep := [], results := [.cell 4 26], ntmps := 13, n := n }
noncomputable def B_spec_l2Made : Code := (Tryz.f96.body).getD .skip
noncomputable def P_spec_l2Made : Ft_spec_l2Made := hid (runF (X_spec_l2Made N) B_spec_l2Made As_spec_l2Made R_spec_l2Made M_spec_l2Made)
theorem h_spec_l2Made : P_spec_l2Made = runF (X_spec_l2Made N) B_spec_l2Made As_spec_l2Made R_spec_l2Made M_spec_l2Made := hid_eq _
noncomputable def C_spec_l2Made : Contract := ⟨As_spec_l2Made, R_spec_l2Made, M_spec_l2Made, P_spec_l2Made⟩
theorem s_spec_l2Made : Sound Tryz.prog GG 96 C_spec_l2Made := by
  unfold C_spec_l2Made; rw [h_spec_l2Made]
  exact sound_of_run (fn := Tryz.f96) hmix hstable (tyOK_of ttOK) (hglob (X_spec_l2Made N)) (conOK_of (X := X_spec_l2Made N) trivial) (mconOK_of (X := X_spec_l2Made N) trivial) (by kernel_rfl) (by kernel_rfl) (by kernel_rfl) (by kernel_rfl) (by kernel_rfl) (of_decide_eq_true (by kernel_rfl))
theorem p_spec_l2Made (a0 : D_Heap) (a1 : List D_A3) : P_spec_l2Made (a0, a1, ()) = 
  some ((a0.1, (a0.2.1, (a0.2.2.1, (a1, ())))), ()) := by
  rewrite [h_spec_l2Made]
  kernel_rfl

/- 145: loop.example/g01166/spec.l2Own -/
abbrev As_spec_l2Own : List ATy := [.data true T_Heap]
abbrev R_spec_l2Own : List (Bool × Ty) := [(true, T_Heap)]
abbrev M_spec_l2Own : List RMode := [.own 55]
abbrev Ft_spec_l2Own : Type := D_Heap × Unit → Option (D_Heap × Unit)
noncomputable def X_spec_l2Own (n : Nat) (F_spec_l2Made : Ft_spec_l2Made) : Ctx := { types := TT, globals := [], con := [(96, ⟨As_spec_l2Made, R_spec_l2Made, M_spec_l2Made, F_spec_l2Made⟩)], keep := [], results := [.cell 2 26], ntmps := 9, n := n }
noncomputable def B_spec_l2Own : Code := (Tryz.f145.body).getD .skip
noncomputable def P_spec_l2Own : Ft_spec_l2Own := hid (runF (X_spec_l2Own N P_spec_l2Made) B_spec_l2Own As_spec_l2Own R_spec_l2Own M_spec_l2Own)
theorem h_spec_l2Own : P_spec_l2Own = runF (X_spec_l2Own N P_spec_l2Made) B_spec_l2Own As_spec_l2Own R_spec_l2Own M_spec_l2Own := hid_eq _
noncomputable def C_spec_l2Own : Contract := ⟨As_spec_l2Own, R_spec_l2Own, M_spec_l2Own, P_spec_l2Own⟩
theorem s_spec_l2Own : Sound Tryz.prog GG 145 C_spec_l2Own := by
  unfold C_spec_l2Own; rw [h_spec_l2Own]
  exact sound_of_run (fn := Tryz.f145) hmix hstable (tyOK_of ttOK) (hglob (X_spec_l2Own N P_spec_l2Made)) (conOK_of (X := X_spec_l2Own N P_spec_l2Made) ⟨s_spec_l2Made, trivial⟩) (mconOK_of (X := X_spec_l2Own N P_spec_l2Made) trivial) (by kernel_rfl) (by kernel_rfl) (by kernel_rfl) (by kernel_rfl) (by kernel_rfl) (of_decide_eq_true (by kernel_rfl))
theorem p_spec_l2Own (a0 : D_Heap) : P_spec_l2Own (a0, ()) = 
  bif (decide (((List.length ([] : List D_A3)) + (List.length a0.2.2.2.1)) * 24 ≤ 140737488355328) && decide (((List.length ([] : List D_A3)) + (List.length a0.2.2.2.1)) ≤ 140737488355328)) then
    Option.bind (P_spec_l2Made (a0, (([] : List D_A3) ++ a0.2.2.2.1), ())) fun r1 =>
    some ((r1.1.1, (r1.1.2.1, (r1.1.2.2.1, ((([] : List D_A3) ++ a0.2.2.2.1), ())))), ())
  else none := by
  rewrite [h_spec_l2Own]
  kernel_rfl

/- 136: loop.example/g01166/spec.l12Own -/
abbrev As_spec_l12Own : List ATy := [.data true T_Bench]
abbrev R_spec_l12Own : List (Bool × Ty) := [(true, T_Bench)]
abbrev M_spec_l12Own : List RMode := [.own 55]
abbrev Ft_spec_l12Own : Type := D_Bench × Unit → Option (D_Bench × Unit)
noncomputable def X_spec_l12Own (n : Nat) (F_spec_l2Own : Ft_spec_l2Own) : Ctx := { types := TT, globals := [], con := [(145, ⟨As_spec_l2Own, R_spec_l2Own, M_spec_l2Own, F_spec_l2Own⟩)], keep := [], results := [.cell 2 28], ntmps := 11, n := n }
noncomputable def B_spec_l12Own : Code := (Tryz.f136.body).getD .skip
noncomputable def P_spec_l12Own : Ft_spec_l12Own := hid (runF (X_spec_l12Own N P_spec_l2Own) B_spec_l12Own As_spec_l12Own R_spec_l12Own M_spec_l12Own)
theorem h_spec_l12Own : P_spec_l12Own = runF (X_spec_l12Own N P_spec_l2Own) B_spec_l12Own As_spec_l12Own R_spec_l12Own M_spec_l12Own := hid_eq _
noncomputable def C_spec_l12Own : Contract := ⟨As_spec_l12Own, R_spec_l12Own, M_spec_l12Own, P_spec_l12Own⟩
theorem s_spec_l12Own : Sound Tryz.prog GG 136 C_spec_l12Own := by
  unfold C_spec_l12Own; rw [h_spec_l12Own]
  exact sound_of_run (fn := Tryz.f136) hmix hstable (tyOK_of ttOK) (hglob (X_spec_l12Own N P_spec_l2Own)) (conOK_of (X := X_spec_l12Own N P_spec_l2Own) ⟨s_spec_l2Own, trivial⟩) (mconOK_of (X := X_spec_l12Own N P_spec_l2Own) trivial) (by kernel_rfl) (by kernel_rfl) (by kernel_rfl) (by kernel_rfl) (by kernel_rfl) (of_decide_eq_true (by kernel_rfl))
theorem p_spec_l12Own (a0 : D_Bench) : P_spec_l12Own (a0, ()) = 
  Option.bind (P_spec_l2Own (a0.1, ())) fun r0 =>
  some ((r0.1, a0.2), ()) := by
  rewrite [h_spec_l12Own]
  kernel_rfl

/- 113: loop.example/g01166/spec.NewBench -/
abbrev As_spec_NewBench : List ATy := [.data true T_Heap]
abbrev R_spec_NewBench : List (Bool × Ty) := [(true, T_Bench), (false, .bool)]
abbrev M_spec_NewBench : List RMode := [.own 55]
abbrev Ft_spec_NewBench : Type := D_Heap × Unit → Option (D_Bench × Bool × Unit)
noncomputable def X_spec_NewBench (n : Nat) (F_spec_l2Heap : Ft_spec_l2Heap) (F_spec_l12Own : Ft_spec_l12Own) : Ctx := { types := TT, globals := [], con := [(83, ⟨As_spec_l2Heap, R_spec_l2Heap, M_spec_l2Heap, F_spec_l2Heap⟩), (136, ⟨As_spec_l12Own, R_spec_l12Own, M_spec_l12Own, F_spec_l12Own⟩)], keep := [], results := [.cell 2 28, .tmp 3], ntmps := 14, n := n }
noncomputable def B_spec_NewBench : Code := (Tryz.f113.body).getD .skip
noncomputable def P_spec_NewBench : Ft_spec_NewBench := hid (runF (X_spec_NewBench N P_spec_l2Heap P_spec_l12Own) B_spec_NewBench As_spec_NewBench R_spec_NewBench M_spec_NewBench)
theorem h_spec_NewBench : P_spec_NewBench = runF (X_spec_NewBench N P_spec_l2Heap P_spec_l12Own) B_spec_NewBench As_spec_NewBench R_spec_NewBench M_spec_NewBench := hid_eq _
noncomputable def C_spec_NewBench : Contract := ⟨As_spec_NewBench, R_spec_NewBench, M_spec_NewBench, P_spec_NewBench⟩
theorem s_spec_NewBench : Sound Tryz.prog GG 113 C_spec_NewBench := by
  unfold C_spec_NewBench; rw [h_spec_NewBench]
  exact sound_of_run (fn := Tryz.f113) hmix hstable (tyOK_of ttOK) (hglob (X_spec_NewBench N P_spec_l2Heap P_spec_l12Own)) (conOK_of (X := X_spec_NewBench N P_spec_l2Heap P_spec_l12Own) ⟨s_spec_l2Heap, s_spec_l12Own, trivial⟩) (mconOK_of (X := X_spec_NewBench N P_spec_l2Heap P_spec_l12Own) trivial) (by kernel_rfl) (by kernel_rfl) (by kernel_rfl) (by kernel_rfl) (by kernel_rfl) (of_decide_eq_true (by kernel_rfl))
theorem p_spec_NewBench (a0 : D_Heap) : P_spec_NewBench (a0, ()) = 
  Option.bind (P_spec_l2Heap (a0, ())) fun r0 =>
  bif !r0.1 then
    some (((0, (0, (0, (([] : List D_A3), ())))), (0, (0, ()))), false, ())
  else
    Option.bind (P_spec_l12Own ((a0, ((List.length a0.2.2.2.1 : Int), (0, ()))), ())) fun r2 =>
    some (r2.1, true, ()) := by
  rewrite [h_spec_NewBench]
  kernel_rfl

/- 37: loop.example/g01166/spec.l12Good -/
abbrev As_spec_l12Good : List ATy := [.data true T_Bench]
abbrev R_spec_l12Good : List (Bool × Ty) := [(false, .bool)]
abbrev M_spec_l12Good : List RMode := []
abbrev Ft_spec_l12Good : Type := D_Bench × Unit → Option (Bool × Unit)
noncomputable def X_spec_l12Good (n : Nat) (F_spec_l1In : Ft_spec_l1In) (F_spec_l2Heap : Ft_spec_l2Heap) : Ctx := { types := TT, globals := [], con := [(67, ⟨As_spec_l1In, R_spec_l1In, M_spec_l1In, F_spec_l1In⟩), (83, ⟨As_spec_l2Heap, R_spec_l2Heap, M_spec_l2Heap, F_spec_l2Heap⟩)], keep := [], results := [.tmp 2], ntmps := 20, n := n }
noncomputable def B_spec_l12Good : Code := (Tryz.f37.body).getD .skip
noncomputable def P_spec_l12Good : Ft_spec_l12Good := hid (runF (X_spec_l12Good N P_spec_l1In P_spec_l2Heap) B_spec_l12Good As_spec_l12Good R_spec_l12Good M_spec_l12Good)
theorem h_spec_l12Good : P_spec_l12Good = runF (X_spec_l12Good N P_spec_l1In P_spec_l2Heap) B_spec_l12Good As_spec_l12Good R_spec_l12Good M_spec_l12Good := hid_eq _
noncomputable def C_spec_l12Good : Contract := ⟨As_spec_l12Good, R_spec_l12Good, M_spec_l12Good, P_spec_l12Good⟩
theorem s_spec_l12Good : Sound Tryz.prog GG 37 C_spec_l12Good := by
  unfold C_spec_l12Good; rw [h_spec_l12Good]
  exact sound_of_run (fn := Tryz.f37) hmix hstable (tyOK_of ttOK) (hglob (X_spec_l12Good N P_spec_l1In P_spec_l2Heap)) (conOK_of (X := X_spec_l12Good N P_spec_l1In P_spec_l2Heap) ⟨s_spec_l1In, s_spec_l2Heap, trivial⟩) (mconOK_of (X := X_spec_l12Good N P_spec_l1In P_spec_l2Heap) trivial) (by kernel_rfl) (by kernel_rfl) (by kernel_rfl) (by kernel_rfl) (by kernel_rfl) (of_decide_eq_true (by kernel_rfl))
theorem p_spec_l12Good (a0 : D_Bench) : P_spec_l12Good (a0, ()) = 
  Option.bind (P_spec_l2Heap (a0.1, ())) fun r0 =>
  bif r0.1 then
    Option.bind (P_spec_l1In (a0.2.2.1, 0, 1000, ())) fun r2 =>
    bif r2.1 then
      Option.bind (P_spec_l1In (a0.2.1, 0, (List.length a0.1.2.2.2.1 : Int), ())) fun r4 =>
      some (r4.1, ())
    else
      some (false, ())
  else
    some (false, ()) := by
  rewrite [h_spec_l12Good]
  kernel_rfl

/- 153: loop.example/g01166/spec.l2Cell -/
abbrev As_spec_l2Cell : List ATy := [.data true T_Heap, .data true T_A3]
abbrev R_spec_l2Cell : List (Bool × Ty) := [(false, .bool)]
abbrev M_spec_l2Cell : List RMode := []
abbrev Ft_spec_l2Cell : Type := D_Heap × D_A3 × Unit → Option (Bool × Unit)
noncomputable def X_spec_l2Cell (n : Nat) (F_spec_l2Heap : Ft_spec_l2Heap) (F_spec_l2In : Ft_spec_l2In) : Ctx := { types := TT, globals := [], con := [(83, ⟨As_spec_l2Heap, R_spec_l2Heap, M_spec_l2Heap, F_spec_l2Heap⟩), (116, ⟨As_spec_l2In, R_spec_l2In, M_spec_l2In, F_spec_l2In⟩)], keep := [], results := [.tmp 4], ntmps := 12, n := n }
noncomputable def B_spec_l2Cell : Code := (Tryz.f153.body).getD .skip
noncomputable def P_spec_l2Cell : Ft_spec_l2Cell := hid (runF (X_spec_l2Cell N P_spec_l2Heap P_spec_l2In) B_spec_l2Cell As_spec_l2Cell R_spec_l2Cell M_spec_l2Cell)
theorem h_spec_l2Cell : P_spec_l2Cell = runF (X_spec_l2Cell N P_spec_l2Heap P_spec_l2In) B_spec_l2Cell As_spec_l2Cell R_spec_l2Cell M_spec_l2Cell := hid_eq _
noncomputable def C_spec_l2Cell : Contract := ⟨As_spec_l2Cell, R_spec_l2Cell, M_spec_l2Cell, P_spec_l2Cell⟩
theorem s_spec_l2Cell : Sound Tryz.prog GG 153 C_spec_l2Cell := by
  unfold C_spec_l2Cell; rw [h_spec_l2Cell]
  exact sound_of_run (fn := Tryz.f153) hmix hstable (tyOK_of ttOK) (hglob (X_spec_l2Cell N P_spec_l2Heap P_spec_l2In)) (conOK_of (X := X_spec_l2Cell N P_spec_l2Heap P_spec_l2In) ⟨s_spec_l2Heap, s_spec_l2In, trivial⟩) (mconOK_of (X := X_spec_l2Cell N P_spec_l2Heap P_spec_l2In) trivial) (by kernel_rfl) (by kernel_rfl) (by kernel_rfl) (by kernel_rfl) (by kernel_rfl) (of_decide_eq_true (by kernel_rfl))
theorem p_spec_l2Cell (a0 : D_Heap) (a1 : D_A3) : P_spec_l2Cell (a0, a1, ()) = 
  Option.bind (P_spec_l2Heap (a0, ())) fun r0 =>
  bif r0.1 then
    Option.bind (P_spec_l2In (a0, a1, ())) fun r2 =>
    some (r2.1, ())
  else
    some (false, ()) := by
  rewrite [h_spec_l2Cell]
  kernel_rfl

/- 154: loop.example/g01166/spec.l2With -/
abbrev As_spec_l2With : List ATy := [.data true T_Heap, .data true T_A3]
abbrev R_spec_l2With : List (Bool × Ty) := [(true, T_Heap)]
abbrev M_spec_l2With : List RMode := [.own 55]
abbrev Ft_spec_l2With : Type := D_Heap × D_A3 × Unit → Option (D_Heap × Unit)
noncomputable def X_spec_l2With (n : Nat) (F_spec_l2Made : Ft_spec_l2Made) (F_spec_l2Before : Ft_spec_l2Before) (F_spec_l2Own : Ft_spec_l2Own) : Ctx := { types := TT, globals := [], con := [(96, ⟨As_spec_l2Made, R_spec_l2Made, M_spec_l2Made, F_spec_l2Made⟩), (117, ⟨As_spec_l2Before, R_spec_l2Before, M_spec_l2Before, F_spec_l2Before⟩), (145, ⟨As_spec_l2Own, R_spec_l2Own, M_spec_l2Own, F_spec_l2Own⟩)], keep := [(2, ⟨[.box 2, .box 3, .box 4, .tmp 2, .tmp 3, .tmp 4, .tmp 5], []⟩)], results := [.cell 4 26], ntmps := 54, n := n }
noncomputable def B_spec_l2With : Code := (Tryz.f154.body).getD .skip
noncomputable def L_spec_l2With_2 (n : Nat) (F_spec_l2Made : Ft_spec_l2Made) (F_spec_l2Before : Ft_spec_l2Before) (F_spec_l2Own : Ft_spec_l2Own) (m0 : Nat) (p0 : Int) (p1 : Int) (p2 : Int) (p3 : List D_A3) (p4 : Int) (p5 : Int) (p6 : Int) (p7 : Int) (p8 : Int) (p9 : Int) (p10 : List D_A3) (p11 : Int) : Option (denL R_spec_l2With) := loopF (X_spec_l2With n F_spec_l2Made F_spec_l2Before F_spec_l2Own) B_spec_l2With R_spec_l2With M_spec_l2With 2 [m0] [(.ver, .num 1), (.box 2, .box 0 false [.int .i64 p0, .int .i64 p1, .int .i64 p2, .imm T_A3 p3 (some 3)]), (.box 3, .box 0 false [.int .i64 p4, .int .i64 p5, .int .i64 p6]), (.box 4, .box 0 false [.int .i64 p7, .int .i64 p8, .int .i64 p9, .own 55 T_A3 0 p10]), (.tmp 2, .val false [.addr 2 0 0]), (.tmp 3, .val false [.addr 3 0 0]), (.tmp 4, .val false [.addr 4 0 0]), (.tmp 5, .val false [.int .i64 p11])]
noncomputable def P_spec_l2With : Ft_spec_l2With := hid (runF (X_spec_l2With N P_spec_l2Made P_spec_l2Before P_spec_l2Own) B_spec_l2With As_spec_l2With R_spec_l2With M_spec_l2With)
theorem h_spec_l2With : P_spec_l2With = runF (X_spec_l2With N P_spec_l2Made P_spec_l2Before P_spec_l2Own) B_spec_l2With As_spec_l2With R_spec_l2With M_spec_l2With := hid_eq _
noncomputable def C_spec_l2With : Contract := ⟨As_spec_l2With, R_spec_l2With, M_spec_l2With, P_spec_l2With⟩
theorem s_spec_l2With : Sound Tryz.prog GG 154 C_spec_l2With := by
  unfold C_spec_l2With; rw [h_spec_l2With]
  exact sound_of_run (fn := Tryz.f154) hmix hstable (tyOK_of ttOK) (hglob (X_spec_l2With N P_spec_l2Made P_spec_l2Before P_spec_l2Own)) (conOK_of (X := X_spec_l2With N P_spec_l2Made P_spec_l2Before P_spec_l2Own) ⟨s_spec_l2Made, s_spec_l2Before, s_spec_l2Own, trivial⟩) (mconOK_of (X := X_spec_l2With N P_spec_l2Made P_spec_l2Before P_spec_l2Own) trivial) (by kernel_rfl) (by kernel_rfl) (by kernel_rfl) (by kernel_rfl) (by kernel_rfl) (of_decide_eq_true (by kernel_rfl))
noncomputable def l_spec_l2With_2 : Nat → Int → Int → Int → (List D_A3) → Int → Int → Int → Int → Int → Int → (List D_A3) → Int → Option (denL R_spec_l2With) := hid (fun m0 p0 p1 p2 p3 p4 p5 p6 p7 p8 p9 p10 p11 => L_spec_l2With_2 N P_spec_l2Made P_spec_l2Before P_spec_l2Own m0 p0 p1 p2 p3 p4 p5 p6 p7 p8 p9 p10 p11)
theorem h_spec_l2With_2 : l_spec_l2With_2 = fun m0 p0 p1 p2 p3 p4 p5 p6 p7 p8 p9 p10 p11 => L_spec_l2With_2 N P_spec_l2Made P_spec_l2Before P_spec_l2Own m0 p0 p1 p2 p3 p4 p5 p6 p7 p8 p9 p10 p11 := hid_eq _
theorem p_spec_l2With (a0 : D_Heap) (a1 : D_A3) : P_spec_l2With (a0, a1, ()) = 
  l_spec_l2With_2 N a0.1 a0.2.1 a0.2.2.1 a0.2.2.2.1 a1.1 a1.2.1 a1.2.2.1 0 0 0 ([] : List D_A3) 0 := by
  rewrite [h_spec_l2With, h_spec_l2With_2]
  kernel_rfl
theorem q_spec_l2With_2 (m0 : Nat) (p0 : Int) (p1 : Int) (p2 : Int) (p3 : List D_A3) (p4 : Int) (p5 : Int) (p6 : Int) (p7 : Int) (p8 : Int) (p9 : Int) (p10 : List D_A3) (p11 : Int) : l_spec_l2With_2 (m0 + 1) p0 p1 p2 p3 p4 p5 p6 p7 p8 p9 p10 p11 = 
  bif decide (p11 < (List.length p3 : Int)) then
    bif inB p11 (List.length p3) then
      Option.bind (P_spec_l2Before ((nth T_A3 p3 p11), (p4, (p5, (p6, ()))), ())) fun r2 =>
      bif r2.1 then
        l_spec_l2With_2 m0 p0 p1 p2 p3 p4 p5 p6 p7 p8 p9 p10 (IntKind.wrap .i64 (p11 + 1))
      else
        bif decide (p11 < (List.length p3 : Int)) then
          bif inB p11 (List.length p3) then
            bif (decide (((nth T_A3 p3 p11)).1 = p4) && (decide ((((nth T_A3 p3 p11)).2).1 = p5) && (decide (((((nth T_A3 p3 p11)).2).2).1 = p6) && true))) then
              Option.bind (P_spec_l2Own ((p0, (p1, (p2, (p3, ())))), ())) fun r7 =>
              some (r7.1, ())
            else
              bif (decide ((0 : Int) ≤ 0) && decide ((0 : Int) ≤ p11) && decide (p11 ≤ (List.length p3 : Int))) then
                bif (decide (((List.length ([] : List D_A3)) + (List.length (cut p3 0 p11))) * 24 ≤ 140737488355328) && decide (((List.length ([] : List D_A3)) + (List.length (cut p3 0 p11))) ≤ 140737488355328)) then
                  bif (decide (((List.length (([] : List D_A3) ++ (cut p3 0 p11))) + (List.length ([(p4, (p5, (p6, ())))] : List D_A3))) * 24 ≤ 140737488355328) && decide (((List.length (([] : List D_A3) ++ (cut p3 0 p11))) + (List.length ([(p4, (p5, (p6, ())))] : List D_A3))) ≤ 140737488355328)) then
                    bif (decide ((0 : Int) ≤ p11) && decide (p11 ≤ (List.length p3 : Int)) && decide ((List.length p3 : Int) ≤ (List.length p3 : Int))) then
                      bif (decide (((List.length ((([] : List D_A3) ++ (cut p3 0 p11)) ++ ([(p4, (p5, (p6, ())))] : List D_A3))) + (List.length (cut p3 p11 (List.length p3 : Int)))) * 24 ≤ 140737488355328) && decide (((List.length ((([] : List D_A3) ++ (cut p3 0 p11)) ++ ([(p4, (p5, (p6, ())))] : List D_A3))) + (List.length (cut p3 p11 (List.length p3 : Int)))) ≤ 140737488355328)) then
                        Option.bind (P_spec_l2Made ((p0, (p1, (p2, (p3, ())))), (((([] : List D_A3) ++ (cut p3 0 p11)) ++ ([(p4, (p5, (p6, ())))] : List D_A3)) ++ (cut p3 p11 (List.length p3 : Int))), ())) fun r12 =>
                        some ((r12.1.1, (r12.1.2.1, (r12.1.2.2.1, ((((([] : List D_A3) ++ (cut p3 0 p11)) ++ ([(p4, (p5, (p6, ())))] : List D_A3)) ++ (cut p3 p11 (List.length p3 : Int))), ())))), ())
                      else none
                    else none
                  else none
                else none
              else none
          else none
        else
          bif (decide ((0 : Int) ≤ 0) && decide ((0 : Int) ≤ p11) && decide (p11 ≤ (List.length p3 : Int))) then
            bif (decide (((List.length ([] : List D_A3)) + (List.length (cut p3 0 p11))) * 24 ≤ 140737488355328) && decide (((List.length ([] : List D_A3)) + (List.length (cut p3 0 p11))) ≤ 140737488355328)) then
              bif (decide (((List.length (([] : List D_A3) ++ (cut p3 0 p11))) + (List.length ([(p4, (p5, (p6, ())))] : List D_A3))) * 24 ≤ 140737488355328) && decide (((List.length (([] : List D_A3) ++ (cut p3 0 p11))) + (List.length ([(p4, (p5, (p6, ())))] : List D_A3))) ≤ 140737488355328)) then
                bif (decide ((0 : Int) ≤ p11) && decide (p11 ≤ (List.length p3 : Int)) && decide ((List.length p3 : Int) ≤ (List.length p3 : Int))) then
                  bif (decide (((List.length ((([] : List D_A3) ++ (cut p3 0 p11)) ++ ([(p4, (p5, (p6, ())))] : List D_A3))) + (List.length (cut p3 p11 (List.length p3 : Int)))) * 24 ≤ 140737488355328) && decide (((List.length ((([] : List D_A3) ++ (cut p3 0 p11)) ++ ([(p4, (p5, (p6, ())))] : List D_A3))) + (List.length (cut p3 p11 (List.length p3 : Int)))) ≤ 140737488355328)) then
                    Option.bind (P_spec_l2Made ((p0, (p1, (p2, (p3, ())))), (((([] : List D_A3) ++ (cut p3 0 p11)) ++ ([(p4, (p5, (p6, ())))] : List D_A3)) ++ (cut p3 p11 (List.length p3 : Int))), ())) fun r10 =>
                    some ((r10.1.1, (r10.1.2.1, (r10.1.2.2.1, ((((([] : List D_A3) ++ (cut p3 0 p11)) ++ ([(p4, (p5, (p6, ())))] : List D_A3)) ++ (cut p3 p11 (List.length p3 : Int))), ())))), ())
                  else none
                else none
              else none
            else none
          else none
    else none
  else
    bif decide (p11 < (List.length p3 : Int)) then
      bif inB p11 (List.length p3) then
        bif (decide (((nth T_A3 p3 p11)).1 = p4) && (decide ((((nth T_A3 p3 p11)).2).1 = p5) && (decide (((((nth T_A3 p3 p11)).2).2).1 = p6) && true))) then
          Option.bind (P_spec_l2Own ((p0, (p1, (p2, (p3, ())))), ())) fun r4 =>
          some (r4.1, ())
        else
          bif (decide ((0 : Int) ≤ 0) && decide ((0 : Int) ≤ p11) && decide (p11 ≤ (List.length p3 : Int))) then
            bif (decide (((List.length ([] : List D_A3)) + (List.length (cut p3 0 p11))) * 24 ≤ 140737488355328) && decide (((List.length ([] : List D_A3)) + (List.length (cut p3 0 p11))) ≤ 140737488355328)) then
              bif (decide (((List.length (([] : List D_A3) ++ (cut p3 0 p11))) + (List.length ([(p4, (p5, (p6, ())))] : List D_A3))) * 24 ≤ 140737488355328) && decide (((List.length (([] : List D_A3) ++ (cut p3 0 p11))) + (List.length ([(p4, (p5, (p6, ())))] : List D_A3))) ≤ 140737488355328)) then
                bif (decide ((0 : Int) ≤ p11) && decide (p11 ≤ (List.length p3 : Int)) && decide ((List.length p3 : Int) ≤ (List.length p3 : Int))) then
                  bif (decide (((List.length ((([] : List D_A3) ++ (cut p3 0 p11)) ++ ([(p4, (p5, (p6, ())))] : List D_A3))) + (List.length (cut p3 p11 (List.length p3 : Int)))) * 24 ≤ 140737488355328) && decide (((List.length ((([] : List D_A3) ++ (cut p3 0 p11)) ++ ([(p4, (p5, (p6, ())))] : List D_A3))) + (List.length (cut p3 p11 (List.length p3 : Int)))) ≤ 140737488355328)) then
                    Option.bind (P_spec_l2Made ((p0, (p1, (p2, (p3, ())))), (((([] : List D_A3) ++ (cut p3 0 p11)) ++ ([(p4, (p5, (p6, ())))] : List D_A3)) ++ (cut p3 p11 (List.length p3 : Int))), ())) fun r9 =>
                    some ((r9.1.1, (r9.1.2.1, (r9.1.2.2.1, ((((([] : List D_A3) ++ (cut p3 0 p11)) ++ ([(p4, (p5, (p6, ())))] : List D_A3)) ++ (cut p3 p11 (List.length p3 : Int))), ())))), ())
                  else none
                else none
              else none
            else none
          else none
      else none
    else
      bif (decide ((0 : Int) ≤ 0) && decide ((0 : Int) ≤ p11) && decide (p11 ≤ (List.length p3 : Int))) then
        bif (decide (((List.length ([] : List D_A3)) + (List.length (cut p3 0 p11))) * 24 ≤ 140737488355328) && decide (((List.length ([] : List D_A3)) + (List.length (cut p3 0 p11))) ≤ 140737488355328)) then
          bif (decide (((List.length (([] : List D_A3) ++ (cut p3 0 p11))) + (List.length ([(p4, (p5, (p6, ())))] : List D_A3))) * 24 ≤ 140737488355328) && decide (((List.length (([] : List D_A3) ++ (cut p3 0 p11))) + (List.length ([(p4, (p5, (p6, ())))] : List D_A3))) ≤ 140737488355328)) then
            bif (decide ((0 : Int) ≤ p11) && decide (p11 ≤ (List.length p3 : Int)) && decide ((List.length p3 : Int) ≤ (List.length p3 : Int))) then
              bif (decide (((List.length ((([] : List D_A3) ++ (cut p3 0 p11)) ++ ([(p4, (p5, (p6, ())))] : List D_A3))) + (List.length (cut p3 p11 (List.length p3 : Int)))) * 24 ≤ 140737488355328) && decide (((List.length ((([] : List D_A3) ++ (cut p3 0 p11)) ++ ([(p4, (p5, (p6, ())))] : List D_A3))) + (List.length (cut p3 p11 (List.length p3 : Int)))) ≤ 140737488355328)) then
                Option.bind (P_spec_l2Made ((p0, (p1, (p2, (p3, ())))), (((([] : List D_A3) ++ (cut p3 0 p11)) ++ ([(p4, (p5, (p6, ())))] : List D_A3)) ++ (cut p3 p11 (List.length p3 : Int))), ())) fun r7 =>
                some ((r7.1.1, (r7.1.2.1, (r7.1.2.2.1, ((((([] : List D_A3) ++ (cut p3 0 p11)) ++ ([(p4, (p5, (p6, ())))] : List D_A3)) ++ (cut p3 p11 (List.length p3 : Int))), ())))), ())
              else none
            else none
          else none
        else none
      else none := by
  rewrite [h_spec_l2With_2]
  kernel_rfl

/- 146: loop.example/g01166/spec.PutCube -/
abbrev As_spec_PutCube : List ATy := [.data true T_Heap, .data true T_A3]
abbrev R_spec_PutCube : List (Bool × Ty) := [(true, T_Heap), (false, .bool)]
abbrev M_spec_PutCube : List RMode := [.own 55]
abbrev Ft_spec_PutCube : Type := D_Heap × D_A3 × Unit → Option (D_Heap × Bool × Unit)
noncomputable def X_spec_PutCube (n : Nat) (F_spec_l2Has : Ft_spec_l2Has) (F_spec_l2Cell : Ft_spec_l2Cell) (F_spec_l2With : Ft_spec_l2With) : Ctx := { types := TT, globals := [], con := [(144, ⟨As_spec_l2Has, R_spec_l2Has, M_spec_l2Has, F_spec_l2Has⟩), (153, ⟨As_spec_l2Cell, R_spec_l2Cell, M_spec_l2Cell, F_spec_l2Cell⟩), (154, ⟨As_spec_l2With, R_spec_l2With, M_spec_l2With, F_spec_l2With⟩)], keep := [], results := [.cell 4 26, .tmp 5], ntmps := 19, n := n }
noncomputable def B_spec_PutCube : Code := (Tryz.f146.body).getD .skip
noncomputable def P_spec_PutCube : Ft_spec_PutCube := hid (runF (X_spec_PutCube N P_spec_l2Has P_spec_l2Cell P_spec_l2With) B_spec_PutCube As_spec_PutCube R_spec_PutCube M_spec_PutCube)
theorem h_spec_PutCube : P_spec_PutCube = runF (X_spec_PutCube N P_spec_l2Has P_spec_l2Cell P_spec_l2With) B_spec_PutCube As_spec_PutCube R_spec_PutCube M_spec_PutCube := hid_eq _
noncomputable def C_spec_PutCube : Contract := ⟨As_spec_PutCube, R_spec_PutCube, M_spec_PutCube, P_spec_PutCube⟩
theorem s_spec_PutCube : Sound Tryz.prog GG 146 C_spec_PutCube := by
  unfold C_spec_PutCube; rw [h_spec_PutCube]
  exact sound_of_run (fn := Tryz.f146) hmix hstable (tyOK_of ttOK) (hglob (X_spec_PutCube N P_spec_l2Has P_spec_l2Cell P_spec_l2With)) (conOK_of (X := X_spec_PutCube N P_spec_l2Has P_spec_l2Cell P_spec_l2With) ⟨s_spec_l2Has, s_spec_l2Cell, s_spec_l2With, trivial⟩) (mconOK_of (X := X_spec_PutCube N P_spec_l2Has P_spec_l2Cell P_spec_l2With) trivial) (by kernel_rfl) (by kernel_rfl) (by kernel_rfl) (by kernel_rfl) (by kernel_rfl) (of_decide_eq_true (by kernel_rfl))
theorem p_spec_PutCube (a0 : D_Heap) (a1 : D_A3) : P_spec_PutCube (a0, a1, ()) = 
  Option.bind (P_spec_l2Cell (a0, a1, ())) fun r0 =>
  bif !r0.1 then
    some ((0, (0, (0, (([] : List D_A3), ())))), false, ())
  else
    Option.bind (P_spec_l2Has (a0, a1, ())) fun r2 =>
    bif r2.1 then
      some ((0, (0, (0, (([] : List D_A3), ())))), false, ())
    else
      Option.bind (P_spec_l2With (a0, a1, ())) fun r4 =>
      some (r4.1, true, ()) := by
  rewrite [h_spec_PutCube]
  kernel_rfl

/- 155: loop.example/g01166/spec.l2Without -/
abbrev As_spec_l2Without : List ATy := [.data true T_Heap, .data true T_A3]
abbrev R_spec_l2Without : List (Bool × Ty) := [(true, T_Heap)]
abbrev M_spec_l2Without : List RMode := [.own 55]
abbrev Ft_spec_l2Without : Type := D_Heap × D_A3 × Unit → Option (D_Heap × Unit)
noncomputable def X_spec_l2Without (n : Nat) (F_spec_l2Empty : Ft_spec_l2Empty) : Ctx := { types := TT, globals := [], con := [(97, ⟨As_spec_l2Empty, R_spec_l2Empty, M_spec_l2Empty, F_spec_l2Empty⟩)], keep := [(3, ⟨[.box 2, .box 3, .box 4, .box 5, .tmp 2, .tmp 3, .tmp 4, .tmp 5, .tmp 6], []⟩)], results := [.cell 4 26], ntmps := 39, n := n }
noncomputable def B_spec_l2Without : Code := (Tryz.f155.body).getD .skip
noncomputable def L_spec_l2Without_3 (n : Nat) (F_spec_l2Empty : Ft_spec_l2Empty) (m0 : Nat) (p0 : Int) (p1 : Int) (p2 : Int) (p3 : List D_A3) (p4 : Int) (p5 : Int) (p6 : Int) (p7 : Int) (p8 : Int) (p9 : Int) (p10 : List D_A3) (p11 : Int) (p12 : Int) (p13 : Int) (p14 : List D_A3) (p15 : Int) : Option (denL R_spec_l2Without) := loopF (X_spec_l2Without n F_spec_l2Empty) B_spec_l2Without R_spec_l2Without M_spec_l2Without 3 [m0] [(.ver, .num 1), (.box 2, .box 0 false [.int .i64 p0, .int .i64 p1, .int .i64 p2, .imm T_A3 p3 (some 3)]), (.box 3, .box 0 false [.int .i64 p4, .int .i64 p5, .int .i64 p6]), (.box 4, .box 0 false [.int .i64 p7, .int .i64 p8, .int .i64 p9, .own 55 T_A3 0 p10]), (.box 5, .box 0 false [.int .i64 p11, .int .i64 p12, .int .i64 p13, .own 55 T_A3 0 p14]), (.tmp 2, .val false [.addr 2 0 0]), (.tmp 3, .val false [.addr 3 0 0]), (.tmp 4, .val false [.addr 4 0 0]), (.tmp 5, .val false [.addr 5 0 0]), (.tmp 6, .val false [.int .i64 p15])]
noncomputable def P_spec_l2Without : Ft_spec_l2Without := hid (runF (X_spec_l2Without N P_spec_l2Empty) B_spec_l2Without As_spec_l2Without R_spec_l2Without M_spec_l2Without)
theorem h_spec_l2Without : P_spec_l2Without = runF (X_spec_l2Without N P_spec_l2Empty) B_spec_l2Without As_spec_l2Without R_spec_l2Without M_spec_l2Without := hid_eq _
noncomputable def C_spec_l2Without : Contract := ⟨As_spec_l2Without, R_spec_l2Without, M_spec_l2Without, P_spec_l2Without⟩
theorem s_spec_l2Without : Sound Tryz.prog GG 155 C_spec_l2Without := by
  unfold C_spec_l2Without; rw [h_spec_l2Without]
  exact sound_of_run (fn := Tryz.f155) hmix hstable (tyOK_of ttOK) (hglob (X_spec_l2Without N P_spec_l2Empty)) (conOK_of (X := X_spec_l2Without N P_spec_l2Empty) ⟨s_spec_l2Empty, trivial⟩) (mconOK_of (X := X_spec_l2Without N P_spec_l2Empty) trivial) (by kernel_rfl) (by kernel_rfl) (by kernel_rfl) (by kernel_rfl) (by kernel_rfl) (of_decide_eq_true (by kernel_rfl))
noncomputable def l_spec_l2Without_3 : Nat → Int → Int → Int → (List D_A3) → Int → Int → Int → Int → Int → Int → (List D_A3) → Int → Int → Int → (List D_A3) → Int → Option (denL R_spec_l2Without) := hid (fun m0 p0 p1 p2 p3 p4 p5 p6 p7 p8 p9 p10 p11 p12 p13 p14 p15 => L_spec_l2Without_3 N P_spec_l2Empty m0 p0 p1 p2 p3 p4 p5 p6 p7 p8 p9 p10 p11 p12 p13 p14 p15)
theorem h_spec_l2Without_3 : l_spec_l2Without_3 = fun m0 p0 p1 p2 p3 p4 p5 p6 p7 p8 p9 p10 p11 p12 p13 p14 p15 => L_spec_l2Without_3 N P_spec_l2Empty m0 p0 p1 p2 p3 p4 p5 p6 p7 p8 p9 p10 p11 p12 p13 p14 p15 := hid_eq _
theorem p_spec_l2Without (a0 : D_Heap) (a1 : D_A3) : P_spec_l2Without (a0, a1, ()) = 
  Option.bind (P_spec_l2Empty (a0.1, a0.2.1, a0.2.2.1, ())) fun r0 =>
  l_spec_l2Without_3 N a0.1 a0.2.1 a0.2.2.1 a0.2.2.2.1 a1.1 a1.2.1 a1.2.2.1 0 0 0 ([] : List D_A3) r0.1.1 r0.1.2.1 r0.1.2.2.1 r0.1.2.2.2.1 0 := by
  rewrite [h_spec_l2Without, h_spec_l2Without_3]
  kernel_rfl
theorem q_spec_l2Without_3 (m0 : Nat) (p0 : Int) (p1 : Int) (p2 : Int) (p3 : List D_A3) (p4 : Int) (p5 : Int) (p6 : Int) (p7 : Int) (p8 : Int) (p9 : Int) (p10 : List D_A3) (p11 : Int) (p12 : Int) (p13 : Int) (p14 : List D_A3) (p15 : Int) : l_spec_l2Without_3 (m0 + 1) p0 p1 p2 p3 p4 p5 p6 p7 p8 p9 p10 p11 p12 p13 p14 p15 = 
  bif decide (p15 < (List.length p3 : Int)) then
    bif inB p15 (List.length p3) then
      bif !(decide (((nth T_A3 p3 p15)).1 = p4) && (decide ((((nth T_A3 p3 p15)).2).1 = p5) && (decide (((((nth T_A3 p3 p15)).2).2).1 = p6) && true))) then
        bif inB p15 (List.length p3) then
          bif (decide (((List.length p14) + (List.length ([(nth T_A3 p3 p15)] : List D_A3))) * 24 ≤ 140737488355328) && decide (((List.length p14) + (List.length ([(nth T_A3 p3 p15)] : List D_A3))) ≤ 140737488355328)) then
            l_spec_l2Without_3 m0 p0 p1 p2 p3 p4 p5 p6 p7 p8 p9 p10 p11 p12 p13 (p14 ++ ([(nth T_A3 p3 p15)] : List D_A3)) (IntKind.wrap .i64 (p15 + 1))
          else none
        else none
      else
        l_spec_l2Without_3 m0 p0 p1 p2 p3 p4 p5 p6 p7 p8 p9 p10 p11 p12 p13 p14 (IntKind.wrap .i64 (p15 + 1))
    else none
  else
    some ((p11, (p12, (p13, (p14, ())))), ()) := by
  rewrite [h_spec_l2Without_3]
  kernel_rfl

/- 147: loop.example/g01166/spec.TakeCube -/
abbrev As_spec_TakeCube : List ATy := [.data true T_Heap, .data true T_A3]
abbrev R_spec_TakeCube : List (Bool × Ty) := [(true, T_Heap), (false, .bool)]
abbrev M_spec_TakeCube : List RMode := [.own 55]
abbrev Ft_spec_TakeCube : Type := D_Heap × D_A3 × Unit → Option (D_Heap × Bool × Unit)
noncomputable def X_spec_TakeCube (n : Nat) (F_spec_l2Has : Ft_spec_l2Has) (F_spec_l2Cell : Ft_spec_l2Cell) (F_spec_l2Without : Ft_spec_l2Without) : Ctx := { types := TT, globals := [], con := [(144, ⟨As_spec_l2Has, R_spec_l2Has, M_spec_l2Has, F_spec_l2Has⟩), (153, ⟨As_spec_l2Cell, R_spec_l2Cell, M_spec_l2Cell, F_spec_l2Cell⟩), (155, ⟨As_spec_l2Without, R_spec_l2Without, M_spec_l2Without, F_spec_l2Without⟩)], keep := [], results := [.cell 4 26, .tmp 5], ntmps := 20, n := n }
noncomputable def B_spec_TakeCube : Code := (Tryz.f147.body).getD .skip
noncomputable def P_spec_TakeCube : Ft_spec_TakeCube := hid (runF (X_spec_TakeCube N P_spec_l2Has P_spec_l2Cell P_spec_l2Without) B_spec_TakeCube As_spec_TakeCube R_spec_TakeCube M_spec_TakeCube)
theorem h_spec_TakeCube : P_spec_TakeCube = runF (X_spec_TakeCube N P_spec_l2Has P_spec_l2Cell P_spec_l2Without) B_spec_TakeCube As_spec_TakeCube R_spec_TakeCube M_spec_TakeCube := hid_eq _
noncomputable def C_spec_TakeCube : Contract := ⟨As_spec_TakeCube, R_spec_TakeCube, M_spec_TakeCube, P_spec_TakeCube⟩
theorem s_spec_TakeCube : Sound Tryz.prog GG 147 C_spec_TakeCube := by
  unfold C_spec_TakeCube; rw [h_spec_TakeCube]
  exact sound_of_run (fn := Tryz.f147) hmix hstable (tyOK_of ttOK) (hglob (X_spec_TakeCube N P_spec_l2Has P_spec_l2Cell P_spec_l2Without)) (conOK_of (X := X_spec_TakeCube N P_spec_l2Has P_spec_l2Cell P_spec_l2Without) ⟨s_spec_l2Has, s_spec_l2Cell, s_spec_l2Without, trivial⟩) (mconOK_of (X := X_spec_TakeCube N P_spec_l2Has P_spec_l2Cell P_spec_l2Without) trivial) (by kernel_rfl) (by kernel_rfl) (by kernel_rfl) (by kernel_rfl) (by kernel_rfl) (of_decide_eq_true (by kernel_rfl))
theorem p_spec_TakeCube (a0 : D_Heap) (a1 : D_A3) : P_spec_TakeCube (a0, a1, ()) = 
  Option.bind (P_spec_l2Cell (a0, a1, ())) fun r0 =>
  bif !r0.1 then
    some ((0, (0, (0, (([] : List D_A3), ())))), false, ())
  else
    Option.bind (P_spec_l2Has (a0, a1, ())) fun r2 =>
    bif !r2.1 then
      some ((0, (0, (0, (([] : List D_A3), ())))), false, ())
    else
      Option.bind (P_spec_l2Without (a0, a1, ())) fun r4 =>
      some (r4.1, true, ()) := by
  rewrite [h_spec_TakeCube]
  kernel_rfl

/- 156: loop.example/g01166/spec.l7Drop -/
abbrev As_spec_l7Drop : List ATy := [.data true T_Heap]
abbrev R_spec_l7Drop : List (Bool × Ty) := [(true, T_Heap)]
abbrev M_spec_l7Drop : List RMode := [.own 55]
abbrev Ft_spec_l7Drop : Type := D_Heap × Unit → Option (D_Heap × Unit)
noncomputable def X_spec_l7Drop (n : Nat) (F_spec_l2Stack : Ft_spec_l2Stack) (F_spec_l2Heights : Ft_spec_l2Heights) : Ctx := { types := TT, globals := [], con := [(126, ⟨As_spec_l2Stack, R_spec_l2Stack, M_spec_l2Stack, F_spec_l2Stack⟩), (127, ⟨As_spec_l2Heights, R_spec_l2Heights, M_spec_l2Heights, F_spec_l2Heights⟩)], keep := [], results := [.cell 2 26], ntmps := 12, n := n }
noncomputable def B_spec_l7Drop : Code := (Tryz.f156.body).getD .skip
noncomputable def P_spec_l7Drop : Ft_spec_l7Drop := hid (runF (X_spec_l7Drop N P_spec_l2Stack P_spec_l2Heights) B_spec_l7Drop As_spec_l7Drop R_spec_l7Drop M_spec_l7Drop)
theorem h_spec_l7Drop : P_spec_l7Drop = runF (X_spec_l7Drop N P_spec_l2Stack P_spec_l2Heights) B_spec_l7Drop As_spec_l7Drop R_spec_l7Drop M_spec_l7Drop := hid_eq _
noncomputable def C_spec_l7Drop : Contract := ⟨As_spec_l7Drop, R_spec_l7Drop, M_spec_l7Drop, P_spec_l7Drop⟩
theorem s_spec_l7Drop : Sound Tryz.prog GG 156 C_spec_l7Drop := by
  unfold C_spec_l7Drop; rw [h_spec_l7Drop]
  exact sound_of_run (fn := Tryz.f156) hmix hstable (tyOK_of ttOK) (hglob (X_spec_l7Drop N P_spec_l2Stack P_spec_l2Heights)) (conOK_of (X := X_spec_l7Drop N P_spec_l2Stack P_spec_l2Heights) ⟨s_spec_l2Stack, s_spec_l2Heights, trivial⟩) (mconOK_of (X := X_spec_l7Drop N P_spec_l2Stack P_spec_l2Heights) trivial) (by kernel_rfl) (by kernel_rfl) (by kernel_rfl) (by kernel_rfl) (by kernel_rfl) (of_decide_eq_true (by kernel_rfl))
theorem p_spec_l7Drop (a0 : D_Heap) : P_spec_l7Drop (a0, ()) = 
  Option.bind (P_spec_l2Heights (a0, ())) fun r0 =>
  Option.bind (P_spec_l2Stack (a0.1, a0.2.1, a0.2.2.1, r0.1, ())) fun r1 =>
  some (r1.1, ()) := by
  rewrite [h_spec_l7Drop]
  kernel_rfl

/- 148: loop.example/g01166/spec.DropHeap -/
abbrev As_spec_DropHeap : List ATy := [.data true T_Heap]
abbrev R_spec_DropHeap : List (Bool × Ty) := [(true, T_Heap), (false, .bool)]
abbrev M_spec_DropHeap : List RMode := [.own 55]
abbrev Ft_spec_DropHeap : Type := D_Heap × Unit → Option (D_Heap × Bool × Unit)
noncomputable def X_spec_DropHeap (n : Nat) (F_spec_l2Heap : Ft_spec_l2Heap) (F_spec_l7Drop : Ft_spec_l7Drop) : Ctx := { types := TT, globals := [], con := [(83, ⟨As_spec_l2Heap, R_spec_l2Heap, M_spec_l2Heap, F_spec_l2Heap⟩), (156, ⟨As_spec_l7Drop, R_spec_l7Drop, M_spec_l7Drop, F_spec_l7Drop⟩)], keep := [], results := [.cell 2 26, .tmp 3], ntmps := 10, n := n }
noncomputable def B_spec_DropHeap : Code := (Tryz.f148.body).getD .skip
noncomputable def P_spec_DropHeap : Ft_spec_DropHeap := hid (runF (X_spec_DropHeap N P_spec_l2Heap P_spec_l7Drop) B_spec_DropHeap As_spec_DropHeap R_spec_DropHeap M_spec_DropHeap)
theorem h_spec_DropHeap : P_spec_DropHeap = runF (X_spec_DropHeap N P_spec_l2Heap P_spec_l7Drop) B_spec_DropHeap As_spec_DropHeap R_spec_DropHeap M_spec_DropHeap := hid_eq _
noncomputable def C_spec_DropHeap : Contract := ⟨As_spec_DropHeap, R_spec_DropHeap, M_spec_DropHeap, P_spec_DropHeap⟩
theorem s_spec_DropHeap : Sound Tryz.prog GG 148 C_spec_DropHeap := by
  unfold C_spec_DropHeap; rw [h_spec_DropHeap]
  exact sound_of_run (fn := Tryz.f148) hmix hstable (tyOK_of ttOK) (hglob (X_spec_DropHeap N P_spec_l2Heap P_spec_l7Drop)) (conOK_of (X := X_spec_DropHeap N P_spec_l2Heap P_spec_l7Drop) ⟨s_spec_l2Heap, s_spec_l7Drop, trivial⟩) (mconOK_of (X := X_spec_DropHeap N P_spec_l2Heap P_spec_l7Drop) trivial) (by kernel_rfl) (by kernel_rfl) (by kernel_rfl) (by kernel_rfl) (by kernel_rfl) (of_decide_eq_true (by kernel_rfl))
theorem p_spec_DropHeap (a0 : D_Heap) : P_spec_DropHeap (a0, ()) = 
  Option.bind (P_spec_l2Heap (a0, ())) fun r0 =>
  bif !r0.1 then
    some ((0, (0, (0, (([] : List D_A3), ())))), false, ())
  else
    Option.bind (P_spec_l7Drop (a0, ())) fun r2 =>
    some (r2.1, true, ()) := by
  rewrite [h_spec_DropHeap]
  kernel_rfl

/- 118: loop.example/g01166/spec.l1Most -/
abbrev As_spec_l1Most : List ATy := [.data false (.int .i64), .data false (.int .i64)]
abbrev R_spec_l1Most : List (Bool × Ty) := [(false, (.int .i64))]
abbrev M_spec_l1Most : List RMode := []
abbrev Ft_spec_l1Most : Type := Int × Int × Unit → Option (Int × Unit)
noncomputable def X_spec_l1Most (n : Nat) : Ctx := { types := TT, globals := [], con := [], keep := [], results := [.tmp 4], ntmps := 10, n := n }
noncomputable def B_spec_l1Most : Code := (Tryz.f118.body).getD .skip
noncomputable def P_spec_l1Most : Ft_spec_l1Most := hid (runF (X_spec_l1Most N) B_spec_l1Most As_spec_l1Most R_spec_l1Most M_spec_l1Most)
theorem h_spec_l1Most : P_spec_l1Most = runF (X_spec_l1Most N) B_spec_l1Most As_spec_l1Most R_spec_l1Most M_spec_l1Most := hid_eq _
noncomputable def C_spec_l1Most : Contract := ⟨As_spec_l1Most, R_spec_l1Most, M_spec_l1Most, P_spec_l1Most⟩
theorem s_spec_l1Most : Sound Tryz.prog GG 118 C_spec_l1Most := by
  unfold C_spec_l1Most; rw [h_spec_l1Most]
  exact sound_of_run (fn := Tryz.f118) hmix hstable (tyOK_of ttOK) (hglob (X_spec_l1Most N)) (conOK_of (X := X_spec_l1Most N) trivial) (mconOK_of (X := X_spec_l1Most N) trivial) (by kernel_rfl) (by kernel_rfl) (by kernel_rfl) (by kernel_rfl) (by kernel_rfl) (of_decide_eq_true (by kernel_rfl))
theorem p_spec_l1Most (a0 : Int) (a1 : Int) : P_spec_l1Most (a0, a1, ()) = 
  bif decide (a0 > a1) then
    some (a0, ())
  else
    some (a1, ()) := by
  rewrite [h_spec_l1Most]
  kernel_rfl

/- 162: loop.example/g01166/spec.l2Apart -/
abbrev As_spec_l2Apart : List ATy := [.data true T_A3, .data true T_A3]
abbrev R_spec_l2Apart : List (Bool × Ty) := [(false, (.int .i64))]
abbrev M_spec_l2Apart : List RMode := []
abbrev Ft_spec_l2Apart : Type := D_A3 × D_A3 × Unit → Option (Int × Unit)
noncomputable def X_spec_l2Apart (n : Nat) (F_spec_l1Most : Ft_spec_l1Most) : Ctx := { types := TT, globals := [], con := [(118, ⟨As_spec_l1Most, R_spec_l1Most, M_spec_l1Most, F_spec_l1Most⟩)], keep := [(3, ⟨[.box 2, .box 3, .tmp 2, .tmp 3, .tmp 5, .tmp 6], []⟩)], results := [.tmp 4], ntmps := 29, n := n }
noncomputable def B_spec_l2Apart : Code := (Tryz.f162.body).getD .skip
noncomputable def L_spec_l2Apart_3 (n : Nat) (F_spec_l1Most : Ft_spec_l1Most) (m0 : Nat) (p0 : Int) (p1 : Int) (p2 : Int) (p3 : Int) (p4 : Int) (p5 : Int) (p6 : Int) (p7 : Int) : Option (denL R_spec_l2Apart) := loopF (X_spec_l2Apart n F_spec_l1Most) B_spec_l2Apart R_spec_l2Apart M_spec_l2Apart 3 [m0] [(.ver, .num 1), (.box 2, .box 0 false [.int .i64 p0, .int .i64 p1, .int .i64 p2]), (.box 3, .box 0 false [.int .i64 p3, .int .i64 p4, .int .i64 p5]), (.tmp 2, .val false [.addr 2 0 0]), (.tmp 3, .val false [.addr 3 0 0]), (.tmp 5, .val false [.int .i64 p6]), (.tmp 6, .val false [.int .i64 p7])]
noncomputable def P_spec_l2Apart : Ft_spec_l2Apart := hid (runF (X_spec_l2Apart N P_spec_l1Most) B_spec_l2Apart As_spec_l2Apart R_spec_l2Apart M_spec_l2Apart)
theorem h_spec_l2Apart : P_spec_l2Apart = runF (X_spec_l2Apart N P_spec_l1Most) B_spec_l2Apart As_spec_l2Apart R_spec_l2Apart M_spec_l2Apart := hid_eq _
noncomputable def C_spec_l2Apart : Contract := ⟨As_spec_l2Apart, R_spec_l2Apart, M_spec_l2Apart, P_spec_l2Apart⟩
theorem s_spec_l2Apart : Sound Tryz.prog GG 162 C_spec_l2Apart := by
  unfold C_spec_l2Apart; rw [h_spec_l2Apart]
  exact sound_of_run (fn := Tryz.f162) hmix hstable (tyOK_of ttOK) (hglob (X_spec_l2Apart N P_spec_l1Most)) (conOK_of (X := X_spec_l2Apart N P_spec_l1Most) ⟨s_spec_l1Most, trivial⟩) (mconOK_of (X := X_spec_l2Apart N P_spec_l1Most) trivial) (by kernel_rfl) (by kernel_rfl) (by kernel_rfl) (by kernel_rfl) (by kernel_rfl) (of_decide_eq_true (by kernel_rfl))
noncomputable def l_spec_l2Apart_3 : Nat → Int → Int → Int → Int → Int → Int → Int → Int → Option (denL R_spec_l2Apart) := hid (fun m0 p0 p1 p2 p3 p4 p5 p6 p7 => L_spec_l2Apart_3 N P_spec_l1Most m0 p0 p1 p2 p3 p4 p5 p6 p7)
theorem h_spec_l2Apart_3 : l_spec_l2Apart_3 = fun m0 p0 p1 p2 p3 p4 p5 p6 p7 => L_spec_l2Apart_3 N P_spec_l1Most m0 p0 p1 p2 p3 p4 p5 p6 p7 := hid_eq _
theorem p_spec_l2Apart (a0 : D_A3) (a1 : D_A3) : P_spec_l2Apart (a0, a1, ()) = 
  l_spec_l2Apart_3 N a0.1 a0.2.1 a0.2.2.1 a1.1 a1.2.1 a1.2.2.1 0 0 := by
  rewrite [h_spec_l2Apart, h_spec_l2Apart_3]
  kernel_rfl
theorem q_spec_l2Apart_3 (m0 : Nat) (p0 : Int) (p1 : Int) (p2 : Int) (p3 : Int) (p4 : Int) (p5 : Int) (p6 : Int) (p7 : Int) : l_spec_l2Apart_3 (m0 + 1) p0 p1 p2 p3 p4 p5 p6 p7 = 
  bif decide (p7 < 3) then
    bif inB p7 3 then
      bif inB p7 3 then
        bif inB p7 3 then
          bif inB p7 3 then
            Option.bind (P_spec_l1Most ((IntKind.wrap .i64 ((bif decide (p7 = (0 : Int)) then p0 else (bif decide (p7 = (1 : Int)) then p1 else p2)) - (bif decide (p7 = (0 : Int)) then p3 else (bif decide (p7 = (1 : Int)) then p4 else p5)))), (IntKind.wrap .i64 ((bif decide (p7 = (0 : Int)) then p3 else (bif decide (p7 = (1 : Int)) then p4 else p5)) - (bif decide (p7 = (0 : Int)) then p0 else (bif decide (p7 = (1 : Int)) then p1 else p2)))), ())) fun r5 =>
            l_spec_l2Apart_3 m0 p0 p1 p2 p3 p4 p5 (IntKind.wrap .i64 (p6 + r5.1)) (IntKind.wrap .i64 (p7 + 1))
          else none
        else none
      else none
    else none
  else
    some (p6, ()) := by
  rewrite [h_spec_l2Apart_3]
  kernel_rfl

/- 161: loop.example/g01166/spec.l2Near -/
abbrev As_spec_l2Near : List ATy := [.data true T_Heap, .data true T_A3]
abbrev R_spec_l2Near : List (Bool × Ty) := [(false, (.sl T_A3))]
abbrev M_spec_l2Near : List RMode := [.own 55]
abbrev Ft_spec_l2Near : Type := D_Heap × D_A3 × Unit → Option ((List D_A3) × Unit)
noncomputable def X_spec_l2Near (n : Nat) (F_spec_l2Apart : Ft_spec_l2Apart) : Ctx := { types := TT, globals := [], con := [(162, ⟨As_spec_l2Apart, R_spec_l2Apart, M_spec_l2Apart, F_spec_l2Apart⟩)], keep := [(3, ⟨[.box 2, .box 3, .tmp 2, .tmp 3, .tmp 5, .tmp 6], []⟩)], results := [.tmp 4], ntmps := 32, n := n }
noncomputable def B_spec_l2Near : Code := (Tryz.f161.body).getD .skip
noncomputable def L_spec_l2Near_3 (n : Nat) (F_spec_l2Apart : Ft_spec_l2Apart) (m0 : Nat) (p0 : Int) (p1 : Int) (p2 : Int) (p3 : List D_A3) (p4 : Int) (p5 : Int) (p6 : Int) (p7 : List D_A3) (p8 : Int) : Option (denL R_spec_l2Near) := loopF (X_spec_l2Near n F_spec_l2Apart) B_spec_l2Near R_spec_l2Near M_spec_l2Near 3 [m0] [(.ver, .num 1), (.box 2, .box 0 false [.int .i64 p0, .int .i64 p1, .int .i64 p2, .imm T_A3 p3 (some 3)]), (.box 3, .box 0 false [.int .i64 p4, .int .i64 p5, .int .i64 p6]), (.tmp 2, .val false [.addr 2 0 0]), (.tmp 3, .val false [.addr 3 0 0]), (.tmp 5, .val false [.own 55 T_A3 0 p7]), (.tmp 6, .val false [.int .i64 p8])]
noncomputable def P_spec_l2Near : Ft_spec_l2Near := hid (runF (X_spec_l2Near N P_spec_l2Apart) B_spec_l2Near As_spec_l2Near R_spec_l2Near M_spec_l2Near)
theorem h_spec_l2Near : P_spec_l2Near = runF (X_spec_l2Near N P_spec_l2Apart) B_spec_l2Near As_spec_l2Near R_spec_l2Near M_spec_l2Near := hid_eq _
noncomputable def C_spec_l2Near : Contract := ⟨As_spec_l2Near, R_spec_l2Near, M_spec_l2Near, P_spec_l2Near⟩
theorem s_spec_l2Near : Sound Tryz.prog GG 161 C_spec_l2Near := by
  unfold C_spec_l2Near; rw [h_spec_l2Near]
  exact sound_of_run (fn := Tryz.f161) hmix hstable (tyOK_of ttOK) (hglob (X_spec_l2Near N P_spec_l2Apart)) (conOK_of (X := X_spec_l2Near N P_spec_l2Apart) ⟨s_spec_l2Apart, trivial⟩) (mconOK_of (X := X_spec_l2Near N P_spec_l2Apart) trivial) (by kernel_rfl) (by kernel_rfl) (by kernel_rfl) (by kernel_rfl) (by kernel_rfl) (of_decide_eq_true (by kernel_rfl))
noncomputable def l_spec_l2Near_3 : Nat → Int → Int → Int → (List D_A3) → Int → Int → Int → (List D_A3) → Int → Option (denL R_spec_l2Near) := hid (fun m0 p0 p1 p2 p3 p4 p5 p6 p7 p8 => L_spec_l2Near_3 N P_spec_l2Apart m0 p0 p1 p2 p3 p4 p5 p6 p7 p8)
theorem h_spec_l2Near_3 : l_spec_l2Near_3 = fun m0 p0 p1 p2 p3 p4 p5 p6 p7 p8 => L_spec_l2Near_3 N P_spec_l2Apart m0 p0 p1 p2 p3 p4 p5 p6 p7 p8 := hid_eq _
theorem p_spec_l2Near (a0 : D_Heap) (a1 : D_A3) : P_spec_l2Near (a0, a1, ()) = 
  l_spec_l2Near_3 N a0.1 a0.2.1 a0.2.2.1 a0.2.2.2.1 a1.1 a1.2.1 a1.2.2.1 ([] : List D_A3) 0 := by
  rewrite [h_spec_l2Near, h_spec_l2Near_3]
  kernel_rfl
theorem q_spec_l2Near_3 (m0 : Nat) (p0 : Int) (p1 : Int) (p2 : Int) (p3 : List D_A3) (p4 : Int) (p5 : Int) (p6 : Int) (p7 : List D_A3) (p8 : Int) : l_spec_l2Near_3 (m0 + 1) p0 p1 p2 p3 p4 p5 p6 p7 p8 = 
  bif decide (p8 < (List.length p3 : Int)) then
    bif inB p8 (List.length p3) then
      Option.bind (P_spec_l2Apart ((nth T_A3 p3 p8), (p4, (p5, (p6, ()))), ())) fun r2 =>
      bif decide (r2.1 = 1) then
        bif inB p8 (List.length p3) then
          bif (decide (((List.length p7) + (List.length ([(nth T_A3 p3 p8)] : List D_A3))) * 24 ≤ 140737488355328) && decide (((List.length p7) + (List.length ([(nth T_A3 p3 p8)] : List D_A3))) ≤ 140737488355328)) then
            l_spec_l2Near_3 m0 p0 p1 p2 p3 p4 p5 p6 (p7 ++ ([(nth T_A3 p3 p8)] : List D_A3)) (IntKind.wrap .i64 (p8 + 1))
          else none
        else none
      else
        l_spec_l2Near_3 m0 p0 p1 p2 p3 p4 p5 p6 p7 (IntKind.wrap .i64 (p8 + 1))
    else none
  else
    some (p7, ()) := by
  rewrite [h_spec_l2Near_3]
  kernel_rfl

/- 160: loop.example/g01166/spec.l2Parts -/
abbrev As_spec_l2Parts : List ATy := [.data true T_Heap]
abbrev R_spec_l2Parts : List (Bool × Ty) := [(false, (.sl (.sl T_A3)))]
abbrev M_spec_l2Parts : List RMode := [.own 24]
abbrev Ft_spec_l2Parts : Type := D_Heap × Unit → Option ((List (List D_A3)) × Unit)
noncomputable def X_spec_l2Parts (n : Nat) (F_spec_l2Empty : Ft_spec_l2Empty) (F_spec_l2Own : Ft_spec_l2Own) (F_spec_l2With : Ft_spec_l2With) (F_spec_l2Without : Ft_spec_l2Without) (F_spec_l2Near : Ft_spec_l2Near) : Ctx := { types := TT, globals := [], con := [(97, ⟨As_spec_l2Empty, R_spec_l2Empty, M_spec_l2Empty, F_spec_l2Empty⟩), (145, ⟨As_spec_l2Own, R_spec_l2Own, M_spec_l2Own, F_spec_l2Own⟩), (154, ⟨As_spec_l2With, R_spec_l2With, M_spec_l2With, F_spec_l2With⟩), (155, ⟨As_spec_l2Without, R_spec_l2Without, M_spec_l2Without, F_spec_l2Without⟩), (161, ⟨As_spec_l2Near, R_spec_l2Near, M_spec_l2Near, F_spec_l2Near⟩)], keep := [(2, ⟨[.box 1, .box 4, .tmp 1, .tmp 3, .tmp 4], []⟩), (6, ⟨[.box 1, .box 4, .box 5, .tmp 1, .tmp 3, .tmp 4, .tmp 5, .tmp 6, .tmp 7], []⟩), (11, ⟨[.box 1, .box 4, .box 5, .tmp 1, .tmp 3, .tmp 4, .tmp 5, .tmp 6, .tmp 7, .tmp 8, .tmp 9], []⟩)], results := [.tmp 2], ntmps := 77, n := n }
noncomputable def B_spec_l2Parts : Code := (Tryz.f160.body).getD .skip
noncomputable def L_spec_l2Parts_2 (n : Nat) (F_spec_l2Empty : Ft_spec_l2Empty) (F_spec_l2Own : Ft_spec_l2Own) (F_spec_l2With : Ft_spec_l2With) (F_spec_l2Without : Ft_spec_l2Without) (F_spec_l2Near : Ft_spec_l2Near) (m0 : Nat) (p0 : Int) (p1 : Int) (p2 : Int) (p3 : List D_A3) (p4 : Int) (p5 : Int) (p6 : Int) (p7 : List D_A3) (p8 : List (List D_A3)) : Option (denL R_spec_l2Parts) := loopF (X_spec_l2Parts n F_spec_l2Empty F_spec_l2Own F_spec_l2With F_spec_l2Without F_spec_l2Near) B_spec_l2Parts R_spec_l2Parts M_spec_l2Parts 2 [m0] [(.ver, .num 1), (.box 1, .box 0 false [.int .i64 p0, .int .i64 p1, .int .i64 p2, .imm T_A3 p3 (some 3)]), (.box 4, .box 0 false [.int .i64 p4, .int .i64 p5, .int .i64 p6, .own 55 T_A3 0 p7]), (.tmp 1, .val false [.addr 1 0 0]), (.tmp 3, .val false [.own 24 (.sl T_A3) 0 p8]), (.tmp 4, .val false [.addr 4 0 0])]
noncomputable def L_spec_l2Parts_6 (n : Nat) (F_spec_l2Empty : Ft_spec_l2Empty) (F_spec_l2Own : Ft_spec_l2Own) (F_spec_l2With : Ft_spec_l2With) (F_spec_l2Without : Ft_spec_l2Without) (F_spec_l2Near : Ft_spec_l2Near) (m0 m1 : Nat) (p0 : Int) (p1 : Int) (p2 : Int) (p3 : List D_A3) (p4 : Int) (p5 : Int) (p6 : Int) (p7 : List D_A3) (p8 : Int) (p9 : Int) (p10 : Int) (p11 : List D_A3) (p12 : List (List D_A3)) (p13 : List D_A3) (p14 : Int) : Option (denL R_spec_l2Parts) := loopF (X_spec_l2Parts n F_spec_l2Empty F_spec_l2Own F_spec_l2With F_spec_l2Without F_spec_l2Near) B_spec_l2Parts R_spec_l2Parts M_spec_l2Parts 6 [m0, m1] [(.ver, .num 1), (.box 1, .box 0 false [.int .i64 p0, .int .i64 p1, .int .i64 p2, .imm T_A3 p3 (some 3)]), (.box 4, .box 0 false [.int .i64 p4, .int .i64 p5, .int .i64 p6, .own 55 T_A3 0 p7]), (.box 5, .box 0 false [.int .i64 p8, .int .i64 p9, .int .i64 p10, .own 55 T_A3 0 p11]), (.tmp 1, .val false [.addr 1 0 0]), (.tmp 3, .val false [.own 24 (.sl T_A3) 0 p12]), (.tmp 4, .val false [.addr 4 0 0]), (.tmp 5, .val false [.addr 5 0 0]), (.tmp 6, .val false [.own 55 T_A3 0 p13]), (.tmp 7, .val false [.int .i64 p14])]
noncomputable def L_spec_l2Parts_11 (n : Nat) (F_spec_l2Empty : Ft_spec_l2Empty) (F_spec_l2Own : Ft_spec_l2Own) (F_spec_l2With : Ft_spec_l2With) (F_spec_l2Without : Ft_spec_l2Without) (F_spec_l2Near : Ft_spec_l2Near) (m0 m1 m2 : Nat) (p0 : Int) (p1 : Int) (p2 : Int) (p3 : List D_A3) (p4 : Int) (p5 : Int) (p6 : Int) (p7 : List D_A3) (p8 : Int) (p9 : Int) (p10 : Int) (p11 : List D_A3) (p12 : List (List D_A3)) (p13 : List D_A3) (p14 : Int) (p15 : List D_A3) (p16 : Int) : Option (denL R_spec_l2Parts) := loopF (X_spec_l2Parts n F_spec_l2Empty F_spec_l2Own F_spec_l2With F_spec_l2Without F_spec_l2Near) B_spec_l2Parts R_spec_l2Parts M_spec_l2Parts 11 [m0, m1, m2] [(.ver, .num 1), (.box 1, .box 0 false [.int .i64 p0, .int .i64 p1, .int .i64 p2, .imm T_A3 p3 (some 3)]), (.box 4, .box 0 false [.int .i64 p4, .int .i64 p5, .int .i64 p6, .own 55 T_A3 0 p7]), (.box 5, .box 0 false [.int .i64 p8, .int .i64 p9, .int .i64 p10, .own 55 T_A3 0 p11]), (.tmp 1, .val false [.addr 1 0 0]), (.tmp 3, .val false [.own 24 (.sl T_A3) 0 p12]), (.tmp 4, .val false [.addr 4 0 0]), (.tmp 5, .val false [.addr 5 0 0]), (.tmp 6, .val false [.own 55 T_A3 0 p13]), (.tmp 7, .val false [.int .i64 p14]), (.tmp 8, .val false [.own 55 T_A3 0 p15]), (.tmp 9, .val false [.int .i64 p16])]
noncomputable def P_spec_l2Parts : Ft_spec_l2Parts := hid (runF (X_spec_l2Parts N P_spec_l2Empty P_spec_l2Own P_spec_l2With P_spec_l2Without P_spec_l2Near) B_spec_l2Parts As_spec_l2Parts R_spec_l2Parts M_spec_l2Parts)
theorem h_spec_l2Parts : P_spec_l2Parts = runF (X_spec_l2Parts N P_spec_l2Empty P_spec_l2Own P_spec_l2With P_spec_l2Without P_spec_l2Near) B_spec_l2Parts As_spec_l2Parts R_spec_l2Parts M_spec_l2Parts := hid_eq _
noncomputable def C_spec_l2Parts : Contract := ⟨As_spec_l2Parts, R_spec_l2Parts, M_spec_l2Parts, P_spec_l2Parts⟩
theorem s_spec_l2Parts : Sound Tryz.prog GG 160 C_spec_l2Parts := by
  unfold C_spec_l2Parts; rw [h_spec_l2Parts]
  exact sound_of_run (fn := Tryz.f160) hmix hstable (tyOK_of ttOK) (hglob (X_spec_l2Parts N P_spec_l2Empty P_spec_l2Own P_spec_l2With P_spec_l2Without P_spec_l2Near)) (conOK_of (X := X_spec_l2Parts N P_spec_l2Empty P_spec_l2Own P_spec_l2With P_spec_l2Without P_spec_l2Near) ⟨s_spec_l2Empty, s_spec_l2Own, s_spec_l2With, s_spec_l2Without, s_spec_l2Near, trivial⟩) (mconOK_of (X := X_spec_l2Parts N P_spec_l2Empty P_spec_l2Own P_spec_l2With P_spec_l2Without P_spec_l2Near) trivial) (by kernel_rfl) (by kernel_rfl) (by kernel_rfl) (by kernel_rfl) (by kernel_rfl) (of_decide_eq_true (by kernel_rfl))
noncomputable def l_spec_l2Parts_2 : Nat → Int → Int → Int → (List D_A3) → Int → Int → Int → (List D_A3) → (List (List D_A3)) → Option (denL R_spec_l2Parts) := hid (fun m0 p0 p1 p2 p3 p4 p5 p6 p7 p8 => L_spec_l2Parts_2 N P_spec_l2Empty P_spec_l2Own P_spec_l2With P_spec_l2Without P_spec_l2Near m0 p0 p1 p2 p3 p4 p5 p6 p7 p8)
theorem h_spec_l2Parts_2 : l_spec_l2Parts_2 = fun m0 p0 p1 p2 p3 p4 p5 p6 p7 p8 => L_spec_l2Parts_2 N P_spec_l2Empty P_spec_l2Own P_spec_l2With P_spec_l2Without P_spec_l2Near m0 p0 p1 p2 p3 p4 p5 p6 p7 p8 := hid_eq _
noncomputable def l_spec_l2Parts_6 : Nat → Nat → Int → Int → Int → (List D_A3) → Int → Int → Int → (List D_A3) → Int → Int → Int → (List D_A3) → (List (List D_A3)) → (List D_A3) → Int → Option (denL R_spec_l2Parts) := hid (fun m0 m1 p0 p1 p2 p3 p4 p5 p6 p7 p8 p9 p10 p11 p12 p13 p14 => L_spec_l2Parts_6 N P_spec_l2Empty P_spec_l2Own P_spec_l2With P_spec_l2Without P_spec_l2Near m0 m1 p0 p1 p2 p3 p4 p5 p6 p7 p8 p9 p10 p11 p12 p13 p14)
theorem h_spec_l2Parts_6 : l_spec_l2Parts_6 = fun m0 m1 p0 p1 p2 p3 p4 p5 p6 p7 p8 p9 p10 p11 p12 p13 p14 => L_spec_l2Parts_6 N P_spec_l2Empty P_spec_l2Own P_spec_l2With P_spec_l2Without P_spec_l2Near m0 m1 p0 p1 p2 p3 p4 p5 p6 p7 p8 p9 p10 p11 p12 p13 p14 := hid_eq _
noncomputable def l_spec_l2Parts_11 : Nat → Nat → Nat → Int → Int → Int → (List D_A3) → Int → Int → Int → (List D_A3) → Int → Int → Int → (List D_A3) → (List (List D_A3)) → (List D_A3) → Int → (List D_A3) → Int → Option (denL R_spec_l2Parts) := hid (fun m0 m1 m2 p0 p1 p2 p3 p4 p5 p6 p7 p8 p9 p10 p11 p12 p13 p14 p15 p16 => L_spec_l2Parts_11 N P_spec_l2Empty P_spec_l2Own P_spec_l2With P_spec_l2Without P_spec_l2Near m0 m1 m2 p0 p1 p2 p3 p4 p5 p6 p7 p8 p9 p10 p11 p12 p13 p14 p15 p16)
theorem h_spec_l2Parts_11 : l_spec_l2Parts_11 = fun m0 m1 m2 p0 p1 p2 p3 p4 p5 p6 p7 p8 p9 p10 p11 p12 p13 p14 p15 p16 => L_spec_l2Parts_11 N P_spec_l2Empty P_spec_l2Own P_spec_l2With P_spec_l2Without P_spec_l2Near m0 m1 m2 p0 p1 p2 p3 p4 p5 p6 p7 p8 p9 p10 p11 p12 p13 p14 p15 p16 := hid_eq _
theorem p_spec_l2Parts (a0 : D_Heap) : P_spec_l2Parts (a0, ()) = 
  Option.bind (P_spec_l2Own (a0, ())) fun r0 =>
  l_spec_l2Parts_2 N a0.1 a0.2.1 a0.2.2.1 a0.2.2.2.1 r0.1.1 r0.1.2.1 r0.1.2.2.1 r0.1.2.2.2.1 ([] : List (List D_A3)) := by
  rewrite [h_spec_l2Parts, h_spec_l2Parts_2]
  kernel_rfl
theorem q_spec_l2Parts_2 (m0 : Nat) (p0 : Int) (p1 : Int) (p2 : Int) (p3 : List D_A3) (p4 : Int) (p5 : Int) (p6 : Int) (p7 : List D_A3) (p8 : List (List D_A3)) : l_spec_l2Parts_2 (m0 + 1) p0 p1 p2 p3 p4 p5 p6 p7 p8 = 
  bif decide ((List.length p7 : Int) > 0) then
    Option.bind (P_spec_l2Empty (p0, p1, p2, ())) fun r1 =>
    bif inB 0 (List.length p7) then
      bif inB 0 (List.length ([(nth T_A3 p7 0)] : List D_A3)) then
        Option.bind (P_spec_l2Without ((p4, (p5, (p6, (p7, ())))), (nth T_A3 ([(nth T_A3 p7 0)] : List D_A3) 0), ())) fun r4 =>
        l_spec_l2Parts_6 m0 N p0 p1 p2 p3 r4.1.1 r4.1.2.1 r4.1.2.2.1 r4.1.2.2.2.1 r1.1.1 r1.1.2.1 r1.1.2.2.1 r1.1.2.2.2.1 p8 ([(nth T_A3 p7 0)] : List D_A3) 0
      else none
    else none
  else
    some (p8, ()) := by
  rewrite [h_spec_l2Parts_2, h_spec_l2Parts_6]
  kernel_rfl
theorem q_spec_l2Parts_6 (m0 m1 : Nat) (p0 : Int) (p1 : Int) (p2 : Int) (p3 : List D_A3) (p4 : Int) (p5 : Int) (p6 : Int) (p7 : List D_A3) (p8 : Int) (p9 : Int) (p10 : Int) (p11 : List D_A3) (p12 : List (List D_A3)) (p13 : List D_A3) (p14 : Int) : l_spec_l2Parts_6 m0 (m1 + 1) p0 p1 p2 p3 p4 p5 p6 p7 p8 p9 p10 p11 p12 p13 p14 = 
  bif decide (p14 < (List.length p13 : Int)) then
    bif inB p14 (List.length p13) then
      Option.bind (P_spec_l2With ((p8, (p9, (p10, (p11, ())))), (nth T_A3 p13 p14), ())) fun r2 =>
      bif inB p14 (List.length p13) then
        Option.bind (P_spec_l2Near ((p4, (p5, (p6, (p7, ())))), (nth T_A3 p13 p14), ())) fun r4 =>
        l_spec_l2Parts_11 m0 m1 N p0 p1 p2 p3 p4 p5 p6 p7 r2.1.1 r2.1.2.1 r2.1.2.2.1 r2.1.2.2.2.1 p12 p13 p14 r4.1 0
      else none
    else none
  else
    bif (decide (((List.length p12) + (List.length ([p11] : List (List D_A3)))) * 24 ≤ 140737488355328) && decide (((List.length p12) + (List.length ([p11] : List (List D_A3)))) ≤ 140737488355328)) then
      l_spec_l2Parts_2 m0 p0 p1 p2 p3 p4 p5 p6 p7 (p12 ++ ([p11] : List (List D_A3)))
    else none := by
  rewrite [h_spec_l2Parts_2, h_spec_l2Parts_6, h_spec_l2Parts_11]
  kernel_rfl
theorem q_spec_l2Parts_11 (m0 m1 m2 : Nat) (p0 : Int) (p1 : Int) (p2 : Int) (p3 : List D_A3) (p4 : Int) (p5 : Int) (p6 : Int) (p7 : List D_A3) (p8 : Int) (p9 : Int) (p10 : Int) (p11 : List D_A3) (p12 : List (List D_A3)) (p13 : List D_A3) (p14 : Int) (p15 : List D_A3) (p16 : Int) : l_spec_l2Parts_11 m0 m1 (m2 + 1) p0 p1 p2 p3 p4 p5 p6 p7 p8 p9 p10 p11 p12 p13 p14 p15 p16 = 
  bif decide (p16 < (List.length p15 : Int)) then
    bif inB p16 (List.length p15) then
      bif (decide (((List.length p13) + (List.length ([(nth T_A3 p15 p16)] : List D_A3))) * 24 ≤ 140737488355328) && decide (((List.length p13) + (List.length ([(nth T_A3 p15 p16)] : List D_A3))) ≤ 140737488355328)) then
        bif inB p16 (List.length p15) then
          Option.bind (P_spec_l2Without ((p4, (p5, (p6, (p7, ())))), (nth T_A3 p15 p16), ())) fun r4 =>
          l_spec_l2Parts_11 m0 m1 m2 p0 p1 p2 p3 r4.1.1 r4.1.2.1 r4.1.2.2.1 r4.1.2.2.2.1 p8 p9 p10 p11 p12 (p13 ++ ([(nth T_A3 p15 p16)] : List D_A3)) p14 p15 (IntKind.wrap .i64 (p16 + 1))
        else none
      else none
    else none
  else
    l_spec_l2Parts_6 m0 m1 p0 p1 p2 p3 p4 p5 p6 p7 p8 p9 p10 p11 p12 p13 (IntKind.wrap .i64 (p14 + 1)) := by
  rewrite [h_spec_l2Parts_6, h_spec_l2Parts_11]
  kernel_rfl

/- 157: loop.example/g01166/spec.l7Parted -/
abbrev As_spec_l7Parted : List ATy := [.data true T_Heap, .data false .bool]
abbrev R_spec_l7Parted : List (Bool × Ty) := [(false, (.sl T_A3))]
abbrev M_spec_l7Parted : List RMode := [.own 55]
abbrev Ft_spec_l7Parted : Type := D_Heap × Bool × Unit → Option ((List D_A3) × Unit)
noncomputable def X_spec_l7Parted (n : Nat) (F_spec_l2Empty : Ft_spec_l2Empty) (F_spec_l2With : Ft_spec_l2With) (F_spec_l2Parts : Ft_spec_l2Parts) : Ctx := { types := TT, globals := [], con := [(97, ⟨As_spec_l2Empty, R_spec_l2Empty, M_spec_l2Empty, F_spec_l2Empty⟩), (154, ⟨As_spec_l2With, R_spec_l2With, M_spec_l2With, F_spec_l2With⟩), (160, ⟨As_spec_l2Parts, R_spec_l2Parts, M_spec_l2Parts, F_spec_l2Parts⟩)], keep := [(3, ⟨[.box 6, .tmp 1, .tmp 5, .tmp 6, .tmp 7], []⟩), (7, ⟨[.box 6, .tmp 1, .tmp 5, .tmp 6, .tmp 7, .tmp 8, .tmp 9], []⟩), (11, ⟨[.box 6, .tmp 1, .tmp 5, .tmp 6, .tmp 7, .tmp 8, .tmp 10], []⟩)], results := [.tmp 4], ntmps := 72, n := n }
noncomputable def B_spec_l7Parted : Code := (Tryz.f157.body).getD .skip
noncomputable def L_spec_l7Parted_3 (n : Nat) (F_spec_l2Empty : Ft_spec_l2Empty) (F_spec_l2With : Ft_spec_l2With) (F_spec_l2Parts : Ft_spec_l2Parts) (m0 : Nat) (p0 : Int) (p1 : Int) (p2 : Int) (p3 : List D_A3) (p4 : Bool) (p5 : List (List D_A3)) (p6 : Int) : Option (denL R_spec_l7Parted) := loopF (X_spec_l7Parted n F_spec_l2Empty F_spec_l2With F_spec_l2Parts) B_spec_l7Parted R_spec_l7Parted M_spec_l7Parted 3 [m0] [(.ver, .num 1), (.box 6, .box 0 false [.int .i64 p0, .int .i64 p1, .int .i64 p2, .own 55 T_A3 0 p3]), (.tmp 1, .val false [.bool p4]), (.tmp 5, .val false [.own 24 (.sl T_A3) 0 p5]), (.tmp 6, .val false [.addr 6 0 0]), (.tmp 7, .val false [.int .i64 p6])]
noncomputable def L_spec_l7Parted_7 (n : Nat) (F_spec_l2Empty : Ft_spec_l2Empty) (F_spec_l2With : Ft_spec_l2With) (F_spec_l2Parts : Ft_spec_l2Parts) (m0 m1 : Nat) (p0 : Int) (p1 : Int) (p2 : Int) (p3 : List D_A3) (p4 : Bool) (p5 : List (List D_A3)) (p6 : Int) (p7 : Bool) (p8 : Int) : Option (denL R_spec_l7Parted) := loopF (X_spec_l7Parted n F_spec_l2Empty F_spec_l2With F_spec_l2Parts) B_spec_l7Parted R_spec_l7Parted M_spec_l7Parted 7 [m0, m1] [(.ver, .num 1), (.box 6, .box 0 false [.int .i64 p0, .int .i64 p1, .int .i64 p2, .own 55 T_A3 0 p3]), (.tmp 1, .val false [.bool p4]), (.tmp 5, .val false [.own 24 (.sl T_A3) 0 p5]), (.tmp 6, .val false [.addr 6 0 0]), (.tmp 7, .val false [.int .i64 p6]), (.tmp 8, .val false [.bool p7]), (.tmp 9, .val false [.int .i64 p8])]
noncomputable def L_spec_l7Parted_11 (n : Nat) (F_spec_l2Empty : Ft_spec_l2Empty) (F_spec_l2With : Ft_spec_l2With) (F_spec_l2Parts : Ft_spec_l2Parts) (m0 m1 : Nat) (p0 : Int) (p1 : Int) (p2 : Int) (p3 : List D_A3) (p4 : Bool) (p5 : List (List D_A3)) (p6 : Int) (p7 : Bool) (p8 : Int) : Option (denL R_spec_l7Parted) := loopF (X_spec_l7Parted n F_spec_l2Empty F_spec_l2With F_spec_l2Parts) B_spec_l7Parted R_spec_l7Parted M_spec_l7Parted 11 [m0, m1] [(.ver, .num 1), (.box 6, .box 0 false [.int .i64 p0, .int .i64 p1, .int .i64 p2, .own 55 T_A3 0 p3]), (.tmp 1, .val false [.bool p4]), (.tmp 5, .val false [.own 24 (.sl T_A3) 0 p5]), (.tmp 6, .val false [.addr 6 0 0]), (.tmp 7, .val false [.int .i64 p6]), (.tmp 8, .val false [.bool p7]), (.tmp 10, .val false [.int .i64 p8])]
noncomputable def P_spec_l7Parted : Ft_spec_l7Parted := hid (runF (X_spec_l7Parted N P_spec_l2Empty P_spec_l2With P_spec_l2Parts) B_spec_l7Parted As_spec_l7Parted R_spec_l7Parted M_spec_l7Parted)
theorem h_spec_l7Parted : P_spec_l7Parted = runF (X_spec_l7Parted N P_spec_l2Empty P_spec_l2With P_spec_l2Parts) B_spec_l7Parted As_spec_l7Parted R_spec_l7Parted M_spec_l7Parted := hid_eq _
noncomputable def C_spec_l7Parted : Contract := ⟨As_spec_l7Parted, R_spec_l7Parted, M_spec_l7Parted, P_spec_l7Parted⟩
theorem s_spec_l7Parted : Sound Tryz.prog GG 157 C_spec_l7Parted := by
  unfold C_spec_l7Parted; rw [h_spec_l7Parted]
  exact sound_of_run (fn := Tryz.f157) hmix hstable (tyOK_of ttOK) (hglob (X_spec_l7Parted N P_spec_l2Empty P_spec_l2With P_spec_l2Parts)) (conOK_of (X := X_spec_l7Parted N P_spec_l2Empty P_spec_l2With P_spec_l2Parts) ⟨s_spec_l2Empty, s_spec_l2With, s_spec_l2Parts, trivial⟩) (mconOK_of (X := X_spec_l7Parted N P_spec_l2Empty P_spec_l2With P_spec_l2Parts) trivial) (by kernel_rfl) (by kernel_rfl) (by kernel_rfl) (by kernel_rfl) (by kernel_rfl) (of_decide_eq_true (by kernel_rfl))
noncomputable def l_spec_l7Parted_3 : Nat → Int → Int → Int → (List D_A3) → Bool → (List (List D_A3)) → Int → Option (denL R_spec_l7Parted) := hid (fun m0 p0 p1 p2 p3 p4 p5 p6 => L_spec_l7Parted_3 N P_spec_l2Empty P_spec_l2With P_spec_l2Parts m0 p0 p1 p2 p3 p4 p5 p6)
theorem h_spec_l7Parted_3 : l_spec_l7Parted_3 = fun m0 p0 p1 p2 p3 p4 p5 p6 => L_spec_l7Parted_3 N P_spec_l2Empty P_spec_l2With P_spec_l2Parts m0 p0 p1 p2 p3 p4 p5 p6 := hid_eq _
noncomputable def l_spec_l7Parted_7 : Nat → Nat → Int → Int → Int → (List D_A3) → Bool → (List (List D_A3)) → Int → Bool → Int → Option (denL R_spec_l7Parted) := hid (fun m0 m1 p0 p1 p2 p3 p4 p5 p6 p7 p8 => L_spec_l7Parted_7 N P_spec_l2Empty P_spec_l2With P_spec_l2Parts m0 m1 p0 p1 p2 p3 p4 p5 p6 p7 p8)
theorem h_spec_l7Parted_7 : l_spec_l7Parted_7 = fun m0 m1 p0 p1 p2 p3 p4 p5 p6 p7 p8 => L_spec_l7Parted_7 N P_spec_l2Empty P_spec_l2With P_spec_l2Parts m0 m1 p0 p1 p2 p3 p4 p5 p6 p7 p8 := hid_eq _
noncomputable def l_spec_l7Parted_11 : Nat → Nat → Int → Int → Int → (List D_A3) → Bool → (List (List D_A3)) → Int → Bool → Int → Option (denL R_spec_l7Parted) := hid (fun m0 m1 p0 p1 p2 p3 p4 p5 p6 p7 p8 => L_spec_l7Parted_11 N P_spec_l2Empty P_spec_l2With P_spec_l2Parts m0 m1 p0 p1 p2 p3 p4 p5 p6 p7 p8)
theorem h_spec_l7Parted_11 : l_spec_l7Parted_11 = fun m0 m1 p0 p1 p2 p3 p4 p5 p6 p7 p8 => L_spec_l7Parted_11 N P_spec_l2Empty P_spec_l2With P_spec_l2Parts m0 m1 p0 p1 p2 p3 p4 p5 p6 p7 p8 := hid_eq _
theorem p_spec_l7Parted (a0 : D_Heap) (a1 : Bool) : P_spec_l7Parted (a0, a1, ()) = 
  Option.bind (P_spec_l2Parts (a0, ())) fun r0 =>
  Option.bind (P_spec_l2Empty (a0.1, a0.2.1, a0.2.2.1, ())) fun r1 =>
  l_spec_l7Parted_3 N r1.1.1 r1.1.2.1 r1.1.2.2.1 r1.1.2.2.2.1 a1 r0.1 0 := by
  rewrite [h_spec_l7Parted, h_spec_l7Parted_3]
  kernel_rfl
theorem q_spec_l7Parted_3 (m0 : Nat) (p0 : Int) (p1 : Int) (p2 : Int) (p3 : List D_A3) (p4 : Bool) (p5 : List (List D_A3)) (p6 : Int) : l_spec_l7Parted_3 (m0 + 1) p0 p1 p2 p3 p4 p5 p6 = 
  bif decide (p6 < (List.length p5 : Int)) then
    l_spec_l7Parted_7 m0 N p0 p1 p2 p3 p4 p5 p6 false 0
  else
    some (p3, ()) := by
  rewrite [h_spec_l7Parted_3, h_spec_l7Parted_7]
  kernel_rfl
theorem q_spec_l7Parted_7 (m0 m1 : Nat) (p0 : Int) (p1 : Int) (p2 : Int) (p3 : List D_A3) (p4 : Bool) (p5 : List (List D_A3)) (p6 : Int) (p7 : Bool) (p8 : Int) : l_spec_l7Parted_7 m0 (m1 + 1) p0 p1 p2 p3 p4 p5 p6 p7 p8 = 
  bif inB p6 (List.length p5) then
    bif decide (p8 < (List.length (nth ((.sl T_A3) : Ty) p5 p6) : Int)) then
      bif p7 then
        l_spec_l7Parted_7 m0 m1 p0 p1 p2 p3 p4 p5 p6 true (IntKind.wrap .i64 (p8 + 1))
      else
        bif inB p6 (List.length p5) then
          bif inB p8 (List.length (nth ((.sl T_A3) : Ty) p5 p6)) then
            l_spec_l7Parted_7 m0 m1 p0 p1 p2 p3 p4 p5 p6 (decide (((((nth T_A3 (nth ((.sl T_A3) : Ty) p5 p6) p8)).2).2).1 = 0)) (IntKind.wrap .i64 (p8 + 1))
          else none
        else none
    else
      l_spec_l7Parted_11 m0 N p0 p1 p2 p3 p4 p5 p6 p7 0
  else none := by
  rewrite [h_spec_l7Parted_7, h_spec_l7Parted_11]
  kernel_rfl
theorem q_spec_l7Parted_11 (m0 m1 : Nat) (p0 : Int) (p1 : Int) (p2 : Int) (p3 : List D_A3) (p4 : Bool) (p5 : List (List D_A3)) (p6 : Int) (p7 : Bool) (p8 : Int) : l_spec_l7Parted_11 m0 (m1 + 1) p0 p1 p2 p3 p4 p5 p6 p7 p8 = 
  bif inB p6 (List.length p5) then
    bif decide (p8 < (List.length (nth ((.sl T_A3) : Ty) p5 p6) : Int)) then
      bif !(p7 == p4) then
        bif inB p6 (List.length p5) then
          bif inB p8 (List.length (nth ((.sl T_A3) : Ty) p5 p6)) then
            Option.bind (P_spec_l2With ((p0, (p1, (p2, (p3, ())))), (nth T_A3 (nth ((.sl T_A3) : Ty) p5 p6) p8), ())) fun r5 =>
            l_spec_l7Parted_11 m0 m1 r5.1.1 r5.1.2.1 r5.1.2.2.1 r5.1.2.2.2.1 p4 p5 p6 p7 (IntKind.wrap .i64 (p8 + 1))
          else none
        else none
      else
        l_spec_l7Parted_3 m0 p0 p1 p2 p3 p4 p5 (IntKind.wrap .i64 (p6 + 1))
    else
      l_spec_l7Parted_3 m0 p0 p1 p2 p3 p4 p5 (IntKind.wrap .i64 (p6 + 1))
  else none := by
  rewrite [h_spec_l7Parted_3, h_spec_l7Parted_11]
  kernel_rfl

/- 149: loop.example/g01166/spec.SinkHeap -/
abbrev As_spec_SinkHeap : List ATy := [.data true T_Heap]
abbrev R_spec_SinkHeap : List (Bool × Ty) := [(true, T_Heap), (false, (.int .i64)), (false, .bool)]
abbrev M_spec_SinkHeap : List RMode := [.own 55]
abbrev Ft_spec_SinkHeap : Type := D_Heap × Unit → Option (D_Heap × Int × Bool × Unit)
noncomputable def X_spec_SinkHeap (n : Nat) (F_spec_l2Heap : Ft_spec_l2Heap) (F_spec_l2Made : Ft_spec_l2Made) (F_spec_l2Own : Ft_spec_l2Own) (F_spec_l2With : Ft_spec_l2With) (F_spec_l7Parted : Ft_spec_l7Parted) : Ctx := { types := TT, globals := [], con := [(83, ⟨As_spec_l2Heap, R_spec_l2Heap, M_spec_l2Heap, F_spec_l2Heap⟩), (96, ⟨As_spec_l2Made, R_spec_l2Made, M_spec_l2Made, F_spec_l2Made⟩), (145, ⟨As_spec_l2Own, R_spec_l2Own, M_spec_l2Own, F_spec_l2Own⟩), (154, ⟨As_spec_l2With, R_spec_l2With, M_spec_l2With, F_spec_l2With⟩), (157, ⟨As_spec_l7Parted, R_spec_l7Parted, M_spec_l7Parted, F_spec_l7Parted⟩)], keep := [(4, ⟨[.box 2, .box 5, .tmp 2, .tmp 5, .tmp 6], []⟩), (9, ⟨[.box 2, .box 5, .tmp 2, .tmp 5, .tmp 6, .tmp 7, .tmp 8], []⟩)], results := [.cell 2 26, .tmp 3, .tmp 4], ntmps := 53, n := n }
noncomputable def B_spec_SinkHeap : Code := (Tryz.f149.body).getD .skip
noncomputable def L_spec_SinkHeap_4 (n : Nat) (F_spec_l2Heap : Ft_spec_l2Heap) (F_spec_l2Made : Ft_spec_l2Made) (F_spec_l2Own : Ft_spec_l2Own) (F_spec_l2With : Ft_spec_l2With) (F_spec_l7Parted : Ft_spec_l7Parted) (m0 : Nat) (p0 : Int) (p1 : Int) (p2 : Int) (p3 : List D_A3) (p4 : Int) (p5 : Int) (p6 : Int) (p7 : List D_A3) (p8 : Int) : Option (denL R_spec_SinkHeap) := loopF (X_spec_SinkHeap n F_spec_l2Heap F_spec_l2Made F_spec_l2Own F_spec_l2With F_spec_l7Parted) B_spec_SinkHeap R_spec_SinkHeap M_spec_SinkHeap 4 [m0] [(.ver, .num 1), (.box 2, .box 0 false [.int .i64 p0, .int .i64 p1, .int .i64 p2, .own 55 T_A3 0 p3]), (.box 5, .box 0 false [.int .i64 p4, .int .i64 p5, .int .i64 p6, .own 55 T_A3 0 p7]), (.tmp 2, .val false [.addr 2 0 0]), (.tmp 5, .val false [.addr 5 0 0]), (.tmp 6, .val false [.int .i64 p8])]
noncomputable def L_spec_SinkHeap_9 (n : Nat) (F_spec_l2Heap : Ft_spec_l2Heap) (F_spec_l2Made : Ft_spec_l2Made) (F_spec_l2Own : Ft_spec_l2Own) (F_spec_l2With : Ft_spec_l2With) (F_spec_l7Parted : Ft_spec_l7Parted) (m0 m1 : Nat) (p0 : Int) (p1 : Int) (p2 : Int) (p3 : List D_A3) (p4 : Int) (p5 : Int) (p6 : Int) (p7 : List D_A3) (p8 : Int) (p9 : List D_A3) (p10 : Int) : Option (denL R_spec_SinkHeap) := loopF (X_spec_SinkHeap n F_spec_l2Heap F_spec_l2Made F_spec_l2Own F_spec_l2With F_spec_l7Parted) B_spec_SinkHeap R_spec_SinkHeap M_spec_SinkHeap 9 [m0, m1] [(.ver, .num 1), (.box 2, .box 0 false [.int .i64 p0, .int .i64 p1, .int .i64 p2, .own 55 T_A3 0 p3]), (.box 5, .box 0 false [.int .i64 p4, .int .i64 p5, .int .i64 p6, .own 55 T_A3 0 p7]), (.tmp 2, .val false [.addr 2 0 0]), (.tmp 5, .val false [.addr 5 0 0]), (.tmp 6, .val false [.int .i64 p8]), (.tmp 7, .val false [.own 55 T_A3 0 p9]), (.tmp 8, .val false [.int .i64 p10])]
noncomputable def P_spec_SinkHeap : Ft_spec_SinkHeap := hid (runF (X_spec_SinkHeap N P_spec_l2Heap P_spec_l2Made P_spec_l2Own P_spec_l2With P_spec_l7Parted) B_spec_SinkHeap As_spec_SinkHeap R_spec_SinkHeap M_spec_SinkHeap)
theorem h_spec_SinkHeap : P_spec_SinkHeap = runF (X_spec_SinkHeap N P_spec_l2Heap P_spec_l2Made P_spec_l2Own P_spec_l2With P_spec_l7Parted) B_spec_SinkHeap As_spec_SinkHeap R_spec_SinkHeap M_spec_SinkHeap := hid_eq _
noncomputable def C_spec_SinkHeap : Contract := ⟨As_spec_SinkHeap, R_spec_SinkHeap, M_spec_SinkHeap, P_spec_SinkHeap⟩
theorem s_spec_SinkHeap : Sound Tryz.prog GG 149 C_spec_SinkHeap := by
  unfold C_spec_SinkHeap; rw [h_spec_SinkHeap]
  exact sound_of_run (fn := Tryz.f149) hmix hstable (tyOK_of ttOK) (hglob (X_spec_SinkHeap N P_spec_l2Heap P_spec_l2Made P_spec_l2Own P_spec_l2With P_spec_l7Parted)) (conOK_of (X := X_spec_SinkHeap N P_spec_l2Heap P_spec_l2Made P_spec_l2Own P_spec_l2With P_spec_l7Parted) ⟨s_spec_l2Heap, s_spec_l2Made, s_spec_l2Own, s_spec_l2With, s_spec_l7Parted, trivial⟩) (mconOK_of (X := X_spec_SinkHeap N P_spec_l2Heap P_spec_l2Made P_spec_l2Own P_spec_l2With P_spec_l7Parted) trivial) (by kernel_rfl) (by kernel_rfl) (by kernel_rfl) (by kernel_rfl) (by kernel_rfl) (of_decide_eq_true (by kernel_rfl))
noncomputable def l_spec_SinkHeap_4 : Nat → Int → Int → Int → (List D_A3) → Int → Int → Int → (List D_A3) → Int → Option (denL R_spec_SinkHeap) := hid (fun m0 p0 p1 p2 p3 p4 p5 p6 p7 p8 => L_spec_SinkHeap_4 N P_spec_l2Heap P_spec_l2Made P_spec_l2Own P_spec_l2With P_spec_l7Parted m0 p0 p1 p2 p3 p4 p5 p6 p7 p8)
theorem h_spec_SinkHeap_4 : l_spec_SinkHeap_4 = fun m0 p0 p1 p2 p3 p4 p5 p6 p7 p8 => L_spec_SinkHeap_4 N P_spec_l2Heap P_spec_l2Made P_spec_l2Own P_spec_l2With P_spec_l7Parted m0 p0 p1 p2 p3 p4 p5 p6 p7 p8 := hid_eq _
noncomputable def l_spec_SinkHeap_9 : Nat → Nat → Int → Int → Int → (List D_A3) → Int → Int → Int → (List D_A3) → Int → (List D_A3) → Int → Option (denL R_spec_SinkHeap) := hid (fun m0 m1 p0 p1 p2 p3 p4 p5 p6 p7 p8 p9 p10 => L_spec_SinkHeap_9 N P_spec_l2Heap P_spec_l2Made P_spec_l2Own P_spec_l2With P_spec_l7Parted m0 m1 p0 p1 p2 p3 p4 p5 p6 p7 p8 p9 p10)
theorem h_spec_SinkHeap_9 : l_spec_SinkHeap_9 = fun m0 m1 p0 p1 p2 p3 p4 p5 p6 p7 p8 p9 p10 => L_spec_SinkHeap_9 N P_spec_l2Heap P_spec_l2Made P_spec_l2Own P_spec_l2With P_spec_l7Parted m0 m1 p0 p1 p2 p3 p4 p5 p6 p7 p8 p9 p10 := hid_eq _
theorem p_spec_SinkHeap (a0 : D_Heap) : P_spec_SinkHeap (a0, ()) = 
  Option.bind (P_spec_l2Heap (a0, ())) fun r0 =>
  bif !r0.1 then
    some ((0, (0, (0, (([] : List D_A3), ())))), 0, false, ())
  else
    Option.bind (P_spec_l2Own (a0, ())) fun r2 =>
    l_spec_SinkHeap_4 N 0 0 0 ([] : List D_A3) r2.1.1 r2.1.2.1 r2.1.2.2.1 r2.1.2.2.2.1 0 := by
  rewrite [h_spec_SinkHeap, h_spec_SinkHeap_4]
  kernel_rfl
theorem q_spec_SinkHeap_4 (m0 : Nat) (p0 : Int) (p1 : Int) (p2 : Int) (p3 : List D_A3) (p4 : Int) (p5 : Int) (p6 : Int) (p7 : List D_A3) (p8 : Int) : l_spec_SinkHeap_4 (m0 + 1) p0 p1 p2 p3 p4 p5 p6 p7 p8 = 
  Option.bind (P_spec_l7Parted ((p4, (p5, (p6, (p7, ())))), true, ())) fun r0 =>
  bif decide ((List.length r0.1 : Int) = 0) then
    some ((p4, (p5, (p6, (p7, ())))), p8, true, ())
  else
    Option.bind (P_spec_l7Parted ((p4, (p5, (p6, (p7, ())))), false, ())) fun r2 =>
    Option.bind (P_spec_l2Made ((p4, (p5, (p6, (p7, ())))), r2.1, ())) fun r3 =>
    l_spec_SinkHeap_9 m0 N p0 p1 p2 p3 r3.1.1 r3.1.2.1 r3.1.2.2.1 r2.1 p8 r0.1 0 := by
  rewrite [h_spec_SinkHeap_4, h_spec_SinkHeap_9]
  kernel_rfl
theorem q_spec_SinkHeap_9 (m0 m1 : Nat) (p0 : Int) (p1 : Int) (p2 : Int) (p3 : List D_A3) (p4 : Int) (p5 : Int) (p6 : Int) (p7 : List D_A3) (p8 : Int) (p9 : List D_A3) (p10 : Int) : l_spec_SinkHeap_9 m0 (m1 + 1) p0 p1 p2 p3 p4 p5 p6 p7 p8 p9 p10 = 
  bif decide (p10 < (List.length p9 : Int)) then
    bif inB p10 (List.length p9) then
      bif inB p10 (List.length p9) then
        bif inB p10 (List.length p9) then
          Option.bind (P_spec_l2With ((p4, (p5, (p6, (p7, ())))), (((nth T_A3 p9 p10)).1, ((((nth T_A3 p9 p10)).2).1, ((IntKind.wrap .i64 (((((nth T_A3 p9 p10)).2).2).1 - 1)), ()))), ())) fun r4 =>
          l_spec_SinkHeap_9 m0 m1 p0 p1 p2 p3 r4.1.1 r4.1.2.1 r4.1.2.2.1 r4.1.2.2.2.1 p8 p9 (IntKind.wrap .i64 (p10 + 1))
        else none
      else none
    else none
  else
    l_spec_SinkHeap_4 m0 p0 p1 p2 p3 p4 p5 p6 p7 (IntKind.wrap .i64 (p8 + 1)) := by
  rewrite [h_spec_SinkHeap_4, h_spec_SinkHeap_9]
  kernel_rfl

/- 158: loop.example/g01166/spec.l2Mirrored -/
abbrev As_spec_l2Mirrored : List ATy := [.data true T_Heap, .data false (.int .i64)]
abbrev R_spec_l2Mirrored : List (Bool × Ty) := [(true, T_Heap)]
abbrev M_spec_l2Mirrored : List RMode := [.own 55]
abbrev Ft_spec_l2Mirrored : Type := D_Heap × Int × Unit → Option (D_Heap × Unit)
noncomputable def X_spec_l2Mirrored (n : Nat) (F_spec_l2Empty : Ft_spec_l2Empty) (F_spec_l2Long : Ft_spec_l2Long) (F_spec_l2With : Ft_spec_l2With) : Ctx := { types := TT, globals := [], con := [(97, ⟨As_spec_l2Empty, R_spec_l2Empty, M_spec_l2Empty, F_spec_l2Empty⟩), (132, ⟨As_spec_l2Long, R_spec_l2Long, M_spec_l2Long, F_spec_l2Long⟩), (154, ⟨As_spec_l2With, R_spec_l2With, M_spec_l2With, F_spec_l2With⟩)], keep := [(3, ⟨[.box 2, .box 4, .box 5, .tmp 1, .tmp 2, .tmp 4, .tmp 5, .tmp 6], []⟩)], results := [.cell 4 26], ntmps := 41, n := n }
noncomputable def B_spec_l2Mirrored : Code := (Tryz.f158.body).getD .skip
noncomputable def L_spec_l2Mirrored_3 (n : Nat) (F_spec_l2Empty : Ft_spec_l2Empty) (F_spec_l2Long : Ft_spec_l2Long) (F_spec_l2With : Ft_spec_l2With) (m0 : Nat) (p0 : Int) (p1 : Int) (p2 : Int) (p3 : List D_A3) (p4 : Int) (p5 : Int) (p6 : Int) (p7 : List D_A3) (p8 : Int) (p9 : Int) (p10 : Int) (p11 : List D_A3) (p12 : Int) (p13 : Int) : Option (denL R_spec_l2Mirrored) := loopF (X_spec_l2Mirrored n F_spec_l2Empty F_spec_l2Long F_spec_l2With) B_spec_l2Mirrored R_spec_l2Mirrored M_spec_l2Mirrored 3 [m0] [(.ver, .num 1), (.box 2, .box 0 false [.int .i64 p0, .int .i64 p1, .int .i64 p2, .imm T_A3 p3 (some 3)]), (.box 4, .box 0 false [.int .i64 p4, .int .i64 p5, .int .i64 p6, .own 55 T_A3 0 p7]), (.box 5, .box 0 false [.int .i64 p8, .int .i64 p9, .int .i64 p10, .own 55 T_A3 0 p11]), (.tmp 1, .val false [.int .i64 p12]), (.tmp 2, .val false [.addr 2 0 0]), (.tmp 4, .val false [.addr 4 0 0]), (.tmp 5, .val false [.addr 5 0 0]), (.tmp 6, .val false [.int .i64 p13])]
noncomputable def P_spec_l2Mirrored : Ft_spec_l2Mirrored := hid (runF (X_spec_l2Mirrored N P_spec_l2Empty P_spec_l2Long P_spec_l2With) B_spec_l2Mirrored As_spec_l2Mirrored R_spec_l2Mirrored M_spec_l2Mirrored)
theorem h_spec_l2Mirrored : P_spec_l2Mirrored = runF (X_spec_l2Mirrored N P_spec_l2Empty P_spec_l2Long P_spec_l2With) B_spec_l2Mirrored As_spec_l2Mirrored R_spec_l2Mirrored M_spec_l2Mirrored := hid_eq _
noncomputable def C_spec_l2Mirrored : Contract := ⟨As_spec_l2Mirrored, R_spec_l2Mirrored, M_spec_l2Mirrored, P_spec_l2Mirrored⟩
theorem s_spec_l2Mirrored : Sound Tryz.prog GG 158 C_spec_l2Mirrored := by
  unfold C_spec_l2Mirrored; rw [h_spec_l2Mirrored]
  exact sound_of_run (fn := Tryz.f158) hmix hstable (tyOK_of ttOK) (hglob (X_spec_l2Mirrored N P_spec_l2Empty P_spec_l2Long P_spec_l2With)) (conOK_of (X := X_spec_l2Mirrored N P_spec_l2Empty P_spec_l2Long P_spec_l2With) ⟨s_spec_l2Empty, s_spec_l2Long, s_spec_l2With, trivial⟩) (mconOK_of (X := X_spec_l2Mirrored N P_spec_l2Empty P_spec_l2Long P_spec_l2With) trivial) (by kernel_rfl) (by kernel_rfl) (by kernel_rfl) (by kernel_rfl) (by kernel_rfl) (of_decide_eq_true (by kernel_rfl))
noncomputable def l_spec_l2Mirrored_3 : Nat → Int → Int → Int → (List D_A3) → Int → Int → Int → (List D_A3) → Int → Int → Int → (List D_A3) → Int → Int → Option (denL R_spec_l2Mirrored) := hid (fun m0 p0 p1 p2 p3 p4 p5 p6 p7 p8 p9 p10 p11 p12 p13 => L_spec_l2Mirrored_3 N P_spec_l2Empty P_spec_l2Long P_spec_l2With m0 p0 p1 p2 p3 p4 p5 p6 p7 p8 p9 p10 p11 p12 p13)
theorem h_spec_l2Mirrored_3 : l_spec_l2Mirrored_3 = fun m0 p0 p1 p2 p3 p4 p5 p6 p7 p8 p9 p10 p11 p12 p13 => L_spec_l2Mirrored_3 N P_spec_l2Empty P_spec_l2Long P_spec_l2With m0 p0 p1 p2 p3 p4 p5 p6 p7 p8 p9 p10 p11 p12 p13 := hid_eq _
theorem p_spec_l2Mirrored (a0 : D_Heap) (a1 : Int) : P_spec_l2Mirrored (a0, a1, ()) = 
  Option.bind (P_spec_l2Empty (a0.1, a0.2.1, a0.2.2.1, ())) fun r0 =>
  l_spec_l2Mirrored_3 N a0.1 a0.2.1 a0.2.2.1 a0.2.2.2.1 0 0 0 ([] : List D_A3) r0.1.1 r0.1.2.1 r0.1.2.2.1 r0.1.2.2.2.1 a1 0 := by
  rewrite [h_spec_l2Mirrored, h_spec_l2Mirrored_3]
  kernel_rfl
theorem q_spec_l2Mirrored_3 (m0 : Nat) (p0 : Int) (p1 : Int) (p2 : Int) (p3 : List D_A3) (p4 : Int) (p5 : Int) (p6 : Int) (p7 : List D_A3) (p8 : Int) (p9 : Int) (p10 : Int) (p11 : List D_A3) (p12 : Int) (p13 : Int) : l_spec_l2Mirrored_3 (m0 + 1) p0 p1 p2 p3 p4 p5 p6 p7 p8 p9 p10 p11 p12 p13 = 
  bif decide (p13 < (List.length p3 : Int)) then
    bif inB p13 (List.length p3) then
      Option.bind (P_spec_l2Long ((p0, (p1, (p2, (p3, ())))), p12, ())) fun r2 =>
      bif inB p12 3 then
        bif inB p12 3 then
          Option.bind (P_spec_l2With ((p8, (p9, (p10, (p11, ())))), ((bif decide (p12 = (0 : Int)) then (IntKind.wrap .i64 ((IntKind.wrap .i64 (r2.1 - 1)) - (bif decide (p12 = (0 : Int)) then ((nth T_A3 p3 p13)).1 else (bif decide (p12 = (1 : Int)) then (((nth T_A3 p3 p13)).2).1 else ((((nth T_A3 p3 p13)).2).2).1)))) else ((nth T_A3 p3 p13)).1), ((bif decide (p12 = (1 : Int)) then (IntKind.wrap .i64 ((IntKind.wrap .i64 (r2.1 - 1)) - (bif decide (p12 = (0 : Int)) then ((nth T_A3 p3 p13)).1 else (bif decide (p12 = (1 : Int)) then (((nth T_A3 p3 p13)).2).1 else ((((nth T_A3 p3 p13)).2).2).1)))) else (((nth T_A3 p3 p13)).2).1), ((bif decide (p12 = (2 : Int)) then (IntKind.wrap .i64 ((IntKind.wrap .i64 (r2.1 - 1)) - (bif decide (p12 = (0 : Int)) then ((nth T_A3 p3 p13)).1 else (bif decide (p12 = (1 : Int)) then (((nth T_A3 p3 p13)).2).1 else ((((nth T_A3 p3 p13)).2).2).1)))) else ((((nth T_A3 p3 p13)).2).2).1), ()))), ())) fun r5 =>
          l_spec_l2Mirrored_3 m0 p0 p1 p2 p3 p4 p5 p6 p7 r5.1.1 r5.1.2.1 r5.1.2.2.1 r5.1.2.2.2.1 p12 (IntKind.wrap .i64 (p13 + 1))
        else none
      else none
    else none
  else
    some ((p8, (p9, (p10, (p11, ())))), ()) := by
  rewrite [h_spec_l2Mirrored_3]
  kernel_rfl

/- 150: loop.example/g01166/spec.MirrorHeap -/
abbrev As_spec_MirrorHeap : List ATy := [.data true T_Heap, .data false (.int .i64)]
abbrev R_spec_MirrorHeap : List (Bool × Ty) := [(true, T_Heap), (false, .bool)]
abbrev M_spec_MirrorHeap : List RMode := [.own 55]
abbrev Ft_spec_MirrorHeap : Type := D_Heap × Int × Unit → Option (D_Heap × Bool × Unit)
noncomputable def X_spec_MirrorHeap (n : Nat) (F_spec_l1In : Ft_spec_l1In) (F_spec_l2Heap : Ft_spec_l2Heap) (F_spec_l2Mirrored : Ft_spec_l2Mirrored) : Ctx := { types := TT, globals := [], con := [(67, ⟨As_spec_l1In, R_spec_l1In, M_spec_l1In, F_spec_l1In⟩), (83, ⟨As_spec_l2Heap, R_spec_l2Heap, M_spec_l2Heap, F_spec_l2Heap⟩), (158, ⟨As_spec_l2Mirrored, R_spec_l2Mirrored, M_spec_l2Mirrored, F_spec_l2Mirrored⟩)], keep := [], results := [.cell 4 26, .tmp 5], ntmps := 18, n := n }
noncomputable def B_spec_MirrorHeap : Code := (Tryz.f150.body).getD .skip
noncomputable def P_spec_MirrorHeap : Ft_spec_MirrorHeap := hid (runF (X_spec_MirrorHeap N P_spec_l1In P_spec_l2Heap P_spec_l2Mirrored) B_spec_MirrorHeap As_spec_MirrorHeap R_spec_MirrorHeap M_spec_MirrorHeap)
theorem h_spec_MirrorHeap : P_spec_MirrorHeap = runF (X_spec_MirrorHeap N P_spec_l1In P_spec_l2Heap P_spec_l2Mirrored) B_spec_MirrorHeap As_spec_MirrorHeap R_spec_MirrorHeap M_spec_MirrorHeap := hid_eq _
noncomputable def C_spec_MirrorHeap : Contract := ⟨As_spec_MirrorHeap, R_spec_MirrorHeap, M_spec_MirrorHeap, P_spec_MirrorHeap⟩
theorem s_spec_MirrorHeap : Sound Tryz.prog GG 150 C_spec_MirrorHeap := by
  unfold C_spec_MirrorHeap; rw [h_spec_MirrorHeap]
  exact sound_of_run (fn := Tryz.f150) hmix hstable (tyOK_of ttOK) (hglob (X_spec_MirrorHeap N P_spec_l1In P_spec_l2Heap P_spec_l2Mirrored)) (conOK_of (X := X_spec_MirrorHeap N P_spec_l1In P_spec_l2Heap P_spec_l2Mirrored) ⟨s_spec_l1In, s_spec_l2Heap, s_spec_l2Mirrored, trivial⟩) (mconOK_of (X := X_spec_MirrorHeap N P_spec_l1In P_spec_l2Heap P_spec_l2Mirrored) trivial) (by kernel_rfl) (by kernel_rfl) (by kernel_rfl) (by kernel_rfl) (by kernel_rfl) (of_decide_eq_true (by kernel_rfl))
theorem p_spec_MirrorHeap (a0 : D_Heap) (a1 : Int) : P_spec_MirrorHeap (a0, a1, ()) = 
  Option.bind (P_spec_l2Heap (a0, ())) fun r0 =>
  bif !r0.1 then
    some ((0, (0, (0, (([] : List D_A3), ())))), false, ())
  else
    Option.bind (P_spec_l1In (a1, 0, 2, ())) fun r2 =>
    bif !r2.1 then
      some ((0, (0, (0, (([] : List D_A3), ())))), false, ())
    else
      Option.bind (P_spec_l2Mirrored (a0, a1, ())) fun r4 =>
      some (r4.1, true, ()) := by
  rewrite [h_spec_MirrorHeap]
  kernel_rfl

/- 159: loop.example/g01166/spec.l2Swapped -/
abbrev As_spec_l2Swapped : List ATy := [.data true T_Heap, .data false (.int .i64), .data false (.int .i64)]
abbrev R_spec_l2Swapped : List (Bool × Ty) := [(true, T_Heap)]
abbrev M_spec_l2Swapped : List RMode := [.own 55]
abbrev Ft_spec_l2Swapped : Type := D_Heap × Int × Int × Unit → Option (D_Heap × Unit)
noncomputable def X_spec_l2Swapped (n : Nat) (F_spec_l2Empty : Ft_spec_l2Empty) (F_spec_l2With : Ft_spec_l2With) : Ctx := { types := TT, globals := [], con := [(97, ⟨As_spec_l2Empty, R_spec_l2Empty, M_spec_l2Empty, F_spec_l2Empty⟩), (154, ⟨As_spec_l2With, R_spec_l2With, M_spec_l2With, F_spec_l2With⟩)], keep := [(6, ⟨[.box 3, .box 6, .box 9, .tmp 1, .tmp 2, .tmp 3, .tmp 6, .tmp 9, .tmp 10], []⟩)], results := [.cell 6 26], ntmps := 77, n := n }
noncomputable def B_spec_l2Swapped : Code := (Tryz.f159.body).getD .skip
noncomputable def L_spec_l2Swapped_6 (n : Nat) (F_spec_l2Empty : Ft_spec_l2Empty) (F_spec_l2With : Ft_spec_l2With) (m0 : Nat) (p0 : Int) (p1 : Int) (p2 : Int) (p3 : List D_A3) (p4 : Int) (p5 : Int) (p6 : Int) (p7 : List D_A3) (p8 : Int) (p9 : Int) (p10 : Int) (p11 : List D_A3) (p12 : Int) (p13 : Int) (p14 : Int) : Option (denL R_spec_l2Swapped) := loopF (X_spec_l2Swapped n F_spec_l2Empty F_spec_l2With) B_spec_l2Swapped R_spec_l2Swapped M_spec_l2Swapped 6 [m0] [(.ver, .num 1), (.box 3, .box 0 false [.int .i64 p0, .int .i64 p1, .int .i64 p2, .imm T_A3 p3 (some 3)]), (.box 6, .box 0 false [.int .i64 p4, .int .i64 p5, .int .i64 p6, .own 55 T_A3 0 p7]), (.box 9, .box 0 false [.int .i64 p8, .int .i64 p9, .int .i64 p10, .own 55 T_A3 0 p11]), (.tmp 1, .val false [.int .i64 p12]), (.tmp 2, .val false [.int .i64 p13]), (.tmp 3, .val false [.addr 3 0 0]), (.tmp 6, .val false [.addr 6 0 0]), (.tmp 9, .val false [.addr 9 0 0]), (.tmp 10, .val false [.int .i64 p14])]
noncomputable def P_spec_l2Swapped : Ft_spec_l2Swapped := hid (runF (X_spec_l2Swapped N P_spec_l2Empty P_spec_l2With) B_spec_l2Swapped As_spec_l2Swapped R_spec_l2Swapped M_spec_l2Swapped)
theorem h_spec_l2Swapped : P_spec_l2Swapped = runF (X_spec_l2Swapped N P_spec_l2Empty P_spec_l2With) B_spec_l2Swapped As_spec_l2Swapped R_spec_l2Swapped M_spec_l2Swapped := hid_eq _
noncomputable def C_spec_l2Swapped : Contract := ⟨As_spec_l2Swapped, R_spec_l2Swapped, M_spec_l2Swapped, P_spec_l2Swapped⟩
theorem s_spec_l2Swapped : Sound Tryz.prog GG 159 C_spec_l2Swapped := by
  unfold C_spec_l2Swapped; rw [h_spec_l2Swapped]
  exact sound_of_run (fn := Tryz.f159) hmix hstable (tyOK_of ttOK) (hglob (X_spec_l2Swapped N P_spec_l2Empty P_spec_l2With)) (conOK_of (X := X_spec_l2Swapped N P_spec_l2Empty P_spec_l2With) ⟨s_spec_l2Empty, s_spec_l2With, trivial⟩) (mconOK_of (X := X_spec_l2Swapped N P_spec_l2Empty P_spec_l2With) trivial) (by kernel_rfl) (by kernel_rfl) (by kernel_rfl) (by kernel_rfl) (by kernel_rfl) (of_decide_eq_true (by kernel_rfl))
noncomputable def l_spec_l2Swapped_6 : Nat → Int → Int → Int → (List D_A3) → Int → Int → Int → (List D_A3) → Int → Int → Int → (List D_A3) → Int → Int → Int → Option (denL R_spec_l2Swapped) := hid (fun m0 p0 p1 p2 p3 p4 p5 p6 p7 p8 p9 p10 p11 p12 p13 p14 => L_spec_l2Swapped_6 N P_spec_l2Empty P_spec_l2With m0 p0 p1 p2 p3 p4 p5 p6 p7 p8 p9 p10 p11 p12 p13 p14)
theorem h_spec_l2Swapped_6 : l_spec_l2Swapped_6 = fun m0 p0 p1 p2 p3 p4 p5 p6 p7 p8 p9 p10 p11 p12 p13 p14 => L_spec_l2Swapped_6 N P_spec_l2Empty P_spec_l2With m0 p0 p1 p2 p3 p4 p5 p6 p7 p8 p9 p10 p11 p12 p13 p14 := hid_eq _
theorem p_spec_l2Swapped (a0 : D_Heap) (a1 : Int) (a2 : Int) : P_spec_l2Swapped (a0, a1, a2, ()) = 
  bif inB a2 3 then
    bif inB a1 3 then
      bif inB a1 3 then
        bif inB a2 3 then
          Option.bind (P_spec_l2Empty ((bif decide (a2 = (0 : Int)) then (bif decide (a1 = (0 : Int)) then a0.1 else (bif decide (a1 = (1 : Int)) then a0.2.1 else a0.2.2.1)) else (bif decide (a1 = (0 : Int)) then (bif decide (a2 = (0 : Int)) then a0.1 else (bif decide (a2 = (1 : Int)) then a0.2.1 else a0.2.2.1)) else a0.1)), (bif decide (a2 = (1 : Int)) then (bif decide (a1 = (0 : Int)) then a0.1 else (bif decide (a1 = (1 : Int)) then a0.2.1 else a0.2.2.1)) else (bif decide (a1 = (1 : Int)) then (bif decide (a2 = (0 : Int)) then a0.1 else (bif decide (a2 = (1 : Int)) then a0.2.1 else a0.2.2.1)) else a0.2.1)), (bif decide (a2 = (2 : Int)) then (bif decide (a1 = (0 : Int)) then a0.1 else (bif decide (a1 = (1 : Int)) then a0.2.1 else a0.2.2.1)) else (bif decide (a1 = (2 : Int)) then (bif decide (a2 = (0 : Int)) then a0.1 else (bif decide (a2 = (1 : Int)) then a0.2.1 else a0.2.2.1)) else a0.2.2.1)), ())) fun r4 =>
          l_spec_l2Swapped_6 N a0.1 a0.2.1 a0.2.2.1 a0.2.2.2.1 0 0 0 ([] : List D_A3) r4.1.1 r4.1.2.1 r4.1.2.2.1 r4.1.2.2.2.1 a1 a2 0
        else none
      else none
    else none
  else none := by
  rewrite [h_spec_l2Swapped, h_spec_l2Swapped_6]
  kernel_rfl
theorem q_spec_l2Swapped_6 (m0 : Nat) (p0 : Int) (p1 : Int) (p2 : Int) (p3 : List D_A3) (p4 : Int) (p5 : Int) (p6 : Int) (p7 : List D_A3) (p8 : Int) (p9 : Int) (p10 : Int) (p11 : List D_A3) (p12 : Int) (p13 : Int) (p14 : Int) : l_spec_l2Swapped_6 (m0 + 1) p0 p1 p2 p3 p4 p5 p6 p7 p8 p9 p10 p11 p12 p13 p14 = 
  bif decide (p14 < (List.length p3 : Int)) then
    bif inB p14 (List.length p3) then
      bif inB p14 (List.length p3) then
        bif inB p13 3 then
          bif inB p12 3 then
            bif inB p14 (List.length p3) then
              bif inB p12 3 then
                bif inB p13 3 then
                  Option.bind (P_spec_l2With ((p8, (p9, (p10, (p11, ())))), ((bif decide (p13 = (0 : Int)) then (bif decide (p12 = (0 : Int)) then ((nth T_A3 p3 p14)).1 else (bif decide (p12 = (1 : Int)) then (((nth T_A3 p3 p14)).2).1 else ((((nth T_A3 p3 p14)).2).2).1)) else (bif decide (p12 = (0 : Int)) then (bif decide (p13 = (0 : Int)) then ((nth T_A3 p3 p14)).1 else (bif decide (p13 = (1 : Int)) then (((nth T_A3 p3 p14)).2).1 else ((((nth T_A3 p3 p14)).2).2).1)) else ((nth T_A3 p3 p14)).1)), ((bif decide (p13 = (1 : Int)) then (bif decide (p12 = (0 : Int)) then ((nth T_A3 p3 p14)).1 else (bif decide (p12 = (1 : Int)) then (((nth T_A3 p3 p14)).2).1 else ((((nth T_A3 p3 p14)).2).2).1)) else (bif decide (p12 = (1 : Int)) then (bif decide (p13 = (0 : Int)) then ((nth T_A3 p3 p14)).1 else (bif decide (p13 = (1 : Int)) then (((nth T_A3 p3 p14)).2).1 else ((((nth T_A3 p3 p14)).2).2).1)) else (((nth T_A3 p3 p14)).2).1)), ((bif decide (p13 = (2 : Int)) then (bif decide (p12 = (0 : Int)) then ((nth T_A3 p3 p14)).1 else (bif decide (p12 = (1 : Int)) then (((nth T_A3 p3 p14)).2).1 else ((((nth T_A3 p3 p14)).2).2).1)) else (bif decide (p12 = (2 : Int)) then (bif decide (p13 = (0 : Int)) then ((nth T_A3 p3 p14)).1 else (bif decide (p13 = (1 : Int)) then (((nth T_A3 p3 p14)).2).1 else ((((nth T_A3 p3 p14)).2).2).1)) else ((((nth T_A3 p3 p14)).2).2).1)), ()))), ())) fun r8 =>
                  l_spec_l2Swapped_6 m0 p0 p1 p2 p3 p4 p5 p6 p7 r8.1.1 r8.1.2.1 r8.1.2.2.1 r8.1.2.2.2.1 p12 p13 (IntKind.wrap .i64 (p14 + 1))
                else none
              else none
            else none
          else none
        else none
      else none
    else none
  else
    some ((p8, (p9, (p10, (p11, ())))), ()) := by
  rewrite [h_spec_l2Swapped_6]
  kernel_rfl

/- 151: loop.example/g01166/spec.SwapSides -/
abbrev As_spec_SwapSides : List ATy := [.data true T_Heap, .data false (.int .i64), .data false (.int .i64)]
abbrev R_spec_SwapSides : List (Bool × Ty) := [(true, T_Heap), (false, .bool)]
abbrev M_spec_SwapSides : List RMode := [.own 55]
abbrev Ft_spec_SwapSides : Type := D_Heap × Int × Int × Unit → Option (D_Heap × Bool × Unit)
noncomputable def X_spec_SwapSides (n : Nat) (F_spec_l1In : Ft_spec_l1In) (F_spec_l2Heap : Ft_spec_l2Heap) (F_spec_l2Swapped : Ft_spec_l2Swapped) : Ctx := { types := TT, globals := [], con := [(67, ⟨As_spec_l1In, R_spec_l1In, M_spec_l1In, F_spec_l1In⟩), (83, ⟨As_spec_l2Heap, R_spec_l2Heap, M_spec_l2Heap, F_spec_l2Heap⟩), (159, ⟨As_spec_l2Swapped, R_spec_l2Swapped, M_spec_l2Swapped, F_spec_l2Swapped⟩)], keep := [], results := [.cell 6 26, .tmp 7], ntmps := 26, n := n }
noncomputable def B_spec_SwapSides : Code := (Tryz.f151.body).getD .skip
noncomputable def P_spec_SwapSides : Ft_spec_SwapSides := hid (runF (X_spec_SwapSides N P_spec_l1In P_spec_l2Heap P_spec_l2Swapped) B_spec_SwapSides As_spec_SwapSides R_spec_SwapSides M_spec_SwapSides)
theorem h_spec_SwapSides : P_spec_SwapSides = runF (X_spec_SwapSides N P_spec_l1In P_spec_l2Heap P_spec_l2Swapped) B_spec_SwapSides As_spec_SwapSides R_spec_SwapSides M_spec_SwapSides := hid_eq _
noncomputable def C_spec_SwapSides : Contract := ⟨As_spec_SwapSides, R_spec_SwapSides, M_spec_SwapSides, P_spec_SwapSides⟩
theorem s_spec_SwapSides : Sound Tryz.prog GG 151 C_spec_SwapSides := by
  unfold C_spec_SwapSides; rw [h_spec_SwapSides]
  exact sound_of_run (fn := Tryz.f151) hmix hstable (tyOK_of ttOK) (hglob (X_spec_SwapSides N P_spec_l1In P_spec_l2Heap P_spec_l2Swapped)) (conOK_of (X := X_spec_SwapSides N P_spec_l1In P_spec_l2Heap P_spec_l2Swapped) ⟨s_spec_l1In, s_spec_l2Heap, s_spec_l2Swapped, trivial⟩) (mconOK_of (X := X_spec_SwapSides N P_spec_l1In P_spec_l2Heap P_spec_l2Swapped) trivial) (by kernel_rfl) (by kernel_rfl) (by kernel_rfl) (by kernel_rfl) (by kernel_rfl) (of_decide_eq_true (by kernel_rfl))
theorem p_spec_SwapSides (a0 : D_Heap) (a1 : Int) (a2 : Int) : P_spec_SwapSides (a0, a1, a2, ()) = 
  Option.bind (P_spec_l2Heap (a0, ())) fun r0 =>
  bif !r0.1 then
    some ((0, (0, (0, (([] : List D_A3), ())))), false, ())
  else
    Option.bind (P_spec_l1In (a1, 0, 2, ())) fun r2 =>
    bif !r2.1 then
      some ((0, (0, (0, (([] : List D_A3), ())))), false, ())
    else
      Option.bind (P_spec_l1In (a2, 0, 2, ())) fun r4 =>
      bif !r4.1 then
        some ((0, (0, (0, (([] : List D_A3), ())))), false, ())
      else
        Option.bind (P_spec_l2Swapped (a0, a1, a2, ())) fun r6 =>
        some (r6.1, true, ()) := by
  rewrite [h_spec_SwapSides]
  kernel_rfl

/- 137: loop.example/g01166/spec.l12Make -/
abbrev As_spec_l12Make : List ATy := [.data true T_Heap, .data true T_Act]
abbrev R_spec_l12Make : List (Bool × Ty) := [(true, T_Heap), (false, .bool)]
abbrev M_spec_l12Make : List RMode := [.imm]
abbrev Ft_spec_l12Make : Type := D_Heap × D_Act × Unit → Option (D_Heap × Bool × Unit)
noncomputable def X_spec_l12Make (n : Nat) (F_spec_OtherCells : Ft_spec_OtherCells) (F_spec_PutCube : Ft_spec_PutCube) (F_spec_TakeCube : Ft_spec_TakeCube) (F_spec_DropHeap : Ft_spec_DropHeap) (F_spec_SinkHeap : Ft_spec_SinkHeap) (F_spec_MirrorHeap : Ft_spec_MirrorHeap) (F_spec_SwapSides : Ft_spec_SwapSides) : Ctx := { types := TT, globals := [], con := [(125, ⟨As_spec_OtherCells, R_spec_OtherCells, M_spec_OtherCells, F_spec_OtherCells⟩), (146, ⟨As_spec_PutCube, R_spec_PutCube, M_spec_PutCube, F_spec_PutCube⟩), (147, ⟨As_spec_TakeCube, R_spec_TakeCube, M_spec_TakeCube, F_spec_TakeCube⟩), (148, ⟨As_spec_DropHeap, R_spec_DropHeap, M_spec_DropHeap, F_spec_DropHeap⟩), (149, ⟨As_spec_SinkHeap, R_spec_SinkHeap, M_spec_SinkHeap, F_spec_SinkHeap⟩), (150, ⟨As_spec_MirrorHeap, R_spec_MirrorHeap, M_spec_MirrorHeap, F_spec_MirrorHeap⟩), (151, ⟨As_spec_SwapSides, R_spec_SwapSides, M_spec_SwapSides, F_spec_SwapSides⟩)], keep := [], results := [.cell 4 26, .tmp 5], ntmps := 68, n := n }
noncomputable def B_spec_l12Make : Code := (Tryz.f137.body).getD .skip
noncomputable def P_spec_l12Make : Ft_spec_l12Make := hid (runF (X_spec_l12Make N P_spec_OtherCells P_spec_PutCube P_spec_TakeCube P_spec_DropHeap P_spec_SinkHeap P_spec_MirrorHeap P_spec_SwapSides) B_spec_l12Make As_spec_l12Make R_spec_l12Make M_spec_l12Make)
theorem h_spec_l12Make : P_spec_l12Make = runF (X_spec_l12Make N P_spec_OtherCells P_spec_PutCube P_spec_TakeCube P_spec_DropHeap P_spec_SinkHeap P_spec_MirrorHeap P_spec_SwapSides) B_spec_l12Make As_spec_l12Make R_spec_l12Make M_spec_l12Make := hid_eq _
noncomputable def C_spec_l12Make : Contract := ⟨As_spec_l12Make, R_spec_l12Make, M_spec_l12Make, P_spec_l12Make⟩
theorem s_spec_l12Make : Sound Tryz.prog GG 137 C_spec_l12Make := by
  unfold C_spec_l12Make; rw [h_spec_l12Make]
  exact sound_of_run (fn := Tryz.f137) hmix hstable (tyOK_of ttOK) (hglob (X_spec_l12Make N P_spec_OtherCells P_spec_PutCube P_spec_TakeCube P_spec_DropHeap P_spec_SinkHeap P_spec_MirrorHeap P_spec_SwapSides)) (conOK_of (X := X_spec_l12Make N P_spec_OtherCells P_spec_PutCube P_spec_TakeCube P_spec_DropHeap P_spec_SinkHeap P_spec_MirrorHeap P_spec_SwapSides) ⟨s_spec_OtherCells, s_spec_PutCube, s_spec_TakeCube, s_spec_DropHeap, s_spec_SinkHeap, s_spec_MirrorHeap, s_spec_SwapSides, trivial⟩) (mconOK_of (X := X_spec_l12Make N P_spec_OtherCells P_spec_PutCube P_spec_TakeCube P_spec_DropHeap P_spec_SinkHeap P_spec_MirrorHeap P_spec_SwapSides) trivial) (by kernel_rfl) (by kernel_rfl) (by kernel_rfl) (by kernel_rfl) (by kernel_rfl) (of_decide_eq_true (by kernel_rfl))
theorem p_spec_l12Make (a0 : D_Heap) (a1 : D_Act) : P_spec_l12Make (a0, a1, ()) = 
  bif decide (a1.1 = 1) then
    Option.bind (P_spec_PutCube (a0, a1.2.1, ())) fun r1 =>
    some (r1.1, r1.2.1, ())
  else
    bif decide (a1.1 = 2) then
      Option.bind (P_spec_TakeCube (a0, a1.2.1, ())) fun r2 =>
      some (r2.1, r2.2.1, ())
    else
      bif decide (a1.1 = 3) then
        Option.bind (P_spec_DropHeap (a0, ())) fun r3 =>
        some (r3.1, r3.2.1, ())
      else
        bif decide (a1.1 = 4) then
          Option.bind (P_spec_SinkHeap (a0, ())) fun r4 =>
          some (r4.1, r4.2.2.1, ())
        else
          bif decide (a1.1 = 5) then
            Option.bind (P_spec_MirrorHeap (a0, a1.2.2.1, ())) fun r5 =>
            some (r5.1, r5.2.1, ())
          else
            bif decide (a1.1 = 6) then
              Option.bind (P_spec_SwapSides (a0, a1.2.2.1, a1.2.2.2.1, ())) fun r6 =>
              some (r6.1, r6.2.1, ())
            else
              bif decide (a1.1 = 7) then
                Option.bind (P_spec_OtherCells (a0, ())) fun r7 =>
                some (r7.1, r7.2.1, ())
              else
                some (a0, false, ()) := by
  rewrite [h_spec_l12Make]
  kernel_rfl

/- 138: loop.example/g01166/spec.l12Plain -/
abbrev As_spec_l12Plain : List ATy := [.data true T_Act]
abbrev R_spec_l12Plain : List (Bool × Ty) := [(false, .bool)]
abbrev M_spec_l12Plain : List RMode := []
abbrev Ft_spec_l12Plain : Type := D_Act × Unit → Option (Bool × Unit)
noncomputable def X_spec_l12Plain (n : Nat) : Ctx := { types := TT, globals := [], con := [], keep := [], results := [.tmp 2], ntmps := 47, n := n }
noncomputable def B_spec_l12Plain : Code := (Tryz.f138.body).getD .skip
noncomputable def P_spec_l12Plain : Ft_spec_l12Plain := hid (runF (X_spec_l12Plain N) B_spec_l12Plain As_spec_l12Plain R_spec_l12Plain M_spec_l12Plain)
theorem h_spec_l12Plain : P_spec_l12Plain = runF (X_spec_l12Plain N) B_spec_l12Plain As_spec_l12Plain R_spec_l12Plain M_spec_l12Plain := hid_eq _
noncomputable def C_spec_l12Plain : Contract := ⟨As_spec_l12Plain, R_spec_l12Plain, M_spec_l12Plain, P_spec_l12Plain⟩
theorem s_spec_l12Plain : Sound Tryz.prog GG 138 C_spec_l12Plain := by
  unfold C_spec_l12Plain; rw [h_spec_l12Plain]
  exact sound_of_run (fn := Tryz.f138) hmix hstable (tyOK_of ttOK) (hglob (X_spec_l12Plain N)) (conOK_of (X := X_spec_l12Plain N) trivial) (mconOK_of (X := X_spec_l12Plain N) trivial) (by kernel_rfl) (by kernel_rfl) (by kernel_rfl) (by kernel_rfl) (by kernel_rfl) (of_decide_eq_true (by kernel_rfl))
theorem p_spec_l12Plain (a0 : D_Act) : P_spec_l12Plain (a0, ()) = 
  bif decide (a0.1 = 1) then
    bif decide (a0.1 = 1) then
      bif decide (a0.2.2.1 = 0) then
        some (decide (a0.2.2.2.1 = 0), ())
      else
        some (false, ())
    else
      bif decide (a0.1 = 5) then
        bif (decide (a0.2.1.1 = 0) && (decide (a0.2.1.2.1 = 0) && (decide (a0.2.1.2.2.1 = 0) && true))) then
          some (decide (a0.2.2.2.1 = 0), ())
        else
          some (false, ())
      else
        bif decide (a0.1 = 6) then
          some ((decide (a0.2.1.1 = 0) && (decide (a0.2.1.2.1 = 0) && (decide (a0.2.1.2.2.1 = 0) && true))), ())
        else
          bif (decide (a0.2.1.1 = 0) && (decide (a0.2.1.2.1 = 0) && (decide (a0.2.1.2.2.1 = 0) && true))) then
            bif decide (a0.2.2.1 = 0) then
              some (decide (a0.2.2.2.1 = 0), ())
            else
              some (false, ())
          else
            some (false, ())
  else
    bif decide (a0.1 = 2) then
      bif decide (a0.2.2.1 = 0) then
        some (decide (a0.2.2.2.1 = 0), ())
      else
        some (false, ())
    else
      bif decide (a0.1 = 5) then
        bif (decide (a0.2.1.1 = 0) && (decide (a0.2.1.2.1 = 0) && (decide (a0.2.1.2.2.1 = 0) && true))) then
          some (decide (a0.2.2.2.1 = 0), ())
        else
          some (false, ())
      else
        bif decide (a0.1 = 6) then
          some ((decide (a0.2.1.1 = 0) && (decide (a0.2.1.2.1 = 0) && (decide (a0.2.1.2.2.1 = 0) && true))), ())
        else
          bif (decide (a0.2.1.1 = 0) && (decide (a0.2.1.2.1 = 0) && (decide (a0.2.1.2.2.1 = 0) && true))) then
            bif decide (a0.2.2.1 = 0) then
              some (decide (a0.2.2.2.1 = 0), ())
            else
              some (false, ())
          else
            some (false, ()) := by
  rewrite [h_spec_l12Plain]
  kernel_rfl

/- 139: loop.example/g01166/spec.l1Least -/
abbrev As_spec_l1Least : List ATy := [.data false (.int .i64), .data false (.int .i64)]
abbrev R_spec_l1Least : List (Bool × Ty) := [(false, (.int .i64))]
abbrev M_spec_l1Least : List RMode := []
abbrev Ft_spec_l1Least : Type := Int × Int × Unit → Option (Int × Unit)
noncomputable def X_spec_l1Least (n : Nat) : Ctx := { types := TT, globals := [], con := [], keep := [], results := [.tmp 4], ntmps := 10, n := n }
noncomputable def B_spec_l1Least : Code := (Tryz.f139.body).getD .skip
noncomputable def P_spec_l1Least : Ft_spec_l1Least := hid (runF (X_spec_l1Least N) B_spec_l1Least As_spec_l1Least R_spec_l1Least M_spec_l1Least)
theorem h_spec_l1Least : P_spec_l1Least = runF (X_spec_l1Least N) B_spec_l1Least As_spec_l1Least R_spec_l1Least M_spec_l1Least := hid_eq _
noncomputable def C_spec_l1Least : Contract := ⟨As_spec_l1Least, R_spec_l1Least, M_spec_l1Least, P_spec_l1Least⟩
theorem s_spec_l1Least : Sound Tryz.prog GG 139 C_spec_l1Least := by
  unfold C_spec_l1Least; rw [h_spec_l1Least]
  exact sound_of_run (fn := Tryz.f139) hmix hstable (tyOK_of ttOK) (hglob (X_spec_l1Least N)) (conOK_of (X := X_spec_l1Least N) trivial) (mconOK_of (X := X_spec_l1Least N) trivial) (by kernel_rfl) (by kernel_rfl) (by kernel_rfl) (by kernel_rfl) (by kernel_rfl) (of_decide_eq_true (by kernel_rfl))
theorem p_spec_l1Least (a0 : Int) (a1 : Int) : P_spec_l1Least (a0, a1, ()) = 
  bif decide (a0 < a1) then
    some (a0, ())
  else
    some (a1, ()) := by
  rewrite [h_spec_l1Least]
  kernel_rfl

/- 114: loop.example/g01166/spec.l12Do -/
abbrev As_spec_l12Do : List ATy := [.data true T_Bench, .data true T_Act]
abbrev R_spec_l12Do : List (Bool × Ty) := [(true, T_Bench), (false, .bool)]
abbrev M_spec_l12Do : List RMode := [.own 55]
abbrev Ft_spec_l12Do : Type := D_Bench × D_Act × Unit → Option (D_Bench × Bool × Unit)
noncomputable def X_spec_l12Do (n : Nat) (F_spec_l12Good : Ft_spec_l12Good) (F_spec_l12Own : Ft_spec_l12Own) (F_spec_l12Make : Ft_spec_l12Make) (F_spec_l12Plain : Ft_spec_l12Plain) (F_spec_l1Least : Ft_spec_l1Least) : Ctx := { types := TT, globals := [], con := [(37, ⟨As_spec_l12Good, R_spec_l12Good, M_spec_l12Good, F_spec_l12Good⟩), (136, ⟨As_spec_l12Own, R_spec_l12Own, M_spec_l12Own, F_spec_l12Own⟩), (137, ⟨As_spec_l12Make, R_spec_l12Make, M_spec_l12Make, F_spec_l12Make⟩), (138, ⟨As_spec_l12Plain, R_spec_l12Plain, M_spec_l12Plain, F_spec_l12Plain⟩), (139, ⟨As_spec_l1Least, R_spec_l1Least, M_spec_l1Least, F_spec_l1Least⟩)], keep := [], results := [.cell 4 28, .tmp 5], ntmps := 41, n := n }
noncomputable def B_spec_l12Do : Code := (Tryz.f114.body).getD .skip
noncomputable def P_spec_l12Do : Ft_spec_l12Do := hid (runF (X_spec_l12Do N P_spec_l12Good P_spec_l12Own P_spec_l12Make P_spec_l12Plain P_spec_l1Least) B_spec_l12Do As_spec_l12Do R_spec_l12Do M_spec_l12Do)
theorem h_spec_l12Do : P_spec_l12Do = runF (X_spec_l12Do N P_spec_l12Good P_spec_l12Own P_spec_l12Make P_spec_l12Plain P_spec_l1Least) B_spec_l12Do As_spec_l12Do R_spec_l12Do M_spec_l12Do := hid_eq _
noncomputable def C_spec_l12Do : Contract := ⟨As_spec_l12Do, R_spec_l12Do, M_spec_l12Do, P_spec_l12Do⟩
theorem s_spec_l12Do : Sound Tryz.prog GG 114 C_spec_l12Do := by
  unfold C_spec_l12Do; rw [h_spec_l12Do]
  exact sound_of_run (fn := Tryz.f114) hmix hstable (tyOK_of ttOK) (hglob (X_spec_l12Do N P_spec_l12Good P_spec_l12Own P_spec_l12Make P_spec_l12Plain P_spec_l1Least)) (conOK_of (X := X_spec_l12Do N P_spec_l12Good P_spec_l12Own P_spec_l12Make P_spec_l12Plain P_spec_l1Least) ⟨s_spec_l12Good, s_spec_l12Own, s_spec_l12Make, s_spec_l12Plain, s_spec_l1Least, trivial⟩) (mconOK_of (X := X_spec_l12Do N P_spec_l12Good P_spec_l12Own P_spec_l12Make P_spec_l12Plain P_spec_l1Least) trivial) (by kernel_rfl) (by kernel_rfl) (by kernel_rfl) (by kernel_rfl) (by kernel_rfl) (of_decide_eq_true (by kernel_rfl))
theorem p_spec_l12Do (a0 : D_Bench) (a1 : D_Act) : P_spec_l12Do (a0, a1, ()) = 
  Option.bind (P_spec_l12Make (a0.1, a1, ())) fun r0 =>
  bif !r0.2.1 then
    some (((0, (0, (0, (([] : List D_A3), ())))), (0, (0, ()))), false, ())
  else
    Option.bind (P_spec_l12Plain (a1, ())) fun r2 =>
    bif !r2.1 then
      some (((0, (0, (0, (([] : List D_A3), ())))), (0, (0, ()))), false, ())
    else
      Option.bind (P_spec_l1Least (a0.2.1, (List.length r0.1.2.2.2.1 : Int), ())) fun r4 =>
      Option.bind (P_spec_l12Good ((r0.1, (r4.1, ((IntKind.wrap .i64 (a0.2.2.1 + 1)), ()))), ())) fun r5 =>
      bif !r5.1 then
        some (((0, (0, (0, (([] : List D_A3), ())))), (0, (0, ()))), false, ())
      else
        Option.bind (P_spec_l12Own ((r0.1, (r4.1, ((IntKind.wrap .i64 (a0.2.2.1 + 1)), ()))), ())) fun r7 =>
        some (r7.1, true, ()) := by
  rewrite [h_spec_l12Do]
  kernel_rfl

/- 62: (*loop.example/g01166/spec.l1Cur).direction -/
abbrev As_l1Cur_direction : List ATy := [.lptr T_l1Cur]
abbrev R_l1Cur_direction : List (Bool × Ty) := [(false, (.int .i64))]
abbrev M_l1Cur_direction : List RMode := []
abbrev Ft_l1Cur_direction : Type := D_l1Cur × Unit → Option ((Int × Unit) × (D_l1Cur × Unit))
noncomputable def X_l1Cur_direction (n : Nat) (F_l1Cur_one : Ft_l1Cur_one) (F_l1Cur_among : Ft_l1Cur_among) (F_l1Cur_pick : Ft_l1Cur_pick) : Ctx := { types := TT, globals := [], con := [], mcon := [(91, ⟨As_l1Cur_one, R_l1Cur_one, M_l1Cur_one, F_l1Cur_one⟩), (92, ⟨As_l1Cur_among, R_l1Cur_among, M_l1Cur_among, F_l1Cur_among⟩), (109, ⟨As_l1Cur_pick, R_l1Cur_pick, M_l1Cur_pick, F_l1Cur_pick⟩)], keep := [], results := [.tmp 2], ntmps := 10, n := n }
noncomputable def B_l1Cur_direction : Code := (Tryz.f62.body).getD .skip
noncomputable def P_l1Cur_direction : Ft_l1Cur_direction := hid (runFM (X_l1Cur_direction N P_l1Cur_one P_l1Cur_among P_l1Cur_pick) B_l1Cur_direction As_l1Cur_direction R_l1Cur_direction M_l1Cur_direction)
theorem h_l1Cur_direction : P_l1Cur_direction = runFM (X_l1Cur_direction N P_l1Cur_one P_l1Cur_among P_l1Cur_pick) B_l1Cur_direction As_l1Cur_direction R_l1Cur_direction M_l1Cur_direction := hid_eq _
noncomputable def C_l1Cur_direction : MContract := ⟨As_l1Cur_direction, R_l1Cur_direction, M_l1Cur_direction, P_l1Cur_direction⟩
theorem s_l1Cur_direction : SoundM Tryz.prog n0 GG 62 C_l1Cur_direction := by
  unfold C_l1Cur_direction; rw [h_l1Cur_direction]
  exact sound_of_runM (fn := Tryz.f62) hmix hstable (tyOK_of ttOK) (hglob (X_l1Cur_direction N P_l1Cur_one P_l1Cur_among P_l1Cur_pick)) (conOK_of (X := X_l1Cur_direction N P_l1Cur_one P_l1Cur_among P_l1Cur_pick) trivial) (mconOK_of (X := X_l1Cur_direction N P_l1Cur_one P_l1Cur_among P_l1Cur_pick) ⟨s_l1Cur_one, s_l1Cur_among, s_l1Cur_pick, trivial⟩) (by kernel_rfl) (by kernel_rfl) (by kernel_rfl) (by kernel_rfl) (by kernel_rfl) (of_decide_eq_true (by kernel_rfl)) (by kernel_rfl) (by rfl)
theorem p_l1Cur_direction (a0 : D_l1Cur) : P_l1Cur_direction (a0, ()) = 
  Option.bind (P_l1Cur_one (a0, 30, ())) fun r0 =>
  bif r0.1.1 then
    Option.bind (P_l1Cur_among ((a0.1, r0.2.1.2), ([(-1), 3, 4611686018427387904] : List Int), ())) fun r2 =>
    some ((r2.1.1, ()), ((a0.1, r2.2.1.2), ()))
  else
    Option.bind (P_l1Cur_pick ((a0.1, r0.2.1.2), 3, ())) fun r2 =>
    some ((r2.1.1, ()), ((a0.1, r2.2.1.2), ())) := by
  rewrite [h_l1Cur_direction]
  kernel_rfl

/- 140: (*loop.example/g01166/spec.l1Cur).cell -/
abbrev As_l1Cur_cell : List ATy := [.lptr T_l1Cur, .data true T_Heap]
abbrev R_l1Cur_cell : List (Bool × Ty) := [(true, T_A3)]
abbrev M_l1Cur_cell : List RMode := []
abbrev Ft_l1Cur_cell : Type := D_l1Cur × D_Heap × Unit → Option ((D_A3 × Unit) × (D_l1Cur × Unit))
noncomputable def X_l1Cur_cell (n : Nat) (F_l1Cur_one : Ft_l1Cur_one) (F_l1Cur_among : Ft_l1Cur_among) (F_l1Cur_pick : Ft_l1Cur_pick) (F_spec_l1Most : Ft_spec_l1Most) (F_spec_l2Long : Ft_spec_l2Long) (F_spec_l1Least : Ft_spec_l1Least) : Ctx := { types := TT, globals := [], con := [(118, ⟨As_spec_l1Most, R_spec_l1Most, M_spec_l1Most, F_spec_l1Most⟩), (132, ⟨As_spec_l2Long, R_spec_l2Long, M_spec_l2Long, F_spec_l2Long⟩), (139, ⟨As_spec_l1Least, R_spec_l1Least, M_spec_l1Least, F_spec_l1Least⟩)], mcon := [(91, ⟨As_l1Cur_one, R_l1Cur_one, M_l1Cur_one, F_l1Cur_one⟩), (92, ⟨As_l1Cur_among, R_l1Cur_among, M_l1Cur_among, F_l1Cur_among⟩), (109, ⟨As_l1Cur_pick, R_l1Cur_pick, M_l1Cur_pick, F_l1Cur_pick⟩)], keep := [(3, ⟨[.box 3, .box 4, .box 5, .box 1000000, .tmp 0, .tmp 3, .tmp 4, .tmp 5, .tmp 6], []⟩)], results := [.cell 4 55], ntmps := 30, n := n }
noncomputable def B_l1Cur_cell : Code := (Tryz.f140.body).getD .skip
noncomputable def L_l1Cur_cell_3 (n : Nat) (F_l1Cur_one : Ft_l1Cur_one) (F_l1Cur_among : Ft_l1Cur_among) (F_l1Cur_pick : Ft_l1Cur_pick) (F_spec_l1Most : Ft_spec_l1Most) (F_spec_l2Long : Ft_spec_l2Long) (F_spec_l1Least : Ft_spec_l1Least) (m0 : Nat) (p0 : Int) (p1 : Int) (p2 : Int) (p3 : List D_A3) (p4 : Int) (p5 : Int) (p6 : Int) (p7 : Int) (p8 : Int) (p9 : Int) (p10 : List Int) (p11 : Int) (p12 : Int) (p13 : Int) : Option (denL R_l1Cur_cell × denM As_l1Cur_cell) := loopFM (X_l1Cur_cell n F_l1Cur_one F_l1Cur_among F_l1Cur_pick F_spec_l1Most F_spec_l2Long F_spec_l1Least) B_l1Cur_cell As_l1Cur_cell R_l1Cur_cell M_l1Cur_cell 3 [m0] [(.ver, .num 1), (.box 3, .box 0 false [.int .i64 p0, .int .i64 p1, .int .i64 p2, .imm T_A3 p3 (some 4)]), (.box 4, .box 0 false [.int .i64 p4, .int .i64 p5, .int .i64 p6]), (.box 5, .box 0 false [.int .i64 p7, .int .i64 p8, .int .i64 p9]), (.box 1000000, .box 0 false [.imm (.int .u8) p10 (some 5), .int .i64 p11, .int .u64 p12]), (.tmp 0, .val false [.addr 1000000 0 0]), (.tmp 3, .val false [.addr 3 0 0]), (.tmp 4, .val false [.addr 4 0 0]), (.tmp 5, .val false [.addr 5 0 0]), (.tmp 6, .val false [.int .i64 p13])]
noncomputable def P_l1Cur_cell : Ft_l1Cur_cell := hid (runFM (X_l1Cur_cell N P_l1Cur_one P_l1Cur_among P_l1Cur_pick P_spec_l1Most P_spec_l2Long P_spec_l1Least) B_l1Cur_cell As_l1Cur_cell R_l1Cur_cell M_l1Cur_cell)
theorem h_l1Cur_cell : P_l1Cur_cell = runFM (X_l1Cur_cell N P_l1Cur_one P_l1Cur_among P_l1Cur_pick P_spec_l1Most P_spec_l2Long P_spec_l1Least) B_l1Cur_cell As_l1Cur_cell R_l1Cur_cell M_l1Cur_cell := hid_eq _
noncomputable def C_l1Cur_cell : MContract := ⟨As_l1Cur_cell, R_l1Cur_cell, M_l1Cur_cell, P_l1Cur_cell⟩
theorem s_l1Cur_cell : SoundM Tryz.prog n0 GG 140 C_l1Cur_cell := by
  unfold C_l1Cur_cell; rw [h_l1Cur_cell]
  exact sound_of_runM (fn := Tryz.f140) hmix hstable (tyOK_of ttOK) (hglob (X_l1Cur_cell N P_l1Cur_one P_l1Cur_among P_l1Cur_pick P_spec_l1Most P_spec_l2Long P_spec_l1Least)) (conOK_of (X := X_l1Cur_cell N P_l1Cur_one P_l1Cur_among P_l1Cur_pick P_spec_l1Most P_spec_l2Long P_spec_l1Least) ⟨s_spec_l1Most, s_spec_l2Long, s_spec_l1Least, trivial⟩) (mconOK_of (X := X_l1Cur_cell N P_l1Cur_one P_l1Cur_among P_l1Cur_pick P_spec_l1Most P_spec_l2Long P_spec_l1Least) ⟨s_l1Cur_one, s_l1Cur_among, s_l1Cur_pick, trivial⟩) (by kernel_rfl) (by kernel_rfl) (by kernel_rfl) (by kernel_rfl) (by kernel_rfl) (of_decide_eq_true (by kernel_rfl)) (by kernel_rfl) (by rfl)
noncomputable def l_l1Cur_cell_3 : Nat → Int → Int → Int → (List D_A3) → Int → Int → Int → Int → Int → Int → (List Int) → Int → Int → Int → Option (denL R_l1Cur_cell × denM As_l1Cur_cell) := hid (fun m0 p0 p1 p2 p3 p4 p5 p6 p7 p8 p9 p10 p11 p12 p13 => L_l1Cur_cell_3 N P_l1Cur_one P_l1Cur_among P_l1Cur_pick P_spec_l1Most P_spec_l2Long P_spec_l1Least m0 p0 p1 p2 p3 p4 p5 p6 p7 p8 p9 p10 p11 p12 p13)
theorem h_l1Cur_cell_3 : l_l1Cur_cell_3 = fun m0 p0 p1 p2 p3 p4 p5 p6 p7 p8 p9 p10 p11 p12 p13 => L_l1Cur_cell_3 N P_l1Cur_one P_l1Cur_among P_l1Cur_pick P_spec_l1Most P_spec_l2Long P_spec_l1Least m0 p0 p1 p2 p3 p4 p5 p6 p7 p8 p9 p10 p11 p12 p13 := hid_eq _
theorem p_l1Cur_cell (a0 : D_l1Cur) (a1 : D_Heap) : P_l1Cur_cell (a0, a1, ()) = 
  l_l1Cur_cell_3 N a1.1 a1.2.1 a1.2.2.1 a1.2.2.2.1 0 0 0 0 0 0 a0.1 a0.2.1 a0.2.2.1 0 := by
  rewrite [h_l1Cur_cell, h_l1Cur_cell_3]
  kernel_rfl
theorem q_l1Cur_cell_3 (m0 : Nat) (p0 : Int) (p1 : Int) (p2 : Int) (p3 : List D_A3) (p4 : Int) (p5 : Int) (p6 : Int) (p7 : Int) (p8 : Int) (p9 : Int) (p10 : List Int) (p11 : Int) (p12 : Int) (p13 : Int) : l_l1Cur_cell_3 (m0 + 1) p0 p1 p2 p3 p4 p5 p6 p7 p8 p9 p10 p11 p12 p13 = 
  bif decide (p13 < 3) then
    Option.bind (P_spec_l2Long ((p0, (p1, (p2, (p3, ())))), p13, ())) fun r1 =>
    Option.bind (P_spec_l1Least (r1.1, 4, ())) fun r2 =>
    Option.bind (P_spec_l1Most (r2.1, 1, ())) fun r3 =>
    Option.bind (P_l1Cur_pick ((p10, (p11, (p12, ()))), r3.1, ())) fun r4 =>
    bif inB p13 3 then
      l_l1Cur_cell_3 m0 p0 p1 p2 p3 p4 p5 p6 (bif decide (p13 = (0 : Int)) then r4.1.1 else p7) (bif decide (p13 = (1 : Int)) then r4.1.1 else p8) (bif decide (p13 = (2 : Int)) then r4.1.1 else p9) p10 r4.2.1.2.1 r4.2.1.2.2.1 (IntKind.wrap .i64 (p13 + 1))
    else none
  else
    Option.bind (P_l1Cur_one ((p10, (p11, (p12, ()))), 30, ())) fun r1 =>
    bif r1.1.1 then
      Option.bind (P_l1Cur_pick ((p10, r1.2.1.2), 3, ())) fun r3 =>
      Option.bind (P_l1Cur_among ((p10, r3.2.1.2), ([(-1), 4, 4611686018427387904] : List Int), ())) fun r4 =>
      bif inB r3.1.1 3 then
        some ((((bif decide (r3.1.1 = (0 : Int)) then r4.1.1 else p7), ((bif decide (r3.1.1 = (1 : Int)) then r4.1.1 else p8), ((bif decide (r3.1.1 = (2 : Int)) then r4.1.1 else p9), ()))), ()), ((p10, r4.2.1.2), ()))
      else none
    else
      some (((p7, (p8, (p9, ()))), ()), ((p10, r1.2.1.2), ())) := by
  rewrite [h_l1Cur_cell_3]
  kernel_rfl

/- 141: (*loop.example/g01166/spec.l1Cur).cube -/
abbrev As_l1Cur_cube : List ATy := [.lptr T_l1Cur, .data true T_Heap]
abbrev R_l1Cur_cube : List (Bool × Ty) := [(true, T_A3)]
abbrev M_l1Cur_cube : List RMode := []
abbrev Ft_l1Cur_cube : Type := D_l1Cur × D_Heap × Unit → Option ((D_A3 × Unit) × (D_l1Cur × Unit))
noncomputable def X_l1Cur_cube (n : Nat) (F_l1Cur_one : Ft_l1Cur_one) (F_l1Cur_pick : Ft_l1Cur_pick) (F_l1Cur_cell : Ft_l1Cur_cell) : Ctx := { types := TT, globals := [], con := [], mcon := [(91, ⟨As_l1Cur_one, R_l1Cur_one, M_l1Cur_one, F_l1Cur_one⟩), (109, ⟨As_l1Cur_pick, R_l1Cur_pick, M_l1Cur_pick, F_l1Cur_pick⟩), (140, ⟨As_l1Cur_cell, R_l1Cur_cell, M_l1Cur_cell, F_l1Cur_cell⟩)], keep := [], results := [.cell 4 55], ntmps := 26, n := n }
noncomputable def B_l1Cur_cube : Code := (Tryz.f141.body).getD .skip
noncomputable def P_l1Cur_cube : Ft_l1Cur_cube := hid (runFM (X_l1Cur_cube N P_l1Cur_one P_l1Cur_pick P_l1Cur_cell) B_l1Cur_cube As_l1Cur_cube R_l1Cur_cube M_l1Cur_cube)
theorem h_l1Cur_cube : P_l1Cur_cube = runFM (X_l1Cur_cube N P_l1Cur_one P_l1Cur_pick P_l1Cur_cell) B_l1Cur_cube As_l1Cur_cube R_l1Cur_cube M_l1Cur_cube := hid_eq _
noncomputable def C_l1Cur_cube : MContract := ⟨As_l1Cur_cube, R_l1Cur_cube, M_l1Cur_cube, P_l1Cur_cube⟩
theorem s_l1Cur_cube : SoundM Tryz.prog n0 GG 141 C_l1Cur_cube := by
  unfold C_l1Cur_cube; rw [h_l1Cur_cube]
  exact sound_of_runM (fn := Tryz.f141) hmix hstable (tyOK_of ttOK) (hglob (X_l1Cur_cube N P_l1Cur_one P_l1Cur_pick P_l1Cur_cell)) (conOK_of (X := X_l1Cur_cube N P_l1Cur_one P_l1Cur_pick P_l1Cur_cell) trivial) (mconOK_of (X := X_l1Cur_cube N P_l1Cur_one P_l1Cur_pick P_l1Cur_cell) ⟨s_l1Cur_one, s_l1Cur_pick, s_l1Cur_cell, trivial⟩) (by kernel_rfl) (by kernel_rfl) (by kernel_rfl) (by kernel_rfl) (by kernel_rfl) (of_decide_eq_true (by kernel_rfl)) (by kernel_rfl) (by rfl)
theorem p_l1Cur_cube (a0 : D_l1Cur) (a1 : D_Heap) : P_l1Cur_cube (a0, a1, ()) = 
  bif decide ((List.length a1.2.2.2.1 : Int) > 0) then
    Option.bind (P_l1Cur_one (a0, 8, ())) fun r1 =>
    bif !r1.1.1 then
      Option.bind (P_l1Cur_pick ((a0.1, r1.2.1.2), (List.length a1.2.2.2.1 : Int), ())) fun r3 =>
      bif inB r3.1.1 (List.length a1.2.2.2.1) then
        some (((nth T_A3 a1.2.2.2.1 r3.1.1), ()), ((a0.1, r3.2.1.2), ()))
      else none
    else
      Option.bind (P_l1Cur_cell ((a0.1, r1.2.1.2), a1, ())) fun r3 =>
      some ((r3.1.1, ()), ((a0.1, r3.2.1.2), ()))
  else
    Option.bind (P_l1Cur_cell (a0, a1, ())) fun r1 =>
    some ((r1.1.1, ()), ((a0.1, r1.2.1.2), ())) := by
  rewrite [h_l1Cur_cube]
  kernel_rfl

/- 115: (*loop.example/g01166/spec.l1Cur).act12 -/
abbrev As_l1Cur_act12 : List ATy := [.lptr T_l1Cur, .data true T_Heap]
abbrev R_l1Cur_act12 : List (Bool × Ty) := [(true, T_Act)]
abbrev M_l1Cur_act12 : List RMode := []
abbrev Ft_l1Cur_act12 : Type := D_l1Cur × D_Heap × Unit → Option ((D_Act × Unit) × (D_l1Cur × Unit))
noncomputable def X_l1Cur_act12 (n : Nat) (F_l1Cur_direction : Ft_l1Cur_direction) (F_l1Cur_among : Ft_l1Cur_among) (F_l1Cur_pick : Ft_l1Cur_pick) (F_l1Cur_cell : Ft_l1Cur_cell) (F_l1Cur_cube : Ft_l1Cur_cube) : Ctx := { types := TT, globals := [], con := [], mcon := [(62, ⟨As_l1Cur_direction, R_l1Cur_direction, M_l1Cur_direction, F_l1Cur_direction⟩), (92, ⟨As_l1Cur_among, R_l1Cur_among, M_l1Cur_among, F_l1Cur_among⟩), (109, ⟨As_l1Cur_pick, R_l1Cur_pick, M_l1Cur_pick, F_l1Cur_pick⟩), (140, ⟨As_l1Cur_cell, R_l1Cur_cell, M_l1Cur_cell, F_l1Cur_cell⟩), (141, ⟨As_l1Cur_cube, R_l1Cur_cube, M_l1Cur_cube, F_l1Cur_cube⟩)], keep := [], results := [.cell 4 122], ntmps := 67, n := n }
noncomputable def B_l1Cur_act12 : Code := (Tryz.f115.body).getD .skip
noncomputable def P_l1Cur_act12 : Ft_l1Cur_act12 := hid (runFM (X_l1Cur_act12 N P_l1Cur_direction P_l1Cur_among P_l1Cur_pick P_l1Cur_cell P_l1Cur_cube) B_l1Cur_act12 As_l1Cur_act12 R_l1Cur_act12 M_l1Cur_act12)
theorem h_l1Cur_act12 : P_l1Cur_act12 = runFM (X_l1Cur_act12 N P_l1Cur_direction P_l1Cur_among P_l1Cur_pick P_l1Cur_cell P_l1Cur_cube) B_l1Cur_act12 As_l1Cur_act12 R_l1Cur_act12 M_l1Cur_act12 := hid_eq _
noncomputable def C_l1Cur_act12 : MContract := ⟨As_l1Cur_act12, R_l1Cur_act12, M_l1Cur_act12, P_l1Cur_act12⟩
theorem s_l1Cur_act12 : SoundM Tryz.prog n0 GG 115 C_l1Cur_act12 := by
  unfold C_l1Cur_act12; rw [h_l1Cur_act12]
  exact sound_of_runM (fn := Tryz.f115) hmix hstable (tyOK_of ttOK) (hglob (X_l1Cur_act12 N P_l1Cur_direction P_l1Cur_among P_l1Cur_pick P_l1Cur_cell P_l1Cur_cube)) (conOK_of (X := X_l1Cur_act12 N P_l1Cur_direction P_l1Cur_among P_l1Cur_pick P_l1Cur_cell P_l1Cur_cube) trivial) (mconOK_of (X := X_l1Cur_act12 N P_l1Cur_direction P_l1Cur_among P_l1Cur_pick P_l1Cur_cell P_l1Cur_cube) ⟨s_l1Cur_direction, s_l1Cur_among, s_l1Cur_pick, s_l1Cur_cell, s_l1Cur_cube, trivial⟩) (by kernel_rfl) (by kernel_rfl) (by kernel_rfl) (by kernel_rfl) (by kernel_rfl) (of_decide_eq_true (by kernel_rfl)) (by kernel_rfl) (by rfl)
theorem p_l1Cur_act12 (a0 : D_l1Cur) (a1 : D_Heap) : P_l1Cur_act12 (a0, a1, ()) = 
  Option.bind (P_l1Cur_among (a0, ([1, 1, 1, 2, 2, 3, 4, 5, 6, 7] : List Int), ())) fun r0 =>
  bif decide (r0.1.1 = 1) then
    Option.bind (P_l1Cur_cell ((a0.1, r0.2.1.2), a1, ())) fun r2 =>
    Option.bind (P_l1Cur_pick ((a0.1, r2.2.1.2), 32, ())) fun r3 =>
    bif decide (r3.1.1 = 0) then
      Option.bind (P_l1Cur_among ((a0.1, r3.2.1.2), ([(-1), 3, 1, 4611686018427387904] : List Int), ())) fun r5 =>
      some (((r0.1.1, (r2.1.1, (r5.1.1, (0, ())))), ()), ((a0.1, r5.2.1.2), ()))
    else
      bif decide (r3.1.1 = 1) then
        Option.bind (P_l1Cur_among ((a0.1, r3.2.1.2), ([(-1), 3, 1] : List Int), ())) fun r6 =>
        some (((r0.1.1, (r2.1.1, (0, (r6.1.1, ())))), ()), ((a0.1, r6.2.1.2), ()))
      else
        bif decide (r3.1.1 = 2) then
          Option.bind (P_l1Cur_among ((a0.1, r3.2.1.2), ([0, 8, (-1)] : List Int), ())) fun r7 =>
          some (((r7.1.1, (r2.1.1, (0, (0, ())))), ()), ((a0.1, r7.2.1.2), ()))
        else
          bif decide (r3.1.1 = 3) then
            Option.bind (P_l1Cur_pick ((a0.1, r3.2.1.2), 3, ())) fun r8 =>
            Option.bind (P_l1Cur_among ((a0.1, r8.2.1.2), ([(-1), 4, 1] : List Int), ())) fun r9 =>
            bif inB r8.1.1 3 then
              some (((r0.1.1, (((bif decide (r8.1.1 = (0 : Int)) then r9.1.1 else r2.1.1.1), ((bif decide (r8.1.1 = (1 : Int)) then r9.1.1 else r2.1.1.2.1), ((bif decide (r8.1.1 = (2 : Int)) then r9.1.1 else r2.1.1.2.2.1), ()))), (0, (0, ())))), ()), ((a0.1, r9.2.1.2), ()))
            else none
          else
            some (((r0.1.1, (r2.1.1, (0, (0, ())))), ()), ((a0.1, r3.2.1.2), ()))
  else
    bif decide (r0.1.1 = 2) then
      Option.bind (P_l1Cur_cube ((a0.1, r0.2.1.2), a1, ())) fun r3 =>
      Option.bind (P_l1Cur_pick ((a0.1, r3.2.1.2), 32, ())) fun r4 =>
      bif decide (r4.1.1 = 0) then
        Option.bind (P_l1Cur_among ((a0.1, r4.2.1.2), ([(-1), 3, 1, 4611686018427387904] : List Int), ())) fun r6 =>
        some (((r0.1.1, (r3.1.1, (r6.1.1, (0, ())))), ()), ((a0.1, r6.2.1.2), ()))
      else
        bif decide (r4.1.1 = 1) then
          Option.bind (P_l1Cur_among ((a0.1, r4.2.1.2), ([(-1), 3, 1] : List Int), ())) fun r7 =>
          some (((r0.1.1, (r3.1.1, (0, (r7.1.1, ())))), ()), ((a0.1, r7.2.1.2), ()))
        else
          bif decide (r4.1.1 = 2) then
            Option.bind (P_l1Cur_among ((a0.1, r4.2.1.2), ([0, 8, (-1)] : List Int), ())) fun r8 =>
            some (((r8.1.1, (r3.1.1, (0, (0, ())))), ()), ((a0.1, r8.2.1.2), ()))
          else
            bif decide (r4.1.1 = 3) then
              Option.bind (P_l1Cur_pick ((a0.1, r4.2.1.2), 3, ())) fun r9 =>
              Option.bind (P_l1Cur_among ((a0.1, r9.2.1.2), ([(-1), 4, 1] : List Int), ())) fun r10 =>
              bif inB r9.1.1 3 then
                some (((r0.1.1, (((bif decide (r9.1.1 = (0 : Int)) then r10.1.1 else r3.1.1.1), ((bif decide (r9.1.1 = (1 : Int)) then r10.1.1 else r3.1.1.2.1), ((bif decide (r9.1.1 = (2 : Int)) then r10.1.1 else r3.1.1.2.2.1), ()))), (0, (0, ())))), ()), ((a0.1, r10.2.1.2), ()))
              else none
            else
              some (((r0.1.1, (r3.1.1, (0, (0, ())))), ()), ((a0.1, r4.2.1.2), ()))
    else
      bif decide (r0.1.1 = 5) then
        Option.bind (P_l1Cur_direction ((a0.1, r0.2.1.2), ())) fun r4 =>
        Option.bind (P_l1Cur_pick ((a0.1, r4.2.1.2), 32, ())) fun r5 =>
        bif decide (r5.1.1 = 0) then
          Option.bind (P_l1Cur_among ((a0.1, r5.2.1.2), ([(-1), 3, 1, 4611686018427387904] : List Int), ())) fun r7 =>
          some (((r0.1.1, ((0, (0, (0, ()))), (r7.1.1, (0, ())))), ()), ((a0.1, r7.2.1.2), ()))
        else
          bif decide (r5.1.1 = 1) then
            Option.bind (P_l1Cur_among ((a0.1, r5.2.1.2), ([(-1), 3, 1] : List Int), ())) fun r8 =>
            some (((r0.1.1, ((0, (0, (0, ()))), (r4.1.1, (r8.1.1, ())))), ()), ((a0.1, r8.2.1.2), ()))
          else
            bif decide (r5.1.1 = 2) then
              Option.bind (P_l1Cur_among ((a0.1, r5.2.1.2), ([0, 8, (-1)] : List Int), ())) fun r9 =>
              some (((r9.1.1, ((0, (0, (0, ()))), (r4.1.1, (0, ())))), ()), ((a0.1, r9.2.1.2), ()))
            else
              bif decide (r5.1.1 = 3) then
                Option.bind (P_l1Cur_pick ((a0.1, r5.2.1.2), 3, ())) fun r10 =>
                Option.bind (P_l1Cur_among ((a0.1, r10.2.1.2), ([(-1), 4, 1] : List Int), ())) fun r11 =>
                bif inB r10.1.1 3 then
                  some (((r0.1.1, (((bif decide (r10.1.1 = (0 : Int)) then r11.1.1 else 0), ((bif decide (r10.1.1 = (1 : Int)) then r11.1.1 else 0), ((bif decide (r10.1.1 = (2 : Int)) then r11.1.1 else 0), ()))), (r4.1.1, (0, ())))), ()), ((a0.1, r11.2.1.2), ()))
                else none
              else
                some (((r0.1.1, ((0, (0, (0, ()))), (r4.1.1, (0, ())))), ()), ((a0.1, r5.2.1.2), ()))
      else
        bif decide (r0.1.1 = 6) then
          Option.bind (P_l1Cur_direction ((a0.1, r0.2.1.2), ())) fun r5 =>
          Option.bind (P_l1Cur_direction ((a0.1, r5.2.1.2), ())) fun r6 =>
          Option.bind (P_l1Cur_pick ((a0.1, r6.2.1.2), 32, ())) fun r7 =>
          bif decide (r7.1.1 = 0) then
            Option.bind (P_l1Cur_among ((a0.1, r7.2.1.2), ([(-1), 3, 1, 4611686018427387904] : List Int), ())) fun r9 =>
            some (((r0.1.1, ((0, (0, (0, ()))), (r9.1.1, (r6.1.1, ())))), ()), ((a0.1, r9.2.1.2), ()))
          else
            bif decide (r7.1.1 = 1) then
              Option.bind (P_l1Cur_among ((a0.1, r7.2.1.2), ([(-1), 3, 1] : List Int), ())) fun r10 =>
              some (((r0.1.1, ((0, (0, (0, ()))), (r5.1.1, (r10.1.1, ())))), ()), ((a0.1, r10.2.1.2), ()))
            else
              bif decide (r7.1.1 = 2) then
                Option.bind (P_l1Cur_among ((a0.1, r7.2.1.2), ([0, 8, (-1)] : List Int), ())) fun r11 =>
                some (((r11.1.1, ((0, (0, (0, ()))), (r5.1.1, (r6.1.1, ())))), ()), ((a0.1, r11.2.1.2), ()))
              else
                bif decide (r7.1.1 = 3) then
                  Option.bind (P_l1Cur_pick ((a0.1, r7.2.1.2), 3, ())) fun r12 =>
                  Option.bind (P_l1Cur_among ((a0.1, r12.2.1.2), ([(-1), 4, 1] : List Int), ())) fun r13 =>
                  bif inB r12.1.1 3 then
                    some (((r0.1.1, (((bif decide (r12.1.1 = (0 : Int)) then r13.1.1 else 0), ((bif decide (r12.1.1 = (1 : Int)) then r13.1.1 else 0), ((bif decide (r12.1.1 = (2 : Int)) then r13.1.1 else 0), ()))), (r5.1.1, (r6.1.1, ())))), ()), ((a0.1, r13.2.1.2), ()))
                  else none
                else
                  some (((r0.1.1, ((0, (0, (0, ()))), (r5.1.1, (r6.1.1, ())))), ()), ((a0.1, r7.2.1.2), ()))
        else
          Option.bind (P_l1Cur_pick ((a0.1, r0.2.1.2), 32, ())) fun r5 =>
          bif decide (r5.1.1 = 0) then
            Option.bind (P_l1Cur_among ((a0.1, r5.2.1.2), ([(-1), 3, 1, 4611686018427387904] : List Int), ())) fun r7 =>
            some (((r0.1.1, ((0, (0, (0, ()))), (r7.1.1, (0, ())))), ()), ((a0.1, r7.2.1.2), ()))
          else
            bif decide (r5.1.1 = 1) then
              Option.bind (P_l1Cur_among ((a0.1, r5.2.1.2), ([(-1), 3, 1] : List Int), ())) fun r8 =>
              some (((r0.1.1, ((0, (0, (0, ()))), (0, (r8.1.1, ())))), ()), ((a0.1, r8.2.1.2), ()))
            else
              bif decide (r5.1.1 = 2) then
                Option.bind (P_l1Cur_among ((a0.1, r5.2.1.2), ([0, 8, (-1)] : List Int), ())) fun r9 =>
                some (((r9.1.1, ((0, (0, (0, ()))), (0, (0, ())))), ()), ((a0.1, r9.2.1.2), ()))
              else
                bif decide (r5.1.1 = 3) then
                  Option.bind (P_l1Cur_pick ((a0.1, r5.2.1.2), 3, ())) fun r10 =>
                  Option.bind (P_l1Cur_among ((a0.1, r10.2.1.2), ([(-1), 4, 1] : List Int), ())) fun r11 =>
                  bif inB r10.1.1 3 then
                    some (((r0.1.1, (((bif decide (r10.1.1 = (0 : Int)) then r11.1.1 else 0), ((bif decide (r10.1.1 = (1 : Int)) then r11.1.1 else 0), ((bif decide (r10.1.1 = (2 : Int)) then r11.1.1 else 0), ()))), (0, (0, ())))), ()), ((a0.1, r11.2.1.2), ()))
                  else none
                else
                  some (((r0.1.1, ((0, (0, (0, ()))), (0, (0, ())))), ()), ((a0.1, r5.2.1.2), ())) := by
  rewrite [h_l1Cur_act12]
  kernel_rfl

/- 80: (*loop.example/g01166/spec.l1Cur).bench -/
abbrev As_l1Cur_bench : List ATy := [.lptr T_l1Cur]
abbrev R_l1Cur_bench : List (Bool × Ty) := [(true, T_Bench)]
abbrev M_l1Cur_bench : List RMode := [.own 55]
abbrev Ft_l1Cur_bench : Type := D_l1Cur × Unit → Option ((D_Bench × Unit) × (D_l1Cur × Unit))
noncomputable def X_l1Cur_bench (n : Nat) (F_l1Cur_among : Ft_l1Cur_among) (F_l1Cur_someHeap : Ft_l1Cur_someHeap) (F_l1Cur_pick : Ft_l1Cur_pick) (F_spec_NewBench : Ft_spec_NewBench) (F_spec_l12Do : Ft_spec_l12Do) (F_l1Cur_act12 : Ft_l1Cur_act12) : Ctx := { types := TT, globals := [], con := [(113, ⟨As_spec_NewBench, R_spec_NewBench, M_spec_NewBench, F_spec_NewBench⟩), (114, ⟨As_spec_l12Do, R_spec_l12Do, M_spec_l12Do, F_spec_l12Do⟩)], mcon := [(92, ⟨As_l1Cur_among, R_l1Cur_among, M_l1Cur_among, F_l1Cur_among⟩), (93, ⟨As_l1Cur_someHeap, R_l1Cur_someHeap, M_l1Cur_someHeap, F_l1Cur_someHeap⟩), (109, ⟨As_l1Cur_pick, R_l1Cur_pick, M_l1Cur_pick, F_l1Cur_pick⟩), (115, ⟨As_l1Cur_act12, R_l1Cur_act12, M_l1Cur_act12, F_l1Cur_act12⟩)], keep := [(4, ⟨[.box 2, .box 6, .box 1000000, .tmp 0, .tmp 2, .tmp 6, .tmp 7, .tmp 8], []⟩)], results := [.cell 2 28], ntmps := 88, n := n }
noncomputable def B_l1Cur_bench : Code := (Tryz.f80.body).getD .skip
noncomputable def L_l1Cur_bench_4 (n : Nat) (F_l1Cur_among : Ft_l1Cur_among) (F_l1Cur_someHeap : Ft_l1Cur_someHeap) (F_l1Cur_pick : Ft_l1Cur_pick) (F_spec_NewBench : Ft_spec_NewBench) (F_spec_l12Do : Ft_spec_l12Do) (F_l1Cur_act12 : Ft_l1Cur_act12) (m0 : Nat) (p0 : Int) (p1 : Int) (p2 : Int) (p3 : List D_A3) (p4 : Int) (p5 : Int) (p6 : Int) (p7 : Int) (p8 : Int) (p9 : List D_A3) (p10 : Int) (p11 : Int) (p12 : List Int) (p13 : Int) (p14 : Int) (p15 : Bool) (p16 : Int) : Option (denL R_l1Cur_bench × denM As_l1Cur_bench) := loopFM (X_l1Cur_bench n F_l1Cur_among F_l1Cur_someHeap F_l1Cur_pick F_spec_NewBench F_spec_l12Do F_l1Cur_act12) B_l1Cur_bench As_l1Cur_bench R_l1Cur_bench M_l1Cur_bench 4 [m0] [(.ver, .num 1), (.box 2, .box 0 false [.int .i64 p0, .int .i64 p1, .int .i64 p2, .own 55 T_A3 0 p3, .int .i64 p4, .int .i64 p5]), (.box 6, .box 0 false [.int .i64 p6, .int .i64 p7, .int .i64 p8, .own 55 T_A3 0 p9, .int .i64 p10, .int .i64 p11]), (.box 1000000, .box 0 false [.imm (.int .u8) p12 (some 1), .int .i64 p13, .int .u64 p14]), (.tmp 0, .val false [.addr 1000000 0 0]), (.tmp 2, .val false [.addr 2 0 0]), (.tmp 6, .val false [.addr 6 0 0]), (.tmp 7, .val false [.bool p15]), (.tmp 8, .val false [.int .i64 p16])]
noncomputable def P_l1Cur_bench : Ft_l1Cur_bench := hid (runFM (X_l1Cur_bench N P_l1Cur_among P_l1Cur_someHeap P_l1Cur_pick P_spec_NewBench P_spec_l12Do P_l1Cur_act12) B_l1Cur_bench As_l1Cur_bench R_l1Cur_bench M_l1Cur_bench)
theorem h_l1Cur_bench : P_l1Cur_bench = runFM (X_l1Cur_bench N P_l1Cur_among P_l1Cur_someHeap P_l1Cur_pick P_spec_NewBench P_spec_l12Do P_l1Cur_act12) B_l1Cur_bench As_l1Cur_bench R_l1Cur_bench M_l1Cur_bench := hid_eq _
noncomputable def C_l1Cur_bench : MContract := ⟨As_l1Cur_bench, R_l1Cur_bench, M_l1Cur_bench, P_l1Cur_bench⟩
theorem s_l1Cur_bench : SoundM Tryz.prog n0 GG 80 C_l1Cur_bench := by
  unfold C_l1Cur_bench; rw [h_l1Cur_bench]
  exact sound_of_runM (fn := Tryz.f80) hmix hstable (tyOK_of ttOK) (hglob (X_l1Cur_bench N P_l1Cur_among P_l1Cur_someHeap P_l1Cur_pick P_spec_NewBench P_spec_l12Do P_l1Cur_act12)) (conOK_of (X := X_l1Cur_bench N P_l1Cur_among P_l1Cur_someHeap P_l1Cur_pick P_spec_NewBench P_spec_l12Do P_l1Cur_act12) ⟨s_spec_NewBench, s_spec_l12Do, trivial⟩) (mconOK_of (X := X_l1Cur_bench N P_l1Cur_among P_l1Cur_someHeap P_l1Cur_pick P_spec_NewBench P_spec_l12Do P_l1Cur_act12) ⟨s_l1Cur_among, s_l1Cur_someHeap, s_l1Cur_pick, s_l1Cur_act12, trivial⟩) (by kernel_rfl) (by kernel_rfl) (by kernel_rfl) (by kernel_rfl) (by kernel_rfl) (of_decide_eq_true (by kernel_rfl)) (by kernel_rfl) (by rfl)
noncomputable def l_l1Cur_bench_4 : Nat → Int → Int → Int → (List D_A3) → Int → Int → Int → Int → Int → (List D_A3) → Int → Int → (List Int) → Int → Int → Bool → Int → Option (denL R_l1Cur_bench × denM As_l1Cur_bench) := hid (fun m0 p0 p1 p2 p3 p4 p5 p6 p7 p8 p9 p10 p11 p12 p13 p14 p15 p16 => L_l1Cur_bench_4 N P_l1Cur_among P_l1Cur_someHeap P_l1Cur_pick P_spec_NewBench P_spec_l12Do P_l1Cur_act12 m0 p0 p1 p2 p3 p4 p5 p6 p7 p8 p9 p10 p11 p12 p13 p14 p15 p16)
theorem h_l1Cur_bench_4 : l_l1Cur_bench_4 = fun m0 p0 p1 p2 p3 p4 p5 p6 p7 p8 p9 p10 p11 p12 p13 p14 p15 p16 => L_l1Cur_bench_4 N P_l1Cur_among P_l1Cur_someHeap P_l1Cur_pick P_spec_NewBench P_spec_l12Do P_l1Cur_act12 m0 p0 p1 p2 p3 p4 p5 p6 p7 p8 p9 p10 p11 p12 p13 p14 p15 p16 := hid_eq _
theorem p_l1Cur_bench (a0 : D_l1Cur) : P_l1Cur_bench (a0, ()) = 
  Option.bind (P_l1Cur_among (a0, ([2, 3, 2, 1] : List Int), ())) fun r0 =>
  Option.bind (P_l1Cur_among ((a0.1, r0.2.1.2), ([2, 2, 3, 1] : List Int), ())) fun r1 =>
  Option.bind (P_l1Cur_among ((a0.1, r1.2.1.2), ([2, 3, 2, 1] : List Int), ())) fun r2 =>
  Option.bind (P_l1Cur_someHeap ((a0.1, r2.2.1.2), r0.1.1, r1.1.1, r2.1.1, ())) fun r3 =>
  Option.bind (P_spec_NewBench (r3.1.1, ())) fun r4 =>
  Option.bind (P_l1Cur_pick ((a0.1, r3.2.1.2), 7, ())) fun r5 =>
  l_l1Cur_bench_4 N 0 0 0 ([] : List D_A3) 0 0 r4.1.1.1 r4.1.1.2.1 r4.1.1.2.2.1 r4.1.1.2.2.2.1 r4.1.2.1 r4.1.2.2.1 a0.1 r5.2.1.2.1 r5.2.1.2.2.1 r4.2.1 r5.1.1 := by
  rewrite [h_l1Cur_bench, h_l1Cur_bench_4]
  kernel_rfl
theorem q_l1Cur_bench_4 (m0 : Nat) (p0 : Int) (p1 : Int) (p2 : Int) (p3 : List D_A3) (p4 : Int) (p5 : Int) (p6 : Int) (p7 : Int) (p8 : Int) (p9 : List D_A3) (p10 : Int) (p11 : Int) (p12 : List Int) (p13 : Int) (p14 : Int) (p15 : Bool) (p16 : Int) : l_l1Cur_bench_4 (m0 + 1) p0 p1 p2 p3 p4 p5 p6 p7 p8 p9 p10 p11 p12 p13 p14 p15 p16 = 
  bif decide (p16 > 0) then
    bif p15 then
      Option.bind (P_l1Cur_act12 ((p12, (p13, (p14, ()))), (p6, (p7, (p8, (p9, ())))), ())) fun r2 =>
      Option.bind (P_spec_l12Do (((p6, (p7, (p8, (p9, ())))), (p10, (p11, ()))), r2.1.1, ())) fun r3 =>
      bif r3.2.1 then
        l_l1Cur_bench_4 m0 p0 p1 p2 p3 p4 p5 r3.1.1.1 r3.1.1.2.1 r3.1.1.2.2.1 r3.1.1.2.2.2.1 r3.1.2.1 r3.1.2.2.1 p12 r2.2.1.2.1 r2.2.1.2.2.1 p15 (IntKind.wrap .i64 (p16 - 1))
      else
        l_l1Cur_bench_4 m0 p0 p1 p2 p3 p4 p5 p6 p7 p8 p9 p10 p11 p12 r2.2.1.2.1 r2.2.1.2.2.1 p15 (IntKind.wrap .i64 (p16 - 1))
    else
      Option.bind (P_l1Cur_pick ((p12, (p13, (p14, ()))), 48, ())) fun r2 =>
      bif decide (r2.1.1 = 0) then
        Option.bind (P_l1Cur_among ((p12, r2.2.1.2), ([(-1), 1000, 1001] : List Int), ())) fun r4 =>
        some ((((p6, (p7, (p8, (p9, ())))), (p10, (r4.1.1, ()))), ()), ((p12, r4.2.1.2), ()))
      else
        bif decide (r2.1.1 = 1) then
          Option.bind (P_l1Cur_among ((p12, r2.2.1.2), ([(-1), (IntKind.wrap .i64 ((List.length p9 : Int) + 1)), 0] : List Int), ())) fun r5 =>
          some ((((p6, (p7, (p8, (p9, ())))), (r5.1.1, (p11, ()))), ()), ((p12, r5.2.1.2), ()))
        else
          bif decide (r2.1.1 = 2) then
            bif (decide (((List.length ([] : List D_A3)) + (List.length p9)) * 24 ≤ 140737488355328) && decide (((List.length ([] : List D_A3)) + (List.length p9)) ≤ 140737488355328)) then
              bif (decide (((List.length (([] : List D_A3) ++ p9)) + (List.length ([(0, (0, (0, ())))] : List D_A3))) * 24 ≤ 140737488355328) && decide (((List.length (([] : List D_A3) ++ p9)) + (List.length ([(0, (0, (0, ())))] : List D_A3))) ≤ 140737488355328)) then
                some ((((p6, (p7, (p8, (((([] : List D_A3) ++ p9) ++ ([(0, (0, (0, ())))] : List D_A3)), ())))), (p10, (p11, ()))), ()), ((p12, r2.2.1.2), ()))
              else none
            else none
          else
            bif decide (r2.1.1 = 3) then
              Option.bind (P_l1Cur_among ((p12, r2.2.1.2), ([0, 5, 4] : List Int), ())) fun r7 =>
              some ((((p6, (p7, (r7.1.1, (p9, ())))), (p10, (p11, ()))), ()), ((p12, r7.2.1.2), ()))
            else
              some ((((p6, (p7, (p8, (p9, ())))), (p10, (p11, ()))), ()), ((p12, r2.2.1.2), ()))
  else
    Option.bind (P_l1Cur_pick ((p12, (p13, (p14, ()))), 48, ())) fun r1 =>
    bif decide (r1.1.1 = 0) then
      Option.bind (P_l1Cur_among ((p12, r1.2.1.2), ([(-1), 1000, 1001] : List Int), ())) fun r3 =>
      some ((((p6, (p7, (p8, (p9, ())))), (p10, (r3.1.1, ()))), ()), ((p12, r3.2.1.2), ()))
    else
      bif decide (r1.1.1 = 1) then
        Option.bind (P_l1Cur_among ((p12, r1.2.1.2), ([(-1), (IntKind.wrap .i64 ((List.length p9 : Int) + 1)), 0] : List Int), ())) fun r4 =>
        some ((((p6, (p7, (p8, (p9, ())))), (r4.1.1, (p11, ()))), ()), ((p12, r4.2.1.2), ()))
      else
        bif decide (r1.1.1 = 2) then
          bif (decide (((List.length ([] : List D_A3)) + (List.length p9)) * 24 ≤ 140737488355328) && decide (((List.length ([] : List D_A3)) + (List.length p9)) ≤ 140737488355328)) then
            bif (decide (((List.length (([] : List D_A3) ++ p9)) + (List.length ([(0, (0, (0, ())))] : List D_A3))) * 24 ≤ 140737488355328) && decide (((List.length (([] : List D_A3) ++ p9)) + (List.length ([(0, (0, (0, ())))] : List D_A3))) ≤ 140737488355328)) then
              some ((((p6, (p7, (p8, (((([] : List D_A3) ++ p9) ++ ([(0, (0, (0, ())))] : List D_A3)), ())))), (p10, (p11, ()))), ()), ((p12, r1.2.1.2), ()))
            else none
          else none
        else
          bif decide (r1.1.1 = 3) then
            Option.bind (P_l1Cur_among ((p12, r1.2.1.2), ([0, 5, 4] : List Int), ())) fun r6 =>
            some ((((p6, (p7, (r6.1.1, (p9, ())))), (p10, (p11, ()))), ()), ((p12, r6.2.1.2), ()))
          else
            some ((((p6, (p7, (p8, (p9, ())))), (p10, (p11, ()))), ()), ((p12, r1.2.1.2), ())) := by
  rewrite [h_l1Cur_bench_4]
  kernel_rfl

/- 32: loop.example/g01166/spec.DrawIsBench -/
abbrev As_spec_DrawIsBench : List ATy := [.data false (.sl (.int .u8))]
abbrev R_spec_DrawIsBench : List (Bool × Ty) := [(true, T_Bench)]
abbrev M_spec_DrawIsBench : List RMode := [.own 55]
abbrev Ft_spec_DrawIsBench : Type := (List Int) × Unit → Option (D_Bench × Unit)
noncomputable def X_spec_DrawIsBench (n : Nat) (F_l1Cur_bench : Ft_l1Cur_bench) : Ctx := { types := TT, globals := [], con := [], mcon := [(80, ⟨As_l1Cur_bench, R_l1Cur_bench, M_l1Cur_bench, F_l1Cur_bench⟩)], keep := [], results := [.cell 2 28], ntmps := 9, n := n }
noncomputable def B_spec_DrawIsBench : Code := (Tryz.f32.body).getD .skip
noncomputable def P_spec_DrawIsBench : Ft_spec_DrawIsBench := hid (runF (X_spec_DrawIsBench N P_l1Cur_bench) B_spec_DrawIsBench As_spec_DrawIsBench R_spec_DrawIsBench M_spec_DrawIsBench)
theorem h_spec_DrawIsBench : P_spec_DrawIsBench = runF (X_spec_DrawIsBench N P_l1Cur_bench) B_spec_DrawIsBench As_spec_DrawIsBench R_spec_DrawIsBench M_spec_DrawIsBench := hid_eq _
noncomputable def C_spec_DrawIsBench : Contract := ⟨As_spec_DrawIsBench, R_spec_DrawIsBench, M_spec_DrawIsBench, P_spec_DrawIsBench⟩
theorem s_spec_DrawIsBench : Sound Tryz.prog GG 32 C_spec_DrawIsBench := by
  unfold C_spec_DrawIsBench; rw [h_spec_DrawIsBench]
  exact sound_of_run (fn := Tryz.f32) hmix hstable (tyOK_of ttOK) (hglob (X_spec_DrawIsBench N P_l1Cur_bench)) (conOK_of (X := X_spec_DrawIsBench N P_l1Cur_bench) trivial) (mconOK_of (X := X_spec_DrawIsBench N P_l1Cur_bench) ⟨s_l1Cur_bench, trivial⟩) (by kernel_rfl) (by kernel_rfl) (by kernel_rfl) (by kernel_rfl) (by kernel_rfl) (of_decide_eq_true (by kernel_rfl))
theorem p_spec_DrawIsBench (a0 : List Int) : P_spec_DrawIsBench (a0, ()) = 
  Option.bind (P_l1Cur_bench ((a0, (0, (0, ()))), ())) fun r0 =>
  some (r0.1.1, ()) := by
  rewrite [h_spec_DrawIsBench]
  kernel_rfl

/- 6: loop.example/g01166/spec.DrawShadowGap -/
abbrev As_spec_DrawShadowGap : List ATy := [.data false (.sl (.int .u8))]
abbrev R_spec_DrawShadowGap : List (Bool × Ty) := [(true, T_Bench)]
abbrev M_spec_DrawShadowGap : List RMode := [.own 55]
abbrev Ft_spec_DrawShadowGap : Type := (List Int) × Unit → Option (D_Bench × Unit)
noncomputable def X_spec_DrawShadowGap (n : Nat) (F_spec_DrawIsBench : Ft_spec_DrawIsBench) : Ctx := { types := TT, globals := [], con := [(32, ⟨As_spec_DrawIsBench, R_spec_DrawIsBench, M_spec_DrawIsBench, F_spec_DrawIsBench⟩)], keep := [], results := [.cell 2 28], ntmps := 5, n := n }
noncomputable def B_spec_DrawShadowGap : Code := (Tryz.f6.body).getD .skip
noncomputable def P_spec_DrawShadowGap : Ft_spec_DrawShadowGap := hid (runF (X_spec_DrawShadowGap N P_spec_DrawIsBench) B_spec_DrawShadowGap As_spec_DrawShadowGap R_spec_DrawShadowGap M_spec_DrawShadowGap)
theorem h_spec_DrawShadowGap : P_spec_DrawShadowGap = runF (X_spec_DrawShadowGap N P_spec_DrawIsBench) B_spec_DrawShadowGap As_spec_DrawShadowGap R_spec_DrawShadowGap M_spec_DrawShadowGap := hid_eq _
noncomputable def C_spec_DrawShadowGap : Contract := ⟨As_spec_DrawShadowGap, R_spec_DrawShadowGap, M_spec_DrawShadowGap, P_spec_DrawShadowGap⟩
theorem s_spec_DrawShadowGap : Sound Tryz.prog GG 6 C_spec_DrawShadowGap := by
  unfold C_spec_DrawShadowGap; rw [h_spec_DrawShadowGap]
  exact sound_of_run (fn := Tryz.f6) hmix hstable (tyOK_of ttOK) (hglob (X_spec_DrawShadowGap N P_spec_DrawIsBench)) (conOK_of (X := X_spec_DrawShadowGap N P_spec_DrawIsBench) ⟨s_spec_DrawIsBench, trivial⟩) (mconOK_of (X := X_spec_DrawShadowGap N P_spec_DrawIsBench) trivial) (by kernel_rfl) (by kernel_rfl) (by kernel_rfl) (by kernel_rfl) (by kernel_rfl) (of_decide_eq_true (by kernel_rfl))
theorem p_spec_DrawShadowGap (a0 : List Int) : P_spec_DrawShadowGap (a0, ()) = 
  Option.bind (P_spec_DrawIsBench (a0, ())) fun r0 =>
  some (r0.1, ()) := by
  rewrite [h_spec_DrawShadowGap]
  kernel_rfl

/- 41: (loop.example/g01166/impl.Shadow).list -/
abbrev As_Shadow_list : List ATy := [.data true T_Shadow, .data false (.int .i64)]
abbrev R_Shadow_list : List (Bool × Ty) := [(false, (.sl (.int .i64)))]
abbrev M_Shadow_list : List RMode := [.imm]
abbrev Ft_Shadow_list : Type := D_Shadow × Int × Unit → Option ((List Int) × Unit)
noncomputable def X_Shadow_list (n : Nat) : Ctx := { types := TT, globals := [], con := [], keep := [], results := [.tmp 4], ntmps := 14, n := n }
noncomputable def B_Shadow_list : Code := (Tryz.f41.body).getD .skip
noncomputable def P_Shadow_list : Ft_Shadow_list := hid (runF (X_Shadow_list N) B_Shadow_list As_Shadow_list R_Shadow_list M_Shadow_list)
theorem h_Shadow_list : P_Shadow_list = runF (X_Shadow_list N) B_Shadow_list As_Shadow_list R_Shadow_list M_Shadow_list := hid_eq _
noncomputable def C_Shadow_list : Contract := ⟨As_Shadow_list, R_Shadow_list, M_Shadow_list, P_Shadow_list⟩
theorem s_Shadow_list : Sound Tryz.prog GG 41 C_Shadow_list := by
  unfold C_Shadow_list; rw [h_Shadow_list]
  exact sound_of_run (fn := Tryz.f41) hmix hstable (tyOK_of ttOK) (hglob (X_Shadow_list N)) (conOK_of (X := X_Shadow_list N) trivial) (mconOK_of (X := X_Shadow_list N) trivial) (by kernel_rfl) (by kernel_rfl) (by kernel_rfl) (by kernel_rfl) (by kernel_rfl) (of_decide_eq_true (by kernel_rfl))
theorem p_Shadow_list (a0 : D_Shadow) (a1 : Int) : P_Shadow_list (a0, a1, ()) = 
  bif inB a1 3 then
    bif decide (a1 = (0 : Int)) then
      some (a0.2.2.2.2.2.1, ())
    else
      bif decide (a1 = (1 : Int)) then
        some (a0.2.2.2.2.1, ())
      else
        some (a0.2.2.2.1, ())
  else none := by
  rewrite [h_Shadow_list]
  kernel_rfl

/- 46: (loop.example/g01166/impl.Shadow).box -/
abbrev As_Shadow_box : List ATy := [.data true T_Shadow]
abbrev R_Shadow_box : List (Bool × Ty) := [(true, T_A3)]
abbrev M_Shadow_box : List RMode := []
abbrev Ft_Shadow_box : Type := D_Shadow × Unit → Option (D_A3 × Unit)
noncomputable def X_Shadow_box (n : Nat) : Ctx := { types := TT, globals := [], con := [], keep := [], results := [.cell 2 56], ntmps := 10, n := n }
noncomputable def B_Shadow_box : Code := (Tryz.f46.body).getD .skip
noncomputable def P_Shadow_box : Ft_Shadow_box := hid (runF (X_Shadow_box N) B_Shadow_box As_Shadow_box R_Shadow_box M_Shadow_box)
theorem h_Shadow_box : P_Shadow_box = runF (X_Shadow_box N) B_Shadow_box As_Shadow_box R_Shadow_box M_Shadow_box := hid_eq _
noncomputable def C_Shadow_box : Contract := ⟨As_Shadow_box, R_Shadow_box, M_Shadow_box, P_Shadow_box⟩
theorem s_Shadow_box : Sound Tryz.prog GG 46 C_Shadow_box := by
  unfold C_Shadow_box; rw [h_Shadow_box]
  exact sound_of_run (fn := Tryz.f46) hmix hstable (tyOK_of ttOK) (hglob (X_Shadow_box N)) (conOK_of (X := X_Shadow_box N) trivial) (mconOK_of (X := X_Shadow_box N) trivial) (by kernel_rfl) (by kernel_rfl) (by kernel_rfl) (by kernel_rfl) (by kernel_rfl) (of_decide_eq_true (by kernel_rfl))
theorem p_Shadow_box (a0 : D_Shadow) : P_Shadow_box (a0, ()) = 
  some ((a0.1, (a0.2.1, (a0.2.2.1, ()))), ()) := by
  rewrite [h_Shadow_box]
  kernel_rfl

/- 81: loop.example/g01166/impl.within -/
abbrev As_impl_within : List ATy := [.data false (.int .i64), .data false (.int .i64), .data false (.int .i64)]
abbrev R_impl_within : List (Bool × Ty) := [(false, .bool)]
abbrev M_impl_within : List RMode := []
abbrev Ft_impl_within : Type := Int × Int × Int × Unit → Option (Bool × Unit)
noncomputable def X_impl_within (n : Nat) : Ctx := { types := TT, globals := [], con := [], keep := [], results := [.tmp 6], ntmps := 15, n := n }
noncomputable def B_impl_within : Code := (Tryz.f81.body).getD .skip
noncomputable def P_impl_within : Ft_impl_within := hid (runF (X_impl_within N) B_impl_within As_impl_within R_impl_within M_impl_within)
theorem h_impl_within : P_impl_within = runF (X_impl_within N) B_impl_within As_impl_within R_impl_within M_impl_within := hid_eq _
noncomputable def C_impl_within : Contract := ⟨As_impl_within, R_impl_within, M_impl_within, P_impl_within⟩
theorem s_impl_within : Sound Tryz.prog GG 81 C_impl_within := by
  unfold C_impl_within; rw [h_impl_within]
  exact sound_of_run (fn := Tryz.f81) hmix hstable (tyOK_of ttOK) (hglob (X_impl_within N)) (conOK_of (X := X_impl_within N) trivial) (mconOK_of (X := X_impl_within N) trivial) (by kernel_rfl) (by kernel_rfl) (by kernel_rfl) (by kernel_rfl) (by kernel_rfl) (of_decide_eq_true (by kernel_rfl))
theorem p_impl_within (a0 : Int) (a1 : Int) (a2 : Int) : P_impl_within (a0, a1, a2, ()) = 
  bif decide (a0 ≥ a1) then
    some (decide (a0 ≤ a2), ())
  else
    some (false, ()) := by
  rewrite [h_impl_within]
  kernel_rfl

/- 86: (loop.example/g01166/impl.box).valid -/
abbrev As_box_valid : List ATy := [.data true T_A3]
abbrev R_box_valid : List (Bool × Ty) := [(false, .bool)]
abbrev M_box_valid : List RMode := []
abbrev Ft_box_valid : Type := D_A3 × Unit → Option (Bool × Unit)
noncomputable def X_box_valid (n : Nat) (F_impl_within : Ft_impl_within) : Ctx := { types := TT, globals := [], con := [(81, ⟨As_impl_within, R_impl_within, M_impl_within, F_impl_within⟩)], keep := [], results := [.tmp 2], ntmps := 16, n := n }
noncomputable def B_box_valid : Code := (Tryz.f86.body).getD .skip
noncomputable def P_box_valid : Ft_box_valid := hid (runF (X_box_valid N P_impl_within) B_box_valid As_box_valid R_box_valid M_box_valid)
theorem h_box_valid : P_box_valid = runF (X_box_valid N P_impl_within) B_box_valid As_box_valid R_box_valid M_box_valid := hid_eq _
noncomputable def C_box_valid : Contract := ⟨As_box_valid, R_box_valid, M_box_valid, P_box_valid⟩
theorem s_box_valid : Sound Tryz.prog GG 86 C_box_valid := by
  unfold C_box_valid; rw [h_box_valid]
  exact sound_of_run (fn := Tryz.f86) hmix hstable (tyOK_of ttOK) (hglob (X_box_valid N P_impl_within)) (conOK_of (X := X_box_valid N P_impl_within) ⟨s_impl_within, trivial⟩) (mconOK_of (X := X_box_valid N P_impl_within) trivial) (by kernel_rfl) (by kernel_rfl) (by kernel_rfl) (by kernel_rfl) (by kernel_rfl) (of_decide_eq_true (by kernel_rfl))
theorem p_box_valid (a0 : D_A3) : P_box_valid (a0, ()) = 
  Option.bind (P_impl_within (a0.1, 1, 4, ())) fun r0 =>
  bif r0.1 then
    Option.bind (P_impl_within (a0.2.1, 1, 4, ())) fun r2 =>
    bif r2.1 then
      Option.bind (P_impl_within (a0.2.2.1, 1, 4, ())) fun r4 =>
      some (r4.1, ())
    else
      some (false, ())
  else
    some (false, ()) := by
  rewrite [h_box_valid]
  kernel_rfl

/- 47: (loop.example/g01166/impl.box).size -/
abbrev As_box_size : List ATy := [.data true T_A3]
abbrev R_box_size : List (Bool × Ty) := [(false, (.int .i64))]
abbrev M_box_size : List RMode := []
abbrev Ft_box_size : Type := D_A3 × Unit → Option (Int × Unit)
noncomputable def X_box_size (n : Nat) : Ctx := { types := TT, globals := [], con := [], keep := [], results := [.tmp 2], ntmps := 11, n := n }
noncomputable def B_box_size : Code := (Tryz.f47.body).getD .skip
noncomputable def P_box_size : Ft_box_size := hid (runF (X_box_size N) B_box_size As_box_size R_box_size M_box_size)
theorem h_box_size : P_box_size = runF (X_box_size N) B_box_size As_box_size R_box_size M_box_size := hid_eq _
noncomputable def C_box_size : Contract := ⟨As_box_size, R_box_size, M_box_size, P_box_size⟩
theorem s_box_size : Sound Tryz.prog GG 47 C_box_size := by
  unfold C_box_size; rw [h_box_size]
  exact sound_of_run (fn := Tryz.f47) hmix hstable (tyOK_of ttOK) (hglob (X_box_size N)) (conOK_of (X := X_box_size N) trivial) (mconOK_of (X := X_box_size N) trivial) (by kernel_rfl) (by kernel_rfl) (by kernel_rfl) (by kernel_rfl) (by kernel_rfl) (of_decide_eq_true (by kernel_rfl))
theorem p_box_size (a0 : D_A3) : P_box_size (a0, ()) = 
  some ((IntKind.wrap .i64 ((IntKind.wrap .i64 (a0.1 * a0.2.1)) * a0.2.2.1)), ()) := by
  rewrite [h_box_size]
  kernel_rfl

/- 89: (loop.example/g01166/impl.box).lines -/
abbrev As_box_lines : List ATy := [.data true T_A3, .data false (.int .i64)]
abbrev R_box_lines : List (Bool × Ty) := [(false, (.int .i64))]
abbrev M_box_lines : List RMode := []
abbrev Ft_box_lines : Type := D_A3 × Int × Unit → Option (Int × Unit)
noncomputable def X_box_lines (n : Nat) (F_box_size : Ft_box_size) : Ctx := { types := TT, globals := [], con := [(47, ⟨As_box_size, R_box_size, M_box_size, F_box_size⟩)], keep := [], results := [.tmp 4], ntmps := 11, n := n }
noncomputable def B_box_lines : Code := (Tryz.f89.body).getD .skip
noncomputable def P_box_lines : Ft_box_lines := hid (runF (X_box_lines N P_box_size) B_box_lines As_box_lines R_box_lines M_box_lines)
theorem h_box_lines : P_box_lines = runF (X_box_lines N P_box_size) B_box_lines As_box_lines R_box_lines M_box_lines := hid_eq _
noncomputable def C_box_lines : Contract := ⟨As_box_lines, R_box_lines, M_box_lines, P_box_lines⟩
theorem s_box_lines : Sound Tryz.prog GG 89 C_box_lines := by
  unfold C_box_lines; rw [h_box_lines]
  exact sound_of_run (fn := Tryz.f89) hmix hstable (tyOK_of ttOK) (hglob (X_box_lines N P_box_size)) (conOK_of (X := X_box_lines N P_box_size) ⟨s_box_size, trivial⟩) (mconOK_of (X := X_box_lines N P_box_size) trivial) (by kernel_rfl) (by kernel_rfl) (by kernel_rfl) (by kernel_rfl) (by kernel_rfl) (of_decide_eq_true (by kernel_rfl))
theorem p_box_lines (a0 : D_A3) (a1 : Int) : P_box_lines (a0, a1, ()) = 
  Option.bind (P_box_size (a0, ())) fun r0 =>
  bif inB a1 3 then
    bif !decide ((bif decide (a1 = (0 : Int)) then a0.1 else (bif decide (a1 = (1 : Int)) then a0.2.1 else a0.2.2.1)) = 0) then
      some ((IntKind.wrap .i64 (Int.tdiv r0.1 (bif decide (a1 = (0 : Int)) then a0.1 else (bif decide (a1 = (1 : Int)) then a0.2.1 else a0.2.2.1)))), ())
    else none
  else none := by
  rewrite [h_box_lines]
  kernel_rfl

/- 90: loop.example/g01166/impl.allWithin -/
abbrev As_impl_allWithin : List ATy := [.data false (.sl (.int .i64)), .data false (.int .i64), .data false (.int .i64)]
abbrev R_impl_allWithin : List (Bool × Ty) := [(false, .bool)]
abbrev M_impl_allWithin : List RMode := []
abbrev Ft_impl_allWithin : Type := (List Int) × Int × Int × Unit → Option (Bool × Unit)
noncomputable def X_impl_allWithin (n : Nat) (F_impl_within : Ft_impl_within) : Ctx := { types := TT, globals := [], con := [(81, ⟨As_impl_within, R_impl_within, M_impl_within, F_impl_within⟩)], keep := [(2, ⟨[.tmp 1, .tmp 2, .tmp 9, .tmp 10, .tmp 11], []⟩)], results := [.tmp 6], ntmps := 21, n := n }
noncomputable def B_impl_allWithin : Code := (Tryz.f90.body).getD .skip
noncomputable def L_impl_allWithin_2 (n : Nat) (F_impl_within : Ft_impl_within) (m0 : Nat) (p0 : Int) (p1 : Int) (p2 : List Int) (p3 : Int) (p4 : Int) : Option (denL R_impl_allWithin) := loopF (X_impl_allWithin n F_impl_within) B_impl_allWithin R_impl_allWithin M_impl_allWithin 2 [m0] [(.ver, .num 1), (.tmp 1, .val false [.int .i64 p0]), (.tmp 2, .val false [.int .i64 p1]), (.tmp 9, .val false [.imm (.int .i64) p2 (some 0)]), (.tmp 10, .val false [.int .i64 p3]), (.tmp 11, .val false [.int .i64 p4])]
noncomputable def P_impl_allWithin : Ft_impl_allWithin := hid (runF (X_impl_allWithin N P_impl_within) B_impl_allWithin As_impl_allWithin R_impl_allWithin M_impl_allWithin)
theorem h_impl_allWithin : P_impl_allWithin = runF (X_impl_allWithin N P_impl_within) B_impl_allWithin As_impl_allWithin R_impl_allWithin M_impl_allWithin := hid_eq _
noncomputable def C_impl_allWithin : Contract := ⟨As_impl_allWithin, R_impl_allWithin, M_impl_allWithin, P_impl_allWithin⟩
theorem s_impl_allWithin : Sound Tryz.prog GG 90 C_impl_allWithin := by
  unfold C_impl_allWithin; rw [h_impl_allWithin]
  exact sound_of_run (fn := Tryz.f90) hmix hstable (tyOK_of ttOK) (hglob (X_impl_allWithin N P_impl_within)) (conOK_of (X := X_impl_allWithin N P_impl_within) ⟨s_impl_within, trivial⟩) (mconOK_of (X := X_impl_allWithin N P_impl_within) trivial) (by kernel_rfl) (by kernel_rfl) (by kernel_rfl) (by kernel_rfl) (by kernel_rfl) (of_decide_eq_true (by kernel_rfl))
noncomputable def l_impl_allWithin_2 : Nat → Int → Int → (List Int) → Int → Int → Option (denL R_impl_allWithin) := hid (fun m0 p0 p1 p2 p3 p4 => L_impl_allWithin_2 N P_impl_within m0 p0 p1 p2 p3 p4)
theorem h_impl_allWithin_2 : l_impl_allWithin_2 = fun m0 p0 p1 p2 p3 p4 => L_impl_allWithin_2 N P_impl_within m0 p0 p1 p2 p3 p4 := hid_eq _
theorem p_impl_allWithin (a0 : List Int) (a1 : Int) (a2 : Int) : P_impl_allWithin (a0, a1, a2, ()) = 
  l_impl_allWithin_2 N a1 a2 a0 (List.length a0 : Int) 0 := by
  rewrite [h_impl_allWithin, h_impl_allWithin_2]
  kernel_rfl
theorem q_impl_allWithin_2 (m0 : Nat) (p0 : Int) (p1 : Int) (p2 : List Int) (p3 : Int) (p4 : Int) : l_impl_allWithin_2 (m0 + 1) p0 p1 p2 p3 p4 = 
  bif decide (p4 < p3) then
    bif inB p4 (List.length p2) then
      Option.bind (P_impl_within ((nth ((.int .i64) : Ty) p2 p4), p0, p1, ())) fun r2 =>
      bif !r2.1 then
        some (false, ())
      else
        l_impl_allWithin_2 m0 p0 p1 p2 p3 (IntKind.wrap .i64 (p4 + 1))
    else none
  else
    some (true, ()) := by
  rewrite [h_impl_allWithin_2]
  kernel_rfl

/- 40: loop.example/g01166/impl.IsShadow -/
abbrev As_impl_IsShadow : List ATy := [.data true T_Shadow]
abbrev R_impl_IsShadow : List (Bool × Ty) := [(false, .bool)]
abbrev M_impl_IsShadow : List RMode := []
abbrev Ft_impl_IsShadow : Type := D_Shadow × Unit → Option (Bool × Unit)
noncomputable def X_impl_IsShadow (n : Nat) (F_Shadow_list : Ft_Shadow_list) (F_Shadow_box : Ft_Shadow_box) (F_box_valid : Ft_box_valid) (F_box_lines : Ft_box_lines) (F_impl_allWithin : Ft_impl_allWithin) : Ctx := { types := TT, globals := [], con := [(41, ⟨As_Shadow_list, R_Shadow_list, M_Shadow_list, F_Shadow_list⟩), (46, ⟨As_Shadow_box, R_Shadow_box, M_Shadow_box, F_Shadow_box⟩), (86, ⟨As_box_valid, R_box_valid, M_box_valid, F_box_valid⟩), (89, ⟨As_box_lines, R_box_lines, M_box_lines, F_box_lines⟩), (90, ⟨As_impl_allWithin, R_impl_allWithin, M_impl_allWithin, F_impl_allWithin⟩)], keep := [(4, ⟨[.box 1, .tmp 1, .tmp 9], []⟩)], results := [.tmp 2], ntmps := 28, n := n }
noncomputable def B_impl_IsShadow : Code := (Tryz.f40.body).getD .skip
noncomputable def L_impl_IsShadow_4 (n : Nat) (F_Shadow_list : Ft_Shadow_list) (F_Shadow_box : Ft_Shadow_box) (F_box_valid : Ft_box_valid) (F_box_lines : Ft_box_lines) (F_impl_allWithin : Ft_impl_allWithin) (m0 : Nat) (p0 : Int) (p1 : Int) (p2 : Int) (p3 : List Int) (p4 : List Int) (p5 : List Int) (p6 : Int) : Option (denL R_impl_IsShadow) := loopF (X_impl_IsShadow n F_Shadow_list F_Shadow_box F_box_valid F_box_lines F_impl_allWithin) B_impl_IsShadow R_impl_IsShadow M_impl_IsShadow 4 [m0] [(.ver, .num 1), (.box 1, .box 0 false [.int .i64 p0, .int .i64 p1, .int .i64 p2, .imm (.int .i64) p3 (some 3), .imm (.int .i64) p4 (some 4), .imm (.int .i64) p5 (some 5)]), (.tmp 1, .val false [.addr 1 0 0]), (.tmp 9, .val false [.int .i64 p6])]
noncomputable def P_impl_IsShadow : Ft_impl_IsShadow := hid (runF (X_impl_IsShadow N P_Shadow_list P_Shadow_box P_box_valid P_box_lines P_impl_allWithin) B_impl_IsShadow As_impl_IsShadow R_impl_IsShadow M_impl_IsShadow)
theorem h_impl_IsShadow : P_impl_IsShadow = runF (X_impl_IsShadow N P_Shadow_list P_Shadow_box P_box_valid P_box_lines P_impl_allWithin) B_impl_IsShadow As_impl_IsShadow R_impl_IsShadow M_impl_IsShadow := hid_eq _
noncomputable def C_impl_IsShadow : Contract := ⟨As_impl_IsShadow, R_impl_IsShadow, M_impl_IsShadow, P_impl_IsShadow⟩
theorem s_impl_IsShadow : Sound Tryz.prog GG 40 C_impl_IsShadow := by
  unfold C_impl_IsShadow; rw [h_impl_IsShadow]
  exact sound_of_run (fn := Tryz.f40) hmix hstable (tyOK_of ttOK) (hglob (X_impl_IsShadow N P_Shadow_list P_Shadow_box P_box_valid P_box_lines P_impl_allWithin)) (conOK_of (X := X_impl_IsShadow N P_Shadow_list P_Shadow_box P_box_valid P_box_lines P_impl_allWithin) ⟨s_Shadow_list, s_Shadow_box, s_box_valid, s_box_lines, s_impl_allWithin, trivial⟩) (mconOK_of (X := X_impl_IsShadow N P_Shadow_list P_Shadow_box P_box_valid P_box_lines P_impl_allWithin) trivial) (by kernel_rfl) (by kernel_rfl) (by kernel_rfl) (by kernel_rfl) (by kernel_rfl) (of_decide_eq_true (by kernel_rfl))
noncomputable def l_impl_IsShadow_4 : Nat → Int → Int → Int → (List Int) → (List Int) → (List Int) → Int → Option (denL R_impl_IsShadow) := hid (fun m0 p0 p1 p2 p3 p4 p5 p6 => L_impl_IsShadow_4 N P_Shadow_list P_Shadow_box P_box_valid P_box_lines P_impl_allWithin m0 p0 p1 p2 p3 p4 p5 p6)
theorem h_impl_IsShadow_4 : l_impl_IsShadow_4 = fun m0 p0 p1 p2 p3 p4 p5 p6 => L_impl_IsShadow_4 N P_Shadow_list P_Shadow_box P_box_valid P_box_lines P_impl_allWithin m0 p0 p1 p2 p3 p4 p5 p6 := hid_eq _
theorem p_impl_IsShadow (a0 : D_Shadow) : P_impl_IsShadow (a0, ()) = 
  Option.bind (P_Shadow_box (a0, ())) fun r0 =>
  Option.bind (P_box_valid (r0.1, ())) fun r1 =>
  bif !r1.1 then
    some (false, ())
  else
    l_impl_IsShadow_4 N a0.1 a0.2.1 a0.2.2.1 a0.2.2.2.1 a0.2.2.2.2.1 a0.2.2.2.2.2.1 0 := by
  rewrite [h_impl_IsShadow, h_impl_IsShadow_4]
  kernel_rfl
theorem q_impl_IsShadow_4 (m0 : Nat) (p0 : Int) (p1 : Int) (p2 : Int) (p3 : List Int) (p4 : List Int) (p5 : List Int) (p6 : Int) : l_impl_IsShadow_4 (m0 + 1) p0 p1 p2 p3 p4 p5 p6 = 
  bif decide (p6 < 3) then
    Option.bind (P_Shadow_list ((p0, (p1, (p2, (p3, (p4, (p5, ())))))), p6, ())) fun r1 =>
    Option.bind (P_Shadow_box ((p0, (p1, (p2, (p3, (p4, (p5, ())))))), ())) fun r2 =>
    Option.bind (P_box_lines (r2.1, p6, ())) fun r3 =>
    bif !decide ((List.length r1.1 : Int) = r3.1) then
      some (false, ())
    else
      Option.bind (P_impl_allWithin (r1.1, 0, 1, ())) fun r5 =>
      bif !r5.1 then
        some (false, ())
      else
        l_impl_IsShadow_4 m0 p0 p1 p2 p3 p4 p5 (IntKind.wrap .i64 (p6 + 1))
  else
    some (true, ()) := by
  rewrite [h_impl_IsShadow_4]
  kernel_rfl

/- 11: loop.example/g01166/impl.LineBound -/
abbrev As_impl_LineBound : List ATy := [.data true T_Shadow]
abbrev R_impl_LineBound : List (Bool × Ty) := [(false, (.int .i64)), (false, .bool)]
abbrev M_impl_LineBound : List RMode := []
abbrev Ft_impl_LineBound : Type := D_Shadow × Unit → Option (Int × Bool × Unit)
noncomputable def X_impl_LineBound (n : Nat) (F_impl_IsShadow : Ft_impl_IsShadow) (F_Shadow_list : Ft_Shadow_list) : Ctx := { types := TT, globals := [], con := [(40, ⟨As_impl_IsShadow, R_impl_IsShadow, M_impl_IsShadow, F_impl_IsShadow⟩), (41, ⟨As_Shadow_list, R_Shadow_list, M_Shadow_list, F_Shadow_list⟩)], keep := [(5, ⟨[.box 1, .tmp 1, .tmp 4, .tmp 12], []⟩), (9, ⟨[.box 1, .tmp 1, .tmp 4, .tmp 6, .tmp 12, .tmp 17, .tmp 18, .tmp 19], []⟩)], results := [.tmp 2, .tmp 3], ntmps := 32, n := n }
noncomputable def B_impl_LineBound : Code := (Tryz.f11.body).getD .skip
noncomputable def L_impl_LineBound_5 (n : Nat) (F_impl_IsShadow : Ft_impl_IsShadow) (F_Shadow_list : Ft_Shadow_list) (m0 : Nat) (p0 : Int) (p1 : Int) (p2 : Int) (p3 : List Int) (p4 : List Int) (p5 : List Int) (p6 : Int) (p7 : Int) : Option (denL R_impl_LineBound) := loopF (X_impl_LineBound n F_impl_IsShadow F_Shadow_list) B_impl_LineBound R_impl_LineBound M_impl_LineBound 5 [m0] [(.ver, .num 1), (.box 1, .box 0 false [.int .i64 p0, .int .i64 p1, .int .i64 p2, .imm (.int .i64) p3 (some 3), .imm (.int .i64) p4 (some 4), .imm (.int .i64) p5 (some 5)]), (.tmp 1, .val false [.addr 1 0 0]), (.tmp 4, .val false [.int .i64 p6]), (.tmp 12, .val false [.int .i64 p7])]
noncomputable def L_impl_LineBound_9 (n : Nat) (F_impl_IsShadow : Ft_impl_IsShadow) (F_Shadow_list : Ft_Shadow_list) (m0 m1 : Nat) (p0 : Int) (p1 : Int) (p2 : Int) (p3 : List Int) (p4 : List Int) (p5 : List Int) (p6 : Int) (p7 : Int) (p8 : Int) (p9 : List Int) (p10 : Int) (p11 : Int) : Option (denL R_impl_LineBound) := loopF (X_impl_LineBound n F_impl_IsShadow F_Shadow_list) B_impl_LineBound R_impl_LineBound M_impl_LineBound 9 [m0, m1] [(.ver, .num 1), (.box 1, .box 0 false [.int .i64 p0, .int .i64 p1, .int .i64 p2, .imm (.int .i64) p3 (some 3), .imm (.int .i64) p4 (some 4), .imm (.int .i64) p5 (some 5)]), (.tmp 1, .val false [.addr 1 0 0]), (.tmp 4, .val false [.int .i64 p6]), (.tmp 6, .val false [.int .i64 p7]), (.tmp 12, .val false [.int .i64 p8]), (.tmp 17, .val false [.imm (.int .i64) p9 none]), (.tmp 18, .val false [.int .i64 p10]), (.tmp 19, .val false [.int .i64 p11])]
noncomputable def P_impl_LineBound : Ft_impl_LineBound := hid (runF (X_impl_LineBound N P_impl_IsShadow P_Shadow_list) B_impl_LineBound As_impl_LineBound R_impl_LineBound M_impl_LineBound)
theorem h_impl_LineBound : P_impl_LineBound = runF (X_impl_LineBound N P_impl_IsShadow P_Shadow_list) B_impl_LineBound As_impl_LineBound R_impl_LineBound M_impl_LineBound := hid_eq _
noncomputable def C_impl_LineBound : Contract := ⟨As_impl_LineBound, R_impl_LineBound, M_impl_LineBound, P_impl_LineBound⟩
theorem s_impl_LineBound : Sound Tryz.prog GG 11 C_impl_LineBound := by
  unfold C_impl_LineBound; rw [h_impl_LineBound]
  exact sound_of_run (fn := Tryz.f11) hmix hstable (tyOK_of ttOK) (hglob (X_impl_LineBound N P_impl_IsShadow P_Shadow_list)) (conOK_of (X := X_impl_LineBound N P_impl_IsShadow P_Shadow_list) ⟨s_impl_IsShadow, s_Shadow_list, trivial⟩) (mconOK_of (X := X_impl_LineBound N P_impl_IsShadow P_Shadow_list) trivial) (by kernel_rfl) (by kernel_rfl) (by kernel_rfl) (by kernel_rfl) (by kernel_rfl) (of_decide_eq_true (by kernel_rfl))
noncomputable def l_impl_LineBound_5 : Nat → Int → Int → Int → (List Int) → (List Int) → (List Int) → Int → Int → Option (denL R_impl_LineBound) := hid (fun m0 p0 p1 p2 p3 p4 p5 p6 p7 => L_impl_LineBound_5 N P_impl_IsShadow P_Shadow_list m0 p0 p1 p2 p3 p4 p5 p6 p7)
theorem h_impl_LineBound_5 : l_impl_LineBound_5 = fun m0 p0 p1 p2 p3 p4 p5 p6 p7 => L_impl_LineBound_5 N P_impl_IsShadow P_Shadow_list m0 p0 p1 p2 p3 p4 p5 p6 p7 := hid_eq _
noncomputable def l_impl_LineBound_9 : Nat → Nat → Int → Int → Int → (List Int) → (List Int) → (List Int) → Int → Int → Int → (List Int) → Int → Int → Option (denL R_impl_LineBound) := hid (fun m0 m1 p0 p1 p2 p3 p4 p5 p6 p7 p8 p9 p10 p11 => L_impl_LineBound_9 N P_impl_IsShadow P_Shadow_list m0 m1 p0 p1 p2 p3 p4 p5 p6 p7 p8 p9 p10 p11)
theorem h_impl_LineBound_9 : l_impl_LineBound_9 = fun m0 m1 p0 p1 p2 p3 p4 p5 p6 p7 p8 p9 p10 p11 => L_impl_LineBound_9 N P_impl_IsShadow P_Shadow_list m0 m1 p0 p1 p2 p3 p4 p5 p6 p7 p8 p9 p10 p11 := hid_eq _
theorem p_impl_LineBound (a0 : D_Shadow) : P_impl_LineBound (a0, ()) = 
  Option.bind (P_impl_IsShadow (a0, ())) fun r0 =>
  bif !r0.1 then
    some (0, false, ())
  else
    l_impl_LineBound_5 N a0.1 a0.2.1 a0.2.2.1 a0.2.2.2.1 a0.2.2.2.2.1 a0.2.2.2.2.2.1 0 0 := by
  rewrite [h_impl_LineBound, h_impl_LineBound_5]
  kernel_rfl
theorem q_impl_LineBound_5 (m0 : Nat) (p0 : Int) (p1 : Int) (p2 : Int) (p3 : List Int) (p4 : List Int) (p5 : List Int) (p6 : Int) (p7 : Int) : l_impl_LineBound_5 (m0 + 1) p0 p1 p2 p3 p4 p5 p6 p7 = 
  bif decide (p7 < 3) then
    Option.bind (P_Shadow_list ((p0, (p1, (p2, (p3, (p4, (p5, ())))))), p7, ())) fun r1 =>
    l_impl_LineBound_9 m0 N p0 p1 p2 p3 p4 p5 p6 0 p7 r1.1 (List.length r1.1 : Int) 0
  else
    some (p6, true, ()) := by
  rewrite [h_impl_LineBound_5, h_impl_LineBound_9]
  kernel_rfl
theorem q_impl_LineBound_9 (m0 m1 : Nat) (p0 : Int) (p1 : Int) (p2 : Int) (p3 : List Int) (p4 : List Int) (p5 : List Int) (p6 : Int) (p7 : Int) (p8 : Int) (p9 : List Int) (p10 : Int) (p11 : Int) : l_impl_LineBound_9 m0 (m1 + 1) p0 p1 p2 p3 p4 p5 p6 p7 p8 p9 p10 p11 = 
  bif decide (p11 < p10) then
    bif inB p11 (List.length p9) then
      l_impl_LineBound_9 m0 m1 p0 p1 p2 p3 p4 p5 p6 (IntKind.wrap .i64 (p7 + (nth ((.int .i64) : Ty) p9 p11))) p8 p9 p10 (IntKind.wrap .i64 (p11 + 1))
    else none
  else
    l_impl_LineBound_5 m0 p0 p1 p2 p3 p4 p5 (bif decide (p7 > p6) then p7 else p6) (IntKind.wrap .i64 (p8 + 1)) := by
  rewrite [h_impl_LineBound_5, h_impl_LineBound_9]
  kernel_rfl

/- 34: (loop.example/g01166/impl.Heap).box -/
abbrev As_Heap_box : List ATy := [.data true T_Heap]
abbrev R_Heap_box : List (Bool × Ty) := [(true, T_A3)]
abbrev M_Heap_box : List RMode := []
abbrev Ft_Heap_box : Type := D_Heap × Unit → Option (D_A3 × Unit)
noncomputable def X_Heap_box (n : Nat) : Ctx := { types := TT, globals := [], con := [], keep := [], results := [.cell 2 56], ntmps := 10, n := n }
noncomputable def B_Heap_box : Code := (Tryz.f34.body).getD .skip
noncomputable def P_Heap_box : Ft_Heap_box := hid (runF (X_Heap_box N) B_Heap_box As_Heap_box R_Heap_box M_Heap_box)
theorem h_Heap_box : P_Heap_box = runF (X_Heap_box N) B_Heap_box As_Heap_box R_Heap_box M_Heap_box := hid_eq _
noncomputable def C_Heap_box : Contract := ⟨As_Heap_box, R_Heap_box, M_Heap_box, P_Heap_box⟩
theorem s_Heap_box : Sound Tryz.prog GG 34 C_Heap_box := by
  unfold C_Heap_box; rw [h_Heap_box]
  exact sound_of_run (fn := Tryz.f34) hmix hstable (tyOK_of ttOK) (hglob (X_Heap_box N)) (conOK_of (X := X_Heap_box N) trivial) (mconOK_of (X := X_Heap_box N) trivial) (by kernel_rfl) (by kernel_rfl) (by kernel_rfl) (by kernel_rfl) (by kernel_rfl) (of_decide_eq_true (by kernel_rfl))
theorem p_Heap_box (a0 : D_Heap) : P_Heap_box (a0, ()) = 
  some ((a0.1, (a0.2.1, (a0.2.2.1, ()))), ()) := by
  rewrite [h_Heap_box]
  kernel_rfl

/- 87: (loop.example/g01166/impl.box).has -/
abbrev As_box_has : List ATy := [.data true T_A3, .data true T_A3]
abbrev R_box_has : List (Bool × Ty) := [(false, .bool)]
abbrev M_box_has : List RMode := []
abbrev Ft_box_has : Type := D_A3 × D_A3 × Unit → Option (Bool × Unit)
noncomputable def X_box_has (n : Nat) (F_impl_within : Ft_impl_within) : Ctx := { types := TT, globals := [], con := [(81, ⟨As_impl_within, R_impl_within, M_impl_within, F_impl_within⟩)], keep := [], results := [.tmp 4], ntmps := 27, n := n }
noncomputable def B_box_has : Code := (Tryz.f87.body).getD .skip
noncomputable def P_box_has : Ft_box_has := hid (runF (X_box_has N P_impl_within) B_box_has As_box_has R_box_has M_box_has)
theorem h_box_has : P_box_has = runF (X_box_has N P_impl_within) B_box_has As_box_has R_box_has M_box_has := hid_eq _
noncomputable def C_box_has : Contract := ⟨As_box_has, R_box_has, M_box_has, P_box_has⟩
theorem s_box_has : Sound Tryz.prog GG 87 C_box_has := by
  unfold C_box_has; rw [h_box_has]
  exact sound_of_run (fn := Tryz.f87) hmix hstable (tyOK_of ttOK) (hglob (X_box_has N P_impl_within)) (conOK_of (X := X_box_has N P_impl_within) ⟨s_impl_within, trivial⟩) (mconOK_of (X := X_box_has N P_impl_within) trivial) (by kernel_rfl) (by kernel_rfl) (by kernel_rfl) (by kernel_rfl) (by kernel_rfl) (of_decide_eq_true (by kernel_rfl))
theorem p_box_has (a0 : D_A3) (a1 : D_A3) : P_box_has (a0, a1, ()) = 
  Option.bind (P_impl_within (a1.1, 0, (IntKind.wrap .i64 (a0.1 - 1)), ())) fun r0 =>
  bif r0.1 then
    Option.bind (P_impl_within (a1.2.1, 0, (IntKind.wrap .i64 (a0.2.1 - 1)), ())) fun r2 =>
    bif r2.1 then
      Option.bind (P_impl_within (a1.2.2.1, 0, (IntKind.wrap .i64 (a0.2.2.1 - 1)), ())) fun r4 =>
      some (r4.1, ())
    else
      some (false, ())
  else
    some (false, ()) := by
  rewrite [h_box_has]
  kernel_rfl

/- 152: cmp.isNaN[int] -/
abbrev As_cmp_isNaN_int : List ATy := [.data false (.int .i64)]
abbrev R_cmp_isNaN_int : List (Bool × Ty) := [(false, .bool)]
abbrev M_cmp_isNaN_int : List RMode := []
abbrev Ft_cmp_isNaN_int : Type := Int × Unit → Option (Bool × Unit)
noncomputable def X_cmp_isNaN_int (n : Nat) : Ctx := { types := TT, globals := [], con := [], keep := [], results := [.tmp 2], ntmps := 6, n := n }
noncomputable def B_cmp_isNaN_int : Code := (Tryz.f152.body).getD .skip
noncomputable def P_cmp_isNaN_int : Ft_cmp_isNaN_int := hid (runF (X_cmp_isNaN_int N) B_cmp_isNaN_int As_cmp_isNaN_int R_cmp_isNaN_int M_cmp_isNaN_int)
theorem h_cmp_isNaN_int : P_cmp_isNaN_int = runF (X_cmp_isNaN_int N) B_cmp_isNaN_int As_cmp_isNaN_int R_cmp_isNaN_int M_cmp_isNaN_int := hid_eq _
noncomputable def C_cmp_isNaN_int : Contract := ⟨As_cmp_isNaN_int, R_cmp_isNaN_int, M_cmp_isNaN_int, P_cmp_isNaN_int⟩
theorem s_cmp_isNaN_int : Sound Tryz.prog GG 152 C_cmp_isNaN_int := by
  unfold C_cmp_isNaN_int; rw [h_cmp_isNaN_int]
  exact sound_of_run (fn := Tryz.f152) hmix hstable (tyOK_of ttOK) (hglob (X_cmp_isNaN_int N)) (conOK_of (X := X_cmp_isNaN_int N) trivial) (mconOK_of (X := X_cmp_isNaN_int N) trivial) (by kernel_rfl) (by kernel_rfl) (by kernel_rfl) (by kernel_rfl) (by kernel_rfl) (of_decide_eq_true (by kernel_rfl))
theorem p_cmp_isNaN_int (a0 : Int) : P_cmp_isNaN_int (a0, ()) = 
  some (!decide (a0 = a0), ()) := by
  rewrite [h_cmp_isNaN_int]
  kernel_rfl

/- 143: cmp.Compare[int] -/
abbrev As_cmp_Compare_int : List ATy := [.data false (.int .i64), .data false (.int .i64)]
abbrev R_cmp_Compare_int : List (Bool × Ty) := [(false, (.int .i64))]
abbrev M_cmp_Compare_int : List RMode := []
abbrev Ft_cmp_Compare_int : Type := Int × Int × Unit → Option (Int × Unit)
noncomputable def X_cmp_Compare_int (n : Nat) (F_cmp_isNaN_int : Ft_cmp_isNaN_int) : Ctx := { types := TT, globals := [], con := [(152, ⟨As_cmp_isNaN_int, R_cmp_isNaN_int, M_cmp_isNaN_int, F_cmp_isNaN_int⟩)], keep := [], results := [.tmp 4], ntmps := 20, n := n }
noncomputable def B_cmp_Compare_int : Code := (Tryz.f143.body).getD .skip
noncomputable def P_cmp_Compare_int : Ft_cmp_Compare_int := hid (runF (X_cmp_Compare_int N P_cmp_isNaN_int) B_cmp_Compare_int As_cmp_Compare_int R_cmp_Compare_int M_cmp_Compare_int)
theorem h_cmp_Compare_int : P_cmp_Compare_int = runF (X_cmp_Compare_int N P_cmp_isNaN_int) B_cmp_Compare_int As_cmp_Compare_int R_cmp_Compare_int M_cmp_Compare_int := hid_eq _
noncomputable def C_cmp_Compare_int : Contract := ⟨As_cmp_Compare_int, R_cmp_Compare_int, M_cmp_Compare_int, P_cmp_Compare_int⟩
theorem s_cmp_Compare_int : Sound Tryz.prog GG 143 C_cmp_Compare_int := by
  unfold C_cmp_Compare_int; rw [h_cmp_Compare_int]
  exact sound_of_run (fn := Tryz.f143) hmix hstable (tyOK_of ttOK) (hglob (X_cmp_Compare_int N P_cmp_isNaN_int)) (conOK_of (X := X_cmp_Compare_int N P_cmp_isNaN_int) ⟨s_cmp_isNaN_int, trivial⟩) (mconOK_of (X := X_cmp_Compare_int N P_cmp_isNaN_int) trivial) (by kernel_rfl) (by kernel_rfl) (by kernel_rfl) (by kernel_rfl) (by kernel_rfl) (of_decide_eq_true (by kernel_rfl))
theorem p_cmp_Compare_int (a0 : Int) (a1 : Int) : P_cmp_Compare_int (a0, a1, ()) = 
  Option.bind (P_cmp_isNaN_int (a0, ())) fun r0 =>
  Option.bind (P_cmp_isNaN_int (a1, ())) fun r1 =>
  bif r0.1 then
    bif r1.1 then
      some (0, ())
    else
      some ((-1), ())
  else
    bif r1.1 then
      some (1, ())
    else
      bif decide (a0 < a1) then
        some ((-1), ())
      else
        bif decide (a0 > a1) then
          some (1, ())
        else
          some (0, ()) := by
  rewrite [h_cmp_Compare_int]
  kernel_rfl

/- 123: slices.Compare[[]int,int] -/
abbrev As_slices_Compare_int_int : List ATy := [.data false (.sl (.int .i64)), .data false (.sl (.int .i64))]
abbrev R_slices_Compare_int_int : List (Bool × Ty) := [(false, (.int .i64))]
abbrev M_slices_Compare_int_int : List RMode := []
abbrev Ft_slices_Compare_int_int : Type := (List Int) × (List Int) × Unit → Option (Int × Unit)
noncomputable def X_slices_Compare_int_int (n : Nat) (F_cmp_Compare_int : Ft_cmp_Compare_int) : Ctx := { types := TT, globals := [], con := [(143, ⟨As_cmp_Compare_int, R_cmp_Compare_int, M_cmp_Compare_int, F_cmp_Compare_int⟩)], keep := [(2, ⟨[.tmp 0, .tmp 1, .tmp 9, .tmp 10, .tmp 11], []⟩)], results := [.tmp 4], ntmps := 36, n := n }
noncomputable def B_slices_Compare_int_int : Code := (Tryz.f123.body).getD .skip
noncomputable def L_slices_Compare_int_int_2 (n : Nat) (F_cmp_Compare_int : Ft_cmp_Compare_int) (m0 : Nat) (p0 : List Int) (p1 : List Int) (p2 : List Int) (p3 : Int) (p4 : Int) : Option (denL R_slices_Compare_int_int) := loopF (X_slices_Compare_int_int n F_cmp_Compare_int) B_slices_Compare_int_int R_slices_Compare_int_int M_slices_Compare_int_int 2 [m0] [(.ver, .num 1), (.tmp 0, .val false [.imm (.int .i64) p0 (some 0)]), (.tmp 1, .val false [.imm (.int .i64) p1 (some 1)]), (.tmp 9, .val false [.imm (.int .i64) p2 (some 0)]), (.tmp 10, .val false [.int .i64 p3]), (.tmp 11, .val false [.int .i64 p4])]
noncomputable def P_slices_Compare_int_int : Ft_slices_Compare_int_int := hid (runF (X_slices_Compare_int_int N P_cmp_Compare_int) B_slices_Compare_int_int As_slices_Compare_int_int R_slices_Compare_int_int M_slices_Compare_int_int)
theorem h_slices_Compare_int_int : P_slices_Compare_int_int = runF (X_slices_Compare_int_int N P_cmp_Compare_int) B_slices_Compare_int_int As_slices_Compare_int_int R_slices_Compare_int_int M_slices_Compare_int_int := hid_eq _
noncomputable def C_slices_Compare_int_int : Contract := ⟨As_slices_Compare_int_int, R_slices_Compare_int_int, M_slices_Compare_int_int, P_slices_Compare_int_int⟩
theorem s_slices_Compare_int_int : Sound Tryz.prog GG 123 C_slices_Compare_int_int := by
  unfold C_slices_Compare_int_int; rw [h_slices_Compare_int_int]
  exact sound_of_run (fn := Tryz.f123) hmix hstable (tyOK_of ttOK) (hglob (X_slices_Compare_int_int N P_cmp_Compare_int)) (conOK_of (X := X_slices_Compare_int_int N P_cmp_Compare_int) ⟨s_cmp_Compare_int, trivial⟩) (mconOK_of (X := X_slices_Compare_int_int N P_cmp_Compare_int) trivial) (by kernel_rfl) (by kernel_rfl) (by kernel_rfl) (by kernel_rfl) (by kernel_rfl) (of_decide_eq_true (by kernel_rfl))
noncomputable def l_slices_Compare_int_int_2 : Nat → (List Int) → (List Int) → (List Int) → Int → Int → Option (denL R_slices_Compare_int_int) := hid (fun m0 p0 p1 p2 p3 p4 => L_slices_Compare_int_int_2 N P_cmp_Compare_int m0 p0 p1 p2 p3 p4)
theorem h_slices_Compare_int_int_2 : l_slices_Compare_int_int_2 = fun m0 p0 p1 p2 p3 p4 => L_slices_Compare_int_int_2 N P_cmp_Compare_int m0 p0 p1 p2 p3 p4 := hid_eq _
theorem p_slices_Compare_int_int (a0 : List Int) (a1 : List Int) : P_slices_Compare_int_int (a0, a1, ()) = 
  l_slices_Compare_int_int_2 N a0 a1 a0 (List.length a0 : Int) 0 := by
  rewrite [h_slices_Compare_int_int, h_slices_Compare_int_int_2]
  kernel_rfl
theorem q_slices_Compare_int_int_2 (m0 : Nat) (p0 : List Int) (p1 : List Int) (p2 : List Int) (p3 : Int) (p4 : Int) : l_slices_Compare_int_int_2 (m0 + 1) p0 p1 p2 p3 p4 = 
  bif decide (p4 < p3) then
    bif inB p4 (List.length p2) then
      bif decide (p4 ≥ (List.length p1 : Int)) then
        some (1, ())
      else
        bif inB p4 (List.length p1) then
          Option.bind (P_cmp_Compare_int ((nth ((.int .i64) : Ty) p2 p4), (nth ((.int .i64) : Ty) p1 p4), ())) fun r4 =>
          bif !decide (r4.1 = 0) then
            some (r4.1, ())
          else
            l_slices_Compare_int_int_2 m0 p0 p1 p2 p3 (IntKind.wrap .i64 (p4 + 1))
        else none
    else none
  else
    bif decide ((List.length p0 : Int) < (List.length p1 : Int)) then
      some ((-1), ())
    else
      some (0, ()) := by
  rewrite [h_slices_Compare_int_int_2]
  kernel_rfl

/- 88: loop.example/g01166/impl.compareCells -/
abbrev As_impl_compareCells : List ATy := [.data true T_A3, .data true T_A3]
abbrev R_impl_compareCells : List (Bool × Ty) := [(false, (.int .i64))]
abbrev M_impl_compareCells : List RMode := []
abbrev Ft_impl_compareCells : Type := D_A3 × D_A3 × Unit → Option (Int × Unit)
noncomputable def X_impl_compareCells (n : Nat) (F_slices_Compare_int_int : Ft_slices_Compare_int_int) : Ctx := { types := TT, globals := [], con := [(123, ⟨As_slices_Compare_int_int, R_slices_Compare_int_int, M_slices_Compare_int_int, F_slices_Compare_int_int⟩)], keep := [], results := [.tmp 4], ntmps := 8, n := n }
noncomputable def B_impl_compareCells : Code := (Tryz.f88.body).getD .skip
noncomputable def P_impl_compareCells : Ft_impl_compareCells := hid (runF (X_impl_compareCells N P_slices_Compare_int_int) B_impl_compareCells As_impl_compareCells R_impl_compareCells M_impl_compareCells)
theorem h_impl_compareCells : P_impl_compareCells = runF (X_impl_compareCells N P_slices_Compare_int_int) B_impl_compareCells As_impl_compareCells R_impl_compareCells M_impl_compareCells := hid_eq _
noncomputable def C_impl_compareCells : Contract := ⟨As_impl_compareCells, R_impl_compareCells, M_impl_compareCells, P_impl_compareCells⟩
theorem s_impl_compareCells : Sound Tryz.prog GG 88 C_impl_compareCells := by
  unfold C_impl_compareCells; rw [h_impl_compareCells]
  exact sound_of_run (fn := Tryz.f88) hmix hstable (tyOK_of ttOK) (hglob (X_impl_compareCells N P_slices_Compare_int_int)) (conOK_of (X := X_impl_compareCells N P_slices_Compare_int_int) ⟨s_slices_Compare_int_int, trivial⟩) (mconOK_of (X := X_impl_compareCells N P_slices_Compare_int_int) trivial) (by kernel_rfl) (by kernel_rfl) (by kernel_rfl) (by kernel_rfl) (by kernel_rfl) (of_decide_eq_true (by kernel_rfl))
theorem p_impl_compareCells (a0 : D_A3) (a1 : D_A3) : P_impl_compareCells (a0, a1, ()) = 
  Option.bind (P_slices_Compare_int_int (([a0.1, a0.2.1, a0.2.2.1] : List Int), ([a1.1, a1.2.1, a1.2.2.1] : List Int), ())) fun r0 =>
  some (r0.1, ()) := by
  rewrite [h_impl_compareCells]
  kernel_rfl

/- 39: loop.example/g01166/impl.IsHeap -/
abbrev As_impl_IsHeap : List ATy := [.data true T_Heap]
abbrev R_impl_IsHeap : List (Bool × Ty) := [(false, .bool)]
abbrev M_impl_IsHeap : List RMode := []
abbrev Ft_impl_IsHeap : Type := D_Heap × Unit → Option (Bool × Unit)
noncomputable def X_impl_IsHeap (n : Nat) (F_Heap_box : Ft_Heap_box) (F_box_valid : Ft_box_valid) (F_box_has : Ft_box_has) (F_impl_compareCells : Ft_impl_compareCells) : Ctx := { types := TT, globals := [], con := [(34, ⟨As_Heap_box, R_Heap_box, M_Heap_box, F_Heap_box⟩), (86, ⟨As_box_valid, R_box_valid, M_box_valid, F_box_valid⟩), (87, ⟨As_box_has, R_box_has, M_box_has, F_box_has⟩), (88, ⟨As_impl_compareCells, R_impl_compareCells, M_impl_compareCells, F_impl_compareCells⟩)], keep := [(4, ⟨[.box 1, .tmp 1, .tmp 10, .tmp 11, .tmp 12], []⟩)], results := [.tmp 2], ntmps := 38, n := n }
noncomputable def B_impl_IsHeap : Code := (Tryz.f39.body).getD .skip
noncomputable def L_impl_IsHeap_4 (n : Nat) (F_Heap_box : Ft_Heap_box) (F_box_valid : Ft_box_valid) (F_box_has : Ft_box_has) (F_impl_compareCells : Ft_impl_compareCells) (m0 : Nat) (p0 : Int) (p1 : Int) (p2 : Int) (p3 : List D_A3) (p4 : List D_A3) (p5 : Int) (p6 : Int) : Option (denL R_impl_IsHeap) := loopF (X_impl_IsHeap n F_Heap_box F_box_valid F_box_has F_impl_compareCells) B_impl_IsHeap R_impl_IsHeap M_impl_IsHeap 4 [m0] [(.ver, .num 1), (.box 1, .box 0 false [.int .i64 p0, .int .i64 p1, .int .i64 p2, .imm T_A3 p3 (some 3)]), (.tmp 1, .val false [.addr 1 0 0]), (.tmp 10, .val false [.imm T_A3 p4 (some 3)]), (.tmp 11, .val false [.int .i64 p5]), (.tmp 12, .val false [.int .i64 p6])]
noncomputable def P_impl_IsHeap : Ft_impl_IsHeap := hid (runF (X_impl_IsHeap N P_Heap_box P_box_valid P_box_has P_impl_compareCells) B_impl_IsHeap As_impl_IsHeap R_impl_IsHeap M_impl_IsHeap)
theorem h_impl_IsHeap : P_impl_IsHeap = runF (X_impl_IsHeap N P_Heap_box P_box_valid P_box_has P_impl_compareCells) B_impl_IsHeap As_impl_IsHeap R_impl_IsHeap M_impl_IsHeap := hid_eq _
noncomputable def C_impl_IsHeap : Contract := ⟨As_impl_IsHeap, R_impl_IsHeap, M_impl_IsHeap, P_impl_IsHeap⟩
theorem s_impl_IsHeap : Sound Tryz.prog GG 39 C_impl_IsHeap := by
  unfold C_impl_IsHeap; rw [h_impl_IsHeap]
  exact sound_of_run (fn := Tryz.f39) hmix hstable (tyOK_of ttOK) (hglob (X_impl_IsHeap N P_Heap_box P_box_valid P_box_has P_impl_compareCells)) (conOK_of (X := X_impl_IsHeap N P_Heap_box P_box_valid P_box_has P_impl_compareCells) ⟨s_Heap_box, s_box_valid, s_box_has, s_impl_compareCells, trivial⟩) (mconOK_of (X := X_impl_IsHeap N P_Heap_box P_box_valid P_box_has P_impl_compareCells) trivial) (by kernel_rfl) (by kernel_rfl) (by kernel_rfl) (by kernel_rfl) (by kernel_rfl) (of_decide_eq_true (by kernel_rfl))
noncomputable def l_impl_IsHeap_4 : Nat → Int → Int → Int → (List D_A3) → (List D_A3) → Int → Int → Option (denL R_impl_IsHeap) := hid (fun m0 p0 p1 p2 p3 p4 p5 p6 => L_impl_IsHeap_4 N P_Heap_box P_box_valid P_box_has P_impl_compareCells m0 p0 p1 p2 p3 p4 p5 p6)
theorem h_impl_IsHeap_4 : l_impl_IsHeap_4 = fun m0 p0 p1 p2 p3 p4 p5 p6 => L_impl_IsHeap_4 N P_Heap_box P_box_valid P_box_has P_impl_compareCells m0 p0 p1 p2 p3 p4 p5 p6 := hid_eq _
theorem p_impl_IsHeap (a0 : D_Heap) : P_impl_IsHeap (a0, ()) = 
  Option.bind (P_Heap_box (a0, ())) fun r0 =>
  Option.bind (P_box_valid (r0.1, ())) fun r1 =>
  bif !r1.1 then
    some (false, ())
  else
    l_impl_IsHeap_4 N a0.1 a0.2.1 a0.2.2.1 a0.2.2.2.1 a0.2.2.2.1 (List.length a0.2.2.2.1 : Int) 0 := by
  rewrite [h_impl_IsHeap, h_impl_IsHeap_4]
  kernel_rfl
theorem q_impl_IsHeap_4 (m0 : Nat) (p0 : Int) (p1 : Int) (p2 : Int) (p3 : List D_A3) (p4 : List D_A3) (p5 : Int) (p6 : Int) : l_impl_IsHeap_4 (m0 + 1) p0 p1 p2 p3 p4 p5 p6 = 
  bif decide (p6 < p5) then
    bif inB p6 (List.length p4) then
      Option.bind (P_Heap_box ((p0, (p1, (p2, (p3, ())))), ())) fun r2 =>
      Option.bind (P_box_has (r2.1, (nth T_A3 p4 p6), ())) fun r3 =>
      bif !r3.1 then
        some (false, ())
      else
        bif decide (p6 > 0) then
          bif inB (IntKind.wrap .i64 (p6 - 1)) (List.length p3) then
            Option.bind (P_impl_compareCells ((nth T_A3 p3 (IntKind.wrap .i64 (p6 - 1))), (nth T_A3 p4 p6), ())) fun r7 =>
            bif decide (r7.1 ≥ 0) then
              some (false, ())
            else
              l_impl_IsHeap_4 m0 p0 p1 p2 p3 p4 p5 (IntKind.wrap .i64 (p6 + 1))
          else none
        else
          l_impl_IsHeap_4 m0 p0 p1 p2 p3 p4 p5 (IntKind.wrap .i64 (p6 + 1))
    else none
  else
    some (true, ()) := by
  rewrite [h_impl_IsHeap_4]
  kernel_rfl

/- 33: loop.example/g01166/impl.IsBench -/
abbrev As_impl_IsBench : List ATy := [.data true T_Bench]
abbrev R_impl_IsBench : List (Bool × Ty) := [(false, .bool)]
abbrev M_impl_IsBench : List RMode := []
abbrev Ft_impl_IsBench : Type := D_Bench × Unit → Option (Bool × Unit)
noncomputable def X_impl_IsBench (n : Nat) (F_impl_IsHeap : Ft_impl_IsHeap) (F_impl_within : Ft_impl_within) : Ctx := { types := TT, globals := [], con := [(39, ⟨As_impl_IsHeap, R_impl_IsHeap, M_impl_IsHeap, F_impl_IsHeap⟩), (81, ⟨As_impl_within, R_impl_within, M_impl_within, F_impl_within⟩)], keep := [], results := [.tmp 2], ntmps := 20, n := n }
noncomputable def B_impl_IsBench : Code := (Tryz.f33.body).getD .skip
noncomputable def P_impl_IsBench : Ft_impl_IsBench := hid (runF (X_impl_IsBench N P_impl_IsHeap P_impl_within) B_impl_IsBench As_impl_IsBench R_impl_IsBench M_impl_IsBench)
theorem h_impl_IsBench : P_impl_IsBench = runF (X_impl_IsBench N P_impl_IsHeap P_impl_within) B_impl_IsBench As_impl_IsBench R_impl_IsBench M_impl_IsBench := hid_eq _
noncomputable def C_impl_IsBench : Contract := ⟨As_impl_IsBench, R_impl_IsBench, M_impl_IsBench, P_impl_IsBench⟩
theorem s_impl_IsBench : Sound Tryz.prog GG 33 C_impl_IsBench := by
  unfold C_impl_IsBench; rw [h_impl_IsBench]
  exact sound_of_run (fn := Tryz.f33) hmix hstable (tyOK_of ttOK) (hglob (X_impl_IsBench N P_impl_IsHeap P_impl_within)) (conOK_of (X := X_impl_IsBench N P_impl_IsHeap P_impl_within) ⟨s_impl_IsHeap, s_impl_within, trivial⟩) (mconOK_of (X := X_impl_IsBench N P_impl_IsHeap P_impl_within) trivial) (by kernel_rfl) (by kernel_rfl) (by kernel_rfl) (by kernel_rfl) (by kernel_rfl) (of_decide_eq_true (by kernel_rfl))
theorem p_impl_IsBench (a0 : D_Bench) : P_impl_IsBench (a0, ()) = 
  Option.bind (P_impl_IsHeap (a0.1, ())) fun r0 =>
  bif r0.1 then
    Option.bind (P_impl_within (a0.2.1, 0, (List.length a0.1.2.2.2.1 : Int), ())) fun r2 =>
    bif r2.1 then
      Option.bind (P_impl_within (a0.2.2.1, 0, 1000, ())) fun r4 =>
      some (r4.1, ())
    else
      some (false, ())
  else
    some (false, ()) := by
  rewrite [h_impl_IsBench]
  kernel_rfl

/- 110: loop.example/g01166/impl.others -/
abbrev As_impl_others : List ATy := [.data false (.int .i64)]
abbrev R_impl_others : List (Bool × Ty) := [(false, (.int .i64)), (false, (.int .i64))]
abbrev M_impl_others : List RMode := []
abbrev Ft_impl_others : Type := Int × Unit → Option (Int × Int × Unit)
noncomputable def X_impl_others (n : Nat) : Ctx := { types := TT, globals := [], con := [], keep := [], results := [.tmp 2, .tmp 3], ntmps := 9, n := n }
noncomputable def B_impl_others : Code := (Tryz.f110.body).getD .skip
noncomputable def P_impl_others : Ft_impl_others := hid (runF (X_impl_others N) B_impl_others As_impl_others R_impl_others M_impl_others)
theorem h_impl_others : P_impl_others = runF (X_impl_others N) B_impl_others As_impl_others R_impl_others M_impl_others := hid_eq _
noncomputable def C_impl_others : Contract := ⟨As_impl_others, R_impl_others, M_impl_others, P_impl_others⟩
theorem s_impl_others : Sound Tryz.prog GG 110 C_impl_others := by
  unfold C_impl_others; rw [h_impl_others]
  exact sound_of_run (fn := Tryz.f110) hmix hstable (tyOK_of ttOK) (hglob (X_impl_others N)) (conOK_of (X := X_impl_others N) trivial) (mconOK_of (X := X_impl_others N) trivial) (by kernel_rfl) (by kernel_rfl) (by kernel_rfl) (by kernel_rfl) (by kernel_rfl) (of_decide_eq_true (by kernel_rfl))
theorem p_impl_others (a0 : Int) : P_impl_others (a0, ()) = 
  bif decide (a0 = 0) then
    some (1, 2, ())
  else
    bif decide (a0 = 1) then
      some (0, 2, ())
    else
      some (0, 1, ()) := by
  rewrite [h_impl_others]
  kernel_rfl

/- 65: (loop.example/g01166/impl.box).line -/
abbrev As_box_line : List ATy := [.data true T_A3, .data true T_A3, .data false (.int .i64)]
abbrev R_box_line : List (Bool × Ty) := [(false, (.int .i64))]
abbrev M_box_line : List RMode := []
abbrev Ft_box_line : Type := D_A3 × D_A3 × Int × Unit → Option (Int × Unit)
noncomputable def X_box_line (n : Nat) (F_impl_others : Ft_impl_others) : Ctx := { types := TT, globals := [], con := [(110, ⟨As_impl_others, R_impl_others, M_impl_others, F_impl_others⟩)], keep := [], results := [.tmp 6], ntmps := 25, n := n }
noncomputable def B_box_line : Code := (Tryz.f65.body).getD .skip
noncomputable def P_box_line : Ft_box_line := hid (runF (X_box_line N P_impl_others) B_box_line As_box_line R_box_line M_box_line)
theorem h_box_line : P_box_line = runF (X_box_line N P_impl_others) B_box_line As_box_line R_box_line M_box_line := hid_eq _
noncomputable def C_box_line : Contract := ⟨As_box_line, R_box_line, M_box_line, P_box_line⟩
theorem s_box_line : Sound Tryz.prog GG 65 C_box_line := by
  unfold C_box_line; rw [h_box_line]
  exact sound_of_run (fn := Tryz.f65) hmix hstable (tyOK_of ttOK) (hglob (X_box_line N P_impl_others)) (conOK_of (X := X_box_line N P_impl_others) ⟨s_impl_others, trivial⟩) (mconOK_of (X := X_box_line N P_impl_others) trivial) (by kernel_rfl) (by kernel_rfl) (by kernel_rfl) (by kernel_rfl) (by kernel_rfl) (of_decide_eq_true (by kernel_rfl))
theorem p_box_line (a0 : D_A3) (a1 : D_A3) (a2 : Int) : P_box_line (a0, a1, a2, ()) = 
  Option.bind (P_impl_others (a2, ())) fun r0 =>
  bif inB r0.1 3 then
    bif inB r0.2.1 3 then
      bif inB r0.2.1 3 then
        some ((IntKind.wrap .i64 ((IntKind.wrap .i64 ((bif decide (r0.1 = (0 : Int)) then a1.1 else (bif decide (r0.1 = (1 : Int)) then a1.2.1 else a1.2.2.1)) * (bif decide (r0.2.1 = (0 : Int)) then a0.1 else (bif decide (r0.2.1 = (1 : Int)) then a0.2.1 else a0.2.2.1)))) + (bif decide (r0.2.1 = (0 : Int)) then a1.1 else (bif decide (r0.2.1 = (1 : Int)) then a1.2.1 else a1.2.2.1)))), ())
      else none
    else none
  else none := by
  rewrite [h_box_line]
  kernel_rfl

/- 64: (loop.example/g01166/impl.box).cell -/
abbrev As_box_cell : List ATy := [.data true T_A3, .data false (.int .i64)]
abbrev R_box_cell : List (Bool × Ty) := [(true, T_A3)]
abbrev M_box_cell : List RMode := []
abbrev Ft_box_cell : Type := D_A3 × Int × Unit → Option (D_A3 × Unit)
noncomputable def X_box_cell (n : Nat) : Ctx := { types := TT, globals := [], con := [], keep := [], results := [.cell 4 55], ntmps := 24, n := n }
noncomputable def B_box_cell : Code := (Tryz.f64.body).getD .skip
noncomputable def P_box_cell : Ft_box_cell := hid (runF (X_box_cell N) B_box_cell As_box_cell R_box_cell M_box_cell)
theorem h_box_cell : P_box_cell = runF (X_box_cell N) B_box_cell As_box_cell R_box_cell M_box_cell := hid_eq _
noncomputable def C_box_cell : Contract := ⟨As_box_cell, R_box_cell, M_box_cell, P_box_cell⟩
theorem s_box_cell : Sound Tryz.prog GG 64 C_box_cell := by
  unfold C_box_cell; rw [h_box_cell]
  exact sound_of_run (fn := Tryz.f64) hmix hstable (tyOK_of ttOK) (hglob (X_box_cell N)) (conOK_of (X := X_box_cell N) trivial) (mconOK_of (X := X_box_cell N) trivial) (by kernel_rfl) (by kernel_rfl) (by kernel_rfl) (by kernel_rfl) (by kernel_rfl) (of_decide_eq_true (by kernel_rfl))
theorem p_box_cell (a0 : D_A3) (a1 : Int) : P_box_cell (a0, a1, ()) = 
  bif !decide (a0.2.2.1 = 0) then
    bif !decide (a0.2.1 = 0) then
      bif !decide (a0.2.2.1 = 0) then
        bif !decide (a0.2.1 = 0) then
          bif !decide (a0.2.2.1 = 0) then
            some (((IntKind.wrap .i64 (Int.tdiv (IntKind.wrap .i64 (Int.tdiv a1 a0.2.2.1)) a0.2.1)), ((Int.tmod (IntKind.wrap .i64 (Int.tdiv a1 a0.2.2.1)) a0.2.1), ((Int.tmod a1 a0.2.2.1), ()))), ())
          else none
        else none
      else none
    else none
  else none := by
  rewrite [h_box_cell]
  kernel_rfl

/- 112: (loop.example/g01166/impl.set).has -/
abbrev As_set_has : List ATy := [.data false (.int .u64), .data false (.int .i64)]
abbrev R_set_has : List (Bool × Ty) := [(false, .bool)]
abbrev M_set_has : List RMode := []
abbrev Ft_set_has : Type := Int × Int × Unit → Option (Bool × Unit)
noncomputable def X_set_has (n : Nat) : Ctx := { types := TT, globals := [], con := [], keep := [], results := [.tmp 4], ntmps := 10, n := n }
noncomputable def B_set_has : Code := (Tryz.f112.body).getD .skip
noncomputable def P_set_has : Ft_set_has := hid (runF (X_set_has N) B_set_has As_set_has R_set_has M_set_has)
theorem h_set_has : P_set_has = runF (X_set_has N) B_set_has As_set_has R_set_has M_set_has := hid_eq _
noncomputable def C_set_has : Contract := ⟨As_set_has, R_set_has, M_set_has, P_set_has⟩
theorem s_set_has : Sound Tryz.prog GG 112 C_set_has := by
  unfold C_set_has; rw [h_set_has]
  exact sound_of_run (fn := Tryz.f112) hmix hstable (tyOK_of ttOK) (hglob (X_set_has N)) (conOK_of (X := X_set_has N) trivial) (mconOK_of (X := X_set_has N) trivial) (by kernel_rfl) (by kernel_rfl) (by kernel_rfl) (by kernel_rfl) (by kernel_rfl) (of_decide_eq_true (by kernel_rfl))
theorem p_set_has (a0 : Int) (a1 : Int) : P_set_has (a0, a1, ()) = 
  bif decide ((0 : Int) ≤ a1) then
    some (decide ((intBits .and .u64 (shrI .u64 a0 a1) 1) = 1), ())
  else none := by
  rewrite [h_set_has]
  kernel_rfl

/- 76: (loop.example/g01166/impl.box).list -/
abbrev As_box_list : List ATy := [.data true T_A3, .data false (.int .u64)]
abbrev R_box_list : List (Bool × Ty) := [(false, (.sl T_A3))]
abbrev M_box_list : List RMode := [.own 55]
abbrev Ft_box_list : Type := D_A3 × Int × Unit → Option ((List D_A3) × Unit)
noncomputable def X_box_list (n : Nat) (F_box_size : Ft_box_size) (F_box_cell : Ft_box_cell) (F_set_has : Ft_set_has) : Ctx := { types := TT, globals := [], con := [(47, ⟨As_box_size, R_box_size, M_box_size, F_box_size⟩), (64, ⟨As_box_cell, R_box_cell, M_box_cell, F_box_cell⟩), (112, ⟨As_set_has, R_set_has, M_set_has, F_set_has⟩)], keep := [(3, ⟨[.box 2, .tmp 1, .tmp 2, .tmp 5, .tmp 9, .tmp 10], []⟩)], results := [.tmp 4], ntmps := 24, n := n }
noncomputable def B_box_list : Code := (Tryz.f76.body).getD .skip
noncomputable def L_box_list_3 (n : Nat) (F_box_size : Ft_box_size) (F_box_cell : Ft_box_cell) (F_set_has : Ft_set_has) (m0 : Nat) (p0 : Int) (p1 : Int) (p2 : Int) (p3 : Int) (p4 : List D_A3) (p5 : Int) (p6 : Int) : Option (denL R_box_list) := loopF (X_box_list n F_box_size F_box_cell F_set_has) B_box_list R_box_list M_box_list 3 [m0] [(.ver, .num 1), (.box 2, .box 0 false [.int .i64 p0, .int .i64 p1, .int .i64 p2]), (.tmp 1, .val false [.int .u64 p3]), (.tmp 2, .val false [.addr 2 0 0]), (.tmp 5, .val false [.own 55 T_A3 0 p4]), (.tmp 9, .val false [.int .i64 p5]), (.tmp 10, .val false [.int .i64 p6])]
noncomputable def P_box_list : Ft_box_list := hid (runF (X_box_list N P_box_size P_box_cell P_set_has) B_box_list As_box_list R_box_list M_box_list)
theorem h_box_list : P_box_list = runF (X_box_list N P_box_size P_box_cell P_set_has) B_box_list As_box_list R_box_list M_box_list := hid_eq _
noncomputable def C_box_list : Contract := ⟨As_box_list, R_box_list, M_box_list, P_box_list⟩
theorem s_box_list : Sound Tryz.prog GG 76 C_box_list := by
  unfold C_box_list; rw [h_box_list]
  exact sound_of_run (fn := Tryz.f76) hmix hstable (tyOK_of ttOK) (hglob (X_box_list N P_box_size P_box_cell P_set_has)) (conOK_of (X := X_box_list N P_box_size P_box_cell P_set_has) ⟨s_box_size, s_box_cell, s_set_has, trivial⟩) (mconOK_of (X := X_box_list N P_box_size P_box_cell P_set_has) trivial) (by kernel_rfl) (by kernel_rfl) (by kernel_rfl) (by kernel_rfl) (by kernel_rfl) (of_decide_eq_true (by kernel_rfl))
noncomputable def l_box_list_3 : Nat → Int → Int → Int → Int → (List D_A3) → Int → Int → Option (denL R_box_list) := hid (fun m0 p0 p1 p2 p3 p4 p5 p6 => L_box_list_3 N P_box_size P_box_cell P_set_has m0 p0 p1 p2 p3 p4 p5 p6)
theorem h_box_list_3 : l_box_list_3 = fun m0 p0 p1 p2 p3 p4 p5 p6 => L_box_list_3 N P_box_size P_box_cell P_set_has m0 p0 p1 p2 p3 p4 p5 p6 := hid_eq _
theorem p_box_list (a0 : D_A3) (a1 : Int) : P_box_list (a0, a1, ()) = 
  Option.bind (P_box_size (a0, ())) fun r0 =>
  l_box_list_3 N a0.1 a0.2.1 a0.2.2.1 a1 ([] : List D_A3) r0.1 0 := by
  rewrite [h_box_list, h_box_list_3]
  kernel_rfl
theorem q_box_list_3 (m0 : Nat) (p0 : Int) (p1 : Int) (p2 : Int) (p3 : Int) (p4 : List D_A3) (p5 : Int) (p6 : Int) : l_box_list_3 (m0 + 1) p0 p1 p2 p3 p4 p5 p6 = 
  bif decide (p6 < p5) then
    Option.bind (P_set_has (p3, p6, ())) fun r1 =>
    bif r1.1 then
      Option.bind (P_box_cell ((p0, (p1, (p2, ()))), p6, ())) fun r3 =>
      bif (decide (((List.length p4) + (List.length ([r3.1] : List D_A3))) * 24 ≤ 140737488355328) && decide (((List.length p4) + (List.length ([r3.1] : List D_A3))) ≤ 140737488355328)) then
        l_box_list_3 m0 p0 p1 p2 p3 (p4 ++ ([r3.1] : List D_A3)) p5 (IntKind.wrap .i64 (p6 + 1))
      else none
    else
      l_box_list_3 m0 p0 p1 p2 p3 p4 p5 (IntKind.wrap .i64 (p6 + 1))
  else
    some (p4, ()) := by
  rewrite [h_box_list_3]
  kernel_rfl

/- 82: (loop.example/g01166/impl.box).view -/
abbrev As_box_view : List ATy := [.data true T_A3, .data false (.int .u64), .data false (.int .i64)]
abbrev R_box_view : List (Bool × Ty) := [(false, (.sl (.int .i64)))]
abbrev M_box_view : List RMode := [.own 3]
abbrev Ft_box_view : Type := D_A3 × Int × Int × Unit → Option ((List Int) × Unit)
noncomputable def X_box_view (n : Nat) (F_box_line : Ft_box_line) (F_box_list : Ft_box_list) (F_box_lines : Ft_box_lines) : Ctx := { types := TT, globals := [], con := [(65, ⟨As_box_line, R_box_line, M_box_line, F_box_line⟩), (76, ⟨As_box_list, R_box_list, M_box_list, F_box_list⟩), (89, ⟨As_box_lines, R_box_lines, M_box_lines, F_box_lines⟩)], keep := [(3, ⟨[.box 3, .tmp 2, .tmp 3, .tmp 7, .tmp 16, .tmp 17, .tmp 18], []⟩)], results := [.tmp 6], ntmps := 33, n := n }
noncomputable def B_box_view : Code := (Tryz.f82.body).getD .skip
noncomputable def L_box_view_3 (n : Nat) (F_box_line : Ft_box_line) (F_box_list : Ft_box_list) (F_box_lines : Ft_box_lines) (m0 : Nat) (p0 : Int) (p1 : Int) (p2 : Int) (p3 : Int) (p4 : List Int) (p5 : List D_A3) (p6 : Int) (p7 : Int) : Option (denL R_box_view) := loopF (X_box_view n F_box_line F_box_list F_box_lines) B_box_view R_box_view M_box_view 3 [m0] [(.ver, .num 1), (.box 3, .box 0 false [.int .i64 p0, .int .i64 p1, .int .i64 p2]), (.tmp 2, .val false [.int .i64 p3]), (.tmp 3, .val false [.addr 3 0 0]), (.tmp 7, .val false [.own 3 (.int .i64) 0 p4]), (.tmp 16, .val false [.own 55 T_A3 0 p5]), (.tmp 17, .val false [.int .i64 p6]), (.tmp 18, .val false [.int .i64 p7])]
noncomputable def P_box_view : Ft_box_view := hid (runF (X_box_view N P_box_line P_box_list P_box_lines) B_box_view As_box_view R_box_view M_box_view)
theorem h_box_view : P_box_view = runF (X_box_view N P_box_line P_box_list P_box_lines) B_box_view As_box_view R_box_view M_box_view := hid_eq _
noncomputable def C_box_view : Contract := ⟨As_box_view, R_box_view, M_box_view, P_box_view⟩
theorem s_box_view : Sound Tryz.prog GG 82 C_box_view := by
  unfold C_box_view; rw [h_box_view]
  exact sound_of_run (fn := Tryz.f82) hmix hstable (tyOK_of ttOK) (hglob (X_box_view N P_box_line P_box_list P_box_lines)) (conOK_of (X := X_box_view N P_box_line P_box_list P_box_lines) ⟨s_box_line, s_box_list, s_box_lines, trivial⟩) (mconOK_of (X := X_box_view N P_box_line P_box_list P_box_lines) trivial) (by kernel_rfl) (by kernel_rfl) (by kernel_rfl) (by kernel_rfl) (by kernel_rfl) (of_decide_eq_true (by kernel_rfl))
noncomputable def l_box_view_3 : Nat → Int → Int → Int → Int → (List Int) → (List D_A3) → Int → Int → Option (denL R_box_view) := hid (fun m0 p0 p1 p2 p3 p4 p5 p6 p7 => L_box_view_3 N P_box_line P_box_list P_box_lines m0 p0 p1 p2 p3 p4 p5 p6 p7)
theorem h_box_view_3 : l_box_view_3 = fun m0 p0 p1 p2 p3 p4 p5 p6 p7 => L_box_view_3 N P_box_line P_box_list P_box_lines m0 p0 p1 p2 p3 p4 p5 p6 p7 := hid_eq _
theorem p_box_view (a0 : D_A3) (a1 : Int) (a2 : Int) : P_box_view (a0, a1, a2, ()) = 
  Option.bind (P_box_lines (a0, a2, ())) fun r0 =>
  bif (decide ((0 : Int) ≤ r0.1) && decide ((r0.1 : Int) ≤ r0.1) && decide ((r0.1 : Int) * (8 : Nat) ≤ 140737488355328) && decide ((r0.1 : Int) ≤ 140737488355328)) then
    Option.bind (P_box_list (a0, a1, ())) fun r2 =>
    l_box_view_3 N a0.1 a0.2.1 a0.2.2.1 a2 (List.replicate (Int.toNat r0.1) (Ty.dflt ((.int .i64) : Ty))) r2.1 (List.length r2.1 : Int) 0
  else none := by
  rewrite [h_box_view, h_box_view_3]
  kernel_rfl
theorem q_box_view_3 (m0 : Nat) (p0 : Int) (p1 : Int) (p2 : Int) (p3 : Int) (p4 : List Int) (p5 : List D_A3) (p6 : Int) (p7 : Int) : l_box_view_3 (m0 + 1) p0 p1 p2 p3 p4 p5 p6 p7 = 
  bif decide (p7 < p6) then
    bif inB p7 (List.length p5) then
      Option.bind (P_box_line ((p0, (p1, (p2, ()))), (nth T_A3 p5 p7), p3, ())) fun r2 =>
      bif inB r2.1 (List.length p4) then
        bif inB r2.1 (List.length p4) then
          l_box_view_3 m0 p0 p1 p2 p3 (List.set p4 (Int.toNat r2.1) (IntKind.wrap .i64 ((nth ((.int .i64) : Ty) p4 r2.1) + 1))) p5 p6 (IntKind.wrap .i64 (p7 + 1))
        else none
      else none
    else none
  else
    some (p4, ()) := by
  rewrite [h_box_view_3]
  kernel_rfl
end Go.VI
