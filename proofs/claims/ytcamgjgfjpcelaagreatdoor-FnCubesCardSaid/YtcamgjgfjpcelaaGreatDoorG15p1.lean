/- What the functions of the seat compute, as printed by wip/tools. -/
import Derived.Test.YtcamgjgfjpcelaaGreatDoorViLib2
import Derived.Test.YtcamgjgfjpcelaaGreatDoorTryzShelf
import Derived.Test.YtcamgjgfjpcelaaGreatDoorProg
namespace Go.VI
open Go.Proofs Go.Sort
set_option maxRecDepth 100000
def n0 : Nat := 4
/-- What the calls lean on: that a variable of the library's holds a number. -/
def GG : World → Prop := fun w => 4 ≤ w.heap.size ∧ ∃ m, w.cell? ⟨0, 0, none⟩ = some (.int .i64 m)
theorem hstable : Stable n0 GG := by
  refine ⟨fun w h => h.1, ?_⟩
  rintro w w' ⟨h1, m, h3⟩ hsz hb
  refine ⟨Nat.le_trans h1 hsz, m, ?_⟩
  rw [← h3]
  unfold World.cell?
  rw [hb 0 (by decide)]
theorem hmix : Tryz.prog.follows .mixedOrders = true := by kernel_rfl
theorem hglob (X : Ctx) (h : X.globals = [] := by rfl) (A : Fix) (_ : A.P = Tryz.prog) (_ : A.G = GG) : GlobOK A X := globOK_none h A
abbrev T_l1Cur : Ty := (.pair (.sl (.int .u8)) (.pair (.int .i64) (.pair (.int .u64) .unit)))
abbrev D_l1Cur : Type := (List Int) × Int × Int × Unit
abbrev T_A2 : Ty := (.pair (.int .i64) (.pair (.int .i64) .unit))
abbrev D_A2 : Type := Int × Int × Unit
abbrev T_A3 : Ty := (.pair (.int .i64) (.pair (.int .i64) (.pair (.int .i64) .unit)))
abbrev D_A3 : Type := Int × Int × Int × Unit
abbrev T_Heap : Ty := (.pair (.int .i64) (.pair (.int .i64) (.pair (.int .i64) (.pair (.sl T_A3) .unit))))
abbrev D_Heap : Type := Int × Int × Int × (List D_A3) × Unit
noncomputable def TT : List (TypeId × TI) := [(3, ⟨Tryz.t3.desc, (.int .i64), false, 8, [.int .i64 0], false⟩),
  (4, ⟨Tryz.t4.desc, .bool, false, 1, [.bool false], false⟩),
  (5, ⟨Tryz.t5.desc, (.int .u8), false, 1, [.int .u8 0], false⟩),
  (9, ⟨Tryz.t9.desc, .str, false, 16, [.str ([] : List UInt8)], false⟩),
  (22, ⟨Tryz.t22.desc, (.sl (.int .u8)), false, 24, [.nil 5 (.int .u8)], false⟩),
  (24, ⟨Tryz.t24.desc, (.sl T_A3), false, 24, [.nil 27 T_A3], false⟩),
  (26, ⟨Tryz.t25.desc, T_Heap, true, 48, [.int .i64 0, .int .i64 0, .int .i64 0, .nil 27 T_A3], false⟩),
  (27, ⟨Tryz.t27.desc, T_A3, true, 24, [.int .i64 0, .int .i64 0, .int .i64 0], false⟩),
  (38, ⟨Tryz.t38.desc, (.sl (.sl T_A3)), false, 24, [.nil 24 (.sl T_A3)], false⟩),
  (53, ⟨Tryz.t53.desc, (.int .u64), false, 8, [.int .u64 0], false⟩),
  (55, ⟨Tryz.t54.desc, T_l1Cur, true, 40, [.nil 5 (.int .u8), .int .i64 0, .int .u64 0], false⟩),
  (60, ⟨Tryz.t27.desc, T_A3, true, 24, [.int .i64 0, .int .i64 0, .int .i64 0], false⟩),
  (63, ⟨Tryz.t53.desc, (.int .u64), false, 8, [.int .u64 0], false⟩),
  (70, ⟨Tryz.t70.desc, (.sl (.int .u64)), false, 24, [.nil 63 (.int .u64)], false⟩),
  (78, ⟨Tryz.t78.desc, (.sl .str), false, 24, [.nil 9 .str], false⟩),
  (91, ⟨Tryz.t91.desc, (.sl (.int .i64)), false, 24, [.nil 3 (.int .i64)], false⟩),
  (97, ⟨Tryz.t97.desc, T_A2, true, 16, [.int .i64 0, .int .i64 0], false⟩)]
theorem ttOK : allP (fun q => tiB Tryz.prog q.1 q.2) TT :=
  ⟨⟨by kernel_rfl, by kernel_rfl, by kernel_rfl, by kernel_rfl, by kernel_rfl, by kernel_rfl⟩, ⟨by kernel_rfl, by kernel_rfl, by kernel_rfl, by kernel_rfl, by kernel_rfl, by kernel_rfl⟩, ⟨by kernel_rfl, by kernel_rfl, by kernel_rfl, by kernel_rfl, by kernel_rfl, by kernel_rfl⟩, ⟨by kernel_rfl, by kernel_rfl, by kernel_rfl, by kernel_rfl, by kernel_rfl, by kernel_rfl⟩, ⟨by kernel_rfl, by kernel_rfl, by kernel_rfl, by kernel_rfl, by kernel_rfl, by kernel_rfl⟩, ⟨by kernel_rfl, by kernel_rfl, by kernel_rfl, by kernel_rfl, by kernel_rfl, by kernel_rfl⟩, ⟨by kernel_rfl, by kernel_rfl, by kernel_rfl, by kernel_rfl, by kernel_rfl, by kernel_rfl⟩, ⟨by kernel_rfl, by kernel_rfl, by kernel_rfl, by kernel_rfl, by kernel_rfl, by kernel_rfl⟩, ⟨by kernel_rfl, by kernel_rfl, by kernel_rfl, by kernel_rfl, by kernel_rfl, by kernel_rfl⟩, ⟨by kernel_rfl, by kernel_rfl, by kernel_rfl, by kernel_rfl, by kernel_rfl, by kernel_rfl⟩, ⟨by kernel_rfl, by kernel_rfl, by kernel_rfl, by kernel_rfl, by kernel_rfl, by kernel_rfl⟩, ⟨by kernel_rfl, by kernel_rfl, by kernel_rfl, by kernel_rfl, by kernel_rfl, by kernel_rfl⟩, ⟨by kernel_rfl, by kernel_rfl, by kernel_rfl, by kernel_rfl, by kernel_rfl, by kernel_rfl⟩, ⟨by kernel_rfl, by kernel_rfl, by kernel_rfl, by kernel_rfl, by kernel_rfl, by kernel_rfl⟩, ⟨by kernel_rfl, by kernel_rfl, by kernel_rfl, by kernel_rfl, by kernel_rfl, by kernel_rfl⟩, ⟨by kernel_rfl, by kernel_rfl, by kernel_rfl, by kernel_rfl, by kernel_rfl, by kernel_rfl⟩, ⟨by kernel_rfl, by kernel_rfl, by kernel_rfl, by kernel_rfl, by kernel_rfl, by kernel_rfl⟩, trivial⟩

/- 4: loop.example/g01166/laws.rBig -/
abbrev As_laws_rBig : List ATy := [.data false (.sl (.int .u8))]
abbrev R_laws_rBig : List (Bool × Ty) := [(false, .bool)]
abbrev M_laws_rBig : List RMode := []
abbrev Ft_laws_rBig : Type := (List Int) × Unit → Option (Bool × Unit)
noncomputable def X_laws_rBig (n : Nat) : Ctx := { types := TT, globals := [], con := [], keep := [], results := [.tmp 2], ntmps := 6, n := n }
noncomputable def B_laws_rBig : Code := (Tryz.f4.body).getD .skip
noncomputable def P_laws_rBig : Ft_laws_rBig := hid (runF (X_laws_rBig N) B_laws_rBig As_laws_rBig R_laws_rBig M_laws_rBig)
theorem h_laws_rBig : P_laws_rBig = runF (X_laws_rBig N) B_laws_rBig As_laws_rBig R_laws_rBig M_laws_rBig := hid_eq _
noncomputable def C_laws_rBig : Contract := ⟨As_laws_rBig, R_laws_rBig, M_laws_rBig, P_laws_rBig⟩
theorem s_laws_rBig : Sound Tryz.prog GG 4 C_laws_rBig := by
  unfold C_laws_rBig; rw [h_laws_rBig]
  exact sound_of_run (fn := Tryz.f4) hmix hstable (tyOK_of ttOK) (hglob (X_laws_rBig N)) (conOK_of (X := X_laws_rBig N) trivial) (mconOK_of (X := X_laws_rBig N) trivial) (by kernel_rfl) (by kernel_rfl) (by kernel_rfl) (by kernel_rfl) (by kernel_rfl) (of_decide_eq_true (by kernel_rfl))
theorem p_laws_rBig (a0 : List Int) : P_laws_rBig (a0, ()) = 
  some (decide ((List.length a0 : Int) > 65536), ()) := by
  rewrite [h_laws_rBig]
  kernel_rfl

/- 94: (*loop.example/g01166/spec.l1Cur).next -/
abbrev As_l1Cur_next : List ATy := [.lptr T_l1Cur]
abbrev R_l1Cur_next : List (Bool × Ty) := [(false, (.int .i64))]
abbrev M_l1Cur_next : List RMode := []
abbrev Ft_l1Cur_next : Type := D_l1Cur × Unit → Option ((Int × Unit) × (D_l1Cur × Unit))
noncomputable def X_l1Cur_next (n : Nat) : Ctx := { types := TT, globals := [], con := [], keep := [], results := [.tmp 2], ntmps := 62, n := n }
noncomputable def B_l1Cur_next : Code := (Tryz.f94.body).getD .skip
noncomputable def P_l1Cur_next : Ft_l1Cur_next := hid (runFM (X_l1Cur_next N) B_l1Cur_next As_l1Cur_next R_l1Cur_next M_l1Cur_next)
theorem h_l1Cur_next : P_l1Cur_next = runFM (X_l1Cur_next N) B_l1Cur_next As_l1Cur_next R_l1Cur_next M_l1Cur_next := hid_eq _
noncomputable def C_l1Cur_next : MContract := ⟨As_l1Cur_next, R_l1Cur_next, M_l1Cur_next, P_l1Cur_next⟩
theorem s_l1Cur_next : SoundM Tryz.prog n0 GG 94 C_l1Cur_next := by
  unfold C_l1Cur_next; rw [h_l1Cur_next]
  exact sound_of_runM (fn := Tryz.f94) hmix hstable (tyOK_of ttOK) (hglob (X_l1Cur_next N)) (conOK_of (X := X_l1Cur_next N) trivial) (mconOK_of (X := X_l1Cur_next N) trivial) (by kernel_rfl) (by kernel_rfl) (by kernel_rfl) (by kernel_rfl) (by kernel_rfl) (of_decide_eq_true (by kernel_rfl)) (by kernel_rfl) (by rfl)
theorem p_l1Cur_next (a0 : D_l1Cur) : P_l1Cur_next (a0, ()) = 
  bif decide (a0.2.1 < (List.length a0.1 : Int)) then
    bif inB a0.2.1 (List.length a0.1) then
      bif decide ((IntKind.wrap .i64 (a0.2.1 + 1)) ≤ (List.length a0.1 : Int)) then
        some (((IntKind.wrap .i64 (nth ((.int .u8) : Ty) a0.1 a0.2.1)), ()), ((a0.1, ((IntKind.wrap .i64 (a0.2.1 + 1)), ((IntKind.wrap .u64 ((IntKind.wrap .u64 ((IntKind.wrap .u64 (a0.2.2.1 * 6364136223846793005)) + (IntKind.wrap .u64 (IntKind.wrap .i64 (nth ((.int .u8) : Ty) a0.1 a0.2.1))))) + 462197)), ()))), ()))
      else
        some (((IntKind.wrap .i64 (intBits .and .u64 (shrI .u64 (IntKind.wrap .u64 ((IntKind.wrap .u64 ((IntKind.wrap .u64 (a0.2.2.1 * 6364136223846793005)) + (IntKind.wrap .u64 (IntKind.wrap .i64 (nth ((.int .u8) : Ty) a0.1 a0.2.1))))) + 462197)) 40) 255)), ()), ((a0.1, ((IntKind.wrap .i64 (a0.2.1 + 1)), ((IntKind.wrap .u64 ((IntKind.wrap .u64 ((IntKind.wrap .u64 (a0.2.2.1 * 6364136223846793005)) + (IntKind.wrap .u64 (IntKind.wrap .i64 (nth ((.int .u8) : Ty) a0.1 a0.2.1))))) + 462197)), ()))), ()))
    else none
  else
    bif decide ((IntKind.wrap .i64 (a0.2.1 + 1)) ≤ (List.length a0.1 : Int)) then
      some ((0, ()), ((a0.1, ((IntKind.wrap .i64 (a0.2.1 + 1)), ((IntKind.wrap .u64 ((IntKind.wrap .u64 ((IntKind.wrap .u64 (a0.2.2.1 * 6364136223846793005)) + 0)) + 462197)), ()))), ()))
    else
      some (((IntKind.wrap .i64 (intBits .and .u64 (shrI .u64 (IntKind.wrap .u64 ((IntKind.wrap .u64 ((IntKind.wrap .u64 (a0.2.2.1 * 6364136223846793005)) + 0)) + 462197)) 40) 255)), ()), ((a0.1, ((IntKind.wrap .i64 (a0.2.1 + 1)), ((IntKind.wrap .u64 ((IntKind.wrap .u64 ((IntKind.wrap .u64 (a0.2.2.1 * 6364136223846793005)) + 0)) + 462197)), ()))), ())) := by
  rewrite [h_l1Cur_next]
  kernel_rfl

/- 69: (*loop.example/g01166/spec.l1Cur).pick -/
abbrev As_l1Cur_pick : List ATy := [.lptr T_l1Cur, .data false (.int .i64)]
abbrev R_l1Cur_pick : List (Bool × Ty) := [(false, (.int .i64))]
abbrev M_l1Cur_pick : List RMode := []
abbrev Ft_l1Cur_pick : Type := D_l1Cur × Int × Unit → Option ((Int × Unit) × (D_l1Cur × Unit))
noncomputable def X_l1Cur_pick (n : Nat) (F_l1Cur_next : Ft_l1Cur_next) : Ctx := { types := TT, globals := [], con := [], mcon := [(94, ⟨As_l1Cur_next, R_l1Cur_next, M_l1Cur_next, F_l1Cur_next⟩)], keep := [], results := [.tmp 4], ntmps := 20, n := n }
noncomputable def B_l1Cur_pick : Code := (Tryz.f69.body).getD .skip
noncomputable def P_l1Cur_pick : Ft_l1Cur_pick := hid (runFM (X_l1Cur_pick N P_l1Cur_next) B_l1Cur_pick As_l1Cur_pick R_l1Cur_pick M_l1Cur_pick)
theorem h_l1Cur_pick : P_l1Cur_pick = runFM (X_l1Cur_pick N P_l1Cur_next) B_l1Cur_pick As_l1Cur_pick R_l1Cur_pick M_l1Cur_pick := hid_eq _
noncomputable def C_l1Cur_pick : MContract := ⟨As_l1Cur_pick, R_l1Cur_pick, M_l1Cur_pick, P_l1Cur_pick⟩
theorem s_l1Cur_pick : SoundM Tryz.prog n0 GG 69 C_l1Cur_pick := by
  unfold C_l1Cur_pick; rw [h_l1Cur_pick]
  exact sound_of_runM (fn := Tryz.f69) hmix hstable (tyOK_of ttOK) (hglob (X_l1Cur_pick N P_l1Cur_next)) (conOK_of (X := X_l1Cur_pick N P_l1Cur_next) trivial) (mconOK_of (X := X_l1Cur_pick N P_l1Cur_next) ⟨s_l1Cur_next, trivial⟩) (by kernel_rfl) (by kernel_rfl) (by kernel_rfl) (by kernel_rfl) (by kernel_rfl) (of_decide_eq_true (by kernel_rfl)) (by kernel_rfl) (by rfl)
theorem p_l1Cur_pick (a0 : D_l1Cur) (a1 : Int) : P_l1Cur_pick (a0, a1, ()) = 
  bif decide (a1 ≤ 1) then
    some ((0, ()), (a0, ()))
  else
    Option.bind (P_l1Cur_next (a0, ())) fun r1 =>
    bif decide (a1 > 200) then
      Option.bind (P_l1Cur_next ((a0.1, r1.2.1.2), ())) fun r3 =>
      bif !decide (a1 = 0) then
        some (((Int.tmod (IntKind.wrap .i64 ((IntKind.wrap .i64 (r1.1.1 * 256)) + r3.1.1)) a1), ()), ((a0.1, r3.2.1.2), ()))
      else none
    else
      bif !decide (a1 = 0) then
        some (((Int.tmod r1.1.1 a1), ()), ((a0.1, r1.2.1.2), ()))
      else none := by
  rewrite [h_l1Cur_pick]
  kernel_rfl

/- 73: (*loop.example/g01166/spec.l1Cur).among -/
abbrev As_l1Cur_among : List ATy := [.lptr T_l1Cur, .data false (.sl (.int .i64))]
abbrev R_l1Cur_among : List (Bool × Ty) := [(false, (.int .i64))]
abbrev M_l1Cur_among : List RMode := []
abbrev Ft_l1Cur_among : Type := D_l1Cur × (List Int) × Unit → Option ((Int × Unit) × (D_l1Cur × Unit))
noncomputable def X_l1Cur_among (n : Nat) (F_l1Cur_pick : Ft_l1Cur_pick) : Ctx := { types := TT, globals := [], con := [], mcon := [(69, ⟨As_l1Cur_pick, R_l1Cur_pick, M_l1Cur_pick, F_l1Cur_pick⟩)], keep := [], results := [.tmp 4], ntmps := 12, n := n }
noncomputable def B_l1Cur_among : Code := (Tryz.f73.body).getD .skip
noncomputable def P_l1Cur_among : Ft_l1Cur_among := hid (runFM (X_l1Cur_among N P_l1Cur_pick) B_l1Cur_among As_l1Cur_among R_l1Cur_among M_l1Cur_among)
theorem h_l1Cur_among : P_l1Cur_among = runFM (X_l1Cur_among N P_l1Cur_pick) B_l1Cur_among As_l1Cur_among R_l1Cur_among M_l1Cur_among := hid_eq _
noncomputable def C_l1Cur_among : MContract := ⟨As_l1Cur_among, R_l1Cur_among, M_l1Cur_among, P_l1Cur_among⟩
theorem s_l1Cur_among : SoundM Tryz.prog n0 GG 73 C_l1Cur_among := by
  unfold C_l1Cur_among; rw [h_l1Cur_among]
  exact sound_of_runM (fn := Tryz.f73) hmix hstable (tyOK_of ttOK) (hglob (X_l1Cur_among N P_l1Cur_pick)) (conOK_of (X := X_l1Cur_among N P_l1Cur_pick) trivial) (mconOK_of (X := X_l1Cur_among N P_l1Cur_pick) ⟨s_l1Cur_pick, trivial⟩) (by kernel_rfl) (by kernel_rfl) (by kernel_rfl) (by kernel_rfl) (by kernel_rfl) (of_decide_eq_true (by kernel_rfl)) (by kernel_rfl) (by rfl)
theorem p_l1Cur_among (a0 : D_l1Cur) (a1 : List Int) : P_l1Cur_among (a0, a1, ()) = 
  Option.bind (P_l1Cur_pick (a0, (List.length a1 : Int), ())) fun r0 =>
  bif inB r0.1.1 (List.length a1) then
    some (((nth ((.int .i64) : Ty) a1 r0.1.1), ()), ((a0.1, r0.2.1.2), ()))
  else none := by
  rewrite [h_l1Cur_among]
  kernel_rfl

/- 67: (*loop.example/g01166/spec.l1Cur).sides -/
abbrev As_l1Cur_sides : List ATy := [.lptr T_l1Cur]
abbrev R_l1Cur_sides : List (Bool × Ty) := [(false, (.int .i64)), (false, (.int .i64)), (false, (.int .i64))]
abbrev M_l1Cur_sides : List RMode := []
abbrev Ft_l1Cur_sides : Type := D_l1Cur × Unit → Option ((Int × Int × Int × Unit) × (D_l1Cur × Unit))
noncomputable def X_l1Cur_sides (n : Nat) (F_l1Cur_pick : Ft_l1Cur_pick) (F_l1Cur_among : Ft_l1Cur_among) : Ctx := { types := TT, globals := [], con := [], mcon := [(69, ⟨As_l1Cur_pick, R_l1Cur_pick, M_l1Cur_pick, F_l1Cur_pick⟩), (73, ⟨As_l1Cur_among, R_l1Cur_among, M_l1Cur_among, F_l1Cur_among⟩)], keep := [], results := [.tmp 2, .tmp 3, .tmp 4], ntmps := 37, n := n }
noncomputable def B_l1Cur_sides : Code := (Tryz.f67.body).getD .skip
noncomputable def P_l1Cur_sides : Ft_l1Cur_sides := hid (runFM (X_l1Cur_sides N P_l1Cur_pick P_l1Cur_among) B_l1Cur_sides As_l1Cur_sides R_l1Cur_sides M_l1Cur_sides)
theorem h_l1Cur_sides : P_l1Cur_sides = runFM (X_l1Cur_sides N P_l1Cur_pick P_l1Cur_among) B_l1Cur_sides As_l1Cur_sides R_l1Cur_sides M_l1Cur_sides := hid_eq _
noncomputable def C_l1Cur_sides : MContract := ⟨As_l1Cur_sides, R_l1Cur_sides, M_l1Cur_sides, P_l1Cur_sides⟩
theorem s_l1Cur_sides : SoundM Tryz.prog n0 GG 67 C_l1Cur_sides := by
  unfold C_l1Cur_sides; rw [h_l1Cur_sides]
  exact sound_of_runM (fn := Tryz.f67) hmix hstable (tyOK_of ttOK) (hglob (X_l1Cur_sides N P_l1Cur_pick P_l1Cur_among)) (conOK_of (X := X_l1Cur_sides N P_l1Cur_pick P_l1Cur_among) trivial) (mconOK_of (X := X_l1Cur_sides N P_l1Cur_pick P_l1Cur_among) ⟨s_l1Cur_pick, s_l1Cur_among, trivial⟩) (by kernel_rfl) (by kernel_rfl) (by kernel_rfl) (by kernel_rfl) (by kernel_rfl) (of_decide_eq_true (by kernel_rfl)) (by kernel_rfl) (by rfl)
theorem p_l1Cur_sides (a0 : D_l1Cur) : P_l1Cur_sides (a0, ()) = 
  Option.bind (P_l1Cur_among (a0, ([2, 3, 3, 1, 4] : List Int), ())) fun r0 =>
  Option.bind (P_l1Cur_among ((a0.1, r0.2.1.2), ([2, 3, 2, 1, 4] : List Int), ())) fun r1 =>
  Option.bind (P_l1Cur_among ((a0.1, r1.2.1.2), ([2, 3, 3, 1, 4] : List Int), ())) fun r2 =>
  Option.bind (P_l1Cur_pick ((a0.1, r2.2.1.2), 60, ())) fun r3 =>
  bif decide (r3.1.1 = 0) then
    Option.bind (P_l1Cur_among ((a0.1, r3.2.1.2), ([0, 5, (-1), 4611686018427387904] : List Int), ())) fun r5 =>
    some ((r5.1.1, r1.1.1, r2.1.1, ()), ((a0.1, r5.2.1.2), ()))
  else
    bif decide (r3.1.1 = 1) then
      Option.bind (P_l1Cur_among ((a0.1, r3.2.1.2), ([0, 5, (-1)] : List Int), ())) fun r6 =>
      some ((r0.1.1, r6.1.1, r2.1.1, ()), ((a0.1, r6.2.1.2), ()))
    else
      bif decide (r3.1.1 = 2) then
        Option.bind (P_l1Cur_among ((a0.1, r3.2.1.2), ([0, 5, (-1)] : List Int), ())) fun r7 =>
        some ((r0.1.1, r1.1.1, r7.1.1, ()), ((a0.1, r7.2.1.2), ()))
      else
        some ((r0.1.1, r1.1.1, r2.1.1, ()), ((a0.1, r3.2.1.2), ())) := by
  rewrite [h_l1Cur_sides]
  kernel_rfl

/- 56: (*loop.example/g01166/spec.l1Cur).one -/
abbrev As_l1Cur_one : List ATy := [.lptr T_l1Cur, .data false (.int .i64)]
abbrev R_l1Cur_one : List (Bool × Ty) := [(false, .bool)]
abbrev M_l1Cur_one : List RMode := []
abbrev Ft_l1Cur_one : Type := D_l1Cur × Int × Unit → Option ((Bool × Unit) × (D_l1Cur × Unit))
noncomputable def X_l1Cur_one (n : Nat) (F_l1Cur_pick : Ft_l1Cur_pick) : Ctx := { types := TT, globals := [], con := [], mcon := [(69, ⟨As_l1Cur_pick, R_l1Cur_pick, M_l1Cur_pick, F_l1Cur_pick⟩)], keep := [], results := [.tmp 4], ntmps := 9, n := n }
noncomputable def B_l1Cur_one : Code := (Tryz.f56.body).getD .skip
noncomputable def P_l1Cur_one : Ft_l1Cur_one := hid (runFM (X_l1Cur_one N P_l1Cur_pick) B_l1Cur_one As_l1Cur_one R_l1Cur_one M_l1Cur_one)
theorem h_l1Cur_one : P_l1Cur_one = runFM (X_l1Cur_one N P_l1Cur_pick) B_l1Cur_one As_l1Cur_one R_l1Cur_one M_l1Cur_one := hid_eq _
noncomputable def C_l1Cur_one : MContract := ⟨As_l1Cur_one, R_l1Cur_one, M_l1Cur_one, P_l1Cur_one⟩
theorem s_l1Cur_one : SoundM Tryz.prog n0 GG 56 C_l1Cur_one := by
  unfold C_l1Cur_one; rw [h_l1Cur_one]
  exact sound_of_runM (fn := Tryz.f56) hmix hstable (tyOK_of ttOK) (hglob (X_l1Cur_one N P_l1Cur_pick)) (conOK_of (X := X_l1Cur_one N P_l1Cur_pick) trivial) (mconOK_of (X := X_l1Cur_one N P_l1Cur_pick) ⟨s_l1Cur_pick, trivial⟩) (by kernel_rfl) (by kernel_rfl) (by kernel_rfl) (by kernel_rfl) (by kernel_rfl) (of_decide_eq_true (by kernel_rfl)) (by kernel_rfl) (by rfl)
theorem p_l1Cur_one (a0 : D_l1Cur) (a1 : Int) : P_l1Cur_one (a0, a1, ()) = 
  Option.bind (P_l1Cur_pick (a0, a1, ())) fun r0 =>
  some ((decide (r0.1.1 = 0), ()), ((a0.1, r0.2.1.2), ())) := by
  rewrite [h_l1Cur_one]
  kernel_rfl

/- 62: loop.example/g01166/spec.l2Empty -/
abbrev As_spec_l2Empty : List ATy := [.data false (.int .i64), .data false (.int .i64), .data false (.int .i64)]
abbrev R_spec_l2Empty : List (Bool × Ty) := [(true, T_Heap)]
abbrev M_spec_l2Empty : List RMode := [.own 27]
abbrev Ft_spec_l2Empty : Type := Int × Int × Int × Unit → Option (D_Heap × Unit)
noncomputable def X_spec_l2Empty (n : Nat) : Ctx := { types := TT, globals := [], con := [], keep := [], results := [.cell 6 26], ntmps := 12, n := n }
noncomputable def B_spec_l2Empty : Code := (Tryz.f62.body).getD .skip
noncomputable def P_spec_l2Empty : Ft_spec_l2Empty := hid (runF (X_spec_l2Empty N) B_spec_l2Empty As_spec_l2Empty R_spec_l2Empty M_spec_l2Empty)
theorem h_spec_l2Empty : P_spec_l2Empty = runF (X_spec_l2Empty N) B_spec_l2Empty As_spec_l2Empty R_spec_l2Empty M_spec_l2Empty := hid_eq _
noncomputable def C_spec_l2Empty : Contract := ⟨As_spec_l2Empty, R_spec_l2Empty, M_spec_l2Empty, P_spec_l2Empty⟩
theorem s_spec_l2Empty : Sound Tryz.prog GG 62 C_spec_l2Empty := by
  unfold C_spec_l2Empty; rw [h_spec_l2Empty]
  exact sound_of_run (fn := Tryz.f62) hmix hstable (tyOK_of ttOK) (hglob (X_spec_l2Empty N)) (conOK_of (X := X_spec_l2Empty N) trivial) (mconOK_of (X := X_spec_l2Empty N) trivial) (by kernel_rfl) (by kernel_rfl) (by kernel_rfl) (by kernel_rfl) (by kernel_rfl) (of_decide_eq_true (by kernel_rfl))
theorem p_spec_l2Empty (a0 : Int) (a1 : Int) (a2 : Int) : P_spec_l2Empty (a0, a1, a2, ()) = 
  some ((a0, (a1, (a2, (([] : List D_A3), ())))), ()) := by
  rewrite [h_spec_l2Empty]
  kernel_rfl

/- 89: loop.example/g01166/spec.l1In -/
abbrev As_spec_l1In : List ATy := [.data false (.int .i64), .data false (.int .i64), .data false (.int .i64)]
abbrev R_spec_l1In : List (Bool × Ty) := [(false, .bool)]
abbrev M_spec_l1In : List RMode := []
abbrev Ft_spec_l1In : Type := Int × Int × Int × Unit → Option (Bool × Unit)
noncomputable def X_spec_l1In (n : Nat) : Ctx := { types := TT, globals := [], con := [], keep := [], results := [.tmp 6], ntmps := 15, n := n }
noncomputable def B_spec_l1In : Code := (Tryz.f89.body).getD .skip
noncomputable def P_spec_l1In : Ft_spec_l1In := hid (runF (X_spec_l1In N) B_spec_l1In As_spec_l1In R_spec_l1In M_spec_l1In)
theorem h_spec_l1In : P_spec_l1In = runF (X_spec_l1In N) B_spec_l1In As_spec_l1In R_spec_l1In M_spec_l1In := hid_eq _
noncomputable def C_spec_l1In : Contract := ⟨As_spec_l1In, R_spec_l1In, M_spec_l1In, P_spec_l1In⟩
theorem s_spec_l1In : Sound Tryz.prog GG 89 C_spec_l1In := by
  unfold C_spec_l1In; rw [h_spec_l1In]
  exact sound_of_run (fn := Tryz.f89) hmix hstable (tyOK_of ttOK) (hglob (X_spec_l1In N)) (conOK_of (X := X_spec_l1In N) trivial) (mconOK_of (X := X_spec_l1In N) trivial) (by kernel_rfl) (by kernel_rfl) (by kernel_rfl) (by kernel_rfl) (by kernel_rfl) (of_decide_eq_true (by kernel_rfl))
theorem p_spec_l1In (a0 : Int) (a1 : Int) (a2 : Int) : P_spec_l1In (a0, a1, a2, ()) = 
  bif decide (a0 ≥ a1) then
    some (decide (a0 ≤ a2), ())
  else
    some (false, ()) := by
  rewrite [h_spec_l1In]
  kernel_rfl

/- 65: loop.example/g01166/spec.l2Sides -/
abbrev As_spec_l2Sides : List ATy := [.data false (.int .i64), .data false (.int .i64), .data false (.int .i64)]
abbrev R_spec_l2Sides : List (Bool × Ty) := [(false, .bool)]
abbrev M_spec_l2Sides : List RMode := []
abbrev Ft_spec_l2Sides : Type := Int × Int × Int × Unit → Option (Bool × Unit)
noncomputable def X_spec_l2Sides (n : Nat) (F_spec_l1In : Ft_spec_l1In) : Ctx := { types := TT, globals := [], con := [(89, ⟨As_spec_l1In, R_spec_l1In, M_spec_l1In, F_spec_l1In⟩)], keep := [], results := [.tmp 6], ntmps := 17, n := n }
noncomputable def B_spec_l2Sides : Code := (Tryz.f65.body).getD .skip
noncomputable def P_spec_l2Sides : Ft_spec_l2Sides := hid (runF (X_spec_l2Sides N P_spec_l1In) B_spec_l2Sides As_spec_l2Sides R_spec_l2Sides M_spec_l2Sides)
theorem h_spec_l2Sides : P_spec_l2Sides = runF (X_spec_l2Sides N P_spec_l1In) B_spec_l2Sides As_spec_l2Sides R_spec_l2Sides M_spec_l2Sides := hid_eq _
noncomputable def C_spec_l2Sides : Contract := ⟨As_spec_l2Sides, R_spec_l2Sides, M_spec_l2Sides, P_spec_l2Sides⟩
theorem s_spec_l2Sides : Sound Tryz.prog GG 65 C_spec_l2Sides := by
  unfold C_spec_l2Sides; rw [h_spec_l2Sides]
  exact sound_of_run (fn := Tryz.f65) hmix hstable (tyOK_of ttOK) (hglob (X_spec_l2Sides N P_spec_l1In)) (conOK_of (X := X_spec_l2Sides N P_spec_l1In) ⟨s_spec_l1In, trivial⟩) (mconOK_of (X := X_spec_l2Sides N P_spec_l1In) trivial) (by kernel_rfl) (by kernel_rfl) (by kernel_rfl) (by kernel_rfl) (by kernel_rfl) (of_decide_eq_true (by kernel_rfl))
theorem p_spec_l2Sides (a0 : Int) (a1 : Int) (a2 : Int) : P_spec_l2Sides (a0, a1, a2, ()) = 
  Option.bind (P_spec_l1In (a0, 1, 4, ())) fun r0 =>
  bif r0.1 then
    Option.bind (P_spec_l1In (a1, 1, 4, ())) fun r2 =>
    bif r2.1 then
      Option.bind (P_spec_l1In (a2, 1, 4, ())) fun r4 =>
      some (r4.1, ())
    else
      some (false, ())
  else
    some (false, ()) := by
  rewrite [h_spec_l2Sides]
  kernel_rfl

/- 90: loop.example/g01166/spec.l2All -/
abbrev As_spec_l2All : List ATy := [.data true T_Heap]
abbrev R_spec_l2All : List (Bool × Ty) := [(false, (.sl T_A3))]
abbrev M_spec_l2All : List RMode := [.own 27]
abbrev Ft_spec_l2All : Type := D_Heap × Unit → Option ((List D_A3) × Unit)
noncomputable def X_spec_l2All (n : Nat) : Ctx := { types := TT, globals := [], con := [], keep := [(3, ⟨[.box 1, .tmp 1, .tmp 3, .tmp 4], []⟩), (6, ⟨[.box 1, .tmp 1, .tmp 3, .tmp 4, .tmp 5], []⟩), (9, ⟨[.box 1, .tmp 1, .tmp 3, .tmp 4, .tmp 5, .tmp 6], []⟩)], results := [.tmp 2], ntmps := 34, n := n }
noncomputable def B_spec_l2All : Code := (Tryz.f90.body).getD .skip
noncomputable def L_spec_l2All_3 (n : Nat) (m0 : Nat) (p0 : Int) (p1 : Int) (p2 : Int) (p3 : List D_A3) (p4 : List D_A3) (p5 : Int) : Option (denL R_spec_l2All) := loopF (X_spec_l2All n) B_spec_l2All R_spec_l2All M_spec_l2All 3 [m0] [(.ver, .num 1), (.box 1, .box 0 false [.int .i64 p0, .int .i64 p1, .int .i64 p2, .imm T_A3 p3 (some 3)]), (.tmp 1, .val false [.addr 1 0 0]), (.tmp 3, .val false [.own 27 T_A3 0 p4]), (.tmp 4, .val false [.int .i64 p5])]
noncomputable def L_spec_l2All_6 (n : Nat) (m0 m1 : Nat) (p0 : Int) (p1 : Int) (p2 : Int) (p3 : List D_A3) (p4 : List D_A3) (p5 : Int) (p6 : Int) : Option (denL R_spec_l2All) := loopF (X_spec_l2All n) B_spec_l2All R_spec_l2All M_spec_l2All 6 [m0, m1] [(.ver, .num 1), (.box 1, .box 0 false [.int .i64 p0, .int .i64 p1, .int .i64 p2, .imm T_A3 p3 (some 3)]), (.tmp 1, .val false [.addr 1 0 0]), (.tmp 3, .val false [.own 27 T_A3 0 p4]), (.tmp 4, .val false [.int .i64 p5]), (.tmp 5, .val false [.int .i64 p6])]
noncomputable def L_spec_l2All_9 (n : Nat) (m0 m1 m2 : Nat) (p0 : Int) (p1 : Int) (p2 : Int) (p3 : List D_A3) (p4 : List D_A3) (p5 : Int) (p6 : Int) (p7 : Int) : Option (denL R_spec_l2All) := loopF (X_spec_l2All n) B_spec_l2All R_spec_l2All M_spec_l2All 9 [m0, m1, m2] [(.ver, .num 1), (.box 1, .box 0 false [.int .i64 p0, .int .i64 p1, .int .i64 p2, .imm T_A3 p3 (some 3)]), (.tmp 1, .val false [.addr 1 0 0]), (.tmp 3, .val false [.own 27 T_A3 0 p4]), (.tmp 4, .val false [.int .i64 p5]), (.tmp 5, .val false [.int .i64 p6]), (.tmp 6, .val false [.int .i64 p7])]
noncomputable def P_spec_l2All : Ft_spec_l2All := hid (runF (X_spec_l2All N) B_spec_l2All As_spec_l2All R_spec_l2All M_spec_l2All)
theorem h_spec_l2All : P_spec_l2All = runF (X_spec_l2All N) B_spec_l2All As_spec_l2All R_spec_l2All M_spec_l2All := hid_eq _
noncomputable def C_spec_l2All : Contract := ⟨As_spec_l2All, R_spec_l2All, M_spec_l2All, P_spec_l2All⟩
theorem s_spec_l2All : Sound Tryz.prog GG 90 C_spec_l2All := by
  unfold C_spec_l2All; rw [h_spec_l2All]
  exact sound_of_run (fn := Tryz.f90) hmix hstable (tyOK_of ttOK) (hglob (X_spec_l2All N)) (conOK_of (X := X_spec_l2All N) trivial) (mconOK_of (X := X_spec_l2All N) trivial) (by kernel_rfl) (by kernel_rfl) (by kernel_rfl) (by kernel_rfl) (by kernel_rfl) (of_decide_eq_true (by kernel_rfl))
noncomputable def l_spec_l2All_3 : Nat → Int → Int → Int → (List D_A3) → (List D_A3) → Int → Option (denL R_spec_l2All) := hid (fun m0 p0 p1 p2 p3 p4 p5 => L_spec_l2All_3 N m0 p0 p1 p2 p3 p4 p5)
theorem h_spec_l2All_3 : l_spec_l2All_3 = fun m0 p0 p1 p2 p3 p4 p5 => L_spec_l2All_3 N m0 p0 p1 p2 p3 p4 p5 := hid_eq _
noncomputable def l_spec_l2All_6 : Nat → Nat → Int → Int → Int → (List D_A3) → (List D_A3) → Int → Int → Option (denL R_spec_l2All) := hid (fun m0 m1 p0 p1 p2 p3 p4 p5 p6 => L_spec_l2All_6 N m0 m1 p0 p1 p2 p3 p4 p5 p6)
theorem h_spec_l2All_6 : l_spec_l2All_6 = fun m0 m1 p0 p1 p2 p3 p4 p5 p6 => L_spec_l2All_6 N m0 m1 p0 p1 p2 p3 p4 p5 p6 := hid_eq _
noncomputable def l_spec_l2All_9 : Nat → Nat → Nat → Int → Int → Int → (List D_A3) → (List D_A3) → Int → Int → Int → Option (denL R_spec_l2All) := hid (fun m0 m1 m2 p0 p1 p2 p3 p4 p5 p6 p7 => L_spec_l2All_9 N m0 m1 m2 p0 p1 p2 p3 p4 p5 p6 p7)
theorem h_spec_l2All_9 : l_spec_l2All_9 = fun m0 m1 m2 p0 p1 p2 p3 p4 p5 p6 p7 => L_spec_l2All_9 N m0 m1 m2 p0 p1 p2 p3 p4 p5 p6 p7 := hid_eq _
theorem p_spec_l2All (a0 : D_Heap) : P_spec_l2All (a0, ()) = 
  l_spec_l2All_3 N a0.1 a0.2.1 a0.2.2.1 a0.2.2.2.1 ([] : List D_A3) 0 := by
  rewrite [h_spec_l2All, h_spec_l2All_3]
  kernel_rfl
theorem q_spec_l2All_3 (m0 : Nat) (p0 : Int) (p1 : Int) (p2 : Int) (p3 : List D_A3) (p4 : List D_A3) (p5 : Int) : l_spec_l2All_3 (m0 + 1) p0 p1 p2 p3 p4 p5 = 
  bif decide (p5 < p0) then
    l_spec_l2All_6 m0 N p0 p1 p2 p3 p4 p5 0
  else
    some (p4, ()) := by
  rewrite [h_spec_l2All_3, h_spec_l2All_6]
  kernel_rfl
theorem q_spec_l2All_6 (m0 m1 : Nat) (p0 : Int) (p1 : Int) (p2 : Int) (p3 : List D_A3) (p4 : List D_A3) (p5 : Int) (p6 : Int) : l_spec_l2All_6 m0 (m1 + 1) p0 p1 p2 p3 p4 p5 p6 = 
  bif decide (p6 < p1) then
    l_spec_l2All_9 m0 m1 N p0 p1 p2 p3 p4 p5 p6 0
  else
    l_spec_l2All_3 m0 p0 p1 p2 p3 p4 (IntKind.wrap .i64 (p5 + 1)) := by
  rewrite [h_spec_l2All_3, h_spec_l2All_6, h_spec_l2All_9]
  kernel_rfl
theorem q_spec_l2All_9 (m0 m1 m2 : Nat) (p0 : Int) (p1 : Int) (p2 : Int) (p3 : List D_A3) (p4 : List D_A3) (p5 : Int) (p6 : Int) (p7 : Int) : l_spec_l2All_9 m0 m1 (m2 + 1) p0 p1 p2 p3 p4 p5 p6 p7 = 
  bif decide (p7 < p2) then
    bif (decide (((List.length p4) + (List.length ([(p5, (p6, (p7, ())))] : List D_A3))) * 24 ≤ 140737488355328) && decide (((List.length p4) + (List.length ([(p5, (p6, (p7, ())))] : List D_A3))) ≤ 140737488355328)) then
      l_spec_l2All_9 m0 m1 m2 p0 p1 p2 p3 (p4 ++ ([(p5, (p6, (p7, ())))] : List D_A3)) p5 p6 (IntKind.wrap .i64 (p7 + 1))
    else none
  else
    l_spec_l2All_6 m0 m1 p0 p1 p2 p3 p4 p5 (IntKind.wrap .i64 (p6 + 1)) := by
  rewrite [h_spec_l2All_6, h_spec_l2All_9]
  kernel_rfl

/- 37: loop.example/g01166/spec.l2Has -/
abbrev As_spec_l2Has : List ATy := [.data true T_Heap, .data true T_A3]
abbrev R_spec_l2Has : List (Bool × Ty) := [(false, .bool)]
abbrev M_spec_l2Has : List RMode := []
abbrev Ft_spec_l2Has : Type := D_Heap × D_A3 × Unit → Option (Bool × Unit)
noncomputable def X_spec_l2Has (n : Nat) : Ctx := { types := TT, globals := [], con := [], keep := [(2, ⟨[.box 2, .box 3, .tmp 2, .tmp 3, .tmp 5], []⟩)], results := [.tmp 4], ntmps := 20, n := n }
noncomputable def B_spec_l2Has : Code := (Tryz.f37.body).getD .skip
noncomputable def L_spec_l2Has_2 (n : Nat) (m0 : Nat) (p0 : Int) (p1 : Int) (p2 : Int) (p3 : List D_A3) (p4 : Int) (p5 : Int) (p6 : Int) (p7 : Int) : Option (denL R_spec_l2Has) := loopF (X_spec_l2Has n) B_spec_l2Has R_spec_l2Has M_spec_l2Has 2 [m0] [(.ver, .num 1), (.box 2, .box 0 false [.int .i64 p0, .int .i64 p1, .int .i64 p2, .imm T_A3 p3 (some 3)]), (.box 3, .box 0 false [.int .i64 p4, .int .i64 p5, .int .i64 p6]), (.tmp 2, .val false [.addr 2 0 0]), (.tmp 3, .val false [.addr 3 0 0]), (.tmp 5, .val false [.int .i64 p7])]
noncomputable def P_spec_l2Has : Ft_spec_l2Has := hid (runF (X_spec_l2Has N) B_spec_l2Has As_spec_l2Has R_spec_l2Has M_spec_l2Has)
theorem h_spec_l2Has : P_spec_l2Has = runF (X_spec_l2Has N) B_spec_l2Has As_spec_l2Has R_spec_l2Has M_spec_l2Has := hid_eq _
noncomputable def C_spec_l2Has : Contract := ⟨As_spec_l2Has, R_spec_l2Has, M_spec_l2Has, P_spec_l2Has⟩
theorem s_spec_l2Has : Sound Tryz.prog GG 37 C_spec_l2Has := by
  unfold C_spec_l2Has; rw [h_spec_l2Has]
  exact sound_of_run (fn := Tryz.f37) hmix hstable (tyOK_of ttOK) (hglob (X_spec_l2Has N)) (conOK_of (X := X_spec_l2Has N) trivial) (mconOK_of (X := X_spec_l2Has N) trivial) (by kernel_rfl) (by kernel_rfl) (by kernel_rfl) (by kernel_rfl) (by kernel_rfl) (of_decide_eq_true (by kernel_rfl))
noncomputable def l_spec_l2Has_2 : Nat → Int → Int → Int → (List D_A3) → Int → Int → Int → Int → Option (denL R_spec_l2Has) := hid (fun m0 p0 p1 p2 p3 p4 p5 p6 p7 => L_spec_l2Has_2 N m0 p0 p1 p2 p3 p4 p5 p6 p7)
theorem h_spec_l2Has_2 : l_spec_l2Has_2 = fun m0 p0 p1 p2 p3 p4 p5 p6 p7 => L_spec_l2Has_2 N m0 p0 p1 p2 p3 p4 p5 p6 p7 := hid_eq _
theorem p_spec_l2Has (a0 : D_Heap) (a1 : D_A3) : P_spec_l2Has (a0, a1, ()) = 
  l_spec_l2Has_2 N a0.1 a0.2.1 a0.2.2.1 a0.2.2.2.1 a1.1 a1.2.1 a1.2.2.1 0 := by
  rewrite [h_spec_l2Has, h_spec_l2Has_2]
  kernel_rfl
theorem q_spec_l2Has_2 (m0 : Nat) (p0 : Int) (p1 : Int) (p2 : Int) (p3 : List D_A3) (p4 : Int) (p5 : Int) (p6 : Int) (p7 : Int) : l_spec_l2Has_2 (m0 + 1) p0 p1 p2 p3 p4 p5 p6 p7 = 
  bif decide (p7 < (List.length p3 : Int)) then
    bif inB p7 (List.length p3) then
      bif (decide (((nth T_A3 p3 p7)).1 = p4) && (decide ((((nth T_A3 p3 p7)).2).1 = p5) && (decide (((((nth T_A3 p3 p7)).2).2).1 = p6) && true))) then
        some (true, ())
      else
        l_spec_l2Has_2 m0 p0 p1 p2 p3 p4 p5 p6 (IntKind.wrap .i64 (p7 + 1))
    else none
  else
    some (false, ()) := by
  rewrite [h_spec_l2Has_2]
  kernel_rfl

/- 75: loop.example/g01166/spec.l2In -/
abbrev As_spec_l2In : List ATy := [.data true T_Heap, .data true T_A3]
abbrev R_spec_l2In : List (Bool × Ty) := [(false, .bool)]
abbrev M_spec_l2In : List RMode := []
abbrev Ft_spec_l2In : Type := D_Heap × D_A3 × Unit → Option (Bool × Unit)
noncomputable def X_spec_l2In (n : Nat) (F_spec_l1In : Ft_spec_l1In) : Ctx := { types := TT, globals := [], con := [(89, ⟨As_spec_l1In, R_spec_l1In, M_spec_l1In, F_spec_l1In⟩)], keep := [], results := [.tmp 4], ntmps := 27, n := n }
noncomputable def B_spec_l2In : Code := (Tryz.f75.body).getD .skip
noncomputable def P_spec_l2In : Ft_spec_l2In := hid (runF (X_spec_l2In N P_spec_l1In) B_spec_l2In As_spec_l2In R_spec_l2In M_spec_l2In)
theorem h_spec_l2In : P_spec_l2In = runF (X_spec_l2In N P_spec_l1In) B_spec_l2In As_spec_l2In R_spec_l2In M_spec_l2In := hid_eq _
noncomputable def C_spec_l2In : Contract := ⟨As_spec_l2In, R_spec_l2In, M_spec_l2In, P_spec_l2In⟩
theorem s_spec_l2In : Sound Tryz.prog GG 75 C_spec_l2In := by
  unfold C_spec_l2In; rw [h_spec_l2In]
  exact sound_of_run (fn := Tryz.f75) hmix hstable (tyOK_of ttOK) (hglob (X_spec_l2In N P_spec_l1In)) (conOK_of (X := X_spec_l2In N P_spec_l1In) ⟨s_spec_l1In, trivial⟩) (mconOK_of (X := X_spec_l2In N P_spec_l1In) trivial) (by kernel_rfl) (by kernel_rfl) (by kernel_rfl) (by kernel_rfl) (by kernel_rfl) (of_decide_eq_true (by kernel_rfl))
theorem p_spec_l2In (a0 : D_Heap) (a1 : D_A3) : P_spec_l2In (a0, a1, ()) = 
  Option.bind (P_spec_l1In (a1.1, 0, (IntKind.wrap .i64 (a0.1 - 1)), ())) fun r0 =>
  bif r0.1 then
    Option.bind (P_spec_l1In (a1.2.1, 0, (IntKind.wrap .i64 (a0.2.1 - 1)), ())) fun r2 =>
    bif r2.1 then
      Option.bind (P_spec_l1In (a1.2.2.1, 0, (IntKind.wrap .i64 (a0.2.2.1 - 1)), ())) fun r4 =>
      some (r4.1, ())
    else
      some (false, ())
  else
    some (false, ()) := by
  rewrite [h_spec_l2In]
  kernel_rfl

/- 76: loop.example/g01166/spec.l2Before -/
abbrev As_spec_l2Before : List ATy := [.data true T_A3, .data true T_A3]
abbrev R_spec_l2Before : List (Bool × Ty) := [(false, .bool)]
abbrev M_spec_l2Before : List RMode := []
abbrev Ft_spec_l2Before : Type := D_A3 × D_A3 × Unit → Option (Bool × Unit)
noncomputable def X_spec_l2Before (n : Nat) : Ctx := { types := TT, globals := [], con := [], keep := [(2, ⟨[.box 2, .box 3, .tmp 2, .tmp 3, .tmp 5], []⟩)], results := [.tmp 4], ntmps := 24, n := n }
noncomputable def B_spec_l2Before : Code := (Tryz.f76.body).getD .skip
noncomputable def L_spec_l2Before_2 (n : Nat) (m0 : Nat) (p0 : Int) (p1 : Int) (p2 : Int) (p3 : Int) (p4 : Int) (p5 : Int) (p6 : Int) : Option (denL R_spec_l2Before) := loopF (X_spec_l2Before n) B_spec_l2Before R_spec_l2Before M_spec_l2Before 2 [m0] [(.ver, .num 1), (.box 2, .box 0 false [.int .i64 p0, .int .i64 p1, .int .i64 p2]), (.box 3, .box 0 false [.int .i64 p3, .int .i64 p4, .int .i64 p5]), (.tmp 2, .val false [.addr 2 0 0]), (.tmp 3, .val false [.addr 3 0 0]), (.tmp 5, .val false [.int .i64 p6])]
noncomputable def P_spec_l2Before : Ft_spec_l2Before := hid (runF (X_spec_l2Before N) B_spec_l2Before As_spec_l2Before R_spec_l2Before M_spec_l2Before)
theorem h_spec_l2Before : P_spec_l2Before = runF (X_spec_l2Before N) B_spec_l2Before As_spec_l2Before R_spec_l2Before M_spec_l2Before := hid_eq _
noncomputable def C_spec_l2Before : Contract := ⟨As_spec_l2Before, R_spec_l2Before, M_spec_l2Before, P_spec_l2Before⟩
theorem s_spec_l2Before : Sound Tryz.prog GG 76 C_spec_l2Before := by
  unfold C_spec_l2Before; rw [h_spec_l2Before]
  exact sound_of_run (fn := Tryz.f76) hmix hstable (tyOK_of ttOK) (hglob (X_spec_l2Before N)) (conOK_of (X := X_spec_l2Before N) trivial) (mconOK_of (X := X_spec_l2Before N) trivial) (by kernel_rfl) (by kernel_rfl) (by kernel_rfl) (by kernel_rfl) (by kernel_rfl) (of_decide_eq_true (by kernel_rfl))
noncomputable def l_spec_l2Before_2 : Nat → Int → Int → Int → Int → Int → Int → Int → Option (denL R_spec_l2Before) := hid (fun m0 p0 p1 p2 p3 p4 p5 p6 => L_spec_l2Before_2 N m0 p0 p1 p2 p3 p4 p5 p6)
theorem h_spec_l2Before_2 : l_spec_l2Before_2 = fun m0 p0 p1 p2 p3 p4 p5 p6 => L_spec_l2Before_2 N m0 p0 p1 p2 p3 p4 p5 p6 := hid_eq _
theorem p_spec_l2Before (a0 : D_A3) (a1 : D_A3) : P_spec_l2Before (a0, a1, ()) = 
  l_spec_l2Before_2 N a0.1 a0.2.1 a0.2.2.1 a1.1 a1.2.1 a1.2.2.1 0 := by
  rewrite [h_spec_l2Before, h_spec_l2Before_2]
  kernel_rfl
theorem q_spec_l2Before_2 (m0 : Nat) (p0 : Int) (p1 : Int) (p2 : Int) (p3 : Int) (p4 : Int) (p5 : Int) (p6 : Int) : l_spec_l2Before_2 (m0 + 1) p0 p1 p2 p3 p4 p5 p6 = 
  bif decide (p6 < 3) then
    bif inB p6 3 then
      bif inB p6 3 then
        bif !decide ((bif decide (p6 = (0 : Int)) then p0 else (bif decide (p6 = (1 : Int)) then p1 else p2)) = (bif decide (p6 = (0 : Int)) then p3 else (bif decide (p6 = (1 : Int)) then p4 else p5))) then
          bif inB p6 3 then
            bif inB p6 3 then
              some (decide ((bif decide (p6 = (0 : Int)) then p0 else (bif decide (p6 = (1 : Int)) then p1 else p2)) < (bif decide (p6 = (0 : Int)) then p3 else (bif decide (p6 = (1 : Int)) then p4 else p5))), ())
            else none
          else none
        else
          l_spec_l2Before_2 m0 p0 p1 p2 p3 p4 p5 (IntKind.wrap .i64 (p6 + 1))
      else none
    else none
  else
    some (false, ()) := by
  rewrite [h_spec_l2Before_2]
  kernel_rfl

/- 49: loop.example/g01166/spec.l2Heap -/
abbrev As_spec_l2Heap : List ATy := [.data true T_Heap]
abbrev R_spec_l2Heap : List (Bool × Ty) := [(false, .bool)]
abbrev M_spec_l2Heap : List RMode := []
abbrev Ft_spec_l2Heap : Type := D_Heap × Unit → Option (Bool × Unit)
noncomputable def X_spec_l2Heap (n : Nat) (F_spec_l2Sides : Ft_spec_l2Sides) (F_spec_l2In : Ft_spec_l2In) (F_spec_l2Before : Ft_spec_l2Before) : Ctx := { types := TT, globals := [], con := [(65, ⟨As_spec_l2Sides, R_spec_l2Sides, M_spec_l2Sides, F_spec_l2Sides⟩), (75, ⟨As_spec_l2In, R_spec_l2In, M_spec_l2In, F_spec_l2In⟩), (76, ⟨As_spec_l2Before, R_spec_l2Before, M_spec_l2Before, F_spec_l2Before⟩)], keep := [(4, ⟨[.box 1, .tmp 1, .tmp 3], []⟩)], results := [.tmp 2], ntmps := 46, n := n }
noncomputable def B_spec_l2Heap : Code := (Tryz.f49.body).getD .skip
noncomputable def L_spec_l2Heap_4 (n : Nat) (F_spec_l2Sides : Ft_spec_l2Sides) (F_spec_l2In : Ft_spec_l2In) (F_spec_l2Before : Ft_spec_l2Before) (m0 : Nat) (p0 : Int) (p1 : Int) (p2 : Int) (p3 : List D_A3) (p4 : Int) : Option (denL R_spec_l2Heap) := loopF (X_spec_l2Heap n F_spec_l2Sides F_spec_l2In F_spec_l2Before) B_spec_l2Heap R_spec_l2Heap M_spec_l2Heap 4 [m0] [(.ver, .num 1), (.box 1, .box 0 false [.int .i64 p0, .int .i64 p1, .int .i64 p2, .imm T_A3 p3 (some 3)]), (.tmp 1, .val false [.addr 1 0 0]), (.tmp 3, .val false [.int .i64 p4])]
noncomputable def P_spec_l2Heap : Ft_spec_l2Heap := hid (runF (X_spec_l2Heap N P_spec_l2Sides P_spec_l2In P_spec_l2Before) B_spec_l2Heap As_spec_l2Heap R_spec_l2Heap M_spec_l2Heap)
theorem h_spec_l2Heap : P_spec_l2Heap = runF (X_spec_l2Heap N P_spec_l2Sides P_spec_l2In P_spec_l2Before) B_spec_l2Heap As_spec_l2Heap R_spec_l2Heap M_spec_l2Heap := hid_eq _
noncomputable def C_spec_l2Heap : Contract := ⟨As_spec_l2Heap, R_spec_l2Heap, M_spec_l2Heap, P_spec_l2Heap⟩
theorem s_spec_l2Heap : Sound Tryz.prog GG 49 C_spec_l2Heap := by
  unfold C_spec_l2Heap; rw [h_spec_l2Heap]
  exact sound_of_run (fn := Tryz.f49) hmix hstable (tyOK_of ttOK) (hglob (X_spec_l2Heap N P_spec_l2Sides P_spec_l2In P_spec_l2Before)) (conOK_of (X := X_spec_l2Heap N P_spec_l2Sides P_spec_l2In P_spec_l2Before) ⟨s_spec_l2Sides, s_spec_l2In, s_spec_l2Before, trivial⟩) (mconOK_of (X := X_spec_l2Heap N P_spec_l2Sides P_spec_l2In P_spec_l2Before) trivial) (by kernel_rfl) (by kernel_rfl) (by kernel_rfl) (by kernel_rfl) (by kernel_rfl) (of_decide_eq_true (by kernel_rfl))
noncomputable def l_spec_l2Heap_4 : Nat → Int → Int → Int → (List D_A3) → Int → Option (denL R_spec_l2Heap) := hid (fun m0 p0 p1 p2 p3 p4 => L_spec_l2Heap_4 N P_spec_l2Sides P_spec_l2In P_spec_l2Before m0 p0 p1 p2 p3 p4)
theorem h_spec_l2Heap_4 : l_spec_l2Heap_4 = fun m0 p0 p1 p2 p3 p4 => L_spec_l2Heap_4 N P_spec_l2Sides P_spec_l2In P_spec_l2Before m0 p0 p1 p2 p3 p4 := hid_eq _
theorem p_spec_l2Heap (a0 : D_Heap) : P_spec_l2Heap (a0, ()) = 
  Option.bind (P_spec_l2Sides (a0.1, a0.2.1, a0.2.2.1, ())) fun r0 =>
  bif !r0.1 then
    some (false, ())
  else
    l_spec_l2Heap_4 N a0.1 a0.2.1 a0.2.2.1 a0.2.2.2.1 0 := by
  rewrite [h_spec_l2Heap, h_spec_l2Heap_4]
  kernel_rfl
theorem q_spec_l2Heap_4 (m0 : Nat) (p0 : Int) (p1 : Int) (p2 : Int) (p3 : List D_A3) (p4 : Int) : l_spec_l2Heap_4 (m0 + 1) p0 p1 p2 p3 p4 = 
  bif decide (p4 < (List.length p3 : Int)) then
    bif inB p4 (List.length p3) then
      Option.bind (P_spec_l2In ((p0, (p1, (p2, (p3, ())))), (nth T_A3 p3 p4), ())) fun r2 =>
      bif !r2.1 then
        some (false, ())
      else
        bif decide (p4 > 0) then
          bif inB (IntKind.wrap .i64 (p4 - 1)) (List.length p3) then
            bif inB p4 (List.length p3) then
              Option.bind (P_spec_l2Before ((nth T_A3 p3 (IntKind.wrap .i64 (p4 - 1))), (nth T_A3 p3 p4), ())) fun r7 =>
              bif !r7.1 then
                some (false, ())
              else
                l_spec_l2Heap_4 m0 p0 p1 p2 p3 (IntKind.wrap .i64 (p4 + 1))
            else none
          else none
        else
          l_spec_l2Heap_4 m0 p0 p1 p2 p3 (IntKind.wrap .i64 (p4 + 1))
    else none
  else
    some (true, ()) := by
  rewrite [h_spec_l2Heap_4]
  kernel_rfl

/- 91: loop.example/g01166/spec.OtherCells -/
abbrev As_spec_OtherCells : List ATy := [.data true T_Heap]
abbrev R_spec_OtherCells : List (Bool × Ty) := [(true, T_Heap), (false, .bool)]
abbrev M_spec_OtherCells : List RMode := [.own 27]
abbrev Ft_spec_OtherCells : Type := D_Heap × Unit → Option (D_Heap × Bool × Unit)
noncomputable def X_spec_OtherCells (n : Nat) (F_spec_l2Has : Ft_spec_l2Has) (F_spec_l2Heap : Ft_spec_l2Heap) (F_spec_l2Empty : Ft_spec_l2Empty) (F_spec_l2All : Ft_spec_l2All) : Ctx := { types := TT, globals := [], con := [(37, ⟨As_spec_l2Has, R_spec_l2Has, M_spec_l2Has, F_spec_l2Has⟩), (49, ⟨As_spec_l2Heap, R_spec_l2Heap, M_spec_l2Heap, F_spec_l2Heap⟩), (62, ⟨As_spec_l2Empty, R_spec_l2Empty, M_spec_l2Empty, F_spec_l2Empty⟩), (90, ⟨As_spec_l2All, R_spec_l2All, M_spec_l2All, F_spec_l2All⟩)], keep := [(5, ⟨[.box 1, .box 2, .box 4, .tmp 1, .tmp 2, .tmp 4, .tmp 5, .tmp 6], []⟩)], results := [.cell 2 26, .tmp 3], ntmps := 43, n := n }
noncomputable def B_spec_OtherCells : Code := (Tryz.f91.body).getD .skip
noncomputable def L_spec_OtherCells_5 (n : Nat) (F_spec_l2Has : Ft_spec_l2Has) (F_spec_l2Heap : Ft_spec_l2Heap) (F_spec_l2Empty : Ft_spec_l2Empty) (F_spec_l2All : Ft_spec_l2All) (m0 : Nat) (p0 : Int) (p1 : Int) (p2 : Int) (p3 : List D_A3) (p4 : Int) (p5 : Int) (p6 : Int) (p7 : List D_A3) (p8 : Int) (p9 : Int) (p10 : Int) (p11 : List D_A3) (p12 : List D_A3) (p13 : Int) : Option (denL R_spec_OtherCells) := loopF (X_spec_OtherCells n F_spec_l2Has F_spec_l2Heap F_spec_l2Empty F_spec_l2All) B_spec_OtherCells R_spec_OtherCells M_spec_OtherCells 5 [m0] [(.ver, .num 1), (.box 1, .box 0 false [.int .i64 p0, .int .i64 p1, .int .i64 p2, .imm T_A3 p3 (some 3)]), (.box 2, .box 0 false [.int .i64 p4, .int .i64 p5, .int .i64 p6, .own 27 T_A3 0 p7]), (.box 4, .box 0 false [.int .i64 p8, .int .i64 p9, .int .i64 p10, .own 27 T_A3 0 p11]), (.tmp 1, .val false [.addr 1 0 0]), (.tmp 2, .val false [.addr 2 0 0]), (.tmp 4, .val false [.addr 4 0 0]), (.tmp 5, .val false [.own 27 T_A3 0 p12]), (.tmp 6, .val false [.int .i64 p13])]
noncomputable def P_spec_OtherCells : Ft_spec_OtherCells := hid (runF (X_spec_OtherCells N P_spec_l2Has P_spec_l2Heap P_spec_l2Empty P_spec_l2All) B_spec_OtherCells As_spec_OtherCells R_spec_OtherCells M_spec_OtherCells)
theorem h_spec_OtherCells : P_spec_OtherCells = runF (X_spec_OtherCells N P_spec_l2Has P_spec_l2Heap P_spec_l2Empty P_spec_l2All) B_spec_OtherCells As_spec_OtherCells R_spec_OtherCells M_spec_OtherCells := hid_eq _
noncomputable def C_spec_OtherCells : Contract := ⟨As_spec_OtherCells, R_spec_OtherCells, M_spec_OtherCells, P_spec_OtherCells⟩
theorem s_spec_OtherCells : Sound Tryz.prog GG 91 C_spec_OtherCells := by
  unfold C_spec_OtherCells; rw [h_spec_OtherCells]
  exact sound_of_run (fn := Tryz.f91) hmix hstable (tyOK_of ttOK) (hglob (X_spec_OtherCells N P_spec_l2Has P_spec_l2Heap P_spec_l2Empty P_spec_l2All)) (conOK_of (X := X_spec_OtherCells N P_spec_l2Has P_spec_l2Heap P_spec_l2Empty P_spec_l2All) ⟨s_spec_l2Has, s_spec_l2Heap, s_spec_l2Empty, s_spec_l2All, trivial⟩) (mconOK_of (X := X_spec_OtherCells N P_spec_l2Has P_spec_l2Heap P_spec_l2Empty P_spec_l2All) trivial) (by kernel_rfl) (by kernel_rfl) (by kernel_rfl) (by kernel_rfl) (by kernel_rfl) (of_decide_eq_true (by kernel_rfl))
noncomputable def l_spec_OtherCells_5 : Nat → Int → Int → Int → (List D_A3) → Int → Int → Int → (List D_A3) → Int → Int → Int → (List D_A3) → (List D_A3) → Int → Option (denL R_spec_OtherCells) := hid (fun m0 p0 p1 p2 p3 p4 p5 p6 p7 p8 p9 p10 p11 p12 p13 => L_spec_OtherCells_5 N P_spec_l2Has P_spec_l2Heap P_spec_l2Empty P_spec_l2All m0 p0 p1 p2 p3 p4 p5 p6 p7 p8 p9 p10 p11 p12 p13)
theorem h_spec_OtherCells_5 : l_spec_OtherCells_5 = fun m0 p0 p1 p2 p3 p4 p5 p6 p7 p8 p9 p10 p11 p12 p13 => L_spec_OtherCells_5 N P_spec_l2Has P_spec_l2Heap P_spec_l2Empty P_spec_l2All m0 p0 p1 p2 p3 p4 p5 p6 p7 p8 p9 p10 p11 p12 p13 := hid_eq _
theorem p_spec_OtherCells (a0 : D_Heap) : P_spec_OtherCells (a0, ()) = 
  Option.bind (P_spec_l2Heap (a0, ())) fun r0 =>
  bif !r0.1 then
    some ((0, (0, (0, (([] : List D_A3), ())))), false, ())
  else
    Option.bind (P_spec_l2Empty (a0.1, a0.2.1, a0.2.2.1, ())) fun r2 =>
    Option.bind (P_spec_l2All (a0, ())) fun r3 =>
    l_spec_OtherCells_5 N a0.1 a0.2.1 a0.2.2.1 a0.2.2.2.1 0 0 0 ([] : List D_A3) r2.1.1 r2.1.2.1 r2.1.2.2.1 r2.1.2.2.2.1 r3.1 0 := by
  rewrite [h_spec_OtherCells, h_spec_OtherCells_5]
  kernel_rfl
theorem q_spec_OtherCells_5 (m0 : Nat) (p0 : Int) (p1 : Int) (p2 : Int) (p3 : List D_A3) (p4 : Int) (p5 : Int) (p6 : Int) (p7 : List D_A3) (p8 : Int) (p9 : Int) (p10 : Int) (p11 : List D_A3) (p12 : List D_A3) (p13 : Int) : l_spec_OtherCells_5 (m0 + 1) p0 p1 p2 p3 p4 p5 p6 p7 p8 p9 p10 p11 p12 p13 = 
  bif decide (p13 < (List.length p12 : Int)) then
    bif inB p13 (List.length p12) then
      Option.bind (P_spec_l2Has ((p0, (p1, (p2, (p3, ())))), (nth T_A3 p12 p13), ())) fun r2 =>
      bif !r2.1 then
        bif inB p13 (List.length p12) then
          bif (decide (((List.length p11) + (List.length ([(nth T_A3 p12 p13)] : List D_A3))) * 24 ≤ 140737488355328) && decide (((List.length p11) + (List.length ([(nth T_A3 p12 p13)] : List D_A3))) ≤ 140737488355328)) then
            l_spec_OtherCells_5 m0 p0 p1 p2 p3 p4 p5 p6 p7 p8 p9 p10 (p11 ++ ([(nth T_A3 p12 p13)] : List D_A3)) p12 (IntKind.wrap .i64 (p13 + 1))
          else none
        else none
      else
        l_spec_OtherCells_5 m0 p0 p1 p2 p3 p4 p5 p6 p7 p8 p9 p10 p11 p12 (IntKind.wrap .i64 (p13 + 1))
    else none
  else
    some ((p8, (p9, (p10, (p11, ())))), true, ()) := by
  rewrite [h_spec_OtherCells_5]
  kernel_rfl

/- 92: loop.example/g01166/spec.l2Stack -/
abbrev As_spec_l2Stack : List ATy := [.data false (.int .i64), .data false (.int .i64), .data false (.int .i64), .data false (.sl (.int .i64))]
abbrev R_spec_l2Stack : List (Bool × Ty) := [(true, T_Heap)]
abbrev M_spec_l2Stack : List RMode := [.own 27]
abbrev Ft_spec_l2Stack : Type := Int × Int × Int × (List Int) × Unit → Option (D_Heap × Unit)
noncomputable def X_spec_l2Stack (n : Nat) (F_spec_l2Empty : Ft_spec_l2Empty) (F_spec_l2All : Ft_spec_l2All) : Ctx := { types := TT, globals := [], con := [(62, ⟨As_spec_l2Empty, R_spec_l2Empty, M_spec_l2Empty, F_spec_l2Empty⟩), (90, ⟨As_spec_l2All, R_spec_l2All, M_spec_l2All, F_spec_l2All⟩)], keep := [(4, ⟨[.box 8, .box 9, .tmp 1, .tmp 3, .tmp 8, .tmp 9, .tmp 10, .tmp 11], []⟩)], results := [.cell 8 26], ntmps := 56, n := n }
noncomputable def B_spec_l2Stack : Code := (Tryz.f92.body).getD .skip
noncomputable def L_spec_l2Stack_4 (n : Nat) (F_spec_l2Empty : Ft_spec_l2Empty) (F_spec_l2All : Ft_spec_l2All) (m0 : Nat) (p0 : Int) (p1 : Int) (p2 : Int) (p3 : List D_A3) (p4 : Int) (p5 : Int) (p6 : Int) (p7 : List D_A3) (p8 : Int) (p9 : List Int) (p10 : List D_A3) (p11 : Int) : Option (denL R_spec_l2Stack) := loopF (X_spec_l2Stack n F_spec_l2Empty F_spec_l2All) B_spec_l2Stack R_spec_l2Stack M_spec_l2Stack 4 [m0] [(.ver, .num 1), (.box 8, .box 0 false [.int .i64 p0, .int .i64 p1, .int .i64 p2, .own 27 T_A3 0 p3]), (.box 9, .box 0 false [.int .i64 p4, .int .i64 p5, .int .i64 p6, .own 27 T_A3 0 p7]), (.tmp 1, .val false [.int .i64 p8]), (.tmp 3, .val false [.imm (.int .i64) p9 (some 3)]), (.tmp 8, .val false [.addr 8 0 0]), (.tmp 9, .val false [.addr 9 0 0]), (.tmp 10, .val false [.own 27 T_A3 0 p10]), (.tmp 11, .val false [.int .i64 p11])]
noncomputable def P_spec_l2Stack : Ft_spec_l2Stack := hid (runF (X_spec_l2Stack N P_spec_l2Empty P_spec_l2All) B_spec_l2Stack As_spec_l2Stack R_spec_l2Stack M_spec_l2Stack)
theorem h_spec_l2Stack : P_spec_l2Stack = runF (X_spec_l2Stack N P_spec_l2Empty P_spec_l2All) B_spec_l2Stack As_spec_l2Stack R_spec_l2Stack M_spec_l2Stack := hid_eq _
noncomputable def C_spec_l2Stack : Contract := ⟨As_spec_l2Stack, R_spec_l2Stack, M_spec_l2Stack, P_spec_l2Stack⟩
theorem s_spec_l2Stack : Sound Tryz.prog GG 92 C_spec_l2Stack := by
  unfold C_spec_l2Stack; rw [h_spec_l2Stack]
  exact sound_of_run (fn := Tryz.f92) hmix hstable (tyOK_of ttOK) (hglob (X_spec_l2Stack N P_spec_l2Empty P_spec_l2All)) (conOK_of (X := X_spec_l2Stack N P_spec_l2Empty P_spec_l2All) ⟨s_spec_l2Empty, s_spec_l2All, trivial⟩) (mconOK_of (X := X_spec_l2Stack N P_spec_l2Empty P_spec_l2All) trivial) (by kernel_rfl) (by kernel_rfl) (by kernel_rfl) (by kernel_rfl) (by kernel_rfl) (of_decide_eq_true (by kernel_rfl))
noncomputable def l_spec_l2Stack_4 : Nat → Int → Int → Int → (List D_A3) → Int → Int → Int → (List D_A3) → Int → (List Int) → (List D_A3) → Int → Option (denL R_spec_l2Stack) := hid (fun m0 p0 p1 p2 p3 p4 p5 p6 p7 p8 p9 p10 p11 => L_spec_l2Stack_4 N P_spec_l2Empty P_spec_l2All m0 p0 p1 p2 p3 p4 p5 p6 p7 p8 p9 p10 p11)
theorem h_spec_l2Stack_4 : l_spec_l2Stack_4 = fun m0 p0 p1 p2 p3 p4 p5 p6 p7 p8 p9 p10 p11 => L_spec_l2Stack_4 N P_spec_l2Empty P_spec_l2All m0 p0 p1 p2 p3 p4 p5 p6 p7 p8 p9 p10 p11 := hid_eq _
theorem p_spec_l2Stack (a0 : Int) (a1 : Int) (a2 : Int) (a3 : List Int) : P_spec_l2Stack (a0, a1, a2, a3, ()) = 
  Option.bind (P_spec_l2Empty (a0, a1, a2, ())) fun r0 =>
  Option.bind (P_spec_l2All (r0.1, ())) fun r1 =>
  l_spec_l2Stack_4 N 0 0 0 ([] : List D_A3) r0.1.1 r0.1.2.1 r0.1.2.2.1 r0.1.2.2.2.1 a1 a3 r1.1 0 := by
  rewrite [h_spec_l2Stack, h_spec_l2Stack_4]
  kernel_rfl
theorem q_spec_l2Stack_4 (m0 : Nat) (p0 : Int) (p1 : Int) (p2 : Int) (p3 : List D_A3) (p4 : Int) (p5 : Int) (p6 : Int) (p7 : List D_A3) (p8 : Int) (p9 : List Int) (p10 : List D_A3) (p11 : Int) : l_spec_l2Stack_4 (m0 + 1) p0 p1 p2 p3 p4 p5 p6 p7 p8 p9 p10 p11 = 
  bif decide (p11 < (List.length p10 : Int)) then
    bif inB p11 (List.length p10) then
      bif inB p11 (List.length p10) then
        bif inB p11 (List.length p10) then
          bif inB (IntKind.wrap .i64 ((IntKind.wrap .i64 (((nth T_A3 p10 p11)).1 * p8)) + (((nth T_A3 p10 p11)).2).1)) (List.length p9) then
            bif decide (((((nth T_A3 p10 p11)).2).2).1 < (nth ((.int .i64) : Ty) p9 (IntKind.wrap .i64 ((IntKind.wrap .i64 (((nth T_A3 p10 p11)).1 * p8)) + (((nth T_A3 p10 p11)).2).1)))) then
              bif inB p11 (List.length p10) then
                bif (decide (((List.length p7) + (List.length ([(nth T_A3 p10 p11)] : List D_A3))) * 24 ≤ 140737488355328) && decide (((List.length p7) + (List.length ([(nth T_A3 p10 p11)] : List D_A3))) ≤ 140737488355328)) then
                  l_spec_l2Stack_4 m0 p0 p1 p2 p3 p4 p5 p6 (p7 ++ ([(nth T_A3 p10 p11)] : List D_A3)) p8 p9 p10 (IntKind.wrap .i64 (p11 + 1))
                else none
              else none
            else
              l_spec_l2Stack_4 m0 p0 p1 p2 p3 p4 p5 p6 p7 p8 p9 p10 (IntKind.wrap .i64 (p11 + 1))
          else none
        else none
      else none
    else none
  else
    some ((p4, (p5, (p6, (p7, ())))), ()) := by
  rewrite [h_spec_l2Stack_4]
  kernel_rfl

/- 72: loop.example/g01166/spec.l2Long -/
abbrev As_spec_l2Long : List ATy := [.data true T_Heap, .data false (.int .i64)]
abbrev R_spec_l2Long : List (Bool × Ty) := [(false, (.int .i64))]
abbrev M_spec_l2Long : List RMode := []
abbrev Ft_spec_l2Long : Type := D_Heap × Int × Unit → Option (Int × Unit)
noncomputable def X_spec_l2Long (n : Nat) : Ctx := { types := TT, globals := [], con := [], keep := [], results := [.tmp 4], ntmps := 14, n := n }
noncomputable def B_spec_l2Long : Code := (Tryz.f72.body).getD .skip
noncomputable def P_spec_l2Long : Ft_spec_l2Long := hid (runF (X_spec_l2Long N) B_spec_l2Long As_spec_l2Long R_spec_l2Long M_spec_l2Long)
theorem h_spec_l2Long : P_spec_l2Long = runF (X_spec_l2Long N) B_spec_l2Long As_spec_l2Long R_spec_l2Long M_spec_l2Long := hid_eq _
noncomputable def C_spec_l2Long : Contract := ⟨As_spec_l2Long, R_spec_l2Long, M_spec_l2Long, P_spec_l2Long⟩
theorem s_spec_l2Long : Sound Tryz.prog GG 72 C_spec_l2Long := by
  unfold C_spec_l2Long; rw [h_spec_l2Long]
  exact sound_of_run (fn := Tryz.f72) hmix hstable (tyOK_of ttOK) (hglob (X_spec_l2Long N)) (conOK_of (X := X_spec_l2Long N) trivial) (mconOK_of (X := X_spec_l2Long N) trivial) (by kernel_rfl) (by kernel_rfl) (by kernel_rfl) (by kernel_rfl) (by kernel_rfl) (of_decide_eq_true (by kernel_rfl))
theorem p_spec_l2Long (a0 : D_Heap) (a1 : Int) : P_spec_l2Long (a0, a1, ()) = 
  bif inB a1 3 then
    some ((bif decide (a1 = (0 : Int)) then a0.1 else (bif decide (a1 = (1 : Int)) then a0.2.1 else a0.2.2.1)), ())
  else none := by
  rewrite [h_spec_l2Long]
  kernel_rfl

/- 107: loop.example/g01166/spec.l2Others -/
abbrev As_spec_l2Others : List ATy := [.data false (.int .i64)]
abbrev R_spec_l2Others : List (Bool × Ty) := [(false, (.int .i64)), (false, (.int .i64))]
abbrev M_spec_l2Others : List RMode := []
abbrev Ft_spec_l2Others : Type := Int × Unit → Option (Int × Int × Unit)
noncomputable def X_spec_l2Others (n : Nat) : Ctx := { types := TT, globals := [], con := [], keep := [], results := [.tmp 2, .tmp 3], ntmps := 9, n := n }
noncomputable def B_spec_l2Others : Code := (Tryz.f107.body).getD .skip
noncomputable def P_spec_l2Others : Ft_spec_l2Others := hid (runF (X_spec_l2Others N) B_spec_l2Others As_spec_l2Others R_spec_l2Others M_spec_l2Others)
theorem h_spec_l2Others : P_spec_l2Others = runF (X_spec_l2Others N) B_spec_l2Others As_spec_l2Others R_spec_l2Others M_spec_l2Others := hid_eq _
noncomputable def C_spec_l2Others : Contract := ⟨As_spec_l2Others, R_spec_l2Others, M_spec_l2Others, P_spec_l2Others⟩
theorem s_spec_l2Others : Sound Tryz.prog GG 107 C_spec_l2Others := by
  unfold C_spec_l2Others; rw [h_spec_l2Others]
  exact sound_of_run (fn := Tryz.f107) hmix hstable (tyOK_of ttOK) (hglob (X_spec_l2Others N)) (conOK_of (X := X_spec_l2Others N) trivial) (mconOK_of (X := X_spec_l2Others N) trivial) (by kernel_rfl) (by kernel_rfl) (by kernel_rfl) (by kernel_rfl) (by kernel_rfl) (of_decide_eq_true (by kernel_rfl))
theorem p_spec_l2Others (a0 : Int) : P_spec_l2Others (a0, ()) = 
  bif decide (a0 = 0) then
    some (1, 2, ())
  else
    bif decide (a0 = 1) then
      some (0, 2, ())
    else
      some (0, 1, ()) := by
  rewrite [h_spec_l2Others]
  kernel_rfl

/- 100: loop.example/g01166/spec.l2View -/
abbrev As_spec_l2View : List ATy := [.data true T_Heap, .data false (.int .i64)]
abbrev R_spec_l2View : List (Bool × Ty) := [(false, (.sl (.int .i64)))]
abbrev M_spec_l2View : List RMode := [.own 3]
abbrev Ft_spec_l2View : Type := D_Heap × Int × Unit → Option ((List Int) × Unit)
noncomputable def X_spec_l2View (n : Nat) (F_spec_l2Long : Ft_spec_l2Long) (F_spec_l2Others : Ft_spec_l2Others) : Ctx := { types := TT, globals := [], con := [(72, ⟨As_spec_l2Long, R_spec_l2Long, M_spec_l2Long, F_spec_l2Long⟩), (107, ⟨As_spec_l2Others, R_spec_l2Others, M_spec_l2Others, F_spec_l2Others⟩)], keep := [(4, ⟨[.box 2, .tmp 2, .tmp 5, .tmp 6, .tmp 7, .tmp 8], []⟩)], results := [.tmp 4], ntmps := 54, n := n }
noncomputable def B_spec_l2View : Code := (Tryz.f100.body).getD .skip
noncomputable def L_spec_l2View_4 (n : Nat) (F_spec_l2Long : Ft_spec_l2Long) (F_spec_l2Others : Ft_spec_l2Others) (m0 : Nat) (p0 : Int) (p1 : Int) (p2 : Int) (p3 : List D_A3) (p4 : Int) (p5 : Int) (p6 : List Int) (p7 : Int) : Option (denL R_spec_l2View) := loopF (X_spec_l2View n F_spec_l2Long F_spec_l2Others) B_spec_l2View R_spec_l2View M_spec_l2View 4 [m0] [(.ver, .num 1), (.box 2, .box 0 false [.int .i64 p0, .int .i64 p1, .int .i64 p2, .imm T_A3 p3 (some 3)]), (.tmp 2, .val false [.addr 2 0 0]), (.tmp 5, .val false [.int .i64 p4]), (.tmp 6, .val false [.int .i64 p5]), (.tmp 7, .val false [.own 3 (.int .i64) 0 p6]), (.tmp 8, .val false [.int .i64 p7])]
noncomputable def P_spec_l2View : Ft_spec_l2View := hid (runF (X_spec_l2View N P_spec_l2Long P_spec_l2Others) B_spec_l2View As_spec_l2View R_spec_l2View M_spec_l2View)
theorem h_spec_l2View : P_spec_l2View = runF (X_spec_l2View N P_spec_l2Long P_spec_l2Others) B_spec_l2View As_spec_l2View R_spec_l2View M_spec_l2View := hid_eq _
noncomputable def C_spec_l2View : Contract := ⟨As_spec_l2View, R_spec_l2View, M_spec_l2View, P_spec_l2View⟩
theorem s_spec_l2View : Sound Tryz.prog GG 100 C_spec_l2View := by
  unfold C_spec_l2View; rw [h_spec_l2View]
  exact sound_of_run (fn := Tryz.f100) hmix hstable (tyOK_of ttOK) (hglob (X_spec_l2View N P_spec_l2Long P_spec_l2Others)) (conOK_of (X := X_spec_l2View N P_spec_l2Long P_spec_l2Others) ⟨s_spec_l2Long, s_spec_l2Others, trivial⟩) (mconOK_of (X := X_spec_l2View N P_spec_l2Long P_spec_l2Others) trivial) (by kernel_rfl) (by kernel_rfl) (by kernel_rfl) (by kernel_rfl) (by kernel_rfl) (of_decide_eq_true (by kernel_rfl))
noncomputable def l_spec_l2View_4 : Nat → Int → Int → Int → (List D_A3) → Int → Int → (List Int) → Int → Option (denL R_spec_l2View) := hid (fun m0 p0 p1 p2 p3 p4 p5 p6 p7 => L_spec_l2View_4 N P_spec_l2Long P_spec_l2Others m0 p0 p1 p2 p3 p4 p5 p6 p7)
theorem h_spec_l2View_4 : l_spec_l2View_4 = fun m0 p0 p1 p2 p3 p4 p5 p6 p7 => L_spec_l2View_4 N P_spec_l2Long P_spec_l2Others m0 p0 p1 p2 p3 p4 p5 p6 p7 := hid_eq _
theorem p_spec_l2View (a0 : D_Heap) (a1 : Int) : P_spec_l2View (a0, a1, ()) = 
  Option.bind (P_spec_l2Others (a1, ())) fun r0 =>
  Option.bind (P_spec_l2Long (a0, r0.1, ())) fun r1 =>
  Option.bind (P_spec_l2Long (a0, r0.2.1, ())) fun r2 =>
  bif (decide ((0 : Int) ≤ (IntKind.wrap .i64 (r1.1 * r2.1))) && decide (((IntKind.wrap .i64 (r1.1 * r2.1)) : Int) ≤ (IntKind.wrap .i64 (r1.1 * r2.1))) && decide (((IntKind.wrap .i64 (r1.1 * r2.1)) : Int) * (8 : Nat) ≤ 140737488355328) && decide (((IntKind.wrap .i64 (r1.1 * r2.1)) : Int) ≤ 140737488355328)) then
    l_spec_l2View_4 N a0.1 a0.2.1 a0.2.2.1 a0.2.2.2.1 r0.1 r0.2.1 (List.replicate (Int.toNat (IntKind.wrap .i64 (r1.1 * r2.1))) (Ty.dflt ((.int .i64) : Ty))) 0
  else none := by
  rewrite [h_spec_l2View, h_spec_l2View_4]
  kernel_rfl
theorem q_spec_l2View_4 (m0 : Nat) (p0 : Int) (p1 : Int) (p2 : Int) (p3 : List D_A3) (p4 : Int) (p5 : Int) (p6 : List Int) (p7 : Int) : l_spec_l2View_4 (m0 + 1) p0 p1 p2 p3 p4 p5 p6 p7 = 
  bif decide (p7 < (List.length p3 : Int)) then
    bif inB p7 (List.length p3) then
      bif inB p4 3 then
        Option.bind (P_spec_l2Long ((p0, (p1, (p2, (p3, ())))), p5, ())) fun r3 =>
        bif inB p7 (List.length p3) then
          bif inB p5 3 then
            bif inB (IntKind.wrap .i64 ((IntKind.wrap .i64 ((bif decide (p4 = (0 : Int)) then ((nth T_A3 p3 p7)).1 else (bif decide (p4 = (1 : Int)) then (((nth T_A3 p3 p7)).2).1 else ((((nth T_A3 p3 p7)).2).2).1)) * r3.1)) + (bif decide (p5 = (0 : Int)) then ((nth T_A3 p3 p7)).1 else (bif decide (p5 = (1 : Int)) then (((nth T_A3 p3 p7)).2).1 else ((((nth T_A3 p3 p7)).2).2).1)))) (List.length p6) then
              bif inB (IntKind.wrap .i64 ((IntKind.wrap .i64 ((bif decide (p4 = (0 : Int)) then ((nth T_A3 p3 p7)).1 else (bif decide (p4 = (1 : Int)) then (((nth T_A3 p3 p7)).2).1 else ((((nth T_A3 p3 p7)).2).2).1)) * r3.1)) + (bif decide (p5 = (0 : Int)) then ((nth T_A3 p3 p7)).1 else (bif decide (p5 = (1 : Int)) then (((nth T_A3 p3 p7)).2).1 else ((((nth T_A3 p3 p7)).2).2).1)))) (List.length p6) then
                l_spec_l2View_4 m0 p0 p1 p2 p3 p4 p5 (List.set p6 (Int.toNat (IntKind.wrap .i64 ((IntKind.wrap .i64 ((bif decide (p4 = (0 : Int)) then ((nth T_A3 p3 p7)).1 else (bif decide (p4 = (1 : Int)) then (((nth T_A3 p3 p7)).2).1 else ((((nth T_A3 p3 p7)).2).2).1)) * r3.1)) + (bif decide (p5 = (0 : Int)) then ((nth T_A3 p3 p7)).1 else (bif decide (p5 = (1 : Int)) then (((nth T_A3 p3 p7)).2).1 else ((((nth T_A3 p3 p7)).2).2).1))))) (IntKind.wrap .i64 ((nth ((.int .i64) : Ty) p6 (IntKind.wrap .i64 ((IntKind.wrap .i64 ((bif decide (p4 = (0 : Int)) then ((nth T_A3 p3 p7)).1 else (bif decide (p4 = (1 : Int)) then (((nth T_A3 p3 p7)).2).1 else ((((nth T_A3 p3 p7)).2).2).1)) * r3.1)) + (bif decide (p5 = (0 : Int)) then ((nth T_A3 p3 p7)).1 else (bif decide (p5 = (1 : Int)) then (((nth T_A3 p3 p7)).2).1 else ((((nth T_A3 p3 p7)).2).2).1))))) + 1))) (IntKind.wrap .i64 (p7 + 1))
              else none
            else none
          else none
        else none
      else none
    else none
  else
    some (p6, ()) := by
  rewrite [h_spec_l2View_4]
  kernel_rfl

/- 93: loop.example/g01166/spec.l2Heights -/
abbrev As_spec_l2Heights : List ATy := [.data true T_Heap]
abbrev R_spec_l2Heights : List (Bool × Ty) := [(false, (.sl (.int .i64)))]
abbrev M_spec_l2Heights : List RMode := [.own 3]
abbrev Ft_spec_l2Heights : Type := D_Heap × Unit → Option ((List Int) × Unit)
noncomputable def X_spec_l2Heights (n : Nat) (F_spec_l2View : Ft_spec_l2View) : Ctx := { types := TT, globals := [], con := [(100, ⟨As_spec_l2View, R_spec_l2View, M_spec_l2View, F_spec_l2View⟩)], keep := [], results := [.tmp 2], ntmps := 5, n := n }
noncomputable def B_spec_l2Heights : Code := (Tryz.f93.body).getD .skip
noncomputable def P_spec_l2Heights : Ft_spec_l2Heights := hid (runF (X_spec_l2Heights N P_spec_l2View) B_spec_l2Heights As_spec_l2Heights R_spec_l2Heights M_spec_l2Heights)
theorem h_spec_l2Heights : P_spec_l2Heights = runF (X_spec_l2Heights N P_spec_l2View) B_spec_l2Heights As_spec_l2Heights R_spec_l2Heights M_spec_l2Heights := hid_eq _
noncomputable def C_spec_l2Heights : Contract := ⟨As_spec_l2Heights, R_spec_l2Heights, M_spec_l2Heights, P_spec_l2Heights⟩
theorem s_spec_l2Heights : Sound Tryz.prog GG 93 C_spec_l2Heights := by
  unfold C_spec_l2Heights; rw [h_spec_l2Heights]
  exact sound_of_run (fn := Tryz.f93) hmix hstable (tyOK_of ttOK) (hglob (X_spec_l2Heights N P_spec_l2View)) (conOK_of (X := X_spec_l2Heights N P_spec_l2View) ⟨s_spec_l2View, trivial⟩) (mconOK_of (X := X_spec_l2Heights N P_spec_l2View) trivial) (by kernel_rfl) (by kernel_rfl) (by kernel_rfl) (by kernel_rfl) (by kernel_rfl) (of_decide_eq_true (by kernel_rfl))
theorem p_spec_l2Heights (a0 : D_Heap) : P_spec_l2Heights (a0, ()) = 
  Option.bind (P_spec_l2View (a0, 2, ())) fun r0 =>
  some (r0.1, ()) := by
  rewrite [h_spec_l2Heights]
  kernel_rfl

/- 68: (*loop.example/g01166/spec.l1Cur).someHeap -/
abbrev As_l1Cur_someHeap : List ATy := [.lptr T_l1Cur, .data false (.int .i64), .data false (.int .i64), .data false (.int .i64)]
abbrev R_l1Cur_someHeap : List (Bool × Ty) := [(true, T_Heap)]
abbrev M_l1Cur_someHeap : List RMode := [.own 27]
abbrev Ft_l1Cur_someHeap : Type := D_l1Cur × Int × Int × Int × Unit → Option ((D_Heap × Unit) × (D_l1Cur × Unit))
noncomputable def X_l1Cur_someHeap (n : Nat) (F_l1Cur_one : Ft_l1Cur_one) (F_spec_l2Empty : Ft_spec_l2Empty) (F_spec_l2Sides : Ft_spec_l2Sides) (F_l1Cur_pick : Ft_l1Cur_pick) (F_l1Cur_among : Ft_l1Cur_among) (F_spec_l2All : Ft_spec_l2All) (F_spec_OtherCells : Ft_spec_OtherCells) (F_spec_l2Stack : Ft_spec_l2Stack) (F_spec_l2Heights : Ft_spec_l2Heights) : Ctx := { types := TT, globals := [], con := [(62, ⟨As_spec_l2Empty, R_spec_l2Empty, M_spec_l2Empty, F_spec_l2Empty⟩), (65, ⟨As_spec_l2Sides, R_spec_l2Sides, M_spec_l2Sides, F_spec_l2Sides⟩), (90, ⟨As_spec_l2All, R_spec_l2All, M_spec_l2All, F_spec_l2All⟩), (91, ⟨As_spec_OtherCells, R_spec_OtherCells, M_spec_OtherCells, F_spec_OtherCells⟩), (92, ⟨As_spec_l2Stack, R_spec_l2Stack, M_spec_l2Stack, F_spec_l2Stack⟩), (93, ⟨As_spec_l2Heights, R_spec_l2Heights, M_spec_l2Heights, F_spec_l2Heights⟩)], mcon := [(56, ⟨As_l1Cur_one, R_l1Cur_one, M_l1Cur_one, F_l1Cur_one⟩), (69, ⟨As_l1Cur_pick, R_l1Cur_pick, M_l1Cur_pick, F_l1Cur_pick⟩), (73, ⟨As_l1Cur_among, R_l1Cur_among, M_l1Cur_among, F_l1Cur_among⟩)], keep := [(6, ⟨[.box 8, .box 9, .box 1000000, .tmp 0, .tmp 1, .tmp 2, .tmp 3, .tmp 8, .tmp 9, .tmp 10, .tmp 11, .tmp 12], []⟩)], results := [.cell 8 26], ntmps := 64, n := n }
noncomputable def B_l1Cur_someHeap : Code := (Tryz.f68.body).getD .skip
noncomputable def L_l1Cur_someHeap_6 (n : Nat) (F_l1Cur_one : Ft_l1Cur_one) (F_spec_l2Empty : Ft_spec_l2Empty) (F_spec_l2Sides : Ft_spec_l2Sides) (F_l1Cur_pick : Ft_l1Cur_pick) (F_l1Cur_among : Ft_l1Cur_among) (F_spec_l2All : Ft_spec_l2All) (F_spec_OtherCells : Ft_spec_OtherCells) (F_spec_l2Stack : Ft_spec_l2Stack) (F_spec_l2Heights : Ft_spec_l2Heights) (m0 : Nat) (p0 : Int) (p1 : Int) (p2 : Int) (p3 : List D_A3) (p4 : Int) (p5 : Int) (p6 : Int) (p7 : List D_A3) (p8 : List Int) (p9 : Int) (p10 : Int) (p11 : Int) (p12 : Int) (p13 : Int) (p14 : Int) (p15 : List D_A3) (p16 : Int) : Option (denL R_l1Cur_someHeap × denM As_l1Cur_someHeap) := loopFM (X_l1Cur_someHeap n F_l1Cur_one F_spec_l2Empty F_spec_l2Sides F_l1Cur_pick F_l1Cur_among F_spec_l2All F_spec_OtherCells F_spec_l2Stack F_spec_l2Heights) B_l1Cur_someHeap As_l1Cur_someHeap R_l1Cur_someHeap M_l1Cur_someHeap 6 [m0] [(.ver, .num 1), (.box 8, .box 0 false [.int .i64 p0, .int .i64 p1, .int .i64 p2, .own 27 T_A3 0 p3]), (.box 9, .box 0 false [.int .i64 p4, .int .i64 p5, .int .i64 p6, .own 27 T_A3 0 p7]), (.box 1000000, .box 0 false [.imm (.int .u8) p8 (some 4), .int .i64 p9, .int .u64 p10]), (.tmp 0, .val false [.addr 1000000 0 0]), (.tmp 1, .val false [.int .i64 p11]), (.tmp 2, .val false [.int .i64 p12]), (.tmp 3, .val false [.int .i64 p13]), (.tmp 8, .val false [.addr 8 0 0]), (.tmp 9, .val false [.addr 9 0 0]), (.tmp 10, .val false [.int .i64 p14]), (.tmp 11, .val false [.own 27 T_A3 0 p15]), (.tmp 12, .val false [.int .i64 p16])]
noncomputable def P_l1Cur_someHeap : Ft_l1Cur_someHeap := hid (runFM (X_l1Cur_someHeap N P_l1Cur_one P_spec_l2Empty P_spec_l2Sides P_l1Cur_pick P_l1Cur_among P_spec_l2All P_spec_OtherCells P_spec_l2Stack P_spec_l2Heights) B_l1Cur_someHeap As_l1Cur_someHeap R_l1Cur_someHeap M_l1Cur_someHeap)
theorem h_l1Cur_someHeap : P_l1Cur_someHeap = runFM (X_l1Cur_someHeap N P_l1Cur_one P_spec_l2Empty P_spec_l2Sides P_l1Cur_pick P_l1Cur_among P_spec_l2All P_spec_OtherCells P_spec_l2Stack P_spec_l2Heights) B_l1Cur_someHeap As_l1Cur_someHeap R_l1Cur_someHeap M_l1Cur_someHeap := hid_eq _
noncomputable def C_l1Cur_someHeap : MContract := ⟨As_l1Cur_someHeap, R_l1Cur_someHeap, M_l1Cur_someHeap, P_l1Cur_someHeap⟩
theorem s_l1Cur_someHeap : SoundM Tryz.prog n0 GG 68 C_l1Cur_someHeap := by
  unfold C_l1Cur_someHeap; rw [h_l1Cur_someHeap]
  exact sound_of_runM (fn := Tryz.f68) hmix hstable (tyOK_of ttOK) (hglob (X_l1Cur_someHeap N P_l1Cur_one P_spec_l2Empty P_spec_l2Sides P_l1Cur_pick P_l1Cur_among P_spec_l2All P_spec_OtherCells P_spec_l2Stack P_spec_l2Heights)) (conOK_of (X := X_l1Cur_someHeap N P_l1Cur_one P_spec_l2Empty P_spec_l2Sides P_l1Cur_pick P_l1Cur_among P_spec_l2All P_spec_OtherCells P_spec_l2Stack P_spec_l2Heights) ⟨s_spec_l2Empty, s_spec_l2Sides, s_spec_l2All, s_spec_OtherCells, s_spec_l2Stack, s_spec_l2Heights, trivial⟩) (mconOK_of (X := X_l1Cur_someHeap N P_l1Cur_one P_spec_l2Empty P_spec_l2Sides P_l1Cur_pick P_l1Cur_among P_spec_l2All P_spec_OtherCells P_spec_l2Stack P_spec_l2Heights) ⟨s_l1Cur_one, s_l1Cur_pick, s_l1Cur_among, trivial⟩) (by kernel_rfl) (by kernel_rfl) (by kernel_rfl) (by kernel_rfl) (by kernel_rfl) (of_decide_eq_true (by kernel_rfl)) (by kernel_rfl) (by rfl)
noncomputable def l_l1Cur_someHeap_6 : Nat → Int → Int → Int → (List D_A3) → Int → Int → Int → (List D_A3) → (List Int) → Int → Int → Int → Int → Int → Int → (List D_A3) → Int → Option (denL R_l1Cur_someHeap × denM As_l1Cur_someHeap) := hid (fun m0 p0 p1 p2 p3 p4 p5 p6 p7 p8 p9 p10 p11 p12 p13 p14 p15 p16 => L_l1Cur_someHeap_6 N P_l1Cur_one P_spec_l2Empty P_spec_l2Sides P_l1Cur_pick P_l1Cur_among P_spec_l2All P_spec_OtherCells P_spec_l2Stack P_spec_l2Heights m0 p0 p1 p2 p3 p4 p5 p6 p7 p8 p9 p10 p11 p12 p13 p14 p15 p16)
theorem h_l1Cur_someHeap_6 : l_l1Cur_someHeap_6 = fun m0 p0 p1 p2 p3 p4 p5 p6 p7 p8 p9 p10 p11 p12 p13 p14 p15 p16 => L_l1Cur_someHeap_6 N P_l1Cur_one P_spec_l2Empty P_spec_l2Sides P_l1Cur_pick P_l1Cur_among P_spec_l2All P_spec_OtherCells P_spec_l2Stack P_spec_l2Heights m0 p0 p1 p2 p3 p4 p5 p6 p7 p8 p9 p10 p11 p12 p13 p14 p15 p16 := hid_eq _
theorem p_l1Cur_someHeap (a0 : D_l1Cur) (a1 : Int) (a2 : Int) (a3 : Int) : P_l1Cur_someHeap (a0, a1, a2, a3, ()) = 
  Option.bind (P_spec_l2Empty (a1, a2, a3, ())) fun r0 =>
  Option.bind (P_l1Cur_among (a0, ([2, 3, 2, 4] : List Int), ())) fun r1 =>
  Option.bind (P_spec_l2Sides (a1, a2, a3, ())) fun r2 =>
  bif !r2.1 then
    some ((r0.1, ()), ((a0.1, r1.2.1.2), ()))
  else
    Option.bind (P_spec_l2All (r0.1, ())) fun r4 =>
    l_l1Cur_someHeap_6 N 0 0 0 ([] : List D_A3) r0.1.1 r0.1.2.1 r0.1.2.2.1 r0.1.2.2.2.1 a0.1 r1.2.1.2.1 r1.2.1.2.2.1 a1 a2 a3 r1.1.1 r4.1 0 := by
  rewrite [h_l1Cur_someHeap, h_l1Cur_someHeap_6]
  kernel_rfl
theorem q_l1Cur_someHeap_6 (m0 : Nat) (p0 : Int) (p1 : Int) (p2 : Int) (p3 : List D_A3) (p4 : Int) (p5 : Int) (p6 : Int) (p7 : List D_A3) (p8 : List Int) (p9 : Int) (p10 : Int) (p11 : Int) (p12 : Int) (p13 : Int) (p14 : Int) (p15 : List D_A3) (p16 : Int) : l_l1Cur_someHeap_6 (m0 + 1) p0 p1 p2 p3 p4 p5 p6 p7 p8 p9 p10 p11 p12 p13 p14 p15 p16 = 
  bif decide (p16 < (List.length p15 : Int)) then
    Option.bind (P_l1Cur_one ((p8, (p9, (p10, ()))), p14, ())) fun r1 =>
    bif r1.1.1 then
      bif inB p16 (List.length p15) then
        bif (decide (((List.length p7) + (List.length ([(nth T_A3 p15 p16)] : List D_A3))) * 24 ≤ 140737488355328) && decide (((List.length p7) + (List.length ([(nth T_A3 p15 p16)] : List D_A3))) ≤ 140737488355328)) then
          l_l1Cur_someHeap_6 m0 p0 p1 p2 p3 p4 p5 p6 (p7 ++ ([(nth T_A3 p15 p16)] : List D_A3)) p8 r1.2.1.2.1 r1.2.1.2.2.1 p11 p12 p13 p14 p15 (IntKind.wrap .i64 (p16 + 1))
        else none
      else none
    else
      l_l1Cur_someHeap_6 m0 p0 p1 p2 p3 p4 p5 p6 p7 p8 r1.2.1.2.1 r1.2.1.2.2.1 p11 p12 p13 p14 p15 (IntKind.wrap .i64 (p16 + 1))
  else
    Option.bind (P_l1Cur_pick ((p8, (p9, (p10, ()))), 12, ())) fun r1 =>
    bif decide (r1.1.1 = 0) then
      Option.bind (P_spec_OtherCells ((p4, (p5, (p6, (p7, ())))), ())) fun r3 =>
      some ((r3.1, ()), ((p8, r1.2.1.2), ()))
    else
      bif decide (r1.1.1 = 1) then
        Option.bind (P_spec_l2Heights ((p4, (p5, (p6, (p7, ())))), ())) fun r4 =>
        Option.bind (P_spec_l2Stack (p11, p12, p13, r4.1, ())) fun r5 =>
        some ((r5.1, ()), ((p8, r1.2.1.2), ()))
      else
        some (((p4, (p5, (p6, (p7, ())))), ()), ((p8, r1.2.1.2), ())) := by
  rewrite [h_l1Cur_someHeap_6]
  kernel_rfl

/- 32: (*loop.example/g01166/spec.l1Cur).heap -/
abbrev As_l1Cur_heap : List ATy := [.lptr T_l1Cur]
abbrev R_l1Cur_heap : List (Bool × Ty) := [(true, T_Heap)]
abbrev M_l1Cur_heap : List RMode := [.own 27]
abbrev Ft_l1Cur_heap : Type := D_l1Cur × Unit → Option ((D_Heap × Unit) × (D_l1Cur × Unit))
noncomputable def X_l1Cur_heap (n : Nat) (F_l1Cur_sides : Ft_l1Cur_sides) (F_l1Cur_someHeap : Ft_l1Cur_someHeap) (F_l1Cur_pick : Ft_l1Cur_pick) : Ctx := { types := TT, globals := [], con := [], mcon := [(67, ⟨As_l1Cur_sides, R_l1Cur_sides, M_l1Cur_sides, F_l1Cur_sides⟩), (68, ⟨As_l1Cur_someHeap, R_l1Cur_someHeap, M_l1Cur_someHeap, F_l1Cur_someHeap⟩), (69, ⟨As_l1Cur_pick, R_l1Cur_pick, M_l1Cur_pick, F_l1Cur_pick⟩)], keep := [], results := [.cell 2 26], ntmps := 56, n := n }
noncomputable def B_l1Cur_heap : Code := (Tryz.f32.body).getD .skip
noncomputable def P_l1Cur_heap : Ft_l1Cur_heap := hid (runFM (X_l1Cur_heap N P_l1Cur_sides P_l1Cur_someHeap P_l1Cur_pick) B_l1Cur_heap As_l1Cur_heap R_l1Cur_heap M_l1Cur_heap)
theorem h_l1Cur_heap : P_l1Cur_heap = runFM (X_l1Cur_heap N P_l1Cur_sides P_l1Cur_someHeap P_l1Cur_pick) B_l1Cur_heap As_l1Cur_heap R_l1Cur_heap M_l1Cur_heap := hid_eq _
noncomputable def C_l1Cur_heap : MContract := ⟨As_l1Cur_heap, R_l1Cur_heap, M_l1Cur_heap, P_l1Cur_heap⟩
theorem s_l1Cur_heap : SoundM Tryz.prog n0 GG 32 C_l1Cur_heap := by
  unfold C_l1Cur_heap; rw [h_l1Cur_heap]
  exact sound_of_runM (fn := Tryz.f32) hmix hstable (tyOK_of ttOK) (hglob (X_l1Cur_heap N P_l1Cur_sides P_l1Cur_someHeap P_l1Cur_pick)) (conOK_of (X := X_l1Cur_heap N P_l1Cur_sides P_l1Cur_someHeap P_l1Cur_pick) trivial) (mconOK_of (X := X_l1Cur_heap N P_l1Cur_sides P_l1Cur_someHeap P_l1Cur_pick) ⟨s_l1Cur_sides, s_l1Cur_someHeap, s_l1Cur_pick, trivial⟩) (by kernel_rfl) (by kernel_rfl) (by kernel_rfl) (by kernel_rfl) (by kernel_rfl) (of_decide_eq_true (by kernel_rfl)) (by kernel_rfl) (by rfl)
theorem p_l1Cur_heap (a0 : D_l1Cur) : P_l1Cur_heap (a0, ()) = 
  Option.bind (P_l1Cur_sides (a0, ())) fun r0 =>
  Option.bind (P_l1Cur_someHeap ((a0.1, r0.2.1.2), r0.1.1, r0.1.2.1, r0.1.2.2.1, ())) fun r1 =>
  Option.bind (P_l1Cur_pick ((a0.1, r1.2.1.2), 60, ())) fun r2 =>
  bif decide (r2.1.1 = 0) then
    bif (decide (((List.length r1.1.1.2.2.2.1) + (List.length ([(r0.1.1, (0, (0, ())))] : List D_A3))) * 24 ≤ 140737488355328) && decide (((List.length r1.1.1.2.2.2.1) + (List.length ([(r0.1.1, (0, (0, ())))] : List D_A3))) ≤ 140737488355328)) then
      some (((r1.1.1.1, (r1.1.1.2.1, (r1.1.1.2.2.1, ((r1.1.1.2.2.2.1 ++ ([(r0.1.1, (0, (0, ())))] : List D_A3)), ())))), ()), ((a0.1, r2.2.1.2), ()))
    else none
  else
    bif decide (r2.1.1 = 1) then
      bif (decide (((List.length r1.1.1.2.2.2.1) + (List.length ([((-1), (0, (0, ())))] : List D_A3))) * 24 ≤ 140737488355328) && decide (((List.length r1.1.1.2.2.2.1) + (List.length ([((-1), (0, (0, ())))] : List D_A3))) ≤ 140737488355328)) then
        some (((r1.1.1.1, (r1.1.1.2.1, (r1.1.1.2.2.1, ((r1.1.1.2.2.2.1 ++ ([((-1), (0, (0, ())))] : List D_A3)), ())))), ()), ((a0.1, r2.2.1.2), ()))
      else none
    else
      bif decide (r2.1.1 = 2) then
        bif decide ((List.length r1.1.1.2.2.2.1 : Int) > 0) then
          bif inB 0 (List.length r1.1.1.2.2.2.1) then
            bif (decide (((List.length r1.1.1.2.2.2.1) + (List.length ([(nth T_A3 r1.1.1.2.2.2.1 0)] : List D_A3))) * 24 ≤ 140737488355328) && decide (((List.length r1.1.1.2.2.2.1) + (List.length ([(nth T_A3 r1.1.1.2.2.2.1 0)] : List D_A3))) ≤ 140737488355328)) then
              some (((r1.1.1.1, (r1.1.1.2.1, (r1.1.1.2.2.1, ((r1.1.1.2.2.2.1 ++ ([(nth T_A3 r1.1.1.2.2.2.1 0)] : List D_A3)), ())))), ()), ((a0.1, r2.2.1.2), ()))
            else none
          else none
        else
          some ((r1.1.1, ()), ((a0.1, r2.2.1.2), ()))
      else
        bif decide (r2.1.1 = 3) then
          some (((0, (0, (0, (([] : List D_A3), ())))), ()), ((a0.1, r2.2.1.2), ()))
        else
          some ((r1.1.1, ()), ((a0.1, r2.2.1.2), ())) := by
  rewrite [h_l1Cur_heap]
  kernel_rfl

/- 70: loop.example/g01166/spec.l1Most -/
abbrev As_spec_l1Most : List ATy := [.data false (.int .i64), .data false (.int .i64)]
abbrev R_spec_l1Most : List (Bool × Ty) := [(false, (.int .i64))]
abbrev M_spec_l1Most : List RMode := []
abbrev Ft_spec_l1Most : Type := Int × Int × Unit → Option (Int × Unit)
noncomputable def X_spec_l1Most (n : Nat) : Ctx := { types := TT, globals := [], con := [], keep := [], results := [.tmp 4], ntmps := 10, n := n }
noncomputable def B_spec_l1Most : Code := (Tryz.f70.body).getD .skip
noncomputable def P_spec_l1Most : Ft_spec_l1Most := hid (runF (X_spec_l1Most N) B_spec_l1Most As_spec_l1Most R_spec_l1Most M_spec_l1Most)
theorem h_spec_l1Most : P_spec_l1Most = runF (X_spec_l1Most N) B_spec_l1Most As_spec_l1Most R_spec_l1Most M_spec_l1Most := hid_eq _
noncomputable def C_spec_l1Most : Contract := ⟨As_spec_l1Most, R_spec_l1Most, M_spec_l1Most, P_spec_l1Most⟩
theorem s_spec_l1Most : Sound Tryz.prog GG 70 C_spec_l1Most := by
  unfold C_spec_l1Most; rw [h_spec_l1Most]
  exact sound_of_run (fn := Tryz.f70) hmix hstable (tyOK_of ttOK) (hglob (X_spec_l1Most N)) (conOK_of (X := X_spec_l1Most N) trivial) (mconOK_of (X := X_spec_l1Most N) trivial) (by kernel_rfl) (by kernel_rfl) (by kernel_rfl) (by kernel_rfl) (by kernel_rfl) (of_decide_eq_true (by kernel_rfl))
theorem p_spec_l1Most (a0 : Int) (a1 : Int) : P_spec_l1Most (a0, a1, ()) = 
  bif decide (a0 > a1) then
    some (a0, ())
  else
    some (a1, ()) := by
  rewrite [h_spec_l1Most]
  kernel_rfl

/- 71: loop.example/g01166/spec.l1Least -/
abbrev As_spec_l1Least : List ATy := [.data false (.int .i64), .data false (.int .i64)]
abbrev R_spec_l1Least : List (Bool × Ty) := [(false, (.int .i64))]
abbrev M_spec_l1Least : List RMode := []
abbrev Ft_spec_l1Least : Type := Int × Int × Unit → Option (Int × Unit)
noncomputable def X_spec_l1Least (n : Nat) : Ctx := { types := TT, globals := [], con := [], keep := [], results := [.tmp 4], ntmps := 10, n := n }
noncomputable def B_spec_l1Least : Code := (Tryz.f71.body).getD .skip
noncomputable def P_spec_l1Least : Ft_spec_l1Least := hid (runF (X_spec_l1Least N) B_spec_l1Least As_spec_l1Least R_spec_l1Least M_spec_l1Least)
theorem h_spec_l1Least : P_spec_l1Least = runF (X_spec_l1Least N) B_spec_l1Least As_spec_l1Least R_spec_l1Least M_spec_l1Least := hid_eq _
noncomputable def C_spec_l1Least : Contract := ⟨As_spec_l1Least, R_spec_l1Least, M_spec_l1Least, P_spec_l1Least⟩
theorem s_spec_l1Least : Sound Tryz.prog GG 71 C_spec_l1Least := by
  unfold C_spec_l1Least; rw [h_spec_l1Least]
  exact sound_of_run (fn := Tryz.f71) hmix hstable (tyOK_of ttOK) (hglob (X_spec_l1Least N)) (conOK_of (X := X_spec_l1Least N) trivial) (mconOK_of (X := X_spec_l1Least N) trivial) (by kernel_rfl) (by kernel_rfl) (by kernel_rfl) (by kernel_rfl) (by kernel_rfl) (of_decide_eq_true (by kernel_rfl))
theorem p_spec_l1Least (a0 : Int) (a1 : Int) : P_spec_l1Least (a0, a1, ()) = 
  bif decide (a0 < a1) then
    some (a0, ())
  else
    some (a1, ()) := by
  rewrite [h_spec_l1Least]
  kernel_rfl

/- 33: (*loop.example/g01166/spec.l1Cur).cell -/
abbrev As_l1Cur_cell : List ATy := [.lptr T_l1Cur, .data true T_Heap]
abbrev R_l1Cur_cell : List (Bool × Ty) := [(true, T_A3)]
abbrev M_l1Cur_cell : List RMode := []
abbrev Ft_l1Cur_cell : Type := D_l1Cur × D_Heap × Unit → Option ((D_A3 × Unit) × (D_l1Cur × Unit))
noncomputable def X_l1Cur_cell (n : Nat) (F_l1Cur_one : Ft_l1Cur_one) (F_l1Cur_pick : Ft_l1Cur_pick) (F_spec_l1Most : Ft_spec_l1Most) (F_spec_l1Least : Ft_spec_l1Least) (F_spec_l2Long : Ft_spec_l2Long) (F_l1Cur_among : Ft_l1Cur_among) : Ctx := { types := TT, globals := [], con := [(70, ⟨As_spec_l1Most, R_spec_l1Most, M_spec_l1Most, F_spec_l1Most⟩), (71, ⟨As_spec_l1Least, R_spec_l1Least, M_spec_l1Least, F_spec_l1Least⟩), (72, ⟨As_spec_l2Long, R_spec_l2Long, M_spec_l2Long, F_spec_l2Long⟩)], mcon := [(56, ⟨As_l1Cur_one, R_l1Cur_one, M_l1Cur_one, F_l1Cur_one⟩), (69, ⟨As_l1Cur_pick, R_l1Cur_pick, M_l1Cur_pick, F_l1Cur_pick⟩), (73, ⟨As_l1Cur_among, R_l1Cur_among, M_l1Cur_among, F_l1Cur_among⟩)], keep := [(3, ⟨[.box 3, .box 4, .box 5, .box 1000000, .tmp 0, .tmp 3, .tmp 4, .tmp 5, .tmp 6], []⟩)], results := [.cell 4 27], ntmps := 30, n := n }
noncomputable def B_l1Cur_cell : Code := (Tryz.f33.body).getD .skip
noncomputable def L_l1Cur_cell_3 (n : Nat) (F_l1Cur_one : Ft_l1Cur_one) (F_l1Cur_pick : Ft_l1Cur_pick) (F_spec_l1Most : Ft_spec_l1Most) (F_spec_l1Least : Ft_spec_l1Least) (F_spec_l2Long : Ft_spec_l2Long) (F_l1Cur_among : Ft_l1Cur_among) (m0 : Nat) (p0 : Int) (p1 : Int) (p2 : Int) (p3 : List D_A3) (p4 : Int) (p5 : Int) (p6 : Int) (p7 : Int) (p8 : Int) (p9 : Int) (p10 : List Int) (p11 : Int) (p12 : Int) (p13 : Int) : Option (denL R_l1Cur_cell × denM As_l1Cur_cell) := loopFM (X_l1Cur_cell n F_l1Cur_one F_l1Cur_pick F_spec_l1Most F_spec_l1Least F_spec_l2Long F_l1Cur_among) B_l1Cur_cell As_l1Cur_cell R_l1Cur_cell M_l1Cur_cell 3 [m0] [(.ver, .num 1), (.box 3, .box 0 false [.int .i64 p0, .int .i64 p1, .int .i64 p2, .imm T_A3 p3 (some 4)]), (.box 4, .box 0 false [.int .i64 p4, .int .i64 p5, .int .i64 p6]), (.box 5, .box 0 false [.int .i64 p7, .int .i64 p8, .int .i64 p9]), (.box 1000000, .box 0 false [.imm (.int .u8) p10 (some 5), .int .i64 p11, .int .u64 p12]), (.tmp 0, .val false [.addr 1000000 0 0]), (.tmp 3, .val false [.addr 3 0 0]), (.tmp 4, .val false [.addr 4 0 0]), (.tmp 5, .val false [.addr 5 0 0]), (.tmp 6, .val false [.int .i64 p13])]
noncomputable def P_l1Cur_cell : Ft_l1Cur_cell := hid (runFM (X_l1Cur_cell N P_l1Cur_one P_l1Cur_pick P_spec_l1Most P_spec_l1Least P_spec_l2Long P_l1Cur_among) B_l1Cur_cell As_l1Cur_cell R_l1Cur_cell M_l1Cur_cell)
theorem h_l1Cur_cell : P_l1Cur_cell = runFM (X_l1Cur_cell N P_l1Cur_one P_l1Cur_pick P_spec_l1Most P_spec_l1Least P_spec_l2Long P_l1Cur_among) B_l1Cur_cell As_l1Cur_cell R_l1Cur_cell M_l1Cur_cell := hid_eq _
noncomputable def C_l1Cur_cell : MContract := ⟨As_l1Cur_cell, R_l1Cur_cell, M_l1Cur_cell, P_l1Cur_cell⟩
theorem s_l1Cur_cell : SoundM Tryz.prog n0 GG 33 C_l1Cur_cell := by
  unfold C_l1Cur_cell; rw [h_l1Cur_cell]
  exact sound_of_runM (fn := Tryz.f33) hmix hstable (tyOK_of ttOK) (hglob (X_l1Cur_cell N P_l1Cur_one P_l1Cur_pick P_spec_l1Most P_spec_l1Least P_spec_l2Long P_l1Cur_among)) (conOK_of (X := X_l1Cur_cell N P_l1Cur_one P_l1Cur_pick P_spec_l1Most P_spec_l1Least P_spec_l2Long P_l1Cur_among) ⟨s_spec_l1Most, s_spec_l1Least, s_spec_l2Long, trivial⟩) (mconOK_of (X := X_l1Cur_cell N P_l1Cur_one P_l1Cur_pick P_spec_l1Most P_spec_l1Least P_spec_l2Long P_l1Cur_among) ⟨s_l1Cur_one, s_l1Cur_pick, s_l1Cur_among, trivial⟩) (by kernel_rfl) (by kernel_rfl) (by kernel_rfl) (by kernel_rfl) (by kernel_rfl) (of_decide_eq_true (by kernel_rfl)) (by kernel_rfl) (by rfl)
noncomputable def l_l1Cur_cell_3 : Nat → Int → Int → Int → (List D_A3) → Int → Int → Int → Int → Int → Int → (List Int) → Int → Int → Int → Option (denL R_l1Cur_cell × denM As_l1Cur_cell) := hid (fun m0 p0 p1 p2 p3 p4 p5 p6 p7 p8 p9 p10 p11 p12 p13 => L_l1Cur_cell_3 N P_l1Cur_one P_l1Cur_pick P_spec_l1Most P_spec_l1Least P_spec_l2Long P_l1Cur_among m0 p0 p1 p2 p3 p4 p5 p6 p7 p8 p9 p10 p11 p12 p13)
theorem h_l1Cur_cell_3 : l_l1Cur_cell_3 = fun m0 p0 p1 p2 p3 p4 p5 p6 p7 p8 p9 p10 p11 p12 p13 => L_l1Cur_cell_3 N P_l1Cur_one P_l1Cur_pick P_spec_l1Most P_spec_l1Least P_spec_l2Long P_l1Cur_among m0 p0 p1 p2 p3 p4 p5 p6 p7 p8 p9 p10 p11 p12 p13 := hid_eq _
theorem p_l1Cur_cell (a0 : D_l1Cur) (a1 : D_Heap) : P_l1Cur_cell (a0, a1, ()) = 
  l_l1Cur_cell_3 N a1.1 a1.2.1 a1.2.2.1 a1.2.2.2.1 0 0 0 0 0 0 a0.1 a0.2.1 a0.2.2.1 0 := by
  rewrite [h_l1Cur_cell, h_l1Cur_cell_3]
  kernel_rfl
theorem q_l1Cur_cell_3 (m0 : Nat) (p0 : Int) (p1 : Int) (p2 : Int) (p3 : List D_A3) (p4 : Int) (p5 : Int) (p6 : Int) (p7 : Int) (p8 : Int) (p9 : Int) (p10 : List Int) (p11 : Int) (p12 : Int) (p13 : Int) : l_l1Cur_cell_3 (m0 + 1) p0 p1 p2 p3 p4 p5 p6 p7 p8 p9 p10 p11 p12 p13 = 
  bif decide (p13 < 3) then
    Option.bind (P_spec_l2Long ((p0, (p1, (p2, (p3, ())))), p13, ())) fun r1 =>
    Option.bind (P_spec_l1Least (r1.1, 4, ())) fun r2 =>
    Option.bind (P_spec_l1Most (r2.1, 1, ())) fun r3 =>
    Option.bind (P_l1Cur_pick ((p10, (p11, (p12, ()))), r3.1, ())) fun r4 =>
    bif inB p13 3 then
      l_l1Cur_cell_3 m0 p0 p1 p2 p3 p4 p5 p6 (bif decide (p13 = (0 : Int)) then r4.1.1 else p7) (bif decide (p13 = (1 : Int)) then r4.1.1 else p8) (bif decide (p13 = (2 : Int)) then r4.1.1 else p9) p10 r4.2.1.2.1 r4.2.1.2.2.1 (IntKind.wrap .i64 (p13 + 1))
    else none
  else
    Option.bind (P_l1Cur_one ((p10, (p11, (p12, ()))), 30, ())) fun r1 =>
    bif r1.1.1 then
      Option.bind (P_l1Cur_pick ((p10, r1.2.1.2), 3, ())) fun r3 =>
      Option.bind (P_l1Cur_among ((p10, r3.2.1.2), ([(-1), 4, 4611686018427387904] : List Int), ())) fun r4 =>
      bif inB r3.1.1 3 then
        some ((((bif decide (r3.1.1 = (0 : Int)) then r4.1.1 else p7), ((bif decide (r3.1.1 = (1 : Int)) then r4.1.1 else p8), ((bif decide (r3.1.1 = (2 : Int)) then r4.1.1 else p9), ()))), ()), ((p10, r4.2.1.2), ()))
      else none
    else
      some (((p7, (p8, (p9, ()))), ()), ((p10, r1.2.1.2), ())) := by
  rewrite [h_l1Cur_cell_3]
  kernel_rfl

/- 5: loop.example/g01166/spec.DrawHasCube -/
abbrev As_spec_DrawHasCube : List ATy := [.data false (.sl (.int .u8))]
abbrev R_spec_DrawHasCube : List (Bool × Ty) := [(true, T_Heap), (true, T_A3)]
abbrev M_spec_DrawHasCube : List RMode := [.own 27]
abbrev Ft_spec_DrawHasCube : Type := (List Int) × Unit → Option (D_Heap × D_A3 × Unit)
noncomputable def X_spec_DrawHasCube (n : Nat) (F_l1Cur_heap : Ft_l1Cur_heap) (F_l1Cur_cell : Ft_l1Cur_cell) : Ctx := { types := TT, globals := [], con := [], mcon := [(32, ⟨As_l1Cur_heap, R_l1Cur_heap, M_l1Cur_heap, F_l1Cur_heap⟩), (33, ⟨As_l1Cur_cell, R_l1Cur_cell, M_l1Cur_cell, F_l1Cur_cell⟩)], keep := [], results := [.cell 2 26, .cell 3 27], ntmps := 15, n := n }
noncomputable def B_spec_DrawHasCube : Code := (Tryz.f5.body).getD .skip
noncomputable def P_spec_DrawHasCube : Ft_spec_DrawHasCube := hid (runF (X_spec_DrawHasCube N P_l1Cur_heap P_l1Cur_cell) B_spec_DrawHasCube As_spec_DrawHasCube R_spec_DrawHasCube M_spec_DrawHasCube)
theorem h_spec_DrawHasCube : P_spec_DrawHasCube = runF (X_spec_DrawHasCube N P_l1Cur_heap P_l1Cur_cell) B_spec_DrawHasCube As_spec_DrawHasCube R_spec_DrawHasCube M_spec_DrawHasCube := hid_eq _
noncomputable def C_spec_DrawHasCube : Contract := ⟨As_spec_DrawHasCube, R_spec_DrawHasCube, M_spec_DrawHasCube, P_spec_DrawHasCube⟩
theorem s_spec_DrawHasCube : Sound Tryz.prog GG 5 C_spec_DrawHasCube := by
  unfold C_spec_DrawHasCube; rw [h_spec_DrawHasCube]
  exact sound_of_run (fn := Tryz.f5) hmix hstable (tyOK_of ttOK) (hglob (X_spec_DrawHasCube N P_l1Cur_heap P_l1Cur_cell)) (conOK_of (X := X_spec_DrawHasCube N P_l1Cur_heap P_l1Cur_cell) trivial) (mconOK_of (X := X_spec_DrawHasCube N P_l1Cur_heap P_l1Cur_cell) ⟨s_l1Cur_heap, s_l1Cur_cell, trivial⟩) (by kernel_rfl) (by kernel_rfl) (by kernel_rfl) (by kernel_rfl) (by kernel_rfl) (of_decide_eq_true (by kernel_rfl))
theorem p_spec_DrawHasCube (a0 : List Int) : P_spec_DrawHasCube (a0, ()) = 
  Option.bind (P_l1Cur_heap ((a0, (0, (0, ()))), ())) fun r0 =>
  Option.bind (P_l1Cur_cell ((a0, r0.2.1.2), r0.1.1, ())) fun r1 =>
  some (r0.1.1, r1.1.1, ()) := by
  rewrite [h_spec_DrawHasCube]
  kernel_rfl

/- 38: (loop.example/g01166/impl.Heap).box -/
abbrev As_Heap_box : List ATy := [.data true T_Heap]
abbrev R_Heap_box : List (Bool × Ty) := [(true, T_A3)]
abbrev M_Heap_box : List RMode := []
abbrev Ft_Heap_box : Type := D_Heap × Unit → Option (D_A3 × Unit)
noncomputable def X_Heap_box (n : Nat) : Ctx := { types := TT, globals := [], con := [], keep := [], results := [.cell 2 60], ntmps := 10, n := n }
noncomputable def B_Heap_box : Code := (Tryz.f38.body).getD .skip
noncomputable def P_Heap_box : Ft_Heap_box := hid (runF (X_Heap_box N) B_Heap_box As_Heap_box R_Heap_box M_Heap_box)
theorem h_Heap_box : P_Heap_box = runF (X_Heap_box N) B_Heap_box As_Heap_box R_Heap_box M_Heap_box := hid_eq _
noncomputable def C_Heap_box : Contract := ⟨As_Heap_box, R_Heap_box, M_Heap_box, P_Heap_box⟩
theorem s_Heap_box : Sound Tryz.prog GG 38 C_Heap_box := by
  unfold C_Heap_box; rw [h_Heap_box]
  exact sound_of_run (fn := Tryz.f38) hmix hstable (tyOK_of ttOK) (hglob (X_Heap_box N)) (conOK_of (X := X_Heap_box N) trivial) (mconOK_of (X := X_Heap_box N) trivial) (by kernel_rfl) (by kernel_rfl) (by kernel_rfl) (by kernel_rfl) (by kernel_rfl) (of_decide_eq_true (by kernel_rfl))
theorem p_Heap_box (a0 : D_Heap) : P_Heap_box (a0, ()) = 
  some ((a0.1, (a0.2.1, (a0.2.2.1, ()))), ()) := by
  rewrite [h_Heap_box]
  kernel_rfl

/- 83: loop.example/g01166/impl.within -/
abbrev As_impl_within : List ATy := [.data false (.int .i64), .data false (.int .i64), .data false (.int .i64)]
abbrev R_impl_within : List (Bool × Ty) := [(false, .bool)]
abbrev M_impl_within : List RMode := []
abbrev Ft_impl_within : Type := Int × Int × Int × Unit → Option (Bool × Unit)
noncomputable def X_impl_within (n : Nat) : Ctx := { types := TT, globals := [], con := [], keep := [], results := [.tmp 6], ntmps := 15, n := n }
noncomputable def B_impl_within : Code := (Tryz.f83.body).getD .skip
noncomputable def P_impl_within : Ft_impl_within := hid (runF (X_impl_within N) B_impl_within As_impl_within R_impl_within M_impl_within)
theorem h_impl_within : P_impl_within = runF (X_impl_within N) B_impl_within As_impl_within R_impl_within M_impl_within := hid_eq _
noncomputable def C_impl_within : Contract := ⟨As_impl_within, R_impl_within, M_impl_within, P_impl_within⟩
theorem s_impl_within : Sound Tryz.prog GG 83 C_impl_within := by
  unfold C_impl_within; rw [h_impl_within]
  exact sound_of_run (fn := Tryz.f83) hmix hstable (tyOK_of ttOK) (hglob (X_impl_within N)) (conOK_of (X := X_impl_within N) trivial) (mconOK_of (X := X_impl_within N) trivial) (by kernel_rfl) (by kernel_rfl) (by kernel_rfl) (by kernel_rfl) (by kernel_rfl) (of_decide_eq_true (by kernel_rfl))
theorem p_impl_within (a0 : Int) (a1 : Int) (a2 : Int) : P_impl_within (a0, a1, a2, ()) = 
  bif decide (a0 ≥ a1) then
    some (decide (a0 ≤ a2), ())
  else
    some (false, ()) := by
  rewrite [h_impl_within]
  kernel_rfl

/- 51: (loop.example/g01166/impl.box).valid -/
abbrev As_box_valid : List ATy := [.data true T_A3]
abbrev R_box_valid : List (Bool × Ty) := [(false, .bool)]
abbrev M_box_valid : List RMode := []
abbrev Ft_box_valid : Type := D_A3 × Unit → Option (Bool × Unit)
noncomputable def X_box_valid (n : Nat) (F_impl_within : Ft_impl_within) : Ctx := { types := TT, globals := [], con := [(83, ⟨As_impl_within, R_impl_within, M_impl_within, F_impl_within⟩)], keep := [], results := [.tmp 2], ntmps := 16, n := n }
noncomputable def B_box_valid : Code := (Tryz.f51.body).getD .skip
noncomputable def P_box_valid : Ft_box_valid := hid (runF (X_box_valid N P_impl_within) B_box_valid As_box_valid R_box_valid M_box_valid)
theorem h_box_valid : P_box_valid = runF (X_box_valid N P_impl_within) B_box_valid As_box_valid R_box_valid M_box_valid := hid_eq _
noncomputable def C_box_valid : Contract := ⟨As_box_valid, R_box_valid, M_box_valid, P_box_valid⟩
theorem s_box_valid : Sound Tryz.prog GG 51 C_box_valid := by
  unfold C_box_valid; rw [h_box_valid]
  exact sound_of_run (fn := Tryz.f51) hmix hstable (tyOK_of ttOK) (hglob (X_box_valid N P_impl_within)) (conOK_of (X := X_box_valid N P_impl_within) ⟨s_impl_within, trivial⟩) (mconOK_of (X := X_box_valid N P_impl_within) trivial) (by kernel_rfl) (by kernel_rfl) (by kernel_rfl) (by kernel_rfl) (by kernel_rfl) (of_decide_eq_true (by kernel_rfl))
theorem p_box_valid (a0 : D_A3) : P_box_valid (a0, ()) = 
  Option.bind (P_impl_within (a0.1, 1, 4, ())) fun r0 =>
  bif r0.1 then
    Option.bind (P_impl_within (a0.2.1, 1, 4, ())) fun r2 =>
    bif r2.1 then
      Option.bind (P_impl_within (a0.2.2.1, 1, 4, ())) fun r4 =>
      some (r4.1, ())
    else
      some (false, ())
  else
    some (false, ()) := by
  rewrite [h_box_valid]
  kernel_rfl

/- 52: (loop.example/g01166/impl.box).has -/
abbrev As_box_has : List ATy := [.data true T_A3, .data true T_A3]
abbrev R_box_has : List (Bool × Ty) := [(false, .bool)]
abbrev M_box_has : List RMode := []
abbrev Ft_box_has : Type := D_A3 × D_A3 × Unit → Option (Bool × Unit)
noncomputable def X_box_has (n : Nat) (F_impl_within : Ft_impl_within) : Ctx := { types := TT, globals := [], con := [(83, ⟨As_impl_within, R_impl_within, M_impl_within, F_impl_within⟩)], keep := [], results := [.tmp 4], ntmps := 27, n := n }
noncomputable def B_box_has : Code := (Tryz.f52.body).getD .skip
noncomputable def P_box_has : Ft_box_has := hid (runF (X_box_has N P_impl_within) B_box_has As_box_has R_box_has M_box_has)
theorem h_box_has : P_box_has = runF (X_box_has N P_impl_within) B_box_has As_box_has R_box_has M_box_has := hid_eq _
noncomputable def C_box_has : Contract := ⟨As_box_has, R_box_has, M_box_has, P_box_has⟩
theorem s_box_has : Sound Tryz.prog GG 52 C_box_has := by
  unfold C_box_has; rw [h_box_has]
  exact sound_of_run (fn := Tryz.f52) hmix hstable (tyOK_of ttOK) (hglob (X_box_has N P_impl_within)) (conOK_of (X := X_box_has N P_impl_within) ⟨s_impl_within, trivial⟩) (mconOK_of (X := X_box_has N P_impl_within) trivial) (by kernel_rfl) (by kernel_rfl) (by kernel_rfl) (by kernel_rfl) (by kernel_rfl) (of_decide_eq_true (by kernel_rfl))
theorem p_box_has (a0 : D_A3) (a1 : D_A3) : P_box_has (a0, a1, ()) = 
  Option.bind (P_impl_within (a1.1, 0, (IntKind.wrap .i64 (a0.1 - 1)), ())) fun r0 =>
  bif r0.1 then
    Option.bind (P_impl_within (a1.2.1, 0, (IntKind.wrap .i64 (a0.2.1 - 1)), ())) fun r2 =>
    bif r2.1 then
      Option.bind (P_impl_within (a1.2.2.1, 0, (IntKind.wrap .i64 (a0.2.2.1 - 1)), ())) fun r4 =>
      some (r4.1, ())
    else
      some (false, ())
  else
    some (false, ()) := by
  rewrite [h_box_has]
  kernel_rfl

/- 101: cmp.isNaN[int] -/
abbrev As_cmp_isNaN_int : List ATy := [.data false (.int .i64)]
abbrev R_cmp_isNaN_int : List (Bool × Ty) := [(false, .bool)]
abbrev M_cmp_isNaN_int : List RMode := []
abbrev Ft_cmp_isNaN_int : Type := Int × Unit → Option (Bool × Unit)
noncomputable def X_cmp_isNaN_int (n : Nat) : Ctx := { types := TT, globals := [], con := [], keep := [], results := [.tmp 2], ntmps := 6, n := n }
noncomputable def B_cmp_isNaN_int : Code := (Tryz.f101.body).getD .skip
noncomputable def P_cmp_isNaN_int : Ft_cmp_isNaN_int := hid (runF (X_cmp_isNaN_int N) B_cmp_isNaN_int As_cmp_isNaN_int R_cmp_isNaN_int M_cmp_isNaN_int)
theorem h_cmp_isNaN_int : P_cmp_isNaN_int = runF (X_cmp_isNaN_int N) B_cmp_isNaN_int As_cmp_isNaN_int R_cmp_isNaN_int M_cmp_isNaN_int := hid_eq _
noncomputable def C_cmp_isNaN_int : Contract := ⟨As_cmp_isNaN_int, R_cmp_isNaN_int, M_cmp_isNaN_int, P_cmp_isNaN_int⟩
theorem s_cmp_isNaN_int : Sound Tryz.prog GG 101 C_cmp_isNaN_int := by
  unfold C_cmp_isNaN_int; rw [h_cmp_isNaN_int]
  exact sound_of_run (fn := Tryz.f101) hmix hstable (tyOK_of ttOK) (hglob (X_cmp_isNaN_int N)) (conOK_of (X := X_cmp_isNaN_int N) trivial) (mconOK_of (X := X_cmp_isNaN_int N) trivial) (by kernel_rfl) (by kernel_rfl) (by kernel_rfl) (by kernel_rfl) (by kernel_rfl) (of_decide_eq_true (by kernel_rfl))
theorem p_cmp_isNaN_int (a0 : Int) : P_cmp_isNaN_int (a0, ()) = 
  some (!decide (a0 = a0), ()) := by
  rewrite [h_cmp_isNaN_int]
  kernel_rfl

/- 95: cmp.Compare[int] -/
abbrev As_cmp_Compare_int : List ATy := [.data false (.int .i64), .data false (.int .i64)]
abbrev R_cmp_Compare_int : List (Bool × Ty) := [(false, (.int .i64))]
abbrev M_cmp_Compare_int : List RMode := []
abbrev Ft_cmp_Compare_int : Type := Int × Int × Unit → Option (Int × Unit)
noncomputable def X_cmp_Compare_int (n : Nat) (F_cmp_isNaN_int : Ft_cmp_isNaN_int) : Ctx := { types := TT, globals := [], con := [(101, ⟨As_cmp_isNaN_int, R_cmp_isNaN_int, M_cmp_isNaN_int, F_cmp_isNaN_int⟩)], keep := [], results := [.tmp 4], ntmps := 20, n := n }
noncomputable def B_cmp_Compare_int : Code := (Tryz.f95.body).getD .skip
noncomputable def P_cmp_Compare_int : Ft_cmp_Compare_int := hid (runF (X_cmp_Compare_int N P_cmp_isNaN_int) B_cmp_Compare_int As_cmp_Compare_int R_cmp_Compare_int M_cmp_Compare_int)
theorem h_cmp_Compare_int : P_cmp_Compare_int = runF (X_cmp_Compare_int N P_cmp_isNaN_int) B_cmp_Compare_int As_cmp_Compare_int R_cmp_Compare_int M_cmp_Compare_int := hid_eq _
noncomputable def C_cmp_Compare_int : Contract := ⟨As_cmp_Compare_int, R_cmp_Compare_int, M_cmp_Compare_int, P_cmp_Compare_int⟩
theorem s_cmp_Compare_int : Sound Tryz.prog GG 95 C_cmp_Compare_int := by
  unfold C_cmp_Compare_int; rw [h_cmp_Compare_int]
  exact sound_of_run (fn := Tryz.f95) hmix hstable (tyOK_of ttOK) (hglob (X_cmp_Compare_int N P_cmp_isNaN_int)) (conOK_of (X := X_cmp_Compare_int N P_cmp_isNaN_int) ⟨s_cmp_isNaN_int, trivial⟩) (mconOK_of (X := X_cmp_Compare_int N P_cmp_isNaN_int) trivial) (by kernel_rfl) (by kernel_rfl) (by kernel_rfl) (by kernel_rfl) (by kernel_rfl) (of_decide_eq_true (by kernel_rfl))
theorem p_cmp_Compare_int (a0 : Int) (a1 : Int) : P_cmp_Compare_int (a0, a1, ()) = 
  Option.bind (P_cmp_isNaN_int (a0, ())) fun r0 =>
  Option.bind (P_cmp_isNaN_int (a1, ())) fun r1 =>
  bif r0.1 then
    bif r1.1 then
      some (0, ())
    else
      some ((-1), ())
  else
    bif r1.1 then
      some (1, ())
    else
      bif decide (a0 < a1) then
        some ((-1), ())
      else
        bif decide (a0 > a1) then
          some (1, ())
        else
          some (0, ()) := by
  rewrite [h_cmp_Compare_int]
  kernel_rfl

/- 84: slices.Compare[[]int,int] -/
abbrev As_slices_Compare_int_int : List ATy := [.data false (.sl (.int .i64)), .data false (.sl (.int .i64))]
abbrev R_slices_Compare_int_int : List (Bool × Ty) := [(false, (.int .i64))]
abbrev M_slices_Compare_int_int : List RMode := []
abbrev Ft_slices_Compare_int_int : Type := (List Int) × (List Int) × Unit → Option (Int × Unit)
noncomputable def X_slices_Compare_int_int (n : Nat) (F_cmp_Compare_int : Ft_cmp_Compare_int) : Ctx := { types := TT, globals := [], con := [(95, ⟨As_cmp_Compare_int, R_cmp_Compare_int, M_cmp_Compare_int, F_cmp_Compare_int⟩)], keep := [(2, ⟨[.tmp 0, .tmp 1, .tmp 9, .tmp 10, .tmp 11], []⟩)], results := [.tmp 4], ntmps := 36, n := n }
noncomputable def B_slices_Compare_int_int : Code := (Tryz.f84.body).getD .skip
noncomputable def L_slices_Compare_int_int_2 (n : Nat) (F_cmp_Compare_int : Ft_cmp_Compare_int) (m0 : Nat) (p0 : List Int) (p1 : List Int) (p2 : List Int) (p3 : Int) (p4 : Int) : Option (denL R_slices_Compare_int_int) := loopF (X_slices_Compare_int_int n F_cmp_Compare_int) B_slices_Compare_int_int R_slices_Compare_int_int M_slices_Compare_int_int 2 [m0] [(.ver, .num 1), (.tmp 0, .val false [.imm (.int .i64) p0 (some 0)]), (.tmp 1, .val false [.imm (.int .i64) p1 (some 1)]), (.tmp 9, .val false [.imm (.int .i64) p2 (some 0)]), (.tmp 10, .val false [.int .i64 p3]), (.tmp 11, .val false [.int .i64 p4])]
noncomputable def P_slices_Compare_int_int : Ft_slices_Compare_int_int := hid (runF (X_slices_Compare_int_int N P_cmp_Compare_int) B_slices_Compare_int_int As_slices_Compare_int_int R_slices_Compare_int_int M_slices_Compare_int_int)
theorem h_slices_Compare_int_int : P_slices_Compare_int_int = runF (X_slices_Compare_int_int N P_cmp_Compare_int) B_slices_Compare_int_int As_slices_Compare_int_int R_slices_Compare_int_int M_slices_Compare_int_int := hid_eq _
noncomputable def C_slices_Compare_int_int : Contract := ⟨As_slices_Compare_int_int, R_slices_Compare_int_int, M_slices_Compare_int_int, P_slices_Compare_int_int⟩
theorem s_slices_Compare_int_int : Sound Tryz.prog GG 84 C_slices_Compare_int_int := by
  unfold C_slices_Compare_int_int; rw [h_slices_Compare_int_int]
  exact sound_of_run (fn := Tryz.f84) hmix hstable (tyOK_of ttOK) (hglob (X_slices_Compare_int_int N P_cmp_Compare_int)) (conOK_of (X := X_slices_Compare_int_int N P_cmp_Compare_int) ⟨s_cmp_Compare_int, trivial⟩) (mconOK_of (X := X_slices_Compare_int_int N P_cmp_Compare_int) trivial) (by kernel_rfl) (by kernel_rfl) (by kernel_rfl) (by kernel_rfl) (by kernel_rfl) (of_decide_eq_true (by kernel_rfl))
noncomputable def l_slices_Compare_int_int_2 : Nat → (List Int) → (List Int) → (List Int) → Int → Int → Option (denL R_slices_Compare_int_int) := hid (fun m0 p0 p1 p2 p3 p4 => L_slices_Compare_int_int_2 N P_cmp_Compare_int m0 p0 p1 p2 p3 p4)
theorem h_slices_Compare_int_int_2 : l_slices_Compare_int_int_2 = fun m0 p0 p1 p2 p3 p4 => L_slices_Compare_int_int_2 N P_cmp_Compare_int m0 p0 p1 p2 p3 p4 := hid_eq _
theorem p_slices_Compare_int_int (a0 : List Int) (a1 : List Int) : P_slices_Compare_int_int (a0, a1, ()) = 
  l_slices_Compare_int_int_2 N a0 a1 a0 (List.length a0 : Int) 0 := by
  rewrite [h_slices_Compare_int_int, h_slices_Compare_int_int_2]
  kernel_rfl
theorem q_slices_Compare_int_int_2 (m0 : Nat) (p0 : List Int) (p1 : List Int) (p2 : List Int) (p3 : Int) (p4 : Int) : l_slices_Compare_int_int_2 (m0 + 1) p0 p1 p2 p3 p4 = 
  bif decide (p4 < p3) then
    bif inB p4 (List.length p2) then
      bif decide (p4 ≥ (List.length p1 : Int)) then
        some (1, ())
      else
        bif inB p4 (List.length p1) then
          Option.bind (P_cmp_Compare_int ((nth ((.int .i64) : Ty) p2 p4), (nth ((.int .i64) : Ty) p1 p4), ())) fun r4 =>
          bif !decide (r4.1 = 0) then
            some (r4.1, ())
          else
            l_slices_Compare_int_int_2 m0 p0 p1 p2 p3 (IntKind.wrap .i64 (p4 + 1))
        else none
    else none
  else
    bif decide ((List.length p0 : Int) < (List.length p1 : Int)) then
      some ((-1), ())
    else
      some (0, ()) := by
  rewrite [h_slices_Compare_int_int_2]
  kernel_rfl

/- 53: loop.example/g01166/impl.compareCells -/
abbrev As_impl_compareCells : List ATy := [.data true T_A3, .data true T_A3]
abbrev R_impl_compareCells : List (Bool × Ty) := [(false, (.int .i64))]
abbrev M_impl_compareCells : List RMode := []
abbrev Ft_impl_compareCells : Type := D_A3 × D_A3 × Unit → Option (Int × Unit)
noncomputable def X_impl_compareCells (n : Nat) (F_slices_Compare_int_int : Ft_slices_Compare_int_int) : Ctx := { types := TT, globals := [], con := [(84, ⟨As_slices_Compare_int_int, R_slices_Compare_int_int, M_slices_Compare_int_int, F_slices_Compare_int_int⟩)], keep := [], results := [.tmp 4], ntmps := 8, n := n }
noncomputable def B_impl_compareCells : Code := (Tryz.f53.body).getD .skip
noncomputable def P_impl_compareCells : Ft_impl_compareCells := hid (runF (X_impl_compareCells N P_slices_Compare_int_int) B_impl_compareCells As_impl_compareCells R_impl_compareCells M_impl_compareCells)
theorem h_impl_compareCells : P_impl_compareCells = runF (X_impl_compareCells N P_slices_Compare_int_int) B_impl_compareCells As_impl_compareCells R_impl_compareCells M_impl_compareCells := hid_eq _
noncomputable def C_impl_compareCells : Contract := ⟨As_impl_compareCells, R_impl_compareCells, M_impl_compareCells, P_impl_compareCells⟩
theorem s_impl_compareCells : Sound Tryz.prog GG 53 C_impl_compareCells := by
  unfold C_impl_compareCells; rw [h_impl_compareCells]
  exact sound_of_run (fn := Tryz.f53) hmix hstable (tyOK_of ttOK) (hglob (X_impl_compareCells N P_slices_Compare_int_int)) (conOK_of (X := X_impl_compareCells N P_slices_Compare_int_int) ⟨s_slices_Compare_int_int, trivial⟩) (mconOK_of (X := X_impl_compareCells N P_slices_Compare_int_int) trivial) (by kernel_rfl) (by kernel_rfl) (by kernel_rfl) (by kernel_rfl) (by kernel_rfl) (of_decide_eq_true (by kernel_rfl))
theorem p_impl_compareCells (a0 : D_A3) (a1 : D_A3) : P_impl_compareCells (a0, a1, ()) = 
  Option.bind (P_slices_Compare_int_int (([a0.1, a0.2.1, a0.2.2.1] : List Int), ([a1.1, a1.2.1, a1.2.2.1] : List Int), ())) fun r0 =>
  some (r0.1, ()) := by
  rewrite [h_impl_compareCells]
  kernel_rfl

/- 19: loop.example/g01166/impl.IsHeap -/
abbrev As_impl_IsHeap : List ATy := [.data true T_Heap]
abbrev R_impl_IsHeap : List (Bool × Ty) := [(false, .bool)]
abbrev M_impl_IsHeap : List RMode := []
abbrev Ft_impl_IsHeap : Type := D_Heap × Unit → Option (Bool × Unit)
noncomputable def X_impl_IsHeap (n : Nat) (F_Heap_box : Ft_Heap_box) (F_box_valid : Ft_box_valid) (F_box_has : Ft_box_has) (F_impl_compareCells : Ft_impl_compareCells) : Ctx := { types := TT, globals := [], con := [(38, ⟨As_Heap_box, R_Heap_box, M_Heap_box, F_Heap_box⟩), (51, ⟨As_box_valid, R_box_valid, M_box_valid, F_box_valid⟩), (52, ⟨As_box_has, R_box_has, M_box_has, F_box_has⟩), (53, ⟨As_impl_compareCells, R_impl_compareCells, M_impl_compareCells, F_impl_compareCells⟩)], keep := [(4, ⟨[.box 1, .tmp 1, .tmp 10, .tmp 11, .tmp 12], []⟩)], results := [.tmp 2], ntmps := 38, n := n }
noncomputable def B_impl_IsHeap : Code := (Tryz.f19.body).getD .skip
noncomputable def L_impl_IsHeap_4 (n : Nat) (F_Heap_box : Ft_Heap_box) (F_box_valid : Ft_box_valid) (F_box_has : Ft_box_has) (F_impl_compareCells : Ft_impl_compareCells) (m0 : Nat) (p0 : Int) (p1 : Int) (p2 : Int) (p3 : List D_A3) (p4 : List D_A3) (p5 : Int) (p6 : Int) : Option (denL R_impl_IsHeap) := loopF (X_impl_IsHeap n F_Heap_box F_box_valid F_box_has F_impl_compareCells) B_impl_IsHeap R_impl_IsHeap M_impl_IsHeap 4 [m0] [(.ver, .num 1), (.box 1, .box 0 false [.int .i64 p0, .int .i64 p1, .int .i64 p2, .imm T_A3 p3 (some 3)]), (.tmp 1, .val false [.addr 1 0 0]), (.tmp 10, .val false [.imm T_A3 p4 (some 3)]), (.tmp 11, .val false [.int .i64 p5]), (.tmp 12, .val false [.int .i64 p6])]
noncomputable def P_impl_IsHeap : Ft_impl_IsHeap := hid (runF (X_impl_IsHeap N P_Heap_box P_box_valid P_box_has P_impl_compareCells) B_impl_IsHeap As_impl_IsHeap R_impl_IsHeap M_impl_IsHeap)
theorem h_impl_IsHeap : P_impl_IsHeap = runF (X_impl_IsHeap N P_Heap_box P_box_valid P_box_has P_impl_compareCells) B_impl_IsHeap As_impl_IsHeap R_impl_IsHeap M_impl_IsHeap := hid_eq _
noncomputable def C_impl_IsHeap : Contract := ⟨As_impl_IsHeap, R_impl_IsHeap, M_impl_IsHeap, P_impl_IsHeap⟩
theorem s_impl_IsHeap : Sound Tryz.prog GG 19 C_impl_IsHeap := by
  unfold C_impl_IsHeap; rw [h_impl_IsHeap]
  exact sound_of_run (fn := Tryz.f19) hmix hstable (tyOK_of ttOK) (hglob (X_impl_IsHeap N P_Heap_box P_box_valid P_box_has P_impl_compareCells)) (conOK_of (X := X_impl_IsHeap N P_Heap_box P_box_valid P_box_has P_impl_compareCells) ⟨s_Heap_box, s_box_valid, s_box_has, s_impl_compareCells, trivial⟩) (mconOK_of (X := X_impl_IsHeap N P_Heap_box P_box_valid P_box_has P_impl_compareCells) trivial) (by kernel_rfl) (by kernel_rfl) (by kernel_rfl) (by kernel_rfl) (by kernel_rfl) (of_decide_eq_true (by kernel_rfl))
noncomputable def l_impl_IsHeap_4 : Nat → Int → Int → Int → (List D_A3) → (List D_A3) → Int → Int → Option (denL R_impl_IsHeap) := hid (fun m0 p0 p1 p2 p3 p4 p5 p6 => L_impl_IsHeap_4 N P_Heap_box P_box_valid P_box_has P_impl_compareCells m0 p0 p1 p2 p3 p4 p5 p6)
theorem h_impl_IsHeap_4 : l_impl_IsHeap_4 = fun m0 p0 p1 p2 p3 p4 p5 p6 => L_impl_IsHeap_4 N P_Heap_box P_box_valid P_box_has P_impl_compareCells m0 p0 p1 p2 p3 p4 p5 p6 := hid_eq _
theorem p_impl_IsHeap (a0 : D_Heap) : P_impl_IsHeap (a0, ()) = 
  Option.bind (P_Heap_box (a0, ())) fun r0 =>
  Option.bind (P_box_valid (r0.1, ())) fun r1 =>
  bif !r1.1 then
    some (false, ())
  else
    l_impl_IsHeap_4 N a0.1 a0.2.1 a0.2.2.1 a0.2.2.2.1 a0.2.2.2.1 (List.length a0.2.2.2.1 : Int) 0 := by
  rewrite [h_impl_IsHeap, h_impl_IsHeap_4]
  kernel_rfl
theorem q_impl_IsHeap_4 (m0 : Nat) (p0 : Int) (p1 : Int) (p2 : Int) (p3 : List D_A3) (p4 : List D_A3) (p5 : Int) (p6 : Int) : l_impl_IsHeap_4 (m0 + 1) p0 p1 p2 p3 p4 p5 p6 = 
  bif decide (p6 < p5) then
    bif inB p6 (List.length p4) then
      Option.bind (P_Heap_box ((p0, (p1, (p2, (p3, ())))), ())) fun r2 =>
      Option.bind (P_box_has (r2.1, (nth T_A3 p4 p6), ())) fun r3 =>
      bif !r3.1 then
        some (false, ())
      else
        bif decide (p6 > 0) then
          bif inB (IntKind.wrap .i64 (p6 - 1)) (List.length p3) then
            Option.bind (P_impl_compareCells ((nth T_A3 p3 (IntKind.wrap .i64 (p6 - 1))), (nth T_A3 p4 p6), ())) fun r7 =>
            bif decide (r7.1 ≥ 0) then
              some (false, ())
            else
              l_impl_IsHeap_4 m0 p0 p1 p2 p3 p4 p5 (IntKind.wrap .i64 (p6 + 1))
          else none
        else
          l_impl_IsHeap_4 m0 p0 p1 p2 p3 p4 p5 (IntKind.wrap .i64 (p6 + 1))
    else none
  else
    some (true, ()) := by
  rewrite [h_impl_IsHeap_4]
  kernel_rfl

/- 34: loop.example/g01166/impl.isCell -/
abbrev As_impl_isCell : List ATy := [.data true T_Heap, .data true T_A3]
abbrev R_impl_isCell : List (Bool × Ty) := [(false, .bool)]
abbrev M_impl_isCell : List RMode := []
abbrev Ft_impl_isCell : Type := D_Heap × D_A3 × Unit → Option (Bool × Unit)
noncomputable def X_impl_isCell (n : Nat) (F_impl_IsHeap : Ft_impl_IsHeap) (F_Heap_box : Ft_Heap_box) (F_box_has : Ft_box_has) : Ctx := { types := TT, globals := [], con := [(19, ⟨As_impl_IsHeap, R_impl_IsHeap, M_impl_IsHeap, F_impl_IsHeap⟩), (38, ⟨As_Heap_box, R_Heap_box, M_Heap_box, F_Heap_box⟩), (52, ⟨As_box_has, R_box_has, M_box_has, F_box_has⟩)], keep := [], results := [.tmp 4], ntmps := 13, n := n }
noncomputable def B_impl_isCell : Code := (Tryz.f34.body).getD .skip
noncomputable def P_impl_isCell : Ft_impl_isCell := hid (runF (X_impl_isCell N P_impl_IsHeap P_Heap_box P_box_has) B_impl_isCell As_impl_isCell R_impl_isCell M_impl_isCell)
theorem h_impl_isCell : P_impl_isCell = runF (X_impl_isCell N P_impl_IsHeap P_Heap_box P_box_has) B_impl_isCell As_impl_isCell R_impl_isCell M_impl_isCell := hid_eq _
noncomputable def C_impl_isCell : Contract := ⟨As_impl_isCell, R_impl_isCell, M_impl_isCell, P_impl_isCell⟩
theorem s_impl_isCell : Sound Tryz.prog GG 34 C_impl_isCell := by
  unfold C_impl_isCell; rw [h_impl_isCell]
  exact sound_of_run (fn := Tryz.f34) hmix hstable (tyOK_of ttOK) (hglob (X_impl_isCell N P_impl_IsHeap P_Heap_box P_box_has)) (conOK_of (X := X_impl_isCell N P_impl_IsHeap P_Heap_box P_box_has) ⟨s_impl_IsHeap, s_Heap_box, s_box_has, trivial⟩) (mconOK_of (X := X_impl_isCell N P_impl_IsHeap P_Heap_box P_box_has) trivial) (by kernel_rfl) (by kernel_rfl) (by kernel_rfl) (by kernel_rfl) (by kernel_rfl) (of_decide_eq_true (by kernel_rfl))
theorem p_impl_isCell (a0 : D_Heap) (a1 : D_A3) : P_impl_isCell (a0, a1, ()) = 
  Option.bind (P_impl_IsHeap (a0, ())) fun r0 =>
  bif r0.1 then
    Option.bind (P_Heap_box (a0, ())) fun r2 =>
    Option.bind (P_box_has (r2.1, a1, ())) fun r3 =>
    some (r3.1, ())
  else
    some (false, ()) := by
  rewrite [h_impl_isCell]
  kernel_rfl

/- 41: (loop.example/g01166/impl.box).index -/
abbrev As_box_index : List ATy := [.data true T_A3, .data true T_A3]
abbrev R_box_index : List (Bool × Ty) := [(false, (.int .i64))]
abbrev M_box_index : List RMode := []
abbrev Ft_box_index : Type := D_A3 × D_A3 × Unit → Option (Int × Unit)
noncomputable def X_box_index (n : Nat) : Ctx := { types := TT, globals := [], con := [], keep := [], results := [.tmp 4], ntmps := 19, n := n }
noncomputable def B_box_index : Code := (Tryz.f41.body).getD .skip
noncomputable def P_box_index : Ft_box_index := hid (runF (X_box_index N) B_box_index As_box_index R_box_index M_box_index)
theorem h_box_index : P_box_index = runF (X_box_index N) B_box_index As_box_index R_box_index M_box_index := hid_eq _
noncomputable def C_box_index : Contract := ⟨As_box_index, R_box_index, M_box_index, P_box_index⟩
theorem s_box_index : Sound Tryz.prog GG 41 C_box_index := by
  unfold C_box_index; rw [h_box_index]
  exact sound_of_run (fn := Tryz.f41) hmix hstable (tyOK_of ttOK) (hglob (X_box_index N)) (conOK_of (X := X_box_index N) trivial) (mconOK_of (X := X_box_index N) trivial) (by kernel_rfl) (by kernel_rfl) (by kernel_rfl) (by kernel_rfl) (by kernel_rfl) (of_decide_eq_true (by kernel_rfl))
theorem p_box_index (a0 : D_A3) (a1 : D_A3) : P_box_index (a0, a1, ()) = 
  some ((IntKind.wrap .i64 ((IntKind.wrap .i64 ((IntKind.wrap .i64 ((IntKind.wrap .i64 (a1.1 * a0.2.1)) + a1.2.1)) * a0.2.2.1)) + a1.2.2.1)), ()) := by
  rewrite [h_box_index]
  kernel_rfl

/- 40: (loop.example/g01166/impl.Heap).cubes -/
abbrev As_Heap_cubes : List ATy := [.data true T_Heap]
abbrev R_Heap_cubes : List (Bool × Ty) := [(false, (.int .u64))]
abbrev M_Heap_cubes : List RMode := []
abbrev Ft_Heap_cubes : Type := D_Heap × Unit → Option (Int × Unit)
noncomputable def X_Heap_cubes (n : Nat) (F_Heap_box : Ft_Heap_box) (F_box_index : Ft_box_index) : Ctx := { types := TT, globals := [], con := [(38, ⟨As_Heap_box, R_Heap_box, M_Heap_box, F_Heap_box⟩), (41, ⟨As_box_index, R_box_index, M_box_index, F_box_index⟩)], keep := [(3, ⟨[.box 1, .tmp 1, .tmp 3, .tmp 7, .tmp 8, .tmp 9], []⟩)], results := [.tmp 2], ntmps := 22, n := n }
noncomputable def B_Heap_cubes : Code := (Tryz.f40.body).getD .skip
noncomputable def L_Heap_cubes_3 (n : Nat) (F_Heap_box : Ft_Heap_box) (F_box_index : Ft_box_index) (m0 : Nat) (p0 : Int) (p1 : Int) (p2 : Int) (p3 : List D_A3) (p4 : Int) (p5 : List D_A3) (p6 : Int) (p7 : Int) : Option (denL R_Heap_cubes) := loopF (X_Heap_cubes n F_Heap_box F_box_index) B_Heap_cubes R_Heap_cubes M_Heap_cubes 3 [m0] [(.ver, .num 1), (.box 1, .box 0 false [.int .i64 p0, .int .i64 p1, .int .i64 p2, .imm T_A3 p3 (some 3)]), (.tmp 1, .val false [.addr 1 0 0]), (.tmp 3, .val false [.int .u64 p4]), (.tmp 7, .val false [.imm T_A3 p5 (some 3)]), (.tmp 8, .val false [.int .i64 p6]), (.tmp 9, .val false [.int .i64 p7])]
noncomputable def P_Heap_cubes : Ft_Heap_cubes := hid (runF (X_Heap_cubes N P_Heap_box P_box_index) B_Heap_cubes As_Heap_cubes R_Heap_cubes M_Heap_cubes)
theorem h_Heap_cubes : P_Heap_cubes = runF (X_Heap_cubes N P_Heap_box P_box_index) B_Heap_cubes As_Heap_cubes R_Heap_cubes M_Heap_cubes := hid_eq _
noncomputable def C_Heap_cubes : Contract := ⟨As_Heap_cubes, R_Heap_cubes, M_Heap_cubes, P_Heap_cubes⟩
theorem s_Heap_cubes : Sound Tryz.prog GG 40 C_Heap_cubes := by
  unfold C_Heap_cubes; rw [h_Heap_cubes]
  exact sound_of_run (fn := Tryz.f40) hmix hstable (tyOK_of ttOK) (hglob (X_Heap_cubes N P_Heap_box P_box_index)) (conOK_of (X := X_Heap_cubes N P_Heap_box P_box_index) ⟨s_Heap_box, s_box_index, trivial⟩) (mconOK_of (X := X_Heap_cubes N P_Heap_box P_box_index) trivial) (by kernel_rfl) (by kernel_rfl) (by kernel_rfl) (by kernel_rfl) (by kernel_rfl) (of_decide_eq_true (by kernel_rfl))
noncomputable def l_Heap_cubes_3 : Nat → Int → Int → Int → (List D_A3) → Int → (List D_A3) → Int → Int → Option (denL R_Heap_cubes) := hid (fun m0 p0 p1 p2 p3 p4 p5 p6 p7 => L_Heap_cubes_3 N P_Heap_box P_box_index m0 p0 p1 p2 p3 p4 p5 p6 p7)
theorem h_Heap_cubes_3 : l_Heap_cubes_3 = fun m0 p0 p1 p2 p3 p4 p5 p6 p7 => L_Heap_cubes_3 N P_Heap_box P_box_index m0 p0 p1 p2 p3 p4 p5 p6 p7 := hid_eq _
theorem p_Heap_cubes (a0 : D_Heap) : P_Heap_cubes (a0, ()) = 
  l_Heap_cubes_3 N a0.1 a0.2.1 a0.2.2.1 a0.2.2.2.1 0 a0.2.2.2.1 (List.length a0.2.2.2.1 : Int) 0 := by
  rewrite [h_Heap_cubes, h_Heap_cubes_3]
  kernel_rfl
theorem q_Heap_cubes_3 (m0 : Nat) (p0 : Int) (p1 : Int) (p2 : Int) (p3 : List D_A3) (p4 : Int) (p5 : List D_A3) (p6 : Int) (p7 : Int) : l_Heap_cubes_3 (m0 + 1) p0 p1 p2 p3 p4 p5 p6 p7 = 
  bif decide (p7 < p6) then
    bif inB p7 (List.length p5) then
      Option.bind (P_Heap_box ((p0, (p1, (p2, (p3, ())))), ())) fun r2 =>
      Option.bind (P_box_index (r2.1, (nth T_A3 p5 p7), ())) fun r3 =>
      bif decide ((0 : Int) ≤ r3.1) then
        l_Heap_cubes_3 m0 p0 p1 p2 p3 (intBits .or .u64 p4 (shlI .u64 1 r3.1)) p5 p6 (IntKind.wrap .i64 (p7 + 1))
      else none
    else none
  else
    some (p4, ()) := by
  rewrite [h_Heap_cubes_3]
  kernel_rfl

/- 74: (loop.example/g01166/impl.set).has -/
abbrev As_set_has : List ATy := [.data false (.int .u64), .data false (.int .i64)]
abbrev R_set_has : List (Bool × Ty) := [(false, .bool)]
abbrev M_set_has : List RMode := []
abbrev Ft_set_has : Type := Int × Int × Unit → Option (Bool × Unit)
noncomputable def X_set_has (n : Nat) : Ctx := { types := TT, globals := [], con := [], keep := [], results := [.tmp 4], ntmps := 10, n := n }
noncomputable def B_set_has : Code := (Tryz.f74.body).getD .skip
noncomputable def P_set_has : Ft_set_has := hid (runF (X_set_has N) B_set_has As_set_has R_set_has M_set_has)
theorem h_set_has : P_set_has = runF (X_set_has N) B_set_has As_set_has R_set_has M_set_has := hid_eq _
noncomputable def C_set_has : Contract := ⟨As_set_has, R_set_has, M_set_has, P_set_has⟩
theorem s_set_has : Sound Tryz.prog GG 74 C_set_has := by
  unfold C_set_has; rw [h_set_has]
  exact sound_of_run (fn := Tryz.f74) hmix hstable (tyOK_of ttOK) (hglob (X_set_has N)) (conOK_of (X := X_set_has N) trivial) (mconOK_of (X := X_set_has N) trivial) (by kernel_rfl) (by kernel_rfl) (by kernel_rfl) (by kernel_rfl) (by kernel_rfl) (of_decide_eq_true (by kernel_rfl))
theorem p_set_has (a0 : Int) (a1 : Int) : P_set_has (a0, a1, ()) = 
  bif decide ((0 : Int) ≤ a1) then
    some (decide ((intBits .and .u64 (shrI .u64 a0 a1) 1) = 1), ())
  else none := by
  rewrite [h_set_has]
  kernel_rfl

/- 35: (loop.example/g01166/impl.Heap).hasCube -/
abbrev As_Heap_hasCube : List ATy := [.data true T_Heap, .data true T_A3]
abbrev R_Heap_hasCube : List (Bool × Ty) := [(false, .bool)]
abbrev M_Heap_hasCube : List RMode := []
abbrev Ft_Heap_hasCube : Type := D_Heap × D_A3 × Unit → Option (Bool × Unit)
noncomputable def X_Heap_hasCube (n : Nat) (F_Heap_box : Ft_Heap_box) (F_Heap_cubes : Ft_Heap_cubes) (F_box_index : Ft_box_index) (F_set_has : Ft_set_has) : Ctx := { types := TT, globals := [], con := [(38, ⟨As_Heap_box, R_Heap_box, M_Heap_box, F_Heap_box⟩), (40, ⟨As_Heap_cubes, R_Heap_cubes, M_Heap_cubes, F_Heap_cubes⟩), (41, ⟨As_box_index, R_box_index, M_box_index, F_box_index⟩), (74, ⟨As_set_has, R_set_has, M_set_has, F_set_has⟩)], keep := [], results := [.tmp 4], ntmps := 12, n := n }
noncomputable def B_Heap_hasCube : Code := (Tryz.f35.body).getD .skip
noncomputable def P_Heap_hasCube : Ft_Heap_hasCube := hid (runF (X_Heap_hasCube N P_Heap_box P_Heap_cubes P_box_index P_set_has) B_Heap_hasCube As_Heap_hasCube R_Heap_hasCube M_Heap_hasCube)
theorem h_Heap_hasCube : P_Heap_hasCube = runF (X_Heap_hasCube N P_Heap_box P_Heap_cubes P_box_index P_set_has) B_Heap_hasCube As_Heap_hasCube R_Heap_hasCube M_Heap_hasCube := hid_eq _
noncomputable def C_Heap_hasCube : Contract := ⟨As_Heap_hasCube, R_Heap_hasCube, M_Heap_hasCube, P_Heap_hasCube⟩
theorem s_Heap_hasCube : Sound Tryz.prog GG 35 C_Heap_hasCube := by
  unfold C_Heap_hasCube; rw [h_Heap_hasCube]
  exact sound_of_run (fn := Tryz.f35) hmix hstable (tyOK_of ttOK) (hglob (X_Heap_hasCube N P_Heap_box P_Heap_cubes P_box_index P_set_has)) (conOK_of (X := X_Heap_hasCube N P_Heap_box P_Heap_cubes P_box_index P_set_has) ⟨s_Heap_box, s_Heap_cubes, s_box_index, s_set_has, trivial⟩) (mconOK_of (X := X_Heap_hasCube N P_Heap_box P_Heap_cubes P_box_index P_set_has) trivial) (by kernel_rfl) (by kernel_rfl) (by kernel_rfl) (by kernel_rfl) (by kernel_rfl) (of_decide_eq_true (by kernel_rfl))
theorem p_Heap_hasCube (a0 : D_Heap) (a1 : D_A3) : P_Heap_hasCube (a0, a1, ()) = 
  Option.bind (P_Heap_cubes (a0, ())) fun r0 =>
  Option.bind (P_Heap_box (a0, ())) fun r1 =>
  Option.bind (P_box_index (r1.1, a1, ())) fun r2 =>
  Option.bind (P_set_has (r0.1, r2.1, ())) fun r3 =>
  some (r3.1, ()) := by
  rewrite [h_Heap_hasCube]
  kernel_rfl

/- 6: loop.example/g01166/impl.HasCube -/
abbrev As_impl_HasCube : List ATy := [.data true T_Heap, .data true T_A3]
abbrev R_impl_HasCube : List (Bool × Ty) := [(false, .bool), (false, .bool)]
abbrev M_impl_HasCube : List RMode := []
abbrev Ft_impl_HasCube : Type := D_Heap × D_A3 × Unit → Option (Bool × Bool × Unit)
noncomputable def X_impl_HasCube (n : Nat) (F_impl_isCell : Ft_impl_isCell) (F_Heap_hasCube : Ft_Heap_hasCube) : Ctx := { types := TT, globals := [], con := [(34, ⟨As_impl_isCell, R_impl_isCell, M_impl_isCell, F_impl_isCell⟩), (35, ⟨As_Heap_hasCube, R_Heap_hasCube, M_Heap_hasCube, F_Heap_hasCube⟩)], keep := [], results := [.tmp 4, .tmp 5], ntmps := 13, n := n }
noncomputable def B_impl_HasCube : Code := (Tryz.f6.body).getD .skip
noncomputable def P_impl_HasCube : Ft_impl_HasCube := hid (runF (X_impl_HasCube N P_impl_isCell P_Heap_hasCube) B_impl_HasCube As_impl_HasCube R_impl_HasCube M_impl_HasCube)
theorem h_impl_HasCube : P_impl_HasCube = runF (X_impl_HasCube N P_impl_isCell P_Heap_hasCube) B_impl_HasCube As_impl_HasCube R_impl_HasCube M_impl_HasCube := hid_eq _
noncomputable def C_impl_HasCube : Contract := ⟨As_impl_HasCube, R_impl_HasCube, M_impl_HasCube, P_impl_HasCube⟩
theorem s_impl_HasCube : Sound Tryz.prog GG 6 C_impl_HasCube := by
  unfold C_impl_HasCube; rw [h_impl_HasCube]
  exact sound_of_run (fn := Tryz.f6) hmix hstable (tyOK_of ttOK) (hglob (X_impl_HasCube N P_impl_isCell P_Heap_hasCube)) (conOK_of (X := X_impl_HasCube N P_impl_isCell P_Heap_hasCube) ⟨s_impl_isCell, s_Heap_hasCube, trivial⟩) (mconOK_of (X := X_impl_HasCube N P_impl_isCell P_Heap_hasCube) trivial) (by kernel_rfl) (by kernel_rfl) (by kernel_rfl) (by kernel_rfl) (by kernel_rfl) (of_decide_eq_true (by kernel_rfl))
theorem p_impl_HasCube (a0 : D_Heap) (a1 : D_A3) : P_impl_HasCube (a0, a1, ()) = 
  Option.bind (P_impl_isCell (a0, a1, ())) fun r0 =>
  bif !r0.1 then
    some (false, false, ())
  else
    Option.bind (P_Heap_hasCube (a0, a1, ())) fun r2 =>
    some (r2.1, true, ()) := by
  rewrite [h_impl_HasCube]
  kernel_rfl

/- 36: loop.example/g01166/spec.l2Cell -/
abbrev As_spec_l2Cell : List ATy := [.data true T_Heap, .data true T_A3]
abbrev R_spec_l2Cell : List (Bool × Ty) := [(false, .bool)]
abbrev M_spec_l2Cell : List RMode := []
abbrev Ft_spec_l2Cell : Type := D_Heap × D_A3 × Unit → Option (Bool × Unit)
noncomputable def X_spec_l2Cell (n : Nat) (F_spec_l2Heap : Ft_spec_l2Heap) (F_spec_l2In : Ft_spec_l2In) : Ctx := { types := TT, globals := [], con := [(49, ⟨As_spec_l2Heap, R_spec_l2Heap, M_spec_l2Heap, F_spec_l2Heap⟩), (75, ⟨As_spec_l2In, R_spec_l2In, M_spec_l2In, F_spec_l2In⟩)], keep := [], results := [.tmp 4], ntmps := 12, n := n }
noncomputable def B_spec_l2Cell : Code := (Tryz.f36.body).getD .skip
noncomputable def P_spec_l2Cell : Ft_spec_l2Cell := hid (runF (X_spec_l2Cell N P_spec_l2Heap P_spec_l2In) B_spec_l2Cell As_spec_l2Cell R_spec_l2Cell M_spec_l2Cell)
theorem h_spec_l2Cell : P_spec_l2Cell = runF (X_spec_l2Cell N P_spec_l2Heap P_spec_l2In) B_spec_l2Cell As_spec_l2Cell R_spec_l2Cell M_spec_l2Cell := hid_eq _
noncomputable def C_spec_l2Cell : Contract := ⟨As_spec_l2Cell, R_spec_l2Cell, M_spec_l2Cell, P_spec_l2Cell⟩
theorem s_spec_l2Cell : Sound Tryz.prog GG 36 C_spec_l2Cell := by
  unfold C_spec_l2Cell; rw [h_spec_l2Cell]
  exact sound_of_run (fn := Tryz.f36) hmix hstable (tyOK_of ttOK) (hglob (X_spec_l2Cell N P_spec_l2Heap P_spec_l2In)) (conOK_of (X := X_spec_l2Cell N P_spec_l2Heap P_spec_l2In) ⟨s_spec_l2Heap, s_spec_l2In, trivial⟩) (mconOK_of (X := X_spec_l2Cell N P_spec_l2Heap P_spec_l2In) trivial) (by kernel_rfl) (by kernel_rfl) (by kernel_rfl) (by kernel_rfl) (by kernel_rfl) (of_decide_eq_true (by kernel_rfl))
theorem p_spec_l2Cell (a0 : D_Heap) (a1 : D_A3) : P_spec_l2Cell (a0, a1, ()) = 
  Option.bind (P_spec_l2Heap (a0, ())) fun r0 =>
  bif r0.1 then
    Option.bind (P_spec_l2In (a0, a1, ())) fun r2 =>
    some (r2.1, ())
  else
    some (false, ()) := by
  rewrite [h_spec_l2Cell]
  kernel_rfl

/- 7: loop.example/g01166/spec.HasCube -/
abbrev As_spec_HasCube : List ATy := [.data true T_Heap, .data true T_A3]
abbrev R_spec_HasCube : List (Bool × Ty) := [(false, .bool), (false, .bool)]
abbrev M_spec_HasCube : List RMode := []
abbrev Ft_spec_HasCube : Type := D_Heap × D_A3 × Unit → Option (Bool × Bool × Unit)
noncomputable def X_spec_HasCube (n : Nat) (F_spec_l2Cell : Ft_spec_l2Cell) (F_spec_l2Has : Ft_spec_l2Has) : Ctx := { types := TT, globals := [], con := [(36, ⟨As_spec_l2Cell, R_spec_l2Cell, M_spec_l2Cell, F_spec_l2Cell⟩), (37, ⟨As_spec_l2Has, R_spec_l2Has, M_spec_l2Has, F_spec_l2Has⟩)], keep := [], results := [.tmp 4, .tmp 5], ntmps := 13, n := n }
noncomputable def B_spec_HasCube : Code := (Tryz.f7.body).getD .skip
noncomputable def P_spec_HasCube : Ft_spec_HasCube := hid (runF (X_spec_HasCube N P_spec_l2Cell P_spec_l2Has) B_spec_HasCube As_spec_HasCube R_spec_HasCube M_spec_HasCube)
theorem h_spec_HasCube : P_spec_HasCube = runF (X_spec_HasCube N P_spec_l2Cell P_spec_l2Has) B_spec_HasCube As_spec_HasCube R_spec_HasCube M_spec_HasCube := hid_eq _
noncomputable def C_spec_HasCube : Contract := ⟨As_spec_HasCube, R_spec_HasCube, M_spec_HasCube, P_spec_HasCube⟩
theorem s_spec_HasCube : Sound Tryz.prog GG 7 C_spec_HasCube := by
  unfold C_spec_HasCube; rw [h_spec_HasCube]
  exact sound_of_run (fn := Tryz.f7) hmix hstable (tyOK_of ttOK) (hglob (X_spec_HasCube N P_spec_l2Cell P_spec_l2Has)) (conOK_of (X := X_spec_HasCube N P_spec_l2Cell P_spec_l2Has) ⟨s_spec_l2Cell, s_spec_l2Has, trivial⟩) (mconOK_of (X := X_spec_HasCube N P_spec_l2Cell P_spec_l2Has) trivial) (by kernel_rfl) (by kernel_rfl) (by kernel_rfl) (by kernel_rfl) (by kernel_rfl) (of_decide_eq_true (by kernel_rfl))
theorem p_spec_HasCube (a0 : D_Heap) (a1 : D_A3) : P_spec_HasCube (a0, a1, ()) = 
  Option.bind (P_spec_l2Cell (a0, a1, ())) fun r0 =>
  bif !r0.1 then
    some (false, false, ())
  else
    Option.bind (P_spec_l2Has (a0, a1, ())) fun r2 =>
    some (r2.1, true, ()) := by
  rewrite [h_spec_HasCube]
  kernel_rfl

/- 79: (loop.example/g01166/impl.box).size -/
abbrev As_box_size : List ATy := [.data true T_A3]
abbrev R_box_size : List (Bool × Ty) := [(false, (.int .i64))]
abbrev M_box_size : List RMode := []
abbrev Ft_box_size : Type := D_A3 × Unit → Option (Int × Unit)
noncomputable def X_box_size (n : Nat) : Ctx := { types := TT, globals := [], con := [], keep := [], results := [.tmp 2], ntmps := 11, n := n }
noncomputable def B_box_size : Code := (Tryz.f79.body).getD .skip
noncomputable def P_box_size : Ft_box_size := hid (runF (X_box_size N) B_box_size As_box_size R_box_size M_box_size)
theorem h_box_size : P_box_size = runF (X_box_size N) B_box_size As_box_size R_box_size M_box_size := hid_eq _
noncomputable def C_box_size : Contract := ⟨As_box_size, R_box_size, M_box_size, P_box_size⟩
theorem s_box_size : Sound Tryz.prog GG 79 C_box_size := by
  unfold C_box_size; rw [h_box_size]
  exact sound_of_run (fn := Tryz.f79) hmix hstable (tyOK_of ttOK) (hglob (X_box_size N)) (conOK_of (X := X_box_size N) trivial) (mconOK_of (X := X_box_size N) trivial) (by kernel_rfl) (by kernel_rfl) (by kernel_rfl) (by kernel_rfl) (by kernel_rfl) (of_decide_eq_true (by kernel_rfl))
theorem p_box_size (a0 : D_A3) : P_box_size (a0, ()) = 
  some ((IntKind.wrap .i64 ((IntKind.wrap .i64 (a0.1 * a0.2.1)) * a0.2.2.1)), ()) := by
  rewrite [h_box_size]
  kernel_rfl

/- 80: (loop.example/g01166/impl.box).cell -/
abbrev As_box_cell : List ATy := [.data true T_A3, .data false (.int .i64)]
abbrev R_box_cell : List (Bool × Ty) := [(true, T_A3)]
abbrev M_box_cell : List RMode := []
abbrev Ft_box_cell : Type := D_A3 × Int × Unit → Option (D_A3 × Unit)
noncomputable def X_box_cell (n : Nat) : Ctx := { types := TT, globals := [], con := [], keep := [], results := [.cell 4 27], ntmps := 24, n := n }
noncomputable def B_box_cell : Code := (Tryz.f80.body).getD .skip
noncomputable def P_box_cell : Ft_box_cell := hid (runF (X_box_cell N) B_box_cell As_box_cell R_box_cell M_box_cell)
theorem h_box_cell : P_box_cell = runF (X_box_cell N) B_box_cell As_box_cell R_box_cell M_box_cell := hid_eq _
noncomputable def C_box_cell : Contract := ⟨As_box_cell, R_box_cell, M_box_cell, P_box_cell⟩
theorem s_box_cell : Sound Tryz.prog GG 80 C_box_cell := by
  unfold C_box_cell; rw [h_box_cell]
  exact sound_of_run (fn := Tryz.f80) hmix hstable (tyOK_of ttOK) (hglob (X_box_cell N)) (conOK_of (X := X_box_cell N) trivial) (mconOK_of (X := X_box_cell N) trivial) (by kernel_rfl) (by kernel_rfl) (by kernel_rfl) (by kernel_rfl) (by kernel_rfl) (of_decide_eq_true (by kernel_rfl))
theorem p_box_cell (a0 : D_A3) (a1 : Int) : P_box_cell (a0, a1, ()) = 
  bif !decide (a0.2.2.1 = 0) then
    bif !decide (a0.2.1 = 0) then
      bif !decide (a0.2.2.1 = 0) then
        bif !decide (a0.2.1 = 0) then
          bif !decide (a0.2.2.1 = 0) then
            some (((IntKind.wrap .i64 (Int.tdiv (IntKind.wrap .i64 (Int.tdiv a1 a0.2.2.1)) a0.2.1)), ((Int.tmod (IntKind.wrap .i64 (Int.tdiv a1 a0.2.2.1)) a0.2.1), ((Int.tmod a1 a0.2.2.1), ()))), ())
          else none
        else none
      else none
    else none
  else none := by
  rewrite [h_box_cell]
  kernel_rfl

/- 43: (loop.example/g01166/impl.box).list -/
abbrev As_box_list : List ATy := [.data true T_A3, .data false (.int .u64)]
abbrev R_box_list : List (Bool × Ty) := [(false, (.sl T_A3))]
abbrev M_box_list : List RMode := [.own 27]
abbrev Ft_box_list : Type := D_A3 × Int × Unit → Option ((List D_A3) × Unit)
noncomputable def X_box_list (n : Nat) (F_set_has : Ft_set_has) (F_box_size : Ft_box_size) (F_box_cell : Ft_box_cell) : Ctx := { types := TT, globals := [], con := [(74, ⟨As_set_has, R_set_has, M_set_has, F_set_has⟩), (79, ⟨As_box_size, R_box_size, M_box_size, F_box_size⟩), (80, ⟨As_box_cell, R_box_cell, M_box_cell, F_box_cell⟩)], keep := [(3, ⟨[.box 2, .tmp 1, .tmp 2, .tmp 5, .tmp 9, .tmp 10], []⟩)], results := [.tmp 4], ntmps := 24, n := n }
noncomputable def B_box_list : Code := (Tryz.f43.body).getD .skip
noncomputable def L_box_list_3 (n : Nat) (F_set_has : Ft_set_has) (F_box_size : Ft_box_size) (F_box_cell : Ft_box_cell) (m0 : Nat) (p0 : Int) (p1 : Int) (p2 : Int) (p3 : Int) (p4 : List D_A3) (p5 : Int) (p6 : Int) : Option (denL R_box_list) := loopF (X_box_list n F_set_has F_box_size F_box_cell) B_box_list R_box_list M_box_list 3 [m0] [(.ver, .num 1), (.box 2, .box 0 false [.int .i64 p0, .int .i64 p1, .int .i64 p2]), (.tmp 1, .val false [.int .u64 p3]), (.tmp 2, .val false [.addr 2 0 0]), (.tmp 5, .val false [.own 27 T_A3 0 p4]), (.tmp 9, .val false [.int .i64 p5]), (.tmp 10, .val false [.int .i64 p6])]
noncomputable def P_box_list : Ft_box_list := hid (runF (X_box_list N P_set_has P_box_size P_box_cell) B_box_list As_box_list R_box_list M_box_list)
theorem h_box_list : P_box_list = runF (X_box_list N P_set_has P_box_size P_box_cell) B_box_list As_box_list R_box_list M_box_list := hid_eq _
noncomputable def C_box_list : Contract := ⟨As_box_list, R_box_list, M_box_list, P_box_list⟩
theorem s_box_list : Sound Tryz.prog GG 43 C_box_list := by
  unfold C_box_list; rw [h_box_list]
  exact sound_of_run (fn := Tryz.f43) hmix hstable (tyOK_of ttOK) (hglob (X_box_list N P_set_has P_box_size P_box_cell)) (conOK_of (X := X_box_list N P_set_has P_box_size P_box_cell) ⟨s_set_has, s_box_size, s_box_cell, trivial⟩) (mconOK_of (X := X_box_list N P_set_has P_box_size P_box_cell) trivial) (by kernel_rfl) (by kernel_rfl) (by kernel_rfl) (by kernel_rfl) (by kernel_rfl) (of_decide_eq_true (by kernel_rfl))
noncomputable def l_box_list_3 : Nat → Int → Int → Int → Int → (List D_A3) → Int → Int → Option (denL R_box_list) := hid (fun m0 p0 p1 p2 p3 p4 p5 p6 => L_box_list_3 N P_set_has P_box_size P_box_cell m0 p0 p1 p2 p3 p4 p5 p6)
theorem h_box_list_3 : l_box_list_3 = fun m0 p0 p1 p2 p3 p4 p5 p6 => L_box_list_3 N P_set_has P_box_size P_box_cell m0 p0 p1 p2 p3 p4 p5 p6 := hid_eq _
theorem p_box_list (a0 : D_A3) (a1 : Int) : P_box_list (a0, a1, ()) = 
  Option.bind (P_box_size (a0, ())) fun r0 =>
  l_box_list_3 N a0.1 a0.2.1 a0.2.2.1 a1 ([] : List D_A3) r0.1 0 := by
  rewrite [h_box_list, h_box_list_3]
  kernel_rfl
theorem q_box_list_3 (m0 : Nat) (p0 : Int) (p1 : Int) (p2 : Int) (p3 : Int) (p4 : List D_A3) (p5 : Int) (p6 : Int) : l_box_list_3 (m0 + 1) p0 p1 p2 p3 p4 p5 p6 = 
  bif decide (p6 < p5) then
    Option.bind (P_set_has (p3, p6, ())) fun r1 =>
    bif r1.1 then
      Option.bind (P_box_cell ((p0, (p1, (p2, ()))), p6, ())) fun r3 =>
      bif (decide (((List.length p4) + (List.length ([r3.1] : List D_A3))) * 24 ≤ 140737488355328) && decide (((List.length p4) + (List.length ([r3.1] : List D_A3))) ≤ 140737488355328)) then
        l_box_list_3 m0 p0 p1 p2 p3 (p4 ++ ([r3.1] : List D_A3)) p5 (IntKind.wrap .i64 (p6 + 1))
      else none
    else
      l_box_list_3 m0 p0 p1 p2 p3 p4 p5 (IntKind.wrap .i64 (p6 + 1))
  else
    some (p4, ()) := by
  rewrite [h_box_list_3]
  kernel_rfl

/- 39: (loop.example/g01166/impl.box).heap -/
abbrev As_box_heap : List ATy := [.data true T_A3, .data false (.int .u64)]
abbrev R_box_heap : List (Bool × Ty) := [(true, T_Heap)]
abbrev M_box_heap : List RMode := [.own 27]
abbrev Ft_box_heap : Type := D_A3 × Int × Unit → Option (D_Heap × Unit)
noncomputable def X_box_heap (n : Nat) (F_box_list : Ft_box_list) : Ctx := { types := TT, globals := [], con := [(43, ⟨As_box_list, R_box_list, M_box_list, F_box_list⟩)], keep := [], results := [.cell 4 26], ntmps := 15, n := n }
noncomputable def B_box_heap : Code := (Tryz.f39.body).getD .skip
noncomputable def P_box_heap : Ft_box_heap := hid (runF (X_box_heap N P_box_list) B_box_heap As_box_heap R_box_heap M_box_heap)
theorem h_box_heap : P_box_heap = runF (X_box_heap N P_box_list) B_box_heap As_box_heap R_box_heap M_box_heap := hid_eq _
noncomputable def C_box_heap : Contract := ⟨As_box_heap, R_box_heap, M_box_heap, P_box_heap⟩
theorem s_box_heap : Sound Tryz.prog GG 39 C_box_heap := by
  unfold C_box_heap; rw [h_box_heap]
  exact sound_of_run (fn := Tryz.f39) hmix hstable (tyOK_of ttOK) (hglob (X_box_heap N P_box_list)) (conOK_of (X := X_box_heap N P_box_list) ⟨s_box_list, trivial⟩) (mconOK_of (X := X_box_heap N P_box_list) trivial) (by kernel_rfl) (by kernel_rfl) (by kernel_rfl) (by kernel_rfl) (by kernel_rfl) (of_decide_eq_true (by kernel_rfl))
theorem p_box_heap (a0 : D_A3) (a1 : Int) : P_box_heap (a0, a1, ()) = 
  Option.bind (P_box_list (a0, a1, ())) fun r0 =>
  some ((a0.1, (a0.2.1, (a0.2.2.1, (r0.1, ())))), ()) := by
  rewrite [h_box_heap]
  kernel_rfl

/- 8: loop.example/g01166/impl.PutCube -/
abbrev As_impl_PutCube : List ATy := [.data true T_Heap, .data true T_A3]
abbrev R_impl_PutCube : List (Bool × Ty) := [(true, T_Heap), (false, .bool)]
abbrev M_impl_PutCube : List RMode := [.own 27]
abbrev Ft_impl_PutCube : Type := D_Heap × D_A3 × Unit → Option (D_Heap × Bool × Unit)
noncomputable def X_impl_PutCube (n : Nat) (F_impl_isCell : Ft_impl_isCell) (F_Heap_hasCube : Ft_Heap_hasCube) (F_Heap_box : Ft_Heap_box) (F_box_heap : Ft_box_heap) (F_Heap_cubes : Ft_Heap_cubes) (F_box_index : Ft_box_index) : Ctx := { types := TT, globals := [], con := [(34, ⟨As_impl_isCell, R_impl_isCell, M_impl_isCell, F_impl_isCell⟩), (35, ⟨As_Heap_hasCube, R_Heap_hasCube, M_Heap_hasCube, F_Heap_hasCube⟩), (38, ⟨As_Heap_box, R_Heap_box, M_Heap_box, F_Heap_box⟩), (39, ⟨As_box_heap, R_box_heap, M_box_heap, F_box_heap⟩), (40, ⟨As_Heap_cubes, R_Heap_cubes, M_Heap_cubes, F_Heap_cubes⟩), (41, ⟨As_box_index, R_box_index, M_box_index, F_box_index⟩)], keep := [], results := [.cell 4 26, .tmp 5], ntmps := 27, n := n }
noncomputable def B_impl_PutCube : Code := (Tryz.f8.body).getD .skip
noncomputable def P_impl_PutCube : Ft_impl_PutCube := hid (runF (X_impl_PutCube N P_impl_isCell P_Heap_hasCube P_Heap_box P_box_heap P_Heap_cubes P_box_index) B_impl_PutCube As_impl_PutCube R_impl_PutCube M_impl_PutCube)
theorem h_impl_PutCube : P_impl_PutCube = runF (X_impl_PutCube N P_impl_isCell P_Heap_hasCube P_Heap_box P_box_heap P_Heap_cubes P_box_index) B_impl_PutCube As_impl_PutCube R_impl_PutCube M_impl_PutCube := hid_eq _
noncomputable def C_impl_PutCube : Contract := ⟨As_impl_PutCube, R_impl_PutCube, M_impl_PutCube, P_impl_PutCube⟩
theorem s_impl_PutCube : Sound Tryz.prog GG 8 C_impl_PutCube := by
  unfold C_impl_PutCube; rw [h_impl_PutCube]
  exact sound_of_run (fn := Tryz.f8) hmix hstable (tyOK_of ttOK) (hglob (X_impl_PutCube N P_impl_isCell P_Heap_hasCube P_Heap_box P_box_heap P_Heap_cubes P_box_index)) (conOK_of (X := X_impl_PutCube N P_impl_isCell P_Heap_hasCube P_Heap_box P_box_heap P_Heap_cubes P_box_index) ⟨s_impl_isCell, s_Heap_hasCube, s_Heap_box, s_box_heap, s_Heap_cubes, s_box_index, trivial⟩) (mconOK_of (X := X_impl_PutCube N P_impl_isCell P_Heap_hasCube P_Heap_box P_box_heap P_Heap_cubes P_box_index) trivial) (by kernel_rfl) (by kernel_rfl) (by kernel_rfl) (by kernel_rfl) (by kernel_rfl) (of_decide_eq_true (by kernel_rfl))
theorem p_impl_PutCube (a0 : D_Heap) (a1 : D_A3) : P_impl_PutCube (a0, a1, ()) = 
  Option.bind (P_impl_isCell (a0, a1, ())) fun r0 =>
  bif !r0.1 then
    some ((0, (0, (0, (([] : List D_A3), ())))), false, ())
  else
    Option.bind (P_Heap_hasCube (a0, a1, ())) fun r2 =>
    bif r2.1 then
      some ((0, (0, (0, (([] : List D_A3), ())))), false, ())
    else
      Option.bind (P_Heap_box (a0, ())) fun r4 =>
      Option.bind (P_Heap_cubes (a0, ())) fun r5 =>
      Option.bind (P_Heap_box (a0, ())) fun r6 =>
      Option.bind (P_box_index (r6.1, a1, ())) fun r7 =>
      bif decide ((0 : Int) ≤ r7.1) then
        Option.bind (P_box_heap (r4.1, (intBits .or .u64 r5.1 (shlI .u64 1 r7.1)), ())) fun r9 =>
        some (r9.1, true, ())
      else none := by
  rewrite [h_impl_PutCube]
  kernel_rfl

/- 78: loop.example/g01166/spec.l2Made -/
abbrev As_spec_l2Made : List ATy := [.data true T_Heap, .data false (.sl T_A3)]
abbrev R_spec_l2Made : List (Bool × Ty) := [(true, T_Heap)]
abbrev M_spec_l2Made : List RMode := [.pass 4]
abbrev Ft_spec_l2Made : Type := D_Heap × (List D_A3) × Unit → Option (D_Heap × Unit)
noncomputable def X_spec_l2Made (n : Nat) : Ctx := { types := TT, globals := [], con := [], keep := [], results := [.cell 4 26], ntmps := 13, n := n }
noncomputable def B_spec_l2Made : Code := (Tryz.f78.body).getD .skip
noncomputable def P_spec_l2Made : Ft_spec_l2Made := hid (runF (X_spec_l2Made N) B_spec_l2Made As_spec_l2Made R_spec_l2Made M_spec_l2Made)
theorem h_spec_l2Made : P_spec_l2Made = runF (X_spec_l2Made N) B_spec_l2Made As_spec_l2Made R_spec_l2Made M_spec_l2Made := hid_eq _
noncomputable def C_spec_l2Made : Contract := ⟨As_spec_l2Made, R_spec_l2Made, M_spec_l2Made, P_spec_l2Made⟩
theorem s_spec_l2Made : Sound Tryz.prog GG 78 C_spec_l2Made := by
  unfold C_spec_l2Made; rw [h_spec_l2Made]
  exact sound_of_run (fn := Tryz.f78) hmix hstable (tyOK_of ttOK) (hglob (X_spec_l2Made N)) (conOK_of (X := X_spec_l2Made N) trivial) (mconOK_of (X := X_spec_l2Made N) trivial) (by kernel_rfl) (by kernel_rfl) (by kernel_rfl) (by kernel_rfl) (by kernel_rfl) (of_decide_eq_true (by kernel_rfl))
theorem p_spec_l2Made (a0 : D_Heap) (a1 : List D_A3) : P_spec_l2Made (a0, a1, ()) = 
  some ((a0.1, (a0.2.1, (a0.2.2.1, (a1, ())))), ()) := by
  rewrite [h_spec_l2Made]
  kernel_rfl

/- 77: loop.example/g01166/spec.l2Own -/
abbrev As_spec_l2Own : List ATy := [.data true T_Heap]
abbrev R_spec_l2Own : List (Bool × Ty) := [(true, T_Heap)]
abbrev M_spec_l2Own : List RMode := [.own 27]
abbrev Ft_spec_l2Own : Type := D_Heap × Unit → Option (D_Heap × Unit)
noncomputable def X_spec_l2Own (n : Nat) (F_spec_l2Made : Ft_spec_l2Made) : Ctx := { types := TT, globals := [], con := [(78, ⟨As_spec_l2Made, R_spec_l2Made, M_spec_l2Made, F_spec_l2Made⟩)], keep := [], results := [.cell 2 26], ntmps := 9, n := n }
noncomputable def B_spec_l2Own : Code := (Tryz.f77.body).getD .skip
noncomputable def P_spec_l2Own : Ft_spec_l2Own := hid (runF (X_spec_l2Own N P_spec_l2Made) B_spec_l2Own As_spec_l2Own R_spec_l2Own M_spec_l2Own)
theorem h_spec_l2Own : P_spec_l2Own = runF (X_spec_l2Own N P_spec_l2Made) B_spec_l2Own As_spec_l2Own R_spec_l2Own M_spec_l2Own := hid_eq _
noncomputable def C_spec_l2Own : Contract := ⟨As_spec_l2Own, R_spec_l2Own, M_spec_l2Own, P_spec_l2Own⟩
theorem s_spec_l2Own : Sound Tryz.prog GG 77 C_spec_l2Own := by
  unfold C_spec_l2Own; rw [h_spec_l2Own]
  exact sound_of_run (fn := Tryz.f77) hmix hstable (tyOK_of ttOK) (hglob (X_spec_l2Own N P_spec_l2Made)) (conOK_of (X := X_spec_l2Own N P_spec_l2Made) ⟨s_spec_l2Made, trivial⟩) (mconOK_of (X := X_spec_l2Own N P_spec_l2Made) trivial) (by kernel_rfl) (by kernel_rfl) (by kernel_rfl) (by kernel_rfl) (by kernel_rfl) (of_decide_eq_true (by kernel_rfl))
theorem p_spec_l2Own (a0 : D_Heap) : P_spec_l2Own (a0, ()) = 
  bif (decide (((List.length ([] : List D_A3)) + (List.length a0.2.2.2.1)) * 24 ≤ 140737488355328) && decide (((List.length ([] : List D_A3)) + (List.length a0.2.2.2.1)) ≤ 140737488355328)) then
    Option.bind (P_spec_l2Made (a0, (([] : List D_A3) ++ a0.2.2.2.1), ())) fun r1 =>
    some ((r1.1.1, (r1.1.2.1, (r1.1.2.2.1, ((([] : List D_A3) ++ a0.2.2.2.1), ())))), ())
  else none := by
  rewrite [h_spec_l2Own]
  kernel_rfl

/- 42: loop.example/g01166/spec.l2With -/
abbrev As_spec_l2With : List ATy := [.data true T_Heap, .data true T_A3]
abbrev R_spec_l2With : List (Bool × Ty) := [(true, T_Heap)]
abbrev M_spec_l2With : List RMode := [.own 27]
abbrev Ft_spec_l2With : Type := D_Heap × D_A3 × Unit → Option (D_Heap × Unit)
noncomputable def X_spec_l2With (n : Nat) (F_spec_l2Before : Ft_spec_l2Before) (F_spec_l2Own : Ft_spec_l2Own) (F_spec_l2Made : Ft_spec_l2Made) : Ctx := { types := TT, globals := [], con := [(76, ⟨As_spec_l2Before, R_spec_l2Before, M_spec_l2Before, F_spec_l2Before⟩), (77, ⟨As_spec_l2Own, R_spec_l2Own, M_spec_l2Own, F_spec_l2Own⟩), (78, ⟨As_spec_l2Made, R_spec_l2Made, M_spec_l2Made, F_spec_l2Made⟩)], keep := [(2, ⟨[.box 2, .box 3, .box 4, .tmp 2, .tmp 3, .tmp 4, .tmp 5], []⟩)], results := [.cell 4 26], ntmps := 54, n := n }
noncomputable def B_spec_l2With : Code := (Tryz.f42.body).getD .skip
noncomputable def L_spec_l2With_2 (n : Nat) (F_spec_l2Before : Ft_spec_l2Before) (F_spec_l2Own : Ft_spec_l2Own) (F_spec_l2Made : Ft_spec_l2Made) (m0 : Nat) (p0 : Int) (p1 : Int) (p2 : Int) (p3 : List D_A3) (p4 : Int) (p5 : Int) (p6 : Int) (p7 : Int) (p8 : Int) (p9 : Int) (p10 : List D_A3) (p11 : Int) : Option (denL R_spec_l2With) := loopF (X_spec_l2With n F_spec_l2Before F_spec_l2Own F_spec_l2Made) B_spec_l2With R_spec_l2With M_spec_l2With 2 [m0] [(.ver, .num 1), (.box 2, .box 0 false [.int .i64 p0, .int .i64 p1, .int .i64 p2, .imm T_A3 p3 (some 3)]), (.box 3, .box 0 false [.int .i64 p4, .int .i64 p5, .int .i64 p6]), (.box 4, .box 0 false [.int .i64 p7, .int .i64 p8, .int .i64 p9, .own 27 T_A3 0 p10]), (.tmp 2, .val false [.addr 2 0 0]), (.tmp 3, .val false [.addr 3 0 0]), (.tmp 4, .val false [.addr 4 0 0]), (.tmp 5, .val false [.int .i64 p11])]
noncomputable def P_spec_l2With : Ft_spec_l2With := hid (runF (X_spec_l2With N P_spec_l2Before P_spec_l2Own P_spec_l2Made) B_spec_l2With As_spec_l2With R_spec_l2With M_spec_l2With)
theorem h_spec_l2With : P_spec_l2With = runF (X_spec_l2With N P_spec_l2Before P_spec_l2Own P_spec_l2Made) B_spec_l2With As_spec_l2With R_spec_l2With M_spec_l2With := hid_eq _
noncomputable def C_spec_l2With : Contract := ⟨As_spec_l2With, R_spec_l2With, M_spec_l2With, P_spec_l2With⟩
theorem s_spec_l2With : Sound Tryz.prog GG 42 C_spec_l2With := by
  unfold C_spec_l2With; rw [h_spec_l2With]
  exact sound_of_run (fn := Tryz.f42) hmix hstable (tyOK_of ttOK) (hglob (X_spec_l2With N P_spec_l2Before P_spec_l2Own P_spec_l2Made)) (conOK_of (X := X_spec_l2With N P_spec_l2Before P_spec_l2Own P_spec_l2Made) ⟨s_spec_l2Before, s_spec_l2Own, s_spec_l2Made, trivial⟩) (mconOK_of (X := X_spec_l2With N P_spec_l2Before P_spec_l2Own P_spec_l2Made) trivial) (by kernel_rfl) (by kernel_rfl) (by kernel_rfl) (by kernel_rfl) (by kernel_rfl) (of_decide_eq_true (by kernel_rfl))
noncomputable def l_spec_l2With_2 : Nat → Int → Int → Int → (List D_A3) → Int → Int → Int → Int → Int → Int → (List D_A3) → Int → Option (denL R_spec_l2With) := hid (fun m0 p0 p1 p2 p3 p4 p5 p6 p7 p8 p9 p10 p11 => L_spec_l2With_2 N P_spec_l2Before P_spec_l2Own P_spec_l2Made m0 p0 p1 p2 p3 p4 p5 p6 p7 p8 p9 p10 p11)
theorem h_spec_l2With_2 : l_spec_l2With_2 = fun m0 p0 p1 p2 p3 p4 p5 p6 p7 p8 p9 p10 p11 => L_spec_l2With_2 N P_spec_l2Before P_spec_l2Own P_spec_l2Made m0 p0 p1 p2 p3 p4 p5 p6 p7 p8 p9 p10 p11 := hid_eq _
theorem p_spec_l2With (a0 : D_Heap) (a1 : D_A3) : P_spec_l2With (a0, a1, ()) = 
  l_spec_l2With_2 N a0.1 a0.2.1 a0.2.2.1 a0.2.2.2.1 a1.1 a1.2.1 a1.2.2.1 0 0 0 ([] : List D_A3) 0 := by
  rewrite [h_spec_l2With, h_spec_l2With_2]
  kernel_rfl
theorem q_spec_l2With_2 (m0 : Nat) (p0 : Int) (p1 : Int) (p2 : Int) (p3 : List D_A3) (p4 : Int) (p5 : Int) (p6 : Int) (p7 : Int) (p8 : Int) (p9 : Int) (p10 : List D_A3) (p11 : Int) : l_spec_l2With_2 (m0 + 1) p0 p1 p2 p3 p4 p5 p6 p7 p8 p9 p10 p11 = 
  bif decide (p11 < (List.length p3 : Int)) then
    bif inB p11 (List.length p3) then
      Option.bind (P_spec_l2Before ((nth T_A3 p3 p11), (p4, (p5, (p6, ()))), ())) fun r2 =>
      bif r2.1 then
        l_spec_l2With_2 m0 p0 p1 p2 p3 p4 p5 p6 p7 p8 p9 p10 (IntKind.wrap .i64 (p11 + 1))
      else
        bif decide (p11 < (List.length p3 : Int)) then
          bif inB p11 (List.length p3) then
            bif (decide (((nth T_A3 p3 p11)).1 = p4) && (decide ((((nth T_A3 p3 p11)).2).1 = p5) && (decide (((((nth T_A3 p3 p11)).2).2).1 = p6) && true))) then
              Option.bind (P_spec_l2Own ((p0, (p1, (p2, (p3, ())))), ())) fun r7 =>
              some (r7.1, ())
            else
              bif (decide ((0 : Int) ≤ 0) && decide ((0 : Int) ≤ p11) && decide (p11 ≤ (List.length p3 : Int))) then
                bif (decide (((List.length ([] : List D_A3)) + (List.length (cut p3 0 p11))) * 24 ≤ 140737488355328) && decide (((List.length ([] : List D_A3)) + (List.length (cut p3 0 p11))) ≤ 140737488355328)) then
                  bif (decide (((List.length (([] : List D_A3) ++ (cut p3 0 p11))) + (List.length ([(p4, (p5, (p6, ())))] : List D_A3))) * 24 ≤ 140737488355328) && decide (((List.length (([] : List D_A3) ++ (cut p3 0 p11))) + (List.length ([(p4, (p5, (p6, ())))] : List D_A3))) ≤ 140737488355328)) then
                    bif (decide ((0 : Int) ≤ p11) && decide (p11 ≤ (List.length p3 : Int)) && decide ((List.length p3 : Int) ≤ (List.length p3 : Int))) then
                      bif (decide (((List.length ((([] : List D_A3) ++ (cut p3 0 p11)) ++ ([(p4, (p5, (p6, ())))] : List D_A3))) + (List.length (cut p3 p11 (List.length p3 : Int)))) * 24 ≤ 140737488355328) && decide (((List.length ((([] : List D_A3) ++ (cut p3 0 p11)) ++ ([(p4, (p5, (p6, ())))] : List D_A3))) + (List.length (cut p3 p11 (List.length p3 : Int)))) ≤ 140737488355328)) then
                        Option.bind (P_spec_l2Made ((p0, (p1, (p2, (p3, ())))), (((([] : List D_A3) ++ (cut p3 0 p11)) ++ ([(p4, (p5, (p6, ())))] : List D_A3)) ++ (cut p3 p11 (List.length p3 : Int))), ())) fun r12 =>
                        some ((r12.1.1, (r12.1.2.1, (r12.1.2.2.1, ((((([] : List D_A3) ++ (cut p3 0 p11)) ++ ([(p4, (p5, (p6, ())))] : List D_A3)) ++ (cut p3 p11 (List.length p3 : Int))), ())))), ())
                      else none
                    else none
                  else none
                else none
              else none
          else none
        else
          bif (decide ((0 : Int) ≤ 0) && decide ((0 : Int) ≤ p11) && decide (p11 ≤ (List.length p3 : Int))) then
            bif (decide (((List.length ([] : List D_A3)) + (List.length (cut p3 0 p11))) * 24 ≤ 140737488355328) && decide (((List.length ([] : List D_A3)) + (List.length (cut p3 0 p11))) ≤ 140737488355328)) then
              bif (decide (((List.length (([] : List D_A3) ++ (cut p3 0 p11))) + (List.length ([(p4, (p5, (p6, ())))] : List D_A3))) * 24 ≤ 140737488355328) && decide (((List.length (([] : List D_A3) ++ (cut p3 0 p11))) + (List.length ([(p4, (p5, (p6, ())))] : List D_A3))) ≤ 140737488355328)) then
                bif (decide ((0 : Int) ≤ p11) && decide (p11 ≤ (List.length p3 : Int)) && decide ((List.length p3 : Int) ≤ (List.length p3 : Int))) then
                  bif (decide (((List.length ((([] : List D_A3) ++ (cut p3 0 p11)) ++ ([(p4, (p5, (p6, ())))] : List D_A3))) + (List.length (cut p3 p11 (List.length p3 : Int)))) * 24 ≤ 140737488355328) && decide (((List.length ((([] : List D_A3) ++ (cut p3 0 p11)) ++ ([(p4, (p5, (p6, ())))] : List D_A3))) + (List.length (cut p3 p11 (List.length p3 : Int)))) ≤ 140737488355328)) then
                    Option.bind (P_spec_l2Made ((p0, (p1, (p2, (p3, ())))), (((([] : List D_A3) ++ (cut p3 0 p11)) ++ ([(p4, (p5, (p6, ())))] : List D_A3)) ++ (cut p3 p11 (List.length p3 : Int))), ())) fun r10 =>
                    some ((r10.1.1, (r10.1.2.1, (r10.1.2.2.1, ((((([] : List D_A3) ++ (cut p3 0 p11)) ++ ([(p4, (p5, (p6, ())))] : List D_A3)) ++ (cut p3 p11 (List.length p3 : Int))), ())))), ())
                  else none
                else none
              else none
            else none
          else none
    else none
  else
    bif decide (p11 < (List.length p3 : Int)) then
      bif inB p11 (List.length p3) then
        bif (decide (((nth T_A3 p3 p11)).1 = p4) && (decide ((((nth T_A3 p3 p11)).2).1 = p5) && (decide (((((nth T_A3 p3 p11)).2).2).1 = p6) && true))) then
          Option.bind (P_spec_l2Own ((p0, (p1, (p2, (p3, ())))), ())) fun r4 =>
          some (r4.1, ())
        else
          bif (decide ((0 : Int) ≤ 0) && decide ((0 : Int) ≤ p11) && decide (p11 ≤ (List.length p3 : Int))) then
            bif (decide (((List.length ([] : List D_A3)) + (List.length (cut p3 0 p11))) * 24 ≤ 140737488355328) && decide (((List.length ([] : List D_A3)) + (List.length (cut p3 0 p11))) ≤ 140737488355328)) then
              bif (decide (((List.length (([] : List D_A3) ++ (cut p3 0 p11))) + (List.length ([(p4, (p5, (p6, ())))] : List D_A3))) * 24 ≤ 140737488355328) && decide (((List.length (([] : List D_A3) ++ (cut p3 0 p11))) + (List.length ([(p4, (p5, (p6, ())))] : List D_A3))) ≤ 140737488355328)) then
                bif (decide ((0 : Int) ≤ p11) && decide (p11 ≤ (List.length p3 : Int)) && decide ((List.length p3 : Int) ≤ (List.length p3 : Int))) then
                  bif (decide (((List.length ((([] : List D_A3) ++ (cut p3 0 p11)) ++ ([(p4, (p5, (p6, ())))] : List D_A3))) + (List.length (cut p3 p11 (List.length p3 : Int)))) * 24 ≤ 140737488355328) && decide (((List.length ((([] : List D_A3) ++ (cut p3 0 p11)) ++ ([(p4, (p5, (p6, ())))] : List D_A3))) + (List.length (cut p3 p11 (List.length p3 : Int)))) ≤ 140737488355328)) then
                    Option.bind (P_spec_l2Made ((p0, (p1, (p2, (p3, ())))), (((([] : List D_A3) ++ (cut p3 0 p11)) ++ ([(p4, (p5, (p6, ())))] : List D_A3)) ++ (cut p3 p11 (List.length p3 : Int))), ())) fun r9 =>
                    some ((r9.1.1, (r9.1.2.1, (r9.1.2.2.1, ((((([] : List D_A3) ++ (cut p3 0 p11)) ++ ([(p4, (p5, (p6, ())))] : List D_A3)) ++ (cut p3 p11 (List.length p3 : Int))), ())))), ())
                  else none
                else none
              else none
            else none
          else none
      else none
    else
      bif (decide ((0 : Int) ≤ 0) && decide ((0 : Int) ≤ p11) && decide (p11 ≤ (List.length p3 : Int))) then
        bif (decide (((List.length ([] : List D_A3)) + (List.length (cut p3 0 p11))) * 24 ≤ 140737488355328) && decide (((List.length ([] : List D_A3)) + (List.length (cut p3 0 p11))) ≤ 140737488355328)) then
          bif (decide (((List.length (([] : List D_A3) ++ (cut p3 0 p11))) + (List.length ([(p4, (p5, (p6, ())))] : List D_A3))) * 24 ≤ 140737488355328) && decide (((List.length (([] : List D_A3) ++ (cut p3 0 p11))) + (List.length ([(p4, (p5, (p6, ())))] : List D_A3))) ≤ 140737488355328)) then
            bif (decide ((0 : Int) ≤ p11) && decide (p11 ≤ (List.length p3 : Int)) && decide ((List.length p3 : Int) ≤ (List.length p3 : Int))) then
              bif (decide (((List.length ((([] : List D_A3) ++ (cut p3 0 p11)) ++ ([(p4, (p5, (p6, ())))] : List D_A3))) + (List.length (cut p3 p11 (List.length p3 : Int)))) * 24 ≤ 140737488355328) && decide (((List.length ((([] : List D_A3) ++ (cut p3 0 p11)) ++ ([(p4, (p5, (p6, ())))] : List D_A3))) + (List.length (cut p3 p11 (List.length p3 : Int)))) ≤ 140737488355328)) then
                Option.bind (P_spec_l2Made ((p0, (p1, (p2, (p3, ())))), (((([] : List D_A3) ++ (cut p3 0 p11)) ++ ([(p4, (p5, (p6, ())))] : List D_A3)) ++ (cut p3 p11 (List.length p3 : Int))), ())) fun r7 =>
                some ((r7.1.1, (r7.1.2.1, (r7.1.2.2.1, ((((([] : List D_A3) ++ (cut p3 0 p11)) ++ ([(p4, (p5, (p6, ())))] : List D_A3)) ++ (cut p3 p11 (List.length p3 : Int))), ())))), ())
              else none
            else none
          else none
        else none
      else none := by
  rewrite [h_spec_l2With_2]
  kernel_rfl

/- 9: loop.example/g01166/spec.PutCube -/
abbrev As_spec_PutCube : List ATy := [.data true T_Heap, .data true T_A3]
abbrev R_spec_PutCube : List (Bool × Ty) := [(true, T_Heap), (false, .bool)]
abbrev M_spec_PutCube : List RMode := [.own 27]
abbrev Ft_spec_PutCube : Type := D_Heap × D_A3 × Unit → Option (D_Heap × Bool × Unit)
noncomputable def X_spec_PutCube (n : Nat) (F_spec_l2Cell : Ft_spec_l2Cell) (F_spec_l2Has : Ft_spec_l2Has) (F_spec_l2With : Ft_spec_l2With) : Ctx := { types := TT, globals := [], con := [(36, ⟨As_spec_l2Cell, R_spec_l2Cell, M_spec_l2Cell, F_spec_l2Cell⟩), (37, ⟨As_spec_l2Has, R_spec_l2Has, M_spec_l2Has, F_spec_l2Has⟩), (42, ⟨As_spec_l2With, R_spec_l2With, M_spec_l2With, F_spec_l2With⟩)], keep := [], results := [.cell 4 26, .tmp 5], ntmps := 19, n := n }
noncomputable def B_spec_PutCube : Code := (Tryz.f9.body).getD .skip
noncomputable def P_spec_PutCube : Ft_spec_PutCube := hid (runF (X_spec_PutCube N P_spec_l2Cell P_spec_l2Has P_spec_l2With) B_spec_PutCube As_spec_PutCube R_spec_PutCube M_spec_PutCube)
theorem h_spec_PutCube : P_spec_PutCube = runF (X_spec_PutCube N P_spec_l2Cell P_spec_l2Has P_spec_l2With) B_spec_PutCube As_spec_PutCube R_spec_PutCube M_spec_PutCube := hid_eq _
noncomputable def C_spec_PutCube : Contract := ⟨As_spec_PutCube, R_spec_PutCube, M_spec_PutCube, P_spec_PutCube⟩
theorem s_spec_PutCube : Sound Tryz.prog GG 9 C_spec_PutCube := by
  unfold C_spec_PutCube; rw [h_spec_PutCube]
  exact sound_of_run (fn := Tryz.f9) hmix hstable (tyOK_of ttOK) (hglob (X_spec_PutCube N P_spec_l2Cell P_spec_l2Has P_spec_l2With)) (conOK_of (X := X_spec_PutCube N P_spec_l2Cell P_spec_l2Has P_spec_l2With) ⟨s_spec_l2Cell, s_spec_l2Has, s_spec_l2With, trivial⟩) (mconOK_of (X := X_spec_PutCube N P_spec_l2Cell P_spec_l2Has P_spec_l2With) trivial) (by kernel_rfl) (by kernel_rfl) (by kernel_rfl) (by kernel_rfl) (by kernel_rfl) (of_decide_eq_true (by kernel_rfl))
theorem p_spec_PutCube (a0 : D_Heap) (a1 : D_A3) : P_spec_PutCube (a0, a1, ()) = 
  Option.bind (P_spec_l2Cell (a0, a1, ())) fun r0 =>
  bif !r0.1 then
    some ((0, (0, (0, (([] : List D_A3), ())))), false, ())
  else
    Option.bind (P_spec_l2Has (a0, a1, ())) fun r2 =>
    bif r2.1 then
      some ((0, (0, (0, (([] : List D_A3), ())))), false, ())
    else
      Option.bind (P_spec_l2With (a0, a1, ())) fun r4 =>
      some (r4.1, true, ()) := by
  rewrite [h_spec_PutCube]
  kernel_rfl

/- 13: loop.example/g01166/laws.rCells -/
abbrev As_laws_rCells : List ATy := [.data false (.sl T_A3), .data false (.sl T_A3)]
abbrev R_laws_rCells : List (Bool × Ty) := [(false, .bool)]
abbrev M_laws_rCells : List RMode := []
abbrev Ft_laws_rCells : Type := (List D_A3) × (List D_A3) × Unit → Option (Bool × Unit)
noncomputable def X_laws_rCells (n : Nat) : Ctx := { types := TT, globals := [], con := [], keep := [(4, ⟨[.tmp 0, .tmp 1, .tmp 5], []⟩)], results := [.tmp 4], ntmps := 26, n := n }
noncomputable def B_laws_rCells : Code := (Tryz.f13.body).getD .skip
noncomputable def L_laws_rCells_4 (n : Nat) (m0 : Nat) (p0 : List D_A3) (p1 : List D_A3) (p2 : Int) : Option (denL R_laws_rCells) := loopF (X_laws_rCells n) B_laws_rCells R_laws_rCells M_laws_rCells 4 [m0] [(.ver, .num 1), (.tmp 0, .val false [.imm T_A3 p0 (some 0)]), (.tmp 1, .val false [.imm T_A3 p1 (some 1)]), (.tmp 5, .val false [.int .i64 p2])]
noncomputable def P_laws_rCells : Ft_laws_rCells := hid (runF (X_laws_rCells N) B_laws_rCells As_laws_rCells R_laws_rCells M_laws_rCells)
theorem h_laws_rCells : P_laws_rCells = runF (X_laws_rCells N) B_laws_rCells As_laws_rCells R_laws_rCells M_laws_rCells := hid_eq _
noncomputable def C_laws_rCells : Contract := ⟨As_laws_rCells, R_laws_rCells, M_laws_rCells, P_laws_rCells⟩
theorem s_laws_rCells : Sound Tryz.prog GG 13 C_laws_rCells := by
  unfold C_laws_rCells; rw [h_laws_rCells]
  exact sound_of_run (fn := Tryz.f13) hmix hstable (tyOK_of ttOK) (hglob (X_laws_rCells N)) (conOK_of (X := X_laws_rCells N) trivial) (mconOK_of (X := X_laws_rCells N) trivial) (by kernel_rfl) (by kernel_rfl) (by kernel_rfl) (by kernel_rfl) (by kernel_rfl) (of_decide_eq_true (by kernel_rfl))
noncomputable def l_laws_rCells_4 : Nat → (List D_A3) → (List D_A3) → Int → Option (denL R_laws_rCells) := hid (fun m0 p0 p1 p2 => L_laws_rCells_4 N m0 p0 p1 p2)
theorem h_laws_rCells_4 : l_laws_rCells_4 = fun m0 p0 p1 p2 => L_laws_rCells_4 N m0 p0 p1 p2 := hid_eq _
theorem p_laws_rCells (a0 : List D_A3) (a1 : List D_A3) : P_laws_rCells (a0, a1, ()) = 
  bif !decide ((List.length a0 : Int) = (List.length a1 : Int)) then
    some (false, ())
  else
    l_laws_rCells_4 N a0 a1 0 := by
  rewrite [h_laws_rCells, h_laws_rCells_4]
  kernel_rfl
theorem q_laws_rCells_4 (m0 : Nat) (p0 : List D_A3) (p1 : List D_A3) (p2 : Int) : l_laws_rCells_4 (m0 + 1) p0 p1 p2 = 
  bif decide (p2 < (List.length p0 : Int)) then
    bif inB p2 (List.length p0) then
      bif inB p2 (List.length p1) then
        bif !(decide (((nth T_A3 p0 p2)).1 = ((nth T_A3 p1 p2)).1) && (decide ((((nth T_A3 p0 p2)).2).1 = (((nth T_A3 p1 p2)).2).1) && (decide (((((nth T_A3 p0 p2)).2).2).1 = ((((nth T_A3 p1 p2)).2).2).1) && true))) then
          some (false, ())
        else
          l_laws_rCells_4 m0 p0 p1 (IntKind.wrap .i64 (p2 + 1))
      else none
    else none
  else
    some (true, ()) := by
  rewrite [h_laws_rCells_4]
  kernel_rfl

/- 10: loop.example/g01166/laws.rHeap -/
abbrev As_laws_rHeap : List ATy := [.data true T_Heap, .data true T_Heap]
abbrev R_laws_rHeap : List (Bool × Ty) := [(false, .bool)]
abbrev M_laws_rHeap : List RMode := []
abbrev Ft_laws_rHeap : Type := D_Heap × D_Heap × Unit → Option (Bool × Unit)
noncomputable def X_laws_rHeap (n : Nat) (F_laws_rCells : Ft_laws_rCells) : Ctx := { types := TT, globals := [], con := [(13, ⟨As_laws_rCells, R_laws_rCells, M_laws_rCells, F_laws_rCells⟩)], keep := [], results := [.tmp 4], ntmps := 31, n := n }
noncomputable def B_laws_rHeap : Code := (Tryz.f10.body).getD .skip
noncomputable def P_laws_rHeap : Ft_laws_rHeap := hid (runF (X_laws_rHeap N P_laws_rCells) B_laws_rHeap As_laws_rHeap R_laws_rHeap M_laws_rHeap)
theorem h_laws_rHeap : P_laws_rHeap = runF (X_laws_rHeap N P_laws_rCells) B_laws_rHeap As_laws_rHeap R_laws_rHeap M_laws_rHeap := hid_eq _
noncomputable def C_laws_rHeap : Contract := ⟨As_laws_rHeap, R_laws_rHeap, M_laws_rHeap, P_laws_rHeap⟩
theorem s_laws_rHeap : Sound Tryz.prog GG 10 C_laws_rHeap := by
  unfold C_laws_rHeap; rw [h_laws_rHeap]
  exact sound_of_run (fn := Tryz.f10) hmix hstable (tyOK_of ttOK) (hglob (X_laws_rHeap N P_laws_rCells)) (conOK_of (X := X_laws_rHeap N P_laws_rCells) ⟨s_laws_rCells, trivial⟩) (mconOK_of (X := X_laws_rHeap N P_laws_rCells) trivial) (by kernel_rfl) (by kernel_rfl) (by kernel_rfl) (by kernel_rfl) (by kernel_rfl) (of_decide_eq_true (by kernel_rfl))
theorem p_laws_rHeap (a0 : D_Heap) (a1 : D_Heap) : P_laws_rHeap (a0, a1, ()) = 
  bif decide (a0.1 = a1.1) then
    bif decide (a0.2.1 = a1.2.1) then
      bif decide (a0.2.2.1 = a1.2.2.1) then
        Option.bind (P_laws_rCells (a0.2.2.2.1, a1.2.2.2.1, ())) fun r3 =>
        some (r3.1, ())
      else
        some (false, ())
    else
      some (false, ())
  else
    some (false, ()) := by
  rewrite [h_laws_rHeap]
  kernel_rfl

/- 44: (loop.example/g01166/impl.box).near -/
abbrev As_box_near : List ATy := [.data true T_A3, .data true T_A3]
abbrev R_box_near : List (Bool × Ty) := [(false, (.int .u64))]
abbrev M_box_near : List RMode := []
abbrev Ft_box_near : Type := D_A3 × D_A3 × Unit → Option (Int × Unit)
noncomputable def X_box_near (n : Nat) (F_box_index : Ft_box_index) (F_box_has : Ft_box_has) : Ctx := { types := TT, globals := [], con := [(41, ⟨As_box_index, R_box_index, M_box_index, F_box_index⟩), (52, ⟨As_box_has, R_box_has, M_box_has, F_box_has⟩)], keep := [(3, ⟨[.box 2, .box 3, .tmp 2, .tmp 3, .tmp 5, .tmp 10], []⟩), (6, ⟨[.box 2, .box 3, .tmp 2, .tmp 3, .tmp 5, .tmp 6, .tmp 10, .tmp 13, .tmp 14], []⟩)], results := [.tmp 4], ntmps := 36, n := n }
noncomputable def B_box_near : Code := (Tryz.f44.body).getD .skip
noncomputable def L_box_near_3 (n : Nat) (F_box_index : Ft_box_index) (F_box_has : Ft_box_has) (m0 : Nat) (p0 : Int) (p1 : Int) (p2 : Int) (p3 : Int) (p4 : Int) (p5 : Int) (p6 : Int) (p7 : Int) : Option (denL R_box_near) := loopF (X_box_near n F_box_index F_box_has) B_box_near R_box_near M_box_near 3 [m0] [(.ver, .num 1), (.box 2, .box 0 false [.int .i64 p0, .int .i64 p1, .int .i64 p2]), (.box 3, .box 0 false [.int .i64 p3, .int .i64 p4, .int .i64 p5]), (.tmp 2, .val false [.addr 2 0 0]), (.tmp 3, .val false [.addr 3 0 0]), (.tmp 5, .val false [.int .u64 p6]), (.tmp 10, .val false [.int .i64 p7])]
noncomputable def L_box_near_6 (n : Nat) (F_box_index : Ft_box_index) (F_box_has : Ft_box_has) (m0 m1 : Nat) (p0 : Int) (p1 : Int) (p2 : Int) (p3 : Int) (p4 : Int) (p5 : Int) (p6 : Int) (p7 : Int) (p8 : Int) (p9 : Int) (p10 : Int) (p11 : Int) : Option (denL R_box_near) := loopF (X_box_near n F_box_index F_box_has) B_box_near R_box_near M_box_near 6 [m0, m1] [(.ver, .num 1), (.box 2, .box 0 false [.int .i64 p0, .int .i64 p1, .int .i64 p2]), (.box 3, .box 0 false [.int .i64 p3, .int .i64 p4, .int .i64 p5]), (.tmp 2, .val false [.addr 2 0 0]), (.tmp 3, .val false [.addr 3 0 0]), (.tmp 5, .val false [.int .u64 p6]), (.tmp 6, .val false [.int .i64 p7]), (.tmp 10, .val false [.int .i64 p8]), (.tmp 13, .val true [.int .i64 p9, .int .i64 p10]), (.tmp 14, .val false [.int .i64 p11])]
noncomputable def P_box_near : Ft_box_near := hid (runF (X_box_near N P_box_index P_box_has) B_box_near As_box_near R_box_near M_box_near)
theorem h_box_near : P_box_near = runF (X_box_near N P_box_index P_box_has) B_box_near As_box_near R_box_near M_box_near := hid_eq _
noncomputable def C_box_near : Contract := ⟨As_box_near, R_box_near, M_box_near, P_box_near⟩
theorem s_box_near : Sound Tryz.prog GG 44 C_box_near := by
  unfold C_box_near; rw [h_box_near]
  exact sound_of_run (fn := Tryz.f44) hmix hstable (tyOK_of ttOK) (hglob (X_box_near N P_box_index P_box_has)) (conOK_of (X := X_box_near N P_box_index P_box_has) ⟨s_box_index, s_box_has, trivial⟩) (mconOK_of (X := X_box_near N P_box_index P_box_has) trivial) (by kernel_rfl) (by kernel_rfl) (by kernel_rfl) (by kernel_rfl) (by kernel_rfl) (of_decide_eq_true (by kernel_rfl))
noncomputable def l_box_near_3 : Nat → Int → Int → Int → Int → Int → Int → Int → Int → Option (denL R_box_near) := hid (fun m0 p0 p1 p2 p3 p4 p5 p6 p7 => L_box_near_3 N P_box_index P_box_has m0 p0 p1 p2 p3 p4 p5 p6 p7)
theorem h_box_near_3 : l_box_near_3 = fun m0 p0 p1 p2 p3 p4 p5 p6 p7 => L_box_near_3 N P_box_index P_box_has m0 p0 p1 p2 p3 p4 p5 p6 p7 := hid_eq _
noncomputable def l_box_near_6 : Nat → Nat → Int → Int → Int → Int → Int → Int → Int → Int → Int → Int → Int → Int → Option (denL R_box_near) := hid (fun m0 m1 p0 p1 p2 p3 p4 p5 p6 p7 p8 p9 p10 p11 => L_box_near_6 N P_box_index P_box_has m0 m1 p0 p1 p2 p3 p4 p5 p6 p7 p8 p9 p10 p11)
theorem h_box_near_6 : l_box_near_6 = fun m0 m1 p0 p1 p2 p3 p4 p5 p6 p7 p8 p9 p10 p11 => L_box_near_6 N P_box_index P_box_has m0 m1 p0 p1 p2 p3 p4 p5 p6 p7 p8 p9 p10 p11 := hid_eq _
theorem p_box_near (a0 : D_A3) (a1 : D_A3) : P_box_near (a0, a1, ()) = 
  l_box_near_3 N a0.1 a0.2.1 a0.2.2.1 a1.1 a1.2.1 a1.2.2.1 0 0 := by
  rewrite [h_box_near, h_box_near_3]
  kernel_rfl
theorem q_box_near_3 (m0 : Nat) (p0 : Int) (p1 : Int) (p2 : Int) (p3 : Int) (p4 : Int) (p5 : Int) (p6 : Int) (p7 : Int) : l_box_near_3 (m0 + 1) p0 p1 p2 p3 p4 p5 p6 p7 = 
  bif decide (p7 < 3) then
    l_box_near_6 m0 N p0 p1 p2 p3 p4 p5 p6 p7 p7 (-1) 1 0
  else
    some (p6, ()) := by
  rewrite [h_box_near_3, h_box_near_6]
  kernel_rfl
theorem q_box_near_6 (m0 m1 : Nat) (p0 : Int) (p1 : Int) (p2 : Int) (p3 : Int) (p4 : Int) (p5 : Int) (p6 : Int) (p7 : Int) (p8 : Int) (p9 : Int) (p10 : Int) (p11 : Int) : l_box_near_6 m0 (m1 + 1) p0 p1 p2 p3 p4 p5 p6 p7 p8 p9 p10 p11 = 
  bif decide (p11 < 2) then
    bif inB p11 2 then
      bif inB p7 3 then
        bif inB p7 3 then
          Option.bind (P_box_has ((p0, (p1, (p2, ()))), ((bif decide (p7 = (0 : Int)) then (IntKind.wrap .i64 ((bif decide (p7 = (0 : Int)) then p3 else (bif decide (p7 = (1 : Int)) then p4 else p5)) + (bif decide (p11 = (0 : Int)) then p9 else p10))) else p3), ((bif decide (p7 = (1 : Int)) then (IntKind.wrap .i64 ((bif decide (p7 = (0 : Int)) then p3 else (bif decide (p7 = (1 : Int)) then p4 else p5)) + (bif decide (p11 = (0 : Int)) then p9 else p10))) else p4), ((bif decide (p7 = (2 : Int)) then (IntKind.wrap .i64 ((bif decide (p7 = (0 : Int)) then p3 else (bif decide (p7 = (1 : Int)) then p4 else p5)) + (bif decide (p11 = (0 : Int)) then p9 else p10))) else p5), ()))), ())) fun r4 =>
          bif r4.1 then
            Option.bind (P_box_index ((p0, (p1, (p2, ()))), ((bif decide (p7 = (0 : Int)) then (IntKind.wrap .i64 ((bif decide (p7 = (0 : Int)) then p3 else (bif decide (p7 = (1 : Int)) then p4 else p5)) + (bif decide (p11 = (0 : Int)) then p9 else p10))) else p3), ((bif decide (p7 = (1 : Int)) then (IntKind.wrap .i64 ((bif decide (p7 = (0 : Int)) then p3 else (bif decide (p7 = (1 : Int)) then p4 else p5)) + (bif decide (p11 = (0 : Int)) then p9 else p10))) else p4), ((bif decide (p7 = (2 : Int)) then (IntKind.wrap .i64 ((bif decide (p7 = (0 : Int)) then p3 else (bif decide (p7 = (1 : Int)) then p4 else p5)) + (bif decide (p11 = (0 : Int)) then p9 else p10))) else p5), ()))), ())) fun r6 =>
            bif decide ((0 : Int) ≤ r6.1) then
              l_box_near_6 m0 m1 p0 p1 p2 p3 p4 p5 (intBits .or .u64 p6 (shlI .u64 1 r6.1)) p7 p8 p9 p10 (IntKind.wrap .i64 (p11 + 1))
            else none
          else
            l_box_near_6 m0 m1 p0 p1 p2 p3 p4 p5 p6 p7 p8 p9 p10 (IntKind.wrap .i64 (p11 + 1))
        else none
      else none
    else none
  else
    l_box_near_3 m0 p0 p1 p2 p3 p4 p5 p6 (IntKind.wrap .i64 (p8 + 1)) := by
  rewrite [h_box_near_3, h_box_near_6]
  kernel_rfl

/- 11: loop.example/g01166/impl.NearCubes -/
abbrev As_impl_NearCubes : List ATy := [.data true T_Heap, .data true T_A3]
abbrev R_impl_NearCubes : List (Bool × Ty) := [(false, (.sl T_A3)), (false, .bool)]
abbrev M_impl_NearCubes : List RMode := [.own 27]
abbrev Ft_impl_NearCubes : Type := D_Heap × D_A3 × Unit → Option ((List D_A3) × Bool × Unit)
noncomputable def X_impl_NearCubes (n : Nat) (F_impl_isCell : Ft_impl_isCell) (F_Heap_box : Ft_Heap_box) (F_Heap_cubes : Ft_Heap_cubes) (F_box_list : Ft_box_list) (F_box_near : Ft_box_near) : Ctx := { types := TT, globals := [], con := [(34, ⟨As_impl_isCell, R_impl_isCell, M_impl_isCell, F_impl_isCell⟩), (38, ⟨As_Heap_box, R_Heap_box, M_Heap_box, F_Heap_box⟩), (40, ⟨As_Heap_cubes, R_Heap_cubes, M_Heap_cubes, F_Heap_cubes⟩), (43, ⟨As_box_list, R_box_list, M_box_list, F_box_list⟩), (44, ⟨As_box_near, R_box_near, M_box_near, F_box_near⟩)], keep := [], results := [.tmp 4, .tmp 5], ntmps := 20, n := n }
noncomputable def B_impl_NearCubes : Code := (Tryz.f11.body).getD .skip
noncomputable def P_impl_NearCubes : Ft_impl_NearCubes := hid (runF (X_impl_NearCubes N P_impl_isCell P_Heap_box P_Heap_cubes P_box_list P_box_near) B_impl_NearCubes As_impl_NearCubes R_impl_NearCubes M_impl_NearCubes)
theorem h_impl_NearCubes : P_impl_NearCubes = runF (X_impl_NearCubes N P_impl_isCell P_Heap_box P_Heap_cubes P_box_list P_box_near) B_impl_NearCubes As_impl_NearCubes R_impl_NearCubes M_impl_NearCubes := hid_eq _
noncomputable def C_impl_NearCubes : Contract := ⟨As_impl_NearCubes, R_impl_NearCubes, M_impl_NearCubes, P_impl_NearCubes⟩
theorem s_impl_NearCubes : Sound Tryz.prog GG 11 C_impl_NearCubes := by
  unfold C_impl_NearCubes; rw [h_impl_NearCubes]
  exact sound_of_run (fn := Tryz.f11) hmix hstable (tyOK_of ttOK) (hglob (X_impl_NearCubes N P_impl_isCell P_Heap_box P_Heap_cubes P_box_list P_box_near)) (conOK_of (X := X_impl_NearCubes N P_impl_isCell P_Heap_box P_Heap_cubes P_box_list P_box_near) ⟨s_impl_isCell, s_Heap_box, s_Heap_cubes, s_box_list, s_box_near, trivial⟩) (mconOK_of (X := X_impl_NearCubes N P_impl_isCell P_Heap_box P_Heap_cubes P_box_list P_box_near) trivial) (by kernel_rfl) (by kernel_rfl) (by kernel_rfl) (by kernel_rfl) (by kernel_rfl) (of_decide_eq_true (by kernel_rfl))
theorem p_impl_NearCubes (a0 : D_Heap) (a1 : D_A3) : P_impl_NearCubes (a0, a1, ()) = 
  Option.bind (P_impl_isCell (a0, a1, ())) fun r0 =>
  bif !r0.1 then
    some (([] : List D_A3), false, ())
  else
    Option.bind (P_Heap_box (a0, ())) fun r2 =>
    Option.bind (P_Heap_box (a0, ())) fun r3 =>
    Option.bind (P_box_near (r3.1, a1, ())) fun r4 =>
    Option.bind (P_Heap_cubes (a0, ())) fun r5 =>
    Option.bind (P_box_list (r2.1, (intBits .and .u64 r4.1 r5.1), ())) fun r6 =>
    some (r6.1, true, ()) := by
  rewrite [h_impl_NearCubes]
  kernel_rfl

/- 81: loop.example/g01166/spec.l2Apart -/
abbrev As_spec_l2Apart : List ATy := [.data true T_A3, .data true T_A3]
abbrev R_spec_l2Apart : List (Bool × Ty) := [(false, (.int .i64))]
abbrev M_spec_l2Apart : List RMode := []
abbrev Ft_spec_l2Apart : Type := D_A3 × D_A3 × Unit → Option (Int × Unit)
noncomputable def X_spec_l2Apart (n : Nat) (F_spec_l1Most : Ft_spec_l1Most) : Ctx := { types := TT, globals := [], con := [(70, ⟨As_spec_l1Most, R_spec_l1Most, M_spec_l1Most, F_spec_l1Most⟩)], keep := [(3, ⟨[.box 2, .box 3, .tmp 2, .tmp 3, .tmp 5, .tmp 6], []⟩)], results := [.tmp 4], ntmps := 29, n := n }
noncomputable def B_spec_l2Apart : Code := (Tryz.f81.body).getD .skip
noncomputable def L_spec_l2Apart_3 (n : Nat) (F_spec_l1Most : Ft_spec_l1Most) (m0 : Nat) (p0 : Int) (p1 : Int) (p2 : Int) (p3 : Int) (p4 : Int) (p5 : Int) (p6 : Int) (p7 : Int) : Option (denL R_spec_l2Apart) := loopF (X_spec_l2Apart n F_spec_l1Most) B_spec_l2Apart R_spec_l2Apart M_spec_l2Apart 3 [m0] [(.ver, .num 1), (.box 2, .box 0 false [.int .i64 p0, .int .i64 p1, .int .i64 p2]), (.box 3, .box 0 false [.int .i64 p3, .int .i64 p4, .int .i64 p5]), (.tmp 2, .val false [.addr 2 0 0]), (.tmp 3, .val false [.addr 3 0 0]), (.tmp 5, .val false [.int .i64 p6]), (.tmp 6, .val false [.int .i64 p7])]
noncomputable def P_spec_l2Apart : Ft_spec_l2Apart := hid (runF (X_spec_l2Apart N P_spec_l1Most) B_spec_l2Apart As_spec_l2Apart R_spec_l2Apart M_spec_l2Apart)
theorem h_spec_l2Apart : P_spec_l2Apart = runF (X_spec_l2Apart N P_spec_l1Most) B_spec_l2Apart As_spec_l2Apart R_spec_l2Apart M_spec_l2Apart := hid_eq _
noncomputable def C_spec_l2Apart : Contract := ⟨As_spec_l2Apart, R_spec_l2Apart, M_spec_l2Apart, P_spec_l2Apart⟩
theorem s_spec_l2Apart : Sound Tryz.prog GG 81 C_spec_l2Apart := by
  unfold C_spec_l2Apart; rw [h_spec_l2Apart]
  exact sound_of_run (fn := Tryz.f81) hmix hstable (tyOK_of ttOK) (hglob (X_spec_l2Apart N P_spec_l1Most)) (conOK_of (X := X_spec_l2Apart N P_spec_l1Most) ⟨s_spec_l1Most, trivial⟩) (mconOK_of (X := X_spec_l2Apart N P_spec_l1Most) trivial) (by kernel_rfl) (by kernel_rfl) (by kernel_rfl) (by kernel_rfl) (by kernel_rfl) (of_decide_eq_true (by kernel_rfl))
noncomputable def l_spec_l2Apart_3 : Nat → Int → Int → Int → Int → Int → Int → Int → Int → Option (denL R_spec_l2Apart) := hid (fun m0 p0 p1 p2 p3 p4 p5 p6 p7 => L_spec_l2Apart_3 N P_spec_l1Most m0 p0 p1 p2 p3 p4 p5 p6 p7)
theorem h_spec_l2Apart_3 : l_spec_l2Apart_3 = fun m0 p0 p1 p2 p3 p4 p5 p6 p7 => L_spec_l2Apart_3 N P_spec_l1Most m0 p0 p1 p2 p3 p4 p5 p6 p7 := hid_eq _
theorem p_spec_l2Apart (a0 : D_A3) (a1 : D_A3) : P_spec_l2Apart (a0, a1, ()) = 
  l_spec_l2Apart_3 N a0.1 a0.2.1 a0.2.2.1 a1.1 a1.2.1 a1.2.2.1 0 0 := by
  rewrite [h_spec_l2Apart, h_spec_l2Apart_3]
  kernel_rfl
theorem q_spec_l2Apart_3 (m0 : Nat) (p0 : Int) (p1 : Int) (p2 : Int) (p3 : Int) (p4 : Int) (p5 : Int) (p6 : Int) (p7 : Int) : l_spec_l2Apart_3 (m0 + 1) p0 p1 p2 p3 p4 p5 p6 p7 = 
  bif decide (p7 < 3) then
    bif inB p7 3 then
      bif inB p7 3 then
        bif inB p7 3 then
          bif inB p7 3 then
            Option.bind (P_spec_l1Most ((IntKind.wrap .i64 ((bif decide (p7 = (0 : Int)) then p0 else (bif decide (p7 = (1 : Int)) then p1 else p2)) - (bif decide (p7 = (0 : Int)) then p3 else (bif decide (p7 = (1 : Int)) then p4 else p5)))), (IntKind.wrap .i64 ((bif decide (p7 = (0 : Int)) then p3 else (bif decide (p7 = (1 : Int)) then p4 else p5)) - (bif decide (p7 = (0 : Int)) then p0 else (bif decide (p7 = (1 : Int)) then p1 else p2)))), ())) fun r5 =>
            l_spec_l2Apart_3 m0 p0 p1 p2 p3 p4 p5 (IntKind.wrap .i64 (p6 + r5.1)) (IntKind.wrap .i64 (p7 + 1))
          else none
        else none
      else none
    else none
  else
    some (p6, ()) := by
  rewrite [h_spec_l2Apart_3]
  kernel_rfl

/- 45: loop.example/g01166/spec.l2Near -/
abbrev As_spec_l2Near : List ATy := [.data true T_Heap, .data true T_A3]
abbrev R_spec_l2Near : List (Bool × Ty) := [(false, (.sl T_A3))]
abbrev M_spec_l2Near : List RMode := [.own 27]
abbrev Ft_spec_l2Near : Type := D_Heap × D_A3 × Unit → Option ((List D_A3) × Unit)
noncomputable def X_spec_l2Near (n : Nat) (F_spec_l2Apart : Ft_spec_l2Apart) : Ctx := { types := TT, globals := [], con := [(81, ⟨As_spec_l2Apart, R_spec_l2Apart, M_spec_l2Apart, F_spec_l2Apart⟩)], keep := [(3, ⟨[.box 2, .box 3, .tmp 2, .tmp 3, .tmp 5, .tmp 6], []⟩)], results := [.tmp 4], ntmps := 32, n := n }
noncomputable def B_spec_l2Near : Code := (Tryz.f45.body).getD .skip
noncomputable def L_spec_l2Near_3 (n : Nat) (F_spec_l2Apart : Ft_spec_l2Apart) (m0 : Nat) (p0 : Int) (p1 : Int) (p2 : Int) (p3 : List D_A3) (p4 : Int) (p5 : Int) (p6 : Int) (p7 : List D_A3) (p8 : Int) : Option (denL R_spec_l2Near) := loopF (X_spec_l2Near n F_spec_l2Apart) B_spec_l2Near R_spec_l2Near M_spec_l2Near 3 [m0] [(.ver, .num 1), (.box 2, .box 0 false [.int .i64 p0, .int .i64 p1, .int .i64 p2, .imm T_A3 p3 (some 3)]), (.box 3, .box 0 false [.int .i64 p4, .int .i64 p5, .int .i64 p6]), (.tmp 2, .val false [.addr 2 0 0]), (.tmp 3, .val false [.addr 3 0 0]), (.tmp 5, .val false [.own 27 T_A3 0 p7]), (.tmp 6, .val false [.int .i64 p8])]
noncomputable def P_spec_l2Near : Ft_spec_l2Near := hid (runF (X_spec_l2Near N P_spec_l2Apart) B_spec_l2Near As_spec_l2Near R_spec_l2Near M_spec_l2Near)
theorem h_spec_l2Near : P_spec_l2Near = runF (X_spec_l2Near N P_spec_l2Apart) B_spec_l2Near As_spec_l2Near R_spec_l2Near M_spec_l2Near := hid_eq _
noncomputable def C_spec_l2Near : Contract := ⟨As_spec_l2Near, R_spec_l2Near, M_spec_l2Near, P_spec_l2Near⟩
theorem s_spec_l2Near : Sound Tryz.prog GG 45 C_spec_l2Near := by
  unfold C_spec_l2Near; rw [h_spec_l2Near]
  exact sound_of_run (fn := Tryz.f45) hmix hstable (tyOK_of ttOK) (hglob (X_spec_l2Near N P_spec_l2Apart)) (conOK_of (X := X_spec_l2Near N P_spec_l2Apart) ⟨s_spec_l2Apart, trivial⟩) (mconOK_of (X := X_spec_l2Near N P_spec_l2Apart) trivial) (by kernel_rfl) (by kernel_rfl) (by kernel_rfl) (by kernel_rfl) (by kernel_rfl) (of_decide_eq_true (by kernel_rfl))
noncomputable def l_spec_l2Near_3 : Nat → Int → Int → Int → (List D_A3) → Int → Int → Int → (List D_A3) → Int → Option (denL R_spec_l2Near) := hid (fun m0 p0 p1 p2 p3 p4 p5 p6 p7 p8 => L_spec_l2Near_3 N P_spec_l2Apart m0 p0 p1 p2 p3 p4 p5 p6 p7 p8)
theorem h_spec_l2Near_3 : l_spec_l2Near_3 = fun m0 p0 p1 p2 p3 p4 p5 p6 p7 p8 => L_spec_l2Near_3 N P_spec_l2Apart m0 p0 p1 p2 p3 p4 p5 p6 p7 p8 := hid_eq _
theorem p_spec_l2Near (a0 : D_Heap) (a1 : D_A3) : P_spec_l2Near (a0, a1, ()) = 
  l_spec_l2Near_3 N a0.1 a0.2.1 a0.2.2.1 a0.2.2.2.1 a1.1 a1.2.1 a1.2.2.1 ([] : List D_A3) 0 := by
  rewrite [h_spec_l2Near, h_spec_l2Near_3]
  kernel_rfl
theorem q_spec_l2Near_3 (m0 : Nat) (p0 : Int) (p1 : Int) (p2 : Int) (p3 : List D_A3) (p4 : Int) (p5 : Int) (p6 : Int) (p7 : List D_A3) (p8 : Int) : l_spec_l2Near_3 (m0 + 1) p0 p1 p2 p3 p4 p5 p6 p7 p8 = 
  bif decide (p8 < (List.length p3 : Int)) then
    bif inB p8 (List.length p3) then
      Option.bind (P_spec_l2Apart ((nth T_A3 p3 p8), (p4, (p5, (p6, ()))), ())) fun r2 =>
      bif decide (r2.1 = 1) then
        bif inB p8 (List.length p3) then
          bif (decide (((List.length p7) + (List.length ([(nth T_A3 p3 p8)] : List D_A3))) * 24 ≤ 140737488355328) && decide (((List.length p7) + (List.length ([(nth T_A3 p3 p8)] : List D_A3))) ≤ 140737488355328)) then
            l_spec_l2Near_3 m0 p0 p1 p2 p3 p4 p5 p6 (p7 ++ ([(nth T_A3 p3 p8)] : List D_A3)) (IntKind.wrap .i64 (p8 + 1))
          else none
        else none
      else
        l_spec_l2Near_3 m0 p0 p1 p2 p3 p4 p5 p6 p7 (IntKind.wrap .i64 (p8 + 1))
    else none
  else
    some (p7, ()) := by
  rewrite [h_spec_l2Near_3]
  kernel_rfl

/- 12: loop.example/g01166/spec.NearCubes -/
abbrev As_spec_NearCubes : List ATy := [.data true T_Heap, .data true T_A3]
abbrev R_spec_NearCubes : List (Bool × Ty) := [(false, (.sl T_A3)), (false, .bool)]
abbrev M_spec_NearCubes : List RMode := [.own 27]
abbrev Ft_spec_NearCubes : Type := D_Heap × D_A3 × Unit → Option ((List D_A3) × Bool × Unit)
noncomputable def X_spec_NearCubes (n : Nat) (F_spec_l2Cell : Ft_spec_l2Cell) (F_spec_l2Near : Ft_spec_l2Near) : Ctx := { types := TT, globals := [], con := [(36, ⟨As_spec_l2Cell, R_spec_l2Cell, M_spec_l2Cell, F_spec_l2Cell⟩), (45, ⟨As_spec_l2Near, R_spec_l2Near, M_spec_l2Near, F_spec_l2Near⟩)], keep := [], results := [.tmp 4, .tmp 5], ntmps := 14, n := n }
noncomputable def B_spec_NearCubes : Code := (Tryz.f12.body).getD .skip
noncomputable def P_spec_NearCubes : Ft_spec_NearCubes := hid (runF (X_spec_NearCubes N P_spec_l2Cell P_spec_l2Near) B_spec_NearCubes As_spec_NearCubes R_spec_NearCubes M_spec_NearCubes)
theorem h_spec_NearCubes : P_spec_NearCubes = runF (X_spec_NearCubes N P_spec_l2Cell P_spec_l2Near) B_spec_NearCubes As_spec_NearCubes R_spec_NearCubes M_spec_NearCubes := hid_eq _
noncomputable def C_spec_NearCubes : Contract := ⟨As_spec_NearCubes, R_spec_NearCubes, M_spec_NearCubes, P_spec_NearCubes⟩
theorem s_spec_NearCubes : Sound Tryz.prog GG 12 C_spec_NearCubes := by
  unfold C_spec_NearCubes; rw [h_spec_NearCubes]
  exact sound_of_run (fn := Tryz.f12) hmix hstable (tyOK_of ttOK) (hglob (X_spec_NearCubes N P_spec_l2Cell P_spec_l2Near)) (conOK_of (X := X_spec_NearCubes N P_spec_l2Cell P_spec_l2Near) ⟨s_spec_l2Cell, s_spec_l2Near, trivial⟩) (mconOK_of (X := X_spec_NearCubes N P_spec_l2Cell P_spec_l2Near) trivial) (by kernel_rfl) (by kernel_rfl) (by kernel_rfl) (by kernel_rfl) (by kernel_rfl) (of_decide_eq_true (by kernel_rfl))
theorem p_spec_NearCubes (a0 : D_Heap) (a1 : D_A3) : P_spec_NearCubes (a0, a1, ()) = 
  Option.bind (P_spec_l2Cell (a0, a1, ())) fun r0 =>
  bif !r0.1 then
    some (([] : List D_A3), false, ())
  else
    Option.bind (P_spec_l2Near (a0, a1, ())) fun r2 =>
    some (r2.1, true, ()) := by
  rewrite [h_spec_NearCubes]
  kernel_rfl

/- 46: (*loop.example/g01166/spec.l1Cur).cube -/
abbrev As_l1Cur_cube : List ATy := [.lptr T_l1Cur, .data true T_Heap]
abbrev R_l1Cur_cube : List (Bool × Ty) := [(true, T_A3)]
abbrev M_l1Cur_cube : List RMode := []
abbrev Ft_l1Cur_cube : Type := D_l1Cur × D_Heap × Unit → Option ((D_A3 × Unit) × (D_l1Cur × Unit))
noncomputable def X_l1Cur_cube (n : Nat) (F_l1Cur_cell : Ft_l1Cur_cell) (F_l1Cur_one : Ft_l1Cur_one) (F_l1Cur_pick : Ft_l1Cur_pick) : Ctx := { types := TT, globals := [], con := [], mcon := [(33, ⟨As_l1Cur_cell, R_l1Cur_cell, M_l1Cur_cell, F_l1Cur_cell⟩), (56, ⟨As_l1Cur_one, R_l1Cur_one, M_l1Cur_one, F_l1Cur_one⟩), (69, ⟨As_l1Cur_pick, R_l1Cur_pick, M_l1Cur_pick, F_l1Cur_pick⟩)], keep := [], results := [.cell 4 27], ntmps := 26, n := n }
noncomputable def B_l1Cur_cube : Code := (Tryz.f46.body).getD .skip
noncomputable def P_l1Cur_cube : Ft_l1Cur_cube := hid (runFM (X_l1Cur_cube N P_l1Cur_cell P_l1Cur_one P_l1Cur_pick) B_l1Cur_cube As_l1Cur_cube R_l1Cur_cube M_l1Cur_cube)
theorem h_l1Cur_cube : P_l1Cur_cube = runFM (X_l1Cur_cube N P_l1Cur_cell P_l1Cur_one P_l1Cur_pick) B_l1Cur_cube As_l1Cur_cube R_l1Cur_cube M_l1Cur_cube := hid_eq _
noncomputable def C_l1Cur_cube : MContract := ⟨As_l1Cur_cube, R_l1Cur_cube, M_l1Cur_cube, P_l1Cur_cube⟩
theorem s_l1Cur_cube : SoundM Tryz.prog n0 GG 46 C_l1Cur_cube := by
  unfold C_l1Cur_cube; rw [h_l1Cur_cube]
  exact sound_of_runM (fn := Tryz.f46) hmix hstable (tyOK_of ttOK) (hglob (X_l1Cur_cube N P_l1Cur_cell P_l1Cur_one P_l1Cur_pick)) (conOK_of (X := X_l1Cur_cube N P_l1Cur_cell P_l1Cur_one P_l1Cur_pick) trivial) (mconOK_of (X := X_l1Cur_cube N P_l1Cur_cell P_l1Cur_one P_l1Cur_pick) ⟨s_l1Cur_cell, s_l1Cur_one, s_l1Cur_pick, trivial⟩) (by kernel_rfl) (by kernel_rfl) (by kernel_rfl) (by kernel_rfl) (by kernel_rfl) (of_decide_eq_true (by kernel_rfl)) (by kernel_rfl) (by rfl)
theorem p_l1Cur_cube (a0 : D_l1Cur) (a1 : D_Heap) : P_l1Cur_cube (a0, a1, ()) = 
  bif decide ((List.length a1.2.2.2.1 : Int) > 0) then
    Option.bind (P_l1Cur_one (a0, 8, ())) fun r1 =>
    bif !r1.1.1 then
      Option.bind (P_l1Cur_pick ((a0.1, r1.2.1.2), (List.length a1.2.2.2.1 : Int), ())) fun r3 =>
      bif inB r3.1.1 (List.length a1.2.2.2.1) then
        some (((nth T_A3 a1.2.2.2.1 r3.1.1), ()), ((a0.1, r3.2.1.2), ()))
      else none
    else
      Option.bind (P_l1Cur_cell ((a0.1, r1.2.1.2), a1, ())) fun r3 =>
      some ((r3.1.1, ()), ((a0.1, r3.2.1.2), ()))
  else
    Option.bind (P_l1Cur_cell (a0, a1, ())) fun r1 =>
    some ((r1.1.1, ()), ((a0.1, r1.2.1.2), ())) := by
  rewrite [h_l1Cur_cube]
  kernel_rfl

/- 14: loop.example/g01166/spec.DrawTakeCube -/
abbrev As_spec_DrawTakeCube : List ATy := [.data false (.sl (.int .u8))]
abbrev R_spec_DrawTakeCube : List (Bool × Ty) := [(true, T_Heap), (true, T_A3)]
abbrev M_spec_DrawTakeCube : List RMode := [.own 27]
abbrev Ft_spec_DrawTakeCube : Type := (List Int) × Unit → Option (D_Heap × D_A3 × Unit)
noncomputable def X_spec_DrawTakeCube (n : Nat) (F_l1Cur_heap : Ft_l1Cur_heap) (F_l1Cur_cube : Ft_l1Cur_cube) : Ctx := { types := TT, globals := [], con := [], mcon := [(32, ⟨As_l1Cur_heap, R_l1Cur_heap, M_l1Cur_heap, F_l1Cur_heap⟩), (46, ⟨As_l1Cur_cube, R_l1Cur_cube, M_l1Cur_cube, F_l1Cur_cube⟩)], keep := [], results := [.cell 2 26, .cell 3 27], ntmps := 15, n := n }
noncomputable def B_spec_DrawTakeCube : Code := (Tryz.f14.body).getD .skip
noncomputable def P_spec_DrawTakeCube : Ft_spec_DrawTakeCube := hid (runF (X_spec_DrawTakeCube N P_l1Cur_heap P_l1Cur_cube) B_spec_DrawTakeCube As_spec_DrawTakeCube R_spec_DrawTakeCube M_spec_DrawTakeCube)
theorem h_spec_DrawTakeCube : P_spec_DrawTakeCube = runF (X_spec_DrawTakeCube N P_l1Cur_heap P_l1Cur_cube) B_spec_DrawTakeCube As_spec_DrawTakeCube R_spec_DrawTakeCube M_spec_DrawTakeCube := hid_eq _
noncomputable def C_spec_DrawTakeCube : Contract := ⟨As_spec_DrawTakeCube, R_spec_DrawTakeCube, M_spec_DrawTakeCube, P_spec_DrawTakeCube⟩
theorem s_spec_DrawTakeCube : Sound Tryz.prog GG 14 C_spec_DrawTakeCube := by
  unfold C_spec_DrawTakeCube; rw [h_spec_DrawTakeCube]
  exact sound_of_run (fn := Tryz.f14) hmix hstable (tyOK_of ttOK) (hglob (X_spec_DrawTakeCube N P_l1Cur_heap P_l1Cur_cube)) (conOK_of (X := X_spec_DrawTakeCube N P_l1Cur_heap P_l1Cur_cube) trivial) (mconOK_of (X := X_spec_DrawTakeCube N P_l1Cur_heap P_l1Cur_cube) ⟨s_l1Cur_heap, s_l1Cur_cube, trivial⟩) (by kernel_rfl) (by kernel_rfl) (by kernel_rfl) (by kernel_rfl) (by kernel_rfl) (of_decide_eq_true (by kernel_rfl))
theorem p_spec_DrawTakeCube (a0 : List Int) : P_spec_DrawTakeCube (a0, ()) = 
  Option.bind (P_l1Cur_heap ((a0, (0, (0, ()))), ())) fun r0 =>
  Option.bind (P_l1Cur_cube ((a0, r0.2.1.2), r0.1.1, ())) fun r1 =>
  some (r0.1.1, r1.1.1, ()) := by
  rewrite [h_spec_DrawTakeCube]
  kernel_rfl

/- 15: loop.example/g01166/impl.TakeCube -/
abbrev As_impl_TakeCube : List ATy := [.data true T_Heap, .data true T_A3]
abbrev R_impl_TakeCube : List (Bool × Ty) := [(true, T_Heap), (false, .bool)]
abbrev M_impl_TakeCube : List RMode := [.own 27]
abbrev Ft_impl_TakeCube : Type := D_Heap × D_A3 × Unit → Option (D_Heap × Bool × Unit)
noncomputable def X_impl_TakeCube (n : Nat) (F_impl_isCell : Ft_impl_isCell) (F_Heap_hasCube : Ft_Heap_hasCube) (F_Heap_box : Ft_Heap_box) (F_box_heap : Ft_box_heap) (F_Heap_cubes : Ft_Heap_cubes) (F_box_index : Ft_box_index) : Ctx := { types := TT, globals := [], con := [(34, ⟨As_impl_isCell, R_impl_isCell, M_impl_isCell, F_impl_isCell⟩), (35, ⟨As_Heap_hasCube, R_Heap_hasCube, M_Heap_hasCube, F_Heap_hasCube⟩), (38, ⟨As_Heap_box, R_Heap_box, M_Heap_box, F_Heap_box⟩), (39, ⟨As_box_heap, R_box_heap, M_box_heap, F_box_heap⟩), (40, ⟨As_Heap_cubes, R_Heap_cubes, M_Heap_cubes, F_Heap_cubes⟩), (41, ⟨As_box_index, R_box_index, M_box_index, F_box_index⟩)], keep := [], results := [.cell 4 26, .tmp 5], ntmps := 28, n := n }
noncomputable def B_impl_TakeCube : Code := (Tryz.f15.body).getD .skip
noncomputable def P_impl_TakeCube : Ft_impl_TakeCube := hid (runF (X_impl_TakeCube N P_impl_isCell P_Heap_hasCube P_Heap_box P_box_heap P_Heap_cubes P_box_index) B_impl_TakeCube As_impl_TakeCube R_impl_TakeCube M_impl_TakeCube)
theorem h_impl_TakeCube : P_impl_TakeCube = runF (X_impl_TakeCube N P_impl_isCell P_Heap_hasCube P_Heap_box P_box_heap P_Heap_cubes P_box_index) B_impl_TakeCube As_impl_TakeCube R_impl_TakeCube M_impl_TakeCube := hid_eq _
noncomputable def C_impl_TakeCube : Contract := ⟨As_impl_TakeCube, R_impl_TakeCube, M_impl_TakeCube, P_impl_TakeCube⟩
theorem s_impl_TakeCube : Sound Tryz.prog GG 15 C_impl_TakeCube := by
  unfold C_impl_TakeCube; rw [h_impl_TakeCube]
  exact sound_of_run (fn := Tryz.f15) hmix hstable (tyOK_of ttOK) (hglob (X_impl_TakeCube N P_impl_isCell P_Heap_hasCube P_Heap_box P_box_heap P_Heap_cubes P_box_index)) (conOK_of (X := X_impl_TakeCube N P_impl_isCell P_Heap_hasCube P_Heap_box P_box_heap P_Heap_cubes P_box_index) ⟨s_impl_isCell, s_Heap_hasCube, s_Heap_box, s_box_heap, s_Heap_cubes, s_box_index, trivial⟩) (mconOK_of (X := X_impl_TakeCube N P_impl_isCell P_Heap_hasCube P_Heap_box P_box_heap P_Heap_cubes P_box_index) trivial) (by kernel_rfl) (by kernel_rfl) (by kernel_rfl) (by kernel_rfl) (by kernel_rfl) (of_decide_eq_true (by kernel_rfl))
theorem p_impl_TakeCube (a0 : D_Heap) (a1 : D_A3) : P_impl_TakeCube (a0, a1, ()) = 
  Option.bind (P_impl_isCell (a0, a1, ())) fun r0 =>
  bif !r0.1 then
    some ((0, (0, (0, (([] : List D_A3), ())))), false, ())
  else
    Option.bind (P_Heap_hasCube (a0, a1, ())) fun r2 =>
    bif !r2.1 then
      some ((0, (0, (0, (([] : List D_A3), ())))), false, ())
    else
      Option.bind (P_Heap_box (a0, ())) fun r4 =>
      Option.bind (P_Heap_cubes (a0, ())) fun r5 =>
      Option.bind (P_Heap_box (a0, ())) fun r6 =>
      Option.bind (P_box_index (r6.1, a1, ())) fun r7 =>
      bif decide ((0 : Int) ≤ r7.1) then
        Option.bind (P_box_heap (r4.1, (intBits .andNot .u64 r5.1 (shlI .u64 1 r7.1)), ())) fun r9 =>
        some (r9.1, true, ())
      else none := by
  rewrite [h_impl_TakeCube]
  kernel_rfl

/- 47: loop.example/g01166/spec.l2Without -/
abbrev As_spec_l2Without : List ATy := [.data true T_Heap, .data true T_A3]
abbrev R_spec_l2Without : List (Bool × Ty) := [(true, T_Heap)]
abbrev M_spec_l2Without : List RMode := [.own 27]
abbrev Ft_spec_l2Without : Type := D_Heap × D_A3 × Unit → Option (D_Heap × Unit)
noncomputable def X_spec_l2Without (n : Nat) (F_spec_l2Empty : Ft_spec_l2Empty) : Ctx := { types := TT, globals := [], con := [(62, ⟨As_spec_l2Empty, R_spec_l2Empty, M_spec_l2Empty, F_spec_l2Empty⟩)], keep := [(3, ⟨[.box 2, .box 3, .box 4, .box 5, .tmp 2, .tmp 3, .tmp 4, .tmp 5, .tmp 6], []⟩)], results := [.cell 4 26], ntmps := 39, n := n }
noncomputable def B_spec_l2Without : Code := (Tryz.f47.body).getD .skip
noncomputable def L_spec_l2Without_3 (n : Nat) (F_spec_l2Empty : Ft_spec_l2Empty) (m0 : Nat) (p0 : Int) (p1 : Int) (p2 : Int) (p3 : List D_A3) (p4 : Int) (p5 : Int) (p6 : Int) (p7 : Int) (p8 : Int) (p9 : Int) (p10 : List D_A3) (p11 : Int) (p12 : Int) (p13 : Int) (p14 : List D_A3) (p15 : Int) : Option (denL R_spec_l2Without) := loopF (X_spec_l2Without n F_spec_l2Empty) B_spec_l2Without R_spec_l2Without M_spec_l2Without 3 [m0] [(.ver, .num 1), (.box 2, .box 0 false [.int .i64 p0, .int .i64 p1, .int .i64 p2, .imm T_A3 p3 (some 3)]), (.box 3, .box 0 false [.int .i64 p4, .int .i64 p5, .int .i64 p6]), (.box 4, .box 0 false [.int .i64 p7, .int .i64 p8, .int .i64 p9, .own 27 T_A3 0 p10]), (.box 5, .box 0 false [.int .i64 p11, .int .i64 p12, .int .i64 p13, .own 27 T_A3 0 p14]), (.tmp 2, .val false [.addr 2 0 0]), (.tmp 3, .val false [.addr 3 0 0]), (.tmp 4, .val false [.addr 4 0 0]), (.tmp 5, .val false [.addr 5 0 0]), (.tmp 6, .val false [.int .i64 p15])]
noncomputable def P_spec_l2Without : Ft_spec_l2Without := hid (runF (X_spec_l2Without N P_spec_l2Empty) B_spec_l2Without As_spec_l2Without R_spec_l2Without M_spec_l2Without)
theorem h_spec_l2Without : P_spec_l2Without = runF (X_spec_l2Without N P_spec_l2Empty) B_spec_l2Without As_spec_l2Without R_spec_l2Without M_spec_l2Without := hid_eq _
noncomputable def C_spec_l2Without : Contract := ⟨As_spec_l2Without, R_spec_l2Without, M_spec_l2Without, P_spec_l2Without⟩
theorem s_spec_l2Without : Sound Tryz.prog GG 47 C_spec_l2Without := by
  unfold C_spec_l2Without; rw [h_spec_l2Without]
  exact sound_of_run (fn := Tryz.f47) hmix hstable (tyOK_of ttOK) (hglob (X_spec_l2Without N P_spec_l2Empty)) (conOK_of (X := X_spec_l2Without N P_spec_l2Empty) ⟨s_spec_l2Empty, trivial⟩) (mconOK_of (X := X_spec_l2Without N P_spec_l2Empty) trivial) (by kernel_rfl) (by kernel_rfl) (by kernel_rfl) (by kernel_rfl) (by kernel_rfl) (of_decide_eq_true (by kernel_rfl))
noncomputable def l_spec_l2Without_3 : Nat → Int → Int → Int → (List D_A3) → Int → Int → Int → Int → Int → Int → (List D_A3) → Int → Int → Int → (List D_A3) → Int → Option (denL R_spec_l2Without) := hid (fun m0 p0 p1 p2 p3 p4 p5 p6 p7 p8 p9 p10 p11 p12 p13 p14 p15 => L_spec_l2Without_3 N P_spec_l2Empty m0 p0 p1 p2 p3 p4 p5 p6 p7 p8 p9 p10 p11 p12 p13 p14 p15)
theorem h_spec_l2Without_3 : l_spec_l2Without_3 = fun m0 p0 p1 p2 p3 p4 p5 p6 p7 p8 p9 p10 p11 p12 p13 p14 p15 => L_spec_l2Without_3 N P_spec_l2Empty m0 p0 p1 p2 p3 p4 p5 p6 p7 p8 p9 p10 p11 p12 p13 p14 p15 := hid_eq _
theorem p_spec_l2Without (a0 : D_Heap) (a1 : D_A3) : P_spec_l2Without (a0, a1, ()) = 
  Option.bind (P_spec_l2Empty (a0.1, a0.2.1, a0.2.2.1, ())) fun r0 =>
  l_spec_l2Without_3 N a0.1 a0.2.1 a0.2.2.1 a0.2.2.2.1 a1.1 a1.2.1 a1.2.2.1 0 0 0 ([] : List D_A3) r0.1.1 r0.1.2.1 r0.1.2.2.1 r0.1.2.2.2.1 0 := by
  rewrite [h_spec_l2Without, h_spec_l2Without_3]
  kernel_rfl
theorem q_spec_l2Without_3 (m0 : Nat) (p0 : Int) (p1 : Int) (p2 : Int) (p3 : List D_A3) (p4 : Int) (p5 : Int) (p6 : Int) (p7 : Int) (p8 : Int) (p9 : Int) (p10 : List D_A3) (p11 : Int) (p12 : Int) (p13 : Int) (p14 : List D_A3) (p15 : Int) : l_spec_l2Without_3 (m0 + 1) p0 p1 p2 p3 p4 p5 p6 p7 p8 p9 p10 p11 p12 p13 p14 p15 = 
  bif decide (p15 < (List.length p3 : Int)) then
    bif inB p15 (List.length p3) then
      bif !(decide (((nth T_A3 p3 p15)).1 = p4) && (decide ((((nth T_A3 p3 p15)).2).1 = p5) && (decide (((((nth T_A3 p3 p15)).2).2).1 = p6) && true))) then
        bif inB p15 (List.length p3) then
          bif (decide (((List.length p14) + (List.length ([(nth T_A3 p3 p15)] : List D_A3))) * 24 ≤ 140737488355328) && decide (((List.length p14) + (List.length ([(nth T_A3 p3 p15)] : List D_A3))) ≤ 140737488355328)) then
            l_spec_l2Without_3 m0 p0 p1 p2 p3 p4 p5 p6 p7 p8 p9 p10 p11 p12 p13 (p14 ++ ([(nth T_A3 p3 p15)] : List D_A3)) (IntKind.wrap .i64 (p15 + 1))
          else none
        else none
      else
        l_spec_l2Without_3 m0 p0 p1 p2 p3 p4 p5 p6 p7 p8 p9 p10 p11 p12 p13 p14 (IntKind.wrap .i64 (p15 + 1))
    else none
  else
    some ((p11, (p12, (p13, (p14, ())))), ()) := by
  rewrite [h_spec_l2Without_3]
  kernel_rfl

/- 16: loop.example/g01166/spec.TakeCube -/
abbrev As_spec_TakeCube : List ATy := [.data true T_Heap, .data true T_A3]
abbrev R_spec_TakeCube : List (Bool × Ty) := [(true, T_Heap), (false, .bool)]
abbrev M_spec_TakeCube : List RMode := [.own 27]
abbrev Ft_spec_TakeCube : Type := D_Heap × D_A3 × Unit → Option (D_Heap × Bool × Unit)
noncomputable def X_spec_TakeCube (n : Nat) (F_spec_l2Cell : Ft_spec_l2Cell) (F_spec_l2Has : Ft_spec_l2Has) (F_spec_l2Without : Ft_spec_l2Without) : Ctx := { types := TT, globals := [], con := [(36, ⟨As_spec_l2Cell, R_spec_l2Cell, M_spec_l2Cell, F_spec_l2Cell⟩), (37, ⟨As_spec_l2Has, R_spec_l2Has, M_spec_l2Has, F_spec_l2Has⟩), (47, ⟨As_spec_l2Without, R_spec_l2Without, M_spec_l2Without, F_spec_l2Without⟩)], keep := [], results := [.cell 4 26, .tmp 5], ntmps := 20, n := n }
noncomputable def B_spec_TakeCube : Code := (Tryz.f16.body).getD .skip
noncomputable def P_spec_TakeCube : Ft_spec_TakeCube := hid (runF (X_spec_TakeCube N P_spec_l2Cell P_spec_l2Has P_spec_l2Without) B_spec_TakeCube As_spec_TakeCube R_spec_TakeCube M_spec_TakeCube)
theorem h_spec_TakeCube : P_spec_TakeCube = runF (X_spec_TakeCube N P_spec_l2Cell P_spec_l2Has P_spec_l2Without) B_spec_TakeCube As_spec_TakeCube R_spec_TakeCube M_spec_TakeCube := hid_eq _
noncomputable def C_spec_TakeCube : Contract := ⟨As_spec_TakeCube, R_spec_TakeCube, M_spec_TakeCube, P_spec_TakeCube⟩
theorem s_spec_TakeCube : Sound Tryz.prog GG 16 C_spec_TakeCube := by
  unfold C_spec_TakeCube; rw [h_spec_TakeCube]
  exact sound_of_run (fn := Tryz.f16) hmix hstable (tyOK_of ttOK) (hglob (X_spec_TakeCube N P_spec_l2Cell P_spec_l2Has P_spec_l2Without)) (conOK_of (X := X_spec_TakeCube N P_spec_l2Cell P_spec_l2Has P_spec_l2Without) ⟨s_spec_l2Cell, s_spec_l2Has, s_spec_l2Without, trivial⟩) (mconOK_of (X := X_spec_TakeCube N P_spec_l2Cell P_spec_l2Has P_spec_l2Without) trivial) (by kernel_rfl) (by kernel_rfl) (by kernel_rfl) (by kernel_rfl) (by kernel_rfl) (of_decide_eq_true (by kernel_rfl))
theorem p_spec_TakeCube (a0 : D_Heap) (a1 : D_A3) : P_spec_TakeCube (a0, a1, ()) = 
  Option.bind (P_spec_l2Cell (a0, a1, ())) fun r0 =>
  bif !r0.1 then
    some ((0, (0, (0, (([] : List D_A3), ())))), false, ())
  else
    Option.bind (P_spec_l2Has (a0, a1, ())) fun r2 =>
    bif !r2.1 then
      some ((0, (0, (0, (([] : List D_A3), ())))), false, ())
    else
      Option.bind (P_spec_l2Without (a0, a1, ())) fun r4 =>
      some (r4.1, true, ()) := by
  rewrite [h_spec_TakeCube]
  kernel_rfl

/- 82: (loop.example/g01166/impl.box).grown -/
abbrev As_box_grown : List ATy := [.data true T_A3, .data false (.int .u64), .data false (.int .u64)]
abbrev R_box_grown : List (Bool × Ty) := [(false, (.int .u64))]
abbrev M_box_grown : List RMode := []
abbrev Ft_box_grown : Type := D_A3 × Int × Int × Unit → Option (Int × Unit)
noncomputable def X_box_grown (n : Nat) (F_box_near : Ft_box_near) (F_set_has : Ft_set_has) (F_box_size : Ft_box_size) (F_box_cell : Ft_box_cell) : Ctx := { types := TT, globals := [], con := [(44, ⟨As_box_near, R_box_near, M_box_near, F_box_near⟩), (74, ⟨As_set_has, R_set_has, M_set_has, F_set_has⟩), (79, ⟨As_box_size, R_box_size, M_box_size, F_box_size⟩), (80, ⟨As_box_cell, R_box_cell, M_box_cell, F_box_cell⟩)], keep := [(1, ⟨[.box 3, .tmp 1, .tmp 2, .tmp 3], []⟩), (3, ⟨[.box 3, .tmp 1, .tmp 2, .tmp 3, .tmp 7, .tmp 11, .tmp 12], []⟩)], results := [.tmp 6], ntmps := 33, n := n }
noncomputable def B_box_grown : Code := (Tryz.f82.body).getD .skip
noncomputable def L_box_grown_1 (n : Nat) (F_box_near : Ft_box_near) (F_set_has : Ft_set_has) (F_box_size : Ft_box_size) (F_box_cell : Ft_box_cell) (m0 : Nat) (p0 : Int) (p1 : Int) (p2 : Int) (p3 : Int) (p4 : Int) : Option (denL R_box_grown) := loopF (X_box_grown n F_box_near F_set_has F_box_size F_box_cell) B_box_grown R_box_grown M_box_grown 1 [m0] [(.ver, .num 1), (.box 3, .box 0 false [.int .i64 p0, .int .i64 p1, .int .i64 p2]), (.tmp 1, .val false [.int .u64 p3]), (.tmp 2, .val false [.int .u64 p4]), (.tmp 3, .val false [.addr 3 0 0])]
noncomputable def L_box_grown_3 (n : Nat) (F_box_near : Ft_box_near) (F_set_has : Ft_set_has) (F_box_size : Ft_box_size) (F_box_cell : Ft_box_cell) (m0 m1 : Nat) (p0 : Int) (p1 : Int) (p2 : Int) (p3 : Int) (p4 : Int) (p5 : Int) (p6 : Int) (p7 : Int) : Option (denL R_box_grown) := loopF (X_box_grown n F_box_near F_set_has F_box_size F_box_cell) B_box_grown R_box_grown M_box_grown 3 [m0, m1] [(.ver, .num 1), (.box 3, .box 0 false [.int .i64 p0, .int .i64 p1, .int .i64 p2]), (.tmp 1, .val false [.int .u64 p3]), (.tmp 2, .val false [.int .u64 p4]), (.tmp 3, .val false [.addr 3 0 0]), (.tmp 7, .val false [.int .u64 p5]), (.tmp 11, .val false [.int .i64 p6]), (.tmp 12, .val false [.int .i64 p7])]
noncomputable def P_box_grown : Ft_box_grown := hid (runF (X_box_grown N P_box_near P_set_has P_box_size P_box_cell) B_box_grown As_box_grown R_box_grown M_box_grown)
theorem h_box_grown : P_box_grown = runF (X_box_grown N P_box_near P_set_has P_box_size P_box_cell) B_box_grown As_box_grown R_box_grown M_box_grown := hid_eq _
noncomputable def C_box_grown : Contract := ⟨As_box_grown, R_box_grown, M_box_grown, P_box_grown⟩
theorem s_box_grown : Sound Tryz.prog GG 82 C_box_grown := by
  unfold C_box_grown; rw [h_box_grown]
  exact sound_of_run (fn := Tryz.f82) hmix hstable (tyOK_of ttOK) (hglob (X_box_grown N P_box_near P_set_has P_box_size P_box_cell)) (conOK_of (X := X_box_grown N P_box_near P_set_has P_box_size P_box_cell) ⟨s_box_near, s_set_has, s_box_size, s_box_cell, trivial⟩) (mconOK_of (X := X_box_grown N P_box_near P_set_has P_box_size P_box_cell) trivial) (by kernel_rfl) (by kernel_rfl) (by kernel_rfl) (by kernel_rfl) (by kernel_rfl) (of_decide_eq_true (by kernel_rfl))
noncomputable def l_box_grown_1 : Nat → Int → Int → Int → Int → Int → Option (denL R_box_grown) := hid (fun m0 p0 p1 p2 p3 p4 => L_box_grown_1 N P_box_near P_set_has P_box_size P_box_cell m0 p0 p1 p2 p3 p4)
theorem h_box_grown_1 : l_box_grown_1 = fun m0 p0 p1 p2 p3 p4 => L_box_grown_1 N P_box_near P_set_has P_box_size P_box_cell m0 p0 p1 p2 p3 p4 := hid_eq _
noncomputable def l_box_grown_3 : Nat → Nat → Int → Int → Int → Int → Int → Int → Int → Int → Option (denL R_box_grown) := hid (fun m0 m1 p0 p1 p2 p3 p4 p5 p6 p7 => L_box_grown_3 N P_box_near P_set_has P_box_size P_box_cell m0 m1 p0 p1 p2 p3 p4 p5 p6 p7)
theorem h_box_grown_3 : l_box_grown_3 = fun m0 m1 p0 p1 p2 p3 p4 p5 p6 p7 => L_box_grown_3 N P_box_near P_set_has P_box_size P_box_cell m0 m1 p0 p1 p2 p3 p4 p5 p6 p7 := hid_eq _
theorem p_box_grown (a0 : D_A3) (a1 : Int) (a2 : Int) : P_box_grown (a0, a1, a2, ()) = 
  l_box_grown_1 N a0.1 a0.2.1 a0.2.2.1 a1 a2 := by
  rewrite [h_box_grown, h_box_grown_1]
  kernel_rfl
theorem q_box_grown_1 (m0 : Nat) (p0 : Int) (p1 : Int) (p2 : Int) (p3 : Int) (p4 : Int) : l_box_grown_1 (m0 + 1) p0 p1 p2 p3 p4 = 
  Option.bind (P_box_size ((p0, (p1, (p2, ()))), ())) fun r0 =>
  l_box_grown_3 m0 N p0 p1 p2 p3 p4 p3 r0.1 0 := by
  rewrite [h_box_grown_1, h_box_grown_3]
  kernel_rfl
theorem q_box_grown_3 (m0 m1 : Nat) (p0 : Int) (p1 : Int) (p2 : Int) (p3 : Int) (p4 : Int) (p5 : Int) (p6 : Int) (p7 : Int) : l_box_grown_3 m0 (m1 + 1) p0 p1 p2 p3 p4 p5 p6 p7 = 
  bif decide (p7 < p6) then
    Option.bind (P_set_has (p3, p7, ())) fun r1 =>
    bif r1.1 then
      Option.bind (P_box_cell ((p0, (p1, (p2, ()))), p7, ())) fun r3 =>
      Option.bind (P_box_near ((p0, (p1, (p2, ()))), r3.1, ())) fun r4 =>
      l_box_grown_3 m0 m1 p0 p1 p2 p3 p4 (intBits .or .u64 p5 (intBits .and .u64 r4.1 p4)) p6 (IntKind.wrap .i64 (p7 + 1))
    else
      l_box_grown_3 m0 m1 p0 p1 p2 p3 p4 p5 p6 (IntKind.wrap .i64 (p7 + 1))
  else
    bif decide (p5 = p3) then
      some (p3, ())
    else
      l_box_grown_1 m0 p0 p1 p2 p5 p4 := by
  rewrite [h_box_grown_1, h_box_grown_3]
  kernel_rfl

/- 48: (loop.example/g01166/impl.box).parts -/
abbrev As_box_parts : List ATy := [.data true T_A3, .data false (.int .u64)]
abbrev R_box_parts : List (Bool × Ty) := [(false, (.sl (.int .u64)))]
abbrev M_box_parts : List RMode := [.own 63]
abbrev Ft_box_parts : Type := D_A3 × Int × Unit → Option ((List Int) × Unit)
noncomputable def X_box_parts (n : Nat) (F_box_grown : Ft_box_grown) : Ctx := { types := TT, globals := [], con := [(82, ⟨As_box_grown, R_box_grown, M_box_grown, F_box_grown⟩)], keep := [(2, ⟨[.box 2, .tmp 1, .tmp 2, .tmp 5], []⟩)], results := [.tmp 4], ntmps := 25, n := n }
noncomputable def B_box_parts : Code := (Tryz.f48.body).getD .skip
noncomputable def L_box_parts_2 (n : Nat) (F_box_grown : Ft_box_grown) (m0 : Nat) (p0 : Int) (p1 : Int) (p2 : Int) (p3 : Int) (p4 : List Int) : Option (denL R_box_parts) := loopF (X_box_parts n F_box_grown) B_box_parts R_box_parts M_box_parts 2 [m0] [(.ver, .num 1), (.box 2, .box 0 false [.int .i64 p0, .int .i64 p1, .int .i64 p2]), (.tmp 1, .val false [.int .u64 p3]), (.tmp 2, .val false [.addr 2 0 0]), (.tmp 5, .val false [.own 63 (.int .u64) 0 p4])]
noncomputable def P_box_parts : Ft_box_parts := hid (runF (X_box_parts N P_box_grown) B_box_parts As_box_parts R_box_parts M_box_parts)
theorem h_box_parts : P_box_parts = runF (X_box_parts N P_box_grown) B_box_parts As_box_parts R_box_parts M_box_parts := hid_eq _
noncomputable def C_box_parts : Contract := ⟨As_box_parts, R_box_parts, M_box_parts, P_box_parts⟩
theorem s_box_parts : Sound Tryz.prog GG 48 C_box_parts := by
  unfold C_box_parts; rw [h_box_parts]
  exact sound_of_run (fn := Tryz.f48) hmix hstable (tyOK_of ttOK) (hglob (X_box_parts N P_box_grown)) (conOK_of (X := X_box_parts N P_box_grown) ⟨s_box_grown, trivial⟩) (mconOK_of (X := X_box_parts N P_box_grown) trivial) (by kernel_rfl) (by kernel_rfl) (by kernel_rfl) (by kernel_rfl) (by kernel_rfl) (of_decide_eq_true (by kernel_rfl))
noncomputable def l_box_parts_2 : Nat → Int → Int → Int → Int → (List Int) → Option (denL R_box_parts) := hid (fun m0 p0 p1 p2 p3 p4 => L_box_parts_2 N P_box_grown m0 p0 p1 p2 p3 p4)
theorem h_box_parts_2 : l_box_parts_2 = fun m0 p0 p1 p2 p3 p4 => L_box_parts_2 N P_box_grown m0 p0 p1 p2 p3 p4 := hid_eq _
theorem p_box_parts (a0 : D_A3) (a1 : Int) : P_box_parts (a0, a1, ()) = 
  l_box_parts_2 N a0.1 a0.2.1 a0.2.2.1 a1 ([] : List Int) := by
  rewrite [h_box_parts, h_box_parts_2]
  kernel_rfl
theorem q_box_parts_2 (m0 : Nat) (p0 : Int) (p1 : Int) (p2 : Int) (p3 : Int) (p4 : List Int) : l_box_parts_2 (m0 + 1) p0 p1 p2 p3 p4 = 
  bif !decide (p3 = 0) then
    Option.bind (P_box_grown ((p0, (p1, (p2, ()))), (intBits .and .u64 p3 (IntKind.wrap .u64 (0 - p3))), p3, ())) fun r1 =>
    bif (decide (((List.length p4) + (List.length ([r1.1] : List Int))) * 8 ≤ 140737488355328) && decide (((List.length p4) + (List.length ([r1.1] : List Int))) ≤ 140737488355328)) then
      l_box_parts_2 m0 p0 p1 p2 (intBits .andNot .u64 p3 r1.1) (p4 ++ ([r1.1] : List Int))
    else none
  else
    some (p4, ()) := by
  rewrite [h_box_parts_2]
  kernel_rfl

/- 17: loop.example/g01166/impl.PartsOf -/
abbrev As_impl_PartsOf : List ATy := [.data true T_Heap]
abbrev R_impl_PartsOf : List (Bool × Ty) := [(false, (.sl (.sl T_A3))), (false, .bool)]
abbrev M_impl_PartsOf : List RMode := [.own 24]
abbrev Ft_impl_PartsOf : Type := D_Heap × Unit → Option ((List (List D_A3)) × Bool × Unit)
noncomputable def X_impl_PartsOf (n : Nat) (F_impl_IsHeap : Ft_impl_IsHeap) (F_Heap_box : Ft_Heap_box) (F_Heap_cubes : Ft_Heap_cubes) (F_box_list : Ft_box_list) (F_box_parts : Ft_box_parts) : Ctx := { types := TT, globals := [], con := [(19, ⟨As_impl_IsHeap, R_impl_IsHeap, M_impl_IsHeap, F_impl_IsHeap⟩), (38, ⟨As_Heap_box, R_Heap_box, M_Heap_box, F_Heap_box⟩), (40, ⟨As_Heap_cubes, R_Heap_cubes, M_Heap_cubes, F_Heap_cubes⟩), (43, ⟨As_box_list, R_box_list, M_box_list, F_box_list⟩), (48, ⟨As_box_parts, R_box_parts, M_box_parts, F_box_parts⟩)], keep := [(5, ⟨[.box 1, .tmp 1, .tmp 4, .tmp 15, .tmp 16, .tmp 17], []⟩)], results := [.tmp 2, .tmp 3], ntmps := 30, n := n }
noncomputable def B_impl_PartsOf : Code := (Tryz.f17.body).getD .skip
noncomputable def L_impl_PartsOf_5 (n : Nat) (F_impl_IsHeap : Ft_impl_IsHeap) (F_Heap_box : Ft_Heap_box) (F_Heap_cubes : Ft_Heap_cubes) (F_box_list : Ft_box_list) (F_box_parts : Ft_box_parts) (m0 : Nat) (p0 : Int) (p1 : Int) (p2 : Int) (p3 : List D_A3) (p4 : List (List D_A3)) (p5 : List Int) (p6 : Int) (p7 : Int) : Option (denL R_impl_PartsOf) := loopF (X_impl_PartsOf n F_impl_IsHeap F_Heap_box F_Heap_cubes F_box_list F_box_parts) B_impl_PartsOf R_impl_PartsOf M_impl_PartsOf 5 [m0] [(.ver, .num 1), (.box 1, .box 0 false [.int .i64 p0, .int .i64 p1, .int .i64 p2, .imm T_A3 p3 (some 3)]), (.tmp 1, .val false [.addr 1 0 0]), (.tmp 4, .val false [.own 24 (.sl T_A3) 0 p4]), (.tmp 15, .val false [.own 63 (.int .u64) 0 p5]), (.tmp 16, .val false [.int .i64 p6]), (.tmp 17, .val false [.int .i64 p7])]
noncomputable def P_impl_PartsOf : Ft_impl_PartsOf := hid (runF (X_impl_PartsOf N P_impl_IsHeap P_Heap_box P_Heap_cubes P_box_list P_box_parts) B_impl_PartsOf As_impl_PartsOf R_impl_PartsOf M_impl_PartsOf)
theorem h_impl_PartsOf : P_impl_PartsOf = runF (X_impl_PartsOf N P_impl_IsHeap P_Heap_box P_Heap_cubes P_box_list P_box_parts) B_impl_PartsOf As_impl_PartsOf R_impl_PartsOf M_impl_PartsOf := hid_eq _
noncomputable def C_impl_PartsOf : Contract := ⟨As_impl_PartsOf, R_impl_PartsOf, M_impl_PartsOf, P_impl_PartsOf⟩
theorem s_impl_PartsOf : Sound Tryz.prog GG 17 C_impl_PartsOf := by
  unfold C_impl_PartsOf; rw [h_impl_PartsOf]
  exact sound_of_run (fn := Tryz.f17) hmix hstable (tyOK_of ttOK) (hglob (X_impl_PartsOf N P_impl_IsHeap P_Heap_box P_Heap_cubes P_box_list P_box_parts)) (conOK_of (X := X_impl_PartsOf N P_impl_IsHeap P_Heap_box P_Heap_cubes P_box_list P_box_parts) ⟨s_impl_IsHeap, s_Heap_box, s_Heap_cubes, s_box_list, s_box_parts, trivial⟩) (mconOK_of (X := X_impl_PartsOf N P_impl_IsHeap P_Heap_box P_Heap_cubes P_box_list P_box_parts) trivial) (by kernel_rfl) (by kernel_rfl) (by kernel_rfl) (by kernel_rfl) (by kernel_rfl) (of_decide_eq_true (by kernel_rfl))
noncomputable def l_impl_PartsOf_5 : Nat → Int → Int → Int → (List D_A3) → (List (List D_A3)) → (List Int) → Int → Int → Option (denL R_impl_PartsOf) := hid (fun m0 p0 p1 p2 p3 p4 p5 p6 p7 => L_impl_PartsOf_5 N P_impl_IsHeap P_Heap_box P_Heap_cubes P_box_list P_box_parts m0 p0 p1 p2 p3 p4 p5 p6 p7)
theorem h_impl_PartsOf_5 : l_impl_PartsOf_5 = fun m0 p0 p1 p2 p3 p4 p5 p6 p7 => L_impl_PartsOf_5 N P_impl_IsHeap P_Heap_box P_Heap_cubes P_box_list P_box_parts m0 p0 p1 p2 p3 p4 p5 p6 p7 := hid_eq _
theorem p_impl_PartsOf (a0 : D_Heap) : P_impl_PartsOf (a0, ()) = 
  Option.bind (P_impl_IsHeap (a0, ())) fun r0 =>
  bif !r0.1 then
    some (([] : List (List D_A3)), false, ())
  else
    Option.bind (P_Heap_box (a0, ())) fun r2 =>
    Option.bind (P_Heap_cubes (a0, ())) fun r3 =>
    Option.bind (P_box_parts (r2.1, r3.1, ())) fun r4 =>
    l_impl_PartsOf_5 N a0.1 a0.2.1 a0.2.2.1 a0.2.2.2.1 ([] : List (List D_A3)) r4.1 (List.length r4.1 : Int) 0 := by
  rewrite [h_impl_PartsOf, h_impl_PartsOf_5]
  kernel_rfl
theorem q_impl_PartsOf_5 (m0 : Nat) (p0 : Int) (p1 : Int) (p2 : Int) (p3 : List D_A3) (p4 : List (List D_A3)) (p5 : List Int) (p6 : Int) (p7 : Int) : l_impl_PartsOf_5 (m0 + 1) p0 p1 p2 p3 p4 p5 p6 p7 = 
  bif decide (p7 < p6) then
    bif inB p7 (List.length p5) then
      Option.bind (P_Heap_box ((p0, (p1, (p2, (p3, ())))), ())) fun r2 =>
      Option.bind (P_box_list (r2.1, (nth ((.int .u64) : Ty) p5 p7), ())) fun r3 =>
      bif (decide (((List.length p4) + (List.length ([r3.1] : List (List D_A3)))) * 24 ≤ 140737488355328) && decide (((List.length p4) + (List.length ([r3.1] : List (List D_A3)))) ≤ 140737488355328)) then
        l_impl_PartsOf_5 m0 p0 p1 p2 p3 (p4 ++ ([r3.1] : List (List D_A3))) p5 p6 (IntKind.wrap .i64 (p7 + 1))
      else none
    else none
  else
    some (p4, true, ()) := by
  rewrite [h_impl_PartsOf_5]
  kernel_rfl

/- 50: loop.example/g01166/spec.l2Parts -/
abbrev As_spec_l2Parts : List ATy := [.data true T_Heap]
abbrev R_spec_l2Parts : List (Bool × Ty) := [(false, (.sl (.sl T_A3)))]
abbrev M_spec_l2Parts : List RMode := [.own 24]
abbrev Ft_spec_l2Parts : Type := D_Heap × Unit → Option ((List (List D_A3)) × Unit)
noncomputable def X_spec_l2Parts (n : Nat) (F_spec_l2With : Ft_spec_l2With) (F_spec_l2Near : Ft_spec_l2Near) (F_spec_l2Without : Ft_spec_l2Without) (F_spec_l2Empty : Ft_spec_l2Empty) (F_spec_l2Own : Ft_spec_l2Own) : Ctx := { types := TT, globals := [], con := [(42, ⟨As_spec_l2With, R_spec_l2With, M_spec_l2With, F_spec_l2With⟩), (45, ⟨As_spec_l2Near, R_spec_l2Near, M_spec_l2Near, F_spec_l2Near⟩), (47, ⟨As_spec_l2Without, R_spec_l2Without, M_spec_l2Without, F_spec_l2Without⟩), (62, ⟨As_spec_l2Empty, R_spec_l2Empty, M_spec_l2Empty, F_spec_l2Empty⟩), (77, ⟨As_spec_l2Own, R_spec_l2Own, M_spec_l2Own, F_spec_l2Own⟩)], keep := [(2, ⟨[.box 1, .box 4, .tmp 1, .tmp 3, .tmp 4], []⟩), (6, ⟨[.box 1, .box 4, .box 5, .tmp 1, .tmp 3, .tmp 4, .tmp 5, .tmp 6, .tmp 7], []⟩), (11, ⟨[.box 1, .box 4, .box 5, .tmp 1, .tmp 3, .tmp 4, .tmp 5, .tmp 6, .tmp 7, .tmp 8, .tmp 9], []⟩)], results := [.tmp 2], ntmps := 77, n := n }
noncomputable def B_spec_l2Parts : Code := (Tryz.f50.body).getD .skip
noncomputable def L_spec_l2Parts_2 (n : Nat) (F_spec_l2With : Ft_spec_l2With) (F_spec_l2Near : Ft_spec_l2Near) (F_spec_l2Without : Ft_spec_l2Without) (F_spec_l2Empty : Ft_spec_l2Empty) (F_spec_l2Own : Ft_spec_l2Own) (m0 : Nat) (p0 : Int) (p1 : Int) (p2 : Int) (p3 : List D_A3) (p4 : Int) (p5 : Int) (p6 : Int) (p7 : List D_A3) (p8 : List (List D_A3)) : Option (denL R_spec_l2Parts) := loopF (X_spec_l2Parts n F_spec_l2With F_spec_l2Near F_spec_l2Without F_spec_l2Empty F_spec_l2Own) B_spec_l2Parts R_spec_l2Parts M_spec_l2Parts 2 [m0] [(.ver, .num 1), (.box 1, .box 0 false [.int .i64 p0, .int .i64 p1, .int .i64 p2, .imm T_A3 p3 (some 3)]), (.box 4, .box 0 false [.int .i64 p4, .int .i64 p5, .int .i64 p6, .own 27 T_A3 0 p7]), (.tmp 1, .val false [.addr 1 0 0]), (.tmp 3, .val false [.own 24 (.sl T_A3) 0 p8]), (.tmp 4, .val false [.addr 4 0 0])]
noncomputable def L_spec_l2Parts_6 (n : Nat) (F_spec_l2With : Ft_spec_l2With) (F_spec_l2Near : Ft_spec_l2Near) (F_spec_l2Without : Ft_spec_l2Without) (F_spec_l2Empty : Ft_spec_l2Empty) (F_spec_l2Own : Ft_spec_l2Own) (m0 m1 : Nat) (p0 : Int) (p1 : Int) (p2 : Int) (p3 : List D_A3) (p4 : Int) (p5 : Int) (p6 : Int) (p7 : List D_A3) (p8 : Int) (p9 : Int) (p10 : Int) (p11 : List D_A3) (p12 : List (List D_A3)) (p13 : List D_A3) (p14 : Int) : Option (denL R_spec_l2Parts) := loopF (X_spec_l2Parts n F_spec_l2With F_spec_l2Near F_spec_l2Without F_spec_l2Empty F_spec_l2Own) B_spec_l2Parts R_spec_l2Parts M_spec_l2Parts 6 [m0, m1] [(.ver, .num 1), (.box 1, .box 0 false [.int .i64 p0, .int .i64 p1, .int .i64 p2, .imm T_A3 p3 (some 3)]), (.box 4, .box 0 false [.int .i64 p4, .int .i64 p5, .int .i64 p6, .own 27 T_A3 0 p7]), (.box 5, .box 0 false [.int .i64 p8, .int .i64 p9, .int .i64 p10, .own 27 T_A3 0 p11]), (.tmp 1, .val false [.addr 1 0 0]), (.tmp 3, .val false [.own 24 (.sl T_A3) 0 p12]), (.tmp 4, .val false [.addr 4 0 0]), (.tmp 5, .val false [.addr 5 0 0]), (.tmp 6, .val false [.own 27 T_A3 0 p13]), (.tmp 7, .val false [.int .i64 p14])]
noncomputable def L_spec_l2Parts_11 (n : Nat) (F_spec_l2With : Ft_spec_l2With) (F_spec_l2Near : Ft_spec_l2Near) (F_spec_l2Without : Ft_spec_l2Without) (F_spec_l2Empty : Ft_spec_l2Empty) (F_spec_l2Own : Ft_spec_l2Own) (m0 m1 m2 : Nat) (p0 : Int) (p1 : Int) (p2 : Int) (p3 : List D_A3) (p4 : Int) (p5 : Int) (p6 : Int) (p7 : List D_A3) (p8 : Int) (p9 : Int) (p10 : Int) (p11 : List D_A3) (p12 : List (List D_A3)) (p13 : List D_A3) (p14 : Int) (p15 : List D_A3) (p16 : Int) : Option (denL R_spec_l2Parts) := loopF (X_spec_l2Parts n F_spec_l2With F_spec_l2Near F_spec_l2Without F_spec_l2Empty F_spec_l2Own) B_spec_l2Parts R_spec_l2Parts M_spec_l2Parts 11 [m0, m1, m2] [(.ver, .num 1), (.box 1, .box 0 false [.int .i64 p0, .int .i64 p1, .int .i64 p2, .imm T_A3 p3 (some 3)]), (.box 4, .box 0 false [.int .i64 p4, .int .i64 p5, .int .i64 p6, .own 27 T_A3 0 p7]), (.box 5, .box 0 false [.int .i64 p8, .int .i64 p9, .int .i64 p10, .own 27 T_A3 0 p11]), (.tmp 1, .val false [.addr 1 0 0]), (.tmp 3, .val false [.own 24 (.sl T_A3) 0 p12]), (.tmp 4, .val false [.addr 4 0 0]), (.tmp 5, .val false [.addr 5 0 0]), (.tmp 6, .val false [.own 27 T_A3 0 p13]), (.tmp 7, .val false [.int .i64 p14]), (.tmp 8, .val false [.own 27 T_A3 0 p15]), (.tmp 9, .val false [.int .i64 p16])]
noncomputable def P_spec_l2Parts : Ft_spec_l2Parts := hid (runF (X_spec_l2Parts N P_spec_l2With P_spec_l2Near P_spec_l2Without P_spec_l2Empty P_spec_l2Own) B_spec_l2Parts As_spec_l2Parts R_spec_l2Parts M_spec_l2Parts)
theorem h_spec_l2Parts : P_spec_l2Parts = runF (X_spec_l2Parts N P_spec_l2With P_spec_l2Near P_spec_l2Without P_spec_l2Empty P_spec_l2Own) B_spec_l2Parts As_spec_l2Parts R_spec_l2Parts M_spec_l2Parts := hid_eq _
noncomputable def C_spec_l2Parts : Contract := ⟨As_spec_l2Parts, R_spec_l2Parts, M_spec_l2Parts, P_spec_l2Parts⟩
theorem s_spec_l2Parts : Sound Tryz.prog GG 50 C_spec_l2Parts := by
  unfold C_spec_l2Parts; rw [h_spec_l2Parts]
  exact sound_of_run (fn := Tryz.f50) hmix hstable (tyOK_of ttOK) (hglob (X_spec_l2Parts N P_spec_l2With P_spec_l2Near P_spec_l2Without P_spec_l2Empty P_spec_l2Own)) (conOK_of (X := X_spec_l2Parts N P_spec_l2With P_spec_l2Near P_spec_l2Without P_spec_l2Empty P_spec_l2Own) ⟨s_spec_l2With, s_spec_l2Near, s_spec_l2Without, s_spec_l2Empty, s_spec_l2Own, trivial⟩) (mconOK_of (X := X_spec_l2Parts N P_spec_l2With P_spec_l2Near P_spec_l2Without P_spec_l2Empty P_spec_l2Own) trivial) (by kernel_rfl) (by kernel_rfl) (by kernel_rfl) (by kernel_rfl) (by kernel_rfl) (of_decide_eq_true (by kernel_rfl))
noncomputable def l_spec_l2Parts_2 : Nat → Int → Int → Int → (List D_A3) → Int → Int → Int → (List D_A3) → (List (List D_A3)) → Option (denL R_spec_l2Parts) := hid (fun m0 p0 p1 p2 p3 p4 p5 p6 p7 p8 => L_spec_l2Parts_2 N P_spec_l2With P_spec_l2Near P_spec_l2Without P_spec_l2Empty P_spec_l2Own m0 p0 p1 p2 p3 p4 p5 p6 p7 p8)
theorem h_spec_l2Parts_2 : l_spec_l2Parts_2 = fun m0 p0 p1 p2 p3 p4 p5 p6 p7 p8 => L_spec_l2Parts_2 N P_spec_l2With P_spec_l2Near P_spec_l2Without P_spec_l2Empty P_spec_l2Own m0 p0 p1 p2 p3 p4 p5 p6 p7 p8 := hid_eq _
noncomputable def l_spec_l2Parts_6 : Nat → Nat → Int → Int → Int → (List D_A3) → Int → Int → Int → (List D_A3) → Int → Int → Int → (List D_A3) → (List (List D_A3)) → (List D_A3) → Int → Option (denL R_spec_l2Parts) := hid (fun m0 m1 p0 p1 p2 p3 p4 p5 p6 p7 p8 p9 p10 p11 p12 p13 p14 => L_spec_l2Parts_6 N P_spec_l2With P_spec_l2Near P_spec_l2Without P_spec_l2Empty P_spec_l2Own m0 m1 p0 p1 p2 p3 p4 p5 p6 p7 p8 p9 p10 p11 p12 p13 p14)
theorem h_spec_l2Parts_6 : l_spec_l2Parts_6 = fun m0 m1 p0 p1 p2 p3 p4 p5 p6 p7 p8 p9 p10 p11 p12 p13 p14 => L_spec_l2Parts_6 N P_spec_l2With P_spec_l2Near P_spec_l2Without P_spec_l2Empty P_spec_l2Own m0 m1 p0 p1 p2 p3 p4 p5 p6 p7 p8 p9 p10 p11 p12 p13 p14 := hid_eq _
noncomputable def l_spec_l2Parts_11 : Nat → Nat → Nat → Int → Int → Int → (List D_A3) → Int → Int → Int → (List D_A3) → Int → Int → Int → (List D_A3) → (List (List D_A3)) → (List D_A3) → Int → (List D_A3) → Int → Option (denL R_spec_l2Parts) := hid (fun m0 m1 m2 p0 p1 p2 p3 p4 p5 p6 p7 p8 p9 p10 p11 p12 p13 p14 p15 p16 => L_spec_l2Parts_11 N P_spec_l2With P_spec_l2Near P_spec_l2Without P_spec_l2Empty P_spec_l2Own m0 m1 m2 p0 p1 p2 p3 p4 p5 p6 p7 p8 p9 p10 p11 p12 p13 p14 p15 p16)
theorem h_spec_l2Parts_11 : l_spec_l2Parts_11 = fun m0 m1 m2 p0 p1 p2 p3 p4 p5 p6 p7 p8 p9 p10 p11 p12 p13 p14 p15 p16 => L_spec_l2Parts_11 N P_spec_l2With P_spec_l2Near P_spec_l2Without P_spec_l2Empty P_spec_l2Own m0 m1 m2 p0 p1 p2 p3 p4 p5 p6 p7 p8 p9 p10 p11 p12 p13 p14 p15 p16 := hid_eq _
theorem p_spec_l2Parts (a0 : D_Heap) : P_spec_l2Parts (a0, ()) = 
  Option.bind (P_spec_l2Own (a0, ())) fun r0 =>
  l_spec_l2Parts_2 N a0.1 a0.2.1 a0.2.2.1 a0.2.2.2.1 r0.1.1 r0.1.2.1 r0.1.2.2.1 r0.1.2.2.2.1 ([] : List (List D_A3)) := by
  rewrite [h_spec_l2Parts, h_spec_l2Parts_2]
  kernel_rfl
theorem q_spec_l2Parts_2 (m0 : Nat) (p0 : Int) (p1 : Int) (p2 : Int) (p3 : List D_A3) (p4 : Int) (p5 : Int) (p6 : Int) (p7 : List D_A3) (p8 : List (List D_A3)) : l_spec_l2Parts_2 (m0 + 1) p0 p1 p2 p3 p4 p5 p6 p7 p8 = 
  bif decide ((List.length p7 : Int) > 0) then
    Option.bind (P_spec_l2Empty (p0, p1, p2, ())) fun r1 =>
    bif inB 0 (List.length p7) then
      bif inB 0 (List.length ([(nth T_A3 p7 0)] : List D_A3)) then
        Option.bind (P_spec_l2Without ((p4, (p5, (p6, (p7, ())))), (nth T_A3 ([(nth T_A3 p7 0)] : List D_A3) 0), ())) fun r4 =>
        l_spec_l2Parts_6 m0 N p0 p1 p2 p3 r4.1.1 r4.1.2.1 r4.1.2.2.1 r4.1.2.2.2.1 r1.1.1 r1.1.2.1 r1.1.2.2.1 r1.1.2.2.2.1 p8 ([(nth T_A3 p7 0)] : List D_A3) 0
      else none
    else none
  else
    some (p8, ()) := by
  rewrite [h_spec_l2Parts_2, h_spec_l2Parts_6]
  kernel_rfl
theorem q_spec_l2Parts_6 (m0 m1 : Nat) (p0 : Int) (p1 : Int) (p2 : Int) (p3 : List D_A3) (p4 : Int) (p5 : Int) (p6 : Int) (p7 : List D_A3) (p8 : Int) (p9 : Int) (p10 : Int) (p11 : List D_A3) (p12 : List (List D_A3)) (p13 : List D_A3) (p14 : Int) : l_spec_l2Parts_6 m0 (m1 + 1) p0 p1 p2 p3 p4 p5 p6 p7 p8 p9 p10 p11 p12 p13 p14 = 
  bif decide (p14 < (List.length p13 : Int)) then
    bif inB p14 (List.length p13) then
      Option.bind (P_spec_l2With ((p8, (p9, (p10, (p11, ())))), (nth T_A3 p13 p14), ())) fun r2 =>
      bif inB p14 (List.length p13) then
        Option.bind (P_spec_l2Near ((p4, (p5, (p6, (p7, ())))), (nth T_A3 p13 p14), ())) fun r4 =>
        l_spec_l2Parts_11 m0 m1 N p0 p1 p2 p3 p4 p5 p6 p7 r2.1.1 r2.1.2.1 r2.1.2.2.1 r2.1.2.2.2.1 p12 p13 p14 r4.1 0
      else none
    else none
  else
    bif (decide (((List.length p12) + (List.length ([p11] : List (List D_A3)))) * 24 ≤ 140737488355328) && decide (((List.length p12) + (List.length ([p11] : List (List D_A3)))) ≤ 140737488355328)) then
      l_spec_l2Parts_2 m0 p0 p1 p2 p3 p4 p5 p6 p7 (p12 ++ ([p11] : List (List D_A3)))
    else none := by
  rewrite [h_spec_l2Parts_2, h_spec_l2Parts_6, h_spec_l2Parts_11]
  kernel_rfl
theorem q_spec_l2Parts_11 (m0 m1 m2 : Nat) (p0 : Int) (p1 : Int) (p2 : Int) (p3 : List D_A3) (p4 : Int) (p5 : Int) (p6 : Int) (p7 : List D_A3) (p8 : Int) (p9 : Int) (p10 : Int) (p11 : List D_A3) (p12 : List (List D_A3)) (p13 : List D_A3) (p14 : Int) (p15 : List D_A3) (p16 : Int) : l_spec_l2Parts_11 m0 m1 (m2 + 1) p0 p1 p2 p3 p4 p5 p6 p7 p8 p9 p10 p11 p12 p13 p14 p15 p16 = 
  bif decide (p16 < (List.length p15 : Int)) then
    bif inB p16 (List.length p15) then
      bif (decide (((List.length p13) + (List.length ([(nth T_A3 p15 p16)] : List D_A3))) * 24 ≤ 140737488355328) && decide (((List.length p13) + (List.length ([(nth T_A3 p15 p16)] : List D_A3))) ≤ 140737488355328)) then
        bif inB p16 (List.length p15) then
          Option.bind (P_spec_l2Without ((p4, (p5, (p6, (p7, ())))), (nth T_A3 p15 p16), ())) fun r4 =>
          l_spec_l2Parts_11 m0 m1 m2 p0 p1 p2 p3 r4.1.1 r4.1.2.1 r4.1.2.2.1 r4.1.2.2.2.1 p8 p9 p10 p11 p12 (p13 ++ ([(nth T_A3 p15 p16)] : List D_A3)) p14 p15 (IntKind.wrap .i64 (p16 + 1))
        else none
      else none
    else none
  else
    l_spec_l2Parts_6 m0 m1 p0 p1 p2 p3 p4 p5 p6 p7 p8 p9 p10 p11 p12 p13 (IntKind.wrap .i64 (p14 + 1)) := by
  rewrite [h_spec_l2Parts_6, h_spec_l2Parts_11]
  kernel_rfl

/- 18: loop.example/g01166/spec.PartsOf -/
abbrev As_spec_PartsOf : List ATy := [.data true T_Heap]
abbrev R_spec_PartsOf : List (Bool × Ty) := [(false, (.sl (.sl T_A3))), (false, .bool)]
abbrev M_spec_PartsOf : List RMode := [.own 24]
abbrev Ft_spec_PartsOf : Type := D_Heap × Unit → Option ((List (List D_A3)) × Bool × Unit)
noncomputable def X_spec_PartsOf (n : Nat) (F_spec_l2Heap : Ft_spec_l2Heap) (F_spec_l2Parts : Ft_spec_l2Parts) : Ctx := { types := TT, globals := [], con := [(49, ⟨As_spec_l2Heap, R_spec_l2Heap, M_spec_l2Heap, F_spec_l2Heap⟩), (50, ⟨As_spec_l2Parts, R_spec_l2Parts, M_spec_l2Parts, F_spec_l2Parts⟩)], keep := [], results := [.tmp 2, .tmp 3], ntmps := 10, n := n }
noncomputable def B_spec_PartsOf : Code := (Tryz.f18.body).getD .skip
noncomputable def P_spec_PartsOf : Ft_spec_PartsOf := hid (runF (X_spec_PartsOf N P_spec_l2Heap P_spec_l2Parts) B_spec_PartsOf As_spec_PartsOf R_spec_PartsOf M_spec_PartsOf)
theorem h_spec_PartsOf : P_spec_PartsOf = runF (X_spec_PartsOf N P_spec_l2Heap P_spec_l2Parts) B_spec_PartsOf As_spec_PartsOf R_spec_PartsOf M_spec_PartsOf := hid_eq _
noncomputable def C_spec_PartsOf : Contract := ⟨As_spec_PartsOf, R_spec_PartsOf, M_spec_PartsOf, P_spec_PartsOf⟩
theorem s_spec_PartsOf : Sound Tryz.prog GG 18 C_spec_PartsOf := by
  unfold C_spec_PartsOf; rw [h_spec_PartsOf]
  exact sound_of_run (fn := Tryz.f18) hmix hstable (tyOK_of ttOK) (hglob (X_spec_PartsOf N P_spec_l2Heap P_spec_l2Parts)) (conOK_of (X := X_spec_PartsOf N P_spec_l2Heap P_spec_l2Parts) ⟨s_spec_l2Heap, s_spec_l2Parts, trivial⟩) (mconOK_of (X := X_spec_PartsOf N P_spec_l2Heap P_spec_l2Parts) trivial) (by kernel_rfl) (by kernel_rfl) (by kernel_rfl) (by kernel_rfl) (by kernel_rfl) (of_decide_eq_true (by kernel_rfl))
theorem p_spec_PartsOf (a0 : D_Heap) : P_spec_PartsOf (a0, ()) = 
  Option.bind (P_spec_l2Heap (a0, ())) fun r0 =>
  bif !r0.1 then
    some (([] : List (List D_A3)), false, ())
  else
    Option.bind (P_spec_l2Parts (a0, ())) fun r2 =>
    some (r2.1, true, ()) := by
  rewrite [h_spec_PartsOf]
  kernel_rfl

/- 20: loop.example/g01166/laws.rLists -/
abbrev As_laws_rLists : List ATy := [.data false (.sl (.sl T_A3)), .data false (.sl (.sl T_A3))]
abbrev R_laws_rLists : List (Bool × Ty) := [(false, .bool)]
abbrev M_laws_rLists : List RMode := []
abbrev Ft_laws_rLists : Type := (List (List D_A3)) × (List (List D_A3)) × Unit → Option (Bool × Unit)
noncomputable def X_laws_rLists (n : Nat) (F_laws_rCells : Ft_laws_rCells) : Ctx := { types := TT, globals := [], con := [(13, ⟨As_laws_rCells, R_laws_rCells, M_laws_rCells, F_laws_rCells⟩)], keep := [(4, ⟨[.tmp 0, .tmp 1, .tmp 5], []⟩)], results := [.tmp 4], ntmps := 27, n := n }
noncomputable def B_laws_rLists : Code := (Tryz.f20.body).getD .skip
noncomputable def L_laws_rLists_4 (n : Nat) (F_laws_rCells : Ft_laws_rCells) (m0 : Nat) (p0 : List (List D_A3)) (p1 : List (List D_A3)) (p2 : Int) : Option (denL R_laws_rLists) := loopF (X_laws_rLists n F_laws_rCells) B_laws_rLists R_laws_rLists M_laws_rLists 4 [m0] [(.ver, .num 1), (.tmp 0, .val false [.imm (.sl T_A3) p0 (some 0)]), (.tmp 1, .val false [.imm (.sl T_A3) p1 (some 1)]), (.tmp 5, .val false [.int .i64 p2])]
noncomputable def P_laws_rLists : Ft_laws_rLists := hid (runF (X_laws_rLists N P_laws_rCells) B_laws_rLists As_laws_rLists R_laws_rLists M_laws_rLists)
theorem h_laws_rLists : P_laws_rLists = runF (X_laws_rLists N P_laws_rCells) B_laws_rLists As_laws_rLists R_laws_rLists M_laws_rLists := hid_eq _
noncomputable def C_laws_rLists : Contract := ⟨As_laws_rLists, R_laws_rLists, M_laws_rLists, P_laws_rLists⟩
theorem s_laws_rLists : Sound Tryz.prog GG 20 C_laws_rLists := by
  unfold C_laws_rLists; rw [h_laws_rLists]
  exact sound_of_run (fn := Tryz.f20) hmix hstable (tyOK_of ttOK) (hglob (X_laws_rLists N P_laws_rCells)) (conOK_of (X := X_laws_rLists N P_laws_rCells) ⟨s_laws_rCells, trivial⟩) (mconOK_of (X := X_laws_rLists N P_laws_rCells) trivial) (by kernel_rfl) (by kernel_rfl) (by kernel_rfl) (by kernel_rfl) (by kernel_rfl) (of_decide_eq_true (by kernel_rfl))
noncomputable def l_laws_rLists_4 : Nat → (List (List D_A3)) → (List (List D_A3)) → Int → Option (denL R_laws_rLists) := hid (fun m0 p0 p1 p2 => L_laws_rLists_4 N P_laws_rCells m0 p0 p1 p2)
theorem h_laws_rLists_4 : l_laws_rLists_4 = fun m0 p0 p1 p2 => L_laws_rLists_4 N P_laws_rCells m0 p0 p1 p2 := hid_eq _
theorem p_laws_rLists (a0 : List (List D_A3)) (a1 : List (List D_A3)) : P_laws_rLists (a0, a1, ()) = 
  bif !decide ((List.length a0 : Int) = (List.length a1 : Int)) then
    some (false, ())
  else
    l_laws_rLists_4 N a0 a1 0 := by
  rewrite [h_laws_rLists, h_laws_rLists_4]
  kernel_rfl
theorem q_laws_rLists_4 (m0 : Nat) (p0 : List (List D_A3)) (p1 : List (List D_A3)) (p2 : Int) : l_laws_rLists_4 (m0 + 1) p0 p1 p2 = 
  bif decide (p2 < (List.length p0 : Int)) then
    bif inB p2 (List.length p0) then
      bif inB p2 (List.length p1) then
        Option.bind (P_laws_rCells ((nth ((.sl T_A3) : Ty) p0 p2), (nth ((.sl T_A3) : Ty) p1 p2), ())) fun r3 =>
        bif !r3.1 then
          some (false, ())
        else
          l_laws_rLists_4 m0 p0 p1 (IntKind.wrap .i64 (p2 + 1))
      else none
    else none
  else
    some (true, ()) := by
  rewrite [h_laws_rLists_4]
  kernel_rfl

/- 85: strconv.Itoa: GIVEN -/
abbrev As_strconv_Itoa : List ATy := [.data false (.int .i64)]
abbrev R_strconv_Itoa : List (Bool × Ty) := [(false, .str)]
abbrev M_strconv_Itoa : List RMode := []
abbrev Ft_strconv_Itoa : Type := Int × Unit → Option ((List UInt8) × Unit)
noncomputable def P_strconv_Itoa : Ft_strconv_Itoa := fun x => bif decide (0 ≤ x.1) && decide (x.1 < 100) then some (Lib.decDigits x.1.toNat, ()) else none
noncomputable def C_strconv_Itoa : Contract := ⟨As_strconv_Itoa, R_strconv_Itoa, M_strconv_Itoa, P_strconv_Itoa⟩
theorem s_strconv_Itoa : Sound Tryz.prog GG 85 C_strconv_Itoa := by
  refine sound_flat (fn := Tryz.f85) (c := (Tryz.f85.body).getD .skip) (by decide) (by decide) Tryz.func85 (by kernel_rfl) (by kernel_rfl) ?_
  rintro w ⟨n, ⟨⟩⟩ ⟨r, ⟨⟩⟩ hG hF
  have hF : (bif decide (0 ≤ n) && decide (n < 100) then some (Lib.decDigits n.toNat, ()) else none) = some (r, ()) := hF
  cases h : decide (0 ≤ n) && decide (n < 100) with
  | false => rw [h] at hF; cases hF
  | true =>
    rw [h] at hF
    simp only [Bool.and_eq_true, decide_eq_true_eq] at h
    have hr : Lib.decDigits n.toNat = r := by simpa using hF
    rw [← hr]
    have hb : ∀ m : Int, 0 ≤ m → m < 100 → (m.toNat : Int) = m ∧ m.toNat < 100 := fun m h0 h1 => by omega
    have hn : (n.toNat : Int) = n := (hb n h.1 h.2).1
    have hc := Tryz.strconv_Itoa_small n.toNat (hb n h.1 h.2).2 w
    rw [hn] at hc
    refine hc.mono ?_
    rintro e w' ⟨rfl, rfl⟩
    exact ⟨rfl, RowKit.Below.refl _ _⟩
/- 86: loop.example/g01166/impl.digits -/
abbrev As_impl_digits : List ATy := [.data true T_A3]
abbrev R_impl_digits : List (Bool × Ty) := [(false, .str)]
abbrev M_impl_digits : List RMode := []
abbrev Ft_impl_digits : Type := D_A3 × Unit → Option ((List UInt8) × Unit)
noncomputable def X_impl_digits (n : Nat) (F_strconv_Itoa : Ft_strconv_Itoa) : Ctx := { types := TT, globals := [], con := [(85, ⟨As_strconv_Itoa, R_strconv_Itoa, M_strconv_Itoa, F_strconv_Itoa⟩)], keep := [], results := [.tmp 2], ntmps := 14, n := n }
noncomputable def B_impl_digits : Code := (Tryz.f86.body).getD .skip
noncomputable def P_impl_digits : Ft_impl_digits := hid (runF (X_impl_digits N P_strconv_Itoa) B_impl_digits As_impl_digits R_impl_digits M_impl_digits)
theorem h_impl_digits : P_impl_digits = runF (X_impl_digits N P_strconv_Itoa) B_impl_digits As_impl_digits R_impl_digits M_impl_digits := hid_eq _
noncomputable def C_impl_digits : Contract := ⟨As_impl_digits, R_impl_digits, M_impl_digits, P_impl_digits⟩
theorem s_impl_digits : Sound Tryz.prog GG 86 C_impl_digits := by
  unfold C_impl_digits; rw [h_impl_digits]
  exact sound_of_run (fn := Tryz.f86) hmix hstable (tyOK_of ttOK) (hglob (X_impl_digits N P_strconv_Itoa)) (conOK_of (X := X_impl_digits N P_strconv_Itoa) ⟨s_strconv_Itoa, trivial⟩) (mconOK_of (X := X_impl_digits N P_strconv_Itoa) trivial) (by kernel_rfl) (by kernel_rfl) (by kernel_rfl) (by kernel_rfl) (by kernel_rfl) (of_decide_eq_true (by kernel_rfl))
theorem p_impl_digits (a0 : D_A3) : P_impl_digits (a0, ()) = 
  Option.bind (P_strconv_Itoa (a0.1, ())) fun r0 =>
  Option.bind (P_strconv_Itoa (a0.2.1, ())) fun r1 =>
  Option.bind (catS r0.1 r1.1) fun r2 =>
  Option.bind (P_strconv_Itoa (a0.2.2.1, ())) fun r3 =>
  Option.bind (catS r2 r3.1) fun r4 =>
  some (r4, ()) := by
  rewrite [h_impl_digits]
  kernel_rfl

/- 54: loop.example/g01166/impl.heapText -/
abbrev As_impl_heapText : List ATy := [.data true T_Heap]
abbrev R_impl_heapText : List (Bool × Ty) := [(false, .str)]
abbrev M_impl_heapText : List RMode := []
abbrev Ft_impl_heapText : Type := D_Heap × Unit → Option ((List UInt8) × Unit)
noncomputable def X_impl_heapText (n : Nat) (F_strconv_Itoa : Ft_strconv_Itoa) (F_impl_digits : Ft_impl_digits) : Ctx := { types := TT, globals := [], con := [(85, ⟨As_strconv_Itoa, R_strconv_Itoa, M_strconv_Itoa, F_strconv_Itoa⟩), (86, ⟨As_impl_digits, R_impl_digits, M_impl_digits, F_impl_digits⟩)], keep := [(3, ⟨[.tmp 3, .tmp 20, .tmp 21, .tmp 22], []⟩)], results := [.tmp 2], ntmps := 33, n := n }
noncomputable def B_impl_heapText : Code := (Tryz.f54.body).getD .skip
noncomputable def L_impl_heapText_3 (n : Nat) (F_strconv_Itoa : Ft_strconv_Itoa) (F_impl_digits : Ft_impl_digits) (m0 : Nat) (p0 : List UInt8) (p1 : List D_A3) (p2 : Int) (p3 : Int) : Option (denL R_impl_heapText) := loopF (X_impl_heapText n F_strconv_Itoa F_impl_digits) B_impl_heapText R_impl_heapText M_impl_heapText 3 [m0] [(.ver, .num 1), (.tmp 3, .val false [.str p0]), (.tmp 20, .val false [.imm T_A3 p1 (some 3)]), (.tmp 21, .val false [.int .i64 p2]), (.tmp 22, .val false [.int .i64 p3])]
noncomputable def P_impl_heapText : Ft_impl_heapText := hid (runF (X_impl_heapText N P_strconv_Itoa P_impl_digits) B_impl_heapText As_impl_heapText R_impl_heapText M_impl_heapText)
theorem h_impl_heapText : P_impl_heapText = runF (X_impl_heapText N P_strconv_Itoa P_impl_digits) B_impl_heapText As_impl_heapText R_impl_heapText M_impl_heapText := hid_eq _
noncomputable def C_impl_heapText : Contract := ⟨As_impl_heapText, R_impl_heapText, M_impl_heapText, P_impl_heapText⟩
theorem s_impl_heapText : Sound Tryz.prog GG 54 C_impl_heapText := by
  unfold C_impl_heapText; rw [h_impl_heapText]
  exact sound_of_run (fn := Tryz.f54) hmix hstable (tyOK_of ttOK) (hglob (X_impl_heapText N P_strconv_Itoa P_impl_digits)) (conOK_of (X := X_impl_heapText N P_strconv_Itoa P_impl_digits) ⟨s_strconv_Itoa, s_impl_digits, trivial⟩) (mconOK_of (X := X_impl_heapText N P_strconv_Itoa P_impl_digits) trivial) (by kernel_rfl) (by kernel_rfl) (by kernel_rfl) (by kernel_rfl) (by kernel_rfl) (of_decide_eq_true (by kernel_rfl))
noncomputable def l_impl_heapText_3 : Nat → (List UInt8) → (List D_A3) → Int → Int → Option (denL R_impl_heapText) := hid (fun m0 p0 p1 p2 p3 => L_impl_heapText_3 N P_strconv_Itoa P_impl_digits m0 p0 p1 p2 p3)
theorem h_impl_heapText_3 : l_impl_heapText_3 = fun m0 p0 p1 p2 p3 => L_impl_heapText_3 N P_strconv_Itoa P_impl_digits m0 p0 p1 p2 p3 := hid_eq _
theorem p_impl_heapText (a0 : D_Heap) : P_impl_heapText (a0, ()) = 
  Option.bind (P_strconv_Itoa (a0.1, ())) fun r0 =>
  Option.bind (catS r0.1 ([120] : List UInt8)) fun r1 =>
  Option.bind (P_strconv_Itoa (a0.2.1, ())) fun r2 =>
  Option.bind (catS r1 r2.1) fun r3 =>
  Option.bind (catS r3 ([120] : List UInt8)) fun r4 =>
  Option.bind (P_strconv_Itoa (a0.2.2.1, ())) fun r5 =>
  Option.bind (catS r4 r5.1) fun r6 =>
  l_impl_heapText_3 N r6 a0.2.2.2.1 (List.length a0.2.2.2.1 : Int) 0 := by
  rewrite [h_impl_heapText, h_impl_heapText_3]
  kernel_rfl
theorem q_impl_heapText_3 (m0 : Nat) (p0 : List UInt8) (p1 : List D_A3) (p2 : Int) (p3 : Int) : l_impl_heapText_3 (m0 + 1) p0 p1 p2 p3 = 
  bif decide (p3 < p2) then
    bif inB p3 (List.length p1) then
      Option.bind (P_impl_digits ((nth T_A3 p1 p3), ())) fun r2 =>
      Option.bind (catS ([32] : List UInt8) r2.1) fun r3 =>
      Option.bind (catS p0 r3) fun r4 =>
      l_impl_heapText_3 m0 r4 p1 p2 (IntKind.wrap .i64 (p3 + 1))
    else none
  else
    some (p0, ()) := by
  rewrite [h_impl_heapText_3]
  kernel_rfl

/- 21: loop.example/g01166/impl.HeapText -/
abbrev As_impl_HeapText : List ATy := [.data true T_Heap]
abbrev R_impl_HeapText : List (Bool × Ty) := [(false, .str), (false, .bool)]
abbrev M_impl_HeapText : List RMode := []
abbrev Ft_impl_HeapText : Type := D_Heap × Unit → Option ((List UInt8) × Bool × Unit)
noncomputable def X_impl_HeapText (n : Nat) (F_impl_IsHeap : Ft_impl_IsHeap) (F_impl_heapText : Ft_impl_heapText) : Ctx := { types := TT, globals := [], con := [(19, ⟨As_impl_IsHeap, R_impl_IsHeap, M_impl_IsHeap, F_impl_IsHeap⟩), (54, ⟨As_impl_heapText, R_impl_heapText, M_impl_heapText, F_impl_heapText⟩)], keep := [], results := [.tmp 2, .tmp 3], ntmps := 9, n := n }
noncomputable def B_impl_HeapText : Code := (Tryz.f21.body).getD .skip
noncomputable def P_impl_HeapText : Ft_impl_HeapText := hid (runF (X_impl_HeapText N P_impl_IsHeap P_impl_heapText) B_impl_HeapText As_impl_HeapText R_impl_HeapText M_impl_HeapText)
theorem h_impl_HeapText : P_impl_HeapText = runF (X_impl_HeapText N P_impl_IsHeap P_impl_heapText) B_impl_HeapText As_impl_HeapText R_impl_HeapText M_impl_HeapText := hid_eq _
noncomputable def C_impl_HeapText : Contract := ⟨As_impl_HeapText, R_impl_HeapText, M_impl_HeapText, P_impl_HeapText⟩
theorem s_impl_HeapText : Sound Tryz.prog GG 21 C_impl_HeapText := by
  unfold C_impl_HeapText; rw [h_impl_HeapText]
  exact sound_of_run (fn := Tryz.f21) hmix hstable (tyOK_of ttOK) (hglob (X_impl_HeapText N P_impl_IsHeap P_impl_heapText)) (conOK_of (X := X_impl_HeapText N P_impl_IsHeap P_impl_heapText) ⟨s_impl_IsHeap, s_impl_heapText, trivial⟩) (mconOK_of (X := X_impl_HeapText N P_impl_IsHeap P_impl_heapText) trivial) (by kernel_rfl) (by kernel_rfl) (by kernel_rfl) (by kernel_rfl) (by kernel_rfl) (of_decide_eq_true (by kernel_rfl))
theorem p_impl_HeapText (a0 : D_Heap) : P_impl_HeapText (a0, ()) = 
  Option.bind (P_impl_IsHeap (a0, ())) fun r0 =>
  bif !r0.1 then
    some (([] : List UInt8), false, ())
  else
    Option.bind (P_impl_heapText (a0, ())) fun r2 =>
    some (r2.1, true, ()) := by
  rewrite [h_impl_HeapText]
  kernel_rfl

/- 87: loop.example/g01166/spec.l1Num -/
abbrev As_spec_l1Num : List ATy := [.data false (.int .i64)]
abbrev R_spec_l1Num : List (Bool × Ty) := [(false, .str)]
abbrev M_spec_l1Num : List RMode := []
abbrev Ft_spec_l1Num : Type := Int × Unit → Option ((List UInt8) × Unit)
noncomputable def X_spec_l1Num (n : Nat) (F_spec_l1Num : Ft_spec_l1Num) : Ctx := { types := TT, globals := [], con := [(87, ⟨As_spec_l1Num, R_spec_l1Num, M_spec_l1Num, F_spec_l1Num⟩)], keep := [], results := [.tmp 2], ntmps := 25, n := n }
noncomputable def B_spec_l1Num : Code := (Tryz.f87.body).getD .skip
noncomputable def Pk_spec_l1Num : Nat → Ft_spec_l1Num
  | 0 => fun _ => none
  | k + 1 => runF (X_spec_l1Num N (Pk_spec_l1Num k)) B_spec_l1Num As_spec_l1Num R_spec_l1Num M_spec_l1Num
theorem sk_spec_l1Num : ∀ k, Sound Tryz.prog GG 87 ⟨As_spec_l1Num, R_spec_l1Num, M_spec_l1Num, Pk_spec_l1Num k⟩
  | 0 => sound_none
  | k + 1 => by
    have ih := sk_spec_l1Num k
    exact sound_of_run (fn := Tryz.f87) hmix hstable (tyOK_of ttOK) (hglob (X_spec_l1Num N (Pk_spec_l1Num k))) (conOK_of (X := X_spec_l1Num N (Pk_spec_l1Num k)) ⟨ih, trivial⟩) (mconOK_of (X := X_spec_l1Num N (Pk_spec_l1Num k)) trivial) (by kernel_rfl) (by kernel_rfl) (by kernel_rfl) (by kernel_rfl) (by kernel_rfl) (of_decide_eq_true (by kernel_rfl))
noncomputable def P_spec_l1Num : Ft_spec_l1Num := Pk_spec_l1Num N
noncomputable def C_spec_l1Num : Contract := ⟨As_spec_l1Num, R_spec_l1Num, M_spec_l1Num, P_spec_l1Num⟩
theorem s_spec_l1Num : Sound Tryz.prog GG 87 C_spec_l1Num := sk_spec_l1Num N
theorem p_spec_l1Num (k : Nat) (a0 : Int) : Pk_spec_l1Num (k + 1) (a0, ()) = 
  bif decide (a0 < 0) then
    Option.bind (Pk_spec_l1Num k ((IntKind.wrap .i64 (0 - a0)), ())) fun r1 =>
    Option.bind (catS ([45] : List UInt8) r1.1) fun r2 =>
    some (r2, ())
  else
    bif decide (a0 < 10) then
      bif (decide ((0 : Int) ≤ a0) && decide (a0 ≤ (IntKind.wrap .i64 (a0 + 1))) && decide ((IntKind.wrap .i64 (a0 + 1)) ≤ 10)) then
        some ((cut ([48, 49, 50, 51, 52, 53, 54, 55, 56, 57] : List UInt8) a0 (IntKind.wrap .i64 (a0 + 1))), ())
      else none
    else
      Option.bind (Pk_spec_l1Num k ((IntKind.wrap .i64 (Int.tdiv a0 10)), ())) fun r2 =>
      bif (decide ((0 : Int) ≤ (Int.tmod a0 10)) && decide ((Int.tmod a0 10) ≤ (IntKind.wrap .i64 ((Int.tmod a0 10) + 1))) && decide ((IntKind.wrap .i64 ((Int.tmod a0 10) + 1)) ≤ 10)) then
        Option.bind (catS r2.1 (cut ([48, 49, 50, 51, 52, 53, 54, 55, 56, 57] : List UInt8) (Int.tmod a0 10) (IntKind.wrap .i64 ((Int.tmod a0 10) + 1)))) fun r4 =>
        some (r4, ())
      else none := by
  kernel_rfl

/- 55: loop.example/g01166/spec.l2Text -/
abbrev As_spec_l2Text : List ATy := [.data true T_Heap]
abbrev R_spec_l2Text : List (Bool × Ty) := [(false, .str)]
abbrev M_spec_l2Text : List RMode := []
abbrev Ft_spec_l2Text : Type := D_Heap × Unit → Option ((List UInt8) × Unit)
noncomputable def X_spec_l2Text (n : Nat) (F_spec_l1Num : Ft_spec_l1Num) : Ctx := { types := TT, globals := [], con := [(87, ⟨As_spec_l1Num, R_spec_l1Num, M_spec_l1Num, F_spec_l1Num⟩)], keep := [(3, ⟨[.box 1, .tmp 1, .tmp 3, .tmp 4], []⟩)], results := [.tmp 2], ntmps := 46, n := n }
noncomputable def B_spec_l2Text : Code := (Tryz.f55.body).getD .skip
noncomputable def L_spec_l2Text_3 (n : Nat) (F_spec_l1Num : Ft_spec_l1Num) (m0 : Nat) (p0 : Int) (p1 : Int) (p2 : Int) (p3 : List D_A3) (p4 : List UInt8) (p5 : Int) : Option (denL R_spec_l2Text) := loopF (X_spec_l2Text n F_spec_l1Num) B_spec_l2Text R_spec_l2Text M_spec_l2Text 3 [m0] [(.ver, .num 1), (.box 1, .box 0 false [.int .i64 p0, .int .i64 p1, .int .i64 p2, .imm T_A3 p3 (some 3)]), (.tmp 1, .val false [.addr 1 0 0]), (.tmp 3, .val false [.str p4]), (.tmp 4, .val false [.int .i64 p5])]
noncomputable def P_spec_l2Text : Ft_spec_l2Text := hid (runF (X_spec_l2Text N P_spec_l1Num) B_spec_l2Text As_spec_l2Text R_spec_l2Text M_spec_l2Text)
theorem h_spec_l2Text : P_spec_l2Text = runF (X_spec_l2Text N P_spec_l1Num) B_spec_l2Text As_spec_l2Text R_spec_l2Text M_spec_l2Text := hid_eq _
noncomputable def C_spec_l2Text : Contract := ⟨As_spec_l2Text, R_spec_l2Text, M_spec_l2Text, P_spec_l2Text⟩
theorem s_spec_l2Text : Sound Tryz.prog GG 55 C_spec_l2Text := by
  unfold C_spec_l2Text; rw [h_spec_l2Text]
  exact sound_of_run (fn := Tryz.f55) hmix hstable (tyOK_of ttOK) (hglob (X_spec_l2Text N P_spec_l1Num)) (conOK_of (X := X_spec_l2Text N P_spec_l1Num) ⟨s_spec_l1Num, trivial⟩) (mconOK_of (X := X_spec_l2Text N P_spec_l1Num) trivial) (by kernel_rfl) (by kernel_rfl) (by kernel_rfl) (by kernel_rfl) (by kernel_rfl) (of_decide_eq_true (by kernel_rfl))
noncomputable def l_spec_l2Text_3 : Nat → Int → Int → Int → (List D_A3) → (List UInt8) → Int → Option (denL R_spec_l2Text) := hid (fun m0 p0 p1 p2 p3 p4 p5 => L_spec_l2Text_3 N P_spec_l1Num m0 p0 p1 p2 p3 p4 p5)
theorem h_spec_l2Text_3 : l_spec_l2Text_3 = fun m0 p0 p1 p2 p3 p4 p5 => L_spec_l2Text_3 N P_spec_l1Num m0 p0 p1 p2 p3 p4 p5 := hid_eq _
theorem p_spec_l2Text (a0 : D_Heap) : P_spec_l2Text (a0, ()) = 
  Option.bind (P_spec_l1Num (a0.1, ())) fun r0 =>
  Option.bind (catS r0.1 ([120] : List UInt8)) fun r1 =>
  Option.bind (P_spec_l1Num (a0.2.1, ())) fun r2 =>
  Option.bind (catS r1 r2.1) fun r3 =>
  Option.bind (catS r3 ([120] : List UInt8)) fun r4 =>
  Option.bind (P_spec_l1Num (a0.2.2.1, ())) fun r5 =>
  Option.bind (catS r4 r5.1) fun r6 =>
  l_spec_l2Text_3 N a0.1 a0.2.1 a0.2.2.1 a0.2.2.2.1 r6 0 := by
  rewrite [h_spec_l2Text, h_spec_l2Text_3]
  kernel_rfl
theorem q_spec_l2Text_3 (m0 : Nat) (p0 : Int) (p1 : Int) (p2 : Int) (p3 : List D_A3) (p4 : List UInt8) (p5 : Int) : l_spec_l2Text_3 (m0 + 1) p0 p1 p2 p3 p4 p5 = 
  bif decide (p5 < (List.length p3 : Int)) then
    bif inB p5 (List.length p3) then
      Option.bind (catS p4 ([32] : List UInt8)) fun r2 =>
      Option.bind (P_spec_l1Num (((nth T_A3 p3 p5)).1, ())) fun r3 =>
      Option.bind (catS r2 r3.1) fun r4 =>
      Option.bind (P_spec_l1Num ((((nth T_A3 p3 p5)).2).1, ())) fun r5 =>
      Option.bind (catS r4 r5.1) fun r6 =>
      Option.bind (P_spec_l1Num (((((nth T_A3 p3 p5)).2).2).1, ())) fun r7 =>
      Option.bind (catS r6 r7.1) fun r8 =>
      l_spec_l2Text_3 m0 p0 p1 p2 p3 r8 (IntKind.wrap .i64 (p5 + 1))
    else none
  else
    some (p4, ()) := by
  rewrite [h_spec_l2Text_3]
  kernel_rfl

/- 22: loop.example/g01166/spec.HeapText -/
abbrev As_spec_HeapText : List ATy := [.data true T_Heap]
abbrev R_spec_HeapText : List (Bool × Ty) := [(false, .str), (false, .bool)]
abbrev M_spec_HeapText : List RMode := []
abbrev Ft_spec_HeapText : Type := D_Heap × Unit → Option ((List UInt8) × Bool × Unit)
noncomputable def X_spec_HeapText (n : Nat) (F_spec_l2Heap : Ft_spec_l2Heap) (F_spec_l2Text : Ft_spec_l2Text) : Ctx := { types := TT, globals := [], con := [(49, ⟨As_spec_l2Heap, R_spec_l2Heap, M_spec_l2Heap, F_spec_l2Heap⟩), (55, ⟨As_spec_l2Text, R_spec_l2Text, M_spec_l2Text, F_spec_l2Text⟩)], keep := [], results := [.tmp 2, .tmp 3], ntmps := 9, n := n }
noncomputable def B_spec_HeapText : Code := (Tryz.f22.body).getD .skip
noncomputable def P_spec_HeapText : Ft_spec_HeapText := hid (runF (X_spec_HeapText N P_spec_l2Heap P_spec_l2Text) B_spec_HeapText As_spec_HeapText R_spec_HeapText M_spec_HeapText)
theorem h_spec_HeapText : P_spec_HeapText = runF (X_spec_HeapText N P_spec_l2Heap P_spec_l2Text) B_spec_HeapText As_spec_HeapText R_spec_HeapText M_spec_HeapText := hid_eq _
noncomputable def C_spec_HeapText : Contract := ⟨As_spec_HeapText, R_spec_HeapText, M_spec_HeapText, P_spec_HeapText⟩
theorem s_spec_HeapText : Sound Tryz.prog GG 22 C_spec_HeapText := by
  unfold C_spec_HeapText; rw [h_spec_HeapText]
  exact sound_of_run (fn := Tryz.f22) hmix hstable (tyOK_of ttOK) (hglob (X_spec_HeapText N P_spec_l2Heap P_spec_l2Text)) (conOK_of (X := X_spec_HeapText N P_spec_l2Heap P_spec_l2Text) ⟨s_spec_l2Heap, s_spec_l2Text, trivial⟩) (mconOK_of (X := X_spec_HeapText N P_spec_l2Heap P_spec_l2Text) trivial) (by kernel_rfl) (by kernel_rfl) (by kernel_rfl) (by kernel_rfl) (by kernel_rfl) (of_decide_eq_true (by kernel_rfl))
theorem p_spec_HeapText (a0 : D_Heap) : P_spec_HeapText (a0, ()) = 
  Option.bind (P_spec_l2Heap (a0, ())) fun r0 =>
  bif !r0.1 then
    some (([] : List UInt8), false, ())
  else
    Option.bind (P_spec_l2Text (a0, ())) fun r2 =>
    some (r2.1, true, ()) := by
  rewrite [h_spec_HeapText]
  kernel_rfl

/- 57: (*loop.example/g01166/spec.l1Cur).spoilt -/
abbrev As_l1Cur_spoilt : List ATy := [.lptr T_l1Cur, .data false .str, .data false .str]
abbrev R_l1Cur_spoilt : List (Bool × Ty) := [(false, .str)]
abbrev M_l1Cur_spoilt : List RMode := []
abbrev Ft_l1Cur_spoilt : Type := D_l1Cur × (List UInt8) × (List UInt8) × Unit → Option (((List UInt8) × Unit) × (D_l1Cur × Unit))
noncomputable def X_l1Cur_spoilt (n : Nat) (F_l1Cur_pick : Ft_l1Cur_pick) : Ctx := { types := TT, globals := [], con := [], mcon := [(69, ⟨As_l1Cur_pick, R_l1Cur_pick, M_l1Cur_pick, F_l1Cur_pick⟩)], keep := [], results := [.tmp 6], ntmps := 57, n := n }
noncomputable def B_l1Cur_spoilt : Code := (Tryz.f57.body).getD .skip
noncomputable def P_l1Cur_spoilt : Ft_l1Cur_spoilt := hid (runFM (X_l1Cur_spoilt N P_l1Cur_pick) B_l1Cur_spoilt As_l1Cur_spoilt R_l1Cur_spoilt M_l1Cur_spoilt)
theorem h_l1Cur_spoilt : P_l1Cur_spoilt = runFM (X_l1Cur_spoilt N P_l1Cur_pick) B_l1Cur_spoilt As_l1Cur_spoilt R_l1Cur_spoilt M_l1Cur_spoilt := hid_eq _
noncomputable def C_l1Cur_spoilt : MContract := ⟨As_l1Cur_spoilt, R_l1Cur_spoilt, M_l1Cur_spoilt, P_l1Cur_spoilt⟩
theorem s_l1Cur_spoilt : SoundM Tryz.prog n0 GG 57 C_l1Cur_spoilt := by
  unfold C_l1Cur_spoilt; rw [h_l1Cur_spoilt]
  exact sound_of_runM (fn := Tryz.f57) hmix hstable (tyOK_of ttOK) (hglob (X_l1Cur_spoilt N P_l1Cur_pick)) (conOK_of (X := X_l1Cur_spoilt N P_l1Cur_pick) trivial) (mconOK_of (X := X_l1Cur_spoilt N P_l1Cur_pick) ⟨s_l1Cur_pick, trivial⟩) (by kernel_rfl) (by kernel_rfl) (by kernel_rfl) (by kernel_rfl) (by kernel_rfl) (of_decide_eq_true (by kernel_rfl)) (by kernel_rfl) (by rfl)
theorem p_l1Cur_spoilt (a0 : D_l1Cur) (a1 : List UInt8) (a2 : List UInt8) : P_l1Cur_spoilt (a0, a1, a2, ()) = 
  bif a1 == ([] : List UInt8) then
    bif (decide ((0 : Int) ≤ 0) && decide ((0 : Int) ≤ 1) && decide ((1 : Int) ≤ (List.length a2 : Int))) then
      some (((cut a2 0 1), ()), (a0, ()))
    else none
  else
    Option.bind (P_l1Cur_pick (a0, (List.length a1 : Int), ())) fun r1 =>
    Option.bind (P_l1Cur_pick ((a0.1, r1.2.1.2), (List.length a2 : Int), ())) fun r2 =>
    bif (decide ((0 : Int) ≤ r2.1.1) && decide (r2.1.1 ≤ (List.length a2 : Int)) && decide ((List.length a2 : Int) ≤ (List.length a2 : Int))) then
      bif (decide ((0 : Int) ≤ 0) && decide ((0 : Int) ≤ 1) && decide ((1 : Int) ≤ (List.length (cut a2 r2.1.1 (List.length a2 : Int)) : Int))) then
        Option.bind (P_l1Cur_pick ((a0.1, r2.2.1.2), 3, ())) fun r5 =>
        bif decide (r5.1.1 = 0) then
          bif (decide ((0 : Int) ≤ 0) && decide ((0 : Int) ≤ r1.1.1) && decide (r1.1.1 ≤ (List.length a1 : Int))) then
            Option.bind (catS (cut a1 0 r1.1.1) (cut (cut a2 r2.1.1 (List.length a2 : Int)) 0 1)) fun r8 =>
            bif (decide ((0 : Int) ≤ r1.1.1) && decide (r1.1.1 ≤ (List.length a1 : Int)) && decide ((List.length a1 : Int) ≤ (List.length a1 : Int))) then
              Option.bind (catS r8 (cut a1 r1.1.1 (List.length a1 : Int))) fun r10 =>
              some ((r10, ()), ((a0.1, r5.2.1.2), ()))
            else none
          else none
        else
          bif decide (r5.1.1 = 1) then
            bif (decide ((0 : Int) ≤ 0) && decide ((0 : Int) ≤ r1.1.1) && decide (r1.1.1 ≤ (List.length a1 : Int))) then
              Option.bind (catS (cut a1 0 r1.1.1) (cut (cut a2 r2.1.1 (List.length a2 : Int)) 0 1)) fun r9 =>
              bif (decide ((0 : Int) ≤ (IntKind.wrap .i64 (r1.1.1 + 1))) && decide ((IntKind.wrap .i64 (r1.1.1 + 1)) ≤ (List.length a1 : Int)) && decide ((List.length a1 : Int) ≤ (List.length a1 : Int))) then
                Option.bind (catS r9 (cut a1 (IntKind.wrap .i64 (r1.1.1 + 1)) (List.length a1 : Int))) fun r11 =>
                some ((r11, ()), ((a0.1, r5.2.1.2), ()))
              else none
            else none
          else
            bif (decide ((0 : Int) ≤ 0) && decide ((0 : Int) ≤ r1.1.1) && decide (r1.1.1 ≤ (List.length a1 : Int))) then
              bif (decide ((0 : Int) ≤ (IntKind.wrap .i64 (r1.1.1 + 1))) && decide ((IntKind.wrap .i64 (r1.1.1 + 1)) ≤ (List.length a1 : Int)) && decide ((List.length a1 : Int) ≤ (List.length a1 : Int))) then
                Option.bind (catS (cut a1 0 r1.1.1) (cut a1 (IntKind.wrap .i64 (r1.1.1 + 1)) (List.length a1 : Int))) fun r10 =>
                some ((r10, ()), ((a0.1, r5.2.1.2), ()))
              else none
            else none
      else none
    else none := by
  rewrite [h_l1Cur_spoilt]
  kernel_rfl

/- 23: loop.example/g01166/spec.DrawParseHeap -/
abbrev As_spec_DrawParseHeap : List ATy := [.data false (.sl (.int .u8))]
abbrev R_spec_DrawParseHeap : List (Bool × Ty) := [(false, .str)]
abbrev M_spec_DrawParseHeap : List RMode := []
abbrev Ft_spec_DrawParseHeap : Type := (List Int) × Unit → Option ((List UInt8) × Unit)
noncomputable def X_spec_DrawParseHeap (n : Nat) (F_l1Cur_heap : Ft_l1Cur_heap) (F_spec_l2Heap : Ft_spec_l2Heap) (F_spec_l2Text : Ft_spec_l2Text) (F_l1Cur_one : Ft_l1Cur_one) (F_l1Cur_spoilt : Ft_l1Cur_spoilt) : Ctx := { types := TT, globals := [], con := [(49, ⟨As_spec_l2Heap, R_spec_l2Heap, M_spec_l2Heap, F_spec_l2Heap⟩), (55, ⟨As_spec_l2Text, R_spec_l2Text, M_spec_l2Text, F_spec_l2Text⟩)], mcon := [(32, ⟨As_l1Cur_heap, R_l1Cur_heap, M_l1Cur_heap, F_l1Cur_heap⟩), (56, ⟨As_l1Cur_one, R_l1Cur_one, M_l1Cur_one, F_l1Cur_one⟩), (57, ⟨As_l1Cur_spoilt, R_l1Cur_spoilt, M_l1Cur_spoilt, F_l1Cur_spoilt⟩)], keep := [], results := [.tmp 2], ntmps := 21, n := n }
noncomputable def B_spec_DrawParseHeap : Code := (Tryz.f23.body).getD .skip
noncomputable def P_spec_DrawParseHeap : Ft_spec_DrawParseHeap := hid (runF (X_spec_DrawParseHeap N P_l1Cur_heap P_spec_l2Heap P_spec_l2Text P_l1Cur_one P_l1Cur_spoilt) B_spec_DrawParseHeap As_spec_DrawParseHeap R_spec_DrawParseHeap M_spec_DrawParseHeap)
theorem h_spec_DrawParseHeap : P_spec_DrawParseHeap = runF (X_spec_DrawParseHeap N P_l1Cur_heap P_spec_l2Heap P_spec_l2Text P_l1Cur_one P_l1Cur_spoilt) B_spec_DrawParseHeap As_spec_DrawParseHeap R_spec_DrawParseHeap M_spec_DrawParseHeap := hid_eq _
noncomputable def C_spec_DrawParseHeap : Contract := ⟨As_spec_DrawParseHeap, R_spec_DrawParseHeap, M_spec_DrawParseHeap, P_spec_DrawParseHeap⟩
theorem s_spec_DrawParseHeap : Sound Tryz.prog GG 23 C_spec_DrawParseHeap := by
  unfold C_spec_DrawParseHeap; rw [h_spec_DrawParseHeap]
  exact sound_of_run (fn := Tryz.f23) hmix hstable (tyOK_of ttOK) (hglob (X_spec_DrawParseHeap N P_l1Cur_heap P_spec_l2Heap P_spec_l2Text P_l1Cur_one P_l1Cur_spoilt)) (conOK_of (X := X_spec_DrawParseHeap N P_l1Cur_heap P_spec_l2Heap P_spec_l2Text P_l1Cur_one P_l1Cur_spoilt) ⟨s_spec_l2Heap, s_spec_l2Text, trivial⟩) (mconOK_of (X := X_spec_DrawParseHeap N P_l1Cur_heap P_spec_l2Heap P_spec_l2Text P_l1Cur_one P_l1Cur_spoilt) ⟨s_l1Cur_heap, s_l1Cur_one, s_l1Cur_spoilt, trivial⟩) (by kernel_rfl) (by kernel_rfl) (by kernel_rfl) (by kernel_rfl) (by kernel_rfl) (of_decide_eq_true (by kernel_rfl))
theorem p_spec_DrawParseHeap (a0 : List Int) : P_spec_DrawParseHeap (a0, ()) = 
  Option.bind (P_l1Cur_heap ((a0, (0, (0, ()))), ())) fun r0 =>
  Option.bind (P_spec_l2Heap (r0.1.1, ())) fun r1 =>
  bif r1.1 then
    Option.bind (P_spec_l2Text (r0.1.1, ())) fun r3 =>
    Option.bind (P_l1Cur_one ((a0, r0.2.1.2), 3, ())) fun r4 =>
    bif r4.1.1 then
      Option.bind (P_l1Cur_spoilt ((a0, r4.2.1.2), r3.1, ([48, 49, 50, 51, 120, 32] : List UInt8), ())) fun r6 =>
      some (r6.1.1, ())
    else
      some (r3.1, ())
  else
    Option.bind (P_l1Cur_one ((a0, r0.2.1.2), 3, ())) fun r3 =>
    bif r3.1.1 then
      Option.bind (P_l1Cur_spoilt ((a0, r3.2.1.2), ([50, 120, 49, 120, 49, 32, 48, 48, 48] : List UInt8), ([48, 49, 50, 51, 120, 32] : List UInt8), ())) fun r5 =>
      some (r5.1.1, ())
    else
      some (([50, 120, 49, 120, 49, 32, 48, 48, 48] : List UInt8), ()) := by
  rewrite [h_spec_DrawParseHeap]
  kernel_rfl

/- 59: loop.example/g01166/impl.ParseHeap$1 -/
abbrev As_impl_ParseHeap_1 : List ATy := [.data false (.int .u8)]
abbrev R_impl_ParseHeap_1 : List (Bool × Ty) := [(false, (.int .i64))]
abbrev M_impl_ParseHeap_1 : List RMode := []
abbrev Ft_impl_ParseHeap_1 : Type := Int × Unit → Option (Int × Unit)
noncomputable def X_impl_ParseHeap_1 (n : Nat) : Ctx := { types := TT, globals := [], con := [], keep := [], results := [.tmp 2], ntmps := 6, n := n }
noncomputable def B_impl_ParseHeap_1 : Code := (Tryz.f59.body).getD .skip
noncomputable def P_impl_ParseHeap_1 : Ft_impl_ParseHeap_1 := hid (runF (X_impl_ParseHeap_1 N) B_impl_ParseHeap_1 As_impl_ParseHeap_1 R_impl_ParseHeap_1 M_impl_ParseHeap_1)
theorem h_impl_ParseHeap_1 : P_impl_ParseHeap_1 = runF (X_impl_ParseHeap_1 N) B_impl_ParseHeap_1 As_impl_ParseHeap_1 R_impl_ParseHeap_1 M_impl_ParseHeap_1 := hid_eq _
noncomputable def C_impl_ParseHeap_1 : Contract := ⟨As_impl_ParseHeap_1, R_impl_ParseHeap_1, M_impl_ParseHeap_1, P_impl_ParseHeap_1⟩
theorem s_impl_ParseHeap_1 : Sound Tryz.prog GG 59 C_impl_ParseHeap_1 := by
  unfold C_impl_ParseHeap_1; rw [h_impl_ParseHeap_1]
  exact sound_of_run (fn := Tryz.f59) hmix hstable (tyOK_of ttOK) (hglob (X_impl_ParseHeap_1 N)) (conOK_of (X := X_impl_ParseHeap_1 N) trivial) (mconOK_of (X := X_impl_ParseHeap_1 N) trivial) (by kernel_rfl) (by kernel_rfl) (by kernel_rfl) (by kernel_rfl) (by kernel_rfl) (of_decide_eq_true (by kernel_rfl))
theorem p_impl_ParseHeap_1 (a0 : Int) : P_impl_ParseHeap_1 (a0, ()) = 
  some ((IntKind.wrap .i64 ((IntKind.wrap .i64 a0) - 48)), ()) := by
  rewrite [h_impl_ParseHeap_1]
  kernel_rfl

/- 58: strings.Split: GIVEN -/
abbrev As_strings_Split : List ATy := [.data false .str, .data false .str]
abbrev R_strings_Split : List (Bool × Ty) := [(false, (.sl .str))]
abbrev M_strings_Split : List RMode := [.own 9]
abbrev Ft_strings_Split : Type := (List UInt8) × (List UInt8) × Unit → Option ((List (List UInt8)) × Unit)
noncomputable def P_strings_Split : Ft_strings_Split := fun x => bif decide (x.2.1.length = 1) && decide (x.1.length < 4294967281) then some (Lib.split x.1 x.2.1, ()) else none
noncomputable def C_strings_Split : Contract := ⟨As_strings_Split, R_strings_Split, M_strings_Split, P_strings_Split⟩
theorem le_maxLen {n : Nat} (h : n < 4294967281) : n + 1 ≤ maxLen := Nat.le_trans h (of_decide_eq_true (by kernel_rfl))
theorem s_strings_Split : Sound Tryz.prog GG 58 C_strings_Split := by
  refine sound_strs (fn := Tryz.f58) (c := (Tryz.f58.body).getD .skip) (by decide) Tryz.func58 (by kernel_rfl) (by kernel_rfl) ?_
  rintro w ⟨s, sep, ⟨⟩⟩ l hG hF
  have hF : (bif decide (sep.length = 1) && decide (s.length < 4294967281) then some (Lib.split s sep, ()) else none) = some (l, ()) := hF
  cases h : decide (sep.length = 1) && decide (s.length < 4294967281) with
  | false => rw [h] at hF; cases hF
  | true =>
    rw [h] at hF
    simp only [Bool.and_eq_true, decide_eq_true_eq] at h
    have hl : Lib.split s sep = l := congrArg Prod.fst (Option.some.inj hF)
    obtain ⟨m, hm⟩ := hG.2
    have z1 : (⟨s.toArray⟩ : ByteArray).size = s.length := rfl
    have z2 : (⟨sep.toArray⟩ : ByteArray).size = sep.length := rfl
    have hc := Tryz.strings_Split ⟨s.toArray⟩ ⟨sep.toArray⟩ m w (by rw [z1]; exact h.2) hm (by rw [z2, h.1]; exact Nat.le_refl _)
    have hlen : (Lib.splitB ⟨sep.toArray⟩ 0 (Lib.countB ⟨s.toArray⟩ ⟨sep.toArray⟩) ⟨s.toArray⟩).length = Lib.countB ⟨s.toArray⟩ ⟨sep.toArray⟩ + 1 := Lib.splitB_all _ (by rw [z2, h.1]; exact Nat.le_refl _) 0 _ _ rfl
    have h1 := Lib.countB_le ⟨sep.toArray⟩ (by rw [z2, h.1]; exact Nat.le_refl _) s.length ⟨s.toArray⟩ (by rw [z1]; exact Nat.le_refl _)
    rw [z1] at h1
    refine ⟨Lib.splitB ⟨sep.toArray⟩ 0 (Lib.countB ⟨s.toArray⟩ ⟨sep.toArray⟩) ⟨s.toArray⟩, ?_, ?_, ?_⟩
    · rw [← hl]
      exact Lib.splitB_data ⟨sep.toArray⟩ 0 _ ⟨s.toArray⟩
    · rw [hlen]; exact le_maxLen (Nat.lt_of_le_of_lt h1 h.2)
    · rw [hlen]; exact hc
/- 24: loop.example/g01166/impl.ParseHeap -/
abbrev As_impl_ParseHeap : List ATy := [.data false .str]
abbrev R_impl_ParseHeap : List (Bool × Ty) := [(true, T_Heap), (false, .bool)]
abbrev M_impl_ParseHeap : List RMode := [.own 27]
abbrev Ft_impl_ParseHeap : Type := (List UInt8) × Unit → Option (D_Heap × Bool × Unit)
noncomputable def X_impl_ParseHeap (n : Nat) (F_impl_IsHeap : Ft_impl_IsHeap) (F_impl_heapText : Ft_impl_heapText) (F_strings_Split : Ft_strings_Split) (F_impl_ParseHeap_1 : Ft_impl_ParseHeap_1) : Ctx := { types := TT, globals := [], con := [(19, ⟨As_impl_IsHeap, R_impl_IsHeap, M_impl_IsHeap, F_impl_IsHeap⟩), (54, ⟨As_impl_heapText, R_impl_heapText, M_impl_heapText, F_impl_heapText⟩), (58, ⟨As_strings_Split, R_strings_Split, M_strings_Split, F_strings_Split⟩), (59, ⟨As_impl_ParseHeap_1, R_impl_ParseHeap_1, M_impl_ParseHeap_1, F_impl_ParseHeap_1⟩)], keep := [(7, ⟨[.box 2, .box 6, .tmp 0, .tmp 2, .tmp 5, .tmp 6, .tmp 36, .tmp 37, .tmp 38], [.tmp 36]⟩)], results := [.cell 2 26, .tmp 3], ntmps := 76, n := n }
noncomputable def B_impl_ParseHeap : Code := (Tryz.f24.body).getD .skip
noncomputable def L_impl_ParseHeap_7 (n : Nat) (F_impl_IsHeap : Ft_impl_IsHeap) (F_impl_heapText : Ft_impl_heapText) (F_strings_Split : Ft_strings_Split) (F_impl_ParseHeap_1 : Ft_impl_ParseHeap_1) (m0 : Nat) (p0 : Int) (p1 : Int) (p2 : Int) (p3 : List D_A3) (p4 : Int) (p5 : Int) (p6 : Int) (p7 : List D_A3) (p8 : List UInt8) (p9 : List (List UInt8)) (p10 : Int) (p11 : Int) : Option (denL R_impl_ParseHeap) := loopF (X_impl_ParseHeap n F_impl_IsHeap F_impl_heapText F_strings_Split F_impl_ParseHeap_1) B_impl_ParseHeap R_impl_ParseHeap M_impl_ParseHeap 7 [m0] [(.ver, .num 1), (.box 2, .box 0 false [.int .i64 p0, .int .i64 p1, .int .i64 p2, .own 27 T_A3 0 p3]), (.box 6, .box 0 false [.int .i64 p4, .int .i64 p5, .int .i64 p6, .own 27 T_A3 0 p7]), (.tmp 0, .val false [.str p8]), (.tmp 2, .val false [.addr 2 0 0]), (.tmp 5, .val false [.func 59]), (.tmp 6, .val false [.addr 6 0 0]), (.tmp 36, .val false [.imm .str p9 none]), (.tmp 37, .val false [.int .i64 p10]), (.tmp 38, .val false [.int .i64 p11])]
noncomputable def P_impl_ParseHeap : Ft_impl_ParseHeap := hid (runF (X_impl_ParseHeap N P_impl_IsHeap P_impl_heapText P_strings_Split P_impl_ParseHeap_1) B_impl_ParseHeap As_impl_ParseHeap R_impl_ParseHeap M_impl_ParseHeap)
theorem h_impl_ParseHeap : P_impl_ParseHeap = runF (X_impl_ParseHeap N P_impl_IsHeap P_impl_heapText P_strings_Split P_impl_ParseHeap_1) B_impl_ParseHeap As_impl_ParseHeap R_impl_ParseHeap M_impl_ParseHeap := hid_eq _
noncomputable def C_impl_ParseHeap : Contract := ⟨As_impl_ParseHeap, R_impl_ParseHeap, M_impl_ParseHeap, P_impl_ParseHeap⟩
theorem s_impl_ParseHeap : Sound Tryz.prog GG 24 C_impl_ParseHeap := by
  unfold C_impl_ParseHeap; rw [h_impl_ParseHeap]
  exact sound_of_run (fn := Tryz.f24) hmix hstable (tyOK_of ttOK) (hglob (X_impl_ParseHeap N P_impl_IsHeap P_impl_heapText P_strings_Split P_impl_ParseHeap_1)) (conOK_of (X := X_impl_ParseHeap N P_impl_IsHeap P_impl_heapText P_strings_Split P_impl_ParseHeap_1) ⟨s_impl_IsHeap, s_impl_heapText, s_strings_Split, s_impl_ParseHeap_1, trivial⟩) (mconOK_of (X := X_impl_ParseHeap N P_impl_IsHeap P_impl_heapText P_strings_Split P_impl_ParseHeap_1) trivial) (by kernel_rfl) (by kernel_rfl) (by kernel_rfl) (by kernel_rfl) (by kernel_rfl) (of_decide_eq_true (by kernel_rfl))
noncomputable def l_impl_ParseHeap_7 : Nat → Int → Int → Int → (List D_A3) → Int → Int → Int → (List D_A3) → (List UInt8) → (List (List UInt8)) → Int → Int → Option (denL R_impl_ParseHeap) := hid (fun m0 p0 p1 p2 p3 p4 p5 p6 p7 p8 p9 p10 p11 => L_impl_ParseHeap_7 N P_impl_IsHeap P_impl_heapText P_strings_Split P_impl_ParseHeap_1 m0 p0 p1 p2 p3 p4 p5 p6 p7 p8 p9 p10 p11)
theorem h_impl_ParseHeap_7 : l_impl_ParseHeap_7 = fun m0 p0 p1 p2 p3 p4 p5 p6 p7 p8 p9 p10 p11 => L_impl_ParseHeap_7 N P_impl_IsHeap P_impl_heapText P_strings_Split P_impl_ParseHeap_1 m0 p0 p1 p2 p3 p4 p5 p6 p7 p8 p9 p10 p11 := hid_eq _
theorem p_impl_ParseHeap (a0 : List UInt8) : P_impl_ParseHeap (a0, ()) = 
  Option.bind (P_strings_Split (a0, ([32] : List UInt8), ())) fun r0 =>
  bif decide ((List.length a0 : Int) > 300) then
    some ((0, (0, (0, (([] : List D_A3), ())))), false, ())
  else
    bif inB 0 (List.length r0.1) then
      bif !decide ((List.length (nth (.str : Ty) r0.1 0) : Int) = 5) then
        some ((0, (0, (0, (([] : List D_A3), ())))), false, ())
      else
        bif inB 0 (List.length a0) then
          Option.bind (P_impl_ParseHeap_1 ((byteAt a0 0), ())) fun r5 =>
          bif inB 2 (List.length a0) then
            Option.bind (P_impl_ParseHeap_1 ((byteAt a0 2), ())) fun r7 =>
            bif inB 4 (List.length a0) then
              Option.bind (P_impl_ParseHeap_1 ((byteAt a0 4), ())) fun r9 =>
              bif (decide ((0 : Int) ≤ 1) && decide ((1 : Int) ≤ (List.length r0.1 : Int)) && decide ((List.length r0.1 : Int) ≤ (List.length r0.1 : Int))) then
                l_impl_ParseHeap_7 N 0 0 0 ([] : List D_A3) r5.1 r7.1 r9.1 ([] : List D_A3) a0 (cut r0.1 1 (List.length r0.1 : Int)) (List.length (cut r0.1 1 (List.length r0.1 : Int)) : Int) 0
              else none
            else none
          else none
        else none
    else none := by
  rewrite [h_impl_ParseHeap, h_impl_ParseHeap_7]
  kernel_rfl
theorem q_impl_ParseHeap_7 (m0 : Nat) (p0 : Int) (p1 : Int) (p2 : Int) (p3 : List D_A3) (p4 : Int) (p5 : Int) (p6 : Int) (p7 : List D_A3) (p8 : List UInt8) (p9 : List (List UInt8)) (p10 : Int) (p11 : Int) : l_impl_ParseHeap_7 (m0 + 1) p0 p1 p2 p3 p4 p5 p6 p7 p8 p9 p10 p11 = 
  bif decide (p11 < p10) then
    bif inB p11 (List.length p9) then
      bif !decide ((List.length (nth (.str : Ty) p9 p11) : Int) = 3) then
        some ((0, (0, (0, (([] : List D_A3), ())))), false, ())
      else
        bif inB 0 (List.length (nth (.str : Ty) p9 p11)) then
          Option.bind (P_impl_ParseHeap_1 ((byteAt (nth (.str : Ty) p9 p11) 0), ())) fun r4 =>
          bif inB 1 (List.length (nth (.str : Ty) p9 p11)) then
            Option.bind (P_impl_ParseHeap_1 ((byteAt (nth (.str : Ty) p9 p11) 1), ())) fun r6 =>
            bif inB 2 (List.length (nth (.str : Ty) p9 p11)) then
              Option.bind (P_impl_ParseHeap_1 ((byteAt (nth (.str : Ty) p9 p11) 2), ())) fun r8 =>
              bif (decide (((List.length p7) + (List.length ([(r4.1, (r6.1, (r8.1, ())))] : List D_A3))) * 24 ≤ 140737488355328) && decide (((List.length p7) + (List.length ([(r4.1, (r6.1, (r8.1, ())))] : List D_A3))) ≤ 140737488355328)) then
                l_impl_ParseHeap_7 m0 p0 p1 p2 p3 p4 p5 p6 (p7 ++ ([(r4.1, (r6.1, (r8.1, ())))] : List D_A3)) p8 p9 p10 (IntKind.wrap .i64 (p11 + 1))
              else none
            else none
          else none
        else none
    else none
  else
    Option.bind (P_impl_IsHeap ((p4, (p5, (p6, (p7, ())))), ())) fun r1 =>
    bif !r1.1 then
      some ((0, (0, (0, (([] : List D_A3), ())))), false, ())
    else
      Option.bind (P_impl_heapText ((p4, (p5, (p6, (p7, ())))), ())) fun r3 =>
      bif !(r3.1 == p8) then
        some ((0, (0, (0, (([] : List D_A3), ())))), false, ())
      else
        some ((p4, (p5, (p6, (p7, ())))), true, ()) := by
  rewrite [h_impl_ParseHeap_7]
  kernel_rfl

/- 60: loop.example/g01166/spec.l1Split -/
abbrev As_spec_l1Split : List ATy := [.data false .str, .data false (.int .u8)]
abbrev R_spec_l1Split : List (Bool × Ty) := [(false, (.sl .str))]
abbrev M_spec_l1Split : List RMode := [.own 9]
abbrev Ft_spec_l1Split : Type := (List UInt8) × Int × Unit → Option ((List (List UInt8)) × Unit)
noncomputable def X_spec_l1Split (n : Nat) : Ctx := { types := TT, globals := [], con := [], keep := [(4, ⟨[.tmp 0, .tmp 1, .tmp 5, .tmp 6, .tmp 7], []⟩)], results := [.tmp 4], ntmps := 35, n := n }
noncomputable def B_spec_l1Split : Code := (Tryz.f60.body).getD .skip
noncomputable def L_spec_l1Split_4 (n : Nat) (m0 : Nat) (p0 : List UInt8) (p1 : Int) (p2 : List (List UInt8)) (p3 : Int) (p4 : Int) : Option (denL R_spec_l1Split) := loopF (X_spec_l1Split n) B_spec_l1Split R_spec_l1Split M_spec_l1Split 4 [m0] [(.ver, .num 1), (.tmp 0, .val false [.str p0]), (.tmp 1, .val false [.int .u8 p1]), (.tmp 5, .val false [.own 9 .str 0 p2]), (.tmp 6, .val false [.int .i64 p3]), (.tmp 7, .val false [.int .i64 p4])]
noncomputable def P_spec_l1Split : Ft_spec_l1Split := hid (runF (X_spec_l1Split N) B_spec_l1Split As_spec_l1Split R_spec_l1Split M_spec_l1Split)
theorem h_spec_l1Split : P_spec_l1Split = runF (X_spec_l1Split N) B_spec_l1Split As_spec_l1Split R_spec_l1Split M_spec_l1Split := hid_eq _
noncomputable def C_spec_l1Split : Contract := ⟨As_spec_l1Split, R_spec_l1Split, M_spec_l1Split, P_spec_l1Split⟩
theorem s_spec_l1Split : Sound Tryz.prog GG 60 C_spec_l1Split := by
  unfold C_spec_l1Split; rw [h_spec_l1Split]
  exact sound_of_run (fn := Tryz.f60) hmix hstable (tyOK_of ttOK) (hglob (X_spec_l1Split N)) (conOK_of (X := X_spec_l1Split N) trivial) (mconOK_of (X := X_spec_l1Split N) trivial) (by kernel_rfl) (by kernel_rfl) (by kernel_rfl) (by kernel_rfl) (by kernel_rfl) (of_decide_eq_true (by kernel_rfl))
noncomputable def l_spec_l1Split_4 : Nat → (List UInt8) → Int → (List (List UInt8)) → Int → Int → Option (denL R_spec_l1Split) := hid (fun m0 p0 p1 p2 p3 p4 => L_spec_l1Split_4 N m0 p0 p1 p2 p3 p4)
theorem h_spec_l1Split_4 : l_spec_l1Split_4 = fun m0 p0 p1 p2 p3 p4 => L_spec_l1Split_4 N m0 p0 p1 p2 p3 p4 := hid_eq _
theorem p_spec_l1Split (a0 : List UInt8) (a1 : Int) : P_spec_l1Split (a0, a1, ()) = 
  l_spec_l1Split_4 N a0 a1 ([] : List (List UInt8)) 0 0 := by
  rewrite [h_spec_l1Split, h_spec_l1Split_4]
  kernel_rfl
theorem q_spec_l1Split_4 (m0 : Nat) (p0 : List UInt8) (p1 : Int) (p2 : List (List UInt8)) (p3 : Int) (p4 : Int) : l_spec_l1Split_4 (m0 + 1) p0 p1 p2 p3 p4 = 
  bif decide (p4 < (List.length p0 : Int)) then
    bif inB p4 (List.length p0) then
      bif decide ((byteAt p0 p4) = p1) then
        bif (decide ((0 : Int) ≤ p3) && decide (p3 ≤ p4) && decide (p4 ≤ (List.length p0 : Int))) then
          bif (decide (((List.length p2) + (List.length ([(cut p0 p3 p4)] : List (List UInt8)))) * 16 ≤ 140737488355328) && decide (((List.length p2) + (List.length ([(cut p0 p3 p4)] : List (List UInt8)))) ≤ 140737488355328)) then
            l_spec_l1Split_4 m0 p0 p1 (p2 ++ ([(cut p0 p3 p4)] : List (List UInt8))) (IntKind.wrap .i64 (p4 + 1)) (IntKind.wrap .i64 (p4 + 1))
          else none
        else none
      else
        l_spec_l1Split_4 m0 p0 p1 p2 p3 (IntKind.wrap .i64 (p4 + 1))
    else none
  else
    bif (decide ((0 : Int) ≤ p3) && decide (p3 ≤ (List.length p0 : Int)) && decide ((List.length p0 : Int) ≤ (List.length p0 : Int))) then
      bif (decide (((List.length p2) + (List.length ([(cut p0 p3 (List.length p0 : Int))] : List (List UInt8)))) * 16 ≤ 140737488355328) && decide (((List.length p2) + (List.length ([(cut p0 p3 (List.length p0 : Int))] : List (List UInt8)))) ≤ 140737488355328)) then
        some ((p2 ++ ([(cut p0 p3 (List.length p0 : Int))] : List (List UInt8))), ())
      else none
    else none := by
  rewrite [h_spec_l1Split_4]
  kernel_rfl

/- 61: loop.example/g01166/spec.l1Read -/
abbrev As_spec_l1Read : List ATy := [.data false .str]
abbrev R_spec_l1Read : List (Bool × Ty) := [(false, (.int .i64)), (false, .bool)]
abbrev M_spec_l1Read : List RMode := []
abbrev Ft_spec_l1Read : Type := (List UInt8) × Unit → Option (Int × Bool × Unit)
noncomputable def X_spec_l1Read (n : Nat) (F_spec_l1Num : Ft_spec_l1Num) (F_spec_l1In : Ft_spec_l1In) : Ctx := { types := TT, globals := [], con := [(87, ⟨As_spec_l1Num, R_spec_l1Num, M_spec_l1Num, F_spec_l1Num⟩), (89, ⟨As_spec_l1In, R_spec_l1In, M_spec_l1In, F_spec_l1In⟩)], keep := [(8, ⟨[.tmp 0, .tmp 4, .tmp 5, .tmp 6], []⟩)], results := [.tmp 2, .tmp 3], ntmps := 58, n := n }
noncomputable def B_spec_l1Read : Code := (Tryz.f61.body).getD .skip
noncomputable def L_spec_l1Read_8 (n : Nat) (F_spec_l1Num : Ft_spec_l1Num) (F_spec_l1In : Ft_spec_l1In) (m0 : Nat) (p0 : List UInt8) (p1 : List UInt8) (p2 : Int) (p3 : Int) : Option (denL R_spec_l1Read) := loopF (X_spec_l1Read n F_spec_l1Num F_spec_l1In) B_spec_l1Read R_spec_l1Read M_spec_l1Read 8 [m0] [(.ver, .num 1), (.tmp 0, .val false [.str p0]), (.tmp 4, .val false [.str p1]), (.tmp 5, .val false [.int .i64 p2]), (.tmp 6, .val false [.int .i64 p3])]
noncomputable def P_spec_l1Read : Ft_spec_l1Read := hid (runF (X_spec_l1Read N P_spec_l1Num P_spec_l1In) B_spec_l1Read As_spec_l1Read R_spec_l1Read M_spec_l1Read)
theorem h_spec_l1Read : P_spec_l1Read = runF (X_spec_l1Read N P_spec_l1Num P_spec_l1In) B_spec_l1Read As_spec_l1Read R_spec_l1Read M_spec_l1Read := hid_eq _
noncomputable def C_spec_l1Read : Contract := ⟨As_spec_l1Read, R_spec_l1Read, M_spec_l1Read, P_spec_l1Read⟩
theorem s_spec_l1Read : Sound Tryz.prog GG 61 C_spec_l1Read := by
  unfold C_spec_l1Read; rw [h_spec_l1Read]
  exact sound_of_run (fn := Tryz.f61) hmix hstable (tyOK_of ttOK) (hglob (X_spec_l1Read N P_spec_l1Num P_spec_l1In)) (conOK_of (X := X_spec_l1Read N P_spec_l1Num P_spec_l1In) ⟨s_spec_l1Num, s_spec_l1In, trivial⟩) (mconOK_of (X := X_spec_l1Read N P_spec_l1Num P_spec_l1In) trivial) (by kernel_rfl) (by kernel_rfl) (by kernel_rfl) (by kernel_rfl) (by kernel_rfl) (of_decide_eq_true (by kernel_rfl))
noncomputable def l_spec_l1Read_8 : Nat → (List UInt8) → (List UInt8) → Int → Int → Option (denL R_spec_l1Read) := hid (fun m0 p0 p1 p2 p3 => L_spec_l1Read_8 N P_spec_l1Num P_spec_l1In m0 p0 p1 p2 p3)
theorem h_spec_l1Read_8 : l_spec_l1Read_8 = fun m0 p0 p1 p2 p3 => L_spec_l1Read_8 N P_spec_l1Num P_spec_l1In m0 p0 p1 p2 p3 := hid_eq _
theorem p_spec_l1Read (a0 : List UInt8) : P_spec_l1Read (a0, ()) = 
  bif decide ((List.length a0 : Int) > 1) then
    bif inB 0 (List.length a0) then
      bif decide ((byteAt a0 0) = 45) then
        bif (decide ((0 : Int) ≤ 1) && decide ((1 : Int) ≤ (List.length a0 : Int)) && decide ((List.length a0 : Int) ≤ (List.length a0 : Int))) then
          Option.bind (P_spec_l1In ((List.length (cut a0 1 (List.length a0 : Int)) : Int), 1, 6, ())) fun r4 =>
          bif !r4.1 then
            some (0, false, ())
          else
            l_spec_l1Read_8 N a0 (cut a0 1 (List.length a0 : Int)) 0 0
        else none
      else
        Option.bind (P_spec_l1In ((List.length a0 : Int), 1, 6, ())) fun r3 =>
        bif !r3.1 then
          some (0, false, ())
        else
          l_spec_l1Read_8 N a0 a0 0 0
    else none
  else
    Option.bind (P_spec_l1In ((List.length a0 : Int), 1, 6, ())) fun r1 =>
    bif !r1.1 then
      some (0, false, ())
    else
      l_spec_l1Read_8 N a0 a0 0 0 := by
  rewrite [h_spec_l1Read, h_spec_l1Read_8]
  kernel_rfl
theorem q_spec_l1Read_8 (m0 : Nat) (p0 : List UInt8) (p1 : List UInt8) (p2 : Int) (p3 : Int) : l_spec_l1Read_8 (m0 + 1) p0 p1 p2 p3 = 
  bif decide (p3 < (List.length p1 : Int)) then
    bif inB p3 (List.length p1) then
      bif decide ((byteAt p1 p3) < 48) then
        some (0, false, ())
      else
        bif inB p3 (List.length p1) then
          bif decide ((byteAt p1 p3) > 57) then
            some (0, false, ())
          else
            bif inB p3 (List.length p1) then
              l_spec_l1Read_8 m0 p0 p1 (IntKind.wrap .i64 ((IntKind.wrap .i64 (10 * p2)) + (IntKind.wrap .i64 (IntKind.wrap .u8 ((byteAt p1 p3) - 48))))) (IntKind.wrap .i64 (p3 + 1))
            else none
        else none
    else none
  else
    bif decide ((List.length p1 : Int) < (List.length p0 : Int)) then
      Option.bind (P_spec_l1Num ((IntKind.wrap .i64 (0 - p2)), ())) fun r2 =>
      bif !(r2.1 == p0) then
        some (0, false, ())
      else
        some ((IntKind.wrap .i64 (0 - p2)), true, ())
    else
      Option.bind (P_spec_l1Num (p2, ())) fun r2 =>
      bif !(r2.1 == p0) then
        some (0, false, ())
      else
        some (p2, true, ()) := by
  rewrite [h_spec_l1Read_8]
  kernel_rfl
end Go.VI
